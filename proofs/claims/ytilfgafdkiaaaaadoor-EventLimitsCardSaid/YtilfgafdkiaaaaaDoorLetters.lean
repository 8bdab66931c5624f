/- penstockalike.Letters: what it answers. Condition: 0 <= n <= 2^20, k of small size. -/
import Derived.Test.YtilfgafdkiaaaaaDoorBytesAt
import Derived.Test.YtilfgafdkiaaaaaDoorRound
import Derived.Laws.MakeOwn
namespace Go.Proofs.YtilfgafdkiaaaaaDoor
open Go.RowKit

/-- The letter at a place. -/
def letter (k i : Nat) : UInt8 := UInt8.ofNat (97 + (i * i + k) % 26)
theorem letter_nat (k i : Nat) : (letter k i).toNat = 97 + (i * i + k) % 26 := by
  unfold letter
  rw [UInt8.toNat_ofNat']
  omega
/-- The bytes after i rounds. -/
def letP (n k i : Nat) : List UInt8 := (List.range n).map fun j => if j < i then letter k j else 0
def letL (n k : Nat) : List UInt8 := (List.range n).map fun j => letter k j
theorem letP_len (n k i : Nat) : (letP n k i).length = n := by simp [letP]
theorem letL_len (n k : Nat) : (letL n k).length = n := by simp [letL]
theorem letP_zero (n k : Nat) : letP n k 0 = List.replicate n 0 := by
  refine List.ext_getElem? fun j => ?_
  simp [letP, List.getElem?_replicate]
  split <;> simp [*]
theorem letP_all (n k : Nat) : letP n k n = letL n k := by
  unfold letP letL
  refine List.map_congr_left fun j hj => ?_
  rw [if_pos (List.mem_range.1 hj)]
theorem letP_set (n k i : Nat) (h : i < n) : (letP n k i).set i (letter k i) = letP n k (i + 1) := by
  refine List.ext_getElem? fun j => ?_
  rw [List.getElem?_set]
  by_cases hj : i = j
  · subst hj
    rw [if_pos rfl, if_pos (by rw [letP_len]; exact h)]
    simp [letP, h]
  · rw [if_neg hj]
    unfold letP
    rw [List.getElem?_map, List.getElem?_map]
    rcases hr : (List.range n)[j]? with _ | x
    · rfl
    · have hx : x = j := by
        rw [List.getElem?_range] at hr
        · cases hr; rfl
        · have := (List.getElem?_eq_some_iff.1 hr).1
          simpa using this
      subst hx
      simp only [Option.map_some]
      by_cases h1 : x < i
      · rw [if_pos h1, if_pos (by omega)]
      · rw [if_neg h1, if_neg (by omega)]
set_option maxRecDepth 100000 in
theorem make_bytes (w : World) (n : Nat) (hn : n ≤ 1048576) : ∃ w', (Instr.makeSlice 26 (.int .i64 n) (.int .i64 n)).run Tryd.prog w = .ok (.slice (some ⟨w.heap.size, 0, none⟩) n n) w' ∧ BytesAt w' w.heap.size (List.replicate n 0) ∧ G w w' := by
  obtain ⟨i, z, h1, h2, h3, h4, _⟩ := byte_elem.info
  have hr := run_make (P := Tryd.prog) w 26 5 i z byte_elem.under h1 h2 .i64 .i64 n n (by omega) (by omega) (by rw [h4]; omega) (by omega)
  simp only [Int.toNat_natCast, h3, Nat.mul_one] at hr
  refine ⟨_, hr, ?_, (G.refl w).alloc _⟩
  have hz : z.cells = #[.int .u8 0] := by
    have e := byte_elem.info
    have h5 : (Tryd.prog.info? 5).bind (·.zero) = some (.int .u8 0) := rfl
    rw [h1] at h5
    simp only [Option.bind_some, h2] at h5
    cases h5
    rfl
  refine ⟨_, _, heap_alloc_new w _, by simp [size_madeCells], fun j b hj => ?_, fun j hj => ?_⟩
  · rw [List.getElem?_replicate] at hj
    split at hj
    · rename_i hlt
      cases hj
      simp [madeCells, hz, hlt, Nat.mod_one]
    · cases hj
  · simp only [World.frozen?, heap_alloc_new]
    simp
set_option maxRecDepth 100000 in
set_option maxHeartbeats 1000000 in
theorem letters_any (n k : Nat) (w : World) (hn : n ≤ 1048576) (hk : k ≤ 1048576) :
    Calls Tryd.prog 10 #[.int .i64 n, .int .i64 k] w fun e w' => e = .returned (.string (strOf (letL n k))) ∧ G w w' := by
  obtain ⟨w1, hmk, hba, hg1⟩ := make_bytes w n hn
  have hmax : max (n : Int) 0 = n := by omega
  replace hba := Lib.hid hba
  have n0 : ¬ (n : Int) < 0 := by omega
  go_enter Tryd.func10, Tryd.ntmps10
  go_wp2_with fail
  go_loopw [6] (fun i wr => ∃ j : Nat, j ≤ n ∧ i = .int .i64 j ∧ Hid (BytesAt wr w.heap.size (letP n k j)) ∧ G w wr) (fun i _ => n - (intOf i).toNat)
  case atStart => exact ⟨0, Nat.zero_le _, rfl, by rw [← letP_zero n k] at hba; exact hba, hg1⟩
  case round =>
    obtain ⟨j, hj, rfl, hb, hg⟩ := hrel
    by_cases hlt : j < n
    · have hset := hb.out.set j (letter k j)
      rw [letP_set _ _ _ hlt, letter_nat] at hset
      have hfree := hb.out.free (i := j) (by rw [letP_len]; exact hlt)
      obtain ⟨x, hx⟩ : ∃ x, (letP n k j)[j]? = some x := ⟨_, List.getElem?_eq_getElem (by rw [letP_len]; exact hlt)⟩
      have hcell := hb.out.cell hx
      have hjj : j * j ≤ 1048576 * 1048576 := Nat.mul_le_mul (by omega) (by omega)
      have hg2 := hg.set (p := ⟨w.heap.size, j, none⟩) (Nat.le_refl _) (.int .u8 ((97 + (j * j + k) % 26 : Nat) : Int))
      have hw1 : IntKind.i64.wrap ((j : Int) * (j : Int)) = ((j * j : Nat) : Int) := by
        rw [IntWalk.i64_in _ (by rw [← Int.natCast_mul]; omega), Int.natCast_mul]
      have hr := fun w' => round_any (((j * j : Nat) : Int) + k) 26 w' (by omega) (by omega) (by omega) (by omega)
      rw [show (((j * j : Nat) : Int) + k) % 26 = (((j * j + k) % 26 : Nat) : Int) by omega] at hr
      clear hx hb
      generalize hq : j * j = q at *
      clear hq
      have hr3 : (q + k) % 26 < 26 := by omega
      rw [show (((97 + (q + k) % 26 : Nat)) : Int) = 97 + (((q + k) % 26 : Nat) : Int) by omega] at hset hg2
      generalize (q + k) % 26 = r at *
      replace hset := Lib.hid hset
      replace hr := Lib.hid hr
      go_wp2_with fail
      refine (hr.out _).mono ?_
      rintro e w2 ⟨rfl, rfl⟩
      go_wp2_with fail
      go_roundw
      case rel => exact ⟨j + 1, by omega, by go_num, hset, hg2⟩
      case measure => (simp [intOf] <;> omega)
    · have hfin := conv_back (c := n) hb.out.sl
      have hjn : j = n := by omega
      subst hjn
      rw [letP_len, letP_all] at hfin
      go_wp2_with fail
      go_ret
      exact ⟨rfl, hg⟩
end Go.Proofs.YtilfgafdkiaaaaaDoor

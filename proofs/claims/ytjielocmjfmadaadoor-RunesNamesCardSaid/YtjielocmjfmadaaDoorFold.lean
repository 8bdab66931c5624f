/- Bytes in a block; runes.Fold: what it answers. Condition: the length is at most 2^40. -/
import Derived.Test.YtjielocmjfmadaaDoorQuote
namespace Go.Proofs.YtjielocmjfmadaaDoor
open Go.RowKit

/-- Block g begins with these bytes; none of them is frozen. -/
def BytesAt (w : World) (g : Nat) (l : List UInt8) : Prop :=
  ∃ (cur : Array Value) (fz : Nat × Nat), w.heap[g]? = some (.cells cur 5 fz) ∧ l.length ≤ cur.size ∧ (∀ (i : Nat) (b : UInt8), l[i]? = some b → cur[i]? = some (.int .u8 b.toNat)) ∧ ∀ i, i < l.length → w.frozen? ⟨g, i, none⟩ = false
theorem BytesAt.lt {w : World} {g : Nat} {l : List UInt8} (h : BytesAt w g l) : g < w.heap.size := by obtain ⟨_, _, h, _⟩ := h; exact blk_lt h
theorem BytesAt.cell {w : World} {g : Nat} {l : List UInt8} {i : Nat} {b : UInt8} (h : BytesAt w g l) (hb : l[i]? = some b) : w.cell? ⟨g, i, none⟩ = some (.int .u8 b.toNat) := by
  obtain ⟨cur, fz, h1, _, h2, _⟩ := h
  rw [blk_cell h1]
  exact h2 i b hb
theorem BytesAt.free {w : World} {g : Nat} {l : List UInt8} {i : Nat} (h : BytesAt w g l) (hi : i < l.length) : w.frozen? ⟨g, i, none⟩ = false := by
  obtain ⟨_, _, _, _, _, h⟩ := h
  exact h i hi
theorem BytesAt.g {w w' : World} {g : Nat} {l : List UInt8} (h : BytesAt w g l) (hg : G w w') : BytesAt w' g l := by
  have hlt := h.lt
  obtain ⟨cur, fz, h1, h2, h3, h4⟩ := h
  exact ⟨cur, fz, hg.blk h1, h2, h3, fun i hi => (hg.frozen hlt).trans (h4 i hi)⟩
theorem BytesAt.set {w : World} {g : Nat} {l : List UInt8} (h : BytesAt w g l) (i : Nat) (b : UInt8) : BytesAt (w.setCell ⟨g, i, none⟩ (.int .u8 b.toNat)) g (l.set i b) := by
  obtain ⟨cur, fz, h1, h2, h3, h4⟩ := h
  have e : (w.setCell ⟨g, i, none⟩ (.int .u8 b.toNat)).heap[g]? = some (.cells (cur.setIfInBounds i (.int .u8 b.toNat)) 5 fz) := by
    rw [setCell_eq_setRow w g i cur 5 fz _ h1]
    exact setRow_heap w g cur _ 5 _ h1
  refine ⟨_, fz, e, by simpa using h2, fun j c hj => ?_, fun j hj => ?_⟩
  · rw [List.getElem?_set] at hj
    by_cases hij : i = j
    · subst hij
      rw [if_pos rfl] at hj
      split at hj
      · cases hj
        rw [Array.getElem?_setIfInBounds_self_of_lt (by omega)]
      · cases hj
    · rw [if_neg hij] at hj
      rw [Array.getElem?_setIfInBounds_ne hij]
      exact h3 j c hj
  · have h5 := h4 j (by simpa using hj)
    simp only [World.frozen?, h1] at h5
    simp only [World.frozen?, e]
    exact h5
theorem BytesAt.sl {w : World} {g : Nat} {l : List UInt8} (h : BytesAt w g l) : Sl byteC 1 w w.heap.size (some ⟨g, 0, none⟩) l := fun _ =>
  ⟨g, 0, rfl, h.lt, fun k x hx j u hu => by
    rcases j with _ | j
    · simp [byteC] at hu
      subst hu
      have := h.cell hx
      simpa using this
    · simp [byteC] at hu⟩
theorem bytes_of_string (w : World) (s : ByteArray) (hs : s.size ≤ 9223372036854775807) : ∃ c w', (convert 9 39 (.string s)).run Tryd.prog w = .ok (.slice (some ⟨w.heap.size, 0, none⟩) s.size c) w' ∧ s.size ≤ c ∧ c ≤ 9223372036854775807 ∧ BytesAt w' w.heap.size s.data.toList ∧ G w w' := by
  have hm : s.size ≤ maxLen := by simpa [maxLen] using hs
  have hcap := grownCap_ge w s.size 0 5
  have hcap2 := grownCap_le_maxLen w s.size 0 5 hm
  refine ⟨_, _, run_bytes_of_string w _ _ _ s Tryd.underlying9 Tryd.underlying39 Tryd.underlying5, hcap, by simpa [maxLen] using hcap2, ?_, (G.refl w).drew.alloc _⟩
  have hbl : ∀ (cs : Array Value) (fz : Nat × Nat), (w.drew.alloc (.cells cs 5 fz)).heap[w.heap.size]? = some (.cells cs 5 fz) := fun cs fz => heap_alloc_new w.drew _
  have hsz : (bytesRow s (grownCap w s.size 0 5)).size = grownCap w s.size 0 5 := by
    have : s.data.size = s.size := rfl
    simp [bytesRow]
    omega
  have hsl : s.data.toList.length = s.size := by simp
  refine ⟨_, _, hbl _ _, by rw [hsz, hsl]; exact hcap, fun i b hb => ?_, fun i hi => ?_⟩
  · obtain ⟨hi, rfl⟩ := List.getElem?_eq_some_iff.1 hb
    exact bytesRow_at s _ i (by simpa using hi)
  · simp only [World.frozen?, hbl, hsz]
    rw [hsl] at hi
    simp
    omega
/-- A small letter for a capital one. -/
def foldB (c : UInt8) : UInt8 := if 65 ≤ c.toNat ∧ c.toNat ≤ 90 then c + 32 else c
def foldL (l : List UInt8) : List UInt8 := l.map foldB
theorem fold_part (l : List UInt8) (k : Nat) (c : UInt8) (h : l[k]? = some c) : ((l.take k).map foldB ++ l.drop k).set k (foldB c) = (l.take (k + 1)).map foldB ++ l.drop (k + 1) := by
  obtain ⟨hk, rfl⟩ := List.getElem?_eq_some_iff.1 h
  have hl : ((l.take k).map foldB).length = k := by simp; omega
  rw [List.set_append_right _ _ (by omega), hl, Nat.sub_self, List.drop_eq_getElem_cons hk, List.set_cons_zero, List.take_succ_eq_append_getElem hk, List.map_append, List.append_assoc]
  rfl
theorem fold_same (l : List UInt8) (k : Nat) (c : UInt8) (h : l[k]? = some c) (hc : foldB c = c) : (l.take k).map foldB ++ l.drop k = (l.take (k + 1)).map foldB ++ l.drop (k + 1) := by
  rw [← fold_part l k c h, hc]
  obtain ⟨hk, rfl⟩ := List.getElem?_eq_some_iff.1 h
  have hl : ((l.take k).map foldB).length = k := by simp; omega
  rw [List.set_append_right _ _ (by omega), hl, Nat.sub_self, List.drop_eq_getElem_cons hk, List.set_cons_zero]
theorem fold_get (l : List UInt8) (k : Nat) : ((l.take k).map foldB ++ l.drop k)[k]? = l[k]? := by
  rcases Nat.lt_or_ge k l.length with h | h
  · have hl : ((l.take k).map foldB).length = k := by simp; omega
    rw [List.getElem?_append_right (by omega), hl, Nat.sub_self, List.getElem?_drop, Nat.add_zero]
  · rw [List.getElem?_eq_none (by simp; omega), List.getElem?_eq_none h]
theorem fold_len (l : List UInt8) (k : Nat) : ((l.take k).map foldB ++ l.drop k).length = l.length := by
  simp; omega

set_option maxHeartbeats 1000000 in
theorem fold_any (s : ByteArray) (w : World) (hs : s.size ≤ 1099511627776) :
    Calls Tryd.prog 25 #[.string s] w fun e w' => e = .returned (.string (strOf (foldL s.data.toList))) ∧ G w w' := by
  obtain ⟨c, w1, hcv, hc1, hc2, hba, hg1⟩ := bytes_of_string w s (by omega)
  have hsl : s.data.toList.length = s.size := by simp
  generalize hn : s.size = n at *
  replace hba := Lib.hid hba
  replace hsl := Lib.hid hsl
  replace hn := Lib.hid hn
  go_enter Tryd.func25, Tryd.ntmps25
  go_wp2_with fail
  clear hcv
  go_loopw [10] (fun i wr => ∃ k : Nat, k ≤ n ∧ i = .int .i64 k ∧ Hid (BytesAt wr w.heap.size ((s.data.toList.take k).map foldB ++ s.data.toList.drop k)) ∧ G w wr) (fun i _ => n - (intOf i).toNat)
  case atStart => exact ⟨0, Nat.zero_le _, rfl, by simpa using hba, hg1⟩
  case round =>
    obtain ⟨k, hk, rfl, hb, hg⟩ := hrel
    by_cases hlt : k < n
    · obtain ⟨x, hx⟩ : ∃ x, s.data.toList[k]? = some x := ⟨_, List.getElem?_eq_getElem (by rw [hsl.out]; exact hlt)⟩
      have hcell := hb.out.cell ((fold_get _ _).trans hx)
      have hfree := hb.out.free (i := k) (by rw [fold_len, hsl.out]; exact hlt)
      have hx1 : x.toNat < 256 := x.toNat_lt
      have n1 : (0 : Int) ≤ ↑k := by omega
      have n2 : (k : Int) < ↑n := by omega
      by_cases h65 : 65 ≤ x.toNat ∧ x.toNat ≤ 90
      · have hset := hb.out.set k (foldB x)
        rw [fold_part _ _ _ hx] at hset
        have hfx : (foldB x).toNat = x.toNat + 32 := by
          unfold foldB
          rw [if_pos h65, UInt8.toNat_add]
          simp
          omega
        rw [hfx] at hset
        have t1 : (65 : Int) ≤ ↑x.toNat := by omega
        have t2 : (x.toNat : Int) ≤ 90 := by omega
        replace hset := Lib.hid hset
        clear hb hx hfx h65
        generalize x.toNat = b at *
        have hg2 := hg.set (p := ⟨w.heap.size, k, none⟩) (Nat.le_refl _) (.int .u8 ((b + 32 : Nat) : Int))
        rw [show ((b + 32 : Nat) : Int) = (b : Int) + 97 - 65 by omega] at hset hg2
        go_wp2_with fail
        go_roundw
        case rel => exact ⟨k + 1, by omega, by go_num, hset, hg2⟩
        case measure => (simp [intOf] <;> omega)
      · have hfx : foldB x = x := by unfold foldB; rw [if_neg h65]
        have hsame := hb.out
        rw [fold_same _ _ _ hx hfx] at hsame
        replace hsame := Lib.hid hsame
        clear hb hx hfx
        generalize x.toNat = b at *
        by_cases t1 : (65 : Int) ≤ b
        · have t2 : ¬ (b : Int) ≤ 90 := by omega
          go_wp2_with fail
          go_roundw
          case rel => exact ⟨k + 1, by omega, by go_num, hsame, hg⟩
          case measure => (simp [intOf] <;> omega)
        · go_wp2_with fail
          go_roundw
          case rel => exact ⟨k + 1, by omega, by go_num, hsame, hg⟩
          case measure => (simp [intOf] <;> omega)
    · have hfin := conv_back (c := c) hb.out.sl
      rw [fold_len, hsl.out] at hfin
      rw [List.take_of_length_le (by rw [hsl.out]; omega), List.drop_of_length_le (by rw [hsl.out]; omega), List.append_nil] at hfin
      go_wp2_with fail
      go_ret
      exact ⟨rfl, hg⟩
end Go.Proofs.YtjielocmjfmadaaDoor

/- penstocklaw1.RunesLimits: the walk. Condition: utf8's two tables lie as the library lays them. -/
import Derived.Test.YtjielocmjfmadaaDoorLetters
import Derived.Test.YtjielocmjfmadaaDoorFoldLaw
import Derived.Test.YtjielocmjfmadaaDoorJoinLaw
import Derived.Test.YtjielocmjfmadaaDoorAwake1
import Derived.Laws.Concat
namespace Go.Proofs.YtjielocmjfmadaaDoor.runesLimits
open Go.RowKit

/-- Valid text of n runes, each of which may stand in a name and in a key. -/
def Nice (l : List UInt8) (n : Nat) : Prop := (cks l).length = n ∧ ∀ c ∈ cks l, c.bad = false ∧ namedB c.r = true ∧ showB c.r = true
theorem Nice.nil : Nice [] 0 := ⟨rfl, fun c h => by simp [cks_nil] at h⟩
theorem Nice.app {a b : List UInt8} {m n : Nat} (ha : Nice a m) (hb : Nice b n) : Nice (a ++ b) (m + n) := by
  have he := cks_app (a := a) (fun c h => (ha.2 c h).1) b
  refine ⟨by rw [he, List.length_append, ha.1, hb.1], fun c h => ?_⟩
  rw [he] at h
  rcases List.mem_append.1 h with h | h
  · exact ha.2 c h
  · exact hb.2 c h
theorem cks_letter : ∀ r : Fin 26, cks [UInt8.ofNat (97 + r.1)] = [⟨[UInt8.ofNat (97 + r.1)], 97 + r.1⟩] := by decide +kernel
theorem cks_wide : cks [195, 169] = [⟨[195, 169], 233⟩] := by decide +kernel
theorem nice_let (r : Nat) (hr : r < 26) : Nice [UInt8.ofNat (97 + r)] 1 := by
  have h := cks_letter ⟨r, hr⟩
  dsimp only at h
  refine ⟨by rw [h]; rfl, fun c hc => ?_⟩
  rw [h, List.mem_singleton] at hc
  subst hc
  refine ⟨?_, ?_, ?_⟩
  · simp [Ck.bad]; omega
  · simp only [namedB, decide_eq_true_eq]; omega
  · have hq : ctl ((97 + r : Nat) : Int) = false := by simp [ctl]; omega
    show (!ctl ((97 + r : Nat) : Int)) = true
    rw [hq]; rfl
theorem nice_letter (k i : Nat) : Nice [letter k i] 1 := nice_let _ (Nat.mod_lt _ (by omega))
theorem nice_wide1 : Nice [195, 169] 1 := by
  refine ⟨by rw [cks_wide]; rfl, fun c hc => ?_⟩
  rw [cks_wide, List.mem_singleton] at hc
  subst hc
  decide +kernel
theorem letL_succ (n k : Nat) : letL (n + 1) k = letL n k ++ [letter k n] := by
  unfold letL
  rw [List.range_succ, List.map_append]
  rfl
theorem nice_letters (k : Nat) : ∀ n, Nice (letL n k) n
  | 0 => Nice.nil
  | n + 1 => by rw [letL_succ]; exact (nice_letters k n).app (nice_letter k n)
def wideL (n : Nat) : List UInt8 := (List.replicate n [195, 169]).flatten
theorem wideL_succ (n : Nat) : wideL (n + 1) = wideL n ++ [195, 169] := by
  unfold wideL
  rw [List.replicate_succ', List.flatten_append]
  rfl
theorem wideL_len : ∀ n, (wideL n).length = 2 * n
  | 0 => rfl
  | n + 1 => by rw [wideL_succ, List.length_append, wideL_len n]; simp; omega
theorem nice_wide : ∀ n, Nice (wideL n) n
  | 0 => Nice.nil
  | n + 1 => by rw [wideL_succ]; exact (nice_wide n).app nice_wide1
theorem every_nice {l : List UInt8} {n : Nat} (h : Nice l n) (p : Int → Bool) (hp : ∀ c ∈ cks l, p c.r = true) : everyB 40 p (strOf l) = decide (n ≤ 40) := by
  unfold everyB validB
  rw [strOf_list, h.1, List.all_eq_true.2 hp, List.all_eq_true.2 (fun c hc => by rw [(h.2 c hc).1]; rfl)]
  rw [Bool.and_true, Bool.and_true]
  exact decide_eq_decide.2 (by omega)
theorem name_nice {l : List UInt8} {n : Nat} (h : Nice l n) : nameB (strOf l) = decide (1 ≤ n ∧ n ≤ 40) := by
  unfold nameB
  rw [every_nice h _ fun c hc => (h.2 c hc).2.1, ByteArray.toList_eq, strOf_list]
  rcases l with _ | ⟨b, l⟩
  · have h0 := h.1
    rw [cks_nil] at h0
    subst h0
    rfl
  · have h0 := h.1
    rw [cks_step (by simp), List.length_cons] at h0
    simp
    omega
theorem key_nice {l : List UInt8} {n : Nat} (h : Nice l n) : keyB (strOf l) = decide (n ≤ 40) := every_nice h _ fun c hc => (h.2 c hc).2.2
theorem ask {l : List UInt8} {n : Nat} (h : Nice l n) (hl : l.length ≤ 1000) (w : World) (hT : Tabs w) :
    Calls Tryd.prog 23 #[.string (strOf l)] w (fun e w' => e = .returned (.bool (decide (1 ≤ n ∧ n ≤ 40))) ∧ G w w') ∧
    Calls Tryd.prog 24 #[.string (strOf l)] w (fun e w' => e = .returned (.bool (decide (n ≤ 40))) ∧ G w w') ∧
    Calls Tryd.prog 12 #[.string (strOf l)] w (fun e w' => e = .returned (.int .i64 n) ∧ G w w') := by
  have hz : (strOf l).size ≤ 1000 := by rw [strOf_size]; exact hl
  have h1 := name_any (strOf l) w (by omega) hT
  have h2 := key_any (strOf l) w (by omega) hT
  have h3 := count_any (strOf l) w (by omega)
  rw [name_nice h] at h1
  rw [key_nice h] at h2
  rw [strOf_list, h.1] at h3
  exact ⟨h1, h2, h3⟩
set_option maxRecDepth 100000 in
set_option maxHeartbeats 1000000 in
theorem walk (z : Int) (b : Bool) (w : World) (hz : -9223372036854775808 ≤ z ∧ z ≤ 9223372036854775807) (hT : Tabs w) :
    Calls Tryd.prog 7 #[.int .i64 z, .bool b] w fun e w' => e = .returned (.bool true) ∧ G w w' := by
  replace hT := Lib.hid hT
  by_cases hin : ¬ (0 ≤ z ∧ z ≤ 60)
  · by_cases h1 : z < 0
    all_goals
      go_enter Tryd.func7, Tryd.ntmps7
      go_wp2_with fail
      refine (awake1_any _ hT.out).mono ?_
      rintro e w6 ⟨rfl, hg6⟩
      go_wp2_with fail
      go_ret
      exact ⟨rfl, hg6⟩
  rw [Classical.not_not] at hin
  obtain ⟨n, rfl⟩ := Int.eq_ofNat_of_zero_le hin.1
  have hn : n ≤ 60 := by omega
  clear hin hz
  have hle := letters_any n 1 w (by omega) (by omega)
  cases b with
  | false =>
    have ask : ∀ w', G w w' → _ := fun w' h => ask (nice_letters 1 n) (by rw [letL_len]; omega) w' (hT.out.g h)
    generalize strOf (letL n 1) = S at *
    replace ask := Lib.hid ask
    go_enter Tryd.func7, Tryd.ntmps7
    go_wp2_with fail
    refine hle.mono ?_
    rintro e w2 ⟨rfl, hg2⟩
    go_wp2_with fail
    refine (ask.out w2 hg2).1.mono ?_
    rintro e w3 ⟨rfl, hg3⟩
    replace hg3 := (hg2).trans hg3
    replace ask := Lib.hid ask.out
    rcases (show (¬ (1 : Int) ≤ n ∧ (n : Int) ≤ 40) ∨ ((1 : Int) ≤ n ∧ (n : Int) ≤ 40) ∨ ((1 : Int) ≤ n ∧ ¬ (n : Int) ≤ 40) by omega) with ⟨t1, t2⟩ | ⟨t1, t2⟩ | ⟨t1, t2⟩
    all_goals
      first
      | rw [show decide (1 ≤ n ∧ n ≤ 40) = true from decide_eq_true (by omega)]
      | rw [show decide (1 ≤ n ∧ n ≤ 40) = false from decide_eq_false (by omega)]
      go_wp2_with fail
      refine (ask.out w3 hg3).2.1.mono ?_
      rintro e w4 ⟨rfl, hg4⟩
      replace hg4 := hg3.trans hg4
      first
      | rw [show decide (n ≤ 40) = true from decide_eq_true (by omega)]
      | rw [show decide (n ≤ 40) = false from decide_eq_false (by omega)]
      go_wp2_with fail
      refine (ask.out w4 hg4).2.2.mono ?_
      rintro e w5 ⟨rfl, hg5⟩
      replace hg5 := hg4.trans hg5
      go_wp2_with fail
      refine (awake1_any _ (hT.out.g hg5)).mono ?_
      rintro e w6 ⟨rfl, hg6⟩
      replace hg6 := hg5.trans hg6
      go_wp2_with fail
      go_ret
      first
      | exact ⟨rfl, hg6⟩
      | exact ⟨ret_bool (by rw [decide_eq_false (by omega)]; rfl), hg6⟩
  | true =>
    have ask : ∀ w', G w w' → _ := fun w' h => ask (nice_wide n) (by rw [wideL_len]; omega) w' (hT.out.g h)
    have hadd : ∀ j, j < n → ∀ w, (Op.stringOp .add (strOf (wideL j)) { data := #[195, 169] }).run Tryd.prog w = .ok (.string (strOf (wideL (j + 1)))) w := fun j hj w => by
      have h := run_string_add_sum (P := Tryd.prog) w (strOf (wideL j)) (strOf [195, 169]) (by rw [strOf_size, strOf_size, wideL_len]; simp; omega)
      rw [show strOf (wideL j) ++ strOf [195, 169] = strOf (wideL (j + 1)) by rw [wideL_succ]; exact ByteArray.mk_append_mk _ _] at h
      exact h
    generalize strOf (letL n 1) = S at *
    replace ask := Lib.hid ask
    replace hadd := Lib.hid hadd
    have hw0 : (strOf (wideL 0)) = { data := #[] } := rfl
    replace hw0 := Lib.hid hw0
    go_enter Tryd.func7, Tryd.ntmps7
    go_wp2_with fail
    refine hle.mono ?_
    rintro e w2 ⟨rfl, hg2⟩
    go_wp2_with fail
    go_loopw [5, 6] (fun t i wr => ∃ j : Nat, j ≤ n ∧ i = .int .i64 j ∧ t = .string (strOf (wideL j)) ∧ G w wr) (fun _ i _ => n - (intOf i).toNat)
    case atStart => exact ⟨0, Nat.zero_le _, rfl, by rw [hw0.out], hg2⟩
    case round =>
      obtain ⟨j, hj, rfl, rfl, hg⟩ := hrel
      by_cases hlt : j < n
      · have ha := hadd.out j hlt
        generalize strOf (wideL j) = P1 at *
        generalize hP2 : strOf (wideL (j + 1)) = P2 at *
        replace hP2 := Lib.hid hP2.symm
        go_wp2_with fail
        go_roundw
        case rel => exact ⟨j + 1, by omega, by go_num, by rw [hP2.out], hg⟩
        case measure => (simp [intOf] <;> omega)
      · have hjn : n = j := by omega
        subst hjn
        generalize strOf (wideL n) = S2 at *
        go_wp2_with fail
        refine (ask.out _ hg).1.mono ?_
        rintro e w3 ⟨rfl, hg3⟩
        replace hg3 := (hg).trans hg3
        replace ask := Lib.hid ask.out
        rcases (show (¬ (1 : Int) ≤ n ∧ (n : Int) ≤ 40) ∨ ((1 : Int) ≤ n ∧ (n : Int) ≤ 40) ∨ ((1 : Int) ≤ n ∧ ¬ (n : Int) ≤ 40) by omega) with ⟨t1, t2⟩ | ⟨t1, t2⟩ | ⟨t1, t2⟩
        all_goals
          first
          | rw [show decide (1 ≤ n ∧ n ≤ 40) = true from decide_eq_true (by omega)]
          | rw [show decide (1 ≤ n ∧ n ≤ 40) = false from decide_eq_false (by omega)]
          go_wp2_with fail
          refine (ask.out w3 hg3).2.1.mono ?_
          rintro e w4 ⟨rfl, hg4⟩
          replace hg4 := hg3.trans hg4
          first
          | rw [show decide (n ≤ 40) = true from decide_eq_true (by omega)]
          | rw [show decide (n ≤ 40) = false from decide_eq_false (by omega)]
          go_wp2_with fail
          refine (ask.out w4 hg4).2.2.mono ?_
          rintro e w5 ⟨rfl, hg5⟩
          replace hg5 := hg4.trans hg5
          go_wp2_with fail
          refine (awake1_any _ (hT.out.g hg5)).mono ?_
          rintro e w6 ⟨rfl, hg6⟩
          replace hg6 := hg5.trans hg6
          go_wp2_with fail
          go_ret
          first
          | exact ⟨rfl, hg6⟩
          | exact ⟨ret_bool (by rw [decide_eq_false (by omega)]; rfl), hg6⟩
end Go.Proofs.YtjielocmjfmadaaDoor.runesLimits

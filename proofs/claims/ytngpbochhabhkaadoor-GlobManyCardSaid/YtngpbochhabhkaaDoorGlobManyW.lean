/- penstocklaw2.GlobMany: the walk. Condition: utf8's two tables lie as the library lays them. -/
import Derived.Test.YtngpbochhabhkaaDoorGlobTexts
import Derived.Test.YtngpbochhabhkaaDoorAscii
import Derived.Laws.Concat
namespace Go.Proofs.YtngpbochhabhkaaDoor.globMany
open Go.RowKit

/-- A text some times over. -/
def repL (x : List UInt8) (n : Nat) : List UInt8 := (List.replicate n x).flatten
theorem repL_succ (x : List UInt8) (n : Nat) : repL x (n + 1) = repL x n ++ x := by
  unfold repL
  rw [List.replicate_succ', List.flatten_append]
  simp
theorem repL_len (x : List UInt8) : ∀ n, (repL x n).length = n * x.length
  | 0 => by simp [repL]
  | n + 1 => by rw [repL_succ, List.length_append, repL_len x n, Nat.succ_mul]
theorem repL_mem {x : List UInt8} {n : Nat} {b : UInt8} (h : b ∈ repL x n) : b ∈ x := by
  unfold repL at h
  obtain ⟨l, hl, hb⟩ := List.mem_flatten.1 h
  rw [List.eq_of_mem_replicate hl] at hb
  exact hb
theorem runes_ascii {l : List UInt8} (h : ∀ b ∈ l, b.toNat < 128) : runesL (strOf l) = l.map UInt8.toNat ∧ validB (strOf l) = true ∧ (cks (strOf l).data.toList).length = l.length := by
  refine ⟨?_, ?_, ?_⟩
  · unfold runesL
    rw [strOf_list, cks_ascii l h, List.map_map]
    rfl
  · rw [goodL_iff, strOf_list]
    exact ascii_good h
  · rw [strOf_list, cks_ascii l h, List.length_map]
/-- The pieces of some stars, each ahead of an a. -/
def pcsA : Nat → List Pc
  | 0 => []
  | n + 1 => star :: lit 97 :: pcsA n
theorem map_rep2 : ∀ n, (repL [42, 97] n).map UInt8.toNat = (List.replicate n [42, 97]).flatten
  | 0 => rfl
  | n + 1 => by
    unfold repL
    rw [List.replicate_succ, List.flatten_cons, List.map_append, List.replicate_succ, List.flatten_cons]
    have := map_rep2 n
    unfold repL at this
    rw [this]
    rfl
theorem map_rep1 : ∀ n, (repL [97] n).map UInt8.toNat = List.replicate n 97
  | 0 => rfl
  | n + 1 => by
    unfold repL
    rw [List.replicate_succ, List.flatten_cons, List.map_append, List.replicate_succ]
    have := map_rep1 n
    unfold repL at this
    rw [this]
    rfl
theorem parse_many : ∀ (n : Nat) (l : List Nat) (P : List Pc) (b : Bool), parseL l = (P, b) → parseL ((List.replicate n [42, 97]).flatten ++ l) = (pcsA n ++ P, b)
  | 0, l, P, b, h => by simpa [pcsA] using h
  | n + 1, l, P, b, h => by
    have ih := parse_many n l P b h
    rw [List.replicate_succ, List.flatten_cons, List.append_assoc]
    show parseL (42 :: 97 :: ((List.replicate n [42, 97]).flatten ++ l)) = _
    rw [parseL_one (one_star _), parseL_one (one_lit _ (by omega)), ih]
    rfl
theorem mt_many : ∀ (n k : Nat), Mt (pcsA n) (List.replicate k 97) ↔ (n = 0 ∧ k = 0) ∨ (0 < n ∧ n ≤ k)
  | 0, k => by
    constructor
    · intro h
      have := h.inv_nil
      left
      exact ⟨rfl, by simpa using this⟩
    · rintro (⟨_, rfl⟩ | ⟨h, _⟩)
      · exact .nil
      · omega
  | n + 1, k => by
    constructor
    · intro h
      right
      obtain ⟨a, u, hu, h2⟩ := h.inv_any star_any
      obtain ⟨c, b, rfl, _, h3⟩ := h2.inv_one (lit_any 97)
      have hb : b = List.replicate b.length 97 := by
        refine List.eq_replicate_iff.2 ⟨rfl, fun x hx => ?_⟩
        have : x ∈ List.replicate k 97 := by rw [hu]; simp [hx]
        exact List.eq_of_mem_replicate this
      have hl := congrArg List.length hu
      rw [List.length_replicate, List.length_append, List.length_cons] at hl
      rw [hb] at h3
      rcases (mt_many n b.length).1 h3 with ⟨h4, h5⟩ | ⟨h4, h5⟩
      · omega
      · omega
    · intro h
      have hk : n + 1 ≤ k := by omega
      by_cases hn : n = 0
      · subst hn
        obtain ⟨j, rfl⟩ : ∃ j, k = j + 1 := ⟨k - 1, by omega⟩
        rw [List.replicate_succ']
        exact .any _ _ (List.replicate j 97) [97] rfl (.one _ _ _ _ rfl rfl .nil)
      · have h1 := (mt_many n n).2 (.inr ⟨by omega, Nat.le_refl _⟩)
        have e : List.replicate k 97 = List.replicate (k - (n + 1)) 97 ++ 97 :: List.replicate n 97 := by
          rw [← List.replicate_succ, List.replicate_append_replicate]
          congr 1
          omega
        rw [e]
        exact .any _ _ _ _ rfl (.one _ _ _ _ rfl rfl h1)
theorem mt_many_b (n k : Nat) : ¬ Mt (pcsA n ++ [star, lit 98]) (List.replicate k 97) := by
  intro h
  obtain ⟨a, b, hu, _, h2⟩ := h.split
  obtain ⟨x, y, rfl, h3⟩ := h2.inv_any star_any
  have h4 := (Mt.lits [98] y).1 h3
  have : (98 : Nat) ∈ List.replicate k 97 := by rw [hu, h4]; simp
  have := List.eq_of_mem_replicate this
  omega
def want (n k : Nat) : Bool := decide ((n = 0 ∧ k = 0) ∨ (0 < n ∧ n ≤ k))
theorem small2 {b : UInt8} {n : Nat} (h : b ∈ repL [42, 97] n) : b.toNat < 128 := by
  have := repL_mem h
  simp at this
  rcases this with rfl | rfl <;> decide
theorem small1 {b : UInt8} {n : Nat} (h : b ∈ repL [97] n) : b.toNat < 128 := by
  have := repL_mem h
  simp at this
  subst this
  decide
theorem ask1 (n k : Nat) (hn : n ≤ 19) : matchB (strOf (repL [42, 97] n)) (strOf (repL [97] k)) = want n k := by
  obtain ⟨p1, p2, p3⟩ := runes_ascii (l := repL [42, 97] n) (fun b h => small2 h)
  obtain ⟨s1, s2, _⟩ := runes_ascii (l := repL [97] k) (fun b h => small1 h)
  have hP := parse_many n [] [] false rfl
  rw [List.append_nil, List.append_nil, ← map_rep2, ← p1] at hP
  rw [matchB_of _ p2 (by rw [p3, repL_len]; simp; omega) hP, s2, s1, map_rep1, Bool.true_and]
  unfold want
  cases hm : matchL (pcsA n) (List.replicate k 97) with
  | true => exact (decide_eq_true ((mt_many n k).1 ((matchL_iff _ _).1 hm))).symm
  | false =>
    refine (decide_eq_false fun h => ?_).symm
    rw [(matchL_iff _ _).2 ((mt_many n k).2 h)] at hm
    cases hm
theorem ask2 (n k : Nat) (hn : n ≤ 19) : matchB (strOf (repL [42, 97] n ++ [42, 98])) (strOf (repL [97] k)) = false := by
  have hsm : ∀ b ∈ repL [42, 97] n ++ [42, 98], b.toNat < 128 := fun b h => by
    rcases List.mem_append.1 h with h | h
    · exact small2 h
    · simp at h
      rcases h with rfl | rfl <;> decide
  obtain ⟨p1, p2, p3⟩ := runes_ascii hsm
  obtain ⟨s1, s2, _⟩ := runes_ascii (l := repL [97] k) (fun b h => small1 h)
  have hP := parse_many n [42, 98] [star, lit 98] false (by kernel_rfl)
  rw [← map_rep2, show ([42, 98] : List Nat) = ([42, 98] : List UInt8).map UInt8.toNat from rfl, ← List.map_append, ← p1] at hP
  rw [matchB_of _ p2 (by rw [p3, List.length_append, repL_len]; simp; omega) hP, s2, s1, map_rep1, Bool.true_and]
  exact matchL_f (mt_many_b n k)
set_option maxRecDepth 100000 in
set_option maxHeartbeats 2000000 in
theorem walk (z y : Int) (w : World) (_hz : -9223372036854775808 ≤ z ∧ z ≤ 9223372036854775807) (_hy : -9223372036854775808 ≤ y ∧ y ≤ 9223372036854775807) (hT : Tabs w) :
    Calls Tryd.prog 7 #[.int .i64 z, .int .i64 y] w fun e w' => e = .returned (.bool true) ∧ G w w' := by
  replace hT := Lib.hid hT
  by_cases c1 : z < 0
  · go_enter Tryd.func7, Tryd.ntmps7
    go_wp2_with fail
    refine (awake2_any _ hT.out).mono ?_
    rintro e w6 ⟨rfl, hg6⟩
    go_wp2_with fail
    go_ret
    exact ⟨rfl, hg6⟩
  by_cases c2 : 19 < z
  · go_enter Tryd.func7, Tryd.ntmps7
    go_wp2_with fail
    refine (awake2_any _ hT.out).mono ?_
    rintro e w6 ⟨rfl, hg6⟩
    go_wp2_with fail
    go_ret
    exact ⟨rfl, hg6⟩
  by_cases c3 : y < 0
  · go_enter Tryd.func7, Tryd.ntmps7
    go_wp2_with fail
    refine (awake2_any _ hT.out).mono ?_
    rintro e w6 ⟨rfl, hg6⟩
    go_wp2_with fail
    go_ret
    exact ⟨rfl, hg6⟩
  by_cases c4 : 300 < y
  · go_enter Tryd.func7, Tryd.ntmps7
    go_wp2_with fail
    refine (awake2_any _ hT.out).mono ?_
    rintro e w6 ⟨rfl, hg6⟩
    go_wp2_with fail
    go_ret
    exact ⟨rfl, hg6⟩
  obtain ⟨n, rfl⟩ := Int.eq_ofNat_of_zero_le (show 0 ≤ z by omega)
  obtain ⟨k, rfl⟩ := Int.eq_ofNat_of_zero_le (show 0 ≤ y by omega)
  have hn : n ≤ 19 := by omega
  have hk : k ≤ 300 := by omega
  have hadd : ∀ j, j < n → ∀ w, (Op.stringOp .add (strOf (repL [42, 97] j)) { data := #[42, 97] }).run Tryd.prog w = .ok (.string (strOf (repL [42, 97] (j + 1)))) w := fun j hj w => by
    have h := run_string_add_sum (P := Tryd.prog) w (strOf (repL [42, 97] j)) (strOf [42, 97]) (by rw [strOf_size, strOf_size, repL_len]; simp; omega)
    rw [show strOf (repL [42, 97] j) ++ strOf [42, 97] = strOf (repL [42, 97] (j + 1)) by rw [repL_succ]; exact ByteArray.mk_append_mk _ _] at h
    exact h
  have hadd2 : ∀ j, j < k → ∀ w, (Op.stringOp .add (strOf (repL [97] j)) { data := #[97] }).run Tryd.prog w = .ok (.string (strOf (repL [97] (j + 1)))) w := fun j hj w => by
    have h := run_string_add_sum (P := Tryd.prog) w (strOf (repL [97] j)) (strOf [97]) (by rw [strOf_size, strOf_size, repL_len]; simp; omega)
    rw [show strOf (repL [97] j) ++ strOf [97] = strOf (repL [97] (j + 1)) by rw [repL_succ]; exact ByteArray.mk_append_mk _ _] at h
    exact h
  have hab : ∀ w, (Op.stringOp .add (strOf (repL [42, 97] n)) { data := #[42, 98] }).run Tryd.prog w = .ok (.string (strOf (repL [42, 97] n ++ [42, 98]))) w := fun w => by
    have h := run_string_add_sum (P := Tryd.prog) w (strOf (repL [42, 97] n)) (strOf [42, 98]) (by rw [strOf_size, strOf_size, repL_len]; simp; omega)
    rw [show strOf (repL [42, 97] n) ++ strOf [42, 98] = strOf (repL [42, 97] n ++ [42, 98]) from ByteArray.mk_append_mk _ _] at h
    exact h
  have hp0 : Hid ((strOf (repL [42, 97] 0)) = { data := #[] }) := rfl
  have hs0 : Hid ((strOf (repL [97] 0)) = { data := #[] }) := rfl
  have h1 : ∀ w', G w w' → _ := fun w' h => match_any (strOf (repL [42, 97] n)) (strOf (repL [97] k)) w' (by rw [strOf_size, repL_len]; simp; omega) (by rw [strOf_size, repL_len]; simp; omega) (hT.out.g h)
  rw [ask1 n k hn] at h1
  have h2 : ∀ w', G w w' → _ := fun w' h => match_any (strOf (repL [42, 97] n ++ [42, 98])) (strOf (repL [97] k)) w' (by rw [strOf_size, List.length_append, repL_len]; simp; omega) (by rw [strOf_size, repL_len]; simp; omega) (hT.out.g h)
  rw [ask2 n k hn] at h2
  have haw : ∀ w', G w w' → _ := fun w' h => awake2_any w' (hT.out.g h)
  replace hadd := Lib.hid hadd
  replace hadd2 := Lib.hid hadd2
  replace hab := Lib.hid hab
  replace h1 := Lib.hid h1
  replace h2 := Lib.hid h2
  replace haw := Lib.hid haw
  go_enter Tryd.func7, Tryd.ntmps7
  go_wp2_with fail
  go_loopw [5, 7] (fun t i wr => ∃ j : Nat, j ≤ n ∧ i = .int .i64 j ∧ t = .string (strOf (repL [42, 97] j)) ∧ G w wr) (fun _ i _ => n - (intOf i).toNat)
  case atStart => exact ⟨0, Nat.zero_le _, rfl, by rw [hp0.out], G.refl _⟩
  case round =>
    obtain ⟨j, hj, rfl, rfl, hg⟩ := hrel
    by_cases hlt : j < n
    · have ha := hadd.out j hlt
      generalize strOf (repL [42, 97] j) = P1 at *
      generalize hP2 : strOf (repL [42, 97] (j + 1)) = P2 at *
      replace hP2 := Lib.hid hP2.symm
      go_wp2_with fail
      go_roundw
      case rel => exact ⟨j + 1, by omega, by go_num, by rw [hP2.out], hg⟩
      case measure => (simp [intOf] <;> omega)
    · obtain rfl : j = n := by omega
      generalize strOf (repL [42, 97] j ++ [42, 98]) = P3 at *
      generalize strOf (repL [42, 97] j) = P at *
      go_wp2_with fail
      go_loopw [6, 8] (fun t i wr => ∃ q : Nat, q ≤ k ∧ i = .int .i64 q ∧ t = .string (strOf (repL [97] q)) ∧ G w wr) (fun _ i _ => k - (intOf i).toNat)
      case atStart => exact ⟨0, Nat.zero_le _, rfl, by rw [hs0.out], hg⟩
      case round =>
        obtain ⟨q, hq, rfl, rfl, hg⟩ := hrel
        by_cases hlt2 : q < k
        · have ha := hadd2.out q hlt2
          generalize strOf (repL [97] q) = P1 at *
          generalize hP2 : strOf (repL [97] (q + 1)) = P2 at *
          replace hP2 := Lib.hid hP2.symm
          go_wp2_with fail
          go_roundw
          case rel => exact ⟨q + 1, by omega, by go_num, by rw [hP2.out], hg⟩
          case measure => (simp [intOf] <;> omega)
        · obtain rfl : q = k := by omega
          generalize strOf (repL [97] q) = S at *
          have hw : Hid (want j q = decide ((j = 0 ∧ q = 0) ∨ (0 < j ∧ j ≤ q))) := rfl
          by_cases e1 : j = 0
          · subst e1
            by_cases e2 : q = 0
            · have b2 : ((q : Int) == 0) = true := by rw [beq_iff_eq]; omega
              have h1 := h1.out
              rw [hw.out, decide_eq_true (.inl ⟨rfl, e2⟩)] at h1
              replace h1 := Lib.hid h1
              replace e2 := Lib.hid e2
              go_wp2_with fail
              refine (h1.out wr hg).mono ?_
              rintro e w3 ⟨rfl, hg3⟩
              replace hg3 := hg.trans hg3
              have hab := hab.out
              go_wp2_with fail
              refine (h2.out w3 hg3).mono ?_
              rintro e w4 ⟨rfl, hg4⟩
              replace hg4 := hg3.trans hg4
              go_wp2_with fail
              refine (haw.out w4 hg4).mono ?_
              rintro e w5 ⟨rfl, hg5⟩
              go_wp2_with fail
              go_ret
              first
              | exact ⟨rfl, hg4.trans hg5⟩
              | (have e2 := e2.out; exact ⟨ret_bool (by simp; omega), hg4.trans hg5⟩)
            · have b2 : ((q : Int) == 0) = false := by rw [beq_eq_false_iff_ne]; omega
              have h1 := h1.out
              rw [hw.out, decide_eq_false (by omega)] at h1
              replace h1 := Lib.hid h1
              replace e2 := Lib.hid e2
              go_wp2_with fail
              refine (h1.out wr hg).mono ?_
              rintro e w3 ⟨rfl, hg3⟩
              replace hg3 := hg.trans hg3
              have hab := hab.out
              go_wp2_with fail
              refine (h2.out w3 hg3).mono ?_
              rintro e w4 ⟨rfl, hg4⟩
              replace hg4 := hg3.trans hg4
              go_wp2_with fail
              refine (haw.out w4 hg4).mono ?_
              rintro e w5 ⟨rfl, hg5⟩
              go_wp2_with fail
              go_ret
              first
              | exact ⟨rfl, hg4.trans hg5⟩
              | (have e2 := e2.out; exact ⟨ret_bool (by simp; omega), hg4.trans hg5⟩)
          · have b1 : ((j : Int) == 0) = false := by rw [beq_eq_false_iff_ne]; omega
            have b3 : (0 : Int) < (j : Int) := by omega
            by_cases e2 : j ≤ q
            · have b4 : (j : Int) ≤ (q : Int) := by omega
              have h1 := h1.out
              rw [hw.out, decide_eq_true (.inr ⟨by omega, e2⟩)] at h1
              replace h1 := Lib.hid h1
              replace e1 := Lib.hid e1
              go_wp2_with fail
              refine (h1.out wr hg).mono ?_
              rintro e w3 ⟨rfl, hg3⟩
              replace hg3 := hg.trans hg3
              have hab := hab.out
              go_wp2_with fail
              refine (h2.out w3 hg3).mono ?_
              rintro e w4 ⟨rfl, hg4⟩
              replace hg4 := hg3.trans hg4
              go_wp2_with fail
              refine (haw.out w4 hg4).mono ?_
              rintro e w5 ⟨rfl, hg5⟩
              go_wp2_with fail
              go_ret
              first
              | exact ⟨rfl, hg4.trans hg5⟩
              | (have e2 := e2.out; exact ⟨ret_bool (by simp; omega), hg4.trans hg5⟩)
            · have b4 : ¬ (j : Int) ≤ (q : Int) := by omega
              have h1 := h1.out
              rw [hw.out, decide_eq_false (by omega)] at h1
              replace h1 := Lib.hid h1
              replace e1 := Lib.hid e1
              replace e2 := Lib.hid e2
              go_wp2_with fail
              refine (h1.out wr hg).mono ?_
              rintro e w3 ⟨rfl, hg3⟩
              replace hg3 := hg.trans hg3
              have hab := hab.out
              go_wp2_with fail
              refine (h2.out w3 hg3).mono ?_
              rintro e w4 ⟨rfl, hg4⟩
              replace hg4 := hg3.trans hg4
              go_wp2_with fail
              refine (haw.out w4 hg4).mono ?_
              rintro e w5 ⟨rfl, hg5⟩
              go_wp2_with fail
              go_ret
              first
              | exact ⟨rfl, hg4.trans hg5⟩
              | (have e2 := e2.out; exact ⟨ret_bool (by simp; omega), hg4.trans hg5⟩)
end Go.Proofs.YtngpbochhabhkaaDoor.globMany

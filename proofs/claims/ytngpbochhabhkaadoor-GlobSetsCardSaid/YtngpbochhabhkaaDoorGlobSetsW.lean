/- penstocklaw2.GlobSets: the walk. Condition: utf8's two tables lie as the library lays them. -/
import Derived.Test.YtngpbochhabhkaaDoorGlobTexts
import Derived.Test.YtngpbochhabhkaaDoorRuneStr
import Derived.Laws.Concat
namespace Go.Proofs.YtngpbochhabhkaaDoor.globSets
open Go.RowKit

theorem encL_len (r : Nat) : (encL r).length ≤ 4 := by
  unfold encL
  repeat' split
  all_goals simp
theorem one_small : ∀ n : Fin 128, cks [UInt8.ofNat n.val] = [⟨[UInt8.ofNat n.val], n.val⟩] := by decide +kernel
theorem good_small (n : Fin 128) : goodL [UInt8.ofNat n.val] := fun c hc => by
  rw [one_small, List.mem_singleton] at hc
  subst hc
  unfold Ck.bad
  refine decide_eq_false fun h => ?_
  have h1 := h.1
  have := n.isLt
  dsimp only at h1
  omega
/-- a-b] -/
def spanL (a b : Nat) : List UInt8 := encL a ++ [45] ++ encL b ++ [93]
theorem spanL_len (a b : Nat) : (spanL a b).length ≤ 10 := by
  have h1 := encL_len a
  have h2 := encL_len b
  unfold spanL
  simp
  omega
theorem cks_span {a b : Nat} (ha : RuneN a) (hb : RuneN b) : goodL (spanL a b) ∧ (cks (spanL a b)).map Ck.r = [a, 45, b, 93] := by
  have g1 := good_enc ha
  have g2 := good_enc hb
  have g3 : goodL [45] := good_small 45
  have g4 : goodL [93] := good_small 93
  have e3 : cks [45] = [⟨[45], 45⟩] := one_small 45
  have e4 : cks [93] = [⟨[93], 93⟩] := one_small 93
  have h1 : spanL a b = encL a ++ ([45] ++ (encL b ++ [93])) := by simp [spanL]
  refine ⟨by rw [h1]; exact goodL_app g1 (goodL_app g3 (goodL_app g2 g4)), ?_⟩
  rw [h1, cks_app g1, cks_app g3, cks_app g2, cks_enc ha, cks_enc hb, e3, e4]
  rfl
theorem runes_pre {l : List UInt8} (x : List UInt8) {cs : List Ck} (hx : cks x = cs) (hg : goodL x) (h : goodL l) : runesL (strOf (x ++ l)) = cs.map Ck.r ++ (cks l).map Ck.r ∧ validB (strOf (x ++ l)) = true := by
  refine ⟨?_, by rw [goodL_iff, strOf_list]; exact goodL_app hg h⟩
  unfold runesL
  rw [strOf_list, cks_app hg, hx, List.map_append]
theorem inSet_one (a b c : Nat) : inSet [(a, b)] c = decide (a ≤ c ∧ c ≤ b) := by
  simp [inSet]
theorem mt_one (p : Pc) (hp : p.any = false) (c : Nat) : matchL [p] [c] = p.fits c := by
  cases hf : p.fits c with
  | true => exact matchL_t (.one _ _ _ _ hp hf .nil)
  | false =>
    refine matchL_f fun h => ?_
    obtain ⟨d, u, he, h2, _⟩ := h.inv_one hp
    cases he
    rw [hf] at h2
    cases h2
theorem mt_none (p : Pc) (hp : p.any = false) : matchL [p] [] = false := matchL_f fun h => by
  obtain ⟨d, u, he, _, _⟩ := h.inv_one hp
  cases he
theorem runes_one {c : Nat} (hc : RuneN c) : runesL (strOf (encL c)) = [c] ∧ validB (strOf (encL c)) = true := by
  refine ⟨?_, by rw [goodL_iff, strOf_list]; exact good_enc hc⟩
  unfold runesL
  rw [strOf_list, cks_enc hc]
  rfl
theorem ask {a b : Nat} (ha : RuneN a) (hb : RuneN b) (h256 : 256 ≤ a) (hab : a ≤ b) :
    (∀ c, RuneN c → matchB (strOf (91 :: spanL a b)) (strOf (encL c)) = decide (a ≤ c ∧ c ≤ b)) ∧ (∀ c, RuneN c → matchB (strOf (91 :: 94 :: spanL a b)) (strOf (encL c)) = !decide (a ≤ c ∧ c ≤ b)) ∧ matchB (strOf (91 :: spanL a b)) { data := #[] } = false := by
  obtain ⟨g, hr⟩ := cks_span ha hb
  have g1 : goodL [91] := good_small 91
  have e1 : cks [91] = [⟨[91], 91⟩] := one_small 91
  have g2 : goodL [91, 94] := goodL_app (a := [91]) g1 (good_small 94)
  have e2 : cks [91, 94] = [⟨[91], 91⟩, ⟨[94], 94⟩] := by decide +kernel
  obtain ⟨p1, p2⟩ := runes_pre [91] e1 g1 g
  obtain ⟨q1, q2⟩ := runes_pre [91, 94] e2 g2 g
  rw [hr] at p1 q1
  have p2' : validB (strOf (91 :: spanL a b)) = true := p2
  have q2' : validB (strOf (91 :: 94 :: spanL a b)) = true := q2
  have hP := parse_set a b hab (by omega) (by omega)
  have hQ := parse_set_no a b hab (by omega) (by omega)
  have hp3 : parseL (runesL (strOf (91 :: spanL a b))) = ([⟨3, 0, [(a, b)], false⟩], false) := by rw [show (91 :: spanL a b) = [91] ++ spanL a b from rfl, p1]; exact hP
  have hq3 : parseL (runesL (strOf (91 :: 94 :: spanL a b))) = ([⟨3, 0, [(a, b)], true⟩], false) := by rw [show (91 :: 94 :: spanL a b) = [91, 94] ++ spanL a b from rfl, q1]; exact hQ
  have c1 : (cks (strOf (91 :: spanL a b)).data.toList).length ≤ 40 := by
    have h1 := cks_length_le (91 :: spanL a b)
    have h2 := spanL_len a b
    rw [strOf_list]
    simp only [List.length_cons] at h1
    omega
  have c2 : (cks (strOf (91 :: 94 :: spanL a b)).data.toList).length ≤ 40 := by
    have h1 := cks_length_le (91 :: 94 :: spanL a b)
    have h2 := spanL_len a b
    rw [strOf_list]
    simp only [List.length_cons] at h1
    omega
  refine ⟨fun c hc => ?_, fun c hc => ?_, ?_⟩
  · obtain ⟨r1, r2⟩ := runes_one hc
    rw [matchB_of _ p2' c1 hp3, r1, r2, Bool.true_and, mt_one _ rfl]
    show (if inSet [(a, b)] c = true then true else false) = _
    rw [inSet_one]
    simp
  · obtain ⟨r1, r2⟩ := runes_one hc
    rw [matchB_of _ q2' c2 hq3, r1, r2, Bool.true_and, mt_one _ rfl]
    show (if inSet [(a, b)] c = true then false else true) = _
    rw [inSet_one]
    cases decide (a ≤ c ∧ c ≤ b) <;> rfl
  · rw [matchB_of _ p2' c1 hp3]
    rw [show runesL { data := #[] } = [] from rfl, mt_none _ rfl, Bool.and_false]
set_option maxRecDepth 100000 in
set_option maxHeartbeats 2000000 in
theorem walk (a b c : Int) (w : World) (hT : Tabs w) :
    Calls Tryd.prog 5 #[.int .i32 a, .int .i32 b, .int .i32 c] w fun e w' => e = .returned (.bool true) ∧ G w w' := by
  by_cases c1 : b < a
  · go_enter Tryd.func5, Tryd.ntmps5
    go_wp2_with fail
    refine (awake2_any w hT).mono ?_
    rintro e w6 ⟨rfl, hg6⟩
    go_wp2_with fail
    go_ret
    exact ⟨rfl, hg6⟩
  by_cases c2 : a < 256
  · go_enter Tryd.func5, Tryd.ntmps5
    go_wp2_with fail
    refine (awake2_any w hT).mono ?_
    rintro e w6 ⟨rfl, hg6⟩
    go_wp2_with fail
    go_ret
    exact ⟨rfl, hg6⟩
  by_cases c3 : 1114111 < b
  · go_enter Tryd.func5, Tryd.ntmps5
    go_wp2_with fail
    refine (awake2_any w hT).mono ?_
    rintro e w6 ⟨rfl, hg6⟩
    go_wp2_with fail
    go_ret
    exact ⟨rfl, hg6⟩
  by_cases c4 : c < 0
  · go_enter Tryd.func5, Tryd.ntmps5
    go_wp2_with fail
    refine (awake2_any w hT).mono ?_
    rintro e w6 ⟨rfl, hg6⟩
    go_wp2_with fail
    go_ret
    exact ⟨rfl, hg6⟩
  by_cases c5 : 1114111 < c
  · go_enter Tryd.func5, Tryd.ntmps5
    go_wp2_with fail
    refine (awake2_any w hT).mono ?_
    rintro e w6 ⟨rfl, hg6⟩
    go_wp2_with fail
    go_ret
    exact ⟨rfl, hg6⟩
  by_cases c6 : 55296 ≤ a ∧ a ≤ 57343
  · obtain ⟨d1, d2⟩ := c6
    go_enter Tryd.func5, Tryd.ntmps5
    go_wp2_with fail
    refine (awake2_any w hT).mono ?_
    rintro e w6 ⟨rfl, hg6⟩
    go_wp2_with fail
    go_ret
    exact ⟨rfl, hg6⟩
  have d6 : ¬ (55296 ≤ a) ∨ ¬ (a ≤ 57343) := by omega
  clear c6
  by_cases c7 : 55296 ≤ b ∧ b ≤ 57343
  · obtain ⟨d1, d2⟩ := c7
    rcases d6 with d6 | d6
    · go_enter Tryd.func5, Tryd.ntmps5
      go_wp2_with fail
      refine (awake2_any w hT).mono ?_
      rintro e w6 ⟨rfl, hg6⟩
      go_wp2_with fail
      go_ret
      exact ⟨rfl, hg6⟩
    · have d7 : 55296 ≤ a := by omega
      go_enter Tryd.func5, Tryd.ntmps5
      go_wp2_with fail
      refine (awake2_any w hT).mono ?_
      rintro e w6 ⟨rfl, hg6⟩
      go_wp2_with fail
      go_ret
      exact ⟨rfl, hg6⟩
  have d7 : ¬ (55296 ≤ b) ∨ ¬ (b ≤ 57343) := by omega
  clear c7
  by_cases c8 : 55296 ≤ c ∧ c ≤ 57343
  · obtain ⟨d1, d2⟩ := c8
    rcases d6 with d6 | d6
    · rcases d7 with d7 | d7
      · go_enter Tryd.func5, Tryd.ntmps5
        go_wp2_with fail
        refine (awake2_any w hT).mono ?_
        rintro e w6 ⟨rfl, hg6⟩
        go_wp2_with fail
        go_ret
        exact ⟨rfl, hg6⟩
      · have e7 : 55296 ≤ b := by omega
        go_enter Tryd.func5, Tryd.ntmps5
        go_wp2_with fail
        refine (awake2_any w hT).mono ?_
        rintro e w6 ⟨rfl, hg6⟩
        go_wp2_with fail
        go_ret
        exact ⟨rfl, hg6⟩
    · have e6 : 55296 ≤ a := by omega
      have e7 : 55296 ≤ b := by omega
      have f7 : ¬ b ≤ 57343 := by omega
      clear d7
      go_enter Tryd.func5, Tryd.ntmps5
      go_wp2_with fail
      refine (awake2_any w hT).mono ?_
      rintro e w6 ⟨rfl, hg6⟩
      go_wp2_with fail
      go_ret
      exact ⟨rfl, hg6⟩
  have d8 : ¬ (55296 ≤ c) ∨ ¬ (c ≤ 57343) := by omega
  clear c8
  obtain ⟨a, rfl⟩ := Int.eq_ofNat_of_zero_le (show 0 ≤ a by omega)
  obtain ⟨b, rfl⟩ := Int.eq_ofNat_of_zero_le (show 0 ≤ b by omega)
  obtain ⟨c, rfl⟩ := Int.eq_ofNat_of_zero_le (show 0 ≤ c by omega)
  have ra : RuneN a := by unfold RuneN; omega
  have rb : RuneN b := by unfold RuneN; omega
  have rc : RuneN c := by unfold RuneN; omega
  obtain ⟨k1, k2, k3⟩ := ask ra rb (by omega) (by omega)
  have hA : Utf8.encode (a : Int) = strOf (encL a) := by rw [← enc_list ra, strOf_self]
  have hB : Utf8.encode (b : Int) = strOf (encL b) := by rw [← enc_list rb, strOf_self]
  have hC : Utf8.encode (c : Int) = strOf (encL c) := by rw [← enc_list rc, strOf_self]
  have la := encL_len a
  have lb := encL_len b
  have lc := encL_len c
  have ls := spanL_len a b
  have s1 : ∀ w, (Op.stringOp .add (strOf (encL a)) { data := #[45] }).run Tryd.prog w = .ok (.string (strOf (encL a ++ [45]))) w := fun w => by
    have h := run_string_add_sum (P := Tryd.prog) w (strOf (encL a)) (strOf [45]) (by rw [strOf_size, strOf_size]; simp; omega)
    rw [show strOf (encL a) ++ strOf [45] = strOf (encL a ++ [45]) from ByteArray.mk_append_mk _ _] at h
    exact h
  have s2 : ∀ w, (Op.stringOp .add (strOf (encL a ++ [45])) (strOf (encL b))).run Tryd.prog w = .ok (.string (strOf (encL a ++ [45] ++ encL b))) w := fun w => by
    have h := run_string_add_sum (P := Tryd.prog) w (strOf (encL a ++ [45])) (strOf (encL b)) (by rw [strOf_size, strOf_size]; simp; omega)
    rw [show strOf (encL a ++ [45]) ++ strOf (encL b) = strOf (encL a ++ [45] ++ encL b) from ByteArray.mk_append_mk _ _] at h
    exact h
  have s3 : ∀ w, (Op.stringOp .add (strOf (encL a ++ [45] ++ encL b)) { data := #[93] }).run Tryd.prog w = .ok (.string (strOf (spanL a b))) w := fun w => by
    have h := run_string_add_sum (P := Tryd.prog) w (strOf (encL a ++ [45] ++ encL b)) (strOf [93]) (by rw [strOf_size, strOf_size]; simp; omega)
    rw [show strOf (encL a ++ [45] ++ encL b) ++ strOf [93] = strOf (spanL a b) from ByteArray.mk_append_mk _ _] at h
    exact h
  have s4 : ∀ w, (Op.stringOp .add { data := #[91] } (strOf (spanL a b))).run Tryd.prog w = .ok (.string (strOf (91 :: spanL a b))) w := fun w => by
    have h := run_string_add_sum (P := Tryd.prog) w (strOf [91]) (strOf (spanL a b)) (by rw [strOf_size, strOf_size]; simp; omega)
    rw [show strOf [91] ++ strOf (spanL a b) = strOf (91 :: spanL a b) from ByteArray.mk_append_mk _ _] at h
    exact h
  have s5 : ∀ w, (Op.stringOp .add { data := #[91, 94] } (strOf (spanL a b))).run Tryd.prog w = .ok (.string (strOf (91 :: 94 :: spanL a b))) w := fun w => by
    have h := run_string_add_sum (P := Tryd.prog) w (strOf [91, 94]) (strOf (spanL a b)) (by rw [strOf_size, strOf_size]; simp; omega)
    rw [show strOf [91, 94] ++ strOf (spanL a b) = strOf (91 :: 94 :: spanL a b) from ByteArray.mk_append_mk _ _] at h
    exact h
  have m1 := match_any (strOf (91 :: spanL a b)) (strOf (encL c)) w (by rw [strOf_size]; simp; omega) (by rw [strOf_size]; omega) hT
  have m2 : ∀ w', G w w' → _ := fun w' h => match_any (strOf (91 :: 94 :: spanL a b)) (strOf (encL c)) w' (by rw [strOf_size]; simp; omega) (by rw [strOf_size]; omega) (hT.g h)
  have m3 : ∀ w', G w w' → _ := fun w' h => match_any (strOf (91 :: spanL a b)) { data := #[] } w' (by rw [strOf_size]; simp; omega) (by decide) (hT.g h)
  rw [k1 c rc] at m1
  rw [k2 c rc] at m2
  rw [k3] at m3
  have aw : ∀ w', G w w' → _ := fun w' h => awake2_any w' (hT.g h)
  generalize strOf (91 :: spanL a b) = T4 at *
  generalize strOf (91 :: 94 :: spanL a b) = T5 at *
  generalize strOf (spanL a b) = T3 at *
  generalize strOf (encL a ++ [45] ++ encL b) = T2 at *
  generalize strOf (encL a ++ [45]) = T1 at *
  generalize strOf (encL a) = TA at *
  generalize strOf (encL b) = TB at *
  generalize strOf (encL c) = TC at *
  replace m3 := Lib.hid m3
  replace aw := Lib.hid aw
  clear k1 k2 k3 ra rb rc la lb lc ls
  have x1 : ¬ (55296 ≤ (a : Int)) ∨ (55296 ≤ (a : Int) ∧ ¬ (a : Int) ≤ 57343) := by omega
  have x2 : ¬ (55296 ≤ (b : Int)) ∨ (55296 ≤ (b : Int) ∧ ¬ (b : Int) ≤ 57343) := by omega
  have x3 : ¬ (55296 ≤ (c : Int)) ∨ (55296 ≤ (c : Int) ∧ ¬ (c : Int) ≤ 57343) := by omega
  clear d6 d7 d8
  replace x1 := Lib.hid x1
  replace x2 := Lib.hid x2
  replace x3 := Lib.hid x3
  by_cases i1 : a ≤ c
  · have j1 : (a : Int) ≤ (c : Int) := by omega
    by_cases i2 : c ≤ b
    · have j2 : (c : Int) ≤ (b : Int) := by omega
      rw [decide_eq_true (And.intro i1 i2)] at m1 m2
      replace m2 := Lib.hid m2
      clear i1 i2
      rcases x1.out with y1 | ⟨y1, z1⟩ <;> rcases x2.out with y2 | ⟨y2, z2⟩ <;> rcases x3.out with y3 | ⟨y3, z3⟩
      all_goals
        go_enter Tryd.func5, Tryd.ntmps5
        go_wp2_with fail
        refine m1.mono ?_
        rintro e w1 ⟨rfl, hg1⟩
        go_wp2_with fail
        refine (m2.out w1 hg1).mono ?_
        rintro e w2 ⟨rfl, hg2⟩
        replace hg2 := hg1.trans hg2
        go_wp2_with fail
        refine (m3.out w2 hg2).mono ?_
        rintro e w3 ⟨rfl, hg3⟩
        replace hg3 := hg2.trans hg3
        go_wp2_with fail
        refine (aw.out w3 hg3).mono ?_
        rintro e w6 ⟨rfl, hg6⟩
        go_wp2_with fail
        go_ret
        exact ⟨rfl, hg3.trans hg6⟩
    · have j2 : ¬ (c : Int) ≤ (b : Int) := by omega
      rw [decide_eq_false (fun h : a ≤ c ∧ c ≤ b => i2 h.2)] at m1 m2
      replace m2 := Lib.hid m2
      clear i1 i2
      rcases x1.out with y1 | ⟨y1, z1⟩ <;> rcases x2.out with y2 | ⟨y2, z2⟩ <;> rcases x3.out with y3 | ⟨y3, z3⟩
      all_goals
        go_enter Tryd.func5, Tryd.ntmps5
        go_wp2_with fail
        refine m1.mono ?_
        rintro e w1 ⟨rfl, hg1⟩
        go_wp2_with fail
        refine (m2.out w1 hg1).mono ?_
        rintro e w2 ⟨rfl, hg2⟩
        replace hg2 := hg1.trans hg2
        go_wp2_with fail
        refine (m3.out w2 hg2).mono ?_
        rintro e w3 ⟨rfl, hg3⟩
        replace hg3 := hg2.trans hg3
        go_wp2_with fail
        refine (aw.out w3 hg3).mono ?_
        rintro e w6 ⟨rfl, hg6⟩
        go_wp2_with fail
        go_ret
        exact ⟨rfl, hg3.trans hg6⟩
  · have j1 : ¬ (a : Int) ≤ (c : Int) := by omega
    rw [decide_eq_false (fun h : a ≤ c ∧ c ≤ b => i1 h.1)] at m1 m2
    replace m2 := Lib.hid m2
    clear i1
    rcases x1.out with y1 | ⟨y1, z1⟩ <;> rcases x2.out with y2 | ⟨y2, z2⟩ <;> rcases x3.out with y3 | ⟨y3, z3⟩
    all_goals
      go_enter Tryd.func5, Tryd.ntmps5
      go_wp2_with fail
      refine m1.mono ?_
      rintro e w1 ⟨rfl, hg1⟩
      go_wp2_with fail
      refine (m2.out w1 hg1).mono ?_
      rintro e w2 ⟨rfl, hg2⟩
      replace hg2 := hg1.trans hg2
      go_wp2_with fail
      refine (m3.out w2 hg2).mono ?_
      rintro e w3 ⟨rfl, hg3⟩
      replace hg3 := hg2.trans hg3
      go_wp2_with fail
      refine (aw.out w3 hg3).mono ?_
      rintro e w6 ⟨rfl, hg6⟩
      go_wp2_with fail
      go_ret
      exact ⟨rfl, hg3.trans hg6⟩
end Go.Proofs.YtngpbochhabhkaaDoor.globSets

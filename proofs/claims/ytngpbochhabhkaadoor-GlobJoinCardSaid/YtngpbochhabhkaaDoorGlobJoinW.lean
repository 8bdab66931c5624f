/- penstocklaw2.GlobJoin: the walk. Condition: utf8's two tables lie as the library lays them. -/
import Derived.Test.YtngpbochhabhkaaDoorGlobTexts
import Derived.Laws.Concat
namespace Go.Proofs.YtngpbochhabhkaaDoor.globJoin
open Go.RowKit

theorem app_list (a b : ByteArray) : (a ++ b).data.toList = a.data.toList ++ b.data.toList := by simp
theorem runes_app {a : ByteArray} (h : validB a = true) (b : ByteArray) : runesL (a ++ b) = runesL a ++ runesL b := by
  unfold runesL
  rw [app_list, cks_app (goodS h), List.map_append]
theorem valid_app {a b : ByteArray} (ha : validB a = true) (hb : validB b = true) : validB (a ++ b) = true := by
  rw [goodL_iff, app_list]
  exact goodL_app (goodS ha) (goodS hb)
theorem ok_app {p q : ByteArray} (hp : patOk p = true) (hq : patOk q = true) (h : (cks p.data.toList).length + (cks q.data.toList).length ≤ 40) : patOk (p ++ q) = true ∧ patP (p ++ q) = patP p ++ patP q := by
  obtain ⟨p1, _, p3⟩ := patOk_parts hp
  obtain ⟨q1, _, q3⟩ := patOk_parts hq
  have h1 := parse_app _ (runesL p) (runesL q) (Nat.le_refl _) p3
  rw [← runes_app p1, q3] at h1
  have h2 : (cks (p ++ q).data.toList).length ≤ 40 := by rw [app_list, cks_app (goodS p1), List.length_append]; exact h
  refine ⟨by rw [patOk_of (valid_app p1 q1) h2 h1]; rfl, ?_⟩
  unfold patP
  rw [h1]
theorem match_app {p q s t : ByteArray} (hp : patOk p = true) (hq : patOk q = true) (h : (cks p.data.toList).length + (cks q.data.toList).length ≤ 40) (h1 : matchB p s = true) (h2 : matchB q t = true) : matchB (p ++ q) (s ++ t) = true := by
  obtain ⟨o1, o2⟩ := ok_app hp hq h
  unfold matchB at *
  rw [Bool.and_eq_true, Bool.and_eq_true] at h1 h2
  rw [o1, o2, valid_app h1.1.2 h2.1.2, runes_app h1.1.2, Bool.true_and, Bool.true_and]
  exact matchL_t (((matchL_iff _ _).1 h1.2).append ((matchL_iff _ _).1 h2.2))
set_option maxRecDepth 100000 in
set_option maxHeartbeats 1000000 in
theorem walk (p q s t : ByteArray) (w : World) (_hp : p.size ≤ 9223372036854775807) (_hq : q.size ≤ 9223372036854775807) (_hs : s.size ≤ 9223372036854775807) (_ht : t.size ≤ 9223372036854775807) (hT : Tabs w) :
    Calls Tryd.prog 8 #[.string p, .string q, .string s, .string t] w fun e w' => e = .returned (.bool true) ∧ G w w' := by
  have aw : ∀ w', G w w' → _ := fun w' h => awake2_any w' (hT.g h)
  replace aw := Lib.hid aw
  by_cases c1 : (300 : Int) < p.size
  · go_enter Tryd.func8, Tryd.ntmps8
    go_wp2_with fail
    refine (aw.out _ (G.refl w)).mono ?_
    rintro e wz ⟨rfl, hgz⟩
    go_wp2_with fail
    go_ret
    exact ⟨rfl, (G.refl w).trans hgz⟩
  by_cases c2 : (300 : Int) < q.size
  · go_enter Tryd.func8, Tryd.ntmps8
    go_wp2_with fail
    refine (aw.out _ (G.refl w)).mono ?_
    rintro e wz ⟨rfl, hgz⟩
    go_wp2_with fail
    go_ret
    exact ⟨rfl, (G.refl w).trans hgz⟩
  by_cases c3 : (300 : Int) < s.size
  · go_enter Tryd.func8, Tryd.ntmps8
    go_wp2_with fail
    refine (aw.out _ (G.refl w)).mono ?_
    rintro e wz ⟨rfl, hgz⟩
    go_wp2_with fail
    go_ret
    exact ⟨rfl, (G.refl w).trans hgz⟩
  by_cases c4 : (300 : Int) < t.size
  · go_enter Tryd.func8, Tryd.ntmps8
    go_wp2_with fail
    refine (aw.out _ (G.refl w)).mono ?_
    rintro e wz ⟨rfl, hgz⟩
    go_wp2_with fail
    go_ret
    exact ⟨rfl, (G.refl w).trans hgz⟩
  have hcp := check_any p w (by omega) hT
  have hcq : ∀ w', G w w' → _ := fun w' h => check_any q w' (by omega) (hT.g h)
  cases hop : patOk p with
  | false =>
    rw [hop] at hcp
    unfold chkI at hcp
    replace hop := Lib.hid hop
    clear hcq
    go_enter Tryd.func8, Tryd.ntmps8
    go_wp2_with fail
    refine hcp.mono ?_
    clear hcp
    rintro e w1 ⟨rfl, hg1⟩
    go_wp2_with fail
    refine (aw.out _ (hg1)).mono ?_
    rintro e wz ⟨rfl, hgz⟩
    go_wp2_with fail
    go_ret
    exact ⟨rfl, (hg1).trans hgz⟩
  | true =>
    rw [hop] at hcp
    unfold chkI at hcp
    cases hoq : patOk q with
    | false =>
      rw [hoq] at hcq
      unfold chkI at hcq
      replace hop := Lib.hid hop
      replace hoq := Lib.hid hoq
      replace hcq := Lib.hid hcq
      go_enter Tryd.func8, Tryd.ntmps8
      go_wp2_with fail
      refine hcp.mono ?_
      clear hcp
      rintro e w1 ⟨rfl, hg1⟩
      go_wp2_with fail
      refine (hcq.out w1 hg1).mono ?_
      rintro e w2 ⟨rfl, hg2⟩
      replace hg2 := hg1.trans hg2
      go_wp2_with fail
      refine (aw.out _ (hg2)).mono ?_
      rintro e wz ⟨rfl, hgz⟩
      go_wp2_with fail
      go_ret
      exact ⟨rfl, (hg2).trans hgz⟩
    | true =>
      rw [hoq] at hcq
      unfold chkI at hcq
      have n1 : ∀ w', _ := fun w' => refCount_any p w' (by omega)
      have n2 : ∀ w', _ := fun w' => refCount_any q w' (by omega)
      have l1 := (patOk_parts hop).2.1
      have l2 := (patOk_parts hoq).2.1
      have hmain := match_app (s := s) (t := t) hop hoq
      have hokk : _ → _ := fun h => (ok_app hop hoq h).1
      have hck : ∀ w', G w w' → _ := fun w' h => check_any (p ++ q) w' (by simp; omega) (hT.g h)
      have m1 : ∀ w', G w w' → _ := fun w' h => match_any p s w' (by omega) (by omega) (hT.g h)
      have m2 : ∀ w', G w w' → _ := fun w' h => match_any q t w' (by omega) (by omega) (hT.g h)
      have m3 : ∀ w', G w w' → _ := fun w' h => match_any (p ++ q) (s ++ t) w' (by simp; omega) (by simp; omega) (hT.g h)
      have ha1 : ∀ w, (Op.stringOp .add p q).run Tryd.prog w = .ok (.string (p ++ q)) w := fun w => run_string_add_sum w p q (by omega)
      have ha2 : ∀ w, (Op.stringOp .add s t).run Tryd.prog w = .ok (.string (s ++ t)) w := fun w => run_string_add_sum w s t (by omega)
      generalize p ++ q = PQ at *
      generalize s ++ t = ST at *
      generalize (cks p.data.toList).length = N1 at *
      generalize (cks q.data.toList).length = N2 at *
      replace hop := Lib.hid hop
      replace hoq := Lib.hid hoq
      replace hcq := Lib.hid hcq
      replace n1 := Lib.hid n1
      replace n2 := Lib.hid n2
      replace hmain := Lib.hid hmain
      replace hokk := Lib.hid hokk
      replace hck := Lib.hid hck
      replace m1 := Lib.hid m1
      replace m2 := Lib.hid m2
      replace m3 := Lib.hid m3
      replace ha1 := Lib.hid ha1
      replace ha2 := Lib.hid ha2
      by_cases hsum : N1 + N2 ≤ 40
      · have t1 : ¬ (40 : Int) < (N1 : Int) + (N2 : Int) := by omega
        have ho := hokk.out hsum
        have hck2 := hck.out
        rw [ho] at hck2
        unfold chkI at hck2
        replace hck2 := Lib.hid hck2
        replace ho := Lib.hid ho
        go_enter Tryd.func8, Tryd.ntmps8
        go_wp2_with fail
        refine hcp.mono ?_
        clear hcp
        rintro e w1 ⟨rfl, hg1⟩
        go_wp2_with fail
        refine (hcq.out w1 hg1).mono ?_
        rintro e w2 ⟨rfl, hg2⟩
        replace hg2 := hg1.trans hg2
        go_wp2_with fail
        refine (n1.out w2).mono ?_
        rintro e w3 ⟨rfl, hg3⟩
        replace hg3 := hg2.trans hg3
        go_wp2_with fail
        refine (n2.out w3).mono ?_
        rintro e w4 ⟨rfl, hg4⟩
        replace hg4 := hg3.trans hg4
        have ha1 := ha1.out
        go_wp2_with fail
        refine (hck2.out w4 hg4).mono ?_
        rintro e w5 ⟨rfl, hg5⟩
        replace hg5 := hg4.trans hg5
        go_wp2_with fail
        refine (m1.out w5 hg5).mono ?_
        rintro e w6 ⟨rfl, hg6⟩
        replace hg6 := hg5.trans hg6
        cases hm1 : matchB p s with
        | false =>
          replace hm1 := Lib.hid hm1
          go_wp2_with fail
          refine (aw.out _ (hg6)).mono ?_
          rintro e wz ⟨rfl, hgz⟩
          go_wp2_with fail
          go_ret
          exact ⟨rfl, (hg6).trans hgz⟩
        | true =>
          replace hm1 := Lib.hid hm1
          go_wp2_with fail
          refine (m2.out w6 hg6).mono ?_
          rintro e w7 ⟨rfl, hg7⟩
          replace hg7 := hg6.trans hg7
          cases hm2 : matchB q t with
          | false =>
            replace hm2 := Lib.hid hm2
            go_wp2_with fail
            refine (aw.out _ (hg7)).mono ?_
            rintro e wz ⟨rfl, hgz⟩
            go_wp2_with fail
            go_ret
            exact ⟨rfl, (hg7).trans hgz⟩
          | true =>
            have hm3 := hmain.out hsum hm1.out hm2
            have m3 := m3.out
            rw [hm3] at m3
            replace m3 := Lib.hid m3
            replace hm3 := Lib.hid hm3
            replace hm2 := Lib.hid hm2
            have ha2 := ha2.out
            go_wp2_with fail
            refine (m3.out w7 hg7).mono ?_
            rintro e w8 ⟨rfl, hg8⟩
            replace hg8 := hg7.trans hg8
            go_wp2_with fail
            refine (aw.out _ (hg8)).mono ?_
            rintro e wz ⟨rfl, hgz⟩
            go_wp2_with fail
            go_ret
            exact ⟨rfl, (hg8).trans hgz⟩
      · have t1 : (40 : Int) < (N1 : Int) + (N2 : Int) := by omega
        go_enter Tryd.func8, Tryd.ntmps8
        go_wp2_with fail
        refine hcp.mono ?_
        clear hcp
        rintro e w1 ⟨rfl, hg1⟩
        go_wp2_with fail
        refine (hcq.out w1 hg1).mono ?_
        rintro e w2 ⟨rfl, hg2⟩
        replace hg2 := hg1.trans hg2
        go_wp2_with fail
        refine (n1.out w2).mono ?_
        rintro e w3 ⟨rfl, hg3⟩
        replace hg3 := hg2.trans hg3
        go_wp2_with fail
        refine (n2.out w3).mono ?_
        rintro e w4 ⟨rfl, hg4⟩
        replace hg4 := hg3.trans hg4
        go_wp2_with fail
        refine (aw.out _ (hg4)).mono ?_
        rintro e wz ⟨rfl, hgz⟩
        go_wp2_with fail
        go_ret
        exact ⟨rfl, (hg4).trans hgz⟩
end Go.Proofs.YtngpbochhabhkaaDoor.globJoin

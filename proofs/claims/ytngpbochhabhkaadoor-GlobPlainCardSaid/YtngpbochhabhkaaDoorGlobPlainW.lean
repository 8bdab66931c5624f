/- penstocklaw2.GlobPlain: the walk. Condition: utf8's two tables lie as the library lays them. -/
import Derived.Test.YtngpbochhabhkaaDoorGlobTexts
namespace Go.Proofs.YtngpbochhabhkaaDoor.globPlain
open Go.RowKit

set_option maxRecDepth 100000 in
set_option maxHeartbeats 1000000 in
theorem walk (s t : ByteArray) (w : World) (hs : s.size ≤ 9223372036854775807) (ht : t.size ≤ 9223372036854775807) (hT : Tabs w) :
    Calls Tryd.prog 3 #[.string s, .string t] w fun e w' => e = .returned (.bool true) ∧ G w w' := by
  have aw : ∀ w', G w w' → _ := fun w' h => awake2_any w' (hT.g h)
  replace aw := Lib.hid aw
  by_cases c1 : (300 : Int) < s.size
  · go_enter Tryd.func3, Tryd.ntmps3
    go_wp2_with fail
    refine (aw.out _ (G.refl w)).mono ?_
    rintro e wz ⟨rfl, hgz⟩
    go_wp2_with fail
    go_ret
    exact ⟨rfl, (G.refl w).trans hgz⟩
  by_cases c2 : (300 : Int) < t.size
  · go_enter Tryd.func3, Tryd.ntmps3
    go_wp2_with fail
    refine (aw.out _ (G.refl w)).mono ?_
    rintro e wz ⟨rfl, hgz⟩
    go_wp2_with fail
    go_ret
    exact ⟨rfl, (G.refl w).trans hgz⟩
  have hp := plain_any s w hs
  cases hpl : plainB s with
  | false =>
    rw [hpl] at hp
    replace hpl := Lib.hid hpl
    go_enter Tryd.func3, Tryd.ntmps3
    go_wp2_with fail
    refine hp.mono ?_
    clear hp
    rintro e w1 ⟨rfl, rfl⟩
    go_wp2_with fail
    refine (aw.out _ (G.refl w)).mono ?_
    rintro e wz ⟨rfl, hgz⟩
    go_wp2_with fail
    go_ret
    exact ⟨rfl, (G.refl w).trans hgz⟩
  | true =>
    rw [hpl] at hp
    have hc := check_any s w (by omega) hT
    cases hok : patOk s with
    | false =>
      rw [hok] at hc
      replace hpl := Lib.hid hpl
      replace hok := Lib.hid hok
      unfold chkI at hc
      go_enter Tryd.func3, Tryd.ntmps3
      go_wp2_with fail
      refine hp.mono ?_
      clear hp
      rintro e w1 ⟨rfl, rfl⟩
      go_wp2_with fail
      refine hc.mono ?_
      clear hc
      rintro e w2 ⟨rfl, hg2⟩
      go_wp2_with fail
      refine (aw.out _ (hg2)).mono ?_
      rintro e wz ⟨rfl, hgz⟩
      go_wp2_with fail
      go_ret
      exact ⟨rfl, (hg2).trans hgz⟩
    | true =>
      rw [hok] at hc
      unfold chkI at hc
      have hv : ∀ w', _ := fun w' => refValid_any t w' (by omega)
      have m1 : ∀ w', G w w' → _ := fun w' h => match_any s t w' (by omega) (by omega) (hT.g h)
      have m2 : ∀ w', G w w' → _ := fun w' h => match_any s s w' (by omega) (by omega) (hT.g h)
      have m3 : ∀ w', G w w' → _ := fun w' h => match_any st1 t w' (by decide) (by omega) (hT.g h)
      have m4 : ∀ w', G w w' → _ := fun w' h => match_any st2 t w' (by decide) (by omega) (hT.g h)
      cases hvt : validB t with
      | false =>
        rw [hvt] at hv
        rw [match_bad hvt] at m1 m3
        replace hpl := Lib.hid hpl
        replace hok := Lib.hid hok
        replace hvt := Lib.hid hvt
        replace hv := Lib.hid hv
        replace m1 := Lib.hid m1
        unfold st1 at m3
        replace m3 := Lib.hid m3
        clear m2 m4
        go_enter Tryd.func3, Tryd.ntmps3
        go_wp2_with fail
        refine hp.mono ?_
        clear hp
        rintro e w1 ⟨rfl, rfl⟩
        go_wp2_with fail
        refine hc.mono ?_
        clear hc
        rintro e w2 ⟨rfl, hg2⟩
        go_wp2_with fail
        refine (hv.out w2).mono ?_
        rintro e w3 ⟨rfl, hg3⟩
        replace hg3 := hg2.trans hg3
        go_wp2_with fail
        refine (m3.out w3 hg3).mono ?_
        rintro e w4 ⟨rfl, hg4⟩
        replace hg4 := hg3.trans hg4
        go_wp2_with fail
        refine (m1.out w4 hg4).mono ?_
        rintro e w5 ⟨rfl, hg5⟩
        replace hg5 := hg4.trans hg5
        go_wp2_with fail
        refine (aw.out _ (hg5)).mono ?_
        rintro e wz ⟨rfl, hgz⟩
        go_wp2_with fail
        go_ret
        exact ⟨rfl, (hg5).trans hgz⟩
      | true =>
        have hvs := (patOk_parts hok).1
        rw [hvt] at hv
        rw [match_plain hpl hok hvt] at m1
        rw [match_plain hpl hok hvs, decide_eq_true rfl] at m2
        rw [match_st1 hvt] at m3
        rw [match_st2 hvt] at m4
        replace hpl := Lib.hid hpl
        replace hok := Lib.hid hok
        replace hvt := Lib.hid hvt
        replace hvs := Lib.hid hvs
        replace hv := Lib.hid hv
        replace m1 := Lib.hid m1
        replace m2 := Lib.hid m2
        unfold st1 at m3
        unfold st2 at m4
        replace m3 := Lib.hid m3
        replace m4 := Lib.hid m4
        go_enter Tryd.func3, Tryd.ntmps3
        go_wp2_with fail
        refine hp.mono ?_
        clear hp
        rintro e w1 ⟨rfl, rfl⟩
        go_wp2_with fail
        refine hc.mono ?_
        clear hc
        rintro e w2 ⟨rfl, hg2⟩
        go_wp2_with fail
        refine (hv.out w2).mono ?_
        rintro e w4 ⟨rfl, hg4⟩
        replace hg4 := hg2.trans hg4
        by_cases hst : s = t
        · have hb3 : (s.toList == t.toList) = true := by rw [hst]; exact toList_same t
          replace m1 := m1.out
          rw [decide_eq_true hst] at m1
          replace m1 := Lib.hid m1
          replace hst := Lib.hid hst
          have hb2 := trivial
          replace hb2 := Lib.hid hb2
          go_wp2_with fail
          refine (m1.out w4 hg4).mono ?_
          rintro e w5 ⟨rfl, hg5⟩
          replace hg5 := hg4.trans hg5
          go_wp2_with fail
          refine (m2.out w5 hg5).mono ?_
          rintro e w6 ⟨rfl, hg6⟩
          replace hg6 := hg5.trans hg6
          go_wp2_with fail
          refine (m3.out w6 hg6).mono ?_
          rintro e w7 ⟨rfl, hg7⟩
          replace hg7 := hg6.trans hg7
          go_wp2_with fail
          refine (m4.out w7 hg7).mono ?_
          rintro e w8 ⟨rfl, hg8⟩
          replace hg8 := hg7.trans hg8
          go_wp2_with fail
          refine (aw.out _ (hg8)).mono ?_
          rintro e wz ⟨rfl, hgz⟩
          go_wp2_with fail
          go_ret
          exact ⟨rfl, (hg8).trans hgz⟩
        · have hb3 := toList_ne hst
          replace m1 := m1.out
          rw [decide_eq_false hst] at m1
          replace m1 := Lib.hid m1
          replace hst := Lib.hid hst
          have hb2 := trivial
          replace hb2 := Lib.hid hb2
          go_wp2_with fail
          refine (m1.out w4 hg4).mono ?_
          rintro e w5 ⟨rfl, hg5⟩
          replace hg5 := hg4.trans hg5
          go_wp2_with fail
          refine (m2.out w5 hg5).mono ?_
          rintro e w6 ⟨rfl, hg6⟩
          replace hg6 := hg5.trans hg6
          go_wp2_with fail
          refine (m3.out w6 hg6).mono ?_
          rintro e w7 ⟨rfl, hg7⟩
          replace hg7 := hg6.trans hg7
          go_wp2_with fail
          refine (m4.out w7 hg7).mono ?_
          rintro e w8 ⟨rfl, hg8⟩
          replace hg8 := hg7.trans hg8
          go_wp2_with fail
          refine (aw.out _ (hg8)).mono ?_
          rintro e wz ⟨rfl, hgz⟩
          go_wp2_with fail
          go_ret
          exact ⟨rfl, (hg8).trans hgz⟩
end Go.Proofs.YtngpbochhabhkaaDoor.globPlain

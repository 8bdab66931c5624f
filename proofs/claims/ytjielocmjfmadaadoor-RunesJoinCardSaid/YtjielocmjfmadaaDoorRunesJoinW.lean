/- penstocklaw1.RunesJoin: the walk. Condition: utf8's two tables lie as the library lays them. -/
import Derived.Test.YtjielocmjfmadaaDoorJoinLaw
import Derived.Test.YtjielocmjfmadaaDoorAwake1
import Derived.Laws.Concat
namespace Go.Proofs.YtjielocmjfmadaaDoor.runesJoin
open Go.RowKit

theorem app_list (a b : ByteArray) : (a ++ b).data.toList = a.data.toList ++ b.data.toList := by simp
theorem list_len (a : ByteArray) : a.data.toList.length = a.size := by simp
theorem strOf_take (l : List UInt8) (n : Nat) : (strOf l).extract 0 n = strOf (l.take n) := by
  unfold strOf
  rw [ByteArray.extract_mk]
  simp
theorem strOf_drop (l : List UInt8) (n : Nat) : (strOf l).extract n (strOf l).size = strOf (l.drop n) := by
  rw [strOf_size]
  unfold strOf
  rw [ByteArray.extract_mk, List.take_of_length_le (by simp)]
theorem strOf_app (a b : List UInt8) : strOf a ++ strOf b = strOf (a ++ b) := ByteArray.mk_append_mk a b
set_option maxRecDepth 100000 in
set_option maxHeartbeats 1000000 in
theorem walk (a b : ByteArray) (w : World) (hsa : a.size ≤ 9223372036854775807) (hsb : b.size ≤ 9223372036854775807) (hT : Tabs w) :
    Calls Tryd.prog 6 #[.string a, .string b] w fun e w' => e = .returned (.bool true) ∧ G w w' := by
  replace hT := Lib.hid hT
  by_cases hbig : ¬ ((a.size : Int) ≤ 1000 ∧ (b.size : Int) ≤ 1000)
  · by_cases h1 : (1000 : Int) < a.size
    all_goals
      go_enter Tryd.func6, Tryd.ntmps6
      go_wp2_with fail
      refine (awake1_any _ (hT.out.g (G.refl w))).mono ?_
      rintro e w9 ⟨rfl, hg9⟩
      go_wp2_with fail
      go_ret
      exact ⟨rfl, ((G.refl w)).trans hg9⟩
  rw [Classical.not_not] at hbig
  obtain ⟨ha, hb⟩ := hbig
  have hsz : (a ++ b).size = a.size + b.size := by simp
  have hsz2 : (a ++ b).size ≤ 2000 := by omega
  have hca := cks_length_le a.data.toList
  have hcb := cks_length_le b.data.toList
  rw [list_len] at hca hcb
  have hadd : ∀ w, (Op.stringOp .add a b).run Tryd.prog w = .ok (.string (a ++ b)) w := fun w => run_string_add_sum w a b (by omega)
  have hva := valid_any a w hsa hT.out
  have hvb : ∀ w', G w w' → _ := fun w' h => valid_any b w' hsb (hT.out.g h)
  have hna : ∀ w', _ := fun w' => count_any a w' hsa
  have hnb : ∀ w', _ := fun w' => count_any b w' hsb
  have hnc : ∀ w', _ := fun w' => count_any (a ++ b) w' (by omega)
  replace hvb := Lib.hid hvb
  replace hna := Lib.hid hna
  replace hnb := Lib.hid hnb
  have hle := cks_app_le a.data.toList b.data.toList
  have hae := app_list a b
  rw [hae] at hnc
  replace hsz := Lib.hid hsz
  replace hae := Lib.hid hae
  replace hnc := Lib.hid hnc
  have hvab := goodL_iff (a ++ b)
  rw [hae.out] at hvab
  have hga := goodL_iff a
  have hgb := goodL_iff b
  have hvc : ∀ w', G w w' → _ := fun w' h => valid_any (a ++ b) w' (by omega) (hT.out.g h)
  have hqa : ∀ w', G w w' → _ := fun w' h => quote_any a w' (by omega) (hT.out.g h)
  have hqb : ∀ w', G w w' → _ := fun w' h => quote_any b w' (by omega) (hT.out.g h)
  have hqc : ∀ w', G w w' → _ := fun w' h => quote_any (a ++ b) w' (by omega) (hT.out.g h)
  rw [hae.out] at hqc
  have hlq : (quoteL a.data.toList).length ≤ 4002 := by have := quoteL_le a.data.toList; rw [list_len] at this; omega
  have hlq2 : (quoteL b.data.toList).length ≤ 4002 := by have := quoteL_le b.data.toList; rw [list_len] at this; omega
  replace hqa := Lib.hid hqa
  replace hqb := Lib.hid hqb
  replace hqc := Lib.hid hqc
  replace hvc := Lib.hid hvc
  replace hvab := Lib.hid hvab
  replace hga := Lib.hid hga
  replace hgb := Lib.hid hgb
  go_enter Tryd.func6, Tryd.ntmps6
  go_wp2_with fail
  refine hva.mono ?_
  clear hva
  rintro e w1 ⟨rfl, hg1⟩
  cases hv1 : validB a with
  | false =>
    go_wp2_with fail
    refine (hnc.out w1).mono ?_
    rintro e w3 ⟨rfl, hg3⟩
    go_wp2_with fail
    refine (hna.out w3).mono ?_
    rintro e w4 ⟨rfl, hg4⟩
    go_wp2_with fail
    refine (hnb.out w4).mono ?_
    rintro e w5 ⟨rfl, hg5⟩
    have hg15 := (hg1).trans (hg3.trans (hg4.trans hg5))
    have hdec : decide ((((cks (a.data.toList ++ b.data.toList)).length : Nat) : Int) ≤ (((cks a.data.toList).length : Nat) : Int) + (((cks b.data.toList).length : Nat) : Int)) = true := decide_eq_true (by omega)
    generalize (cks (a.data.toList ++ b.data.toList)).length = N1 at *
    generalize (cks a.data.toList).length = N2 at *
    generalize (cks b.data.toList).length = N3 at *
    clear hle
    go_wp2_with fail
    refine (awake1_any _ (hT.out.g hg15)).mono ?_
    rintro e w9 ⟨rfl, hg9⟩
    go_wp2_with fail
    go_ret
    exact ⟨rfl, (hg15).trans hg9⟩
  | true =>
    go_wp2_with fail
    refine (hvb.out w1 hg1).mono ?_
    rintro e w2 ⟨rfl, hg2⟩
    replace hg2 := hg1.trans hg2
    cases hv2 : validB b with
    | false =>
      go_wp2_with fail
      refine (hnc.out w2).mono ?_
      rintro e w3 ⟨rfl, hg3⟩
      go_wp2_with fail
      refine (hna.out w3).mono ?_
      rintro e w4 ⟨rfl, hg4⟩
      go_wp2_with fail
      refine (hnb.out w4).mono ?_
      rintro e w5 ⟨rfl, hg5⟩
      have hg15 := (hg2).trans (hg3.trans (hg4.trans hg5))
      have hdec : decide ((((cks (a.data.toList ++ b.data.toList)).length : Nat) : Int) ≤ (((cks a.data.toList).length : Nat) : Int) + (((cks b.data.toList).length : Nat) : Int)) = true := decide_eq_true (by omega)
      generalize (cks (a.data.toList ++ b.data.toList)).length = N1 at *
      generalize (cks a.data.toList).length = N2 at *
      generalize (cks b.data.toList).length = N3 at *
      clear hle
      go_wp2_with fail
      refine (awake1_any _ (hT.out.g hg15)).mono ?_
      rintro e w9 ⟨rfl, hg9⟩
      go_wp2_with fail
      go_ret
      exact ⟨rfl, (hg15).trans hg9⟩
    | true =>
      have gda := hga.out.1 hv1
      have gdb := hgb.out.1 hv2
      have hv3 := hvab.out.2 (goodL_app gda gdb)
      have hql := quoteL_app gda b.data.toList
      have hcl := congrArg List.length (cks_app gda b.data.toList)
      rw [List.length_append] at hcl
      replace hql := Lib.hid hql
      replace hcl := Lib.hid hcl
      clear hle hga hgb hvab hv1 hv2 gda gdb
      rw [hv3] at hvc
      replace hv3 := Lib.hid hv3
      go_wp2_with fail
      refine (hqa.out w2 hg2).mono ?_
      rintro e w3 ⟨rfl, hg3⟩
      replace hg3 := hg2.trans hg3
      have hsp : (strOf (quoteL a.data.toList)).size = (quoteL a.data.toList).length := strOf_size _
      have hsq : (strOf (quoteL b.data.toList)).size = (quoteL b.data.toList).length := strOf_size _
      have hlp3 : 2 ≤ (quoteL a.data.toList).length := by unfold quoteL; simp
      have hlq3 : 2 ≤ (quoteL b.data.toList).length := by unfold quoteL; simp
      have hR : strOf (quoteL (a.data.toList ++ b.data.toList)) = (strOf (quoteL a.data.toList)).extract 0 ((quoteL a.data.toList).length - 1) ++ (strOf (quoteL b.data.toList)).extract 1 (strOf (quoteL b.data.toList)).size := by
        rw [hql.out, strOf_take, strOf_drop, strOf_app]
      generalize strOf (quoteL (a.data.toList ++ b.data.toList)) = R at *
      generalize strOf (quoteL a.data.toList) = p at *
      generalize strOf (quoteL b.data.toList) = q at *
      obtain ⟨m, hm⟩ : ∃ m, p.size = m + 1 := ⟨p.size - 1, by omega⟩
      have hR2 : R = p.extract 0 m ++ q.extract 1 q.size := by
        rw [hR, show (quoteL a.data.toList).length - 1 = m by omega]
      have hadd2 : ∀ w, (Op.stringOp .add (p.extract 0 m) (q.extract 1 q.size)).run Tryd.prog w = .ok (.string R) w := fun w => by
        rw [hR2]
        refine run_string_add_sum w _ _ ?_
        simp only [ByteArray.size_extract]
        omega
      have k1 : (2 : Int) ≤ p.size := by omega
      have k2 : (2 : Int) ≤ q.size := by omega
      have k3 : (p.size : Int) ≤ 4002 := by omega
      have k4 : (q.size : Int) ≤ 4002 := by omega
      have x1 : IntKind.i64.wrap ((p.size : Int) - 1) = ↑m := by rw [IntWalk.i64_in _ (by omega)]; omega
      have x2 : (0 : Int) ≤ ↑m := by clear x1; omega
      have x3 : (m : Int) ≤ ↑p.size := by clear x1; omega
      have x4 : (1 : Int) ≤ ↑q.size := by clear x1; omega
      have haw : ∀ w', G w w' → _ := fun w' h => awake1_any w' (hT.out.g h)
      replace haw := Lib.hid haw
      replace hm := Lib.hid hm
      replace hR := Lib.hid hR
      replace hR2 := Lib.hid hR2
      replace hsp := Lib.hid hsp
      replace hsq := Lib.hid hsq
      have hcl2 := hcl.out
      generalize (cks (a.data.toList ++ b.data.toList)).length = N1 at *
      generalize (cks a.data.toList).length = N2 at *
      generalize (cks b.data.toList).length = N3 at *
      subst hcl2
      clear hlq hlq2 hlp3 hlq3 hvb hqa hql hcl
      have y1 : IntKind.i64.wrap ((N2 : Int) + (N3 : Int)) = (N2 : Int) + (N3 : Int) := IntWalk.i64_in _ (by clear x1; omega)
      replace x1 := Lib.hid x1
      go_wp2_with fail
      refine (hqb.out w3 hg3).mono ?_
      rintro e w4 ⟨rfl, hg4⟩
      replace hg4 := hg3.trans hg4
      replace x1 := x1.out
      go_wp2_with fail
      go_region_held3 (fun w' => G w w') (first | exact hg4.drew | exact hgm.keep (by assumption) | fail)
        (first
          | (go_at_call 15; refine (hvc.out _ (by assumption)).mono ?_; rintro e wm ⟨rfl, hgm⟩)
          | (go_at_call 12; first | ((with_reducible refine (hnc.out _).mono ?_); rintro e wm ⟨rfl, hgm⟩) | ((with_reducible refine (hna.out _).mono ?_); rintro e wm ⟨rfl, hgm⟩) | ((with_reducible refine (hnb.out _).mono ?_); rintro e wm ⟨rfl, hgm⟩))
          | (go_at_call 20; refine (hqc.out _ (by assumption)).mono ?_; rintro e wm ⟨rfl, hgm⟩)
          | (go_at_call 11; refine (haw.out _ (by assumption)).mono ?_; rintro e wm ⟨rfl, hgm⟩)
          | fail)
      all_goals
        clear x1 y1
        go_wp2_with fail
        go_ret
        exact ⟨rfl, by assumption⟩
end Go.Proofs.YtjielocmjfmadaaDoor.runesJoin

/- penstocklaw1.RunesBack: the walk. Condition: utf8's two tables lie as the library lays them. -/
import Derived.Test.YtjielocmjfmadaaDoorBackLaw
import Derived.Test.YtjielocmjfmadaaDoorUnq
import Derived.Test.YtjielocmjfmadaaDoorCut
import Derived.Test.YtjielocmjfmadaaDoorAwake1
namespace Go.Proofs.YtjielocmjfmadaaDoor.runesBack
open Go.RowKit

theorem take_list (s : ByteArray) (p : Nat) : (s.extract 0 p).data.toList = s.data.toList.take p := by
  rw [extract_list, List.drop_zero, Nat.sub_zero]
theorem cut_list (s : ByteArray) (q : Int) : (cutB s q).data.toList = s.data.toList.take (off s.data.toList q.toNat) := take_list _ _
theorem cut_size (s : ByteArray) (q : Int) : (cutB s q).size = off s.data.toList q.toNat := by
  have h := congrArg List.length (cut_list s q)
  have h2 := off_le s.data.toList q.toNat
  rw [List.length_take, Nat.min_eq_left h2, Array.length_toList] at h
  exact h
theorem cut_self (s : ByteArray) (q : Int) : s.extract 0 (cutB s q).size = cutB s q := by rw [cut_size]; rfl
theorem cut_cks (s : ByteArray) (q : Int) : cks (cutB s q).data.toList = (cks s.data.toList).take q.toNat := by rw [cut_list, cks_take]
theorem rest_cks (s : ByteArray) (q : Int) : cks (s.extract (cutB s q).size s.size).data.toList = (cks s.data.toList).drop q.toNat := by
  rw [extract_list, cut_size, List.take_of_length_le (by simp), cks_drop]
theorem cut_valid (s : ByteArray) (q : Int) (h : validB s = true) : validB (cutB s q) = true := by
  unfold validB at *
  rw [cut_cks]
  rw [List.all_eq_true] at *
  exact fun c hc => h c (List.mem_of_mem_take hc)
theorem toList_eq {a b : ByteArray} (h : a = b) : (a.toList == b.toList) = true := by rw [h]; simp
set_option maxRecDepth 100000 in
set_option maxHeartbeats 2000000 in
theorem walk (s : ByteArray) (q : Int) (w : World) (hs : s.size ≤ 9223372036854775807) (hq : -9223372036854775808 ≤ q ∧ q ≤ 9223372036854775807) (hT : Tabs w) :
    Calls Tryd.prog 10 #[.string s, .int .i64 q] w fun e w' => e = .returned (.bool true) ∧ G w w' := by
  by_cases hbig : (1000 : Int) < s.size
  · go_enter Tryd.func10, Tryd.ntmps10
    go_wp2_with fail
    refine (awake1_any w hT).mono ?_
    rintro e w1 ⟨rfl, hg⟩
    go_wp2_with fail
    go_ret
    exact ⟨rfl, hg⟩
  have hsl : s.data.toList.length = s.size := by simp
  have hqs := strOf_size (quoteL s.data.toList)
  have hql := quoteL_le s.data.toList
  have hq2 : 2 ≤ (quoteL s.data.toList).length := by unfold quoteL; simp
  have h1 := quote_any s w (by omega) hT
  have h2 : ∀ w', G w w' → _ := fun w' h => unquote_any (strOf (quoteL s.data.toList)) s.data.toList true w' (by omega) (hT.g h) (by rw [strOf_list]; exact unq_quote _)
  rw [strOf_self] at h2
  have h3 : ∀ w', G w w' → _ := fun w' h => valid_any (strOf (quoteL s.data.toList)) w' (by omega) (hT.g h)
  rw [valid_quote] at h3
  have hix : ∀ (k : Nat) (b : UInt8), (quoteL s.data.toList)[k]? = some b → ∀ w', (Instr.index 9 (.string (strOf (quoteL s.data.toList))) (.int .i64 k)).run Tryd.prog w' = .ok (.int .u8 b.toNat) w' := fun k b h w' => run_byte w' _ k b (by rw [strOf_list]; exact h)
  have hfine := quote_fine s.data.toList
  have hcu : ∀ w', _ := fun w' => cut_any s q w' hs hq
  have hco : ∀ w', _ := fun w' => count_any (cutB s q) w' (by rw [cut_size]; have := off_le s.data.toList q.toNat; omega)
  have hvs : ∀ w', G w w' → _ := fun w' h => valid_any s w' hs (hT.g h)
  have hvc : ∀ w', G w w' → _ := fun w' h => valid_any (cutB s q) w' (by rw [cut_size]; have := off_le s.data.toList q.toNat; omega) (hT.g h)
  have hc2 : ∀ w', _ := fun w' => count_any (s.extract (cutB s q).size s.size) w' (by rw [Lib.ext_size]; omega)
  have hc3 : ∀ w', _ := fun w' => count_any s w' hs
  have haw : ∀ w', G w w' → _ := fun w' h => awake1_any w' (hT.g h)
  have hcv := cut_valid s q
  have hcs := cut_self s q
  have hcz : (cutB s q).size ≤ s.size := by rw [cut_size]; have := off_le s.data.toList q.toNat; omega
  have e1 := congrArg List.length (cut_cks s q)
  have e2 := congrArg List.length (rest_cks s q)
  rw [List.length_take] at e1
  rw [List.length_drop] at e2
  have hl3 := cks_length_le s.data.toList
  have hov : (cks s.data.toList).length ≤ q.toNat → cutB s q = s := fun h => cutB_over' h
  generalize cutB s q = C at *
  generalize (cks C.data.toList).length = N1 at *
  generalize (cks (s.extract C.size s.size).data.toList).length = N2 at *
  generalize (cks s.data.toList).length = N3 at *
  have hway : ((N1 : Int) == max q 0) = true ∨ (((N1 : Int) == max q 0) = false ∧ (C.toList == s.toList) = true) := by
    by_cases h : q.toNat ≤ N3
    · left
      rw [beq_iff_eq]
      omega
    · right
      exact ⟨by rw [beq_eq_false_iff_ne]; omega, toList_eq (hov (by omega))⟩
  have hsum0 : IntKind.i64.wrap ((N2 : Int) + (N1 : Int)) = (N3 : Int) := by
    rw [show (N2 : Int) + (N1 : Int) = (N3 : Int) by omega]
    exact IntWalk.i64_in _ (by omega)
  have hN : (N2 : Int) + (N1 : Int) = (N3 : Int) := by clear hsum0; omega
  have m1 : N1 ≤ 1000 := by clear hsum0; omega
  have m2 : N2 ≤ 1000 := by clear hsum0; omega
  have m3 : N3 ≤ 1000 := by clear hsum0; omega
  have hQ : ∀ (k : Nat), k < (quoteL s.data.toList).length → ∃ b, (quoteL s.data.toList)[k]? = some b := fun k h => ⟨_, List.getElem?_eq_getElem h⟩
  generalize quoteL s.data.toList = ql at *
  generalize strOf ql = Q at *
  have hq5 : ql.length ≤ 4002 := by clear hsum0 hN; omega
  rw [← hqs] at hq2 hq5 hQ
  replace hqs := Lib.hid hqs
  have k1 : (2 : Int) ≤ Q.size := by clear hsum0 hN; omega
  have k2 : ¬ (s.size : Int) < (C.size : Int) := by clear hsum0 hN; omega
  have k3 : (C.size : Int) ≤ (s.size : Int) := by clear hsum0 hN; omega
  replace hsum0 : Hid (N2 + N1 = N3) := by show _ = _; clear hsum0; omega
  replace hN := Lib.hid hN
  clear hov e1 e2 hql hl3 hsl
  replace h2 := Lib.hid h2
  replace h3 := Lib.hid h3
  replace hix := Lib.hid hix
  replace hfine := Lib.hid hfine
  replace hcu := Lib.hid hcu
  replace hco := Lib.hid hco
  replace hvs := Lib.hid hvs
  replace hvc := Lib.hid hvc
  replace hc2 := Lib.hid hc2
  replace hc3 := Lib.hid hc3
  replace haw := Lib.hid haw
  replace hcv := Lib.hid hcv
  replace hQ := Lib.hid hQ
  replace hway := Lib.hid hway
  replace hcs := Lib.hid hcs
  go_enter Tryd.func10, Tryd.ntmps10
  go_wp2_with fail
  refine h1.mono ?_
  clear h1
  rintro e w1 ⟨rfl, hg1⟩
  go_wp2_with fail
  refine (h2.out w1 hg1).mono ?_
  rintro e w2 ⟨rfl, hg2⟩
  replace hg2 := hg1.trans hg2
  go_wp2_with fail
  refine (h3.out w2 hg2).mono ?_
  rintro e w3 ⟨rfl, hg3⟩
  replace hg3 := hg2.trans hg3
  clear hg1 hg2
  go_wp2_with fail
  go_loop [8] (fun i => ∃ k : Nat, k ≤ Q.size ∧ i = .int .i64 k) (fun i => Q.size - (intOf i).toNat)
  case atStart => exact ⟨0, Nat.zero_le _, rfl⟩
  case round =>
    obtain ⟨k, hk, rfl⟩ := hrel
    by_cases hlt : k < Q.size
    · obtain ⟨b, hb⟩ := hQ.out k hlt
      have j0 := hix.out k b hb
      obtain ⟨f1, f2, f3⟩ := hfine.out k b hb
      have t1 : ¬ (b.toNat : Int) < 32 := by omega
      have t2 : ((b.toNat : Int) == 127) = false := by rw [beq_eq_false_iff_ne]; omega
      clear hb
      by_cases h34 : b.toNat = 34
      · have t3 : ((b.toNat : Int) == 34) = true := by rw [beq_iff_eq]; omega
        have f4 := f3 h34
        clear f1 f2 f3
        replace h34 := Lib.hid h34
        rcases f4 with f4 | f4 | ⟨j, hkj, hj⟩
        · subst f4
          have hlt1 : 1 ≤ Q.size := by omega
          have j00 : ∀ w', (Instr.index 9 (.string Q) (.int .i64 0)).run Tryd.prog w' = .ok (.int .u8 b.toNat) w' := j0
          clear j0
          go_wp2_with fail
          go_round
          case rel => exact ⟨1, hlt1, rfl⟩
          case measure => show Q.size - 1 < Q.size - 0; omega
        · have hk0 : (0 : Int) < (k : Int) := by have := hqs.out; omega
          have hk1 : ¬ (k : Int) < (Q.size : Int) - 1 := by have := hqs.out; omega
          replace f4 := Lib.hid f4
          go_wp2_with fail
          go_round
          case rel => exact ⟨k + 1, by omega, by go_num⟩
          case measure => (simp [intOf] <;> omega)
        · have j1 := hix.out j _ hj
          have e92 : UInt8.toNat 92 = 92 := rfl
          rw [e92, show (j : Int) = (k : Int) - 1 by omega] at j1
          have hk0 : (0 : Int) < (k : Int) := by omega
          replace hkj := Lib.hid hkj
          clear hj e92
          by_cases hk1 : (k : Int) < (Q.size : Int) - 1
          · go_wp2_with fail
            go_round
            case rel => exact ⟨k + 1, by omega, by go_num⟩
            case measure => (simp [intOf] <;> omega)
          · go_wp2_with fail
            go_round
            case rel => exact ⟨k + 1, by omega, by go_num⟩
            case measure => (simp [intOf] <;> omega)
      · have t3 : ((b.toNat : Int) == 34) = false := by rw [beq_eq_false_iff_ne]; omega
        clear f1 f2 f3
        replace h34 := Lib.hid h34
        go_wp2_with fail
        go_round
        case rel => exact ⟨k + 1, by omega, by go_num⟩
        case measure => (simp [intOf] <;> omega)
    · go_wp2_with fail
      refine (hcu.out w3).mono ?_
      rintro e w5 ⟨rfl, hg5⟩
      replace hg5 := hg3.trans hg5
      have hcs := hcs.out
      go_wp2_with fail
      refine (hco.out w5).mono ?_
      rintro e w6 ⟨rfl, hg6⟩
      replace hg6 := hg5.trans hg6
      clear hcs
      rcases hway.out with hw1 | ⟨hw1, hw2⟩
      · go_wp2_with fail
        refine (hvs.out _ hg6).mono ?_
        rintro e w7 ⟨rfl, hg7⟩
        replace hg7 := hg6.trans hg7
        cases hvb : validB s with
        | false =>
          replace hvb := Lib.hid hvb
          go_wp2_with fail
          refine (haw.out _ hg7).mono ?_
          rintro e w9 ⟨rfl, hg9⟩
          go_wp2_with fail
          go_ret
          exact ⟨rfl, (hg7).trans hg9⟩
        | true =>
          have hvc := hvc.out _ hg7
          rw [hcv.out hvb] at hvc
          replace hvb := Lib.hid hvb
          go_wp2_with fail
          refine hvc.mono ?_
          clear hvc
          rintro e w8 ⟨rfl, hg8⟩
          replace hg8 := hg7.trans hg8
          go_wp2_with fail
          refine (hc2.out w8).mono ?_
          rintro e wa ⟨rfl, hga⟩
          replace hga := hg8.trans hga
          go_wp2_with fail
          refine (hc3.out wa).mono ?_
          rintro e wb ⟨rfl, hgb⟩
          replace hgb := hga.trans hgb
          have hsum := hsum0.out
          go_wp2_with fail
          refine (haw.out _ hgb).mono ?_
          rintro e w9 ⟨rfl, hg9⟩
          go_wp2_with fail
          go_ret
          exact ⟨rfl, (hgb).trans hg9⟩
      · go_wp2_with fail
        refine (hvs.out _ hg6).mono ?_
        rintro e w7 ⟨rfl, hg7⟩
        replace hg7 := hg6.trans hg7
        cases hvb : validB s with
        | false =>
          replace hvb := Lib.hid hvb
          go_wp2_with fail
          refine (haw.out _ hg7).mono ?_
          rintro e w9 ⟨rfl, hg9⟩
          go_wp2_with fail
          go_ret
          exact ⟨rfl, (hg7).trans hg9⟩
        | true =>
          have hvc := hvc.out _ hg7
          rw [hcv.out hvb] at hvc
          replace hvb := Lib.hid hvb
          go_wp2_with fail
          refine hvc.mono ?_
          clear hvc
          rintro e w8 ⟨rfl, hg8⟩
          replace hg8 := hg7.trans hg8
          go_wp2_with fail
          refine (hc2.out w8).mono ?_
          rintro e wa ⟨rfl, hga⟩
          replace hga := hg8.trans hga
          go_wp2_with fail
          refine (hc3.out wa).mono ?_
          rintro e wb ⟨rfl, hgb⟩
          replace hgb := hga.trans hgb
          have hsum := hsum0.out
          go_wp2_with fail
          refine (haw.out _ hgb).mono ?_
          rintro e w9 ⟨rfl, hg9⟩
          go_wp2_with fail
          go_ret
          exact ⟨rfl, (hgb).trans hg9⟩
end Go.Proofs.YtjielocmjfmadaaDoor.runesBack

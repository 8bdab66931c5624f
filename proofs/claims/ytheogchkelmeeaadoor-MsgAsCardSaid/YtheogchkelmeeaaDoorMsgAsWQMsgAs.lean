/- penstocklaw10.MsgAs: the walk. No condition beyond lengths. -/
import Derived.Test.YtheogchkelmeeaaDoorM42MsgAs
import Derived.Test.YtheogchkelmeeaaDoorM44MsgAs
import Derived.Test.YtheogchkelmeeaaDoorSameMsgQMsgAs
import Derived.Test.YtheogchkelmeeaaDoorMsgOnlyQMsgAs
import Derived.Test.YtheogchkelmeeaaDoorAwake10QMsgAs
namespace Go.Proofs.YtheogchkelmeeaaDoor
open Go.RowKit

theorem MsgM.zero9 : (MsgM.zero 9).only = MsgM.zero 9 := by rw [MsgM.only_9 rfl]; rfl
set_option maxRecDepth 100000 in
set_option maxHeartbeats 8000000 in
theorem msgAs_walk (r : MsgM) (w : World) (hin : r.In w) (hi : r.Wide) : Calls Tryd.prog 3 #[.agg r.cells] w fun e w' => e = .returned (.bool true) ∧ G w w' := by
  have hg0 := G.new w (.cells r.cells 36)
  have B0 := blk_new w r.cells 36
  have LR0 := load_blk (P := Tryd.prog) (T := 36) B0 Tryd.underlying36 rfl (by kernel_rfl)
  have hsm := small10_any r (w.alloc (.cells r.cells 36)) (hin.g hg0) hi
  have haw := fun w' => awake10_any w'
  replace haw := Lib.hid haw
  replace hg0 := Lib.hid hg0
  replace B0 := Lib.hid B0
  cases hb : decide (msgBulk r ≤ 6000) with
  | false =>
    rw [hb] at hsm
    replace hb := Lib.hid hb
    replace hin := Lib.hid hin
    replace hi := Lib.hid hi
    replace hsm := Lib.hid hsm
    go_enter Tryd.func3, Tryd.ntmps3
    go_upto_region 1 with fail
    generalize w.alloc (.cells r.cells 36) = W0 at *
    go_wp2_with (first | (refine wpList_load_at rfl (by kernel_rfl) (p := .pointer (some ⟨_, 0, none⟩)) rfl LR0 ?_) | (go_at_call 8; (with_reducible refine Calls.mono hsm.out ?_); rintro e w1 ⟨rfl, hg1⟩) | (go_at_call 9; (with_reducible refine Calls.mono (haw.out _) ?_); rintro e w2 ⟨rfl, hg2⟩))
    go_ret
    exact ⟨rfl, (hg0.out.trans hg1).trans hg2⟩
  | true =>
    rw [hb] at hsm
    have hok := (msg_small hi (of_decide_eq_true hb)).only
    have hin' : ∀ w', G w w' → r.only.In w' := fun w' hg => (hin.g hg).only
    have honly := r.only_only
    have hon := fun w' => monly_any r w'
    generalize r.only = m at *
    have hmd := fun w' => made_any m w'
    unfold MadeV at hmd
    replace hb := Lib.hid hb
    replace hin := Lib.hid hin
    replace hi := Lib.hid hi
    replace hsm := Lib.hid hsm
    replace hon := Lib.hid hon
    by_cases h9 : m.kind = 9
    · have hk : kOk m.kind = true := by rw [h9]; rfl
      have hmd' : ∀ w', Calls Tryd.prog 11 #[.agg m.cells] w' fun e w'' => e = .returned (.iface 42 m.val9) ∧ G w' w'' := fun w' => by
        refine (hmd w').mono ?_
        rintro e w'' ⟨v, rfl, hg, ⟨_, rfl⟩ | ⟨h, _⟩⟩
        · exact ⟨by rw [MsgM.iface_9 h9], hg⟩
        · rw [hk] at h; cases h
      clear hmd
      have t9 : (m.kind == 9) = true := by rw [h9]; rfl
      have haf := fun w' => asFeed_yes m w'
      have hmf := fun w' => mustFeed_yes m w'
      have hfl : ∀ w', Calls Tryd.prog 13 #[.iface 42 m.val9] w' fun e w'' => e = .returned (.tuple #[.agg m.cells, .bool true]) ∧ G w' w'' := fun w' => by
        have h := flat_any m w' hk
        rw [MsgM.iface_9 h9, honly] at h
        exact h
      have hsa : ∀ w', G w w' → Calls Tryd.prog 14 #[.agg m.cells, .agg m.cells] w' fun e w'' => e = .returned (.bool true) ∧ G w' w'' := fun w' hg => sameMsg_yes m m w' (hin' w' hg) (hin' w' hg) rfl hok
      unfold MsgM.val9 at hmd' haf hmf hfl
      replace hmd' := Lib.hid hmd'
      replace haf := Lib.hid haf
      replace hmf := Lib.hid hmf
      replace hfl := Lib.hid hfl
      replace hsa := Lib.hid hsa
      replace h9 := Lib.hid h9
      replace hk := Lib.hid hk
      replace hok := Lib.hid hok
      replace hin' := Lib.hid hin'
      replace honly := Lib.hid honly
      go_enter Tryd.func3, Tryd.ntmps3
      go_upto_region 1 with fail
      generalize w.alloc (.cells r.cells 36) = W0 at *
      go_upto_region 3 with (first | (refine wpList_load_at rfl (by kernel_rfl) (p := .pointer (some ⟨_, 0, none⟩)) rfl LR0 ?_) | (go_at_call 8; (with_reducible refine Calls.mono hsm.out ?_); rintro e w1 ⟨rfl, hg1⟩))
      clear LR0 hsm
      have B1 := hg1.blk B0.out
      have hG1 := hg0.out.trans hg1
      have LR1 := load_blk (P := Tryd.prog) (T := 36) B1 Tryd.underlying36 rfl (by kernel_rfl)
      replace B1 := Lib.hid B1
      go_upto_region 4 with (first | (refine wpList_load_at rfl (by kernel_rfl) (p := .pointer (some ⟨_, 0, none⟩)) rfl LR1 ?_) | (go_at_call 10; (with_reducible refine Calls.mono (hon.out _) ?_); rintro e w2 ⟨rfl, hg2⟩; have B2 := hg2.blk B1.out; obtain ⟨w3, SR3, C3, hb3, hG3⟩ := store_blk (P := Tryd.prog) (T := 36) (cs := m.cells) B2 rfl (by kernel_rfl) (by kernel_rfl); have hG3' := hG3 w (hG1.trans hg2) (Nat.le_refl _); replace hG3' := Lib.hid hG3'; clear hb3 hG3 B2) | (refine wpList_store_at (ty := 36) rfl (by kernel_rfl) (p := .pointer (some ⟨w.heap.size, 0, none⟩)) (v := .agg m.cells) rfl rfl SR3 ?_; clear SR3))
      clear LR1 hon
      have hGw3 := hG3'.out
      have LR3 := load_blk (P := Tryd.prog) (T := 36) C3 Tryd.underlying36 rfl (by kernel_rfl)
      replace C3 := Lib.hid C3
      go_upto_region 5 with (first
        | (refine wpList_load_at rfl (by kernel_rfl) (p := .pointer (some ⟨w.heap.size, 0, none⟩)) rfl LR3 ?_; clear LR3)
        | (go_at_call 11; (with_reducible refine Calls.mono (hmd'.out _) ?_); rintro e w4 ⟨rfl, hg4⟩))
      have hG5 := (hGw3.trans hg4).trans (G.new w4 (.cells #[.iface 42 (.agg #[.int .i64 m.src, .int .i64 m.total, .slice m.Ae m.es.length m.ce, .int .i64 m.st.wall, .int .i64 m.st.logic, .int .i64 m.st.node, .slice m.Ag m.rgs.length m.cg])] 20))
      have C5 := (G.new w4 (.cells #[.iface 42 (.agg #[.int .i64 m.src, .int .i64 m.total, .slice m.Ae m.es.length m.ce, .int .i64 m.st.wall, .int .i64 m.st.logic, .int .i64 m.st.node, .slice m.Ag m.rgs.length m.cg])] 20)).blk (hg4.blk C3.out)
      have BV := blk_new w4 #[.iface 42 (.agg #[.int .i64 m.src, .int .i64 m.total, .slice m.Ae m.es.length m.ce, .int .i64 m.st.wall, .int .i64 m.st.logic, .int .i64 m.st.node, .slice m.Ag m.rgs.length m.cg])] 20
      generalize w4.alloc (.cells #[.iface 42 (.agg #[.int .i64 m.src, .int .i64 m.total, .slice m.Ae m.es.length m.ce, .int .i64 m.st.wall, .int .i64 m.st.logic, .int .i64 m.st.node, .slice m.Ag m.rgs.length m.cg])] 20) = w5 at *
      generalize w4.heap.size = b3 at *
      have c3 := (blk_cell BV 0).trans (show _ = some (.iface 42 (.agg #[.int .i64 m.src, .int .i64 m.total, .slice m.Ae m.es.length m.ce, .int .i64 m.st.wall, .int .i64 m.st.logic, .int .i64 m.st.node, .slice m.Ag m.rgs.length m.cg])) from rfl)
      replace C5 := Lib.hid C5
      replace BV := Lib.hid BV
      clear hg4
      go_upto_region 6 with (go_at_call 12; (with_reducible refine Calls.mono (haf.out _) ?_); rintro e w6 ⟨rfl, hg6⟩)
      have hG7 := (hG5.trans hg6).trans (G.new w6 (.cells #[.int .i64 m.src, .int .i64 m.total, .slice m.Ae m.es.length m.ce, .int .i64 m.st.wall, .int .i64 m.st.logic, .int .i64 m.st.node, .slice m.Ag m.rgs.length m.cg] 42))
      have C7 := (G.new w6 (.cells #[.int .i64 m.src, .int .i64 m.total, .slice m.Ae m.es.length m.ce, .int .i64 m.st.wall, .int .i64 m.st.logic, .int .i64 m.st.node, .slice m.Ag m.rgs.length m.cg] 42)).blk (hg6.blk C5.out)
      have BV7 := (G.new w6 (.cells #[.int .i64 m.src, .int .i64 m.total, .slice m.Ae m.es.length m.ce, .int .i64 m.st.wall, .int .i64 m.st.logic, .int .i64 m.st.node, .slice m.Ag m.rgs.length m.cg] 42)).blk (hg6.blk BV.out)
      have BF := blk_new w6 #[.int .i64 m.src, .int .i64 m.total, .slice m.Ae m.es.length m.ce, .int .i64 m.st.wall, .int .i64 m.st.logic, .int .i64 m.st.node, .slice m.Ag m.rgs.length m.cg] 42
      generalize w6.alloc (.cells #[.int .i64 m.src, .int .i64 m.total, .slice m.Ae m.es.length m.ce, .int .i64 m.st.wall, .int .i64 m.st.logic, .int .i64 m.st.node, .slice m.Ag m.rgs.length m.cg] 42) = w7 at *
      generalize w6.heap.size = b4 at *
      have k0 := (blk_cell C7 0).trans (show _ = some (.int .i64 m.kind) from rfl)
      replace C7 := Lib.hid C7
      replace BV7 := Lib.hid BV7
      replace BF := Lib.hid BF
      clear c3 C5 BV hg6 haf
      go_upto_region 8 with fail
      clear k0
      have f0 := (blk_cell BF.out 0).trans (show _ = some (.int .i64 m.src) from rfl)
      have f1 := (blk_cell BF.out 1).trans (show _ = some (.int .i64 m.total) from rfl)
      have f2 := (blk_cell BF.out 2).trans (show _ = some (.slice m.Ae m.es.length m.ce) from rfl)
      have f3 := (blk_cell BF.out 3).trans (show _ = some (.int .i64 m.st.wall) from rfl)
      have f4 := (blk_cell BF.out 4).trans (show _ = some (.int .i64 m.st.logic) from rfl)
      have f5 := (blk_cell BF.out 5).trans (show _ = some (.int .i64 m.st.node) from rfl)
      have f6 := (blk_cell BF.out 6).trans (show _ = some (.slice m.Ag m.rgs.length m.cg) from rfl)
      go_upto_region 9 with (first
        | (go_at_call 13; (with_reducible refine Calls.mono (hfl.out _) ?_); rintro e w8 ⟨rfl, hg8⟩; have CZ := blk_new w8 #[.int .i64 0, .int .i64 0, .int .i64 0, .int .i64 0, .string ⟨#[]⟩, .slice none 0 0, .int .i64 0, .int .i64 0, .int .i64 0, .int .i64 0, .slice none 0 0, .bool false, .int .i64 0, .int .i64 0, .int .i64 0, .int .i64 0, .slice none 0 0, .int .i64 0, .int .i64 0, .slice none 0 0, .slice none 0 0] 36; obtain ⟨w9, SR9, C9, hb9, hG9⟩ := store_blk (P := Tryd.prog) (T := 36) (cs := m.cells) CZ rfl (by kernel_rfl) (by kernel_rfl); have hG9' := hG9 w8 (G.new w8 _) (Nat.le_refl _); replace hG9' := Lib.hid hG9'; replace C9 := Lib.hid C9; clear hb9 hG9 CZ)
        | (refine wpList_store_at (ty := 36) rfl (by kernel_rfl) (p := .pointer (some ⟨w8.heap.size, 0, none⟩)) (v := .agg m.cells) rfl rfl SR9 ?_; clear SR9))
      have hG9w := (hG7.trans hg8).trans hG9'.out
      have C1 := Lib.hid (hG9'.out.blk (hg8.blk C7.out))
      have BV9 := Lib.hid (hG9'.out.blk (hg8.blk BV7.out))
      generalize w8.heap.size = b6 at *
      clear hG9' hg8 C7 BV7 BF f0 f1 f2 f3 f4 f5 f6
      have v9 := (blk_cell BV9.out 0).trans (show _ = some (.iface 42 (.agg #[.int .i64 m.src, .int .i64 m.total, .slice m.Ae m.es.length m.ce, .int .i64 m.st.wall, .int .i64 m.st.logic, .int .i64 m.st.node, .slice m.Ag m.rgs.length m.cg])) from rfl)
      go_upto_region 12 with (first
        | (go_at_call 17; (with_reducible refine Calls.mono (hmf.out _) ?_); rintro e w10 ⟨rfl, hg10⟩)
        | (go_at_call 13; (with_reducible refine Calls.mono (hfl.out _) ?_); rintro e w11 ⟨rfl, hg11⟩; have CZ := blk_new w11 #[.int .i64 0, .int .i64 0, .int .i64 0, .int .i64 0, .string ⟨#[]⟩, .slice none 0 0, .int .i64 0, .int .i64 0, .int .i64 0, .int .i64 0, .slice none 0 0, .bool false, .int .i64 0, .int .i64 0, .int .i64 0, .int .i64 0, .slice none 0 0, .int .i64 0, .int .i64 0, .slice none 0 0, .slice none 0 0] 36; obtain ⟨w12, SR12, C12, hb12, hG12⟩ := store_blk (P := Tryd.prog) (T := 36) (cs := m.cells) CZ rfl (by kernel_rfl) (by kernel_rfl); have hG12' := hG12 w11 (G.new w11 _) (Nat.le_refl _); replace hG12' := Lib.hid hG12'; replace C12 := Lib.hid C12; clear hb12 hG12 CZ)
        | (refine wpList_store_at (ty := 36) rfl (by kernel_rfl) (p := .pointer (some ⟨w11.heap.size, 0, none⟩)) (v := .agg m.cells) rfl rfl SR12 ?_; clear SR12))
      have hgz := (hg10.trans hg11).trans hG12'.out
      have hGz := hG9w.trans hgz
      have L6 := fun w' (h : G w12 w') => load_blk (P := Tryd.prog) (T := 36) (h.blk (hgz.blk C9.out)) Tryd.underlying36 rfl (by kernel_rfl)
      have L1 := fun w' (h : G w12 w') => load_blk (P := Tryd.prog) (T := 36) (h.blk (hgz.blk C1.out)) Tryd.underlying36 rfl (by kernel_rfl)
      have L8 := fun w' (h : G w12 w') => load_blk (P := Tryd.prog) (T := 36) (h.blk C12.out) Tryd.underlying36 rfl (by kernel_rfl)
      have l6 := L6 _ (G.refl _)
      have l1 := L1 _ (G.refl _)
      replace L1 := Lib.hid L1
      replace L8 := Lib.hid L8
      replace C9 := Lib.hid C9
      replace C1 := Lib.hid C1
      clear L6 hg10 hg11 hG12' v9 BV9
      go_wp2_with (first
        | (refine wpList_load_at (ty := 36) rfl (by kernel_rfl) (p := .pointer (some ⟨b6, 0, none⟩)) rfl l6 ?_; clear l6)
        | (refine wpList_load_at (ty := 36) rfl (by kernel_rfl) (p := .pointer (some ⟨w.heap.size, 0, none⟩)) rfl l1 ?_; clear l1)
        | (refine wpList_load_at (ty := 36) rfl (by kernel_rfl) (p := .pointer (some ⟨w11.heap.size, 0, none⟩)) rfl l8 ?_; clear l8)
        | (refine wpList_load_at (ty := 36) rfl (by kernel_rfl) (p := .pointer (some ⟨w.heap.size, 0, none⟩)) rfl l1b ?_; clear l1b)
        | (go_at_call 14; (with_reducible refine Calls.mono (hsa.out _ (hGz.trans hs1)) ?_); rintro e w14 ⟨rfl, hs2⟩; have hG14 := (hGz.trans hs1).trans hs2)
        | (go_at_call 14; (with_reducible refine Calls.mono (hsa.out _ hGz) ?_); rintro e w13 ⟨rfl, hs1⟩; have l8 := L8.out _ hs1; have l1b := L1.out _ hs1)
        | (go_at_call 9; (with_reducible refine Calls.mono (haw.out _) ?_); rintro e w15 ⟨rfl, hg15⟩))
      go_ret
      exact ⟨rfl, hG14.trans hg15⟩
    · have hmd' : ∀ w', Calls Tryd.prog 11 #[.agg m.cells] w' fun e w'' => ∃ v, e = .returned v ∧ G w' w'' ∧ NotFeed v := fun w' => by
        refine (hmd w').mono ?_
        rintro e w'' ⟨v, rfl, hg, ⟨hk, rfl⟩ | ⟨h, hno⟩⟩
        · exact ⟨_, rfl, hg, iface_notFeed m hk h9⟩
        · exact ⟨_, rfl, hg, hno.notFeed⟩
      clear hmd
      have t9 : (m.kind == 9) = false := by rw [beq_eq_false_iff_ne]; exact h9
      have hfl : ∀ w', Calls Tryd.prog 13 #[.iface 42 (.agg feedZ)] w' fun e w'' => e = .returned (.tuple #[.agg (MsgM.zero 9).cells, .bool true]) ∧ G w' w'' := fun w' => by
        have h := flat_any (MsgM.zero 9) w' rfl
        rw [MsgM.iface_9 rfl, MsgM.zero9] at h
        exact h
      have hsa : ∀ w', Calls Tryd.prog 14 #[.agg (MsgM.zero 9).cells, .agg (MsgM.zero 9).cells] w' fun e w'' => e = .returned (.bool true) ∧ G w' w'' := fun w' => sameMsg_yes (MsgM.zero 9) (MsgM.zero 9) w' (mzero_in _ _) (mzero_in _ _) rfl (mzero_small 9 ⟨by omega, by omega⟩)
      unfold feedZ MsgM.zero MsgM.cells at hfl
      unfold MsgM.zero MsgM.cells at hsa
      dsimp only [List.length_nil, List.length_map] at hfl hsa
      replace hmd' := Lib.hid hmd'
      replace hfl := Lib.hid hfl
      replace hsa := Lib.hid hsa
      replace h9 := Lib.hid h9
      replace hok := Lib.hid hok
      replace hin' := Lib.hid hin'
      replace honly := Lib.hid honly
      have hmf : ∀ (fn : Fn) (first cap : Array Value) (w : World), (Instr.makeFunc fn first cap).run Tryd.prog w = .ok (.func fn first cap) w := fun _ _ _ _ => rfl
      go_enter Tryd.func3, Tryd.ntmps3
      go_upto_region 1 with fail
      generalize w.alloc (.cells r.cells 36) = W0 at *
      go_upto_region 3 with (first | (refine wpList_load_at rfl (by kernel_rfl) (p := .pointer (some ⟨_, 0, none⟩)) rfl LR0 ?_) | (go_at_call 8; (with_reducible refine Calls.mono hsm.out ?_); rintro e w1 ⟨rfl, hg1⟩))
      clear LR0 hsm
      have B1 := hg1.blk B0.out
      have hG1 := hg0.out.trans hg1
      have LR1 := load_blk (P := Tryd.prog) (T := 36) B1 Tryd.underlying36 rfl (by kernel_rfl)
      replace B1 := Lib.hid B1
      go_upto_region 4 with (first | (refine wpList_load_at rfl (by kernel_rfl) (p := .pointer (some ⟨_, 0, none⟩)) rfl LR1 ?_) | (go_at_call 10; (with_reducible refine Calls.mono (hon.out _) ?_); rintro e w2 ⟨rfl, hg2⟩; have B2 := hg2.blk B1.out; obtain ⟨w3, SR3, C3, hb3, hG3⟩ := store_blk (P := Tryd.prog) (T := 36) (cs := m.cells) B2 rfl (by kernel_rfl) (by kernel_rfl); have hG3' := hG3 w (hG1.trans hg2) (Nat.le_refl _); replace hG3' := Lib.hid hG3'; clear hb3 hG3 B2) | (refine wpList_store_at (ty := 36) rfl (by kernel_rfl) (p := .pointer (some ⟨w.heap.size, 0, none⟩)) (v := .agg m.cells) rfl rfl SR3 ?_; clear SR3))
      clear LR1 hon
      have hGw3 := hG3'.out
      have LR3 := load_blk (P := Tryd.prog) (T := 36) C3 Tryd.underlying36 rfl (by kernel_rfl)
      replace C3 := Lib.hid C3
      go_upto_region 5 with (first
        | (refine wpList_load_at rfl (by kernel_rfl) (p := .pointer (some ⟨w.heap.size, 0, none⟩)) rfl LR3 ?_; clear LR3)
        | (go_at_call 11; (with_reducible refine Calls.mono (hmd'.out _) ?_); rintro e w4 ⟨v, rfl, hg4, rfl | ⟨t, u, rfl, ht⟩⟩))
      · have hnf : NotFeed .nilIface := .inl rfl
        have haf := Lib.hid (fun w' => asFeed_not hnf w')
        unfold feedZ at haf
        have hG5 := (hGw3.trans hg4).trans (G.new w4 (.cells #[.nilIface] 20))
        have C5 := (G.new w4 (.cells #[.nilIface] 20)).blk (hg4.blk C3.out)
        have BV := blk_new w4 #[.nilIface] 20
        generalize w4.alloc (.cells #[.nilIface] 20) = w5 at *
        generalize w4.heap.size = b3 at *
        have c3 := (blk_cell BV 0).trans (show _ = some (.nilIface) from rfl)
        replace C5 := Lib.hid C5
        replace BV := Lib.hid BV
        clear hg4
        go_upto_region 6 with (go_at_call 12; (with_reducible refine Calls.mono (haf.out _) ?_); rintro e w6 ⟨rfl, hg6⟩)
        have hG7 := (hG5.trans hg6).trans (G.new w6 (.cells #[.int .i64 0, .int .i64 0, .slice none 0 0, .int .i64 0, .int .i64 0, .int .i64 0, .slice none 0 0] 42))
        have C7 := (G.new w6 (.cells #[.int .i64 0, .int .i64 0, .slice none 0 0, .int .i64 0, .int .i64 0, .int .i64 0, .slice none 0 0] 42)).blk (hg6.blk C5.out)
        have BV7 := (G.new w6 (.cells #[.int .i64 0, .int .i64 0, .slice none 0 0, .int .i64 0, .int .i64 0, .int .i64 0, .slice none 0 0] 42)).blk (hg6.blk BV.out)
        have BF := blk_new w6 #[.int .i64 0, .int .i64 0, .slice none 0 0, .int .i64 0, .int .i64 0, .int .i64 0, .slice none 0 0] 42
        generalize w6.alloc (.cells #[.int .i64 0, .int .i64 0, .slice none 0 0, .int .i64 0, .int .i64 0, .int .i64 0, .slice none 0 0] 42) = w7 at *
        generalize w6.heap.size = b4 at *
        have k0 := (blk_cell C7 0).trans (show _ = some (.int .i64 m.kind) from rfl)
        replace C7 := Lib.hid C7
        replace BV7 := Lib.hid BV7
        replace BF := Lib.hid BF
        clear c3 C5 BV hg6 haf
        go_upto_region 8 with fail
        clear k0
        have f0 := (blk_cell BF.out 0).trans (show _ = some (.int .i64 0) from rfl)
        have f1 := (blk_cell BF.out 1).trans (show _ = some (.int .i64 0) from rfl)
        have f2 := (blk_cell BF.out 2).trans (show _ = some (.slice none 0 0) from rfl)
        have f3 := (blk_cell BF.out 3).trans (show _ = some (.int .i64 0) from rfl)
        have f4 := (blk_cell BF.out 4).trans (show _ = some (.int .i64 0) from rfl)
        have f5 := (blk_cell BF.out 5).trans (show _ = some (.int .i64 0) from rfl)
        have f6 := (blk_cell BF.out 6).trans (show _ = some (.slice none 0 0) from rfl)
        go_upto_region 9 with (first
          | (go_at_call 13; (with_reducible refine Calls.mono (hfl.out _) ?_); rintro e w8 ⟨rfl, hg8⟩; have CZ := blk_new w8 #[.int .i64 0, .int .i64 0, .int .i64 0, .int .i64 0, .string ⟨#[]⟩, .slice none 0 0, .int .i64 0, .int .i64 0, .int .i64 0, .int .i64 0, .slice none 0 0, .bool false, .int .i64 0, .int .i64 0, .int .i64 0, .int .i64 0, .slice none 0 0, .int .i64 0, .int .i64 0, .slice none 0 0, .slice none 0 0] 36; obtain ⟨w9, SR9, C9, hb9, hG9⟩ := store_blk (P := Tryd.prog) (T := 36) (cs := #[.int .i64 9, .int .i64 0, .int .i64 0, .int .i64 0, .string ⟨#[]⟩, .slice none 0 0, .int .i64 0, .int .i64 0, .int .i64 0, .int .i64 0, .slice none 0 0, .bool false, .int .i64 0, .int .i64 0, .int .i64 0, .int .i64 0, .slice none 0 0, .int .i64 0, .int .i64 0, .slice none 0 0, .slice none 0 0]) CZ rfl (by kernel_rfl) (by kernel_rfl); have hG9' := hG9 w8 (G.new w8 _) (Nat.le_refl _); replace hG9' := Lib.hid hG9'; replace C9 := Lib.hid C9; clear hb9 hG9 CZ)
          | (refine wpList_store_at (ty := 36) rfl (by kernel_rfl) (p := .pointer (some ⟨w8.heap.size, 0, none⟩)) (v := .agg #[.int .i64 9, .int .i64 0, .int .i64 0, .int .i64 0, .string ⟨#[]⟩, .slice none 0 0, .int .i64 0, .int .i64 0, .int .i64 0, .int .i64 0, .slice none 0 0, .bool false, .int .i64 0, .int .i64 0, .int .i64 0, .int .i64 0, .slice none 0 0, .int .i64 0, .int .i64 0, .slice none 0 0, .slice none 0 0]) rfl rfl SR9 ?_; clear SR9))
        have hG9w := (hG7.trans hg8).trans hG9'.out
        have C1 := Lib.hid (hG9'.out.blk (hg8.blk C7.out))
        have BV9 := Lib.hid (hG9'.out.blk (hg8.blk BV7.out))
        generalize w8.heap.size = b6 at *
        clear hG9' hg8 C7 BV7 BF f0 f1 f2 f3 f4 f5 f6
        have v9 := (blk_cell BV9.out 0).trans (show _ = some (.nilIface) from rfl)
        have l6 := load_blk (P := Tryd.prog) (T := 36) C9.out Tryd.underlying36 rfl (by kernel_rfl)
        have hpn : ∀ w', G w9 w' → Calls Tryd.prog 15 #[.func (.func 16) #[] #[.pointer (some ⟨b3, 0, none⟩)]] w' fun e w'' => e = .returned (.bool true) ∧ G w' w'' := fun w' hg => panics_yes 16 #[.pointer (some ⟨b3, 0, none⟩)] w' (fun w => by kernel_rfl) fun w'' hg2 => asF_any (.nilIface) hnf ⟨b3, 0, none⟩ w'' ((blk_cell ((hg.trans hg2).blk BV9.out) 0).trans rfl)
        replace hpn := Lib.hid hpn
        clear v9
        go_wp2_with (first
          | (refine wpList_load_at (ty := 36) rfl (by kernel_rfl) (p := .pointer (some ⟨b6, 0, none⟩)) rfl l6 ?_; clear l6)
          | (go_at_call 14; (with_reducible refine Calls.mono (hsa.out _) ?_); rintro e w13 ⟨rfl, hs1⟩)
          | (go_at_call 15; (with_reducible refine Calls.mono (hpn.out _ hs1) ?_); rintro e w14 ⟨rfl, hs2⟩)
          | (go_at_call 9; (with_reducible refine Calls.mono (haw.out _) ?_); rintro e w15 ⟨rfl, hg15⟩))
        go_ret
        exact ⟨rfl, ((hG9w.trans hs1).trans hs2).trans hg15⟩
      · have hnf : NotFeed (.iface t u) := .inr ⟨t, u, rfl, ht⟩
        have haf := Lib.hid (fun w' => asFeed_not hnf w')
        unfold feedZ at haf
        have hG5 := (hGw3.trans hg4).trans (G.new w4 (.cells #[.iface t u] 20))
        have C5 := (G.new w4 (.cells #[.iface t u] 20)).blk (hg4.blk C3.out)
        have BV := blk_new w4 #[.iface t u] 20
        generalize w4.alloc (.cells #[.iface t u] 20) = w5 at *
        generalize w4.heap.size = b3 at *
        have c3 := (blk_cell BV 0).trans (show _ = some (.iface t u) from rfl)
        replace C5 := Lib.hid C5
        replace BV := Lib.hid BV
        clear hg4
        go_upto_region 6 with (go_at_call 12; (with_reducible refine Calls.mono (haf.out _) ?_); rintro e w6 ⟨rfl, hg6⟩)
        have hG7 := (hG5.trans hg6).trans (G.new w6 (.cells #[.int .i64 0, .int .i64 0, .slice none 0 0, .int .i64 0, .int .i64 0, .int .i64 0, .slice none 0 0] 42))
        have C7 := (G.new w6 (.cells #[.int .i64 0, .int .i64 0, .slice none 0 0, .int .i64 0, .int .i64 0, .int .i64 0, .slice none 0 0] 42)).blk (hg6.blk C5.out)
        have BV7 := (G.new w6 (.cells #[.int .i64 0, .int .i64 0, .slice none 0 0, .int .i64 0, .int .i64 0, .int .i64 0, .slice none 0 0] 42)).blk (hg6.blk BV.out)
        have BF := blk_new w6 #[.int .i64 0, .int .i64 0, .slice none 0 0, .int .i64 0, .int .i64 0, .int .i64 0, .slice none 0 0] 42
        generalize w6.alloc (.cells #[.int .i64 0, .int .i64 0, .slice none 0 0, .int .i64 0, .int .i64 0, .int .i64 0, .slice none 0 0] 42) = w7 at *
        generalize w6.heap.size = b4 at *
        have k0 := (blk_cell C7 0).trans (show _ = some (.int .i64 m.kind) from rfl)
        replace C7 := Lib.hid C7
        replace BV7 := Lib.hid BV7
        replace BF := Lib.hid BF
        clear c3 C5 BV hg6 haf
        go_upto_region 8 with fail
        clear k0
        have f0 := (blk_cell BF.out 0).trans (show _ = some (.int .i64 0) from rfl)
        have f1 := (blk_cell BF.out 1).trans (show _ = some (.int .i64 0) from rfl)
        have f2 := (blk_cell BF.out 2).trans (show _ = some (.slice none 0 0) from rfl)
        have f3 := (blk_cell BF.out 3).trans (show _ = some (.int .i64 0) from rfl)
        have f4 := (blk_cell BF.out 4).trans (show _ = some (.int .i64 0) from rfl)
        have f5 := (blk_cell BF.out 5).trans (show _ = some (.int .i64 0) from rfl)
        have f6 := (blk_cell BF.out 6).trans (show _ = some (.slice none 0 0) from rfl)
        go_upto_region 9 with (first
          | (go_at_call 13; (with_reducible refine Calls.mono (hfl.out _) ?_); rintro e w8 ⟨rfl, hg8⟩; have CZ := blk_new w8 #[.int .i64 0, .int .i64 0, .int .i64 0, .int .i64 0, .string ⟨#[]⟩, .slice none 0 0, .int .i64 0, .int .i64 0, .int .i64 0, .int .i64 0, .slice none 0 0, .bool false, .int .i64 0, .int .i64 0, .int .i64 0, .int .i64 0, .slice none 0 0, .int .i64 0, .int .i64 0, .slice none 0 0, .slice none 0 0] 36; obtain ⟨w9, SR9, C9, hb9, hG9⟩ := store_blk (P := Tryd.prog) (T := 36) (cs := #[.int .i64 9, .int .i64 0, .int .i64 0, .int .i64 0, .string ⟨#[]⟩, .slice none 0 0, .int .i64 0, .int .i64 0, .int .i64 0, .int .i64 0, .slice none 0 0, .bool false, .int .i64 0, .int .i64 0, .int .i64 0, .int .i64 0, .slice none 0 0, .int .i64 0, .int .i64 0, .slice none 0 0, .slice none 0 0]) CZ rfl (by kernel_rfl) (by kernel_rfl); have hG9' := hG9 w8 (G.new w8 _) (Nat.le_refl _); replace hG9' := Lib.hid hG9'; replace C9 := Lib.hid C9; clear hb9 hG9 CZ)
          | (refine wpList_store_at (ty := 36) rfl (by kernel_rfl) (p := .pointer (some ⟨w8.heap.size, 0, none⟩)) (v := .agg #[.int .i64 9, .int .i64 0, .int .i64 0, .int .i64 0, .string ⟨#[]⟩, .slice none 0 0, .int .i64 0, .int .i64 0, .int .i64 0, .int .i64 0, .slice none 0 0, .bool false, .int .i64 0, .int .i64 0, .int .i64 0, .int .i64 0, .slice none 0 0, .int .i64 0, .int .i64 0, .slice none 0 0, .slice none 0 0]) rfl rfl SR9 ?_; clear SR9))
        have hG9w := (hG7.trans hg8).trans hG9'.out
        have C1 := Lib.hid (hG9'.out.blk (hg8.blk C7.out))
        have BV9 := Lib.hid (hG9'.out.blk (hg8.blk BV7.out))
        generalize w8.heap.size = b6 at *
        clear hG9' hg8 C7 BV7 BF f0 f1 f2 f3 f4 f5 f6
        have v9 := (blk_cell BV9.out 0).trans (show _ = some (.iface t u) from rfl)
        have l6 := load_blk (P := Tryd.prog) (T := 36) C9.out Tryd.underlying36 rfl (by kernel_rfl)
        have hpn : ∀ w', G w9 w' → Calls Tryd.prog 15 #[.func (.func 16) #[] #[.pointer (some ⟨b3, 0, none⟩)]] w' fun e w'' => e = .returned (.bool true) ∧ G w' w'' := fun w' hg => panics_yes 16 #[.pointer (some ⟨b3, 0, none⟩)] w' (fun w => by kernel_rfl) fun w'' hg2 => asF_any (.iface t u) hnf ⟨b3, 0, none⟩ w'' ((blk_cell ((hg.trans hg2).blk BV9.out) 0).trans rfl)
        replace hpn := Lib.hid hpn
        clear v9
        go_wp2_with (first
          | (refine wpList_load_at (ty := 36) rfl (by kernel_rfl) (p := .pointer (some ⟨b6, 0, none⟩)) rfl l6 ?_; clear l6)
          | (go_at_call 14; (with_reducible refine Calls.mono (hsa.out _) ?_); rintro e w13 ⟨rfl, hs1⟩)
          | (go_at_call 15; (with_reducible refine Calls.mono (hpn.out _ hs1) ?_); rintro e w14 ⟨rfl, hs2⟩)
          | (go_at_call 9; (with_reducible refine Calls.mono (haw.out _) ?_); rintro e w15 ⟨rfl, hg15⟩))
        go_ret
        exact ⟨rfl, ((hG9w.trans hs1).trans hs2).trans hg15⟩
end Go.Proofs.YtheogchkelmeeaaDoor

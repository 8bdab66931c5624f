/- penstocklaw10.made: a value of a message's own type, or of another one. No condition. -/
import Derived.Test.YtheogchkelmeeaaDoorMsgEncQMsgAs
namespace Go.Proofs.YtheogchkelmeeaaDoor
open Go.RowKit

/-- A value that is no message. -/
def NoMsg (v : Value) : Prop := v = .nilIface ∨ ∃ t u, v = .iface t u ∧ OtherT t
def MadeV (m : MsgM) (v : Value) : Prop := (kOk m.kind = true ∧ v = m.iface) ∨ (kOk m.kind = false ∧ NoMsg v)
set_option maxRecDepth 100000 in
set_option maxHeartbeats 8000000 in
theorem made_any (r : MsgM) (w : World) : Calls Tryd.prog 11 #[.agg r.cells] w fun e w' => ∃ v, e = .returned v ∧ G w w' ∧ MadeV r v := by
  have hg := G.new w (.cells r.cells 36)
  have B0 := blk_new w r.cells 36
  replace hg := Lib.hid hg
  replace B0 := Lib.hid B0
  go_enter Tryd.func11, Tryd.ntmps11
  go_upto_region 1 with fail
  generalize w.alloc (.cells r.cells 36) = W0 at *
  have g0 := (blk_cell B0.out 0).trans (show _ = some (.int .i64 r.kind) from rfl)
  have tab : r.kind = 10 ∨ r.kind = 11 ∨ (r.kind = 1 ∨ r.kind = 2 ∨ r.kind = 3 ∨ r.kind = 4 ∨ r.kind = 5 ∨ r.kind = 6 ∨ r.kind = 7 ∨ r.kind = 8 ∨ r.kind = 9) ∨ ¬ (1 ≤ r.kind ∧ r.kind ≤ 11) := by omega
  rcases tab with hk | hk | (hk | hk | hk | hk | hk | hk | hk | hk | hk) | hk
  · skip
    have t1 : (r.kind == 1) = false := by rw [hk]; rfl
    have t2 : (r.kind == 2) = false := by rw [hk]; rfl
    have t3 : (r.kind == 3) = false := by rw [hk]; rfl
    have t4 : (r.kind == 4) = false := by rw [hk]; rfl
    have t5 : (r.kind == 5) = false := by rw [hk]; rfl
    have t6 : (r.kind == 6) = false := by rw [hk]; rfl
    have t7 : (r.kind == 7) = false := by rw [hk]; rfl
    have t8 : (r.kind == 8) = false := by rw [hk]; rfl
    have t9 : (r.kind == 9) = false := by rw [hk]; rfl
    have t10 : (r.kind == 10) = true := by rw [hk]; rfl
    have g1 := (blk_cell B0.out 1).trans (show _ = some (.int .i64 (r.x1)) from rfl)
    have g2 := (blk_cell B0.out 2).trans (show _ = some (.int .i64 (r.x2)) from rfl)
    have g3 := (blk_cell B0.out 3).trans (show _ = some (.int .i64 (r.x3)) from rfl)
    replace hk := Lib.hid hk
    go_wp2_with fail
    go_ret
    exact ⟨_, rfl, hg.out.trans (G.new _ _), .inr ⟨by unfold kOk; rw [hk.out]; rfl, .inr ⟨_, _, rfl, by unfold OtherT; decide⟩⟩⟩
  · skip
    have t1 : (r.kind == 1) = false := by rw [hk]; rfl
    have t2 : (r.kind == 2) = false := by rw [hk]; rfl
    have t3 : (r.kind == 3) = false := by rw [hk]; rfl
    have t4 : (r.kind == 4) = false := by rw [hk]; rfl
    have t5 : (r.kind == 5) = false := by rw [hk]; rfl
    have t6 : (r.kind == 6) = false := by rw [hk]; rfl
    have t7 : (r.kind == 7) = false := by rw [hk]; rfl
    have t8 : (r.kind == 8) = false := by rw [hk]; rfl
    have t9 : (r.kind == 9) = false := by rw [hk]; rfl
    have t10 : (r.kind == 10) = false := by rw [hk]; rfl
    have t11 : (r.kind == 11) = true := by rw [hk]; rfl
    have g17 := (blk_cell B0.out 17).trans (show _ = some (.int .i64 (r.src)) from rfl)
    replace hk := Lib.hid hk
    go_wp2_with fail
    go_ret
    exact ⟨_, rfl, hg.out, .inr ⟨by unfold kOk; rw [hk.out]; rfl, .inr ⟨_, _, rfl, by unfold OtherT; decide⟩⟩⟩
  · skip
    have t1 : (r.kind == 1) = true := by rw [hk]; rfl
    have g1 := (blk_cell B0.out 1).trans (show _ = some (.int .i64 (r.x1)) from rfl)
    have g2 := (blk_cell B0.out 2).trans (show _ = some (.int .i64 (r.x2)) from rfl)
    have g3 := (blk_cell B0.out 3).trans (show _ = some (.int .i64 (r.x3)) from rfl)
    have g4 := (blk_cell B0.out 4).trans (show _ = some (.string r.key) from rfl)
    have g5 := (blk_cell B0.out 5).trans (show _ = some (.slice r.Ap r.ps.length r.cp) from rfl)
    have g6 := (blk_cell B0.out 6).trans (show _ = some (.int .i64 (r.st.wall)) from rfl)
    have g7 := (blk_cell B0.out 7).trans (show _ = some (.int .i64 (r.st.logic)) from rfl)
    have g8 := (blk_cell B0.out 8).trans (show _ = some (.int .i64 (r.st.node)) from rfl)
    replace hk := Lib.hid hk
    go_wp2_with fail
    go_ret
    exact ⟨_, rfl, hg.out, .inl ⟨by unfold kOk; rw [hk.out]; rfl, by rw [MsgM.iface_1 hk.out]; rfl⟩⟩
  · skip
    have t1 : (r.kind == 1) = false := by rw [hk]; rfl
    have t2 : (r.kind == 2) = true := by rw [hk]; rfl
    have g1 := (blk_cell B0.out 1).trans (show _ = some (.int .i64 (r.x1)) from rfl)
    have g2 := (blk_cell B0.out 2).trans (show _ = some (.int .i64 (r.x2)) from rfl)
    have g3 := (blk_cell B0.out 3).trans (show _ = some (.int .i64 (r.x3)) from rfl)
    have g9 := (blk_cell B0.out 9).trans (show _ = some (.int .i64 (r.code)) from rfl)
    have g6 := (blk_cell B0.out 6).trans (show _ = some (.int .i64 (r.st.wall)) from rfl)
    have g7 := (blk_cell B0.out 7).trans (show _ = some (.int .i64 (r.st.logic)) from rfl)
    have g8 := (blk_cell B0.out 8).trans (show _ = some (.int .i64 (r.st.node)) from rfl)
    have g10 := (blk_cell B0.out 10).trans (show _ = some (.slice r.An r.firsts.length r.cn) from rfl)
    replace hk := Lib.hid hk
    go_wp2_with fail
    go_ret
    exact ⟨_, rfl, hg.out, .inl ⟨by unfold kOk; rw [hk.out]; rfl, by rw [MsgM.iface_2 hk.out]; rfl⟩⟩
  · skip
    have t1 : (r.kind == 1) = false := by rw [hk]; rfl
    have t2 : (r.kind == 2) = false := by rw [hk]; rfl
    have t3 : (r.kind == 3) = true := by rw [hk]; rfl
    have g1 := (blk_cell B0.out 1).trans (show _ = some (.int .i64 (r.x1)) from rfl)
    have g2 := (blk_cell B0.out 2).trans (show _ = some (.int .i64 (r.x2)) from rfl)
    have g3 := (blk_cell B0.out 3).trans (show _ = some (.int .i64 (r.x3)) from rfl)
    have g11 := (blk_cell B0.out 11).trans (show _ = some (.bool r.yes) from rfl)
    have g6 := (blk_cell B0.out 6).trans (show _ = some (.int .i64 (r.st.wall)) from rfl)
    have g7 := (blk_cell B0.out 7).trans (show _ = some (.int .i64 (r.st.logic)) from rfl)
    have g8 := (blk_cell B0.out 8).trans (show _ = some (.int .i64 (r.st.node)) from rfl)
    replace hk := Lib.hid hk
    go_wp2_with fail
    go_ret
    exact ⟨_, rfl, hg.out, .inl ⟨by unfold kOk; rw [hk.out]; rfl, by rw [MsgM.iface_3 hk.out]; rfl⟩⟩
  · skip
    have t1 : (r.kind == 1) = false := by rw [hk]; rfl
    have t2 : (r.kind == 2) = false := by rw [hk]; rfl
    have t3 : (r.kind == 3) = false := by rw [hk]; rfl
    have t4 : (r.kind == 4) = true := by rw [hk]; rfl
    have g1 := (blk_cell B0.out 1).trans (show _ = some (.int .i64 (r.x1)) from rfl)
    have g2 := (blk_cell B0.out 2).trans (show _ = some (.int .i64 (r.x2)) from rfl)
    have g3 := (blk_cell B0.out 3).trans (show _ = some (.int .i64 (r.x3)) from rfl)
    replace hk := Lib.hid hk
    go_wp2_with fail
    go_ret
    exact ⟨_, rfl, hg.out, .inl ⟨by unfold kOk; rw [hk.out]; rfl, by rw [MsgM.iface_4 hk.out]; rfl⟩⟩
  · skip
    have t1 : (r.kind == 1) = false := by rw [hk]; rfl
    have t2 : (r.kind == 2) = false := by rw [hk]; rfl
    have t3 : (r.kind == 3) = false := by rw [hk]; rfl
    have t4 : (r.kind == 4) = false := by rw [hk]; rfl
    have t5 : (r.kind == 5) = true := by rw [hk]; rfl
    have g1 := (blk_cell B0.out 1).trans (show _ = some (.int .i64 (r.x1)) from rfl)
    have g2 := (blk_cell B0.out 2).trans (show _ = some (.int .i64 (r.x2)) from rfl)
    have g3 := (blk_cell B0.out 3).trans (show _ = some (.int .i64 (r.x3)) from rfl)
    have g6 := (blk_cell B0.out 6).trans (show _ = some (.int .i64 (r.st.wall)) from rfl)
    have g7 := (blk_cell B0.out 7).trans (show _ = some (.int .i64 (r.st.logic)) from rfl)
    have g8 := (blk_cell B0.out 8).trans (show _ = some (.int .i64 (r.st.node)) from rfl)
    have g10 := (blk_cell B0.out 10).trans (show _ = some (.slice r.An r.firsts.length r.cn) from rfl)
    replace hk := Lib.hid hk
    go_wp2_with fail
    go_ret
    exact ⟨_, rfl, hg.out, .inl ⟨by unfold kOk; rw [hk.out]; rfl, by rw [MsgM.iface_5 hk.out]; rfl⟩⟩
  · skip
    have t1 : (r.kind == 1) = false := by rw [hk]; rfl
    have t2 : (r.kind == 2) = false := by rw [hk]; rfl
    have t3 : (r.kind == 3) = false := by rw [hk]; rfl
    have t4 : (r.kind == 4) = false := by rw [hk]; rfl
    have t5 : (r.kind == 5) = false := by rw [hk]; rfl
    have t6 : (r.kind == 6) = true := by rw [hk]; rfl
    have g12 := (blk_cell B0.out 12).trans (show _ = some (.int .i64 (r.z1)) from rfl)
    have g13 := (blk_cell B0.out 13).trans (show _ = some (.int .i64 (r.z2)) from rfl)
    have g14 := (blk_cell B0.out 14).trans (show _ = some (.int .i64 (r.z3)) from rfl)
    have g15 := (blk_cell B0.out 15).trans (show _ = some (.int .i64 (r.z4)) from rfl)
    have g6 := (blk_cell B0.out 6).trans (show _ = some (.int .i64 (r.st.wall)) from rfl)
    have g7 := (blk_cell B0.out 7).trans (show _ = some (.int .i64 (r.st.logic)) from rfl)
    have g8 := (blk_cell B0.out 8).trans (show _ = some (.int .i64 (r.st.node)) from rfl)
    have g16 := (blk_cell B0.out 16).trans (show _ = some (.slice r.As r.sms.length r.cs) from rfl)
    replace hk := Lib.hid hk
    go_wp2_with fail
    go_ret
    exact ⟨_, rfl, hg.out, .inl ⟨by unfold kOk; rw [hk.out]; rfl, by rw [MsgM.iface_6 hk.out]; rfl⟩⟩
  · skip
    have t1 : (r.kind == 1) = false := by rw [hk]; rfl
    have t2 : (r.kind == 2) = false := by rw [hk]; rfl
    have t3 : (r.kind == 3) = false := by rw [hk]; rfl
    have t4 : (r.kind == 4) = false := by rw [hk]; rfl
    have t5 : (r.kind == 5) = false := by rw [hk]; rfl
    have t6 : (r.kind == 6) = false := by rw [hk]; rfl
    have t7 : (r.kind == 7) = true := by rw [hk]; rfl
    have g12 := (blk_cell B0.out 12).trans (show _ = some (.int .i64 (r.z1)) from rfl)
    have g13 := (blk_cell B0.out 13).trans (show _ = some (.int .i64 (r.z2)) from rfl)
    have g14 := (blk_cell B0.out 14).trans (show _ = some (.int .i64 (r.z3)) from rfl)
    have g15 := (blk_cell B0.out 15).trans (show _ = some (.int .i64 (r.z4)) from rfl)
    replace hk := Lib.hid hk
    go_wp2_with fail
    go_ret
    exact ⟨_, rfl, hg.out, .inl ⟨by unfold kOk; rw [hk.out]; rfl, by rw [MsgM.iface_7 hk.out]; rfl⟩⟩
  · skip
    have t1 : (r.kind == 1) = false := by rw [hk]; rfl
    have t2 : (r.kind == 2) = false := by rw [hk]; rfl
    have t3 : (r.kind == 3) = false := by rw [hk]; rfl
    have t4 : (r.kind == 4) = false := by rw [hk]; rfl
    have t5 : (r.kind == 5) = false := by rw [hk]; rfl
    have t6 : (r.kind == 6) = false := by rw [hk]; rfl
    have t7 : (r.kind == 7) = false := by rw [hk]; rfl
    have t8 : (r.kind == 8) = true := by rw [hk]; rfl
    have g17 := (blk_cell B0.out 17).trans (show _ = some (.int .i64 (r.src)) from rfl)
    replace hk := Lib.hid hk
    go_wp2_with fail
    go_ret
    exact ⟨_, rfl, hg.out, .inl ⟨by unfold kOk; rw [hk.out]; rfl, by rw [MsgM.iface_8 hk.out]; rfl⟩⟩
  · skip
    have t1 : (r.kind == 1) = false := by rw [hk]; rfl
    have t2 : (r.kind == 2) = false := by rw [hk]; rfl
    have t3 : (r.kind == 3) = false := by rw [hk]; rfl
    have t4 : (r.kind == 4) = false := by rw [hk]; rfl
    have t5 : (r.kind == 5) = false := by rw [hk]; rfl
    have t6 : (r.kind == 6) = false := by rw [hk]; rfl
    have t7 : (r.kind == 7) = false := by rw [hk]; rfl
    have t8 : (r.kind == 8) = false := by rw [hk]; rfl
    have t9 : (r.kind == 9) = true := by rw [hk]; rfl
    have g17 := (blk_cell B0.out 17).trans (show _ = some (.int .i64 (r.src)) from rfl)
    have g18 := (blk_cell B0.out 18).trans (show _ = some (.int .i64 (r.total)) from rfl)
    have g19 := (blk_cell B0.out 19).trans (show _ = some (.slice r.Ae r.es.length r.ce) from rfl)
    have g6 := (blk_cell B0.out 6).trans (show _ = some (.int .i64 (r.st.wall)) from rfl)
    have g7 := (blk_cell B0.out 7).trans (show _ = some (.int .i64 (r.st.logic)) from rfl)
    have g8 := (blk_cell B0.out 8).trans (show _ = some (.int .i64 (r.st.node)) from rfl)
    have g20 := (blk_cell B0.out 20).trans (show _ = some (.slice r.Ag r.rgs.length r.cg) from rfl)
    replace hk := Lib.hid hk
    go_wp2_with fail
    go_ret
    exact ⟨_, rfl, hg.out, .inl ⟨by unfold kOk; rw [hk.out]; rfl, by rw [MsgM.iface_9 hk.out]; rfl⟩⟩
  · skip
    have t1 : (r.kind == 1) = false := by rw [beq_eq_false_iff_ne]; omega
    have t2 : (r.kind == 2) = false := by rw [beq_eq_false_iff_ne]; omega
    have t3 : (r.kind == 3) = false := by rw [beq_eq_false_iff_ne]; omega
    have t4 : (r.kind == 4) = false := by rw [beq_eq_false_iff_ne]; omega
    have t5 : (r.kind == 5) = false := by rw [beq_eq_false_iff_ne]; omega
    have t6 : (r.kind == 6) = false := by rw [beq_eq_false_iff_ne]; omega
    have t7 : (r.kind == 7) = false := by rw [beq_eq_false_iff_ne]; omega
    have t8 : (r.kind == 8) = false := by rw [beq_eq_false_iff_ne]; omega
    have t9 : (r.kind == 9) = false := by rw [beq_eq_false_iff_ne]; omega
    have t10 : (r.kind == 10) = false := by rw [beq_eq_false_iff_ne]; omega
    have t11 : (r.kind == 11) = false := by rw [beq_eq_false_iff_ne]; omega
    replace hk := Lib.hid hk
    go_wp2_with fail
    go_ret
    exact ⟨_, rfl, hg.out, .inr ⟨decide_eq_false (by have := hk.out; omega), .inl rfl⟩⟩
end Go.Proofs.YtheogchkelmeeaaDoor

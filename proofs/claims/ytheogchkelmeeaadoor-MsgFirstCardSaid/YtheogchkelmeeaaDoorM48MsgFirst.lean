/- Several texts in one: MsgMade, MsgPanic, Cell2, AsFeed, MsgNo. -/
import Derived.Test.YtheogchkelmeeaaDoorMsgEncQMsgFirst
import Derived.Defers
import Derived.Recover
import Derived.Test.YtheogchkelmeeaaDoorM34MsgFirst
/- penstocklaw10.made: a value of a message's own type, or of another one. No condition. -/
namespace Go.Proofs.YtheogchkelmeeaaDoor
open Go.RowKit

/-- A value that is no message. -/
def NoMsg (v : Value) : Prop := v = .nilIface ∨ ∃ t u, v = .iface t u ∧ OtherT t
def MadeV (m : MsgM) (v : Value) : Prop := (kOk m.kind = true ∧ v = m.iface) ∨ (kOk m.kind = false ∧ NoMsg v)
set_option maxRecDepth 100000 in
set_option maxHeartbeats 8000000 in
theorem made_any (r : MsgM) (w : World) : Calls Tryd.prog 11 #[.agg r.cells] w fun e w' => ∃ v, e = .returned v ∧ G w w' ∧ MadeV r v := by
  have hg := G.new w (.cells r.cells 36)
  have B0 := blk_new w r.cells 36
  replace hg := Lib.hid hg
  replace B0 := Lib.hid B0
  go_enter Tryd.func11, Tryd.ntmps11
  go_upto_region 1 with fail
  generalize w.alloc (.cells r.cells 36) = W0 at *
  have g0 := (blk_cell B0.out 0).trans (show _ = some (.int .i64 r.kind) from rfl)
  have tab : r.kind = 10 ∨ r.kind = 11 ∨ (r.kind = 1 ∨ r.kind = 2 ∨ r.kind = 3 ∨ r.kind = 4 ∨ r.kind = 5 ∨ r.kind = 6 ∨ r.kind = 7 ∨ r.kind = 8 ∨ r.kind = 9) ∨ ¬ (1 ≤ r.kind ∧ r.kind ≤ 11) := by omega
  rcases tab with hk | hk | (hk | hk | hk | hk | hk | hk | hk | hk | hk) | hk
  · skip
    have t1 : (r.kind == 1) = false := by rw [hk]; rfl
    have t2 : (r.kind == 2) = false := by rw [hk]; rfl
    have t3 : (r.kind == 3) = false := by rw [hk]; rfl
    have t4 : (r.kind == 4) = false := by rw [hk]; rfl
    have t5 : (r.kind == 5) = false := by rw [hk]; rfl
    have t6 : (r.kind == 6) = false := by rw [hk]; rfl
    have t7 : (r.kind == 7) = false := by rw [hk]; rfl
    have t8 : (r.kind == 8) = false := by rw [hk]; rfl
    have t9 : (r.kind == 9) = false := by rw [hk]; rfl
    have t10 : (r.kind == 10) = true := by rw [hk]; rfl
    have g1 := (blk_cell B0.out 1).trans (show _ = some (.int .i64 (r.x1)) from rfl)
    have g2 := (blk_cell B0.out 2).trans (show _ = some (.int .i64 (r.x2)) from rfl)
    have g3 := (blk_cell B0.out 3).trans (show _ = some (.int .i64 (r.x3)) from rfl)
    replace hk := Lib.hid hk
    go_wp2_with fail
    go_ret
    exact ⟨_, rfl, hg.out.trans (G.new _ _), .inr ⟨by unfold kOk; rw [hk.out]; rfl, .inr ⟨_, _, rfl, by unfold OtherT; decide⟩⟩⟩
  · skip
    have t1 : (r.kind == 1) = false := by rw [hk]; rfl
    have t2 : (r.kind == 2) = false := by rw [hk]; rfl
    have t3 : (r.kind == 3) = false := by rw [hk]; rfl
    have t4 : (r.kind == 4) = false := by rw [hk]; rfl
    have t5 : (r.kind == 5) = false := by rw [hk]; rfl
    have t6 : (r.kind == 6) = false := by rw [hk]; rfl
    have t7 : (r.kind == 7) = false := by rw [hk]; rfl
    have t8 : (r.kind == 8) = false := by rw [hk]; rfl
    have t9 : (r.kind == 9) = false := by rw [hk]; rfl
    have t10 : (r.kind == 10) = false := by rw [hk]; rfl
    have t11 : (r.kind == 11) = true := by rw [hk]; rfl
    have g17 := (blk_cell B0.out 17).trans (show _ = some (.int .i64 (r.src)) from rfl)
    replace hk := Lib.hid hk
    go_wp2_with fail
    go_ret
    exact ⟨_, rfl, hg.out, .inr ⟨by unfold kOk; rw [hk.out]; rfl, .inr ⟨_, _, rfl, by unfold OtherT; decide⟩⟩⟩
  · skip
    have t1 : (r.kind == 1) = true := by rw [hk]; rfl
    have g1 := (blk_cell B0.out 1).trans (show _ = some (.int .i64 (r.x1)) from rfl)
    have g2 := (blk_cell B0.out 2).trans (show _ = some (.int .i64 (r.x2)) from rfl)
    have g3 := (blk_cell B0.out 3).trans (show _ = some (.int .i64 (r.x3)) from rfl)
    have g4 := (blk_cell B0.out 4).trans (show _ = some (.string r.key) from rfl)
    have g5 := (blk_cell B0.out 5).trans (show _ = some (.slice r.Ap r.ps.length r.cp) from rfl)
    have g6 := (blk_cell B0.out 6).trans (show _ = some (.int .i64 (r.st.wall)) from rfl)
    have g7 := (blk_cell B0.out 7).trans (show _ = some (.int .i64 (r.st.logic)) from rfl)
    have g8 := (blk_cell B0.out 8).trans (show _ = some (.int .i64 (r.st.node)) from rfl)
    replace hk := Lib.hid hk
    go_wp2_with fail
    go_ret
    exact ⟨_, rfl, hg.out, .inl ⟨by unfold kOk; rw [hk.out]; rfl, by rw [MsgM.iface_1 hk.out]; rfl⟩⟩
  · skip
    have t1 : (r.kind == 1) = false := by rw [hk]; rfl
    have t2 : (r.kind == 2) = true := by rw [hk]; rfl
    have g1 := (blk_cell B0.out 1).trans (show _ = some (.int .i64 (r.x1)) from rfl)
    have g2 := (blk_cell B0.out 2).trans (show _ = some (.int .i64 (r.x2)) from rfl)
    have g3 := (blk_cell B0.out 3).trans (show _ = some (.int .i64 (r.x3)) from rfl)
    have g9 := (blk_cell B0.out 9).trans (show _ = some (.int .i64 (r.code)) from rfl)
    have g6 := (blk_cell B0.out 6).trans (show _ = some (.int .i64 (r.st.wall)) from rfl)
    have g7 := (blk_cell B0.out 7).trans (show _ = some (.int .i64 (r.st.logic)) from rfl)
    have g8 := (blk_cell B0.out 8).trans (show _ = some (.int .i64 (r.st.node)) from rfl)
    have g10 := (blk_cell B0.out 10).trans (show _ = some (.slice r.An r.firsts.length r.cn) from rfl)
    replace hk := Lib.hid hk
    go_wp2_with fail
    go_ret
    exact ⟨_, rfl, hg.out, .inl ⟨by unfold kOk; rw [hk.out]; rfl, by rw [MsgM.iface_2 hk.out]; rfl⟩⟩
  · skip
    have t1 : (r.kind == 1) = false := by rw [hk]; rfl
    have t2 : (r.kind == 2) = false := by rw [hk]; rfl
    have t3 : (r.kind == 3) = true := by rw [hk]; rfl
    have g1 := (blk_cell B0.out 1).trans (show _ = some (.int .i64 (r.x1)) from rfl)
    have g2 := (blk_cell B0.out 2).trans (show _ = some (.int .i64 (r.x2)) from rfl)
    have g3 := (blk_cell B0.out 3).trans (show _ = some (.int .i64 (r.x3)) from rfl)
    have g11 := (blk_cell B0.out 11).trans (show _ = some (.bool r.yes) from rfl)
    have g6 := (blk_cell B0.out 6).trans (show _ = some (.int .i64 (r.st.wall)) from rfl)
    have g7 := (blk_cell B0.out 7).trans (show _ = some (.int .i64 (r.st.logic)) from rfl)
    have g8 := (blk_cell B0.out 8).trans (show _ = some (.int .i64 (r.st.node)) from rfl)
    replace hk := Lib.hid hk
    go_wp2_with fail
    go_ret
    exact ⟨_, rfl, hg.out, .inl ⟨by unfold kOk; rw [hk.out]; rfl, by rw [MsgM.iface_3 hk.out]; rfl⟩⟩
  · skip
    have t1 : (r.kind == 1) = false := by rw [hk]; rfl
    have t2 : (r.kind == 2) = false := by rw [hk]; rfl
    have t3 : (r.kind == 3) = false := by rw [hk]; rfl
    have t4 : (r.kind == 4) = true := by rw [hk]; rfl
    have g1 := (blk_cell B0.out 1).trans (show _ = some (.int .i64 (r.x1)) from rfl)
    have g2 := (blk_cell B0.out 2).trans (show _ = some (.int .i64 (r.x2)) from rfl)
    have g3 := (blk_cell B0.out 3).trans (show _ = some (.int .i64 (r.x3)) from rfl)
    replace hk := Lib.hid hk
    go_wp2_with fail
    go_ret
    exact ⟨_, rfl, hg.out, .inl ⟨by unfold kOk; rw [hk.out]; rfl, by rw [MsgM.iface_4 hk.out]; rfl⟩⟩
  · skip
    have t1 : (r.kind == 1) = false := by rw [hk]; rfl
    have t2 : (r.kind == 2) = false := by rw [hk]; rfl
    have t3 : (r.kind == 3) = false := by rw [hk]; rfl
    have t4 : (r.kind == 4) = false := by rw [hk]; rfl
    have t5 : (r.kind == 5) = true := by rw [hk]; rfl
    have g1 := (blk_cell B0.out 1).trans (show _ = some (.int .i64 (r.x1)) from rfl)
    have g2 := (blk_cell B0.out 2).trans (show _ = some (.int .i64 (r.x2)) from rfl)
    have g3 := (blk_cell B0.out 3).trans (show _ = some (.int .i64 (r.x3)) from rfl)
    have g6 := (blk_cell B0.out 6).trans (show _ = some (.int .i64 (r.st.wall)) from rfl)
    have g7 := (blk_cell B0.out 7).trans (show _ = some (.int .i64 (r.st.logic)) from rfl)
    have g8 := (blk_cell B0.out 8).trans (show _ = some (.int .i64 (r.st.node)) from rfl)
    have g10 := (blk_cell B0.out 10).trans (show _ = some (.slice r.An r.firsts.length r.cn) from rfl)
    replace hk := Lib.hid hk
    go_wp2_with fail
    go_ret
    exact ⟨_, rfl, hg.out, .inl ⟨by unfold kOk; rw [hk.out]; rfl, by rw [MsgM.iface_5 hk.out]; rfl⟩⟩
  · skip
    have t1 : (r.kind == 1) = false := by rw [hk]; rfl
    have t2 : (r.kind == 2) = false := by rw [hk]; rfl
    have t3 : (r.kind == 3) = false := by rw [hk]; rfl
    have t4 : (r.kind == 4) = false := by rw [hk]; rfl
    have t5 : (r.kind == 5) = false := by rw [hk]; rfl
    have t6 : (r.kind == 6) = true := by rw [hk]; rfl
    have g12 := (blk_cell B0.out 12).trans (show _ = some (.int .i64 (r.z1)) from rfl)
    have g13 := (blk_cell B0.out 13).trans (show _ = some (.int .i64 (r.z2)) from rfl)
    have g14 := (blk_cell B0.out 14).trans (show _ = some (.int .i64 (r.z3)) from rfl)
    have g15 := (blk_cell B0.out 15).trans (show _ = some (.int .i64 (r.z4)) from rfl)
    have g6 := (blk_cell B0.out 6).trans (show _ = some (.int .i64 (r.st.wall)) from rfl)
    have g7 := (blk_cell B0.out 7).trans (show _ = some (.int .i64 (r.st.logic)) from rfl)
    have g8 := (blk_cell B0.out 8).trans (show _ = some (.int .i64 (r.st.node)) from rfl)
    have g16 := (blk_cell B0.out 16).trans (show _ = some (.slice r.As r.sms.length r.cs) from rfl)
    replace hk := Lib.hid hk
    go_wp2_with fail
    go_ret
    exact ⟨_, rfl, hg.out, .inl ⟨by unfold kOk; rw [hk.out]; rfl, by rw [MsgM.iface_6 hk.out]; rfl⟩⟩
  · skip
    have t1 : (r.kind == 1) = false := by rw [hk]; rfl
    have t2 : (r.kind == 2) = false := by rw [hk]; rfl
    have t3 : (r.kind == 3) = false := by rw [hk]; rfl
    have t4 : (r.kind == 4) = false := by rw [hk]; rfl
    have t5 : (r.kind == 5) = false := by rw [hk]; rfl
    have t6 : (r.kind == 6) = false := by rw [hk]; rfl
    have t7 : (r.kind == 7) = true := by rw [hk]; rfl
    have g12 := (blk_cell B0.out 12).trans (show _ = some (.int .i64 (r.z1)) from rfl)
    have g13 := (blk_cell B0.out 13).trans (show _ = some (.int .i64 (r.z2)) from rfl)
    have g14 := (blk_cell B0.out 14).trans (show _ = some (.int .i64 (r.z3)) from rfl)
    have g15 := (blk_cell B0.out 15).trans (show _ = some (.int .i64 (r.z4)) from rfl)
    replace hk := Lib.hid hk
    go_wp2_with fail
    go_ret
    exact ⟨_, rfl, hg.out, .inl ⟨by unfold kOk; rw [hk.out]; rfl, by rw [MsgM.iface_7 hk.out]; rfl⟩⟩
  · skip
    have t1 : (r.kind == 1) = false := by rw [hk]; rfl
    have t2 : (r.kind == 2) = false := by rw [hk]; rfl
    have t3 : (r.kind == 3) = false := by rw [hk]; rfl
    have t4 : (r.kind == 4) = false := by rw [hk]; rfl
    have t5 : (r.kind == 5) = false := by rw [hk]; rfl
    have t6 : (r.kind == 6) = false := by rw [hk]; rfl
    have t7 : (r.kind == 7) = false := by rw [hk]; rfl
    have t8 : (r.kind == 8) = true := by rw [hk]; rfl
    have g17 := (blk_cell B0.out 17).trans (show _ = some (.int .i64 (r.src)) from rfl)
    replace hk := Lib.hid hk
    go_wp2_with fail
    go_ret
    exact ⟨_, rfl, hg.out, .inl ⟨by unfold kOk; rw [hk.out]; rfl, by rw [MsgM.iface_8 hk.out]; rfl⟩⟩
  · skip
    have t1 : (r.kind == 1) = false := by rw [hk]; rfl
    have t2 : (r.kind == 2) = false := by rw [hk]; rfl
    have t3 : (r.kind == 3) = false := by rw [hk]; rfl
    have t4 : (r.kind == 4) = false := by rw [hk]; rfl
    have t5 : (r.kind == 5) = false := by rw [hk]; rfl
    have t6 : (r.kind == 6) = false := by rw [hk]; rfl
    have t7 : (r.kind == 7) = false := by rw [hk]; rfl
    have t8 : (r.kind == 8) = false := by rw [hk]; rfl
    have t9 : (r.kind == 9) = true := by rw [hk]; rfl
    have g17 := (blk_cell B0.out 17).trans (show _ = some (.int .i64 (r.src)) from rfl)
    have g18 := (blk_cell B0.out 18).trans (show _ = some (.int .i64 (r.total)) from rfl)
    have g19 := (blk_cell B0.out 19).trans (show _ = some (.slice r.Ae r.es.length r.ce) from rfl)
    have g6 := (blk_cell B0.out 6).trans (show _ = some (.int .i64 (r.st.wall)) from rfl)
    have g7 := (blk_cell B0.out 7).trans (show _ = some (.int .i64 (r.st.logic)) from rfl)
    have g8 := (blk_cell B0.out 8).trans (show _ = some (.int .i64 (r.st.node)) from rfl)
    have g20 := (blk_cell B0.out 20).trans (show _ = some (.slice r.Ag r.rgs.length r.cg) from rfl)
    replace hk := Lib.hid hk
    go_wp2_with fail
    go_ret
    exact ⟨_, rfl, hg.out, .inl ⟨by unfold kOk; rw [hk.out]; rfl, by rw [MsgM.iface_9 hk.out]; rfl⟩⟩
  · skip
    have t1 : (r.kind == 1) = false := by rw [beq_eq_false_iff_ne]; omega
    have t2 : (r.kind == 2) = false := by rw [beq_eq_false_iff_ne]; omega
    have t3 : (r.kind == 3) = false := by rw [beq_eq_false_iff_ne]; omega
    have t4 : (r.kind == 4) = false := by rw [beq_eq_false_iff_ne]; omega
    have t5 : (r.kind == 5) = false := by rw [beq_eq_false_iff_ne]; omega
    have t6 : (r.kind == 6) = false := by rw [beq_eq_false_iff_ne]; omega
    have t7 : (r.kind == 7) = false := by rw [beq_eq_false_iff_ne]; omega
    have t8 : (r.kind == 8) = false := by rw [beq_eq_false_iff_ne]; omega
    have t9 : (r.kind == 9) = false := by rw [beq_eq_false_iff_ne]; omega
    have t10 : (r.kind == 10) = false := by rw [beq_eq_false_iff_ne]; omega
    have t11 : (r.kind == 11) = false := by rw [beq_eq_false_iff_ne]; omega
    replace hk := Lib.hid hk
    go_wp2_with fail
    go_ret
    exact ⟨_, rfl, hg.out, .inr ⟨decide_eq_false (by have := hk.out; omega), .inl rfl⟩⟩
end Go.Proofs.YtheogchkelmeeaaDoor
/- msg.MustFeed of what is no Feed panics; penstocklaw10.panics says so. No condition. -/
namespace Go.Proofs.YtheogchkelmeeaaDoor
open Go.RowKit

set_option maxRecDepth 100000 in
theorem ta_panic (t : TypeId) (v : Value) (ht : t ≠ 42) (w : World) : ∃ T cs u pv, (Instr.typeAssert (.iface t v) 20 42 false).run Tryd.prog w = .halt (.panic (.iface u pv)) (w.alloc (.cells cs T)) := by
  refine ⟨199, #[typeHandle Tryd.prog 20, typeHandle Tryd.prog t, typeHandle Tryd.prog 42, strVal ""], Tryd.prog.rt.typeAssertionError, .pointer (some ⟨w.heap.size, 0, none⟩), ?_⟩
  unfold Instr.typeAssert
  simp only [Sem.run_bind, run_underlying Tryd.underlying42, Result.andThen_ok, if_neg ht]
  kernel_rfl
set_option maxRecDepth 100000 in
theorem mustFeed_no (t : TypeId) (v : Value) (w : World) (ht : t ≠ 42) : Calls Tryd.prog 17 #[.iface t v] w fun e w' => ∃ u pv, e = .panicked [{ v := .iface u pv, recovered := false }] ∧ G w w' := by
  have hp := ta_panic t v ht (w.alloc (.cells #[.int .i64 0, .int .i64 0, .slice none 0 0, .int .i64 0, .int .i64 0, .int .i64 0, .slice none 0 0] 42))
  obtain ⟨T, cs, u, pv, hp⟩ := hp
  go_enter Tryd.func17, Tryd.ntmps17
  go_wp2_with fail
  exact ⟨rfl, u, pv, rfl, ((G.new _ _).trans (G.new _ _))⟩
set_option maxRecDepth 100000 in
theorem catch_panicking (p : Addr) (b : Bool) (u : TypeId) (pv : Value) (older : List PanicEntry) (w : World) (hc : w.cell? p = some (.bool b)) (hz : w.frozen? p = false) :
    CallsD Tryd.prog 39 #[.pointer (some p)] (.panicking ({ v := .iface u pv, recovered := false } :: older)) w fun e u' w' =>
      e = .returned (.tuple #[]) ∧ u' = .panicking ({ v := .iface u pv, recovered := true } :: older) ∧ w' = w.setCell p (.bool true) := by
  refine callsD_of_wpS Tryd.func39 rfl fun c₀ cs hu => ?_
  apply wpS_region
  simp [wpOpsS, go_sem, recoverD, hu, Tryd.ntmps39, hc, hz, bodyPostS, results, Tryd.results39]
set_option maxRecDepth 100000 in
/-- A call that panics, behind a function's value. -/
theorem inner_panics (F : Nat) (cap : Array Value) (D : Nat) (q : Addr) (b : Bool) (w : World) (hp : D < w.heap.size) (hc : w.cell? ⟨D, 0, none⟩ = some (.bool b)) (hz : w.frozen? ⟨D, 0, none⟩ = false) (hq : w.cell? q = some (.func (.func F) #[] cap)) (hcf : ∀ w, (callFunc F cap).run Tryd.prog w = .ok (.enter F cap) w)
    (hF : Calls Tryd.prog F cap w fun e w' => ∃ u pv, e = .panicked [{ v := .iface u pv, recovered := false }] ∧ G w w') :
    Calls Tryd.prog 38 #[.pointer (some ⟨D, 0, none⟩), .pointer (some q)] w fun e w' => e = .returned (.tuple #[]) ∧ ∃ w1, G w w1 ∧ w' = w1.setCell ⟨D, 0, none⟩ (.bool true) := by
  have hmf : ∀ (fn : Fn) (first cap : Array Value) (w : World), (Instr.makeFunc fn first cap).run Tryd.prog w = .ok (.func fn first cap) w := fun _ _ _ _ => rfl
  go_enter_defers Tryd.func38, Tryd.ntmps38
  replace hF := Lib.hid hF
  replace hc := Lib.hid hc
  replace hz := Lib.hid hz
  go_wp2_with fail
  refine Calls.mono hF.out ?_
  rintro e w1 ⟨u, pv, rfl, hg⟩
  go_wp2_with fail
  have hc1 : w1.cell? ⟨D, 0, none⟩ = some (.bool b) := (hg.cell hp).trans hc.out
  have hz1 : w1.frozen? ⟨D, 0, none⟩ = false := (hg.frozen hp).trans hz.out
  refine leaves_cons (f := 39) (args := #[.pointer (some ⟨D, 0, none⟩)]) (by simp) (by simp [go_sem]) ?_
  refine (catch_panicking ⟨D, 0, none⟩ b u pv [] w1 hc1 hz1).mono ?_
  rintro e u' w'' ⟨rfl, rfl, rfl⟩
  simp [Leaves, settle, results, Tryd.results38, go_sem]
  exact ⟨w1, hg, rfl⟩
set_option maxRecDepth 100000 in
/-- penstocklaw10.panics of a function that panics: true. -/
theorem panics_yes (F : Nat) (cap : Array Value) (w : World) (hcf : ∀ w, (callFunc F cap).run Tryd.prog w = .ok (.enter F cap) w)
    (hF : ∀ w', G w w' → Calls Tryd.prog F cap w' fun e w'' => ∃ u pv, e = .panicked [{ v := .iface u pv, recovered := false }] ∧ G w' w'') :
    Calls Tryd.prog 15 #[.func (.func F) #[] cap] w fun e w' => e = .returned (.bool true) ∧ G w w' := by
  have hmf : ∀ (fn : Fn) (first cap : Array Value) (w : World), (Instr.makeFunc fn first cap).run Tryd.prog w = .ok (.func fn first cap) w := fun _ _ _ _ => rfl
  have hg := (G.new w (.cells #[.func (.func F) #[] cap] 1)).alloc (.cells #[.bool false] 4)
  have B0 := (G.new (w.alloc (.cells #[.func (.func F) #[] cap] 1)) (.cells #[.bool false] 4)).blk (blk_new w #[.func (.func F) #[] cap] 1)
  have B1 := blk_new' (w.alloc (.cells #[.func (.func F) #[] cap] 1)) #[.bool false] 4 (w.heap.size + 1) (by simp)
  go_enter Tryd.func15, Tryd.ntmps15
  go_upto_region 1 with fail
  generalize (w.alloc (.cells #[.func (.func F) #[] cap] 1)).alloc (.cells #[.bool false] 4) = W0 at *
  have hin := inner_panics F cap (w.heap.size + 1) ⟨w.heap.size, 0, none⟩ false W0 (blk_lt B1) ((blk_cell B1 0).trans rfl) (by simp [World.frozen?, B1]) ((blk_cell B0 0).trans rfl) hcf (hF W0 hg)
  replace hin := Lib.hid hin
  go_wp2_with fail
  (with_reducible refine Calls.mono hin.out ?_)
  rintro e w2 ⟨rfl, w1, hg1, rfl⟩
  have hz := hg.size
  have hb := blk_put (hg1.blk B1) 0 (.bool true)
  have c0 := (blk_cell hb 0).trans (show _ = some (.bool true) from rfl)
  have f0 : (w1.setCell ⟨w.heap.size + 1, 0, none⟩ (.bool true)).frozen? ⟨w.heap.size + 1, 0, none⟩ = false := by simp [World.frozen?, hb]
  have hb2 := blk_put hb 0 (.bool true)
  have c2 := (blk_cell hb2 0).trans (show _ = some (.bool true) from rfl)
  have hgz := ((hg.trans hg1).set (p := ⟨w.heap.size + 1, 0, none⟩) (Nat.le_succ _) (.bool true)).set (p := ⟨w.heap.size + 1, 0, none⟩) (Nat.le_succ _) (.bool true)
  replace hb := Lib.hid hb
  replace hb2 := Lib.hid hb2
  replace c2 := Lib.hid c2
  replace hgz := Lib.hid hgz
  clear hin hF
  go_wp2_with fail
  have c2 := c2.out
  refine bodyPost_ret (v := .bool true) (by simp [results, Tryd.results15, go_sem, c2]) rfl ?_
  exact ⟨rfl, hgz.out⟩
end Go.Proofs.YtheogchkelmeeaaDoor
/- Two results, of which the first is a struct in a block of its own. No condition. -/
namespace Go.Proofs.YtheogchkelmeeaaDoor
open Go.RowKit

theorem results_cell2 {P : Program} {fn : Func} {tmps : Array Value} {W : World} {i j b : Nat} {cs : Array Value} {v : Value} {t T : TypeId} {fz : Nat × Nat} {d : TypeDesc} (hr : fn.results = #[.cell i T, .tmp j]) (hp : tmps.getD i undef = .pointer (some ⟨b, 0, none⟩)) (hv : tmps.getD j undef = v) (h : W.heap[b]? = some (.cells cs t fz)) (hu : P.underlying T = some d) (hd : d.isRow = true) (hi : (P.info? T).map (·.size) = some cs.size) :
    (results fn tmps).run P W = .ok (.tuple #[.agg cs, v]) W := by
  have h2 := run_loadVar_mid (P := P) W b 0 T cs.toList d (fun j v hv => by rw [Nat.zero_add, blk_cell h]; simpa using hv) hu hd (by simpa using hi)
  have h3 : (asAddr (tmps.getD i undef)).run P W = .ok ⟨b, 0, none⟩ W := by rw [hp]; rfl
  unfold results
  rw [hr]
  simp only [List.mapM_toArray, List.mapM_cons, List.mapM_nil, Sem.run_bind, Sem.run_pure, Functor.map, hv]
  have h5 : ∀ (m : Sem (List Value)) (w1 : World), (m.bind (Sem.pure ∘ List.toArray)).run P w1 = (m.run P w1).andThen fun a w' => .ok a.toArray w' := fun m w1 => by
    show (m >>= fun a => pure a.toArray).run P w1 = _
    simp only [Sem.run_bind, Sem.run_pure]
  rw [h5]
  simp only [Sem.run_bind, Sem.run_pure, Result.andThen_ok, h3, h2]
  rfl
end Go.Proofs.YtheogchkelmeeaaDoor
/- msg.AsFeed, MustFeed: what they answer. No condition. -/
namespace Go.Proofs.YtheogchkelmeeaaDoor
open Go.RowKit

def feedZ : Array Value := #[.int .i64 0, .int .i64 0, .slice none 0 0, .int .i64 0, .int .i64 0, .int .i64 0, .slice none 0 0]
set_option maxRecDepth 100000 in
set_option maxHeartbeats 1000000 in
theorem asFeed_of (v : Value) (b : Bool) (x0 x1 x2 x3 x4 x5 x6 : Value) (ho : (#[x0, x1, x2, x3, x4, x5, x6] : Array Value).all (·.oneCell') = true) (w : World) (ha : ∀ w, (Instr.typeAssert v 20 42 true).run Tryd.prog w = .ok (.tuple #[.agg #[x0, x1, x2, x3, x4, x5, x6], .bool b]) w) :
    Calls Tryd.prog 12 #[v] w fun e w' => e = .returned (.tuple #[.agg #[x0, x1, x2, x3, x4, x5, x6], .bool b]) ∧ G w w' := by
  have hg0 := G.new w (.cells #[.int .i64 0, .int .i64 0, .slice none 0 0, .int .i64 0, .int .i64 0, .int .i64 0, .slice none 0 0] 42)
  have B0 := blk_new w #[.int .i64 0, .int .i64 0, .slice none 0 0, .int .i64 0, .int .i64 0, .int .i64 0, .slice none 0 0] 42
  go_enter Tryd.func12, Tryd.ntmps12
  go_upto_region 1 with fail
  generalize w.alloc (.cells #[.int .i64 0, .int .i64 0, .slice none 0 0, .int .i64 0, .int .i64 0, .int .i64 0, .slice none 0 0] 42) = W0 at *
  obtain ⟨W1, SR1, C1, hb1, hG1⟩ := store_blk (P := Tryd.prog) (T := 42) (cs := #[x0, x1, x2, x3, x4, x5, x6]) (blk_new W0 #[.int .i64 0, .int .i64 0, .slice none 0 0, .int .i64 0, .int .i64 0, .int .i64 0, .slice none 0 0] 42) rfl (by kernel_rfl) ho
  have hz := blk_lt B0
  have hg1 := hG1 w (hg0.trans (G.new W0 _)) hg0.size
  have B1 := hb1.blk ((G.new W0 _).blk B0) (by omega)
  obtain ⟨W2, SR2, C2, hb2, hG2⟩ := store_blk (P := Tryd.prog) (T := 42) (cs := #[x0, x1, x2, x3, x4, x5, x6]) B1 rfl (by kernel_rfl) ho
  have hg2 := hG2 w hg1 (Nat.le_refl _)
  have LR := load_blk (P := Tryd.prog) (T := 42) C1 Tryd.underlying42 rfl (by kernel_rfl)
  replace C2 := Lib.hid C2
  replace hg2 := Lib.hid hg2
  clear hb1 hG1 hb2 hG2 B0 B1 C1 hg0 hg1 ho
  go_wp2_with (first
    | (refine wpList_store_at (ty := 42) rfl (by kernel_rfl) (p := .pointer (some ⟨W0.heap.size, 0, none⟩)) rfl rfl SR1 ?_; clear SR1)
    | (refine wpList_load_at (ty := 42) rfl (by kernel_rfl) (p := .pointer (some ⟨W0.heap.size, 0, none⟩)) rfl LR ?_; clear LR)
    | (refine wpList_store_at (ty := 42) rfl (by kernel_rfl) (p := .pointer (some ⟨w.heap.size, 0, none⟩)) rfl rfl SR2 ?_; clear SR2))
  refine bodyPost_ret (v := .tuple #[.agg #[x0, x1, x2, x3, x4, x5, x6], .bool b]) (results_cell2 (i := 2) (j := 3) rfl rfl rfl C2.out Tryd.underlying42 rfl (by kernel_rfl)) rfl ?_
  exact ⟨rfl, hg2.out⟩
end Go.Proofs.YtheogchkelmeeaaDoor
/- What is no message: what msg's functions answer of it. No condition. -/
namespace Go.Proofs.YtheogchkelmeeaaDoor
open Go.RowKit

theorem kind_noMsg {v : Value} (h : NoMsg v) (w : World) : Calls Tryd.prog 19 #[v] w fun e w' => e = .returned (.int .i64 0) ∧ G w w' := by
  rcases h with rfl | ⟨t, u, rfl, ht⟩
  · exact kindNil_any w
  · exact kindNo_any t u w ht
theorem enc_noMsg {v : Value} (h : NoMsg v) (w : World) : Calls Tryd.prog 18 #[v] w (RetM 12 w none) := msgEnc_no v w fun w' => kind_noMsg h w'
theorem check_noMsg {v : Value} (h : NoMsg v) (w : World) : Calls Tryd.prog 21 #[v] w fun e w' => e = .returned (.int .i64 12) ∧ G w w' := msgCheck_of v 12 none w (enc_noMsg h w)
theorem name_noMsg {v : Value} (h : NoMsg v) (w : World) : Calls Tryd.prog 20 #[v] w fun e w' => e = .returned (.string ⟨#[]⟩) ∧ G w w' := msgName0 v w (kind_noMsg h w)
set_option maxRecDepth 100000 in
theorem asFeed_noMsg {v : Value} (h : NoMsg v) (w : World) : Calls Tryd.prog 12 #[v] w fun e w' => e = .returned (.tuple #[.agg feedZ, .bool false]) ∧ G w w' := by
  refine asFeed_of v false (.int .i64 0) (.int .i64 0) (.slice none 0 0) (.int .i64 0) (.int .i64 0) (.int .i64 0) (.slice none 0 0) (by kernel_rfl) w fun w => ?_
  rcases h with rfl | ⟨t, u, rfl, ht⟩
  · kernel_rfl
  · exact ta_miss Tryd.underlying42 rfl (by kernel_rfl) ht.2.2.2.2.2.2.2.2
end Go.Proofs.YtheogchkelmeeaaDoor

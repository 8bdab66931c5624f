/- penstockref10.Same of two messages alike: true. Condition: lengths as told. -/
import Derived.Test.YtheogchkelmeeaaDoorM49MsgBack
import Derived.Test.YtheogchkelmeeaaDoorM27MsgBack
namespace Go.Proofs.YtheogchkelmeeaaDoor
open Go.RowKit

theorem stB_self (a b c : Int) : stB ⟨a, b, c⟩ ⟨a, b, c⟩ = true := by simp [stB]
theorem txB_self (a b c : Int) : txB a b c a b c = true := by simp [txB]
set_option maxRecDepth 100000 in
set_option maxHeartbeats 8000000 in
theorem sameMsg_yes (r q : MsgM) (w : World) (hr : r.In w) (hq : q.In w) (he : r.p = q.p) (hs : r.Small) :
    Calls Tryd.prog 14 #[.agg r.cells, .agg q.cells] w fun e w' => e = .returned (.bool true) ∧ G w w' := by
  have hB : ∀ w', G w w' → Calls Tryd.prog 33 #[.agg #[.string r.key, .slice r.Ap r.ps.length r.cp], .agg #[.string q.key, .slice q.Ap q.ps.length q.cp]] w' fun e w'' => e = .returned (.bool true) ∧ G w' w'' := fun w' hg => by
    have h := sameBatch_yes r.key r.ps q.ps r.Ap q.Ap r.cp q.cp w' (hr.g hg).ps (hq.g hg).ps (congrArg MsgP.ps he) hs.ps
    rw [← (show r.key = q.key from congrArg MsgP.key he)]
    exact h
  have hI : ∀ w', G w w' → Calls Tryd.prog 34 #[.slice r.An r.firsts.length r.cn, .slice q.An q.firsts.length q.cn] w' fun e w'' => e = .returned (.bool true) ∧ G w' w'' := fun w' hg => by
    have e1 : r.firsts = q.firsts := congrArg MsgP.firsts he
    have h := sameInts_any r.firsts q.firsts r.An q.An r.cn q.cn w'.heap.size w'.heap.size w' (Nat.le_refl _) (Nat.le_refl _) (by have := hs.firstsL; omega) (by rw [← e1]; have := hs.firstsL; omega) (hr.g hg).firsts (hq.g hg).firsts
    rw [decide_eq_true e1] at h
    exact h
  have hS : ∀ w', G w w' → Calls Tryd.prog 35 #[.slice r.As r.sms.length r.cs, .slice q.As q.sms.length q.cs] w' fun e w'' => e = .returned (.bool true) ∧ G w' w'' := fun w' hg =>
    sameSms_yes r.sms q.sms r.As q.As r.cs q.cs w' (hr.g hg).sms (hq.g hg).sms (congrArg MsgP.sms he) (by have := hs.smsL; omega) fun s hm => by
      have := (hs.sms s hm).1
      exact ⟨by have := this.2.1.1; omega, by have := this.2.2.1; omega⟩
  have hE : ∀ w', G w w' → Calls Tryd.prog 36 #[.slice r.Ae r.es.length r.ce, .slice q.Ae q.es.length q.ce] w' fun e w'' => e = .returned (.bool true) ∧ G w' w'' := fun w' hg => by
    have e1 : r.es = q.es := congrArg MsgP.es he
    have h := sameEvents_any r.es q.es r.Ae q.Ae r.ce q.ce w'.heap.size w' (Nat.le_refl _) (by have := hs.esL; omega) (by rw [← e1]; have := hs.esL; omega) (hr.g hg).es (hq.g hg).es
    rw [show evsB r.es q.es = true from decide_eq_true e1] at h
    exact h
  have hR : ∀ w', G w w' → Calls Tryd.prog 37 #[.slice r.Ag r.rgs.length r.cg, .slice q.Ag q.rgs.length q.cg] w' fun e w'' => e = .returned (.bool true) ∧ G w' w'' := fun w' hg => by
    have e1 : r.rgs = q.rgs := congrArg MsgP.rgs he
    have h2 := (hq.g hg).rgs
    rw [← e1] at h2 ⊢
    exact sameRgs_yes r.rgs r.Ag q.Ag r.cg q.cg w'.heap.size w'.heap.size w' (Nat.le_refl _) (Nat.le_refl _) (by have := hs.rgsL; omega) (hr.g hg).rgs h2
  clear hr hq hs
  obtain ⟨kind, x1, x2, x3, key, Ap, cp, ps, ⟨a, b, c⟩, code, An, cn, firsts, yes, z1, z2, z3, z4, As, cs, sms, src, total, Ae, ce, es, Ag, cg, rgs⟩ := r
  obtain ⟨kind', x1', x2', x3', key', Ap', cp', ps', ⟨a', b', c'⟩, code', An', cn', firsts', yes', z1', z2', z3', z4', As', cs', sms', src', total', Ae', ce', es', Ag', cg', rgs'⟩ := q
  simp only [MsgM.p, MsgP.mk.injEq, St.mk.injEq] at he
  obtain ⟨rfl, rfl, rfl, rfl, rfl, hps, ⟨rfl, rfl, rfl⟩, rfl, rfl, rfl, rfl, rfl, rfl, rfl, hsms, rfl, rfl, rfl, rfl⟩ := he
  unfold MsgM.cells
  dsimp only at hI hB hS hE hR ⊢
  have hq1 := @st_eql
  have hq2 := @tx_eql
  have hq3 := @rg_eql
  have e1 := stB_self a b c
  have e2 := txB_self x1 x2 x3
  have e3 := rgB_self z1 z2 z3 z4
  clear hps hsms
  go_enter Tryd.func14, Tryd.ntmps14
  go_upto_region 1 with fail
  generalize hW0 : (w.alloc (.cells #[.int .i64 kind, .int .i64 x1, .int .i64 x2, .int .i64 x3, .string key, .slice Ap ps.length cp, .int .i64 a, .int .i64 b, .int .i64 c, .int .i64 code, .slice An firsts.length cn, .bool yes, .int .i64 z1, .int .i64 z2, .int .i64 z3, .int .i64 z4, .slice As sms.length cs, .int .i64 src, .int .i64 total, .slice Ae es.length ce, .slice Ag rgs.length cg] 36)).alloc (.cells #[.int .i64 kind, .int .i64 x1, .int .i64 x2, .int .i64 x3, .string key, .slice Ap' ps'.length cp', .int .i64 a, .int .i64 b, .int .i64 c, .int .i64 code, .slice An' firsts.length cn', .bool yes, .int .i64 z1, .int .i64 z2, .int .i64 z3, .int .i64 z4, .slice As' sms'.length cs', .int .i64 src, .int .i64 total, .slice Ae' es.length ce', .slice Ag' rgs.length cg'] 36) = W0
  have hz : w.heap.size + 1 < W0.heap.size := by rw [← hW0]; simp
  have hG0 : G w W0 := by rw [← hW0]; exact (G.new _ _).alloc _
  have r0 : W0.cell? ⟨w.heap.size, 0, none⟩ = some (.int .i64 kind) := by rw [← hW0]; simp
  have r1 : W0.cell? ⟨w.heap.size, 1, none⟩ = some (.int .i64 x1) := by rw [← hW0]; simp
  have r2 : W0.cell? ⟨w.heap.size, 2, none⟩ = some (.int .i64 x2) := by rw [← hW0]; simp
  have r3 : W0.cell? ⟨w.heap.size, 3, none⟩ = some (.int .i64 x3) := by rw [← hW0]; simp
  have r4 : W0.cell? ⟨w.heap.size, 4, none⟩ = some (.string key) := by rw [← hW0]; simp
  have r5 : W0.cell? ⟨w.heap.size, 5, none⟩ = some (.slice Ap ps.length cp) := by rw [← hW0]; simp
  have r6 : W0.cell? ⟨w.heap.size, 6, none⟩ = some (.int .i64 a) := by rw [← hW0]; simp
  have r7 : W0.cell? ⟨w.heap.size, 7, none⟩ = some (.int .i64 b) := by rw [← hW0]; simp
  have r8 : W0.cell? ⟨w.heap.size, 8, none⟩ = some (.int .i64 c) := by rw [← hW0]; simp
  have r9 : W0.cell? ⟨w.heap.size, 9, none⟩ = some (.int .i64 code) := by rw [← hW0]; simp
  have r10 : W0.cell? ⟨w.heap.size, 10, none⟩ = some (.slice An firsts.length cn) := by rw [← hW0]; simp
  have r11 : W0.cell? ⟨w.heap.size, 11, none⟩ = some (.bool yes) := by rw [← hW0]; simp
  have r12 : W0.cell? ⟨w.heap.size, 12, none⟩ = some (.int .i64 z1) := by rw [← hW0]; simp
  have r13 : W0.cell? ⟨w.heap.size, 13, none⟩ = some (.int .i64 z2) := by rw [← hW0]; simp
  have r14 : W0.cell? ⟨w.heap.size, 14, none⟩ = some (.int .i64 z3) := by rw [← hW0]; simp
  have r15 : W0.cell? ⟨w.heap.size, 15, none⟩ = some (.int .i64 z4) := by rw [← hW0]; simp
  have r16 : W0.cell? ⟨w.heap.size, 16, none⟩ = some (.slice As sms.length cs) := by rw [← hW0]; simp
  have r17 : W0.cell? ⟨w.heap.size, 17, none⟩ = some (.int .i64 src) := by rw [← hW0]; simp
  have r18 : W0.cell? ⟨w.heap.size, 18, none⟩ = some (.int .i64 total) := by rw [← hW0]; simp
  have r19 : W0.cell? ⟨w.heap.size, 19, none⟩ = some (.slice Ae es.length ce) := by rw [← hW0]; simp
  have r20 : W0.cell? ⟨w.heap.size, 20, none⟩ = some (.slice Ag rgs.length cg) := by rw [← hW0]; simp
  have r21 : W0.cell? ⟨w.heap.size + 1, 0, none⟩ = some (.int .i64 kind) := by rw [← hW0]; simp
  have r22 : W0.cell? ⟨w.heap.size + 1, 1, none⟩ = some (.int .i64 x1) := by rw [← hW0]; simp
  have r23 : W0.cell? ⟨w.heap.size + 1, 2, none⟩ = some (.int .i64 x2) := by rw [← hW0]; simp
  have r24 : W0.cell? ⟨w.heap.size + 1, 3, none⟩ = some (.int .i64 x3) := by rw [← hW0]; simp
  have r25 : W0.cell? ⟨w.heap.size + 1, 4, none⟩ = some (.string key) := by rw [← hW0]; simp
  have r26 : W0.cell? ⟨w.heap.size + 1, 5, none⟩ = some (.slice Ap' ps'.length cp') := by rw [← hW0]; simp
  have r27 : W0.cell? ⟨w.heap.size + 1, 6, none⟩ = some (.int .i64 a) := by rw [← hW0]; simp
  have r28 : W0.cell? ⟨w.heap.size + 1, 7, none⟩ = some (.int .i64 b) := by rw [← hW0]; simp
  have r29 : W0.cell? ⟨w.heap.size + 1, 8, none⟩ = some (.int .i64 c) := by rw [← hW0]; simp
  have r30 : W0.cell? ⟨w.heap.size + 1, 9, none⟩ = some (.int .i64 code) := by rw [← hW0]; simp
  have r31 : W0.cell? ⟨w.heap.size + 1, 10, none⟩ = some (.slice An' firsts.length cn') := by rw [← hW0]; simp
  have r32 : W0.cell? ⟨w.heap.size + 1, 11, none⟩ = some (.bool yes) := by rw [← hW0]; simp
  have r33 : W0.cell? ⟨w.heap.size + 1, 12, none⟩ = some (.int .i64 z1) := by rw [← hW0]; simp
  have r34 : W0.cell? ⟨w.heap.size + 1, 13, none⟩ = some (.int .i64 z2) := by rw [← hW0]; simp
  have r35 : W0.cell? ⟨w.heap.size + 1, 14, none⟩ = some (.int .i64 z3) := by rw [← hW0]; simp
  have r36 : W0.cell? ⟨w.heap.size + 1, 15, none⟩ = some (.int .i64 z4) := by rw [← hW0]; simp
  have r37 : W0.cell? ⟨w.heap.size + 1, 16, none⟩ = some (.slice As' sms'.length cs') := by rw [← hW0]; simp
  have r38 : W0.cell? ⟨w.heap.size + 1, 17, none⟩ = some (.int .i64 src) := by rw [← hW0]; simp
  have r39 : W0.cell? ⟨w.heap.size + 1, 18, none⟩ = some (.int .i64 total) := by rw [← hW0]; simp
  have r40 : W0.cell? ⟨w.heap.size + 1, 19, none⟩ = some (.slice Ae' es.length ce') := by rw [← hW0]; simp
  have r41 : W0.cell? ⟨w.heap.size + 1, 20, none⟩ = some (.slice Ag' rgs.length cg') := by rw [← hW0]; simp
  clear hW0
  have q0 : ∀ w', G W0 w' → w'.cell? ⟨w.heap.size, 0, none⟩ = some (.int .i64 kind) := fun w' h => (h.cell (by omega)).trans r0
  have q1 : ∀ w', G W0 w' → w'.cell? ⟨w.heap.size, 1, none⟩ = some (.int .i64 x1) := fun w' h => (h.cell (by omega)).trans r1
  have q2 : ∀ w', G W0 w' → w'.cell? ⟨w.heap.size, 2, none⟩ = some (.int .i64 x2) := fun w' h => (h.cell (by omega)).trans r2
  have q3 : ∀ w', G W0 w' → w'.cell? ⟨w.heap.size, 3, none⟩ = some (.int .i64 x3) := fun w' h => (h.cell (by omega)).trans r3
  have q4 : ∀ w', G W0 w' → w'.cell? ⟨w.heap.size, 4, none⟩ = some (.string key) := fun w' h => (h.cell (by omega)).trans r4
  have q5 : ∀ w', G W0 w' → w'.cell? ⟨w.heap.size, 5, none⟩ = some (.slice Ap ps.length cp) := fun w' h => (h.cell (by omega)).trans r5
  have q6 : ∀ w', G W0 w' → w'.cell? ⟨w.heap.size, 6, none⟩ = some (.int .i64 a) := fun w' h => (h.cell (by omega)).trans r6
  have q7 : ∀ w', G W0 w' → w'.cell? ⟨w.heap.size, 7, none⟩ = some (.int .i64 b) := fun w' h => (h.cell (by omega)).trans r7
  have q8 : ∀ w', G W0 w' → w'.cell? ⟨w.heap.size, 8, none⟩ = some (.int .i64 c) := fun w' h => (h.cell (by omega)).trans r8
  have q9 : ∀ w', G W0 w' → w'.cell? ⟨w.heap.size, 9, none⟩ = some (.int .i64 code) := fun w' h => (h.cell (by omega)).trans r9
  have q10 : ∀ w', G W0 w' → w'.cell? ⟨w.heap.size, 10, none⟩ = some (.slice An firsts.length cn) := fun w' h => (h.cell (by omega)).trans r10
  have q11 : ∀ w', G W0 w' → w'.cell? ⟨w.heap.size, 11, none⟩ = some (.bool yes) := fun w' h => (h.cell (by omega)).trans r11
  have q12 : ∀ w', G W0 w' → w'.cell? ⟨w.heap.size, 12, none⟩ = some (.int .i64 z1) := fun w' h => (h.cell (by omega)).trans r12
  have q13 : ∀ w', G W0 w' → w'.cell? ⟨w.heap.size, 13, none⟩ = some (.int .i64 z2) := fun w' h => (h.cell (by omega)).trans r13
  have q14 : ∀ w', G W0 w' → w'.cell? ⟨w.heap.size, 14, none⟩ = some (.int .i64 z3) := fun w' h => (h.cell (by omega)).trans r14
  have q15 : ∀ w', G W0 w' → w'.cell? ⟨w.heap.size, 15, none⟩ = some (.int .i64 z4) := fun w' h => (h.cell (by omega)).trans r15
  have q16 : ∀ w', G W0 w' → w'.cell? ⟨w.heap.size, 16, none⟩ = some (.slice As sms.length cs) := fun w' h => (h.cell (by omega)).trans r16
  have q17 : ∀ w', G W0 w' → w'.cell? ⟨w.heap.size, 17, none⟩ = some (.int .i64 src) := fun w' h => (h.cell (by omega)).trans r17
  have q18 : ∀ w', G W0 w' → w'.cell? ⟨w.heap.size, 18, none⟩ = some (.int .i64 total) := fun w' h => (h.cell (by omega)).trans r18
  have q19 : ∀ w', G W0 w' → w'.cell? ⟨w.heap.size, 19, none⟩ = some (.slice Ae es.length ce) := fun w' h => (h.cell (by omega)).trans r19
  have q20 : ∀ w', G W0 w' → w'.cell? ⟨w.heap.size, 20, none⟩ = some (.slice Ag rgs.length cg) := fun w' h => (h.cell (by omega)).trans r20
  have q21 : ∀ w', G W0 w' → w'.cell? ⟨w.heap.size + 1, 0, none⟩ = some (.int .i64 kind) := fun w' h => (h.cell (by omega)).trans r21
  have q22 : ∀ w', G W0 w' → w'.cell? ⟨w.heap.size + 1, 1, none⟩ = some (.int .i64 x1) := fun w' h => (h.cell (by omega)).trans r22
  have q23 : ∀ w', G W0 w' → w'.cell? ⟨w.heap.size + 1, 2, none⟩ = some (.int .i64 x2) := fun w' h => (h.cell (by omega)).trans r23
  have q24 : ∀ w', G W0 w' → w'.cell? ⟨w.heap.size + 1, 3, none⟩ = some (.int .i64 x3) := fun w' h => (h.cell (by omega)).trans r24
  have q25 : ∀ w', G W0 w' → w'.cell? ⟨w.heap.size + 1, 4, none⟩ = some (.string key) := fun w' h => (h.cell (by omega)).trans r25
  have q26 : ∀ w', G W0 w' → w'.cell? ⟨w.heap.size + 1, 5, none⟩ = some (.slice Ap' ps'.length cp') := fun w' h => (h.cell (by omega)).trans r26
  have q27 : ∀ w', G W0 w' → w'.cell? ⟨w.heap.size + 1, 6, none⟩ = some (.int .i64 a) := fun w' h => (h.cell (by omega)).trans r27
  have q28 : ∀ w', G W0 w' → w'.cell? ⟨w.heap.size + 1, 7, none⟩ = some (.int .i64 b) := fun w' h => (h.cell (by omega)).trans r28
  have q29 : ∀ w', G W0 w' → w'.cell? ⟨w.heap.size + 1, 8, none⟩ = some (.int .i64 c) := fun w' h => (h.cell (by omega)).trans r29
  have q30 : ∀ w', G W0 w' → w'.cell? ⟨w.heap.size + 1, 9, none⟩ = some (.int .i64 code) := fun w' h => (h.cell (by omega)).trans r30
  have q31 : ∀ w', G W0 w' → w'.cell? ⟨w.heap.size + 1, 10, none⟩ = some (.slice An' firsts.length cn') := fun w' h => (h.cell (by omega)).trans r31
  have q32 : ∀ w', G W0 w' → w'.cell? ⟨w.heap.size + 1, 11, none⟩ = some (.bool yes) := fun w' h => (h.cell (by omega)).trans r32
  have q33 : ∀ w', G W0 w' → w'.cell? ⟨w.heap.size + 1, 12, none⟩ = some (.int .i64 z1) := fun w' h => (h.cell (by omega)).trans r33
  have q34 : ∀ w', G W0 w' → w'.cell? ⟨w.heap.size + 1, 13, none⟩ = some (.int .i64 z2) := fun w' h => (h.cell (by omega)).trans r34
  have q35 : ∀ w', G W0 w' → w'.cell? ⟨w.heap.size + 1, 14, none⟩ = some (.int .i64 z3) := fun w' h => (h.cell (by omega)).trans r35
  have q36 : ∀ w', G W0 w' → w'.cell? ⟨w.heap.size + 1, 15, none⟩ = some (.int .i64 z4) := fun w' h => (h.cell (by omega)).trans r36
  have q37 : ∀ w', G W0 w' → w'.cell? ⟨w.heap.size + 1, 16, none⟩ = some (.slice As' sms'.length cs') := fun w' h => (h.cell (by omega)).trans r37
  have q38 : ∀ w', G W0 w' → w'.cell? ⟨w.heap.size + 1, 17, none⟩ = some (.int .i64 src) := fun w' h => (h.cell (by omega)).trans r38
  have q39 : ∀ w', G W0 w' → w'.cell? ⟨w.heap.size + 1, 18, none⟩ = some (.int .i64 total) := fun w' h => (h.cell (by omega)).trans r39
  have q40 : ∀ w', G W0 w' → w'.cell? ⟨w.heap.size + 1, 19, none⟩ = some (.slice Ae' es.length ce') := fun w' h => (h.cell (by omega)).trans r40
  have q41 : ∀ w', G W0 w' → w'.cell? ⟨w.heap.size + 1, 20, none⟩ = some (.slice Ag' rgs.length cg') := fun w' h => (h.cell (by omega)).trans r41
  clear r0 r1 r2 r3 r4 r5 r6 r7 r8 r9 r10 r11 r12 r13 r14 r15 r16 r17 r18 r19 r20 r21 r22 r23 r24 r25 r26 r27 r28 r29 r30 r31 r32 r33 r34 r35 r36 r37 r38 r39 r40 r41
  have g0 := q0 _ (G.refl W0)
  have g1 := q1 _ (G.refl W0)
  have g2 := q2 _ (G.refl W0)
  have g3 := q3 _ (G.refl W0)
  have g4 := q4 _ (G.refl W0)
  have g5 := q5 _ (G.refl W0)
  have g6 := q6 _ (G.refl W0)
  have g7 := q7 _ (G.refl W0)
  have g8 := q8 _ (G.refl W0)
  have g9 := q9 _ (G.refl W0)
  have g10 := q10 _ (G.refl W0)
  have g11 := q11 _ (G.refl W0)
  have g12 := q12 _ (G.refl W0)
  have g13 := q13 _ (G.refl W0)
  have g14 := q14 _ (G.refl W0)
  have g15 := q15 _ (G.refl W0)
  have g16 := q16 _ (G.refl W0)
  have g17 := q17 _ (G.refl W0)
  have g18 := q18 _ (G.refl W0)
  have g19 := q19 _ (G.refl W0)
  have g20 := q20 _ (G.refl W0)
  have g21 := q21 _ (G.refl W0)
  have g22 := q22 _ (G.refl W0)
  have g23 := q23 _ (G.refl W0)
  have g24 := q24 _ (G.refl W0)
  have g25 := q25 _ (G.refl W0)
  have g26 := q26 _ (G.refl W0)
  have g27 := q27 _ (G.refl W0)
  have g28 := q28 _ (G.refl W0)
  have g29 := q29 _ (G.refl W0)
  have g30 := q30 _ (G.refl W0)
  have g31 := q31 _ (G.refl W0)
  have g32 := q32 _ (G.refl W0)
  have g33 := q33 _ (G.refl W0)
  have g34 := q34 _ (G.refl W0)
  have g35 := q35 _ (G.refl W0)
  have g36 := q36 _ (G.refl W0)
  have g37 := q37 _ (G.refl W0)
  have g38 := q38 _ (G.refl W0)
  have g39 := q39 _ (G.refl W0)
  have g40 := q40 _ (G.refl W0)
  have g41 := q41 _ (G.refl W0)
  go_wp2_with (first
    | (go_at_call 33; (with_reducible refine Calls.mono (hB _ (by assumption)) ?_); rintro e u1 ⟨rfl, hk1⟩; have k1' := hG0.trans hk1; have k1'' := hk1; have g6 := q6 _ k1''; have g27 := q27 _ k1''; have g7 := q7 _ k1''; have g28 := q28 _ k1''; have g8 := q8 _ k1''; have g29 := q29 _ k1''; have g9 := q9 _ k1''; have g30 := q30 _ k1''; have g10 := q10 _ k1''; have g31 := q31 _ k1''; have g11 := q11 _ k1''; have g32 := q32 _ k1''; have g12 := q12 _ k1''; have g33 := q33 _ k1''; have g13 := q13 _ k1''; have g34 := q34 _ k1''; have g14 := q14 _ k1''; have g35 := q35 _ k1''; have g15 := q15 _ k1''; have g36 := q36 _ k1''; have g16 := q16 _ k1''; have g37 := q37 _ k1'')
    | (go_at_call 34; (with_reducible refine Calls.mono (hI _ (by assumption)) ?_); rintro e u2 ⟨rfl, hk2⟩; have k2' := k1'.trans hk2; have k2'' := k1''.trans hk2; have g11 := q11 _ k2''; have g32 := q32 _ k2''; have g12 := q12 _ k2''; have g33 := q33 _ k2''; have g13 := q13 _ k2''; have g34 := q34 _ k2''; have g14 := q14 _ k2''; have g35 := q35 _ k2''; have g15 := q15 _ k2''; have g36 := q36 _ k2''; have g16 := q16 _ k2''; have g37 := q37 _ k2'')
    | (go_at_call 35; (with_reducible refine Calls.mono (hS _ (by assumption)) ?_); rintro e u3 ⟨rfl, hk3⟩; have k3' := k2'.trans hk3; have k3'' := k2''.trans hk3; have g17 := q17 _ k3''; have g38 := q38 _ k3''; have g18 := q18 _ k3''; have g39 := q39 _ k3''; have g19 := q19 _ k3''; have g40 := q40 _ k3'')
    | (go_at_call 36; (with_reducible refine Calls.mono (hE _ (by assumption)) ?_); rintro e u4 ⟨rfl, hk4⟩; have k4' := k3'.trans hk4; have k4'' := k3''.trans hk4; have g20 := q20 _ k4''; have g41 := q41 _ k4'')
    | (go_at_call 37; (with_reducible refine Calls.mono (hR _ (by assumption)) ?_); rintro e u5 ⟨rfl, hk5⟩; have k5' := k4'.trans hk5; have k5'' := k4''.trans hk5))
  go_ret
  exact ⟨rfl, k5'⟩
end Go.Proofs.YtheogchkelmeeaaDoor

/- penstockref10.SameRec: whether all fields of two records are one, where it is told of the lists. No condition. -/
import Derived.Test.YthafeaclpcjjbaaGreatDoorM29RecDecodes
namespace Go.Proofs.YthafeaclpcjjbaaGreatDoor
open Go.RowKit
/-- Are two records one, as the answers of the lists are? -/
def recB (r q : RecM) (bI bB bS : Bool) : Bool :=
 (r.kind == q.kind) && ((r.n == q.n) && ((r.dst == q.dst) && ((r.yes == q.yes) && (stB r.st q.st && (txB r.x1 r.x2 r.x3 q.x1 q.x2 q.x3 && (bI && (bB && (rgB r.z1 r.z2 r.z3 r.z4 q.z1 q.z2 q.z3 q.z4 && bS))))))))
set_option maxRecDepth 100000 in
set_option maxHeartbeats 4000000 in
theorem sameRec_any (r q : RecM) (bI bB bS : Bool) (w : World)
  (hI : ∀ w', G w w' → Calls Tryz.prog 23 #[.slice r.An r.nodes.length r.cn, .slice q.An q.nodes.length q.cn] w' fun e w'' => e = .returned (.bool bI) ∧ G w' w'')
  (hB : ∀ w', G w w' → Calls Tryz.prog 24 #[.agg #[.string r.key, .slice r.Ap r.ps.length r.cp], .agg #[.string q.key, .slice q.Ap q.ps.length q.cp]] w' fun e w'' => e = .returned (.bool bB) ∧ G w' w'')
  (hS : ∀ w', G w w' → Calls Tryz.prog 25 #[.slice r.As r.sms.length r.cs, .slice q.As q.sms.length q.cs] w' fun e w'' => e = .returned (.bool bS) ∧ G w' w'') :
  Calls Tryz.prog 7 #[.agg r.cells, .agg q.cells] w fun e w' => e = .returned (.bool (recB r q bI bB bS)) ∧ G w w' := by
 obtain ⟨kind, rn, dst, yes, ⟨a, b, c⟩, x1, x2, x3, An, cn, nodes, key, Ap, cp, ps, z1, z2, z3, z4, As, cs, sms⟩ := r
 obtain ⟨kind', rn', dst', yes', ⟨a', b', c'⟩, x1', x2', x3', An', cn', nodes', key', Ap', cp', ps', z1', z2', z3', z4', As', cs', sms'⟩ := q
 unfold RecM.cells recB
 dsimp only at hI hB hS ⊢
 have hq1 := @st_eql
 have hq2 := @tx_eql
 have hq3 := @rg_eql
 obtain ⟨c1, t1⟩ : ∃ u, (kind == kind') = u := ⟨_, rfl⟩
 rw [t1]
 obtain ⟨c2, t2⟩ : ∃ u, (rn == rn') = u := ⟨_, rfl⟩
 rw [t2]
 obtain ⟨c3, t3⟩ : ∃ u, (dst == dst') = u := ⟨_, rfl⟩
 rw [t3]
 obtain ⟨c4, t4⟩ : ∃ u, (yes == yes') = u := ⟨_, rfl⟩
 rw [t4]
 obtain ⟨c5, t5⟩ : ∃ u, (stB ⟨a, b, c⟩ ⟨a', b', c'⟩) = u := ⟨_, rfl⟩
 rw [t5]
 obtain ⟨c6, t6⟩ : ∃ u, (txB x1 x2 x3 x1' x2' x3') = u := ⟨_, rfl⟩
 rw [t6]
 obtain ⟨c9, t9⟩ : ∃ u, (rgB z1 z2 z3 z4 z1' z2' z3' z4') = u := ⟨_, rfl⟩
 rw [t9]
 go_enter Tryz.func7, Tryz.ntmps7
 go_upto_region 1 with fail
 generalize hW0 : (w.alloc (.cells #[.int .i64 kind, .int .i64 rn, .int .i64 dst, .bool yes, .int .i64 a, .int .i64 b, .int .i64 c, .int .i64 x1, .int .i64 x2, .int .i64 x3, .slice An nodes.length cn, .string key, .slice Ap ps.length cp, .int .i64 z1, .int .i64 z2, .int .i64 z3, .int .i64 z4, .slice As sms.length cs] 36)).alloc (.cells #[.int .i64 kind', .int .i64 rn', .int .i64 dst', .bool yes', .int .i64 a', .int .i64 b', .int .i64 c', .int .i64 x1', .int .i64 x2', .int .i64 x3', .slice An' nodes'.length cn', .string key', .slice Ap' ps'.length cp', .int .i64 z1', .int .i64 z2', .int .i64 z3', .int .i64 z4', .slice As' sms'.length cs'] 36) = W0
 have hz : w.heap.size + 1 < W0.heap.size := by rw [← hW0]; simp
 have hG0 : G w W0 := by rw [← hW0]; exact (G.new _ _).alloc _
 have r0 : W0.cell? ⟨w.heap.size, 0, none⟩ = some (.int .i64 kind) := by rw [← hW0]; simp
 have r1 : W0.cell? ⟨w.heap.size, 1, none⟩ = some (.int .i64 rn) := by rw [← hW0]; simp
 have r2 : W0.cell? ⟨w.heap.size, 2, none⟩ = some (.int .i64 dst) := by rw [← hW0]; simp
 have r3 : W0.cell? ⟨w.heap.size, 3, none⟩ = some (.bool yes) := by rw [← hW0]; simp
 have r4 : W0.cell? ⟨w.heap.size, 4, none⟩ = some (.int .i64 a) := by rw [← hW0]; simp
 have r5 : W0.cell? ⟨w.heap.size, 5, none⟩ = some (.int .i64 b) := by rw [← hW0]; simp
 have r6 : W0.cell? ⟨w.heap.size, 6, none⟩ = some (.int .i64 c) := by rw [← hW0]; simp
 have r7 : W0.cell? ⟨w.heap.size, 7, none⟩ = some (.int .i64 x1) := by rw [← hW0]; simp
 have r8 : W0.cell? ⟨w.heap.size, 8, none⟩ = some (.int .i64 x2) := by rw [← hW0]; simp
 have r9 : W0.cell? ⟨w.heap.size, 9, none⟩ = some (.int .i64 x3) := by rw [← hW0]; simp
 have r10 : W0.cell? ⟨w.heap.size, 10, none⟩ = some (.slice An nodes.length cn) := by rw [← hW0]; simp
 have r11 : W0.cell? ⟨w.heap.size, 11, none⟩ = some (.string key) := by rw [← hW0]; simp
 have r12 : W0.cell? ⟨w.heap.size, 12, none⟩ = some (.slice Ap ps.length cp) := by rw [← hW0]; simp
 have r13 : W0.cell? ⟨w.heap.size, 13, none⟩ = some (.int .i64 z1) := by rw [← hW0]; simp
 have r14 : W0.cell? ⟨w.heap.size, 14, none⟩ = some (.int .i64 z2) := by rw [← hW0]; simp
 have r15 : W0.cell? ⟨w.heap.size, 15, none⟩ = some (.int .i64 z3) := by rw [← hW0]; simp
 have r16 : W0.cell? ⟨w.heap.size, 16, none⟩ = some (.int .i64 z4) := by rw [← hW0]; simp
 have r17 : W0.cell? ⟨w.heap.size, 17, none⟩ = some (.slice As sms.length cs) := by rw [← hW0]; simp
 have r18 : W0.cell? ⟨w.heap.size + 1, 0, none⟩ = some (.int .i64 kind') := by rw [← hW0]; simp
 have r19 : W0.cell? ⟨w.heap.size + 1, 1, none⟩ = some (.int .i64 rn') := by rw [← hW0]; simp
 have r20 : W0.cell? ⟨w.heap.size + 1, 2, none⟩ = some (.int .i64 dst') := by rw [← hW0]; simp
 have r21 : W0.cell? ⟨w.heap.size + 1, 3, none⟩ = some (.bool yes') := by rw [← hW0]; simp
 have r22 : W0.cell? ⟨w.heap.size + 1, 4, none⟩ = some (.int .i64 a') := by rw [← hW0]; simp
 have r23 : W0.cell? ⟨w.heap.size + 1, 5, none⟩ = some (.int .i64 b') := by rw [← hW0]; simp
 have r24 : W0.cell? ⟨w.heap.size + 1, 6, none⟩ = some (.int .i64 c') := by rw [← hW0]; simp
 have r25 : W0.cell? ⟨w.heap.size + 1, 7, none⟩ = some (.int .i64 x1') := by rw [← hW0]; simp
 have r26 : W0.cell? ⟨w.heap.size + 1, 8, none⟩ = some (.int .i64 x2') := by rw [← hW0]; simp
 have r27 : W0.cell? ⟨w.heap.size + 1, 9, none⟩ = some (.int .i64 x3') := by rw [← hW0]; simp
 have r28 : W0.cell? ⟨w.heap.size + 1, 10, none⟩ = some (.slice An' nodes'.length cn') := by rw [← hW0]; simp
 have r29 : W0.cell? ⟨w.heap.size + 1, 11, none⟩ = some (.string key') := by rw [← hW0]; simp
 have r30 : W0.cell? ⟨w.heap.size + 1, 12, none⟩ = some (.slice Ap' ps'.length cp') := by rw [← hW0]; simp
 have r31 : W0.cell? ⟨w.heap.size + 1, 13, none⟩ = some (.int .i64 z1') := by rw [← hW0]; simp
 have r32 : W0.cell? ⟨w.heap.size + 1, 14, none⟩ = some (.int .i64 z2') := by rw [← hW0]; simp
 have r33 : W0.cell? ⟨w.heap.size + 1, 15, none⟩ = some (.int .i64 z3') := by rw [← hW0]; simp
 have r34 : W0.cell? ⟨w.heap.size + 1, 16, none⟩ = some (.int .i64 z4') := by rw [← hW0]; simp
 have r35 : W0.cell? ⟨w.heap.size + 1, 17, none⟩ = some (.slice As' sms'.length cs') := by rw [← hW0]; simp
 clear hW0
 have q0 : ∀ w', G W0 w' → w'.cell? ⟨w.heap.size, 0, none⟩ = some (.int .i64 kind) := fun w' h => (h.cell (by omega)).trans r0
 have q1 : ∀ w', G W0 w' → w'.cell? ⟨w.heap.size, 1, none⟩ = some (.int .i64 rn) := fun w' h => (h.cell (by omega)).trans r1
 have q2 : ∀ w', G W0 w' → w'.cell? ⟨w.heap.size, 2, none⟩ = some (.int .i64 dst) := fun w' h => (h.cell (by omega)).trans r2
 have q3 : ∀ w', G W0 w' → w'.cell? ⟨w.heap.size, 3, none⟩ = some (.bool yes) := fun w' h => (h.cell (by omega)).trans r3
 have q4 : ∀ w', G W0 w' → w'.cell? ⟨w.heap.size, 4, none⟩ = some (.int .i64 a) := fun w' h => (h.cell (by omega)).trans r4
 have q5 : ∀ w', G W0 w' → w'.cell? ⟨w.heap.size, 5, none⟩ = some (.int .i64 b) := fun w' h => (h.cell (by omega)).trans r5
 have q6 : ∀ w', G W0 w' → w'.cell? ⟨w.heap.size, 6, none⟩ = some (.int .i64 c) := fun w' h => (h.cell (by omega)).trans r6
 have q7 : ∀ w', G W0 w' → w'.cell? ⟨w.heap.size, 7, none⟩ = some (.int .i64 x1) := fun w' h => (h.cell (by omega)).trans r7
 have q8 : ∀ w', G W0 w' → w'.cell? ⟨w.heap.size, 8, none⟩ = some (.int .i64 x2) := fun w' h => (h.cell (by omega)).trans r8
 have q9 : ∀ w', G W0 w' → w'.cell? ⟨w.heap.size, 9, none⟩ = some (.int .i64 x3) := fun w' h => (h.cell (by omega)).trans r9
 have q10 : ∀ w', G W0 w' → w'.cell? ⟨w.heap.size, 10, none⟩ = some (.slice An nodes.length cn) := fun w' h => (h.cell (by omega)).trans r10
 have q11 : ∀ w', G W0 w' → w'.cell? ⟨w.heap.size, 11, none⟩ = some (.string key) := fun w' h => (h.cell (by omega)).trans r11
 have q12 : ∀ w', G W0 w' → w'.cell? ⟨w.heap.size, 12, none⟩ = some (.slice Ap ps.length cp) := fun w' h => (h.cell (by omega)).trans r12
 have q13 : ∀ w', G W0 w' → w'.cell? ⟨w.heap.size, 13, none⟩ = some (.int .i64 z1) := fun w' h => (h.cell (by omega)).trans r13
 have q14 : ∀ w', G W0 w' → w'.cell? ⟨w.heap.size, 14, none⟩ = some (.int .i64 z2) := fun w' h => (h.cell (by omega)).trans r14
 have q15 : ∀ w', G W0 w' → w'.cell? ⟨w.heap.size, 15, none⟩ = some (.int .i64 z3) := fun w' h => (h.cell (by omega)).trans r15
 have q16 : ∀ w', G W0 w' → w'.cell? ⟨w.heap.size, 16, none⟩ = some (.int .i64 z4) := fun w' h => (h.cell (by omega)).trans r16
 have q17 : ∀ w', G W0 w' → w'.cell? ⟨w.heap.size, 17, none⟩ = some (.slice As sms.length cs) := fun w' h => (h.cell (by omega)).trans r17
 have q18 : ∀ w', G W0 w' → w'.cell? ⟨w.heap.size + 1, 0, none⟩ = some (.int .i64 kind') := fun w' h => (h.cell (by omega)).trans r18
 have q19 : ∀ w', G W0 w' → w'.cell? ⟨w.heap.size + 1, 1, none⟩ = some (.int .i64 rn') := fun w' h => (h.cell (by omega)).trans r19
 have q20 : ∀ w', G W0 w' → w'.cell? ⟨w.heap.size + 1, 2, none⟩ = some (.int .i64 dst') := fun w' h => (h.cell (by omega)).trans r20
 have q21 : ∀ w', G W0 w' → w'.cell? ⟨w.heap.size + 1, 3, none⟩ = some (.bool yes') := fun w' h => (h.cell (by omega)).trans r21
 have q22 : ∀ w', G W0 w' → w'.cell? ⟨w.heap.size + 1, 4, none⟩ = some (.int .i64 a') := fun w' h => (h.cell (by omega)).trans r22
 have q23 : ∀ w', G W0 w' → w'.cell? ⟨w.heap.size + 1, 5, none⟩ = some (.int .i64 b') := fun w' h => (h.cell (by omega)).trans r23
 have q24 : ∀ w', G W0 w' → w'.cell? ⟨w.heap.size + 1, 6, none⟩ = some (.int .i64 c') := fun w' h => (h.cell (by omega)).trans r24
 have q25 : ∀ w', G W0 w' → w'.cell? ⟨w.heap.size + 1, 7, none⟩ = some (.int .i64 x1') := fun w' h => (h.cell (by omega)).trans r25
 have q26 : ∀ w', G W0 w' → w'.cell? ⟨w.heap.size + 1, 8, none⟩ = some (.int .i64 x2') := fun w' h => (h.cell (by omega)).trans r26
 have q27 : ∀ w', G W0 w' → w'.cell? ⟨w.heap.size + 1, 9, none⟩ = some (.int .i64 x3') := fun w' h => (h.cell (by omega)).trans r27
 have q28 : ∀ w', G W0 w' → w'.cell? ⟨w.heap.size + 1, 10, none⟩ = some (.slice An' nodes'.length cn') := fun w' h => (h.cell (by omega)).trans r28
 have q29 : ∀ w', G W0 w' → w'.cell? ⟨w.heap.size + 1, 11, none⟩ = some (.string key') := fun w' h => (h.cell (by omega)).trans r29
 have q30 : ∀ w', G W0 w' → w'.cell? ⟨w.heap.size + 1, 12, none⟩ = some (.slice Ap' ps'.length cp') := fun w' h => (h.cell (by omega)).trans r30
 have q31 : ∀ w', G W0 w' → w'.cell? ⟨w.heap.size + 1, 13, none⟩ = some (.int .i64 z1') := fun w' h => (h.cell (by omega)).trans r31
 have q32 : ∀ w', G W0 w' → w'.cell? ⟨w.heap.size + 1, 14, none⟩ = some (.int .i64 z2') := fun w' h => (h.cell (by omega)).trans r32
 have q33 : ∀ w', G W0 w' → w'.cell? ⟨w.heap.size + 1, 15, none⟩ = some (.int .i64 z3') := fun w' h => (h.cell (by omega)).trans r33
 have q34 : ∀ w', G W0 w' → w'.cell? ⟨w.heap.size + 1, 16, none⟩ = some (.int .i64 z4') := fun w' h => (h.cell (by omega)).trans r34
 have q35 : ∀ w', G W0 w' → w'.cell? ⟨w.heap.size + 1, 17, none⟩ = some (.slice As' sms'.length cs') := fun w' h => (h.cell (by omega)).trans r35
 clear r0 r1 r2 r3 r4 r5 r6 r7 r8 r9 r10 r11 r12 r13 r14 r15 r16 r17 r18 r19 r20 r21 r22 r23 r24 r25 r26 r27 r28 r29 r30 r31 r32 r33 r34 r35
 have g0 := q0 _ (G.refl W0)
 have g1 := q1 _ (G.refl W0)
 have g2 := q2 _ (G.refl W0)
 have g3 := q3 _ (G.refl W0)
 have g4 := q4 _ (G.refl W0)
 have g5 := q5 _ (G.refl W0)
 have g6 := q6 _ (G.refl W0)
 have g7 := q7 _ (G.refl W0)
 have g8 := q8 _ (G.refl W0)
 have g9 := q9 _ (G.refl W0)
 have g10 := q10 _ (G.refl W0)
 have g11 := q11 _ (G.refl W0)
 have g12 := q12 _ (G.refl W0)
 have g13 := q13 _ (G.refl W0)
 have g14 := q14 _ (G.refl W0)
 have g15 := q15 _ (G.refl W0)
 have g16 := q16 _ (G.refl W0)
 have g17 := q17 _ (G.refl W0)
 have g18 := q18 _ (G.refl W0)
 have g19 := q19 _ (G.refl W0)
 have g20 := q20 _ (G.refl W0)
 have g21 := q21 _ (G.refl W0)
 have g22 := q22 _ (G.refl W0)
 have g23 := q23 _ (G.refl W0)
 have g24 := q24 _ (G.refl W0)
 have g25 := q25 _ (G.refl W0)
 have g26 := q26 _ (G.refl W0)
 have g27 := q27 _ (G.refl W0)
 have g28 := q28 _ (G.refl W0)
 have g29 := q29 _ (G.refl W0)
 have g30 := q30 _ (G.refl W0)
 have g31 := q31 _ (G.refl W0)
 have g32 := q32 _ (G.refl W0)
 have g33 := q33 _ (G.refl W0)
 have g34 := q34 _ (G.refl W0)
 have g35 := q35 _ (G.refl W0)
 cases c1 with
 | false =>
  go_wp2_with (first
    | (go_at_call 23; (with_reducible refine Calls.mono (hI _ (by assumption)) ?_); rintro e u1 ⟨rfl, hk1⟩; have hk1' := hG0.trans hk1; have g11 := q11 _ hk1; have g12 := q12 _ hk1; have g29 := q29 _ hk1; have g30 := q30 _ hk1)
    | (go_at_call 24; (with_reducible refine Calls.mono (hB _ (by assumption)) ?_); rintro e u2 ⟨rfl, hk2⟩; have hk2' := hk1'.trans hk2; have hk2'' := hk1.trans hk2; have g13 := q13 _ hk2''; have g14 := q14 _ hk2''; have g15 := q15 _ hk2''; have g16 := q16 _ hk2''; have g31 := q31 _ hk2''; have g32 := q32 _ hk2''; have g33 := q33 _ hk2''; have g34 := q34 _ hk2''; have g17 := q17 _ hk2''; have g35 := q35 _ hk2'')
    | (go_at_call 25; (with_reducible refine Calls.mono (hS _ (by assumption)) ?_); rintro e u3 ⟨rfl, hk3⟩; have hk3' := hk2'.trans hk3))
  go_ret
  exact ⟨rfl, hG0⟩
 | true =>
  cases c2 with
  | false =>
   go_wp2_with (first
     | (go_at_call 23; (with_reducible refine Calls.mono (hI _ (by assumption)) ?_); rintro e u1 ⟨rfl, hk1⟩; have hk1' := hG0.trans hk1; have g11 := q11 _ hk1; have g12 := q12 _ hk1; have g29 := q29 _ hk1; have g30 := q30 _ hk1)
     | (go_at_call 24; (with_reducible refine Calls.mono (hB _ (by assumption)) ?_); rintro e u2 ⟨rfl, hk2⟩; have hk2' := hk1'.trans hk2; have hk2'' := hk1.trans hk2; have g13 := q13 _ hk2''; have g14 := q14 _ hk2''; have g15 := q15 _ hk2''; have g16 := q16 _ hk2''; have g31 := q31 _ hk2''; have g32 := q32 _ hk2''; have g33 := q33 _ hk2''; have g34 := q34 _ hk2''; have g17 := q17 _ hk2''; have g35 := q35 _ hk2'')
     | (go_at_call 25; (with_reducible refine Calls.mono (hS _ (by assumption)) ?_); rintro e u3 ⟨rfl, hk3⟩; have hk3' := hk2'.trans hk3))
   go_ret
   exact ⟨rfl, hG0⟩
  | true =>
   cases c3 with
   | false =>
    go_wp2_with (first
      | (go_at_call 23; (with_reducible refine Calls.mono (hI _ (by assumption)) ?_); rintro e u1 ⟨rfl, hk1⟩; have hk1' := hG0.trans hk1; have g11 := q11 _ hk1; have g12 := q12 _ hk1; have g29 := q29 _ hk1; have g30 := q30 _ hk1)
      | (go_at_call 24; (with_reducible refine Calls.mono (hB _ (by assumption)) ?_); rintro e u2 ⟨rfl, hk2⟩; have hk2' := hk1'.trans hk2; have hk2'' := hk1.trans hk2; have g13 := q13 _ hk2''; have g14 := q14 _ hk2''; have g15 := q15 _ hk2''; have g16 := q16 _ hk2''; have g31 := q31 _ hk2''; have g32 := q32 _ hk2''; have g33 := q33 _ hk2''; have g34 := q34 _ hk2''; have g17 := q17 _ hk2''; have g35 := q35 _ hk2'')
      | (go_at_call 25; (with_reducible refine Calls.mono (hS _ (by assumption)) ?_); rintro e u3 ⟨rfl, hk3⟩; have hk3' := hk2'.trans hk3))
    go_ret
    exact ⟨rfl, hG0⟩
   | true =>
    cases c4 with
    | false =>
     go_wp2_with (first
       | (go_at_call 23; (with_reducible refine Calls.mono (hI _ (by assumption)) ?_); rintro e u1 ⟨rfl, hk1⟩; have hk1' := hG0.trans hk1; have g11 := q11 _ hk1; have g12 := q12 _ hk1; have g29 := q29 _ hk1; have g30 := q30 _ hk1)
       | (go_at_call 24; (with_reducible refine Calls.mono (hB _ (by assumption)) ?_); rintro e u2 ⟨rfl, hk2⟩; have hk2' := hk1'.trans hk2; have hk2'' := hk1.trans hk2; have g13 := q13 _ hk2''; have g14 := q14 _ hk2''; have g15 := q15 _ hk2''; have g16 := q16 _ hk2''; have g31 := q31 _ hk2''; have g32 := q32 _ hk2''; have g33 := q33 _ hk2''; have g34 := q34 _ hk2''; have g17 := q17 _ hk2''; have g35 := q35 _ hk2'')
       | (go_at_call 25; (with_reducible refine Calls.mono (hS _ (by assumption)) ?_); rintro e u3 ⟨rfl, hk3⟩; have hk3' := hk2'.trans hk3))
     go_ret
     exact ⟨rfl, hG0⟩
    | true =>
     cases c5 with
     | false =>
      go_wp2_with (first
        | (go_at_call 23; (with_reducible refine Calls.mono (hI _ (by assumption)) ?_); rintro e u1 ⟨rfl, hk1⟩; have hk1' := hG0.trans hk1; have g11 := q11 _ hk1; have g12 := q12 _ hk1; have g29 := q29 _ hk1; have g30 := q30 _ hk1)
        | (go_at_call 24; (with_reducible refine Calls.mono (hB _ (by assumption)) ?_); rintro e u2 ⟨rfl, hk2⟩; have hk2' := hk1'.trans hk2; have hk2'' := hk1.trans hk2; have g13 := q13 _ hk2''; have g14 := q14 _ hk2''; have g15 := q15 _ hk2''; have g16 := q16 _ hk2''; have g31 := q31 _ hk2''; have g32 := q32 _ hk2''; have g33 := q33 _ hk2''; have g34 := q34 _ hk2''; have g17 := q17 _ hk2''; have g35 := q35 _ hk2'')
        | (go_at_call 25; (with_reducible refine Calls.mono (hS _ (by assumption)) ?_); rintro e u3 ⟨rfl, hk3⟩; have hk3' := hk2'.trans hk3))
      go_ret
      exact ⟨rfl, hG0⟩
     | true =>
      cases c6 with
      | false =>
       go_wp2_with (first
         | (go_at_call 23; (with_reducible refine Calls.mono (hI _ (by assumption)) ?_); rintro e u1 ⟨rfl, hk1⟩; have hk1' := hG0.trans hk1; have g11 := q11 _ hk1; have g12 := q12 _ hk1; have g29 := q29 _ hk1; have g30 := q30 _ hk1)
         | (go_at_call 24; (with_reducible refine Calls.mono (hB _ (by assumption)) ?_); rintro e u2 ⟨rfl, hk2⟩; have hk2' := hk1'.trans hk2; have hk2'' := hk1.trans hk2; have g13 := q13 _ hk2''; have g14 := q14 _ hk2''; have g15 := q15 _ hk2''; have g16 := q16 _ hk2''; have g31 := q31 _ hk2''; have g32 := q32 _ hk2''; have g33 := q33 _ hk2''; have g34 := q34 _ hk2''; have g17 := q17 _ hk2''; have g35 := q35 _ hk2'')
         | (go_at_call 25; (with_reducible refine Calls.mono (hS _ (by assumption)) ?_); rintro e u3 ⟨rfl, hk3⟩; have hk3' := hk2'.trans hk3))
       go_ret
       exact ⟨rfl, hG0⟩
      | true =>
       cases bI with
       | false =>
        go_wp2_with (first
          | (go_at_call 23; (with_reducible refine Calls.mono (hI _ (by assumption)) ?_); rintro e u1 ⟨rfl, hk1⟩; have hk1' := hG0.trans hk1; have g11 := q11 _ hk1; have g12 := q12 _ hk1; have g29 := q29 _ hk1; have g30 := q30 _ hk1)
          | (go_at_call 24; (with_reducible refine Calls.mono (hB _ (by assumption)) ?_); rintro e u2 ⟨rfl, hk2⟩; have hk2' := hk1'.trans hk2; have hk2'' := hk1.trans hk2; have g13 := q13 _ hk2''; have g14 := q14 _ hk2''; have g15 := q15 _ hk2''; have g16 := q16 _ hk2''; have g31 := q31 _ hk2''; have g32 := q32 _ hk2''; have g33 := q33 _ hk2''; have g34 := q34 _ hk2''; have g17 := q17 _ hk2''; have g35 := q35 _ hk2'')
          | (go_at_call 25; (with_reducible refine Calls.mono (hS _ (by assumption)) ?_); rintro e u3 ⟨rfl, hk3⟩; have hk3' := hk2'.trans hk3))
        go_ret
        exact ⟨rfl, hk1'⟩
       | true =>
        cases bB with
        | false =>
         go_wp2_with (first
           | (go_at_call 23; (with_reducible refine Calls.mono (hI _ (by assumption)) ?_); rintro e u1 ⟨rfl, hk1⟩; have hk1' := hG0.trans hk1; have g11 := q11 _ hk1; have g12 := q12 _ hk1; have g29 := q29 _ hk1; have g30 := q30 _ hk1)
           | (go_at_call 24; (with_reducible refine Calls.mono (hB _ (by assumption)) ?_); rintro e u2 ⟨rfl, hk2⟩; have hk2' := hk1'.trans hk2; have hk2'' := hk1.trans hk2; have g13 := q13 _ hk2''; have g14 := q14 _ hk2''; have g15 := q15 _ hk2''; have g16 := q16 _ hk2''; have g31 := q31 _ hk2''; have g32 := q32 _ hk2''; have g33 := q33 _ hk2''; have g34 := q34 _ hk2''; have g17 := q17 _ hk2''; have g35 := q35 _ hk2'')
           | (go_at_call 25; (with_reducible refine Calls.mono (hS _ (by assumption)) ?_); rintro e u3 ⟨rfl, hk3⟩; have hk3' := hk2'.trans hk3))
         go_ret
         exact ⟨rfl, hk2'⟩
        | true =>
         cases c9 with
         | false =>
          go_wp2_with (first
            | (go_at_call 23; (with_reducible refine Calls.mono (hI _ (by assumption)) ?_); rintro e u1 ⟨rfl, hk1⟩; have hk1' := hG0.trans hk1; have g11 := q11 _ hk1; have g12 := q12 _ hk1; have g29 := q29 _ hk1; have g30 := q30 _ hk1)
            | (go_at_call 24; (with_reducible refine Calls.mono (hB _ (by assumption)) ?_); rintro e u2 ⟨rfl, hk2⟩; have hk2' := hk1'.trans hk2; have hk2'' := hk1.trans hk2; have g13 := q13 _ hk2''; have g14 := q14 _ hk2''; have g15 := q15 _ hk2''; have g16 := q16 _ hk2''; have g31 := q31 _ hk2''; have g32 := q32 _ hk2''; have g33 := q33 _ hk2''; have g34 := q34 _ hk2''; have g17 := q17 _ hk2''; have g35 := q35 _ hk2'')
            | (go_at_call 25; (with_reducible refine Calls.mono (hS _ (by assumption)) ?_); rintro e u3 ⟨rfl, hk3⟩; have hk3' := hk2'.trans hk3))
          go_ret
          exact ⟨rfl, hk2'⟩
         | true =>
          cases bS with
          | false =>
           go_wp2_with (first
             | (go_at_call 23; (with_reducible refine Calls.mono (hI _ (by assumption)) ?_); rintro e u1 ⟨rfl, hk1⟩; have hk1' := hG0.trans hk1; have g11 := q11 _ hk1; have g12 := q12 _ hk1; have g29 := q29 _ hk1; have g30 := q30 _ hk1)
             | (go_at_call 24; (with_reducible refine Calls.mono (hB _ (by assumption)) ?_); rintro e u2 ⟨rfl, hk2⟩; have hk2' := hk1'.trans hk2; have hk2'' := hk1.trans hk2; have g13 := q13 _ hk2''; have g14 := q14 _ hk2''; have g15 := q15 _ hk2''; have g16 := q16 _ hk2''; have g31 := q31 _ hk2''; have g32 := q32 _ hk2''; have g33 := q33 _ hk2''; have g34 := q34 _ hk2''; have g17 := q17 _ hk2''; have g35 := q35 _ hk2'')
             | (go_at_call 25; (with_reducible refine Calls.mono (hS _ (by assumption)) ?_); rintro e u3 ⟨rfl, hk3⟩; have hk3' := hk2'.trans hk3))
           go_ret
           exact ⟨rfl, hk3'⟩
          | true =>
           go_wp2_with (first
             | (go_at_call 23; (with_reducible refine Calls.mono (hI _ (by assumption)) ?_); rintro e u1 ⟨rfl, hk1⟩; have hk1' := hG0.trans hk1; have g11 := q11 _ hk1; have g12 := q12 _ hk1; have g29 := q29 _ hk1; have g30 := q30 _ hk1)
             | (go_at_call 24; (with_reducible refine Calls.mono (hB _ (by assumption)) ?_); rintro e u2 ⟨rfl, hk2⟩; have hk2' := hk1'.trans hk2; have hk2'' := hk1.trans hk2; have g13 := q13 _ hk2''; have g14 := q14 _ hk2''; have g15 := q15 _ hk2''; have g16 := q16 _ hk2''; have g31 := q31 _ hk2''; have g32 := q32 _ hk2''; have g33 := q33 _ hk2''; have g34 := q34 _ hk2''; have g17 := q17 _ hk2''; have g35 := q35 _ hk2'')
             | (go_at_call 25; (with_reducible refine Calls.mono (hS _ (by assumption)) ?_); rintro e u3 ⟨rfl, hk3⟩; have hk3' := hk2'.trans hk3))
           go_ret
           exact ⟨rfl, hk3'⟩
end Go.Proofs.YthafeaclpcjjbaaGreatDoor

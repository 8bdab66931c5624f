/- rec.spare: whether the fields are zero that are not named. Condition: lengths fit an int. -/
import Derived.Test.YthafeaclpcjjbaaGreatDoorM27RecDecodes
import Derived.Deep.DeepCutAuto
namespace Go.Proofs.YthafeaclpcjjbaaGreatDoor
open Go.RowKit
def txB (a b c a' b' c' : Int) : Bool := decide (a = a' ∧ b = b' ∧ c = c')
def rgB (a b c d a' b' c' d' : Int) : Bool := decide (a = a' ∧ b = b' ∧ c = c' ∧ d = d')
theorem empty_b (s : ByteArray) : s.toList.isEmpty = decide (s = ByteArray.empty) := by
 rw [← bytes_beq]
 have : ByteArray.empty.toList = [] := by rw [ByteArray.toList_eq]; rfl
 rw [this]
 cases s.toList <;> rfl
section
variable (w : World)
theorem tx_equal (a b c a' b' c' : Int) : (Op.equalIn 10000 27 (.agg #[.int .i64 a, .int .i64 b, .int .i64 c]) (.agg #[.int .i64 a', .int .i64 b', .int .i64 c'])).run Tryz.prog w = .ok (txB a b c a' b' c') w := by
 by_cases h1 : a = a' <;> by_cases h2 : b = b' <;> by_cases h3 : c = c' <;> simp [go_sem, txB, h1, h2, h3]
theorem tx_eql (a b c a' b' c' : Int) : (binOp .eql 27 (.agg #[.int .i64 a, .int .i64 b, .int .i64 c]) (.agg #[.int .i64 a', .int .i64 b', .int .i64 c'])).run Tryz.prog w = .ok (.bool (txB a b c a' b' c')) w := by
 rw [run_eql_struct, tx_equal]
 rfl
theorem tx_neq (a b c a' b' c' : Int) : (binOp .neq 27 (.agg #[.int .i64 a, .int .i64 b, .int .i64 c]) (.agg #[.int .i64 a', .int .i64 b', .int .i64 c'])).run Tryz.prog w = .ok (.bool (!txB a b c a' b' c')) w := by
 rw [run_neq_struct, tx_equal]
 rfl
theorem rg_equal (a b c d a' b' c' d' : Int) : (Op.equalIn 10000 33 (.agg #[.int .i64 a, .int .i64 b, .int .i64 c, .int .i64 d]) (.agg #[.int .i64 a', .int .i64 b', .int .i64 c', .int .i64 d'])).run Tryz.prog w = .ok (rgB a b c d a' b' c' d') w := by
 by_cases h1 : a = a' <;> by_cases h2 : b = b' <;> by_cases h3 : c = c' <;> by_cases h4 : d = d' <;> simp [go_sem, rgB, h1, h2, h3, h4]
theorem rg_eql (a b c d a' b' c' d' : Int) : (binOp .eql 33 (.agg #[.int .i64 a, .int .i64 b, .int .i64 c, .int .i64 d]) (.agg #[.int .i64 a', .int .i64 b', .int .i64 c', .int .i64 d'])).run Tryz.prog w = .ok (.bool (rgB a b c d a' b' c' d')) w := by
 rw [run_eql_struct, rg_equal]
 rfl
theorem rg_neq (a b c d a' b' c' d' : Int) : (binOp .neq 33 (.agg #[.int .i64 a, .int .i64 b, .int .i64 c, .int .i64 d]) (.agg #[.int .i64 a', .int .i64 b', .int .i64 c', .int .i64 d'])).run Tryz.prog w = .ok (.bool (!rgB a b c d a' b' c' d')) w := by
 rw [run_neq_struct, rg_equal]
 rfl
end
set_option maxRecDepth 100000 in
set_option maxHeartbeats 4000000 in
theorem recSpare_any (kind n dst a b c x1 x2 x3 z1 z2 z3 z4 : Int) (yes : Bool) (key : ByteArray) (An Ap As : Option Addr) (cn cp cs nodes puts sms : Nat) (f0 f1 f2 f3 f4 f5 f6 f7 f8 : Bool) (w : World) :
  Calls Tryz.prog 26 #[.agg #[.int .i64 kind, .int .i64 n, .int .i64 dst, .bool yes, .int .i64 a, .int .i64 b, .int .i64 c, .int .i64 x1, .int .i64 x2, .int .i64 x3, .slice An nodes cn, .string key, .slice Ap puts cp, .int .i64 z1, .int .i64 z2, .int .i64 z3, .int .i64 z4, .slice As sms cs],
   .agg #[.bool f0, .bool f1, .bool f2, .bool f3, .bool f4, .bool f5, .bool f6, .bool f7, .bool f8]] w fun e w' => e = .returned (.bool (!((!f0 && decide (n ≠ 0)) || (!f1 && decide (dst ≠ 0)) || (!f2 && yes) || (!f3 && !stB ⟨a, b, c⟩ ⟨0, 0, 0⟩) || (!f4 && !txB x1 x2 x3 0 0 0) || (!f7 && !rgB z1 z2 z3 z4 0 0 0 0) || (!f5 && decide (0 < nodes)) || (!f8 && decide (0 < sms)) || (!f6 && (decide (key ≠ ByteArray.empty) || decide (0 < puts)))))) ∧ G w w' := by
 have hn1 := @st_neq
 have hn2 := @tx_neq
 have hn3 := @rg_neq
 obtain ⟨c1, hc1⟩ : ∃ u, (!f0 && decide (n ≠ 0)) = u := ⟨_, rfl⟩
 obtain ⟨c2, hc2⟩ : ∃ u, (!f1 && decide (dst ≠ 0)) = u := ⟨_, rfl⟩
 obtain ⟨c3, hc3⟩ : ∃ u, (!f2 && yes) = u := ⟨_, rfl⟩
 obtain ⟨c4, hc4⟩ : ∃ u, (!f3 && !stB ⟨a, b, c⟩ ⟨0, 0, 0⟩) = u := ⟨_, rfl⟩
 obtain ⟨c5, hc5⟩ : ∃ u, (!f4 && !txB x1 x2 x3 0 0 0) = u := ⟨_, rfl⟩
 obtain ⟨c6, hc6⟩ : ∃ u, (!f7 && !rgB z1 z2 z3 z4 0 0 0 0) = u := ⟨_, rfl⟩
 obtain ⟨c7, hc7⟩ : ∃ u, (!f5 && decide (0 < nodes)) = u := ⟨_, rfl⟩
 obtain ⟨c8, hc8⟩ : ∃ u, (!f8 && decide (0 < sms)) = u := ⟨_, rfl⟩
 obtain ⟨c9, hc9⟩ : ∃ u, (!f6 && (decide (key ≠ ByteArray.empty) || decide (0 < puts))) = u := ⟨_, rfl⟩
 rw [hc1, hc2, hc3, hc4, hc5, hc6, hc7, hc8, hc9]
 obtain ⟨ans, hfin⟩ : ∃ x, (!(c1 || c2 || c3 || c4 || c5 || c6 || c7 || c8 || c9)) = x := ⟨_, rfl⟩
 rw [hfin]
 replace hfin := Lib.hid hfin
 replace hc1 := Lib.hid hc1
 replace hc2 := Lib.hid hc2
 replace hc3 := Lib.hid hc3
 replace hc4 := Lib.hid hc4
 replace hc5 := Lib.hid hc5
 replace hc6 := Lib.hid hc6
 replace hc7 := Lib.hid hc7
 replace hc8 := Lib.hid hc8
 replace hc9 := Lib.hid hc9
 replace hn1 := Lib.hid hn1
 replace hn2 := Lib.hid hn2
 replace hn3 := Lib.hid hn3
 go_enter Tryz.func26, Tryz.ntmps26
 go_upto_region 1 with fail
 generalize hW0 : (w.alloc (.cells #[.int .i64 kind, .int .i64 n, .int .i64 dst, .bool yes, .int .i64 a, .int .i64 b, .int .i64 c, .int .i64 x1, .int .i64 x2, .int .i64 x3, .slice An nodes cn, .string key, .slice Ap puts cp, .int .i64 z1, .int .i64 z2, .int .i64 z3, .int .i64 z4, .slice As sms cs] 36)).alloc (.cells #[.bool f0, .bool f1, .bool f2, .bool f3, .bool f4, .bool f5, .bool f6, .bool f7, .bool f8] 48) = W0
 have hz : w.heap.size + 1 < W0.heap.size := by rw [← hW0]; simp
 have hG0 : G w W0 := by rw [← hW0]; exact (G.new _ _).alloc _
 have r0 : W0.cell? ⟨w.heap.size, 0, none⟩ = some (.int .i64 kind) := by rw [← hW0]; simp
 have r1 : W0.cell? ⟨w.heap.size, 1, none⟩ = some (.int .i64 n) := by rw [← hW0]; simp
 have r2 : W0.cell? ⟨w.heap.size, 2, none⟩ = some (.int .i64 dst) := by rw [← hW0]; simp
 have r3 : W0.cell? ⟨w.heap.size, 3, none⟩ = some (.bool yes) := by rw [← hW0]; simp
 have r4 : W0.cell? ⟨w.heap.size, 4, none⟩ = some (.int .i64 a) := by rw [← hW0]; simp
 have r5 : W0.cell? ⟨w.heap.size, 5, none⟩ = some (.int .i64 b) := by rw [← hW0]; simp
 have r6 : W0.cell? ⟨w.heap.size, 6, none⟩ = some (.int .i64 c) := by rw [← hW0]; simp
 have r7 : W0.cell? ⟨w.heap.size, 7, none⟩ = some (.int .i64 x1) := by rw [← hW0]; simp
 have r8 : W0.cell? ⟨w.heap.size, 8, none⟩ = some (.int .i64 x2) := by rw [← hW0]; simp
 have r9 : W0.cell? ⟨w.heap.size, 9, none⟩ = some (.int .i64 x3) := by rw [← hW0]; simp
 have r10 : W0.cell? ⟨w.heap.size, 10, none⟩ = some (.slice An nodes cn) := by rw [← hW0]; simp
 have r11 : W0.cell? ⟨w.heap.size, 11, none⟩ = some (.string key) := by rw [← hW0]; simp
 have r12 : W0.cell? ⟨w.heap.size, 12, none⟩ = some (.slice Ap puts cp) := by rw [← hW0]; simp
 have r13 : W0.cell? ⟨w.heap.size, 13, none⟩ = some (.int .i64 z1) := by rw [← hW0]; simp
 have r14 : W0.cell? ⟨w.heap.size, 14, none⟩ = some (.int .i64 z2) := by rw [← hW0]; simp
 have r15 : W0.cell? ⟨w.heap.size, 15, none⟩ = some (.int .i64 z3) := by rw [← hW0]; simp
 have r16 : W0.cell? ⟨w.heap.size, 16, none⟩ = some (.int .i64 z4) := by rw [← hW0]; simp
 have r17 : W0.cell? ⟨w.heap.size, 17, none⟩ = some (.slice As sms cs) := by rw [← hW0]; simp
 have r18 : W0.cell? ⟨w.heap.size + 1, 0, none⟩ = some (.bool f0) := by rw [← hW0]; simp
 have r19 : W0.cell? ⟨w.heap.size + 1, 1, none⟩ = some (.bool f1) := by rw [← hW0]; simp
 have r20 : W0.cell? ⟨w.heap.size + 1, 2, none⟩ = some (.bool f2) := by rw [← hW0]; simp
 have r21 : W0.cell? ⟨w.heap.size + 1, 3, none⟩ = some (.bool f3) := by rw [← hW0]; simp
 have r22 : W0.cell? ⟨w.heap.size + 1, 4, none⟩ = some (.bool f4) := by rw [← hW0]; simp
 have r23 : W0.cell? ⟨w.heap.size + 1, 5, none⟩ = some (.bool f5) := by rw [← hW0]; simp
 have r24 : W0.cell? ⟨w.heap.size + 1, 6, none⟩ = some (.bool f6) := by rw [← hW0]; simp
 have r25 : W0.cell? ⟨w.heap.size + 1, 7, none⟩ = some (.bool f7) := by rw [← hW0]; simp
 have r26 : W0.cell? ⟨w.heap.size + 1, 8, none⟩ = some (.bool f8) := by rw [← hW0]; simp
 clear hW0
 have q0 : ∀ w', G W0 w' → w'.cell? ⟨w.heap.size, 0, none⟩ = some (.int .i64 kind) := fun w' h => (h.cell (by omega)).trans r0
 have q1 : ∀ w', G W0 w' → w'.cell? ⟨w.heap.size, 1, none⟩ = some (.int .i64 n) := fun w' h => (h.cell (by omega)).trans r1
 have q2 : ∀ w', G W0 w' → w'.cell? ⟨w.heap.size, 2, none⟩ = some (.int .i64 dst) := fun w' h => (h.cell (by omega)).trans r2
 have q3 : ∀ w', G W0 w' → w'.cell? ⟨w.heap.size, 3, none⟩ = some (.bool yes) := fun w' h => (h.cell (by omega)).trans r3
 have q4 : ∀ w', G W0 w' → w'.cell? ⟨w.heap.size, 4, none⟩ = some (.int .i64 a) := fun w' h => (h.cell (by omega)).trans r4
 have q5 : ∀ w', G W0 w' → w'.cell? ⟨w.heap.size, 5, none⟩ = some (.int .i64 b) := fun w' h => (h.cell (by omega)).trans r5
 have q6 : ∀ w', G W0 w' → w'.cell? ⟨w.heap.size, 6, none⟩ = some (.int .i64 c) := fun w' h => (h.cell (by omega)).trans r6
 have q7 : ∀ w', G W0 w' → w'.cell? ⟨w.heap.size, 7, none⟩ = some (.int .i64 x1) := fun w' h => (h.cell (by omega)).trans r7
 have q8 : ∀ w', G W0 w' → w'.cell? ⟨w.heap.size, 8, none⟩ = some (.int .i64 x2) := fun w' h => (h.cell (by omega)).trans r8
 have q9 : ∀ w', G W0 w' → w'.cell? ⟨w.heap.size, 9, none⟩ = some (.int .i64 x3) := fun w' h => (h.cell (by omega)).trans r9
 have q10 : ∀ w', G W0 w' → w'.cell? ⟨w.heap.size, 10, none⟩ = some (.slice An nodes cn) := fun w' h => (h.cell (by omega)).trans r10
 have q11 : ∀ w', G W0 w' → w'.cell? ⟨w.heap.size, 11, none⟩ = some (.string key) := fun w' h => (h.cell (by omega)).trans r11
 have q12 : ∀ w', G W0 w' → w'.cell? ⟨w.heap.size, 12, none⟩ = some (.slice Ap puts cp) := fun w' h => (h.cell (by omega)).trans r12
 have q13 : ∀ w', G W0 w' → w'.cell? ⟨w.heap.size, 13, none⟩ = some (.int .i64 z1) := fun w' h => (h.cell (by omega)).trans r13
 have q14 : ∀ w', G W0 w' → w'.cell? ⟨w.heap.size, 14, none⟩ = some (.int .i64 z2) := fun w' h => (h.cell (by omega)).trans r14
 have q15 : ∀ w', G W0 w' → w'.cell? ⟨w.heap.size, 15, none⟩ = some (.int .i64 z3) := fun w' h => (h.cell (by omega)).trans r15
 have q16 : ∀ w', G W0 w' → w'.cell? ⟨w.heap.size, 16, none⟩ = some (.int .i64 z4) := fun w' h => (h.cell (by omega)).trans r16
 have q17 : ∀ w', G W0 w' → w'.cell? ⟨w.heap.size, 17, none⟩ = some (.slice As sms cs) := fun w' h => (h.cell (by omega)).trans r17
 have q18 : ∀ w', G W0 w' → w'.cell? ⟨w.heap.size + 1, 0, none⟩ = some (.bool f0) := fun w' h => (h.cell (by omega)).trans r18
 have q19 : ∀ w', G W0 w' → w'.cell? ⟨w.heap.size + 1, 1, none⟩ = some (.bool f1) := fun w' h => (h.cell (by omega)).trans r19
 have q20 : ∀ w', G W0 w' → w'.cell? ⟨w.heap.size + 1, 2, none⟩ = some (.bool f2) := fun w' h => (h.cell (by omega)).trans r20
 have q21 : ∀ w', G W0 w' → w'.cell? ⟨w.heap.size + 1, 3, none⟩ = some (.bool f3) := fun w' h => (h.cell (by omega)).trans r21
 have q22 : ∀ w', G W0 w' → w'.cell? ⟨w.heap.size + 1, 4, none⟩ = some (.bool f4) := fun w' h => (h.cell (by omega)).trans r22
 have q23 : ∀ w', G W0 w' → w'.cell? ⟨w.heap.size + 1, 5, none⟩ = some (.bool f5) := fun w' h => (h.cell (by omega)).trans r23
 have q24 : ∀ w', G W0 w' → w'.cell? ⟨w.heap.size + 1, 6, none⟩ = some (.bool f6) := fun w' h => (h.cell (by omega)).trans r24
 have q25 : ∀ w', G W0 w' → w'.cell? ⟨w.heap.size + 1, 7, none⟩ = some (.bool f7) := fun w' h => (h.cell (by omega)).trans r25
 have q26 : ∀ w', G W0 w' → w'.cell? ⟨w.heap.size + 1, 8, none⟩ = some (.bool f8) := fun w' h => (h.cell (by omega)).trans r26
 clear r0 r1 r2 r3 r4 r5 r6 r7 r8 r9 r10 r11 r12 r13 r14 r15 r16 r17 r18 r19 r20 r21 r22 r23 r24 r25 r26
 have g1 := q1 _ (G.refl W0)
 have g18 := q18 _ (G.refl W0)
 go_cut [5] (fun v wx => v = .bool c1 ∧ wx = W0)
 case first =>
  cases f0 with
  | true =>
   go_wp2_with fail
   go_meet
   exact ⟨(by rw [← hc1.out]; rfl), rfl⟩
  | false =>
   by_cases h : n = 0
   ·have t : (n != 0) = false := by rw [bne_eq_false_iff_eq]; exact h
    have e : c1 = false := by rw [← hc1.out]; simp [h]
    subst e
    replace h := Lib.hid h
    go_wp2_with fail
    go_meet
    exact ⟨rfl, rfl⟩
   ·have t : (n != 0) = true := by rw [bne_iff_ne]; exact h
    have e : c1 = true := by rw [← hc1.out]; simp [h]
    subst e
    replace h := Lib.hid h
    go_wp2_with fail
    go_meet
    exact ⟨rfl, rfl⟩
 case rest =>
  obtain ⟨rfl, hwc⟩ := hcut
  rw [hwc]
  clear hwc
  clear g1 g18
  cases c1 with
  | true =>
   have hans : ans = false := by rw [← hfin.out]; simp
   go_wp2_with fail
   go_ret
   exact ⟨by rw [hans]; rfl, hG0⟩
  | false =>
   go_upto_region 2 with fail
   have g2 := q2 _ (G.refl W0)
   have g19 := q19 _ (G.refl W0)
   go_cut [5] (fun v wx => v = .bool c2 ∧ wx = W0)
   case first =>
    cases f1 with
    | true =>
     go_wp2_with fail
     go_meet
     exact ⟨(by rw [← hc2.out]; rfl), rfl⟩
    | false =>
     by_cases h : dst = 0
     ·have t : (dst != 0) = false := by rw [bne_eq_false_iff_eq]; exact h
      have e : c2 = false := by rw [← hc2.out]; simp [h]
      subst e
      replace h := Lib.hid h
      go_wp2_with fail
      go_meet
      exact ⟨rfl, rfl⟩
     ·have t : (dst != 0) = true := by rw [bne_iff_ne]; exact h
      have e : c2 = true := by rw [← hc2.out]; simp [h]
      subst e
      replace h := Lib.hid h
      go_wp2_with fail
      go_meet
      exact ⟨rfl, rfl⟩
   case rest =>
    obtain ⟨rfl, hwc⟩ := hcut
    rw [hwc]
    clear hwc
    clear g2 g19
    cases c2 with
    | true =>
     have hans : ans = false := by rw [← hfin.out]; simp
     go_wp2_with fail
     go_ret
     exact ⟨by rw [hans]; rfl, hG0⟩
    | false =>
     go_upto_region 3 with fail
     have g3 := q3 _ (G.refl W0)
     have g20 := q20 _ (G.refl W0)
     go_cut [5] (fun v wx => v = .bool c3 ∧ wx = W0)
     case first =>
      cases f2 with
      | true =>
       go_wp2_with fail
       go_meet
       exact ⟨(by rw [← hc3.out]; rfl), rfl⟩
      | false =>
       have e : yes = c3 := by rw [← hc3.out]; rfl
       subst e
       go_wp2_with fail
       go_meet
       exact ⟨rfl, rfl⟩
     case rest =>
      obtain ⟨rfl, hwc⟩ := hcut
      rw [hwc]
      clear hwc
      clear g3 g20
      cases c3 with
      | true =>
       have hans : ans = false := by rw [← hfin.out]; simp
       go_wp2_with fail
       go_ret
       exact ⟨by rw [hans]; rfl, hG0⟩
      | false =>
       go_upto_region 4 with fail
       have g4 := q4 _ (G.refl W0)
       have g5 := q5 _ (G.refl W0)
       have g6 := q6 _ (G.refl W0)
       have g21 := q21 _ (G.refl W0)
       go_cut [5] (fun v wx => v = .bool c4 ∧ wx = W0)
       case first =>
        cases f3 with
        | true =>
         go_wp2_with fail
         go_meet
         exact ⟨(by rw [← hc4.out]; rfl), rfl⟩
        | false =>
         have hn := hn1.out
         have e : (!stB ⟨a, b, c⟩ ⟨0, 0, 0⟩) = c4 := by rw [← hc4.out]; rfl
         replace e := Lib.hid e
         go_wp2_with fail
         go_meet
         exact ⟨(by rw [← e.out]), rfl⟩
       case rest =>
        obtain ⟨rfl, hwc⟩ := hcut
        rw [hwc]
        clear hwc
        clear g4 g5 g6 g21
        cases c4 with
        | true =>
         have hans : ans = false := by rw [← hfin.out]; simp
         go_wp2_with fail
         go_ret
         exact ⟨by rw [hans]; rfl, hG0⟩
        | false =>
         go_upto_region 5 with fail
         have g7 := q7 _ (G.refl W0)
         have g8 := q8 _ (G.refl W0)
         have g9 := q9 _ (G.refl W0)
         have g22 := q22 _ (G.refl W0)
         go_cut [5] (fun v wx => v = .bool c5 ∧ wx = W0)
         case first =>
          cases f4 with
          | true =>
           go_wp2_with fail
           go_meet
           exact ⟨(by rw [← hc5.out]; rfl), rfl⟩
          | false =>
           have hn := hn2.out
           have e : (!txB x1 x2 x3 0 0 0) = c5 := by rw [← hc5.out]; rfl
           replace e := Lib.hid e
           go_wp2_with fail
           go_meet
           exact ⟨(by rw [← e.out]), rfl⟩
         case rest =>
          obtain ⟨rfl, hwc⟩ := hcut
          rw [hwc]
          clear hwc
          clear g7 g8 g9 g22
          cases c5 with
          | true =>
           have hans : ans = false := by rw [← hfin.out]; simp
           go_wp2_with fail
           go_ret
           exact ⟨by rw [hans]; rfl, hG0⟩
          | false =>
           go_upto_region 6 with fail
           have g13 := q13 _ (G.refl W0)
           have g14 := q14 _ (G.refl W0)
           have g15 := q15 _ (G.refl W0)
           have g16 := q16 _ (G.refl W0)
           have g25 := q25 _ (G.refl W0)
           go_cut [5] (fun v wx => v = .bool c6 ∧ wx = W0)
           case first =>
            cases f7 with
            | true =>
             go_wp2_with fail
             go_meet
             exact ⟨(by rw [← hc6.out]; rfl), rfl⟩
            | false =>
             have hn := hn3.out
             have e : (!rgB z1 z2 z3 z4 0 0 0 0) = c6 := by rw [← hc6.out]; rfl
             replace e := Lib.hid e
             go_wp2_with fail
             go_meet
             exact ⟨(by rw [← e.out]), rfl⟩
           case rest =>
            obtain ⟨rfl, hwc⟩ := hcut
            rw [hwc]
            clear hwc
            clear g13 g14 g15 g16 g25
            cases c6 with
            | true =>
             have hans : ans = false := by rw [← hfin.out]; simp
             go_wp2_with fail
             go_ret
             exact ⟨by rw [hans]; rfl, hG0⟩
            | false =>
             go_upto_region 8 with fail
             have g10 := q10 _ (G.refl W0)
             have g23 := q23 _ (G.refl W0)
             go_cut [56] (fun v wx => v = .bool c7 ∧ wx = W0)
             case first =>
              cases f5 with
              | true =>
               go_wp2_with fail
               go_meet
               exact ⟨(by rw [← hc7.out]; rfl), rfl⟩
              | false =>
               by_cases h : 0 < nodes
               ·have t : decide ((0 : Int) < (nodes : Int)) = true := decide_eq_true (by omega)
                have e : c7 = true := by rw [← hc7.out]; simp [h]
                subst e
                go_wp2_with fail
                go_meet
                exact ⟨(by simp), rfl⟩
               ·have t : decide ((0 : Int) < (nodes : Int)) = false := decide_eq_false (by omega)
                have e : c7 = false := by rw [← hc7.out]; simp [h]
                subst e
                go_wp2_with fail
                go_meet
                exact ⟨(by simp), rfl⟩
             case rest =>
              obtain ⟨rfl, hwc⟩ := hcut
              rw [hwc]
              clear hwc
              clear g10 g23
              cases c7 with
              | true =>
               have hans : ans = false := by rw [← hfin.out]; simp
               go_wp2_with fail
               go_ret
               exact ⟨by rw [hans]; rfl, hG0⟩
              | false =>
               go_upto_region 9 with fail
               have g17 := q17 _ (G.refl W0)
               have g26 := q26 _ (G.refl W0)
               go_cut [56] (fun v wx => v = .bool c8 ∧ wx = W0)
               case first =>
                cases f8 with
                | true =>
                 go_wp2_with fail
                 go_meet
                 exact ⟨(by rw [← hc8.out]; rfl), rfl⟩
                | false =>
                 by_cases h : 0 < sms
                 ·have t : decide ((0 : Int) < (sms : Int)) = true := decide_eq_true (by omega)
                  have e : c8 = true := by rw [← hc8.out]; simp [h]
                  subst e
                  go_wp2_with fail
                  go_meet
                  exact ⟨(by simp), rfl⟩
                 ·have t : decide ((0 : Int) < (sms : Int)) = false := decide_eq_false (by omega)
                  have e : c8 = false := by rw [← hc8.out]; simp [h]
                  subst e
                  go_wp2_with fail
                  go_meet
                  exact ⟨(by simp), rfl⟩
               case rest =>
                obtain ⟨rfl, hwc⟩ := hcut
                rw [hwc]
                clear hwc
                clear g17 g26
                cases c8 with
                | true =>
                 have hans : ans = false := by rw [← hfin.out]; simp
                 go_wp2_with fail
                 go_ret
                 exact ⟨by rw [hans]; rfl, hG0⟩
                | false =>
                 go_upto_region 10 with fail
                 have g11 := q11 _ (G.refl W0)
                 have g12 := q12 _ (G.refl W0)
                 have g24 := q24 _ (G.refl W0)
                 go_cut [56] (fun v wx => v = .bool c9 ∧ wx = W0)
                 case first =>
                  cases f6 with
                  | true =>
                   go_wp2_with fail
                   go_meet
                   exact ⟨(by rw [← hc9.out]; rfl), rfl⟩
                  | false =>
                   by_cases h : key = ByteArray.empty
                   ·have t : key.toList.isEmpty = true := by rw [empty_b]; exact decide_eq_true h
                    by_cases h2 : 0 < puts
                    ·have t2 : decide ((0 : Int) < (puts : Int)) = true := decide_eq_true (by omega)
                     have e : c9 = true := by rw [← hc9.out]; simp [h2]
                     subst e
                     replace h := Lib.hid h
                     go_wp2_with fail
                     go_meet
                     exact ⟨(by simp), rfl⟩
                    ·have t2 : decide ((0 : Int) < (puts : Int)) = false := decide_eq_false (by omega)
                     have e : c9 = false := by rw [← hc9.out]; simp [h, h2]
                     subst e
                     replace h := Lib.hid h
                     go_wp2_with fail
                     go_meet
                     exact ⟨(by simp), rfl⟩
                   ·have t : key.toList.isEmpty = false := by rw [empty_b]; exact decide_eq_false h
                    have e : c9 = true := by rw [← hc9.out]; simp [h]
                    subst e
                    replace h := Lib.hid h
                    go_wp2_with fail
                    go_meet
                    exact ⟨(by simp), rfl⟩
                 case rest =>
                  obtain ⟨rfl, hwc⟩ := hcut
                  rw [hwc]
                  clear hwc
                  clear g11 g12 g24
                  cases c9 with
                  | true =>
                   have hans : ans = false := by rw [← hfin.out]; simp
                   go_wp2_with fail
                   go_ret
                   exact ⟨by rw [hans]; rfl, hG0⟩
                  | false =>
                   have hans : ans = true := by rw [← hfin.out]; simp
                   go_wp2_with fail
                   go_ret
                   exact ⟨by rw [hans]; rfl, hG0⟩
end Go.Proofs.YthafeaclpcjjbaaGreatDoor

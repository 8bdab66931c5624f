/- rec.named: the fields that a kind names. No condition. -/
import Derived.Test.YthafeaclpcjjbaaDoorRecLaw
namespace Go.Proofs.YthafeaclpcjjbaaDoor
open Go.RowKit

theorem fl_of {k : Int} (h : fOk k = false) : flOf k = {} := by
  have := fOk_no h
  unfold flOf
  rw [if_neg (by omega), if_neg (by omega), if_neg (by omega), if_neg (by omega), if_neg (by omega), if_neg (by omega), if_neg (by omega), if_neg (by omega), if_neg (by omega)]
set_option maxRecDepth 100000 in
set_option maxHeartbeats 1000000 in
theorem recNamed_any (k : Int) (w : World) : Calls Tryd.prog 22 #[.int .i64 k] w fun e w' => e = .returned (.tuple #[.agg (flOf k).cells, .bool (fOk k)]) ∧ G w w' := by
  rcases kind_cases k with rfl | rfl | rfl | rfl | rfl | rfl | rfl | rfl | rfl | rfl | rfl | hno
  case inr.inr.inr.inr.inr.inr.inr.inr.inr.inr.inr =>
    rw [fl_of hno, hno]
    have h0 := fOk_no hno
    have t1 : (k == 1) = false := by rw [beq_eq_false_iff_ne]; omega
    have t2 : (k == 2) = false := by rw [beq_eq_false_iff_ne]; omega
    have t3 : (k == 3) = false := by rw [beq_eq_false_iff_ne]; omega
    have t4 : (k == 4) = false := by rw [beq_eq_false_iff_ne]; omega
    have t5 : (k == 5) = false := by rw [beq_eq_false_iff_ne]; omega
    have t6 : (k == 6) = false := by rw [beq_eq_false_iff_ne]; omega
    have t7 : (k == 7) = false := by rw [beq_eq_false_iff_ne]; omega
    have t8 : (k == 8) = false := by rw [beq_eq_false_iff_ne]; omega
    have t9 : (k == 9) = false := by rw [beq_eq_false_iff_ne]; omega
    have t10 : (k == 10) = false := by rw [beq_eq_false_iff_ne]; omega
    have t11 : (k == 11) = false := by rw [beq_eq_false_iff_ne]; omega
    clear h0 hno
    go_enter Tryd.func22, Tryd.ntmps22
    go_wp2_with fail
    refine bodyPost_ret (v := .tuple #[.agg (Fl.cells {}), .bool false]) (by simp [results, Tryd.results22, go_sem, Fl.cells]) rfl ?_
    exact ⟨rfl, G.new _ _⟩
  all_goals
    go_enter Tryd.func22, Tryd.ntmps22
    go_wp2_with fail
    refine bodyPost_ret ?_ rfl ⟨rfl, G.new _ _⟩
    simp [results, Tryd.results22, go_sem, Fl.cells, flOf, fOk]
end Go.Proofs.YthafeaclpcjjbaaDoor

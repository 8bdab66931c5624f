/- (heap.pile).least: the heap's own order of two of its events. Condition: the length fits an int. -/
import Derived.Test.YtnenabacbhepdaaPile
namespace Go.Proofs.Ytnenabacbhepdaa
open Go.RowKit

set_option maxHeartbeats 1000000 in
theorem least_any (xs : List Ev) (A : Option Addr) (c B : Nat) (w : World) (hB : B ≤ w.heap.size) (_hl : xs.length ≤ 9223372036854775806) (hs : Sl Ev.cells 7 w B A xs) (i k : Nat) (a b : Ev) (ha : xs[i]? = some a) (hb : xs[k]? = some b) :
    Calls Try.prog 55 #[.slice A xs.length c, .int .i64 i, .int .i64 k] w fun e w' => e = .returned (.bool (fl a b)) ∧ G w w' := by
  have hla := (List.getElem?_eq_some_iff.1 ha).1
  have hlb := (List.getElem?_eq_some_iff.1 hb).1
  obtain ⟨s1, v1, d1, ⟨x1, y1, z1⟩, i1⟩ := a
  obtain ⟨s2, v2, d2, ⟨x2, y2, z2⟩, i2⟩ := b
  obtain ⟨b1, o1, rfl, hb1, c10, c11, c12, c13, c14, c15, c16⟩ := hs.evG hB ha
  obtain ⟨_, _, e1, _, c20, c21, c22, c23, c24, c25, c26⟩ := hs.evG hB hb
  cases e1
  clear hs ha hb
  go_enter Try.func55, Try.ntmps55
  go_wp2_with fail
  have n1 : (0 : Int) ≤ ↑i := by omega
  have n2 : (i : Int) < ↑xs.length := by omega
  have n3 : (0 : Int) ≤ ↑k := by omega
  have n4 : (k : Int) < ↑xs.length := by omega
  go_region_held3 (fun w' => G w w') (first | exact (G.refl _).drew | exact hgm.keep (by assumption) | exact G.alloc (by assumption) _ | assumption | fail) (first | (go_at_call 56; refine (evOrder_any _ _ _ _ _ _ _ _ _ _ _ _ _ _ _).mono ?_; rintro e wm ⟨rfl, hgm⟩) | (go_at_call 54; refine (cmpS_any _ _ _).mono ?_; rintro e wm ⟨rfl, rfl⟩) | (go_at_call 52; refine (or_2 _ _ _ _ (by simp; rfl) (by simp; rfl)).mono ?_; rintro e wm ⟨rfl, rfl⟩))
  all_goals (go_wp2_with fail; go_ret; exact ⟨ret_bool (least_fl _ _), by assumption⟩)
end Go.Proofs.Ytnenabacbhepdaa

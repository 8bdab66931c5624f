/- A store into a row of the call's own. No condition. -/
import Derived.Test.YthafeaclpcjjbaaDoorOwnBut
namespace Go.Proofs.YthafeaclpcjjbaaDoor
open Go.RowKit

section
variable {α : Type} {e : TypeId} {sz : Nat} {f : α → List Value} {w w' : World} {base : Nat} {xs : List α}
theorem flat_set (hf : ∀ x, (f x).length = sz) {j : Nat} (hj : j < sz) {u : Value} {y : α} : ∀ (xs : List α) (k : Nat) (x : α), xs[k]? = some x → f y = (f x).set j u → (xs.flatMap f).set (k * sz + j) u = (xs.set k y).flatMap f
  | [], k, x, h, _ => by simp at h
  | a :: xs, 0, x, h, hy => by
    simp only [List.getElem?_cons_zero, Option.some.injEq] at h
    subst h
    rw [List.set_cons_zero, List.flatMap_cons, List.flatMap_cons, hy, Nat.zero_mul, Nat.zero_add, List.set_append_left _ _ (by rw [hf]; exact hj)]
  | a :: xs, k + 1, x, h, hy => by
    rw [List.getElem?_cons_succ] at h
    have hm : (k + 1) * sz + j = sz + (k * sz + j) := by rw [Nat.succ_mul]; omega
    rw [List.set_cons_succ, List.flatMap_cons, List.flatMap_cons, List.set_append_right _ _ (by rw [hf, hm]; omega), hf, hm, Nat.add_sub_cancel_left, flat_set hf hj xs k x h hy]
theorem OwnL.put (hf : ∀ x, (f x).length = sz) {g c : Nat} (h : OwnL e sz f w base (.slice (some ⟨g, 0, none⟩) xs.length c) xs) {k j : Nat} {x y : α} {u : Value} (hx : xs[k]? = some x) (hj : j < sz) (hy : f y = (f x).set j u) :
    OwnL e sz f (w.setCell ⟨g, k * sz + j, none⟩ u) base (.slice (some ⟨g, 0, none⟩) xs.length c) (xs.set k y) := by
  have hl : (xs.set k y).length = xs.length := by simp
  have hfs := flat_set hf hj xs k x hx hy
  refine ⟨by rw [flat_length hf], ?_⟩
  rcases h.2 with ⟨h1, _⟩ | ⟨b, cap, cur, hv, hb, hh, hn, hc, hsz, hr⟩
  · cases h1
  · cases hv
    have e1 : (w.setCell ⟨g, k * sz + j, none⟩ u).heap[g]? = some (.cells (cur.setIfInBounds (k * sz + j) u) e (0, 0)) := by
      rw [setCell_eq_setRow w g (k * sz + j) cur e (0, 0) u hh]
      exact setRow_heap w g cur _ e _ hh
    refine .inr ⟨g, c, _, by rw [hl], hb, e1, by rw [hl]; exact hn, hc, by simpa using hsz, ?_⟩
    rw [Array.toList_setIfInBounds, hl, List.take_set, hr, hfs]
end
end Go.Proofs.YthafeaclpcjjbaaDoor

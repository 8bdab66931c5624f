/- Several texts in one: OwnSet, AllLaw. -/
import Derived.Test.YthhhobfdlgmjlaaDoorOwnButQOnlyRow
import Derived.Test.YthhhobfdlgmjlaaDoorM3OnlyRow
/- A store into a row of the call's own. No condition. -/
namespace Go.Proofs.YthhhobfdlgmjlaaDoor
open Go.RowKit

section
variable {α : Type} {e : TypeId} {sz : Nat} {f : α → List Value} {w w' : World} {base : Nat} {xs : List α}
theorem flat_set (hf : ∀ x, (f x).length = sz) {j : Nat} (hj : j < sz) {u : Value} {y : α} : ∀ (xs : List α) (k : Nat) (x : α), xs[k]? = some x → f y = (f x).set j u → (xs.flatMap f).set (k * sz + j) u = (xs.set k y).flatMap f
  | [], k, x, h, _ => by simp at h
  | a :: xs, 0, x, h, hy => by
    simp only [List.getElem?_cons_zero, Option.some.injEq] at h
    subst h
    rw [List.set_cons_zero, List.flatMap_cons, List.flatMap_cons, hy, Nat.zero_mul, Nat.zero_add, List.set_append_left _ _ (by rw [hf]; exact hj)]
  | a :: xs, k + 1, x, h, hy => by
    rw [List.getElem?_cons_succ] at h
    have hm : (k + 1) * sz + j = sz + (k * sz + j) := by rw [Nat.succ_mul]; omega
    rw [List.set_cons_succ, List.flatMap_cons, List.flatMap_cons, List.set_append_right _ _ (by rw [hf, hm]; omega), hf, hm, Nat.add_sub_cancel_left, flat_set hf hj xs k x h hy]
theorem OwnL.put (hf : ∀ x, (f x).length = sz) {g c : Nat} (h : OwnL e sz f w base (.slice (some ⟨g, 0, none⟩) xs.length c) xs) {k j : Nat} {x y : α} {u : Value} (hx : xs[k]? = some x) (hj : j < sz) (hy : f y = (f x).set j u) :
    OwnL e sz f (w.setCell ⟨g, k * sz + j, none⟩ u) base (.slice (some ⟨g, 0, none⟩) xs.length c) (xs.set k y) := by
  have hl : (xs.set k y).length = xs.length := by simp
  have hfs := flat_set hf hj xs k x hx hy
  refine ⟨by rw [flat_length hf], ?_⟩
  rcases h.2 with ⟨h1, _⟩ | ⟨b, cap, cur, hv, hb, hh, hn, hc, hsz, hr⟩
  · cases h1
  · cases hv
    have e1 : (w.setCell ⟨g, k * sz + j, none⟩ u).heap[g]? = some (.cells (cur.setIfInBounds (k * sz + j) u) e (0, 0)) := by
      rw [setCell_eq_setRow w g (k * sz + j) cur e (0, 0) u hh]
      exact setRow_heap w g cur _ e _ hh
    refine .inr ⟨g, c, _, by rw [hl], hb, e1, by rw [hl]; exact hn, hc, by simpa using hsz, ?_⟩
    rw [Array.toList_setIfInBounds, hl, List.take_set, hr, hfs]
end
end Go.Proofs.YthhhobfdlgmjlaaDoor
/- What penstockref1.All lists: the runes of a text. No condition. -/
namespace Go.Proofs.YthhhobfdlgmjlaaDoor
open Go.RowKit

/-- One of a text's runes. -/
structure Ru where
  r : Nat
  beg : Nat
  en : Nat
  no : Bool
def Ru.cells (x : Ru) : List Value := [.int .i32 x.r, .int .i64 x.beg, .int .i64 x.en, .bool x.no]
theorem Ru.cells_len (x : Ru) : x.cells.length = 4 := rfl
theorem ru_elem : IsElem Tryd.prog 81 84 4 32 Ru.cells :=
  isElem_of (z := .agg #[.int .i32 0, .int .i64 0, .int .i64 0, .bool false]) Tryd.underlying81 (by kernel_rfl) rfl (by omega) (fun _ => rfl) (fun x u hu => by
    simp only [Ru.cells, List.mem_cons, List.not_mem_nil, or_false] at hu
    rcases hu with rfl | rfl | rfl | rfl <;> rfl)
def rAt (l : List UInt8) (i : Nat) : Nat := ((cks l)[i]?.map Ck.r).getD 0
def badAt (l : List UInt8) (i : Nat) : Bool := ((cks l)[i]?.map Ck.bad).getD false
theorem rAt_eq {l : List UInt8} {k : Nat} {c : Ck} (h : (cks l)[k]? = some c) : rAt l k = c.r := by simp [rAt, h]
theorem badAt_eq {l : List UInt8} {k : Nat} {c : Ck} (h : (cks l)[k]? = some c) : badAt l k = c.bad := by simp [badAt, h]
/-- The runes ahead of the k-th, whose ends are known. -/
def baseL (l : List UInt8) (k : Nat) : List Ru := (List.range k).map fun i => ⟨rAt l i, off l i, off l (i + 1), false⟩
/-- All's list behind k runes. -/
def preL (l : List UInt8) : Nat → List Ru
  | 0 => []
  | k + 1 => baseL l k ++ [⟨rAt l k, off l k, l.length, false⟩]
/-- All's list, with j runes told whether they begin nothing. -/
def allL (l : List UInt8) (j : Nat) : List Ru := (List.range (cks l).length).map fun i => ⟨rAt l i, off l i, off l (i + 1), if i < j then badAt l i else false⟩
theorem baseL_len (l : List UInt8) (k : Nat) : (baseL l k).length = k := by simp [baseL]
theorem preL_len (l : List UInt8) : ∀ k, (preL l k).length = k
  | 0 => rfl
  | k + 1 => by rw [preL, List.length_append, baseL_len]; rfl
theorem allL_len (l : List UInt8) (j : Nat) : (allL l j).length = (cks l).length := by simp [allL]
theorem baseL_succ (l : List UInt8) (k : Nat) : baseL l (k + 1) = baseL l k ++ [⟨rAt l k, off l k, off l (k + 1), false⟩] := by
  unfold baseL
  rw [List.range_succ, List.map_append]
  rfl
theorem preL_last (l : List UInt8) (k : Nat) : (preL l (k + 1))[k]? = some ⟨rAt l k, off l k, l.length, false⟩ := by
  rw [preL, List.getElem?_append_right (by rw [baseL_len]; omega), baseL_len, Nat.sub_self]
  rfl
theorem preL_put (l : List UInt8) (k : Nat) : (preL l (k + 1)).set k ⟨rAt l k, off l k, off l (k + 1), false⟩ ++ [⟨rAt l (k + 1), off l (k + 1), l.length, false⟩] = preL l (k + 2) := by
  rw [preL, preL, baseL_succ, List.set_append_right _ _ (by rw [baseL_len]; omega), baseL_len, Nat.sub_self]
  rfl
theorem preL_all (l : List UInt8) : preL l (cks l).length = allL l 0 := by
  have h0 : allL l 0 = baseL l (cks l).length := by
    unfold allL baseL
    refine List.map_congr_left fun i _ => ?_
    rw [if_neg (by omega)]
  rw [h0]
  rcases hn : (cks l).length with _ | n
  · rfl
  · rw [preL, baseL_succ, ← hn, off_end]
theorem allL_get (l : List UInt8) (j i : Nat) (h : i < (cks l).length) : (allL l j)[i]? = some ⟨rAt l i, off l i, off l (i + 1), if i < j then badAt l i else false⟩ := by
  unfold allL
  rw [List.getElem?_map, List.getElem?_range h]
  rfl
theorem allL_put (l : List UInt8) (j : Nat) (h : j < (cks l).length) : (allL l j).set j ⟨rAt l j, off l j, off l (j + 1), badAt l j⟩ = allL l (j + 1) := by
  refine List.ext_getElem? fun i => ?_
  rw [List.getElem?_set, allL_len]
  by_cases hi : j = i
  · subst hi
    rw [if_pos rfl, if_pos h, allL_get _ _ _ h, if_pos (by omega)]
  · rw [if_neg hi]
    rcases Nat.lt_or_ge i (cks l).length with h1 | h1
    · rw [allL_get _ _ _ h1, allL_get _ _ _ h1]
      by_cases h2 : i < j
      · rw [if_pos h2, if_pos (by omega)]
      · rw [if_neg h2, if_neg (by omega)]
    · rw [List.getElem?_eq_none (by rw [allL_len]; exact h1), List.getElem?_eq_none (by rw [allL_len]; exact h1)]
end Go.Proofs.YthhhobfdlgmjlaaDoor

/- What penstockref1.All lists: the runes of a text. No condition. -/
import Derived.Test.YthafeaclpcjjbaaDoorChunk
import Derived.Test.YthafeaclpcjjbaaDoorOwnSet
namespace Go.Proofs.YthafeaclpcjjbaaDoor
open Go.RowKit

/-- One of a text's runes. -/
structure Ru where
  r : Nat
  beg : Nat
  en : Nat
  no : Bool
def Ru.cells (x : Ru) : List Value := [.int .i32 x.r, .int .i64 x.beg, .int .i64 x.en, .bool x.no]
theorem Ru.cells_len (x : Ru) : x.cells.length = 4 := rfl
theorem ru_elem : IsElem Tryd.prog 121 124 4 32 Ru.cells :=
  isElem_of (z := .agg #[.int .i32 0, .int .i64 0, .int .i64 0, .bool false]) Tryd.underlying121 (by kernel_rfl) rfl (by omega) (fun _ => rfl) (fun x u hu => by
    simp only [Ru.cells, List.mem_cons, List.not_mem_nil, or_false] at hu
    rcases hu with rfl | rfl | rfl | rfl <;> rfl)
def rAt (l : List UInt8) (i : Nat) : Nat := ((cks l)[i]?.map Ck.r).getD 0
def badAt (l : List UInt8) (i : Nat) : Bool := ((cks l)[i]?.map Ck.bad).getD false
theorem rAt_eq {l : List UInt8} {k : Nat} {c : Ck} (h : (cks l)[k]? = some c) : rAt l k = c.r := by simp [rAt, h]
theorem badAt_eq {l : List UInt8} {k : Nat} {c : Ck} (h : (cks l)[k]? = some c) : badAt l k = c.bad := by simp [badAt, h]
/-- The runes ahead of the k-th, whose ends are known. -/
def baseL (l : List UInt8) (k : Nat) : List Ru := (List.range k).map fun i => ⟨rAt l i, off l i, off l (i + 1), false⟩
/-- All's list behind k runes. -/
def preL (l : List UInt8) : Nat → List Ru
  | 0 => []
  | k + 1 => baseL l k ++ [⟨rAt l k, off l k, l.length, false⟩]
/-- All's list, with j runes told whether they begin nothing. -/
def allL (l : List UInt8) (j : Nat) : List Ru := (List.range (cks l).length).map fun i => ⟨rAt l i, off l i, off l (i + 1), if i < j then badAt l i else false⟩
theorem baseL_len (l : List UInt8) (k : Nat) : (baseL l k).length = k := by simp [baseL]
theorem preL_len (l : List UInt8) : ∀ k, (preL l k).length = k
  | 0 => rfl
  | k + 1 => by rw [preL, List.length_append, baseL_len]; rfl
theorem allL_len (l : List UInt8) (j : Nat) : (allL l j).length = (cks l).length := by simp [allL]
theorem baseL_succ (l : List UInt8) (k : Nat) : baseL l (k + 1) = baseL l k ++ [⟨rAt l k, off l k, off l (k + 1), false⟩] := by
  unfold baseL
  rw [List.range_succ, List.map_append]
  rfl
theorem preL_last (l : List UInt8) (k : Nat) : (preL l (k + 1))[k]? = some ⟨rAt l k, off l k, l.length, false⟩ := by
  rw [preL, List.getElem?_append_right (by rw [baseL_len]; omega), baseL_len, Nat.sub_self]
  rfl
theorem preL_put (l : List UInt8) (k : Nat) : (preL l (k + 1)).set k ⟨rAt l k, off l k, off l (k + 1), false⟩ ++ [⟨rAt l (k + 1), off l (k + 1), l.length, false⟩] = preL l (k + 2) := by
  rw [preL, preL, baseL_succ, List.set_append_right _ _ (by rw [baseL_len]; omega), baseL_len, Nat.sub_self]
  rfl
theorem preL_all (l : List UInt8) : preL l (cks l).length = allL l 0 := by
  have h0 : allL l 0 = baseL l (cks l).length := by
    unfold allL baseL
    refine List.map_congr_left fun i _ => ?_
    rw [if_neg (by omega)]
  rw [h0]
  rcases hn : (cks l).length with _ | n
  · rfl
  · rw [preL, baseL_succ, ← hn, off_end]
theorem allL_get (l : List UInt8) (j i : Nat) (h : i < (cks l).length) : (allL l j)[i]? = some ⟨rAt l i, off l i, off l (i + 1), if i < j then badAt l i else false⟩ := by
  unfold allL
  rw [List.getElem?_map, List.getElem?_range h]
  rfl
theorem allL_put (l : List UInt8) (j : Nat) (h : j < (cks l).length) : (allL l j).set j ⟨rAt l j, off l j, off l (j + 1), badAt l j⟩ = allL l (j + 1) := by
  refine List.ext_getElem? fun i => ?_
  rw [List.getElem?_set, allL_len]
  by_cases hi : j = i
  · subst hi
    rw [if_pos rfl, if_pos h, allL_get _ _ _ h, if_pos (by omega)]
  · rw [if_neg hi]
    rcases Nat.lt_or_ge i (cks l).length with h1 | h1
    · rw [allL_get _ _ _ h1, allL_get _ _ _ h1]
      by_cases h2 : i < j
      · rw [if_pos h2, if_pos (by omega)]
      · rw [if_neg h2, if_neg (by omega)]
    · rw [List.getElem?_eq_none (by rw [allL_len]; exact h1), List.getElem?_eq_none (by rw [allL_len]; exact h1)]
end Go.Proofs.YthafeaclpcjjbaaDoor

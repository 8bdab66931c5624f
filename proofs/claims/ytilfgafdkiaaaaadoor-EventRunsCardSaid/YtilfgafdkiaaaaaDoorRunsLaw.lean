/- Which event stands where among those that are made. Plain mathematics, no program. No condition. -/
import Derived.Test.YtilfgafdkiaaaaaDoorMake
namespace Go.Proofs.YtilfgafdkiaaaaaDoor
open Go.RowKit

/-- The firsts that the statement takes. -/
def fsOf (f : Int) (n : Nat) : List Int := (List.range n).map fun i : Nat => f + 10 * (i : Int)
theorem fsOf_len (f : Int) (n : Nat) : (fsOf f n).length = n := by simp [fsOf]
theorem fsOf_succ (f : Int) (n : Nat) : fsOf f (n + 1) = fsOf f n ++ [f + 10 * (n : Int)] := by
  unfold fsOf
  rw [List.range_succ, List.map_append]
  rfl
theorem fsOf_get (f : Int) (n i : Nat) (h : i < n) : (fsOf f n).getD i 0 = f + 10 * (i : Int) := by
  unfold fsOf
  rw [List.getD_eq_getElem?_getD, List.getElem?_map, List.getElem?_range h]
  rfl
/-- So far, a put's start. -/
def RunsAt (es : List Ev) (f : Int) (n : Nat) (st : St) (i : Nat) (k : Nat) (ps : List PutM) : Prop := ∃ pre, es = pre ++ makeFrom (fsOf f n) st i k (ps.drop i) ∧ pre.length = k
theorem RunsAt.start (f : Int) (n : Nat) (st : St) (ps : List PutM) : RunsAt (makeFrom (fsOf f n) st 0 0 ps) f n st 0 0 ps := ⟨[], by simp, rfl⟩
theorem RunsAt.step {es : List Ev} {f : Int} {n : Nat} {st : St} {i k : Nat} {ps : List PutM} {p : PutM} (h : RunsAt es f n st i k ps) (hp : ps[i]? = some p) : RunsAt es f n st (i + 1) (k + p.data.length) ps := by
  obtain ⟨pre, h1, h2⟩ := h
  rw [makeFrom_drop _ _ _ _ _ _ hp] at h1
  refine ⟨pre ++ makePut p ((fsOf f n).getD i 0) (if i < (fsOf f n).length then 1 else 0) st k, ?_, ?_⟩
  · rw [h1, List.append_assoc]
    congr 1
  · rw [List.length_append, makePut_length, h2]
theorem RunsAt.get {es : List Ev} {f : Int} {n : Nat} {st : St} {i k j : Nat} {ps : List PutM} {p : PutM} {d : ByteArray} (h : RunsAt es f n st i k ps) (hi : i < n) (hp : ps[i]? = some p) (hd : p.data[j]? = some d) : es[k + j]? = some ⟨p.stream, f + 10 * (i : Int) + j, d, st, ((k + j : Nat) : Int)⟩ := by
  obtain ⟨pre, h1, h2⟩ := h
  rw [makeFrom_drop _ _ _ _ _ _ hp] at h1
  have hj := (List.getElem?_eq_some_iff.1 hd).1
  rw [h1, List.getElem?_append_right (by omega), List.getElem?_append_left (by rw [makePut_length]; omega)]
  rw [show k + j - pre.length = j by omega]
  unfold makePut
  rw [List.getElem?_mapIdx, hd, fsOf_len, if_pos hi, fsOf_get _ _ _ hi]
  simp
theorem RunsAt.end {es : List Ev} {f : Int} {n : Nat} {st : St} {i k : Nat} {ps : List PutM} (h : RunsAt es f n st i k ps) (hi : ps.length ≤ i) : es.length = k := by
  obtain ⟨pre, h1, h2⟩ := h
  rw [List.drop_eq_nil_of_le hi] at h1
  rw [h1]
  simp [makeFrom, h2]
theorem evCount_le {M : Nat} : ∀ (ps : List PutM), (∀ p ∈ ps, p.data.length ≤ M) → evCount ps ≤ ps.length * M
  | [], _ => by simp [evCount]
  | p :: l, h => by
    have h1 := evCount_le l fun q hq => h q (by simp [hq])
    have h2 := h p (by simp)
    unfold evCount at *
    rw [List.map_cons, List.sum_cons, List.length_cons, Nat.succ_mul]
    omega
end Go.Proofs.YtilfgafdkiaaaaaDoor

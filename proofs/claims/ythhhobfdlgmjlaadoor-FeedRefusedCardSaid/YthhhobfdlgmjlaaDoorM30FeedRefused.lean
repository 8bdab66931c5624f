/- Several texts in one: Small, HeapLaws, HeapOne. -/
import Derived.Test.YthhhobfdlgmjlaaDoorOneQFeedRefused
import Derived.Test.YthhhobfdlgmjlaaDoorM29FeedRefused
/- penstocklaw29.small: what it answers. Condition: lengths fit an int. -/
namespace Go.Proofs.YthhhobfdlgmjlaaDoor
open Go.RowKit

/-- small's loop: are the lists, with so much ahead of them, looked at? -/
def smallTo (lim : Int) (n k : Int) : List LogM → Bool
  | [] => true
  | l :: r => if 10000 < sumTo n [evBulk 10000 l.es] ∨ lim < sumTo k [(l.es.length : Int)] then false else smallTo lim (sumTo n [evBulk 10000 l.es]) (sumTo k [(l.es.length : Int)]) r
def smallB (lim cnt : Int) (ls : List LogM) : Bool := smallTo lim 0 0 ls && decide ((ls.length : Int) ≤ cnt)
theorem smallTo_drop (lim n k : Int) (xs : List LogM) (j : Nat) (x : LogM) (h : xs[j]? = some x) :
    smallTo lim n k (xs.drop j) = if 10000 < sumTo n [evBulk 10000 x.es] ∨ lim < sumTo k [(x.es.length : Int)] then false else smallTo lim (sumTo n [evBulk 10000 x.es]) (sumTo k [(x.es.length : Int)]) (xs.drop (j + 1)) := by
  obtain ⟨hk, rfl⟩ := List.getElem?_eq_some_iff.1 h
  rw [List.drop_eq_getElem_cons hk]
  rfl
theorem smallTo_sum (lim : Int) (hlim : lim ≤ 1000) : ∀ (ls : List LogM) (n k : Int), 0 ≤ n → n ≤ 10000 → 0 ≤ k → k ≤ lim → smallTo lim n k ls = true → k + (ls.map fun l => (l.es.length : Int)).sum ≤ lim := by
  intro ls
  induction ls with
  | nil => intro n k _ _ _ h2 _; simpa using h2
  | cons l r ih =>
    intro n k h0 h1 h2 h3 h
    simp only [smallTo] at h
    split at h
    · cases h
    · rename_i hc
      obtain ⟨e0, e1⟩ := evBulk_le 10000 l.es
      have a1 := sumTo_le1 n (evBulk 10000 l.es) h0 (by omega) e0
      have a2 := sumTo_le1 k (l.es.length : Int) h2 (by omega) (by omega)
      have a3 := sumTo_one k (l.es.length : Int)
      have := ih _ _ a1.1 (by omega) a2.1 (by omega) h
      simp only [List.map_cons, List.sum_cons]
      split at a3 <;> omega
theorem small_len {lim cnt : Int} (hlim : lim ≤ 1000) (h0 : 0 ≤ lim) {ls : List LogM} (h : smallB lim cnt ls = true) : (ls.map fun l => (l.es.length : Int)).sum ≤ lim ∧ (ls.length : Int) ≤ cnt := by
  simp only [smallB, Bool.and_eq_true, decide_eq_true_eq] at h
  have := smallTo_sum lim hlim ls 0 0 (by omega) (by omega) (by omega) h0 h.1
  exact ⟨by omega, h.2⟩
theorem sum_mem {ls : List LogM} {l : LogM} (h : l ∈ ls) : (l.es.length : Int) ≤ (ls.map fun l => (l.es.length : Int)).sum := by
  induction ls with
  | nil => cases h
  | cons a r ih =>
    have hp : 0 ≤ (r.map fun l => (l.es.length : Int)).sum := by
      clear ih h
      induction r with
      | nil => simp
      | cons b r ih => simp only [List.map_cons, List.sum_cons]; omega
    simp only [List.map_cons, List.sum_cons]
    rcases List.mem_cons.1 h with rfl | h
    · omega
    · have := ih h; omega

end Go.Proofs.YthhhobfdlgmjlaaDoor
/- penstocklaw18's own: small, awake, one. Conditions: lengths fit an int. -/
namespace Go.Proofs.YthhhobfdlgmjlaaDoor
open Go.RowKit

def evA18 : Ev := ⟨⟨#[97]⟩, 0, ⟨#[]⟩, ⟨5, 0, 1⟩, 0⟩
def evB18 : Ev := ⟨⟨#[98]⟩, 0, ⟨#[]⟩, ⟨4, 0, 2⟩, 0⟩
theorem first18 (l1 l2 : LogM) (h1 : l1.es = [evA18]) (h2 : l2.es = [evB18]) : IsFirst (mergeF [l1, l2] ⟨9, 0, 0⟩ ⟨⟨0, 0, 0⟩, 0, ⟨#[]⟩⟩) 9 [evB18, evA18] := by
  have hm : ∀ y, mergeF [l1, l2] ⟨9, 0, 0⟩ ⟨⟨0, 0, 0⟩, 0, ⟨#[]⟩⟩ y ↔ y ∈ [evB18, evA18] := by
    intro y
    simp only [mergeF, inLogs, List.mem_cons, List.not_mem_nil, or_false]
    constructor
    · rintro ⟨⟨l, rfl | rfl, h⟩, _⟩
      · rw [h1] at h; right; simpa using h
      · rw [h2] at h; left; simpa using h
    · rintro (rfl | rfl)
      · exact ⟨⟨l2, .inr rfl, by rw [h2]; simp⟩, by simp [picked, stLt, behind, evB18]⟩
      · exact ⟨⟨l1, .inl rfl, by rw [h1]; simp⟩, by simp [picked, stLt, behind, evA18]⟩
  refine ⟨?_, fun o ho => (hm o).2 ho, fun y hy => .inl ((hm y).1 hy), .inl (by simp), fun _ y hy => (hm y).1 hy⟩
  simp [fl, evA18, evB18, stLt]
end Go.Proofs.YthhhobfdlgmjlaaDoor
/- penstocklaw18.one: have no two events of all logs one place? Conditions: all logs together have at most 2^32 events. -/
namespace Go.Proofs.YthhhobfdlgmjlaaDoor
open Go.RowKit

/-- Have two events one place? -/
def samePlace (a b : Ev) : Bool := decide (a.st = b.st) && decide (a.index = b.index) && decide (a.stream = b.stream)
/-- All events of all logs, one log behind the other. -/
def allEvs (ls : List LogM) : List Ev := ls.flatMap fun l => l.es
theorem allEvs_length (ls : List LogM) : (allEvs ls).length = evTally ls := by
  simp [allEvs, evTally, List.length_flatMap]
theorem allEvs_take {ls : List LogM} {j : Nat} {l : LogM} (h : ls[j]? = some l) : allEvs (ls.take (j + 1)) = allEvs (ls.take j) ++ l.es := by
  rw [take_snoc h]; simp [allEvs]
/-- No two have one place. -/
def Apart (es : List Ev) : Prop := ∀ (i k : Nat) (a b : Ev), k < i → es[i]? = some a → es[k]? = some b → samePlace a b = false
def RetOne (w : World) (ls : List LogM) (e : Ending) (w' : World) : Prop := ∃ b, e = .returned (.bool b) ∧ (b = true → Apart (allEvs ls)) ∧ G w w'

end Go.Proofs.YthhhobfdlgmjlaaDoor

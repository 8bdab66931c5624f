/- The document's answers about feeds: whether streams go on, whether a batch is in one. Plain mathematics, no program. No condition. -/
import Derived.Test.YtgoodlbkjciloaaHasLaw
import Derived.Test.YtgoodlbkjciloaaStreams
import Derived.Test.YtgoodlbkjciloaaCmp
namespace Go.Proofs.Ytgoodlbkjciloaa
open Go.RowKit

/-- How many of these are of that stream. -/
def countS (l : List Ev) (s : ByteArray) : Nat := l.countP fun e => decide (e.stream = s)
theorem countS_take {l : List Ev} {k : Nat} {e : Ev} (h : l[k]? = some e) (s : ByteArray) : countS (l.take (k + 1)) s = countS (l.take k) s + if e.stream = s then 1 else 0 := by
  unfold countS
  rw [List.take_add_one, h, List.countP_append]
  simp [List.countP_cons]
theorem countS_le (l : List Ev) (k : Nat) (s : ByteArray) : countS (l.take k) s ≤ k := by
  unfold countS
  exact Nat.le_trans List.countP_le_length (by rw [List.length_take]; omega)
theorem countS_upd {l : List Ev} {k : Nat} {e : Ev} (h : l[k]? = some e) : upd (fun s => (countS (l.take k) s : Int)) e.stream ((countS (l.take k) e.stream : Int) + 1) = fun s => (countS (l.take (k + 1)) s : Int) := by
  funext s
  rw [countS_take h]
  by_cases hs : s = e.stream
  · subst hs
    rw [upd_same, if_pos rfl]
    omega
  · rw [upd_other _ _ hs, if_neg (fun h => hs h.symm)]
    omega
/-- What a map of last places says of the events found so far. -/
structure HasInv (es want : List Ev) (i : Nat) (g : ByteArray → Int) : Prop where
  up : ∀ (j : Nat) x, j < i → want[j]? = some x → ∃ p, placeOf es x = some p ∧ (p : Int) < g x.stream
  at_ : ∀ s, g s = 0 ∨ ∃ (j : Nat) (x : Ev) (p : Nat), j < i ∧ want[j]? = some x ∧ x.stream = s ∧ placeOf es x = some p ∧ (p : Int) + 1 = g s
theorem HasInv.zero (es want : List Ev) : HasInv es want 0 fun _ => 0 := ⟨fun _ _ h => absurd h (Nat.not_lt_zero _), fun _ => .inl rfl⟩
theorem HasInv.succ {es want : List Ev} {i : Nat} {g : ByteArray → Int} (h : HasInv es want i g) {x : Ev} {p : Nat} (hx : want[i]? = some x) (hp : placeOf es x = some p) (hg : ¬ (p : Int) < g x.stream) : HasInv es want (i + 1) (upd g x.stream ((p : Int) + 1)) := by
  refine ⟨fun j y hj hy => ?_, fun s => ?_⟩
  · rcases Nat.lt_or_ge j i with hji | hji
    · obtain ⟨q, h1, h2⟩ := h.up j y hji hy
      refine ⟨q, h1, ?_⟩
      by_cases hs : y.stream = x.stream
      · rw [hs, upd_same]
        rw [hs] at h2
        omega
      · rw [upd_other _ _ hs]
        exact h2
    · obtain rfl : j = i := by omega
      rw [hx] at hy
      cases hy
      exact ⟨p, hp, by rw [upd_same]; omega⟩
  · by_cases hs : s = x.stream
    · subst hs
      exact .inr ⟨i, x, p, by omega, hx, rfl, hp, by rw [upd_same]⟩
    · rw [upd_other _ _ hs]
      rcases h.at_ s with h0 | ⟨j, y, q, h1, h2, h3, h4, h5⟩
      · exact .inl h0
      · exact .inr ⟨j, y, q, by omega, h2, h3, h4, h5⟩
/-- One of this stream was found at or behind p: the batch is not there. -/
theorem HasInv.torn {es want : List Ev} {i : Nat} {g : ByteArray → Int} (h : HasInv es want i g) {j k p : Nat} {y : Ev} {s : ByteArray} (hj : j < i) (hy : want[j]? = some y) (hs : y.stream = s) (hk : placeOf es y = some k) (hpk : p ≤ k) : (p : Int) < g s := by
  obtain ⟨q, h1, h2⟩ := h.up j y hj hy
  rw [hk] at h1
  cases h1
  rw [← hs]
  omega
/-- None was: it goes on. -/
theorem HasInv.fine {es want : List Ev} {i : Nat} {g : ByteArray → Int} (h : HasInv es want i g) {p : Nat} {s : ByteArray} (hall : ∀ (j : Nat) y k, j < i → want[j]? = some y → y.stream = s → placeOf es y = some k → k < p) : ¬ (p : Int) < g s := by
  rcases h.at_ s with h0 | ⟨j, y, q, h1, h2, h3, h4, h5⟩
  · omega
  · have := hall j y q h1 h2 h3 h4
    omega
/-- Does what was seen stand ahead of what was done then? -/
def causesGo (seen then_ : St) : Bool → List Ev → Bool
  | _, [] => true
  | met, e :: l => if met = true ∧ e.st = seen then false else causesGo seen then_ (met || decide (e.st = then_)) l
def causesB (l : List Ev) (seen then_ : St) : Bool := if stLt seen then_ = true then true else causesGo seen then_ false l
theorem causesGo_drop {l : List Ev} {k : Nat} {e : Ev} (h : l[k]? = some e) (seen then_ : St) (met : Bool) : causesGo seen then_ met (l.drop k) = if met = true ∧ e.st = seen then false else causesGo seen then_ (met || decide (e.st = then_)) (l.drop (k + 1)) := by
  obtain ⟨hk, rfl⟩ := List.getElem?_eq_some_iff.1 h
  rw [List.drop_eq_getElem_cons hk]
  rfl
end Go.Proofs.Ytgoodlbkjciloaa

/- Where a batch's events stand in a list, whether the list has the batch. Plain mathematics, no program. No condition. -/
import Derived.Test.YtgoodlbkjciloaaMake
import Derived.Test.YtgoodlbkjciloaaMap
namespace Go.Proofs.Ytgoodlbkjciloaa
open Go.RowKit

/-- Two events alike, but for their places. -/
def alB (a b : Ev) : Bool := decide (a.stream = b.stream ∧ a.version = b.version ∧ a.data = b.data ∧ a.st = b.st)
/-- The first like this. -/
def placeOf (l : List Ev) (e : Ev) : Option Nat := l.findIdx? fun x => alB x e
def placeI (l : List Ev) (e : Ev) : Int := match placeOf l e with
  | none => -1
  | some k => k
/-- From what a batch's events are found on, up to what; none: one is not there, or ahead of one of its stream. -/
def hasGo (l : List Ev) : List Ev → (ByteArray → Int) → Int → Int → Option (Int × Int)
  | [], _, lo, hi => some (lo, hi)
  | e :: w, f, lo, hi => match placeOf l e with
    | none => none
    | some k => if (k : Int) < f e.stream then none else hasGo l w (upd f e.stream ((k : Int) + 1)) (min lo k) (max hi k)
/-- Have all from lo to hi this stamp? -/
def spanB (l : List Ev) (lo hi : Int) (st : St) : Bool := (List.range l.length).all fun k => if lo ≤ (k : Int) ∧ (k : Int) ≤ hi then (match l[k]? with
  | none => true
  | some e => decide (e.st = st)) else true
def hasB (l want : List Ev) (st : St) : Bool := match hasGo l want (fun _ => 0) l.length (-1) with
  | none => false
  | some (lo, hi) => spanB l lo hi st
theorem placeOf_lt {l : List Ev} {e : Ev} {k : Nat} (h : placeOf l e = some k) : k < l.length := by
  unfold placeOf at h
  rw [List.findIdx?_eq_some_iff_getElem] at h
  exact h.1
theorem placeOf_none {l : List Ev} {e : Ev} (h : ∀ x ∈ l, alB x e = false) : placeOf l e = none := by
  unfold placeOf
  rw [List.findIdx?_eq_none_iff]
  exact h
theorem placeOf_some {l : List Ev} {e x : Ev} {k : Nat} (hx : l[k]? = some x) (ha : alB x e = true) (hf : ∀ j y, j < k → l[j]? = some y → alB y e = false) : placeOf l e = some k := by
  unfold placeOf
  rw [List.findIdx?_eq_some_iff_getElem]
  obtain ⟨hk, rfl⟩ := List.getElem?_eq_some_iff.1 hx
  exact ⟨hk, ha, fun j hj => by rw [hf j _ hj (List.getElem?_eq_getElem (by omega))]; simp⟩
theorem hasGo_none {l : List Ev} {e : Ev} (h : placeOf l e = none) : ∀ (w : List Ev) (f : ByteArray → Int) (lo hi : Int), e ∈ w → hasGo l w f lo hi = none
  | [], _, _, _, hm => by cases hm
  | x :: w, f, lo, hi, hm => by
    unfold hasGo
    cases hp : placeOf l x with
    | none => rfl
    | some k =>
      simp only
      split
      · rfl
      · rcases List.mem_cons.1 hm with rfl | hm
        · rw [h] at hp; cases hp
        · exact hasGo_none h w _ _ _ hm
theorem hasB_none {l want : List Ev} {st : St} {e : Ev} (h : placeOf l e = none) (hm : e ∈ want) : hasB l want st = false := by
  unfold hasB
  rw [hasGo_none h _ _ _ _ hm]
/-- Events that stand one behind the other from c on. -/
theorem hasGo_up {l : List Ev} {c : Nat} : ∀ (w : List Ev) (i : Nat) (f : ByteArray → Int) (lo hi : Int), (∀ j e, w[j]? = some e → placeOf l e = some (c + i + j)) → (∀ s, f s ≤ ((c + i : Nat) : Int)) → (c : Int) ≤ lo → ∃ lo' hi', hasGo l w f lo hi = some (lo', hi') ∧ (c : Int) ≤ lo'
  | [], i, f, lo, hi, _, _, hlo => ⟨lo, hi, rfl, hlo⟩
  | e :: w, i, f, lo, hi, hp, hf, hlo => by
    have h0 := hp 0 e rfl
    rw [Nat.add_zero] at h0
    obtain ⟨lo', hi', h1, h2⟩ := hasGo_up w (i + 1) (upd f e.stream (((c + i : Nat) : Int) + 1)) (min lo ((c + i : Nat) : Int)) (max hi ((c + i : Nat) : Int)) (fun j x hx => by
      have := hp (j + 1) x (by simpa using hx)
      rw [this, show c + i + (j + 1) = c + (i + 1) + j by omega]) (fun s => by
      by_cases hs : s = e.stream
      · subst hs
        rw [upd_same]
        omega
      · rw [upd_other _ _ hs]
        have := hf s
        omega) (by omega)
    refine ⟨lo', hi', ?_, h2⟩
    unfold hasGo
    rw [h0]
    simp only
    rw [if_neg (by have := hf e.stream; omega)]
    exact h1
theorem makePut_mem {p : PutM} {f step : Int} {st : St} {ix : Int} {e : Ev} (h : e ∈ makePut p f step st ix) : e.stream = p.stream ∧ e.st = st := by
  unfold makePut at h
  obtain ⟨i, hi, rfl⟩ := List.getElem_of_mem h
  rw [List.getElem_mapIdx]
  exact ⟨rfl, rfl⟩
theorem makeFrom_mem {firsts : List Int} {st : St} : ∀ {ps : List PutM} {i : Nat} {ix : Int} {e : Ev}, e ∈ makeFrom firsts st i ix ps → (∃ p ∈ ps, e.stream = p.stream) ∧ e.st = st
  | [], _, _, _, h => by cases h
  | p :: l, i, ix, e, h => by
    unfold makeFrom at h
    rcases List.mem_append.1 h with h | h
    · have := makePut_mem h
      exact ⟨⟨p, by simp, this.1⟩, this.2⟩
    · obtain ⟨⟨q, hq, h1⟩, h2⟩ := makeFrom_mem h
      exact ⟨⟨q, by simp [hq], h1⟩, h2⟩
theorem makePut_apart (p : PutM) (f : Int) (st : St) (ix : Int) : (makePut p f 1 st ix).Pairwise fun a b => alB a b = false := by
  rw [List.pairwise_iff_getElem]
  intro i j hi hj hij
  refine decide_eq_false fun h => ?_
  have h1 := h.2.1
  simp only [makePut, List.getElem_mapIdx] at h1
  omega
theorem makeFrom_apart {firsts : List Int} {st : St} : ∀ {ps : List PutM} {i : Nat} {ix : Int}, i + ps.length ≤ firsts.length → (ps.Pairwise fun p q => p.stream ≠ q.stream) → (makeFrom firsts st i ix ps).Pairwise fun a b => alB a b = false
  | [], _, _, _, _ => List.Pairwise.nil
  | p :: l, i, ix, hl, hp => by
    rw [List.length_cons] at hl
    unfold makeFrom
    rw [if_pos (by omega), List.pairwise_append]
    have hp' := List.pairwise_cons.1 hp
    refine ⟨makePut_apart _ _ _ _, makeFrom_apart (by omega) hp'.2, fun a ha b hb => ?_⟩
    obtain ⟨q, hq, h1⟩ := (makeFrom_mem hb).1
    unfold alB
    refine decide_eq_false fun h => ?_
    exact hp'.1 q hq (by rw [← (makePut_mem ha).1, h.1, h1])
theorem makeFrom_pos {firsts : List Int} {st : St} {ps : List PutM} {i : Nat} {ix : Int} (h0 : ps ≠ []) (hd : ∀ p ∈ ps, p.data ≠ []) : makeFrom firsts st i ix ps ≠ [] := by
  cases ps with
  | nil => exact absurd rfl h0
  | cons p l =>
    unfold makeFrom
    intro h
    have h1 := (List.append_eq_nil_iff.1 h).1
    have h2 := congrArg List.length h1
    rw [makePut_length] at h2
    exact hd p (by simp) (List.eq_nil_of_length_eq_zero h2)
/-- What was put in is found, and nowhere else. -/
theorem has_made {pre m : List Ev} {st : St} (hap : m.Pairwise fun a b => alB a b = false) (hst : ∀ e ∈ m, e.st = st) (hpre : ∀ e ∈ pre, e.st ≠ st) : hasB (pre ++ m) m st = true := by
  have hpl : ∀ j e, m[j]? = some e → placeOf (pre ++ m) e = some (pre.length + 0 + j) := fun j e he => by
    have hj := (List.getElem?_eq_some_iff.1 he).1
    refine placeOf_some (x := e) (by rw [List.getElem?_append_right (by omega)]; rw [show pre.length + 0 + j - pre.length = j by omega]; exact he) (by simp [alB]) fun i y hi hy => ?_
    by_cases hlt : i < pre.length
    · rw [List.getElem?_append_left hlt] at hy
      unfold alB
      refine decide_eq_false fun h => ?_
      exact hpre y (List.mem_of_getElem? hy) (by rw [h.2.2.2]; exact hst e (List.mem_of_getElem? he))
    · rw [List.getElem?_append_right (by omega)] at hy
      obtain ⟨h1, rfl⟩ := List.getElem?_eq_some_iff.1 hy
      obtain ⟨h2, rfl⟩ := List.getElem?_eq_some_iff.1 he
      exact List.pairwise_iff_getElem.1 hap _ _ h1 h2 (by omega)
  obtain ⟨lo, hi, h1, h2⟩ := hasGo_up (l := pre ++ m) (c := pre.length) m 0 (fun _ => 0) ((pre ++ m).length : Nat) (-1) hpl (fun s => by omega) (by rw [List.length_append]; omega)
  unfold hasB
  rw [h1]
  simp only
  unfold spanB
  rw [List.all_eq_true]
  intro k hk
  have hk := List.mem_range.1 hk
  split
  · rename_i hr
    rw [List.getElem?_eq_getElem hk]
    simp only
    refine decide_eq_true ?_
    have : (pre ++ m)[k] ∈ m := by
      rw [List.getElem_append_right (by omega)]
      exact List.getElem_mem _
    exact hst _ this
  · rfl
theorem has_pre {pre m : List Ev} {st : St} (h0 : m ≠ []) (hst : ∀ e ∈ m, e.st = st) (hpre : ∀ e ∈ pre, e.st ≠ st) : hasB pre m st = false := by
  obtain ⟨e, hm⟩ := List.exists_mem_of_ne_nil m h0
  refine hasB_none (e := e) (placeOf_none fun x hx => decide_eq_false fun h => ?_) hm
  exact hpre x hx (by rw [h.2.2.2]; exact hst e hm)
theorem has_less {pre m : List Ev} {st : St} (h0 : m ≠ []) (hap : m.Pairwise fun a b => alB a b = false) (hst : ∀ e ∈ m, e.st = st) (hpre : ∀ e ∈ pre, e.st ≠ st) : hasB ((pre ++ m).take ((pre ++ m).length - 1)) m st = false := by
  have hl : 0 < m.length := List.length_pos_iff.2 h0
  have hlast : m[m.length - 1]? = some m[m.length - 1] := List.getElem?_eq_getElem (by omega)
  refine hasB_none (e := m[m.length - 1]) (placeOf_none fun x hx => ?_) (List.getElem_mem _)
  obtain ⟨i, hi, rfl⟩ := List.getElem_of_mem hx
  rw [List.length_take, List.length_append] at hi
  rw [List.getElem_take]
  by_cases hlt : i < pre.length
  · rw [List.getElem_append_left hlt]
    refine decide_eq_false fun h => ?_
    exact hpre _ (List.getElem_mem hlt) (by rw [h.2.2.2]; exact hst _ (List.getElem_mem _))
  · rw [List.getElem_append_right (by omega)]
    exact List.pairwise_iff_getElem.1 hap _ _ (by omega) (by omega) (by omega)
theorem has_other {pre m m' : List Ev} {st st' : St} (h0 : m' ≠ []) (hne : st' ≠ st) (hst : ∀ e ∈ m, e.st = st) (hst' : ∀ e ∈ m', e.st = st') (hpre : ∀ e ∈ pre, e.st ≠ st') : hasB (pre ++ m) m' st' = false := by
  obtain ⟨e, hm⟩ := List.exists_mem_of_ne_nil m' h0
  refine hasB_none (e := e) (placeOf_none fun x hx => decide_eq_false fun h => ?_) hm
  have h1 := hst' e hm
  rcases List.mem_append.1 hx with hx | hx
  · exact hpre x hx (by rw [h.2.2.2]; exact h1)
  · exact hne (by rw [← h1, ← h.2.2.2]; exact hst x hx)
end Go.Proofs.Ytgoodlbkjciloaa

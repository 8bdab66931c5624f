/- Several texts in one: Small, HeapLaws, HeapOne, Places. -/
import Derived.Test.YthhhobfdlgmjlaaDoorOneQWholeRow
import Derived.Test.YthhhobfdlgmjlaaDoorM27WholeRow
/- penstocklaw29.small: what it answers. Condition: lengths fit an int. -/
namespace Go.Proofs.YthhhobfdlgmjlaaDoor
open Go.RowKit

/-- small's loop: are the lists, with so much ahead of them, looked at? -/
def smallTo (lim : Int) (n k : Int) : List LogM → Bool
  | [] => true
  | l :: r => if 10000 < sumTo n [evBulk 10000 l.es] ∨ lim < sumTo k [(l.es.length : Int)] then false else smallTo lim (sumTo n [evBulk 10000 l.es]) (sumTo k [(l.es.length : Int)]) r
def smallB (lim cnt : Int) (ls : List LogM) : Bool := smallTo lim 0 0 ls && decide ((ls.length : Int) ≤ cnt)
theorem smallTo_drop (lim n k : Int) (xs : List LogM) (j : Nat) (x : LogM) (h : xs[j]? = some x) :
    smallTo lim n k (xs.drop j) = if 10000 < sumTo n [evBulk 10000 x.es] ∨ lim < sumTo k [(x.es.length : Int)] then false else smallTo lim (sumTo n [evBulk 10000 x.es]) (sumTo k [(x.es.length : Int)]) (xs.drop (j + 1)) := by
  obtain ⟨hk, rfl⟩ := List.getElem?_eq_some_iff.1 h
  rw [List.drop_eq_getElem_cons hk]
  rfl
theorem smallTo_sum (lim : Int) (hlim : lim ≤ 1000) : ∀ (ls : List LogM) (n k : Int), 0 ≤ n → n ≤ 10000 → 0 ≤ k → k ≤ lim → smallTo lim n k ls = true → k + (ls.map fun l => (l.es.length : Int)).sum ≤ lim := by
  intro ls
  induction ls with
  | nil => intro n k _ _ _ h2 _; simpa using h2
  | cons l r ih =>
    intro n k h0 h1 h2 h3 h
    simp only [smallTo] at h
    split at h
    · cases h
    · rename_i hc
      obtain ⟨e0, e1⟩ := evBulk_le 10000 l.es
      have a1 := sumTo_le1 n (evBulk 10000 l.es) h0 (by omega) e0
      have a2 := sumTo_le1 k (l.es.length : Int) h2 (by omega) (by omega)
      have a3 := sumTo_one k (l.es.length : Int)
      have := ih _ _ a1.1 (by omega) a2.1 (by omega) h
      simp only [List.map_cons, List.sum_cons]
      split at a3 <;> omega
theorem small_len {lim cnt : Int} (hlim : lim ≤ 1000) (h0 : 0 ≤ lim) {ls : List LogM} (h : smallB lim cnt ls = true) : (ls.map fun l => (l.es.length : Int)).sum ≤ lim ∧ (ls.length : Int) ≤ cnt := by
  simp only [smallB, Bool.and_eq_true, decide_eq_true_eq] at h
  have := smallTo_sum lim hlim ls 0 0 (by omega) (by omega) (by omega) h0 h.1
  exact ⟨by omega, h.2⟩
theorem sum_mem {ls : List LogM} {l : LogM} (h : l ∈ ls) : (l.es.length : Int) ≤ (ls.map fun l => (l.es.length : Int)).sum := by
  induction ls with
  | nil => cases h
  | cons a r ih =>
    have hp : 0 ≤ (r.map fun l => (l.es.length : Int)).sum := by
      clear ih h
      induction r with
      | nil => simp
      | cons b r ih => simp only [List.map_cons, List.sum_cons]; omega
    simp only [List.map_cons, List.sum_cons]
    rcases List.mem_cons.1 h with rfl | h
    · omega
    · have := ih h; omega

end Go.Proofs.YthhhobfdlgmjlaaDoor
/- penstocklaw18's own: small, awake, one. Conditions: lengths fit an int. -/
namespace Go.Proofs.YthhhobfdlgmjlaaDoor
open Go.RowKit

def evA18 : Ev := ⟨⟨#[97]⟩, 0, ⟨#[]⟩, ⟨5, 0, 1⟩, 0⟩
def evB18 : Ev := ⟨⟨#[98]⟩, 0, ⟨#[]⟩, ⟨4, 0, 2⟩, 0⟩
theorem first18 (l1 l2 : LogM) (h1 : l1.es = [evA18]) (h2 : l2.es = [evB18]) : IsFirst (mergeF [l1, l2] ⟨9, 0, 0⟩ ⟨⟨0, 0, 0⟩, 0, ⟨#[]⟩⟩) 9 [evB18, evA18] := by
  have hm : ∀ y, mergeF [l1, l2] ⟨9, 0, 0⟩ ⟨⟨0, 0, 0⟩, 0, ⟨#[]⟩⟩ y ↔ y ∈ [evB18, evA18] := by
    intro y
    simp only [mergeF, inLogs, List.mem_cons, List.not_mem_nil, or_false]
    constructor
    · rintro ⟨⟨l, rfl | rfl, h⟩, _⟩
      · rw [h1] at h; right; simpa using h
      · rw [h2] at h; left; simpa using h
    · rintro (rfl | rfl)
      · exact ⟨⟨l2, .inr rfl, by rw [h2]; simp⟩, by simp [picked, stLt, behind, evB18]⟩
      · exact ⟨⟨l1, .inl rfl, by rw [h1]; simp⟩, by simp [picked, stLt, behind, evA18]⟩
  refine ⟨?_, fun o ho => (hm o).2 ho, fun y hy => .inl ((hm y).1 hy), .inl (by simp), fun _ y hy => (hm y).1 hy⟩
  simp [fl, evA18, evB18, stLt]
end Go.Proofs.YthhhobfdlgmjlaaDoor
/- penstocklaw18.one: have no two events of all logs one place? Conditions: all logs together have at most 2^32 events. -/
namespace Go.Proofs.YthhhobfdlgmjlaaDoor
open Go.RowKit

/-- Have two events one place? -/
def samePlace (a b : Ev) : Bool := decide (a.st = b.st) && decide (a.index = b.index) && decide (a.stream = b.stream)
/-- All events of all logs, one log behind the other. -/
def allEvs (ls : List LogM) : List Ev := ls.flatMap fun l => l.es
theorem allEvs_length (ls : List LogM) : (allEvs ls).length = evTally ls := by
  simp [allEvs, evTally, List.length_flatMap]
theorem allEvs_take {ls : List LogM} {j : Nat} {l : LogM} (h : ls[j]? = some l) : allEvs (ls.take (j + 1)) = allEvs (ls.take j) ++ l.es := by
  rw [take_snoc h]; simp [allEvs]
/-- No two have one place. -/
def Apart (es : List Ev) : Prop := ∀ (i k : Nat) (a b : Ev), k < i → es[i]? = some a → es[k]? = some b → samePlace a b = false
def RetOne (w : World) (ls : List LogM) (e : Ending) (w' : World) : Prop := ∃ b, e = .returned (.bool b) ∧ (b = true → Apart (allEvs ls)) ∧ G w w'

end Go.Proofs.YthhhobfdlgmjlaaDoor
/- What a merge tells from a place on, and up to a number: plain Lean. No condition. -/
namespace Go.Proofs.YthhhobfdlgmjlaaDoor

/-- The place of an event. -/
def plOf (e : Ev) : Cu := ⟨e.st, e.index, e.stream⟩
/-- The order of places. -/
def plLt (a b : Cu) : Bool := if a.st = b.st then (if a.index = b.index then ltS a.stream b.stream else decide (a.index < b.index)) else stLt a.st b.st
theorem behind_pl (e : Ev) (c : Cu) : behind e c = plLt c (plOf e) := rfl
theorem SO.pl : SO plLt := by
  have h := (SO.st.lex (SO.int.lex SO.bytes)).pull (fun c : Cu => (c.st, c.index, c.stream)) (fun a b h => by cases a; cases b; simp_all)
  have e : (fun a b : Cu => lexB stLt (lexB ltI ltS) (a.st, a.index, a.stream) (b.st, b.index, b.stream)) = plLt := by
    funext a b
    simp only [lexB, plLt, ltI]
  rwa [e] at h
theorem fl_of_pl {a b : Ev} (h : plLt (plOf a) (plOf b) = true) : fl a b = true := by
  unfold plLt plOf at h
  unfold fl
  dsimp only at h
  split at h
  · rename_i h1
    rw [if_pos h1]
    split at h
    · rename_i h2
      rw [if_pos h2]
      have h3 : a.stream ≠ b.stream := by
        intro e
        rw [e, SO.bytes.irr] at h; cases h
      rw [if_neg h3]; exact h
    · rename_i h2
      rw [if_neg h2]; exact h
  · rename_i h1
    rw [if_neg h1]; exact h
theorem pl_of_fl {a b : Ev} (h : fl a b = true) (hne : plOf a ≠ plOf b) : plLt (plOf a) (plOf b) = true := by
  rcases SO.pl.tri (plOf a) (plOf b) with h1 | h1 | h1
  · exact h1
  · exact absurd h1 hne
  · have := fl_of_pl h1
    rw [SO.fl.asymm h] at this; cases this
theorem samePlace_of {a b : Ev} (h : plOf a = plOf b) : samePlace a b = true := by
  simp only [plOf, Cu.mk.injEq] at h
  simp [samePlace, h]
theorem samePlace_comm (a b : Ev) : samePlace a b = samePlace b a := by
  simp only [samePlace]
  congr 1
  · congr 1
    · exact decide_eq_decide.2 eq_comm
    · exact decide_eq_decide.2 eq_comm
  · exact decide_eq_decide.2 eq_comm
theorem mem_allEvs {ls : List LogM} {y : Ev} : y ∈ allEvs ls ↔ inLogs ls y := by
  unfold allEvs inLogs
  rw [List.mem_flatMap]
theorem Apart.ne {ls : List LogM} (h : Apart (allEvs ls)) {x y : Ev} (hx : inLogs ls x) (hy : inLogs ls y) (hne : x ≠ y) : plOf x ≠ plOf y := by
  intro e
  have e' := samePlace_of e
  obtain ⟨i, hi⟩ := List.getElem?_of_mem (mem_allEvs.2 hx)
  obtain ⟨k, hk⟩ := List.getElem?_of_mem (mem_allEvs.2 hy)
  rcases Nat.lt_trichotomy k i with h1 | h1 | h1
  · have := h i k x y h1 hi hk
    rw [e'] at this; cases this
  · subst h1
    rw [hi] at hk
    cases hk
    exact hne rfl
  · have := h k i y x h1 hk hi
    rw [samePlace_comm, e'] at this; cases this
/-- All that F tells, in order. -/
def AllOf (F : Ev → Prop) (all : List Ev) : Prop := all.Pairwise (fun a b => fl a b = true) ∧ ∀ y, F y ↔ y ∈ all
theorem IsFirst.all {F : Ev → Prop} {max : Int} {a : List Ev} (h : IsFirst F max a) (hl : (a.length : Int) < max) : AllOf F a := ⟨h.1, fun y => ⟨h.2.2.2.2 hl y, h.2.1 y⟩⟩
theorem AllOf.first {F : Ev → Prop} {all : List Ev} (h : AllOf F all) (n : Nat) : IsFirst F n (all.take n) := by
  obtain ⟨h1, h2⟩ := h
  refine ⟨h1.sublist (List.take_sublist n all), fun o ho => (h2 o).2 (List.mem_of_mem_take ho), fun y hy => ?_, .inl ?_, fun hl y hy => ?_⟩
  · have hm := (h2 y).1 hy
    rw [← List.take_append_drop n all] at hm h1
    rcases List.mem_append.1 hm with h3 | h3
    · exact .inl h3
    · exact .inr fun o ho => (List.pairwise_append.1 h1).2.2 o ho y h3
  · rw [List.length_take]; omega
  · rw [List.length_take] at hl
    rw [List.take_of_length_le (by omega)]
    exact (h2 y).1 hy
/-- What is told, up to a number, where all is known. -/
theorem AllOf.told {F : Ev → Prop} {all a : List Ev} {max : Int} (h : AllOf F all) (n : Nat) (hn : max = n) (ha : IsFirst F max a) : a = all.take n := by
  subst hn
  exact ha.unique (h.first n)
theorem AllOf.behind {ls : List LogM} {st : St} {c : Cu} {all : List Ev} (h : AllOf (mergeF ls st c) all) (hap : Apart (allEvs ls)) {k : Nat} {x : Ev} (hx : all[k]? = some x) : AllOf (mergeF ls st (plOf x)) (all.drop (k + 1)) := by
  obtain ⟨h1, h2⟩ := h
  have hsp : all = all.take k ++ x :: all.drop (k + 1) := by
    obtain ⟨hk, rfl⟩ := List.getElem?_eq_some_iff.1 hx
    rw [← List.drop_eq_getElem_cons hk, List.take_append_drop]
  refine ⟨h1.sublist (List.drop_sublist _ _), fun y => ?_⟩
  rw [hsp, List.pairwise_append, List.pairwise_cons] at h1
  obtain ⟨_, ⟨h3, _⟩, h4⟩ := h1
  have hxm := (h2 x).2 (List.mem_of_getElem? hx)
  have hxp := hxm.2
  simp only [picked, Bool.and_eq_true] at hxp
  constructor
  · rintro ⟨hy, hp⟩
    simp only [picked, Bool.and_eq_true] at hp
    rw [behind_pl] at hp
    have hya : y ∈ all := (h2 y).1 ⟨hy, by
      simp only [picked, Bool.and_eq_true, behind_pl]
      exact ⟨hp.1, SO.pl.tr _ _ _ (by rw [← behind_pl]; exact hxp.2) hp.2⟩⟩
    have hfl := fl_of_pl hp.2
    rw [hsp] at hya
    rcases List.mem_append.1 hya with h5 | h5
    · have := h4 y h5 x (by simp)
      rw [SO.fl.asymm hfl] at this; cases this
    · rcases List.mem_cons.1 h5 with rfl | h5
      · rw [SO.fl.irr] at hfl; cases hfl
      · exact h5
  · intro hy
    have hfl := h3 y hy
    have hym := (h2 y).2 (List.mem_of_mem_drop hy)
    refine ⟨hym.1, ?_⟩
    have hyp := hym.2
    simp only [picked, Bool.and_eq_true] at hyp ⊢
    refine ⟨hyp.1, ?_⟩
    rw [behind_pl]
    exact pl_of_fl hfl (hap.ne hxm.1 hym.1 (by rintro rfl; rw [SO.fl.irr] at hfl; cases hfl))
/-- Events in the heap's own order, no two of one place, are in order. -/
theorem evLt_of_fl {a b : Ev} (h : fl a b = true) (hne : plOf a ≠ plOf b) : evLt a b = true := by
  have h1 := pl_of_fl h hne
  unfold plLt plOf at h1
  unfold evLt
  dsimp only at h1
  split at h1
  · rename_i e1
    rw [if_pos e1]
    split at h1
    · rename_i e2
      rw [if_pos e2]
      have h3 : a.stream ≠ b.stream := by
        intro e
        rw [e, SO.bytes.irr] at h1; cases h1
      rw [if_neg h3]; exact h1
    · rename_i e2
      rw [if_neg e2]; exact h1
  · rename_i e1
    rw [if_neg e1]; exact h1
theorem AllOf.sorted {ls : List LogM} {st : St} {c : Cu} {all : List Ev} (h : AllOf (mergeF ls st c) all) (hap : Apart (allEvs ls)) : sortedB all = true := by
  rw [sortedB_iff]
  intro j a b ha hb
  have hfl : fl a b = true := by
    obtain ⟨hk, rfl⟩ := List.getElem?_eq_some_iff.1 ha
    obtain ⟨hk2, rfl⟩ := List.getElem?_eq_some_iff.1 hb
    exact List.pairwise_iff_getElem.1 h.1 j (j + 1) hk hk2 (by omega)
  refine evLt_of_fl hfl (hap.ne ((h.2 a).2 (List.mem_of_getElem? ha)).1 ((h.2 b).2 (List.mem_of_getElem? hb)).1 ?_)
  rintro rfl
  rw [SO.fl.irr] at hfl; cases hfl
/-- The same logs, in whatever order. -/
theorem IsFirst.same_logs {ls ls' : List LogM} {st : St} {c : Cu} {max : Int} {a b : List Ev} (h : ∀ y, inLogs ls y ↔ inLogs ls' y) (ha : IsFirst (mergeF ls st c) max a) (hb : IsFirst (mergeF ls' st c) max b) : b = a :=
  hb.unique (ha.iff fun y => by unfold mergeF; rw [h y])
theorem tally_int {ls : List LogM} {n : Nat} : evTally ls ≤ n ↔ (ls.map fun l => (l.es.length : Int)).sum ≤ n := by
  have : ((evTally ls : Nat) : Int) = (ls.map fun l => (l.es.length : Int)).sum := by
    unfold evTally
    induction ls with
    | nil => rfl
    | cons a l ih => simp only [List.map_cons, List.sum_cons]; omega
  omega
end Go.Proofs.YthhhobfdlgmjlaaDoor

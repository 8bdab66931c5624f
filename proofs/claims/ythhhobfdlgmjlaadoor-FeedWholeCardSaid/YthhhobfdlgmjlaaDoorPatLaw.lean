/- How a pattern is read, step by step, as penstockref1 reads it. Plain mathematics. No condition. -/
import Derived.Test.YthhhobfdlgmjlaaDoorGlobLaw
namespace Go.Proofs.YthhhobfdlgmjlaaDoor

theorem unitS_back (e : Bool) (c : Nat) (l : List Nat) : unitS e (92 :: c :: l) false = (c, l, false) := rfl
theorem unitS_back_nil (e : Bool) : (unitS e [92] false).2.2 = true := rfl
theorem unitS_nil (e : Bool) : (unitS e [] false).2.2 = true := by cases e <;> rfl
theorem unitS_one (e : Bool) {c : Nat} (l : List Nat) (h : c ≠ 92) : unitS e (c :: l) false = (c, l, decide (c = 45) && (!e && !isC 93 0 l)) := by
  unfold unitS
  rw [show nx (c :: l) false = (c, l, false) from rfl]
  dsimp only
  rw [if_neg h]
  split
  · rename_i h1; subst h1; simp
  · rename_i h1; simp [h1]
theorem unitS_fine {c : Nat} (l : List Nat) (h : c ≠ 92) : unitS true (c :: l) false = (c, l, false) := by rw [unitS_one true l h]; simp
theorem spanS_one {e : Bool} {l l' : List Nat} {r : Nat} (h : unitS e l false = (r, l', false)) (hn : ¬ (isC 45 0 l' = true ∧ isC 93 1 l' = false)) : spanS e l false = ((r, r), l', false) := by
  unfold spanS
  rw [h]
  dsimp only
  rw [if_neg hn]
theorem spanS_two {e : Bool} {l l2 l3 : List Nat} {r hi : Nat} (h : unitS e l false = (r, 45 :: l2, false)) (hn : isC 93 1 (45 :: l2) = false) (hf : unitS true l2 false = (hi, l3, false)) : spanS e l false = ((r, hi), l3, decide (hi < r)) := by
  unfold spanS
  rw [h]
  dsimp only
  rw [if_pos ⟨by simp [isC], hn⟩, show nx (45 :: l2) false = (45, l2, false) from rfl]
  dsimp only
  rw [hf]
  simp
theorem spanS_bad1 {e : Bool} {l : List Nat} (h : (unitS e l false).2.2 = true) : (spanS e l false).2.2 = true := by
  unfold spanS
  dsimp only
  split
  · rw [h, nx_bad, unitS_bad]; simp
  · exact h
theorem spanS_bad2 {e : Bool} {l l2 : List Nat} {r : Nat} (h : unitS e l false = (r, 45 :: l2, false)) (hn : isC 93 1 (45 :: l2) = false) (hf : (unitS true l2 false).2.2 = true) : (spanS e l false).2.2 = true := by
  unfold spanS
  rw [h]
  dsimp only
  rw [if_pos ⟨by simp [isC], hn⟩, show nx (45 :: l2) false = (45, l2, false) from rfl]
  dsimp only
  rw [hf]
  simp
/-- What stands in a set, from some spans on. -/
def setG (S : List (Nat × Nat)) (l : List Nat) : List (Nat × Nat) × List Nat × Bool := setF (l.length + 2) S l false
theorem setG_end (S : List (Nat × Nat)) (l : List Nat) : setG S (93 :: l) = (S, 93 :: l, false) := by
  unfold setG
  rw [setF, if_neg (by simp), if_pos (by simp [isC])]
theorem setG_nil (S : List (Nat × Nat)) : (setG S []).2.2 = true := setF_nil _ _ _
theorem setG_bad {S : List (Nat × Nat)} {l : List Nat} (h93 : isC 93 0 l = false) (h : (spanS S.isEmpty l false).2.2 = true) : (setG S l).2.2 = true := by
  unfold setG
  rw [setF, if_neg (by simp), if_neg (by rw [h93]; simp), h]
  exact setF_bad _ _ _
theorem setG_step {S : List (Nat × Nat)} {l l' : List Nat} {s : Nat × Nat} (h93 : isC 93 0 l = false) (h : spanS S.isEmpty l false = (s, l', false)) : setG S l = setG (S ++ [s]) l' := by
  have hl := (spanS_le S.isEmpty l false).2
  rw [h] at hl
  have hl2 := (hl rfl).1
  dsimp only at hl2
  unfold setG
  rw [setF, if_neg (by simp), if_neg (by rw [h93]; simp), h]
  dsimp only
  exact setF_more _ _ _ _ _ (by simp; omega) (by simp)
/-- What is left of a set behind its sign. -/
def setTl (l : List Nat) : List Nat := if isC 94 0 l = true then l.tail else l
theorem setS_G (l : List Nat) : setS l false = (⟨3, 0, (setG [] (setTl l)).1, isC 94 0 l⟩, (nx (setG [] (setTl l)).2.1 (setG [] (setTl l)).2.2).2.1, (nx (setG [] (setTl l)).2.1 (setG [] (setTl l)).2.2).2.2 || (setG [] (setTl l)).1.isEmpty) := by
  unfold setS setTl setG
  cases h : isC 94 0 l with
  | false => rfl
  | true =>
    rcases l with _ | ⟨c, l⟩
    · simp [isC] at h
    · dsimp only [if_true, List.tail]
      rw [if_pos rfl, if_pos rfl, show nx (c :: l) false = (c, l, false) from rfl]
      dsimp only
      rw [setF_more ((c :: l).length + 2) (l.length + 2) [] l false (by simp) (by simp)]
theorem setS_ok {l l2 : List Nat} {S : List (Nat × Nat)} (h : setG [] (setTl l) = (S, 93 :: l2, false)) (hS : S ≠ []) : setS l false = (⟨3, 0, S, isC 94 0 l⟩, l2, false) := by
  rw [setS_G, h]
  dsimp only
  rw [show nx (93 :: l2) false = (93, l2, false) from rfl]
  have : S.isEmpty = false := by cases S with | nil => exact absurd rfl hS | cons a b => rfl
  rw [this]
  rfl
theorem setS_none {l l2 : List Nat} (h : setG [] (setTl l) = ([], l2, false)) : (setS l false).2.2 = true := by
  rw [setS_G, h]
  simp
theorem setS_bad {l : List Nat} (h : (setG [] (setTl l)).2.2 = true) : (setS l false).2.2 = true := by
  rw [setS_G, h, nx_bad]
  simp
theorem one_set (l : List Nat) : oneS (91 :: l) false = setS l false := rfl
theorem one_back_nil : (oneS [92] false).2.2 = true := rfl
theorem parseL_bad {c : Nat} {l : List Nat} (h : (oneS (c :: l) false).2.2 = true) : (parseL (c :: l)).2 = true := by
  rw [parseL_cons, h]
  exact parseF_bad _ _
/-- So much of a pattern is read: its pieces; what is left. -/
def PatTo (l0 : List Nat) (ps : List Pc) (l : List Nat) : Prop := parseL l0 = (ps ++ (parseL l).1, (parseL l).2)
theorem PatTo.start (l : List Nat) : PatTo l [] l := by simp [PatTo]
theorem PatTo.step {l0 l l' : List Nat} {ps : List Pc} {c : Nat} {p : Pc} (h : PatTo l0 ps (c :: l)) (h1 : oneS (c :: l) false = (p, l', false)) : PatTo l0 (ps ++ [p]) l' := by
  unfold PatTo at *
  rw [h, parseL_one h1]
  simp
theorem PatTo.bad {l0 l : List Nat} {ps : List Pc} {c : Nat} (h : PatTo l0 ps (c :: l)) (h1 : (oneS (c :: l) false).2.2 = true) : (parseL l0).2 = true := by
  unfold PatTo at *
  rw [h, parseL_bad h1]
theorem PatTo.done {l0 : List Nat} {ps : List Pc} (h : PatTo l0 ps []) : parseL l0 = (ps, false) := by
  unfold PatTo at h
  rw [h, parseL_nil, List.append_nil]
/-- As the document has a piece: it stands for the same runes. -/
structure Pr where
  star : Bool
  no : Bool
  set : List (Nat × Nat)
def Pr.takes (p : Pr) (c : Nat) : Bool := inSet p.set c != p.no
def Pr.is (p : Pr) (q : Pc) : Prop := p.star = q.any ∧ (q.any = false → ∀ c, p.takes c = q.fits c)
theorem Pr.lit (r : Nat) : (⟨false, false, [(r, r)]⟩ : Pr).is (lit r) := by
  refine ⟨rfl, fun _ c => ?_⟩
  rw [lit_fits]
  unfold Pr.takes inSet inSet
  simp only [Bool.or_false, Bool.bne_false]
  rw [Bool.eq_iff_iff]
  simp only [Bool.and_eq_true, decide_eq_true_eq]
  omega
theorem Pr.quest : (⟨false, true, []⟩ : Pr).is quest := ⟨rfl, fun _ _ => rfl⟩
theorem Pr.starIs : (⟨true, false, []⟩ : Pr).is Proofs.YthhhobfdlgmjlaaDoor.star := ⟨rfl, fun h => by cases h⟩
theorem Pr.setIs (S : List (Nat × Nat)) (no : Bool) : (⟨false, no, S⟩ : Pr).is ⟨3, 0, S, no⟩ := by
  refine ⟨rfl, fun _ c => ?_⟩
  unfold Pr.takes Pc.fits
  dsimp only
  rw [if_neg (by omega), if_pos rfl]
  cases inSet S c <;> cases no <;> rfl
/-- Pieces of the document, pieces of the program. -/
def PrsIs (ps : List Pr) (qs : List Pc) : Prop := ps.length = qs.length ∧ ∀ (k : Nat) (p : Pr) (q : Pc), ps[k]? = some p → qs[k]? = some q → p.is q
theorem PrsIs.nil : PrsIs [] [] := ⟨rfl, by simp⟩
theorem PrsIs.snoc {ps : List Pr} {qs : List Pc} {p : Pr} {q : Pc} (h : PrsIs ps qs) (h1 : p.is q) : PrsIs (ps ++ [p]) (qs ++ [q]) := by
  refine ⟨by simp [h.1], fun k p' q' hp hq => ?_⟩
  rcases Nat.lt_trichotomy k ps.length with hk | hk | hk
  · rw [List.getElem?_append_left hk] at hp
    rw [List.getElem?_append_left (by rw [← h.1]; exact hk)] at hq
    exact h.2 k _ _ hp hq
  · subst hk
    rw [List.getElem?_append_right (Nat.le_refl _)] at hp
    rw [List.getElem?_append_right (by rw [h.1]; exact Nat.le_refl _)] at hq
    simp at hp
    simp [h.1] at hq
    subst hp hq
    exact h1
  · rw [List.getElem?_eq_none (by simp; omega)] at hp
    cases hp
end Go.Proofs.YthhhobfdlgmjlaaDoor

/- Patterns: how they are read, what they take. Plain mathematics, no program. No condition. -/
import Derived.Test.YthhhobfdlgmjlaaDoorBase
namespace Go.Proofs.YthhhobfdlgmjlaaDoor

/-- A pattern's piece: 0 a rune, 1 any runes, 2 one rune, 3 a set. -/
structure Pc where
  kind : Nat
  r : Nat
  set : List (Nat × Nat)
  none : Bool
def Pc.any (p : Pc) : Bool := decide (p.kind = 1)
def inSet : List (Nat × Nat) → Nat → Bool
  | [], _ => false
  | s :: l, c => (decide (s.1 ≤ c) && decide (c ≤ s.2)) || inSet l c
def Pc.fits (p : Pc) (c : Nat) : Bool :=
  if p.kind = 2 then true else if p.kind = 3 then (if inSet p.set c = true then !p.none else p.none) else decide (p.kind = 0) && decide (p.r = c)
def lit (r : Nat) : Pc := ⟨0, r, [], false⟩
def star : Pc := ⟨1, 0, [], false⟩
def quest : Pc := ⟨2, 0, [], false⟩
theorem lit_any (r : Nat) : (lit r).any = false := rfl
theorem lit_fits (r c : Nat) : (lit r).fits c = decide (r = c) := rfl
theorem star_any : star.any = true := rfl
/-- Do pieces take runes? Both from behind. -/
def mt (ps : List Pc) (u : List Nat) : Bool :=
  match ps, u with
  | [], [] => true
  | [], _ :: _ => false
  | p :: ps, [] => p.any && mt ps []
  | p :: ps, c :: u => if p.any = true then mt (p :: ps) u || mt ps (c :: u) else p.fits c && mt ps u
termination_by ps.length + u.length
theorem mt_nil : mt [] [] = true := by rw [mt]
theorem mt_nil_cons (c : Nat) (u : List Nat) : mt [] (c :: u) = false := by rw [mt]
theorem mt_cons_nil (p : Pc) (ps : List Pc) : mt (p :: ps) [] = (p.any && mt ps []) := by rw [mt]
theorem mt_cons (p : Pc) (ps : List Pc) (c : Nat) (u : List Nat) : mt (p :: ps) (c :: u) = if p.any = true then mt (p :: ps) u || mt ps (c :: u) else p.fits c && mt ps u := by rw [mt]
/-- Pieces take runes. -/
inductive Mt : List Pc → List Nat → Prop
  | nil : Mt [] []
  | one (p : Pc) (ps : List Pc) (c : Nat) (u : List Nat) : p.any = false → p.fits c = true → Mt ps u → Mt (p :: ps) (c :: u)
  | any (p : Pc) (ps : List Pc) (a u : List Nat) : p.any = true → Mt ps u → Mt (p :: ps) (a ++ u)
theorem Mt.inv_any {p : Pc} {ps : List Pc} {u : List Nat} (h : Mt (p :: ps) u) (hp : p.any = true) : ∃ a b, u = a ++ b ∧ Mt ps b := by
  cases h with
  | one _ _ _ _ h1 _ _ => rw [hp] at h1; cases h1
  | any _ _ a u _ h => exact ⟨a, u, rfl, h⟩
theorem Mt.inv_one {p : Pc} {ps : List Pc} {u : List Nat} (h : Mt (p :: ps) u) (hp : p.any = false) : ∃ c b, u = c :: b ∧ p.fits c = true ∧ Mt ps b := by
  cases h with
  | one _ _ c u _ h1 h2 => exact ⟨c, u, rfl, h1, h2⟩
  | any _ _ _ _ h1 _ => rw [hp] at h1; cases h1
theorem Mt.inv_nil {u : List Nat} (h : Mt [] u) : u = [] := by cases h; rfl
theorem Mt.of_mt : ∀ (n : Nat) (ps : List Pc) (u : List Nat), ps.length + u.length ≤ n → mt ps u = true → Mt ps u := by
  intro n
  induction n with
  | zero =>
    intro ps u hn _
    obtain rfl : ps = [] := List.eq_nil_of_length_eq_zero (by omega)
    obtain rfl : u = [] := List.eq_nil_of_length_eq_zero (by omega)
    exact .nil
  | succ n ih =>
    intro ps u hn h
    match ps, u, hn, h with
    | [], [], _, _ => exact .nil
    | [], c :: u, _, h => rw [mt_nil_cons] at h; cases h
    | p :: ps, [], hn, h =>
      rw [mt_cons_nil, Bool.and_eq_true] at h
      exact .any p ps [] [] h.1 (ih ps [] (by simp at hn ⊢; omega) h.2)
    | p :: ps, c :: u, hn, h =>
      simp only [List.length_cons] at hn
      rw [mt_cons] at h
      split at h
      · rename_i hp
        rw [Bool.or_eq_true] at h
        rcases h with h | h
        · obtain ⟨a, b, rfl, hb⟩ := (ih (p :: ps) u (by simp only [List.length_cons]; omega) h).inv_any hp
          exact .any p ps (c :: a) b hp hb
        · exact .any p ps [] (c :: u) hp (ih ps (c :: u) (by simp only [List.length_cons]; omega) h)
      · rename_i hp
        rw [Bool.and_eq_true] at h
        exact .one p ps c u (by simpa using hp) h.1 (ih ps u (by omega) h.2)
theorem mt_skip {p : Pc} (hp : p.any = true) {ps : List Pc} {u : List Nat} (h : mt ps u = true) : mt (p :: ps) u = true := by
  rcases u with _ | ⟨c, u⟩
  · rw [mt_cons_nil, hp, h]; rfl
  · rw [mt_cons, if_pos hp, h, Bool.or_true]
theorem Mt.mt {ps : List Pc} {u : List Nat} (h : Mt ps u) : mt ps u = true := by
  induction h with
  | nil => exact mt_nil
  | one p ps c u hp hf _ ih => rw [mt_cons, if_neg (by rw [hp]; simp), hf, ih]; rfl
  | any p ps a u hp _ ih =>
    induction a with
    | nil => exact mt_skip hp ih
    | cons c a ih2 => rw [List.cons_append, mt_cons, if_pos hp, ih2, Bool.true_or]
theorem mt_iff (ps : List Pc) (u : List Nat) : mt ps u = true ↔ Mt ps u := ⟨Mt.of_mt _ ps u (Nat.le_refl _), Mt.mt⟩
theorem Mt.append {ps qs : List Pc} {a b : List Nat} (h : Mt ps a) (k : Mt qs b) : Mt (ps ++ qs) (a ++ b) := by
  induction h with
  | nil => exact k
  | one p ps c u hp hf _ ih => exact .one p _ c _ hp hf ih
  | any p ps x u hp _ ih => rw [List.append_assoc]; exact .any p _ x _ hp ih
theorem Mt.split : ∀ {ps qs : List Pc} {u : List Nat}, Mt (ps ++ qs) u → ∃ a b, u = a ++ b ∧ Mt ps a ∧ Mt qs b
  | [], qs, u, h => ⟨[], u, rfl, .nil, h⟩
  | p :: ps, qs, u, h => by
    cases hp : p.any with
    | true =>
      obtain ⟨x, y, rfl, hy⟩ := h.inv_any hp
      obtain ⟨a, b, rfl, ha, hb⟩ := Mt.split hy
      exact ⟨x ++ a, b, by rw [List.append_assoc], .any p ps x a hp ha, hb⟩
    | false =>
      obtain ⟨c, y, rfl, hc, hy⟩ := h.inv_one hp
      obtain ⟨a, b, rfl, ha, hb⟩ := Mt.split hy
      exact ⟨c :: a, b, rfl, .one p ps c a hp hc ha, hb⟩
theorem Mt.reverse {ps : List Pc} {u : List Nat} (h : Mt ps u) : Mt ps.reverse u.reverse := by
  induction h with
  | nil => exact .nil
  | one p ps c u hp hf _ ih =>
    rw [List.reverse_cons, List.reverse_cons]
    exact ih.append (.one p [] c [] hp hf .nil)
  | any p ps a u hp _ ih =>
    rw [List.reverse_cons, List.reverse_append]
    refine ih.append ?_
    have := Mt.any p [] a.reverse [] hp .nil
    rwa [List.append_nil] at this
/-- Do pieces take runes? -/
def matchL (ps : List Pc) (u : List Nat) : Bool := mt ps.reverse u.reverse
theorem matchL_iff (ps : List Pc) (u : List Nat) : matchL ps u = true ↔ Mt ps u := by
  unfold matchL
  rw [mt_iff]
  constructor
  · intro h
    have := h.reverse
    rwa [List.reverse_reverse, List.reverse_reverse] at this
  · exact Mt.reverse
/-- Literal pieces take themselves alone. -/
theorem Mt.lits : ∀ (l u : List Nat), Mt (l.map lit) u ↔ u = l
  | [], u => ⟨fun h => h.inv_nil, fun h => by rw [h]; exact .nil⟩
  | r :: l, u => by
    rw [List.map_cons]
    constructor
    · intro h
      obtain ⟨c, b, rfl, hc, hb⟩ := h.inv_one (lit_any r)
      rw [lit_fits, decide_eq_true_iff] at hc
      rw [(Mt.lits l b).1 hb, hc]
    · rintro rfl
      exact .one _ _ _ _ (lit_any r) (by rw [lit_fits]; exact decide_eq_true rfl) ((Mt.lits l l).2 rfl)
theorem Mt.star (u : List Nat) : Mt [star] u := by
  have := Mt.any _ [] u [] star_any .nil
  rwa [List.append_nil] at this

/-! The table of first pieces. -/
def mrow (ps : List Pc) (u : List Nat) (i : Nat) : Bool := mt (ps.take i).reverse u.reverse
theorem take_rev {ps : List Pc} {i : Nat} {p : Pc} (h : ps[i]? = some p) : (ps.take (i + 1)).reverse = p :: (ps.take i).reverse := by
  rw [List.take_add_one, h]
  simp
theorem mrow_all (ps : List Pc) (u : List Nat) : mrow ps u ps.length = matchL ps u := by unfold mrow matchL; rw [List.take_length]
theorem mrow_zero_nil (ps : List Pc) : mrow ps [] 0 = true := by unfold mrow; simp [mt_nil]
theorem mrow_zero (ps : List Pc) (u : List Nat) (c : Nat) : mrow ps (u ++ [c]) 0 = false := by unfold mrow; simp [mt_nil_cons]
theorem mrow_nil {ps : List Pc} {i : Nat} {p : Pc} (h : ps[i]? = some p) : mrow ps [] (i + 1) = (p.any && mrow ps [] i) := by
  unfold mrow
  rw [take_rev h]
  exact mt_cons_nil _ _
theorem mrow_up {ps : List Pc} {u : List Nat} {i : Nat} {p : Pc} (h : ps[i]? = some p) (hp : p.any = true) (hm : mrow ps u i = true) : mrow ps u (i + 1) = true := by
  unfold mrow at *
  rw [take_rev h]
  exact mt_skip hp hm
theorem mrow_step {ps : List Pc} {u : List Nat} {i c : Nat} {p : Pc} (h : ps[i]? = some p) :
    mrow ps (u ++ [c]) (i + 1) = if p.any = true then mrow ps u (i + 1) || mrow ps (u ++ [c]) i else p.fits c && mrow ps u i := by
  unfold mrow
  rw [take_rev h, List.reverse_append]
  exact mt_cons _ _ _ _
/-- A row behind pass: from the first to the last, any runes hand on what is there. -/
def passB (ps : List Pc) (f : Nat → Bool) : Nat → Bool
  | 0 => f 0
  | i + 1 => f (i + 1) || (match ps[i]? with | some p => p.any && passB ps f i | none => false)
theorem passB_succ {ps : List Pc} {f : Nat → Bool} {i : Nat} {p : Pc} (h : ps[i]? = some p) : passB ps f (i + 1) = (f (i + 1) || (p.any && passB ps f i)) := by rw [passB, h]
theorem pass_start (ps : List Pc) : ∀ i, i ≤ ps.length → passB ps (fun i => decide (i = 0)) i = mrow ps [] i
  | 0, _ => by rw [mrow_zero_nil]; rfl
  | i + 1, h => by
    have hp : ps[i]? = some ps[i] := List.getElem?_eq_getElem (by omega)
    rw [passB_succ hp, mrow_nil hp, pass_start ps i (by omega), decide_eq_false (by omega), Bool.false_or]
/-- A row behind the round over the pieces, ahead of pass. -/
def stepB (ps : List Pc) (f : Nat → Bool) (c : Nat) : Nat → Bool
  | 0 => false
  | i + 1 => match ps[i]? with | some p => if p.any = true then f (i + 1) || f i else p.fits c && f i | none => false
theorem pass_step (ps : List Pc) (u : List Nat) (c : Nat) : ∀ i, i ≤ ps.length → passB ps (stepB ps (mrow ps u) c) i = mrow ps (u ++ [c]) i
  | 0, _ => by rw [mrow_zero]; rfl
  | i + 1, h => by
    have hp : ps[i]? = some ps[i] := List.getElem?_eq_getElem (by omega)
    rw [passB_succ hp, mrow_step hp, pass_step ps u c i (by omega)]
    rw [stepB, hp]
    dsimp only
    cases ha : (ps[i]).any with
    | true =>
      rw [if_pos rfl, if_pos rfl, Bool.true_and]
      cases hm : mrow ps u i with
      | true => rw [mrow_up hp ha hm, Bool.true_or, Bool.true_or]
      | false => rw [Bool.or_false]
    | false =>
      rw [if_neg (by simp), if_neg (by simp), Bool.false_and, Bool.or_false]
theorem passB_congr {ps : List Pc} {f g : Nat → Bool} (n : Nat) (h : ∀ i, i ≤ n → f i = g i) : ∀ i, i ≤ n → passB ps f i = passB ps g i
  | 0, hi => h 0 hi
  | i + 1, hi => by rw [passB, passB, h (i + 1) hi, passB_congr n h i (by omega)]

/-! How a pattern is read: what is left of it, and whether it is none. -/
def nx : List Nat → Bool → Nat × List Nat × Bool
  | l, true => (0, l, true)
  | [], false => (0, [], true)
  | c :: l, false => (c, l, false)
def isC (c on : Nat) (l : List Nat) : Bool := decide (l[on]? = some c)
def unitS (first : Bool) (l : List Nat) (b : Bool) : Nat × List Nat × Bool :=
  if (nx l b).1 = 92 then nx (nx l b).2.1 (nx l b).2.2
  else if (nx l b).1 = 45 then (45, (nx l b).2.1, (nx l b).2.2 || (!first && !isC 93 0 (nx l b).2.1))
  else nx l b
/-- One span of a set, and what is left. -/
def spanS (e : Bool) (l : List Nat) (b : Bool) : (Nat × Nat) × List Nat × Bool :=
  let a := unitS e l b
  if isC 45 0 a.2.1 = true ∧ isC 93 1 a.2.1 = false then
    let d := nx a.2.1 a.2.2
    let f := unitS true d.2.1 d.2.2
    ((a.1, f.1), f.2.1, f.2.2 || decide (f.1 < a.1))
  else ((a.1, a.1), a.2.1, a.2.2)
def setF : Nat → List (Nat × Nat) → List Nat → Bool → List (Nat × Nat) × List Nat × Bool
  | 0, set, l, _ => (set, l, true)
  | n + 1, set, l, b =>
    if b = true then (set, l, true) else if isC 93 0 l = true then (set, l, false) else
    setF n (set ++ [(spanS set.isEmpty l b).1]) (spanS set.isEmpty l b).2.1 (spanS set.isEmpty l b).2.2
/-- A set, behind its opening bracket. -/
def setS (l : List Nat) (b : Bool) : Pc × List Nat × Bool :=
  let no := isC 94 0 l
  let l1 := if no = true then (nx l b).2 else (l, b)
  let f := setF (l.length + 2) [] l1.1 l1.2
  let g := nx f.2.1 f.2.2
  (⟨3, 0, f.1, no⟩, g.2.1, g.2.2 || f.1.isEmpty)
def oneS (l : List Nat) (b : Bool) : Pc × List Nat × Bool :=
  let a := nx l b
  if a.1 = 42 then (star, a.2.1, a.2.2)
  else if a.1 = 63 then (quest, a.2.1, a.2.2)
  else if a.1 = 91 then setS a.2.1 a.2.2
  else if a.1 = 92 then (let d := nx a.2.1 a.2.2; (lit d.1, d.2.1, d.2.2))
  else (lit a.1, a.2.1, a.2.2)
def parseF : Nat → List Nat → Bool → List Pc × Bool
  | 0, _, _ => ([], true)
  | n + 1, l, b => if l = [] ∨ b = true then ([], b) else ((oneS l b).1 :: (parseF n (oneS l b).2.1 (oneS l b).2.2).1, (parseF n (oneS l b).2.1 (oneS l b).2.2).2)
/-- What is left is no more than there was; less, where it is not bad. -/
theorem nx_le (l : List Nat) (b : Bool) : (nx l b).2.1.length ≤ l.length ∧ ((nx l b).2.2 = false → (nx l b).2.1.length + 1 = l.length ∧ b = false) := by
  rcases l with _ | ⟨c, l⟩ <;> cases b <;> simp [nx]
theorem eta3 {α β : Type} (t : α × β × Bool) (h : t.2.2 = false) : t = (t.1, t.2.1, false) := by rw [← h]
theorem nx_bad (l : List Nat) : nx l true = (0, l, true) := by cases l <;> rfl
theorem unitS_bad (e : Bool) (l : List Nat) : unitS e l true = (0, l, true) := by
  unfold unitS
  rw [nx_bad]
  simp
theorem unitS_le (e : Bool) (l : List Nat) (b : Bool) : (unitS e l b).2.1.length ≤ l.length ∧ ((unitS e l b).2.2 = false → (unitS e l b).2.1.length < l.length ∧ b = false) := by
  have h1 := nx_le l b
  have h2 := nx_le (nx l b).2.1 (nx l b).2.2
  unfold unitS
  split
  · refine ⟨by omega, fun h => ?_⟩
    obtain ⟨h3, h4⟩ := h2.2 h
    obtain ⟨h5, h6⟩ := h1.2 h4
    exact ⟨by omega, h6⟩
  · split
    · refine ⟨h1.1, fun h => ?_⟩
      rw [Bool.or_eq_false_iff] at h
      obtain ⟨h5, h6⟩ := h1.2 h.1
      exact ⟨by simp only; omega, h6⟩
    · refine ⟨h1.1, fun h => ?_⟩
      obtain ⟨h5, h6⟩ := h1.2 h
      exact ⟨by omega, h6⟩
theorem spanS_le (e : Bool) (l : List Nat) (b : Bool) : (spanS e l b).2.1.length ≤ l.length ∧ ((spanS e l b).2.2 = false → (spanS e l b).2.1.length < l.length ∧ b = false) := by
  have h1 := unitS_le e l b
  have h2 := nx_le (unitS e l b).2.1 (unitS e l b).2.2
  have h3 := unitS_le true (nx (unitS e l b).2.1 (unitS e l b).2.2).2.1 (nx (unitS e l b).2.1 (unitS e l b).2.2).2.2
  unfold spanS
  dsimp only
  split
  · refine ⟨by dsimp only; omega, fun h => ?_⟩
    dsimp only at h ⊢
    rw [Bool.or_eq_false_iff] at h
    obtain ⟨h5, h6⟩ := h3.2 h.1
    obtain ⟨h7, h8⟩ := h2.2 h6
    obtain ⟨h9, h10⟩ := h1.2 h8
    exact ⟨by omega, h10⟩
  · exact h1
theorem setF_le : ∀ (n : Nat) (set : List (Nat × Nat)) (l : List Nat) (b : Bool), (setF n set l b).2.1.length ≤ l.length
  | 0, _, _, _ => Nat.le_refl _
  | n + 1, set, l, b => by
    unfold setF
    split
    · exact Nat.le_refl _
    · split
      · exact Nat.le_refl _
      · exact Nat.le_trans (setF_le n _ _ _) (spanS_le _ _ _).1
theorem setS_le (l : List Nat) (b : Bool) : (setS l b).2.1.length ≤ l.length := by
  unfold setS
  dsimp only
  refine Nat.le_trans (nx_le _ _).1 (Nat.le_trans (setF_le _ _ _ _) ?_)
  split
  · exact (nx_le _ _).1
  · exact Nat.le_refl _
theorem oneS_le (l : List Nat) (h : l ≠ []) : (oneS l false).2.1.length < l.length := by
  obtain ⟨c, l, rfl⟩ := List.exists_cons_of_ne_nil h
  unfold oneS
  rw [show nx (c :: l) false = (c, l, false) from rfl]
  dsimp only
  repeat' split
  all_goals try dsimp only
  all_goals
    have h1 := setS_le l false
    have h2 := (nx_le l false).1
    simp only [List.length_cons]
    omega
theorem parseF_bad (n : Nat) (l : List Nat) : (parseF n l true).2 = true := by
  cases n with
  | zero => rfl
  | succ n => rw [parseF, if_pos (.inr rfl)]
theorem parseF_nil (n : Nat) (b : Bool) : parseF (n + 1) [] b = ([], b) := by rw [parseF, if_pos (.inl rfl)]
theorem parseF_more (n : Nat) : ∀ (m : Nat) (l : List Nat) (b : Bool), l.length < n → l.length < m → parseF n l b = parseF m l b := by
  induction n with
  | zero => intro m l b h _; omega
  | succ n ih =>
    intro m l b h h2
    obtain ⟨m, rfl⟩ : ∃ k, m = k + 1 := ⟨m - 1, by omega⟩
    rw [parseF, parseF]
    split
    · rfl
    · rename_i hlb
      rw [not_or] at hlb
      have hb : b = false := by simpa using hlb.2
      subst hb
      have := oneS_le l hlb.1
      rw [ih m _ _ (by omega) (by omega)]
/-- A pattern's pieces, and whether it is none. -/
def parseL (l : List Nat) : List Pc × Bool := parseF (l.length + 1) l false
theorem parseL_nil : parseL [] = ([], false) := rfl
theorem parseL_cons (c : Nat) (l : List Nat) : parseL (c :: l) = ((oneS (c :: l) false).1 :: (parseF (l.length + 1) (oneS (c :: l) false).2.1 (oneS (c :: l) false).2.2).1, (parseF (l.length + 1) (oneS (c :: l) false).2.1 (oneS (c :: l) false).2.2).2) := by
  unfold parseL
  rw [parseF, if_neg (by simp)]
  rfl
theorem parseF_L {n : Nat} {l : List Nat} (h : l.length < n) : parseF n l false = parseL l := parseF_more _ _ _ _ h (by omega)
/-- A piece that is read well, ahead of others. -/
theorem parseL_one {c : Nat} {l l' : List Nat} {p : Pc} (h : oneS (c :: l) false = (p, l', false)) : parseL (c :: l) = (p :: (parseL l').1, (parseL l').2) := by
  have hle := oneS_le (c :: l) (by simp)
  rw [parseL_cons, h]
  rw [h] at hle
  dsimp only at hle ⊢
  rw [parseF_L (by simp only [List.length_cons] at hle; omega)]
theorem one_lit {c : Nat} (l : List Nat) (h : c ≠ 42 ∧ c ≠ 63 ∧ c ≠ 91 ∧ c ≠ 92) : oneS (c :: l) false = (lit c, l, false) := by
  unfold oneS
  rw [show nx (c :: l) false = (c, l, false) from rfl]
  dsimp only
  rw [if_neg h.1, if_neg h.2.1, if_neg h.2.2.1, if_neg h.2.2.2]
theorem one_star (l : List Nat) : oneS (42 :: l) false = (star, l, false) := rfl
theorem one_quest (l : List Nat) : oneS (63 :: l) false = (quest, l, false) := rfl
theorem one_back (c : Nat) (l : List Nat) : oneS (92 :: c :: l) false = (lit c, l, false) := rfl
theorem parse_lits : ∀ (l : List Nat), (∀ c ∈ l, c ≠ 42 ∧ c ≠ 63 ∧ c ≠ 91 ∧ c ≠ 92) → parseL l = (l.map lit, false)
  | [], _ => rfl
  | c :: l, h => by
    rw [parseL_one (one_lit l (h c (by simp))), parse_lits l fun x hx => h x (by simp [hx])]
    rfl
theorem parse_backs : ∀ (l : List Nat), parseL (l.flatMap fun c => [92, c]) = (l.map lit, false)
  | [] => rfl
  | c :: l => by
    rw [List.flatMap_cons]
    show parseL (92 :: c :: l.flatMap fun c => [92, c]) = _
    rw [parseL_one (one_back c _), parse_backs l]
    rfl

/-! Read well, a pattern is read so whatever stands behind it. -/
theorem nx_app {l l' : List Nat} {b : Bool} {c : Nat} (q : List Nat) (h : nx l b = (c, l', false)) : nx (l ++ q) b = (c, l' ++ q, false) := by
  cases b with
  | true => rw [nx_bad] at h; simp at h
  | false =>
    rcases l with _ | ⟨d, l⟩
    · simp [nx] at h
    · simp only [nx, Prod.mk.injEq, and_true] at h
      obtain ⟨rfl, rfl⟩ := h
      rfl
theorem isC_app {c on : Nat} {l : List Nat} (q : List Nat) (h : on < l.length) : isC c on (l ++ q) = isC c on l := by
  unfold isC
  rw [List.getElem?_append_left h]
theorem isC_app_t {c on : Nat} {l : List Nat} (q : List Nat) (h : isC c on l = true) : isC c on (l ++ q) = true := by
  have h2 : on < l.length := by
    unfold isC at h
    have := of_decide_eq_true h
    exact (List.getElem?_eq_some_iff.1 this).1
  rw [isC_app q h2, h]
theorem unitS_app {e : Bool} {l l' : List Nat} {b : Bool} {c : Nat} (q : List Nat) (h : unitS e l b = (c, l', false)) : unitS e (l ++ q) b = (c, l' ++ q, false) := by
  unfold unitS at h ⊢
  have key : ∀ b2, (nx l b).2.2 = b2 → b2 = false := by
    intro b2 hb
    cases b2 with
    | false => rfl
    | true =>
      have hz : nx l b = ((nx l b).1, (nx l b).2.1, true) := by rw [← hb]
      split at h
      · rw [hb, nx_bad] at h; simp at h
      · split at h
        · rw [hb] at h; simp at h
        · rw [hz] at h; simp at h
  have hb := key _ rfl
  have h1 : nx l b = ((nx l b).1, (nx l b).2.1, false) := by rw [← hb]
  have h2 := nx_app q h1
  rw [h2]
  dsimp only
  split at h
  · rename_i h92
    rw [if_pos h92]
    rw [hb] at h
    exact nx_app q h
  · rename_i h92
    rw [if_neg h92]
    split at h
    · rename_i h45
      rw [if_pos h45]
      rw [hb] at h
      simp only [Bool.false_or, Prod.mk.injEq] at h ⊢
      refine ⟨h.1, by rw [h.2.1], ?_⟩
      have h3 := h.2.2
      cases e with
      | true => rfl
      | false =>
        simp only [Bool.not_false, Bool.true_and, Bool.not_eq_false'] at h3 ⊢
        exact isC_app_t q h3
    · rename_i h45
      rw [if_neg h45]
      rw [h1] at h
      simp only [Prod.mk.injEq, and_true] at h ⊢
      exact ⟨h.1, by rw [h.2]⟩
theorem setF_bad (n : Nat) (set : List (Nat × Nat)) (l : List Nat) : (setF n set l true).2.2 = true := by
  cases n with
  | zero => rfl
  | succ n => rw [setF, if_pos rfl]
theorem setF_nil (n : Nat) (set : List (Nat × Nat)) (b : Bool) : (setF n set [] b).2.2 = true := by
  cases n with
  | zero => rfl
  | succ n =>
    rw [setF]
    cases b with
    | true => rfl
    | false =>
      rw [if_neg (by simp), if_neg (by simp [isC])]
      have : (spanS set.isEmpty [] false).2.2 = true := by cases set.isEmpty <;> rfl
      rw [this]
      exact setF_bad _ _ _
theorem spanS_app {e : Bool} {l l' : List Nat} {b : Bool} {s : Nat × Nat} (q : List Nat) (h : spanS e l b = (s, l', false)) (hne : (unitS e l b).2.1 ≠ []) : spanS e (l ++ q) b = (s, l' ++ q, false) := by
  unfold spanS at h ⊢
  dsimp only at h ⊢
  have hb : (unitS e l b).2.2 = false := by
    cases hb : (unitS e l b).2.2 with
    | false => rfl
    | true =>
      split at h
      · rw [hb, nx_bad, unitS_bad] at h; simp at h
      · rw [hb] at h; simp at h
  have h1 : unitS e l b = ((unitS e l b).1, (unitS e l b).2.1, false) := by rw [← hb]
  have h2 := unitS_app q h1
  rw [h2]
  dsimp only
  generalize (unitS e l b).1 = x at *
  generalize (unitS e l b).2.1 = l1 at *
  rw [hb] at h
  have h0 : isC 45 0 (l1 ++ q) = isC 45 0 l1 := isC_app q (List.length_pos_iff.2 hne)
  rw [h0]
  by_cases hc : isC 45 0 l1 = true ∧ isC 93 1 l1 = false
  · rw [if_pos hc] at h
    have hl : 1 < l1.length := by
      rcases l1 with _ | ⟨d, _ | ⟨d2, l2⟩⟩
      · exact absurd rfl hne
      · rw [show nx [d] false = (d, [], false) from rfl] at h
        dsimp only at h
        rw [show (unitS true [] false) = (0, [], true) from rfl] at h
        simp at h
      · simp
    rw [isC_app q hl, if_pos hc]
    have hd : (nx l1 false).2.2 = false := by
      cases hd : (nx l1 false).2.2 with
      | false => rfl
      | true => rw [hd, unitS_bad] at h; simp at h
    have h3 : nx l1 false = ((nx l1 false).1, (nx l1 false).2.1, false) := eta3 _ hd
    have h4 := nx_app q h3
    rw [h4]
    dsimp only
    rw [hd] at h
    generalize (nx l1 false).2.1 = l2 at *
    simp only [Prod.mk.injEq, Bool.or_eq_false_iff] at h
    obtain ⟨h5, h6, h7, h8⟩ := h
    have h9 : unitS true l2 false = ((unitS true l2 false).1, (unitS true l2 false).2.1, false) := eta3 _ h7
    have h10 := unitS_app q h9
    rw [h10]
    dsimp only
    rw [h5, h6, h8]
    rfl
  · rw [if_neg hc] at h
    have hc2 : ¬ (isC 45 0 l1 = true ∧ isC 93 1 (l1 ++ q) = false) := by
      rintro ⟨h3, h4⟩
      apply hc
      refine ⟨h3, ?_⟩
      cases h5 : isC 93 1 l1 with
      | false => rfl
      | true => rw [isC_app_t q h5] at h4; cases h4
    rw [if_neg hc2]
    simp only [Prod.mk.injEq, and_true] at h ⊢
    exact ⟨h.1, by rw [h.2]⟩
theorem setF_app : ∀ (n : Nat) (set : List (Nat × Nat)) (l : List Nat) (b : Bool) (S : List (Nat × Nat)) (l' : List Nat) (q : List Nat), setF n set l b = (S, l', false) → setF n set (l ++ q) b = (S, l' ++ q, false)
  | 0, _, _, _, _, _, _, h => by simp [setF] at h
  | n + 1, set, l, b, S, l', q, h => by
    rw [setF] at h ⊢
    cases b with
    | true => simp at h
    | false =>
      rw [if_neg (by simp)] at h ⊢
      cases hc : isC 93 0 l with
      | true =>
        rw [hc, if_pos rfl] at h
        rw [isC_app_t q hc, if_pos rfl]
        simp only [Prod.mk.injEq, and_true] at h ⊢
        exact ⟨h.1, by rw [h.2]⟩
      | false =>
        rw [hc, if_neg (by simp)] at h
        have hl : l ≠ [] := by
          rintro rfl
          have h1 : (spanS set.isEmpty [] false).2.2 = true := by cases set.isEmpty <;> rfl
          rw [h1] at h
          have := setF_bad n (set ++ [(spanS set.isEmpty [] false).1]) (spanS set.isEmpty [] false).2.1
          rw [h] at this
          cases this
        rw [isC_app q (List.length_pos_iff.2 hl), hc, if_neg (by simp)]
        have hsb : (spanS set.isEmpty l false).2.2 = false := by
          cases hsb : (spanS set.isEmpty l false).2.2 with
          | false => rfl
          | true =>
            rw [hsb] at h
            have := setF_bad n (set ++ [(spanS set.isEmpty l false).1]) (spanS set.isEmpty l false).2.1
            rw [h] at this
            cases this
        have hne : (unitS set.isEmpty l false).2.1 ≠ [] := by
          intro hu
          have hz : (spanS set.isEmpty l false).2.1 = [] := by
            unfold spanS
            dsimp only
            rw [hu, if_neg (by simp [isC])]
          rw [hz] at h
          have := setF_nil n (set ++ [(spanS set.isEmpty l false).1]) (spanS set.isEmpty l false).2.2
          rw [h] at this
          cases this
        have h1 : spanS set.isEmpty l false = ((spanS set.isEmpty l false).1, (spanS set.isEmpty l false).2.1, false) := eta3 _ hsb
        rw [spanS_app q h1 hne]
        dsimp only
        rw [hsb] at h
        exact setF_app n _ _ _ S l' q h
theorem setF_more : ∀ (n m : Nat) (set : List (Nat × Nat)) (l : List Nat) (b : Bool), l.length + 2 ≤ n + (if b = true then 1 else 0) → l.length + 2 ≤ m + (if b = true then 1 else 0) → setF n set l b = setF m set l b
  | 0, m, set, l, b, h, h2 => by cases b <;> simp at h
  | n + 1, 0, set, l, b, h, h2 => by cases b <;> simp at h2
  | n + 1, m + 1, set, l, b, h, h2 => by
    rw [setF, setF]
    split
    · rfl
    · rename_i hb
      rw [if_neg hb] at h h2
      split
      · rfl
      · have hb2 : b = false := by simpa using hb
        subst hb2
        have hle := spanS_le set.isEmpty l false
        refine setF_more n m _ _ _ ?_ ?_
        all_goals
          split
          · omega
          · rename_i hs
            have := hle.2 (by simpa using hs)
            omega
theorem setS_app {l l' : List Nat} {p : Pc} (q : List Nat) (h : setS l false = (p, l', false)) : setS (l ++ q) false = (p, l' ++ q, false) := by
  have h' := h
  unfold setS at h ⊢
  dsimp only at h ⊢
  simp only [Prod.mk.injEq, Bool.or_eq_false_iff] at h
  obtain ⟨h1, h2, h3, h4⟩ := h
  have hl : l ≠ [] := by
    rintro rfl
    have : (setF 2 [] [] false).2.2 = true := setF_nil _ _ _
    rw [show isC 94 0 [] = false from rfl, if_neg (by simp)] at h3
    dsimp only at h3
    rw [show ([] : List Nat).length + 2 = 2 from rfl, this, nx_bad] at h3
    cases h3
  have h0 : isC 94 0 (l ++ q) = isC 94 0 l := isC_app q (List.length_pos_iff.2 hl)
  rw [h0]
  have hd : ∃ l1 : List Nat, (if isC 94 0 l = true then (nx l false).2 else (l, false)) = (l1, false) ∧ (if isC 94 0 l = true then (nx (l ++ q) false).2 else (l ++ q, false)) = (l1 ++ q, false) ∧ l1.length ≤ l.length := by
    obtain ⟨c, l0, rfl⟩ := List.exists_cons_of_ne_nil hl
    split
    · exact ⟨l0, rfl, rfl, by simp⟩
    · exact ⟨c :: l0, rfl, rfl, Nat.le_refl _⟩
  obtain ⟨l1, e1, e2, e3⟩ := hd
  rw [e1] at h1 h2 h3 h4
  rw [e2]
  dsimp only at h1 h2 h3 h4 ⊢
  rw [setF_more _ ((l ++ q).length + 2) _ _ _ (by rw [if_neg (by simp)]; omega) (by rw [List.length_append, if_neg (by simp)]; omega)] at h1 h2 h3 h4
  generalize (l ++ q).length + 2 = n at *
  have hb : (setF n [] l1 false).2.2 = false := by
    cases hb : (setF n [] l1 false).2.2 with
    | false => rfl
    | true => rw [hb, nx_bad] at h3; cases h3
  have h6 := setF_app _ _ _ _ _ _ q (eta3 _ hb)
  rw [h6]
  dsimp only
  rw [hb] at h2 h3
  have h7 := nx_app q (eta3 _ h3)
  rw [h7]
  dsimp only
  rw [← h1, h2, h4]
  rfl
theorem oneS_app {l l' : List Nat} {p : Pc} (q : List Nat) (h : oneS l false = (p, l', false)) : oneS (l ++ q) false = (p, l' ++ q, false) := by
  rcases l with _ | ⟨c, l⟩
  · simp [oneS, nx] at h
  · unfold oneS at h ⊢
    rw [List.cons_append, show nx (c :: l) false = (c, l, false) from rfl] at *
    rw [show nx (c :: (l ++ q)) false = (c, l ++ q, false) from rfl]
    dsimp only at h ⊢
    by_cases h1 : c = 42
    · rw [if_pos h1] at h ⊢
      simp only [Prod.mk.injEq, and_true] at h ⊢
      exact ⟨h.1, by rw [h.2]⟩
    rw [if_neg h1] at h ⊢
    by_cases h2 : c = 63
    · rw [if_pos h2] at h ⊢
      simp only [Prod.mk.injEq, and_true] at h ⊢
      exact ⟨h.1, by rw [h.2]⟩
    rw [if_neg h2] at h ⊢
    by_cases h3 : c = 91
    · rw [if_pos h3] at h ⊢
      exact setS_app q h
    rw [if_neg h3] at h ⊢
    by_cases h4 : c = 92
    · rw [if_pos h4] at h ⊢
      simp only [Prod.mk.injEq] at h
      obtain ⟨h5, h6, h7⟩ := h
      rw [nx_app q (eta3 _ h7)]
      dsimp only
      rw [h5, h6]
    rw [if_neg h4] at h ⊢
    simp only [Prod.mk.injEq, and_true] at h ⊢
    exact ⟨h.1, by rw [h.2]⟩
theorem parse_app : ∀ (n : Nat) (l q : List Nat), l.length ≤ n → (parseL l).2 = false → parseL (l ++ q) = ((parseL l).1 ++ (parseL q).1, (parseL q).2)
  | n, [], q, _, _ => by rw [parseL_nil]; rfl
  | 0, c :: l, q, h, _ => by simp at h
  | n + 1, c :: l, q, h, hb => by
    have hle := oneS_le (c :: l) (by simp)
    have h1 : (oneS (c :: l) false).2.2 = false := by
      cases h1 : (oneS (c :: l) false).2.2 with
      | false => rfl
      | true => rw [parseL_cons, h1, parseF_bad] at hb; cases hb
    have h2 := eta3 _ h1
    have h3 := oneS_app q h2
    generalize (oneS (c :: l) false).1 = p at *
    generalize (oneS (c :: l) false).2.1 = l' at *
    rw [parseL_one h2] at hb ⊢
    rw [List.cons_append] at h3 ⊢
    rw [parseL_one h3]
    dsimp only at hb ⊢
    simp only [List.length_cons] at h hle
    rw [parse_app n l' q (by omega) hb]
    rfl
/-- [a-b] and [^a-b]. -/
theorem parse_set (a b : Nat) (h : a ≤ b) (ha : a ≠ 92 ∧ a ≠ 45 ∧ a ≠ 93 ∧ a ≠ 94) (hb : b ≠ 92 ∧ b ≠ 45 ∧ b ≠ 93) : parseL [91, a, 45, b, 93] = ([⟨3, 0, [(a, b)], false⟩], false) := by
  have hs : setS [a, 45, b, 93] false = (⟨3, 0, [(a, b)], false⟩, [], false) := by
    simp [setS, setF, spanS, unitS, isC, nx, ha.1, ha.2.1, ha.2.2.1, ha.2.2.2, hb.1, hb.2.1, hb.2.2, Nat.not_lt.2 h]
  have h1 : oneS [91, a, 45, b, 93] false = (⟨3, 0, [(a, b)], false⟩, [], false) := by
    unfold oneS
    rw [show nx [91, a, 45, b, 93] false = (91, [a, 45, b, 93], false) from rfl]
    dsimp only
    rw [if_neg (by omega), if_neg (by omega), if_pos rfl, hs]
  rw [parseL_one h1]
  rfl
theorem parse_set_no (a b : Nat) (h : a ≤ b) (ha : a ≠ 92 ∧ a ≠ 45 ∧ a ≠ 93 ∧ a ≠ 94) (hb : b ≠ 92 ∧ b ≠ 45 ∧ b ≠ 93) : parseL [91, 94, a, 45, b, 93] = ([⟨3, 0, [(a, b)], true⟩], false) := by
  have hs : setS [94, a, 45, b, 93] false = (⟨3, 0, [(a, b)], true⟩, [], false) := by
    simp [setS, setF, spanS, unitS, isC, nx, ha.1, ha.2.1, ha.2.2.1, hb.1, hb.2.1, hb.2.2, Nat.not_lt.2 h]
  have h1 : oneS [91, 94, a, 45, b, 93] false = (⟨3, 0, [(a, b)], true⟩, [], false) := by
    unfold oneS
    rw [show nx [91, 94, a, 45, b, 93] false = (91, [94, a, 45, b, 93], false) from rfl]
    dsimp only
    rw [if_neg (by omega), if_neg (by omega), if_pos rfl, hs]
  rw [parseL_one h1]
  rfl
end Go.Proofs.YthhhobfdlgmjlaaDoor

/- The heap's own order of events, a strict total order; what a pile is. Plain Lean. No condition. -/
import Derived.Test.YthhhobfdlgmjlaaDoorM20WholeRow
namespace Go.Proofs.YthhhobfdlgmjlaaDoor
open Go.RowKit

/-- A strict total order. -/
structure SO {α : Type} (lt : α → α → Bool) : Prop where
  irr : ∀ a, lt a a = false
  tr : ∀ a b c, lt a b = true → lt b c = true → lt a c = true
  tri : ∀ a b, lt a b = true ∨ a = b ∨ lt b a = true
theorem SO.asymm {α : Type} {lt : α → α → Bool} (h : SO lt) {a b : α} (hab : lt a b = true) : lt b a = false := by
  cases hb : lt b a with
  | false => rfl
  | true => have := h.tr _ _ _ hab hb; rw [h.irr] at this; cases this
/-- not less, and less or alike: a chain. -/
theorem SO.le_tr {α : Type} {lt : α → α → Bool} (h : SO lt) {a b c : α} (hab : lt b a = false) (hbc : lt c b = false) : lt c a = false := by
  cases hc : lt c a with
  | false => rfl
  | true =>
    rcases h.tri a b with h1 | h1 | h1
    · have := h.tr _ _ _ hc h1; rw [hbc] at this; cases this
    · subst h1; rw [hbc] at hc; cases hc
    · rw [hab] at h1; cases h1
theorem SO.lt_le {α : Type} {lt : α → α → Bool} (h : SO lt) {a b c : α} (hab : lt a b = true) (hbc : lt c b = false) : lt a c = true := by
  rcases h.tri b c with h1 | h1 | h1
  · exact h.tr _ _ _ hab h1
  · subst h1; exact hab
  · rw [hbc] at h1; cases h1
theorem SO.le_lt {α : Type} {lt : α → α → Bool} (h : SO lt) {a b c : α} (hab : lt b a = false) (hbc : lt b c = true) : lt a c = true := by
  rcases h.tri a b with h1 | h1 | h1
  · exact h.tr _ _ _ h1 hbc
  · subst h1; exact hbc
  · rw [hab] at h1; cases h1
theorem SO.pull {α β : Type} {lt : β → β → Bool} (h : SO lt) (f : α → β) (hf : ∀ a b, f a = f b → a = b) : SO (fun a b => lt (f a) (f b)) :=
  ⟨fun a => h.irr _, fun a b c => h.tr _ _ _, fun a b => by
    rcases h.tri (f a) (f b) with h1 | h1 | h1
    · exact .inl h1
    · exact .inr (.inl (hf _ _ h1))
    · exact .inr (.inr h1)⟩
def lexB {α β : Type} [DecidableEq α] (l1 : α → α → Bool) (l2 : β → β → Bool) (a b : α × β) : Bool := if a.1 = b.1 then l2 a.2 b.2 else l1 a.1 b.1
theorem SO.lex {α β : Type} [DecidableEq α] {l1 : α → α → Bool} {l2 : β → β → Bool} (h1 : SO l1) (h2 : SO l2) : SO (lexB l1 l2) := by
  refine ⟨fun a => ?_, fun a b c hab hbc => ?_, fun a b => ?_⟩
  · simp [lexB, h2.irr]
  · obtain ⟨a1, a2⟩ := a
    obtain ⟨b1, b2⟩ := b
    obtain ⟨c1, c2⟩ := c
    simp only [lexB] at *
    by_cases e1 : a1 = b1
    · subst e1
      rw [if_pos rfl] at hab
      by_cases e2 : a1 = c1
      · subst e2
        rw [if_pos rfl] at hbc ⊢
        exact h2.tr _ _ _ hab hbc
      · rw [if_neg e2] at hbc ⊢; exact hbc
    · rw [if_neg e1] at hab
      by_cases e2 : b1 = c1
      · subst e2; rw [if_neg e1]; exact hab
      · rw [if_neg e2] at hbc
        have h3 := h1.tr _ _ _ hab hbc
        rw [if_neg (by rintro rfl; rw [h1.irr] at h3; cases h3)]
        exact h3
  · obtain ⟨a1, a2⟩ := a
    obtain ⟨b1, b2⟩ := b
    simp only [lexB]
    by_cases e1 : a1 = b1
    · subst e1
      rw [if_pos rfl, if_pos rfl]
      rcases h2.tri a2 b2 with h | h | h
      · exact .inl h
      · subst h; exact .inr (.inl rfl)
      · exact .inr (.inr h)
    · rw [if_neg e1, if_neg (fun e => e1 e.symm)]
      rcases h1.tri a1 b1 with h | h | h
      · exact .inl h
      · exact absurd h e1
      · exact .inr (.inr h)
def ltI (a b : Int) : Bool := decide (a < b)
theorem SO.int : SO ltI := ⟨fun a => by simp [ltI], fun a b c => by simp only [ltI, decide_eq_true_eq]; omega, fun a b => by simp only [ltI, decide_eq_true_eq]; omega⟩
theorem SO.bl : SO Op.bytesLess := by
  refine ⟨fun a => ?_, fun a => ?_, fun a => ?_⟩
  · induction a with
    | nil => rfl
    | cons x l ih => simp [Op.bytesLess, ih]
  · induction a with
    | nil => intro b c hab hbc; cases b <;> cases c <;> simp_all [Op.bytesLess]
    | cons x l ih =>
      intro b c hab hbc
      rcases b with _ | ⟨y, b⟩
      · simp [Op.bytesLess] at hab
      · rcases c with _ | ⟨z, c⟩
        · simp [Op.bytesLess] at hbc
        · simp only [Op.bytesLess, Bool.or_eq_true, decide_eq_true_eq, Bool.and_eq_true, beq_iff_eq, UInt8.lt_iff_toNat_lt] at hab hbc ⊢
          rcases hab with h | ⟨rfl, h⟩
          · rcases hbc with k | ⟨rfl, k⟩
            · exact .inl (by omega)
            · exact .inl h
          · rcases hbc with k | ⟨rfl, k⟩
            · exact .inl k
            · exact .inr ⟨rfl, ih _ _ h k⟩
  · induction a with
    | nil => intro b; cases b <;> simp [Op.bytesLess]
    | cons x l ih =>
      intro b
      rcases b with _ | ⟨y, b⟩
      · simp [Op.bytesLess]
      · simp only [Op.bytesLess, Bool.or_eq_true, decide_eq_true_eq, Bool.and_eq_true, beq_iff_eq, UInt8.lt_iff_toNat_lt]
        rcases Nat.lt_trichotomy x.toNat y.toNat with h | h | h
        · exact .inl (.inl h)
        · have := UInt8.toNat_inj.1 h
          subst this
          rcases ih b with k | k | k
          · exact .inl (.inr ⟨rfl, k⟩)
          · subst k; exact .inr (.inl rfl)
          · exact .inr (.inr (.inr ⟨rfl, k⟩))
        · exact .inr (.inr (.inl h))
theorem toList_inj {a b : ByteArray} (h : a.toList = b.toList) : a = b := by
  have := bytes_beq a b
  rw [h] at this
  simpa using this.symm
theorem SO.bytes : SO ltS := SO.bl.pull ByteArray.toList fun _ _ h => toList_inj h
theorem SO.st : SO stLt := by
  have h := (SO.int.lex (SO.int.lex SO.int)).pull (fun s : St => (s.wall, s.logic, s.node)) (fun a b h => by cases a; cases b; simp_all)
  have e : (fun a b : St => lexB ltI (lexB ltI ltI) (a.wall, a.logic, a.node) (b.wall, b.logic, b.node)) = stLt := by
    funext a b
    simp only [lexB, stLt, ltI]
  rwa [e] at h
/-- The heap's own order: by the order of events, and by Data at last. -/
def fl (a b : Ev) : Bool :=
  if a.st = b.st then (if a.index = b.index then (if a.stream = b.stream then (if a.version = b.version then ltS a.data b.data else decide (a.version < b.version)) else ltS a.stream b.stream) else decide (a.index < b.index)) else stLt a.st b.st
theorem SO.fl : SO fl := by
  have h := (SO.st.lex (SO.int.lex (SO.bytes.lex (SO.int.lex SO.bytes)))).pull (fun e : Ev => (e.st, e.index, e.stream, e.version, e.data)) (fun a b h => by cases a; cases b; simp_all)
  have e : (fun a b : Ev => lexB stLt (lexB ltI (lexB ltS (lexB ltI ltS))) (a.st, a.index, a.stream, a.version, a.data) (b.st, b.index, b.stream, b.version, b.data)) = Proofs.YthhhobfdlgmjlaaDoor.fl := by
    funext a b
    simp only [lexB, Proofs.YthhhobfdlgmjlaaDoor.fl, ltI]
  rwa [e] at h
theorem evCmp_zero (a b : Ev) : evCmp a b = 0 ↔ a.st = b.st ∧ a.index = b.index ∧ a.stream = b.stream ∧ a.version = b.version := by
  unfold evCmp
  by_cases h1 : a.st = b.st
  · rw [h1, stLt_irrefl]
    simp only [orOf, cmpI_eq, cmpS_zero]
    by_cases h2 : a.index = b.index
    · by_cases h3 : a.stream = b.stream
      · by_cases h4 : a.version = b.version
        · simp [h2, h3, h4]
        · simp [h2, h3, h4, cmpI_eq]
      · simp [h2, h3, cmpS_zero]
    · simp [h2, cmpI_eq]
  · rcases stLt_tri a.st b.st with h | h | h
    · rw [h]; simp [h1]
    · exact absurd h h1
    · rw [stLt_asymm _ _ h, h]; simp [h1]
theorem or_two (x y : Int) : orOf [x, y] = if x = 0 then y else x := by
  simp only [orOf]
  split
  · split
    · rename_i h; exact h.symm
    · rfl
  · rfl
theorem least_fl (a b : Ev) : decide (orOf [evCmp a b, cmpS a.data b.data] < 0) = fl a b := by
  rw [or_two]
  by_cases h : evCmp a b = 0
  · rw [if_pos h]
    obtain ⟨h1, h2, h3, h4⟩ := (evCmp_zero a b).1 h
    have e : fl a b = ltS a.data b.data := by unfold fl; rw [if_pos h1, if_pos h2, if_pos h3, if_pos h4]
    rw [e]
    have := cmpS_lt a.data b.data
    cases hq : ltS a.data b.data with
    | false => rw [hq] at this; simpa using this
    | true => rw [hq] at this; simpa using this
  · rw [if_neg h, evCmp_lt]
    have h' : ¬ (a.st = b.st ∧ a.index = b.index ∧ a.stream = b.stream ∧ a.version = b.version) := fun e => h ((evCmp_zero a b).2 e)
    unfold evLt fl
    split
    · split
      · split
        · split
          · rename_i h1 h2 h3 h4; exact absurd ⟨h1, h2, h3, h4⟩ h'
          · rfl
        · rfl
      · rfl
    · rfl

/-- Is each element but the root not less than the one it hangs at? -/
def HeapOk (xs : List Ev) : Prop := ∀ (j : Nat) (a b : Ev), 0 < j → xs[j]? = some a → xs[(j - 1) / 2]? = some b → fl a b = false
theorem HeapOk.nil : HeapOk [] := fun j a b _ h => by simp at h
/-- Nothing is less than the root. -/
theorem HeapOk.root {xs : List Ev} (h : HeapOk xs) {r : Ev} (hr : xs[0]? = some r) : ∀ x ∈ xs, fl x r = false := by
  have key : ∀ (n j : Nat) (x : Ev), j ≤ n → xs[j]? = some x → fl x r = false := by
    intro n
    induction n with
    | zero =>
      intro j x hj hx
      obtain rfl : j = 0 := by omega
      rw [hr] at hx; cases hx; exact SO.fl.irr _
    | succ n ih =>
      intro j x hj hx
      by_cases h0 : j = 0
      · subst h0; rw [hr] at hx; cases hx; exact SO.fl.irr _
      · have hlt : j < xs.length := (List.getElem?_eq_some_iff.1 hx).1
        obtain ⟨p, hp⟩ : ∃ p, xs[(j - 1) / 2]? = some p := ⟨_, List.getElem?_eq_getElem (by omega)⟩
        have h1 := h j x p (by omega) hx hp
        have h2 := ih ((j - 1) / 2) p (by omega) hp
        exact SO.fl.le_tr h2 h1
  intro x hx
  obtain ⟨j, hj⟩ := List.getElem?_of_mem hx
  exact key j j x (Nat.le_refl _) hj
def swp (xs : List Ev) (i k : Nat) (a b : Ev) : List Ev := (xs.set i b).set k a
theorem swp_length (xs : List Ev) (i k : Nat) (a b : Ev) : (swp xs i k a b).length = xs.length := by simp [swp]
theorem swp_get {xs : List Ev} {i k : Nat} {a b : Ev} (hi : xs[i]? = some a) (hk : xs[k]? = some b) (j : Nat) : (swp xs i k a b)[j]? = if j = k then some a else if j = i then some b else xs[j]? := by
  have h1 := (List.getElem?_eq_some_iff.1 hi).1
  have h2 := (List.getElem?_eq_some_iff.1 hk).1
  unfold swp
  rw [List.getElem?_set, List.length_set, List.getElem?_set]
  by_cases e1 : k = j
  · subst e1; simp [h2]
  · have e1' : ¬ j = k := fun e => e1 e.symm
    by_cases e2 : i = j
    · subst e2; simp [h1, e1, e1']
    · have e2' : ¬ j = i := fun e => e2 e.symm
      simp [e1, e2, e1', e2']
theorem swp_mem {xs : List Ev} {i k : Nat} {a b : Ev} (hi : xs[i]? = some a) (hk : xs[k]? = some b) (x : Ev) : x ∈ swp xs i k a b ↔ x ∈ xs := by
  simp only [List.mem_iff_getElem?]
  constructor
  · rintro ⟨j, hj⟩
    rw [swp_get hi hk] at hj
    split at hj
    · cases hj; exact ⟨i, hi⟩
    · split at hj
      · cases hj; exact ⟨k, hk⟩
      · exact ⟨j, hj⟩
  · rintro ⟨j, hj⟩
    by_cases e1 : j = k
    · subst e1
      refine ⟨i, ?_⟩
      rw [swp_get hi hk]
      split
      · rename_i e; subst e; rw [hi] at hk; rw [hi] at hj; cases hj; rfl
      · rw [if_pos rfl]; rw [hk] at hj; exact hj
    · by_cases e2 : j = i
      · subst e2
        refine ⟨k, ?_⟩
        rw [swp_get hi hk, if_pos rfl]
        rw [hi] at hj; exact hj
      · exact ⟨j, by rw [swp_get hi hk, if_neg e1, if_neg e2]; exact hj⟩
/-- A pile that is right but, perhaps, for one place that may be too small. -/
def UpOk (xs : List Ev) (i : Nat) : Prop :=
  (∀ (j : Nat) (a b : Ev), 0 < j → j ≠ i → xs[j]? = some a → xs[(j - 1) / 2]? = some b → fl a b = false) ∧
  (0 < i → ∀ (j : Nat) (a b : Ev), 0 < j → (j - 1) / 2 = i → xs[j]? = some a → xs[(i - 1) / 2]? = some b → fl a b = false)
theorem UpOk.start {xs : List Ev} (h : HeapOk xs) (e : Ev) : UpOk (xs ++ [e]) xs.length := by
  have hin : ∀ (j : Nat) (a : Ev), (xs ++ [e])[j]? = some a → j ≠ xs.length → xs[j]? = some a := by
    intro j a ha hj
    have := (List.getElem?_eq_some_iff.1 ha).1
    rw [List.length_append, List.length_singleton] at this
    rwa [List.getElem?_append_left (by omega)] at ha
  refine ⟨fun j a b h0 hj ha hb => h j a b h0 (hin j a ha hj) (hin _ b hb ?_), fun _ j a b h0 hj ha _ => ?_⟩
  · have := (List.getElem?_eq_some_iff.1 ha).1
    rw [List.length_append, List.length_singleton] at this
    omega
  · have := (List.getElem?_eq_some_iff.1 ha).1
    rw [List.length_append, List.length_singleton] at this
    omega
theorem UpOk.root {xs : List Ev} (h : UpOk xs 0) : HeapOk xs := fun j a b h0 ha hb => h.1 j a b h0 (by omega) ha hb
theorem UpOk.stop {xs : List Ev} {i : Nat} (h : UpOk xs i) {a b : Ev} (ha : xs[i]? = some a) (hb : xs[(i - 1) / 2]? = some b) (hlt : fl a b = false) : HeapOk xs := by
  intro j x y h0 hx hy
  by_cases hj : j = i
  · subst hj; rw [ha] at hx; rw [hb] at hy; cases hx; cases hy; exact hlt
  · exact h.1 j x y h0 hj hx hy
theorem UpOk.go {xs : List Ev} {i : Nat} (h : UpOk xs i) (hi : 0 < i) {a b : Ev} (ha : xs[i]? = some a) (hb : xs[(i - 1) / 2]? = some b) (hlt : fl a b = true) : UpOk (swp xs i ((i - 1) / 2) a b) ((i - 1) / 2) := by
  have hne : (i - 1) / 2 ≠ i := by omega
  refine ⟨fun j x y h0 hj hx hy => ?_, fun hp j x y h0 hj hx hy => ?_⟩
  · rw [swp_get ha hb] at hx hy
    rw [if_neg hj] at hx
    by_cases e1 : j = i
    · subst e1
      rw [if_pos rfl] at hx hy
      cases hx; cases hy
      exact SO.fl.asymm hlt
    · rw [if_neg e1] at hx
      split at hy
      · rename_i e2
        cases hy
        have h3 := h.1 j x b h0 e1 hx (by rw [e2]; exact hb)
        cases h4 : fl x a with
        | false => rfl
        | true => have := SO.fl.tr _ _ _ h4 hlt; rw [h3] at this; cases this
      · split at hy
        · rename_i e2 e3
          cases hy
          exact h.2 hi j x b h0 e3 hx hb
        · exact h.1 j x y h0 e1 hx hy
  · rw [swp_get ha hb] at hx hy
    rw [if_neg (by omega), if_neg (by omega)] at hy
    have hq := h.1 ((i - 1) / 2) b y hp hne hb hy
    by_cases e1 : j = i
    · subst e1
      rw [if_neg (by omega), if_pos rfl] at hx
      cases hx
      exact hq
    · rw [if_neg (by omega), if_neg e1] at hx
      have h3 := h.1 j x b h0 e1 hx (by rw [hj]; exact hb)
      exact SO.fl.le_tr hq h3
/-- A pile that is right but, perhaps, for one place that may be too great. -/
def DnOk (xs : List Ev) (i : Nat) : Prop :=
  (∀ (j : Nat) (a b : Ev), 0 < j → (j - 1) / 2 ≠ i → xs[j]? = some a → xs[(j - 1) / 2]? = some b → fl a b = false) ∧
  (0 < i → ∀ (j : Nat) (a b : Ev), 0 < j → (j - 1) / 2 = i → xs[j]? = some a → xs[(i - 1) / 2]? = some b → fl a b = false)
theorem DnOk.leaf {xs : List Ev} {i : Nat} (h : DnOk xs i) (hl : xs.length ≤ 2 * i + 1) : HeapOk xs := by
  intro j a b h0 ha hb
  refine h.1 j a b h0 ?_ ha hb
  have := (List.getElem?_eq_some_iff.1 ha).1
  omega
theorem DnOk.stop {xs : List Ev} {i k : Nat} (h : DnOk xs i) {c r : Ev} (hr : xs[i]? = some r) (_hc : xs[k]? = some c) (hmin : ∀ (j : Nat) (x : Ev), 0 < j → (j - 1) / 2 = i → xs[j]? = some x → fl x c = false) (hlt : fl c r = false) : HeapOk xs := by
  intro j a b h0 ha hb
  by_cases hj : (j - 1) / 2 = i
  · rw [hj, hr] at hb
    cases hb
    exact SO.fl.le_tr hlt (hmin j a h0 hj ha)
  · exact h.1 j a b h0 hj ha hb
theorem DnOk.go {xs : List Ev} {i k : Nat} (h : DnOk xs i) {c r : Ev} (hr : xs[i]? = some r) (hc : xs[k]? = some c) (hk0 : 0 < k) (hk : (k - 1) / 2 = i) (hmin : ∀ (j : Nat) (x : Ev), 0 < j → (j - 1) / 2 = i → xs[j]? = some x → fl x c = false) (hlt : fl c r = true) :
    DnOk (swp xs i k r c) k := by
  have hne : i ≠ k := by omega
  refine ⟨fun j x y h0 hj hx hy => ?_, fun _ j x y h0 hj hx hy => ?_⟩
  · rw [swp_get hr hc] at hx hy
    rw [if_neg hj] at hy
    by_cases e1 : (j - 1) / 2 = i
    · rw [if_pos e1] at hy
      cases hy
      split at hx
      · cases hx; exact SO.fl.asymm hlt
      · rw [if_neg (by omega)] at hx
        exact hmin j x h0 e1 hx
    · rw [if_neg e1] at hy
      rw [if_neg (by rintro rfl; exact e1 hk)] at hx
      by_cases e2 : j = i
      · subst e2
        rw [if_pos rfl] at hx
        cases hx
        exact h.2 h0 k c y hk0 hk hc hy
      · rw [if_neg e2] at hx
        exact h.1 j x y h0 e1 hx hy
  · rw [swp_get hr hc] at hx hy
    rw [hk, if_neg hne, if_pos rfl] at hy
    cases hy
    rw [if_neg (by omega), if_neg (by omega)] at hx
    exact h.1 j x c h0 (by omega) hx (by rw [hj]; exact hc)
/-- The last one put at the root, and the row cut by one. -/
theorem DnOk.start {xs : List Ev} (h : HeapOk xs) (l : Ev) (hn : 0 < xs.length) : DnOk ((xs.set 0 l).take (xs.length - 1)) 0 := by
  refine ⟨fun j a b h0 hj ha hb => ?_, fun h0 => by omega⟩
  have hlt := (List.getElem?_eq_some_iff.1 ha).1
  rw [List.length_take, List.length_set] at hlt
  rw [List.getElem?_take_of_lt (by omega), List.getElem?_set_ne (by omega)] at ha hb
  exact h j a b h0 ha hb
theorem mem_popped {xs : List Ev} {r l : Ev} (hr : xs[0]? = some r) (hl : xs[xs.length - 1]? = some l) (x : Ev) : x ∈ xs ↔ x = r ∨ x ∈ (xs.set 0 l).take (xs.length - 1) := by
  have h0 := (List.getElem?_eq_some_iff.1 hr).1
  have hget : ∀ j, ((xs.set 0 l).take (xs.length - 1))[j]? = if j < xs.length - 1 then (if j = 0 then some l else xs[j]?) else none := by
    intro j
    rw [List.getElem?_take]
    split
    · rw [List.getElem?_set]
      by_cases e : 0 = j
      · subst e; simp [h0]
      · rw [if_neg e, if_neg (fun e2 => e e2.symm)]
    · rfl
  simp only [List.mem_iff_getElem?]
  constructor
  · rintro ⟨j, hj⟩
    have hlt := (List.getElem?_eq_some_iff.1 hj).1
    by_cases e0 : j = 0
    · subst e0; rw [hr] at hj; cases hj; exact .inl rfl
    · by_cases e1 : j = xs.length - 1
      · subst e1
        rw [hl] at hj
        refine .inr ⟨0, ?_⟩
        rw [hget, if_pos (by omega), if_pos rfl]; exact hj
      · refine .inr ⟨j, ?_⟩
        rw [hget, if_pos (by omega), if_neg e0]; exact hj
  · rintro (rfl | ⟨j, hj⟩)
    · exact ⟨0, hr⟩
    · rw [hget] at hj
      split at hj
      · split at hj
        · cases hj; exact ⟨_, hl⟩
        · exact ⟨j, hj⟩
      · cases hj
end Go.Proofs.YthhhobfdlgmjlaaDoor

/- What a quoted text is read as. Plain mathematics, no program. No condition. -/
import Derived.Test.YtjielocmjfmadaaDoorJoinLaw
namespace Go.Proofs.YtjielocmjfmadaaDoor
open Go.Lib

/-- A hex digit's value. -/
def digV (c : UInt8) : Option Nat := if 48 ≤ c.toNat ∧ c.toNat ≤ 57 then some (c.toNat - 48) else if 97 ≤ c.toNat ∧ c.toNat ≤ 102 then some (c.toNat - 87) else none
/-- What stands behind a backslash, and how many bytes that takes: by the program. -/
def escV : List UInt8 → Option (UInt8 × Nat)
  | [] => none
  | c :: l => if c = 34 ∨ c = 92 then some (c, 1) else if c = 110 then some (10, 1) else if c = 120 then
      (match l with
      | a :: b :: _ => (match digV a, digV b with
        | some x, some y => some (UInt8.ofNat (x * 16 + y), 3)
        | _, _ => none)
      | _ => none)
    else none
/-- The same by the document: any byte stands for itself. -/
def escR : List UInt8 → Option (UInt8 × Nat)
  | [] => none
  | c :: l => if c = 110 then some (10, 1) else if c = 120 then
      (match l with
      | a :: b :: _ => (match digV a, digV b with
        | some x, some y => some (UInt8.ofNat (x * 16 + y), 3)
        | _, _ => none)
      | _ => none)
    else some (c, 1)
/-- Bytes are read as others, or refused. -/
inductive Un (e : List UInt8 → Option (UInt8 × Nat)) : List UInt8 → Option (List UInt8) → Prop
  | nil : Un e [] (some [])
  | plain (c : UInt8) (l : List UInt8) (o : Option (List UInt8)) : c ≠ 92 → Un e l o → Un e (c :: l) (o.map (c :: ·))
  | no (l : List UInt8) : e l = none → Un e (92 :: l) none
  | esc (l : List UInt8) (x : UInt8) (k : Nat) (o : Option (List UInt8)) : e l = some (x, k) → Un e (l.drop k) o → Un e (92 :: l) (o.map (x :: ·))
theorem Un.one {e : List UInt8 → Option (UInt8 × Nat)} {l : List UInt8} {o o' : Option (List UInt8)} (h : Un e l o) (h' : Un e l o') : o = o' := by
  induction h generalizing o' with
  | nil => cases h'; rfl
  | plain c l o hc h ih =>
    cases h' with
    | plain _ _ o2 _ h2 => rw [ih h2]
    | no _ _ => exact absurd rfl hc
    | esc _ _ _ _ _ _ => exact absurd rfl hc
  | no l hl =>
    cases h' with
    | plain _ _ _ hc _ => exact absurd rfl hc
    | no _ _ => rfl
    | esc _ _ _ _ h1 _ => rw [hl] at h1; cases h1
  | esc l x k o h1 h ih =>
    cases h' with
    | plain _ _ _ hc _ => exact absurd rfl hc
    | no _ h2 => rw [h1] at h2; cases h2
    | esc _ x2 k2 o2 h3 h4 =>
      rw [h1] at h3
      cases h3
      rw [ih h4]
/-- What both take. -/
structure IsEsc (e : List UInt8 → Option (UInt8 × Nat)) : Prop where
  q : ∀ l, e (34 :: l) = some (34, 1)
  b : ∀ l, e (92 :: l) = some (92, 1)
  n : ∀ l, e (110 :: l) = some (10, 1)
  x : ∀ (a b : UInt8) (i j : Nat) (l : List UInt8), digV a = some i → digV b = some j → e (120 :: a :: b :: l) = some (UInt8.ofNat (i * 16 + j), 3)
theorem isEsc_V : IsEsc escV := ⟨fun _ => rfl, fun _ => rfl, fun _ => rfl, fun a b i j l ha hb => by simp [escV, ha, hb]⟩
theorem isEsc_R : IsEsc escR := ⟨fun _ => rfl, fun _ => rfl, fun _ => rfl, fun a b i j l ha hb => by simp [escR, ha, hb]⟩
theorem digV_hex : ∀ n : Fin 16, digV (hexC n.val) = some n.val := by decide
/-- A rune's bytes: itself, or none of them is a small one. -/
theorem bytes_big {r : Int} (h : 128 ≤ r) : ∀ b ∈ encodeRune r, 128 ≤ b.toNat := by
  have key : ∀ x ∈ encodeRuneZ r, 128 ≤ x ∧ x < 256 := by
    intro x hx
    refine ⟨?_, (encodeRuneZ_byte r x hx).2⟩
    by_cases h1 : r ≤ 2047
    · rw [encodeRuneZ_two h h1] at hx
      simp at hx
      omega
    · by_cases h2 : (2048 ≤ r ∧ r < 55296) ∨ (57343 < r ∧ r ≤ 65535)
      · rw [encodeRuneZ_three h2] at hx
        simp at hx
        omega
      · by_cases h3 : 65536 ≤ r ∧ r ≤ 1114111
        · rw [encodeRuneZ_four h3.1 h3.2] at hx
          simp at hx
          omega
        · rw [encodeRuneZ_bad (by omega)] at hx
          simp at hx
          omega
  intro b hb
  obtain ⟨x, hx, rfl⟩ := List.mem_map.1 hb
  have := key x hx
  simp
  omega
theorem encode_small {r : Nat} (h : r < 128) : encodeRune (r : Int) = [UInt8.ofNat r] := by
  unfold encodeRune
  rw [encodeRuneZ_one (by omega) (by omega)]
  simp
theorem Ck.ok.small {c : Ck} (h : c.ok) (hr : c.r < 128) : c.bs = [UInt8.ofNat c.r] := by
  rcases h with ⟨h, _⟩ | ⟨_, h, _⟩
  · unfold Ck.bad at h
    have := of_decide_eq_true h
    omega
  · rw [h, encode_small hr]
/-- A piece's bytes are small ones alone where it is one. -/
theorem Ck.ok.byte {c : Ck} (h : c.ok) {b : UInt8} (hb : b ∈ c.bs) : b.toNat = c.r ∧ c.bs = [b] ∨ 128 ≤ b.toNat := by
  by_cases hr : c.r < 128
  · have h1 := h.small hr
    rw [h1, List.mem_singleton] at hb
    subst hb
    left
    refine ⟨?_, h1⟩
    rw [UInt8.toNat_ofNat']
    omega
  · right
    rcases h with ⟨_, b', h, h2⟩ | ⟨_, h, _⟩
    · rw [h, List.mem_singleton] at hb
      subst hb
      exact h2
    · rw [h] at hb
      exact bytes_big (by omega) b hb
theorem un_plain {e : List UInt8 → Option (UInt8 × Nat)} {l o : List UInt8} (h : Un e l (some o)) : ∀ (bs : List UInt8), (∀ b ∈ bs, b ≠ 92) → Un e (bs ++ l) (some (bs ++ o))
  | [], _ => h
  | b :: bs, hb => .plain b _ (some (bs ++ o)) (hb b (by simp)) (un_plain h bs fun x hx => hb x (by simp [hx]))
theorem ofNat_self (b : UInt8) : UInt8.ofNat (b.toNat / 16 * 16 + b.toNat % 16) = b := by
  rw [show b.toNat / 16 * 16 + b.toNat % 16 = b.toNat by omega]
  simp
theorem un_piece {e : List UInt8 → Option (UInt8 × Nat)} (he : IsEsc e) {l o : List UInt8} (h : Un e l (some o)) {c : Ck} (hc : c.ok) : Un e (qPiece c ++ l) (some (c.bs ++ o)) := by
  unfold qPiece
  split
  · rename_i hr
    rw [hc.small (by omega), hr]
    exact .esc _ 34 1 (some o) (he.q l) h
  · split
    · rename_i hr
      rw [hc.small (by omega), hr]
      exact .esc _ 92 1 (some o) (he.b l) h
    · split
      · rename_i hr
        rw [hc.small (by omega), hr]
        exact .esc _ 10 1 (some o) (he.n l) h
      · rename_i h92 h10
        split
        · rename_i hs
          have h1 : ∃ b : UInt8, c.bs = [b] := by
            unfold Ck.esc at hs
            rcases hc with ⟨_, b, h1, _⟩ | ⟨h0, h1, _⟩
            · exact ⟨b, h1⟩
            · rw [h0, Bool.or_false] at hs
              unfold ctl at hs
              simp only [Bool.or_eq_true, decide_eq_true_eq] at hs
              rw [h1, encode_small (by omega)]
              exact ⟨_, rfl⟩
          obtain ⟨b, hb⟩ := h1
          have hb0 : c.b0 = b.toNat := by unfold Ck.b0; rw [hb]; rfl
          have hlt := b.toNat_lt
          rw [hb, hb0]
          have d1 := digV_hex ⟨b.toNat / 16, by omega⟩
          have d2 := digV_hex ⟨b.toNat % 16, by omega⟩
          have h3 := he.x _ _ _ _ l d1 d2
          rw [ofNat_self] at h3
          exact .esc _ b 3 (some o) h3 h
        · refine un_plain h _ fun b hb hb2 => ?_
          subst hb2
          rcases hc.byte hb with ⟨h1, _⟩ | h1
          · exact h92 h1.symm
          · simp at h1
theorem un_pieces {e : List UInt8 → Option (UInt8 × Nat)} (he : IsEsc e) : ∀ (cs : List Ck), (∀ c ∈ cs, c.ok) → Un e (cs.flatMap qPiece) (some (flat cs))
  | [], _ => .nil
  | c :: cs, h => by
    rw [List.flatMap_cons, flat_cons]
    exact un_piece he (un_pieces he cs fun x hx => h x (by simp [hx])) (h c (by simp))
/-- What stands between the quotes. -/
def quoteI (l : List UInt8) : List UInt8 := (cks l).flatMap qPiece
theorem un_quote {e : List UInt8 → Option (UInt8 × Nat)} (he : IsEsc e) (l : List UInt8) : Un e (quoteI l) (some l) := by
  have := un_pieces he (cks l) (cks_ok l)
  rwa [flat_cks] at this
theorem quoteL_eq (l : List UInt8) : quoteL l = 34 :: (quoteI l ++ [34]) := rfl
/-- What a quoted text is read as; or it is refused. -/
def Unq (s : List UInt8) (t : List UInt8) (ok : Bool) : Prop := (ok = true ∧ s = quoteL t) ∨ (ok = false ∧ t = [] ∧ ∀ u, s ≠ quoteL u)
theorem Unq.of_not {s : List UInt8} {t : List UInt8} {ok : Bool} (h : Unq s t ok) (hs : ∀ u, s ≠ quoteL u) : t = [] ∧ ok = false := by
  rcases h with ⟨_, h⟩ | ⟨h1, h2, _⟩
  · exact absurd h (hs t)
  · exact ⟨h2, h1⟩
theorem Unq.of_none {e : List UInt8 → Option (UInt8 × Nat)} (he : IsEsc e) {m t : List UInt8} {ok : Bool} (h : Unq (34 :: (m ++ [34])) t ok) (hm : Un e m none) : t = [] ∧ ok = false := by
  refine h.of_not fun u hu => ?_
  rw [quoteL_eq] at hu
  have hu : m = quoteI u := by simpa using hu
  rw [hu] at hm
  have := hm.one (un_quote he u)
  cases this
theorem Unq.of_some {e : List UInt8 → Option (UInt8 × Nat)} (he : IsEsc e) {m t acc : List UInt8} {ok : Bool} (h : Unq (34 :: (m ++ [34])) t ok) (hm : Un e m (some acc)) :
    (quoteL acc = 34 :: (m ++ [34]) ∧ t = acc ∧ ok = true) ∨ (quoteL acc ≠ 34 :: (m ++ [34]) ∧ t = [] ∧ ok = false) := by
  have key : ∀ u, 34 :: (m ++ [34]) = quoteL u → acc = u := fun u hu => by
    rw [quoteL_eq] at hu
    have hu : m = quoteI u := by simpa using hu
    rw [hu] at hm
    have := hm.one (un_quote he u)
    simpa using this
  rcases h with ⟨h1, h2⟩ | ⟨h1, h2, h3⟩
  · have := key t h2
    subst this
    exact .inl ⟨h2.symm, rfl, h1⟩
  · exact .inr ⟨fun hq => h3 acc hq.symm, h2, h1⟩
theorem unq_quote (l : List UInt8) : Unq (quoteL l) l true := .inl ⟨rfl, rfl⟩
theorem unq_is (s : List UInt8) : ∃ t ok, Unq s t ok := by
  by_cases h : ∃ u, s = quoteL u
  · obtain ⟨u, hu⟩ := h
    exact ⟨u, true, .inl ⟨rfl, hu⟩⟩
  · exact ⟨[], false, .inr ⟨rfl, rfl, fun u hu => h ⟨u, hu⟩⟩⟩
/-- A list that is no text between quotes. -/
theorem Unq.short {s t : List UInt8} {ok : Bool} (h : Unq s t ok) (hs : s.length < 2 ∨ s.head? ≠ some 34 ∨ s.getLast? ≠ some 34) : t = [] ∧ ok = false := by
  refine h.of_not fun u hu => ?_
  subst hu
  rw [quoteL_eq] at hs
  rcases hs with hs | hs | hs
  · rw [List.length_cons, List.length_append, List.length_singleton] at hs
    omega
  · exact hs rfl
  · apply hs
    rw [List.getLast?_cons]
    simp
/-- The step of a reader: what was read so far stays ahead. -/
def Ahead (e : List UInt8 → Option (UInt8 × Nat)) (m acc rest : List UInt8) : Prop := ∀ o, Un e rest o → Un e m (o.map (acc ++ ·))
theorem Ahead.start (e : List UInt8 → Option (UInt8 × Nat)) (m : List UInt8) : Ahead e m [] m := fun o h => by
  have : o.map (([] : List UInt8) ++ ·) = o := by cases o <;> simp
  rw [this]; exact h
theorem Ahead.plain {e : List UInt8 → Option (UInt8 × Nat)} {m acc rest : List UInt8} {c : UInt8} (h : Ahead e m acc (c :: rest)) (hc : c ≠ 92) : Ahead e m (acc ++ [c]) rest := fun o ho => by
  have := h _ (.plain c rest o hc ho)
  rw [Option.map_map] at this
  have e2 : (o.map ((fun x => acc ++ x) ∘ fun x => c :: x)) = o.map (acc ++ [c] ++ ·) := by cases o <;> simp
  rw [e2] at this
  exact this
theorem Ahead.esc {e : List UInt8 → Option (UInt8 × Nat)} {m acc rest : List UInt8} {x : UInt8} {k : Nat} (h : Ahead e m acc (92 :: rest)) (he : e rest = some (x, k)) : Ahead e m (acc ++ [x]) (rest.drop k) := fun o ho => by
  have := h _ (.esc rest x k o he ho)
  rw [Option.map_map] at this
  have e2 : (o.map ((fun y => acc ++ y) ∘ fun y => x :: y)) = o.map (acc ++ [x] ++ ·) := by cases o <;> simp
  rw [e2] at this
  exact this
theorem Ahead.no {e : List UInt8 → Option (UInt8 × Nat)} {m acc rest : List UInt8} (h : Ahead e m acc (92 :: rest)) (he : e rest = none) : Un e m none := h none (.no rest he)
theorem Ahead.over {e : List UInt8 → Option (UInt8 × Nat)} {m acc : List UInt8} (h : Ahead e m acc []) : Un e m (some acc) := by simpa using h _ .nil
end Go.Proofs.YtjielocmjfmadaaDoor

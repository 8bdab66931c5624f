/- What a quoted text is made of; what a cut text is. Plain mathematics, no program. No condition. -/
import Derived.Test.YtjielocmjfmadaaDoorRefQuote
namespace Go.Proofs.YtjielocmjfmadaaDoor
open Go.Lib

/-- Bytes that are shown, each quote of which stands behind a backslash. -/
def Fine (L : List UInt8) : Prop := ∀ (j : Nat) (b : UInt8), L[j]? = some b → 32 ≤ b.toNat ∧ b.toNat ≠ 127 ∧ (b.toNat = 34 → ∃ i, j = i + 1 ∧ L[i]? = some 92)
theorem Fine.app {A B : List UInt8} (ha : Fine A) (hb : Fine B) : Fine (A ++ B) := by
  intro j b h
  rcases Nat.lt_or_ge j A.length with hj | hj
  · rw [List.getElem?_append_left hj] at h
    obtain ⟨h1, h2, h3⟩ := ha j b h
    refine ⟨h1, h2, fun h4 => ?_⟩
    obtain ⟨i, rfl, h5⟩ := h3 h4
    exact ⟨i, rfl, by rw [List.getElem?_append_left (by omega)]; exact h5⟩
  · rw [List.getElem?_append_right hj] at h
    obtain ⟨h1, h2, h3⟩ := hb _ b h
    refine ⟨h1, h2, fun h4 => ?_⟩
    obtain ⟨i, h6, h5⟩ := h3 h4
    exact ⟨i + A.length, by omega, by rw [List.getElem?_append_right (by omega), Nat.add_sub_cancel]; exact h5⟩
theorem Fine.nil : Fine [] := fun j b h => by simp at h
theorem Fine.of {L : List UInt8} (h : ∀ b ∈ L, 32 ≤ b.toNat ∧ b.toNat ≠ 127 ∧ b.toNat ≠ 34) : Fine L := fun j b hb => by
  obtain ⟨h1, h2, h3⟩ := h b (List.mem_of_getElem? hb)
  exact ⟨h1, h2, fun h => absurd h h3⟩
theorem hex_fine : ∀ n : Fin 16, 32 ≤ (hexC n.val).toNat ∧ (hexC n.val).toNat ≠ 127 ∧ (hexC n.val).toNat ≠ 34 := by decide
theorem fine_piece {c : Ck} (hc : c.ok) : Fine (qPiece c) := by
  unfold qPiece
  split
  · intro j b hb
    rcases j with _ | _ | j
    · simp at hb; subst hb; exact ⟨by decide, by decide, fun h => absurd h (by decide)⟩
    · simp at hb; subst hb; exact ⟨by decide, by decide, fun _ => ⟨0, rfl, rfl⟩⟩
    · simp at hb
  · rename_i h34
    split
    · exact Fine.of (by decide)
    · split
      · exact Fine.of (by decide)
      · split
        · have hlt : c.b0 < 256 := by unfold Ck.b0; exact UInt8.toNat_lt _
          have h1 := hex_fine ⟨c.b0 / 16, by omega⟩
          have h2 := hex_fine ⟨c.b0 % 16, by omega⟩
          refine Fine.of fun b hb => ?_
          simp only [List.mem_cons, List.not_mem_nil, or_false] at hb
          rcases hb with rfl | rfl | rfl | rfl
          · decide
          · decide
          · exact h1
          · exact h2
        · rename_i hesc
          refine Fine.of fun b hb => ?_
          rcases hc.byte hb with ⟨h1, _⟩ | h1
          · unfold Ck.esc ctl at hesc
            simp only [Bool.or_eq_true, decide_eq_true_eq, not_or] at hesc
            omega
          · have := b.toNat_lt
            have hb0 : (decide (c.b0 < 32) || decide (c.b0 = 127)) = false := by
              cases hq : (decide (c.b0 < 32) || decide (c.b0 = 127)) with
              | false => rfl
              | true => rw [esc_eq hc, hq, Bool.or_true] at hesc; exact absurd rfl hesc
            omega
theorem fine_pieces : ∀ (cs : List Ck), (∀ c ∈ cs, c.ok) → Fine (cs.flatMap qPiece)
  | [], _ => Fine.nil
  | c :: cs, h => by
    rw [List.flatMap_cons]
    exact (fine_piece (h c (by simp))).app (fine_pieces cs fun x hx => h x (by simp [hx]))
theorem quote_fine (l : List UInt8) (k : Nat) (b : UInt8) (h : (quoteL l)[k]? = some b) :
    32 ≤ b.toNat ∧ b.toNat ≠ 127 ∧ (b.toNat = 34 → k = 0 ∨ k + 1 = (quoteL l).length ∨ ∃ j, k = j + 1 ∧ (quoteL l)[j]? = some 92) := by
  have hf := fine_pieces (cks l) (cks_ok l)
  unfold quoteL at h ⊢
  generalize (cks l).flatMap qPiece = m at *
  rcases k with _ | k
  · simp at h; subst h
    exact ⟨by decide, by decide, fun _ => .inl rfl⟩
  · rw [List.getElem?_cons_succ] at h
    rcases Nat.lt_or_ge k m.length with hk | hk
    · rw [List.getElem?_append_left hk] at h
      obtain ⟨h1, h2, h3⟩ := hf k b h
      refine ⟨h1, h2, fun h4 => .inr (.inr ?_)⟩
      obtain ⟨i, rfl, h5⟩ := h3 h4
      refine ⟨i + 1, rfl, ?_⟩
      rw [List.getElem?_cons_succ, List.getElem?_append_left (by omega)]
      exact h5
    · rw [List.getElem?_append_right hk] at h
      have hkm : k = m.length := by
        have := (List.getElem?_eq_some_iff.1 h).1
        simp at this
        omega
      subst hkm
      rw [Nat.sub_self] at h
      simp at h; subst h
      exact ⟨by decide, by decide, fun _ => .inr (.inl (by simp))⟩
/-- A piece's bytes are that piece alone. -/
theorem cks_one (l : List UInt8) : ∀ c ∈ cks l, cks c.bs = [c] := by
  induction l using cks_ind with
  | h0 => intro c hc; cases hc
  | hs l h ih =>
    intro c hc
    rw [cks_step h] at hc
    rcases List.mem_cons.1 hc with rfl | hc
    · have hle := decodeL_le l h
      have hw := decodeL_width l
      have hlen : (l.take (decodeL l).2).length = (decodeL l).2 := by rw [List.length_take, Nat.min_eq_left hle]
      have hne : l.take (decodeL l).2 ≠ [] := by
        intro e
        have := congrArg List.length e
        rw [hlen] at this
        simp at this
        omega
      have hd : decodeL (l.take (decodeL l).2) = decodeL l := by
        have := decodeL_app hne (l.drop (decodeL l).2)
        rw [List.take_append_drop] at this
        rcases this with h1 | ⟨h1, _⟩
        · exact h1.symm
        · omega
      show cks (l.take (decodeL l).2) = _
      rw [cks_step hne, hd, List.drop_of_length_le (by omega), cks_nil, List.take_of_length_le (by omega)]
    · exact ih c hc
theorem good_nil : goodL [] := fun c hc => by cases hc
theorem good_ascii : ∀ l : List UInt8, (∀ b ∈ l, b.toNat < 128) → goodL l
  | [], _ => good_nil
  | b :: l, h => by
    have hb := h b (by simp)
    have e : decodeL (b :: l) = (b.toNat, 1) := by
      rw [decodeL_N]
      exact decodeN_ascii _ _ _ _ _ (by simpa using hb)
    intro c hc
    rw [cks_step (by simp), e] at hc
    rcases List.mem_cons.1 hc with rfl | hc
    · unfold Ck.bad
      exact decide_eq_false (fun h => by have h1 := h.1; dsimp only at h1; omega)
    · exact good_ascii l (fun x hx => h x (by simp [hx])) c (by simpa using hc)
theorem hex_ascii : ∀ n : Fin 16, (hexC n.val).toNat < 128 := by decide
theorem good_piece {l : List UInt8} {c : Ck} (hc : c ∈ cks l) : goodL (qPiece c) := by
  have hok := cks_ok l c hc
  unfold qPiece
  split
  · exact good_ascii _ (by decide)
  · split
    · exact good_ascii _ (by decide)
    · split
      · exact good_ascii _ (by decide)
      · split
        · have hlt : c.b0 < 256 := by unfold Ck.b0; exact UInt8.toNat_lt _
          have h1 := hex_ascii ⟨c.b0 / 16, by omega⟩
          have h2 := hex_ascii ⟨c.b0 % 16, by omega⟩
          refine good_ascii _ fun b hb => ?_
          simp only [List.mem_cons, List.not_mem_nil, or_false] at hb
          rcases hb with rfl | rfl | rfl | rfl
          · decide
          · decide
          · exact h1
          · exact h2
        · rename_i hesc
          intro x hx
          rw [cks_one l c hc, List.mem_singleton] at hx
          subst hx
          unfold Ck.esc at hesc
          cases hb : x.bad with
          | false => rfl
          | true => rw [hb, Bool.or_true] at hesc; exact absurd rfl hesc
theorem good_pieces {l : List UInt8} : ∀ (cs : List Ck), (∀ c ∈ cs, c ∈ cks l) → goodL (cs.flatMap qPiece)
  | [], _ => good_nil
  | c :: cs, h => by
    rw [List.flatMap_cons]
    exact goodL_app (good_piece (h c (by simp))) (good_pieces cs fun x hx => h x (by simp [hx]))
theorem good_quote (l : List UInt8) : goodL (quoteL l) := by
  unfold quoteL
  exact goodL_app (a := [34]) (good_ascii _ (by decide)) (goodL_app (good_pieces (l := l) _ fun _ h => h) (good_ascii _ (by decide)))
theorem valid_quote (l : List UInt8) : validB (strOf (quoteL l)) = true := (goodL_iff _).2 (by rw [strOf_list]; exact good_quote l)
/-- The first runes of a text, as a text, are those runes. -/
theorem cks_take (l : List UInt8) : ∀ k, cks (l.take (off l k)) = (cks l).take k := by
  induction l using cks_ind with
  | h0 => intro k; simp [cks_nil]
  | hs l h ih =>
    intro k
    cases k with
    | zero => simp [off_zero, cks_nil]
    | succ k =>
      have hle := decodeL_le l h
      have hw := decodeL_width l
      have e : off l (k + 1) = (decodeL l).2 + off (l.drop (decodeL l).2) k := by
        unfold off
        rw [cks_step h, List.take_succ_cons, flat_cons, List.length_append, List.length_take, Nat.min_eq_left hle]
      have hol := off_le l (k + 1)
      have hlen : (l.take (off l (k + 1))).length = off l (k + 1) := by rw [List.length_take, Nat.min_eq_left hol]
      have hne : l.take (off l (k + 1)) ≠ [] := by
        intro e2
        have := congrArg List.length e2
        rw [hlen] at this
        simp at this
        omega
      have hd : decodeL (l.take (off l (k + 1))) = decodeL l := by
        have := decodeL_app hne (l.drop (off l (k + 1)))
        rw [List.take_append_drop] at this
        rcases this with h1 | ⟨h1, _⟩
        · exact h1.symm
        · omega
      rw [cks_step hne, hd, cks_step h, List.take_succ_cons, ← ih k]
      congr 1
      · rw [List.take_take, Nat.min_eq_left (by omega)]
      · rw [e, List.drop_take, Nat.add_sub_cancel_left]
end Go.Proofs.YtjielocmjfmadaaDoor

/- What a text's pieces are made of. Plain mathematics, no program. No condition. -/
import Derived.Test.YtilfgafdkiaaaaaDoorAppLaw
namespace Go.Proofs.YtilfgafdkiaaaaaDoor
open Go.Lib

/-- A rune's bytes: itself, or none of them is a small one. -/
theorem bytes_big {r : Int} (h : 128 ≤ r) : ∀ b ∈ encodeRune r, 128 ≤ b.toNat := by
  have key : ∀ x ∈ encodeRuneZ r, 128 ≤ x ∧ x < 256 := by
    intro x hx
    refine ⟨?_, (encodeRuneZ_byte r x hx).2⟩
    by_cases h1 : r ≤ 2047
    · rw [encodeRuneZ_two h h1] at hx
      simp at hx
      omega
    · by_cases h2 : (2048 ≤ r ∧ r < 55296) ∨ (57343 < r ∧ r ≤ 65535)
      · rw [encodeRuneZ_three h2] at hx
        simp at hx
        omega
      · by_cases h3 : 65536 ≤ r ∧ r ≤ 1114111
        · rw [encodeRuneZ_four h3.1 h3.2] at hx
          simp at hx
          omega
        · rw [encodeRuneZ_bad (by omega)] at hx
          simp at hx
          omega
  intro b hb
  obtain ⟨x, hx, rfl⟩ := List.mem_map.1 hb
  have := key x hx
  simp
  omega
theorem encode_small {r : Nat} (h : r < 128) : encodeRune (r : Int) = [UInt8.ofNat r] := by
  unfold encodeRune
  rw [encodeRuneZ_one (by omega) (by omega)]
  simp
theorem Ck.ok.small {c : Ck} (h : c.ok) (hr : c.r < 128) : c.bs = [UInt8.ofNat c.r] := by
  rcases h with ⟨h, _⟩ | ⟨_, h, _⟩
  · unfold Ck.bad at h
    have := of_decide_eq_true h
    omega
  · rw [h, encode_small hr]
/-- A piece's bytes are small ones alone where it is one. -/
theorem Ck.ok.byte {c : Ck} (h : c.ok) {b : UInt8} (hb : b ∈ c.bs) : b.toNat = c.r ∧ c.bs = [b] ∨ 128 ≤ b.toNat := by
  by_cases hr : c.r < 128
  · have h1 := h.small hr
    rw [h1, List.mem_singleton] at hb
    subst hb
    left
    refine ⟨?_, h1⟩
    rw [UInt8.toNat_ofNat']
    omega
  · right
    rcases h with ⟨_, b', h, h2⟩ | ⟨_, h, _⟩
    · rw [h, List.mem_singleton] at hb
      subst hb
      exact h2
    · rw [h] at hb
      exact bytes_big (by omega) b hb
/-- Texts without a bad byte are their runes. -/
theorem bs_of_good {c : Ck} (h : c.ok) (hb : c.bad = false) : c.bs = encodeRune (c.r : Int) := by
  rcases h with ⟨h, _⟩ | ⟨_, h, _⟩
  · rw [hb] at h; cases h
  · exact h
theorem runes_inj {a b : List UInt8} (ha : goodL a) (hb : goodL b) (h : (cks a).map Ck.r = (cks b).map Ck.r) : a = b := by
  have key : ∀ (x y : List Ck), (∀ c ∈ x, c.ok ∧ c.bad = false) → (∀ c ∈ y, c.ok ∧ c.bad = false) → x.map Ck.r = y.map Ck.r → x = y := by
    intro x
    induction x with
    | nil =>
      intro y _ _ h
      cases y with
      | nil => rfl
      | cons c y => simp at h
    | cons c x ih =>
      intro y hx hy h
      cases y with
      | nil => simp at h
      | cons d y =>
        simp only [List.map_cons, List.cons.injEq] at h
        have h1 := bs_of_good (hx c (by simp)).1 (hx c (by simp)).2
        have h2 := bs_of_good (hy d (by simp)).1 (hy d (by simp)).2
        rw [ih y (fun z hz => hx z (by simp [hz])) (fun z hz => hy z (by simp [hz])) h.2]
        congr 1
        cases c; cases d
        simp only at h h1 h2
        rw [Ck.mk.injEq]
        exact ⟨by rw [h1, h2, h.1], h.1⟩
  have h1 := key (cks a) (cks b) (fun c hc => ⟨cks_ok a c hc, ha c hc⟩) (fun c hc => ⟨cks_ok b c hc, hb c hc⟩) h
  rw [← flat_cks a, ← flat_cks b, h1]
end Go.Proofs.YtilfgafdkiaaaaaDoor

/- What begins with, ends with, has a text, by bytes and by runes. Plain mathematics, no program. No condition. -/
import Derived.Test.YtngpbochhabhkaaDoorCkLaw
namespace Go.Proofs.YtngpbochhabhkaaDoor
open Go.Lib

/-- A byte that is no first one stands at no rune's beginning; every other one does. -/
theorem boundary (l : List UInt8) : ∀ p, p < l.length → (l.getD p 0).toNat / 64 ≠ 2 → ∃ k, off l k = p := by
  induction l using cks_ind with
  | h0 => intro p hp; simp at hp
  | hs l h ih =>
    intro p hp hc
    have hle := decodeL_le l h
    by_cases h0 : p = 0
    · exact ⟨0, by rw [off_zero, h0]⟩
    · by_cases hw : p < (decodeL l).2
      · exact absurd (width_cont l p (by omega) hw) hc
      · obtain ⟨k, hk⟩ := ih (p - (decodeL l).2) (by rw [List.length_drop]; omega) (by
          have e : (l.drop (decodeL l).2).getD (p - (decodeL l).2) 0 = l.getD p 0 := by
            rw [List.getD_eq_getElem?_getD, List.getD_eq_getElem?_getD, List.getElem?_drop]
            congr 2
            omega
          rw [e]
          exact hc)
        refine ⟨k + 1, ?_⟩
        have e : off l (k + 1) = (decodeL l).2 + off (l.drop (decodeL l).2) k := by
          unfold off
          rw [cks_step h, List.take_succ_cons, flat_cons, List.length_append, List.length_take, Nat.min_eq_left hle]
        rw [e, hk]
        omega
theorem first_lead {s : List UInt8} (h : goodL s) (hn : s ≠ []) : (s.getD 0 0).toNat / 64 ≠ 2 := by
  obtain ⟨x, t, rfl⟩ := List.exists_cons_of_ne_nil hn
  intro hc
  have h1 := cks_cont (x := x) (t := t) (by simpa using hc)
  have h2 := h ⟨[x], 65533⟩ (by rw [h1]; simp)
  simp [Ck.bad] at h2
/-- Where a text has another one, its runes have that one's. -/
theorem runes_of_bytes {t x s y : List UInt8} (ht : goodL t) (hs : goodL s) (h : t = x ++ (s ++ y)) : ∃ a b, (cks t).map Ck.r = a ++ ((cks s).map Ck.r ++ b) ∧ (y = [] → b = []) := by
  by_cases hn : s = []
  · subst hn
    by_cases hy : y = []
    · exact ⟨(cks t).map Ck.r, [], by simp [cks_nil], fun _ => rfl⟩
    · exact ⟨[], (cks t).map Ck.r, by simp [cks_nil], fun e => absurd e hy⟩
  · have hl := List.length_pos_iff.2 hn
    have hd : t.drop x.length = s ++ y := by rw [h, List.drop_left]
    have hp : (t.getD x.length 0).toNat / 64 ≠ 2 := by
      have e : t.getD x.length 0 = s.getD 0 0 := by
        rw [h, List.getD_eq_getElem?_getD, List.getElem?_append_right (Nat.le_refl _), Nat.sub_self, List.getElem?_append_left hl, List.getD_eq_getElem?_getD]
      rw [e]
      exact first_lead hs hn
    obtain ⟨k, hk⟩ := boundary t x.length (by rw [h]; simp; omega) hp
    have h1 := cks_drop t k
    rw [hk, hd, cks_app hs] at h1
    refine ⟨((cks t).take k).map Ck.r, (cks y).map Ck.r, ?_, fun e => by rw [e]; rfl⟩
    rw [← List.map_append, h1, ← List.map_append, List.take_append_drop]
/-- Pieces with the same runes, none of them bad, are the same. -/
theorem pieces_inj : ∀ (x y : List Ck), (∀ c ∈ x, c.ok ∧ c.bad = false) → (∀ c ∈ y, c.ok ∧ c.bad = false) → x.map Ck.r = y.map Ck.r → x = y
  | [], [], _, _, _ => rfl
  | [], c :: y, _, _, h => by simp at h
  | c :: x, [], _, _, h => by simp at h
  | c :: x, d :: y, hx, hy, h => by
    simp only [List.map_cons, List.cons.injEq] at h
    have h1 := bs_of_good (hx c (by simp)).1 (hx c (by simp)).2
    have h2 := bs_of_good (hy d (by simp)).1 (hy d (by simp)).2
    rw [pieces_inj x y (fun z hz => hx z (by simp [hz])) (fun z hz => hy z (by simp [hz])) h.2]
    congr 1
    cases c; cases d
    simp only at h h1 h2
    rw [Ck.mk.injEq]
    exact ⟨by rw [h1, h2, h.1], h.1⟩
theorem bytes_of_runes {t s : List UInt8} {a b : List Nat} (ht : goodL t) (hs : goodL s) (h : (cks t).map Ck.r = a ++ ((cks s).map Ck.r ++ b)) : ∃ x y, t = x ++ (s ++ y) ∧ (a = [] → x = []) ∧ (b = [] → y = []) := by
  obtain ⟨ca, c2, e1, ea, e2⟩ := List.map_eq_append_iff.1 h
  obtain ⟨cs, cb, e3, e4, eb⟩ := List.map_eq_append_iff.1 e2
  have hok : ∀ c ∈ cks t, c.ok ∧ c.bad = false := fun c hc => ⟨cks_ok t c hc, ht c hc⟩
  have hcs : cs = cks s := pieces_inj cs (cks s) (fun c hc => hok c (by rw [e1, e3]; simp [hc])) (fun c hc => ⟨cks_ok s c hc, hs c hc⟩) e4
  refine ⟨flat ca, flat cb, ?_, fun e => ?_, fun e => ?_⟩
  · rw [← flat_cks t, e1, e3, flat_append, flat_append, hcs, flat_cks]
  · rw [← ea] at e
    rw [List.map_eq_nil_iff.1 e]; rfl
  · rw [← eb] at e
    rw [List.map_eq_nil_iff.1 e]; rfl
end Go.Proofs.YtngpbochhabhkaaDoor

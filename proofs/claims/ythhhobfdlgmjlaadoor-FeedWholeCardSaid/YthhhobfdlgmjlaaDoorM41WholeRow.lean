/- Several texts in one: CkLaw, AllLaw. -/
import Derived.Test.YthhhobfdlgmjlaaDoorM40WholeRow
import Derived.Test.YthhhobfdlgmjlaaDoorM6WholeRow
import Derived.Test.YthhhobfdlgmjlaaDoorM31WholeRow
/- What a text's pieces are made of. Plain mathematics, no program. No condition. -/
namespace Go.Proofs.YthhhobfdlgmjlaaDoor
open Go.Lib

/-- A rune's bytes: itself, or none of them is a small one. -/
theorem bytes_big {r : Int} (h : 128 ≤ r) : ∀ b ∈ encodeRune r, 128 ≤ b.toNat := by
  have key : ∀ x ∈ encodeRuneZ r, 128 ≤ x ∧ x < 256 := by
    intro x hx
    refine ⟨?_, (encodeRuneZ_byte r x hx).2⟩
    by_cases h1 : r ≤ 2047
    · rw [encodeRuneZ_two h h1] at hx
      simp at hx
      omega
    · by_cases h2 : (2048 ≤ r ∧ r < 55296) ∨ (57343 < r ∧ r ≤ 65535)
      · rw [encodeRuneZ_three h2] at hx
        simp at hx
        omega
      · by_cases h3 : 65536 ≤ r ∧ r ≤ 1114111
        · rw [encodeRuneZ_four h3.1 h3.2] at hx
          simp at hx
          omega
        · rw [encodeRuneZ_bad (by omega)] at hx
          simp at hx
          omega
  intro b hb
  obtain ⟨x, hx, rfl⟩ := List.mem_map.1 hb
  have := key x hx
  simp
  omega
theorem encode_small {r : Nat} (h : r < 128) : encodeRune (r : Int) = [UInt8.ofNat r] := by
  unfold encodeRune
  rw [encodeRuneZ_one (by omega) (by omega)]
  simp
theorem Ck.ok.small {c : Ck} (h : c.ok) (hr : c.r < 128) : c.bs = [UInt8.ofNat c.r] := by
  rcases h with ⟨h, _⟩ | ⟨_, h, _⟩
  · unfold Ck.bad at h
    have := of_decide_eq_true h
    omega
  · rw [h, encode_small hr]
/-- A piece's bytes are small ones alone where it is one. -/
theorem Ck.ok.byte {c : Ck} (h : c.ok) {b : UInt8} (hb : b ∈ c.bs) : b.toNat = c.r ∧ c.bs = [b] ∨ 128 ≤ b.toNat := by
  by_cases hr : c.r < 128
  · have h1 := h.small hr
    rw [h1, List.mem_singleton] at hb
    subst hb
    left
    refine ⟨?_, h1⟩
    rw [UInt8.toNat_ofNat']
    omega
  · right
    rcases h with ⟨_, b', h, h2⟩ | ⟨_, h, _⟩
    · rw [h, List.mem_singleton] at hb
      subst hb
      exact h2
    · rw [h] at hb
      exact bytes_big (by omega) b hb
/-- Texts without a bad byte are their runes. -/
theorem bs_of_good {c : Ck} (h : c.ok) (hb : c.bad = false) : c.bs = encodeRune (c.r : Int) := by
  rcases h with ⟨h, _⟩ | ⟨_, h, _⟩
  · rw [hb] at h; cases h
  · exact h
theorem runes_inj {a b : List UInt8} (ha : goodL a) (hb : goodL b) (h : (cks a).map Ck.r = (cks b).map Ck.r) : a = b := by
  have key : ∀ (x y : List Ck), (∀ c ∈ x, c.ok ∧ c.bad = false) → (∀ c ∈ y, c.ok ∧ c.bad = false) → x.map Ck.r = y.map Ck.r → x = y := by
    intro x
    induction x with
    | nil =>
      intro y _ _ h
      cases y with
      | nil => rfl
      | cons c y => simp at h
    | cons c x ih =>
      intro y hx hy h
      cases y with
      | nil => simp at h
      | cons d y =>
        simp only [List.map_cons, List.cons.injEq] at h
        have h1 := bs_of_good (hx c (by simp)).1 (hx c (by simp)).2
        have h2 := bs_of_good (hy d (by simp)).1 (hy d (by simp)).2
        rw [ih y (fun z hz => hx z (by simp [hz])) (fun z hz => hy z (by simp [hz])) h.2]
        congr 1
        cases c; cases d
        simp only at h h1 h2
        rw [Ck.mk.injEq]
        exact ⟨by rw [h1, h2, h.1], h.1⟩
  have h1 := key (cks a) (cks b) (fun c hc => ⟨cks_ok a c hc, ha c hc⟩) (fun c hc => ⟨cks_ok b c hc, hb c hc⟩) h
  rw [← flat_cks a, ← flat_cks b, h1]
end Go.Proofs.YthhhobfdlgmjlaaDoor
/- What penstockref1.All lists: the runes of a text. No condition. -/
namespace Go.Proofs.YthhhobfdlgmjlaaDoor
open Go.RowKit

/-- One of a text's runes. -/
structure Ru where
  r : Nat
  beg : Nat
  en : Nat
  no : Bool
def Ru.cells (x : Ru) : List Value := [.int .i32 x.r, .int .i64 x.beg, .int .i64 x.en, .bool x.no]
theorem Ru.cells_len (x : Ru) : x.cells.length = 4 := rfl
theorem ru_elem : IsElem Tryd.prog 81 84 4 32 Ru.cells :=
  isElem_of (z := .agg #[.int .i32 0, .int .i64 0, .int .i64 0, .bool false]) Tryd.underlying81 (by kernel_rfl) rfl (by omega) (fun _ => rfl) (fun x u hu => by
    simp only [Ru.cells, List.mem_cons, List.not_mem_nil, or_false] at hu
    rcases hu with rfl | rfl | rfl | rfl <;> rfl)
def rAt (l : List UInt8) (i : Nat) : Nat := ((cks l)[i]?.map Ck.r).getD 0
def badAt (l : List UInt8) (i : Nat) : Bool := ((cks l)[i]?.map Ck.bad).getD false
theorem rAt_eq {l : List UInt8} {k : Nat} {c : Ck} (h : (cks l)[k]? = some c) : rAt l k = c.r := by simp [rAt, h]
theorem badAt_eq {l : List UInt8} {k : Nat} {c : Ck} (h : (cks l)[k]? = some c) : badAt l k = c.bad := by simp [badAt, h]
/-- The runes ahead of the k-th, whose ends are known. -/
def baseL (l : List UInt8) (k : Nat) : List Ru := (List.range k).map fun i => ⟨rAt l i, off l i, off l (i + 1), false⟩
/-- All's list behind k runes. -/
def preL (l : List UInt8) : Nat → List Ru
  | 0 => []
  | k + 1 => baseL l k ++ [⟨rAt l k, off l k, l.length, false⟩]
/-- All's list, with j runes told whether they begin nothing. -/
def allL (l : List UInt8) (j : Nat) : List Ru := (List.range (cks l).length).map fun i => ⟨rAt l i, off l i, off l (i + 1), if i < j then badAt l i else false⟩
theorem baseL_len (l : List UInt8) (k : Nat) : (baseL l k).length = k := by simp [baseL]
theorem preL_len (l : List UInt8) : ∀ k, (preL l k).length = k
  | 0 => rfl
  | k + 1 => by rw [preL, List.length_append, baseL_len]; rfl
theorem allL_len (l : List UInt8) (j : Nat) : (allL l j).length = (cks l).length := by simp [allL]
theorem baseL_succ (l : List UInt8) (k : Nat) : baseL l (k + 1) = baseL l k ++ [⟨rAt l k, off l k, off l (k + 1), false⟩] := by
  unfold baseL
  rw [List.range_succ, List.map_append]
  rfl
theorem preL_last (l : List UInt8) (k : Nat) : (preL l (k + 1))[k]? = some ⟨rAt l k, off l k, l.length, false⟩ := by
  rw [preL, List.getElem?_append_right (by rw [baseL_len]; omega), baseL_len, Nat.sub_self]
  rfl
theorem preL_put (l : List UInt8) (k : Nat) : (preL l (k + 1)).set k ⟨rAt l k, off l k, off l (k + 1), false⟩ ++ [⟨rAt l (k + 1), off l (k + 1), l.length, false⟩] = preL l (k + 2) := by
  rw [preL, preL, baseL_succ, List.set_append_right _ _ (by rw [baseL_len]; omega), baseL_len, Nat.sub_self]
  rfl
theorem preL_all (l : List UInt8) : preL l (cks l).length = allL l 0 := by
  have h0 : allL l 0 = baseL l (cks l).length := by
    unfold allL baseL
    refine List.map_congr_left fun i _ => ?_
    rw [if_neg (by omega)]
  rw [h0]
  rcases hn : (cks l).length with _ | n
  · rfl
  · rw [preL, baseL_succ, ← hn, off_end]
theorem allL_get (l : List UInt8) (j i : Nat) (h : i < (cks l).length) : (allL l j)[i]? = some ⟨rAt l i, off l i, off l (i + 1), if i < j then badAt l i else false⟩ := by
  unfold allL
  rw [List.getElem?_map, List.getElem?_range h]
  rfl
theorem allL_put (l : List UInt8) (j : Nat) (h : j < (cks l).length) : (allL l j).set j ⟨rAt l j, off l j, off l (j + 1), badAt l j⟩ = allL l (j + 1) := by
  refine List.ext_getElem? fun i => ?_
  rw [List.getElem?_set, allL_len]
  by_cases hi : j = i
  · subst hi
    rw [if_pos rfl, if_pos h, allL_get _ _ _ h, if_pos (by omega)]
  · rw [if_neg hi]
    rcases Nat.lt_or_ge i (cks l).length with h1 | h1
    · rw [allL_get _ _ _ h1, allL_get _ _ _ h1]
      by_cases h2 : i < j
      · rw [if_pos h2, if_pos (by omega)]
      · rw [if_neg h2, if_neg (by omega)]
    · rw [List.getElem?_eq_none (by rw [allL_len]; exact h1), List.getElem?_eq_none (by rw [allL_len]; exact h1)]
end Go.Proofs.YthhhobfdlgmjlaaDoor

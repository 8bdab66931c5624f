/- Several texts in one: GlobAw, AppLaw. -/
import Derived.Test.YthhhobfdlgmjlaaDoorGlobMatchQWholeRow
import Derived.Test.YthhhobfdlgmjlaaDoorM6WholeRow
/- penstocklaw2.awake answers true. Condition: the decoder's tables lie as the library lays them. -/
namespace Go.Proofs.YthhhobfdlgmjlaaDoor
open Go.RowKit

theorem patOk_of {p : ByteArray} {P : List Pc} {b : Bool} (hv : validB p = true) (hl : (cks p.data.toList).length ≤ 40) (hP : parseL (runesL p) = (P, b)) : patOk p = !b := by
  unfold patOk
  rw [hv, hP, decide_eq_true (by omega)]
  rfl
theorem matchB_of {p : ByteArray} {P : List Pc} (s : ByteArray) (hv : validB p = true) (hl : (cks p.data.toList).length ≤ 40) (hP : parseL (runesL p) = (P, false)) : matchB p s = (validB s && matchL P (runesL s)) := by
  unfold matchB patP
  rw [patOk_of hv hl hP, hP]
  rfl
theorem matchL_t {P : List Pc} {u : List Nat} (h : Mt P u) : matchL P u = true := (matchL_iff P u).2 h
theorem matchL_f {P : List Pc} {u : List Nat} (h : ¬ Mt P u) : matchL P u = false := by
  cases hm : matchL P u with
  | false => rfl
  | true => exact absurd ((matchL_iff P u).1 hm) h
def aw1 : ByteArray := ⟨#[97, 42, 91, 48, 45, 57, 93]⟩
def aw2 : ByteArray := ⟨#[97, 98, 99, 55]⟩
def aw3 : ByteArray := ⟨#[63]⟩
def aw4 : ByteArray := ⟨#[195, 169]⟩
def aw5 : ByteArray := ⟨#[97]⟩
def aw6 : ByteArray := ⟨#[98]⟩
def aw7 : ByteArray := ⟨#[91, 122, 45, 97, 93]⟩
theorem aw_match1 : matchB aw1 aw2 = true := by
  rw [matchB_of aw2 (by decide +kernel) (by decide +kernel) (show parseL (runesL aw1) = ([lit 97, star, ⟨3, 0, [(48, 57)], false⟩], false) by kernel_rfl)]
  rw [show runesL aw2 = [97, 98, 99, 55] by decide +kernel, show validB aw2 = true by decide +kernel, Bool.true_and]
  refine matchL_t (.one _ _ _ _ rfl rfl (.any _ _ [98, 99] [55] rfl (.one _ _ _ _ rfl rfl .nil)))
theorem aw_match2 : matchB aw3 aw4 = true := by
  rw [matchB_of aw4 (by decide +kernel) (by decide +kernel) (show parseL (runesL aw3) = ([quest], false) by kernel_rfl)]
  rw [show runesL aw4 = [233] by decide +kernel, show validB aw4 = true by decide +kernel, Bool.true_and]
  exact matchL_t (.one _ _ _ _ rfl rfl .nil)
theorem aw_match3 : matchB aw5 aw6 = false := by
  rw [matchB_of aw6 (by decide +kernel) (by decide +kernel) (show parseL (runesL aw5) = ([97].map lit, false) by kernel_rfl)]
  rw [show runesL aw6 = [98] by decide +kernel, show validB aw6 = true by decide +kernel, Bool.true_and]
  exact matchL_f fun h => by
    have := (Mt.lits _ _).1 h
    simp at this
theorem aw_ok4 : patOk aw7 = false := by decide +kernel
end Go.Proofs.YthhhobfdlgmjlaaDoor
/- Runes of two texts, one behind the other. Plain Lean. No condition. -/
namespace Go.Proofs.YthhhobfdlgmjlaaDoor
open Go.Lib

set_option maxRecDepth 100000 in
theorem dec2 {n b0 b1 b2 b3 : Nat} (h : b0 / 32 = 6) (h1 : 1 < n) (h2 : b1 / 64 = 2) (h3 : 128 ≤ b0 % 32 * 64 + b1 % 64) : decodeN n b0 b1 b2 b3 = (b0 % 32 * 64 + b1 % 64, 2) := by
  unfold decodeN
  repeat' split
  all_goals first | rfl | (exfalso; omega)
set_option maxRecDepth 100000 in
theorem dec3 {n b0 b1 b2 b3 : Nat} (h : b0 / 16 = 14) (h1 : 2 < n) (h2 : b1 / 64 = 2) (h3 : b2 / 64 = 2) (h4 : 2048 ≤ b0 % 16 * 4096 + b1 % 64 * 64 + b2 % 64) (h5 : b0 % 16 * 4096 + b1 % 64 * 64 + b2 % 64 < 55296 ∨ 57344 ≤ b0 % 16 * 4096 + b1 % 64 * 64 + b2 % 64) :
    decodeN n b0 b1 b2 b3 = (b0 % 16 * 4096 + b1 % 64 * 64 + b2 % 64, 3) := by
  unfold decodeN
  repeat' split
  all_goals first | rfl | (exfalso; omega)
set_option maxRecDepth 100000 in
theorem dec4 {n b0 b1 b2 b3 : Nat} (h : b0 / 8 = 30) (h1 : 3 < n) (h2 : b1 / 64 = 2) (h3 : b2 / 64 = 2) (h4 : b3 / 64 = 2) (h5 : 65536 ≤ b0 % 8 * 262144 + b1 % 64 * 4096 + b2 % 64 * 64 + b3 % 64) (h6 : b0 % 8 * 262144 + b1 % 64 * 4096 + b2 % 64 * 64 + b3 % 64 ≤ 1114111) :
    decodeN n b0 b1 b2 b3 = (b0 % 8 * 262144 + b1 % 64 * 4096 + b2 % 64 * 64 + b3 % 64, 4) := by
  unfold decodeN
  repeat' split
  all_goals first | rfl | (exfalso; omega)
/-- More bytes behind: what was a rune stays it; else the rune takes in bytes beyond. -/
theorem dec_more {n n' b0 b1 b2 b3 c1 c2 c3 : Nat} (hn : 1 ≤ n) (hnn : n ≤ n') (e1 : 1 < n → c1 = b1) (e2 : 2 < n → c2 = b2) (e3 : 3 < n → c3 = b3) :
    decodeN n' b0 c1 c2 c3 = decodeN n b0 b1 b2 b3 ∨ (n < (decodeN n' b0 c1 c2 c3).2 ∧ decodeN n b0 b1 b2 b3 = (65533, 1)) := by
  rcases decodeN_shape n b0 b1 b2 b3 with ⟨h, e⟩ | ⟨h0, h1, h2, h3, e⟩ | ⟨h0, h1, h2, h3, h4, h5, e⟩ | ⟨h0, h1, h2, h3, h4, h5, h6, e⟩ | e
  · left; rw [e, decodeN_ascii _ _ _ _ _ h]
  · left
    have := e1 h1; subst this
    rw [e, dec2 h0 (by omega) h2 h3]
  · left
    have := e1 (by omega); subst this
    have := e2 h1; subst this
    rw [e, dec3 h0 (by omega) h2 h3 h4 h5]
  · left
    have := e1 (by omega); subst this
    have := e2 (by omega); subst this
    have := e3 h1; subst this
    rw [e, dec4 h0 (by omega) h2 h3 h4 h5 h6]
  · rcases decodeN_shape n' b0 c1 c2 c3 with ⟨h, e'⟩ | ⟨h0, h1, h2, h3, e'⟩ | ⟨h0, h1, h2, h3, h4, h5, e'⟩ | ⟨h0, h1, h2, h3, h4, h5, h6, e'⟩ | e'
    · left
      rw [e', decodeN_ascii _ _ _ _ _ h]
    · rcases Nat.lt_or_ge 1 n with hc | hc
      · left
        have := e1 hc; subst this
        rw [e', dec2 h0 hc h2 h3]
      · right; exact ⟨by rw [e']; simp only; omega, e⟩
    · rcases Nat.lt_or_ge 2 n with hc | hc
      · left
        have := e1 (by omega); subst this
        have := e2 hc; subst this
        rw [e', dec3 h0 hc h2 h3 h4 h5]
      · right; exact ⟨by rw [e']; simp only; omega, e⟩
    · rcases Nat.lt_or_ge 3 n with hc | hc
      · left
        have := e1 (by omega); subst this
        have := e2 (by omega); subst this
        have := e3 hc; subst this
        rw [e', dec4 h0 hc h2 h3 h4 h5 h6]
      · right; exact ⟨by rw [e']; simp only; omega, e⟩
    · left; rw [e, e']
theorem getD_app (a b : List UInt8) (i : Nat) (h : i < a.length) : (a ++ b).getD i 0 = a.getD i 0 := by
  rw [List.getD_eq_getElem?_getD, List.getD_eq_getElem?_getD, List.getElem?_append_left h]
theorem decodeL_app {a : List UInt8} (h : a ≠ []) (b : List UInt8) : decodeL (a ++ b) = decodeL a ∨ (a.length < (decodeL (a ++ b)).2 ∧ decodeL a = (65533, 1)) := by
  have hl := List.length_pos_iff.2 h
  rw [decodeL_N, decodeL_N, getD_app a b 0 hl]
  refine dec_more hl (by rw [List.length_append]; omega) (fun h => ?_) (fun h => ?_) (fun h => ?_)
  all_goals rw [getD_app a b _ h]
/-- The bytes of a rune behind its first one are no first ones. -/
theorem width_cont (l : List UInt8) (i : Nat) (h0 : 1 ≤ i) (h1 : i < (decodeL l).2) : (l.getD i 0).toNat / 64 = 2 := by
  rw [decodeL_N] at h1
  rcases decodeN_shape l.length (l.getD 0 0).toNat (l.getD 1 0).toNat (l.getD 2 0).toNat (l.getD 3 0).toNat with ⟨h, e⟩ | ⟨_, _, h2, _, e⟩ | ⟨_, _, h2, h3, _, _, e⟩ | ⟨_, _, h2, h3, h4, _, _, e⟩ | e
  all_goals
    rw [e] at h1
    simp only at h1
  · omega
  · obtain rfl : i = 1 := by omega
    exact h2
  · rcases (show i = 1 ∨ i = 2 by omega) with rfl | rfl
    · exact h2
    · exact h3
  · rcases (show i = 1 ∨ i = 2 ∨ i = 3 by omega) with rfl | rfl | rfl
    · exact h2
    · exact h3
    · exact h4
  · omega
theorem cks_cont {x : UInt8} {t : List UInt8} (h : x.toNat / 64 = 2) : cks (x :: t) = ⟨[x], 65533⟩ :: cks t := by
  have e : decodeL (x :: t) = (65533, 1) := by
    rw [decodeL_N]
    exact decodeN_cont _ _ _ _ _ (by simpa using h)
  rw [cks_step (by simp), e]
  simp
theorem cks_conts : ∀ (j : Nat) (b : List UInt8), j ≤ b.length → (∀ i, i < j → (b.getD i 0).toNat / 64 = 2) → (cks b).length = j + (cks (b.drop j)).length
  | 0, b, _, _ => by simp
  | j + 1, [], h, _ => by simp at h
  | j + 1, x :: t, h, hc => by
    have h0 := hc 0 (by omega)
    rw [cks_cont (by simpa using h0), List.length_cons, List.drop_succ_cons, cks_conts j t (by simpa using h) fun i hi => by
      have := hc (i + 1) (by omega)
      simpa using this]
    omega
/-- A list of pieces none of which is a byte that begins nothing. -/
def goodL (l : List UInt8) : Prop := ∀ c ∈ cks l, c.bad = false
theorem goodL_iff (s : ByteArray) : validB s = true ↔ goodL s.data.toList := by
  unfold validB goodL
  rw [List.all_eq_true]
  simp
theorem cks_app {a : List UInt8} (h : goodL a) (b : List UInt8) : cks (a ++ b) = cks a ++ cks b := by
  induction a using cks_ind with
  | h0 => simp [cks_nil]
  | hs l hl ih =>
    unfold goodL at h
    rw [cks_step hl] at h
    have h1 := h _ (List.mem_cons_self ..)
    have hle := decodeL_le l hl
    have h2 : decodeL (l ++ b) = decodeL l := by
      rcases decodeL_app hl b with h2 | ⟨_, h2⟩
      · exact h2
      · unfold Ck.bad at h1
        simp only [List.length_take] at h1
        rw [Nat.min_eq_left hle, h2] at h1
        simp at h1
    rw [cks_step (l := l ++ b) (by simp [hl]), h2, cks_step hl, List.cons_append, List.take_append_of_le_length hle, List.drop_append_of_le_length hle, ih fun c hc => h c (by simp [hc])]
theorem cks_app_le (a b : List UInt8) : (cks (a ++ b)).length ≤ (cks a).length + (cks b).length := by
  induction a using cks_ind with
  | h0 => simp [cks_nil]
  | hs l hl ih =>
    have hle := decodeL_le l hl
    rw [cks_step (l := l ++ b) (by simp [hl]), cks_step hl, List.length_cons, List.length_cons]
    rcases decodeL_app hl b with h2 | ⟨h2, _⟩
    · rw [h2, List.drop_append_of_le_length hle]
      omega
    · have hle2 := decodeL_le (l ++ b) (by simp [hl])
      rw [List.length_append] at hle2
      rw [List.drop_append, List.drop_of_length_le (by omega), List.nil_append]
      have h3 := cks_conts ((decodeL (l ++ b)).2 - l.length) b (by omega) fun i hi => by
        have h4 := width_cont (l ++ b) (l.length + i) (by have := List.length_pos_iff.2 hl; omega) (by omega)
        rw [List.getD_eq_getElem?_getD, List.getElem?_append_right (by omega)] at h4
        rw [List.getD_eq_getElem?_getD]
        rw [show l.length + i - l.length = i by omega] at h4
        exact h4
      omega
theorem goodL_app {a b : List UInt8} (ha : goodL a) (hb : goodL b) : goodL (a ++ b) := by
  intro c hc
  rw [cks_app ha] at hc
  rcases List.mem_append.1 hc with h | h
  · exact ha c h
  · exact hb c h
end Go.Proofs.YthhhobfdlgmjlaaDoor

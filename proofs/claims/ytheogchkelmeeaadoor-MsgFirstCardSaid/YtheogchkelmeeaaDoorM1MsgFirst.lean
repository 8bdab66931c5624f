/- Several texts in one: But, Chunk. -/
import Derived.Test.YtheogchkelmeeaaDoorM0MsgFirst
import Derived.Lib.MapLaws
import Derived.Lib.ValidLaws
import Derived.Lib.QuoteLoop
/- A world that is another one but for some blocks. No condition. -/
namespace Go.Proofs.YtheogchkelmeeaaDoor
open Go.RowKit

/-- w' is w with more blocks, and but for the blocks that S names. -/
structure But (S : Nat → Prop) (w w' : World) : Prop where
  os : w'.os = w.os
  tape : w'.tape = w.tape
  output : w'.output = w.output
  size : w.heap.size ≤ w'.heap.size
  block : ∀ k, k < w.heap.size → ¬ S k → w'.heap[k]? = w.heap[k]?
theorem But.refl (S : Nat → Prop) (w : World) : But S w w := ⟨rfl, rfl, rfl, Nat.le_refl _, fun _ _ _ => rfl⟩
theorem But.of_g {S : Nat → Prop} {w w' : World} (h : G w w') : But S w w' := ⟨h.os, h.tape, h.output, h.size, fun k hk _ => h.block k hk⟩
theorem But.of_grown {S : Nat → Prop} {w w' : World} {row : Option Nat} (h : w.grownBy w' row) (hr : ∀ k, row = some k → S k) : But S w w' :=
  ⟨h.os, h.tape, h.output, h.size, fun k hk hS => h.block k hk fun e => hS (hr k e.symm)⟩
theorem But.trans {S : Nat → Prop} {a b c : World} (h : But S a b) (k : But S b c) : But S a c :=
  ⟨k.os.trans h.os, k.tape.trans h.tape, k.output.trans h.output, Nat.le_trans h.size k.size, fun i hi hS => (k.block i (Nat.lt_of_lt_of_le hi h.size) hS).trans (h.block i hi hS)⟩
theorem But.g {S : Nat → Prop} {a b c : World} (h : But S a b) (k : G b c) : But S a c := h.trans (.of_g k)
theorem But.mono {S T : Nat → Prop} {a b : World} (h : But S a b) (hS : ∀ k, k < a.heap.size → S k → T k) : But T a b := ⟨h.os, h.tape, h.output, h.size, fun k hk hT => h.block k hk fun e => hT (hS k hk e)⟩
theorem But.drew {S : Nat → Prop} {a b : World} (h : But S a b) : But S a b.drew := ⟨h.os, h.tape, h.output, h.size, h.block⟩
/-- Blocks of a that S names lie from a base on: nothing below it has turned. -/
theorem But.below {S : Nat → Prop} {a b : World} (h : But S a b) {B : Nat} (hB : B ≤ a.heap.size) (hS : ∀ k, k < a.heap.size → S k → B ≤ k) : Below B a b :=
  ⟨h.os, h.tape, h.output, h.size, fun k hk => h.block k (by omega) fun e => by have := hS k (by omega) e; omega⟩
theorem But.blk {S : Nat → Prop} {a b : World} (h : But S a b) {k : Nat} {o : Obj} (hk : a.heap[k]? = some o) (hS : ¬ S k) : b.heap[k]? = some o := (h.block k (blk_lt hk) hS).trans hk
theorem But.cell {S : Nat → Prop} {a b : World} (h : But S a b) {k o : Nat} (hk : k < a.heap.size) (hS : ¬ S k) : b.cell? ⟨k, o, none⟩ = a.cell? ⟨k, o, none⟩ := World.cell?_of_block (w := a) (h.block k hk hS)
theorem But.set {S : Nat → Prop} {a b : World} (h : But S a b) {p : Addr} (hp : a.heap.size ≤ p.block ∨ S p.block) (u : Value) : But S a (b.setCell p u) := by
  have k := (Below.refl 0 b).setCell (p := p) (Nat.zero_le _) u
  refine ⟨k.os.trans h.os, k.tape.trans h.tape, k.output.trans h.output, Nat.le_trans h.size k.size, fun i hi hS => ?_⟩
  refine (Below.heap_setCell _ _ _ _ ?_).trans (h.block i hi hS)
  rintro rfl
  rcases hp with hp | hp
  · omega
  · exact hS hp

/-- Behind w some more blocks turn, of which each is new since a, or one that S names. -/
theorem But.over {S : Nat → Prop} {a b c : World} {g : Nat} (h : But S a b) (k : But (fun k => k = g) b c) (hS : ∀ k, k = g → (a.heap.size ≤ k ∨ S k)) : But S a c :=
  ⟨k.os.trans h.os, k.tape.trans h.tape, k.output.trans h.output, Nat.le_trans h.size k.size, fun i hi hn => (k.block i (Nat.lt_of_lt_of_le hi h.size) (fun e => by
    rcases hS i e with h1 | h1
    · omega
    · exact hn h1)).trans (h.block i hi hn)⟩

end Go.Proofs.YtheogchkelmeeaaDoor
/- A text's runes, as the decoder tells them: a list of pieces, each its bytes and its rune. Plain Lean. No condition. -/
namespace Go.Proofs.YtheogchkelmeeaaDoor
open Go.Lib

structure Ck where
  bs : List UInt8
  r : Nat
  deriving DecidableEq
def cksF : Nat → List UInt8 → List Ck
  | 0, _ => []
  | n + 1, l => if l = [] then [] else ⟨l.take (decodeL l).2, (decodeL l).1⟩ :: cksF n (l.drop (decodeL l).2)
def cks (l : List UInt8) : List Ck := cksF l.length l
theorem cksF_nil : ∀ n, cksF n [] = []
  | 0 => rfl
  | n + 1 => by simp [cksF]
theorem cksF_fuel : ∀ (n m : Nat) (l : List UInt8), l.length ≤ n → l.length ≤ m → cksF n l = cksF m l
  | 0, m, l, h, _ => by
    obtain rfl : l = [] := List.eq_nil_of_length_eq_zero (by omega)
    rw [cksF_nil, cksF_nil]
  | n + 1, 0, l, _, h => by
    obtain rfl : l = [] := List.eq_nil_of_length_eq_zero (by omega)
    rw [cksF_nil, cksF_nil]
  | n + 1, m + 1, l, h, h' => by
    simp only [cksF]
    split
    · rfl
    · have := decodeL_width l
      rw [cksF_fuel n m _ (by rw [List.length_drop]; omega) (by rw [List.length_drop]; omega)]
theorem cks_nil : cks [] = [] := rfl
theorem cks_step {l : List UInt8} (h : l ≠ []) : cks l = ⟨l.take (decodeL l).2, (decodeL l).1⟩ :: cks (l.drop (decodeL l).2) := by
  have hl : 0 < l.length := List.length_pos_iff.2 h
  have hw := decodeL_width l
  obtain ⟨n, hn⟩ : ∃ n, l.length = n + 1 := ⟨l.length - 1, by omega⟩
  unfold cks
  rw [hn, cksF, if_neg h, cksF_fuel n _ _ (by rw [List.length_drop]; omega) (Nat.le_refl _)]
/-- All bytes of some pieces. -/
def flat (cs : List Ck) : List UInt8 := cs.flatMap Ck.bs
theorem flat_nil : flat [] = [] := rfl
theorem flat_cons (c : Ck) (cs : List Ck) : flat (c :: cs) = c.bs ++ flat cs := List.flatMap_cons
theorem flat_append (a b : List Ck) : flat (a ++ b) = flat a ++ flat b := List.flatMap_append
theorem cks_ind {P : List UInt8 → Prop} (h0 : P []) (hs : ∀ l, l ≠ [] → P (l.drop (decodeL l).2) → P l) (l : List UInt8) : P l := by
  have h : ∀ (n : Nat) (l : List UInt8), l.length ≤ n → P l := by
    intro n
    induction n with
    | zero =>
      intro l hl
      obtain rfl : l = [] := List.eq_nil_of_length_eq_zero (by omega)
      exact h0
    | succ n ih =>
      intro l hl
      by_cases hn : l = []
      · rw [hn]; exact h0
      · have hw := decodeL_width l
        have := List.length_pos_iff.2 hn
        exact hs l hn (ih _ (by rw [List.length_drop]; omega))
  exact h _ l (Nat.le_refl _)
theorem flat_cks (l : List UInt8) : flat (cks l) = l := by
  induction l using cks_ind with
  | h0 => rfl
  | hs l h ih => rw [cks_step h, flat_cons, ih, List.take_append_drop]
/-- A byte that begins nothing. -/
def Ck.bad (c : Ck) : Bool := decide (c.r = 65533 ∧ c.bs.length = 1)
theorem validD_cks (l : List UInt8) : validD l = (cks l).all fun c => !c.bad := by
  induction l using cks_ind with
  | h0 => rfl
  | hs l h ih =>
    have hle := decodeL_le l h
    have hw := decodeL_width l
    rw [cks_step h, List.all_cons, ← ih, validD_step l h]
    have e : (⟨l.take (decodeL l).2, (decodeL l).1⟩ : Ck).bad = decide ((decodeL l).1 = 65533 ∧ (decodeL l).2 = 1) := by
      unfold Ck.bad
      simp only [List.length_take]
      rw [Nat.min_eq_left hle]
    rw [e]
    by_cases hb : (decodeL l).1 = 65533 ∧ (decodeL l).2 = 1
    · rw [if_pos hb, decide_eq_true hb]; rfl
    · rw [if_neg hb, decide_eq_false hb]; simp
/-- What a piece is. -/
def Ck.ok (c : Ck) : Prop := (c.bad = true ∧ ∃ b : UInt8, c.bs = [b] ∧ 128 ≤ b.toNat) ∨ (c.bad = false ∧ c.bs = encodeRune (c.r : Int) ∧ validRune (c.r : Int) = true)
theorem decodeL_valid (l : List UInt8) (_h : l ≠ []) : validRune ((decodeL l).1 : Int) = true := by
  rw [decodeL_N]
  have h := decodeN_valid l.length (l.getD 0 0).toNat (l.getD 1 0).toNat (l.getD 2 0).toNat (l.getD 3 0).toNat (UInt8.toNat_lt _)
  unfold validRune
  simp only [decide_eq_true_eq]
  omega
theorem decodeL_bad_byte {l : List UInt8} (_h : l ≠ []) (hb : (decodeL l).1 = 65533 ∧ (decodeL l).2 = 1) : 128 ≤ (l.getD 0 0).toNat := by
  rcases Nat.lt_or_ge (l.getD 0 0).toNat 128 with h1 | h1
  · rw [decodeL_N, decodeN_ascii _ _ _ _ _ h1] at hb
    omega
  · exact h1
theorem cks_head_ok {l : List UInt8} (h : l ≠ []) : (⟨l.take (decodeL l).2, (decodeL l).1⟩ : Ck).ok := by
  have hle := decodeL_le l h
  have hlen : (l.take (decodeL l).2).length = (decodeL l).2 := by rw [List.length_take, Nat.min_eq_left hle]
  by_cases hb : (decodeL l).1 = 65533 ∧ (decodeL l).2 = 1
  · left
    refine ⟨by simp only [Ck.bad, hlen]; exact decide_eq_true hb, l.getD 0 0, ?_, decodeL_bad_byte h hb⟩
    rw [hb.2]
    exact takeA l (List.length_pos_iff.2 h)
  · right
    exact ⟨by simp only [Ck.bad, hlen]; exact decide_eq_false hb, (encode_decode l h hb).symm, decodeL_valid l h⟩
theorem cks_ok (l : List UInt8) : ∀ c ∈ cks l, c.ok := by
  induction l using cks_ind with
  | h0 => intro c hc; cases hc
  | hs l h ih =>
    intro c hc
    rw [cks_step h] at hc
    rcases List.mem_cons.1 hc with rfl | hc
    · exact cks_head_ok h
    · exact ih c hc
theorem Ck.ok.len {c : Ck} (h : c.ok) : 1 ≤ c.bs.length ∧ c.bs.length ≤ 4 := by
  rcases h with ⟨_, b, h, _⟩ | ⟨_, h, _⟩
  · rw [h]; simp
  · rw [h]
    have := encodeRuneZ_length (c.r : Int)
    simpa [encodeRune] using this
theorem Ck.ok.rune {c : Ck} (h : c.ok) : c.r ≤ 1114111 := by
  rcases h with ⟨h, _⟩ | ⟨_, _, h⟩
  · unfold Ck.bad at h
    have := of_decide_eq_true h
    omega
  · unfold validRune at h
    have := of_decide_eq_true h
    omega
theorem cks_length_le (l : List UInt8) : (cks l).length ≤ l.length := by
  induction l using cks_ind with
  | h0 => simp [cks_nil]
  | hs l h ih =>
    have hw := decodeL_width l
    have := List.length_pos_iff.2 h
    rw [cks_step h, List.length_cons]
    rw [List.length_drop] at ih
    omega
/-- Where a piece begins. -/
def off (l : List UInt8) (k : Nat) : Nat := (flat ((cks l).take k)).length
theorem off_zero (l : List UInt8) : off l 0 = 0 := rfl
theorem take_snoc' {α : Type} {l : List α} {k : Nat} {x : α} (h : l[k]? = some x) : l.take (k + 1) = l.take k ++ [x] := by
  rw [List.take_add_one, h]; rfl
theorem off_succ {l : List UInt8} {k : Nat} {c : Ck} (h : (cks l)[k]? = some c) : off l (k + 1) = off l k + c.bs.length := by
  unfold off
  rw [take_snoc' h, flat_append, List.length_append, flat_cons, flat_nil, List.append_nil]
theorem off_le (l : List UInt8) (k : Nat) : off l k ≤ l.length := by
  have h := flat_cks l
  rw [← List.take_append_drop k (cks l), flat_append] at h
  have := congrArg List.length h
  rw [List.length_append] at this
  unfold off
  omega
theorem off_drop (l : List UInt8) (k : Nat) : l.drop (off l k) = flat ((cks l).drop k) := by
  have h := flat_cks l
  rw [← List.take_append_drop k (cks l), flat_append] at h
  unfold off
  generalize flat ((cks l).take k) = a at *
  generalize flat ((cks l).drop k) = b at *
  rw [← h, List.drop_left]
theorem off_take (l : List UInt8) (k : Nat) : l.take (off l k) = flat ((cks l).take k) := by
  have h := flat_cks l
  rw [← List.take_append_drop k (cks l), flat_append] at h
  unfold off
  generalize flat ((cks l).take k) = a at *
  generalize flat ((cks l).drop k) = b at *
  rw [← h, List.take_left]
/-- From a piece's place on stand the pieces from it on. -/
theorem cks_drop (l : List UInt8) : ∀ k, cks (l.drop (off l k)) = (cks l).drop k := by
  induction l using cks_ind with
  | h0 => intro k; simp [cks_nil]
  | hs l h ih =>
    intro k
    cases k with
    | zero => simp [off_zero]
    | succ k =>
      have e : off l (k + 1) = (decodeL l).2 + off (l.drop (decodeL l).2) k := by
        unfold off
        rw [cks_step h, List.take_succ_cons, flat_cons, List.length_append, List.length_take, Nat.min_eq_left (decodeL_le l h)]
      rw [e, ← List.drop_drop, ih k, cks_step h, List.drop_succ_cons]
theorem off_lt {l : List UInt8} {k : Nat} : off l k < l.length ↔ k < (cks l).length := by
  constructor
  · intro h
    rcases Nat.lt_or_ge k (cks l).length with h1 | h1
    · exact h1
    · have h2 := off_drop l k
      rw [List.drop_eq_nil_of_le h1, flat_nil] at h2
      have := congrArg List.length h2
      rw [List.length_drop] at this
      simp at this
      omega
  · intro h
    have h2 := cks_drop l k
    rcases Nat.lt_or_ge (off l k) l.length with h1 | h1
    · exact h1
    · rw [List.drop_eq_nil_of_le h1, cks_nil] at h2
      have := congrArg List.length h2
      rw [List.length_drop] at this
      simp at this
      omega
theorem off_end (l : List UInt8) : off l (cks l).length = l.length := by
  have h1 := off_le l (cks l).length
  rcases Nat.lt_or_ge (off l (cks l).length) l.length with h | h
  · have := off_lt.1 h; omega
  · omega
theorem cks_at {l : List UInt8} {k : Nat} (h : k < (cks l).length) : (cks l)[k]? = some ⟨(l.drop (off l k)).take (decodeL (l.drop (off l k))).2, (decodeL (l.drop (off l k))).1⟩ := by
  have h1 := cks_drop l k
  have h2 : l.drop (off l k) ≠ [] := by
    intro e
    have := congrArg List.length e
    rw [List.length_drop] at this
    have := off_lt.2 h
    simp at *
    omega
  rw [cks_step h2] at h1
  have h3 := congrArg (·[0]?) h1
  simp only [List.getElem?_cons_zero, List.getElem?_drop, Nat.add_zero] at h3
  exact h3.symm
/-- What the range over a text tells at a piece's place. -/
theorem decode_off {s : ByteArray} {k : Nat} {c : Ck} (h : (cks s.data.toList)[k]? = some c) : (Utf8.decode s (off s.data.toList k)).1 = c.r ∧ off s.data.toList k + (Utf8.decode s (off s.data.toList k)).2 = off s.data.toList (k + 1) ∧ off s.data.toList k < s.size := by
  have hk : k < (cks s.data.toList).length := (List.getElem?_eq_some_iff.1 h).1
  have h1 := cks_at hk
  rw [h] at h1
  have h2 := off_lt.2 hk
  have h3 : s.data.toList.drop (off s.data.toList k) ≠ [] := by
    intro e
    have := congrArg List.length e
    rw [List.length_drop] at this
    simp only [List.length_nil] at this
    omega
  have h4 := decodeL_le _ h3
  simp only [Option.some.injEq] at h1
  rw [off_succ h, h1]
  rw [decodeL_drop] at *
  refine ⟨rfl, ?_, by simpa using h2⟩
  simp only [List.length_take]
  rw [Nat.min_eq_left h4]
/-- Has a text no byte that begins nothing? -/
def validB (s : ByteArray) : Bool := (cks s.data.toList).all fun c => !c.bad
theorem validB_eq (s : ByteArray) : validD s.data.toList = validB s := validD_cks _
end Go.Proofs.YtheogchkelmeeaaDoor

/- Several texts in one: Chunk, Range. -/
import Derived.Test.YthhhobfdlgmjlaaDoorBase
import Derived.Lib.MapLaws
import Derived.Lib.ValidLaws
import Derived.Lib.QuoteLoop
import Derived.Test.YthhhobfdlgmjlaaDoorM5WholeRow
import Derived.Laws.RangeAny
/- A text's runes, as the decoder tells them: a list of pieces, each its bytes and its rune. Plain Lean. No condition. -/
namespace Go.Proofs.YthhhobfdlgmjlaaDoor
open Go.Lib

structure Ck where
  bs : List UInt8
  r : Nat
  deriving DecidableEq
def cksF : Nat → List UInt8 → List Ck
  | 0, _ => []
  | n + 1, l => if l = [] then [] else ⟨l.take (decodeL l).2, (decodeL l).1⟩ :: cksF n (l.drop (decodeL l).2)
def cks (l : List UInt8) : List Ck := cksF l.length l
theorem cksF_nil : ∀ n, cksF n [] = []
  | 0 => rfl
  | n + 1 => by simp [cksF]
theorem cksF_fuel : ∀ (n m : Nat) (l : List UInt8), l.length ≤ n → l.length ≤ m → cksF n l = cksF m l
  | 0, m, l, h, _ => by
    obtain rfl : l = [] := List.eq_nil_of_length_eq_zero (by omega)
    rw [cksF_nil, cksF_nil]
  | n + 1, 0, l, _, h => by
    obtain rfl : l = [] := List.eq_nil_of_length_eq_zero (by omega)
    rw [cksF_nil, cksF_nil]
  | n + 1, m + 1, l, h, h' => by
    simp only [cksF]
    split
    · rfl
    · have := decodeL_width l
      rw [cksF_fuel n m _ (by rw [List.length_drop]; omega) (by rw [List.length_drop]; omega)]
theorem cks_nil : cks [] = [] := rfl
theorem cks_step {l : List UInt8} (h : l ≠ []) : cks l = ⟨l.take (decodeL l).2, (decodeL l).1⟩ :: cks (l.drop (decodeL l).2) := by
  have hl : 0 < l.length := List.length_pos_iff.2 h
  have hw := decodeL_width l
  obtain ⟨n, hn⟩ : ∃ n, l.length = n + 1 := ⟨l.length - 1, by omega⟩
  unfold cks
  rw [hn, cksF, if_neg h, cksF_fuel n _ _ (by rw [List.length_drop]; omega) (Nat.le_refl _)]
/-- All bytes of some pieces. -/
def flat (cs : List Ck) : List UInt8 := cs.flatMap Ck.bs
theorem flat_nil : flat [] = [] := rfl
theorem flat_cons (c : Ck) (cs : List Ck) : flat (c :: cs) = c.bs ++ flat cs := List.flatMap_cons
theorem flat_append (a b : List Ck) : flat (a ++ b) = flat a ++ flat b := List.flatMap_append
theorem cks_ind {P : List UInt8 → Prop} (h0 : P []) (hs : ∀ l, l ≠ [] → P (l.drop (decodeL l).2) → P l) (l : List UInt8) : P l := by
  have h : ∀ (n : Nat) (l : List UInt8), l.length ≤ n → P l := by
    intro n
    induction n with
    | zero =>
      intro l hl
      obtain rfl : l = [] := List.eq_nil_of_length_eq_zero (by omega)
      exact h0
    | succ n ih =>
      intro l hl
      by_cases hn : l = []
      · rw [hn]; exact h0
      · have hw := decodeL_width l
        have := List.length_pos_iff.2 hn
        exact hs l hn (ih _ (by rw [List.length_drop]; omega))
  exact h _ l (Nat.le_refl _)
theorem flat_cks (l : List UInt8) : flat (cks l) = l := by
  induction l using cks_ind with
  | h0 => rfl
  | hs l h ih => rw [cks_step h, flat_cons, ih, List.take_append_drop]
/-- A byte that begins nothing. -/
def Ck.bad (c : Ck) : Bool := decide (c.r = 65533 ∧ c.bs.length = 1)
theorem validD_cks (l : List UInt8) : validD l = (cks l).all fun c => !c.bad := by
  induction l using cks_ind with
  | h0 => rfl
  | hs l h ih =>
    have hle := decodeL_le l h
    have hw := decodeL_width l
    rw [cks_step h, List.all_cons, ← ih, validD_step l h]
    have e : (⟨l.take (decodeL l).2, (decodeL l).1⟩ : Ck).bad = decide ((decodeL l).1 = 65533 ∧ (decodeL l).2 = 1) := by
      unfold Ck.bad
      simp only [List.length_take]
      rw [Nat.min_eq_left hle]
    rw [e]
    by_cases hb : (decodeL l).1 = 65533 ∧ (decodeL l).2 = 1
    · rw [if_pos hb, decide_eq_true hb]; rfl
    · rw [if_neg hb, decide_eq_false hb]; simp
/-- What a piece is. -/
def Ck.ok (c : Ck) : Prop := (c.bad = true ∧ ∃ b : UInt8, c.bs = [b] ∧ 128 ≤ b.toNat) ∨ (c.bad = false ∧ c.bs = encodeRune (c.r : Int) ∧ validRune (c.r : Int) = true)
theorem decodeL_valid (l : List UInt8) (_h : l ≠ []) : validRune ((decodeL l).1 : Int) = true := by
  rw [decodeL_N]
  have h := decodeN_valid l.length (l.getD 0 0).toNat (l.getD 1 0).toNat (l.getD 2 0).toNat (l.getD 3 0).toNat (UInt8.toNat_lt _)
  unfold validRune
  simp only [decide_eq_true_eq]
  omega
theorem decodeL_bad_byte {l : List UInt8} (_h : l ≠ []) (hb : (decodeL l).1 = 65533 ∧ (decodeL l).2 = 1) : 128 ≤ (l.getD 0 0).toNat := by
  rcases Nat.lt_or_ge (l.getD 0 0).toNat 128 with h1 | h1
  · rw [decodeL_N, decodeN_ascii _ _ _ _ _ h1] at hb
    omega
  · exact h1
theorem cks_head_ok {l : List UInt8} (h : l ≠ []) : (⟨l.take (decodeL l).2, (decodeL l).1⟩ : Ck).ok := by
  have hle := decodeL_le l h
  have hlen : (l.take (decodeL l).2).length = (decodeL l).2 := by rw [List.length_take, Nat.min_eq_left hle]
  by_cases hb : (decodeL l).1 = 65533 ∧ (decodeL l).2 = 1
  · left
    refine ⟨by simp only [Ck.bad, hlen]; exact decide_eq_true hb, l.getD 0 0, ?_, decodeL_bad_byte h hb⟩
    rw [hb.2]
    exact takeA l (List.length_pos_iff.2 h)
  · right
    exact ⟨by simp only [Ck.bad, hlen]; exact decide_eq_false hb, (encode_decode l h hb).symm, decodeL_valid l h⟩
theorem cks_ok (l : List UInt8) : ∀ c ∈ cks l, c.ok := by
  induction l using cks_ind with
  | h0 => intro c hc; cases hc
  | hs l h ih =>
    intro c hc
    rw [cks_step h] at hc
    rcases List.mem_cons.1 hc with rfl | hc
    · exact cks_head_ok h
    · exact ih c hc
theorem Ck.ok.len {c : Ck} (h : c.ok) : 1 ≤ c.bs.length ∧ c.bs.length ≤ 4 := by
  rcases h with ⟨_, b, h, _⟩ | ⟨_, h, _⟩
  · rw [h]; simp
  · rw [h]
    have := encodeRuneZ_length (c.r : Int)
    simpa [encodeRune] using this
theorem Ck.ok.rune {c : Ck} (h : c.ok) : c.r ≤ 1114111 := by
  rcases h with ⟨h, _⟩ | ⟨_, _, h⟩
  · unfold Ck.bad at h
    have := of_decide_eq_true h
    omega
  · unfold validRune at h
    have := of_decide_eq_true h
    omega
theorem cks_length_le (l : List UInt8) : (cks l).length ≤ l.length := by
  induction l using cks_ind with
  | h0 => simp [cks_nil]
  | hs l h ih =>
    have hw := decodeL_width l
    have := List.length_pos_iff.2 h
    rw [cks_step h, List.length_cons]
    rw [List.length_drop] at ih
    omega
/-- Where a piece begins. -/
def off (l : List UInt8) (k : Nat) : Nat := (flat ((cks l).take k)).length
theorem off_zero (l : List UInt8) : off l 0 = 0 := rfl
theorem take_snoc' {α : Type} {l : List α} {k : Nat} {x : α} (h : l[k]? = some x) : l.take (k + 1) = l.take k ++ [x] := by
  rw [List.take_add_one, h]; rfl
theorem off_succ {l : List UInt8} {k : Nat} {c : Ck} (h : (cks l)[k]? = some c) : off l (k + 1) = off l k + c.bs.length := by
  unfold off
  rw [take_snoc' h, flat_append, List.length_append, flat_cons, flat_nil, List.append_nil]
theorem off_le (l : List UInt8) (k : Nat) : off l k ≤ l.length := by
  have h := flat_cks l
  rw [← List.take_append_drop k (cks l), flat_append] at h
  have := congrArg List.length h
  rw [List.length_append] at this
  unfold off
  omega
theorem off_drop (l : List UInt8) (k : Nat) : l.drop (off l k) = flat ((cks l).drop k) := by
  have h := flat_cks l
  rw [← List.take_append_drop k (cks l), flat_append] at h
  unfold off
  generalize flat ((cks l).take k) = a at *
  generalize flat ((cks l).drop k) = b at *
  rw [← h, List.drop_left]
theorem off_take (l : List UInt8) (k : Nat) : l.take (off l k) = flat ((cks l).take k) := by
  have h := flat_cks l
  rw [← List.take_append_drop k (cks l), flat_append] at h
  unfold off
  generalize flat ((cks l).take k) = a at *
  generalize flat ((cks l).drop k) = b at *
  rw [← h, List.take_left]
/-- From a piece's place on stand the pieces from it on. -/
theorem cks_drop (l : List UInt8) : ∀ k, cks (l.drop (off l k)) = (cks l).drop k := by
  induction l using cks_ind with
  | h0 => intro k; simp [cks_nil]
  | hs l h ih =>
    intro k
    cases k with
    | zero => simp [off_zero]
    | succ k =>
      have e : off l (k + 1) = (decodeL l).2 + off (l.drop (decodeL l).2) k := by
        unfold off
        rw [cks_step h, List.take_succ_cons, flat_cons, List.length_append, List.length_take, Nat.min_eq_left (decodeL_le l h)]
      rw [e, ← List.drop_drop, ih k, cks_step h, List.drop_succ_cons]
theorem off_lt {l : List UInt8} {k : Nat} : off l k < l.length ↔ k < (cks l).length := by
  constructor
  · intro h
    rcases Nat.lt_or_ge k (cks l).length with h1 | h1
    · exact h1
    · have h2 := off_drop l k
      rw [List.drop_eq_nil_of_le h1, flat_nil] at h2
      have := congrArg List.length h2
      rw [List.length_drop] at this
      simp at this
      omega
  · intro h
    have h2 := cks_drop l k
    rcases Nat.lt_or_ge (off l k) l.length with h1 | h1
    · exact h1
    · rw [List.drop_eq_nil_of_le h1, cks_nil] at h2
      have := congrArg List.length h2
      rw [List.length_drop] at this
      simp at this
      omega
theorem off_end (l : List UInt8) : off l (cks l).length = l.length := by
  have h1 := off_le l (cks l).length
  rcases Nat.lt_or_ge (off l (cks l).length) l.length with h | h
  · have := off_lt.1 h; omega
  · omega
theorem cks_at {l : List UInt8} {k : Nat} (h : k < (cks l).length) : (cks l)[k]? = some ⟨(l.drop (off l k)).take (decodeL (l.drop (off l k))).2, (decodeL (l.drop (off l k))).1⟩ := by
  have h1 := cks_drop l k
  have h2 : l.drop (off l k) ≠ [] := by
    intro e
    have := congrArg List.length e
    rw [List.length_drop] at this
    have := off_lt.2 h
    simp at *
    omega
  rw [cks_step h2] at h1
  have h3 := congrArg (·[0]?) h1
  simp only [List.getElem?_cons_zero, List.getElem?_drop, Nat.add_zero] at h3
  exact h3.symm
/-- What the range over a text tells at a piece's place. -/
theorem decode_off {s : ByteArray} {k : Nat} {c : Ck} (h : (cks s.data.toList)[k]? = some c) : (Utf8.decode s (off s.data.toList k)).1 = c.r ∧ off s.data.toList k + (Utf8.decode s (off s.data.toList k)).2 = off s.data.toList (k + 1) ∧ off s.data.toList k < s.size := by
  have hk : k < (cks s.data.toList).length := (List.getElem?_eq_some_iff.1 h).1
  have h1 := cks_at hk
  rw [h] at h1
  have h2 := off_lt.2 hk
  have h3 : s.data.toList.drop (off s.data.toList k) ≠ [] := by
    intro e
    have := congrArg List.length e
    rw [List.length_drop] at this
    simp only [List.length_nil] at this
    omega
  have h4 := decodeL_le _ h3
  simp only [Option.some.injEq] at h1
  rw [off_succ h, h1]
  rw [decodeL_drop] at *
  refine ⟨rfl, ?_, by simpa using h2⟩
  simp only [List.length_take]
  rw [Nat.min_eq_left h4]
/-- Has a text no byte that begins nothing? -/
def validB (s : ByteArray) : Bool := (cks s.data.toList).all fun c => !c.bad
theorem validB_eq (s : ByteArray) : validD s.data.toList = validB s := validD_cks _
end Go.Proofs.YthhhobfdlgmjlaaDoor
/- The range over a text: its iterator, wherever it lies. No condition. -/
namespace Go.Proofs.YthhhobfdlgmjlaaDoor
open Go.RowKit

/-- Block b is the iterator of a range over s, at the k-th piece. -/
def IterAt (w : World) (b : Nat) (s : ByteArray) (k : Nat) : Prop := w.heap[b]? = some (.stringIter s (off s.data.toList k))
theorem IterAt.start (w : World) (s : ByteArray) : IterAt (w.iter s 0) w.heap.size s 0 := World.iter_heap w s 0
theorem IterAt.g {w w' : World} {b : Nat} {s : ByteArray} {k : Nat} (h : IterAt w b s k) (hg : G w w') : IterAt w' b s k := hg.blk h
theorem IterAt.but {S : Nat → Prop} {w w' : World} {b : Nat} {s : ByteArray} {k : Nat} (h : IterAt w b s k) (hb : But S w w') (hS : ¬ S b) : IterAt w' b s k := hb.blk h hS
theorem IterAt.pos {w : World} {b : Nat} {s : ByteArray} {k : Nat} (h : IterAt w b s k) : w.iterPos b = off s.data.toList k := by
  have h' : w.heap[b]? = some (.stringIter s (off s.data.toList k)) := h
  simp [World.iterPos, h']
theorem off_less {s : ByteArray} {k : Nat} {c : Ck} (hc : (cks s.data.toList)[k]? = some c) : s.size - off s.data.toList (k + 1) < s.size - off s.data.toList k := by
  have h1 := (decode_off hc).2.2
  have h2 := off_succ hc
  have h3 := (cks_ok _ c (List.mem_of_getElem? hc)).len
  omega
theorem IterAt.lt {w : World} {b : Nat} {s : ByteArray} {k : Nat} (h : IterAt w b s k) : b < w.heap.size := blk_lt h
theorem G.iter (w : World) (s : ByteArray) (p : Nat) : G w (w.iter s p) := G.new w _
section
variable {P : Program}
theorem run_next_piece {w : World} {b : Nat} {s : ByteArray} {k : Nat} {c : Ck} (h : IterAt w b s k) (hc : (cks s.data.toList)[k]? = some c) :
    ∃ w', (∀ ty, (Instr.next (.pointer (some ⟨b, 0, none⟩)) true ty).run P w = .ok (.tuple #[.bool true, .int .i64 (off s.data.toList k), .int .i32 c.r]) w') ∧ IterAt w' b s (k + 1) ∧ But (fun k => k = b) w w' ∧ w'.heap.size = w.heap.size := by
  obtain ⟨h1, h2, h3⟩ := decode_off hc
  have hlt := h.lt
  refine ⟨{ w with heap := w.heap.setIfInBounds b (.stringIter s (off s.data.toList (k + 1))) }, ?_, ?_, ⟨rfl, rfl, rfl, by simp, fun i hi hS => ?_⟩, by simp⟩
  · intro ty
    have h' : w.heap[b]? = some (.stringIter s (off s.data.toList k)) := h
    simp only [Instr.next, getObj, setObj, Sem.run_bind, Sem.run, h', Result.andThen, h3, if_true]
    rw [← h2, ← h1]
    simp [goInt]
  · show ({ w with heap := w.heap.setIfInBounds b (.stringIter s (off s.data.toList (k + 1))) } : World).heap[b]? = _
    simp [hlt]
  · show (w.heap.setIfInBounds b _)[i]? = _
    rw [Array.getElem?_setIfInBounds_ne (by intro e; exact hS e.symm)]
theorem run_next_over {w : World} {b : Nat} {s : ByteArray} {k : Nat} (ty : TypeId) (h : IterAt w b s k) (hc : (cks s.data.toList).length ≤ k) :
    (Instr.next (.pointer (some ⟨b, 0, none⟩)) true ty).run P w = .ok (.tuple #[.bool false]) w := by
  have h' : w.heap[b]? = some (.stringIter s (off s.data.toList k)) := h
  have h2 : ¬ off s.data.toList k < s.size := by
    intro e
    have := off_lt.1 (show off s.data.toList k < s.data.toList.length by simpa using e)
    omega
  simp [Instr.next, getObj, Sem.run, h', h2]
variable {ops : Array Oper} {rest : List Oper} {o : Oper} {a : Act} {Q : Exit → Act → World → Prop}
/-- The next piece of a range. -/
theorem wpList_next (w : World) (hg : o.guard = none) (x : Operand) (hop : o.op = .next x true) (b : Nat) (s : ByteArray) (k : Nat) (c : Ck) (hx : a.eval x = .pointer (some ⟨b, 0, none⟩)) (h : IterAt w b s k) (hc : (cks s.data.toList)[k]? = some c)
    (hK : ∀ w', IterAt w' b s (k + 1) → But (fun k => k = b) w w' → w'.heap.size = w.heap.size → wpList P ops Q rest (a.put o.dst (.tuple #[.bool true, .int .i64 (off s.data.toList k), .int .i32 c.r])) w') : wpList P ops Q (o :: rest) a w := by
  refine wpList_plain hg fun K' hK' => ?_
  obtain ⟨w', hrun, r1, r2, r3⟩ := run_next_piece (P := P) h hc
  unfold Oper.wp
  simp [execOp, hop, hx, hrun o.type, Result.andThen]
  exact hK' _ _ (hK w' r1 r2 r3)
theorem wpList_next_end (w : World) (hg : o.guard = none) (x : Operand) (hop : o.op = .next x true) (b : Nat) (s : ByteArray) (k : Nat) (hx : a.eval x = .pointer (some ⟨b, 0, none⟩)) (h : IterAt w b s k) (hc : (cks s.data.toList).length ≤ k)
    (hK : wpList P ops Q rest (a.put o.dst (.tuple #[.bool false])) w) : wpList P ops Q (o :: rest) a w := by
  refine wpList_plain hg fun K' hK' => ?_
  have hrun := run_next_over (P := P) o.type h hc
  unfold Oper.wp
  simp [execOp, hop, hx, hrun, Result.andThen]
  exact hK' _ _ hK
end
theorem piece_at {l : List UInt8} {k : Nat} (h : k < (cks l).length) : ∃ c, (cks l)[k]? = some c := ⟨_, List.getElem?_eq_getElem h⟩
theorem G.next {W w w' : World} {b : Nat} (h : G W w) (hb : But (fun k => k = b) w w') (hw : W.heap.size ≤ b) : G W w' := Below.trans h (hb.below h.size fun k _ e => by omega)
end Go.Proofs.YthhhobfdlgmjlaaDoor

/- Several texts in one: Base, VarLaw, But, Chunk. -/
import Derived.Test.YthafeaclpcjjbaaGreatDoorChecked
import Derived.WalkKit
import Derived.WalkLawsBesides
import Derived.WalkSpells
import Derived.Lib.Hide
import Derived.Below
import Derived.Deep.LoopGhost
import Derived.Deep.DeepMust
import Derived.BigQuiet
import Derived.Deep.QuietTactic
import Derived.Deep.RegionHeld3
import Derived.Deep.RegionWith
import Derived.Deep.DeepCutAuto
import Derived.Lib.MapLaws
import Derived.Lib.ValidLaws
import Derived.Lib.QuoteLoop
/- Words and small lemmas on memory that all texts of this seat use. No condition. -/
namespace Go.Proofs.YthafeaclpcjjbaaGreatDoor
open Go.RowKit
/-- w' is w with more blocks; of those of w none has turned. -/
def G (w w' : World) : Prop := Below w.heap.size w w'
theorem G.refl (w : World) : G w w := Below.refl _ _
theorem G.size {w w' : World} (h : G w w') : w.heap.size ≤ w'.heap.size := Below.size h
theorem G.trans {a b c : World} (h : G a b) (k : G b c) : G a c := Below.trans h (Below.mono k (Below.size h))
theorem G.keep {a b c : World} (k : G b c) (h : G a b) : G a c := h.trans k
theorem G.drew {a w : World} (h : G a w) : G a w.drew := Below.drew h
theorem G.drewN {a w : World} (h : G a w) (n : Nat) : G a (w.drewN n) := ⟨h.os, h.tape, h.output, h.size, h.block⟩
theorem G.alloc {a w : World} (h : G a w) (o : Obj) : G a (w.alloc o) := Below.alloc h h.size o
theorem G.new (w : World) (o : Obj) : G w (w.alloc o) := (G.refl w).alloc o
theorem G.cell {w w' : World} (h : G w w') {b o : Nat} (hb : b < w.heap.size) : w'.cell? ⟨b, o, none⟩ = w.cell? ⟨b, o, none⟩ := Below.cell (p := ⟨b, o, none⟩) h hb
theorem G.set {a w : World} (h : G a w) {p : Addr} (hp : a.heap.size ≤ p.block) (u : Value) : G a (w.setCell p u) := Below.setCell h hp u
theorem G.grown {a w w' : World} {row : Option Nat} (h : G a w) (hg : w.grownBy w' row) (hr : ∀ k, row = some k → a.heap.size ≤ k) : G a w' := Below.grown h hg h.size hr
/-- A slice value whose address is A reads as the list xs, each element as the cells that f gives, sz of them; it lies below block B. -/
def Sl {α : Type} (f : α → List Value) (sz : Nat) (w : World) (B : Nat) (A : Option Addr) (xs : List α) : Prop :=
 xs ≠ [] → ∃ b o, A = some ⟨b, o, none⟩ ∧ b < B ∧ ∀ k x, xs[k]? = some x → ∀ j u, (f x)[j]? = some u → w.cell? ⟨b, o + k * sz + j, none⟩ = some u
section
variable {α : Type} {f : α → List Value} {sz : Nat} {w w' : World} {B B' : Nat} {A : Option Addr} {xs : List α}
theorem Sl.nil : Sl f sz w B A [] := fun h => absurd rfl h
theorem Sl.keep (h : Sl f sz w B A xs) (hk : ∀ b o, b < B → w'.cell? ⟨b, o, none⟩ = w.cell? ⟨b, o, none⟩) : Sl f sz w' B A xs := fun hn => by
 obtain ⟨b, o, e, hb, hc⟩ := h hn
 exact ⟨b, o, e, hb, fun k x hx j u hu => (hk _ _ hb).trans (hc k x hx j u hu)⟩
theorem Sl.g (h : Sl f sz w B A xs) (hB : B ≤ w.heap.size) (hg : G w w') : Sl f sz w' B A xs := h.keep fun _ _ hp => hg.cell (Nat.lt_of_lt_of_le hp hB)
theorem Sl.more (h : Sl f sz w B A xs) (hB : B ≤ B') : Sl f sz w B' A xs := fun hn => by
 obtain ⟨b, o, e, hb, hc⟩ := h hn
 exact ⟨b, o, e, by omega, hc⟩
/-- The place of an element that is there. -/
theorem Sl.get {k : Nat} {x : α} (h : Sl f sz w B A xs) (hx : xs[k]? = some x) :
  ∃ b o, A = some ⟨b, o, none⟩ ∧ b < B ∧ ∀ j u, (f x)[j]? = some u → w.cell? ⟨b, o + k * sz + j, none⟩ = some u := by
 obtain ⟨b, o, e, hb, hc⟩ := h (by rintro rfl; simp at hx)
 exact ⟨b, o, e, hb, hc k x hx⟩
/-- Elements of one cell. -/
theorem Sl.get1 {g : α → Value} {k : Nat} {x : α} (h : Sl (fun x => [g x]) 1 w B A xs) (hx : xs[k]? = some x) :
  ∃ b o, A = some ⟨b, o, none⟩ ∧ b < B ∧ w.cell? ⟨b, o + k, none⟩ = some (g x) := by
 obtain ⟨b, o, e, hb, hc⟩ := h.get hx
 exact ⟨b, o, e, hb, by simpa using hc 0 _ rfl⟩
end
theorem flat_get {α : Type} {f : α → List Value} {sz : Nat} (hf : ∀ x, (f x).length = sz) : ∀ (xs : List α) (k : Nat) (x : α), xs[k]? = some x → ∀ j u, (f x)[j]? = some u → (xs.flatMap f)[k * sz + j]? = some u := by
 intro xs
 induction xs with
 | nil => intro k x h; simp at h
 | cons a xs ih =>
  intro k x h j u hu
  have hl := hf a
  cases k with
  | zero =>
   simp at h; subst h
   have hj : j < sz := by rw [← hl]; exact (List.getElem?_eq_some_iff.1 hu).1
   rw [List.flatMap_cons, List.getElem?_append_left (by omega)]
   simpa using hu
  | succ k =>
   rw [List.flatMap_cons, List.getElem?_append_right (by rw [Nat.succ_mul]; omega), hl]
   have := ih k x (by simpa using h) j u hu
   rw [← this, Nat.succ_mul]
   congr 1
   omega
theorem blk_cell {w : World} {g : Nat} {cs : Array Value} {t : TypeId} {fz : Nat × Nat} (h : w.heap[g]? = some (.cells cs t fz)) (i : Nat) : w.cell? ⟨g, i, none⟩ = cs[i]? := by simp [World.cell?, h]
theorem blk_lt {w : World} {g : Nat} {o : Obj} (h : w.heap[g]? = some o) : g < w.heap.size := by
 rcases Nat.lt_or_ge g w.heap.size with h1 | h1
 ·exact h1
 ·rw [Array.getElem?_eq_none h1] at h; cases h
theorem blk_new (w : World) (cs : Array Value) (t : TypeId) : (w.alloc (.cells cs t)).heap[w.heap.size]? = some (.cells cs t (0, 0)) := heap_alloc_new w _
theorem blk_new' (w : World) (cs : Array Value) (t : TypeId) (b : Nat) (hb : b = w.heap.size) : (w.alloc (.cells cs t)).heap[b]? = some (.cells cs t (0, 0)) := by rw [hb]; exact heap_alloc_new w _
theorem G.blk {w w' : World} (h : G w w') {g : Nat} {o : Obj} (hb : w.heap[g]? = some o) : w'.heap[g]? = some o := (h.block g (blk_lt hb)).trans hb
/-- A block that is known whole reads as the list that it holds. -/
theorem Sl.of_blk {α : Type} {f : α → List Value} {sz : Nat} (hf : ∀ x, (f x).length = sz) {w : World} {b B : Nat} {cs : Array Value} {t : TypeId} {fz : Nat × Nat} (xs : List α)
  (h : w.heap[b]? = some (.cells cs t fz)) (hcs : cs.toList = xs.flatMap f) (hB : b < B) : Sl f sz w B (some ⟨b, 0, none⟩) xs := fun _ =>
 ⟨b, 0, rfl, hB, fun k x hx j u hu => by
  rw [Nat.zero_add, blk_cell h, ← Array.getElem?_toList, hcs]
  exact flat_get hf xs k x hx j u hu⟩
def intC (x : Int) : List Value := [.int .i64 x]
def strC (s : ByteArray) : List Value := [.string s]
theorem Sl.int {w : World} {B : Nat} {A : Option Addr} {xs : List Int} {k : Nat} {x : Int} (h : Sl intC 1 w B A xs) (hx : xs[k]? = some x) :
  ∃ b o, A = some ⟨b, o, none⟩ ∧ b < B ∧ w.cell? ⟨b, o + k, none⟩ = some (.int .i64 x) := Sl.get1 (g := Value.int .i64) h hx
theorem Sl.str {w : World} {B : Nat} {A : Option Addr} {xs : List ByteArray} {k : Nat} {x : ByteArray} (h : Sl strC 1 w B A xs) (hx : xs[k]? = some x) :
  ∃ b o, A = some ⟨b, o, none⟩ ∧ b < B ∧ w.cell? ⟨b, o + k, none⟩ = some (.string x) := Sl.get1 (g := Value.string) h hx
/-- A Put as it lies: its Data's address and capacity beside what they hold. -/
structure PutM where
 stream : ByteArray
 expect : Int
 A : Option Addr
 c : Nat
 data : List ByteArray
def PutM.cells (p : PutM) : List Value := [.string p.stream, .int .i64 p.expect, .slice p.A p.data.length p.c]
theorem intC_len (x : Int) : (intC x).length = 1 := rfl
theorem strC_len (x : ByteArray) : (strC x).length = 1 := rfl
theorem PutM.cells_len (p : PutM) : p.cells.length = 3 := rfl
/-- The Puts of a batch. -/
def PutsIn (w : World) (B : Nat) (A : Option Addr) (ps : List PutM) : Prop :=
 Sl PutM.cells 3 w B A ps ∧ ∀ p ∈ ps, Sl strC 1 w B p.A p.data
theorem PutsIn.g {w w' : World} {B : Nat} {A : Option Addr} {ps : List PutM} (h : PutsIn w B A ps) (hB : B ≤ w.heap.size) (hg : G w w') : PutsIn w' B A ps :=
 ⟨h.1.g hB hg, fun p hp => (h.2 p hp).g hB hg⟩
theorem ret_bool {a b : Bool} (h : a = b) : Ending.returned (.bool a) = .returned (.bool b) := by rw [h]
end Go.Proofs.YthafeaclpcjjbaaGreatDoor
/- Numbers and texts as bytes, and read again. Plain mathematics, no program. No condition. -/
namespace Go.Proofs.YthafeaclpcjjbaaGreatDoor
/-- A number in groups of seven digits. -/
def vF : Nat → Nat → List UInt8
 | 0, _ => []
 | n + 1, v => if v < 128 then [UInt8.ofNat v] else UInt8.ofNat (v % 128 + 128) :: vF n (v / 128)
def vL (v : Nat) : List UInt8 := vF 10 v
/-- The number that bytes begin with: i groups were read, acc is what they say. -/
def uF (i acc : Nat) : List UInt8 → Option (Nat × Nat)
 | [] => none
 | x :: l => if 10 ≤ i then none else if 127 < x.toNat then uF (i + 1) (acc + (x.toNat - 128) * 2 ^ (7 * i)) l
  else if (i = 9 ∧ 1 < x.toNat) ∨ (0 < i ∧ x.toNat = 0) then none else some (acc + x.toNat * 2 ^ (7 * i), i + 1)
def uL (l : List UInt8) : Option (Nat × Nat) := uF 0 0 l
theorem nat_u8 {n : Nat} (h : n < 256) : (UInt8.ofNat n).toNat = n := by rw [UInt8.toNat_ofNat']; omega
theorem vF_len : ∀ n v, (vF n v).length ≤ n
 | 0, _ => Nat.le_refl _
 | n + 1, v => by
  unfold vF
  split
  ·simp
  ·have := vF_len n (v / 128)
   simp only [List.length_cons]
   omega
theorem vL_len (v : Nat) : (vL v).length ≤ 10 := vF_len 10 v
theorem vL_pos (v : Nat) : 0 < (vL v).length := by
 unfold vL vF
 split <;> simp
theorem pow_step (i : Nat) : 2 ^ (7 * (i + 1)) = 128 * 2 ^ (7 * i) := by
 rw [Nat.mul_add, Nat.mul_one, Nat.pow_add, Nat.mul_comm]
/-- What was written is read again, whatever stands behind. -/
theorem uF_vF : ∀ (n i acc v : Nat) (q : List UInt8), i + n = 10 → (i = 0 ∨ 0 < v) → v * 2 ^ (7 * i) < 2 ^ 64 → 0 < n → uF i acc (vF n v ++ q) = some (acc + v * 2 ^ (7 * i), i + (vF n v).length)
 | 0, _, _, _, _, _, _, _, h => by omega
 | n + 1, i, acc, v, q, hi, hv, hb, _ => by
  unfold vF
  by_cases h : v < 128
  ·rw [if_pos h]
   show uF i acc (UInt8.ofNat v :: q) = _
   rw [uF, nat_u8 (by omega), if_neg (by omega), if_neg (by omega)]
   have hno : ¬ ((i = 9 ∧ 1 < v) ∨ (0 < i ∧ v = 0)) := by
    rintro (⟨rfl, h1⟩ | ⟨h1, h2⟩)
    ·have : 2 * 2 ^ (7 * 9) ≤ v * 2 ^ (7 * 9) := Nat.mul_le_mul_right _ h1
     omega
    ·omega
   rw [if_neg hno]
   rfl
  ·rw [if_neg h]
   show uF i acc (UInt8.ofNat (v % 128 + 128) :: (vF n (v / 128) ++ q)) = _
   rw [uF, nat_u8 (by omega), if_neg (by omega), if_pos (by omega)]
   have hn : 0 < n := by
    rcases Nat.eq_zero_or_pos n with h0 | h0
    ·subst h0
     have hi9 : i = 9 := by omega
     subst hi9
     have : 128 * 2 ^ (7 * 9) ≤ v * 2 ^ (7 * 9) := Nat.mul_le_mul_right _ (by omega)
     omega
    ·exact h0
   have hb2 : v / 128 * 2 ^ (7 * (i + 1)) ≤ v * 2 ^ (7 * i) := by
    rw [pow_step, ← Nat.mul_assoc]
    exact Nat.mul_le_mul_right _ (Nat.div_mul_le_self v 128)
   rw [uF_vF n (i + 1) _ (v / 128) q (by omega) (.inr (by omega)) (by omega) hn]
   have e : acc + (v % 128 + 128 - 128) * 2 ^ (7 * i) + v / 128 * 2 ^ (7 * (i + 1)) = acc + v * 2 ^ (7 * i) := by
    rw [pow_step, ← Nat.mul_assoc, Nat.add_sub_cancel, Nat.add_assoc, ← Nat.add_mul]
    congr 2
    omega
   rw [e, List.length_cons, Nat.add_assoc i 1, Nat.add_comm 1]
theorem uL_vL {v : Nat} (h : v < 2 ^ 64) (q : List UInt8) : uL (vL v ++ q) = some (v, (vL v).length) := by
 have := uF_vF 10 0 0 v q rfl (.inl rfl) (by simpa using h) (by omega)
 simpa [uL, vL] using this
theorem uF_bd : ∀ (l : List UInt8) (i acc v n : Nat), uF i acc l = some (v, n) → acc < 2 ^ (7 * i) → i < n ∧ n ≤ i + l.length ∧ n ≤ 10 ∧ v < 2 ^ 64
 | [], _, _, _, _, h, _ => by simp [uF] at h
 | x :: l, i, acc, v, n, h, ha => by
  have hx := x.toNat_lt
  rw [uF] at h
  split at h
  ·cases h
  ·rename_i h1
   split at h
   ·rename_i h2
    have hb : acc + (x.toNat - 128) * 2 ^ (7 * i) < 2 ^ (7 * (i + 1)) := by
     have h3 : (x.toNat - 128) * 2 ^ (7 * i) ≤ 127 * 2 ^ (7 * i) := Nat.mul_le_mul_right _ (by omega)
     rw [pow_step]
     omega
    obtain ⟨k1, k2, k3, k4⟩ := uF_bd l (i + 1) _ v n h hb
    simp only [List.length_cons]
    exact ⟨by omega, by omega, k3, k4⟩
   ·rename_i h2
    split at h
    ·cases h
    ·rename_i h3
     simp only [Option.some.injEq, Prod.mk.injEq] at h
     obtain ⟨rfl, rfl⟩ := h
     rw [not_or] at h3
     simp only [List.length_cons]
     refine ⟨by omega, by omega, by omega, ?_⟩
     by_cases h9 : i = 9
     ·subst h9
      have h4 : x.toNat * 2 ^ (7 * 9) ≤ 1 * 2 ^ (7 * 9) := Nat.mul_le_mul_right _ (by omega)
      omega
     ·have h4 : x.toNat * 2 ^ (7 * i) ≤ 127 * 2 ^ (7 * i) := Nat.mul_le_mul_right _ (by omega)
      have h5 : 2 ^ (7 * i) ≤ 2 ^ (7 * 8) := Nat.pow_le_pow_right (by omega) (by omega)
      omega
theorem uL_bd {l : List UInt8} {v n : Nat} (h : uL l = some (v, n)) : 0 < n ∧ n ≤ l.length ∧ n ≤ 10 ∧ v < 2 ^ 64 := by
 have := uF_bd l 0 0 v n h (by simp)
 omega
/-! Readers: what bytes begin with, and what is left. -/
def dNum (l : List UInt8) : Option (Nat × List UInt8) :=
 match uL l with
 | some (v, n) => some (v, l.drop n)
 | none => none
def dCount (most : Nat) (l : List UInt8) : Option (Nat × List UInt8) :=
 match dNum l with
 | some (v, r) => if v ≤ most then some (v, r) else none
 | none => none
/-- A text behind its length: the text's bytes, and how many bytes both take. -/
def tL (l : List UInt8) : Option (List UInt8 × Nat) :=
 match uL l with
 | some (v, n) => if v ≤ l.length - n then some ((l.drop n).take v, n + v) else none
 | none => none
def dText (l : List UInt8) : Option (List UInt8 × List UInt8) :=
 match tL l with
 | some (s, n) => some (s, l.drop n)
 | none => none
def textL (s : List UInt8) : List UInt8 := vL s.length ++ s
theorem dNum_v {v : Nat} (h : v < 2 ^ 64) (q : List UInt8) : dNum (vL v ++ q) = some (v, q) := by
 unfold dNum
 rw [uL_vL h]
 simp
theorem dCount_v {v m : Nat} (h : v < 2 ^ 64) (hm : v ≤ m) (q : List UInt8) : dCount m (vL v ++ q) = some (v, q) := by
 unfold dCount
 rw [dNum_v h]
 simp [hm]
theorem dText_t {s : List UInt8} (h : s.length < 2 ^ 64) (q : List UInt8) : dText (textL s ++ q) = some (s, q) := by
 unfold dText tL textL
 rw [List.append_assoc, uL_vL h]
 have e : s.length ≤ (vL s.length ++ (s ++ q)).length - (vL s.length).length := by simp
 dsimp only
 rw [if_pos e]
 dsimp only
 rw [← List.drop_drop, List.drop_left, List.take_left, List.drop_left]
theorem tL_bd {l s : List UInt8} {n : Nat} (h : tL l = some (s, n)) : 0 < n ∧ n ≤ l.length ∧ s.length < n := by
 unfold tL at h
 cases hu : uL l with
 | none => rw [hu] at h; cases h
 | some x =>
  obtain ⟨v, k⟩ := x
  rw [hu] at h
  simp only at h
  have hb := uL_bd hu
  split at h
  ·rename_i hv
   simp only [Option.some.injEq, Prod.mk.injEq] at h
   obtain ⟨rfl, rfl⟩ := h
   rw [List.length_take, List.length_drop]
   omega
  ·cases h
end Go.Proofs.YthafeaclpcjjbaaGreatDoor
/- A world that is another one but for some blocks. No condition. -/
namespace Go.Proofs.YthafeaclpcjjbaaGreatDoor
open Go.RowKit
/-- w' is w with more blocks, and but for the blocks that S names. -/
structure But (S : Nat → Prop) (w w' : World) : Prop where
 os : w'.os = w.os
 tape : w'.tape = w.tape
 output : w'.output = w.output
 size : w.heap.size ≤ w'.heap.size
 block : ∀ k, k < w.heap.size → ¬ S k → w'.heap[k]? = w.heap[k]?
theorem But.refl (S : Nat → Prop) (w : World) : But S w w := ⟨rfl, rfl, rfl, Nat.le_refl _, fun _ _ _ => rfl⟩
theorem But.of_g {S : Nat → Prop} {w w' : World} (h : G w w') : But S w w' := ⟨h.os, h.tape, h.output, h.size, fun k hk _ => h.block k hk⟩
theorem But.of_grown {S : Nat → Prop} {w w' : World} {row : Option Nat} (h : w.grownBy w' row) (hr : ∀ k, row = some k → S k) : But S w w' :=
 ⟨h.os, h.tape, h.output, h.size, fun k hk hS => h.block k hk fun e => hS (hr k e.symm)⟩
theorem But.trans {S : Nat → Prop} {a b c : World} (h : But S a b) (k : But S b c) : But S a c :=
 ⟨k.os.trans h.os, k.tape.trans h.tape, k.output.trans h.output, Nat.le_trans h.size k.size, fun i hi hS => (k.block i (Nat.lt_of_lt_of_le hi h.size) hS).trans (h.block i hi hS)⟩
theorem But.g {S : Nat → Prop} {a b c : World} (h : But S a b) (k : G b c) : But S a c := h.trans (.of_g k)
theorem But.mono {S T : Nat → Prop} {a b : World} (h : But S a b) (hS : ∀ k, k < a.heap.size → S k → T k) : But T a b := ⟨h.os, h.tape, h.output, h.size, fun k hk hT => h.block k hk fun e => hT (hS k hk e)⟩
/-- Blocks of a that S names lie from a base on: nothing below it has turned. -/
theorem But.below {S : Nat → Prop} {a b : World} (h : But S a b) {B : Nat} (hB : B ≤ a.heap.size) (hS : ∀ k, k < a.heap.size → S k → B ≤ k) : Below B a b :=
 ⟨h.os, h.tape, h.output, h.size, fun k hk => h.block k (by omega) fun e => by have := hS k (by omega) e; omega⟩
theorem But.blk {S : Nat → Prop} {a b : World} (h : But S a b) {k : Nat} {o : Obj} (hk : a.heap[k]? = some o) (hS : ¬ S k) : b.heap[k]? = some o := (h.block k (blk_lt hk) hS).trans hk
theorem But.cell {S : Nat → Prop} {a b : World} (h : But S a b) {k o : Nat} (hk : k < a.heap.size) (hS : ¬ S k) : b.cell? ⟨k, o, none⟩ = a.cell? ⟨k, o, none⟩ := World.cell?_of_block (w := a) (h.block k hk hS)
theorem But.set {S : Nat → Prop} {a b : World} (h : But S a b) {p : Addr} (hp : a.heap.size ≤ p.block ∨ S p.block) (u : Value) : But S a (b.setCell p u) := by
 have k := (Below.refl 0 b).setCell (p := p) (Nat.zero_le _) u
 refine ⟨k.os.trans h.os, k.tape.trans h.tape, k.output.trans h.output, Nat.le_trans h.size k.size, fun i hi hS => ?_⟩
 refine (Below.heap_setCell _ _ _ _ ?_).trans (h.block i hi hS)
 rintro rfl
 rcases hp with hp | hp
 ·omega
 ·exact hS hp
/-- Behind w some more blocks turn, of which each is new since a, or one that S names. -/
theorem But.over {S : Nat → Prop} {a b c : World} {g : Nat} (h : But S a b) (k : But (fun k => k = g) b c) (hS : ∀ k, k = g → (a.heap.size ≤ k ∨ S k)) : But S a c :=
 ⟨k.os.trans h.os, k.tape.trans h.tape, k.output.trans h.output, Nat.le_trans h.size k.size, fun i hi hn => (k.block i (Nat.lt_of_lt_of_le hi h.size) (fun e => by
  rcases hS i e with h1 | h1
  ·omega
  ·exact hn h1)).trans (h.block i hi hn)⟩
end Go.Proofs.YthafeaclpcjjbaaGreatDoor
/- A text's runes, as the decoder tells them: a list of pieces, each its bytes and its rune. Plain Lean. No condition. -/
namespace Go.Proofs.YthafeaclpcjjbaaGreatDoor
open Go.Lib
structure Ck where
 bs : List UInt8
 r : Nat
 deriving DecidableEq
def cksF : Nat → List UInt8 → List Ck
 | 0, _ => []
 | n + 1, l => if l = [] then [] else ⟨l.take (decodeL l).2, (decodeL l).1⟩ :: cksF n (l.drop (decodeL l).2)
def cks (l : List UInt8) : List Ck := cksF l.length l
theorem cksF_nil : ∀ n, cksF n [] = []
 | 0 => rfl
 | n + 1 => by simp [cksF]
theorem cksF_fuel : ∀ (n m : Nat) (l : List UInt8), l.length ≤ n → l.length ≤ m → cksF n l = cksF m l
 | 0, m, l, h, _ => by
  obtain rfl : l = [] := List.eq_nil_of_length_eq_zero (by omega)
  rw [cksF_nil, cksF_nil]
 | n + 1, 0, l, _, h => by
  obtain rfl : l = [] := List.eq_nil_of_length_eq_zero (by omega)
  rw [cksF_nil, cksF_nil]
 | n + 1, m + 1, l, h, h' => by
  simp only [cksF]
  split
  ·rfl
  ·have := decodeL_width l
   rw [cksF_fuel n m _ (by rw [List.length_drop]; omega) (by rw [List.length_drop]; omega)]
theorem cks_nil : cks [] = [] := rfl
theorem cks_step {l : List UInt8} (h : l ≠ []) : cks l = ⟨l.take (decodeL l).2, (decodeL l).1⟩ :: cks (l.drop (decodeL l).2) := by
 have hl : 0 < l.length := List.length_pos_iff.2 h
 have hw := decodeL_width l
 obtain ⟨n, hn⟩ : ∃ n, l.length = n + 1 := ⟨l.length - 1, by omega⟩
 unfold cks
 rw [hn, cksF, if_neg h, cksF_fuel n _ _ (by rw [List.length_drop]; omega) (Nat.le_refl _)]
/-- All bytes of some pieces. -/
def flat (cs : List Ck) : List UInt8 := cs.flatMap Ck.bs
theorem flat_nil : flat [] = [] := rfl
theorem flat_cons (c : Ck) (cs : List Ck) : flat (c :: cs) = c.bs ++ flat cs := List.flatMap_cons
theorem flat_append (a b : List Ck) : flat (a ++ b) = flat a ++ flat b := List.flatMap_append
theorem cks_ind {P : List UInt8 → Prop} (h0 : P []) (hs : ∀ l, l ≠ [] → P (l.drop (decodeL l).2) → P l) (l : List UInt8) : P l := by
 have h : ∀ (n : Nat) (l : List UInt8), l.length ≤ n → P l := by
  intro n
  induction n with
  | zero =>
   intro l hl
   obtain rfl : l = [] := List.eq_nil_of_length_eq_zero (by omega)
   exact h0
  | succ n ih =>
   intro l hl
   by_cases hn : l = []
   ·rw [hn]; exact h0
   ·have hw := decodeL_width l
    have := List.length_pos_iff.2 hn
    exact hs l hn (ih _ (by rw [List.length_drop]; omega))
 exact h _ l (Nat.le_refl _)
theorem flat_cks (l : List UInt8) : flat (cks l) = l := by
 induction l using cks_ind with
 | h0 => rfl
 | hs l h ih => rw [cks_step h, flat_cons, ih, List.take_append_drop]
/-- A byte that begins nothing. -/
def Ck.bad (c : Ck) : Bool := decide (c.r = 65533 ∧ c.bs.length = 1)
theorem validD_cks (l : List UInt8) : validD l = (cks l).all fun c => !c.bad := by
 induction l using cks_ind with
 | h0 => rfl
 | hs l h ih =>
  have hle := decodeL_le l h
  have hw := decodeL_width l
  rw [cks_step h, List.all_cons, ← ih, validD_step l h]
  have e : (⟨l.take (decodeL l).2, (decodeL l).1⟩ : Ck).bad = decide ((decodeL l).1 = 65533 ∧ (decodeL l).2 = 1) := by
   unfold Ck.bad
   simp only [List.length_take]
   rw [Nat.min_eq_left hle]
  rw [e]
  by_cases hb : (decodeL l).1 = 65533 ∧ (decodeL l).2 = 1
  ·rw [if_pos hb, decide_eq_true hb]; rfl
  ·rw [if_neg hb, decide_eq_false hb]; simp
/-- What a piece is. -/
def Ck.ok (c : Ck) : Prop := (c.bad = true ∧ ∃ b : UInt8, c.bs = [b] ∧ 128 ≤ b.toNat) ∨ (c.bad = false ∧ c.bs = encodeRune (c.r : Int) ∧ validRune (c.r : Int) = true)
theorem decodeL_valid (l : List UInt8) (_h : l ≠ []) : validRune ((decodeL l).1 : Int) = true := by
 rw [decodeL_N]
 have h := decodeN_valid l.length (l.getD 0 0).toNat (l.getD 1 0).toNat (l.getD 2 0).toNat (l.getD 3 0).toNat (UInt8.toNat_lt _)
 unfold validRune
 simp only [decide_eq_true_eq]
 omega
theorem decodeL_bad_byte {l : List UInt8} (_h : l ≠ []) (hb : (decodeL l).1 = 65533 ∧ (decodeL l).2 = 1) : 128 ≤ (l.getD 0 0).toNat := by
 rcases Nat.lt_or_ge (l.getD 0 0).toNat 128 with h1 | h1
 ·rw [decodeL_N, decodeN_ascii _ _ _ _ _ h1] at hb
  omega
 ·exact h1
theorem cks_head_ok {l : List UInt8} (h : l ≠ []) : (⟨l.take (decodeL l).2, (decodeL l).1⟩ : Ck).ok := by
 have hle := decodeL_le l h
 have hlen : (l.take (decodeL l).2).length = (decodeL l).2 := by rw [List.length_take, Nat.min_eq_left hle]
 by_cases hb : (decodeL l).1 = 65533 ∧ (decodeL l).2 = 1
 ·left
  refine ⟨by simp only [Ck.bad, hlen]; exact decide_eq_true hb, l.getD 0 0, ?_, decodeL_bad_byte h hb⟩
  rw [hb.2]
  exact takeA l (List.length_pos_iff.2 h)
 ·right
  exact ⟨by simp only [Ck.bad, hlen]; exact decide_eq_false hb, (encode_decode l h hb).symm, decodeL_valid l h⟩
theorem cks_ok (l : List UInt8) : ∀ c ∈ cks l, c.ok := by
 induction l using cks_ind with
 | h0 => intro c hc; cases hc
 | hs l h ih =>
  intro c hc
  rw [cks_step h] at hc
  rcases List.mem_cons.1 hc with rfl | hc
  ·exact cks_head_ok h
  ·exact ih c hc
theorem Ck.ok.len {c : Ck} (h : c.ok) : 1 ≤ c.bs.length ∧ c.bs.length ≤ 4 := by
 rcases h with ⟨_, b, h, _⟩ | ⟨_, h, _⟩
 ·rw [h]; simp
 ·rw [h]
  have := encodeRuneZ_length (c.r : Int)
  simpa [encodeRune] using this
theorem cks_length_le (l : List UInt8) : (cks l).length ≤ l.length := by
 induction l using cks_ind with
 | h0 => simp [cks_nil]
 | hs l h ih =>
  have hw := decodeL_width l
  have := List.length_pos_iff.2 h
  rw [cks_step h, List.length_cons]
  rw [List.length_drop] at ih
  omega
/-- Where a piece begins. -/
def off (l : List UInt8) (k : Nat) : Nat := (flat ((cks l).take k)).length
theorem off_zero (l : List UInt8) : off l 0 = 0 := rfl
theorem take_snoc' {α : Type} {l : List α} {k : Nat} {x : α} (h : l[k]? = some x) : l.take (k + 1) = l.take k ++ [x] := by
 rw [List.take_add_one, h]; rfl
theorem off_succ {l : List UInt8} {k : Nat} {c : Ck} (h : (cks l)[k]? = some c) : off l (k + 1) = off l k + c.bs.length := by
 unfold off
 rw [take_snoc' h, flat_append, List.length_append, flat_cons, flat_nil, List.append_nil]
theorem off_le (l : List UInt8) (k : Nat) : off l k ≤ l.length := by
 have h := flat_cks l
 rw [← List.take_append_drop k (cks l), flat_append] at h
 have := congrArg List.length h
 rw [List.length_append] at this
 unfold off
 omega
theorem off_drop (l : List UInt8) (k : Nat) : l.drop (off l k) = flat ((cks l).drop k) := by
 have h := flat_cks l
 rw [← List.take_append_drop k (cks l), flat_append] at h
 unfold off
 generalize flat ((cks l).take k) = a at *
 generalize flat ((cks l).drop k) = b at *
 rw [← h, List.drop_left]
/-- From a piece's place on stand the pieces from it on. -/
theorem cks_drop (l : List UInt8) : ∀ k, cks (l.drop (off l k)) = (cks l).drop k := by
 induction l using cks_ind with
 | h0 => intro k; simp [cks_nil]
 | hs l h ih =>
  intro k
  cases k with
  | zero => simp [off_zero]
  | succ k =>
   have e : off l (k + 1) = (decodeL l).2 + off (l.drop (decodeL l).2) k := by
    unfold off
    rw [cks_step h, List.take_succ_cons, flat_cons, List.length_append, List.length_take, Nat.min_eq_left (decodeL_le l h)]
   rw [e, ← List.drop_drop, ih k, cks_step h, List.drop_succ_cons]
theorem off_lt {l : List UInt8} {k : Nat} : off l k < l.length ↔ k < (cks l).length := by
 constructor
 ·intro h
  rcases Nat.lt_or_ge k (cks l).length with h1 | h1
  ·exact h1
  ·have h2 := off_drop l k
   rw [List.drop_eq_nil_of_le h1, flat_nil] at h2
   have := congrArg List.length h2
   rw [List.length_drop] at this
   simp at this
   omega
 ·intro h
  have h2 := cks_drop l k
  rcases Nat.lt_or_ge (off l k) l.length with h1 | h1
  ·exact h1
  ·rw [List.drop_eq_nil_of_le h1, cks_nil] at h2
   have := congrArg List.length h2
   rw [List.length_drop] at this
   simp at this
   omega
theorem off_end (l : List UInt8) : off l (cks l).length = l.length := by
 have h1 := off_le l (cks l).length
 rcases Nat.lt_or_ge (off l (cks l).length) l.length with h | h
 ·have := off_lt.1 h; omega
 ·omega
theorem cks_at {l : List UInt8} {k : Nat} (h : k < (cks l).length) : (cks l)[k]? = some ⟨(l.drop (off l k)).take (decodeL (l.drop (off l k))).2, (decodeL (l.drop (off l k))).1⟩ := by
 have h1 := cks_drop l k
 have h2 : l.drop (off l k) ≠ [] := by
  intro e
  have := congrArg List.length e
  rw [List.length_drop] at this
  have := off_lt.2 h
  simp at *
  omega
 rw [cks_step h2] at h1
 have h3 := congrArg (·[0]?) h1
 simp only [List.getElem?_cons_zero, List.getElem?_drop, Nat.add_zero] at h3
 exact h3.symm
/-- What the range over a text tells at a piece's place. -/
theorem decode_off {s : ByteArray} {k : Nat} {c : Ck} (h : (cks s.data.toList)[k]? = some c) : (Utf8.decode s (off s.data.toList k)).1 = c.r ∧ off s.data.toList k + (Utf8.decode s (off s.data.toList k)).2 = off s.data.toList (k + 1) ∧ off s.data.toList k < s.size := by
 have hk : k < (cks s.data.toList).length := (List.getElem?_eq_some_iff.1 h).1
 have h1 := cks_at hk
 rw [h] at h1
 have h2 := off_lt.2 hk
 have h3 : s.data.toList.drop (off s.data.toList k) ≠ [] := by
  intro e
  have := congrArg List.length e
  rw [List.length_drop] at this
  simp only [List.length_nil] at this
  omega
 have h4 := decodeL_le _ h3
 simp only [Option.some.injEq] at h1
 rw [off_succ h, h1]
 rw [decodeL_drop] at *
 refine ⟨rfl, ?_, by simpa using h2⟩
 simp only [List.length_take]
 rw [Nat.min_eq_left h4]
/-- Has a text no byte that begins nothing? -/
def validB (s : ByteArray) : Bool := (cks s.data.toList).all fun c => !c.bad
theorem validB_eq (s : ByteArray) : validD s.data.toList = validB s := validD_cks _
end Go.Proofs.YthafeaclpcjjbaaGreatDoor

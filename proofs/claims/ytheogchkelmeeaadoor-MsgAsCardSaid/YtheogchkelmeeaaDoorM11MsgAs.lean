/- Several texts in one: RdS, OwnStr. -/
import Derived.Test.YtheogchkelmeeaaDoorM7MsgAs
import Derived.Test.YtheogchkelmeeaaDoorEvLawQMsgAs
import Derived.Test.YtheogchkelmeeaaDoorM5MsgAs
import Derived.Lib.AppendStr
/- Readers of bytes behind a pointer: what they hold, how they stand. No condition. -/
namespace Go.Proofs.YtheogchkelmeeaaDoor
open Go.RowKit

/-- A reader behind a pointer: its bytes, how far it is, whether it is bad. -/
def RdAt (T : TypeId) (R : Nat) (A : Option Addr) (c8 : Nat) (l0 : List UInt8) (p : Nat) (b : Bool) (w : World) : Prop :=
  w.heap[R]? = some (.cells #[.slice A l0.length c8, .int .i64 p, .bool b] T (0, 0)) ∧ Sl byteC 1 w R A l0
section
variable {T : TypeId} {w w' : World} {R : Nat} {A : Option Addr} {c8 : Nat} {l0 : List UInt8} {p : Nat} {b : Bool}
theorem RdAt.lt (h : RdAt T R A c8 l0 p b w) : R < w.heap.size := blk_lt h.1
theorem RdAt.but {S : Nat → Prop} (h : RdAt T R A c8 l0 p b w) (hb : But S w w') (hS : ∀ k, k ≤ R → ¬ S k) : RdAt T R A c8 l0 p b w' :=
  ⟨hb.blk h.1 (hS R (Nat.le_refl _)), h.2.keep fun k o hk => hb.cell (by have := h.lt; omega) (hS k (by omega))⟩
theorem RdAt.g (h : RdAt T R A c8 l0 p b w) (hg : G w w') : RdAt T R A c8 l0 p b w' := h.but (S := fun _ => False) (.of_g hg) (fun _ _ e => e)
theorem RdAt.c0 (h : RdAt T R A c8 l0 p b w) : w.cell? ⟨R, 0, none⟩ = some (.slice A l0.length c8) := by rw [blk_cell h.1]; rfl
theorem RdAt.c1 (h : RdAt T R A c8 l0 p b w) : w.cell? ⟨R, 1, none⟩ = some (.int .i64 p) := by rw [blk_cell h.1]; rfl
theorem RdAt.c2 (h : RdAt T R A c8 l0 p b w) : w.cell? ⟨R, 2, none⟩ = some (.bool b) := by rw [blk_cell h.1]; rfl
theorem RdAt.free (h : RdAt T R A c8 l0 p b w) (o : Nat) : w.frozen? ⟨R, o, none⟩ = false := by simp [World.frozen?, h.1]
theorem blk_put {w : World} {b : Nat} {cs : Array Value} {t : TypeId} {fz : Nat × Nat} (h : w.heap[b]? = some (.cells cs t fz)) (o : Nat) (u : Value) : (w.setCell ⟨b, o, none⟩ u).heap[b]? = some (.cells (cs.setIfInBounds o u) t fz) := by
  rw [setCell_eq_setRow w b o cs t fz u h]
  exact setRow_heap w b cs _ t _ h
theorem but_set (w : World) (R o : Nat) (u : Value) : But (fun k => k = R) w (w.setCell ⟨R, o, none⟩ u) := But.set (S := fun k => k = R) (p := ⟨R, o, none⟩) (But.refl _ w) (.inr rfl) u
theorem RdAt.at (h : RdAt T R A c8 l0 p b w) (q : Nat) : RdAt T R A c8 l0 q b (w.setCell ⟨R, 1, none⟩ (.int .i64 q)) :=
  ⟨by rw [blk_put h.1]; rfl, h.2.keep fun k o hk => (but_set w R 1 _).cell (by have := h.lt; omega) (by omega)⟩
theorem RdAt.bad (h : RdAt T R A c8 l0 p b w) (q : Bool) : RdAt T R A c8 l0 p q (w.setCell ⟨R, 2, none⟩ (.bool q)) :=
  ⟨by rw [blk_put h.1]; rfl, h.2.keep fun k o hk => (but_set w R 2 _).cell (by have := h.lt; omega) (by omega)⟩
end
/-- The reader has so many bytes left; none: it is bad. -/
def RdS (T : TypeId) (R : Nat) (A : Option Addr) (c8 : Nat) (l0 : List UInt8) (st : Option (List UInt8)) (w : World) : Prop :=
  ∃ p, p ≤ l0.length ∧ (∀ l, st = some l → l0.drop p = l) ∧ RdAt T R A c8 l0 p st.isNone w
section
variable {T : TypeId} {w w' : World} {R : Nat} {A : Option Addr} {c8 : Nat} {l0 : List UInt8} {st : Option (List UInt8)}
theorem RdS.lt (h : RdS T R A c8 l0 st w) : R < w.heap.size := by obtain ⟨_, _, _, h⟩ := h; exact h.lt
theorem RdS.but {S : Nat → Prop} (h : RdS T R A c8 l0 st w) (hb : But S w w') (hS : ∀ k, k ≤ R → ¬ S k) : RdS T R A c8 l0 st w' := by
  obtain ⟨p, h1, h2, h3⟩ := h
  exact ⟨p, h1, h2, h3.but hb hS⟩
theorem RdS.g (h : RdS T R A c8 l0 st w) (hg : G w w') : RdS T R A c8 l0 st w' := h.but (S := fun _ => False) (.of_g hg) (fun _ _ e => e)
theorem RdS.c2 (h : RdS T R A c8 l0 st w) : w.cell? ⟨R, 2, none⟩ = some (.bool st.isNone) := by obtain ⟨_, _, _, h⟩ := h; exact h.c2
theorem RdS.free (h : RdS T R A c8 l0 st w) (o : Nat) : w.frozen? ⟨R, o, none⟩ = false := by obtain ⟨_, _, _, h⟩ := h; exact h.free o
theorem RdS.blk (h : RdS T R A c8 l0 st w) : ∃ cs, w.heap[R]? = some (.cells cs T (0, 0)) := by obtain ⟨_, _, _, h⟩ := h; exact ⟨_, h.1⟩
/-- It turns bad. -/
theorem RdS.fail (h : RdS T R A c8 l0 st w) : RdS T R A c8 l0 none (w.setCell ⟨R, 2, none⟩ (.bool true)) := by
  obtain ⟨p, h1, h2, h3⟩ := h
  exact ⟨p, h1, (fun l e => by cases e), h3.bad true⟩
/-- It stays as it is. -/
theorem RdS.stay (h : RdS T R A c8 l0 st w) : RdS T R A c8 l0 st (w.setCell ⟨R, 2, none⟩ (.bool st.isNone)) := by
  obtain ⟨p, h1, h2, h3⟩ := h
  exact ⟨p, h1, h2, h3.bad _⟩
theorem RdS.len {l : List UInt8} (h : RdS T R A c8 l0 (some l) w) : l.length ≤ l0.length := by
  obtain ⟨p, h1, h2, h3⟩ := h
  rw [← h2 l rfl, List.length_drop]
  omega
end
/-- What a reader gives, and how it stands behind. -/
def gv {α : Type} (z : α) (d : Reader α) (st : Option (List UInt8)) : α × Option (List UInt8) :=
  match st with
  | none => (z, none)
  | some l => match d l with
    | none => (z, none)
    | some (x, r) => (x, some r)
section
variable {α : Type} {z x : α} {d : Reader α} {l r : List UInt8}
theorem gv_bad : gv z d none = (z, none) := rfl
theorem gv_none (h : d l = none) : gv z d (some l) = (z, none) := by show (match d l with | none => (z, none) | some (x, r) => (x, some r)) = _; rw [h]
theorem gv_some (h : d l = some (x, r)) : gv z d (some l) = (x, some r) := by show (match d l with | none => (z, none) | some (x, r) => (x, some r)) = _; rw [h]
end
/-- A call gives a value and leaves the reader so. -/
def RdPost (T : TypeId) (R : Nat) (A : Option Addr) (c8 : Nat) (l0 : List UInt8) (w : World) (v : Value) (st : Option (List UInt8)) (e : Ending) (w' : World) : Prop :=
  e = .returned v ∧ RdS T R A c8 l0 st w' ∧ But (fun k => k = R) w w'
/-- What stands from a place on. -/
theorem run_tail (l : List UInt8) (A : Option Addr) (c p : Nat) (hp : p ≤ l.length) (hc : l.length ≤ c) : ∃ A', (∀ w, (Instr.slice 50 (.slice A l.length c) (some (.int .i64 p)) none none).run Tryd.prog w = .ok (.slice A' (l.drop p).length (c - p)) w) ∧
    ∀ w B, Sl byteC 1 w B A l → Sl byteC 1 w B A' (l.drop p) := by
  refine ⟨if c = p then A else A.map (·.add p), fun w => ?_, fun w B hs => ?_⟩
  · have ht : Tryd.prog.underlying 50 = some (.slice (Tryd.prog.elem 50)) := by kernel_rfl
    have hz : ∀ w, (Go.sizeOf (Tryd.prog.elem 50)).run Tryd.prog w = .ok 1 w := fun w => by kernel_rfl
    rw [run_slice_l w 50 A l.length c ht .i64 p (by omega) (by omega), hz]
    simp [Result.andThen, sliced, List.length_drop]
  · by_cases he : c = p
    · rw [if_pos he]
      have : l.drop p = [] := List.drop_of_length_le (by omega)
      rw [this]
      exact Sl.nil
    · rw [if_neg he]
      rcases A with _ | ⟨b, o, sp⟩
      · obtain rfl := hs.of_none
        simp
        exact Sl.nil
      · by_cases hn : l = []
        · subst hn
          simp
          exact Sl.nil
        · obtain ⟨b', o', e, hb, _⟩ := hs hn
          cases e
          have := hs.piece p l.length
          rw [List.take_of_length_le (by simp)] at this
          simpa [Addr.add_lit] using this
end Go.Proofs.YtheogchkelmeeaaDoor
/- append of a text onto a row of bytes of the call's own. No condition. -/
namespace Go.Proofs.YtheogchkelmeeaaDoor
open Go.RowKit Go.Lib

theorem strCells_eq (s : ByteArray) : strCells s = s.data.toList.flatMap byteC := by
  have : ∀ l : List UInt8, l.map (fun b => Value.int .u8 b.toNat) = l.flatMap byteC := fun l => by
    induction l with
    | nil => rfl
    | cons b l ih => simp [byteC, ih]
  unfold strCells
  exact this _
theorem run_append_text (w : World) (ty : TypeId) (base : Nat) (v : Value) (xs : List UInt8) (hown : OwnL 5 1 byteC w base v xs) (s : ByteArray)
    (hlen : xs.length + s.size ≤ 140737488355328) (hbase : base ≤ w.heap.size) :
    ∃ v' w', (Builtin.append_ #[50, 9] ty #[v, .string s]).run Tryd.prog w = .ok v' w' ∧ OwnL 5 1 byteC w' base v' (xs ++ s.data.toList) ∧ KeepT 5 base w w' ∧ But (fun k => some k = v.ownBlock) w w' := by
  obtain ⟨i0, z, hi, hz0, hz1, hz2, hz3⟩ := byte_elem.info
  have hz : i0.zero = some (.int .u8 0) := by
    have h5 : (Tryd.prog.info? 5).bind (·.zero) = some (.int .u8 0) := by kernel_rfl
    rw [hi] at h5
    exact h5
  obtain ⟨v', w', hrun, h1, h2, _⟩ := run_append_own_string (P := Tryd.prog) w base 50 9 ty 5 i0 byte_elem.under Tryd.underlying9 hi hz hz1 hz2 v xs.length (xs.flatMap byteC) hown s (by unfold maxLen; omega) hlen hbase
  refine ⟨v', w', hrun, ?_, ⟨(Below.refl _ _).grown h2 hbase ?_, fun k cs t' fz ht' hh => ?_⟩, .of_grown h2 fun k hk => hk.symm⟩
  · show w'.ownsRow _ _ _ _ _ _
    rw [List.flatMap_append, List.length_append, ← strCells_eq, show s.data.toList.length = s.size by simp]
    exact h1
  · intro k hk
    rcases hown.2 with ⟨rfl, _⟩ | ⟨g, cap, cur, rfl, hbg, hh, _⟩
    · simp [Value.ownBlock] at hk
    · simp [Value.ownBlock] at hk; omega
  · refine (h2.block k (blk_lt hh) ?_).trans hh
    intro hk
    rcases hown.2 with ⟨rfl, _⟩ | ⟨g, cap, cur, rfl, hbg, hh2, _⟩
    · simp [Value.ownBlock] at hk
    · simp [Value.ownBlock] at hk
      subst hk
      rw [hh] at hh2
      simp at hh2
      exact ht' hh2.2.1
theorem wp_append_text {o : Oper} {a : Act} {K : Act → World → Prop} {Q : Exit → Act → World → Prop} (w : World) (x y : Operand)
    (ho : o.op = .call { callee := .builtin .append, args := #[x, y], argTypes := #[50, 9] })
    (base : Nat) (v : Value) (xs : List UInt8) (hv : a.eval x = v) (hown : OwnL 5 1 byteC w base v xs) (s : ByteArray) (hx : a.eval y = .string s)
    (hlen : xs.length + s.size ≤ 140737488355328) (hbase : base ≤ w.heap.size)
    (h : ∀ v' w', OwnL 5 1 byteC w' base v' (xs ++ s.data.toList) → KeepT 5 base w w' → But (fun k => some k = v.ownBlock) w w' → K (a.put o.dst v') w') : o.wp Tryd.prog a w K Q := by
  obtain ⟨v', w', hrun, h2, h3, h4⟩ := run_append_text w o.type base v xs hown s hlen hbase
  unfold Oper.wp execOp
  simp only [ho, resolve, invoke, builtin, Sem.run_bind, Sem.run_pure, Result.andThen_ok, List.map_toArray, List.map_cons, List.map_nil, hv, hx, hrun]
  exact h v' w' h2 h3 h4
theorem wpList_append_text {ops : Array Oper} {rest : List Oper} {o : Oper} {a : Act} {Q : Exit → Act → World → Prop} (w : World) (hgd : o.guard = none) (x y : Operand)
    (ho : o.op = .call { callee := .builtin .append, args := #[x, y], argTypes := #[50, 9] })
    (base : Nat) (v : Value) (xs : List UInt8) (hv : a.eval x = v) (hown : OwnL 5 1 byteC w base v xs) (s : ByteArray) (hx : a.eval y = .string s)
    (hlen : xs.length + s.size ≤ 140737488355328) (hbase : base ≤ w.heap.size)
    (h : ∀ v' w', OwnL 5 1 byteC w' base v' (xs ++ s.data.toList) → KeepT 5 base w w' → But (fun k => some k = v.ownBlock) w w' → wpList Tryd.prog ops Q rest (a.put o.dst v') w') : wpList Tryd.prog ops Q (o :: rest) a w :=
  wpList_plain hgd fun _ hK => wp_append_text w x y ho base v xs hv hown s hx hlen hbase fun v' w' h2 h3 h4 => hK _ _ (h v' w' h2 h3 h4)
theorem step_append_text {ops : Array Oper} {o : Oper} {a : Act} {K : Act → World → Prop} {Q : Exit → Act → World → Prop} {E : Prop} (w : World) (hgd : Region.wanted o (yielded ops a.tmps) = true) (x y : Operand)
    (ho : o.op = .call { callee := .builtin .append, args := #[x, y], argTypes := #[50, 9] })
    (base : Nat) (v : Value) (xs : List UInt8) (hv : a.eval x = v) (hown : OwnL 5 1 byteC w base v xs) (s : ByteArray) (hx : a.eval y = .string s)
    (hlen : xs.length + s.size ≤ 140737488355328) (hbase : base ≤ w.heap.size)
    (h : ∀ v' w', OwnL 5 1 byteC w' base v' (xs ++ s.data.toList) → KeepT 5 base w w' → But (fun k => some k = v.ownBlock) w w' → K (a.put o.dst v') w') :
    if Region.wanted o (yielded ops a.tmps) = true then Oper.wp Tryd.prog o a w K Q else E := by
  rw [if_pos hgd]
  exact wp_append_text w x y ho base v xs hv hown s hx hlen hbase h
end Go.Proofs.YtheogchkelmeeaaDoor

/- append of a text onto a row of bytes of the call's own. No condition. -/
import Derived.Test.YthafeaclpcjjbaaDoorStr
import Derived.Lib.AppendStr
namespace Go.Proofs.YthafeaclpcjjbaaDoor
open Go.RowKit Go.Lib

theorem strCells_eq (s : ByteArray) : strCells s = s.data.toList.flatMap byteC := by
  have : ∀ l : List UInt8, l.map (fun b => Value.int .u8 b.toNat) = l.flatMap byteC := fun l => by
    induction l with
    | nil => rfl
    | cons b l ih => simp [byteC, ih]
  unfold strCells
  exact this _
theorem run_append_text (w : World) (ty : TypeId) (base : Nat) (v : Value) (xs : List UInt8) (hown : OwnL 5 1 byteC w base v xs) (s : ByteArray)
    (hlen : xs.length + s.size ≤ 140737488355328) (hbase : base ≤ w.heap.size) :
    ∃ v' w', (Builtin.append_ #[39, 9] ty #[v, .string s]).run Tryd.prog w = .ok v' w' ∧ OwnL 5 1 byteC w' base v' (xs ++ s.data.toList) ∧ KeepT 5 base w w' ∧ But (fun k => some k = v.ownBlock) w w' := by
  obtain ⟨i0, z, hi, hz0, hz1, hz2, hz3⟩ := byte_elem.info
  have hz : i0.zero = some (.int .u8 0) := by
    have h5 : (Tryd.prog.info? 5).bind (·.zero) = some (.int .u8 0) := by kernel_rfl
    rw [hi] at h5
    exact h5
  obtain ⟨v', w', hrun, h1, h2, _⟩ := run_append_own_string (P := Tryd.prog) w base 39 9 ty 5 i0 byte_elem.under Tryd.underlying9 hi hz hz1 hz2 v xs.length (xs.flatMap byteC) hown s (by unfold maxLen; omega) hlen hbase
  refine ⟨v', w', hrun, ?_, ⟨(Below.refl _ _).grown h2 hbase ?_, fun k cs t' fz ht' hh => ?_⟩, .of_grown h2 fun k hk => hk.symm⟩
  · show w'.ownsRow _ _ _ _ _ _
    rw [List.flatMap_append, List.length_append, ← strCells_eq, show s.data.toList.length = s.size by simp]
    exact h1
  · intro k hk
    rcases hown.2 with ⟨rfl, _⟩ | ⟨g, cap, cur, rfl, hbg, hh, _⟩
    · simp [Value.ownBlock] at hk
    · simp [Value.ownBlock] at hk; omega
  · refine (h2.block k (blk_lt hh) ?_).trans hh
    intro hk
    rcases hown.2 with ⟨rfl, _⟩ | ⟨g, cap, cur, rfl, hbg, hh2, _⟩
    · simp [Value.ownBlock] at hk
    · simp [Value.ownBlock] at hk
      subst hk
      rw [hh] at hh2
      simp at hh2
      exact ht' hh2.2.1
theorem wp_append_text {o : Oper} {a : Act} {K : Act → World → Prop} {Q : Exit → Act → World → Prop} (w : World) (x y : Operand)
    (ho : o.op = .call { callee := .builtin .append, args := #[x, y], argTypes := #[39, 9] })
    (base : Nat) (v : Value) (xs : List UInt8) (hv : a.eval x = v) (hown : OwnL 5 1 byteC w base v xs) (s : ByteArray) (hx : a.eval y = .string s)
    (hlen : xs.length + s.size ≤ 140737488355328) (hbase : base ≤ w.heap.size)
    (h : ∀ v' w', OwnL 5 1 byteC w' base v' (xs ++ s.data.toList) → KeepT 5 base w w' → But (fun k => some k = v.ownBlock) w w' → K (a.put o.dst v') w') : o.wp Tryd.prog a w K Q := by
  obtain ⟨v', w', hrun, h2, h3, h4⟩ := run_append_text w o.type base v xs hown s hlen hbase
  unfold Oper.wp execOp
  simp only [ho, resolve, invoke, builtin, Sem.run_bind, Sem.run_pure, Result.andThen_ok, List.map_toArray, List.map_cons, List.map_nil, hv, hx, hrun]
  exact h v' w' h2 h3 h4
theorem wpList_append_text {ops : Array Oper} {rest : List Oper} {o : Oper} {a : Act} {Q : Exit → Act → World → Prop} (w : World) (hgd : o.guard = none) (x y : Operand)
    (ho : o.op = .call { callee := .builtin .append, args := #[x, y], argTypes := #[39, 9] })
    (base : Nat) (v : Value) (xs : List UInt8) (hv : a.eval x = v) (hown : OwnL 5 1 byteC w base v xs) (s : ByteArray) (hx : a.eval y = .string s)
    (hlen : xs.length + s.size ≤ 140737488355328) (hbase : base ≤ w.heap.size)
    (h : ∀ v' w', OwnL 5 1 byteC w' base v' (xs ++ s.data.toList) → KeepT 5 base w w' → But (fun k => some k = v.ownBlock) w w' → wpList Tryd.prog ops Q rest (a.put o.dst v') w') : wpList Tryd.prog ops Q (o :: rest) a w :=
  wpList_plain hgd fun _ hK => wp_append_text w x y ho base v xs hv hown s hx hlen hbase fun v' w' h2 h3 h4 => hK _ _ (h v' w' h2 h3 h4)
theorem step_append_text {ops : Array Oper} {o : Oper} {a : Act} {K : Act → World → Prop} {Q : Exit → Act → World → Prop} {E : Prop} (w : World) (hgd : Region.wanted o (yielded ops a.tmps) = true) (x y : Operand)
    (ho : o.op = .call { callee := .builtin .append, args := #[x, y], argTypes := #[39, 9] })
    (base : Nat) (v : Value) (xs : List UInt8) (hv : a.eval x = v) (hown : OwnL 5 1 byteC w base v xs) (s : ByteArray) (hx : a.eval y = .string s)
    (hlen : xs.length + s.size ≤ 140737488355328) (hbase : base ≤ w.heap.size)
    (h : ∀ v' w', OwnL 5 1 byteC w' base v' (xs ++ s.data.toList) → KeepT 5 base w w' → But (fun k => some k = v.ownBlock) w w' → K (a.put o.dst v') w') :
    if Region.wanted o (yielded ops a.tmps) = true then Oper.wp Tryd.prog o a w K Q else E := by
  rw [if_pos hgd]
  exact wp_append_text w x y ho base v xs hv hown s hx hlen hbase h
end Go.Proofs.YthafeaclpcjjbaaDoor

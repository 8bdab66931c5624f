/- A struct that is a block of its own is loaded whole. No condition. -/
import Derived.Test.YthhhobfdlgmjlaaDoorOwnButQFeedTwo
import Derived.Deep.MidRow
namespace Go.Proofs.YthhhobfdlgmjlaaDoor
open Go.RowKit

theorem load_blk {P : Program} {W : World} {b : Nat} {cs : Array Value} {t T : TypeId} {fz : Nat × Nat} {d : TypeDesc} (h : W.heap[b]? = some (.cells cs t fz)) (hu : P.underlying T = some d) (hd : d.isRow = true) (hi : (P.info? T).map (·.size) = some cs.size) :
    (Instr.loadAt T (.pointer (some ⟨b, 0, none⟩))).run P W = .ok (.agg cs) W := by
  have := run_loadAt_mid (P := P) W b 0 T cs.toList d (fun j v hv => by rw [Nat.zero_add, blk_cell h]; simpa using hv) hu hd (by simpa using hi)
  simpa using this
/-- The operation, by what the load answers: an arm of the walk's. -/
theorem wp_load_at {P : Program} {op : Oper} {a : Act} {w : World} {K : Act → World → Prop} {Q : Exit → Act → World → Prop} {ty : TypeId} {x : Operand} (ho : op.op = .load ty x) {p v : Value} (hx : a.eval x = p) (hl : (Instr.loadAt ty p).run P w = .ok v w)
    (h : K (a.put op.dst v) w) : op.wp P a w K Q := by
  unfold Oper.wp execOp
  simp only [ho, hx, Sem.run_bind, Sem.run_pure, Result.andThen_ok, hl]
  exact h
/-- The same, at a list of operations: guarded or not. -/
theorem wpList_load_at {P : Program} {ops : Array Oper} {rest : List Oper} {op : Oper} {a : Act} {w : World} {Q : Exit → Act → World → Prop} {ty : TypeId} {x : Operand} (ho : op.op = .load ty x) (hg : Region.wanted op (yielded ops a.tmps) = true) {p v : Value} (hx : a.eval x = p)
    (hl : (Instr.loadAt ty p).run P w = .ok v w) (h : wpList P ops Q rest (a.put op.dst v) w) : wpList P ops Q (op :: rest) a w :=
  wpList_step fun K hK => by
    rw [if_pos hg]
    exact wp_load_at ho hx hl (hK _ _ h)
theorem setCells_stc (b : Nat) : ∀ (vs : List Value) (o : Nat) (w : World), w.setCells b o vs = stc w b o vs
  | [], _, _ => rfl
  | v :: r, o, w => setCells_stc b r (o + 1) (w.setCell ⟨b, o, none⟩ v)
/-- A struct is laid whole into a block of its own. -/
theorem store_blk {P : Program} {W : World} {b : Nat} {old cs : Array Value} {t T : TypeId} (h : W.heap[b]? = some (.cells old t (0, 0))) (hz : old.size = cs.size) (hi : (P.info? T).map (·.size) = some cs.size) (h1 : cs.all (·.oneCell') = true) :
    ∃ W', (Instr.storeAt T (.pointer (some ⟨b, 0, none⟩)) (.agg cs)).run P W = .ok () W' ∧ W'.heap[b]? = some (.cells cs t (0, 0)) ∧ But (fun k => k = b) W W' ∧ ∀ w0, G w0 W → w0.heap.size ≤ b → G w0 W' := by
  refine ⟨_, run_storeAt_mid (P := P) W b 0 T cs (fun j hj => ?_) hi h1, ?_, ?_, ?_⟩
  · rw [Nat.zero_add, blk_cell h]
    refine ⟨?_, by simp [World.frozen?, h]⟩
    rw [Array.getElem?_eq_getElem (by omega)]
    rfl
  · rw [setCells_stc, stc_blk cs.toList h (by simpa using hz)]
  · rw [setCells_stc]
    exact stc_but (fun k => k = b) b rfl cs.toList W W 0 (But.refl _ _)
  · intro w0 hg hb
    rw [setCells_stc]
    exact G.stc cs.toList hg hb
theorem wp_store_at {P : Program} {op : Oper} {a : Act} {w w' : World} {K : Act → World → Prop} {Q : Exit → Act → World → Prop} {ty : TypeId} {x y : Operand} (ho : op.op = .store ty x y) {p v : Value} (hx : a.eval x = p) (hy : a.eval y = v) (hl : (Instr.storeAt ty p v).run P w = .ok () w')
    (h : K (a.put op.dst undef) w') : op.wp P a w K Q := by
  unfold Oper.wp execOp
  simp only [ho, hx, hy, Sem.run_bind, Sem.run_pure, Result.andThen_ok, hl]
  exact h
theorem wpList_store_at {P : Program} {ops : Array Oper} {rest : List Oper} {op : Oper} {a : Act} {w w' : World} {Q : Exit → Act → World → Prop} {ty : TypeId} {x y : Operand} (ho : op.op = .store ty x y) (hg : Region.wanted op (yielded ops a.tmps) = true) {p v : Value} (hx : a.eval x = p) (hy : a.eval y = v)
    (hl : (Instr.storeAt ty p v).run P w = .ok () w') (h : wpList P ops Q rest (a.put op.dst undef) w') : wpList P ops Q (op :: rest) a w :=
  wpList_step fun K hK => by
    rw [if_pos hg]
    exact wp_store_at ho hx hy hl (hK _ _ h)
/-- A struct result that is a block of its own. -/
theorem results_cell {P : Program} {fn : Func} {tmps : Array Value} {W : World} {i b : Nat} {cs : Array Value} {t T : TypeId} {fz : Nat × Nat} {d : TypeDesc} (hr : fn.results = #[.cell i T]) (hp : tmps.getD i undef = .pointer (some ⟨b, 0, none⟩)) (h : W.heap[b]? = some (.cells cs t fz)) (hu : P.underlying T = some d) (hd : d.isRow = true) (hi : (P.info? T).map (·.size) = some cs.size) :
    (results fn tmps).run P W = .ok (.agg cs) W := by
  have h2 := run_loadVar_mid (P := P) W b 0 T cs.toList d (fun j v hv => by rw [Nat.zero_add, blk_cell h]; simpa using hv) hu hd (by simpa using hi)
  have h3 : (asAddr (tmps.getD i undef)).run P W = .ok ⟨b, 0, none⟩ W := by rw [hp]; rfl
  have h4 : (tmps[i]?.getD undef) = tmps.getD i undef := by simp [Array.getD_eq_getD_getElem?]
  unfold results
  rw [hr]
  simp only [List.mapM_toArray, List.mapM_cons, List.mapM_nil, Sem.run_bind, Sem.run_pure, Functor.map]
  have h5 : ∀ (m : Sem (List Value)) (w1 : World), (m.bind (Sem.pure ∘ List.toArray)).run P w1 = (m.run P w1).andThen fun a w' => .ok a.toArray w' := fun m w1 => by
    show (m >>= fun a => pure a.toArray).run P w1 = _
    simp only [Sem.run_bind, Sem.run_pure]
  rw [h5]
  simp only [Sem.run_bind, Sem.run_pure, Result.andThen_ok, h3, h2]
  rfl
end Go.Proofs.YthhhobfdlgmjlaaDoor

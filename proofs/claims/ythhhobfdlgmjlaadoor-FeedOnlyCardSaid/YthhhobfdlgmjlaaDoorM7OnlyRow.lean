/- Several texts in one: OwnW, Load. -/
import Derived.Test.YthhhobfdlgmjlaaDoorOwnButQOnlyRow
import Derived.Deep.MidRow
/- Where a row lies behind an append: in its own block, or in a new one. No condition. -/
namespace Go.Proofs.YthhhobfdlgmjlaaDoor
open Go.RowKit

theorem app_where {α : Type} {P : Program} {t e : TypeId} {sz bytes : Nat} {f : α → List Value} (he : IsElem P t e sz bytes f) (w : World) (ty : TypeId) (base : Nat) (v : Value) (xs : List α) (hown : OwnL e sz f w base v xs) (B : Nat) (A : Option Addr) (c : Nat) (ys : List α) (hA : A = none → ys = [])
    (hs : Sl f sz w B A ys) (hlen : xs.length + ys.length ≤ 9223372036854775807) (hby : (xs.length + ys.length) * bytes ≤ 140737488355328) {v' : Value} {w' : World} (hrun : (Builtin.append_ #[t, t] ty #[v, .slice A ys.length c]).run P w = .ok v' w') :
    v'.ownBlock = v.ownBlock ∨ v'.ownBlock = some w.heap.size := by
  obtain ⟨i, z, hi, hz, hsize, hbytes, hzs⟩ := he.info
  have ht := he.under
  have hpos := he.pos
  rcases A with _ | a
  · have hy := hA rfl
    subst hy
    have hr : (Builtin.append_ #[t, t] ty #[v, .slice none ([] : List α).length c]).run P w = .ok v w := by
      rcases hown.2 with ⟨rfl, _⟩ | ⟨g, cap, cur, rfl, _, _, hnc, _⟩
      · simp [Builtin.append_, run_underlying ht, sizeOf, typeInfo, hi, Builtin.lenOf, Builtin.firstCells]
      · simp [Builtin.append_, run_underlying ht, sizeOf, typeInfo, hi, Builtin.lenOf, Builtin.firstCells, hnc, storeCells]
    rw [hr] at hrun
    injection hrun with h1 h2
    exact .inl (by rw [h1])
  · have hfl := flat_length he.len ys
    have hnews : ∀ (j : Nat) u, (ys.flatMap f)[j]? = some u → w.cell? (a.add j) = some u := fun j u hu => by
      have hj : j < ys.length * sz := by rw [← hfl]; exact (List.getElem?_eq_some_iff.1 hu).1
      have hk : j / sz < ys.length := (Nat.div_lt_iff_lt_mul he.pos).2 hj
      obtain ⟨b, o, hA', _, hc⟩ := hs (by rintro rfl; simp at hj)
      cases hA'
      have hy : ys[j / sz]? = some ys[j / sz] := List.getElem?_eq_getElem hk
      have hm : j % sz < (f ys[j / sz]).length := by rw [he.len]; exact Nat.mod_lt _ he.pos
      have h4 := flat_get he.len ys (j / sz) _ hy (j % sz) _ (List.getElem?_eq_getElem hm)
      have e1 : j / sz * sz + j % sz = j := by rw [Nat.mul_comm]; exact Nat.div_add_mod j sz
      rw [e1, hu] at h4
      have h5 := hc (j / sz) _ hy (j % sz) u (by rw [List.getElem?_eq_getElem hm]; exact h4.symm)
      rw [Nat.add_assoc, e1] at h5
      rw [Addr.add_lit]
      exact h5
    have h1 : ∀ u ∈ ys.flatMap f, u.oneCell' = true := fun u hu => by
      obtain ⟨y, _, h4⟩ := List.mem_flatMap.1 hu
      exact he.one y u h4
    subst hsize
    subst hbytes
    have hlen0 := hown.1
    rcases hown.2 with ⟨rfl, hn⟩ | ⟨g, cap, cur, rfl, hbg, hg, hnc, hcm, hcs, htake⟩
    · by_cases hm : ys = []
      · subst hm
        have hr : (Builtin.append_ #[t, t] ty #[.slice none 0 0, .slice (some a) ([] : List α).length c]).run P w = .ok (.slice none 0 0) w := by
          simp [Builtin.append_, run_underlying ht, sizeOf, typeInfo, hi, Builtin.lenOf, Builtin.firstCells, loadCells, loadCellsFrom]
        rw [hr] at hrun
        injection hrun with h1 h2
        exact .inl (by rw [h1])
      · have hp : 0 < ys.length := List.length_pos_iff.2 hm
        have hx : xs.length = 0 := hn
        rw [hx, Nat.zero_add] at hlen hby
        have hr := run_append_nil (P := P) w t ty e i z ht hi hz a ys.length c (ys.flatMap f) hfl hnews hp (by omega) (by omega)
        rw [hr] at hrun
        injection hrun with h1 h2
        exact .inr (by rw [← h1]; rfl)
    · by_cases hroom : xs.length + ys.length ≤ cap
      · have hfit : xs.length * i.size + (ys.flatMap f).length ≤ cur.size := by rw [hfl, hcs, ← Nat.add_mul]; exact Nat.mul_le_mul_right _ hroom
        have hr := run_append_room (P := P) w t ty e i ht hi g xs.length cap cur hg a ys.length c (ys.flatMap f) hfl hnews h1 hroom hfit
        rw [hr] at hrun
        injection hrun with h1 h2
        exact .inl (by rw [← h1]; rfl)
      · have hcells : w.ownsRow base e i.size (.slice (some ⟨g, 0, none⟩) xs.length cap) xs.length (xs.flatMap f) := hown
        have holds : ∀ j u, (xs.flatMap f)[j]? = some u → w.cell? ((⟨g, 0, none⟩ : Addr).add j) = some u := hcells.cells (g := g) rfl
        have hr := run_append_grow (P := P) w t ty e i z ht hi hz ⟨g, 0, none⟩ xs.length cap (xs.flatMap f) hown.1 holds a ys.length c (ys.flatMap f) hfl hnews (by omega) (by omega) (growslice_fits (by omega) hby)
        rw [hr] at hrun
        injection hrun with h1 h2
        exact .inr (by rw [← h1]; rfl)
section
variable {α : Type} {P : Program} {t e : TypeId} {sz bytes : Nat} {f : α → List Value} (he : IsElem P t e sz bytes f)
include he
theorem wp_append_w {o : Oper} {a : Act} {K : Act → World → Prop} {Q : Exit → Act → World → Prop} (w : World) (s x : Operand)
    (ho : o.op = .call { callee := .builtin .append, args := #[s, x], argTypes := #[t, t] })
    (base : Nat) (v : Value) (xs : List α) (hv : a.eval s = v) (hown : OwnL e sz f w base v xs) (B : Nat) (A : Option Addr) (c : Nat) (ys : List α) (hx : a.eval x = .slice A ys.length c) (hA : A = none → ys = [])
    (hs : Sl f sz w B A ys) (hlen : xs.length + ys.length ≤ 9223372036854775807) (hby : (xs.length + ys.length) * bytes ≤ 140737488355328) (hbase : base ≤ w.heap.size)
    (h : ∀ v' w', OwnL e sz f w' base v' (xs ++ ys) → KeepT e base w w' → But (fun k => some k = v.ownBlock) w w' → (v'.ownBlock = v.ownBlock ∨ v'.ownBlock = some w.heap.size) → K (a.put o.dst v') w') : o.wp P a w K Q := by
  obtain ⟨v', w', hrun, h2, h3, h4⟩ := run_append_but he w o.type base v xs hown B A c ys hA hs hlen hby hbase
  have h5 := app_where he w o.type base v xs hown B A c ys hA hs hlen hby hrun
  unfold Oper.wp execOp
  simp only [ho, resolve, invoke, builtin, Sem.run_bind, Sem.run_pure, Result.andThen_ok, List.map_toArray, List.map_cons, List.map_nil, hv, hx, hrun]
  exact h v' w' h2 h3 h4 h5
theorem wpList_append_w {ops : Array Oper} {rest : List Oper} {o : Oper} {a : Act} {Q : Exit → Act → World → Prop} (w : World) (hgd : o.guard = none) (s x : Operand)
    (ho : o.op = .call { callee := .builtin .append, args := #[s, x], argTypes := #[t, t] })
    (base : Nat) (v : Value) (xs : List α) (hv : a.eval s = v) (hown : OwnL e sz f w base v xs) (B : Nat) (A : Option Addr) (c : Nat) (ys : List α) (hx : a.eval x = .slice A ys.length c) (hA : A = none → ys = [])
    (hs : Sl f sz w B A ys) (hlen : xs.length + ys.length ≤ 9223372036854775807) (hby : (xs.length + ys.length) * bytes ≤ 140737488355328) (hbase : base ≤ w.heap.size)
    (h : ∀ v' w', OwnL e sz f w' base v' (xs ++ ys) → KeepT e base w w' → But (fun k => some k = v.ownBlock) w w' → (v'.ownBlock = v.ownBlock ∨ v'.ownBlock = some w.heap.size) → wpList P ops Q rest (a.put o.dst v') w') : wpList P ops Q (o :: rest) a w :=
  wpList_plain hgd fun _ hK => wp_append_w he w s x ho base v xs hv hown B A c ys hx hA hs hlen hby hbase fun v' w' h2 h3 h4 h5 => hK _ _ (h v' w' h2 h3 h4 h5)
theorem step_append_w {ops : Array Oper} {o : Oper} {a : Act} {K : Act → World → Prop} {Q : Exit → Act → World → Prop} {E : Prop} (w : World) (hgd : Region.wanted o (yielded ops a.tmps) = true) (s x : Operand)
    (ho : o.op = .call { callee := .builtin .append, args := #[s, x], argTypes := #[t, t] })
    (base : Nat) (v : Value) (xs : List α) (hv : a.eval s = v) (hown : OwnL e sz f w base v xs) (B : Nat) (A : Option Addr) (c : Nat) (ys : List α) (hx : a.eval x = .slice A ys.length c) (hA : A = none → ys = [])
    (hs : Sl f sz w B A ys) (hlen : xs.length + ys.length ≤ 9223372036854775807) (hby : (xs.length + ys.length) * bytes ≤ 140737488355328) (hbase : base ≤ w.heap.size)
    (h : ∀ v' w', OwnL e sz f w' base v' (xs ++ ys) → KeepT e base w w' → But (fun k => some k = v.ownBlock) w w' → (v'.ownBlock = v.ownBlock ∨ v'.ownBlock = some w.heap.size) → K (a.put o.dst v') w') :
    if Region.wanted o (yielded ops a.tmps) = true then Oper.wp P o a w K Q else E := by
  rw [if_pos hgd]
  exact wp_append_w he w s x ho base v xs hv hown B A c ys hx hA hs hlen hby hbase h
end
/-- What turned row by row lies in the row's own block or in new ones. -/
structure Turn (w : World) (v0 v : Value) (w' : World) : Prop where
  but : But (fun k => some k = v0.ownBlock) w w'
  at_ : ∀ k, v.ownBlock = some k → v0.ownBlock = some k ∨ w.heap.size ≤ k
theorem Turn.refl (w : World) (v : Value) : Turn w v v w := ⟨But.refl _ _, fun _ h => .inl h⟩
theorem Turn.of_app {w w' : World} {v v' : Value} (h : But (fun k => some k = v.ownBlock) w w') (hw : v'.ownBlock = v.ownBlock ∨ v'.ownBlock = some w.heap.size) : Turn w v v' w' := ⟨h, fun k hk => by
  rcases hw with e | e
  · exact .inl (by rw [← e]; exact hk)
  · rw [e] at hk; cases hk; exact .inr (Nat.le_refl _)⟩
theorem Turn.trans {w w1 w2 : World} {v0 v1 v2 : Value} (h : Turn w v0 v1 w1) (k : Turn w1 v1 v2 w2) : Turn w v0 v2 w2 := by
  refine ⟨⟨k.but.os.trans h.but.os, k.but.tape.trans h.but.tape, k.but.output.trans h.but.output, Nat.le_trans h.but.size k.but.size, fun i hi hS => ?_⟩, fun i hi => ?_⟩
  · refine (k.but.block i (Nat.lt_of_lt_of_le hi h.but.size) fun e => ?_).trans (h.but.block i hi hS)
    rcases h.at_ i e.symm with h1 | h1
    · exact hS h1.symm
    · omega
  · rcases k.at_ i hi with h1 | h1
    · exact h.at_ i h1
    · exact .inr (Nat.le_trans h.but.size h1)
theorem Turn.g {w w1 : World} {v0 v : Value} {w0 : World} (hg : G w0 w) (h : Turn w v0 v w1) : Turn w0 v0 v w1 := by
  have h0 := But.of_g (S := fun k => some k = v0.ownBlock) hg
  exact ⟨h0.trans h.but, fun k hk => (h.at_ k hk).imp id (Nat.le_trans hg.size)⟩
theorem Turn.after {w w1 w2 : World} {v0 v : Value} (h : Turn w v0 v w1) (hg : G w1 w2) : Turn w v0 v w2 := ⟨h.but.g hg, h.at_⟩
/-- A slice that is not the row's own, and was there, stays. -/
theorem Turn.sl {α : Type} {f : α → List Value} {sz : Nat} {w w' : World} {v0 v : Value} (h : Turn w v0 v w') {B : Nat} {A : Option Addr} {xs : List α} (hs : Sl f sz w B A xs) (hB : B ≤ w.heap.size) (hA : ∀ b o, A = some ⟨b, o, none⟩ → v0.ownBlock ≠ some b) : Sl f sz w' B A xs := fun hn => by
  obtain ⟨b, o, e, hb, hc⟩ := hs hn
  exact ⟨b, o, e, hb, fun k x hx j u hu => (h.but.cell (by omega) (fun e' => hA b o e e'.symm)).trans (hc k x hx j u hu)⟩
end Go.Proofs.YthhhobfdlgmjlaaDoor
/- A struct that is a block of its own is loaded whole. No condition. -/
namespace Go.Proofs.YthhhobfdlgmjlaaDoor
open Go.RowKit

theorem load_blk {P : Program} {W : World} {b : Nat} {cs : Array Value} {t T : TypeId} {fz : Nat × Nat} {d : TypeDesc} (h : W.heap[b]? = some (.cells cs t fz)) (hu : P.underlying T = some d) (hd : d.isRow = true) (hi : (P.info? T).map (·.size) = some cs.size) :
    (Instr.loadAt T (.pointer (some ⟨b, 0, none⟩))).run P W = .ok (.agg cs) W := by
  have := run_loadAt_mid (P := P) W b 0 T cs.toList d (fun j v hv => by rw [Nat.zero_add, blk_cell h]; simpa using hv) hu hd (by simpa using hi)
  simpa using this
/-- The operation, by what the load answers: an arm of the walk's. -/
theorem wp_load_at {P : Program} {op : Oper} {a : Act} {w : World} {K : Act → World → Prop} {Q : Exit → Act → World → Prop} {ty : TypeId} {x : Operand} (ho : op.op = .load ty x) {p v : Value} (hx : a.eval x = p) (hl : (Instr.loadAt ty p).run P w = .ok v w)
    (h : K (a.put op.dst v) w) : op.wp P a w K Q := by
  unfold Oper.wp execOp
  simp only [ho, hx, Sem.run_bind, Sem.run_pure, Result.andThen_ok, hl]
  exact h
/-- The same, at a list of operations: guarded or not. -/
theorem wpList_load_at {P : Program} {ops : Array Oper} {rest : List Oper} {op : Oper} {a : Act} {w : World} {Q : Exit → Act → World → Prop} {ty : TypeId} {x : Operand} (ho : op.op = .load ty x) (hg : Region.wanted op (yielded ops a.tmps) = true) {p v : Value} (hx : a.eval x = p)
    (hl : (Instr.loadAt ty p).run P w = .ok v w) (h : wpList P ops Q rest (a.put op.dst v) w) : wpList P ops Q (op :: rest) a w :=
  wpList_step fun K hK => by
    rw [if_pos hg]
    exact wp_load_at ho hx hl (hK _ _ h)
theorem setCells_stc (b : Nat) : ∀ (vs : List Value) (o : Nat) (w : World), w.setCells b o vs = stc w b o vs
  | [], _, _ => rfl
  | v :: r, o, w => setCells_stc b r (o + 1) (w.setCell ⟨b, o, none⟩ v)
/-- A struct is laid whole into a block of its own. -/
theorem store_blk {P : Program} {W : World} {b : Nat} {old cs : Array Value} {t T : TypeId} (h : W.heap[b]? = some (.cells old t (0, 0))) (hz : old.size = cs.size) (hi : (P.info? T).map (·.size) = some cs.size) (h1 : cs.all (·.oneCell') = true) :
    ∃ W', (Instr.storeAt T (.pointer (some ⟨b, 0, none⟩)) (.agg cs)).run P W = .ok () W' ∧ W'.heap[b]? = some (.cells cs t (0, 0)) ∧ But (fun k => k = b) W W' ∧ ∀ w0, G w0 W → w0.heap.size ≤ b → G w0 W' := by
  refine ⟨_, run_storeAt_mid (P := P) W b 0 T cs (fun j hj => ?_) hi h1, ?_, ?_, ?_⟩
  · rw [Nat.zero_add, blk_cell h]
    refine ⟨?_, by simp [World.frozen?, h]⟩
    rw [Array.getElem?_eq_getElem (by omega)]
    rfl
  · rw [setCells_stc, stc_blk cs.toList h (by simpa using hz)]
  · rw [setCells_stc]
    exact stc_but (fun k => k = b) b rfl cs.toList W W 0 (But.refl _ _)
  · intro w0 hg hb
    rw [setCells_stc]
    exact G.stc cs.toList hg hb
theorem wp_store_at {P : Program} {op : Oper} {a : Act} {w w' : World} {K : Act → World → Prop} {Q : Exit → Act → World → Prop} {ty : TypeId} {x y : Operand} (ho : op.op = .store ty x y) {p v : Value} (hx : a.eval x = p) (hy : a.eval y = v) (hl : (Instr.storeAt ty p v).run P w = .ok () w')
    (h : K (a.put op.dst undef) w') : op.wp P a w K Q := by
  unfold Oper.wp execOp
  simp only [ho, hx, hy, Sem.run_bind, Sem.run_pure, Result.andThen_ok, hl]
  exact h
theorem wpList_store_at {P : Program} {ops : Array Oper} {rest : List Oper} {op : Oper} {a : Act} {w w' : World} {Q : Exit → Act → World → Prop} {ty : TypeId} {x y : Operand} (ho : op.op = .store ty x y) (hg : Region.wanted op (yielded ops a.tmps) = true) {p v : Value} (hx : a.eval x = p) (hy : a.eval y = v)
    (hl : (Instr.storeAt ty p v).run P w = .ok () w') (h : wpList P ops Q rest (a.put op.dst undef) w') : wpList P ops Q (op :: rest) a w :=
  wpList_step fun K hK => by
    rw [if_pos hg]
    exact wp_store_at ho hx hy hl (hK _ _ h)
/-- A struct result that is a block of its own. -/
theorem results_cell {P : Program} {fn : Func} {tmps : Array Value} {W : World} {i b : Nat} {cs : Array Value} {t T : TypeId} {fz : Nat × Nat} {d : TypeDesc} (hr : fn.results = #[.cell i T]) (hp : tmps.getD i undef = .pointer (some ⟨b, 0, none⟩)) (h : W.heap[b]? = some (.cells cs t fz)) (hu : P.underlying T = some d) (hd : d.isRow = true) (hi : (P.info? T).map (·.size) = some cs.size) :
    (results fn tmps).run P W = .ok (.agg cs) W := by
  have h2 := run_loadVar_mid (P := P) W b 0 T cs.toList d (fun j v hv => by rw [Nat.zero_add, blk_cell h]; simpa using hv) hu hd (by simpa using hi)
  have h3 : (asAddr (tmps.getD i undef)).run P W = .ok ⟨b, 0, none⟩ W := by rw [hp]; rfl
  have h4 : (tmps[i]?.getD undef) = tmps.getD i undef := by simp [Array.getD_eq_getD_getElem?]
  unfold results
  rw [hr]
  simp only [List.mapM_toArray, List.mapM_cons, List.mapM_nil, Sem.run_bind, Sem.run_pure, Functor.map]
  have h5 : ∀ (m : Sem (List Value)) (w1 : World), (m.bind (Sem.pure ∘ List.toArray)).run P w1 = (m.run P w1).andThen fun a w' => .ok a.toArray w' := fun m w1 => by
    show (m >>= fun a => pure a.toArray).run P w1 = _
    simp only [Sem.run_bind, Sem.run_pure]
  rw [h5]
  simp only [Sem.run_bind, Sem.run_pure, Result.andThen_ok, h3, h2]
  rfl
end Go.Proofs.YthhhobfdlgmjlaaDoor

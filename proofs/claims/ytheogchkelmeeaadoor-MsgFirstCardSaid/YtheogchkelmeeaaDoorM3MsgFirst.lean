/- Several texts in one: Own, OwnBut, Str. -/
import Derived.Test.YtheogchkelmeeaaDoorM0MsgFirst
import Derived.Test.YtheogchkelmeeaaDoorM1MsgFirst
import Derived.Test.YtheogchkelmeeaaDoorM2MsgFirst
/- Rows of the call's own, of whatever element type: append of a list onto them. No condition. -/
namespace Go.Proofs.YtheogchkelmeeaaDoor
open Go.RowKit

/-- What the program's table says of a slice type t with elements of type e, each of sz cells, as the function f lays them. -/
structure IsElem {α : Type} (P : Program) (t e : TypeId) (sz bytes : Nat) (f : α → List Value) : Prop where
  under : P.underlying t = some (.slice e)
  info : ∃ i z, P.info? e = some i ∧ i.zero = some z ∧ i.size = sz ∧ i.bytes = bytes ∧ z.cells.size = sz
  pos : 0 < sz
  len : ∀ x, (f x).length = sz
  one : ∀ x, ∀ u ∈ f x, u.oneCell' = true
theorem isElem_of {α : Type} {P : Program} {t e : TypeId} {sz bytes : Nat} {f : α → List Value} {z : Value} (h1 : P.underlying t = some (.slice e)) (h2 : (P.info? e).map (fun i => (i.zero, i.size, i.bytes)) = some (some z, sz, bytes))
    (h3 : z.cells.size = sz) (h4 : 0 < sz) (h5 : ∀ x, (f x).length = sz) (h6 : ∀ x, ∀ u ∈ f x, u.oneCell' = true) : IsElem P t e sz bytes f := by
  obtain ⟨i, a, b, c, d⟩ := info_parts h2
  exact ⟨h1, ⟨i, z, a, b, c, d, h3⟩, h4, h5, h6⟩

/-- The slice value v is the call's own (its block from base on) and holds the list xs. -/
def OwnL {α : Type} (e : TypeId) (sz : Nat) (f : α → List Value) (w : World) (base : Nat) (v : Value) (xs : List α) : Prop := w.ownsRow base e sz v xs.length (xs.flatMap f)
/-- What an append onto a row of elements of type e of the call's own leaves as it was. -/
def KeepT (e : TypeId) (base : Nat) (w w' : World) : Prop := Below base w w' ∧ ∀ (k : Nat) (cs : Array Value) (t : TypeId) (fz : Nat × Nat), t ≠ e → w.heap[k]? = some (.cells cs t fz) → w'.heap[k]? = some (.cells cs t fz)

section
variable {α : Type} {e : TypeId} {sz : Nat} {f : α → List Value} {w w' : World} {base : Nat} {v : Value} {xs ys : List α}
theorem flat_length (hf : ∀ x, (f x).length = sz) (xs : List α) : (xs.flatMap f).length = xs.length * sz := by
  induction xs with
  | nil => simp
  | cons a xs ih => rw [List.flatMap_cons, List.length_append, ih, hf, List.length_cons, Nat.succ_mul]; omega
theorem Sl.of_none {B : Nat} (h : Sl f sz w B none xs) : xs = [] := by
  rcases xs with _ | ⟨x, xs⟩
  · rfl
  · obtain ⟨_, _, e, _⟩ := h (by simp)
    cases e
theorem KeepT.refl (e : TypeId) (base : Nat) (w : World) : KeepT e base w w := ⟨Below.refl _ _, fun _ _ _ _ _ h => h⟩
theorem KeepT.trans {a b c : World} (h : KeepT e base a b) (k : KeepT e base b c) : KeepT e base a c := ⟨h.1.trans k.1, fun g cs t fz ht hh => k.2 g cs t fz ht (h.2 g cs t fz ht hh)⟩
theorem KeepT.g {W : World} (h : KeepT e W.heap.size w w') (hg : G W w) : G W w' := Below.trans hg h.1
theorem OwnL.g (h : OwnL e sz f w base v xs) (hg : G w w') : OwnL e sz f w' base v xs := by
  refine ⟨h.1, ?_⟩
  rcases h.2 with h1 | ⟨g, cap, cur, hv, hb, hh, hr⟩
  · exact .inl h1
  · exact .inr ⟨g, cap, cur, hv, hb, hg.blk hh, hr⟩
theorem OwnL.mono {base' : Nat} (h : OwnL e sz f w base v xs) (hb : base' ≤ base) : OwnL e sz f w base' v xs := by
  refine ⟨h.1, ?_⟩
  rcases h.2 with h1 | ⟨g, cap, cur, hv, hb2, hr⟩
  · exact .inl h1
  · exact .inr ⟨g, cap, cur, hv, by omega, hr⟩
theorem OwnL.nil : OwnL e sz f w base (.slice none 0 0) ([] : List α) := ⟨by simp, .inl ⟨rfl, rfl⟩⟩
/-- An empty row in a block of no cells, just laid. -/
theorem OwnL.empty (b : Nat) (hb : w.heap[b]? = some (.cells #[] e (0, 0))) (hbase : base ≤ b) : OwnL e sz f w base (.slice (some ⟨b, 0, none⟩) 0 0) ([] : List α) :=
  ⟨by simp, .inr ⟨b, 0, #[], rfl, hbase, hb, Nat.le_refl _, by simp [maxLen], by simp, by simp⟩⟩
theorem OwnL.sl (hf : ∀ x, (f x).length = sz) (h : OwnL e sz f w base v xs) : ∃ A c, v = .slice A xs.length c ∧ xs.length ≤ c ∧ c ≤ 9223372036854775807 ∧ Sl f sz w w.heap.size A xs := by
  obtain ⟨hl, h⟩ := h
  rcases h with ⟨rfl, hn⟩ | ⟨g, cap, cur, rfl, hb, hh, hnc, hcm, hcs, hx⟩
  · have : xs = [] := List.eq_nil_of_length_eq_zero hn
    subst this
    exact ⟨none, 0, rfl, by simp, by omega, Sl.nil⟩
  · refine ⟨some ⟨g, 0, none⟩, cap, rfl, hnc, by simpa [maxLen] using hcm, fun _ => ⟨g, 0, rfl, blk_lt hh, fun k x hxk j u hu => ?_⟩⟩
    have h1 := flat_get hf xs k x hxk j u hu
    have hk : k < xs.length := (List.getElem?_eq_some_iff.1 hxk).1
    have hj : j < sz := by rw [← hf x]; exact (List.getElem?_eq_some_iff.1 hu).1
    have hlt : k * sz + j < xs.length * sz := by
      have := Nat.mul_le_mul_right sz (Nat.succ_le_of_lt hk)
      rw [Nat.succ_mul] at this
      omega
    rw [Nat.zero_add, blk_cell hh]
    rw [← hx, List.getElem?_take_of_lt hlt, Array.getElem?_toList] at h1
    exact h1
end

section
variable {α : Type} {P : Program} {t e : TypeId} {sz bytes : Nat} {f : α → List Value} (he : IsElem P t e sz bytes f)
include he
/-- append of a list that reads somewhere, onto a row of the call's own: the run. -/
theorem run_append_list (w : World) (ty : TypeId) (base : Nat) (v : Value) (xs : List α) (hown : OwnL e sz f w base v xs) (B : Nat) (A : Option Addr) (c : Nat) (ys : List α) (hA : A = none → ys = [])
    (hs : Sl f sz w B A ys) (hlen : xs.length + ys.length ≤ 9223372036854775807) (hby : (xs.length + ys.length) * bytes ≤ 140737488355328) (hbase : base ≤ w.heap.size) :
    ∃ v' w', (Builtin.append_ #[t, t] ty #[v, .slice A ys.length c]).run P w = .ok v' w' ∧ OwnL e sz f w' base v' (xs ++ ys) ∧ KeepT e base w w' ∧ (v ≠ .slice none 0 0 → v' ≠ .slice none 0 0) := by
  obtain ⟨i0, z, hi, hz0, hz1, hz2, hz3⟩ := he.info
  have ht := he.under
  rcases A with _ | ad
  · have hy := hA rfl
    subst hy
    refine ⟨v, w, ?_, by simpa using hown, KeepT.refl _ _ _, fun h => h⟩
    rcases hown.2 with ⟨rfl, _⟩ | ⟨g, cap, cur, rfl, _, _, hnc, _⟩
    · simp [Builtin.append_, run_underlying ht, sizeOf, typeInfo, hi, Builtin.lenOf, Builtin.firstCells]
    · simp [Builtin.append_, run_underlying ht, sizeOf, typeInfo, hi, Builtin.lenOf, Builtin.firstCells, hnc, storeCells]
  · have hfl := flat_length he.len ys
    obtain ⟨v', w', hrun, h1, h2, h3⟩ := run_append_own (P := P) w base t ty e i0 z sz bytes ht hi hz0 hz1 hz2 hz3 he.pos v xs.length (xs.flatMap f) hown ad ys.length c (ys.flatMap f) hfl (fun j u hu => by
        have hj : j < ys.length * sz := by rw [← hfl]; exact (List.getElem?_eq_some_iff.1 hu).1
        have hk : j / sz < ys.length := (Nat.div_lt_iff_lt_mul he.pos).2 hj
        obtain ⟨b, o, hA', _, hc⟩ := hs (by rintro rfl; simp at hj)
        cases hA'
        have hy : ys[j / sz]? = some ys[j / sz] := List.getElem?_eq_getElem hk
        have hm : j % sz < (f ys[j / sz]).length := by rw [he.len]; exact Nat.mod_lt _ he.pos
        have h4 := flat_get he.len ys (j / sz) _ hy (j % sz) _ (List.getElem?_eq_getElem hm)
        have e1 : j / sz * sz + j % sz = j := by rw [Nat.mul_comm]; exact Nat.div_add_mod j sz
        rw [e1, hu] at h4
        have h5 := hc (j / sz) _ hy (j % sz) u (by rw [List.getElem?_eq_getElem hm]; exact h4.symm)
        rw [Nat.add_assoc, e1] at h5
        rw [Addr.add_lit]
        exact h5)
      (fun u hu => by
        obtain ⟨y, _, h4⟩ := List.mem_flatMap.1 hu
        exact he.one y u h4) (by simpa [maxLen] using hlen) hby hbase
    refine ⟨v', w', hrun, ?_, ⟨(Below.refl _ _).grown h2 hbase ?_, fun k cs t' fz ht' hh => ?_⟩, fun h h4 => h (h3.1 h4).1⟩
    · show w'.ownsRow _ _ _ _ _ _
      rw [List.flatMap_append, List.length_append]
      exact h1
    · intro k hk
      rcases hown.2 with ⟨rfl, _⟩ | ⟨g, cap, cur, rfl, hbg, hh, _⟩
      · simp [Value.ownBlock] at hk
      · simp [Value.ownBlock] at hk; omega
    · refine (h2.block k (blk_lt hh) ?_).trans hh
      intro hk
      rcases hown.2 with ⟨rfl, _⟩ | ⟨g, cap, cur, rfl, hbg, hh2, _⟩
      · simp [Value.ownBlock] at hk
      · simp [Value.ownBlock] at hk
        subst hk
        rw [hh] at hh2
        simp at hh2
        exact ht' hh2.2.1
theorem wp_append_list {o : Oper} {a : Act} {K : Act → World → Prop} {Q : Exit → Act → World → Prop} (w : World) (s x : Operand)
    (ho : o.op = .call { callee := .builtin .append, args := #[s, x], argTypes := #[t, t] })
    (base : Nat) (v : Value) (xs : List α) (hv : a.eval s = v) (hown : OwnL e sz f w base v xs) (B : Nat) (A : Option Addr) (c : Nat) (ys : List α) (hx : a.eval x = .slice A ys.length c) (hA : A = none → ys = [])
    (hs : Sl f sz w B A ys) (hlen : xs.length + ys.length ≤ 9223372036854775807) (hby : (xs.length + ys.length) * bytes ≤ 140737488355328) (hbase : base ≤ w.heap.size)
    (h : ∀ v' w', OwnL e sz f w' base v' (xs ++ ys) → KeepT e base w w' → (v ≠ .slice none 0 0 → v' ≠ .slice none 0 0) → K (a.put o.dst v') w') : o.wp P a w K Q := by
  obtain ⟨v', w', hrun, h2, h3, h4⟩ := run_append_list he w o.type base v xs hown B A c ys hA hs hlen hby hbase
  unfold Oper.wp execOp
  simp only [ho, resolve, invoke, builtin, Sem.run_bind, Sem.run_pure, Result.andThen_ok, List.map_toArray, List.map_cons, List.map_nil, hv, hx, hrun]
  exact h v' w' h2 h3 h4
theorem wpList_append_list {ops : Array Oper} {rest : List Oper} {o : Oper} {a : Act} {Q : Exit → Act → World → Prop} (w : World) (hgd : o.guard = none) (s x : Operand)
    (ho : o.op = .call { callee := .builtin .append, args := #[s, x], argTypes := #[t, t] })
    (base : Nat) (v : Value) (xs : List α) (hv : a.eval s = v) (hown : OwnL e sz f w base v xs) (B : Nat) (A : Option Addr) (c : Nat) (ys : List α) (hx : a.eval x = .slice A ys.length c) (hA : A = none → ys = [])
    (hs : Sl f sz w B A ys) (hlen : xs.length + ys.length ≤ 9223372036854775807) (hby : (xs.length + ys.length) * bytes ≤ 140737488355328) (hbase : base ≤ w.heap.size)
    (h : ∀ v' w', OwnL e sz f w' base v' (xs ++ ys) → KeepT e base w w' → (v ≠ .slice none 0 0 → v' ≠ .slice none 0 0) → wpList P ops Q rest (a.put o.dst v') w') : wpList P ops Q (o :: rest) a w :=
  wpList_plain hgd fun _ hK => wp_append_list he w s x ho base v xs hv hown B A c ys hx hA hs hlen hby hbase fun v' w' h2 h3 h4 => hK _ _ (h v' w' h2 h3 h4)
theorem step_append_list {ops : Array Oper} {o : Oper} {a : Act} {K : Act → World → Prop} {Q : Exit → Act → World → Prop} {E : Prop} (w : World) (hgd : o.guard = none) (s x : Operand)
    (ho : o.op = .call { callee := .builtin .append, args := #[s, x], argTypes := #[t, t] })
    (base : Nat) (v : Value) (xs : List α) (hv : a.eval s = v) (hown : OwnL e sz f w base v xs) (B : Nat) (A : Option Addr) (c : Nat) (ys : List α) (hx : a.eval x = .slice A ys.length c) (hA : A = none → ys = [])
    (hs : Sl f sz w B A ys) (hlen : xs.length + ys.length ≤ 9223372036854775807) (hby : (xs.length + ys.length) * bytes ≤ 140737488355328) (hbase : base ≤ w.heap.size)
    (h : ∀ v' w', OwnL e sz f w' base v' (xs ++ ys) → KeepT e base w w' → (v ≠ .slice none 0 0 → v' ≠ .slice none 0 0) → K (a.put o.dst v') w') :
    if Region.wanted o (yielded ops a.tmps) = true then Oper.wp P o a w K Q else E := by
  have hw : Region.wanted o (yielded ops a.tmps) = true := by simp [Region.wanted, hgd]
  rw [if_pos hw]
  exact wp_append_list he w s x ho base v xs hv hown B A c ys hx hA hs hlen hby hbase h
end
end Go.Proofs.YtheogchkelmeeaaDoor
/- append of a list onto a row of the call's own, with what it leaves as it was told by blocks. No condition. -/
namespace Go.Proofs.YtheogchkelmeeaaDoor
open Go.RowKit

section
variable {α : Type} {P : Program} {t e : TypeId} {sz bytes : Nat} {f : α → List Value} (he : IsElem P t e sz bytes f)
include he
theorem run_append_but (w : World) (ty : TypeId) (base : Nat) (v : Value) (xs : List α) (hown : OwnL e sz f w base v xs) (B : Nat) (A : Option Addr) (c : Nat) (ys : List α) (hA : A = none → ys = [])
    (hs : Sl f sz w B A ys) (hlen : xs.length + ys.length ≤ 9223372036854775807) (hby : (xs.length + ys.length) * bytes ≤ 140737488355328) (hbase : base ≤ w.heap.size) :
    ∃ v' w', (Builtin.append_ #[t, t] ty #[v, .slice A ys.length c]).run P w = .ok v' w' ∧ OwnL e sz f w' base v' (xs ++ ys) ∧ KeepT e base w w' ∧ But (fun k => some k = v.ownBlock) w w' := by
  obtain ⟨i0, z, hi, hz0, hz1, hz2, hz3⟩ := he.info
  have ht := he.under
  rcases A with _ | ad
  · have hy := hA rfl
    subst hy
    refine ⟨v, w, ?_, by simpa using hown, KeepT.refl _ _ _, But.refl _ _⟩
    rcases hown.2 with ⟨rfl, _⟩ | ⟨g, cap, cur, rfl, _, _, hnc, _⟩
    · simp [Builtin.append_, run_underlying ht, sizeOf, typeInfo, hi, Builtin.lenOf, Builtin.firstCells]
    · simp [Builtin.append_, run_underlying ht, sizeOf, typeInfo, hi, Builtin.lenOf, Builtin.firstCells, hnc, storeCells]
  · have hfl := flat_length he.len ys
    obtain ⟨v', w', hrun, h1, h2, h3⟩ := run_append_own (P := P) w base t ty e i0 z sz bytes ht hi hz0 hz1 hz2 hz3 he.pos v xs.length (xs.flatMap f) hown ad ys.length c (ys.flatMap f) hfl (fun j u hu => by
        have hj : j < ys.length * sz := by rw [← hfl]; exact (List.getElem?_eq_some_iff.1 hu).1
        have hk : j / sz < ys.length := (Nat.div_lt_iff_lt_mul he.pos).2 hj
        obtain ⟨b, o, hA', _, hc⟩ := hs (by rintro rfl; simp at hj)
        cases hA'
        have hy : ys[j / sz]? = some ys[j / sz] := List.getElem?_eq_getElem hk
        have hm : j % sz < (f ys[j / sz]).length := by rw [he.len]; exact Nat.mod_lt _ he.pos
        have h4 := flat_get he.len ys (j / sz) _ hy (j % sz) _ (List.getElem?_eq_getElem hm)
        have e1 : j / sz * sz + j % sz = j := by rw [Nat.mul_comm]; exact Nat.div_add_mod j sz
        rw [e1, hu] at h4
        have h5 := hc (j / sz) _ hy (j % sz) u (by rw [List.getElem?_eq_getElem hm]; exact h4.symm)
        rw [Nat.add_assoc, e1] at h5
        rw [Addr.add_lit]
        exact h5)
      (fun u hu => by
        obtain ⟨y, _, h4⟩ := List.mem_flatMap.1 hu
        exact he.one y u h4) (by simpa [maxLen] using hlen) hby hbase
    refine ⟨v', w', hrun, ?_, ⟨(Below.refl _ _).grown h2 hbase ?_, fun k cs t' fz ht' hh => ?_⟩, .of_grown h2 fun k hk => hk.symm⟩
    · show w'.ownsRow _ _ _ _ _ _
      rw [List.flatMap_append, List.length_append]
      exact h1
    · intro k hk
      rcases hown.2 with ⟨rfl, _⟩ | ⟨g, cap, cur, rfl, hbg, hh, _⟩
      · simp [Value.ownBlock] at hk
      · simp [Value.ownBlock] at hk; omega
    · refine (h2.block k (blk_lt hh) ?_).trans hh
      intro hk
      rcases hown.2 with ⟨rfl, _⟩ | ⟨g, cap, cur, rfl, hbg, hh2, _⟩
      · simp [Value.ownBlock] at hk
      · simp [Value.ownBlock] at hk
        subst hk
        rw [hh] at hh2
        simp at hh2
        exact ht' hh2.2.1
theorem wp_append_but {o : Oper} {a : Act} {K : Act → World → Prop} {Q : Exit → Act → World → Prop} (w : World) (s x : Operand)
    (ho : o.op = .call { callee := .builtin .append, args := #[s, x], argTypes := #[t, t] })
    (base : Nat) (v : Value) (xs : List α) (hv : a.eval s = v) (hown : OwnL e sz f w base v xs) (B : Nat) (A : Option Addr) (c : Nat) (ys : List α) (hx : a.eval x = .slice A ys.length c) (hA : A = none → ys = [])
    (hs : Sl f sz w B A ys) (hlen : xs.length + ys.length ≤ 9223372036854775807) (hby : (xs.length + ys.length) * bytes ≤ 140737488355328) (hbase : base ≤ w.heap.size)
    (h : ∀ v' w', OwnL e sz f w' base v' (xs ++ ys) → KeepT e base w w' → But (fun k => some k = v.ownBlock) w w' → K (a.put o.dst v') w') : o.wp P a w K Q := by
  obtain ⟨v', w', hrun, h2, h3, h4⟩ := run_append_but he w o.type base v xs hown B A c ys hA hs hlen hby hbase
  unfold Oper.wp execOp
  simp only [ho, resolve, invoke, builtin, Sem.run_bind, Sem.run_pure, Result.andThen_ok, List.map_toArray, List.map_cons, List.map_nil, hv, hx, hrun]
  exact h v' w' h2 h3 h4
theorem wpList_append_but {ops : Array Oper} {rest : List Oper} {o : Oper} {a : Act} {Q : Exit → Act → World → Prop} (w : World) (hgd : o.guard = none) (s x : Operand)
    (ho : o.op = .call { callee := .builtin .append, args := #[s, x], argTypes := #[t, t] })
    (base : Nat) (v : Value) (xs : List α) (hv : a.eval s = v) (hown : OwnL e sz f w base v xs) (B : Nat) (A : Option Addr) (c : Nat) (ys : List α) (hx : a.eval x = .slice A ys.length c) (hA : A = none → ys = [])
    (hs : Sl f sz w B A ys) (hlen : xs.length + ys.length ≤ 9223372036854775807) (hby : (xs.length + ys.length) * bytes ≤ 140737488355328) (hbase : base ≤ w.heap.size)
    (h : ∀ v' w', OwnL e sz f w' base v' (xs ++ ys) → KeepT e base w w' → But (fun k => some k = v.ownBlock) w w' → wpList P ops Q rest (a.put o.dst v') w') : wpList P ops Q (o :: rest) a w :=
  wpList_plain hgd fun _ hK => wp_append_but he w s x ho base v xs hv hown B A c ys hx hA hs hlen hby hbase fun v' w' h2 h3 h4 => hK _ _ (h v' w' h2 h3 h4)
theorem step_append_but {ops : Array Oper} {o : Oper} {a : Act} {K : Act → World → Prop} {Q : Exit → Act → World → Prop} {E : Prop} (w : World) (hgd : Region.wanted o (yielded ops a.tmps) = true) (s x : Operand)
    (ho : o.op = .call { callee := .builtin .append, args := #[s, x], argTypes := #[t, t] })
    (base : Nat) (v : Value) (xs : List α) (hv : a.eval s = v) (hown : OwnL e sz f w base v xs) (B : Nat) (A : Option Addr) (c : Nat) (ys : List α) (hx : a.eval x = .slice A ys.length c) (hA : A = none → ys = [])
    (hs : Sl f sz w B A ys) (hlen : xs.length + ys.length ≤ 9223372036854775807) (hby : (xs.length + ys.length) * bytes ≤ 140737488355328) (hbase : base ≤ w.heap.size)
    (h : ∀ v' w', OwnL e sz f w' base v' (xs ++ ys) → KeepT e base w w' → But (fun k => some k = v.ownBlock) w w' → K (a.put o.dst v') w') :
    if Region.wanted o (yielded ops a.tmps) = true then Oper.wp P o a w K Q else E := by
  rw [if_pos hgd]
  exact wp_append_but he w s x ho base v xs hv hown B A c ys hx hA hs hlen hby hbase h
end
section
variable {α : Type} {e : TypeId} {sz : Nat} {f : α → List Value} {w w' : World} {base : Nat} {v : Value} {xs : List α}
/-- A row of the call's own, where blocks turn that are not its own. -/
theorem OwnL.but' {S : Nat → Prop} (h : OwnL e sz f w base v xs) (hb : But S w w') (hS : ∀ k, v.ownBlock = some k → ¬ S k) : OwnL e sz f w' base v xs := by
  refine ⟨h.1, ?_⟩
  rcases h.2 with h1 | ⟨g, cap, cur, hv, hb2, hh, hr⟩
  · exact .inl h1
  · refine .inr ⟨g, cap, cur, hv, hb2, hb.blk hh (hS g ?_), hr⟩
    rw [hv]; rfl
/-- Its own block lies in the world, from its base on, and bears its elements' type. -/
theorem OwnL.blk (h : OwnL e sz f w base v xs) {k : Nat} (hk : v.ownBlock = some k) : base ≤ k ∧ k < w.heap.size ∧ ∃ cs, w.heap[k]? = some (.cells cs e (0, 0)) := by
  rcases h.2 with ⟨rfl, _⟩ | ⟨g, cap, cur, rfl, hb, hh, _⟩
  · simp [Value.ownBlock] at hk
  · simp [Value.ownBlock] at hk
    subst hk
    exact ⟨hb, blk_lt hh, cur, hh⟩
theorem OwnL.keepT {e' : TypeId} {base' : Nat} (h : OwnL e sz f w base v xs) (k : KeepT e' base' w w') (hne : e ≠ e') : OwnL e sz f w' base v xs := by
  refine ⟨h.1, ?_⟩
  rcases h.2 with h1 | ⟨g, cap, cur, hv, hb, hh, hr⟩
  · exact .inl h1
  · exact .inr ⟨g, cap, cur, hv, hb, k.2 g cur _ _ hne hh, hr⟩
theorem OwnL.self (hf : ∀ x, (f x).length = sz) {A : Option Addr} {c : Nat} (h : OwnL e sz f w base (.slice A xs.length c) xs) : Sl f sz w w.heap.size A xs := by
  obtain ⟨A', c', e, _, _, h2⟩ := OwnL.sl hf h
  cases e
  exact h2
end
/-- A row just laid: as many cells as it takes. -/
theorem OwnL.made {α : Type} {e : TypeId} {sz : Nat} {f : α → List Value} {w : World} {base b : Nat} {cs : Array Value} (hf : ∀ x, (f x).length = sz) (xs : List α) (hb : w.heap[b]? = some (.cells cs e (0, 0))) (hcs : cs.toList = xs.flatMap f) (hbase : base ≤ b) (hl : xs.length ≤ 9223372036854775807) :
    OwnL e sz f w base (.slice (some ⟨b, 0, none⟩) xs.length xs.length) xs := by
  have h1 := flat_length hf xs
  have h2 : cs.size = xs.length * sz := by rw [← Array.length_toList, hcs, h1]
  exact ⟨h1, .inr ⟨b, xs.length, cs, rfl, hbase, hb, Nat.le_refl _, by simpa [maxLen] using hl, h2, by rw [hcs, ← h1, List.take_length]⟩⟩
/-- A world with values laid into cells, one behind the other. -/
def stc (w : World) (g o : Nat) : List Value → World
  | [] => w
  | u :: us => stc (w.setCell ⟨g, o, none⟩ u) g (o + 1) us
theorem stc_heap (g : Nat) (t : TypeId) (fz : Nat × Nat) : ∀ (us : List Value) (w : World) (o : Nat) (cur : Array Value), w.heap[g]? = some (.cells cur t fz) → o + us.length ≤ cur.size →
    ∃ cur', (stc w g o us).heap[g]? = some (.cells cur' t fz) ∧ cur'.toList = cur.toList.take o ++ us ++ cur.toList.drop (o + us.length) := by
  intro us
  induction us with
  | nil => intro w o cur h _; exact ⟨cur, h, by simp⟩
  | cons u us ih =>
    intro w o cur h hl
    rw [List.length_cons] at hl
    have e1 : (w.setCell ⟨g, o, none⟩ u).heap[g]? = some (.cells (cur.setIfInBounds o u) t fz) := by
      rw [setCell_eq_setRow w g o cur t fz u h]
      exact setRow_heap w g cur _ t _ h
    obtain ⟨cur', h1, h2⟩ := ih (w.setCell ⟨g, o, none⟩ u) (o + 1) (cur.setIfInBounds o u) e1 (by simp; omega)
    refine ⟨cur', h1, ?_⟩
    rw [h2]
    have e := list_seg_step cur.toList o u us (by simp; omega)
    simpa [Array.toList_setIfInBounds, Nat.add_assoc, Nat.add_comm, Nat.add_left_comm] using e
theorem stc_but (S : Nat → Prop) (g : Nat) (hS : S g) : ∀ (us : List Value) (a w : World) (o : Nat), But S a w → But S a (stc w g o us) := by
  intro us
  induction us with
  | nil => intro a w o h; exact h
  | cons u us ih => intro a w o h; exact ih a _ _ (h.set (.inr hS) u)
/-- A block that is known whole, with all its cells laid anew. -/
theorem stc_blk {w : World} {g : Nat} {cur : Array Value} {t : TypeId} {fz : Nat × Nat} (us : List Value) (h : w.heap[g]? = some (.cells cur t fz)) (hs : cur.size = us.length) : (stc w g 0 us).heap[g]? = some (.cells us.toArray t fz) := by
  obtain ⟨cur', h1, h2⟩ := stc_heap g t fz us w 0 cur h (by omega)
  rw [h1]
  have : cur' = us.toArray := by
    apply Array.toList_inj.1
    rw [h2, List.take_zero, List.nil_append, List.drop_of_length_le (by rw [Array.length_toList]; omega), List.append_nil]
  rw [this]
theorem G.stc {a : World} {g : Nat} (us : List Value) : ∀ {w : World} {o : Nat}, G a w → a.heap.size ≤ g → G a (stc w g o us) := by
  induction us with
  | nil => intro w o h _; exact h
  | cons u us ih => intro w o h hg; exact ih (h.set hg u) hg
end Go.Proofs.YtheogchkelmeeaaDoor
/- Texts as rows of bytes. No condition. -/
namespace Go.Proofs.YtheogchkelmeeaaDoor
open Go.RowKit Go.Lib

def byteC (b : UInt8) : List Value := [.int .u8 b.toNat]
theorem byteC_len (b : UInt8) : (byteC b).length = 1 := rfl
theorem byte_elem : IsElem Tryd.prog 50 5 1 1 byteC :=
  isElem_of (z := .int .u8 0) Tryd.underlying50 (by kernel_rfl) rfl (by omega) byteC_len (by intro x u hu; simp [byteC] at hu; subst hu; rfl)
theorem Sl.byte {w : World} {B : Nat} {A : Option Addr} {xs : List UInt8} {k : Nat} {x : UInt8} (h : Sl byteC 1 w B A xs) (hx : xs[k]? = some x) :
    ∃ b o, A = some ⟨b, o, none⟩ ∧ b < B ∧ w.cell? ⟨b, o + k, none⟩ = some (.int .u8 x.toNat) := Sl.get1 (g := fun b : UInt8 => Value.int .u8 b.toNat) h hx
theorem conv_back {w : World} {B : Nat} {A : Option Addr} {c : Nat} {l : List UInt8} (hs : Sl byteC 1 w B A l) : (convert 50 9 (.slice A l.length c)).run Tryd.prog w = .ok (.string (strOf l)) w := by
  rcases A with _ | ⟨b, o, sp⟩
  · obtain rfl := hs.of_none
    rw [List.length_nil, run_convert_bytes_string w _ _ _ none 0 c Tryd.underlying50 Tryd.underlying5 Tryd.underlying9]
    rfl
  · refine run_convert_bytes_back w _ _ _ ⟨b, o, sp⟩ c l Tryd.underlying50 Tryd.underlying5 Tryd.underlying9 fun j hj => ?_
    obtain ⟨b', o', e, _, hc⟩ := hs.byte (List.getElem?_eq_getElem hj)
    cases e
    rw [Addr.add_lit]
    exact hc

end Go.Proofs.YtheogchkelmeeaaDoor

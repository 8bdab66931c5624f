/- Several texts in one: FeedLaw, Load. -/
import Derived.Test.YthhhobfdlgmjlaaDoorM28WholeRow
import Derived.Test.YthhhobfdlgmjlaaDoorOwnButQWholeRow
import Derived.Deep.MidRow
/- Polls one behind the other are pieces of one sequence. Plain Lean. No condition. -/
namespace Go.Proofs.YthhhobfdlgmjlaaDoor

/-- No two events of a kind stand at one place. -/
def Dist (S : Ev → Prop) : Prop := ∀ x y, S x → S y → x ≠ y → plOf x ≠ plOf y
/-- Where a poll goes on. -/
def curOf (c : Cu) (a : List Ev) : Cu := (a.getLast?.map plOf).getD c
theorem curOf_nil (c : Cu) : curOf c [] = c := rfl
theorem curOf_snoc (c : Cu) (a : List Ev) (x : Ev) : curOf c (a ++ [x]) = plOf x := by simp [curOf]
theorem curOf_append (c : Cu) (a p : List Ev) : curOf c (a ++ p) = curOf (curOf c a) p := by
  rcases List.eq_nil_or_concat p with rfl | ⟨p, x, rfl⟩
  · simp [curOf]
  · rw [List.concat_eq_append, ← List.append_assoc, curOf_snoc, curOf_snoc]
theorem fl_of_st {a b : Ev} (h : stLt a.st b.st = true) : fl a b = true := by
  unfold fl
  rw [if_neg (fun e => by rw [e, SO.st.irr] at h; cases h)]
  exact h
theorem Ini.next {ls : List LogM} {st : St} {c : Cu} {a p : List Ev} {max : Int} (hd : Dist (inLogs ls)) (ha : Ini (mergeF ls st c) a) (hp : IsFirst (mergeF ls st (curOf c a)) max p) : Ini (mergeF ls st c) (a ++ p) := by
  rcases List.eq_nil_or_concat a with rfl | ⟨a', x, rfl⟩
  · exact hp.ini
  · rw [List.concat_eq_append] at *
    rw [curOf_snoc] at hp
    obtain ⟨a1, a2, a3⟩ := ha
    obtain ⟨p1, p2, p3⟩ := hp.ini
    have hx := a2 x (by simp)
    have hxp := hx.2
    simp only [picked, Bool.and_eq_true, behind_pl] at hxp
    have hox : ∀ o ∈ a' ++ [x], o = x ∨ fl o x = true := by
      intro o ho
      rcases List.mem_append.1 ho with h | h
      · exact .inr ((List.pairwise_append.1 a1).2.2 o h x (by simp))
      · rw [List.mem_singleton] at h; exact .inl h
    have hxq : ∀ q, mergeF ls st (plOf x) q → fl x q = true := by
      rintro q ⟨_, hq⟩
      simp only [picked, Bool.and_eq_true, behind_pl] at hq
      exact fl_of_pl hq.2
    have hoq : ∀ o ∈ a' ++ [x], ∀ q, mergeF ls st (plOf x) q → fl o q = true := by
      intro o ho q hq
      rcases hox o ho with rfl | h
      · exact hxq q hq
      · exact SO.fl.tr _ _ _ h (hxq q hq)
    refine ⟨List.pairwise_append.2 ⟨a1, p1, fun o ho q hq => hoq o ho q (p2 q hq)⟩, ?_, ?_⟩
    · intro o ho
      rcases List.mem_append.1 ho with h | h
      · exact a2 o h
      · obtain ⟨h1, h2⟩ := p2 o h
        refine ⟨h1, ?_⟩
        simp only [picked, Bool.and_eq_true, behind_pl] at h2 ⊢
        exact ⟨h2.1, SO.pl.tr _ _ _ hxp.2 h2.2⟩
    · intro y hy
      rcases a3 y hy with h | h
      · exact .inl (List.mem_append.2 (.inl h))
      · have hfx := h x (by simp)
        have hne : x ≠ y := by rintro rfl; rw [SO.fl.irr] at hfx; cases hfx
        have hyp := hy.2
        simp only [picked, Bool.and_eq_true, behind_pl] at hyp
        have hFy : mergeF ls st (plOf x) y := ⟨hy.1, by
          simp only [picked, Bool.and_eq_true, behind_pl]
          exact ⟨hyp.1, pl_of_fl hfx (hd x y hx.1 hy.1 hne)⟩⟩
        rcases p3 y hFy with h3 | h3
        · exact .inl (List.mem_append.2 (.inr h3))
        · refine .inr fun o ho => ?_
          rcases List.mem_append.1 ho with h4 | h4
          · exact h o h4
          · exact h3 o h4
/-- As the mark rises, what was told stays told. -/
theorem Ini.up {ls : List LogM} {lo hi : St} {c : Cu} {a : List Ev} (h : stLt hi lo = false) (ha : Ini (mergeF ls lo c) a) : Ini (mergeF ls hi c) a := by
  obtain ⟨a1, a2, a3⟩ := ha
  have hst : ∀ o ∈ a, stLt o.st lo = true := fun o ho => by
    have := (a2 o ho).2
    simp only [picked, Bool.and_eq_true] at this
    exact this.1
  refine ⟨a1, fun o ho => ?_, fun y hy => ?_⟩
  · obtain ⟨h1, h2⟩ := a2 o ho
    refine ⟨h1, ?_⟩
    simp only [picked, Bool.and_eq_true] at h2 ⊢
    exact ⟨SO.st.lt_le h2.1 h, h2.2⟩
  · obtain ⟨h1, h2⟩ := hy
    simp only [picked, Bool.and_eq_true] at h2
    cases hy2 : stLt y.st lo with
    | true =>
      exact a3 y ⟨h1, by simp only [picked, Bool.and_eq_true]; exact ⟨hy2, h2.2⟩⟩
    | false => exact .inr fun o ho => fl_of_st (SO.st.lt_le (hst o ho) hy2)
theorem sorted_of {S : Ev → Prop} {a : List Ev} (hp : a.Pairwise (fun a b => fl a b = true)) (hd : Dist S) (hm : ∀ x ∈ a, S x) : sortedB a = true := by
  rw [sortedB_iff]
  intro j a b ha hb
  have hfl : fl a b = true := by
    obtain ⟨hk, rfl⟩ := List.getElem?_eq_some_iff.1 ha
    obtain ⟨hk2, rfl⟩ := List.getElem?_eq_some_iff.1 hb
    exact List.pairwise_iff_getElem.1 hp j (j + 1) hk hk2 (by omega)
  refine evLt_of_fl hfl (hd a b (hm a (List.mem_of_getElem? ha)) (hm b (List.mem_of_getElem? hb)) ?_)
  rintro rfl
  rw [SO.fl.irr] at hfl; cases hfl
theorem Ini.sorted {ls : List LogM} {st : St} {c : Cu} {a : List Ev} (f : Ev → Bool) (ha : Ini (mergeF ls st c) a) (hd : Dist (inLogs ls)) : sortedB (a.filter f) = true :=
  sorted_of (ha.1.sublist List.filter_sublist) hd fun x hx => (ha.2.1 x (List.mem_filter.1 hx).1).1
theorem take_min {x y : List Ev} (h : x <+: y ∨ y <+: x) : x.take (min x.length y.length) = y.take (min x.length y.length) := by
  rcases h with ⟨t, rfl⟩ | ⟨t, rfl⟩
  · rw [List.length_append, Nat.min_eq_left (by omega), List.take_length, List.take_left]
  · rw [List.length_append, Nat.min_eq_right (by omega), List.take_length, List.take_left]
theorem Ini.both {F : Ev → Prop} {a b : List Ev} (f : Ev → Bool) (ha : Ini F a) (hb : Ini F b) : (a.filter f).take (min (a.filter f).length (b.filter f).length) = (b.filter f).take (min (a.filter f).length (b.filter f).length) := by
  refine take_min ?_
  rcases Nat.le_total a.length b.length with h | h
  · exact .inl ((ha.prefix hb h).filter f)
  · exact .inr ((hb.prefix ha h).filter f)
theorem Ini.none (F : Ev → Prop) : Ini F [] := ⟨.nil, by simp, fun _ _ => .inr (by simp)⟩

/-- Lists of no doubles, one in the other. -/
theorem nodup_le {a : List Ev} : ∀ {b : List Ev}, a.Nodup → (∀ x ∈ a, x ∈ b) → a.length ≤ b.length := by
  induction a with
  | nil => intro b _ _; simp
  | cons x a ih =>
    intro b ha h
    rw [List.nodup_cons] at ha
    obtain ⟨p, q, rfl⟩ := List.append_of_mem (h x (by simp))
    have := ih (b := p ++ q) ha.2 (fun y hy => by
      have h1 := h y (by simp [hy])
      rcases List.mem_append.1 h1 with h2 | h2
      · exact List.mem_append.2 (.inl h2)
      · rcases List.mem_cons.1 h2 with rfl | h2
        · exact absurd hy ha.1
        · exact List.mem_append.2 (.inr h2))
    simp at this ⊢
    omega
theorem apart_nodup {es : List Ev} (h : Apart es) : es.Nodup := by
  unfold List.Nodup
  rw [List.pairwise_iff_getElem]
  intro i j hi hj hij e
  have := h j i _ _ hij (List.getElem?_eq_getElem hj) (List.getElem?_eq_getElem hi)
  rw [← e] at this
  simp [samePlace] at this
theorem ini_nodup {F : Ev → Prop} {a : List Ev} (h : Ini F a) : a.Nodup := by
  refine h.1.imp ?_
  rintro x y hxy rfl
  rw [SO.fl.irr] at hxy; cases hxy
/-- All that is told, counted. -/
theorem count_told {F : Ev → Prop} {a es : List Ev} {g f : Ev → Bool} (h : AllOf F a) (hap : Apart es) (hF : ∀ y, F y ↔ y ∈ es ∧ g y = true) : (a.filter f).length = (es.filter fun y => g y && f y).length := by
  have hn : a.Nodup := ini_nodup (F := F) ⟨h.1, fun o ho => (h.2 o).2 ho, fun y hy => .inl ((h.2 y).1 hy)⟩
  have he : es.Nodup := apart_nodup hap
  refine Nat.le_antisymm (nodup_le (hn.sublist List.filter_sublist) fun x hx => ?_) (nodup_le (he.sublist List.filter_sublist) fun x hx => ?_)
  · rw [List.mem_filter] at hx ⊢
    obtain ⟨h1, h2⟩ := (hF x).1 ((h.2 x).2 hx.1)
    exact ⟨h1, by rw [h2, hx.2]; rfl⟩
  · rw [List.mem_filter, Bool.and_eq_true] at hx
    rw [List.mem_filter]
    exact ⟨(h.2 x).1 ((hF x).2 ⟨hx.1, hx.2.1⟩), hx.2.2⟩
/-- Polled until nothing comes: all. -/
theorem Ini.over {ls : List LogM} {st : St} {c : Cu} {a : List Ev} {max : Int} (hd : Dist (inLogs ls)) (ha : Ini (mergeF ls st c) a) (hm : 0 < max) (hp : IsFirst (mergeF ls st (curOf c a)) max []) : AllOf (mergeF ls st c) a := by
  have hno := hp.2.2.2.2 (by simpa using hm)
  refine ⟨ha.1, fun y => ⟨fun hy => ?_, ha.2.1 y⟩⟩
  rcases ha.2.2 y hy with h | h
  · exact h
  · exfalso
    rcases List.eq_nil_or_concat a with rfl | ⟨a', x, rfl⟩
    · exact absurd (hno y hy) (by simp)
    · rw [List.concat_eq_append] at *
      rw [curOf_snoc] at hno
      have hfx := h x (by simp)
      have hx := ha.2.1 x (by simp)
      have hne : x ≠ y := by rintro rfl; rw [SO.fl.irr] at hfx; cases hfx
      have hyp := hy.2
      simp only [picked, Bool.and_eq_true, behind_pl] at hyp
      exact absurd (hno y ⟨hy.1, by
        simp only [picked, Bool.and_eq_true, behind_pl]
        exact ⟨hyp.1, pl_of_fl hfx (hd x y hx.1 hy.1 hne)⟩⟩) (by simp)
/-- Where something came, the place is another one. -/
theorem cur_moves {ls : List LogM} {st : St} {c : Cu} {p : List Ev} {max : Int} (hp : IsFirst (mergeF ls st c) max p) (he : curOf c p = c) : p = [] := by
  rcases List.eq_nil_or_concat p with rfl | ⟨p', x, rfl⟩
  · rfl
  · rw [List.concat_eq_append] at *
    rw [curOf_snoc] at he
    have hx := (hp.2.1 x (by simp)).2
    simp only [picked, Bool.and_eq_true, behind_pl] at hx
    rw [he, SO.pl.irr] at hx
    cases hx.2

/-- The lesser, the greater one of two stamps. -/
def stMin (a b : St) : St := if stLt b a = true then b else a
def stMax (a b : St) : St := if stLt a b = true then b else a
def wmOf (own : St) (ms : List St) : St := ms.foldl stMin own
theorem stMin_mono {a b : St} (m : St) (h : stLt b a = false) : stLt (stMin b m) (stMin a m) = false := by
  unfold stMin
  split
  · rename_i h1
    split
    · exact SO.st.irr _
    · rename_i h2
      rw [Bool.not_eq_true] at h2
      exact h2
  · rename_i h1
    rw [Bool.not_eq_true] at h1
    split
    · rename_i h2
      have := SO.st.lt_le h2 h
      rw [h1] at this; cases this
    · exact h
theorem wmOf_mono (ms : List St) : ∀ {a b : St}, stLt b a = false → stLt (wmOf b ms) (wmOf a ms) = false := by
  induction ms with
  | nil => intro a b h; exact h
  | cons m ms ih => intro a b h; exact ih (stMin_mono m h)
theorem wmOf_snoc (own : St) (ms : List St) (m : St) : wmOf own (ms ++ [m]) = stMin (wmOf own ms) m := by simp [wmOf]
end Go.Proofs.YthhhobfdlgmjlaaDoor
/- A struct that is a block of its own is loaded whole. No condition. -/
namespace Go.Proofs.YthhhobfdlgmjlaaDoor
open Go.RowKit

theorem load_blk {P : Program} {W : World} {b : Nat} {cs : Array Value} {t T : TypeId} {fz : Nat × Nat} {d : TypeDesc} (h : W.heap[b]? = some (.cells cs t fz)) (hu : P.underlying T = some d) (hd : d.isRow = true) (hi : (P.info? T).map (·.size) = some cs.size) :
    (Instr.loadAt T (.pointer (some ⟨b, 0, none⟩))).run P W = .ok (.agg cs) W := by
  have := run_loadAt_mid (P := P) W b 0 T cs.toList d (fun j v hv => by rw [Nat.zero_add, blk_cell h]; simpa using hv) hu hd (by simpa using hi)
  simpa using this
/-- The operation, by what the load answers: an arm of the walk's. -/
theorem wp_load_at {P : Program} {op : Oper} {a : Act} {w : World} {K : Act → World → Prop} {Q : Exit → Act → World → Prop} {ty : TypeId} {x : Operand} (ho : op.op = .load ty x) {p v : Value} (hx : a.eval x = p) (hl : (Instr.loadAt ty p).run P w = .ok v w)
    (h : K (a.put op.dst v) w) : op.wp P a w K Q := by
  unfold Oper.wp execOp
  simp only [ho, hx, Sem.run_bind, Sem.run_pure, Result.andThen_ok, hl]
  exact h
/-- The same, at a list of operations: guarded or not. -/
theorem wpList_load_at {P : Program} {ops : Array Oper} {rest : List Oper} {op : Oper} {a : Act} {w : World} {Q : Exit → Act → World → Prop} {ty : TypeId} {x : Operand} (ho : op.op = .load ty x) (hg : Region.wanted op (yielded ops a.tmps) = true) {p v : Value} (hx : a.eval x = p)
    (hl : (Instr.loadAt ty p).run P w = .ok v w) (h : wpList P ops Q rest (a.put op.dst v) w) : wpList P ops Q (op :: rest) a w :=
  wpList_step fun K hK => by
    rw [if_pos hg]
    exact wp_load_at ho hx hl (hK _ _ h)
theorem setCells_stc (b : Nat) : ∀ (vs : List Value) (o : Nat) (w : World), w.setCells b o vs = stc w b o vs
  | [], _, _ => rfl
  | v :: r, o, w => setCells_stc b r (o + 1) (w.setCell ⟨b, o, none⟩ v)
/-- A struct is laid whole into a block of its own. -/
theorem store_blk {P : Program} {W : World} {b : Nat} {old cs : Array Value} {t T : TypeId} (h : W.heap[b]? = some (.cells old t (0, 0))) (hz : old.size = cs.size) (hi : (P.info? T).map (·.size) = some cs.size) (h1 : cs.all (·.oneCell') = true) :
    ∃ W', (Instr.storeAt T (.pointer (some ⟨b, 0, none⟩)) (.agg cs)).run P W = .ok () W' ∧ W'.heap[b]? = some (.cells cs t (0, 0)) ∧ But (fun k => k = b) W W' ∧ ∀ w0, G w0 W → w0.heap.size ≤ b → G w0 W' := by
  refine ⟨_, run_storeAt_mid (P := P) W b 0 T cs (fun j hj => ?_) hi h1, ?_, ?_, ?_⟩
  · rw [Nat.zero_add, blk_cell h]
    refine ⟨?_, by simp [World.frozen?, h]⟩
    rw [Array.getElem?_eq_getElem (by omega)]
    rfl
  · rw [setCells_stc, stc_blk cs.toList h (by simpa using hz)]
  · rw [setCells_stc]
    exact stc_but (fun k => k = b) b rfl cs.toList W W 0 (But.refl _ _)
  · intro w0 hg hb
    rw [setCells_stc]
    exact G.stc cs.toList hg hb
theorem wp_store_at {P : Program} {op : Oper} {a : Act} {w w' : World} {K : Act → World → Prop} {Q : Exit → Act → World → Prop} {ty : TypeId} {x y : Operand} (ho : op.op = .store ty x y) {p v : Value} (hx : a.eval x = p) (hy : a.eval y = v) (hl : (Instr.storeAt ty p v).run P w = .ok () w')
    (h : K (a.put op.dst undef) w') : op.wp P a w K Q := by
  unfold Oper.wp execOp
  simp only [ho, hx, hy, Sem.run_bind, Sem.run_pure, Result.andThen_ok, hl]
  exact h
theorem wpList_store_at {P : Program} {ops : Array Oper} {rest : List Oper} {op : Oper} {a : Act} {w w' : World} {Q : Exit → Act → World → Prop} {ty : TypeId} {x y : Operand} (ho : op.op = .store ty x y) (hg : Region.wanted op (yielded ops a.tmps) = true) {p v : Value} (hx : a.eval x = p) (hy : a.eval y = v)
    (hl : (Instr.storeAt ty p v).run P w = .ok () w') (h : wpList P ops Q rest (a.put op.dst undef) w') : wpList P ops Q (op :: rest) a w :=
  wpList_step fun K hK => by
    rw [if_pos hg]
    exact wp_store_at ho hx hy hl (hK _ _ h)
/-- A struct result that is a block of its own. -/
theorem results_cell {P : Program} {fn : Func} {tmps : Array Value} {W : World} {i b : Nat} {cs : Array Value} {t T : TypeId} {fz : Nat × Nat} {d : TypeDesc} (hr : fn.results = #[.cell i T]) (hp : tmps.getD i undef = .pointer (some ⟨b, 0, none⟩)) (h : W.heap[b]? = some (.cells cs t fz)) (hu : P.underlying T = some d) (hd : d.isRow = true) (hi : (P.info? T).map (·.size) = some cs.size) :
    (results fn tmps).run P W = .ok (.agg cs) W := by
  have h2 := run_loadVar_mid (P := P) W b 0 T cs.toList d (fun j v hv => by rw [Nat.zero_add, blk_cell h]; simpa using hv) hu hd (by simpa using hi)
  have h3 : (asAddr (tmps.getD i undef)).run P W = .ok ⟨b, 0, none⟩ W := by rw [hp]; rfl
  have h4 : (tmps[i]?.getD undef) = tmps.getD i undef := by simp [Array.getD_eq_getD_getElem?]
  unfold results
  rw [hr]
  simp only [List.mapM_toArray, List.mapM_cons, List.mapM_nil, Sem.run_bind, Sem.run_pure, Functor.map]
  have h5 : ∀ (m : Sem (List Value)) (w1 : World), (m.bind (Sem.pure ∘ List.toArray)).run P w1 = (m.run P w1).andThen fun a w' => .ok a.toArray w' := fun m w1 => by
    show (m >>= fun a => pure a.toArray).run P w1 = _
    simp only [Sem.run_bind, Sem.run_pure]
  rw [h5]
  simp only [Sem.run_bind, Sem.run_pure, Result.andThen_ok, h3, h2]
  rfl
end Go.Proofs.YthhhobfdlgmjlaaDoor

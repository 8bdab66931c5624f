/- Several texts in one: Load, RdTook, MsgRdP. -/
import Derived.Test.YtheogchkelmeeaaDoorM3MsgFirst
import Derived.Deep.MidRow
import Derived.Test.YtheogchkelmeeaaDoorM27MsgFirst
import Derived.Test.YtheogchkelmeeaaDoorM31MsgFirst
import Derived.Test.YtheogchkelmeeaaDoorM12MsgFirst
import Derived.Test.YtheogchkelmeeaaDoorMsgDecLawQMsgFirst
import Derived.Test.YtheogchkelmeeaaDoorDecBatchQMsgFirst
import Derived.Test.YtheogchkelmeeaaDoorStDecQMsgFirst
/- A struct that is a block of its own is loaded whole. No condition. -/
namespace Go.Proofs.YtheogchkelmeeaaDoor
open Go.RowKit

theorem load_blk {P : Program} {W : World} {b : Nat} {cs : Array Value} {t T : TypeId} {fz : Nat × Nat} {d : TypeDesc} (h : W.heap[b]? = some (.cells cs t fz)) (hu : P.underlying T = some d) (hd : d.isRow = true) (hi : (P.info? T).map (·.size) = some cs.size) :
    (Instr.loadAt T (.pointer (some ⟨b, 0, none⟩))).run P W = .ok (.agg cs) W := by
  have := run_loadAt_mid (P := P) W b 0 T cs.toList d (fun j v hv => by rw [Nat.zero_add, blk_cell h]; simpa using hv) hu hd (by simpa using hi)
  simpa using this
/-- The operation, by what the load answers: an arm of the walk's. -/
theorem wp_load_at {P : Program} {op : Oper} {a : Act} {w : World} {K : Act → World → Prop} {Q : Exit → Act → World → Prop} {ty : TypeId} {x : Operand} (ho : op.op = .load ty x) {p v : Value} (hx : a.eval x = p) (hl : (Instr.loadAt ty p).run P w = .ok v w)
    (h : K (a.put op.dst v) w) : op.wp P a w K Q := by
  unfold Oper.wp execOp
  simp only [ho, hx, Sem.run_bind, Sem.run_pure, Result.andThen_ok, hl]
  exact h
/-- The same, at a list of operations: guarded or not. -/
theorem wpList_load_at {P : Program} {ops : Array Oper} {rest : List Oper} {op : Oper} {a : Act} {w : World} {Q : Exit → Act → World → Prop} {ty : TypeId} {x : Operand} (ho : op.op = .load ty x) (hg : Region.wanted op (yielded ops a.tmps) = true) {p v : Value} (hx : a.eval x = p)
    (hl : (Instr.loadAt ty p).run P w = .ok v w) (h : wpList P ops Q rest (a.put op.dst v) w) : wpList P ops Q (op :: rest) a w :=
  wpList_step fun K hK => by
    rw [if_pos hg]
    exact wp_load_at ho hx hl (hK _ _ h)
theorem setCells_stc (b : Nat) : ∀ (vs : List Value) (o : Nat) (w : World), w.setCells b o vs = stc w b o vs
  | [], _, _ => rfl
  | v :: r, o, w => setCells_stc b r (o + 1) (w.setCell ⟨b, o, none⟩ v)
/-- A struct is laid whole into a block of its own. -/
theorem store_blk {P : Program} {W : World} {b : Nat} {old cs : Array Value} {t T : TypeId} (h : W.heap[b]? = some (.cells old t (0, 0))) (hz : old.size = cs.size) (hi : (P.info? T).map (·.size) = some cs.size) (h1 : cs.all (·.oneCell') = true) :
    ∃ W', (Instr.storeAt T (.pointer (some ⟨b, 0, none⟩)) (.agg cs)).run P W = .ok () W' ∧ W'.heap[b]? = some (.cells cs t (0, 0)) ∧ But (fun k => k = b) W W' ∧ ∀ w0, G w0 W → w0.heap.size ≤ b → G w0 W' := by
  refine ⟨_, run_storeAt_mid (P := P) W b 0 T cs (fun j hj => ?_) hi h1, ?_, ?_, ?_⟩
  · rw [Nat.zero_add, blk_cell h]
    refine ⟨?_, by simp [World.frozen?, h]⟩
    rw [Array.getElem?_eq_getElem (by omega)]
    rfl
  · rw [setCells_stc, stc_blk cs.toList h (by simpa using hz)]
  · rw [setCells_stc]
    exact stc_but (fun k => k = b) b rfl cs.toList W W 0 (But.refl _ _)
  · intro w0 hg hb
    rw [setCells_stc]
    exact G.stc cs.toList hg hb
theorem wp_store_at {P : Program} {op : Oper} {a : Act} {w w' : World} {K : Act → World → Prop} {Q : Exit → Act → World → Prop} {ty : TypeId} {x y : Operand} (ho : op.op = .store ty x y) {p v : Value} (hx : a.eval x = p) (hy : a.eval y = v) (hl : (Instr.storeAt ty p v).run P w = .ok () w')
    (h : K (a.put op.dst undef) w') : op.wp P a w K Q := by
  unfold Oper.wp execOp
  simp only [ho, hx, hy, Sem.run_bind, Sem.run_pure, Result.andThen_ok, hl]
  exact h
theorem wpList_store_at {P : Program} {ops : Array Oper} {rest : List Oper} {op : Oper} {a : Act} {w w' : World} {Q : Exit → Act → World → Prop} {ty : TypeId} {x y : Operand} (ho : op.op = .store ty x y) (hg : Region.wanted op (yielded ops a.tmps) = true) {p v : Value} (hx : a.eval x = p) (hy : a.eval y = v)
    (hl : (Instr.storeAt ty p v).run P w = .ok () w') (h : wpList P ops Q rest (a.put op.dst undef) w') : wpList P ops Q (op :: rest) a w :=
  wpList_step fun K hK => by
    rw [if_pos hg]
    exact wp_store_at ho hx hy hl (hK _ _ h)
/-- A struct result that is a block of its own. -/
theorem results_cell {P : Program} {fn : Func} {tmps : Array Value} {W : World} {i b : Nat} {cs : Array Value} {t T : TypeId} {fz : Nat × Nat} {d : TypeDesc} (hr : fn.results = #[.cell i T]) (hp : tmps.getD i undef = .pointer (some ⟨b, 0, none⟩)) (h : W.heap[b]? = some (.cells cs t fz)) (hu : P.underlying T = some d) (hd : d.isRow = true) (hi : (P.info? T).map (·.size) = some cs.size) :
    (results fn tmps).run P W = .ok (.agg cs) W := by
  have h2 := run_loadVar_mid (P := P) W b 0 T cs.toList d (fun j v hv => by rw [Nat.zero_add, blk_cell h]; simpa using hv) hu hd (by simpa using hi)
  have h3 : (asAddr (tmps.getD i undef)).run P W = .ok ⟨b, 0, none⟩ W := by rw [hp]; rfl
  have h4 : (tmps[i]?.getD undef) = tmps.getD i undef := by simp [Array.getD_eq_getD_getElem?]
  unfold results
  rw [hr]
  simp only [List.mapM_toArray, List.mapM_cons, List.mapM_nil, Sem.run_bind, Sem.run_pure, Functor.map]
  have h5 : ∀ (m : Sem (List Value)) (w1 : World), (m.bind (Sem.pure ∘ List.toArray)).run P w1 = (m.run P w1).andThen fun a w' => .ok a.toArray w' := fun m w1 => by
    show (m >>= fun a => pure a.toArray).run P w1 = _
    simp only [Sem.run_bind, Sem.run_pure]
  rw [h5]
  simp only [Sem.run_bind, Sem.run_pure, Result.andThen_ok, h3, h2]
  rfl
end Go.Proofs.YtheogchkelmeeaaDoor
/- What a piece that is read leaves of the bytes. No condition. -/
namespace Go.Proofs.YtheogchkelmeeaaDoor
open Go.RowKit

/-- What a piece that is read leaves of the bytes. -/
def tk (st : Option (List UInt8)) (n : Nat) : Option (List UInt8) := st.bind fun l => if n = 0 then none else some (l.drop n)
theorem tk_gives {α : Type} {d : Reader α} {st : Option (List UInt8)} {n : Nat} {x : α} (h : ∀ l, st = some l → (d l = none ∧ n = 0) ∨ ∃ r, d l = some (x, r) ∧ 0 < n ∧ l.drop n = r) : Gives d st (tk st n) x := by
  cases st with
  | none => exact .inl ⟨rfl, rfl⟩
  | some l =>
    rcases h l rfl with ⟨h1, rfl⟩ | ⟨r, h1, h2, h3⟩
    · exact .inl ⟨rfl, h1⟩
    · refine .inr ⟨l, r, rfl, h1, ?_⟩
      show (if n = 0 then none else some (l.drop n)) = some r
      rw [if_neg (by omega), h3]
/-- Of a reader that takes what f writes: how much it took. -/
theorem cn_took {α : Type} {d : Reader α} {f : α → List UInt8} (hd : Cn d f) (he : Eats d) {l r : List UInt8} {x : α} (h : d l = some (x, r)) : 0 < l.length - r.length ∧ l.length - r.length ≤ l.length ∧ l.drop (l.length - r.length) = r := by
  have h1 := hd l x r h
  have h2 := he l x r h
  refine ⟨by omega, by omega, ?_⟩
  have h3 : l.length - r.length = (f x).length := by rw [h1]; simp
  rw [h3]
  conv => lhs; rw [h1]
  simp
def TookPost (T : TypeId) (R D L : Nat) (w : World) (st : Option (List UInt8)) (e : Ending) (w' : World) : Prop := ∃ b, e = .returned (.bool b) ∧ BrS T R D L st w' ∧ But (fun k => k = R) w w'
end Go.Proofs.YtheogchkelmeeaaDoor
/- msg.reader's tx, span, stamp, batch, flag, many: what they answer. Conditions: at most 2^19 bytes; the decoder's tables lie as the library lays them. -/
namespace Go.Proofs.YtheogchkelmeeaaDoor
open Go.RowKit

/-- What a reader of a value of many numbers answers. -/
def MrPost {α : Type} (R D L : Nat) (w : World) (d : Reader α) (st : Option (List UInt8)) (f : α → Value) (e : Ending) (w' : World) : Prop :=
  ∃ x st', e = .returned (f x) ∧ BrS 121 R D L st' w' ∧ But (fun k => k = R) w w' ∧ Gives d st st' x
theorem gives_i {m : Nat} {st st1 : Option (List UInt8)} {v : Nat} (h : gv 0 (dCount m) st = (v, st1)) : Gives (mI m) st st1 (v : Int) := (gv_gives h).bind (Gives.ret _)
def Tr.val (t : Tr) : Value := .agg #[.int .i64 t.a, .int .i64 t.b, .int .i64 t.c]
def Rg.val (t : Rg) : Value := .agg #[.int .i64 t.a, .int .i64 t.b, .int .i64 t.c, .int .i64 t.d]
def St.val (t : St) : Value := .agg #[.int .i64 t.wall, .int .i64 t.logic, .int .i64 t.node]
theorem msgTake_any (R D L : Nat) (st : Option (List UInt8)) (n : Nat) (w : World) (h : BrS 121 R D L st w) (hl : ∀ l, st = some l → n ≤ l.length) (hL : L ≤ 1073741824) :
    Calls Tryd.prog 96 #[.pointer (some ⟨R, 0, none⟩), .int .i64 n] w (TookPost 121 R D L w (tk st n)) := by
  cases st with
  | none => exact (msgTook_bad R D L none n w h (.inl rfl)).mono fun e w' ⟨h1, h2, h3⟩ => ⟨_, h1, h2, h3⟩
  | some l =>
    by_cases hn : n = 0
    · have e : tk (some l) n = none := by unfold tk; simp [hn]
      rw [e]
      exact (msgTook_bad R D L _ n w h (.inr hn)).mono fun e w' ⟨h1, h2, h3⟩ => ⟨_, h1, h2, h3⟩
    · have e : tk (some l) n = some (l.drop n) := by unfold tk; simp [hn]
      rw [e]
      exact (msgTook_ok R D L l n w h (by omega) (hl l rfl) hL).mono fun e w' ⟨h1, h2, h3⟩ => ⟨_, h1, h2, h3⟩
/-- The reader's num at whatever state. -/
theorem msgNumI (R D L : Nat) (st : Option (List UInt8)) (w : World) (h : BrS 121 R D L st w) (hL : L ≤ 1073741824) (v : Nat) (s : Option (List UInt8)) (hv : gv 0 cM st = (v, s)) :
    Calls Tryd.prog 78 #[.pointer (some ⟨R, 0, none⟩)] w (BrPost 121 R D L w (.int .i64 v) s) := by
  have h1 := msgNum_any R D L st w h hL
  rw [hv] at h1
  exact h1
set_option maxRecDepth 100000 in
set_option maxHeartbeats 2000000 in
theorem mrTx_any (R D L : Nat) (st : Option (List UInt8)) (w : World) (h : BrS 121 R D L st w) (hL : L ≤ 1073741824) :
    Calls Tryd.prog 75 #[.pointer (some ⟨R, 0, none⟩)] w (MrPost R D L w mTx st Tr.val) := by
  obtain ⟨v1, s1, hv1⟩ : ∃ v s, gv 0 cM st = (v, s) := ⟨_, _, rfl⟩
  obtain ⟨v2, s2, hv2⟩ : ∃ v s, gv 0 cM s1 = (v, s) := ⟨_, _, rfl⟩
  obtain ⟨v3, s3, hv3⟩ : ∃ v s, gv 0 cM s2 = (v, s) := ⟨_, _, rfl⟩
  have hc1 := fun w' h => msgNumI R D L st w' h hL v1 s1 hv1
  have hc2 := fun w' h => msgNumI R D L s1 w' h hL v2 s2 hv2
  have hc3 := fun w' h => msgNumI R D L s2 w' h hL v3 s3 hv3
  have hgi : Gives mTx st s3 ⟨v1, v2, v3⟩ := (gives_i hv1).bind ((gives_i hv2).bind ((gives_i hv3).bind (Gives.ret _)))
  have hlt := h.lt
  have hg0 := G.new w (.cells #[.int .i64 0, .int .i64 0, .int .i64 0] 23)
  have B0 := blk_new w #[.int .i64 0, .int .i64 0, .int .i64 0] 23
  have hr0 := h.g hg0
  replace hc1 := Lib.hid hc1
  replace hc2 := Lib.hid hc2
  replace hc3 := Lib.hid hc3
  replace hgi := Lib.hid hgi
  replace hg0 := Lib.hid hg0
  clear h hv1 hv2 hv3
  go_enter Tryd.func75, Tryd.ntmps75
  go_upto_region 1 with fail
  generalize w.alloc (.cells #[.int .i64 0, .int .i64 0, .int .i64 0] 23) = W0 at *
  go_wp2_with (first
    | (go_at_call 78; (with_reducible refine Calls.mono (hc3.out _ hr2) ?_); rintro e u3 ⟨rfl, hr3, hb3⟩; have B3 := hb3.blk B2 (Nat.ne_of_gt hlt); obtain ⟨w9, SR9, C9, hb9, _⟩ := store_blk (P := Tryd.prog) (T := 23) (cs := #[.int .i64 v1, .int .i64 v2, .int .i64 v3]) B3 rfl (by kernel_rfl) (by kernel_rfl); have hr9 := hr3.but hb9 (fun k hk => by have e : k = w.heap.size := hk; have := hr3.le; omega); replace C9 := Lib.hid C9; replace hr9 := Lib.hid hr9; have hbz := Lib.hid (hb2.trans hb3); clear hr2 hr3 B2 B3)
    | (go_at_call 78; (with_reducible refine Calls.mono (hc2.out _ hr1) ?_); rintro e u2 ⟨rfl, hr2, hb2'⟩; have B2 := hb2'.blk B1 (Nat.ne_of_gt hlt); have hb2 := hb1.trans hb2'; clear hr1 B1)
    | (go_at_call 78; (with_reducible refine Calls.mono (hc1.out _ hr0) ?_); rintro e u1 ⟨rfl, hr1, hb1⟩; have B1 := hb1.blk B0 (Nat.ne_of_gt hlt); clear hr0 B0)
    | (refine wpList_store_at (ty := 23) rfl (by kernel_rfl) (p := .pointer (some ⟨w.heap.size, 0, none⟩)) rfl rfl SR9 ?_; clear SR9))
  refine bodyPost_ret (v := .agg #[.int .i64 v1, .int .i64 v2, .int .i64 v3]) (results_cell (i := 2) rfl rfl C9.out Tryd.underlying23 rfl (by kernel_rfl)) rfl ?_
  exact ⟨⟨v1, v2, v3⟩, s3, rfl, hr9.out, ((But.of_g hg0.out).trans hbz.out).over hb9 (fun k hk => .inl (by omega)), hgi.out⟩
set_option maxRecDepth 100000 in
set_option maxHeartbeats 2000000 in
theorem mrSpan_any (R D L : Nat) (st : Option (List UInt8)) (w : World) (h : BrS 121 R D L st w) (hL : L ≤ 1073741824) :
    Calls Tryd.prog 81 #[.pointer (some ⟨R, 0, none⟩)] w (MrPost R D L w mRg st Rg.val) := by
  obtain ⟨v1, s1, hv1⟩ : ∃ v s, gv 0 cM st = (v, s) := ⟨_, _, rfl⟩
  obtain ⟨v2, s2, hv2⟩ : ∃ v s, gv 0 cM s1 = (v, s) := ⟨_, _, rfl⟩
  obtain ⟨v3, s3, hv3⟩ : ∃ v s, gv 0 cM s2 = (v, s) := ⟨_, _, rfl⟩
  obtain ⟨v4, s4, hv4⟩ : ∃ v s, gv 0 cM s3 = (v, s) := ⟨_, _, rfl⟩
  have hc1 := fun w' h => msgNumI R D L st w' h hL v1 s1 hv1
  have hc2 := fun w' h => msgNumI R D L s1 w' h hL v2 s2 hv2
  have hc3 := fun w' h => msgNumI R D L s2 w' h hL v3 s3 hv3
  have hc4 := fun w' h => msgNumI R D L s3 w' h hL v4 s4 hv4
  have hgi : Gives mRg st s4 ⟨v1, v2, v3, v4⟩ := (gives_i hv1).bind ((gives_i hv2).bind ((gives_i hv3).bind ((gives_i hv4).bind (Gives.ret _))))
  have hlt := h.lt
  have hg0 := G.new w (.cells #[.int .i64 0, .int .i64 0, .int .i64 0, .int .i64 0] 31)
  have B0 := blk_new w #[.int .i64 0, .int .i64 0, .int .i64 0, .int .i64 0] 31
  have hr0 := h.g hg0
  replace hc1 := Lib.hid hc1
  replace hc2 := Lib.hid hc2
  replace hc3 := Lib.hid hc3
  replace hc4 := Lib.hid hc4
  replace hgi := Lib.hid hgi
  replace hg0 := Lib.hid hg0
  clear h hv1 hv2 hv3 hv4
  go_enter Tryd.func81, Tryd.ntmps81
  go_upto_region 1 with fail
  generalize w.alloc (.cells #[.int .i64 0, .int .i64 0, .int .i64 0, .int .i64 0] 31) = W0 at *
  go_wp2_with (first
    | (go_at_call 78; (with_reducible refine Calls.mono (hc4.out _ hr3) ?_); rintro e u4 ⟨rfl, hr4, hb4⟩; have B4 := hb4.blk B3 (Nat.ne_of_gt hlt); obtain ⟨w9, SR9, C9, hb9, _⟩ := store_blk (P := Tryd.prog) (T := 31) (cs := #[.int .i64 v1, .int .i64 v2, .int .i64 v3, .int .i64 v4]) B4 rfl (by kernel_rfl) (by kernel_rfl); have hr9 := hr4.but hb9 (fun k hk => by have e : k = w.heap.size := hk; have := hr4.le; omega); replace C9 := Lib.hid C9; replace hr9 := Lib.hid hr9; have hbz := Lib.hid (hb3.trans hb4); clear hr3 hr4 B3 B4)
    | (go_at_call 78; (with_reducible refine Calls.mono (hc3.out _ hr2) ?_); rintro e u3 ⟨rfl, hr3, hb3'⟩; have B3 := hb3'.blk B2 (Nat.ne_of_gt hlt); have hb3 := hb2.trans hb3'; clear hr2 B2)
    | (go_at_call 78; (with_reducible refine Calls.mono (hc2.out _ hr1) ?_); rintro e u2 ⟨rfl, hr2, hb2'⟩; have B2 := hb2'.blk B1 (Nat.ne_of_gt hlt); have hb2 := hb1.trans hb2'; clear hr1 B1)
    | (go_at_call 78; (with_reducible refine Calls.mono (hc1.out _ hr0) ?_); rintro e u1 ⟨rfl, hr1, hb1⟩; have B1 := hb1.blk B0 (Nat.ne_of_gt hlt); clear hr0 B0)
    | (refine wpList_store_at (ty := 31) rfl (by kernel_rfl) (p := .pointer (some ⟨w.heap.size, 0, none⟩)) rfl rfl SR9 ?_; clear SR9))
  refine bodyPost_ret (v := .agg #[.int .i64 v1, .int .i64 v2, .int .i64 v3, .int .i64 v4]) (results_cell (i := 2) rfl rfl C9.out Tryd.underlying31 rfl (by kernel_rfl)) rfl ?_
  exact ⟨⟨v1, v2, v3, v4⟩, s4, rfl, hr9.out, ((But.of_g hg0.out).trans hbz.out).over hb9 (fun k hk => .inl (by omega)), hgi.out⟩
end Go.Proofs.YtheogchkelmeeaaDoor

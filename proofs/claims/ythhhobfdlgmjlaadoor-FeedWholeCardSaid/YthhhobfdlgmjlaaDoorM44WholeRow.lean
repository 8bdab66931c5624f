/- Several texts in one: OwnW, FeedTwoLaw, Round. -/
import Derived.Test.YthhhobfdlgmjlaaDoorOwnButQWholeRow
import Derived.Test.YthhhobfdlgmjlaaDoorM43WholeRow
import Derived.Test.YthhhobfdlgmjlaaDoorBase
/- Where a row lies behind an append: in its own block, or in a new one. No condition. -/
namespace Go.Proofs.YthhhobfdlgmjlaaDoor
open Go.RowKit

theorem app_where {α : Type} {P : Program} {t e : TypeId} {sz bytes : Nat} {f : α → List Value} (he : IsElem P t e sz bytes f) (w : World) (ty : TypeId) (base : Nat) (v : Value) (xs : List α) (hown : OwnL e sz f w base v xs) (B : Nat) (A : Option Addr) (c : Nat) (ys : List α) (hA : A = none → ys = [])
    (hs : Sl f sz w B A ys) (hlen : xs.length + ys.length ≤ 9223372036854775807) (hby : (xs.length + ys.length) * bytes ≤ 140737488355328) {v' : Value} {w' : World} (hrun : (Builtin.append_ #[t, t] ty #[v, .slice A ys.length c]).run P w = .ok v' w') :
    v'.ownBlock = v.ownBlock ∨ v'.ownBlock = some w.heap.size := by
  obtain ⟨i, z, hi, hz, hsize, hbytes, hzs⟩ := he.info
  have ht := he.under
  have hpos := he.pos
  rcases A with _ | a
  · have hy := hA rfl
    subst hy
    have hr : (Builtin.append_ #[t, t] ty #[v, .slice none ([] : List α).length c]).run P w = .ok v w := by
      rcases hown.2 with ⟨rfl, _⟩ | ⟨g, cap, cur, rfl, _, _, hnc, _⟩
      · simp [Builtin.append_, run_underlying ht, sizeOf, typeInfo, hi, Builtin.lenOf, Builtin.firstCells]
      · simp [Builtin.append_, run_underlying ht, sizeOf, typeInfo, hi, Builtin.lenOf, Builtin.firstCells, hnc, storeCells]
    rw [hr] at hrun
    injection hrun with h1 h2
    exact .inl (by rw [h1])
  · have hfl := flat_length he.len ys
    have hnews : ∀ (j : Nat) u, (ys.flatMap f)[j]? = some u → w.cell? (a.add j) = some u := fun j u hu => by
      have hj : j < ys.length * sz := by rw [← hfl]; exact (List.getElem?_eq_some_iff.1 hu).1
      have hk : j / sz < ys.length := (Nat.div_lt_iff_lt_mul he.pos).2 hj
      obtain ⟨b, o, hA', _, hc⟩ := hs (by rintro rfl; simp at hj)
      cases hA'
      have hy : ys[j / sz]? = some ys[j / sz] := List.getElem?_eq_getElem hk
      have hm : j % sz < (f ys[j / sz]).length := by rw [he.len]; exact Nat.mod_lt _ he.pos
      have h4 := flat_get he.len ys (j / sz) _ hy (j % sz) _ (List.getElem?_eq_getElem hm)
      have e1 : j / sz * sz + j % sz = j := by rw [Nat.mul_comm]; exact Nat.div_add_mod j sz
      rw [e1, hu] at h4
      have h5 := hc (j / sz) _ hy (j % sz) u (by rw [List.getElem?_eq_getElem hm]; exact h4.symm)
      rw [Nat.add_assoc, e1] at h5
      rw [Addr.add_lit]
      exact h5
    have h1 : ∀ u ∈ ys.flatMap f, u.oneCell' = true := fun u hu => by
      obtain ⟨y, _, h4⟩ := List.mem_flatMap.1 hu
      exact he.one y u h4
    subst hsize
    subst hbytes
    have hlen0 := hown.1
    rcases hown.2 with ⟨rfl, hn⟩ | ⟨g, cap, cur, rfl, hbg, hg, hnc, hcm, hcs, htake⟩
    · by_cases hm : ys = []
      · subst hm
        have hr : (Builtin.append_ #[t, t] ty #[.slice none 0 0, .slice (some a) ([] : List α).length c]).run P w = .ok (.slice none 0 0) w := by
          simp [Builtin.append_, run_underlying ht, sizeOf, typeInfo, hi, Builtin.lenOf, Builtin.firstCells, loadCells, loadCellsFrom]
        rw [hr] at hrun
        injection hrun with h1 h2
        exact .inl (by rw [h1])
      · have hp : 0 < ys.length := List.length_pos_iff.2 hm
        have hx : xs.length = 0 := hn
        rw [hx, Nat.zero_add] at hlen hby
        have hr := run_append_nil (P := P) w t ty e i z ht hi hz a ys.length c (ys.flatMap f) hfl hnews hp (by omega) (by omega)
        rw [hr] at hrun
        injection hrun with h1 h2
        exact .inr (by rw [← h1]; rfl)
    · by_cases hroom : xs.length + ys.length ≤ cap
      · have hfit : xs.length * i.size + (ys.flatMap f).length ≤ cur.size := by rw [hfl, hcs, ← Nat.add_mul]; exact Nat.mul_le_mul_right _ hroom
        have hr := run_append_room (P := P) w t ty e i ht hi g xs.length cap cur hg a ys.length c (ys.flatMap f) hfl hnews h1 hroom hfit
        rw [hr] at hrun
        injection hrun with h1 h2
        exact .inl (by rw [← h1]; rfl)
      · have hcells : w.ownsRow base e i.size (.slice (some ⟨g, 0, none⟩) xs.length cap) xs.length (xs.flatMap f) := hown
        have holds : ∀ j u, (xs.flatMap f)[j]? = some u → w.cell? ((⟨g, 0, none⟩ : Addr).add j) = some u := hcells.cells (g := g) rfl
        have hr := run_append_grow (P := P) w t ty e i z ht hi hz ⟨g, 0, none⟩ xs.length cap (xs.flatMap f) hown.1 holds a ys.length c (ys.flatMap f) hfl hnews (by omega) (by omega) (growslice_fits (by omega) hby)
        rw [hr] at hrun
        injection hrun with h1 h2
        exact .inr (by rw [← h1]; rfl)
section
variable {α : Type} {P : Program} {t e : TypeId} {sz bytes : Nat} {f : α → List Value} (he : IsElem P t e sz bytes f)
include he
theorem wp_append_w {o : Oper} {a : Act} {K : Act → World → Prop} {Q : Exit → Act → World → Prop} (w : World) (s x : Operand)
    (ho : o.op = .call { callee := .builtin .append, args := #[s, x], argTypes := #[t, t] })
    (base : Nat) (v : Value) (xs : List α) (hv : a.eval s = v) (hown : OwnL e sz f w base v xs) (B : Nat) (A : Option Addr) (c : Nat) (ys : List α) (hx : a.eval x = .slice A ys.length c) (hA : A = none → ys = [])
    (hs : Sl f sz w B A ys) (hlen : xs.length + ys.length ≤ 9223372036854775807) (hby : (xs.length + ys.length) * bytes ≤ 140737488355328) (hbase : base ≤ w.heap.size)
    (h : ∀ v' w', OwnL e sz f w' base v' (xs ++ ys) → KeepT e base w w' → But (fun k => some k = v.ownBlock) w w' → (v'.ownBlock = v.ownBlock ∨ v'.ownBlock = some w.heap.size) → K (a.put o.dst v') w') : o.wp P a w K Q := by
  obtain ⟨v', w', hrun, h2, h3, h4⟩ := run_append_but he w o.type base v xs hown B A c ys hA hs hlen hby hbase
  have h5 := app_where he w o.type base v xs hown B A c ys hA hs hlen hby hrun
  unfold Oper.wp execOp
  simp only [ho, resolve, invoke, builtin, Sem.run_bind, Sem.run_pure, Result.andThen_ok, List.map_toArray, List.map_cons, List.map_nil, hv, hx, hrun]
  exact h v' w' h2 h3 h4 h5
theorem wpList_append_w {ops : Array Oper} {rest : List Oper} {o : Oper} {a : Act} {Q : Exit → Act → World → Prop} (w : World) (hgd : o.guard = none) (s x : Operand)
    (ho : o.op = .call { callee := .builtin .append, args := #[s, x], argTypes := #[t, t] })
    (base : Nat) (v : Value) (xs : List α) (hv : a.eval s = v) (hown : OwnL e sz f w base v xs) (B : Nat) (A : Option Addr) (c : Nat) (ys : List α) (hx : a.eval x = .slice A ys.length c) (hA : A = none → ys = [])
    (hs : Sl f sz w B A ys) (hlen : xs.length + ys.length ≤ 9223372036854775807) (hby : (xs.length + ys.length) * bytes ≤ 140737488355328) (hbase : base ≤ w.heap.size)
    (h : ∀ v' w', OwnL e sz f w' base v' (xs ++ ys) → KeepT e base w w' → But (fun k => some k = v.ownBlock) w w' → (v'.ownBlock = v.ownBlock ∨ v'.ownBlock = some w.heap.size) → wpList P ops Q rest (a.put o.dst v') w') : wpList P ops Q (o :: rest) a w :=
  wpList_plain hgd fun _ hK => wp_append_w he w s x ho base v xs hv hown B A c ys hx hA hs hlen hby hbase fun v' w' h2 h3 h4 h5 => hK _ _ (h v' w' h2 h3 h4 h5)
theorem step_append_w {ops : Array Oper} {o : Oper} {a : Act} {K : Act → World → Prop} {Q : Exit → Act → World → Prop} {E : Prop} (w : World) (hgd : Region.wanted o (yielded ops a.tmps) = true) (s x : Operand)
    (ho : o.op = .call { callee := .builtin .append, args := #[s, x], argTypes := #[t, t] })
    (base : Nat) (v : Value) (xs : List α) (hv : a.eval s = v) (hown : OwnL e sz f w base v xs) (B : Nat) (A : Option Addr) (c : Nat) (ys : List α) (hx : a.eval x = .slice A ys.length c) (hA : A = none → ys = [])
    (hs : Sl f sz w B A ys) (hlen : xs.length + ys.length ≤ 9223372036854775807) (hby : (xs.length + ys.length) * bytes ≤ 140737488355328) (hbase : base ≤ w.heap.size)
    (h : ∀ v' w', OwnL e sz f w' base v' (xs ++ ys) → KeepT e base w w' → But (fun k => some k = v.ownBlock) w w' → (v'.ownBlock = v.ownBlock ∨ v'.ownBlock = some w.heap.size) → K (a.put o.dst v') w') :
    if Region.wanted o (yielded ops a.tmps) = true then Oper.wp P o a w K Q else E := by
  rw [if_pos hgd]
  exact wp_append_w he w s x ho base v xs hv hown B A c ys hx hA hs hlen hby hbase h
end
/-- What turned row by row lies in the row's own block or in new ones. -/
structure Turn (w : World) (v0 v : Value) (w' : World) : Prop where
  but : But (fun k => some k = v0.ownBlock) w w'
  at_ : ∀ k, v.ownBlock = some k → v0.ownBlock = some k ∨ w.heap.size ≤ k
theorem Turn.refl (w : World) (v : Value) : Turn w v v w := ⟨But.refl _ _, fun _ h => .inl h⟩
theorem Turn.of_app {w w' : World} {v v' : Value} (h : But (fun k => some k = v.ownBlock) w w') (hw : v'.ownBlock = v.ownBlock ∨ v'.ownBlock = some w.heap.size) : Turn w v v' w' := ⟨h, fun k hk => by
  rcases hw with e | e
  · exact .inl (by rw [← e]; exact hk)
  · rw [e] at hk; cases hk; exact .inr (Nat.le_refl _)⟩
theorem Turn.trans {w w1 w2 : World} {v0 v1 v2 : Value} (h : Turn w v0 v1 w1) (k : Turn w1 v1 v2 w2) : Turn w v0 v2 w2 := by
  refine ⟨⟨k.but.os.trans h.but.os, k.but.tape.trans h.but.tape, k.but.output.trans h.but.output, Nat.le_trans h.but.size k.but.size, fun i hi hS => ?_⟩, fun i hi => ?_⟩
  · refine (k.but.block i (Nat.lt_of_lt_of_le hi h.but.size) fun e => ?_).trans (h.but.block i hi hS)
    rcases h.at_ i e.symm with h1 | h1
    · exact hS h1.symm
    · omega
  · rcases k.at_ i hi with h1 | h1
    · exact h.at_ i h1
    · exact .inr (Nat.le_trans h.but.size h1)
theorem Turn.g {w w1 : World} {v0 v : Value} {w0 : World} (hg : G w0 w) (h : Turn w v0 v w1) : Turn w0 v0 v w1 := by
  have h0 := But.of_g (S := fun k => some k = v0.ownBlock) hg
  exact ⟨h0.trans h.but, fun k hk => (h.at_ k hk).imp id (Nat.le_trans hg.size)⟩
theorem Turn.after {w w1 w2 : World} {v0 v : Value} (h : Turn w v0 v w1) (hg : G w1 w2) : Turn w v0 v w2 := ⟨h.but.g hg, h.at_⟩
/-- A slice that is not the row's own, and was there, stays. -/
theorem Turn.sl {α : Type} {f : α → List Value} {sz : Nat} {w w' : World} {v0 v : Value} (h : Turn w v0 v w') {B : Nat} {A : Option Addr} {xs : List α} (hs : Sl f sz w B A xs) (hB : B ≤ w.heap.size) (hA : ∀ b o, A = some ⟨b, o, none⟩ → v0.ownBlock ≠ some b) : Sl f sz w' B A xs := fun hn => by
  obtain ⟨b, o, e, hb, hc⟩ := hs hn
  exact ⟨b, o, e, hb, fun k x hx j u hu => (h.but.cell (by omega) (fun e' => hA b o e e'.symm)).trans (hc k x hx j u hu)⟩
end Go.Proofs.YthhhobfdlgmjlaaDoor
/- FeedTwo's law: two subscribers, one sequence. Plain Lean. No condition. -/
namespace Go.Proofs.YthhhobfdlgmjlaaDoor
open Go.RowKit

/-- An event that may be. -/
def okE (x : Ev) : Prop := soundB x.st.wall x.st.logic x.st.node = true ∧ 0 ≤ x.index
theorem cur_ok {L : List LogM} {st : St} {PA : List Ev} {c : Cu} {mx : Int} (h : Ini (mergeF L st cu0) PA) (hL : ∀ y, inLogs L y → okE y) (hc : curOf cu0 PA = c) (h1 : 1 ≤ mx) (h2 : mx ≤ 100) : pollOk st1 c mx = true := by
  have hk : soundB c.st.wall c.st.logic c.st.node = true ∧ 0 ≤ c.index := by
    rcases List.eq_nil_or_concat PA with rfl | ⟨p, x, rfl⟩
    · subst hc
      exact ⟨rfl, Int.le_refl _⟩
    · rw [List.concat_eq_append] at *
      rw [curOf_snoc] at hc
      subst hc
      exact hL x (h.2.1 x (by simp)).1
  unfold pollOk
  rw [st1_ok, hk.1, decide_eq_true hk.2, decide_eq_true ⟨h1, h2⟩]
  rfl
theorem dist_of {ls : List LogM} (h : Apart (allEvs ls)) : Dist (inLogs ls) := fun _ _ hx hy hne => h.ne hx hy hne
theorem allEvs_cons (A : Option Addr) (c : Nat) (own : List Ev) (ls : List LogM) : allEvs (⟨A, c, own⟩ :: ls) = own ++ allEvs ls := by simp [allEvs]
theorem onlyL_app (p : ByteArray) (a b : List Ev) : onlyL p (a ++ b) = onlyL p a ++ onlyL p b := List.filter_append _ _
theorem tally_le {ls : List LogM} {n : Nat} (h : ∀ l ∈ ls, l.es.length ≤ n) : evTally ls ≤ ls.length * n := by
  unfold evTally
  induction ls with
  | nil => simp
  | cons l ls ih =>
    have := ih fun x hx => h x (by simp [hx])
    have := h l (by simp)
    simp only [List.map_cons, List.sum_cons, List.length_cons, Nat.succ_mul]
    omega
/-- What has been told, and where it goes on: a row, a place's block. -/
structure Subs (L : List LogM) (st : St) (Wm : World) (C : Nat) (PA : List Ev) (v : Value) (w : World) : Prop where
  ini : Ini (mergeF L st cu0) PA
  row : OwnL 32 7 Ev.cells w Wm.heap.size v (onlyL st1 PA)
  cur : w.heap[C]? = some (.cells (cuCs (curOf cu0 PA)) 38 (0, 0))
theorem Subs.g {L : List LogM} {st : St} {Wm : World} {C : Nat} {PA : List Ev} {v : Value} {w w' : World} (h : Subs L st Wm C PA v w) (hg : G w w') : Subs L st Wm C PA v w' := ⟨h.ini, h.row.g hg, hg.blk h.cur⟩
/-- Two rows apart. -/
def SepV (v u : Value) : Prop := ∀ k, v.ownBlock = some k → u.ownBlock ≠ some k
theorem SepV.none (u : Value) : SepV (.slice Option.none 0 0) u := fun _ h => by cases h
theorem row_type {w : World} {base k : Nat} {v : Value} {xs : List Ev} {cs : Array Value} {t : TypeId} (h : OwnL 32 7 Ev.cells w base v xs) (hk : v.ownBlock = some k) (hC : w.heap[k]? = some (.cells cs t (0, 0))) (hne : 32 ≠ t) : False := by
  obtain ⟨_, _, cs', h3⟩ := h.blk hk
  exact type_ne h3 hC hne
end Go.Proofs.YthhhobfdlgmjlaaDoor
/- penstockalike.Round: what it answers. Condition: the second number is above 0. -/
namespace Go.Proofs.YthhhobfdlgmjlaaDoor
open Go.RowKit

set_option maxHeartbeats 400000 in
theorem round_any (k n : Int) (w : World) (hn : 1 ≤ n) (hn2 : n ≤ 9223372036854775807) (_hk : -9223372036854775808 ≤ k) (_hk2 : k ≤ 9223372036854775807) :
    Calls Tryd.prog 22 #[.int .i64 k, .int .i64 n] w fun e w' => e = .returned (.int .i64 (k % n)) ∧ w = w' := by
  have h1 := Int.tmod_lt_of_pos k (show 0 < n by omega)
  have h2 : -n < k.tmod n := by
    have := Int.lt_tmod_of_pos k (show 0 < n by omega)
    omega
  have h3 : k % n = if k.tmod n < 0 then k.tmod n + n else k.tmod n := by
    rw [Int.tmod_eq_emod]
    have h4 := Int.emod_nonneg k (show n ≠ 0 by omega)
    have h5 := Int.emod_lt_of_pos k (show 0 < n by omega)
    split <;> (try split) <;> omega
  replace h3 := Lib.hid h3
  generalize hm : k.tmod n = m at *
  go_enter Tryd.func22, Tryd.ntmps22
  go_wp2
  all_goals (go_ret; exact ⟨ret_int (by rw [h3.out]; split <;> omega), rfl⟩)
end Go.Proofs.YthhhobfdlgmjlaaDoor

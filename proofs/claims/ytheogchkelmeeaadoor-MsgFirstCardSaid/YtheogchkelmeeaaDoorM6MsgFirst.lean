/- Several texts in one: Ev, Sound, Ctl. -/
import Derived.Test.YtheogchkelmeeaaDoorM0MsgFirst
import Derived.Laws.StructEq
import Derived.Test.YtheogchkelmeeaaDoorM2MsgFirst
/- Stamps and events: as Lean structures, as cells, held against each other by Go's == and !=. No condition. -/
namespace Go.Proofs.YtheogchkelmeeaaDoor
open Go.RowKit

structure St where
  wall : Int
  logic : Int
  node : Int
  deriving DecidableEq
def St.cells (s : St) : List Value := [.int .i64 s.wall, .int .i64 s.logic, .int .i64 s.node]
structure Ev where
  stream : ByteArray
  version : Int
  data : ByteArray
  st : St
  index : Int
  deriving DecidableEq
def Ev.cells (e : Ev) : List Value := [.string e.stream, .int .i64 e.version, .string e.data, .int .i64 e.st.wall, .int .i64 e.st.logic, .int .i64 e.st.node, .int .i64 e.index]

theorem bytes_beq (a b : ByteArray) : (a.toList == b.toList) = decide (a = b) := by
  rw [ByteArray.toList_eq, ByteArray.toList_eq]
  by_cases h : a = b
  · subst h; simp
  · rw [decide_eq_false h]
    have : ¬ a.data.toList = b.data.toList := fun e => h (by cases a; cases b; simp only [ByteArray.mk.injEq]; exact Array.toList_inj.1 e)
    simp only [beq_eq_false_iff_ne, ne_eq, this, not_false_eq_true]

def stB (a b : St) : Bool := decide (a = b)
def evB (a b : Ev) : Bool := decide (a = b)

section
variable (w : World)
theorem st_equal (a b : St) : (Op.equalIn 10000 28 (.agg a.cells.toArray) (.agg b.cells.toArray)).run Tryd.prog w = .ok (stB a b) w := by
  obtain ⟨a1, a2, a3⟩ := a
  obtain ⟨b1, b2, b3⟩ := b
  by_cases h1 : a1 = b1 <;> by_cases h2 : a2 = b2 <;> by_cases h3 : a3 = b3 <;> simp [go_sem, St.cells, stB, h1, h2, h3]
theorem st_eql (x y z x' y' z' : Int) : (binOp .eql 28 (.agg #[.int .i64 x, .int .i64 y, .int .i64 z]) (.agg #[.int .i64 x', .int .i64 y', .int .i64 z'])).run Tryd.prog w = .ok (.bool (stB ⟨x, y, z⟩ ⟨x', y', z'⟩)) w := by
  have h := st_equal w ⟨x, y, z⟩ ⟨x', y', z'⟩
  unfold St.cells at h
  rw [run_eql_struct, h]
  rfl
theorem st_neq (x y z x' y' z' : Int) : (binOp .neq 28 (.agg #[.int .i64 x, .int .i64 y, .int .i64 z]) (.agg #[.int .i64 x', .int .i64 y', .int .i64 z'])).run Tryd.prog w = .ok (.bool (!stB ⟨x, y, z⟩ ⟨x', y', z'⟩)) w := by
  have h := st_equal w ⟨x, y, z⟩ ⟨x', y', z'⟩
  unfold St.cells at h
  rw [run_neq_struct, h]
  rfl
theorem ev_equal (a b : Ev) : (Op.equalIn 10000 110 (.agg a.cells.toArray) (.agg b.cells.toArray)).run Tryd.prog w = .ok (evB a b) w := by
  obtain ⟨a1, a2, a3, ⟨a4, a5, a6⟩, a7⟩ := a
  obtain ⟨b1, b2, b3, ⟨b4, b5, b6⟩, b7⟩ := b
  by_cases h1 : a1 = b1
  · by_cases h2 : a2 = b2
    · by_cases h3 : a3 = b3
      · by_cases h4 : a4 = b4
        · by_cases h5 : a5 = b5
          · by_cases h6 : a6 = b6
            · by_cases h7 : a7 = b7 <;> simp [go_sem, Ev.cells, evB, h1, h2, h3, h4, h5, h6, h7]
            · simp [go_sem, Ev.cells, evB, h1, h2, h3, h4, h5, h6]
          · simp [go_sem, Ev.cells, evB, h1, h2, h3, h4, h5]
        · simp [go_sem, Ev.cells, evB, h1, h2, h3, h4]
      · simp [go_sem, Ev.cells, evB, bytes_beq, h1, h2, h3]
    · simp [go_sem, Ev.cells, evB, bytes_beq, h1, h2]
  · simp [go_sem, Ev.cells, evB, bytes_beq, h1]
theorem ev_eql (s d s' d' : ByteArray) (v x y z i v' x' y' z' i' : Int) : (binOp .eql 110 (.agg #[.string s, .int .i64 v, .string d, .int .i64 x, .int .i64 y, .int .i64 z, .int .i64 i])
    (.agg #[.string s', .int .i64 v', .string d', .int .i64 x', .int .i64 y', .int .i64 z', .int .i64 i'])).run Tryd.prog w = .ok (.bool (evB ⟨s, v, d, ⟨x, y, z⟩, i⟩ ⟨s', v', d', ⟨x', y', z'⟩, i'⟩)) w := by
  have h := ev_equal w ⟨s, v, d, ⟨x, y, z⟩, i⟩ ⟨s', v', d', ⟨x', y', z'⟩, i'⟩
  unfold Ev.cells at h
  rw [run_eql_struct, h]
  rfl
theorem ev_neq (s d s' d' : ByteArray) (v x y z i v' x' y' z' i' : Int) : (binOp .neq 110 (.agg #[.string s, .int .i64 v, .string d, .int .i64 x, .int .i64 y, .int .i64 z, .int .i64 i])
    (.agg #[.string s', .int .i64 v', .string d', .int .i64 x', .int .i64 y', .int .i64 z', .int .i64 i'])).run Tryd.prog w = .ok (.bool (!evB ⟨s, v, d, ⟨x, y, z⟩, i⟩ ⟨s', v', d', ⟨x', y', z'⟩, i'⟩)) w := by
  have h := ev_equal w ⟨s, v, d, ⟨x, y, z⟩, i⟩ ⟨s', v', d', ⟨x', y', z'⟩, i'⟩
  unfold Ev.cells at h
  rw [run_neq_struct, h]
  rfl
end

/-- The cells of a list of events, one behind the other. -/
def evs (es : List Ev) : List Value := es.flatMap Ev.cells
theorem evs_length (es : List Ev) : (evs es).length = es.length * 7 := by
  induction es with
  | nil => rfl
  | cons e es ih => simp [evs] at ih ⊢; rw [ih]; simp [Ev.cells]; omega
theorem evs_append (a b : List Ev) : evs (a ++ b) = evs a ++ evs b := by simp [evs]
theorem Ev.cells_len (e : Ev) : e.cells.length = 7 := rfl
theorem evs_get (es : List Ev) (k : Nat) (e : Ev) (h : es[k]? = some e) (j : Nat) (u : Value) (hu : e.cells[j]? = some u) : (evs es)[k * 7 + j]? = some u := flat_get Ev.cells_len es k e h j u hu
/-- The slice value v is the call's own (its block from base on) and holds the events es. -/
def Own (w : World) (base : Nat) (v : Value) (es : List Ev) : Prop := w.ownsRow base 110 7 v es.length (evs es)
theorem Own.g {w w' : World} {base : Nat} {v : Value} {es : List Ev} (h : Own w base v es) (hg : G w w') : Own w' base v es := by
  refine ⟨h.1, ?_⟩
  rcases h.2 with h1 | ⟨g, cap, cur, hv, hb, hh, hr⟩
  · exact .inl h1
  · refine .inr ⟨g, cap, cur, hv, hb, (hg.block g ?_).trans hh, hr⟩
    rcases Nat.lt_or_ge g w.heap.size with h1 | h1
    · exact h1
    · rw [Array.getElem?_eq_none h1] at hh; cases hh
theorem Own.mono {w : World} {base base' : Nat} {v : Value} {es : List Ev} (h : Own w base v es) (hb : base' ≤ base) : Own w base' v es := by
  refine ⟨h.1, ?_⟩
  rcases h.2 with h1 | ⟨g, cap, cur, hv, hb2, hr⟩
  · exact .inl h1
  · exact .inr ⟨g, cap, cur, hv, by omega, hr⟩
theorem Own.nil (w : World) (base : Nat) : Own w base (.slice none 0 0) [] := ⟨rfl, .inl ⟨rfl, rfl⟩⟩
/-- What an append onto a row of events of the call's own leaves as it was: all below base, and each block of another element type. -/
def KeepE (base : Nat) (w w' : World) : Prop := Below base w w' ∧ ∀ (k : Nat) (cs : Array Value) (t : TypeId) (fz : Nat × Nat), t ≠ 110 → w.heap[k]? = some (.cells cs t fz) → w'.heap[k]? = some (.cells cs t fz)
theorem KeepE.refl (base : Nat) (w : World) : KeepE base w w := ⟨Below.refl _ _, fun _ _ _ _ _ h => h⟩
theorem KeepE.trans {base : Nat} {a b c : World} (h : KeepE base a b) (k : KeepE base b c) : KeepE base a c := ⟨h.1.trans k.1, fun g cs t fz ht hh => k.2 g cs t fz ht (h.2 g cs t fz ht hh)⟩
theorem KeepE.of_g {base : Nat} {a b : World} (h : G a b) (hb : base ≤ a.heap.size) : KeepE base a b := ⟨Below.mono h hb, fun g cs t fz _ hh => (h.block g (by
  rcases Nat.lt_or_ge g a.heap.size with h1 | h1
  · exact h1
  · rw [Array.getElem?_eq_none h1] at hh; cases hh)).trans hh⟩
theorem KeepE.g {W w w' : World} (h : KeepE W.heap.size w w') (hg : G W w) : G W w' := Below.trans hg h.1
theorem ev_info : (Tryd.prog.info? 110).map (fun i => (i.zero, i.size, i.bytes)) = some (some (.agg #[.string ByteArray.empty, .int .i64 0, .string ByteArray.empty, .int .i64 0, .int .i64 0, .int .i64 0, .int .i64 0]), 7, 72) := by kernel_rfl
/-- append of one event, that lies in a block of its own, onto a row of the call's own: the run. -/
theorem run_append_ev (w : World) (ty : TypeId) (base : Nat) (v : Value) (es : List Ev) (hown : Own w base v es) (e : Ev) (b c : Nat)
    (hb : w.heap[b]? = some (.cells e.cells.toArray 110 (0, 0))) (hlen : es.length + 1 ≤ 1099511627777) (hbase : base ≤ w.heap.size) :
    ∃ v' w', (Builtin.append_ #[33, 33] ty #[v, .slice (some ⟨b, 0, none⟩) 1 c]).run Tryd.prog w = .ok v' w' ∧ Own w' base v' (es ++ [e]) ∧ KeepE base w w' := by
  obtain ⟨i0, hi, hz0, hz1, hz2⟩ := info_parts ev_info
  obtain ⟨v', w', hrun, h1, h2, _⟩ := run_append_own (P := Tryd.prog) w base 33 ty 110 i0 _ 7 72 Tryd.underlying33 hi hz0 hz1 hz2 rfl (by omega) v es.length (evs es) hown ⟨b, 0, none⟩ 1 c e.cells rfl (fun j u hu => by
      have : Addr.add ⟨b, 0, none⟩ j = ⟨b, j, none⟩ := by rw [Addr.add_lit]; simp
      rw [this, blk_cell hb]
      simpa using hu)
    (by intro u hu; simp [Ev.cells] at hu; rcases hu with rfl | rfl | rfl | rfl | rfl | rfl | rfl <;> rfl) (by simp only [maxLen]; omega) (by omega) hbase
  refine ⟨v', w', hrun, ?_, (Below.refl _ _).grown h2 hbase ?_, fun k cs t fz ht hh => ?_⟩
  · show w'.ownsRow _ _ _ _ _ _
    rw [evs_append, List.length_append]
    simpa [evs] using h1
  · intro k hk
    rcases hown.2 with ⟨rfl, _⟩ | ⟨g, cap, cur, rfl, hbg, hh, _⟩
    · simp [Value.ownBlock] at hk
    · simp [Value.ownBlock] at hk; omega
  · have hlt : k < w.heap.size := by
      rcases Nat.lt_or_ge k w.heap.size with h1 | h1
      · exact h1
      · rw [Array.getElem?_eq_none h1] at hh; cases hh
    refine (h2.block k hlt ?_).trans hh
    intro hk
    rcases hown.2 with ⟨rfl, _⟩ | ⟨g, cap, cur, rfl, hbg, hh2, _⟩
    · simp [Value.ownBlock] at hk
    · simp [Value.ownBlock] at hk
      subst hk
      rw [hh] at hh2
      simp at hh2
      exact ht hh2.2.1
theorem wp_append_ev {o : Oper} {a : Act} {K : Act → World → Prop} {Q : Exit → Act → World → Prop} (w : World) (s x : Operand)
    (ho : o.op = .call { callee := .builtin .append, args := #[s, x], argTypes := #[33, 33] })
    (base : Nat) (v : Value) (es : List Ev) (hs : a.eval s = v) (hown : Own w base v es) (e : Ev) (b c : Nat) (hx : a.eval x = .slice (some ⟨b, 0, none⟩) 1 c)
    (hb : w.heap[b]? = some (.cells e.cells.toArray 110 (0, 0))) (hlen : es.length + 1 ≤ 1099511627777) (hbase : base ≤ w.heap.size)
    (h : ∀ v' w', Own w' base v' (es ++ [e]) → KeepE base w w' → K (a.put o.dst v') w') : o.wp Tryd.prog a w K Q := by
  obtain ⟨v', w', hrun, h2, h3⟩ := run_append_ev w o.type base v es hown e b c hb hlen hbase
  unfold Oper.wp execOp
  simp only [ho, resolve, invoke, builtin, Sem.run_bind, Sem.run_pure, Result.andThen_ok, List.map_toArray, List.map_cons, List.map_nil, hs, hx, hrun]
  exact h v' w' h2 h3
theorem wpList_append_ev {ops : Array Oper} {rest : List Oper} {o : Oper} {a : Act} {Q : Exit → Act → World → Prop} (w : World) (hgd : o.guard = none) (s x : Operand)
    (ho : o.op = .call { callee := .builtin .append, args := #[s, x], argTypes := #[33, 33] })
    (base : Nat) (v : Value) (es : List Ev) (hs : a.eval s = v) (hown : Own w base v es) (e : Ev) (b c : Nat) (hx : a.eval x = .slice (some ⟨b, 0, none⟩) 1 c)
    (hb : w.heap[b]? = some (.cells e.cells.toArray 110 (0, 0))) (hlen : es.length + 1 ≤ 1099511627777) (hbase : base ≤ w.heap.size)
    (h : ∀ v' w', Own w' base v' (es ++ [e]) → KeepE base w w' → wpList Tryd.prog ops Q rest (a.put o.dst v') w') : wpList Tryd.prog ops Q (o :: rest) a w :=
  wpList_plain hgd fun _ hK => wp_append_ev w s x ho base v es hs hown e b c hx hb hlen hbase fun v' w' h2 h3 => hK _ _ (h v' w' h2 h3)
theorem step_append_ev {ops : Array Oper} {o : Oper} {a : Act} {K : Act → World → Prop} {Q : Exit → Act → World → Prop} {E : Prop} (w : World) (hgd : o.guard = none) (s x : Operand)
    (ho : o.op = .call { callee := .builtin .append, args := #[s, x], argTypes := #[33, 33] })
    (base : Nat) (v : Value) (es : List Ev) (hs : a.eval s = v) (hown : Own w base v es) (e : Ev) (b c : Nat) (hx : a.eval x = .slice (some ⟨b, 0, none⟩) 1 c)
    (hb : w.heap[b]? = some (.cells e.cells.toArray 110 (0, 0))) (hlen : es.length + 1 ≤ 1099511627777) (hbase : base ≤ w.heap.size)
    (h : ∀ v' w', Own w' base v' (es ++ [e]) → KeepE base w w' → K (a.put o.dst v') w') :
    if Region.wanted o (yielded ops a.tmps) = true then Oper.wp Tryd.prog o a w K Q else E := by
  have hw : Region.wanted o (yielded ops a.tmps) = true := by simp [Region.wanted, hgd]
  rw [if_pos hw]
  exact wp_append_ev w s x ho base v es hs hown e b c hx hb hlen hbase h
theorem Own.sl {w : World} {base : Nat} {v : Value} {es : List Ev} (h : Own w base v es) : ∃ A c, v = .slice A es.length c ∧ Sl Ev.cells 7 w w.heap.size A es := by
  obtain ⟨hl, h⟩ := h
  rcases h with ⟨rfl, hn⟩ | ⟨g, cap, cur, rfl, hb, hh, hnc, hcm, hcs, hx⟩
  · have : es = [] := List.eq_nil_of_length_eq_zero hn
    subst this
    exact ⟨none, 0, rfl, Sl.nil⟩
  · refine ⟨some ⟨g, 0, none⟩, cap, rfl, fun _ => ⟨g, 0, rfl, ?_, fun k e he j u hu => ?_⟩⟩
    · rcases Nat.lt_or_ge g w.heap.size with h1 | h1
      · exact h1
      · rw [Array.getElem?_eq_none h1] at hh; cases hh
    · have h1 := evs_get es k e he j u hu
      have hk : k < es.length := (List.getElem?_eq_some_iff.1 he).1
      have hj : j < 7 := (List.getElem?_eq_some_iff.1 hu).1
      simp only [World.cell?, hh, Nat.zero_add]
      rw [← hx, List.getElem?_take_of_lt (by omega), Array.getElem?_toList] at h1
      simpa using h1
end Go.Proofs.YtheogchkelmeeaaDoor
/- stamp.Sound, penstockref7.Sound: the stamps that may be. Conditions: none. -/
namespace Go.Proofs.YtheogchkelmeeaaDoor
open Go.RowKit

/-- A stamp's value. -/
def stV (a b c : Int) : Value := .agg #[.int .i64 a, .int .i64 b, .int .i64 c]
def soundB (a b c : Int) : Bool := decide (0 ≤ a ∧ a ≤ 1125899906842624 ∧ 0 ≤ b ∧ b < 65536 ∧ 0 ≤ c ∧ c ≤ 5)
theorem within_any (n m : Int) (w : World) :
    Calls Tryd.prog 117 #[.int .i64 n, .int .i64 m] w fun e w' => e = .returned (.bool (decide (0 ≤ n ∧ n ≤ m))) ∧ w = w' := by
  go_enter Tryd.func117, Tryd.ntmps117
  by_cases h : 0 ≤ n
  · by_cases h2 : n ≤ m
    · go_wp2_with fail
      go_ret
      exact ⟨by simp [h, h2], rfl⟩
    · go_wp2_with fail
      go_ret
      exact ⟨by simp [h2], rfl⟩
  · go_wp2_with fail
    go_ret
    exact ⟨by rw [show decide (0 ≤ n) = false from decide_eq_false (by omega)]; rfl, rfl⟩
theorem sound_any (a b c : Int) (w : World) :
    Calls Tryd.prog 104 #[stV a b c] w fun e w' => e = .returned (.bool (soundB a b c)) ∧ G w w' := by
  unfold stV
  go_enter Tryd.func104, Tryd.ntmps104
  have h1 := fun w => within_any a 1125899906842624 w
  have h2 := fun w => within_any b 65535 w
  have h3 := fun w => within_any c 5 w
  by_cases d1 : 0 ≤ a ∧ a ≤ 1125899906842624
  · have e1 : decide (0 ≤ a ∧ a ≤ 1125899906842624) = true := decide_eq_true d1
    by_cases d2 : 0 ≤ b ∧ b ≤ 65535
    · have e2 : decide (0 ≤ b ∧ b ≤ 65535) = true := decide_eq_true d2
      simp only [e1] at h1
      simp only [e2] at h2
      go_wp2_with fail
      refine (h1 _).mono ?_
      rintro e w1 ⟨rfl, rfl⟩
      go_wp2_with fail
      refine (h2 _).mono ?_
      rintro e w1 ⟨rfl, rfl⟩
      go_wp2_with fail
      refine (h3 _).mono ?_
      rintro e w1 ⟨rfl, rfl⟩
      go_wp2_with fail
      go_ret
      exact ⟨by rw [show soundB a b c = (decide (0 ≤ c) && decide (c ≤ 5)) by unfold soundB; rw [← Bool.decide_and]; exact decide_eq_decide.2 (by omega)]; rfl, G.alloc (G.refl _) _⟩
    · have e2 : decide (0 ≤ b ∧ b ≤ 65535) = false := decide_eq_false d2
      simp only [e1] at h1
      simp only [e2] at h2
      go_wp2_with fail
      refine (h1 _).mono ?_
      rintro e w1 ⟨rfl, rfl⟩
      go_wp2_with fail
      refine (h2 _).mono ?_
      rintro e w1 ⟨rfl, rfl⟩
      go_wp2_with fail
      go_ret
      exact ⟨by rw [show soundB a b c = false from decide_eq_false (by omega)]; rfl, G.alloc (G.refl _) _⟩
  · have e1 : decide (0 ≤ a ∧ a ≤ 1125899906842624) = false := decide_eq_false d1
    simp only [e1] at h1
    go_wp2_with fail
    refine (h1 _).mono ?_
    rintro e w1 ⟨rfl, rfl⟩
    go_wp2_with fail
    go_ret
    exact ⟨by rw [show soundB a b c = false from decide_eq_false (by omega)]; rfl, G.alloc (G.refl _) _⟩
theorem refSound_any (a b c : Int) (w : World) :
    Calls Tryd.prog 51 #[stV a b c] w fun e w' => e = .returned (.bool (soundB a b c)) ∧ G w w' := by
  unfold stV
  go_enter Tryd.func51, Tryd.ntmps51
  by_cases d0 : (0 : Int) ≤ a
  case neg =>
    have e0 : decide ((0 : Int) ≤ a) = false := decide_eq_false d0
    go_wp2_with fail
    go_ret
    exact ⟨by rw [show soundB a b c = false from decide_eq_false (by omega)]; rfl, G.alloc (G.refl _) _⟩
  by_cases d1 : a ≤ 1125899906842624
  case neg =>
    have e1 : decide (a ≤ 1125899906842624) = false := decide_eq_false d1
    go_wp2_with fail
    go_ret
    exact ⟨by rw [show soundB a b c = false from decide_eq_false (by omega)]; rfl, G.alloc (G.refl _) _⟩
  by_cases d2 : (0 : Int) ≤ b
  case neg =>
    have e2 : decide ((0 : Int) ≤ b) = false := decide_eq_false d2
    go_wp2_with fail
    go_ret
    exact ⟨by rw [show soundB a b c = false from decide_eq_false (by omega)]; rfl, G.alloc (G.refl _) _⟩
  by_cases d3 : b < 65536
  case neg =>
    have e3 : decide (b < 65536) = false := decide_eq_false d3
    go_wp2_with fail
    go_ret
    exact ⟨by rw [show soundB a b c = false from decide_eq_false (by omega)]; rfl, G.alloc (G.refl _) _⟩
  by_cases d4 : (0 : Int) ≤ c
  case neg =>
    have e4 : decide ((0 : Int) ≤ c) = false := decide_eq_false d4
    go_wp2_with fail
    go_ret
    exact ⟨by rw [show soundB a b c = false from decide_eq_false (by omega)]; rfl, G.alloc (G.refl _) _⟩
  by_cases d5 : c ≤ 5
  case neg =>
    have e5 : decide (c ≤ 5) = false := decide_eq_false d5
    go_wp2_with fail
    go_ret
    exact ⟨by rw [show soundB a b c = false from decide_eq_false (by omega)]; rfl, G.alloc (G.refl _) _⟩
  go_wp2_with fail
  go_ret
  exact ⟨by rw [show soundB a b c = true from decide_eq_true (by omega)]; rfl, G.alloc (G.refl _) _⟩
end Go.Proofs.YtheogchkelmeeaaDoor
/- runes.control: what it answers. No condition. -/
namespace Go.Proofs.YtheogchkelmeeaaDoor
open Go.RowKit Go.Lib

/-- A rune that is not shown. -/
def ctl (r : Int) : Bool := decide (r < 32) || decide (r = 127)
set_option maxHeartbeats 400000 in
theorem control_any (r : Int) (w : World) : Calls Tryd.prog 127 #[.int .i32 r] w fun e w' => e = .returned (.bool (ctl r)) ∧ w = w' := by
  by_cases h1 : r < 32
  · go_enter Tryd.func127, Tryd.ntmps127
    go_wp2
    go_ret
    exact ⟨ret_bool (by simp [ctl, h1]), rfl⟩
  · by_cases h2 : r = 127
    · subst h2
      go_enter Tryd.func127, Tryd.ntmps127
      go_wp2
      go_ret
      exact ⟨rfl, rfl⟩
    · have h3 : (r == 127) = false := by rw [beq_eq_false_iff_ne]; exact h2
      replace h2 := Lib.hid h2
      go_enter Tryd.func127, Tryd.ntmps127
      go_wp2
      go_ret
      exact ⟨ret_bool (by simp [ctl, h1, h2.out]), rfl⟩
end Go.Proofs.YtheogchkelmeeaaDoor

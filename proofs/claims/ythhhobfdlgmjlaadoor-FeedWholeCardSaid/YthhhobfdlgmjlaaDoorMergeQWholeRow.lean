/- heap.Merge: the first events below a stamp and behind a place, in order, each once. Condition: all logs together have at most 2^32 - 1 events. -/
import Derived.Test.YthhhobfdlgmjlaaDoorM20WholeRow
import Derived.Test.YthhhobfdlgmjlaaDoorPopQWholeRow
import Derived.Test.YthhhobfdlgmjlaaDoorOneQWholeRow
namespace Go.Proofs.YthhhobfdlgmjlaaDoor
open Go.RowKit

theorem PileAt.g {w w' : World} {pb g c : Nat} {xs : List Ev} (h : PileAt w pb g c xs) (hg : G w w') : PileAt w' pb g c xs := ⟨hg.blk h.1, h.2.g hg⟩
/-- Does an event stand below a stamp and behind a place? -/
def picked (st : St) (c : Cu) (e : Ev) : Bool := stLt e.st st && behind e c
/-- The pile holds just the picked ones of those seen. -/
def Gath (W0 : World) (pb : Nat) (ok : Ev → Bool) (n : Nat) (S : Ev → Prop) (wr : World) : Prop :=
  ∃ g c xs, PileAt wr pb g c xs ∧ W0.heap.size ≤ g ∧ HeapOk xs ∧ G W0 wr ∧ (∀ y, y ∈ xs ↔ (S y ∧ ok y = true)) ∧ xs.length ≤ n
theorem Gath.gw {W0 : World} {pb : Nat} {ok : Ev → Bool} {n : Nat} {S : Ev → Prop} {wr : World} (h : Gath W0 pb ok n S wr) : G W0 wr := by obtain ⟨g, c, xs, _, _, _, h, _⟩ := h; exact h
theorem Gath.g {W0 : World} {pb : Nat} {ok : Ev → Bool} {n : Nat} {S : Ev → Prop} {wr w' : World} (h : Gath W0 pb ok n S wr) (hg : G wr w') : Gath W0 pb ok n S w' := by
  obtain ⟨g, c, xs, h1, h2, h3, h4, h5⟩ := h
  exact ⟨g, c, xs, h1.g hg, h2, h3, h4.trans hg, h5⟩
theorem Gath.to {W0 : World} {pb : Nat} {ok : Ev → Bool} {n m : Nat} {S T : Ev → Prop} {wr : World} (h : Gath W0 pb ok n S wr) (hn : n ≤ m) (hS : ∀ y, (S y ∧ ok y = true) ↔ (T y ∧ ok y = true)) : Gath W0 pb ok m T wr := by
  obtain ⟨g, c, xs, h1, h2, h3, h4, h5, h6⟩ := h
  exact ⟨g, c, xs, h1, h2, h3, h4, fun y => (h5 y).trans (hS y), Nat.le_trans h6 hn⟩
theorem Gath.pushed {W0 : World} {pb : Nat} {ok : Ev → Bool} {n : Nat} {S : Ev → Prop} {wr w' : World} {g c : Nat} {xs : List Ev} {x : Ev} (hpb : W0.heap.size ≤ pb) (hg : W0.heap.size ≤ g) (h4 : G W0 wr) (h5 : ∀ y, y ∈ xs ↔ (S y ∧ ok y = true)) (h6 : xs.length ≤ n) (hx : ok x = true)
    (hp : Pushed wr pb W0.heap.size (.slice (some ⟨g, 0, none⟩) xs.length c) xs x w') : Gath W0 pb ok (n + 1) (fun y => y = x ∨ S y) w' := by
  obtain ⟨g', c', ys, k1, k2, k3, k4, k5, k6⟩ := hp
  refine ⟨g', c', ys, k1, k3, k5, Below.trans h4 (k6.below h4.size fun k _ hk => ?_), fun y => ?_, by omega⟩
  · rcases hk with rfl | hk
    · exact hpb
    · simp [Value.ownBlock] at hk; omega
  · rw [k4, h5]
    constructor
    · rintro (rfl | ⟨h, k⟩)
      · exact ⟨.inl rfl, hx⟩
      · exact ⟨.inr h, k⟩
    · rintro ⟨rfl | h, k⟩
      · exact .inl rfl
      · exact .inr ⟨h, k⟩
theorem Gath.skip {W0 : World} {pb : Nat} {ok : Ev → Bool} {n m : Nat} {P : Ev → Prop} {wr : World} {l l' : List Ev} {x : Ev} (h : Gath W0 pb ok n (fun y => P y ∨ y ∈ l) wr) (hn : n ≤ m) (hl : l' = l ++ [x]) (hx : ok x = false) : Gath W0 pb ok m (fun y => P y ∨ y ∈ l') wr := by
  refine h.to hn fun y => ?_
  subst hl
  constructor
  · rintro ⟨h1 | h1, h2⟩
    · exact ⟨.inl h1, h2⟩
    · exact ⟨.inr (List.mem_append.2 (.inl h1)), h2⟩
  · rintro ⟨h1 | h1, h2⟩
    · exact ⟨.inl h1, h2⟩
    · rcases List.mem_append.1 h1 with h1 | h1
      · exact ⟨.inr h1, h2⟩
      · rw [List.mem_singleton] at h1
        subst h1
        rw [hx] at h2; cases h2
def evTally (ls : List LogM) : Nat := (ls.map fun l => l.es.length).sum
theorem evTally_take {ls : List LogM} {j : Nat} {l : LogM} (h : ls[j]? = some l) : evTally (ls.take (j + 1)) = evTally (ls.take j) + l.es.length := by
  rw [take_snoc h]; simp [evTally]
theorem evTally_le (ls : List LogM) (j : Nat) : evTally (ls.take j) ≤ evTally ls := by
  conv => rhs; rw [← List.take_append_drop j ls]
  unfold evTally
  rw [List.map_append, List.sum_append]
  omega
/-- An event of one of these logs. -/
def inLogs (ls : List LogM) (y : Ev) : Prop := ∃ l ∈ ls, y ∈ l.es
theorem inLogs_take {ls : List LogM} {j : Nat} {l : LogM} (h : ls[j]? = some l) (y : Ev) : inLogs (ls.take (j + 1)) y ↔ inLogs (ls.take j) y ∨ y ∈ l.es := by
  rw [take_snoc h]
  simp only [inLogs, List.mem_append, List.mem_singleton]
  constructor
  · rintro ⟨l', h1 | rfl, h2⟩
    · exact .inl ⟨l', h1, h2⟩
    · exact .inr h2
  · rintro (⟨l', h1, h2⟩ | h2)
    · exact ⟨l', .inl h1, h2⟩
    · exact ⟨l, .inr rfl, h2⟩

/-- The first events, at most max of them, of those that F tells, in order, each once. -/
def IsFirst (F : Ev → Prop) (max : Int) (out : List Ev) : Prop :=
  out.Pairwise (fun a b => fl a b = true) ∧ (∀ o ∈ out, F o) ∧ (∀ y, F y → y ∈ out ∨ ∀ o ∈ out, fl o y = true) ∧ ((out.length : Int) ≤ max ∨ out = []) ∧ ((out.length : Int) < max → ∀ y, F y → y ∈ out)
/-- What a merge chooses from. -/
def mergeF (ls : List LogM) (st : St) (cu : Cu) (y : Ev) : Prop := inLogs ls y ∧ picked st cu y = true
/-- What a merge answers. -/
def Merged (w : World) (F : Ev → Prop) (n : Nat) (max : Int) (e : Ending) (w' : World) : Prop := ∃ out, IsFirst F max out ∧ out.length ≤ n ∧ RetEvs w out e w'
/-- How many events the pile holds, as the world tells it. -/
def pileLen (w : World) (pb : Nat) : Nat := match w.cell? ⟨pb, 0, none⟩ with | some (.slice _ n _) => n | _ => 0
theorem PileAt.len {w : World} {pb g c : Nat} {xs : List Ev} (h : PileAt w pb g c xs) : pileLen w pb = xs.length := by
  unfold pileLen
  rw [blk_cell h.1]
  rfl
/-- Between two rounds: some are told, in order, the rest is in the pile. -/
def Told (F : Ev → Prop) (max : Int) (out xs : List Ev) : Prop :=
  out.Pairwise (fun a b => fl a b = true) ∧ (∀ o ∈ out, ∀ x ∈ xs, fl x o = false) ∧ (∀ y, F y ↔ y ∈ out ∨ y ∈ xs) ∧ ((out.length : Int) ≤ max ∨ out = [])
theorem Told.start {F : Ev → Prop} {max : Int} {xs : List Ev} (h : ∀ y, y ∈ xs ↔ F y) : Told F max [] xs := ⟨.nil, by simp, fun y => by simp [h y], .inr rfl⟩
theorem Told.done {F : Ev → Prop} {max : Int} {out xs : List Ev} (h : Told F max out xs) (hx : xs = [] ∨ ¬ (out.length : Int) < max) : IsFirst F max out := by
  obtain ⟨h1, h2, h3, h4⟩ := h
  refine ⟨h1, fun o ho => (h3 o).2 (.inl ho), fun y hy => ?_, h4, fun hlt y hy => ?_⟩
  · rcases (h3 y).1 hy with h | h
    · exact .inl h
    · by_cases hm : y ∈ out
      · exact .inl hm
      · refine .inr fun o ho => ?_
        rcases SO.fl.tri o y with h5 | h5 | h5
        · exact h5
        · subst h5; exact absurd ho hm
        · rw [h2 o ho y h] at h5; cases h5
  · rcases hx with rfl | hx
    · rcases (h3 y).1 hy with h | h
      · exact h
      · cases h
    · exact absurd hlt hx
theorem Told.skip {F : Ev → Prop} {max : Int} {out xs ys : List Ev} {r : Ev} (h : Told F max out xs) (hm : ∀ y, y ∈ xs ↔ y = r ∨ y ∈ ys) (hr : r ∈ out) : Told F max out ys := by
  obtain ⟨h1, h2, h3, h4⟩ := h
  refine ⟨h1, fun o ho x hx => h2 o ho x ((hm x).2 (.inr hx)), fun y => ?_, h4⟩
  rw [h3, hm]
  constructor
  · rintro (h | rfl | h)
    · exact .inl h
    · exact .inl hr
    · exact .inr h
  · rintro (h | h)
    · exact .inl h
    · exact .inr (.inr h)
theorem Told.more {F : Ev → Prop} {max : Int} {out xs ys : List Ev} {r : Ev} (h : Told F max out xs) (hm : ∀ y, y ∈ xs ↔ y = r ∨ y ∈ ys) (hr : ∀ x ∈ xs, fl x r = false) (hlast : ∀ o, out.getLast? = some o → o ≠ r) (hmax : (out.length : Int) < max) : Told F max (out ++ [r]) ys := by
  obtain ⟨h1, h2, h3, h4⟩ := h
  have hrx : r ∈ xs := (hm r).2 (.inl rfl)
  have hlt : ∀ o ∈ out, fl o r = true := by
    intro o ho
    obtain ⟨l, hl⟩ : ∃ l, out.getLast? = some l := by
      cases hq : out.getLast? with
      | none => rw [List.getLast?_eq_none_iff] at hq; subst hq; cases ho
      | some l => exact ⟨l, rfl⟩
    have hll := List.mem_of_getLast? hl
    have hlr : fl l r = true := by
      rcases SO.fl.tri l r with h5 | h5 | h5
      · exact h5
      · exact absurd h5 (hlast l hl)
      · rw [h2 l hll r hrx] at h5; cases h5
    obtain ⟨pre, rfl⟩ := List.getLast?_eq_some_iff.1 hl
    rcases List.mem_append.1 ho with h6 | h6
    · exact SO.fl.tr _ _ _ ((List.pairwise_append.1 h1).2.2 o h6 l (by simp)) hlr
    · rw [List.mem_singleton] at h6; subst h6; exact hlr
  refine ⟨?_, ?_, fun y => ?_, ?_⟩
  · rw [List.pairwise_append]
    exact ⟨h1, by simp, fun a ha b hb => by rw [List.mem_singleton] at hb; subst hb; exact hlt a ha⟩
  · intro o ho x hx
    have hxx := (hm x).2 (.inr hx)
    rcases List.mem_append.1 ho with h6 | h6
    · exact h2 o h6 x hxx
    · rw [List.mem_singleton] at h6; subst h6; exact hr x hxx
  · rw [h3, hm, List.mem_append, List.mem_singleton]
    constructor
    · rintro (h | h | h)
      · exact .inl (.inl h)
      · exact .inl (.inr h)
      · exact .inr h
    · rintro ((h | h) | h)
      · exact .inl h
      · exact .inr (.inl h)
      · exact .inr (.inr h)
  · left; rw [List.length_append, List.length_singleton]; omega
theorem OwnL.but {S : Nat → Prop} {w w' : World} {base : Nat} {v : Value} {xs : List Ev} (h : OwnL 32 7 Ev.cells w base v xs) (hb : But S w w') (hS : ∀ k, v.ownBlock = some k → ¬ S k) : OwnL 32 7 Ev.cells w' base v xs := by
  refine ⟨h.1, ?_⟩
  rcases h.2 with h1 | ⟨g, cap, cur, hv, hb2, hh, hr⟩
  · exact .inl h1
  · refine .inr ⟨g, cap, cur, hv, hb2, hb.blk hh (hS g ?_), hr⟩
    rw [hv]; rfl
theorem OwnL.ge {w : World} {base : Nat} {v : Value} {xs : List Ev} (h : OwnL 32 7 Ev.cells w base v xs) {k : Nat} (hk : v.ownBlock = some k) : base ≤ k := by
  rcases h.row with ⟨h1, _⟩ | ⟨g, c, h1, h2, _⟩
  · rw [h1] at hk; cases hk
  · rw [h1] at hk
    simp [Value.ownBlock] at hk
    omega
/-- append of one event, that lies in a block of its own, onto a row. -/
theorem wpList_append_row {ops : Array Oper} {rest : List Oper} {o : Oper} {a : Act} {Q : Exit → Act → World → Prop} (w : World) (hgd : o.guard = none) (s x : Operand) (t : TypeId) (ht : Tryd.prog.underlying t = some (.slice 32))
    (ho : o.op = .call { callee := .builtin .append, args := #[s, x], argTypes := #[t, t] })
    (base : Nat) (v : Value) (es : List Ev) (hs : a.eval s = v) (hown : OwnL 32 7 Ev.cells w base v es) (e : Ev) (b c : Nat) (hx : a.eval x = .slice (some ⟨b, 0, none⟩) 1 c)
    (hb : w.heap[b]? = some (.cells e.cells.toArray 32 (0, 0))) (hlen : es.length + 1 ≤ 1099511627777) (hbase : base ≤ w.heap.size)
    (h : ∀ g c' w', Row w' g c' (es ++ [e]) → base ≤ g → But (fun k => some k = v.ownBlock) w w' → (v.ownBlock = some g ∨ w.heap.size ≤ g) → wpList Tryd.prog ops Q rest (a.put o.dst (.slice (some ⟨g, 0, none⟩) (es.length + 1) c')) w') : wpList Tryd.prog ops Q (o :: rest) a w :=
  wpList_plain hgd fun K hK => by
    have h7 := step_append_row (ops := ops) (K := K) (Q := Q) (E := True) w hgd s x t ht ho base v es hs hown e b c hx hb hlen hbase (fun g c' w' k1 k2 k3 k4 => hK _ _ (h g c' w' k1 k2 k3 k4))
    have hw : Region.wanted o (yielded ops a.tmps) = true := by simp [Region.wanted, hgd]
    rw [if_pos hw] at h7
    exact h7
set_option maxHeartbeats 4000000 in
theorem merge_any (ls : List LogM) (A : Option Addr) (c B : Nat) (wx wy wz cx cy cz ci : Int) (cs : ByteArray) (max : Int) (w : World) (hB : B ≤ w.heap.size) (hl : ls.length ≤ 9223372036854775807) (hcnt : evTally ls ≤ 4294967295) (hs : LogsIn w B A ls) :
    Calls Tryd.prog 32 #[.slice A ls.length c, .agg #[.int .i64 wx, .int .i64 wy, .int .i64 wz], .agg #[.int .i64 cx, .int .i64 cy, .int .i64 cz, .int .i64 ci, .string cs], .int .i64 max] w
      (Merged w (mergeF ls ⟨wx, wy, wz⟩ ⟨⟨cx, cy, cz⟩, ci, cs⟩) (evTally ls) max) := by
  go_enter Tryd.func32, Tryd.ntmps32
  go_wp2_with fail
  generalize hW0 : (w.alloc (.cells #[.int .i64 wx, .int .i64 wy, .int .i64 wz] 26)).alloc (.cells #[.int .i64 cx, .int .i64 cy, .int .i64 cz, .int .i64 ci, .string cs] 38) = W0
  have hz : w.heap.size + 1 < W0.heap.size := by rw [← hW0]; simp
  have hze : W0.heap.size = w.heap.size + 1 + 1 := by rw [← hW0]; simp
  have hG0 : G w W0 := by rw [← hW0]; exact (G.new _ _).alloc _
  have r0 : W0.cell? ⟨w.heap.size, 0, none⟩ = some (.int .i64 wx) := by rw [← hW0]; simp
  have r1 : W0.cell? ⟨w.heap.size, 1, none⟩ = some (.int .i64 wy) := by rw [← hW0]; simp
  have r2 : W0.cell? ⟨w.heap.size, 2, none⟩ = some (.int .i64 wz) := by rw [← hW0]; simp
  have r3 : W0.cell? ⟨w.heap.size + 1, 0, none⟩ = some (.int .i64 cx) := by rw [← hW0]; simp
  have r4 : W0.cell? ⟨w.heap.size + 1, 1, none⟩ = some (.int .i64 cy) := by rw [← hW0]; simp
  have r5 : W0.cell? ⟨w.heap.size + 1, 2, none⟩ = some (.int .i64 cz) := by rw [← hW0]; simp
  have r6 : W0.cell? ⟨w.heap.size + 1, 3, none⟩ = some (.int .i64 ci) := by rw [← hW0]; simp
  have r7 : W0.cell? ⟨w.heap.size + 1, 4, none⟩ = some (.string cs) := by rw [← hW0]; simp
  clear hW0
  have q0 : ∀ w', G W0 w' → w'.cell? ⟨w.heap.size, 0, none⟩ = some (.int .i64 wx) := fun w' h => (h.cell (by omega)).trans r0
  have q1 : ∀ w', G W0 w' → w'.cell? ⟨w.heap.size, 1, none⟩ = some (.int .i64 wy) := fun w' h => (h.cell (by omega)).trans r1
  have q2 : ∀ w', G W0 w' → w'.cell? ⟨w.heap.size, 2, none⟩ = some (.int .i64 wz) := fun w' h => (h.cell (by omega)).trans r2
  have q3 : ∀ w', G W0 w' → w'.cell? ⟨w.heap.size + 1, 0, none⟩ = some (.int .i64 cx) := fun w' h => (h.cell (by omega)).trans r3
  have q4 : ∀ w', G W0 w' → w'.cell? ⟨w.heap.size + 1, 1, none⟩ = some (.int .i64 cy) := fun w' h => (h.cell (by omega)).trans r4
  have q5 : ∀ w', G W0 w' → w'.cell? ⟨w.heap.size + 1, 2, none⟩ = some (.int .i64 cz) := fun w' h => (h.cell (by omega)).trans r5
  have q6 : ∀ w', G W0 w' → w'.cell? ⟨w.heap.size + 1, 3, none⟩ = some (.int .i64 ci) := fun w' h => (h.cell (by omega)).trans r6
  have q7 : ∀ w', G W0 w' → w'.cell? ⟨w.heap.size + 1, 4, none⟩ = some (.string cs) := fun w' h => (h.cell (by omega)).trans r7
  clear r0 r1 r2 r3 r4 r5 r6 r7
  have hsz : W0.heap.size = w.heap.size + 1 + 1 := hze
  clear hze
  have hpr : ((W0.alloc (.cells #[] 32)).alloc (.cells #[.slice (some ⟨w.heap.size + 1 + 1, 0, none⟩) 0 0] 104)).heap[w.heap.size + 1 + 1 + 1]? = some (.cells #[.slice (some ⟨w.heap.size + 1 + 1, 0, none⟩) 0 0] 104 (0, 0)) := blk_new' _ _ _ _ (by simp [hsz])
  have hrw : Row ((W0.alloc (.cells #[] 32)).alloc (.cells #[.slice (some ⟨w.heap.size + 1 + 1, 0, none⟩) 0 0] 104)) (w.heap.size + 1 + 1) 0 [] := ⟨#[], (G.new _ _).blk (blk_new' _ _ _ _ hsz.symm), by simp, by simp, rfl, rfl⟩
  have hGa : Gath W0 (w.heap.size + 1 + 1 + 1) (picked ⟨wx, wy, wz⟩ ⟨⟨cx, cy, cz⟩, ci, cs⟩) 0 (fun _ => False) ((W0.alloc (.cells #[] 32)).alloc (.cells #[.slice (some ⟨w.heap.size + 1 + 1, 0, none⟩) 0 0] 104)) :=
    ⟨w.heap.size + 1 + 1, 0, [], ⟨hpr, hrw⟩, by omega, HeapOk.nil, (G.new _ _).alloc _, fun y => by simp, Nat.le_refl _⟩
  generalize (W0.alloc (.cells #[] 32)).alloc (.cells #[.slice (some ⟨w.heap.size + 1 + 1, 0, none⟩) 0 0] 104) = Wp at hGa ⊢
  clear hpr hrw
  generalize hpb : w.heap.size + 1 + 1 + 1 = pb at *
  replace hpb : W0.heap.size ≤ pb := by omega
  replace hsz := Lib.hid hsz
  replace hpb := Lib.hid hpb
  replace hGa := Lib.hid hGa
  go_wp2_with fail
  go_loopw [20] (fun i20 wr => ∃ (j : Nat), j ≤ ls.length ∧ i20 = .int .i64 j ∧ Hid (Gath W0 pb (picked ⟨wx, wy, wz⟩ ⟨⟨cx, cy, cz⟩, ci, cs⟩) (evTally (ls.take j)) (inLogs (ls.take j)) wr)) (fun i20 _ => ls.length - (intOf i20).toNat)
  case atStart => exact ⟨0, Nat.zero_le _, rfl, hGa.out.to (Nat.zero_le _) (fun y => by simp [inLogs])⟩
  case round =>
    obtain ⟨j, hj, rfl, hga⟩ := hrel
    by_cases hlt : j < ls.length
    · obtain ⟨⟨lA, lc, les⟩, hl1⟩ : ∃ l, ls[j]? = some l := ⟨_, List.getElem?_eq_getElem hlt⟩
      obtain ⟨b, o, rfl, hb, hcell, hok⟩ := hs.at_ hB hl1
      have hgr := hga.out.gw
      have hcw := hcell wr (hG0.trans hgr)
      have htl := evTally_take hl1
      have htb := evTally_le ls (j + 1)
      have hil := inLogs_take hl1
      replace hl1 := Lib.hid hl1
      replace hil := Lib.hid hil
      replace hok : ∀ w', G w w' → Sl Ev.cells 7 w' B lA les := fun w' h => (hok w' h).1
      replace hok := Lib.hid hok
      replace hcell := Lib.hid hcell
      replace hgr := Lib.hid hgr
      clear hs
      dsimp only at hcw htl hil
      go_wp2_with fail
      obtain ⟨wo, rfl⟩ : ∃ wo : World, wo = wr := ⟨_, rfl⟩
      go_loopw [26] (fun i26 wr => ∃ (k : Nat), k ≤ les.length ∧ i26 = .int .i64 k ∧ Hid (Gath W0 pb (picked ⟨wx, wy, wz⟩ ⟨⟨cx, cy, cz⟩, ci, cs⟩) (evTally (ls.take j) + k) (fun y => inLogs (ls.take j) y ∨ y ∈ les.take k) wr)) (fun i26 _ => les.length - (intOf i26).toNat)
      case atStart => exact ⟨0, Nat.zero_le _, rfl, hga.out.to (by omega) (fun y => by simp)⟩
      case round =>
        obtain ⟨k, hk, rfl, hga2⟩ := hrel
        have hgr2 := hga2.out.gw
        by_cases hlt2 : k < les.length
        · obtain ⟨⟨es, ev, ed, ⟨ex, ey, ez⟩, ei⟩, hx⟩ : ∃ x, les[k]? = some x := ⟨_, List.getElem?_eq_getElem hlt2⟩
          obtain ⟨eb, eo, rfl, heb, c0, c1, c2, c3, c4, c5, c6⟩ := (hok.out wr (hG0.trans hgr2)).evG (by have := (hG0.trans hgr2).size; omega) hx
          replace c0 := c0 wr (G.refl _)
          replace c1 := c1 wr (G.refl _)
          replace c2 := c2 wr (G.refl _)
          replace c3 := c3 wr (G.refl _)
          replace c4 := c4 wr (G.refl _)
          replace c5 := c5 wr (G.refl _)
          replace c6 := c6 wr (G.refl _)
          have htk := take_snoc hx
          replace htk := Lib.hid htk
          replace hx := Lib.hid hx
          have r0 : ∀ o, (wr.alloc o).cell? ⟨w.heap.size, 0, none⟩ = some (.int .i64 wx) := fun o => q0 _ (hgr2.trans (G.new _ _))
          have r1 : ∀ o, (wr.alloc o).cell? ⟨w.heap.size, 1, none⟩ = some (.int .i64 wy) := fun o => q1 _ (hgr2.trans (G.new _ _))
          have r2 : ∀ o, (wr.alloc o).cell? ⟨w.heap.size, 2, none⟩ = some (.int .i64 wz) := fun o => q2 _ (hgr2.trans (G.new _ _))
          replace hgr2 := Lib.hid hgr2
          go_wp2_with fail
          refine (stLess_any _ _ _ _ _ _ _).mono ?_
          rintro e w2 ⟨rfl, hg2⟩
          have hg2' : G wr w2 := (G.new _ _).trans hg2
          have d0 : ∀ w', G w2 w' → w'.cell? ⟨wr.heap.size, 0, none⟩ = some (.string es) := fun w' h => ((hg2.trans h).cell (by simp)).trans (by simp)
          have d1 : ∀ w', G w2 w' → w'.cell? ⟨wr.heap.size, 1, none⟩ = some (.int .i64 ev) := fun w' h => ((hg2.trans h).cell (by simp)).trans (by simp)
          have d2 : ∀ w', G w2 w' → w'.cell? ⟨wr.heap.size, 2, none⟩ = some (.string ed) := fun w' h => ((hg2.trans h).cell (by simp)).trans (by simp)
          have d3 : ∀ w', G w2 w' → w'.cell? ⟨wr.heap.size, 3, none⟩ = some (.int .i64 ex) := fun w' h => ((hg2.trans h).cell (by simp)).trans (by simp)
          have d4 : ∀ w', G w2 w' → w'.cell? ⟨wr.heap.size, 4, none⟩ = some (.int .i64 ey) := fun w' h => ((hg2.trans h).cell (by simp)).trans (by simp)
          have d5 : ∀ w', G w2 w' → w'.cell? ⟨wr.heap.size, 5, none⟩ = some (.int .i64 ez) := fun w' h => ((hg2.trans h).cell (by simp)).trans (by simp)
          have d6 : ∀ w', G w2 w' → w'.cell? ⟨wr.heap.size, 6, none⟩ = some (.int .i64 ei) := fun w' h => ((hg2.trans h).cell (by simp)).trans (by simp)
          clear r0 r1 r2 c0 c1 c2 c3 c4 c5 c6 hg2
          have hgw2 : G W0 w2 := hgr2.out.trans hg2'
          cases hls : stLt ⟨ex, ey, ez⟩ ⟨wx, wy, wz⟩ with
          | false =>
            have hskip : Gath W0 pb (picked ⟨wx, wy, wz⟩ ⟨⟨cx, cy, cz⟩, ci, cs⟩) (evTally (ls.take j) + (k + 1)) (fun y => inLogs (ls.take j) y ∨ y ∈ les.take (k + 1)) w2 :=
              (hga2.out.g hg2').skip (by omega) htk.out (by unfold picked; rw [hls]; rfl)
            replace hskip := Lib.hid hskip
            clear d0 d1 d2 d3 d4 d5 d6
            go_wp2_with fail
            go_roundw
            case rel => exact ⟨k + 1, by omega, by go_num, hskip⟩
            case measure => simp [intOf]; omega
          | true =>
            have r3 := q3 w2 hgw2
            have r4 := q4 w2 hgw2
            have r5 := q5 w2 hgw2
            have r6 := q6 w2 hgw2
            have r7 := q7 w2 hgw2
            have f0 := d0 w2 (G.refl _)
            have f1 := d1 w2 (G.refl _)
            have f2 := d2 w2 (G.refl _)
            have f3 := d3 w2 (G.refl _)
            have f4 := d4 w2 (G.refl _)
            have f5 := d5 w2 (G.refl _)
            have f6 := d6 w2 (G.refl _)
            go_wp2_with fail
            refine (behind_any _ _ _ _ _ _ _ _ _ _ _ _ _).mono ?_
            rintro e w3 ⟨rfl, hg3⟩
            clear r3 r4 r5 r6 r7 f0 f1 f2 f3 f4 f5 f6
            have hg3' := hg2'.trans hg3
            cases hbe : behind ⟨es, ev, ed, ⟨ex, ey, ez⟩, ei⟩ ⟨⟨cx, cy, cz⟩, ci, cs⟩ with
            | false =>
              have hskip : Gath W0 pb (picked ⟨wx, wy, wz⟩ ⟨⟨cx, cy, cz⟩, ci, cs⟩) (evTally (ls.take j) + (k + 1)) (fun y => inLogs (ls.take j) y ∨ y ∈ les.take (k + 1)) w3 :=
                (hga2.out.g hg3').skip (by omega) htk.out (by unfold picked; rw [hls, hbe]; rfl)
              replace hskip := Lib.hid hskip
              clear d0 d1 d2 d3 d4 d5 d6
              go_wp2_with fail
              go_roundw
              case rel => exact ⟨k + 1, by omega, by go_num, hskip⟩
              case measure => simp [intOf]; omega
            | true =>
              have f0 := d0 w3 hg3
              have f1 := d1 w3 hg3
              have f2 := d2 w3 hg3
              have f3 := d3 w3 hg3
              have f4 := d4 w3 hg3
              have f5 := d5 w3 hg3
              have f6 := d6 w3 hg3
              clear d0 d1 d2 d3 d4 d5 d6
              have hga3 := hga2.out.g hg3'
              obtain ⟨g, c', xs, p1, p2, p3, p4, p5, p6⟩ := hga3
              have hpu := push_any xs (.slice (some ⟨g, 0, none⟩) xs.length c') pb W0.heap.size es ed ev ex ey ez ei w3 p4.size p1.1 (p1.2.own p2) (by omega) p3
              go_wp2_with fail
              refine hpu.mono ?_
              rintro e w4 ⟨rfl, hpd⟩
              have hnew : Gath W0 pb (picked ⟨wx, wy, wz⟩ ⟨⟨cx, cy, cz⟩, ci, cs⟩) (evTally (ls.take j) + (k + 1)) (fun y => inLogs (ls.take j) y ∨ y ∈ les.take (k + 1)) w4 :=
                (Gath.pushed hpb.out p2 p4 p5 p6 (by unfold picked; rw [hls, hbe]; rfl) hpd).to (by omega) (fun y => by
                  show (y = _ ∨ _ ∨ _) ∧ _ ↔ _
                  rw [htk.out, List.mem_append, List.mem_singleton]
                  constructor
                  · rintro ⟨h1 | h1 | h1, h2⟩
                    · exact ⟨.inr (.inr h1), h2⟩
                    · exact ⟨.inl h1, h2⟩
                    · exact ⟨.inr (.inl h1), h2⟩
                  · rintro ⟨h1 | h1 | h1, h2⟩
                    · exact ⟨.inr (.inl h1), h2⟩
                    · exact ⟨.inr (.inr h1), h2⟩
                    · exact ⟨.inl h1, h2⟩)
              replace hnew := Lib.hid hnew
              clear hpu hpd p1 p2 p3 p4 p5 p6 f0 f1 f2 f3 f4 f5 f6
              go_wp2_with fail
              go_roundw
              case rel => exact ⟨k + 1, by omega, by go_num, hnew⟩
              case measure => simp [intOf]; omega
        · have hnext : Gath W0 pb (picked ⟨wx, wy, wz⟩ ⟨⟨cx, cy, cz⟩, ci, cs⟩) (evTally (ls.take (j + 1))) (inLogs (ls.take (j + 1))) wr := hga2.out.to (by omega) (fun y => by rw [hil.out, show les.take k = les from List.take_of_length_le (by omega)])
          replace hnext := Lib.hid hnext
          go_wp2_with fail
          go_roundw
          case rel => exact ⟨j + 1, by omega, by go_num, hnext⟩
          case measure => simp [intOf]; omega
    · obtain ⟨g, c', xs, p1, p2, p3, p4, p5, p6⟩ := hga.out
      rw [List.take_of_length_le (by omega)] at p5 p6
      have htold : Told (mergeF ls ⟨wx, wy, wz⟩ ⟨⟨cx, cy, cz⟩, ci, cs⟩) max [] xs := Told.start p5
      replace htold := Lib.hid htold
      clear p5 q0 q1 q2 q3 q4 q5 q6 q7 hga hs
      go_wp2_with fail
      go_loopw [8] (fun v8 wr => ∃ (A2 : Option Addr) (c2 : Nat) (out : List Ev) (g c' : Nat) (xs : List Ev), v8 = .slice A2 out.length c2 ∧ Hid (PileAt wr pb g c' xs) ∧ Hid (W0.heap.size ≤ g) ∧ Hid (HeapOk xs) ∧ Hid (G W0 wr) ∧ Hid (OwnL 32 7 Ev.cells wr W0.heap.size (.slice A2 out.length c2) out) ∧ Hid (∀ k, (Value.slice A2 out.length c2).ownBlock = some k → k ≠ g) ∧ out.length + xs.length ≤ evTally ls ∧ Hid (Told (mergeF ls ⟨wx, wy, wz⟩ ⟨⟨cx, cy, cz⟩, ci, cs⟩) max out xs)) (fun _ wr => pileLen wr pb)
      case atStart => exact ⟨none, 0, [], g, c', xs, rfl, p1, p2, p3, p4, OwnL.nil, by simp [Hid, Value.ownBlock], by simp; omega, htold⟩
      case round =>
        clear p1 p2 p3 p4 p6 htold
        obtain ⟨A2, c2, out, g, c', xs, rfl, hpi, hgb, hok, hgr, hown, hsep, hlen, htold⟩ := hrel
        have pc : wr.cell? ⟨pb, 0, none⟩ = some (.slice (some ⟨g, 0, none⟩) xs.length c') := by rw [blk_cell hpi.out.1]; rfl
        have hfin : (xs = [] ∨ ¬ (out.length : Int) < max) → Merged w (mergeF ls ⟨wx, wy, wz⟩ ⟨⟨cx, cy, cz⟩, ci, cs⟩) (evTally ls) max (.returned (.slice A2 out.length c2)) wr := fun h =>
          ⟨out, htold.out.done h, by omega, _, rfl, hown.out.mono hG0.size, hG0.trans hgr.out⟩
        replace hfin := Lib.hid hfin
        by_cases hx0 : xs = []
        · subst hx0
          rw [List.length_nil] at pc
          go_wp2_with fail
          go_ret
          exact hfin.out (.inl (by first | rfl | trivial))
        · obtain ⟨r, hr0⟩ : ∃ r, xs[0]? = some r := ⟨_, List.getElem?_eq_getElem (List.length_pos_iff.2 hx0)⟩
          have hxl : (0 : Int) < ↑xs.length := by have := List.length_pos_iff.2 hx0; omega
          replace hx0 := Lib.hid hx0
          by_cases hmx : (out.length : Int) < max
          · obtain ⟨rs, rv, rd, ⟨rx, ry, rz⟩, ri⟩ := r
            have hpop : Calls Tryd.prog 51 #[.pointer (some ⟨pb, 0, none⟩)] wr fun e w' => e = .returned (.agg #[.string rs, .int .i64 rv, .string rd, .int .i64 rx, .int .i64 ry, .int .i64 rz, .int .i64 ri]) ∧ Popped wr pb g c' xs ⟨rs, rv, rd, ⟨rx, ry, rz⟩, ri⟩ w' :=
              pop_any xs pb g c' _ wr hpi.out (by omega) hok.out hr0
            have hroot := hok.out.root hr0
            replace hr0 := Lib.hid hr0
            replace hroot := Lib.hid hroot
            go_wp2_with fail
            refine hpop.mono ?_
            rintro e w2 ⟨rfl, ys, hpi2, hyl, hym, hok2, hbt⟩
            clear hpop pc
            have hsp2 : ∀ k, (Value.slice A2 out.length c2).ownBlock = some k → k ≠ pb := by
              rintro k hk rfl
              rcases hown.out.row with ⟨h1, _⟩ | ⟨g', c3, h1, _, h2⟩
              · rw [h1] at hk; cases hk
              · rw [h1] at hk
                simp [Value.ownBlock] at hk
                exact h2.ne hpi.out.1 hk
            have hown2 : OwnL 32 7 Ev.cells w2 W0.heap.size (.slice A2 out.length c2) out := by
              refine hown.out.but hbt fun k hk hS => ?_
              rcases hS with rfl | rfl
              · exact hsp2 _ hk rfl
              · exact hsep.out _ hk rfl
            replace hsp2 := Lib.hid hsp2
            have hgr2 : G W0 w2 := Below.trans hgr.out (hbt.below hgr.out.size fun k _ hS => by
              rcases hS with rfl | rfl
              · exact hpb.out
              · exact hgb.out)
            have hmes : ys.length < xs.length := by omega
            have hlen2 : out.length + ys.length + 1 ≤ evTally ls := by omega
            have hpl : pileLen wr pb = xs.length := hpi.out.len
            replace hown2 := Lib.hid hown2
            replace hgr2 := Lib.hid hgr2
            replace hpi2 := Lib.hid hpi2
            replace hym := Lib.hid hym
            replace hok2 := Lib.hid hok2
            replace hpl := Lib.hid hpl
            replace hyl := Lib.hid hyl
            replace hmes := Lib.hid hmes
            clear hbt hok hfin hlen hxl
            by_cases ho : out = []
            · subst ho
              have hto : Told (mergeF ls ⟨wx, wy, wz⟩ ⟨⟨cx, cy, cz⟩, ci, cs⟩) max ([] ++ [⟨rs, rv, rd, ⟨rx, ry, rz⟩, ri⟩]) ys := htold.out.more hym.out hroot.out (fun o h => by simp at h) hmx
              replace hto := Lib.hid hto
              go_wp2_with fail
              go_region
              go_wp2_with (at_builtin; go_loud (refine wpList_append_row _ rfl (.tmp 70) (.tmp 72) 24 Tryd.underlying24 rfl W0.heap.size (.slice A2 0 c2) [] rfl (hown2.out.g (by exact ((G.new w2 _).alloc _).drew)) ⟨rs, rv, rd, ⟨rx, ry, rz⟩, ri⟩ (w2.heap.size + 1) 1 rfl (blk_new' _ _ _ _ (by simp)) (by first | omega | simp) (by have := hgr2.out.size; simp; omega) ?_); intro g2 c3 w4 hrow4 hb4 hbut4 hwh4)
              have hgl := hpi2.out.2.lt
              have hg24 : G w2 _ := (((G.new w2 (.cells (Ev.cells ⟨rs, rv, rd, ⟨rx, ry, rz⟩, ri⟩).toArray 32)).alloc (.cells (Ev.cells ⟨rs, rv, rd, ⟨rx, ry, rz⟩, ri⟩).toArray 32)).drew)
              have hbt4 : But (fun k => some k = (Value.slice A2 0 c2).ownBlock) w2 w4 := (But.of_g hg24).trans hbut4
              have hpi4 : PileAt w4 pb g c' ys := ⟨hbt4.blk hpi2.out.1 fun e => hsp2.out _ e.symm rfl, hpi2.out.2.but hbt4 fun e => hsep.out _ e.symm rfl⟩
              have hgr4 : G W0 w4 := Below.trans hgr2.out (hbt4.below hgr2.out.size fun k _ e => hown2.out.ge e.symm)
              have hsep4 : ∀ k, (Value.slice (some ⟨g2, 0, none⟩) ([] ++ [(⟨rs, rv, rd, ⟨rx, ry, rz⟩, ri⟩ : Ev)]).length c3).ownBlock = some k → k ≠ g := by
                intro k hk
                simp [Value.ownBlock] at hk
                subst hk
                rcases hwh4 with h | h
                · exact hsep.out _ h
                · rintro rfl; exact Nat.lt_irrefl _ (Nat.lt_of_lt_of_le hgl (Nat.le_trans hg24.size h))
              have hpl4 := hpi4.len
              have hown4 := hrow4.own hb4
              replace hpl4 := Lib.hid hpl4
              replace hpi4 := Lib.hid hpi4
              replace hgr4 := Lib.hid hgr4
              replace hsep4 := Lib.hid hsep4
              replace hown4 := Lib.hid hown4
              clear hbut4 hbt4 hwh4 hrow4 hgl
              go_roundw
              case rel => exact ⟨some ⟨g2, 0, none⟩, c3, [] ++ [⟨rs, rv, rd, ⟨rx, ry, rz⟩, ri⟩], g, c', ys, by rw [List.length_append, List.length_nil]; rfl, hpi4, hgb, hok2, hgr4, hown4, hsep4, by rw [List.length_append]; simp only [List.length_singleton]; omega, hto⟩
              case measure => rw [hpl.out, hpl4.out]; exact hmes.out
            · obtain ⟨m, hm⟩ : ∃ m, out.length = m + 1 := ⟨out.length - 1, by have := List.length_pos_iff.2 ho; omega⟩
              obtain ⟨o, hol⟩ : ∃ o, out[m]? = some o := ⟨_, List.getElem?_eq_getElem (by omega)⟩
              obtain ⟨A3, c3', e3, _, hcm3, hsl⟩ := OwnL.sl Ev.cells_len hown2.out
              cases e3
              obtain ⟨ob, oo, rfl, hob, o0, o1, o2, o3, o4, o5, o6⟩ := hsl.evG (Nat.le_refl _) hol
              obtain ⟨os, ov, od, ⟨ox, oy, oz⟩, oi⟩ := o
              have hlast : out.getLast? = some ⟨os, ov, od, ⟨ox, oy, oz⟩, oi⟩ := by rw [List.getLast?_eq_getElem?, hm]; exact hol
              replace o0 := o0 _ (G.new w2 (.cells #[.string rs, .int .i64 rv, .string rd, .int .i64 rx, .int .i64 ry, .int .i64 rz, .int .i64 ri] 32))
              replace o1 := o1 _ (G.new w2 (.cells #[.string rs, .int .i64 rv, .string rd, .int .i64 rx, .int .i64 ry, .int .i64 rz, .int .i64 ri] 32))
              replace o2 := o2 _ (G.new w2 (.cells #[.string rs, .int .i64 rv, .string rd, .int .i64 rx, .int .i64 ry, .int .i64 rz, .int .i64 ri] 32))
              replace o3 := o3 _ (G.new w2 (.cells #[.string rs, .int .i64 rv, .string rd, .int .i64 rx, .int .i64 ry, .int .i64 rz, .int .i64 ri] 32))
              replace o4 := o4 _ (G.new w2 (.cells #[.string rs, .int .i64 rv, .string rd, .int .i64 rx, .int .i64 ry, .int .i64 rz, .int .i64 ri] 32))
              replace o5 := o5 _ (G.new w2 (.cells #[.string rs, .int .i64 rv, .string rd, .int .i64 rx, .int .i64 ry, .int .i64 rz, .int .i64 ri] 32))
              replace o6 := o6 _ (G.new w2 (.cells #[.string rs, .int .i64 rv, .string rd, .int .i64 rx, .int .i64 ry, .int .i64 rz, .int .i64 ri] 32))
              have hnq := @ev_neq
              have x1 : IntKind.i64.wrap ((m : Int) + 1 - 1) = ↑m := by rw [IntWalk.i64_in _ (by omega)]; omega
              have x2 : (0 : Int) ≤ ↑m := by clear x1; omega
              have x3 : (m : Int) < ↑m + 1 := by clear x1; omega
              have x4 : ((m : Int) + 1 == 0) = false := by rw [beq_eq_false_iff_ne]; clear x1; omega
              have hlen3 : m + 1 + ys.length + 1 ≤ evTally ls := by rw [← hm]; exact hlen2
              rw [hm] at hown2 hsp2 hsep ⊢
              replace hm := Lib.hid hm
              replace hlast := Lib.hid hlast
              clear hol hsl ho
              cases heq : evB ⟨os, ov, od, ⟨ox, oy, oz⟩, oi⟩ ⟨rs, rv, rd, ⟨rx, ry, rz⟩, ri⟩ with
              | true =>
                have hto : Told (mergeF ls ⟨wx, wy, wz⟩ ⟨⟨cx, cy, cz⟩, ci, cs⟩) max out ys := htold.out.skip hym.out (by
                  have := of_decide_eq_true heq
                  rw [← this]
                  exact List.mem_of_getLast? hlast.out)
                replace hto := Lib.hid hto
                have hout : out.length + ys.length ≤ evTally ls := by omega
                replace hout := Lib.hid hout
                go_wp2_with fail
                go_quiet (fail)
                go_wp2_with fail
                have hg24 : G w2 _ := (G.new w2 (.cells (Ev.cells ⟨rs, rv, rd, ⟨rx, ry, rz⟩, ri⟩).toArray 32)).drewN nq
                have hpi4 := hpi2.out.g hg24
                have hown4 := hown2.out.g hg24
                have hgr4 := hgr2.out.trans hg24
                have hpl4 := hpi4.len
                replace hpl4 := Lib.hid hpl4
                go_roundw
                case rel => exact ⟨some ⟨ob, oo, none⟩, c2, out, g, c', ys, by rw [hm.out], hpi4, hgb, hok2, hgr4, by rw [hm.out]; exact hown4, by rw [hm.out]; exact hsep, hout.out, hto⟩
                case measure => rw [hpl.out]; exact Nat.lt_of_le_of_lt (Nat.le_of_eq hpl4.out) hmes.out
              | false =>
                have hto : Told (mergeF ls ⟨wx, wy, wz⟩ ⟨⟨cx, cy, cz⟩, ci, cs⟩) max (out ++ [⟨rs, rv, rd, ⟨rx, ry, rz⟩, ri⟩]) ys := htold.out.more hym.out hroot.out (fun o h => by
                  rw [hlast.out] at h
                  cases h
                  exact of_decide_eq_false heq) hmx
                replace hto := Lib.hid hto
                go_wp2_with fail
                go_quiet (fail)
                go_wp2_with (at_builtin; go_loud (refine wpList_append_row _ rfl (.tmp 70) (.tmp 72) 24 Tryd.underlying24 rfl W0.heap.size (.slice (some ⟨ob, oo, none⟩) (m + 1) c2) out rfl (hown2.out.g (by exact ((G.new w2 _).alloc _).drewN nq)) ⟨rs, rv, rd, ⟨rx, ry, rz⟩, ri⟩ (w2.heap.size + 1) 1 rfl (blk_new' _ _ _ _ (by simp)) (by first | omega | simp) (by have := hgr2.out.size; simp; omega) ?_); intro g2 c3 w4 hrow4 hb4 hbut4 hwh4)
                have hgl := hpi2.out.2.lt
                have hg24 : G w2 _ := (((G.new w2 (.cells (Ev.cells ⟨rs, rv, rd, ⟨rx, ry, rz⟩, ri⟩).toArray 32)).alloc (.cells (Ev.cells ⟨rs, rv, rd, ⟨rx, ry, rz⟩, ri⟩).toArray 32)).drewN nq)
                have hbt4 : But (fun k => some k = (Value.slice (some ⟨ob, oo, none⟩) (m + 1) c2).ownBlock) w2 w4 := (But.of_g hg24).trans hbut4
                have hpi4 : PileAt w4 pb g c' ys := ⟨hbt4.blk hpi2.out.1 fun e => hsp2.out _ e.symm rfl, hpi2.out.2.but hbt4 fun e => hsep.out _ e.symm rfl⟩
                have hgr4 : G W0 w4 := Below.trans hgr2.out (hbt4.below hgr2.out.size fun k _ e => hown2.out.ge e.symm)
                have hsep4 : ∀ k, (Value.slice (some ⟨g2, 0, none⟩) (out ++ [(⟨rs, rv, rd, ⟨rx, ry, rz⟩, ri⟩ : Ev)]).length c3).ownBlock = some k → k ≠ g := by
                  intro k hk
                  simp [Value.ownBlock] at hk
                  subst hk
                  rcases hwh4 with h | h
                  · exact hsep.out _ h
                  · rintro rfl; exact Nat.lt_irrefl _ (Nat.lt_of_lt_of_le hgl (Nat.le_trans hg24.size h))
                have hpl4 := hpi4.len
                have hown4 := hrow4.own hb4
                replace hpl4 := Lib.hid hpl4
                replace hpi4 := Lib.hid hpi4
                replace hgr4 := Lib.hid hgr4
                replace hsep4 := Lib.hid hsep4
                replace hown4 := Lib.hid hown4
                clear hbut4 hbt4 hwh4 hrow4 hgl
                go_roundw
                case rel => exact ⟨some ⟨g2, 0, none⟩, c3, out ++ [⟨rs, rv, rd, ⟨rx, ry, rz⟩, ri⟩], g, c', ys, by rw [List.length_append, hm.out]; rfl, hpi4, hgb, hok2, hgr4, hown4, hsep4, by rw [List.length_append]; simp only [List.length_singleton]; omega, hto⟩
                case measure => rw [hpl.out, hpl4.out]; exact hmes.out
          · go_wp2_with fail
            go_ret
            exact hfin.out (.inr hmx)
end Go.Proofs.YthhhobfdlgmjlaaDoor

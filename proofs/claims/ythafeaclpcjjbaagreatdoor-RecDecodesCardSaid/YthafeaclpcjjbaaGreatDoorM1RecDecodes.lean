/- Several texts in one: Range, Shelf, Tabs, Own. -/
import Derived.Test.YthafeaclpcjjbaaGreatDoorM0RecDecodes
import Derived.Laws.RangeAny
import Derived.Shelf.Slices.Equal
import Derived.Ground.Names2Prog
import Derived.Shelf.Slices.Clone
import Derived.Shelf.Slices.Empties2
import Derived.Ground.SlgnProg
import Derived.Shelf.SlicesE.Clone
import Derived.Shelf.Unicode.ValidAny
import Derived.Test.YthafeaclpcjjbaaGreatDoorProg
import Derived.Laws.IdiomStrings
/- The range over a text: its iterator, wherever it lies. No condition. -/
namespace Go.Proofs.YthafeaclpcjjbaaGreatDoor
open Go.RowKit
/-- Block b is the iterator of a range over s, at the k-th piece. -/
def IterAt (w : World) (b : Nat) (s : ByteArray) (k : Nat) : Prop := w.heap[b]? = some (.stringIter s (off s.data.toList k))
theorem IterAt.start (w : World) (s : ByteArray) : IterAt (w.iter s 0) w.heap.size s 0 := World.iter_heap w s 0
theorem IterAt.g {w w' : World} {b : Nat} {s : ByteArray} {k : Nat} (h : IterAt w b s k) (hg : G w w') : IterAt w' b s k := hg.blk h
theorem IterAt.but {S : Nat → Prop} {w w' : World} {b : Nat} {s : ByteArray} {k : Nat} (h : IterAt w b s k) (hb : But S w w') (hS : ¬ S b) : IterAt w' b s k := hb.blk h hS
theorem IterAt.pos {w : World} {b : Nat} {s : ByteArray} {k : Nat} (h : IterAt w b s k) : w.iterPos b = off s.data.toList k := by
 have h' : w.heap[b]? = some (.stringIter s (off s.data.toList k)) := h
 simp [World.iterPos, h']
theorem off_less {s : ByteArray} {k : Nat} {c : Ck} (hc : (cks s.data.toList)[k]? = some c) : s.size - off s.data.toList (k + 1) < s.size - off s.data.toList k := by
 have h1 := (decode_off hc).2.2
 have h2 := off_succ hc
 have h3 := (cks_ok _ c (List.mem_of_getElem? hc)).len
 omega
theorem IterAt.lt {w : World} {b : Nat} {s : ByteArray} {k : Nat} (h : IterAt w b s k) : b < w.heap.size := blk_lt h
theorem G.iter (w : World) (s : ByteArray) (p : Nat) : G w (w.iter s p) := G.new w _
section
variable {P : Program}
theorem run_next_piece {w : World} {b : Nat} {s : ByteArray} {k : Nat} {c : Ck} (h : IterAt w b s k) (hc : (cks s.data.toList)[k]? = some c) :
  ∃ w', (∀ ty, (Instr.next (.pointer (some ⟨b, 0, none⟩)) true ty).run P w = .ok (.tuple #[.bool true, .int .i64 (off s.data.toList k), .int .i32 c.r]) w') ∧ IterAt w' b s (k + 1) ∧ But (fun k => k = b) w w' ∧ w'.heap.size = w.heap.size := by
 obtain ⟨h1, h2, h3⟩ := decode_off hc
 have hlt := h.lt
 refine ⟨{ w with heap := w.heap.setIfInBounds b (.stringIter s (off s.data.toList (k + 1))) }, ?_, ?_, ⟨rfl, rfl, rfl, by simp, fun i hi hS => ?_⟩, by simp⟩
 ·intro ty
  have h' : w.heap[b]? = some (.stringIter s (off s.data.toList k)) := h
  simp only [Instr.next, getObj, setObj, Sem.run_bind, Sem.run, h', Result.andThen, h3, if_true]
  rw [← h2, ← h1]
  simp [goInt]
 ·show ({ w with heap := w.heap.setIfInBounds b (.stringIter s (off s.data.toList (k + 1))) } : World).heap[b]? = _
  simp [hlt]
 ·show (w.heap.setIfInBounds b _)[i]? = _
  rw [Array.getElem?_setIfInBounds_ne (by intro e; exact hS e.symm)]
theorem run_next_over {w : World} {b : Nat} {s : ByteArray} {k : Nat} (ty : TypeId) (h : IterAt w b s k) (hc : (cks s.data.toList).length ≤ k) :
  (Instr.next (.pointer (some ⟨b, 0, none⟩)) true ty).run P w = .ok (.tuple #[.bool false]) w := by
 have h' : w.heap[b]? = some (.stringIter s (off s.data.toList k)) := h
 have h2 : ¬ off s.data.toList k < s.size := by
  intro e
  have := off_lt.1 (show off s.data.toList k < s.data.toList.length by simpa using e)
  omega
 simp [Instr.next, getObj, Sem.run, h', h2]
variable {ops : Array Oper} {rest : List Oper} {o : Oper} {a : Act} {Q : Exit → Act → World → Prop}
end
theorem piece_at {l : List UInt8} {k : Nat} (h : k < (cks l).length) : ∃ c, (cks l)[k]? = some c := ⟨_, List.getElem?_eq_getElem h⟩
theorem G.next {W w w' : World} {b : Nat} (h : G W w) (hb : But (fun k => k = b) w w') (hw : W.heap.size ≤ b) : G W w' := Below.trans h (hb.below h.size fun k _ e => by omega)
end Go.Proofs.YthafeaclpcjjbaaGreatDoor
/- The shelf's contracts at this seat's program, in plain declarations: written by the kit's own tools. No condition beyond each contract's. -/
namespace Go.Proofs
open Go.Shelf
def Tryz.lays193_ren : Go.Shelf.Ren := ⟨fun | 193 => 94 | n => n, fun | 31 => 94 | 9 => 9 | 4 => 4 | 3 => 3 | 0 => 0 | n => n, fun | n => n⟩
theorem Tryz.lays193 : Go.Proofs.Lays.n193 Tryz.prog Tryz.lays193_ren := {
 mixed := by kernel_rfl
 f193 := Tryz.func94.trans (congrArg some (by kernel_rfl))
 t0 := Tryz.underlying0
 a0 := Tryz.isAgg0
 z0 := Tryz.sizeOf0
 v0 := Tryz.zeroValue0
 t3 := Tryz.underlying3
 a3 := Tryz.isAgg3
 z3 := Tryz.sizeOf3
 v3 := Tryz.zeroValue3
 t4 := Tryz.underlying4
 a4 := Tryz.isAgg4
 z4 := Tryz.sizeOf4
 v4 := Tryz.zeroValue4
 t9 := Tryz.underlying9
 a9 := Tryz.isAgg9
 z9 := Tryz.sizeOf9
 v9 := Tryz.zeroValue9
 t31 := Tryz.underlying94
 a31 := Tryz.isAgg94
 z31 := Tryz.sizeOf94
 v31 := Tryz.zeroValue94 }
open Go.RowKit Go.Lib in
theorem Tryz.slices_Equal_string (b1 o1 n c b2 o2 m d : Nat) (xs ys : List ByteArray) (w : World) (hx : n ≤ xs.length) (hy : m ≤ ys.length) (hbig : n ≤ 9223372036854775807) (hbig2 : m ≤ 9223372036854775807) (hc1 : ∀ j, j < xs.length → w.cell? ⟨b1, o1 + j, none⟩ = some (.string (xs.getD j ByteArray.empty))) (hc2 : ∀ j, j < ys.length → w.cell? ⟨b2, o2 + j, none⟩ = some (.string (ys.getD j ByteArray.empty))) :
  Calls Tryz.prog 94 #[.slice (some ⟨b1, o1, none⟩) n c, .slice (some ⟨b2, o2, none⟩) m d] w fun e w' => e = .returned (.bool (decide (xs.take n = ys.take m))) ∧ ∃ q, w' = w.drewN q := Any.slices_Equal_string Tryz.lays193 b1 o1 n c b2 o2 m d xs ys w hx hy hbig hbig2 hc1 hc2
open Go.RowKit Go.Lib in
theorem Tryz.slices_Equal_string_empty (a1 a2 : Option Addr) (c m d : Nat) (w : World) (hbig2 : m ≤ 9223372036854775807) :
  Calls Tryz.prog 94 #[.slice a1 0 c, .slice a2 m d] w fun e w' => e = .returned (.bool (decide (m = 0))) ∧ w' = w := Any.slices_Equal_string_empty Tryz.lays193 a1 a2 c m d w hbig2
open Go.RowKit Go.Lib in
theorem Tryz.slices_Equal_string_lens (a1 a2 : Option Addr) (n c m d : Nat) (w : World) (hnm : n ≠ m) :
  Calls Tryz.prog 94 #[.slice a1 n c, .slice a2 m d] w fun e w' => e = .returned (.bool false) ∧ w' = w := Any.slices_Equal_string_lens Tryz.lays193 a1 a2 n c m d w hnm
def Tryz.lays196_ren : Go.Shelf.Ren := ⟨fun | 196 => 96 | 259 => 102 | n => n, fun | 9 => 9 | 4 => 4 | 3 => 3 | 5 => 5 | 12 => 12 | 119 => 152 | 0 => 0 | 46 => 136 | 139 => 155 | 138 => 154 | 53 => 90 | n => n, fun | 3 => 0 | 4 => 1 | n => n⟩
theorem Tryz.lays196 : Go.Proofs.Lays.n196 Tryz.prog Tryz.lays196_ren := {
 mixed := by kernel_rfl
 f196 := Tryz.func96.trans (congrArg some (by kernel_rfl))
 f259 := Tryz.func102.trans (congrArg some (by kernel_rfl))
 t0 := Tryz.underlying0
 a0 := Tryz.isAgg0
 z0 := Tryz.sizeOf0
 v0 := Tryz.zeroValue0
 t3 := Tryz.underlying3
 a3 := Tryz.isAgg3
 z3 := Tryz.sizeOf3
 v3 := Tryz.zeroValue3
 t4 := Tryz.underlying4
 a4 := Tryz.isAgg4
 z4 := Tryz.sizeOf4
 v4 := Tryz.zeroValue4
 t5 := Tryz.underlying5
 a5 := Tryz.isAgg5
 z5 := Tryz.sizeOf5
 v5 := Tryz.zeroValue5
 t9 := Tryz.underlying9
 a9 := Tryz.isAgg9
 z9 := Tryz.sizeOf9
 v9 := Tryz.zeroValue9
 t12 := Tryz.underlying12
 a12 := Tryz.isAgg12
 z12 := Tryz.sizeOf12
 v12 := Tryz.zeroValue12
 t46 := Tryz.underlying136
 a46 := Tryz.isAgg136
 z46 := Tryz.sizeOf136
 v46 := Tryz.zeroValue136
 t53 := Tryz.underlying90
 a53 := Tryz.isAgg90
 z53 := Tryz.sizeOf90
 v53 := Tryz.zeroValue90
 t119 := Tryz.underlying152
 a119 := Tryz.isAgg152
 z119 := Tryz.sizeOf152
 t138 := Tryz.underlying154
 a138 := Tryz.isAgg154
 z138 := Tryz.sizeOf154
 v138 := Tryz.zeroValue154
 t139 := Tryz.underlying155
 a139 := Tryz.isAgg155
 z139 := Tryz.sizeOf155
 v139 := Tryz.zeroValue155
 g3 := by kernel_rfl
 g4 := by kernel_rfl }
open Go.RowKit Go.Lib in
theorem Tryz.utf8_ValidString (s : ByteArray) (w : World) (hs : s.size ≤ 9223372036854775807) (hT : Lib.Utf8Tabs 0 1 w) :
  Calls Tryz.prog 96 #[.string s] w fun e w' => e = .returned (.bool (Lib.validD s.data.toList)) ∧ Below w.heap.size w w' := Any.utf8_ValidString Tryz.lays196 s w hs hT
end Go.Proofs
/- Texts as bytes; runes.Valid: what it answers. Conditions: the length fits an int; the decoder's tables lie as the library lays them. -/
namespace Go.Proofs.YthafeaclpcjjbaaGreatDoor
open Go.RowKit Go.Lib
/-- The decoder's two tables lie as the library lays them. -/
def Tabs (w : World) : Prop := Lib.Utf8Tabs 0 1 w
theorem Tabs.g {w w' : World} (h : Tabs w) (hg : G w w') : Tabs w' := Utf8Tabs_below h hg
/-- The text of some bytes. -/
def strOf (l : List UInt8) : ByteArray := ⟨l.toArray⟩
theorem strOf_list (l : List UInt8) : (strOf l).data.toList = l := by simp [strOf]
theorem strOf_self (s : ByteArray) : strOf s.data.toList = s := by cases s; simp [strOf]
theorem strOf_size (l : List UInt8) : (strOf l).size = l.length := by simp [strOf, ByteArray.size]
set_option maxHeartbeats 400000 in
theorem valid_any (s : ByteArray) (w : World) (hs : s.size ≤ 9223372036854775807) (hT : Tabs w) :
  Calls Tryz.prog 92 #[.string s] w fun e w' => e = .returned (.bool (validB s)) ∧ G w w' := by
 have hv := Tryz.utf8_ValidString s w hs hT
 rw [validB_eq] at hv
 go_enter Tryz.func92, Tryz.ntmps92
 go_wp2_with fail
 refine hv.mono ?_
 rintro e w1 ⟨rfl, hg⟩
 go_wp2_with fail
 go_ret
 exact ⟨rfl, hg⟩
end Go.Proofs.YthafeaclpcjjbaaGreatDoor
/- Rows of the call's own, of whatever element type: append of a list onto them. No condition. -/
namespace Go.Proofs.YthafeaclpcjjbaaGreatDoor
open Go.RowKit
/-- What the program's table says of a slice type t with elements of type e, each of sz cells, as the function f lays them. -/
structure IsElem {α : Type} (P : Program) (t e : TypeId) (sz bytes : Nat) (f : α → List Value) : Prop where
 under : P.underlying t = some (.slice e)
 info : ∃ i z, P.info? e = some i ∧ i.zero = some z ∧ i.size = sz ∧ i.bytes = bytes ∧ z.cells.size = sz
 pos : 0 < sz
 len : ∀ x, (f x).length = sz
 one : ∀ x, ∀ u ∈ f x, u.oneCell' = true
theorem isElem_of {α : Type} {P : Program} {t e : TypeId} {sz bytes : Nat} {f : α → List Value} {z : Value} (h1 : P.underlying t = some (.slice e)) (h2 : (P.info? e).map (fun i => (i.zero, i.size, i.bytes)) = some (some z, sz, bytes))
  (h3 : z.cells.size = sz) (h4 : 0 < sz) (h5 : ∀ x, (f x).length = sz) (h6 : ∀ x, ∀ u ∈ f x, u.oneCell' = true) : IsElem P t e sz bytes f := by
 obtain ⟨i, a, b, c, d⟩ := info_parts h2
 exact ⟨h1, ⟨i, z, a, b, c, d, h3⟩, h4, h5, h6⟩
/-- The slice value v is the call's own (its block from base on) and holds the list xs. -/
def OwnL {α : Type} (e : TypeId) (sz : Nat) (f : α → List Value) (w : World) (base : Nat) (v : Value) (xs : List α) : Prop := w.ownsRow base e sz v xs.length (xs.flatMap f)
/-- What an append onto a row of elements of type e of the call's own leaves as it was. -/
def KeepT (e : TypeId) (base : Nat) (w w' : World) : Prop := Below base w w' ∧ ∀ (k : Nat) (cs : Array Value) (t : TypeId) (fz : Nat × Nat), t ≠ e → w.heap[k]? = some (.cells cs t fz) → w'.heap[k]? = some (.cells cs t fz)
section
variable {α : Type} {e : TypeId} {sz : Nat} {f : α → List Value} {w w' : World} {base : Nat} {v : Value} {xs ys : List α}
theorem flat_length (hf : ∀ x, (f x).length = sz) (xs : List α) : (xs.flatMap f).length = xs.length * sz := by
 induction xs with
 | nil => simp
 | cons a xs ih => rw [List.flatMap_cons, List.length_append, ih, hf, List.length_cons, Nat.succ_mul]; omega
theorem Sl.of_none {B : Nat} (h : Sl f sz w B none xs) : xs = [] := by
 rcases xs with _ | ⟨x, xs⟩
 ·rfl
 ·obtain ⟨_, _, e, _⟩ := h (by simp)
  cases e
theorem KeepT.refl (e : TypeId) (base : Nat) (w : World) : KeepT e base w w := ⟨Below.refl _ _, fun _ _ _ _ _ h => h⟩
theorem KeepT.trans {a b c : World} (h : KeepT e base a b) (k : KeepT e base b c) : KeepT e base a c := ⟨h.1.trans k.1, fun g cs t fz ht hh => k.2 g cs t fz ht (h.2 g cs t fz ht hh)⟩
theorem KeepT.g {W : World} (h : KeepT e W.heap.size w w') (hg : G W w) : G W w' := Below.trans hg h.1
theorem OwnL.g (h : OwnL e sz f w base v xs) (hg : G w w') : OwnL e sz f w' base v xs := by
 refine ⟨h.1, ?_⟩
 rcases h.2 with h1 | ⟨g, cap, cur, hv, hb, hh, hr⟩
 ·exact .inl h1
 ·exact .inr ⟨g, cap, cur, hv, hb, hg.blk hh, hr⟩
theorem OwnL.mono {base' : Nat} (h : OwnL e sz f w base v xs) (hb : base' ≤ base) : OwnL e sz f w base' v xs := by
 refine ⟨h.1, ?_⟩
 rcases h.2 with h1 | ⟨g, cap, cur, hv, hb2, hr⟩
 ·exact .inl h1
 ·exact .inr ⟨g, cap, cur, hv, by omega, hr⟩
theorem OwnL.nil : OwnL e sz f w base (.slice none 0 0) ([] : List α) := ⟨by simp, .inl ⟨rfl, rfl⟩⟩
theorem OwnL.sl (hf : ∀ x, (f x).length = sz) (h : OwnL e sz f w base v xs) : ∃ A c, v = .slice A xs.length c ∧ xs.length ≤ c ∧ c ≤ 9223372036854775807 ∧ Sl f sz w w.heap.size A xs := by
 obtain ⟨hl, h⟩ := h
 rcases h with ⟨rfl, hn⟩ | ⟨g, cap, cur, rfl, hb, hh, hnc, hcm, hcs, hx⟩
 ·have : xs = [] := List.eq_nil_of_length_eq_zero hn
  subst this
  exact ⟨none, 0, rfl, by simp, by omega, Sl.nil⟩
 ·refine ⟨some ⟨g, 0, none⟩, cap, rfl, hnc, by simpa [maxLen] using hcm, fun _ => ⟨g, 0, rfl, blk_lt hh, fun k x hxk j u hu => ?_⟩⟩
  have h1 := flat_get hf xs k x hxk j u hu
  have hk : k < xs.length := (List.getElem?_eq_some_iff.1 hxk).1
  have hj : j < sz := by rw [← hf x]; exact (List.getElem?_eq_some_iff.1 hu).1
  have hlt : k * sz + j < xs.length * sz := by
   have := Nat.mul_le_mul_right sz (Nat.succ_le_of_lt hk)
   rw [Nat.succ_mul] at this
   omega
  rw [Nat.zero_add, blk_cell hh]
  rw [← hx, List.getElem?_take_of_lt hlt, Array.getElem?_toList] at h1
  exact h1
end
section
variable {α : Type} {P : Program} {t e : TypeId} {sz bytes : Nat} {f : α → List Value} (he : IsElem P t e sz bytes f)
include he
/-- append of a list that reads somewhere, onto a row of the call's own: the run. -/
theorem run_append_list (w : World) (ty : TypeId) (base : Nat) (v : Value) (xs : List α) (hown : OwnL e sz f w base v xs) (B : Nat) (A : Option Addr) (c : Nat) (ys : List α) (hA : A = none → ys = [])
  (hs : Sl f sz w B A ys) (hlen : xs.length + ys.length ≤ 9223372036854775807) (hby : (xs.length + ys.length) * bytes ≤ 140737488355328) (hbase : base ≤ w.heap.size) :
  ∃ v' w', (Builtin.append_ #[t, t] ty #[v, .slice A ys.length c]).run P w = .ok v' w' ∧ OwnL e sz f w' base v' (xs ++ ys) ∧ KeepT e base w w' ∧ (v ≠ .slice none 0 0 → v' ≠ .slice none 0 0) := by
 obtain ⟨i0, z, hi, hz0, hz1, hz2, hz3⟩ := he.info
 have ht := he.under
 rcases A with _ | ad
 ·have hy := hA rfl
  subst hy
  refine ⟨v, w, ?_, by simpa using hown, KeepT.refl _ _ _, fun h => h⟩
  rcases hown.2 with ⟨rfl, _⟩ | ⟨g, cap, cur, rfl, _, _, hnc, _⟩
  ·simp [Builtin.append_, run_underlying ht, sizeOf, typeInfo, hi, Builtin.lenOf, Builtin.firstCells]
  ·simp [Builtin.append_, run_underlying ht, sizeOf, typeInfo, hi, Builtin.lenOf, Builtin.firstCells, hnc, storeCells]
 ·have hfl := flat_length he.len ys
  obtain ⟨v', w', hrun, h1, h2, h3⟩ := run_append_own (P := P) w base t ty e i0 z sz bytes ht hi hz0 hz1 hz2 hz3 he.pos v xs.length (xs.flatMap f) hown ad ys.length c (ys.flatMap f) hfl (fun j u hu => by
    have hj : j < ys.length * sz := by rw [← hfl]; exact (List.getElem?_eq_some_iff.1 hu).1
    have hk : j / sz < ys.length := (Nat.div_lt_iff_lt_mul he.pos).2 hj
    obtain ⟨b, o, hA', _, hc⟩ := hs (by rintro rfl; simp at hj)
    cases hA'
    have hy : ys[j / sz]? = some ys[j / sz] := List.getElem?_eq_getElem hk
    have hm : j % sz < (f ys[j / sz]).length := by rw [he.len]; exact Nat.mod_lt _ he.pos
    have h4 := flat_get he.len ys (j / sz) _ hy (j % sz) _ (List.getElem?_eq_getElem hm)
    have e1 : j / sz * sz + j % sz = j := by rw [Nat.mul_comm]; exact Nat.div_add_mod j sz
    rw [e1, hu] at h4
    have h5 := hc (j / sz) _ hy (j % sz) u (by rw [List.getElem?_eq_getElem hm]; exact h4.symm)
    rw [Nat.add_assoc, e1] at h5
    rw [Addr.add_lit]
    exact h5)
   (fun u hu => by
    obtain ⟨y, _, h4⟩ := List.mem_flatMap.1 hu
    exact he.one y u h4) (by simpa [maxLen] using hlen) hby hbase
  refine ⟨v', w', hrun, ?_, ⟨(Below.refl _ _).grown h2 hbase ?_, fun k cs t' fz ht' hh => ?_⟩, fun h h4 => h (h3.1 h4).1⟩
  ·show w'.ownsRow _ _ _ _ _ _
   rw [List.flatMap_append, List.length_append]
   exact h1
  ·intro k hk
   rcases hown.2 with ⟨rfl, _⟩ | ⟨g, cap, cur, rfl, hbg, hh, _⟩
   ·simp [Value.ownBlock] at hk
   ·simp [Value.ownBlock] at hk; omega
  ·refine (h2.block k (blk_lt hh) ?_).trans hh
   intro hk
   rcases hown.2 with ⟨rfl, _⟩ | ⟨g, cap, cur, rfl, hbg, hh2, _⟩
   ·simp [Value.ownBlock] at hk
   ·simp [Value.ownBlock] at hk
    subst hk
    rw [hh] at hh2
    simp at hh2
    exact ht' hh2.2.1
theorem wp_append_list {o : Oper} {a : Act} {K : Act → World → Prop} {Q : Exit → Act → World → Prop} (w : World) (s x : Operand)
  (ho : o.op = .call { callee := .builtin .append, args := #[s, x], argTypes := #[t, t] })
  (base : Nat) (v : Value) (xs : List α) (hv : a.eval s = v) (hown : OwnL e sz f w base v xs) (B : Nat) (A : Option Addr) (c : Nat) (ys : List α) (hx : a.eval x = .slice A ys.length c) (hA : A = none → ys = [])
  (hs : Sl f sz w B A ys) (hlen : xs.length + ys.length ≤ 9223372036854775807) (hby : (xs.length + ys.length) * bytes ≤ 140737488355328) (hbase : base ≤ w.heap.size)
  (h : ∀ v' w', OwnL e sz f w' base v' (xs ++ ys) → KeepT e base w w' → (v ≠ .slice none 0 0 → v' ≠ .slice none 0 0) → K (a.put o.dst v') w') : o.wp P a w K Q := by
 obtain ⟨v', w', hrun, h2, h3, h4⟩ := run_append_list he w o.type base v xs hown B A c ys hA hs hlen hby hbase
 unfold Oper.wp execOp
 simp only [ho, resolve, invoke, builtin, Sem.run_bind, Sem.run_pure, Result.andThen_ok, List.map_toArray, List.map_cons, List.map_nil, hv, hx, hrun]
 exact h v' w' h2 h3 h4
theorem wpList_append_list {ops : Array Oper} {rest : List Oper} {o : Oper} {a : Act} {Q : Exit → Act → World → Prop} (w : World) (hgd : o.guard = none) (s x : Operand)
  (ho : o.op = .call { callee := .builtin .append, args := #[s, x], argTypes := #[t, t] })
  (base : Nat) (v : Value) (xs : List α) (hv : a.eval s = v) (hown : OwnL e sz f w base v xs) (B : Nat) (A : Option Addr) (c : Nat) (ys : List α) (hx : a.eval x = .slice A ys.length c) (hA : A = none → ys = [])
  (hs : Sl f sz w B A ys) (hlen : xs.length + ys.length ≤ 9223372036854775807) (hby : (xs.length + ys.length) * bytes ≤ 140737488355328) (hbase : base ≤ w.heap.size)
  (h : ∀ v' w', OwnL e sz f w' base v' (xs ++ ys) → KeepT e base w w' → (v ≠ .slice none 0 0 → v' ≠ .slice none 0 0) → wpList P ops Q rest (a.put o.dst v') w') : wpList P ops Q (o :: rest) a w :=
 wpList_plain hgd fun _ hK => wp_append_list he w s x ho base v xs hv hown B A c ys hx hA hs hlen hby hbase fun v' w' h2 h3 h4 => hK _ _ (h v' w' h2 h3 h4)
end
end Go.Proofs.YthafeaclpcjjbaaGreatDoor

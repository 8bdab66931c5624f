/- Several texts in one: Range, Shelf, Tabs. -/
import Derived.Test.YtheogchkelmeeaaDoorM1MsgFirst
import Derived.Laws.RangeAny
import Derived.Shelf.Slices.Equal
import Derived.Ground.Names2Prog
import Derived.Shelf.Slices.Clone
import Derived.Shelf.Slices.Empties2
import Derived.Ground.SlgnProg
import Derived.Shelf.SlicesE.Clone
import Derived.Shelf.Unicode.ValidAny
import Derived.Test.YtheogchkelmeeaaDoorProg
import Derived.Laws.IdiomStrings
/- The range over a text: its iterator, wherever it lies. No condition. -/
namespace Go.Proofs.YtheogchkelmeeaaDoor
open Go.RowKit

/-- Block b is the iterator of a range over s, at the k-th piece. -/
def IterAt (w : World) (b : Nat) (s : ByteArray) (k : Nat) : Prop := w.heap[b]? = some (.stringIter s (off s.data.toList k))
theorem IterAt.start (w : World) (s : ByteArray) : IterAt (w.iter s 0) w.heap.size s 0 := World.iter_heap w s 0
theorem IterAt.g {w w' : World} {b : Nat} {s : ByteArray} {k : Nat} (h : IterAt w b s k) (hg : G w w') : IterAt w' b s k := hg.blk h
theorem IterAt.but {S : Nat → Prop} {w w' : World} {b : Nat} {s : ByteArray} {k : Nat} (h : IterAt w b s k) (hb : But S w w') (hS : ¬ S b) : IterAt w' b s k := hb.blk h hS
theorem IterAt.pos {w : World} {b : Nat} {s : ByteArray} {k : Nat} (h : IterAt w b s k) : w.iterPos b = off s.data.toList k := by
  have h' : w.heap[b]? = some (.stringIter s (off s.data.toList k)) := h
  simp [World.iterPos, h']
theorem off_less {s : ByteArray} {k : Nat} {c : Ck} (hc : (cks s.data.toList)[k]? = some c) : s.size - off s.data.toList (k + 1) < s.size - off s.data.toList k := by
  have h1 := (decode_off hc).2.2
  have h2 := off_succ hc
  have h3 := (cks_ok _ c (List.mem_of_getElem? hc)).len
  omega
theorem IterAt.lt {w : World} {b : Nat} {s : ByteArray} {k : Nat} (h : IterAt w b s k) : b < w.heap.size := blk_lt h
theorem G.iter (w : World) (s : ByteArray) (p : Nat) : G w (w.iter s p) := G.new w _
section
variable {P : Program}
theorem run_next_piece {w : World} {b : Nat} {s : ByteArray} {k : Nat} {c : Ck} (h : IterAt w b s k) (hc : (cks s.data.toList)[k]? = some c) :
    ∃ w', (∀ ty, (Instr.next (.pointer (some ⟨b, 0, none⟩)) true ty).run P w = .ok (.tuple #[.bool true, .int .i64 (off s.data.toList k), .int .i32 c.r]) w') ∧ IterAt w' b s (k + 1) ∧ But (fun k => k = b) w w' ∧ w'.heap.size = w.heap.size := by
  obtain ⟨h1, h2, h3⟩ := decode_off hc
  have hlt := h.lt
  refine ⟨{ w with heap := w.heap.setIfInBounds b (.stringIter s (off s.data.toList (k + 1))) }, ?_, ?_, ⟨rfl, rfl, rfl, by simp, fun i hi hS => ?_⟩, by simp⟩
  · intro ty
    have h' : w.heap[b]? = some (.stringIter s (off s.data.toList k)) := h
    simp only [Instr.next, getObj, setObj, Sem.run_bind, Sem.run, h', Result.andThen, h3, if_true]
    rw [← h2, ← h1]
    simp [goInt]
  · show ({ w with heap := w.heap.setIfInBounds b (.stringIter s (off s.data.toList (k + 1))) } : World).heap[b]? = _
    simp [hlt]
  · show (w.heap.setIfInBounds b _)[i]? = _
    rw [Array.getElem?_setIfInBounds_ne (by intro e; exact hS e.symm)]
theorem run_next_over {w : World} {b : Nat} {s : ByteArray} {k : Nat} (ty : TypeId) (h : IterAt w b s k) (hc : (cks s.data.toList).length ≤ k) :
    (Instr.next (.pointer (some ⟨b, 0, none⟩)) true ty).run P w = .ok (.tuple #[.bool false]) w := by
  have h' : w.heap[b]? = some (.stringIter s (off s.data.toList k)) := h
  have h2 : ¬ off s.data.toList k < s.size := by
    intro e
    have := off_lt.1 (show off s.data.toList k < s.data.toList.length by simpa using e)
    omega
  simp [Instr.next, getObj, Sem.run, h', h2]
variable {ops : Array Oper} {rest : List Oper} {o : Oper} {a : Act} {Q : Exit → Act → World → Prop}
/-- The next piece of a range. -/
theorem wpList_next (w : World) (hg : o.guard = none) (x : Operand) (hop : o.op = .next x true) (b : Nat) (s : ByteArray) (k : Nat) (c : Ck) (hx : a.eval x = .pointer (some ⟨b, 0, none⟩)) (h : IterAt w b s k) (hc : (cks s.data.toList)[k]? = some c)
    (hK : ∀ w', IterAt w' b s (k + 1) → But (fun k => k = b) w w' → w'.heap.size = w.heap.size → wpList P ops Q rest (a.put o.dst (.tuple #[.bool true, .int .i64 (off s.data.toList k), .int .i32 c.r])) w') : wpList P ops Q (o :: rest) a w := by
  refine wpList_plain hg fun K' hK' => ?_
  obtain ⟨w', hrun, r1, r2, r3⟩ := run_next_piece (P := P) h hc
  unfold Oper.wp
  simp [execOp, hop, hx, hrun o.type, Result.andThen]
  exact hK' _ _ (hK w' r1 r2 r3)
theorem wpList_next_end (w : World) (hg : o.guard = none) (x : Operand) (hop : o.op = .next x true) (b : Nat) (s : ByteArray) (k : Nat) (hx : a.eval x = .pointer (some ⟨b, 0, none⟩)) (h : IterAt w b s k) (hc : (cks s.data.toList).length ≤ k)
    (hK : wpList P ops Q rest (a.put o.dst (.tuple #[.bool false])) w) : wpList P ops Q (o :: rest) a w := by
  refine wpList_plain hg fun K' hK' => ?_
  have hrun := run_next_over (P := P) o.type h hc
  unfold Oper.wp
  simp [execOp, hop, hx, hrun, Result.andThen]
  exact hK' _ _ hK
end
theorem piece_at {l : List UInt8} {k : Nat} (h : k < (cks l).length) : ∃ c, (cks l)[k]? = some c := ⟨_, List.getElem?_eq_getElem h⟩
theorem G.next {W w w' : World} {b : Nat} (h : G W w) (hb : But (fun k => k = b) w w') (hw : W.heap.size ≤ b) : G W w' := Below.trans h (hb.below h.size fun k _ e => by omega)
end Go.Proofs.YtheogchkelmeeaaDoor
/- The shelf's contracts at this seat's program, in plain declarations: written by the kit's own tools. No condition beyond each contract's. -/
namespace Go.Proofs
open Go.Shelf
def Tryd.lays193_ren : Go.Shelf.Ren := ⟨fun | 193 => 114 | n => n, fun | 31 => 111 | 9 => 9 | 4 => 4 | 3 => 3 | 0 => 0 | n => n, fun | n => n⟩
theorem Tryd.lays193 : Go.Proofs.Lays.n193 Tryd.prog Tryd.lays193_ren := {
  mixed := by kernel_rfl
  f193 := Tryd.func114.trans (congrArg some (by kernel_rfl))
  t0 := Tryd.underlying0
  a0 := Tryd.isAgg0
  z0 := Tryd.sizeOf0
  v0 := Tryd.zeroValue0
  t3 := Tryd.underlying3
  a3 := Tryd.isAgg3
  z3 := Tryd.sizeOf3
  v3 := Tryd.zeroValue3
  t4 := Tryd.underlying4
  a4 := Tryd.isAgg4
  z4 := Tryd.sizeOf4
  v4 := Tryd.zeroValue4
  t9 := Tryd.underlying9
  a9 := Tryd.isAgg9
  z9 := Tryd.sizeOf9
  v9 := Tryd.zeroValue9
  t31 := Tryd.underlying111
  a31 := Tryd.isAgg111
  z31 := Tryd.sizeOf111
  v31 := Tryd.zeroValue111 }
open Go.RowKit Go.Lib in
theorem Tryd.slices_Equal_string (b1 o1 n c b2 o2 m d : Nat) (xs ys : List ByteArray) (w : World) (hx : n ≤ xs.length) (hy : m ≤ ys.length) (hbig : n ≤ 9223372036854775807) (hbig2 : m ≤ 9223372036854775807) (hc1 : ∀ j, j < xs.length → w.cell? ⟨b1, o1 + j, none⟩ = some (.string (xs.getD j ByteArray.empty))) (hc2 : ∀ j, j < ys.length → w.cell? ⟨b2, o2 + j, none⟩ = some (.string (ys.getD j ByteArray.empty))) :
    Calls Tryd.prog 114 #[.slice (some ⟨b1, o1, none⟩) n c, .slice (some ⟨b2, o2, none⟩) m d] w fun e w' => e = .returned (.bool (decide (xs.take n = ys.take m))) ∧ ∃ q, w' = w.drewN q := Any.slices_Equal_string Tryd.lays193 b1 o1 n c b2 o2 m d xs ys w hx hy hbig hbig2 hc1 hc2
open Go.RowKit Go.Lib in
theorem Tryd.slices_Equal_string_empty (a1 a2 : Option Addr) (c m d : Nat) (w : World) (hbig2 : m ≤ 9223372036854775807) :
    Calls Tryd.prog 114 #[.slice a1 0 c, .slice a2 m d] w fun e w' => e = .returned (.bool (decide (m = 0))) ∧ w' = w := Any.slices_Equal_string_empty Tryd.lays193 a1 a2 c m d w hbig2
def Tryd.laysNm216_ren : Go.Shelf.Ren := ⟨fun | 16 => 124 | n => n, fun | 24 => 111 | 9 => 9 | 4 => 4 | n => n, fun | n => n⟩
theorem Tryd.laysNm216 : Go.Proofs.Lays2.n16 Tryd.prog Tryd.laysNm216_ren := {
  mixed := by kernel_rfl
  f16 := Tryd.func124.trans (congrArg some (by kernel_rfl))
  t4 := Tryd.underlying4
  a4 := Tryd.isAgg4
  z4 := Tryd.sizeOf4
  v4 := Tryd.zeroValue4
  t9 := Tryd.underlying9
  a9 := Tryd.isAgg9
  z9 := Tryd.sizeOf9
  v9 := Tryd.zeroValue9
  t24 := Tryd.underlying111
  a24 := Tryd.isAgg111
  z24 := Tryd.sizeOf111
  v24 := Tryd.zeroValue111
  i9 := by kernel_rfl }
open Go.RowKit Go.Lib in
theorem Tryd.slices_Clone_string (b off n c : Nat) (zs : List ByteArray) (w : World) (hz : n ≤ zs.length) (hbig : n * 16 ≤ 140737488355328) (hc : ∀ j, j < zs.length → w.cell? ⟨b, off + j, none⟩ = some (.string (zs.getD j ByteArray.empty))) :
    Calls Tryd.prog 124 #[.slice (some ⟨b, off, none⟩) n c] w fun e w' => ∃ v', e = .returned v' ∧ w'.ownsRow w.heap.size 9 1 v' n ((zs.take n).map (Value.string)) ∧ v' ≠ .slice none 0 0 ∧ Below w.heap.size w w' := Any.slices_Clone_string Tryd.laysNm216 b off n c zs w hz hbig hc
open Go.RowKit Go.Lib in
theorem Tryd.slices_Clone_string_nil (n c : Nat) (w : World) :
    Calls Tryd.prog 124 #[.slice none n c] w fun e w' => e = .returned (.slice none 0 0) ∧ w' = w := Any.slices_Clone_string_nil Tryd.laysNm216 n c w
open Go.RowKit Go.Lib in
theorem Tryd.slices_Clone_string_zero (a : Addr) (c : Nat) (w : World) :
    Calls Tryd.prog 124 #[.slice (some a) 0 c] w fun e w' => ∃ v', e = .returned v' ∧ w'.ownsRow w.heap.size 9 1 v' 0 [] ∧ v' ≠ .slice none 0 0 ∧ Below w.heap.size w w' := Any.slices_Clone_string_zero Tryd.laysNm216 a c w
open Go.RowKit Go.Lib in
theorem Tryd.slices_Equal_string_lens (a1 a2 : Option Addr) (n c m d : Nat) (w : World) (hnm : n ≠ m) :
    Calls Tryd.prog 114 #[.slice a1 n c, .slice a2 m d] w fun e w' => e = .returned (.bool false) ∧ w' = w := Any.slices_Equal_string_lens Tryd.lays193 a1 a2 n c m d w hnm
def Tryd.laysSlE041_f124_ren : Go.Shelf.Ren := ⟨fun | 41 => 124 | n => n, fun | 22 => 111 | 23 => 9 | 4 => 4 | n => n, fun | n => n⟩
theorem Tryd.laysSlE041_f124 : Go.Proofs.SlLaysE0.n41 Tryd.prog Tryd.laysSlE041_f124_ren := {
  mixed := by kernel_rfl
  f41 := ⟨Tryd.f124.name, by decide, Tryd.func124.trans (congrArg some (by kernel_rfl))⟩
  t4 := Tryd.underlying4
  a4 := Tryd.isAgg4
  z4 := Tryd.sizeOf4
  v4 := Tryd.zeroValue4
  t22 := Tryd.underlying111
  a22 := Tryd.isAgg111
  z22 := Tryd.sizeOf111
  v22 := Tryd.zeroValue111 }
open Go.RowKit Go.Lib in
theorem Tryd.slices_Clone (i0 : TypeInfo) (z : Value) (size bytes : Nat) (hi : Tryd.prog.info? 9 = some i0) (hz0 : i0.zero = some z) (hz1 : i0.size = size) (hz2 : i0.bytes = bytes) (hzs : z.cells.size = size) (hsz : 0 < size) (z23 : ∀ w, (Go.sizeOf 9).run Tryd.prog w = .ok size w) (b off n c : Nat) (news : List Value) (w : World) (hl : news.length = n * size) (hn : n ≤ maxLen) (hbig : n * bytes ≤ 140737488355328) (hc : ∀ j u, news[j]? = some u → w.cell? ⟨b, off + j, none⟩ = some u) (h1 : ∀ u ∈ news, u.oneCell' = true) :
    Calls Tryd.prog 124 #[.slice (some ⟨b, off, none⟩) n c] w fun e w' => ∃ v', e = .returned v' ∧ w'.ownsRow w.heap.size 9 size v' n news ∧ v' ≠ .slice none 0 0 ∧ Below w.heap.size w w' := AnyE.slices_Clone Tryd.laysSlE041_f124 i0 z size bytes hi hz0 hz1 hz2 hzs hsz z23 b off n c news w hl hn hbig hc h1
open Go.RowKit Go.Lib in
theorem Tryd.slices_Clone_nil (n c : Nat) (w : World) :
    Calls Tryd.prog 124 #[.slice none n c] w fun e w' => e = .returned (.slice none 0 0) ∧ w' = w := AnyE.slices_Clone_nil Tryd.laysSlE041_f124 n c w
def Tryd.lays196_ren : Go.Shelf.Ren := ⟨fun | 196 => 120 | 259 => 128 | n => n, fun | 9 => 9 | 4 => 4 | 3 => 3 | 5 => 5 | 12 => 12 | 119 => 193 | 0 => 0 | 46 => 155 | 139 => 196 | 138 => 195 | 53 => 140 | n => n, fun | 3 => 0 | 4 => 1 | n => n⟩
theorem Tryd.lays196 : Go.Proofs.Lays.n196 Tryd.prog Tryd.lays196_ren := {
  mixed := by kernel_rfl
  f196 := Tryd.func120.trans (congrArg some (by kernel_rfl))
  f259 := Tryd.func128.trans (congrArg some (by kernel_rfl))
  t0 := Tryd.underlying0
  a0 := Tryd.isAgg0
  z0 := Tryd.sizeOf0
  v0 := Tryd.zeroValue0
  t3 := Tryd.underlying3
  a3 := Tryd.isAgg3
  z3 := Tryd.sizeOf3
  v3 := Tryd.zeroValue3
  t4 := Tryd.underlying4
  a4 := Tryd.isAgg4
  z4 := Tryd.sizeOf4
  v4 := Tryd.zeroValue4
  t5 := Tryd.underlying5
  a5 := Tryd.isAgg5
  z5 := Tryd.sizeOf5
  v5 := Tryd.zeroValue5
  t9 := Tryd.underlying9
  a9 := Tryd.isAgg9
  z9 := Tryd.sizeOf9
  v9 := Tryd.zeroValue9
  t12 := Tryd.underlying12
  a12 := Tryd.isAgg12
  z12 := Tryd.sizeOf12
  v12 := Tryd.zeroValue12
  t46 := Tryd.underlying155
  a46 := Tryd.isAgg155
  z46 := Tryd.sizeOf155
  v46 := Tryd.zeroValue155
  t53 := Tryd.underlying140
  a53 := Tryd.isAgg140
  z53 := Tryd.sizeOf140
  v53 := Tryd.zeroValue140
  t119 := Tryd.underlying193
  a119 := Tryd.isAgg193
  z119 := Tryd.sizeOf193
  t138 := Tryd.underlying195
  a138 := Tryd.isAgg195
  z138 := Tryd.sizeOf195
  v138 := Tryd.zeroValue195
  t139 := Tryd.underlying196
  a139 := Tryd.isAgg196
  z139 := Tryd.sizeOf196
  v139 := Tryd.zeroValue196
  g3 := by kernel_rfl
  g4 := by kernel_rfl }
open Go.RowKit Go.Lib in
theorem Tryd.utf8_ValidString (s : ByteArray) (w : World) (hs : s.size ≤ 9223372036854775807) (hT : Lib.Utf8Tabs 0 1 w) :
    Calls Tryd.prog 120 #[.string s] w fun e w' => e = .returned (.bool (Lib.validD s.data.toList)) ∧ Below w.heap.size w w' := Any.utf8_ValidString Tryd.lays196 s w hs hT
end Go.Proofs
/- Texts as bytes; runes.Valid: what it answers. Conditions: the length fits an int; the decoder's tables lie as the library lays them. -/
namespace Go.Proofs.YtheogchkelmeeaaDoor
open Go.RowKit Go.Lib

/-- The decoder's two tables lie as the library lays them. -/
def Tabs (w : World) : Prop := Lib.Utf8Tabs 0 1 w
theorem Tabs.g {w w' : World} (h : Tabs w) (hg : G w w') : Tabs w' := Utf8Tabs_below h hg
/-- The text of some bytes. -/
def strOf (l : List UInt8) : ByteArray := ⟨l.toArray⟩
theorem strOf_list (l : List UInt8) : (strOf l).data.toList = l := by simp [strOf]
theorem strOf_self (s : ByteArray) : strOf s.data.toList = s := by cases s; simp [strOf]
theorem strOf_size (l : List UInt8) : (strOf l).size = l.length := by simp [strOf, ByteArray.size]
set_option maxHeartbeats 400000 in
theorem valid_any (s : ByteArray) (w : World) (hs : s.size ≤ 9223372036854775807) (hT : Tabs w) :
    Calls Tryd.prog 107 #[.string s] w fun e w' => e = .returned (.bool (validB s)) ∧ G w w' := by
  have hv := Tryd.utf8_ValidString s w hs hT
  rw [validB_eq] at hv
  go_enter Tryd.func107, Tryd.ntmps107
  go_wp2_with fail
  refine hv.mono ?_
  rintro e w1 ⟨rfl, hg⟩
  go_wp2_with fail
  go_ret
  exact ⟨rfl, hg⟩
theorem run_byte (w : World) (s : ByteArray) (p : Nat) (b : UInt8) (h : s.data.toList[p]? = some b) : (Instr.index 9 (.string s) (.int .i64 p)).run Tryd.prog w = .ok (.int .u8 b.toNat) w := by
  obtain ⟨h1, h2⟩ := List.getElem?_eq_some_iff.1 h
  have h3 : p < s.size := by simpa using h1
  rw [run_index_string _ _ _ _ _ Tryd.underlying9, dif_pos (by constructor <;> omega)]
  rw [← h2]
  rfl
end Go.Proofs.YtheogchkelmeeaaDoor

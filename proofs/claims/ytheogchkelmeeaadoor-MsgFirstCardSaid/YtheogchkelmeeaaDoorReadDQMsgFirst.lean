/- Door seats: how the arguments of the laws read: texts, numbers, stamps, events, puts, batches, lists of these. No condition. -/
import Derived.Test.YtheogchkelmeeaaDoorM6MsgFirst
import Derived.Test.YtheogchkelmeeaaDoorM22MsgFirst
import Derived.Test.YtheogchkelmeeaaDoorM50MsgFirst
import Derived.Test.YtheogchkelmeeaaDoorM20MsgFirst
import Derived.Test.YtheogchkelmeeaaDoorM3MsgFirst
import Derived.ProofKit
import Derived.Deep.Slices
import Derived.OpenShut
namespace Go.Proofs.YtheogchkelmeeaaDoor
open Go.RowKit Go.ChangeShapes Go.WideShapes Go.Deep

instance : Inhabited St := ⟨⟨0, 0, 0⟩⟩
instance : Inhabited Ev := ⟨⟨ByteArray.empty, 0, ByteArray.empty, default, 0⟩⟩
instance : Inhabited PutM := ⟨⟨ByteArray.empty, 0, none, 0, []⟩⟩
def St.ok (s : St) : Prop := I64 s.wall ∧ I64 s.logic ∧ I64 s.node
def Ev.ok (e : Ev) : Prop := e.stream.size ≤ 9223372036854775807 ∧ I64 e.version ∧ e.data.size ≤ 9223372036854775807 ∧ e.st.ok ∧ I64 e.index

section
variable {H : Type} {enc : TypeId × Value → H} {w : World} {base : Nat} {spare : Nat → Bool} {held : Bool} {fuel : Nat} {cs : List Value} {x : DataW H × List MemPlace}

set_option maxRecDepth 100000 in
theorem rdv_int (h : DataW.trod enc Tryd.prog w base spare held fuel 3 cs = some x) : ∃ n, cs = intC n ∧ I64 n := by
  obtain ⟨n, rfl, _, hw⟩ := DataW.trod_int Tryd.underlying3 h
  exact ⟨n, rfl, i64_of_wf hw⟩
set_option maxRecDepth 100000 in
theorem rdv_str (h : DataW.trod enc Tryd.prog w base spare held fuel 9 cs = some x) : ∃ s, cs = strC s ∧ s.size ≤ 9223372036854775807 := by
  obtain ⟨s, rfl, _, hs⟩ := DataW.trod_string Tryd.underlying9 h
  exact ⟨s, rfl, by simpa [maxLen] using hs⟩
set_option maxRecDepth 100000 in
/-- Three cells. -/
theorem list3 {l : List Value} (h : l.length = 3) : ∃ a b c, l = [a, b, c] := by
  match l, h with
  | [a, b, c], _ => exact ⟨a, b, c, rfl⟩
set_option maxRecDepth 100000 in
theorem list2 {l : List Value} (h : l.length = 2) : ∃ a b, l = [a, b] := by
  match l, h with
  | [a, b], _ => exact ⟨a, b, rfl⟩
set_option maxRecDepth 100000 in
theorem list7 {l : List Value} (h : l.length = 7) : ∃ a b c d e f g, l = [a, b, c, d, e, f, g] := by
  match l, h with
  | [a, b, c, d, e, f, g], _ => exact ⟨a, b, c, d, e, f, g, rfl⟩
set_option maxRecDepth 100000 in
/-- A field that is read: of type T, at offset off, of k cells. -/
theorem rdv_field {t : TypeId} {fs : Array Field} (ht : Tryd.prog.underlying t = some (.struct fs)) (h : DataW.trod enc Tryd.prog w base spare held fuel t cs = some x) :
    cs.length = Tryd.prog.cellsOf t ∧ ∃ n, ∀ (i : Nat) (T : TypeId) (off k : Nat), (fs[i]?).map (fun f => (f.type, f.offset)) = some (T, off) → Tryd.prog.cellsOf T = k → ∃ y, DataW.trod enc Tryd.prog w base spare held n T ((cs.drop off).take k) = some y := by
  obtain ⟨xs, n, _, _, hl, hx, hf⟩ := DataW.trod_struct ht h
  refine ⟨hl, n, fun i T off k hi0 hk => ?_⟩
  obtain ⟨f, hi, e⟩ := Option.map_eq_some_iff.1 hi0
  simp only [Prod.mk.injEq] at e
  obtain ⟨rfl, rfl⟩ := e
  subst hk
  have hi' : i < fs.size := (Array.getElem?_eq_some_iff.1 hi).1
  exact ⟨xs[i]'(by omega), (hf i f hi).trans (List.getElem?_eq_getElem (by omega))⟩
set_option maxRecDepth 100000 in
theorem cells_stamp : Tryd.prog.cellsOf 28 = 3 := by kernel_rfl
set_option maxRecDepth 100000 in
theorem cells_event : Tryd.prog.cellsOf 110 = 7 := by kernel_rfl
set_option maxRecDepth 100000 in
theorem cells_int : Tryd.prog.cellsOf 3 = 1 := by kernel_rfl
set_option maxRecDepth 100000 in
theorem cells_string : Tryd.prog.cellsOf 9 = 1 := by kernel_rfl
set_option maxRecDepth 100000 in
theorem rdv_st (h : DataW.trod enc Tryd.prog w base spare held fuel 28 cs = some x) : ∃ s : St, cs = s.cells ∧ s.ok := by
  obtain ⟨hl, n, hf⟩ := rdv_field Tryd.underlying28 h
  obtain ⟨a, b, c, rfl⟩ := list3 (hl.trans cells_stamp)
  obtain ⟨y0, h0⟩ := hf 0 3 0 1 rfl cells_int
  obtain ⟨y1, h1⟩ := hf 1 3 1 1 rfl cells_int
  obtain ⟨y2, h2⟩ := hf 2 3 2 1 rfl cells_int
  obtain ⟨n0, e0, w0⟩ := rdv_int h0
  obtain ⟨n1, e1, w1⟩ := rdv_int h1
  obtain ⟨n2, e2, w2⟩ := rdv_int h2
  simp [intC] at e0 e1 e2
  subst e0 e1 e2
  exact ⟨⟨n0, n1, n2⟩, rfl, w0, w1, w2⟩
set_option maxRecDepth 100000 in
theorem rdv_ev (h : DataW.trod enc Tryd.prog w base spare held fuel 110 cs = some x) : ∃ e : Ev, cs = e.cells ∧ e.ok := by
  obtain ⟨hl, n, hf⟩ := rdv_field Tryd.underlying110 h
  obtain ⟨a, b, c, d, e, f, g, rfl⟩ := list7 (hl.trans cells_event)
  obtain ⟨y0, h0⟩ := hf 0 9 0 1 rfl cells_string
  obtain ⟨y1, h1⟩ := hf 1 3 1 1 rfl cells_int
  obtain ⟨y2, h2⟩ := hf 2 9 2 1 rfl cells_string
  obtain ⟨y3, h3⟩ := hf 3 28 3 3 rfl cells_stamp
  obtain ⟨y4, h4⟩ := hf 4 3 6 1 rfl cells_int
  obtain ⟨n0, e0, w0⟩ := rdv_str h0
  obtain ⟨n1, e1, w1⟩ := rdv_int h1
  obtain ⟨n2, e2, w2⟩ := rdv_str h2
  obtain ⟨⟨s1, s2, s3⟩, e3, w3⟩ := rdv_st h3
  obtain ⟨n4, e4, w4⟩ := rdv_int h4
  simp [intC, strC, St.cells] at e0 e1 e2 e3 e4
  obtain ⟨e3, e5, e6⟩ := e3
  subst e0 e1 e2 e3 e4 e5 e6
  exact ⟨⟨n0, n1, n2, ⟨s1, s2, s3⟩, n4⟩, rfl, w0, w1, w2, w3, w4⟩

set_option maxRecDepth 100000 in
/-- A slice is read as the list of what its elements read as. -/
theorem rdv_slice {α : Type} [Inhabited α] {f : α → List Value} {sz : Nat} {ok : α → Prop} {t e : TypeId} (ht : Tryd.prog.underlying t = some (.slice e)) (hc : Tryd.prog.cellsOf e = sz) (hsz : 0 < sz) (hf : ∀ x, (f x).length = sz)
    (hrd : ∀ (n : Nat) (cs : List Value) (y : DataW H × List MemPlace), DataW.trod enc Tryd.prog w base spare held n e cs = some y → ∃ a, cs = f a ∧ ok a)
    (h : DataW.trod enc Tryd.prog w base spare held fuel t cs = some x) :
    ∃ (A : Option Addr) (c : Nat) (xs : List α), cs = [.slice A xs.length c] ∧ Sl f sz w w.heap.size A xs ∧ (∀ a ∈ xs, ok a) ∧ xs.length ≤ c ∧ c ≤ 9223372036854775807 := by
  rcases open_slice ht h with ⟨rfl, _⟩ | ⟨a, len, cap, m, n, D, Pl, rfl, _, hl, hm, hmm, _, hi⟩
  · exact ⟨none, 0, [], rfl, Sl.nil, by simp, by simp, by simp⟩
  have hlm : len ≤ m := by rw [hmm]; split <;> omega
  rw [hc] at hi
  obtain ⟨F, hF⟩ := choose_lt (α := α) (p := fun i y => w.cells? base (a.add (i * sz)) sz = some (f y) ∧ ok y) (n := len) (fun i hil => by
    obtain ⟨cs', h1, h2⟩ := hi i (by omega)
    obtain ⟨y, rfl, hy⟩ := hrd _ _ _ h2
    exact ⟨y, h1, hy⟩)
  refine ⟨some a, cap, (List.range len).map F, by simp, fun hne => ?_, fun y hy => ?_, by simpa using hl, by simpa [maxLen] using hm⟩
  · have hpos : 0 < len := by
      rcases Nat.eq_zero_or_pos len with h0 | h0
      · subst h0; simp at hne
      · exact h0
    obtain ⟨_, _, hcell0⟩ := World.cells?_some (hF 0 hpos).1
    have h00 := hcell0 0 hsz
    rw [List.getElem?_eq_getElem (by rw [hf]; exact hsz)] at h00
    rw [Nat.zero_mul, add_add] at h00
    have hspot : a.spot = none := by
      obtain ⟨b, o, spot⟩ := a
      simpa [Addr.add] using World.cell?_spot h00
    obtain ⟨b, o, spot⟩ := a
    simp only at hspot
    subst hspot
    refine ⟨b, o, rfl, ?_, fun k y hk j u hu => ?_⟩
    · simp only [Addr.add_lit, World.cell?] at h00
      rcases Nat.lt_or_ge b w.heap.size with h1 | h1
      · exact h1
      · rw [Array.getElem?_eq_none h1] at h00; simp at h00
    · obtain ⟨hkl, rfl⟩ := List.getElem?_eq_some_iff.1 hk
      simp only [List.length_map, List.length_range] at hkl
      simp only [List.getElem_map, List.getElem_range] at hu
      have hj : j < sz := by rw [← hf (F k)]; exact (List.getElem?_eq_some_iff.1 hu).1
      obtain ⟨_, _, hcell⟩ := World.cells?_some (hF k hkl).1
      have := hcell j hj
      rw [add_add, Addr.add_lit, ← Nat.add_assoc] at this
      rw [this, hu]
  · simp only [List.mem_map, List.mem_range] at hy
    obtain ⟨i, hil, rfl⟩ := hy
    exact (hF i hil).2
set_option maxRecDepth 100000 in
theorem cells_strs : Tryd.prog.cellsOf 111 = 1 := by kernel_rfl
set_option maxRecDepth 100000 in
theorem cells_puts : Tryd.prog.cellsOf 24 = 1 := by kernel_rfl
set_option maxRecDepth 100000 in
theorem cells_put : Tryd.prog.cellsOf 124 = 3 := by kernel_rfl
set_option maxRecDepth 100000 in
theorem cells_batch : Tryd.prog.cellsOf 26 = 2 := by kernel_rfl
set_option maxRecDepth 100000 in
theorem rdv_ints (h : DataW.trod enc Tryd.prog w base spare held fuel 29 cs = some x) :
    ∃ (A : Option Addr) (c : Nat) (xs : List Int), cs = [.slice A xs.length c] ∧ Sl intC 1 w w.heap.size A xs ∧ (∀ a ∈ xs, I64 a) ∧ xs.length ≤ c ∧ c ≤ 9223372036854775807 :=
  rdv_slice Tryd.underlying29 cells_int (by omega) intC_len (fun _ _ _ h => rdv_int h) h
set_option maxRecDepth 100000 in
theorem rdv_strs (h : DataW.trod enc Tryd.prog w base spare held fuel 111 cs = some x) :
    ∃ (A : Option Addr) (c : Nat) (xs : List ByteArray), cs = [.slice A xs.length c] ∧ Sl strC 1 w w.heap.size A xs ∧ (∀ a ∈ xs, a.size ≤ 9223372036854775807) ∧ xs.length ≤ c ∧ c ≤ 9223372036854775807 :=
  rdv_slice (ok := fun s : ByteArray => s.size ≤ 9223372036854775807) Tryd.underlying111 cells_string (by omega) strC_len (fun _ _ _ h => rdv_str h) h
set_option maxRecDepth 100000 in
theorem rdv_evs (h : DataW.trod enc Tryd.prog w base spare held fuel 33 cs = some x) :
    ∃ (A : Option Addr) (c : Nat) (xs : List Ev), cs = [.slice A xs.length c] ∧ Sl Ev.cells 7 w w.heap.size A xs ∧ (∀ a ∈ xs, a.ok) ∧ xs.length ≤ c ∧ c ≤ 9223372036854775807 :=
  rdv_slice Tryd.underlying33 cells_event (by omega) Ev.cells_len (fun _ _ _ h => rdv_ev h) h
def PutM.ok (w : World) (p : PutM) : Prop := p.stream.size ≤ 9223372036854775807 ∧ I64 p.expect ∧ Sl strC 1 w w.heap.size p.A p.data ∧ (∀ a ∈ p.data, a.size ≤ 9223372036854775807) ∧ p.data.length ≤ 9223372036854775807
set_option maxRecDepth 100000 in
theorem rdv_put (h : DataW.trod enc Tryd.prog w base spare held fuel 124 cs = some x) : ∃ p : PutM, cs = p.cells ∧ p.ok w := by
  obtain ⟨hl, n, hf⟩ := rdv_field Tryd.underlying124 h
  obtain ⟨a, b, c, rfl⟩ := list3 (hl.trans cells_put)
  obtain ⟨y0, h0⟩ := hf 0 9 0 1 rfl cells_string
  obtain ⟨y1, h1⟩ := hf 1 3 1 1 rfl cells_int
  obtain ⟨y2, h2⟩ := hf 2 111 2 1 rfl cells_strs
  obtain ⟨n0, e0, w0⟩ := rdv_str h0
  obtain ⟨n1, e1, w1⟩ := rdv_int h1
  obtain ⟨A, cc, xs, e2, w2, w3, w4, w5⟩ := rdv_strs h2
  simp [intC, strC] at e0 e1 e2
  subst e0 e1 e2
  exact ⟨⟨n0, n1, A, cc, xs⟩, rfl, w0, w1, w2, w3, by show xs.length ≤ _; omega⟩
set_option maxRecDepth 100000 in
theorem rdv_puts (h : DataW.trod enc Tryd.prog w base spare held fuel 24 cs = some x) :
    ∃ (A : Option Addr) (c : Nat) (ps : List PutM), cs = [.slice A ps.length c] ∧ PutsIn w w.heap.size A ps ∧ PutsOk ps ∧ (∀ p ∈ ps, I64 p.expect) := by
  obtain ⟨A, c, ps, rfl, h1, h2, h3, h4⟩ := rdv_slice (f := PutM.cells) (ok := PutM.ok w) Tryd.underlying24 cells_put (by omega) PutM.cells_len (fun _ _ _ h => rdv_put h) h
  exact ⟨A, c, ps, rfl, ⟨h1, fun p hp => (h2 p hp).2.2.1⟩, ⟨by omega, fun p hp => ⟨(h2 p hp).1, (h2 p hp).2.2.2.2, (h2 p hp).2.2.2.1⟩⟩, fun p hp => (h2 p hp).2.1⟩
set_option maxRecDepth 100000 in
theorem rdv_batch (h : DataW.trod enc Tryd.prog w base spare held fuel 26 cs = some x) :
    ∃ (key : ByteArray) (A : Option Addr) (c : Nat) (ps : List PutM), cs = [.string key, .slice A ps.length c] ∧ key.size ≤ 9223372036854775807 ∧ PutsIn w w.heap.size A ps ∧ PutsOk ps ∧ (∀ p ∈ ps, I64 p.expect) := by
  obtain ⟨hl, n, hf⟩ := rdv_field Tryd.underlying26 h
  obtain ⟨a, b, rfl⟩ := list2 (hl.trans cells_batch)
  obtain ⟨y0, h0⟩ := hf 0 9 0 1 rfl cells_string
  obtain ⟨y1, h1⟩ := hf 1 24 1 1 rfl cells_puts
  obtain ⟨n0, e0, w0⟩ := rdv_str h0
  obtain ⟨A, c, ps, e1, w1, w2, w3⟩ := rdv_puts h1
  simp [strC] at e0 e1
  subst e0 e1
  exact ⟨n0, A, c, ps, rfl, w0, w1, w2, w3⟩
set_option maxRecDepth 100000 in
theorem cells_u8 : Tryd.prog.cellsOf 5 = 1 := by kernel_rfl
set_option maxRecDepth 100000 in
theorem cells_evs : Tryd.prog.cellsOf 33 = 1 := by kernel_rfl
set_option maxRecDepth 100000 in
theorem cells_kns : Tryd.prog.cellsOf 116 = 1 := by kernel_rfl
set_option maxRecDepth 100000 in
theorem cells_kn : Tryd.prog.cellsOf 127 = 5 := by kernel_rfl
set_option maxRecDepth 100000 in
theorem cells_sm : Tryd.prog.cellsOf 118 = 3 := by kernel_rfl
set_option maxRecDepth 100000 in
theorem list5 {l : List Value} (h : l.length = 5) : ∃ a b c d e, l = [a, b, c, d, e] := by
  match l, h with
  | [a, b, c, d, e], _ => exact ⟨a, b, c, d, e, rfl⟩
instance : Inhabited Kn := ⟨⟨ByteArray.empty, 0, default⟩⟩
set_option maxRecDepth 100000 in
theorem rdv_u8 (h : DataW.trod enc Tryd.prog w base spare held fuel 5 cs = some x) : ∃ b : UInt8, cs = byteC b ∧ True := by
  obtain ⟨n, rfl, _, hw⟩ := DataW.trod_int Tryd.underlying5 h
  have h1 := bounds_u8 hw
  refine ⟨UInt8.ofNat n.toNat, ?_, trivial⟩
  unfold byteC
  rw [nat_u8 (by omega)]
  congr 2
  omega
set_option maxRecDepth 100000 in
theorem rdv_bytes (h : DataW.trod enc Tryd.prog w base spare held fuel 50 cs = some x) :
    ∃ (A : Option Addr) (c : Nat) (xs : List UInt8), cs = [.slice A xs.length c] ∧ Sl byteC 1 w w.heap.size A xs ∧ xs.length ≤ c ∧ c ≤ 9223372036854775807 := by
  obtain ⟨A, c, xs, e, h1, _, h2, h3⟩ := rdv_slice (ok := fun _ : UInt8 => True) Tryd.underlying50 cells_u8 (by omega) byteC_len (fun _ _ _ h => rdv_u8 h) h
  exact ⟨A, c, xs, e, h1, h2, h3⟩
def Kn.ok (k : Kn) : Prop := k.key.size ≤ 9223372036854775807 ∧ I64 k.first ∧ k.st.ok
set_option maxRecDepth 100000 in
theorem rdv_kn (h : DataW.trod enc Tryd.prog w base spare held fuel 127 cs = some x) : ∃ k : Kn, cs = k.cells ∧ k.ok := by
  obtain ⟨hl, n, hf⟩ := rdv_field Tryd.underlying127 h
  obtain ⟨a, b, c, d, e, rfl⟩ := list5 (hl.trans cells_kn)
  obtain ⟨y0, h0⟩ := hf 0 9 0 1 rfl cells_string
  obtain ⟨y1, h1⟩ := hf 1 3 1 1 rfl cells_int
  obtain ⟨y2, h2⟩ := hf 2 28 2 3 rfl cells_stamp
  obtain ⟨n0, e0, w0⟩ := rdv_str h0
  obtain ⟨n1, e1, w1⟩ := rdv_int h1
  obtain ⟨⟨s1, s2, s3⟩, e2, w2⟩ := rdv_st h2
  simp [intC, strC, St.cells] at e0 e1 e2
  obtain ⟨e2, e3, e4⟩ := e2
  subst e0 e1 e2 e3 e4
  exact ⟨⟨n0, n1, ⟨s1, s2, s3⟩⟩, rfl, w0, w1, w2⟩
set_option maxRecDepth 100000 in
theorem rdv_kns (h : DataW.trod enc Tryd.prog w base spare held fuel 116 cs = some x) :
    ∃ (A : Option Addr) (c : Nat) (xs : List Kn), cs = [.slice A xs.length c] ∧ Sl Kn.cells 5 w w.heap.size A xs ∧ (∀ a ∈ xs, a.ok) ∧ xs.length ≤ c ∧ c ≤ 9223372036854775807 :=
  rdv_slice Tryd.underlying116 cells_kn (by omega) Kn.cells_len (fun _ _ _ h => rdv_kn h) h
set_option maxRecDepth 100000 in
/-- A stream that is read. -/
theorem rdv_sm (h : DataW.trod enc Tryd.prog w base spare held fuel 118 cs = some x) :
    ∃ (n : ByteArray) (A A2 : Option Addr) (c c2 : Nat) (es : List Ev) (ks : List Kn), cs = [.string n, .slice A es.length c, .slice A2 ks.length c2] ∧ n.size ≤ 9223372036854775807 ∧ Sl Ev.cells 7 w w.heap.size A es ∧ (∀ e ∈ es, e.ok) ∧ es.length ≤ c ∧ c ≤ 9223372036854775807 ∧
      Sl Kn.cells 5 w w.heap.size A2 ks ∧ (∀ k ∈ ks, k.ok) ∧ ks.length ≤ c2 ∧ c2 ≤ 9223372036854775807 := by
  obtain ⟨hl, n, hf⟩ := rdv_field Tryd.underlying118 h
  obtain ⟨a, b, c, rfl⟩ := list3 (hl.trans cells_sm)
  obtain ⟨y0, h0⟩ := hf 0 9 0 1 rfl cells_string
  obtain ⟨y1, h1⟩ := hf 1 33 1 1 rfl cells_evs
  obtain ⟨y2, h2⟩ := hf 2 116 2 1 rfl cells_kns
  obtain ⟨n0, e0, w0⟩ := rdv_str h0
  obtain ⟨A, cc, es, e1, w1⟩ := rdv_evs h1
  obtain ⟨A2, c2, ks, e2, w2⟩ := rdv_kns h2
  simp [strC] at e0 e1 e2
  subst e0 e1 e2
  exact ⟨n0, A, A2, cc, c2, es, ks, rfl, w0, w1.1, w1.2.1, w1.2.2.1, w1.2.2.2, w2.1, w2.2.1, w2.2.2.1, w2.2.2.2⟩
end

/-! The values of the parameters themselves. -/
section
variable {H : Type} {enc : TypeId × Value → H} {w : World} {base b0 : Nat} {spare : Nat → Bool} {held : Bool} {r : Reach} {v : Value} {d : DataW H} {p : List MemPlace}
set_option maxRecDepth 100000 in
theorem in_ints (hv : Value.okWide Tryd.prog w r b0 29 v) (h : DataW.Trod enc Tryd.prog w base spare held 29 v d p) :
    ∃ (A : Option Addr) (c : Nat) (xs : List Int), v = .slice A xs.length c ∧ Sl intC 1 w w.heap.size A xs ∧ (∀ a ∈ xs, I64 a) ∧ xs.length ≤ c ∧ c ≤ 9223372036854775807 := by
  obtain ⟨A, n, c, rfl⟩ := okWide_slice Tryd.underlying29 hv
  obtain ⟨fuel, hf⟩ := h
  obtain ⟨A', c', xs, e, hr⟩ := rdv_ints hf
  simp [Value.cells] at e
  obtain ⟨rfl, rfl, rfl⟩ := e
  exact ⟨_, _, xs, rfl, hr⟩
set_option maxRecDepth 100000 in
theorem in_st (hv : Value.okWide Tryd.prog w r b0 28 v) (h : DataW.Trod enc Tryd.prog w base spare held 28 v d p) : ∃ s : St, v = .agg #[.int .i64 s.wall, .int .i64 s.logic, .int .i64 s.node] ∧ s.ok := by
  obtain ⟨cs, rfl, hsz⟩ := okWide_struct Tryd.underlying28 hv
  obtain ⟨fuel, hf⟩ := h
  obtain ⟨s, e, hs⟩ := rdv_st hf
  obtain ⟨l⟩ := cs
  simp [Value.cells] at e
  subst e
  exact ⟨s, rfl, hs⟩
set_option maxRecDepth 100000 in
theorem in_batch (hv : Value.okWide Tryd.prog w r b0 26 v) (h : DataW.Trod enc Tryd.prog w base spare held 26 v d p) :
    ∃ (key : ByteArray) (A : Option Addr) (c : Nat) (ps : List PutM), v = .agg #[.string key, .slice A ps.length c] ∧ key.size ≤ 9223372036854775807 ∧ PutsIn w w.heap.size A ps ∧ PutsOk ps ∧ (∀ p ∈ ps, I64 p.expect) := by
  obtain ⟨cs, rfl, hsz⟩ := okWide_struct Tryd.underlying26 hv
  obtain ⟨fuel, hf⟩ := h
  obtain ⟨key, A, c, ps, e, hs⟩ := rdv_batch hf
  obtain ⟨l⟩ := cs
  simp [Value.cells] at e
  subst e
  exact ⟨key, A, c, ps, rfl, hs⟩
set_option maxRecDepth 100000 in
theorem in_bytes (hv : Value.okWide Tryd.prog w r b0 50 v) (h : DataW.Trod enc Tryd.prog w base spare held 50 v d p) :
    ∃ (A : Option Addr) (c : Nat) (xs : List UInt8), v = .slice A xs.length c ∧ Sl byteC 1 w w.heap.size A xs ∧ xs.length ≤ c ∧ c ≤ 9223372036854775807 := by
  obtain ⟨A, n, c, rfl⟩ := okWide_slice Tryd.underlying50 hv
  obtain ⟨fuel, hf⟩ := h
  obtain ⟨A', c', xs, e, hr⟩ := rdv_bytes hf
  simp [Value.cells] at e
  obtain ⟨rfl, rfl, rfl⟩ := e
  exact ⟨_, _, xs, rfl, hr⟩
set_option maxRecDepth 100000 in
theorem in_ev (hv : Value.okWide Tryd.prog w r b0 110 v) (h : DataW.Trod enc Tryd.prog w base spare held 110 v d p) : ∃ x : Ev, v = .agg x.cells.toArray ∧ x.ok := by
  obtain ⟨cs, rfl, hsz⟩ := okWide_struct Tryd.underlying110 hv
  obtain ⟨fuel, hf⟩ := h
  obtain ⟨x, e, hx⟩ := rdv_ev hf
  obtain ⟨l⟩ := cs
  simp [Value.cells] at e
  subst e
  exact ⟨x, rfl, hx⟩
set_option maxRecDepth 100000 in
theorem in_sm (hv : Value.okWide Tryd.prog w r b0 118 v) (h : DataW.Trod enc Tryd.prog w base spare held 118 v d p) :
    ∃ (n : ByteArray) (A A2 : Option Addr) (c c2 : Nat) (es : List Ev) (ks : List Kn), v = .agg #[.string n, .slice A es.length c, .slice A2 ks.length c2] ∧ n.size ≤ 9223372036854775807 ∧ Sl Ev.cells 7 w w.heap.size A es ∧ (∀ e ∈ es, e.ok) ∧ es.length ≤ c ∧ c ≤ 9223372036854775807 ∧
      Sl Kn.cells 5 w w.heap.size A2 ks ∧ (∀ k ∈ ks, k.ok) ∧ ks.length ≤ c2 ∧ c2 ≤ 9223372036854775807 := by
  obtain ⟨cs, rfl, hsz⟩ := okWide_struct Tryd.underlying118 hv
  obtain ⟨fuel, hf⟩ := h
  obtain ⟨n, A, A2, c, c2, es, ks, e, hr⟩ := rdv_sm hf
  obtain ⟨l⟩ := cs
  simp [Value.cells] at e
  subst e
  exact ⟨n, A, A2, c, c2, es, ks, rfl, hr⟩
end
end Go.Proofs.YtheogchkelmeeaaDoor

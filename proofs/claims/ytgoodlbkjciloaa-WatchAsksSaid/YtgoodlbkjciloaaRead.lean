/- How the arguments of the laws read: texts, numbers, stamps, events, puts, batches, lists of these. No condition. -/
import Derived.Test.YtgoodlbkjciloaaEv
import Derived.Test.YtgoodlbkjciloaaBatch
import Derived.ProofKit
import Derived.Deep.Slices
import Derived.OpenShut
namespace Go.Proofs.Ytgoodlbkjciloaa
open Go.RowKit Go.ChangeShapes Go.WideShapes Go.Deep

instance : Inhabited St := ⟨⟨0, 0, 0⟩⟩
instance : Inhabited Ev := ⟨⟨ByteArray.empty, 0, ByteArray.empty, default, 0⟩⟩
instance : Inhabited PutM := ⟨⟨ByteArray.empty, 0, none, 0, []⟩⟩
/-- An int of 64 bits. -/
def I64 (n : Int) : Prop := -9223372036854775808 ≤ n ∧ n ≤ 9223372036854775807
def St.ok (s : St) : Prop := I64 s.wall ∧ I64 s.logic ∧ I64 s.node
def Ev.ok (e : Ev) : Prop := e.stream.size ≤ 9223372036854775807 ∧ I64 e.version ∧ e.data.size ≤ 9223372036854775807 ∧ e.st.ok ∧ I64 e.index

section
variable {H : Type} {enc : TypeId × Value → H} {w : World} {base : Nat} {spare : Nat → Bool} {held : Bool} {fuel : Nat} {cs : List Value} {x : DataW H × List MemPlace}

theorem i64_of_wf {n : Int} (h : (Lit.int .i64 n).wf = true) : I64 n := by
  have := bounds_i64 h
  exact ⟨by omega, by omega⟩
theorem rd_int (h : DataW.trod enc Try.prog w base spare held fuel 3 cs = some x) : ∃ n, cs = intC n ∧ I64 n := by
  obtain ⟨n, rfl, _, hw⟩ := DataW.trod_int Try.underlying3 h
  exact ⟨n, rfl, i64_of_wf hw⟩
theorem rd_str (h : DataW.trod enc Try.prog w base spare held fuel 9 cs = some x) : ∃ s, cs = strC s ∧ s.size ≤ 9223372036854775807 := by
  obtain ⟨s, rfl, _, hs⟩ := DataW.trod_string Try.underlying9 h
  exact ⟨s, rfl, by simpa [maxLen] using hs⟩
/-- Three cells. -/
theorem list3 {l : List Value} (h : l.length = 3) : ∃ a b c, l = [a, b, c] := by
  match l, h with
  | [a, b, c], _ => exact ⟨a, b, c, rfl⟩
theorem list2 {l : List Value} (h : l.length = 2) : ∃ a b, l = [a, b] := by
  match l, h with
  | [a, b], _ => exact ⟨a, b, rfl⟩
theorem list7 {l : List Value} (h : l.length = 7) : ∃ a b c d e f g, l = [a, b, c, d, e, f, g] := by
  match l, h with
  | [a, b, c, d, e, f, g], _ => exact ⟨a, b, c, d, e, f, g, rfl⟩
/-- A field that is read: of type T, at offset off, of k cells. -/
theorem rd_field {t : TypeId} {fs : Array Field} (ht : Try.prog.underlying t = some (.struct fs)) (h : DataW.trod enc Try.prog w base spare held fuel t cs = some x) :
    cs.length = Try.prog.cellsOf t ∧ ∃ n, ∀ (i : Nat) (T : TypeId) (off k : Nat), (fs[i]?).map (fun f => (f.type, f.offset)) = some (T, off) → Try.prog.cellsOf T = k → ∃ y, DataW.trod enc Try.prog w base spare held n T ((cs.drop off).take k) = some y := by
  obtain ⟨xs, n, _, _, hl, hx, hf⟩ := DataW.trod_struct ht h
  refine ⟨hl, n, fun i T off k hi0 hk => ?_⟩
  obtain ⟨f, hi, e⟩ := Option.map_eq_some_iff.1 hi0
  simp only [Prod.mk.injEq] at e
  obtain ⟨rfl, rfl⟩ := e
  subst hk
  have hi' : i < fs.size := (Array.getElem?_eq_some_iff.1 hi).1
  exact ⟨xs[i]'(by omega), (hf i f hi).trans (List.getElem?_eq_getElem (by omega))⟩
theorem cells_stamp : Try.prog.cellsOf 32 = 3 := by kernel_rfl
theorem cells_event : Try.prog.cellsOf 35 = 7 := by kernel_rfl
theorem cells_int : Try.prog.cellsOf 3 = 1 := by kernel_rfl
theorem cells_string : Try.prog.cellsOf 9 = 1 := by kernel_rfl
theorem rd_st (h : DataW.trod enc Try.prog w base spare held fuel 32 cs = some x) : ∃ s : St, cs = s.cells ∧ s.ok := by
  obtain ⟨hl, n, hf⟩ := rd_field Try.underlying32 h
  obtain ⟨a, b, c, rfl⟩ := list3 (hl.trans cells_stamp)
  obtain ⟨y0, h0⟩ := hf 0 3 0 1 rfl cells_int
  obtain ⟨y1, h1⟩ := hf 1 3 1 1 rfl cells_int
  obtain ⟨y2, h2⟩ := hf 2 3 2 1 rfl cells_int
  obtain ⟨n0, e0, w0⟩ := rd_int h0
  obtain ⟨n1, e1, w1⟩ := rd_int h1
  obtain ⟨n2, e2, w2⟩ := rd_int h2
  simp [intC] at e0 e1 e2
  subst e0 e1 e2
  exact ⟨⟨n0, n1, n2⟩, rfl, w0, w1, w2⟩
theorem rd_ev (h : DataW.trod enc Try.prog w base spare held fuel 35 cs = some x) : ∃ e : Ev, cs = e.cells ∧ e.ok := by
  obtain ⟨hl, n, hf⟩ := rd_field Try.underlying35 h
  obtain ⟨a, b, c, d, e, f, g, rfl⟩ := list7 (hl.trans cells_event)
  obtain ⟨y0, h0⟩ := hf 0 9 0 1 rfl cells_string
  obtain ⟨y1, h1⟩ := hf 1 3 1 1 rfl cells_int
  obtain ⟨y2, h2⟩ := hf 2 9 2 1 rfl cells_string
  obtain ⟨y3, h3⟩ := hf 3 32 3 3 rfl cells_stamp
  obtain ⟨y4, h4⟩ := hf 4 3 6 1 rfl cells_int
  obtain ⟨n0, e0, w0⟩ := rd_str h0
  obtain ⟨n1, e1, w1⟩ := rd_int h1
  obtain ⟨n2, e2, w2⟩ := rd_str h2
  obtain ⟨⟨s1, s2, s3⟩, e3, w3⟩ := rd_st h3
  obtain ⟨n4, e4, w4⟩ := rd_int h4
  simp [intC, strC, St.cells] at e0 e1 e2 e3 e4
  obtain ⟨e3, e5, e6⟩ := e3
  subst e0 e1 e2 e3 e4 e5 e6
  exact ⟨⟨n0, n1, n2, ⟨s1, s2, s3⟩, n4⟩, rfl, w0, w1, w2, w3, w4⟩

/-- A slice is read as the list of what its elements read as. -/
theorem rd_slice {α : Type} [Inhabited α] {f : α → List Value} {sz : Nat} {ok : α → Prop} {t e : TypeId} (ht : Try.prog.underlying t = some (.slice e)) (hc : Try.prog.cellsOf e = sz) (hsz : 0 < sz) (hf : ∀ x, (f x).length = sz)
    (hrd : ∀ (n : Nat) (cs : List Value) (y : DataW H × List MemPlace), DataW.trod enc Try.prog w base spare held n e cs = some y → ∃ a, cs = f a ∧ ok a)
    (h : DataW.trod enc Try.prog w base spare held fuel t cs = some x) :
    ∃ (A : Option Addr) (c : Nat) (xs : List α), cs = [.slice A xs.length c] ∧ Sl f sz w w.heap.size A xs ∧ (∀ a ∈ xs, ok a) ∧ xs.length ≤ c ∧ c ≤ 9223372036854775807 := by
  rcases open_slice ht h with ⟨rfl, _⟩ | ⟨a, len, cap, m, n, D, Pl, rfl, _, hl, hm, hmm, _, hi⟩
  · exact ⟨none, 0, [], rfl, Sl.nil, by simp, by simp, by simp⟩
  have hlm : len ≤ m := by rw [hmm]; split <;> omega
  rw [hc] at hi
  obtain ⟨F, hF⟩ := choose_lt (α := α) (p := fun i y => w.cells? base (a.add (i * sz)) sz = some (f y) ∧ ok y) (n := len) (fun i hil => by
    obtain ⟨cs', h1, h2⟩ := hi i (by omega)
    obtain ⟨y, rfl, hy⟩ := hrd _ _ _ h2
    exact ⟨y, h1, hy⟩)
  refine ⟨some a, cap, (List.range len).map F, by simp, fun hne => ?_, fun y hy => ?_, by simpa using hl, by simpa [maxLen] using hm⟩
  · have hpos : 0 < len := by
      rcases Nat.eq_zero_or_pos len with h0 | h0
      · subst h0; simp at hne
      · exact h0
    obtain ⟨_, _, hcell0⟩ := World.cells?_some (hF 0 hpos).1
    have h00 := hcell0 0 hsz
    rw [List.getElem?_eq_getElem (by rw [hf]; exact hsz)] at h00
    rw [Nat.zero_mul, add_add] at h00
    have hspot : a.spot = none := by
      obtain ⟨b, o, spot⟩ := a
      simpa [Addr.add] using World.cell?_spot h00
    obtain ⟨b, o, spot⟩ := a
    simp only at hspot
    subst hspot
    refine ⟨b, o, rfl, ?_, fun k y hk j u hu => ?_⟩
    · simp only [Addr.add_lit, World.cell?] at h00
      rcases Nat.lt_or_ge b w.heap.size with h1 | h1
      · exact h1
      · rw [Array.getElem?_eq_none h1] at h00; simp at h00
    · obtain ⟨hkl, rfl⟩ := List.getElem?_eq_some_iff.1 hk
      simp only [List.length_map, List.length_range] at hkl
      simp only [List.getElem_map, List.getElem_range] at hu
      have hj : j < sz := by rw [← hf (F k)]; exact (List.getElem?_eq_some_iff.1 hu).1
      obtain ⟨_, _, hcell⟩ := World.cells?_some (hF k hkl).1
      have := hcell j hj
      rw [add_add, Addr.add_lit, ← Nat.add_assoc] at this
      rw [this, hu]
  · simp only [List.mem_map, List.mem_range] at hy
    obtain ⟨i, hil, rfl⟩ := hy
    exact (hF i hil).2
theorem cells_strs : Try.prog.cellsOf 28 = 1 := by kernel_rfl
theorem cells_puts : Try.prog.cellsOf 22 = 1 := by kernel_rfl
theorem cells_put : Try.prog.cellsOf 30 = 3 := by kernel_rfl
theorem cells_batch : Try.prog.cellsOf 24 = 2 := by kernel_rfl
theorem rd_ints (h : DataW.trod enc Try.prog w base spare held fuel 25 cs = some x) :
    ∃ (A : Option Addr) (c : Nat) (xs : List Int), cs = [.slice A xs.length c] ∧ Sl intC 1 w w.heap.size A xs ∧ (∀ a ∈ xs, I64 a) ∧ xs.length ≤ c ∧ c ≤ 9223372036854775807 :=
  rd_slice Try.underlying25 cells_int (by omega) intC_len (fun _ _ _ h => rd_int h) h
theorem rd_strs (h : DataW.trod enc Try.prog w base spare held fuel 28 cs = some x) :
    ∃ (A : Option Addr) (c : Nat) (xs : List ByteArray), cs = [.slice A xs.length c] ∧ Sl strC 1 w w.heap.size A xs ∧ (∀ a ∈ xs, a.size ≤ 9223372036854775807) ∧ xs.length ≤ c ∧ c ≤ 9223372036854775807 :=
  rd_slice (ok := fun s : ByteArray => s.size ≤ 9223372036854775807) Try.underlying28 cells_string (by omega) strC_len (fun _ _ _ h => rd_str h) h
theorem rd_evs (h : DataW.trod enc Try.prog w base spare held fuel 33 cs = some x) :
    ∃ (A : Option Addr) (c : Nat) (xs : List Ev), cs = [.slice A xs.length c] ∧ Sl Ev.cells 7 w w.heap.size A xs ∧ (∀ a ∈ xs, a.ok) ∧ xs.length ≤ c ∧ c ≤ 9223372036854775807 :=
  rd_slice Try.underlying33 cells_event (by omega) Ev.cells_len (fun _ _ _ h => rd_ev h) h
def PutM.ok (w : World) (p : PutM) : Prop := p.stream.size ≤ 9223372036854775807 ∧ I64 p.expect ∧ Sl strC 1 w w.heap.size p.A p.data ∧ (∀ a ∈ p.data, a.size ≤ 9223372036854775807) ∧ p.data.length ≤ 9223372036854775807
theorem rd_put (h : DataW.trod enc Try.prog w base spare held fuel 30 cs = some x) : ∃ p : PutM, cs = p.cells ∧ p.ok w := by
  obtain ⟨hl, n, hf⟩ := rd_field Try.underlying30 h
  obtain ⟨a, b, c, rfl⟩ := list3 (hl.trans cells_put)
  obtain ⟨y0, h0⟩ := hf 0 9 0 1 rfl cells_string
  obtain ⟨y1, h1⟩ := hf 1 3 1 1 rfl cells_int
  obtain ⟨y2, h2⟩ := hf 2 28 2 1 rfl cells_strs
  obtain ⟨n0, e0, w0⟩ := rd_str h0
  obtain ⟨n1, e1, w1⟩ := rd_int h1
  obtain ⟨A, cc, xs, e2, w2, w3, w4, w5⟩ := rd_strs h2
  simp [intC, strC] at e0 e1 e2
  subst e0 e1 e2
  exact ⟨⟨n0, n1, A, cc, xs⟩, rfl, w0, w1, w2, w3, by show xs.length ≤ _; omega⟩
theorem rd_puts (h : DataW.trod enc Try.prog w base spare held fuel 22 cs = some x) :
    ∃ (A : Option Addr) (c : Nat) (ps : List PutM), cs = [.slice A ps.length c] ∧ PutsIn w w.heap.size A ps ∧ PutsOk ps ∧ (∀ p ∈ ps, I64 p.expect) := by
  obtain ⟨A, c, ps, rfl, h1, h2, h3, h4⟩ := rd_slice (f := PutM.cells) (ok := PutM.ok w) Try.underlying22 cells_put (by omega) PutM.cells_len (fun _ _ _ h => rd_put h) h
  exact ⟨A, c, ps, rfl, ⟨h1, fun p hp => (h2 p hp).2.2.1⟩, ⟨by omega, fun p hp => ⟨(h2 p hp).1, (h2 p hp).2.2.2.2, (h2 p hp).2.2.2.1⟩⟩, fun p hp => (h2 p hp).2.1⟩
theorem rd_batch (h : DataW.trod enc Try.prog w base spare held fuel 24 cs = some x) :
    ∃ (key : ByteArray) (A : Option Addr) (c : Nat) (ps : List PutM), cs = [.string key, .slice A ps.length c] ∧ key.size ≤ 9223372036854775807 ∧ PutsIn w w.heap.size A ps ∧ PutsOk ps ∧ (∀ p ∈ ps, I64 p.expect) := by
  obtain ⟨hl, n, hf⟩ := rd_field Try.underlying24 h
  obtain ⟨a, b, rfl⟩ := list2 (hl.trans cells_batch)
  obtain ⟨y0, h0⟩ := hf 0 9 0 1 rfl cells_string
  obtain ⟨y1, h1⟩ := hf 1 22 1 1 rfl cells_puts
  obtain ⟨n0, e0, w0⟩ := rd_str h0
  obtain ⟨A, c, ps, e1, w1, w2, w3⟩ := rd_puts h1
  simp [strC] at e0 e1
  subst e0 e1
  exact ⟨n0, A, c, ps, rfl, w0, w1, w2, w3⟩
end

/-! The values of the parameters themselves. -/
section
variable {H : Type} {enc : TypeId × Value → H} {w : World} {base b0 : Nat} {spare : Nat → Bool} {held : Bool} {r : Reach} {v : Value} {d : DataW H} {p : List MemPlace}
theorem in_int (_hv : Value.okWide Try.prog w r b0 3 v) (h : DataW.Trod enc Try.prog w base spare held 3 v d p) : ∃ n, v = .int .i64 n ∧ I64 n := by
  obtain ⟨n, rfl⟩ := okWide_int Try.underlying3 _hv
  obtain ⟨fuel, hf⟩ := h
  obtain ⟨n', e, hn⟩ := rd_int hf
  simp [Value.cells, intC] at e
  subst e
  exact ⟨n, rfl, hn⟩
theorem in_ints (hv : Value.okWide Try.prog w r b0 25 v) (h : DataW.Trod enc Try.prog w base spare held 25 v d p) :
    ∃ (A : Option Addr) (c : Nat) (xs : List Int), v = .slice A xs.length c ∧ Sl intC 1 w w.heap.size A xs ∧ (∀ a ∈ xs, I64 a) ∧ xs.length ≤ c ∧ c ≤ 9223372036854775807 := by
  obtain ⟨A, n, c, rfl⟩ := okWide_slice Try.underlying25 hv
  obtain ⟨fuel, hf⟩ := h
  obtain ⟨A', c', xs, e, hr⟩ := rd_ints hf
  simp [Value.cells] at e
  obtain ⟨rfl, rfl, rfl⟩ := e
  exact ⟨_, _, xs, rfl, hr⟩
theorem in_st (hv : Value.okWide Try.prog w r b0 32 v) (h : DataW.Trod enc Try.prog w base spare held 32 v d p) : ∃ s : St, v = .agg #[.int .i64 s.wall, .int .i64 s.logic, .int .i64 s.node] ∧ s.ok := by
  obtain ⟨cs, rfl, hsz⟩ := okWide_struct Try.underlying32 hv
  obtain ⟨fuel, hf⟩ := h
  obtain ⟨s, e, hs⟩ := rd_st hf
  obtain ⟨l⟩ := cs
  simp [Value.cells] at e
  subst e
  exact ⟨s, rfl, hs⟩
theorem in_batch (hv : Value.okWide Try.prog w r b0 24 v) (h : DataW.Trod enc Try.prog w base spare held 24 v d p) :
    ∃ (key : ByteArray) (A : Option Addr) (c : Nat) (ps : List PutM), v = .agg #[.string key, .slice A ps.length c] ∧ key.size ≤ 9223372036854775807 ∧ PutsIn w w.heap.size A ps ∧ PutsOk ps ∧ (∀ p ∈ ps, I64 p.expect) := by
  obtain ⟨cs, rfl, hsz⟩ := okWide_struct Try.underlying24 hv
  obtain ⟨fuel, hf⟩ := h
  obtain ⟨key, A, c, ps, e, hs⟩ := rd_batch hf
  obtain ⟨l⟩ := cs
  simp [Value.cells] at e
  subst e
  exact ⟨key, A, c, ps, rfl, hs⟩
end
end Go.Proofs.Ytgoodlbkjciloaa

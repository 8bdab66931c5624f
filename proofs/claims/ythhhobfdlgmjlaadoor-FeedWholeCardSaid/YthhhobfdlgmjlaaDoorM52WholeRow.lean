/- Several texts in one: ReadStr, ReadFeed. -/
import Derived.Test.YthhhobfdlgmjlaaDoorM11WholeRow
import Derived.Test.YthhhobfdlgmjlaaDoorRows
import Derived.ProofKit
import Derived.OpenShut
import Derived.PinnedBridge
import Derived.Lib.LaidU8T
import Derived.Lay
import Derived.SevenTiedAt
import Derived.LaidMore
import Derived.Test.YthhhobfdlgmjlaaDoorM28WholeRow
import Derived.Deep.Slices
/- How texts, numbers and bools read as the laws' arguments; what the listed tables give. No condition. -/
namespace Go.Proofs.YthhhobfdlgmjlaaDoor
open Go.RowKit Go.ChangeShapes Go.WideShapes Go.Lib

/-- An int of 64 bits. -/
def I64 (n : Int) : Prop := -9223372036854775808 ≤ n ∧ n ≤ 9223372036854775807
section
variable {H : Type} {enc : TypeId × Value → H} {w : World} {base b0 : Nat} {spare : Nat → Bool} {held : Bool} {fuel : Nat} {cs : List Value} {x : DataW H × List MemPlace} {r : Reach} {v : Value} {d : DataW H} {p : List MemPlace}
theorem i64_of_wf {n : Int} (h : (Lit.int .i64 n).wf = true) : I64 n := by
  have := bounds_i64 h
  exact ⟨by omega, by omega⟩
set_option maxRecDepth 100000 in
theorem in_int (hv : Value.okWide Tryd.prog w r b0 3 v) (h : DataW.Trod enc Tryd.prog w base spare held 3 v d p) : ∃ n, v = .int .i64 n ∧ I64 n := by
  obtain ⟨n, rfl⟩ := okWide_int Tryd.underlying3 hv
  obtain ⟨fuel, hf⟩ := h
  obtain ⟨n', e, _, hn⟩ := DataW.trod_int Tryd.underlying3 hf
  simp [Value.cells] at e
  subst e
  exact ⟨n, rfl, i64_of_wf hn⟩
set_option maxRecDepth 100000 in
theorem in_str (hv : Value.okWide Tryd.prog w r b0 9 v) (h : DataW.Trod enc Tryd.prog w base spare held 9 v d p) : ∃ s, v = .string s ∧ s.size ≤ 9223372036854775807 := by
  obtain ⟨s, rfl⟩ := okWide_string Tryd.underlying9 hv
  obtain ⟨fuel, hf⟩ := h
  obtain ⟨s', e, _, hn⟩ := DataW.trod_string Tryd.underlying9 hf
  simp [Value.cells] at e
  subst e
  exact ⟨s, rfl, by simpa [maxLen] using hn⟩
set_option maxRecDepth 100000 in
theorem in_bool (hv : Value.okWide Tryd.prog w r b0 4 v) (_h : DataW.Trod enc Tryd.prog w base spare held 4 v d p) : ∃ b, v = .bool b ∧ b = b := by
  obtain ⟨b, rfl⟩ := okWide_bool Tryd.underlying4 hv
  exact ⟨b, rfl, rfl⟩
end
theorem u8Extra : U8Extra Tryd.prog Tryd.lays196_ren := ⟨by kernel_rfl, by kernel_rfl, by kernel_rfl, by kernel_rfl, by kernel_rfl, by kernel_rfl, by kernel_rfl⟩
theorem accept_eq : (Rows.laid_unicode_utf8_acceptRanges : DataW Unit) = acceptData := by kernel_rfl
/-- Where the two tables are listed they lie so. -/
theorem tabs_of_laid {w : World} (h : laidMet Tryd.prog [("unicode/utf8.acceptRanges", Rows.laid_unicode_utf8_acceptRanges), ("unicode/utf8.first", Rows.laid_unicode_utf8_first)] w) : Tabs w :=
  utf8Tabs_of_readsT (U8Types.of196 Tryd.lays196) u8Extra (Pinned.utf8First_eq ▸ Lib.laidMet.reads h (.tail _ (.head _))) (accept_eq ▸ Lib.laidMet.reads h (.head _))
end Go.Proofs.YthhhobfdlgmjlaaDoor
/- How lists of events, of logs, of stamps read as the laws' arguments, in a door seat. No condition. -/
namespace Go.Proofs.YthhhobfdlgmjlaaDoor
open Go.RowKit Go.ChangeShapes Go.WideShapes Go.Deep
set_option maxRecDepth 100000

instance : Inhabited LogM := ⟨⟨none, 0, []⟩⟩
instance : Inhabited St := ⟨⟨0, 0, 0⟩⟩
instance : Inhabited Ev := ⟨⟨ByteArray.empty, 0, ByteArray.empty, ⟨0, 0, 0⟩, 0⟩⟩

def St.ok (s : St) : Prop := I64 s.wall ∧ I64 s.logic ∧ I64 s.node
def Ev.ok (e : Ev) : Prop := e.stream.size ≤ 9223372036854775807 ∧ I64 e.version ∧ e.data.size ≤ 9223372036854775807 ∧ e.st.ok ∧ I64 e.index
section
variable {H : Type} {enc : TypeId × Value → H} {w : World} {base b0 : Nat} {spare : Nat → Bool} {held : Bool} {fuel : Nat} {cs : List Value} {x : DataW H × List MemPlace} {r : Reach} {v : Value} {d : DataW H} {p : List MemPlace}
theorem rd_int (h : DataW.trod enc Tryd.prog w base spare held fuel 3 cs = some x) : ∃ n, cs = intC n ∧ I64 n := by
  obtain ⟨n, rfl, _, hw⟩ := DataW.trod_int Tryd.underlying3 h
  exact ⟨n, rfl, i64_of_wf hw⟩
theorem rd_str (h : DataW.trod enc Tryd.prog w base spare held fuel 9 cs = some x) : ∃ s, cs = strC s ∧ s.size ≤ 9223372036854775807 := by
  obtain ⟨s, rfl, _, hs⟩ := DataW.trod_string Tryd.underlying9 h
  exact ⟨s, rfl, by simpa [maxLen] using hs⟩
theorem list3 {l : List Value} (h : l.length = 3) : ∃ a b c, l = [a, b, c] := by
  match l, h with
  | [a, b, c], _ => exact ⟨a, b, c, rfl⟩
theorem list7 {l : List Value} (h : l.length = 7) : ∃ a b c d e f g, l = [a, b, c, d, e, f, g] := by
  match l, h with
  | [a, b, c, d, e, f, g], _ => exact ⟨a, b, c, d, e, f, g, rfl⟩
theorem rd_field {t : TypeId} {fs : Array Field} (ht : Tryd.prog.underlying t = some (.struct fs)) (h : DataW.trod enc Tryd.prog w base spare held fuel t cs = some x) :
    cs.length = Tryd.prog.cellsOf t ∧ ∃ n, ∀ (i : Nat) (T : TypeId) (off k : Nat), (fs[i]?).map (fun f => (f.type, f.offset)) = some (T, off) → Tryd.prog.cellsOf T = k → ∃ y, DataW.trod enc Tryd.prog w base spare held n T ((cs.drop off).take k) = some y := by
  obtain ⟨xs, n, _, _, hl, hx, hf⟩ := DataW.trod_struct ht h
  refine ⟨hl, n, fun i T off k hi0 hk => ?_⟩
  obtain ⟨f, hi, e⟩ := Option.map_eq_some_iff.1 hi0
  simp only [Prod.mk.injEq] at e
  obtain ⟨rfl, rfl⟩ := e
  subst hk
  have hi' : i < fs.size := (Array.getElem?_eq_some_iff.1 hi).1
  exact ⟨xs[i]'(by omega), (hf i f hi).trans (List.getElem?_eq_getElem (by omega))⟩
theorem cells_stamp : Tryd.prog.cellsOf 26 = 3 := by kernel_rfl
theorem cells_event : Tryd.prog.cellsOf 32 = 7 := by kernel_rfl
theorem cells_int : Tryd.prog.cellsOf 3 = 1 := by kernel_rfl
theorem cells_string : Tryd.prog.cellsOf 9 = 1 := by kernel_rfl
theorem rd_st (h : DataW.trod enc Tryd.prog w base spare held fuel 26 cs = some x) : ∃ s : St, cs = s.cells ∧ s.ok := by
  obtain ⟨hl, n, hf⟩ := rd_field Tryd.underlying26 h
  obtain ⟨a, b, c, rfl⟩ := list3 (hl.trans cells_stamp)
  obtain ⟨y0, h0⟩ := hf 0 3 0 1 rfl cells_int
  obtain ⟨y1, h1⟩ := hf 1 3 1 1 rfl cells_int
  obtain ⟨y2, h2⟩ := hf 2 3 2 1 rfl cells_int
  obtain ⟨n0, e0, w0⟩ := rd_int h0
  obtain ⟨n1, e1, w1⟩ := rd_int h1
  obtain ⟨n2, e2, w2⟩ := rd_int h2
  simp [intC] at e0 e1 e2
  subst e0 e1 e2
  exact ⟨⟨n0, n1, n2⟩, rfl, w0, w1, w2⟩
theorem rd_ev (h : DataW.trod enc Tryd.prog w base spare held fuel 32 cs = some x) : ∃ e : Ev, cs = e.cells ∧ e.ok := by
  obtain ⟨hl, n, hf⟩ := rd_field Tryd.underlying32 h
  obtain ⟨a, b, c, d, e, f, g, rfl⟩ := list7 (hl.trans cells_event)
  obtain ⟨y0, h0⟩ := hf 0 9 0 1 rfl cells_string
  obtain ⟨y1, h1⟩ := hf 1 3 1 1 rfl cells_int
  obtain ⟨y2, h2⟩ := hf 2 9 2 1 rfl cells_string
  obtain ⟨y3, h3⟩ := hf 3 26 3 3 rfl cells_stamp
  obtain ⟨y4, h4⟩ := hf 4 3 6 1 rfl cells_int
  obtain ⟨n0, e0, w0⟩ := rd_str h0
  obtain ⟨n1, e1, w1⟩ := rd_int h1
  obtain ⟨n2, e2, w2⟩ := rd_str h2
  obtain ⟨⟨s1, s2, s3⟩, e3, w3⟩ := rd_st h3
  obtain ⟨n4, e4, w4⟩ := rd_int h4
  simp [intC, strC, St.cells] at e0 e1 e2 e3 e4
  obtain ⟨e3, e5, e6⟩ := e3
  subst e0 e1 e2 e3 e4 e5 e6
  exact ⟨⟨n0, n1, n2, ⟨s1, s2, s3⟩, n4⟩, rfl, w0, w1, w2, w3, w4⟩
theorem rd_slice {α : Type} [Inhabited α] {f : α → List Value} {sz : Nat} {ok : α → Prop} {t e : TypeId} (ht : Tryd.prog.underlying t = some (.slice e)) (hc : Tryd.prog.cellsOf e = sz) (hsz : 0 < sz) (hf : ∀ x, (f x).length = sz)
    (hrd : ∀ (n : Nat) (cs : List Value) (y : DataW H × List MemPlace), DataW.trod enc Tryd.prog w base spare held n e cs = some y → ∃ a, cs = f a ∧ ok a)
    (h : DataW.trod enc Tryd.prog w base spare held fuel t cs = some x) :
    ∃ (A : Option Addr) (c : Nat) (xs : List α), cs = [.slice A xs.length c] ∧ Sl f sz w w.heap.size A xs ∧ (∀ a ∈ xs, ok a) ∧ xs.length ≤ c ∧ c ≤ 9223372036854775807 := by
  rcases open_slice ht h with ⟨rfl, _⟩ | ⟨a, len, cap, m, n, D, Pl, rfl, _, hl, hm, hmm, _, hi⟩
  · exact ⟨none, 0, [], rfl, Sl.nil, by simp, by simp, by simp⟩
  have hlm : len ≤ m := by rw [hmm]; split <;> omega
  rw [hc] at hi
  obtain ⟨F, hF⟩ := choose_lt (α := α) (p := fun i y => w.cells? base (a.add (i * sz)) sz = some (f y) ∧ ok y) (n := len) (fun i hil => by
    obtain ⟨cs', h1, h2⟩ := hi i (by omega)
    obtain ⟨y, rfl, hy⟩ := hrd _ _ _ h2
    exact ⟨y, h1, hy⟩)
  refine ⟨some a, cap, (List.range len).map F, by simp, fun hne => ?_, fun y hy => ?_, by simpa using hl, by simpa [maxLen] using hm⟩
  · have hpos : 0 < len := by
      rcases Nat.eq_zero_or_pos len with h0 | h0
      · subst h0; simp at hne
      · exact h0
    obtain ⟨_, _, hcell0⟩ := World.cells?_some (hF 0 hpos).1
    have h00 := hcell0 0 hsz
    rw [List.getElem?_eq_getElem (by rw [hf]; exact hsz)] at h00
    rw [Nat.zero_mul, add_add] at h00
    have hspot : a.spot = none := by
      obtain ⟨b, o, spot⟩ := a
      simpa [Addr.add] using World.cell?_spot h00
    obtain ⟨b, o, spot⟩ := a
    simp only at hspot
    subst hspot
    refine ⟨b, o, rfl, ?_, fun k y hk j u hu => ?_⟩
    · simp only [Addr.add_lit, World.cell?] at h00
      rcases Nat.lt_or_ge b w.heap.size with h1 | h1
      · exact h1
      · rw [Array.getElem?_eq_none h1] at h00; simp at h00
    · obtain ⟨hkl, rfl⟩ := List.getElem?_eq_some_iff.1 hk
      simp only [List.length_map, List.length_range] at hkl
      simp only [List.getElem_map, List.getElem_range] at hu
      have hj : j < sz := by rw [← hf (F k)]; exact (List.getElem?_eq_some_iff.1 hu).1
      obtain ⟨_, _, hcell⟩ := World.cells?_some (hF k hkl).1
      have := hcell j hj
      rw [add_add, Addr.add_lit, ← Nat.add_assoc] at this
      rw [this, hu]
  · simp only [List.mem_map, List.mem_range] at hy
    obtain ⟨i, hil, rfl⟩ := hy
    exact (hF i hil).2
theorem rd_evs (h : DataW.trod enc Tryd.prog w base spare held fuel 24 cs = some x) :
    ∃ (A : Option Addr) (c : Nat) (xs : List Ev), cs = [.slice A xs.length c] ∧ Sl Ev.cells 7 w w.heap.size A xs ∧ (∀ a ∈ xs, a.ok) ∧ xs.length ≤ c ∧ c ≤ 9223372036854775807 :=
  rd_slice Tryd.underlying24 cells_event (by omega) Ev.cells_len (fun _ _ _ h => rd_ev h) h
theorem in_st (hv : Value.okWide Tryd.prog w r b0 26 v) (h : DataW.Trod enc Tryd.prog w base spare held 26 v d p) : ∃ s : St, v = .agg #[.int .i64 s.wall, .int .i64 s.logic, .int .i64 s.node] ∧ s.ok := by
  obtain ⟨cs, rfl, hsz⟩ := okWide_struct Tryd.underlying26 hv
  obtain ⟨fuel, hf⟩ := h
  obtain ⟨s, e, hs⟩ := rd_st hf
  obtain ⟨l⟩ := cs
  simp [Value.cells] at e
  subst e
  exact ⟨s, rfl, hs⟩
theorem cells_evs : Tryd.prog.cellsOf 24 = 1 := by kernel_rfl
theorem rd_logs (h : DataW.trod enc Tryd.prog w base spare held fuel 22 cs = some x) :
    ∃ (A : Option Addr) (c : Nat) (ls : List LogM), cs = [.slice A ls.length c] ∧ LogsIn w w.heap.size A ls ∧ (∀ l ∈ ls, ∀ e ∈ l.es, e.ok) ∧ ls.length ≤ c ∧ c ≤ 9223372036854775807 := by
  obtain ⟨A, c, ls, rfl, h1, h2, h3, h4⟩ := rd_slice (f := LogM.cells) (ok := fun l => l.ok w w.heap.size ∧ ∀ e ∈ l.es, e.ok) Tryd.underlying22 cells_evs (by omega) LogM.cells_len (fun _ _ _ h => by
    obtain ⟨A, c, es, rfl, k1, k2, k3, k4⟩ := rd_evs h
    exact ⟨⟨A, c, es⟩, rfl, ⟨k1, k3, k4⟩, k2⟩) h
  exact ⟨A, c, ls, rfl, ⟨h1, fun l hl => (h2 l hl).1⟩, fun l hl => (h2 l hl).2, h3, h4⟩
set_option maxRecDepth 100000 in
theorem in_logs (hv : Value.okWide Tryd.prog w r b0 22 v) (h : DataW.Trod enc Tryd.prog w base spare held 22 v d p) :
    ∃ (A : Option Addr) (c : Nat) (ls : List LogM), v = .slice A ls.length c ∧ LogsIn w w.heap.size A ls ∧ (∀ l ∈ ls, ∀ e ∈ l.es, e.ok) ∧ ls.length ≤ c ∧ c ≤ 9223372036854775807 := by
  obtain ⟨A, n, c, rfl⟩ := okWide_slice Tryd.underlying22 hv
  obtain ⟨fuel, hf⟩ := h
  obtain ⟨A', c', ls, e, hr⟩ := rd_logs hf
  simp [Value.cells] at e
  obtain ⟨rfl, rfl, rfl⟩ := e
  exact ⟨_, _, ls, rfl, hr⟩
set_option maxRecDepth 100000 in
theorem in_evs (hv : Value.okWide Tryd.prog w r b0 24 v) (h : DataW.Trod enc Tryd.prog w base spare held 24 v d p) :
    ∃ (A : Option Addr) (c : Nat) (es : List Ev), v = .slice A es.length c ∧ Sl Ev.cells 7 w w.heap.size A es ∧ (∀ e ∈ es, e.ok) ∧ es.length ≤ c ∧ c ≤ 9223372036854775807 := by
  obtain ⟨A, n, c, rfl⟩ := okWide_slice Tryd.underlying24 hv
  obtain ⟨fuel, hf⟩ := h
  obtain ⟨A', c', ls, e, hr⟩ := rd_evs hf
  simp [Value.cells] at e
  obtain ⟨rfl, rfl, rfl⟩ := e
  exact ⟨_, _, ls, rfl, hr⟩
theorem rd_sts (h : DataW.trod enc Tryd.prog w base spare held fuel 23 cs = some x) :
    ∃ (A : Option Addr) (c : Nat) (xs : List St), cs = [.slice A xs.length c] ∧ Sl St.cells 3 w w.heap.size A xs ∧ (∀ a ∈ xs, a.ok) ∧ xs.length ≤ c ∧ c ≤ 9223372036854775807 :=
  rd_slice (f := St.cells) (ok := St.ok) Tryd.underlying23 cells_stamp (by omega) (fun _ => rfl) (fun _ _ _ h => rd_st h) h
set_option maxRecDepth 100000 in
theorem in_sts (hv : Value.okWide Tryd.prog w r b0 23 v) (h : DataW.Trod enc Tryd.prog w base spare held 23 v d p) :
    ∃ (A : Option Addr) (c : Nat) (xs : List St), v = .slice A xs.length c ∧ Sl St.cells 3 w w.heap.size A xs ∧ (∀ a ∈ xs, a.ok) ∧ xs.length ≤ c ∧ c ≤ 9223372036854775807 := by
  obtain ⟨A, n, c, rfl⟩ := okWide_slice Tryd.underlying23 hv
  obtain ⟨fuel, hf⟩ := h
  obtain ⟨A', c', ls, e, hr⟩ := rd_sts hf
  simp [Value.cells] at e
  obtain ⟨rfl, rfl, rfl⟩ := e
  exact ⟨_, _, ls, rfl, hr⟩
theorem evsOk_of {es : List Ev} (h : ∀ e ∈ es, e.ok) : EvsOk es := fun e he => ⟨(h e he).1, (h e he).2.2.1⟩
end
end Go.Proofs.YthhhobfdlgmjlaaDoor

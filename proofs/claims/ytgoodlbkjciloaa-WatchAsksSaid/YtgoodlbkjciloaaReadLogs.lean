/- How lists of lists of events, batches, cursors read as the laws' arguments. No condition. -/
import Derived.Test.YtgoodlbkjciloaaRead
import Derived.Test.YtgoodlbkjciloaaSmall
namespace Go.Proofs.Ytgoodlbkjciloaa
open Go.RowKit Go.ChangeShapes Go.WideShapes Go.Deep

instance : Inhabited LogM := ⟨⟨none, 0, []⟩⟩
instance : Inhabited Cu := ⟨⟨default, 0, ByteArray.empty⟩⟩
section
variable {H : Type} {enc : TypeId × Value → H} {w : World} {base b0 : Nat} {spare : Nat → Bool} {held : Bool} {fuel : Nat} {cs : List Value} {x : DataW H × List MemPlace} {r : Reach} {v : Value} {d : DataW H} {p : List MemPlace}
theorem cells_evs : Try.prog.cellsOf 33 = 1 := by kernel_rfl
theorem rd_logs (h : DataW.trod enc Try.prog w base spare held fuel 45 cs = some x) :
    ∃ (A : Option Addr) (c : Nat) (ls : List LogM), cs = [.slice A ls.length c] ∧ LogsIn w w.heap.size A ls ∧ (∀ l ∈ ls, ∀ e ∈ l.es, e.ok) ∧ ls.length ≤ c ∧ c ≤ 9223372036854775807 := by
  obtain ⟨A, c, ls, rfl, h1, h2, h3, h4⟩ := rd_slice (f := LogM.cells) (ok := fun l => l.ok w w.heap.size ∧ ∀ e ∈ l.es, e.ok) Try.underlying45 cells_evs (by omega) LogM.cells_len (fun _ _ _ h => by
    obtain ⟨A, c, es, rfl, k1, k2, k3, k4⟩ := rd_evs h
    exact ⟨⟨A, c, es⟩, rfl, ⟨k1, k3, k4⟩, k2⟩) h
  exact ⟨A, c, ls, rfl, ⟨h1, fun l hl => (h2 l hl).1⟩, fun l hl => (h2 l hl).2, h3, h4⟩
theorem in_logs (hv : Value.okWide Try.prog w r b0 45 v) (h : DataW.Trod enc Try.prog w base spare held 45 v d p) :
    ∃ (A : Option Addr) (c : Nat) (ls : List LogM), v = .slice A ls.length c ∧ LogsIn w w.heap.size A ls ∧ (∀ l ∈ ls, ∀ e ∈ l.es, e.ok) ∧ ls.length ≤ c ∧ c ≤ 9223372036854775807 := by
  obtain ⟨A, n, c, rfl⟩ := okWide_slice Try.underlying45 hv
  obtain ⟨fuel, hf⟩ := h
  obtain ⟨A', c', ls, e, hr⟩ := rd_logs hf
  simp [Value.cells] at e
  obtain ⟨rfl, rfl, rfl⟩ := e
  exact ⟨_, _, ls, rfl, hr⟩
theorem in_evs (hv : Value.okWide Try.prog w r b0 33 v) (h : DataW.Trod enc Try.prog w base spare held 33 v d p) :
    ∃ (A : Option Addr) (c : Nat) (es : List Ev), v = .slice A es.length c ∧ Sl Ev.cells 7 w w.heap.size A es ∧ (∀ e ∈ es, e.ok) ∧ es.length ≤ c ∧ c ≤ 9223372036854775807 := by
  obtain ⟨A, n, c, rfl⟩ := okWide_slice Try.underlying33 hv
  obtain ⟨fuel, hf⟩ := h
  obtain ⟨A', c', ls, e, hr⟩ := rd_evs hf
  simp [Value.cells] at e
  obtain ⟨rfl, rfl, rfl⟩ := e
  exact ⟨_, _, ls, rfl, hr⟩
theorem cells_cursor : Try.prog.cellsOf 39 = 5 := by kernel_rfl
theorem list5 {l : List Value} (h : l.length = 5) : ∃ a b c d e, l = [a, b, c, d, e] := by
  match l, h with
  | [a, b, c, d, e], _ => exact ⟨a, b, c, d, e, rfl⟩
def Cu.ok (c : Cu) : Prop := c.st.ok ∧ I64 c.index ∧ c.stream.size ≤ 9223372036854775807
theorem rd_cu (h : DataW.trod enc Try.prog w base spare held fuel 39 cs = some x) : ∃ c : Cu, cs = c.cells ∧ c.ok := by
  obtain ⟨hl, n, hf⟩ := rd_field Try.underlying39 h
  obtain ⟨a, b, c, d, e, rfl⟩ := list5 (hl.trans cells_cursor)
  obtain ⟨y0, h0⟩ := hf 0 32 0 3 rfl cells_stamp
  obtain ⟨y1, h1⟩ := hf 1 3 3 1 rfl cells_int
  obtain ⟨y2, h2⟩ := hf 2 9 4 1 rfl cells_string
  obtain ⟨⟨s1, s2, s3⟩, e0, w0⟩ := rd_st h0
  obtain ⟨n1, e1, w1⟩ := rd_int h1
  obtain ⟨n2, e2, w2⟩ := rd_str h2
  simp [intC, strC, St.cells] at e0 e1 e2
  obtain ⟨e3, e5, e6⟩ := e0
  subst e1 e2 e3 e5 e6
  exact ⟨⟨⟨s1, s2, s3⟩, n1, n2⟩, rfl, w0, w1, w2⟩
theorem in_cu (hv : Value.okWide Try.prog w r b0 39 v) (h : DataW.Trod enc Try.prog w base spare held 39 v d p) :
    ∃ c : Cu, v = .agg #[.int .i64 c.st.wall, .int .i64 c.st.logic, .int .i64 c.st.node, .int .i64 c.index, .string c.stream] ∧ c.ok := by
  obtain ⟨cs, rfl, hsz⟩ := okWide_struct Try.underlying39 hv
  obtain ⟨fuel, hf⟩ := h
  obtain ⟨s, e, hs⟩ := rd_cu hf
  obtain ⟨l⟩ := cs
  simp [Value.cells] at e
  subst e
  exact ⟨s, rfl, hs⟩
theorem evsOk_of {es : List Ev} (h : ∀ e ∈ es, e.ok) : EvsOk es := fun e he => ⟨(h e he).1, (h e he).2.2.1⟩
end
end Go.Proofs.Ytgoodlbkjciloaa

/- How a reply reads as a law's argument. No condition. -/
import Derived.Test.YtgoodlbkjciloaaReadLogs
namespace Go.Proofs.Ytgoodlbkjciloaa
open Go.RowKit Go.ChangeShapes Go.WideShapes Go.Deep

section
variable {H : Type} {enc : TypeId × Value → H} {w : World} {base b0 : Nat} {spare : Nat → Bool} {held : Bool} {fuel : Nat} {cs : List Value} {x : DataW H × List MemPlace} {r : Reach} {v : Value} {d : DataW H} {p : List MemPlace}
theorem cells_reply : Try.prog.cellsOf 42 = 13 := by kernel_rfl
theorem cells_errno : Try.prog.cellsOf 37 = 1 := by kernel_rfl
theorem list13 {l : List Value} (h : l.length = 13) : ∃ a b c d e f g h i j k m n, l = [a, b, c, d, e, f, g, h, i, j, k, m, n] := by
  match l, h with
  | [a, b, c, d, e, f, g, h, i, j, k, m, n], _ => exact ⟨a, b, c, d, e, f, g, h, i, j, k, m, n, rfl⟩
theorem rd_reply (h : DataW.trod enc Try.prog w base spare held fuel 42 cs = some x) :
    ∃ (rc : Int) (st : St) (A : Option Addr) (c : Nat) (fs : List Int) (ve : Value) (cu : Cu) (vr : Value) (rn : Int),
      cs = [.int .i64 rc, .int .i64 st.wall, .int .i64 st.logic, .int .i64 st.node, .slice A fs.length c, ve, .int .i64 cu.st.wall, .int .i64 cu.st.logic, .int .i64 cu.st.node, .int .i64 cu.index, .string cu.stream, vr, .int .i64 rn] ∧ Sl intC 1 w w.heap.size A fs ∧ (∀ a ∈ fs, I64 a) ∧ fs.length ≤ c ∧ c ≤ 9223372036854775807 := by
  obtain ⟨hl, n, hf⟩ := rd_field Try.underlying42 h
  obtain ⟨a0, a1, a2, a3, a4, a5, a6, a7, a8, a9, a10, a11, a12, rfl⟩ := list13 (hl.trans cells_reply)
  obtain ⟨y0, h0⟩ := hf 0 37 0 1 rfl cells_errno
  obtain ⟨y1, h1⟩ := hf 1 32 1 3 rfl cells_stamp
  obtain ⟨y2, h2⟩ := hf 2 25 4 1 rfl (by kernel_rfl)
  obtain ⟨y4, h4⟩ := hf 4 39 6 5 rfl cells_cursor
  obtain ⟨y6, h6⟩ := hf 6 3 12 1 rfl cells_int
  obtain ⟨n0, e0, _, _⟩ := DataW.trod_int Try.underlying37 h0
  obtain ⟨⟨s1, s2, s3⟩, e1, w1⟩ := rd_st h1
  obtain ⟨A, c, fs, e2, w2⟩ := rd_ints h2
  obtain ⟨⟨⟨u1, u2, u3⟩, u4, u5⟩, e4, w4⟩ := rd_cu h4
  obtain ⟨n6, e6, w6⟩ := rd_int h6
  simp [intC, St.cells, Cu.cells] at e0 e1 e2 e4 e6
  obtain ⟨e1, e11, e12⟩ := e1
  obtain ⟨e4, e41, e42, e43, e44⟩ := e4
  subst e0 e1 e11 e12 e2 e4 e41 e42 e43 e44 e6
  exact ⟨n0, ⟨s1, s2, s3⟩, A, c, fs, a5, ⟨⟨u1, u2, u3⟩, u4, u5⟩, a11, n6, rfl, w2⟩
theorem in_reply (hv : Value.okWide Try.prog w r b0 42 v) (h : DataW.Trod enc Try.prog w base spare held 42 v d p) :
    ∃ (rc : Int) (st : St) (A : Option Addr) (c : Nat) (fs : List Int) (ve : Value) (cu : Cu) (vr : Value) (rn : Int),
      v = .agg #[.int .i64 rc, .int .i64 st.wall, .int .i64 st.logic, .int .i64 st.node, .slice A fs.length c, ve, .int .i64 cu.st.wall, .int .i64 cu.st.logic, .int .i64 cu.st.node, .int .i64 cu.index, .string cu.stream, vr, .int .i64 rn] ∧ Sl intC 1 w w.heap.size A fs ∧ (∀ a ∈ fs, I64 a) ∧ fs.length ≤ c ∧ c ≤ 9223372036854775807 := by
  obtain ⟨cs, rfl, hsz⟩ := okWide_struct Try.underlying42 hv
  obtain ⟨fuel, hf⟩ := h
  obtain ⟨rc, st, A, c, fs, ve, cu, vr, rn, e, hs⟩ := rd_reply hf
  obtain ⟨l⟩ := cs
  simp [Value.cells] at e
  subst e
  exact ⟨rc, st, A, c, fs, ve, cu, vr, rn, rfl, hs⟩
end
end Go.Proofs.Ytgoodlbkjciloaa

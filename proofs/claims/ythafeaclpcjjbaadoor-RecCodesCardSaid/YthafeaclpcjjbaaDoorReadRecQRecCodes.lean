/- Door seats: how a record reads. No condition. -/
import Derived.Test.YthafeaclpcjjbaaDoorM51RecCodes
import Derived.Test.YthafeaclpcjjbaaDoorM49RecCodes
namespace Go.Proofs.YthafeaclpcjjbaaDoor
open Go.RowKit Go.ChangeShapes Go.WideShapes Go.Deep

section
variable {H : Type} {enc : TypeId × Value → H} {w : World} {base : Nat} {spare : Nat → Bool} {held : Bool} {fuel : Nat} {cs : List Value} {x : DataW H × List MemPlace}
theorem rdv_bool (h : DataW.trod enc Tryd.prog w base spare held fuel 4 cs = some x) : ∃ b, cs = [.bool b] := by
  obtain ⟨b, rfl, _⟩ := DataW.trod_bool Tryd.underlying4 h
  exact ⟨b, rfl⟩
instance : Inhabited SmM := ⟨⟨ByteArray.empty, none, 0, [], none, 0, []⟩⟩
def SmM.ok (w : World) (s : SmM) : Prop := (s.name.size ≤ 9223372036854775807 ∧ s.es.length ≤ 9223372036854775807 ∧ EvsOk s.es ∧ KnsOk s.ks) ∧ SmIn w w.heap.size s.Ae s.Ak s.es s.ks
theorem list4 {l : List Value} (h : l.length = 4) : ∃ a b c d, l = [a, b, c, d] := by
  match l, h with
  | [a, b, c, d], _ => exact ⟨a, b, c, d, rfl⟩
theorem list18 {l : List Value} (h : l.length = 18) : ∃ a0 a1 a2 a3 a4 a5 a6 a7 a8 a9 b0 b1 b2 b3 b4 b5 b6 b7, l = [a0, a1, a2, a3, a4, a5, a6, a7, a8, a9, b0, b1, b2, b3, b4, b5, b6, b7] := by
  match l, h with
  | [a0, a1, a2, a3, a4, a5, a6, a7, a8, a9, b0, b1, b2, b3, b4, b5, b6, b7], _ => exact ⟨a0, a1, a2, a3, a4, a5, a6, a7, a8, a9, b0, b1, b2, b3, b4, b5, b6, b7, rfl⟩
set_option maxRecDepth 100000 in
theorem cells_tx : Tryd.prog.cellsOf 28 = 3 := by kernel_rfl
set_option maxRecDepth 100000 in
theorem cells_rng : Tryd.prog.cellsOf 34 = 4 := by kernel_rfl
set_option maxRecDepth 100000 in
theorem cells_rec : Tryd.prog.cellsOf 37 = 18 := by kernel_rfl
set_option maxRecDepth 100000 in
theorem cells_bat : Tryd.prog.cellsOf 32 = 2 := by kernel_rfl
set_option maxRecDepth 100000 in
theorem cells_boo : Tryd.prog.cellsOf 4 = 1 := by kernel_rfl
set_option maxRecDepth 100000 in
theorem cells_intsL : Tryd.prog.cellsOf 29 = 1 := by kernel_rfl
set_option maxRecDepth 100000 in
theorem cells_smsL : Tryd.prog.cellsOf 35 = 1 := by kernel_rfl
set_option maxRecDepth 100000 in
theorem rdv_tx (h : DataW.trod enc Tryd.prog w base spare held fuel 28 cs = some x) : ∃ a b c, cs = [.int .i64 a, .int .i64 b, .int .i64 c] ∧ Int64 a ∧ Int64 b ∧ Int64 c := by
  obtain ⟨hl, n, hf⟩ := rdv_field Tryd.underlying28 h
  obtain ⟨a, b, c, rfl⟩ := list3 (hl.trans cells_tx)
  obtain ⟨y0, h0⟩ := hf 0 3 0 1 rfl cells_int
  obtain ⟨y1, h1⟩ := hf 1 3 1 1 rfl cells_int
  obtain ⟨y2, h2⟩ := hf 2 3 2 1 rfl cells_int
  obtain ⟨n0, e0, w0⟩ := rdv_int h0
  obtain ⟨n1, e1, w1⟩ := rdv_int h1
  obtain ⟨n2, e2, w2⟩ := rdv_int h2
  simp [intC] at e0 e1 e2
  subst e0 e1 e2
  exact ⟨n0, n1, n2, rfl, w0, w1, w2⟩
set_option maxRecDepth 100000 in
theorem rdv_rng (h : DataW.trod enc Tryd.prog w base spare held fuel 34 cs = some x) : ∃ a b c d, cs = [.int .i64 a, .int .i64 b, .int .i64 c, .int .i64 d] ∧ Int64 a ∧ Int64 b ∧ Int64 c ∧ Int64 d := by
  obtain ⟨hl, n, hf⟩ := rdv_field Tryd.underlying34 h
  obtain ⟨a, b, c, d, rfl⟩ := list4 (hl.trans cells_rng)
  obtain ⟨y0, h0⟩ := hf 0 3 0 1 rfl cells_int
  obtain ⟨y1, h1⟩ := hf 1 3 1 1 rfl cells_int
  obtain ⟨y2, h2⟩ := hf 2 3 2 1 rfl cells_int
  obtain ⟨y3, h3⟩ := hf 3 3 3 1 rfl cells_int
  obtain ⟨n0, e0, w0⟩ := rdv_int h0
  obtain ⟨n1, e1, w1⟩ := rdv_int h1
  obtain ⟨n2, e2, w2⟩ := rdv_int h2
  obtain ⟨n3, e3, w3⟩ := rdv_int h3
  simp [intC] at e0 e1 e2 e3
  subst e0 e1 e2 e3
  exact ⟨n0, n1, n2, n3, rfl, w0, w1, w2, w3⟩
theorem evsOkE {es : List Ev} (h : ∀ e ∈ es, e.ok) : EvsOk es := fun e he => ⟨(h e he).1, (h e he).2.2.1⟩
set_option maxRecDepth 100000 in
theorem rdv_smM (h : DataW.trod enc Tryd.prog w base spare held fuel 83 cs = some x) : ∃ s : SmM, cs = s.cells ∧ s.ok w := by
  obtain ⟨n, A, A2, c, c2, es, ks, rfl, h0, h1, h2, h3, h4, h5, h6, h7, h8⟩ := rdv_sm h
  exact ⟨⟨n, A, c, es, A2, c2, ks⟩, rfl, ⟨h0, by show es.length ≤ _; omega, evsOkE h2, ⟨by show ks.length ≤ _; omega, fun k hk => (h6 k hk).1⟩⟩, h1, h5⟩
set_option maxRecDepth 100000 in
theorem rdv_sms (h : DataW.trod enc Tryd.prog w base spare held fuel 35 cs = some x) : ∃ (A : Option Addr) (c : Nat) (ss : List SmM), cs = [.slice A ss.length c] ∧ SmsIn w w.heap.size A ss ∧ SmsOk ss := by
  obtain ⟨A, c, ss, rfl, h1, h2, h3, h4⟩ := rdv_slice (f := SmM.cells) (ok := SmM.ok w) Tryd.underlying35 cells_sm (by omega) SmM.cells_len (fun _ _ _ h => rdv_smM h) h
  exact ⟨A, c, ss, rfl, ⟨h1, fun s hs => (h2 s hs).2⟩, ⟨by omega, fun s hs => (h2 s hs).1⟩⟩
set_option maxRecDepth 100000 in
theorem rdv_rec (h : DataW.trod enc Tryd.prog w base spare held fuel 37 cs = some x) : ∃ r : RecM, cs = r.cells.toList ∧ r.In w ∧ r.I64 := by
  obtain ⟨hl, n, hf⟩ := rdv_field Tryd.underlying37 h
  obtain ⟨a0, a1, a2, a3, a4, a5, a6, a7, a8, a9, b0, b1, b2, b3, b4, b5, b6, b7, rfl⟩ := list18 (hl.trans cells_rec)
  obtain ⟨_, h0⟩ := hf 0 3 0 1 rfl cells_int
  obtain ⟨_, h1⟩ := hf 1 3 1 1 rfl cells_int
  obtain ⟨_, h2⟩ := hf 2 3 2 1 rfl cells_int
  obtain ⟨_, h3⟩ := hf 3 4 3 1 rfl cells_boo
  obtain ⟨_, h4⟩ := hf 4 26 4 3 rfl cells_stamp
  obtain ⟨_, h5⟩ := hf 5 28 7 3 rfl cells_tx
  obtain ⟨_, h6⟩ := hf 6 29 10 1 rfl cells_intsL
  obtain ⟨_, h7⟩ := hf 7 32 11 2 rfl cells_bat
  obtain ⟨_, h8⟩ := hf 8 34 13 4 rfl cells_rng
  obtain ⟨_, h9⟩ := hf 9 35 17 1 rfl cells_smsL
  obtain ⟨n0, e0, w0⟩ := rdv_int h0
  obtain ⟨n1, e1, w1⟩ := rdv_int h1
  obtain ⟨n2, e2, w2⟩ := rdv_int h2
  obtain ⟨n3, e3⟩ := rdv_bool h3
  obtain ⟨⟨s1, s2, s3⟩, e4, w4⟩ := rdv_st h4
  obtain ⟨x1, x2, x3, e5, w5⟩ := rdv_tx h5
  obtain ⟨An, cn, ns, e6, w6⟩ := rdv_ints h6
  obtain ⟨key, Ap, cp, ps, e7, w7⟩ := rdv_batch h7
  obtain ⟨z1, z2, z3, z4, e8, w8⟩ := rdv_rng h8
  obtain ⟨As, cs, ss, e9, w9⟩ := rdv_sms h9
  simp [intC, St.cells] at e0 e1 e2 e3 e4 e5 e6 e7 e8 e9
  obtain ⟨e41, e42, e43⟩ := e4
  obtain ⟨e51, e52, e53⟩ := e5
  obtain ⟨e71, e72⟩ := e7
  obtain ⟨e81, e82, e83, e84⟩ := e8
  subst e0 e1 e2 e3 e41 e42 e43 e51 e52 e53 e6 e71 e72 e81 e82 e83 e84 e9
  refine ⟨⟨n0, n1, n2, n3, ⟨s1, s2, s3⟩, x1, x2, x3, An, cn, ns, key, Ap, cp, ps, z1, z2, z3, z4, As, cs, ss⟩, rfl, ⟨w6.1, w7.2.1, w9.1⟩, ?_⟩
  exact ⟨w0, w1, w2, w4, w5.1, w5.2.1, w5.2.2, w8.1, w8.2.1, w8.2.2.1, w8.2.2.2, w6.2.1, w7.2.2.2, by have := w6.2.2; show ns.length ≤ _; omega, w7.1, w7.2.2.1, w9.2⟩
end
section
variable {H : Type} {enc : TypeId × Value → H} {w : World} {base b0 : Nat} {spare : Nat → Bool} {held : Bool} {r : Reach} {v : Value} {d : DataW H} {p : List MemPlace}
set_option maxRecDepth 100000 in
theorem in_rec (hv : Value.okWide Tryd.prog w r b0 37 v) (h : DataW.Trod enc Tryd.prog w base spare held 37 v d p) : ∃ x : RecM, v = .agg x.cells ∧ x.In w ∧ x.I64 := by
  obtain ⟨cs, rfl, hsz⟩ := okWide_struct Tryd.underlying37 hv
  obtain ⟨fuel, hf⟩ := h
  obtain ⟨x, e, hx⟩ := rdv_rec hf
  obtain ⟨l⟩ := cs
  simp [Value.cells] at e
  subst e
  exact ⟨x, rfl, hx⟩
end
end Go.Proofs.YthafeaclpcjjbaaDoor

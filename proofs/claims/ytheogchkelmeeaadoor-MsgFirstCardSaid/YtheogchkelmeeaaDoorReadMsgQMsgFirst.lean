/- Door seats: how a message reads. No condition. -/
import Derived.Test.YtheogchkelmeeaaDoorReadDQMsgFirst
import Derived.Test.YtheogchkelmeeaaDoorM46MsgFirst
namespace Go.Proofs.YtheogchkelmeeaaDoor
open Go.RowKit Go.ChangeShapes Go.WideShapes Go.Deep

section
variable {H : Type} {enc : TypeId × Value → H} {w : World} {base : Nat} {spare : Nat → Bool} {held : Bool} {fuel : Nat} {cs : List Value} {x : DataW H × List MemPlace}
theorem rdv_bool (h : DataW.trod enc Tryd.prog w base spare held fuel 4 cs = some x) : ∃ b, cs = [.bool b] := by
  obtain ⟨b, rfl, _⟩ := DataW.trod_bool Tryd.underlying4 h
  exact ⟨b, rfl⟩
instance : Inhabited SmM := ⟨⟨ByteArray.empty, none, 0, [], none, 0, []⟩⟩
def SmM.ok (w : World) (s : SmM) : Prop := (s.name.size ≤ 9223372036854775807 ∧ s.es.length ≤ 9223372036854775807 ∧ EvsOk s.es ∧ KnsOk s.ks) ∧ SmIn w w.heap.size s.Ae s.Ak s.es s.ks
theorem list4 {l : List Value} (h : l.length = 4) : ∃ a b c d, l = [a, b, c, d] := by
  match l, h with
  | [a, b, c, d], _ => exact ⟨a, b, c, d, rfl⟩
set_option maxRecDepth 100000 in
theorem cells_tx : Tryd.prog.cellsOf 23 = 3 := by kernel_rfl
set_option maxRecDepth 100000 in
theorem cells_rng : Tryd.prog.cellsOf 31 = 4 := by kernel_rfl
set_option maxRecDepth 100000 in
theorem cells_bat : Tryd.prog.cellsOf 26 = 2 := by kernel_rfl
set_option maxRecDepth 100000 in
theorem cells_boo : Tryd.prog.cellsOf 4 = 1 := by kernel_rfl
set_option maxRecDepth 100000 in
theorem cells_intsL : Tryd.prog.cellsOf 29 = 1 := by kernel_rfl
set_option maxRecDepth 100000 in
theorem cells_smsL : Tryd.prog.cellsOf 32 = 1 := by kernel_rfl
set_option maxRecDepth 100000 in
theorem rdv_tx (h : DataW.trod enc Tryd.prog w base spare held fuel 23 cs = some x) : ∃ a b c, cs = [.int .i64 a, .int .i64 b, .int .i64 c] ∧ Int64 a ∧ Int64 b ∧ Int64 c := by
  obtain ⟨hl, n, hf⟩ := rdv_field Tryd.underlying23 h
  obtain ⟨a, b, c, rfl⟩ := list3 (hl.trans cells_tx)
  obtain ⟨y0, h0⟩ := hf 0 3 0 1 rfl cells_int
  obtain ⟨y1, h1⟩ := hf 1 3 1 1 rfl cells_int
  obtain ⟨y2, h2⟩ := hf 2 3 2 1 rfl cells_int
  obtain ⟨n0, e0, w0⟩ := rdv_int h0
  obtain ⟨n1, e1, w1⟩ := rdv_int h1
  obtain ⟨n2, e2, w2⟩ := rdv_int h2
  simp [intC] at e0 e1 e2
  subst e0 e1 e2
  exact ⟨n0, n1, n2, rfl, w0, w1, w2⟩
set_option maxRecDepth 100000 in
theorem rdv_rng (h : DataW.trod enc Tryd.prog w base spare held fuel 31 cs = some x) : ∃ a b c d, cs = [.int .i64 a, .int .i64 b, .int .i64 c, .int .i64 d] ∧ Int64 a ∧ Int64 b ∧ Int64 c ∧ Int64 d := by
  obtain ⟨hl, n, hf⟩ := rdv_field Tryd.underlying31 h
  obtain ⟨a, b, c, d, rfl⟩ := list4 (hl.trans cells_rng)
  obtain ⟨y0, h0⟩ := hf 0 3 0 1 rfl cells_int
  obtain ⟨y1, h1⟩ := hf 1 3 1 1 rfl cells_int
  obtain ⟨y2, h2⟩ := hf 2 3 2 1 rfl cells_int
  obtain ⟨y3, h3⟩ := hf 3 3 3 1 rfl cells_int
  obtain ⟨n0, e0, w0⟩ := rdv_int h0
  obtain ⟨n1, e1, w1⟩ := rdv_int h1
  obtain ⟨n2, e2, w2⟩ := rdv_int h2
  obtain ⟨n3, e3, w3⟩ := rdv_int h3
  simp [intC] at e0 e1 e2 e3
  subst e0 e1 e2 e3
  exact ⟨n0, n1, n2, n3, rfl, w0, w1, w2, w3⟩
theorem evsOkE {es : List Ev} (h : ∀ e ∈ es, e.ok) : EvsOk es := fun e he => ⟨(h e he).1, (h e he).2.2.1⟩
set_option maxRecDepth 100000 in
theorem rdv_smM (h : DataW.trod enc Tryd.prog w base spare held fuel 118 cs = some x) : ∃ s : SmM, cs = s.cells ∧ s.ok w := by
  obtain ⟨n, A, A2, c, c2, es, ks, rfl, h0, h1, h2, h3, h4, h5, h6, h7, h8⟩ := rdv_sm h
  exact ⟨⟨n, A, c, es, A2, c2, ks⟩, rfl, ⟨h0, by show es.length ≤ _; omega, evsOkE h2, ⟨by show ks.length ≤ _; omega, fun k hk => (h6 k hk).1⟩⟩, h1, h5⟩
set_option maxRecDepth 100000 in
theorem rdv_sms (h : DataW.trod enc Tryd.prog w base spare held fuel 32 cs = some x) : ∃ (A : Option Addr) (c : Nat) (ss : List SmM), cs = [.slice A ss.length c] ∧ SmsIn w w.heap.size A ss ∧ SmsOk ss := by
  obtain ⟨A, c, ss, rfl, h1, h2, h3, h4⟩ := rdv_slice (f := SmM.cells) (ok := SmM.ok w) Tryd.underlying32 cells_sm (by omega) SmM.cells_len (fun _ _ _ h => rdv_smM h) h
  exact ⟨A, c, ss, rfl, ⟨h1, fun s hs => (h2 s hs).2⟩, ⟨by omega, fun s hs => (h2 s hs).1⟩⟩
theorem list21 {l : List Value} (h : l.length = 21) : ∃ a0 a1 a2 a3 a4 a5 a6 a7 a8 a9 b0 b1 b2 b3 b4 b5 b6 b7 b8 b9 c0, l = [a0, a1, a2, a3, a4, a5, a6, a7, a8, a9, b0, b1, b2, b3, b4, b5, b6, b7, b8, b9, c0] := by
  match l, h with
  | [a0, a1, a2, a3, a4, a5, a6, a7, a8, a9, b0, b1, b2, b3, b4, b5, b6, b7, b8, b9, c0], _ => exact ⟨a0, a1, a2, a3, a4, a5, a6, a7, a8, a9, b0, b1, b2, b3, b4, b5, b6, b7, b8, b9, c0, rfl⟩
set_option maxRecDepth 100000 in
theorem cells_msg : Tryd.prog.cellsOf 36 = 21 := by kernel_rfl
set_option maxRecDepth 100000 in
theorem cells_evsL : Tryd.prog.cellsOf 33 = 1 := by kernel_rfl
set_option maxRecDepth 100000 in
theorem cells_rgsL : Tryd.prog.cellsOf 34 = 1 := by kernel_rfl
instance : Inhabited Rg := ⟨⟨0, 0, 0, 0⟩⟩
def Rg.ok (g : Rg) : Prop := Int64 g.a ∧ Int64 g.b ∧ Int64 g.c ∧ Int64 g.d
theorem rdv_rg (h : DataW.trod enc Tryd.prog w base spare held fuel 31 cs = some x) : ∃ g : Rg, cs = g.cells ∧ g.ok := by
  obtain ⟨a, b, c, d, rfl, h1, h2, h3, h4⟩ := rdv_rng h
  exact ⟨⟨a, b, c, d⟩, rfl, h1, h2, h3, h4⟩
set_option maxRecDepth 100000 in
theorem rdv_rgs (h : DataW.trod enc Tryd.prog w base spare held fuel 34 cs = some x) : ∃ (A : Option Addr) (c : Nat) (xs : List Rg), cs = [.slice A xs.length c] ∧ Sl Rg.cells 4 w w.heap.size A xs ∧ (∀ a ∈ xs, a.ok) ∧ xs.length ≤ c ∧ c ≤ 9223372036854775807 :=
  rdv_slice (ok := Rg.ok) Tryd.underlying34 cells_rng (by omega) Rg.cells_len (fun _ _ _ h => rdv_rg h) h
set_option maxRecDepth 100000 in
theorem rdv_msg (h : DataW.trod enc Tryd.prog w base spare held fuel 36 cs = some x) : ∃ r : MsgM, cs = r.cells.toList ∧ r.In w ∧ r.Wide := by
  obtain ⟨hl, n, hf⟩ := rdv_field Tryd.underlying36 h
  obtain ⟨a0, a1, a2, a3, a4, a5, a6, a7, a8, a9, b0, b1, b2, b3, b4, b5, b6, b7, b8, b9, c0, rfl⟩ := list21 (hl.trans cells_msg)
  obtain ⟨_, h0⟩ := hf 0 3 0 1 rfl cells_int
  obtain ⟨_, h1⟩ := hf 1 23 1 3 rfl cells_tx
  obtain ⟨_, h2⟩ := hf 2 26 4 2 rfl cells_bat
  obtain ⟨_, h3⟩ := hf 3 28 6 3 rfl cells_stamp
  obtain ⟨_, h4⟩ := hf 4 3 9 1 rfl cells_int
  obtain ⟨_, h5⟩ := hf 5 29 10 1 rfl cells_intsL
  obtain ⟨_, h6⟩ := hf 6 4 11 1 rfl cells_boo
  obtain ⟨_, h7⟩ := hf 7 31 12 4 rfl cells_rng
  obtain ⟨_, h8⟩ := hf 8 32 16 1 rfl cells_smsL
  obtain ⟨_, h9⟩ := hf 9 3 17 1 rfl cells_int
  obtain ⟨_, h10⟩ := hf 10 3 18 1 rfl cells_int
  obtain ⟨_, h11⟩ := hf 11 33 19 1 rfl cells_evsL
  obtain ⟨_, h12⟩ := hf 12 34 20 1 rfl cells_rgsL
  obtain ⟨n0, e0, w0⟩ := rdv_int h0
  obtain ⟨x1, x2, x3, e1, w1⟩ := rdv_tx h1
  obtain ⟨key, Ap, cp, ps, e2, w2⟩ := rdv_batch h2
  obtain ⟨⟨s1, s2, s3⟩, e3, w3⟩ := rdv_st h3
  obtain ⟨n4, e4, w4⟩ := rdv_int h4
  obtain ⟨An, cn, ns, e5, w5⟩ := rdv_ints h5
  obtain ⟨n6, e6⟩ := rdv_bool h6
  obtain ⟨z1, z2, z3, z4, e7, w7⟩ := rdv_rng h7
  obtain ⟨As, ca, ss, e8, w8⟩ := rdv_sms h8
  obtain ⟨n9, e9, w9⟩ := rdv_int h9
  obtain ⟨n10, e10, w10⟩ := rdv_int h10
  obtain ⟨Ae, ce, es, e11, w11⟩ := rdv_evs h11
  obtain ⟨Ag, cg, gs, e12, w12⟩ := rdv_rgs h12
  simp [intC, St.cells] at e0 e1 e2 e3 e4 e5 e6 e7 e8 e9 e10 e11 e12
  obtain ⟨e1a, e1b, e1c⟩ := e1
  obtain ⟨e2a, e2b⟩ := e2
  obtain ⟨e3a, e3b, e3c⟩ := e3
  obtain ⟨e7a, e7b, e7c, e7d⟩ := e7
  subst e0 e1a e1b e1c e2a e2b e3a e3b e3c e4 e5 e6 e7a e7b e7c e7d e8 e9 e10 e11 e12
  refine ⟨⟨n0, x1, x2, x3, key, Ap, cp, ps, ⟨s1, s2, s3⟩, n4, An, cn, ns, n6, z1, z2, z3, z4, As, ca, ss, n9, n10, Ae, ce, es, Ag, cg, gs⟩, rfl, ⟨w2.2.1, w5.1, w8.1, w11.1, w12.1⟩, ?_⟩
  exact { kind := w0, x1 := w1.1, x2 := w1.2.1, x3 := w1.2.2, code := w4, firsts := w5.2.1, z1 := w7.1, z2 := w7.2.1, z3 := w7.2.2.1, z4 := w7.2.2.2, src := w9, total := w10, rgs := w12.2.1, st := w3, puts := w2.2.2.2, firstsL := Nat.le_trans w5.2.2.1 w5.2.2.2, rgsL := Nat.le_trans w12.2.2.1 w12.2.2.2, keyL := w2.1, psO := w2.2.2.1, smO := w8.2, esL := Nat.le_trans w11.2.2.1 w11.2.2.2, esO := evsOkE w11.2.1 }
end
section
variable {H : Type} {enc : TypeId × Value → H} {w : World} {base b0 : Nat} {spare : Nat → Bool} {held : Bool} {r : Reach} {v : Value} {d : DataW H} {p : List MemPlace}
set_option maxRecDepth 100000 in
theorem in_msg (hv : Value.okWide Tryd.prog w r b0 36 v) (h : DataW.Trod enc Tryd.prog w base spare held 36 v d p) : ∃ x : MsgM, v = .agg x.cells ∧ x.In w ∧ x.Wide := by
  obtain ⟨cs, rfl, hsz⟩ := okWide_struct Tryd.underlying36 hv
  obtain ⟨fuel, hf⟩ := h
  obtain ⟨x, e, hx⟩ := rdv_msg hf
  obtain ⟨l⟩ := cs
  simp [Value.cells] at e
  subst e
  exact ⟨x, rfl, hx⟩
set_option maxRecDepth 100000 in
theorem in_tx (hv : Value.okWide Tryd.prog w r b0 23 v) (h : DataW.Trod enc Tryd.prog w base spare held 23 v d p) : ∃ a b c, v = .agg #[.int .i64 a, .int .i64 b, .int .i64 c] ∧ Int64 a ∧ Int64 b ∧ Int64 c := by
  obtain ⟨cs, rfl, hsz⟩ := okWide_struct Tryd.underlying23 hv
  obtain ⟨fuel, hf⟩ := h
  obtain ⟨a, b, c, e, hx⟩ := rdv_tx hf
  obtain ⟨l⟩ := cs
  simp [Value.cells] at e
  subst e
  exact ⟨a, b, c, rfl, hx⟩
set_option maxRecDepth 100000 in
theorem in_u8 (hv : Value.okWide Tryd.prog w r b0 5 v) (h : DataW.Trod enc Tryd.prog w base spare held 5 v d p) : ∃ c : UInt8, v = .int .u8 c.toNat ∧ True := by
  obtain ⟨n, rfl⟩ := okWide_int Tryd.underlying5 hv
  obtain ⟨fuel, hf⟩ := h
  obtain ⟨b, e, _⟩ := rdv_u8 hf
  simp [Value.cells, byteC] at e
  subst e
  exact ⟨b, rfl, trivial⟩
end
end Go.Proofs.YtheogchkelmeeaaDoor

/- Several texts in one: MsgBackLaw, MsgDec. -/
import Derived.Test.YtheogchkelmeeaaDoorM46MsgFirst
import Derived.Test.YtheogchkelmeeaaDoorMsgOnlyLawQMsgFirst
import Derived.Test.YtheogchkelmeeaaDoorMsgDecLawQMsgFirst
import Derived.Test.YtheogchkelmeeaaDoorMsgRdMQMsgFirst
/- How many bytes a message that is looked at has; sizes that it bears. Plain mathematics. No condition. -/
namespace Go.Proofs.YtheogchkelmeeaaDoor
open Go.RowKit

theorem docM_only {p : MsgP} (hk : kOk p.kind = true) : docM p.only = docM p := by
  obtain ⟨kind, x1, x2, x3, key, ps, st, code, firsts, yes, r1, r2, r3, r4, sms, src, total, es, rgs⟩ := p
  rcases mkind_cases2 hk with h | h | h | h | h | h | h | h | h
  all_goals (dsimp only at h; subst h; rfl)
theorem docM_len {r : MsgM} (hb : msgBulk r ≤ 6000) (hk : kOk r.kind = true) : (docM r.only.p).length ≤ 490000 := by
  rw [MsgM.only_p, docM_only hk]
  have hb0 := batchOf_le 6000 r.key r.ps
  have hs0 := smsBulk_le 6000 r.sms
  have he0 := evBulk_le 6000 r.es
  have h0 := sumTo_up (top := 6000) (by omega) (l := [smsBulk 6000 r.sms, evBulk 6000 r.es, (r.firsts.length : Int), (r.rgs.length : Int)]) (n := batchOf 6000 r.key r.ps) (by simp; omega) hb
  simp only [List.sum_cons, List.sum_nil, Int.add_zero] at h0
  have h1 := nLs_len [r.x1, r.x2, r.x3]
  have h2 := nLs_len [r.z1, r.z2, r.z3, r.z4]
  have h3 := nL_len r.code
  have h4 := nL_len r.src
  have h5 := nLs_len r.firsts
  have h7 := vL_len r.firsts.length
  have h8 := stL_len r.st
  have h9 := batL_fine2 (key := r.key) (ps := r.ps) (by omega)
  have h10 := sms_fine (ss := r.sms) (by omega)
  have h11 := vL_len (r.sms.map SmM.sm).length
  rw [List.length_map] at h11
  have h13 : ([if r.yes = true then 1 else 0] : List UInt8).length = 1 := rfl
  have h14 : ([UInt8.ofNat r.kind.toNat] : List UInt8).length = 1 := rfl
  have h15 := nLs_len [r.src, r.total]
  have h16 := vL_len r.es.length
  have h17 := flat_units evL (fun e => (e.stream.size : Int) + e.data.size) r.es fun e _ => evL_units e
  have h18 := evBulk_sum (es := r.es) (by omega)
  have h19 := vL_len r.rgs.length
  have h20 := flatLe (fun g => nLs (rgNs g)) 40 r.rgs fun g _ => by
    have := nLs_len (rgNs g)
    rw [show (rgNs g).length = 4 from rfl] at this
    omega
  rw [show [r.x1, r.x2, r.x3].length = 3 from rfl] at h1
  rw [show [r.z1, r.z2, r.z3, r.z4].length = 4 from rfl] at h2
  rw [show [r.src, r.total].length = 2 from rfl] at h15
  unfold docM MsgM.p
  dsimp only
  repeat' split
  all_goals (simp only [List.length_append, List.length_map, List.length_cons, List.length_nil]; omega)
theorem docM_pos (p : MsgP) : 0 < (docM p).length := by
  unfold docM
  dsimp only
  repeat' split
  all_goals (simp only [List.length_append, List.length_cons, List.length_nil]; omega)
theorem msg_fits {r : MsgM} (h : r.Small) : r.p.Fits where
  key := by
    have := h.key
    show r.key.size < _
    omega
  ps := fun p hp => by
    obtain ⟨m, hm, rfl⟩ := List.mem_map.1 hp
    have h1 := h.ps.2 m hm
    exact ⟨by have := h1.1; show m.stream.size < _; omega, fun d hd => by have := h1.2.2.2 d hd; omega⟩
  sms := fun s hs => by
    obtain ⟨m, hm, rfl⟩ := List.mem_map.1 hs
    obtain ⟨h1, h2, h3, h4⟩ := (h.sms m hm).1
    exact ⟨by show m.name.size < _; omega, by have := h2.1; show m.es.length < _; omega, by show m.ks.length < _; omega, fun k hk => by have := h4 k hk; omega⟩
  es := fun e he => by have := (h.es e he).1.1; omega
theorem evBytes_ge (e : Ev) : e.stream.size + e.data.size ≤ (evBytes e).length := by
  unfold evBytes textL
  simp only [List.length_append, data_len]
  omega
theorem ev_sizes {M : Nat} {e : Ev} (ho : evOk e = true) (h : (evL e).length ≤ M) : e.stream.size ≤ M ∧ e.data.size ≤ M := by
  rw [evL_some ho] at h
  have := evBytes_ge e
  omega
end Go.Proofs.YtheogchkelmeeaaDoor
/- msg.Decode: what it answers. Conditions: at most 500000 bytes; the decoder's tables lie as the library lays them. -/
namespace Go.Proofs.YtheogchkelmeeaaDoor
open Go.RowKit

/-- What reading bytes as a message answers. -/
def RetMsg (w : World) (l : List UInt8) (e : Ending) (w' : World) : Prop :=
  ∃ (v : Value) (c : Int), e = .returned (.tuple #[v, .int .i64 c]) ∧ ((∃ m : MsgM, v = m.iface ∧ decM l = some m.p ∧ c = 0 ∧ m.Small ∧ m.only = m ∧ kOk m.kind = true ∧ m.In w') ∨ (decM l = none ∧ c = 10 ∧ v = .nilIface)) ∧ G w w'
theorem msmall_of {m : MsgM} {k : Int} (hk : Int64 k) (hf : m.Fit0) (hp : MFine 500000 k m.p) : m.Small := by
  have i : ∀ x : Int, inM x → Int64 x := fun x h => ⟨by have := h.1; omega, by have := h.2; omega⟩
  have e1 : m.kind = k := hp.kind
  have e2 : (m.sms.map SmM.sm).length ≤ 1000 := hp.smsL
  rw [List.length_map] at e2
  have e3 : m.firsts.length ≤ 1000 := hp.firstsL
  have e4 : m.es.length ≤ 1000 := hp.esL
  have e5 : m.rgs.length ≤ 1000 := hp.rgsL
  exact { kind := by rw [e1]; exact hk, x1 := i _ hp.x1, x2 := i _ hp.x2, x3 := i _ hp.x3, code := i _ hp.code, firsts := fun x hx => i x (hp.firsts x hx), z1 := i _ hp.r1, z2 := i _ hp.r2, z3 := i _ hp.r3, z4 := i _ hp.r4, src := i _ hp.src, total := i _ hp.total, rgs := fun g hg => ⟨i _ (hp.rgs g hg).1, i _ (hp.rgs g hg).2.1, i _ (hp.rgs g hg).2.2.1, i _ (hp.rgs g hg).2.2.2⟩, firstsL := by omega, key := hf.key, ps := hf.ps, bat := hp.bat, smsL := by omega, sms := fun s hs => ⟨hf.sms s hs, hp.sms s.sm (List.mem_map.2 ⟨s, hs, rfl⟩)⟩, esL := by omega, es := fun e he => ⟨by have := ev_sizes (hp.esO e he) (hp.es e he); omega, hp.es e he⟩, rgsL := by omega }
set_option maxRecDepth 100000 in
theorem msgDec_nil (A : Option Addr) (c8 : Nat) (w : World) : Calls Tryd.prog 26 #[.slice A 0 c8] w (RetMsg w []) := by
  go_enter Tryd.func26, Tryd.ntmps26
  go_wp2_with fail
  go_ret2
  exact ⟨_, 10, rfl, .inr ⟨rfl, rfl, rfl⟩, G.refl _⟩
set_option maxRecDepth 100000 in
set_option maxHeartbeats 8000000 in
theorem msgDec_cons (b : UInt8) (q : List UInt8) (A : Option Addr) (c8 : Nat) (w : World) (hs : Sl byteC 1 w w.heap.size A (b :: q)) (hl : (b :: q).length ≤ 500000) (hcap : (b :: q).length ≤ c8) (hT : Tabs w) :
    Calls Tryd.prog 26 #[.slice A (b :: q).length c8] w (RetMsg w (b :: q)) := by
  obtain ⟨A', hrun, hsl⟩ := run_tail (b :: q) A c8 1 (by simp) hcap
  obtain ⟨bb, o, rfl, hbB, hcell⟩ := hs.get (k := 0) (x := b) rfl
  have cb := hcell 0 _ rfl
  simp only [Nat.zero_mul, Nat.add_zero] at cb
  have hbx := b.toNat_lt
  have hwr : IntKind.i64.wrap (b.toNat : Int) = (b.toNat : Int) := IntWalk.i64_in _ (by omega)
  have hlq : (b :: q).length = q.length + 1 := rfl
  have t0 : (((b :: q).length : Int) == 0) = false := by rw [beq_eq_false_iff_ne, hlq]; omega
  have n1 : (0 : Int) < ((b :: q).length : Int) := by rw [hlq]; omega
  have hrun1 : ∀ w, (Instr.slice 50 (.slice (some ⟨bb, o, none⟩) (b :: q).length c8) (some (.int .i64 1)) none none).run Tryd.prog w = .ok (.slice A' q.length (c8 - 1)) w := fun w => hrun w
  have hsq := hsl w w.heap.size hs
  rw [List.drop_one, List.tail_cons] at hsq
  generalize hN : (b :: q).length = N at *
  have hg0 := G.new w (.cells #[.slice A' q.length (c8 - 1), .bool false] 121)
  have R0 := blk_new w #[.slice A' q.length (c8 - 1), .bool false] 121
  have cb0 := (hg0.cell hbB).trans cb
  have hrd : BrS 121 w.heap.size w.heap.size 500000 (some q) (w.alloc (.cells #[.slice A' q.length (c8 - 1), .bool false] 121)) := ⟨A', q, c8 - 1, R0, hsq.g (Nat.le_refl _) hg0, Nat.le_refl _, by omega, by omega, fun l' e => by cases e; rfl⟩
  have hm := mrMsg_any w.heap.size w.heap.size 500000 (b.toNat : Int) (some q) _ hrd (by omega) (fun w' hb => hT.g (hg0.gOf' hb (fun k hk => by have e : k = w.heap.size := hk; omega)))
  have hlq2 : q.length ≤ 500000 := by omega
  replace hN := Lib.hid hN
  replace hlq := Lib.hid hlq
  replace hcell := Lib.hid hcell
  replace cb := Lib.hid cb
  replace hT := Lib.hid hT
  replace hsl := Lib.hid hsl
  replace hsq := Lib.hid hsq
  replace hm := Lib.hid hm
  clear hrun hrd R0
  go_enter Tryd.func26, Tryd.ntmps26
  go_upto_region 4 with fail
  generalize w.alloc (.cells #[.slice A' q.length (c8 - 1), .bool false] 121) = W1 at *
  go_upto_region 5 with (go_at_call 55; (with_reducible refine Calls.mono hm.out ?_); rintro e w4 ⟨v, st, rfl, hr4, hb4, hv⟩)
  clear hm cb0 hrun1
  have hG4 : G w w4 := hg0.gOf' hb4 (fun k hk => by have e : k = w.heap.size := hk; omega)
  have hc1 := hr4.c1
  obtain ⟨A9, l9, c9, R9, _, _, hl9, hst9⟩ := hr4.any
  have hc0 := (blk_cell R9 0).trans (show _ = some (.slice A9 l9.length c9) from rfl)
  replace R9 := Lib.hid R9
  replace hr4 := Lib.hid hr4
  replace hb4 := Lib.hid hb4
  replace hst9 := Lib.hid hst9
  cases st with
  | none =>
    simp only [Option.isNone_none] at hc1
    have hno : decM (b :: q) = none := by
      rcases hv with ⟨m, _, _, _, _, hgv, _⟩ | ⟨hk, _, _⟩
      · unfold decM
        dsimp only
        rw [hgv.miss]
      · exact decM_no hk
    replace hno := Lib.hid hno
    replace hv := Lib.hid hv
    clear hc0
    go_wp2_with fail
    go_ret2
    exact ⟨_, 10, rfl, .inr ⟨hno.out, rfl, rfl⟩, hG4⟩
  | some lx =>
    obtain rfl := hst9.out lx rfl
    simp only [Option.isNone_some] at hc1
    obtain ⟨m, rfl, hmk, hk, hmo, hgv, hmi, hmf⟩ : ∃ m : MsgM, v = m.iface ∧ m.kind = (b.toNat : Int) ∧ kOk (b.toNat : Int) = true ∧ m.only = m ∧ Gives (dMsg (b.toNat : Int)) (some q) (some lx) m.p ∧ m.In w4 ∧ m.Fit0 := by
      rcases hv with ⟨m, h1, h2, h3, h4, h5, h6, h7⟩ | ⟨_, h, _⟩
      · exact ⟨m, h1, h2, h3, h4, h5, h6, h7⟩
      · cases h
    have hhit := hgv.hit
    by_cases hle : lx = []
    · subst hle
      have hp := (dMsgX_c rdsc_msg (M := 500000) hhit hlq2).2.1
      have hsm := msmall_of (k := (b.toNat : Int)) ⟨by omega, by omega⟩ hmf hp
      have hkm : kOk m.kind = true := by rw [hmk]; exact hk
      have hdec : decM (b :: q) = if chkM m.p = true then some m.p else none := by
        unfold decM
        dsimp only
        rw [hhit]
      have hch := msgCheck_any m w4 hkm hmi hsm (hT.out.g hG4)
      rw [hmo] at hch
      have hpo : m.p = m.p.only := by rw [← MsgM.only_p, hmo]
      rw [hpo, encM_eq, ← hpo] at hch
      replace hhit := Lib.hid hhit
      replace hgv := Lib.hid hgv
      replace hp := Lib.hid hp
      replace hmi := Lib.hid hmi
      replace hmf := Lib.hid hmf
      replace hsm := Lib.hid hsm
      replace hmo := Lib.hid hmo
      replace hmk := Lib.hid hmk
      replace hk := Lib.hid hk
      replace hkm := Lib.hid hkm
      replace hpo := Lib.hid hpo
      cases hck : chkM m.p with
      | false =>
        rw [hck] at hch hdec
        have hno := Lib.hid hdec
        replace hch : Calls Tryd.prog 21 #[m.iface] w4 fun e w' => e = .returned (.int .i64 1) ∧ G w4 w' := hch
        replace hch := Lib.hid hch
        replace hck := Lib.hid hck
        clear hdec
        generalize hiv : m.iface = iv at *
        replace hiv := Lib.hid hiv
        go_wp2_with (go_at_call 21; (with_reducible refine Calls.mono hch.out ?_); rintro e w5 ⟨rfl, hg5⟩)
        go_ret2
        exact ⟨_, 10, rfl, .inr ⟨hno.out, rfl, rfl⟩, hG4.trans hg5⟩
      | true =>
        rw [hck] at hch hdec
        have hyes := Lib.hid hdec
        replace hch : Calls Tryd.prog 21 #[m.iface] w4 fun e w' => e = .returned (.int .i64 0) ∧ G w4 w' := hch
        replace hch := Lib.hid hch
        replace hck := Lib.hid hck
        clear hdec
        generalize hiv : m.iface = iv at *
        replace hiv := Lib.hid hiv
        go_wp2_with (go_at_call 21; (with_reducible refine Calls.mono hch.out ?_); rintro e w5 ⟨rfl, hg5⟩)
        go_ret2
        exact ⟨iv, 0, rfl, .inl ⟨m, hiv.out.symm, hyes.out, rfl, hsm.out, hmo.out, hkm.out, hmi.out.g hg5⟩, hG4.trans hg5⟩
    · have hno : decM (b :: q) = none := by
        unfold decM
        dsimp only
        rw [hhit]
        cases lx with
        | nil => exact absurd rfl hle
        | cons x y => rfl
      have hpos := List.length_pos_iff.2 hle
      have hpos2 : decide (0 < lx.length) = true := decide_eq_true hpos
      replace hno := Lib.hid hno
      replace hhit := Lib.hid hhit
      replace hgv := Lib.hid hgv
      replace hmi := Lib.hid hmi
      replace hmf := Lib.hid hmf
      replace hmo := Lib.hid hmo
      replace hmk := Lib.hid hmk
      replace hk := Lib.hid hk
      generalize m.iface = iv at *
      clear hle
      go_wp2_with fail
      go_ret2
      exact ⟨_, 10, rfl, .inr ⟨hno.out, rfl, rfl⟩, hG4⟩
theorem msgDec_any (l : List UInt8) (A : Option Addr) (c8 : Nat) (w : World) (hs : Sl byteC 1 w w.heap.size A l) (hl : l.length ≤ 500000) (hcap : l.length ≤ c8) (hT : Tabs w) :
    Calls Tryd.prog 26 #[.slice A l.length c8] w (RetMsg w l) := by
  cases l with
  | nil => exact msgDec_nil A c8 w
  | cons b q => exact msgDec_cons b q A c8 w hs hl hcap hT
end Go.Proofs.YtheogchkelmeeaaDoor

/- Several texts in one: Awake10, MsgWay, MsgFirstW, ReadStr. -/
import Derived.Test.YtheogchkelmeeaaDoorM48MsgFirst
import Derived.Test.YtheogchkelmeeaaDoorM47MsgFirst
import Derived.Test.YtheogchkelmeeaaDoorMsgOnlyQMsgFirst
import Derived.Test.YtheogchkelmeeaaDoorM2MsgFirst
import Derived.Test.YtheogchkelmeeaaDoorRows
import Derived.ProofKit
import Derived.OpenShut
import Derived.PinnedBridge
import Derived.Lib.LaidU8T
import Derived.Lay
import Derived.SevenTiedAt
import Derived.LaidMore
/- penstocklaw10.awake answers true. No condition. -/
namespace Go.Proofs.YtheogchkelmeeaaDoor
open Go.RowKit

set_option maxRecDepth 100000 in
theorem awakeF_any (w : World) : Calls Tryd.prog 32 #[] w fun e w' => ∃ u pv, e = .panicked [{ v := .iface u pv, recovered := false }] ∧ G w w' := by
  have hm := fun w' => mustFeed_no 3 (.int .i64 7) w' (by decide)
  replace hm := Lib.hid hm
  go_enter Tryd.func32, Tryd.ntmps32
  go_wp2_with fail
  (with_reducible refine Calls.mono (hm.out _) ?_)
  rintro e w1 ⟨u, pv, rfl, hg⟩
  go_wp2_with fail
  exact ⟨rfl, u, pv, rfl, hg⟩
set_option maxRecDepth 100000 in
set_option maxHeartbeats 1000000 in
theorem awake10_any (w : World) : Calls Tryd.prog 9 #[] w fun e w' => e = .returned (.bool true) ∧ G w w' := by
  have he := fun w' => msgEnc_no .nilIface w' kindNil_any
  have hk := fun w' => kind4_any (.agg #[.int .i64 0, .int .i64 0, .int .i64 0]) w'
  have hp := fun w' => panics_yes 32 #[] w' (fun w => by kernel_rfl) (fun w'' _ => awakeF_any w'')
  replace he := Lib.hid he
  replace hk := Lib.hid hk
  replace hp := Lib.hid hp
  go_enter Tryd.func9, Tryd.ntmps9
  go_wp2_with (first
    | (go_at_call 18; (with_reducible refine Calls.mono (he.out _) ?_); rintro e w1 ⟨A1, c1, rfl, _, hg1⟩)
    | (go_at_call 19; (with_reducible refine Calls.mono (hk.out _) ?_); rintro e w2 ⟨rfl, hg2⟩)
    | (go_at_call 15; (with_reducible refine Calls.mono (hp.out _) ?_); rintro e w3 ⟨rfl, hg3⟩))
  go_ret
  exact ⟨rfl, (hg1.trans hg2).trans hg3⟩
end Go.Proofs.YtheogchkelmeeaaDoor
/- What msg's laws that go back want. Conditions: lengths as told; the decoder's tables lie as the library lays them. -/
namespace Go.Proofs.YtheogchkelmeeaaDoor
open Go.RowKit

/-- A message as bytes and back: what a walk wants of it. -/
theorem msgDec_yes {l : List UInt8} {p : MsgP} (h : decM l = some p) (A : Option Addr) (c8 : Nat) (w : World) (hs : Sl byteC 1 w w.heap.size A l) (hl : l.length ≤ 500000) (hcap : l.length ≤ c8) (hT : Tabs w) :
    Calls Tryd.prog 26 #[.slice A l.length c8] w fun e w' => ∃ x : MsgM, e = .returned (.tuple #[x.iface, .int .i64 0]) ∧ G w w' ∧ x.p = p ∧ x.Small ∧ x.only = x ∧ kOk x.kind = true ∧ x.In w' := by
  refine (msgDec_any l A c8 w hs hl hcap hT).mono ?_
  rintro e w' ⟨v, c, rfl, ⟨m, rfl, h1, rfl, h2, h3, h4, h5⟩ | ⟨h1, _, _⟩, hg⟩
  · rw [h] at h1
    exact ⟨m, rfl, hg, (Option.some.inj h1).symm, h2, h3, h4, h5⟩
  · rw [h] at h1; cases h1
theorem msgDec_no {l : List UInt8} (h : decM l = none) (A : Option Addr) (c8 : Nat) (w : World) (hs : Sl byteC 1 w w.heap.size A l) (hl : l.length ≤ 500000) (hcap : l.length ≤ c8) (hT : Tabs w) :
    Calls Tryd.prog 26 #[.slice A l.length c8] w fun e w' => e = .returned (.tuple #[.nilIface, .int .i64 10]) ∧ G w w' := by
  refine (msgDec_any l A c8 w hs hl hcap hT).mono ?_
  rintro e w' ⟨v, c, rfl, ⟨m, _, h1, _⟩ | ⟨_, rfl, rfl⟩, hg⟩
  · rw [h] at h1; cases h1
  · exact ⟨rfl, hg⟩
/-- What is made and written of a message with the fields alone that its kind names, where it may not be written: no byte, and an error. -/
theorem made_bad {m : MsgM} (w : World) (hin : ∀ w', G w w' → m.In w') (hok : m.Small) (ho : m.only = m) (hT : ∀ w', G w w' → Tabs w') (hc : kOk m.kind = true → chkM m.p = false) :
    ∃ cd : Int, (cd != 0) = true ∧ ∀ w', G w w' → Calls Tryd.prog 11 #[.agg m.cells] w' fun e w1 => ∃ v, e = .returned v ∧ G w' w1 ∧ ∀ w2, G w w2 → Calls Tryd.prog 18 #[v] w2 fun e w3 => ∃ A c, e = .returned (.tuple #[.slice A 0 c, .int .i64 cd]) ∧ G w2 w3 := by
  cases hk : kOk m.kind with
  | false =>
    refine ⟨12, rfl, fun w' hg => (made_any m w').mono ?_⟩
    rintro e w1 ⟨v, rfl, hg1, h⟩
    refine ⟨v, rfl, hg1, fun w2 _ => ?_⟩
    rcases h with ⟨h, _⟩ | ⟨_, hno⟩
    · rw [hk] at h; cases h
    · refine (enc_noMsg hno w2).mono ?_
      rintro e w'' ⟨A, c, rfl, _, hg⟩
      exact ⟨A, c, rfl, hg⟩
  | true =>
    refine ⟨1, rfl, fun w' hg => (made_any m w').mono ?_⟩
    rintro e w1 ⟨v, rfl, hg1, h⟩
    refine ⟨v, rfl, hg1, fun w2 hg2 => ?_⟩
    rcases h with ⟨_, rfl⟩ | ⟨h, _⟩
    · have h1 := msgEnc_any m w2 hk (hin w2 hg2) hok (hT w2 hg2)
      have hp : m.p = m.p.only := by rw [← MsgM.only_p, ho]
      rw [ho, hp, encM_eq, ← hp, hc hk] at h1
      refine h1.mono ?_
      rintro e w'' ⟨A, c, rfl, _, hg⟩
      exact ⟨A, c, rfl, hg⟩
    · rw [hk] at h; cases h
theorem made_good {m : MsgM} (hk : kOk m.kind = true) (w' : World) : Calls Tryd.prog 11 #[.agg m.cells] w' fun e w'' => e = .returned m.iface ∧ G w' w'' := by
  refine (made_any m w').mono ?_
  rintro e w'' ⟨v, rfl, hg, ⟨_, rfl⟩ | ⟨h, _⟩⟩
  · exact ⟨rfl, hg⟩
  · rw [hk] at h; cases h
theorem enc_good {m : MsgM} (hk : kOk m.kind = true) (ho : m.only = m) (hc : chkM m.p = true) (w : World) (hin : m.In w) (hok : m.Small) (hT : Tabs w) : Calls Tryd.prog 18 #[m.iface] w fun e w' => ∃ A c, e = .returned (.tuple #[.slice A (docM m.p).length c, .int .i64 0]) ∧ OwnL 5 1 byteC w' w.heap.size (.slice A (docM m.p).length c) (docM m.p) ∧ G w w' := by
  have h1 := msgEnc_any m w hk hin hok hT
  have hp : m.p = m.p.only := by rw [← MsgM.only_p, ho]
  rw [ho, hp, encM_eq, ← hp, hc] at h1
  exact h1
end Go.Proofs.YtheogchkelmeeaaDoor
/- penstocklaw10.MsgFirst: the walk. Condition: the decoder's tables lie as the library lays them. -/
namespace Go.Proofs.YtheogchkelmeeaaDoor
open Go.RowKit

theorem docM_two (p : MsgP) (hk : kOk p.kind = true) : 2 ≤ (docM p).length := by
  have h1 : ∀ x : Int, 0 < (nL x).length := fun x => vL_pos _
  have h2 : ∀ (x : Int) (l : List Int), 0 < (nLs (x :: l)).length := fun x l => by
    have := h1 x
    simp only [nLs, List.flatMap_cons, List.length_append]
    omega
  obtain ⟨kind, x1, x2, x3, key, ps, st, code, firsts, yes, r1, r2, r3, r4, sms, src, total, es, rgs⟩ := p
  have a1 := h2 x1 [x2, x3]
  have a2 := h2 r1 [r2, r3, r4]
  have a3 := h1 src
  have a4 := h2 src [total]
  rcases mkind_cases2 hk with h | h | h | h | h | h | h | h | h
  all_goals
    dsimp only at h
    subst h
    simp [docM]
    omega
set_option maxRecDepth 100000 in
set_option maxHeartbeats 8000000 in
theorem msgFirst_walk (r : MsgM) (c : UInt8) (w : World) (hin : r.In w) (hi : r.Wide) (hT : Tabs w) : Calls Tryd.prog 7 #[.agg r.cells, .int .u8 c.toNat] w fun e w' => e = .returned (.bool true) ∧ G w w' := by
  have hg0 := G.new w (.cells r.cells 36)
  have B0 := blk_new w r.cells 36
  have LR0 := load_blk (P := Tryd.prog) (T := 36) B0 Tryd.underlying36 rfl (by kernel_rfl)
  have hsm := small10_any r (w.alloc (.cells r.cells 36)) (hin.g hg0) hi
  have haw := fun w' => awake10_any w'
  replace haw := Lib.hid haw
  replace hg0 := Lib.hid hg0
  replace B0 := Lib.hid B0
  cases hb : decide (msgBulk r ≤ 6000) with
  | false =>
    rw [hb] at hsm
    replace hb := Lib.hid hb
    replace hin := Lib.hid hin
    replace hi := Lib.hid hi
    replace hT := Lib.hid hT
    replace hsm := Lib.hid hsm
    go_enter Tryd.func7, Tryd.ntmps7
    go_upto_region 1 with fail
    generalize w.alloc (.cells r.cells 36) = W0 at *
    go_wp2_with (first | (refine wpList_load_at rfl (by kernel_rfl) (p := .pointer (some ⟨_, 0, none⟩)) rfl LR0 ?_) | (go_at_call 8; (with_reducible refine Calls.mono hsm.out ?_); rintro e w1 ⟨rfl, hg1⟩) | (go_at_call 9; (with_reducible refine Calls.mono (haw.out _) ?_); rintro e w2 ⟨rfl, hg2⟩))
    go_ret
    exact ⟨rfl, (hg0.out.trans hg1).trans hg2⟩
  | true =>
    rw [hb] at hsm
    have hbk6 : msgBulk r ≤ 6000 := of_decide_eq_true hb
    have hok := (msg_small hi hbk6).only
    have hin' : ∀ w', G w w' → r.only.In w' := fun w' hg => (hin.g hg).only
    have honly := r.only_only
    have hon := fun w' => monly_any r w'
    have hdl : kOk r.only.kind = true → (docM r.only.p).length ≤ 490000 := fun hk => docM_len hbk6 (by rw [MsgM.only_kind] at hk; exact hk)
    generalize r.only = m at *
    replace hb := Lib.hid hb
    replace hbk6 := Lib.hid hbk6
    replace hin := Lib.hid hin
    replace hi := Lib.hid hi
    replace hsm := Lib.hid hsm
    replace hon := Lib.hid hon
    by_cases hgood : kOk m.kind = true ∧ chkM m.p = true
    case neg =>
      obtain ⟨cd, hcd, hmd⟩ := made_bad w hin' hok honly (fun w' hg => hT.g hg) (fun hk => by
        cases hc : chkM m.p with
        | false => rfl
        | true => exact absurd ⟨hk, hc⟩ hgood)
      replace hmd := Lib.hid hmd
      replace hok := Lib.hid hok
      replace hin' := Lib.hid hin'
      replace honly := Lib.hid honly
      replace hT := Lib.hid hT
      replace hdl := Lib.hid hdl
      clear hgood
      go_enter Tryd.func7, Tryd.ntmps7
      go_upto_region 1 with fail
      generalize w.alloc (.cells r.cells 36) = W0 at *
      go_upto_region 3 with (first | (refine wpList_load_at rfl (by kernel_rfl) (p := .pointer (some ⟨_, 0, none⟩)) rfl LR0 ?_) | (go_at_call 8; (with_reducible refine Calls.mono hsm.out ?_); rintro e w1 ⟨rfl, hg1⟩))
      clear LR0 hsm
      have B1 := hg1.blk B0.out
      have hG1 := hg0.out.trans hg1
      have LR1 := load_blk (P := Tryd.prog) (T := 36) B1 Tryd.underlying36 rfl (by kernel_rfl)
      replace B1 := Lib.hid B1
      go_upto_region 4 with (first | (refine wpList_load_at rfl (by kernel_rfl) (p := .pointer (some ⟨_, 0, none⟩)) rfl LR1 ?_) | (go_at_call 10; (with_reducible refine Calls.mono (hon.out _) ?_); rintro e w2 ⟨rfl, hg2⟩; have B2 := hg2.blk B1.out; obtain ⟨w3, SR3, C3, hb3, hG3⟩ := store_blk (P := Tryd.prog) (T := 36) (cs := m.cells) B2 rfl (by kernel_rfl) (by kernel_rfl); have hG3' := hG3 w (hG1.trans hg2) (Nat.le_refl _); replace hG3' := Lib.hid hG3'; clear hb3 hG3 B2) | (refine wpList_store_at (ty := 36) rfl (by kernel_rfl) (p := .pointer (some ⟨w.heap.size, 0, none⟩)) (v := .agg m.cells) rfl rfl SR3 ?_; clear SR3))
      clear LR1 hon
      have hGw3 := hG3'.out
      have LR3 := load_blk (P := Tryd.prog) (T := 36) C3 Tryd.underlying36 rfl (by kernel_rfl)
      replace C3 := Lib.hid C3
      go_wp2_with (first
        | (refine wpList_load_at rfl (by kernel_rfl) (p := .pointer (some ⟨w.heap.size, 0, none⟩)) rfl LR3 ?_; clear LR3)
        | (go_at_call 11; (with_reducible refine Calls.mono (hmd.out _ hGw3) ?_); rintro e w4 ⟨v, rfl, hg4, hen⟩; replace hen := Lib.hid hen; have hG4 := hGw3.trans hg4)
        | (go_at_call 18; (with_reducible refine Calls.mono (hen.out _ hG4) ?_); rintro e w5 ⟨A5, c5, rfl, hg5⟩)
        | (go_at_call 9; (with_reducible refine Calls.mono (haw.out _) ?_); rintro e w9 ⟨rfl, hg9⟩))
      go_ret
      exact ⟨rfl, (hG4.trans hg5).trans hg9⟩
    obtain ⟨hk, hck⟩ := hgood
    have hll := hdl hk
    have hpos := docM_pos m.p
    have hpo : m.p.only = m.p := by rw [← MsgM.only_p, honly]
    have hbk := decM_back hck (msg_fits hok) hpo
    have hen : ∀ w', G w w' → Calls Tryd.prog 18 #[m.iface] w' fun e w'' => ∃ A c, e = .returned (.tuple #[.slice A (docM m.p).length c, .int .i64 0]) ∧ OwnL 5 1 byteC w'' w'.heap.size (.slice A (docM m.p).length c) (docM m.p) ∧ G w' w'' := fun w' hg => enc_good hk honly hck w' (hin' w' hg) hok (hT.g hg)
    have hmd := fun w' => made_good hk w'
    have h2 := docM_two m.p hk
    have hcons : docM m.p = UInt8.ofNat m.kind.toNat :: bodyM m.p := docM_body m.p hk
    have hkb : ((UInt8.ofNat m.kind.toNat).toNat : Int) = m.kind := mkind_byte hk
    obtain ⟨body, hbd⟩ : ∃ b, bodyM m.p = b := ⟨_, rfl⟩
    rw [hbd] at hcons
    have hbl : body.length + 1 = (docM m.p).length := by rw [hcons]; rfl
    have hsame : c = UInt8.ofNat m.kind.toNat → decM (c :: body) = some m.p := fun e => by rw [e, ← hcons]; exact hbk
    have hs0 : (docM m.p)[0]? = some (UInt8.ofNat m.kind.toNat) := by rw [hcons]; rfl
    have hd0 : (docM m.p).drop 1 = body := by rw [hcons]; rfl
    generalize docM m.p = l at *
    have t2 : decide ((l.length : Int) < 2) = false := decide_eq_false (by omega)
    obtain ⟨iv, hiv⟩ : ∃ v, m.iface = v := ⟨_, rfl⟩
    rw [hiv] at hen hmd
    have hcb := c.toNat_lt
    have hwc : IntKind.i64.wrap (c.toNat : Int) = (c.toNat : Int) := IntWalk.i64_in _ (by omega)
    have hk0 : 1 ≤ m.kind ∧ m.kind ≤ 9 := of_decide_eq_true hk
    have hwk : IntKind.i64.wrap m.kind = m.kind := IntWalk.i64_in _ (by omega)
    have hll2 : (c :: body).length ≤ 500000 := by rw [List.length_cons]; omega
    replace hiv := Lib.hid hiv
    replace hen := Lib.hid hen
    replace hmd := Lib.hid hmd
    replace hck := Lib.hid hck
    replace hok := Lib.hid hok
    replace hbk := Lib.hid hbk
    replace hsame := Lib.hid hsame
    replace hcons := Lib.hid hcons
    replace hs0 := Lib.hid hs0
    replace hd0 := Lib.hid hd0
    replace hbl := Lib.hid hbl
    replace hbd := Lib.hid hbd
    replace hk := Lib.hid hk
    replace hin' := Lib.hid hin'
    replace honly := Lib.hid honly
    replace hT := Lib.hid hT
    replace hdl := Lib.hid hdl
    replace hpo := Lib.hid hpo
    replace hk0 := Lib.hid hk0
    replace hkb := Lib.hid hkb
    replace hll2 := Lib.hid hll2
    go_enter Tryd.func7, Tryd.ntmps7
    go_upto_region 1 with fail
    generalize w.alloc (.cells r.cells 36) = W0 at *
    go_upto_region 3 with (first | (refine wpList_load_at rfl (by kernel_rfl) (p := .pointer (some ⟨_, 0, none⟩)) rfl LR0 ?_) | (go_at_call 8; (with_reducible refine Calls.mono hsm.out ?_); rintro e w1 ⟨rfl, hg1⟩))
    clear LR0 hsm
    have B1 := hg1.blk B0.out
    have hG1 := hg0.out.trans hg1
    have LR1 := load_blk (P := Tryd.prog) (T := 36) B1 Tryd.underlying36 rfl (by kernel_rfl)
    replace B1 := Lib.hid B1
    go_upto_region 4 with (first | (refine wpList_load_at rfl (by kernel_rfl) (p := .pointer (some ⟨_, 0, none⟩)) rfl LR1 ?_) | (go_at_call 10; (with_reducible refine Calls.mono (hon.out _) ?_); rintro e w2 ⟨rfl, hg2⟩; have B2 := hg2.blk B1.out; obtain ⟨w3, SR3, C3, hb3, hG3⟩ := store_blk (P := Tryd.prog) (T := 36) (cs := m.cells) B2 rfl (by kernel_rfl) (by kernel_rfl); have hG3' := hG3 w (hG1.trans hg2) (Nat.le_refl _); replace hG3' := Lib.hid hG3'; clear hb3 hG3 B2) | (refine wpList_store_at (ty := 36) rfl (by kernel_rfl) (p := .pointer (some ⟨w.heap.size, 0, none⟩)) (v := .agg m.cells) rfl rfl SR3 ?_; clear SR3))
    clear LR1 hon
    have hGw3 := hG3'.out
    have LR3 := load_blk (P := Tryd.prog) (T := 36) C3 Tryd.underlying36 rfl (by kernel_rfl)
    replace C3 := Lib.hid C3
    go_upto_region 7 with (first
      | (refine wpList_load_at rfl (by kernel_rfl) (p := .pointer (some ⟨w.heap.size, 0, none⟩)) rfl LR3 ?_; clear LR3)
      | (go_at_call 11; (with_reducible refine Calls.mono (hmd.out _) ?_); rintro e w4 ⟨rfl, hg4⟩; have hG4 := hGw3.trans hg4)
      | (go_at_call 18; (with_reducible refine Calls.mono (hen.out _ hG4) ?_); rintro e w5 ⟨A1, d1, rfl, ho1, hg5⟩))
    have hG5 := hG4.trans hg5
    have B5 := hg5.blk (hg4.blk C3.out)
    have hs1 := ho1.self byteC_len
    obtain ⟨_, _, ee, hcd, hcd2, _⟩ := OwnL.sl byteC_len ho1
    cases ee
    obtain ⟨A', hrun, hsl⟩ := run_tail l A1 d1 1 (by omega) hcd
    have hsq := hsl w5 w5.heap.size hs1
    rw [hd0.out] at hsq hrun
    obtain ⟨bb, o, rfl, hbB, hcell⟩ := hs1.get (k := 0) hs0.out
    have cb := hcell 0 _ rfl
    simp only [Nat.zero_mul, Nat.add_zero] at cb
    rw [hkb.out] at cb
    have k0 := (blk_cell B5 0).trans (show _ = some (.int .i64 m.kind) from rfl)
    have n1 : (0 : Int) < (l.length : Int) := by omega
    have hrun1 : ∀ w, (Instr.slice 50 (.slice (some ⟨bb, o, none⟩) l.length d1) (some (.int .i64 1)) none none).run Tryd.prog w = .ok (.slice A' body.length (d1 - 1)) w := fun w => hrun w
    replace hsl := Lib.hid hsl
    replace hcell := Lib.hid hcell
    replace ho1 := Lib.hid ho1
    replace hs1 := Lib.hid hs1
    clear hrun
    go_quiet (fail)
    clear cb k0
    have hAq : A' = none → body = [] := fun h => (h ▸ hsq).of_none
    have hgq := (G.refl w5).drewN nq
    have hGd := hG5.trans hgq
    have B5d := hgq.blk B5
    have hsd := hsq.g (Nat.le_refl _) hgq
    have hzq := hgq.size
    have k0 := (blk_cell B5d 0).trans (show _ = some (.int .i64 m.kind) from rfl)
    generalize w5.drewN nq = wd at *
    obtain ⟨xx, hxx⟩ : ∃ xx, c :: body = xx := ⟨_, rfl⟩
    have hbl2 : body.length ≤ 500000 := by have := hbl.out; omega
    rw [hxx] at hll2 hsame
    replace hAq := Lib.hid hAq
    replace hsd := Lib.hid hsd
    replace B5d := Lib.hid B5d
    replace B5 := Lib.hid B5
    replace hsq := Lib.hid hsq
    replace hxx := Lib.hid hxx
    clear k0
    cases hd : decM xx with
    | none =>
      have hne : ((c.toNat : Int) == m.kind) = false := by
        rw [beq_eq_false_iff_ne]
        intro h
        have e : c = UInt8.ofNat m.kind.toNat := by
          rw [← UInt8.toNat_inj]
          have := hkb.out
          omega
        rw [hsame.out e] at hd
        cases hd
      have hne2 : ((c.toNat : Int) != m.kind) = true := by unfold bne; rw [hne]; rfl
      go_upto_region 10 with (at_builtin; refine wpList_append_but byte_elem _ rfl (.tmp 38) (.tmp 40) rfl wd.heap.size _ [c] rfl (OwnL.made byteC_len [c] (blk_new _ _ _) rfl (Nat.le_refl _) (by simp)) w5.heap.size A' (d1 - 1) body rfl hAq.out (hsd.out.g hzq (G.new _ _)) (by simp; omega) (by simp; omega) (by simp) ?_; intro v6 w6 hown6 hk6 hb6; rw [show [c] ++ body = xx from hxx.out] at hown6; have hg6 := KeepT.g hk6 (G.new wd (.cells #[.int .u8 c.toNat] 5)); obtain ⟨A6, c6, e6, hc6, _, hsl6⟩ := OwnL.sl byteC_len hown6; subst e6; clear hk6 hb6 hown6)
      have hdd := msgDec_no hd A6 c6 w6 hsl6 hll2.out hc6 (hT.out.g (hGd.trans hg6))
      replace hdd := Lib.hid hdd
      replace hd := Lib.hid hd
      have k6 := (blk_cell (hg6.blk B5d.out) 0).trans (show _ = some (.int .i64 m.kind) from rfl)
      go_upto_region 11 with (go_at_call 26; (with_reducible refine Calls.mono hdd.out ?_); rintro e w7 ⟨rfl, hg7⟩)
      clear hdd k6
      have k7 := (blk_cell (hg7.blk (hg6.blk B5d.out)) 0).trans (show _ = some (.int .i64 m.kind) from rfl)
      go_wp2_with (go_at_call 9; (with_reducible refine Calls.mono (haw.out _) ?_); rintro e w8 ⟨rfl, hg8⟩)
      go_ret
      exact ⟨rfl, ((hGd.trans hg6).trans hg7).trans hg8⟩
    | some p =>
      go_upto_region 10 with (at_builtin; refine wpList_append_but byte_elem _ rfl (.tmp 38) (.tmp 40) rfl wd.heap.size _ [c] rfl (OwnL.made byteC_len [c] (blk_new _ _ _) rfl (Nat.le_refl _) (by simp)) w5.heap.size A' (d1 - 1) body rfl hAq.out (hsd.out.g hzq (G.new _ _)) (by simp; omega) (by simp; omega) (by simp) ?_; intro v6 w6 hown6 hk6 hb6; rw [show [c] ++ body = xx from hxx.out] at hown6; have hg6 := KeepT.g hk6 (G.new wd (.cells #[.int .u8 c.toNat] 5)); obtain ⟨A6, c6, e6, hc6, _, hsl6⟩ := OwnL.sl byteC_len hown6; subst e6; clear hk6 hb6 hown6)
      have hdd := msgDec_yes hd A6 c6 w6 hsl6 hll2.out hc6 (hT.out.g (hGd.trans hg6))
      replace hdd := Lib.hid hdd
      have hcan := Lib.hid (decM_canon hd)
      replace hd := Lib.hid hd
      go_upto_region 11 with (go_at_call 26; (with_reducible refine Calls.mono hdd.out ?_); rintro e w7 ⟨x, rfl, hg7, hxp, hxs, hxo, hxk, hxi⟩)
      clear hdd
      have hxc : x.kind = (c.toNat : Int) := by
        have h1 := hcan.out.2.1
        have hpk : p.kind = x.kind := by rw [← hxp]; rfl
        rw [docM_body p (by rw [hpk]; exact hxk), ← hxx.out] at h1
        have h2 := (List.cons.inj h1).1
        have h3 := mkind_byte (k := p.kind) (by rw [hpk]; exact hxk)
        rw [← h2, hpk] at h3
        omega
      have hx0 : 1 ≤ x.kind ∧ x.kind ≤ 9 := of_decide_eq_true hxk
      rw [hxc] at hx0
      have u1 : decide (1 ≤ (c.toNat : Int)) = true := decide_eq_true hx0.1
      have u2 : decide ((c.toNat : Int) ≤ 9) = true := decide_eq_true hx0.2
      have u1n : decide (1 ≤ c.toNat) = true := decide_eq_true (by omega)
      have u2n : decide (c.toNat ≤ 9) = true := decide_eq_true (by omega)
      have u3n : 1 ≤ c.toNat := by omega
      have u4n : c.toNat ≤ 9 := by omega
      have hkd : ∀ w', Calls Tryd.prog 19 #[x.iface] w' fun e w'' => e = .returned (.int .i64 (c.toNat : Int)) ∧ G w' w'' := fun w' => by
        have h := msgKind_any x w' hxk
        rw [hxc] at h
        exact h
      generalize x.iface = xv at *
      replace hkd := Lib.hid hkd
      replace hxc := Lib.hid hxc
      replace hxk := Lib.hid hxk
      replace hxp := Lib.hid hxp
      replace hxs := Lib.hid hxs
      replace hxo := Lib.hid hxo
      replace hxi := Lib.hid hxi
      replace hx0 := Lib.hid hx0
      go_wp2_with (first
        | (go_at_call 19; (with_reducible refine Calls.mono (hkd.out _) ?_); rintro e w8 ⟨rfl, hg8⟩)
        | (go_at_call 9; (with_reducible refine Calls.mono (haw.out _) ?_); rintro e w9 ⟨rfl, hg9⟩))
      go_ret
      exact ⟨rfl, (((hGd.trans hg6).trans hg7).trans hg8).trans hg9⟩
end Go.Proofs.YtheogchkelmeeaaDoor
/- How texts, numbers and bools read as the laws' arguments; what the listed tables give. No condition. -/
namespace Go.Proofs.YtheogchkelmeeaaDoor
open Go.RowKit Go.ChangeShapes Go.WideShapes Go.Lib

/-- An int of 64 bits. -/
def I64 (n : Int) : Prop := -9223372036854775808 ≤ n ∧ n ≤ 9223372036854775807
section
variable {H : Type} {enc : TypeId × Value → H} {w : World} {base b0 : Nat} {spare : Nat → Bool} {held : Bool} {fuel : Nat} {cs : List Value} {x : DataW H × List MemPlace} {r : Reach} {v : Value} {d : DataW H} {p : List MemPlace}
theorem i64_of_wf {n : Int} (h : (Lit.int .i64 n).wf = true) : I64 n := by
  have := bounds_i64 h
  exact ⟨by omega, by omega⟩
set_option maxRecDepth 100000 in
theorem in_int (hv : Value.okWide Tryd.prog w r b0 3 v) (h : DataW.Trod enc Tryd.prog w base spare held 3 v d p) : ∃ n, v = .int .i64 n ∧ I64 n := by
  obtain ⟨n, rfl⟩ := okWide_int Tryd.underlying3 hv
  obtain ⟨fuel, hf⟩ := h
  obtain ⟨n', e, _, hn⟩ := DataW.trod_int Tryd.underlying3 hf
  simp [Value.cells] at e
  subst e
  exact ⟨n, rfl, i64_of_wf hn⟩
set_option maxRecDepth 100000 in
theorem in_str (hv : Value.okWide Tryd.prog w r b0 9 v) (h : DataW.Trod enc Tryd.prog w base spare held 9 v d p) : ∃ s, v = .string s ∧ s.size ≤ 9223372036854775807 := by
  obtain ⟨s, rfl⟩ := okWide_string Tryd.underlying9 hv
  obtain ⟨fuel, hf⟩ := h
  obtain ⟨s', e, _, hn⟩ := DataW.trod_string Tryd.underlying9 hf
  simp [Value.cells] at e
  subst e
  exact ⟨s, rfl, by simpa [maxLen] using hn⟩
set_option maxRecDepth 100000 in
theorem in_bool (hv : Value.okWide Tryd.prog w r b0 4 v) (_h : DataW.Trod enc Tryd.prog w base spare held 4 v d p) : ∃ b, v = .bool b ∧ b = b := by
  obtain ⟨b, rfl⟩ := okWide_bool Tryd.underlying4 hv
  exact ⟨b, rfl, rfl⟩
end
theorem u8Extra : U8Extra Tryd.prog Tryd.lays196_ren := ⟨by kernel_rfl, by kernel_rfl, by kernel_rfl, by kernel_rfl, by kernel_rfl, by kernel_rfl, by kernel_rfl⟩
theorem accept_eq : (Rows.laid_unicode_utf8_acceptRanges : DataW Unit) = acceptData := by kernel_rfl
/-- Where the two tables are listed they lie so. -/
theorem tabs_of_laid {w : World} (h : laidMet Tryd.prog [("unicode/utf8.acceptRanges", Rows.laid_unicode_utf8_acceptRanges), ("unicode/utf8.first", Rows.laid_unicode_utf8_first)] w) : Tabs w :=
  utf8Tabs_of_readsT (U8Types.of196 Tryd.lays196) u8Extra (Pinned.utf8First_eq ▸ Lib.laidMet.reads h (.tail _ (.head _))) (accept_eq ▸ Lib.laidMet.reads h (.head _))
end Go.Proofs.YtheogchkelmeeaaDoor

/- rec.writer.lists: the lists. Conditions: lengths that an append bears; the decoder's tables lie as the library lays them. -/
import Derived.Test.YthafeaclpcjjbaaGreatDoorM29RecDecodes
namespace Go.Proofs.YthafeaclpcjjbaaGreatDoor
open Go.RowKit
theorem Sl.smc {w : World} {B : Nat} {A : Option Addr} {ss : List SmM} {k : Nat} {s : SmM} (h : Sl SmM.cells 3 w B A ss) (hs : ss[k]? = some s) :
  ∃ b o, A = some ⟨b, o, none⟩ ∧ b < B ∧ w.cell? ⟨b, o + k * 3, none⟩ = some (.string s.name) ∧ w.cell? ⟨b, o + k * 3 + 1, none⟩ = some (.slice s.Ae s.es.length s.ce) ∧ w.cell? ⟨b, o + k * 3 + 2, none⟩ = some (.slice s.Ak s.ks.length s.ck) := by
 obtain ⟨b, o, e, hb, hc⟩ := h.get hs
 exact ⟨b, o, e, hb, hc 0 _ rfl, hc 1 _ rfl, hc 2 _ rfl⟩
set_option maxRecDepth 100000 in
set_option maxHeartbeats 4000000 in
theorem recLists_any (r : RecM) (f : Fl) (R base n : Nat) (st : Option (List UInt8)) (wE w : World) (hw : WrS 77 R base n st w) (hR : base ≤ R) (hGE : G wE w) (hbE : wE.heap.size ≤ base) (hin : r.In wE) (hok : r.Small) (hT : Tabs wE) (hn : n + 520000000000 ≤ 1099511627776) :
  Calls Tryz.prog 28 #[.pointer (some ⟨R, 0, none⟩), .agg r.cells, .agg f.cells] w (WrPost 77 R base (n + 520000000000) (listsS r.p f st) w) := by
 obtain ⟨kind, rn, dst, yes, ⟨a, b, c⟩, x1, x2, x3, An, cn, nodes, key, Ap, cp, ps, z1, z2, z3, z4, As, cs, sms⟩ := r
 obtain ⟨f0, f1, f2, f3, f4, f5, f6, f7, f8⟩ := f
 obtain ⟨_, _, _, _, _, _, _, _, _, _, k1, k2, _, _, _, k3, k4⟩ := hok
 obtain ⟨hns, _, hsm⟩ := hin
 unfold RecM.cells Fl.cells
 unfold RecM.p listsS
 dsimp only at k1 k2 k3 k4 hns hsm ⊢
 obtain ⟨s1, hs1⟩ : ∃ s, (if f5 = true then addNs 1125899906842624 nodes (addMany 1125899906842624 nodes.length st) else st) = s := ⟨_, rfl⟩
 rw [hs1]
 obtain ⟨s2, hs2⟩ : ∃ s, (if f8 = true then addSms (sms.map SmM.sm) (addMany 1125899906842624 (sms.map SmM.sm).length s1) else s1) = s := ⟨_, rfl⟩
 rw [hs2]
 rw [List.length_map] at hs2
 replace hs1 := Lib.hid hs1
 replace hs2 := Lib.hid hs2
 have hRw := hw.lt
 replace hw := Lib.hid hw
 replace hT := Lib.hid hT
 replace hGE := Lib.hid hGE
 replace hns := Lib.hid hns
 replace hsm := Lib.hid hsm
 replace k1 := Lib.hid k1
 replace k4 := Lib.hid k4
 go_enter Tryz.func28, Tryz.ntmps28
 go_upto_region 1 with fail
 have hgw := (G.new w (.cells #[.int .i64 kind, .int .i64 rn, .int .i64 dst, .bool yes, .int .i64 a, .int .i64 b, .int .i64 c, .int .i64 x1, .int .i64 x2, .int .i64 x3, .slice An nodes.length cn, .string key, .slice Ap ps.length cp, .int .i64 z1, .int .i64 z2, .int .i64 z3, .int .i64 z4, .slice As sms.length cs] 36)).alloc (.cells #[.bool f0, .bool f1, .bool f2, .bool f3, .bool f4, .bool f5, .bool f6, .bool f7, .bool f8] 48)
 have B1 := (G.new (w.alloc (.cells #[.int .i64 kind, .int .i64 rn, .int .i64 dst, .bool yes, .int .i64 a, .int .i64 b, .int .i64 c, .int .i64 x1, .int .i64 x2, .int .i64 x3, .slice An nodes.length cn, .string key, .slice Ap ps.length cp, .int .i64 z1, .int .i64 z2, .int .i64 z3, .int .i64 z4, .slice As sms.length cs] 36)) (.cells #[.bool f0, .bool f1, .bool f2, .bool f3, .bool f4, .bool f5, .bool f6, .bool f7, .bool f8] 48)).blk (blk_new w #[.int .i64 kind, .int .i64 rn, .int .i64 dst, .bool yes, .int .i64 a, .int .i64 b, .int .i64 c, .int .i64 x1, .int .i64 x2, .int .i64 x3, .slice An nodes.length cn, .string key, .slice Ap ps.length cp, .int .i64 z1, .int .i64 z2, .int .i64 z3, .int .i64 z4, .slice As sms.length cs] 36)
 have B2 := blk_new' (w.alloc (.cells #[.int .i64 kind, .int .i64 rn, .int .i64 dst, .bool yes, .int .i64 a, .int .i64 b, .int .i64 c, .int .i64 x1, .int .i64 x2, .int .i64 x3, .slice An nodes.length cn, .string key, .slice Ap ps.length cp, .int .i64 z1, .int .i64 z2, .int .i64 z3, .int .i64 z4, .slice As sms.length cs] 36)) #[.bool f0, .bool f1, .bool f2, .bool f3, .bool f4, .bool f5, .bool f6, .bool f7, .bool f8] 48 (w.heap.size + 1) (by simp)
 have hw0 := hw.out.g hgw
 have hkA := Kw.of_g (R := R) (base := base) hgw (by omega)
 generalize (w.alloc (.cells #[.int .i64 kind, .int .i64 rn, .int .i64 dst, .bool yes, .int .i64 a, .int .i64 b, .int .i64 c, .int .i64 x1, .int .i64 x2, .int .i64 x3, .slice An nodes.length cn, .string key, .slice Ap ps.length cp, .int .i64 z1, .int .i64 z2, .int .i64 z3, .int .i64 z4, .slice As sms.length cs] 36)).alloc (.cells #[.bool f0, .bool f1, .bool f2, .bool f3, .bool f4, .bool f5, .bool f6, .bool f7, .bool f8] 48) = W0 at *
 replace B1 := Lib.hid B1
 replace B2 := Lib.hid B2
 have hk0 := Kw.refl R base W0
 have hGE0 := hGE.out.trans hgw
 replace hGE0 := Lib.hid hGE0
 replace hkA := Lib.hid hkA
 clear hgw
 have gf := (blk_cell B2.out 5).trans (show _ = some (.bool f5) from rfl)
 have g10 := (blk_cell B1.out 10).trans (show _ = some (.slice An nodes.length cn) from rfl)
 go_upto_if 8 with fail
 replace hw0 := Lib.hid hw0
 replace hk0 := Lib.hid hk0
 go_cut [] (fun wx => WrS 77 R base (n + 10000020) s1 wx ∧ Kw R base W0 wx)
 case first =>
  cases f5 with
  | false =>
   have e : st = s1 := hs1.out
   have hwe := hw0.out.more (n' := n + 10000020) (by omega)
   rw [e] at hwe
   replace hwe := Lib.hid hwe
   clear e
   go_wp2_with fail
   go_meet
   exact ⟨hwe.out, hk0.out⟩
  | true =>
   have hc := Lib.hid (wrMany_any R base n nodes.length st W0 hw0.out hR (by omega) (by omega))
   have e : addNs 1125899906842624 nodes (addMany 1125899906842624 nodes.length st) = s1 := hs1.out
   have hc2 := fun (w3 : World) (hw3 : WrS 77 R base (n + 10) (addMany 1125899906842624 nodes.length st) w3) (hk : Kw R base W0 w3) => wrNums_any R base (n + 10) (addMany 1125899906842624 nodes.length st) nodes An cn wE.heap.size w3 hw3 hR (by omega) k1.out (fun w' hk' => Kw.sl (hk.trans hk') (hns.out.g (Nat.le_refl _) hGE0.out) hbE)
   rw [e] at hc2
   replace hc2 := Lib.hid hc2
   clear e
   go_wp2_with (first
    | (go_at_call 53; refine Calls.mono hc.out ?_; rintro e w3 ⟨rfl, hw3, hk3⟩; have g10 := (blk_cell (hk3.blk (by decide) (by omega) B1.out) 10).trans (show _ = some (.slice An nodes.length cn) from rfl); have hk3' := Lib.hid hk3; replace hw3 := Lib.hid hw3; clear hk3)
    | (go_at_call 49; refine Calls.mono (hc2.out _ hw3.out hk3'.out) ?_; rintro e w4 ⟨rfl, hw4, hk4⟩; have hk5 := Lib.hid (hk3'.out.trans hk4); have hw5 := Lib.hid (hw4.more (n' := n + 10000020) (by omega)); clear hk4 hw4))
   go_meet
   exact ⟨hw5.out, hk5.out⟩
 case rest =>
  clear gf g10 hw0 hk0
  obtain ⟨hw1, hk1⟩ := hcut
  have hz1 := hk1.size
  have gf := (blk_cell (hk1.blk (by decide) (by omega) B2.out) 8).trans (show _ = some (.bool f8) from rfl)
  have g17 := (blk_cell (hk1.blk (by decide) (by omega) B1.out) 17).trans (show _ = some (.slice As sms.length cs) from rfl)
  replace hw1 := Lib.hid hw1
  replace hk1 := Lib.hid hk1
  cases f8 with
  | false =>
   have e : s1 = s2 := hs2.out
   have hwe := hw1.out.more (n' := n + 520000000000) (by omega)
   rw [e] at hwe
   have hke := hkA.out.trans hk1.out
   replace hwe := Lib.hid hwe
   replace hke := Lib.hid hke
   clear e
   go_wp2_with fail
   go_end0
   exact ⟨rfl, hwe.out, hke.out⟩
  | true =>
   have hc := Lib.hid (wrMany_any R base (n + 10000020) sms.length s1 wc hw1.out hR (by omega) (by omega))
   have e : addSms (sms.map SmM.sm) (addMany 1125899906842624 sms.length s1) = s2 := hs2.out
   obtain ⟨s3, hs3⟩ : ∃ s, addMany 1125899906842624 sms.length s1 = s := ⟨_, rfl⟩
   rw [hs3] at hc e
   replace e := Lib.hid e
   go_wp2_with (go_at_call 53; refine Calls.mono hc.out ?_; rintro e w3 ⟨rfl, hw3, hk3⟩; have hk3' := Lib.hid (hk1.out.trans hk3); replace hw3 := Lib.hid hw3; clear hk3)
   clear gf g17 hc hs3
   go_loopw [6] (fun i wr => ∃ (k : Nat) (sk : Option (List UInt8)), i = .int .i64 k ∧ k ≤ sms.length ∧ Hid (WrS 77 R base (n + 10000030 + k * 500000) sk wr) ∧ Hid (Kw R base W0 wr) ∧ Hid (addSms ((sms.map SmM.sm).drop k) sk = s2)) (fun i _ => sms.length - (intOf i).toNat)
   case atStart => exact ⟨0, s3, rfl, Nat.zero_le _, (by simpa [Hid] using hw3.out), hk3', by simpa [Hid] using e.out⟩
   case round =>
    obtain ⟨wo, rfl⟩ : ∃ wo : World, wo = wr := ⟨_, rfl⟩
    clear hw3 hk3'
    obtain ⟨k, sk, rfl, hkl, hwr, hkw, hadd⟩ := hrel
    have g17 := (blk_cell (hkw.out.blk (by decide) (by omega) B1.out) 17).trans (show _ = some (.slice As sms.length cs) from rfl)
    have hc1 := hwr.out.c1
    have hRr := hwr.out.lt
    by_cases hlt : k < sms.length
    case neg =>
     have hfin : sk = s2 := by
      have := hadd.out
      rwa [List.drop_eq_nil_of_le (by rw [List.length_map]; omega)] at this
     have hwe := hwr.out.more (n' := n + 520000000000) (by omega)
     rw [hfin] at hwe
     have hke := hkA.out.trans hkw.out
     replace hwe := Lib.hid hwe
     replace hke := Lib.hid hke
     clear hfin
     go_wp2_with fail
     go_end0
     exact ⟨rfl, hwe.out, hke.out⟩
    cases sk with
    | none =>
     have hfin : none = s2 := by
      have := hadd.out
      rwa [addSms_none] at this
     have hwe := hwr.out.more (n' := n + 520000000000) (by omega)
     rw [hfin] at hwe
     have hke := hkA.out.trans hkw.out
     replace hwe := Lib.hid hwe
     replace hke := Lib.hid hke
     clear hfin
     simp only [Option.isNone_none] at hc1
     go_wp2_with fail
     go_end0
     exact ⟨rfl, hwe.out, hke.out⟩
    | some m =>
     simp only [Option.isNone_some] at hc1
     obtain ⟨⟨sn, Ae, ce, es, Ak, ck, ks⟩, hx⟩ : ∃ x, sms[k]? = some x := ⟨_, List.getElem?_eq_getElem hlt⟩
     have hgE := hkw.out.ge hGE0.out hbE
     have hmem := List.mem_of_getElem? hx
     obtain ⟨hss, hsl⟩ := k4.out _ hmem
     have hsi := (hsm.out.2 _ hmem).g (Nat.le_refl _) hgE
     obtain ⟨bb, o, rfl, hb, c0, c1, c2⟩ := (hsm.out.1.g (Nat.le_refl _) hgE).smc hx
     have hdr := addSms_drop (l := sms.map SmM.sm) (k := k) (m := ⟨sn, es, ks⟩) (by rw [List.getElem?_map, hx]; rfl) (some m)
     rw [hadd.out] at hdr
     unfold SmM.sm at hsl
     dsimp only at c0 c1 c2 hss hsl hsi
     have n1 : (0 : Int) ≤ (k : Int) := by omega
     have n2 : (k : Int) < (sms.length : Int) := by omega
     have hc := Lib.hid (smEnc_any sn es ks Ae Ak ce ck wo (SmIn.more hsi hgE.size) hss (hT.out.g hgE))
     have hbw : base ≤ wo.heap.size := by omega
     obtain ⟨nx, hnx⟩ : ∃ nx, addB (smL ⟨sn, es, ks⟩) (some m) = nx := ⟨_, rfl⟩
     rw [hnx] at hdr
     replace hnx := Lib.hid hnx
     replace hdr := Lib.hid hdr
     replace hx := Lib.hid hx
     replace hsi := Lib.hid hsi
     replace hss := Lib.hid hss
     clear hmem hgE
     go_wp2_with (first
      | (go_at_call 54; refine Calls.mono hc.out ?_; rintro e5 w5 ⟨Ab, cb, rfl, hob, hgb, _⟩; have hc2 := wrSome_own (hwr.out.g hgb) hR (by omega) hob; rw [hnx.out] at hc2; replace hc2 := Lib.hid hc2; have hk5 := Lib.hid (hkw.out.trans (Kw.of_g hgb hbw)); clear hob hgb)
      | (go_at_call 50; refine Calls.mono hc2.out ?_; rintro e6 w6 ⟨rfl, hw6, hk6⟩; have hw7 := Lib.hid (hw6.more (n' := n + 10000030 + (k + 1) * 500000) (by omega)); have hk7 := Lib.hid (hk5.out.trans hk6); clear hw6 hk6))
     go_roundw
     case rel => exact ⟨k + 1, nx, by go_num, by omega, hw7, hk7, hdr.out.symm⟩
     case measure => (simp [intOf] <;> omega)
end Go.Proofs.YthafeaclpcjjbaaGreatDoor

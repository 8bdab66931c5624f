/- msg.writer's tx, span, stamp, flag, ints, streams, events, spans. Conditions: lengths that an append bears; the decoder's tables lie as the library lays them. -/
import Derived.Test.YtheogchkelmeeaaGreatDoorM34MsgDecodes
import Derived.Test.YtheogchkelmeeaaGreatDoorM26MsgDecodes
namespace Go.Proofs.YtheogchkelmeeaaGreatDoor
open Go.RowKit
theorem Sl.smc {w : World} {B : Nat} {A : Option Addr} {ss : List SmM} {k : Nat} {s : SmM} (h : Sl SmM.cells 3 w B A ss) (hs : ss[k]? = some s) :
  ∃b o,A=some ⟨b,o,none⟩∧b < B∧w.cell? ⟨b,o+k * 3,none⟩=some (.string s.name)∧w.cell? ⟨b,o+k * 3+1,none⟩=some (.slice s.Ae s.es.length s.ce)∧w.cell? ⟨b,o+k * 3+2,none⟩=some (.slice s.Ak s.ks.length s.ck):=by
 obtain ⟨b,o,e,hb,hc⟩:=h.get hs
 exact ⟨b,o,e,hb,hc 0 _ rfl,hc 1 _ rfl,hc 2 _ rfl⟩
/-- nums, of a list in a block of its own. -/
theorem mNumsL {R base n : Nat} {st : Option (List UInt8)} {w : World} (ns : List Int) (hw : WrS 100 R base n st w) (hR : base ≤ R) (hn : n + ns.length * 10 ≤ 1099511627776) (hns : ∀ x ∈ ns, Int64 x) (k : Nat) (hk : ns.length = k) (cs : Array Value) (hcs : cs = (ns.map fun n => Value.int .i64 n).toArray) :
  Calls Tryz.prog 63 #[.pointer (some ⟨R,0,none⟩),.slice (some ⟨w.heap.size,0,none⟩) k k] (w.alloc (.cells cs 3)) (WrPost 100 R base (n+k * 10) (addNs 1099511627776 ns st) w):=by
 subst hk
 subst hcs
 exact Calls.mono (mNums_any R base n st ns (some ⟨w.heap.size,0,none⟩) ns.length _ _ (hw.g (G.new w _)) hR hn hns (mkInts (base:=base) (ns:=ns) (by decide:3≠5) (blk_new _ _ _) (by have:=hw.lt;omega))) fun _ _ ⟨h1,h2,h3⟩=>⟨h1,h2,(Kw.of_g (G.new w _) (by have:=hw.lt;omega)).trans h3⟩
set_option maxRecDepth 100000 in
set_option maxHeartbeats 1000000 in
theorem mTx_any (R base n : Nat) (st : Option (List UInt8)) (w : World) (hw : WrS 100 R base n st w) (hR : base ≤ R) (hn : n + 30 ≤ 1099511627776) (x y z : Int) (hx : ∀ u ∈ [x, y, z], Int64 u) :
  Calls Tryz.prog 59 #[.pointer (some ⟨R,0,none⟩),.agg #[.int .i64 x,.int .i64 y,.int .i64 z]] w (WrPost 100 R base (n+30) (addNs 1099511627776 [x,y,z] st) w):=by
 have hz:=hw.lt
 have hg:=G.new w (.cells #[.int .i64 x,.int .i64 y,.int .i64 z] 28)
 have hB:=blk_new w #[.int .i64 x,.int .i64 y,.int .i64 z] 28
 have hc:=mNumsL (n:=n) [x,y,z] (hw.g hg) hR (by simp;omega) hx 3 rfl #[.int .i64 x,.int .i64 y,.int .i64 z] rfl
 have hkA:=Kw.of_g (R:=R) (base:=base) hg (by omega)
 have q0:=(blk_cell hB 0).trans (show _=some (.int .i64 x) from rfl)
 have q1:=(blk_cell hB 1).trans (show _=some (.int .i64 y) from rfl)
 have q2:=(blk_cell hB 2).trans (show _=some (.int .i64 z) from rfl)
 replace hc:=Lib.hid hc
 replace hkA:=Lib.hid hkA
 clear hB hg
 go_enter Tryz.func59,Tryz.ntmps59
 go_upto_region 1 with fail
 generalize w.alloc (.cells #[.int .i64 x,.int .i64 y,.int .i64 z] 28)=w0 at *
 go_wp2_with fail
 (with_reducible refine Calls.mono hc.out ?_)
 rintro e w3 ⟨rfl,hw3,hk3⟩
 go_wp2_with fail
 go_end0
 exact ⟨rfl,hw3,hkA.out.trans hk3⟩
set_option maxRecDepth 100000 in
set_option maxHeartbeats 1000000 in
theorem mSpan_any (R base n : Nat) (st : Option (List UInt8)) (w : World) (hw : WrS 100 R base n st w) (hR : base ≤ R) (hn : n + 40 ≤ 1099511627776) (x y z t : Int) (hx : ∀ u ∈ [x, y, z, t], Int64 u) :
  Calls Tryz.prog 66 #[.pointer (some ⟨R,0,none⟩),.agg #[.int .i64 x,.int .i64 y,.int .i64 z,.int .i64 t]] w (WrPost 100 R base (n+40) (addNs 1099511627776 [x,y,z,t] st) w):=by
 have hz:=hw.lt
 have hg:=G.new w (.cells #[.int .i64 x,.int .i64 y,.int .i64 z,.int .i64 t] 36)
 have hB:=blk_new w #[.int .i64 x,.int .i64 y,.int .i64 z,.int .i64 t] 36
 have hc:=mNumsL (n:=n) [x,y,z,t] (hw.g hg) hR (by simp;omega) hx 4 rfl #[.int .i64 x,.int .i64 y,.int .i64 z,.int .i64 t] rfl
 have hkA:=Kw.of_g (R:=R) (base:=base) hg (by omega)
 have q0:=(blk_cell hB 0).trans (show _=some (.int .i64 x) from rfl)
 have q1:=(blk_cell hB 1).trans (show _=some (.int .i64 y) from rfl)
 have q2:=(blk_cell hB 2).trans (show _=some (.int .i64 z) from rfl)
 have q3:=(blk_cell hB 3).trans (show _=some (.int .i64 t) from rfl)
 replace hc:=Lib.hid hc
 replace hkA:=Lib.hid hkA
 clear hB hg
 go_enter Tryz.func66,Tryz.ntmps66
 go_upto_region 1 with fail
 generalize w.alloc (.cells #[.int .i64 x,.int .i64 y,.int .i64 z,.int .i64 t] 36)=w0 at *
 go_wp2_with fail
 (with_reducible refine Calls.mono hc.out ?_)
 rintro e w3 ⟨rfl,hw3,hk3⟩
 go_wp2_with fail
 go_end0
 exact ⟨rfl,hw3,hkA.out.trans hk3⟩
set_option maxRecDepth 100000 in
set_option maxHeartbeats 1000000 in
theorem mStamp_any (R base n : Nat) (st : Option (List UInt8)) (w : World) (hw : WrS 100 R base n st w) (hR : base ≤ R) (hn : n + 50 ≤ 1099511627776) (s : St) :
  Calls Tryz.prog 62 #[.pointer (some ⟨R,0,none⟩),.agg #[.int .i64 s.wall,.int .i64 s.logic,.int .i64 s.node]] w (WrPost 100 R base (n+50) (addB (stE s) st) w):=by
 have hz:=hw.lt
 have hl:=stE_len s
 have hg:=G.new w (.cells #[.int .i64 s.wall,.int .i64 s.logic,.int .i64 s.node] 33)
 have hB:=blk_new w #[.int .i64 s.wall,.int .i64 s.logic,.int .i64 s.node] 33
 have q0:=(blk_cell hB 0).trans (show _=some (.int .i64 s.wall) from rfl)
 have q1:=(blk_cell hB 1).trans (show _=some (.int .i64 s.logic) from rfl)
 have q2:=(blk_cell hB 2).trans (show _=some (.int .i64 s.node) from rfl)
 have hc:=stEnc_any s (w.alloc (.cells #[.int .i64 s.wall,.int .i64 s.logic,.int .i64 s.node] 33))
 unfold stV at hc
 have hw1:=hw.g hg
 have hkA:=Kw.of_g (R:=R) (base:=base) hg (by omega)
 have hz1:=hg.size
 replace hc:=Lib.hid hc
 replace hw1:=Lib.hid hw1
 replace hkA:=Lib.hid hkA
 clear hB hg hw
 go_enter Tryz.func62,Tryz.ntmps62
 go_upto_region 1 with fail
 generalize w.alloc (.cells #[.int .i64 s.wall,.int .i64 s.logic,.int .i64 s.node] 33)=w0 at *
 go_wp2_with (first
  | (go_at_call 93;(with_reducible refine Calls.mono hc.out ?_);rintro e5 w5 ⟨Ab,cb,rfl,hob,hgb⟩;have hc2:=mSome_own (hw1.out.g hgb) hR (by omega) hob;replace hc2:=Lib.hid hc2;have hk5:=Lib.hid (hkA.out.trans (Kw.of_g hgb (by omega)));clear hob hgb)
  | (go_at_call 60;(with_reducible refine Calls.mono hc2.out ?_);rintro e6 w6 ⟨rfl,hw6,hk6⟩;have hw7:=Lib.hid (hw6.more (n':=n+50) (by omega));have hk7:=Lib.hid (hk5.out.trans hk6);clear hw6 hk6))
 go_end0
 exact ⟨rfl,hw7.out,hk7.out⟩
set_option maxRecDepth 100000 in
set_option maxHeartbeats 2000000 in
theorem mFlag_any (R base n : Nat) (st : Option (List UInt8)) (w : World) (hw : WrS 100 R base n st w) (hR : base ≤ R) (hn : n + 1 ≤ 1099511627776) (b : Bool) :
  Calls Tryz.prog 65 #[.pointer (some ⟨R,0,none⟩),.bool b] w (WrPost 100 R base (n+1) (addFlag b st) w):=by
 obtain ⟨s3,hs3⟩:∃s,addFlag b st=s:=⟨_,rfl⟩
 rw [hs3]
 have e:st.map (fun l=>l++[if b=true then 1 else 0])=s3:=hs3
 obtain ⟨A8,c8,m,r1,r2,r3,r4⟩:=hw.rowN
 have x0:=(blk_cell r1 0).trans (show _=some (.slice A8 m.length c8) from rfl)
 have hzR:=blk_lt r1
 have hse:st.isNone=s3.isNone:=by rw [←e];cases st <;> rfl
 have hl4:∀l',s3=some l'→l'=m++[if b=true then 1 else 0]:=fun l' h=>by
  rw [←e] at h
  cases hs:st with
  | none=>rw [hs] at h;cases h
  | some l0=>rw [hs] at h;cases h;rw [r4 l0 hs]
 clear e hs3
 replace hl4:=Lib.hid hl4
 replace hse:=Lib.hid hse
 replace r1:=Lib.hid r1
 replace r2:=Lib.hid r2
 replace r4:=Lib.hid r4
 cases b with
 | true =>
  obtain ⟨m2,hm2⟩:∃m2,m++[1]=m2:=⟨_,rfl⟩
  have hl5:∀l',s3=some l'→l'=m2:=by rw [←hm2];exact hl4.out
  have hm2l:m2.length=m.length+1:=by rw [←hm2];simp
  replace hm2:=Lib.hid hm2
  replace hm2l:=Lib.hid hm2l
  replace hl5:=Lib.hid hl5
  go_enter Tryz.func65,Tryz.ntmps65
  go_wp2_with (at_builtin;refine wpList_append_but byte_elem _ rfl (.tmp 10) (.tmp 12) rfl base (.slice A8 m.length c8) m rfl (r2.out.g (G.new _ _)) (w.heap.size+1) (some ⟨w.heap.size,0,none⟩) 1 [1] rfl (by intro h;cases h) (Sl.of_blk byteC_len _ (blk_new _ _ _) rfl (by omega)) (by simp;omega) (by simp;omega) (by simp;omega) ?_;intro v6 w6 hown6 hk6 hb6;rw [hm2.out] at hown6;obtain ⟨A6,c6,e6,_,_,_⟩:=OwnL.sl byteC_len hown6;subst e6;have r6:=hk6.2 _ _ _ _ mwT ((G.new _ _).blk r1.out);have y6:=(blk_cell r6 0).trans (show _=some (.slice A8 m.length c8) from rfl);have x6:=(show w6.frozen? ⟨R,0,none⟩=false by simp [World.frozen?,r6]);have s6:=Lib.hid (WrS.put (st:=s3) (n:=n+1) mwT hse.out r6 rfl hown6 (by have:=hm2l.out;omega) hl5.out);have k6:=Lib.hid ((Kw.of_g (R:=R) (base:=base) (G.new w _) (by omega)).trans ((Kw.of_keep hk6).trans (Kw.set hR 0 (.slice A6 m2.length c6))));clear hown6 hk6 hb6)
  go_end0
  exact ⟨rfl,s6.out,k6.out⟩
 | false =>
  obtain ⟨m2,hm2⟩:∃m2,m++[0]=m2:=⟨_,rfl⟩
  have hl5:∀l',s3=some l'→l'=m2:=by rw [←hm2];exact hl4.out
  have hm2l:m2.length=m.length+1:=by rw [←hm2];simp
  replace hm2:=Lib.hid hm2
  replace hm2l:=Lib.hid hm2l
  replace hl5:=Lib.hid hl5
  go_enter Tryz.func65,Tryz.ntmps65
  go_wp2_with (at_builtin;refine wpList_append_but byte_elem _ rfl (.tmp 10) (.tmp 12) rfl base (.slice A8 m.length c8) m rfl (r2.out.g (G.new _ _)) (w.heap.size+1) (some ⟨w.heap.size,0,none⟩) 1 [0] rfl (by intro h;cases h) (Sl.of_blk byteC_len _ (blk_new _ _ _) rfl (by omega)) (by simp;omega) (by simp;omega) (by simp;omega) ?_;intro v6 w6 hown6 hk6 hb6;rw [hm2.out] at hown6;obtain ⟨A6,c6,e6,_,_,_⟩:=OwnL.sl byteC_len hown6;subst e6;have r6:=hk6.2 _ _ _ _ mwT ((G.new _ _).blk r1.out);have y6:=(blk_cell r6 0).trans (show _=some (.slice A8 m.length c8) from rfl);have x6:=(show w6.frozen? ⟨R,0,none⟩=false by simp [World.frozen?,r6]);have s6:=Lib.hid (WrS.put (st:=s3) (n:=n+1) mwT hse.out r6 rfl hown6 (by have:=hm2l.out;omega) hl5.out);have k6:=Lib.hid ((Kw.of_g (R:=R) (base:=base) (G.new w _) (by omega)).trans ((Kw.of_keep hk6).trans (Kw.set hR 0 (.slice A6 m2.length c6))));clear hown6 hk6 hb6)
  go_end0
  exact ⟨rfl,s6.out,k6.out⟩
set_option maxRecDepth 100000 in
set_option maxHeartbeats 1000000 in
theorem mInts_any (R base n : Nat) (st : Option (List UInt8)) (ns : List Int) (A : Option Addr) (c : Nat) (wE w : World) (hw : WrS 100 R base n st w) (hR : base ≤ R) (hGE : G wE w) (hbE : wE.heap.size ≤ base) (hs : Sl intC 1 wE wE.heap.size A ns) (hl : ns.length ≤ 1000000) (hx : ∀ x ∈ ns, Int64 x) (hn : n + 20000000 ≤ 1099511627776) :
  Calls Tryz.prog 64 #[.pointer (some ⟨R,0,none⟩),.slice A ns.length c] w (WrPost 100 R base (n+20000000) (addInts ns st) w):=by
 have hz:=hw.lt
 have hc:=mMany_any R base n ns.length st w hw hR (by omega) (by omega)
 obtain ⟨s1,hs1⟩:∃s,addMany 1099511627776 ns.length st=s:=⟨_,rfl⟩
 have hfin:addInts ns st=addNs 1099511627776 ns s1:=by rw [←hs1];rfl
 rw [hs1] at hc
 rw [hfin]
 have hsl:∀w',Kw R base w w'→Sl intC 1 w' wE.heap.size A ns:=fun w' hk=>hs.g (Nat.le_refl _) (hk.ge hGE hbE)
 replace hs1:=Lib.hid hs1
 replace hfin:=Lib.hid hfin
 replace hc:=Lib.hid hc
 replace hsl:=Lib.hid hsl
 replace hGE:=Lib.hid hGE
 replace hs:=Lib.hid hs
 replace hx:=Lib.hid hx
 go_enter Tryz.func64,Tryz.ntmps64
 go_wp2_with (first
  | (go_at_call 95;(with_reducible refine Calls.mono hc.out ?_);rintro e w3 ⟨rfl,hw3,hk3⟩;have hc2:=mNums_any R base (n+10) s1 ns A c wE.heap.size w3 hw3 hR (by omega) hx.out (fun w' hk=>hsl.out w' (hk3.trans hk));replace hc2:=Lib.hid hc2;replace hk3:=Lib.hid hk3;clear hw3)
  | (go_at_call 63;(with_reducible refine Calls.mono hc2.out ?_);rintro e w4 ⟨rfl,hw4,hk4⟩;have hw5:=Lib.hid (hw4.more (n':=n+20000000) (by omega));have hk5:=Lib.hid (hk3.out.trans hk4);clear hw4 hk4))
 go_end0
 exact ⟨rfl,hw5.out,hk5.out⟩
set_option maxRecDepth 100000 in
set_option maxHeartbeats 4000000 in
theorem mStreams_any (R base n : Nat) (st : Option (List UInt8)) (sms : List SmM) (A : Option Addr) (c : Nat) (wE w : World) (hw : WrS 100 R base n st w) (hR : base ≤ R) (hGE : G wE w) (hbE : wE.heap.size ≤ base) (hsl : SmsIn wE wE.heap.size A sms) (hsm : ∀ s ∈ sms, SmSmall s.name s.es s.ks ∧ (smL s.sm).length ≤ 500000) (hl : sms.length ≤ 1000000) (hT : Tabs wE) (hn : n + 510000000000 ≤ 1099511627776) :
  Calls Tryz.prog 67 #[.pointer (some ⟨R,0,none⟩),.slice A sms.length c] w (WrPost 100 R base (n+510000000000) (addSms (sms.map SmM.sm) (addMany 1099511627776 sms.length st)) w):=by
 have hz:=hw.lt
 have hc:=mMany_any R base n sms.length st w hw hR (by omega) (by omega)
 obtain ⟨s1,hs1⟩:∃s,addMany 1099511627776 sms.length st=s:=⟨_,rfl⟩
 obtain ⟨s2,hs2⟩:∃s,addSms (sms.map SmM.sm) s1=s:=⟨_,rfl⟩
 rw [hs1] at hc ⊢
 rw [hs2]
 replace hs1:=Lib.hid hs1
 replace hs2:=Lib.hid hs2
 replace hc:=Lib.hid hc
 replace hGE:=Lib.hid hGE
 replace hsl:=Lib.hid hsl
 replace hsm:=Lib.hid hsm
 replace hT:=Lib.hid hT
 replace hw:=Lib.hid hw
 go_enter Tryz.func67,Tryz.ntmps67
 go_upto_region 1 with (go_at_call 95;(with_reducible refine Calls.mono hc.out ?_);rintro e w3 ⟨rfl,hw3,hk3⟩;replace hw3:=Lib.hid hw3;replace hk3:=Lib.hid hk3;clear hc)
 go_wp2_with fail
 go_loopw [4] (fun i wr=>∃(k:Nat) (sk:Option (List UInt8)),i=.int .i64 k∧k≤sms.length∧Hid (WrS 100 R base (n+10+k * 500000) sk wr)∧Hid (Kw R base w wr)∧Hid (addSms ((sms.map SmM.sm).drop k) sk=s2)) (fun i _=>sms.length - (intOf i).toNat)
 case atStart=>exact ⟨0,s1,rfl,Nat.zero_le _,(by simpa [Hid] using hw3.out),hk3,by simpa [Hid] using hs2.out⟩
 case round =>
  obtain ⟨wo,rfl⟩:∃wo:World,wo=wr:=⟨_,rfl⟩
  clear hw3 hk3
  obtain ⟨k,sk,rfl,hkl,hwr,hkw,hadd⟩:=hrel
  have hc1:=hwr.out.c1
  have hRr:=hwr.out.lt
  by_cases hlt:k < sms.length
  case neg =>
   have hfin:sk=s2:=by
    have:=hadd.out
    rwa [List.drop_eq_nil_of_le (by rw [List.length_map];omega)] at this
   have hwe:=hwr.out.more (n':=n+510000000000) (by omega)
   rw [hfin] at hwe
   replace hwe:=Lib.hid hwe
   clear hfin
   go_wp2_with fail
   go_end0
   exact ⟨rfl,hwe.out,hkw.out⟩
  cases sk with
  | none =>
   have hfin:none=s2:=by
    have:=hadd.out
    rwa [addSms_none] at this
   have hwe:=hwr.out.more (n':=n+510000000000) (by omega)
   rw [hfin] at hwe
   replace hwe:=Lib.hid hwe
   clear hfin
   simp only [Option.isNone_none] at hc1
   go_wp2_with fail
   go_end0
   exact ⟨rfl,hwe.out,hkw.out⟩
  | some m =>
   simp only [Option.isNone_some] at hc1
   obtain ⟨⟨sn,Ae,ce,es,Ak,ck,ks⟩,hx⟩:∃x,sms[k]?=some x:=⟨_,List.getElem?_eq_getElem hlt⟩
   have hgE:=hkw.out.ge hGE.out hbE
   have hmem:=List.mem_of_getElem? hx
   obtain ⟨hss,hsl2⟩:=hsm.out _ hmem
   have hsi:=(hsl.out.2 _ hmem).g (Nat.le_refl _) hgE
   obtain ⟨bb,o,rfl,hb,c0,c1,c2⟩:=(hsl.out.1.g (Nat.le_refl _) hgE).smc hx
   have hdr:=addSms_drop (l:=sms.map SmM.sm) (k:=k) (m:=⟨sn,es,ks⟩) (by rw [List.getElem?_map,hx];rfl) (some m)
   rw [hadd.out] at hdr
   unfold SmM.sm at hsl2
   dsimp only at c0 c1 c2 hss hsl2 hsi
   have n1:(0:Int)≤(k:Int):=by omega
   have n2:(k:Int) < (sms.length:Int):=by omega
   have hc:=Lib.hid (smEnc_any sn es ks Ae Ak ce ck wo (SmIn.more hsi hgE.size) hss (hT.out.g hgE))
   have hbw:base≤wo.heap.size:=by omega
   obtain ⟨nx,hnx⟩:∃nx,addB (smL ⟨sn,es,ks⟩) (some m)=nx:=⟨_,rfl⟩
   rw [hnx] at hdr
   replace hnx:=Lib.hid hnx
   replace hdr:=Lib.hid hdr
   replace hx:=Lib.hid hx
   replace hsi:=Lib.hid hsi
   replace hss:=Lib.hid hss
   clear hmem hgE
   go_wp2_with (first
    | (go_at_call 96;(with_reducible refine Calls.mono hc.out ?_);rintro e5 w5 ⟨Ab,cb,rfl,hob,hgb,_⟩;have hc2:=mSome_own (hwr.out.g hgb) hR (by omega) hob;rw [hnx.out] at hc2;replace hc2:=Lib.hid hc2;have hk5:=Lib.hid (hkw.out.trans (Kw.of_g hgb hbw));clear hob hgb)
    | (go_at_call 60;(with_reducible refine Calls.mono hc2.out ?_);rintro e6 w6 ⟨rfl,hw6,hk6⟩;have hw7:=Lib.hid (hw6.more (n':=n+10+(k+1) * 500000) (by omega));have hk7:=Lib.hid (hk5.out.trans hk6);clear hw6 hk6))
   go_roundw
   case rel=>exact ⟨k+1,nx,by go_num,by omega,hw7,hk7,hdr.out.symm⟩
   case measure=>(simp [intOf] <;> omega)
set_option maxRecDepth 100000 in
set_option maxHeartbeats 4000000 in
theorem mEvents_any (R base n : Nat) (st : Option (List UInt8)) (es : List Ev) (A : Option Addr) (c : Nat) (wE w : World) (hw : WrS 100 R base n st w) (hR : base ≤ R) (hGE : G wE w) (hbE : wE.heap.size ≤ base) (hsl : Sl Ev.cells 7 wE wE.heap.size A es) (hsm : ∀ e ∈ es, (e.stream.size ≤ 1073741824 ∧ e.data.size ≤ 1073741824) ∧ (evL e).length ≤ 500000) (hl : es.length ≤ 1000000) (hT : Tabs wE) (hn : n + 510000000000 ≤ 1099511627776) :
  Calls Tryz.prog 68 #[.pointer (some ⟨R,0,none⟩),.slice A es.length c] w (WrPost 100 R base (n+510000000000) (addEvs es (addMany 1099511627776 es.length st)) w):=by
 have hz:=hw.lt
 have hc:=mMany_any R base n es.length st w hw hR (by omega) (by omega)
 obtain ⟨s1,hs1⟩:∃s,addMany 1099511627776 es.length st=s:=⟨_,rfl⟩
 obtain ⟨s2,hs2⟩:∃s,addEvs es s1=s:=⟨_,rfl⟩
 rw [hs1] at hc ⊢
 rw [hs2]
 replace hs1:=Lib.hid hs1
 replace hs2:=Lib.hid hs2
 replace hc:=Lib.hid hc
 replace hGE:=Lib.hid hGE
 replace hsl:=Lib.hid hsl
 replace hsm:=Lib.hid hsm
 replace hT:=Lib.hid hT
 replace hw:=Lib.hid hw
 go_enter Tryz.func68,Tryz.ntmps68
 go_upto_region 1 with (go_at_call 95;(with_reducible refine Calls.mono hc.out ?_);rintro e w3 ⟨rfl,hw3,hk3⟩;replace hw3:=Lib.hid hw3;replace hk3:=Lib.hid hk3;clear hc)
 go_wp2_with fail
 go_loopw [4] (fun i wr=>∃(k:Nat) (sk:Option (List UInt8)),i=.int .i64 k∧k≤es.length∧Hid (WrS 100 R base (n+10+k * 500000) sk wr)∧Hid (Kw R base w wr)∧Hid (addEvs (es.drop k) sk=s2)) (fun i _=>es.length - (intOf i).toNat)
 case atStart=>exact ⟨0,s1,rfl,Nat.zero_le _,(by simpa [Hid] using hw3.out),hk3,by simpa [Hid] using hs2.out⟩
 case round =>
  obtain ⟨wo,rfl⟩:∃wo:World,wo=wr:=⟨_,rfl⟩
  clear hw3 hk3
  obtain ⟨k,sk,rfl,hkl,hwr,hkw,hadd⟩:=hrel
  have hc1:=hwr.out.c1
  have hRr:=hwr.out.lt
  by_cases hlt:k < es.length
  case neg =>
   have hfin:sk=s2:=by
    have:=hadd.out
    rwa [List.drop_eq_nil_of_le (by omega)] at this
   have hwe:=hwr.out.more (n':=n+510000000000) (by omega)
   rw [hfin] at hwe
   replace hwe:=Lib.hid hwe
   clear hfin
   go_wp2_with fail
   go_end0
   exact ⟨rfl,hwe.out,hkw.out⟩
  cases sk with
  | none =>
   have hfin:none=s2:=by
    have:=hadd.out
    rwa [addEvs_none] at this
   have hwe:=hwr.out.more (n':=n+510000000000) (by omega)
   rw [hfin] at hwe
   replace hwe:=Lib.hid hwe
   clear hfin
   simp only [Option.isNone_none] at hc1
   go_wp2_with fail
   go_end0
   exact ⟨rfl,hwe.out,hkw.out⟩
  | some m =>
   simp only [Option.isNone_some] at hc1
   obtain ⟨⟨sn,sv,sd,⟨sx,sy,sz⟩,si⟩,hx⟩:∃x,es[k]?=some x:=⟨_,List.getElem?_eq_getElem hlt⟩
   have hgE:=hkw.out.ge hGE.out hbE
   obtain ⟨⟨hss,hss2⟩,hsl2⟩:=hsm.out _ (List.mem_of_getElem? hx)
   obtain ⟨bb,o,rfl,hb,c0,c1,c2,c3,c4,c5,c6⟩:=(hsl.out.g (Nat.le_refl _) hgE).ev hx
   have hdr:=addEvs_drop hx (some m)
   rw [hadd.out] at hdr
   dsimp only at c0 c1 c2 c3 c4 c5 c6 hss hss2 hsl2
   have n1:(0:Int)≤(k:Int):=by omega
   have n2:(k:Int) < (es.length:Int):=by omega
   have hc:Calls Tryz.prog 97 #[.agg #[.string sn,.int .i64 sv,.string sd,.int .i64 sx,.int .i64 sy,.int .i64 sz,.int .i64 si]] wo (RetBytesN wo (evL ⟨sn,sv,sd,⟨sx,sy,sz⟩,si⟩)):=evEnc_any sn sd sv sx sy sz si wo hss hss2 (hT.out.g hgE)
   have hbw:base≤wo.heap.size:=by omega
   obtain ⟨el,hel⟩:∃el,evL ⟨sn,sv,sd,⟨sx,sy,sz⟩,si⟩=el:=⟨_,rfl⟩
   rw [hel] at hdr hsl2 hc
   obtain ⟨nx,hnx⟩:∃nx,addB el (some m)=nx:=⟨_,rfl⟩
   rw [hnx] at hdr
   replace hc:=Lib.hid hc
   replace hnx:=Lib.hid hnx
   replace hdr:=Lib.hid hdr
   replace hx:=Lib.hid hx
   replace hel:=Lib.hid hel
   clear hgE hss hss2
   go_wp2_with (first
    | (go_at_call 97;(with_reducible refine Calls.mono hc.out ?_);rintro e5 w5 ⟨Ab,cb,rfl,hob,hgb,_⟩;have hc2:=mSome_own (hwr.out.g hgb) hR (by omega) hob;rw [hnx.out] at hc2;replace hc2:=Lib.hid hc2;have hk5:=Lib.hid (hkw.out.trans (Kw.of_g hgb hbw));clear hob hgb)
    | (go_at_call 60;(with_reducible refine Calls.mono hc2.out ?_);rintro e6 w6 ⟨rfl,hw6,hk6⟩;have hw7:=Lib.hid (hw6.more (n':=n+10+(k+1) * 500000) (by omega));have hk7:=Lib.hid (hk5.out.trans hk6);clear hw6 hk6))
   go_roundw
   case rel=>exact ⟨k+1,nx,by go_num,by omega,hw7,hk7,hdr.out.symm⟩
   case measure=>(simp [intOf] <;> omega)
set_option maxRecDepth 100000 in
set_option maxHeartbeats 4000000 in
theorem mSpans_any (R base n : Nat) (st : Option (List UInt8)) (gs : List Rg) (A : Option Addr) (c : Nat) (wE w : World) (hw : WrS 100 R base n st w) (hR : base ≤ R) (hGE : G wE w) (hbE : wE.heap.size ≤ base) (hsl : Sl Rg.cells 4 wE wE.heap.size A gs) (hsm : ∀ g ∈ gs, Int64 g.a ∧ Int64 g.b ∧ Int64 g.c ∧ Int64 g.d) (hl : gs.length ≤ 1000000) (hn : n + 510000000000 ≤ 1099511627776) :
  Calls Tryz.prog 69 #[.pointer (some ⟨R,0,none⟩),.slice A gs.length c] w (WrPost 100 R base (n+510000000000) (addRgs gs (addMany 1099511627776 gs.length st)) w):=by
 have hz:=hw.lt
 have hc:=mMany_any R base n gs.length st w hw hR (by omega) (by omega)
 obtain ⟨s1,hs1⟩:∃s,addMany 1099511627776 gs.length st=s:=⟨_,rfl⟩
 obtain ⟨s2,hs2⟩:∃s,addRgs gs s1=s:=⟨_,rfl⟩
 rw [hs1] at hc ⊢
 rw [hs2]
 replace hs1:=Lib.hid hs1
 replace hs2:=Lib.hid hs2
 replace hc:=Lib.hid hc
 replace hGE:=Lib.hid hGE
 replace hsl:=Lib.hid hsl
 replace hsm:=Lib.hid hsm
 replace hw:=Lib.hid hw
 go_enter Tryz.func69,Tryz.ntmps69
 go_upto_region 1 with (go_at_call 95;(with_reducible refine Calls.mono hc.out ?_);rintro e w3 ⟨rfl,hw3,hk3⟩;replace hw3:=Lib.hid hw3;replace hk3:=Lib.hid hk3;clear hc)
 go_wp2_with fail
 go_loopw [12] (fun i wr=>∃(k:Nat) (sk:Option (List UInt8)),i=.int .i64 k∧k≤gs.length∧Hid (WrS 100 R base (n+10+k * 500000) sk wr)∧Hid (Kw R base w wr)∧Hid (addRgs (gs.drop k) sk=s2)) (fun i _=>gs.length - (intOf i).toNat)
 case atStart=>exact ⟨0,s1,rfl,Nat.zero_le _,(by simpa [Hid] using hw3.out),hk3,by simpa [Hid] using hs2.out⟩
 case round =>
  obtain ⟨wo,rfl⟩:∃wo:World,wo=wr:=⟨_,rfl⟩
  clear hw3 hk3
  obtain ⟨k,sk,rfl,hkl,hwr,hkw,hadd⟩:=hrel
  have hRr:=hwr.out.lt
  by_cases hlt:k < gs.length
  case neg =>
   have hfin:sk=s2:=by
    have:=hadd.out
    rwa [List.drop_eq_nil_of_le (by omega)] at this
   have hwe:=hwr.out.more (n':=n+510000000000) (by omega)
   rw [hfin] at hwe
   have n2:¬ (k:Int) < (gs.length:Int):=by omega
   replace hwe:=Lib.hid hwe
   clear hfin
   go_wp2_with fail
   go_end0
   exact ⟨rfl,hwe.out,hkw.out⟩
  obtain ⟨⟨ga,gb,gc,gd⟩,hx⟩:∃x,gs[k]?=some x:=⟨_,List.getElem?_eq_getElem hlt⟩
  have hgE:=hkw.out.ge hGE.out hbE
  obtain ⟨i1,i2,i3,i4⟩:=hsm.out _ (List.mem_of_getElem? hx)
  obtain ⟨bb,o,rfl,hb,hcell⟩:=(hsl.out.g (Nat.le_refl _) hgE).get hx
  have c0:=hcell 0 _ rfl
  have c1:=hcell 1 _ rfl
  have c2:=hcell 2 _ rfl
  have c3:=hcell 3 _ rfl
  have hdr:=addRgs_drop hx sk
  rw [hadd.out] at hdr
  dsimp only at c0 c1 c2 c3 i1 i2 i3 i4
  simp only [Nat.add_zero] at c0
  have n1:(0:Int)≤(k:Int):=by omega
  have n2:(k:Int) < (gs.length:Int):=by omega
  have hgn:=G.new wo (.cells #[.int .i64 ga,.int .i64 gb,.int .i64 gc,.int .i64 gd] 36)
  have hc:=mSpan_any R base (n+10+k * 500000) sk _ (hwr.out.g hgn) hR (by omega) ga gb gc gd (by intro u hu;simp at hu;rcases hu with rfl | rfl | rfl | rfl <;> assumption)
  have hk5:=hkw.out.trans (Kw.of_g (R:=R) (base:=base) hgn (by omega))
  obtain ⟨nx,hnx⟩:∃nx,addNs 1099511627776 [ga,gb,gc,gd] sk=nx:=⟨_,rfl⟩
  rw [show rgNs ⟨ga,gb,gc,gd⟩=[ga,gb,gc,gd] from rfl,hnx] at hdr
  rw [hnx] at hc
  replace hc:=Lib.hid hc
  replace hk5:=Lib.hid hk5
  replace hnx:=Lib.hid hnx
  replace hdr:=Lib.hid hdr
  replace hx:=Lib.hid hx
  clear hgE hcell hgn i1 i2 i3 i4
  go_wp2_with (go_at_call 66;(with_reducible refine Calls.mono hc.out ?_);rintro e6 w6 ⟨rfl,hw6,hk6⟩;have hw7:=Lib.hid (hw6.more (n':=n+10+(k+1) * 500000) (by omega));have hk7:=Lib.hid (hk5.out.trans hk6);clear hw6 hk6)
  go_roundw
  case rel=>exact ⟨k+1,nx,by go_num,by omega,hw7,hk7,hdr.out.symm⟩
  case measure=>(simp [intOf] <;> omega)
end Go.Proofs.YtheogchkelmeeaaGreatDoor

/- Several texts in one: RefMEnc9, MsgDocLaw, RefMDecD, Cell2. -/
import Derived.Test.YtheogchkelmeeaaGreatDoorRefMEnc1QMsgDecodes
import Derived.Test.YtheogchkelmeeaaGreatDoorRefMEnc2QMsgDecodes
import Derived.Test.YtheogchkelmeeaaGreatDoorEvEncQMsgDecodes
import Derived.Test.YtheogchkelmeeaaGreatDoorM40MsgDecodes
import Derived.Test.YtheogchkelmeeaaGreatDoorM20MsgDecodes
/- penstockref10.Encode: what it answers of a Feed, and of any message. Conditions: lengths as told; the decoder's tables lie as the library lays them. -/
namespace Go.Proofs.YtheogchkelmeeaaGreatDoor
open Go.RowKit
set_option maxRecDepth 100000 in
set_option maxHeartbeats 16000000 in
theorem refMEnc_9 (r:MsgM) (w:World) (hin:r.In w) (hok:r.Small) (hT:Tabs w) (hk:r.kind=9) (hc:chkM r.p=true):Calls Tryz.prog 25 #[.agg r.cells] w (RetM 1 w (some (docM r.p))):=by
 have hdoc:docM r.p=(((((([UInt8.ofNat r.kind.toNat]++nL r.src)++nL r.total)++vL r.es.length)++r.es.flatMap evL)++stL r.st)++vL r.rgs.length)++r.rgs.flatMap fun g=>nLs (rgNs g):=by
  have h0:r.p.kind=9:=hk
  unfold docM
  simp only [h0,hk]
  simp [nLs,List.append_assoc,MsgM.p]
 rw [hdoc]
 obtain ⟨m0,hm0⟩:∃m,[UInt8.ofNat r.kind.toNat]=m:=⟨_,rfl⟩
 rw [hm0]
 have hl0:m0.length=1:=by rw [←hm0];rfl
 have fn:=mfine_of hc
 have hste:=stE_ok fn.st
 have hbl:=hok.bat
 obtain ⟨m1,hm1⟩:∃m,m0++nL r.src=m:=⟨_,rfl⟩
 rw [hm1]
 have hl1:m1.length≤11:=by rw [←hm1,List.length_append];have h1:=nL_len r.src;omega
 obtain ⟨m2,hm2⟩:∃m,m1++nL r.total=m:=⟨_,rfl⟩
 rw [hm2]
 have hl2:m2.length≤21:=by rw [←hm2,List.length_append];have h1:=nL_len r.total;omega
 obtain ⟨m3,hm3⟩:∃m,m2++vL r.es.length=m:=⟨_,rfl⟩
 rw [hm3]
 have hl3:m3.length≤31:=by rw [←hm3,List.length_append];have h1:=vL_len r.es.length;omega
 obtain ⟨m4,hm4⟩:∃m,m3++r.es.flatMap evL=m:=⟨_,rfl⟩
 rw [hm4]
 have hl4:m4.length≤500000031:=by
  rw [←hm4,List.length_append]
  have h1:=flatLe evL 500000 r.es fun e he=>(hok.es e he).2
  have h2:=fn.esL
  have h3:r.es.length * 500000≤1000 * 500000:=Nat.mul_le_mul_right _ h2
  omega
 obtain ⟨m5,hm5⟩:∃m,m4++stL r.st=m:=⟨_,rfl⟩
 rw [hm5]
 have hl5:m5.length≤500000061:=by rw [←hm5,List.length_append];have h1:=stL_len r.st;omega
 obtain ⟨m6,hm6⟩:∃m,m5++vL r.rgs.length=m:=⟨_,rfl⟩
 rw [hm6]
 have hl6:m6.length≤500000071:=by rw [←hm6,List.length_append];have h1:=vL_len r.rgs.length;omega
 have hg0:=G.new w (.cells r.cells 41)
 have hB0:=blk_new w r.cells 41
 have LR:=load_blk (P:=Tryz.prog) (T:=41) hB0 Tryz.underlying41 rfl (by kernel_rfl)
 have hck:Calls Tryz.prog 50 #[.agg r.cells] (w.alloc (.cells r.cells 41)) fun e w'=>e=.returned (.int .i64 0)∧G (w.alloc (.cells r.cells 41)) w':=by
  have:=refMChk_any r _ (hin.g hg0) hok (hT.g hg0)
  rw [show chkC r=0 from by unfold chkC;rw [if_neg (by rw [hk];decide),if_pos hc]] at this
  exact this
 have hkw:IntKind.u8.wrap r.kind=r.kind:=by rw [hk];rfl
 have hub:((UInt8.ofNat r.kind.toNat).toNat:Int)=r.kind:=by rw [hk];rfl
 have e1:(r.kind == 1)=false:=by rw [hk];rfl
 have e2:(r.kind == 2)=false:=by rw [hk];rfl
 have e3:(r.kind == 3)=false:=by rw [hk];rfl
 have e4:(r.kind == 4)=false:=by rw [hk];rfl
 have e5:(r.kind == 5)=false:=by rw [hk];rfl
 have e6:(r.kind == 6)=false:=by rw [hk];rfl
 have e7:(r.kind == 7)=false:=by rw [hk];rfl
 have e8:(r.kind == 8)=false:=by rw [hk];rfl
 have e9:(r.kind == 9)=true:=by rw [hk];rfl
 have hst:∀w',Calls Tryz.prog 51 #[.agg #[.int .i64 r.st.wall,.int .i64 r.st.logic,.int .i64 r.st.node]] w' (RetBytes w' (stE r.st)):=fun w'=>refStEnc_any r.st w'
 rw [hste] at hst
 obtain ⟨sl,hsl⟩:∃l,stL r.st=l:=⟨_,rfl⟩
 obtain ⟨bl,hbl2⟩:∃l,batL r.key (r.ps.map PutM.p)=l:=⟨_,rfl⟩
 have hsll:sl.length≤30:=by rw [←hsl];exact stL_len r.st
 have hbll:bl.length≤500000:=by rw [←hbl2];exact hbl
 rw [hsl] at hst
 replace hst:=Lib.hid hst
 replace hck:=Lib.hid hck
 rw [hsl] at hm5
 replace hm0:=Lib.hid hm0
 replace hm1:=Lib.hid hm1
 replace hm2:=Lib.hid hm2
 replace hm3:=Lib.hid hm3
 replace hm4:=Lib.hid hm4
 replace hm5:=Lib.hid hm5
 replace hm6:=Lib.hid hm6
 replace hl0:=Lib.hid hl0
 replace hk:=Lib.hid hk
 replace hdoc:=Lib.hid hdoc
 replace hin:=Lib.hid hin
 replace hok:=Lib.hid hok
 replace hT:=Lib.hid hT
 replace hste:=Lib.hid hste
 replace hub:=Lib.hid hub
 replace hsl:=Lib.hid hsl
 replace hbl2:=Lib.hid hbl2
 replace hc:=Lib.hid hc
 clear hbl
 go_enter Tryz.func25,Tryz.ntmps25
 go_upto_region 1 with fail
 generalize w.alloc (.cells r.cells 41)=W0 at *
 go_upto_region 4 with (first|(refine wpList_load_at rfl (by kernel_rfl) (p:=.pointer (some ⟨_,0,none⟩)) rfl (by assumption) ?_)|(go_at_call 50;refine Calls.mono hck.out ?_;rintro e u1 ⟨rfl,hg1⟩))
 clear LR hck
 have B1:=hg1.blk hB0
 have hz0:w.heap.size < u1.heap.size:=blk_lt B1
 have hG1:=hg0.trans hg1
 have g0:=(blk_cell B1 0).trans (show _=some (.int .i64 r.kind) from rfl)
 go_upto_region 5 with fail
 clear g0 hkw
 have hgy:=G.new u1 (.cells #[.int .u8 r.kind] 5)
 have hY:=blk_new u1 #[.int .u8 r.kind] 5
 have hzz:(u1.alloc (.cells #[.int .u8 r.kind] 5)).heap.size=u1.heap.size+1:=by simp
 generalize u1.alloc (.cells #[.int .u8 r.kind] 5)=W2 at *
 have ho0:OwnL 5 1 byteC W2 u1.heap.size (.slice (some ⟨u1.heap.size,0,none⟩) m0.length 1) m0:=by
  rw [←hm0.out]
  exact OwnL.made byteC_len [UInt8.ofNat r.kind.toNat] hY (by simp only [List.flatMap_cons,List.flatMap_nil,byteC,hub.out];rfl) (Nat.le_refl _) (by simp)
 have B2:=hgy.blk B1
 have hG2:=hG1.trans hgy
 generalize u1.heap.size=b0 at *
 have y4:=(blk_cell B2 6).trans (show _=some (.int .i64 r.st.wall) from rfl)
 have y5:=(blk_cell B2 7).trans (show _=some (.int .i64 r.st.logic) from rfl)
 have y6:=(blk_cell B2 8).trans (show _=some (.int .i64 r.st.node) from rfl)
 replace B1:=Lib.hid B1
 replace B2:=Lib.hid B2
 replace hY:=Lib.hid hY
 replace hzz:=Lib.hid hzz
 go_upto_region 6 with ((go_at_call 51;(with_reducible refine Calls.mono (hst.out _) ?_);rintro e w4 ⟨As,cs,rfl,hos,hg3⟩))
 clear y4 y5 y6 hst
 have B4:=hg3.blk B2.out
 have hG4:=hG2.trans hg3
 have hz3:=hg3.size
 have hns:=hos.ne (b0:=b0) (by rw [hzz.out];omega)
 have hns2:=hos.nn byteC_len
 have hss:=hos.self byteC_len
 have hzb:b0 < w4.heap.size:=by rw [hzz.out] at hz3;omega
 replace ho0:=ho0.g hg3
 have y0:=(blk_cell B4 0).trans (show _=some (.int .i64 r.kind) from rfl)
 replace ho0:=Lib.hid ho0
 replace hns:=Lib.hid hns
 replace hns2:=Lib.hid hns2
 replace hss:=Lib.hid hss
 clear hos hz3 hzz hY B1 B2 hg3 hG1 hG2 hgy hg1 hg0 hB0
 go_upto_region 24 with fail
 clear y0
 have hKc:∀(j:Nat) (v:Value),r.cells[j]?=some v→∀w',KeepT 5 b0 w4 w'→w'.cell? ⟨w.heap.size,j,none⟩=some v:=fun j v hv w' h=>(blk_cell (h.2 _ _ _ _ (by decide) B4) j).trans hv
 have q17:=hKc 17 (.int .i64 r.src) rfl
 have q18:=hKc 18 (.int .i64 r.total) rfl
 have q19:=hKc 19 (.slice r.Ae r.es.length r.ce) rfl
 have q20:=hKc 20 (.slice r.Ag r.rgs.length r.cg) rfl
 have hl0':=hl0.out
 have hes:∀w',KeepT 5 b0 w4 w'→Sl Ev.cells 7 w' w.heap.size r.Ae r.es:=fun w' hk=>(hin.out.es.g (Nat.le_refl _) hG4).keep fun b o hb=>hk.1.cell (p:=⟨b,o,none⟩) (by show b < b0;omega)
 have hrg:∀w',KeepT 5 b0 w4 w'→Sl Rg.cells 4 w' w.heap.size r.Ag r.rgs:=fun w' hk=>(hin.out.rgs.g (Nat.le_refl _) hG4).keep fun b o hb=>hk.1.cell (p:=⟨b,o,none⟩) (by show b < b0;omega)
 have htb:∀w',KeepT 5 b0 w4 w'→Tabs w':=fun w' hk=>hT.out.g (KeepT.g (hk.mono (by omega)) hG4)
 replace hes:=Lib.hid hes
 replace hrg:=Lib.hid hrg
 replace htb:=Lib.hid htb
 replace hKc:=Lib.hid hKc
 have hc1:∀w',G w4 w'→Calls Tryz.prog 55 #[.slice (some ⟨b0,0,none⟩) 1 1,.int .i64 r.src] w' (PostW w' (.slice (some ⟨b0,0,none⟩) 1 1) b0 m1):=fun w' h=>by
  have h8:=ho0.out.g h
  have h9:=num10_int r.src hm1 (by omega) fn.src (Nat.le_trans (Nat.le_of_lt hzb) h.size) h8
  rw [hl0'] at h9
  exact h9
 replace hc1:=Lib.hid hc1
 have hdr:G w4 w4.drew:=(G.refl _).drew
 have hkd:=KeepT.of_g (e:=5) hdr (Nat.le_of_lt hzb)
 replace B4:=Lib.hid B4
 go_region_held3 (fun w'=>KeepT 5 b0 w4 w') (first | exact hkd | exact hK1 | exact hK2 | exact hK3 | fail) (first
  | (go_at_call 55;(with_reducible refine Calls.mono (num10_int r.es.length (Lib.hid (show m2++nL (r.es.length:Int)=m3 from by rw [←hm3.out];unfold nL;rw [Int.toNat_natCast])) (by omega) ⟨by omega,by have:=fn.esL;omega⟩ (Nat.le_trans (Nat.le_of_lt hzb) (keepT_sz hK2)) ho2) ?_);rintro e u3 ⟨A3,d3,rfl,ho3,hk3,ht3⟩;have hK3:=hK2.trans hk3;have ht3':=ht2'.trans ht3;clear ht3)
  | (go_at_call 55;(with_reducible refine Calls.mono (num10_int r.total hm2 (by omega) fn.total (Nat.le_trans (Nat.le_of_lt hzb) (keepT_sz hK1)) ho1) ?_);rintro e u2 ⟨A2,d2,rfl,ho2,hk2,ht2⟩;have hK2:=hK1.trans hk2;have ht2':=ht1'.trans ht2;clear ht2)
  | (go_at_call 55;(with_reducible refine Calls.mono (hc1.out _ hdr) ?_);rintro e u1 ⟨A1,d1,rfl,ho1,hk1,ht1⟩;have hK1:KeepT 5 b0 w4 u1:=KeepT.trans hkd hk1;have ht1':=Turn.g hdr ht1;clear ht1))
 all_goals
  replace q17:=Lib.hid q17
  replace q18:=Lib.hid q18
  replace q19:=Lib.hid q19
  replace q20:=Lib.hid q20
  replace ho3:=Lib.hid ho3
  replace hK3:=Lib.hid hK3
  replace ht3':=Lib.hid ht3'
  clear ho1 ho2 hK1 hK2 ht1' ht2' hk1 hk2 hk3 hc1 hkd hdr
  go_wp2_with fail
  go_loopw [5,7] (fun v i wr=>∃(k:Nat) (m:List UInt8) (A8:Option Addr) (c8:Nat),v=.slice A8 m.length c8∧i=.int .i64 k∧k≤r.es.length∧m.length≤31+k * 500000∧Hid (m=m3++(r.es.take k).flatMap evL)∧Hid (OwnL 5 1 byteC wr b0 (.slice A8 m.length c8) m)∧Hid (KeepT 5 b0 w4 wr)∧Hid (Turn w4 (.slice (some ⟨b0,0,none⟩) 1 1) (.slice A8 m.length c8) wr)) (fun _ i _=>r.es.length - (intOf i).toNat)
  case atStart=>exact ⟨0,m3,A3,d3,rfl,rfl,Nat.zero_le _,by omega,by simp [Hid],ho3,hK3,ht3'⟩
  case round =>
   clear ho3 hK3 ht3'
   obtain ⟨k,m,A8,c8,rfl,rfl,hkl,hml,hm,ho,hk',ht⟩:=hrel
   have hz:=keepT_sz hk'.out
   have y19:=q19.out _ hk'.out
   have hzl:=fn.esL
   by_cases hlt:k < r.es.length
   ·obtain ⟨⟨s,v,d,⟨x,y,z⟩,ix⟩,hx⟩:∃x,r.es[k]?=some x:=⟨_,List.getElem?_eq_getElem hlt⟩
    obtain ⟨b,o,hA,hb,c0,c1,c2,c3,c4,c5,c6⟩:=(hes.out _ hk'.out).ev hx
    rw [hA] at y19
    have hxM:=hok.out.es _ (List.mem_of_getElem? hx)
    have htk:=flat_take_succ evL hx
    have hen:=refEvEnc_any s d v x y z ix wr (by have:=hxM.1.1;exact this) (by have:=hxM.1.2;exact this) (htb.out _ hk'.out)
    have n1:(0:Int)≤(k:Int):=by omega
    have n2:(k:Int) < (r.es.length:Int):=by omega
    obtain ⟨sL,hsL⟩:∃sL,evL ⟨s,v,d,⟨x,y,z⟩,ix⟩=sL:=⟨_,rfl⟩
    obtain ⟨m8,hm8⟩:∃m8,m++sL=m8:=⟨_,rfl⟩
    have hm9:m8=m3++(r.es.take (k+1)).flatMap evL:=by rw [htk,hsL,←hm8,hm.out,List.append_assoc]
    have hm8l:m8.length=m.length+sL.length:=by rw [←hm8,List.length_append]
    have hsl5:=hxM.2
    rw [hsL] at hen hsl5
    replace hen:=Lib.hid (show Calls Tryz.prog 49 #[.agg #[.string s,.int .i64 v,.string d,.int .i64 x,.int .i64 y,.int .i64 z,.int .i64 ix]] wr (RetBytesN wr sL) from hen)
    replace hm9:=Lib.hid hm9
    replace hm8:=Lib.hid hm8
    replace hm8l:=Lib.hid hm8l
    replace hx:=Lib.hid hx
    replace hsL:=Lib.hid hsL
    clear htk hA hxM
    go_wp2_with (first
     | (go_at_call 49;(with_reducible refine Calls.mono hen.out ?_);rintro e5 w5 ⟨A5,c5,rfl,hob,hgb,_⟩;have hslw:=OwnL.self byteC_len hob;have hA5:A5=none→sL=[]:=(fun h=>(h ▸ hslw).of_none);have ho5:=Lib.hid (ho.out.g hgb);have hk5:=Lib.hid (hk'.out.trans (KeepT.of_g hgb (Nat.le_trans (Nat.le_of_lt hzb) hz)));have ht5:=Lib.hid (ht.out.after hgb);have hz5:=hgb.size;clear hob hgb)
     | (at_builtin;refine wpList_append_w byte_elem _ rfl (.tmp 120) (.tmp 126) rfl b0 (.slice A8 m.length c8) m rfl ho5.out w5.heap.size A5 c5 sL rfl hA5 hslw (by omega) (by omega) (by omega) ?_;intro v6 w6 hown6 hk6 hb6 hw6;rw [hm8.out] at hown6;obtain ⟨A6,c6,e6,_,_,_⟩:=OwnL.sl byteC_len hown6;subst e6;have hk7:=Lib.hid (hk5.out.trans hk6);have ht7:=Lib.hid (ht5.out.trans (Turn.of_app hb6 hw6));replace hown6:=Lib.hid hown6;clear hk6 hb6 hw6))
    go_roundw
    case rel=>exact ⟨k+1,m8,A6,c6,rfl,by go_num,by omega,by have:=hm8l.out;omega,hm9,hown6,hk7,ht7⟩
    case measure=>(simp [intOf] <;> omega)
   ·have hfin:m4=m:=by
     rw [hm.out,List.take_of_length_le (by omega)]
     exact hm4.out.symm
    subst hfin
    replace hm:=Lib.hid hm.out
    have hsm:=ht.out.sl hss.out (Nat.le_refl _) hns.out
    have n2:¬ (k:Int) < (r.es.length:Int):=by omega
    have hzr:=fn.rgsL
    have hdr:KeepT 5 b0 wr wr.drew:=KeepT.of_g ((G.refl _).drew) (by omega)
    have hgd:G wr wr.drew:=(G.refl _).drew
    have q20':∀w',KeepT 5 b0 wr w'→w'.cell? ⟨w.heap.size,20,none⟩=some (.slice r.Ag r.rgs.length r.cg):=fun w' h=>q20.out w' (hk'.out.trans h)
    replace hsm:=Lib.hid hsm
    go_upto_region 29 with fail
    go_region_held3 (fun w'=>KeepT 5 b0 wr w') (first | exact hdr | exact hKa | exact hKb | fail) (first
     | (refine step_append_w byte_elem _ (by kernel_rfl) (.tmp 128) (.tmp 129) rfl b0 (.slice A8 m4.length c8) m4 rfl (ho.out.g hgd) w4.heap.size As cs sl rfl hns2.out (hsm.out.g (by omega) hgd) (by omega) (by omega) (by have:=hgd.size;omega) ?_;intro va ua hoa hka hbut hwh;rw [hm5.out] at hoa;obtain ⟨Aa,da,ea,_,_,_⟩:=OwnL.sl byteC_len hoa;subst ea;have hKa:=hdr.trans hka;have hta:=(ht.out.after hgd).trans (Turn.of_app hbut hwh);clear hbut hwh)
     | (go_at_call 55;(with_reducible refine Calls.mono (num10_int r.rgs.length (Lib.hid (show m5++nL (r.rgs.length:Int)=m6 from by rw [←hm6.out];unfold nL;rw [Int.toNat_natCast])) (by omega) ⟨by omega,by have:=fn.rgsL;omega⟩ (Nat.le_trans (Nat.le_trans (Nat.le_of_lt hzb) hz) (keepT_sz hKa)) hoa) ?_);rintro e ub ⟨Ab,db,rfl,hob,hkb,htb2⟩;have hKb:=hKa.trans hkb;have htb':=hta.trans htb2;clear htb2))
    all_goals
     have hKw:=Lib.hid (hk'.out.trans hKb)
     replace hob:=Lib.hid hob
     clear q20' hoa hKa hta htb' hKb hka hkb hsm ho ht hk' hdr hgd y19 n2
     go_wp2_with fail
     go_loopw [5,8] (fun v i wr=>∃(k:Nat) (m:List UInt8) (A8:Option Addr) (c8:Nat),v=.slice A8 m.length c8∧i=.int .i64 k∧k≤r.rgs.length∧m.length≤500000071+k * 40∧Hid (m=m6++(r.rgs.take k).flatMap fun g=>nLs (rgNs g))∧Hid (OwnL 5 1 byteC wr b0 (.slice A8 m.length c8) m)∧Hid (KeepT 5 b0 w4 wr)) (fun _ i _=>r.rgs.length - (intOf i).toNat)
     case atStart=>exact ⟨0,m6,Ab,db,rfl,rfl,Nat.zero_le _,by omega,by simp [Hid],hob,hKw⟩
     case round =>
      obtain ⟨wo,rfl⟩:∃wo:World,wo=wr:=⟨_,rfl⟩
      clear hob hKw
      obtain ⟨j,n,A9,c9,rfl,rfl,hjl,hnl,hn,ho,hk'⟩:=hrel
      have hz:=keepT_sz hk'.out
      have y20:=q20.out _ hk'.out
      by_cases hlt:j < r.rgs.length
      ·obtain ⟨g,hx⟩:∃x,r.rgs[j]?=some x:=⟨_,List.getElem?_eq_getElem hlt⟩
       obtain ⟨b,o,hA,hb,c0,c1,c2,c3⟩:=(hrg.out _ hk'.out).rg hx
       rw [hA] at y20
       have hgf:=fn.rgs g (List.mem_of_getElem? hx)
       have htk:=flat_take_succ (fun g=>nLs (rgNs g)) hx
       obtain ⟨ga,gb,gc,gd⟩:=g
       dsimp only at c0 c1 c2 c3 hgf
       have n1:(0:Int)≤(j:Int):=by omega
       have n2:(j:Int) < (r.rgs.length:Int):=by omega
       obtain ⟨n8,hn8⟩:∃n8,n++nLs [ga,gb,gc,gd]=n8:=⟨_,rfl⟩
       have hn9:n8=m6++(r.rgs.take (j+1)).flatMap fun g=>nLs (rgNs g):=by rw [htk,←hn8,hn.out,List.append_assoc];rfl
       have hn8l:n8.length≤n.length+40:=by
        rw [←hn8,List.length_append]
        have h1:=nLs_len [ga,gb,gc,gd]
        rw [show [ga,gb,gc,gd].length=4 from rfl] at h1
        omega
       have hc9:=rng10_int ga gb gc gd (Lib.hid hn8) (by omega) hgf.1 hgf.2.1 hgf.2.2.1 hgf.2.2.2 (by omega) ho.out
       replace hc9:=Lib.hid hc9
       replace hn8:=Lib.hid hn8
       replace hn9:=Lib.hid hn9
       replace hx:=Lib.hid hx
       replace hgf:=Lib.hid hgf
       clear htk hA
       go_wp2_with (go_at_call 58;(with_reducible refine Calls.mono hc9.out ?_);rintro e w5 ⟨A5,c5,rfl,ho5,hk5,_⟩;replace ho5:=Lib.hid ho5;have hk7:=Lib.hid (hk'.out.trans hk5);clear hk5)
       go_roundw
       case rel=>exact ⟨j+1,n8,A5,c5,rfl,by go_num,by omega,by omega,hn9,ho5,hk7⟩
       case measure=>(simp [intOf] <;> omega)
      ·have hfin:m6++r.rgs.flatMap (fun g=>nLs (rgNs g))=n:=by
        rw [hn.out,List.take_of_length_le (by omega)]
       replace hfin:=Lib.hid hfin
       have n2:¬ (j:Int) < (r.rgs.length:Int):=by omega
       go_wp2_with fail
       go_ret2
       rw [hfin.out]
       exact ⟨A9,c9,rfl,ho.out.mono (by omega),KeepT.g (hk'.out.mono (by omega)) hG4⟩
set_option maxRecDepth 100000 in
set_option maxHeartbeats 4000000 in
theorem refMEnc_no (r:MsgM) (w:World) (hin:r.In w) (hok:r.Small) (hT:Tabs w) (hk:kOk r.kind=true) (hc:chkM r.p=false):Calls Tryz.prog 25 #[.agg r.cells] w (RetM 1 w none):=by
 have hg0:=G.new w (.cells r.cells 41)
 have hB0:=blk_new w r.cells 41
 have LR:=load_blk (P:=Tryz.prog) (T:=41) hB0 Tryz.underlying41 rfl (by kernel_rfl)
 have hck:Calls Tryz.prog 50 #[.agg r.cells] (w.alloc (.cells r.cells 41)) fun e w'=>e=.returned (.int .i64 1)∧G (w.alloc (.cells r.cells 41)) w':=by
  have:=refMChk_any r _ (hin.g hg0) hok (hT.g hg0)
  rw [show chkC r=1 from by unfold chkC;rw [if_neg (by rw [hk];decide),if_neg (by rw [hc];decide)]] at this
  exact this
 replace hck:=Lib.hid hck
 replace hin:=Lib.hid hin
 replace hok:=Lib.hid hok
 replace hT:=Lib.hid hT
 replace hc:=Lib.hid hc
 replace hk:=Lib.hid hk
 replace hB0:=Lib.hid hB0
 go_enter Tryz.func25,Tryz.ntmps25
 go_upto_region 1 with fail
 generalize w.alloc (.cells r.cells 41)=W0 at *
 go_wp2_with (first|(refine wpList_load_at rfl (by kernel_rfl) (p:=.pointer (some ⟨_,0,none⟩)) rfl (by assumption) ?_)|(go_at_call 50;refine Calls.mono hck.out ?_;rintro e u1 ⟨rfl,hg1⟩))
 go_ret2
 exact ⟨none,0,rfl,OwnL.nil,hg0.trans hg1⟩
theorem refMEnc_any (r:MsgM) (w:World) (hin:r.In w) (hok:r.Small) (hT:Tabs w) (hk:kOk r.kind=true) (ho:r.only=r):Calls Tryz.prog 25 #[.agg r.cells] w (RetM 1 w (encM r.p)):=by
 have hp:r.p=r.p.only:=by rw [←MsgM.only_p,ho]
 rw [hp,encM_eq,←hp]
 cases hc:chkM r.p with
 | false=>exact refMEnc_no r w hin hok hT hk hc
 | true =>
  show Calls _ _ _ _ (RetM 1 w (some (docM r.p)))
  rcases mkind_cases2 hk with h | h | h | h | h | h | h | h | h
  ·exact refMEnc_1 r w hin hok hT h hc
  ·exact refMEnc_2 r w hin hok hT h hc
  ·exact refMEnc_3 r w hin hok hT h hc
  ·exact refMEnc_4 r w hin hok hT h hc
  ·exact refMEnc_5 r w hin hok hT h hc
  ·exact refMEnc_6 r w hin hok hT h hc
  ·exact refMEnc_7 r w hin hok hT h hc
  ·exact refMEnc_8 r w hin hok hT h hc
  ·exact refMEnc_9 r w hin hok hT h hc
end Go.Proofs.YtheogchkelmeeaaGreatDoor
/- What the document's reading of a message takes; its Encode where it is none. No condition beyond its own. -/
namespace Go.Proofs.YtheogchkelmeeaaGreatDoor
open Go.RowKit
theorem Gives.to {α:Type} {d:Reader α} {st st1:Option (List UInt8)} {x y:α} (h:Gives d st st1 x) (he:x=y):Gives d st st1 y:=he ▸ h
theorem rdsc_12 : RdsC (mI 12) mFlag := ⟨fun l x r h => by
  obtain ⟨h1,h2⟩:=(cd_i (m:=12) (by decide)).c l x r h
  exact ⟨h1,⟨h2.1,by have:=h2.2;omega⟩⟩,fun l b r h=>(cd_flag.c l b r h).1⟩
theorem dMsgX_df {dc:Reader Int} {df df2:Reader Bool} {k:Int} (hk:k≠3):dMsgX dc df k=dMsgX dc df2 k:=by
 unfold dMsgX
 rw [if_neg hk,if_neg hk]
/-- What the document reads bears numbers that fit. -/
theorem mfine_doc {M:Nat} {k:Int} {l q:List UInt8} {p:MsgP} (h:dDoc k l=some (p,q)) (hM:l.length≤M):MFine M k p:=by
 by_cases hk:k=3
 ·subst hk
  have e1:dDoc 3=rb mTx fun tx=>rb mYes fun flag=>rb dStamp fun st=>rp { mZero 3 with x1:=tx.a,x2:=tx.b,x3:=tx.c,yes:=flag,st:=st }:=rfl
  rw [e1] at h
  obtain ⟨tx,r_tx,h_tx,h⟩:=rb_inv h
  obtain ⟨flag,r_flag,h_flag,h⟩:=rb_inv h
  obtain ⟨st,r_st,h_st,h⟩:=rb_inv h
  obtain ⟨rfl,rfl⟩:=rp_inv h
  obtain ⟨_,i_tx⟩:=cd_tx.c _ _ _ h_tx
  exact { mfine0 M 3 rfl with only:=rfl,x1:=i_tx.1,x2:=i_tx.2.1,x3:=i_tx.2.2 }
 ·have e:dDoc k=dMsgX (mI 12) mFlag k:=dMsgX_df hk
  rw [e] at h
  exact (dMsgX_c rdsc_12 h hM).2.1
theorem zeroM_in (K:Int) (w:World):(MsgM.zero K).In w:=⟨⟨Sl.nil,fun _ h=>by cases h⟩,Sl.nil,⟨Sl.nil,fun _ h=>by cases h⟩,Sl.nil,Sl.nil⟩
theorem zeroM_only {K:Int} (h:kOk K=false):(MsgM.zero K).only=MsgM.zero K:=MsgM.only_no h
theorem zeroM_fit (K:Int):(MsgM.zero K).Fit0:=⟨(show (⟨#[]⟩:ByteArray).size≤1073741824 by decide),⟨by simp [MsgM.zero],fun _ h=>by cases h⟩,fun _ h=>by cases h⟩
/-- What the switch left bears numbers that fit. -/
theorem DkEnd.small {m : MsgM} {K : Int} {q0 : List UInt8} {st : Option (List UInt8)} {rest : List UInt8} (hK : Int64 K) (hf : m.Fit0) (ho : m.only = m) (hl : q0.length ≤ 500000)
  (h:(kOk K=true∧Gives (dDoc K) (some q0) st m.p)∨(kOk K=false∧m=MsgM.zero K∧st=some q0)) (hst:st=some rest):m.Small:=by
 rcases h with ⟨_,h⟩ | ⟨h0,rfl,_⟩
 ·rw [hst] at h
  exact msmall_of hK hf (mfine_doc h.hit hl)
 ·refine msmall_of hK hf (mfine0 500000 K ?_)
  have:=MsgM.only_p (MsgM.zero K)
  rw [ho] at this
  exact this.symm
/-- A message, if any, is what the switch left. -/
theorem DkEnd.same {m : MsgM} {K : Int} {b : UInt8} {q0 : List UInt8} {st : Option (List UInt8)} {p : MsgP} (hK : (b.toNat : Int) = K)
  (h:(kOk K=true∧Gives (dDoc K) (some q0) st m.p)∨(kOk K=false∧m=MsgM.zero K∧st=some q0)) (hd:decM (b::q0)=some p) (hf:p.Fits):kOk K=true∧st=some []∧p=m.p:=by
 subst hK
 have h2:=mdoc_reads hd hf
 rcases h with ⟨h0,h⟩ | ⟨h0,_,_⟩
 ·refine ⟨h0,?_⟩
  cases st with
  | none =>
   rw [h.miss] at h2
   cases h2
  | some rest =>
   rw [h.hit] at h2
   cases h2
   exact ⟨rfl,rfl⟩
 ·rw [decM_no h0] at hd
  cases hd
set_option maxRecDepth 100000 in
set_option maxHeartbeats 4000000 in
theorem refMEnc_kind (r:MsgM) (w:World) (hin:r.In w) (hok:r.Small) (hT:Tabs w) (hk:kOk r.kind=false):Calls Tryz.prog 25 #[.agg r.cells] w fun e w'=>e=.returned (.tuple #[.slice none 0 0,.int .i64 12])∧G w w':=by
 have hg0:=G.new w (.cells r.cells 41)
 have hB0:=blk_new w r.cells 41
 have LR:=load_blk (P:=Tryz.prog) (T:=41) hB0 Tryz.underlying41 rfl (by kernel_rfl)
 have hck:Calls Tryz.prog 50 #[.agg r.cells] (w.alloc (.cells r.cells 41)) fun e w'=>e=.returned (.int .i64 12)∧G (w.alloc (.cells r.cells 41)) w':=by
  have:=refMChk_any r _ (hin.g hg0) hok (hT.g hg0)
  rw [show chkC r=12 from by unfold chkC;rw [if_pos hk]] at this
  exact this
 replace hck:=Lib.hid hck
 replace hin:=Lib.hid hin
 replace hok:=Lib.hid hok
 replace hT:=Lib.hid hT
 replace hk:=Lib.hid hk
 replace hB0:=Lib.hid hB0
 go_enter Tryz.func25,Tryz.ntmps25
 go_upto_region 1 with fail
 generalize w.alloc (.cells r.cells 41)=W0 at *
 go_wp2_with (first|(refine wpList_load_at rfl (by kernel_rfl) (p:=.pointer (some ⟨_,0,none⟩)) rfl (by assumption) ?_)|(go_at_call 50;refine Calls.mono hck.out ?_;rintro e u1 ⟨rfl,hg1⟩))
 go_ret2
 exact ⟨rfl,hg0.trans hg1⟩
end Go.Proofs.YtheogchkelmeeaaGreatDoor
/- penstockref10.Decode: what it answers. Conditions: at most 500000 bytes; what is a message bears lengths that fit; the decoder's tables lie as the library lays them. -/
namespace Go.Proofs.YtheogchkelmeeaaGreatDoor
open Go.RowKit
/-- What the document's reading answers. -/
def RetDoc (w:World) (l:List UInt8) (e:Ending) (w':World):Prop :=
 ∃(m:MsgM) (c:Int),e=.returned (.tuple #[.agg m.cells,.int .i64 c])∧((decM l=some m.p∧c=0∧m.Small)∨(decM l=none∧c=10))∧m.In w'∧G w w'
end Go.Proofs.YtheogchkelmeeaaGreatDoor
/- Two results, of which the first is a struct in a block of its own. No condition. -/
namespace Go.Proofs.YtheogchkelmeeaaGreatDoor
open Go.RowKit
theorem results_cell2 {P : Program} {fn : Func} {tmps : Array Value} {W : World} {i j b : Nat} {cs : Array Value} {v : Value} {t T : TypeId} {fz : Nat × Nat} {d : TypeDesc} (hr : fn.results = #[.cell i T, .tmp j]) (hp : tmps.getD i undef = .pointer (some ⟨b, 0, none⟩)) (hv : tmps.getD j undef = v) (h : W.heap[b]? = some (.cells cs t fz)) (hu : P.underlying T = some d) (hd : d.isRow = true) (hi : (P.info? T).map (·.size) = some cs.size) :
  (results fn tmps).run P W=.ok (.tuple #[.agg cs,v]) W:=by
 have h2:=run_loadVar_mid (P:=P) W b 0 T cs.toList d (fun j v hv=>by rw [Nat.zero_add,blk_cell h];simpa using hv) hu hd (by simpa using hi)
 have h3:(asAddr (tmps.getD i undef)).run P W=.ok ⟨b,0,none⟩ W:=by rw [hp];rfl
 unfold results
 rw [hr]
 simp only [List.mapM_toArray,List.mapM_cons,List.mapM_nil,Sem.run_bind,Sem.run_pure,Functor.map,hv]
 have h5:∀(m:Sem (List Value)) (w1:World),(m.bind (Sem.pure ∘ List.toArray)).run P w1=(m.run P w1).andThen fun a w'=>.ok a.toArray w':=fun m w1=>by
  show (m >>= fun a=>pure a.toArray).run P w1=_
  simp only [Sem.run_bind,Sem.run_pure]
 rw [h5]
 simp only [Sem.run_bind,Sem.run_pure,Result.andThen_ok,h3,h2]
 rfl
end Go.Proofs.YtheogchkelmeeaaGreatDoor

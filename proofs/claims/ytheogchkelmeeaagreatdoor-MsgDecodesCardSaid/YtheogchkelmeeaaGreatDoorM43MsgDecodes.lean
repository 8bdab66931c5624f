/- Several texts in one: MPuts, RefMEncA. -/
import Derived.Test.YtheogchkelmeeaaGreatDoorM42MsgDecodes
import Derived.Test.YtheogchkelmeeaaGreatDoorMsgPiecesQMsgDecodes
import Derived.Test.YtheogchkelmeeaaGreatDoorRefSmEncQMsgDecodes
import Derived.Test.YtheogchkelmeeaaGreatDoorRefMChkQMsgDecodes
import Derived.Test.YtheogchkelmeeaaGreatDoorM20MsgDecodes
import Derived.Test.YtheogchkelmeeaaGreatDoorM15MsgDecodes
import Derived.Test.YtheogchkelmeeaaGreatDoorBatEncQMsgDecodes
import Derived.Test.YtheogchkelmeeaaGreatDoorMsgDecLawQMsgDecodes
import Derived.Test.YtheogchkelmeeaaGreatDoorMsgEncQMsgDecodes
/- penstockref10's ints and streams: lists behind a row. Conditions: lengths that an append bears; the decoder's tables lie as the library lays them. -/
namespace Go.Proofs.YtheogchkelmeeaaGreatDoor
open Go.RowKit
set_option maxRecDepth 100000 in
set_option maxHeartbeats 1000000 in
theorem ints10_any (ns : List Int) (l : List UInt8) (A0 An : Option Addr) (c0 cn base B : Nat) (w : World) (hown : OwnL 5 1 byteC w base (.slice A0 l.length c0) l) (hbase : base ≤ w.heap.size) (hl : l.length ≤ 1099000000000) (hnl : ns.length ≤ 1000000) (hns : ∀ x ∈ ns, 0 ≤ x ∧ x ≤ 4611686018427387904)
  (hs:∀w',KeepT 5 base w w'→Sl intC 1 w' B An ns) :
  Calls Tryz.prog 54 #[.slice A0 l.length c0,.slice An ns.length cn] w (PostW w (.slice A0 l.length c0) base ((l++vL ns.length)++nLs ns)):=by
 obtain ⟨m1,hm1⟩:∃m,l++vL ns.length=m:=⟨_,rfl⟩
 have hm1l:m1.length≤l.length+10:=by rw [←hm1,List.length_append];have:=vL_len ns.length;omega
 rw [hm1]
 have hc:=num10_own (Lib.hid hm1) (by omega) (by omega) hown hbase
 replace hc:=Lib.hid hc
 replace hs:=Lib.hid hs
 replace hns:=Lib.hid hns
 clear hm1 hown
 go_enter Tryz.func54,Tryz.ntmps54
 go_wp2_with (go_at_call 55;refine Calls.mono hc.out ?_;rintro e w1 ⟨A1,d1,rfl,ho1,hk1,ht1⟩;replace ho1:=Lib.hid ho1;replace hk1:=Lib.hid hk1;replace ht1:=Lib.hid ht1)
 clear hc
 go_loopw [0,5] (fun v i wr=>∃(k:Nat) (m:List UInt8) (A8:Option Addr) (c8:Nat),v=.slice A8 m.length c8∧i=.int .i64 k∧k≤ns.length∧Hid (m=m1++nLs (ns.take k))∧Hid (OwnL 5 1 byteC wr base (.slice A8 m.length c8) m)∧Hid (KeepT 5 base w wr)∧Hid (Turn w (.slice A0 l.length c0) (.slice A8 m.length c8) wr)) (fun _ i _=>ns.length - (intOf i).toNat)
 case atStart=>exact ⟨0,m1,A1,d1,rfl,rfl,Nat.zero_le _,by simp [Hid,nLs],ho1,hk1,ht1⟩
 case round =>
  clear ho1 hk1 ht1
  obtain ⟨k,m,A8,c8,rfl,rfl,hkl,hm,ho,hk,ht⟩:=hrel
  by_cases hlt:k < ns.length
  ·obtain ⟨x,hx⟩:∃x,ns[k]?=some x:=⟨_,List.getElem?_eq_getElem hlt⟩
   obtain ⟨b,o,rfl,hb,hcx⟩:=(hs.out _ hk.out).int hx
   have hx0:=hns.out x (List.mem_of_getElem? hx)
   obtain ⟨q,rfl⟩:∃q:Nat,x=q:=⟨x.toNat,by omega⟩
   have htk:=nLs_take hx
   have hnq:nL (q:Int)=vL q:=by unfold nL;rw [Int.toNat_natCast]
   rw [hnq] at htk
   have hml:m.length≤l.length+10+k * 10:=by
    rw [hm.out,List.length_append]
    have:=nLs_len (ns.take k)
    rw [List.length_take] at this
    omega
   have n1:(0:Int)≤(k:Int):=by omega
   have n2:(k:Int) < (ns.length:Int):=by omega
   obtain ⟨m2,hm2⟩:∃m2,m++vL q=m2:=⟨_,rfl⟩
   have hm3:m2=m1++nLs (ns.take (k+1)):=by rw [←hm2,hm.out,htk,List.append_assoc]
   have hz:=keepT_sz hk.out
   have hc:=num10_own (Lib.hid hm2) (by omega) (by omega) ho.out (Nat.le_trans hbase hz)
   replace hc:=Lib.hid hc
   replace hm3:=Lib.hid hm3
   replace hx:=Lib.hid hx
   clear htk hm2 hnq hml
   go_wp2_with (go_at_call 55;refine Calls.mono hc.out ?_;rintro e w2 ⟨A2,d2,rfl,ho2,hk2,ht2⟩;have hk3:=Lib.hid (hk.out.trans hk2);have ht3:=Lib.hid (ht.out.trans ht2);replace ho2:=Lib.hid ho2;clear hk2 ht2)
   go_roundw
   case rel=>exact ⟨k+1,m2,A2,d2,rfl,by go_num,by omega,hm3,ho2,hk3,ht3⟩
   case measure=>(simp [intOf] <;> omega)
  ·have hfin:m1++nLs ns=m:=by
    have:=hm.out
    rw [List.take_of_length_le (by omega)] at this
    exact this.symm
   replace hfin:=Lib.hid hfin
   go_wp2_with fail
   go_ret
   rw [hfin.out]
   exact ⟨A8,c8,rfl,ho.out,hk.out,ht.out⟩
set_option maxRecDepth 100000 in
set_option maxHeartbeats 2000000 in
theorem streams10_any (sms : List SmM) (l : List UInt8) (A0 As : Option Addr) (c0 cs base B : Nat) (w : World) (hown : OwnL 5 1 byteC w base (.slice A0 l.length c0) l) (hbase : base ≤ w.heap.size) (hl : l.length ≤ 599000000000) (hnl : sms.length ≤ 1000000) (hsm : ∀ s ∈ sms, SmSmall s.name s.es s.ks ∧ (smL s.sm).length ≤ 500000)
  (hs:∀w',KeepT 5 base w w'→SmsIn w' B As sms) (hB:B≤w.heap.size) (hT:∀w',KeepT 5 base w w'→Tabs w') :
  Calls Tryz.prog 57 #[.slice A0 l.length c0,.slice As sms.length cs] w (PostW w (.slice A0 l.length c0) base ((l++vL sms.length)++(sms.map SmM.sm).flatMap smL)):=by
 obtain ⟨m1,hm1⟩:∃m,l++vL sms.length=m:=⟨_,rfl⟩
 have hm1l:m1.length≤l.length+10:=by rw [←hm1,List.length_append];have:=vL_len sms.length;omega
 rw [hm1]
 have hc:=num10_own (Lib.hid hm1) (by omega) (by omega) hown hbase
 replace hc:=Lib.hid hc
 replace hs:=Lib.hid hs
 replace hT:=Lib.hid hT
 replace hsm:=Lib.hid hsm
 clear hm1 hown
 go_enter Tryz.func57,Tryz.ntmps57
 go_wp2_with (go_at_call 55;refine Calls.mono hc.out ?_;rintro e w1 ⟨A1,d1,rfl,ho1,hk1,ht1⟩;replace ho1:=Lib.hid ho1;replace hk1:=Lib.hid hk1;replace ht1:=Lib.hid ht1)
 clear hc
 go_loopw [0,5] (fun v i wr=>∃(k:Nat) (m:List UInt8) (A8:Option Addr) (c8:Nat),v=.slice A8 m.length c8∧i=.int .i64 k∧k≤sms.length∧m.length≤l.length+10+k * 500000∧Hid (m=m1++((sms.map SmM.sm).take k).flatMap smL)∧Hid (OwnL 5 1 byteC wr base (.slice A8 m.length c8) m)∧Hid (KeepT 5 base w wr)∧Hid (Turn w (.slice A0 l.length c0) (.slice A8 m.length c8) wr)) (fun _ i _=>sms.length - (intOf i).toNat)
 case atStart=>exact ⟨0,m1,A1,d1,rfl,rfl,Nat.zero_le _,by omega,by simp [Hid],ho1,hk1,ht1⟩
 case round =>
  clear ho1 hk1 ht1
  obtain ⟨k,m,A8,c8,rfl,rfl,hkl,hml,hm,ho,hk,ht⟩:=hrel
  have hz:=keepT_sz hk.out
  by_cases hlt:k < sms.length
  ·obtain ⟨⟨sn,Ae,ce,es,Ak,ck,ks⟩,hx⟩:∃x,sms[k]?=some x:=⟨_,List.getElem?_eq_getElem hlt⟩
   have hmem:=List.mem_of_getElem? hx
   obtain ⟨hss,hsl⟩:=hsm.out _ hmem
   have hsi:=(hs.out _ hk.out).2 _ hmem
   obtain ⟨bb,o,rfl,hb,c0',c1,c2⟩:=(hs.out _ hk.out).1.smc hx
   have htk:=flat_take_succ smL (l:=sms.map SmM.sm) (k:=k) (x:=⟨sn,es,ks⟩) (by rw [List.getElem?_map,hx];rfl)
   unfold SmM.sm at hsl
   dsimp only at c0' c1 c2 hss hsl hsi
   have n1:(0:Int)≤(k:Int):=by omega
   have n2:(k:Int) < (sms.length:Int):=by omega
   obtain ⟨sL,hsL⟩:∃sL,smL ⟨sn,es,ks⟩=sL:=⟨_,rfl⟩
   obtain ⟨m2,hm2⟩:∃m2,m++sL=m2:=⟨_,rfl⟩
   have hm3:m2=m1++((sms.map SmM.sm).take (k+1)).flatMap smL:=by rw [htk,hsL,←hm2,hm.out,List.append_assoc]
   have hm2l:m2.length=m.length+sL.length:=by rw [←hm2,List.length_append]
   have hc:=refSmEnc_any sn es ks Ae Ak ce ck wr (SmIn.more hsi (Nat.le_trans hB hz)) hss (hT.out _ hk.out)
   rw [hsL] at hc hsl
   replace hc:=Lib.hid hc
   replace hm3:=Lib.hid hm3
   replace hm2:=Lib.hid hm2
   replace hm2l:=Lib.hid hm2l
   replace hx:=Lib.hid hx
   replace hsi:=Lib.hid hsi
   replace hss:=Lib.hid hss
   replace hsL:=Lib.hid hsL
   clear htk hmem
   go_wp2_with (first
    | (go_at_call 81;refine Calls.mono hc.out ?_;rintro e5 w5 ⟨A5,c5,rfl,hob,hgb,_⟩;have hsl5:=OwnL.self byteC_len hob;have hA5:A5=none→sL=[]:=(fun h=>(h ▸ hsl5).of_none);have ho5:=Lib.hid (ho.out.g hgb);have hk5:=Lib.hid (hk.out.trans (KeepT.of_g hgb (Nat.le_trans hbase hz)));have ht5:=Lib.hid (ht.out.after hgb);have hz5:=hgb.size;clear hob hgb)
    | (at_builtin;refine wpList_append_w byte_elem _ rfl (.tmp 16) (.tmp 21) rfl base (.slice A8 m.length c8) m rfl ho5.out w5.heap.size A5 c5 sL rfl hA5 hsl5 (by omega) (by omega) (by omega) ?_;intro v6 w6 hown6 hk6 hb6 hw6;rw [hm2.out] at hown6;obtain ⟨A6,c6,e6,_,_,_⟩:=OwnL.sl byteC_len hown6;subst e6;have hk7:=Lib.hid (hk5.out.trans hk6);have ht7:=Lib.hid (ht5.out.trans (Turn.of_app hb6 hw6));replace hown6:=Lib.hid hown6;clear hk6 hb6 hw6))
   go_roundw
   case rel=>exact ⟨k+1,m2,A6,c6,rfl,by go_num,by omega,by have:=hm2l.out;omega,hm3,hown6,hk7,ht7⟩
   case measure=>(simp [intOf] <;> omega)
  ·have hfin:m1++(sms.map SmM.sm).flatMap smL=m:=by
    have:=hm.out
    rw [List.take_of_length_le (by rw [List.length_map];omega)] at this
    exact this.symm
   replace hfin:=Lib.hid hfin
   go_wp2_with fail
   go_ret
   rw [hfin.out]
   exact ⟨A8,c8,rfl,ho.out,hk.out,ht.out⟩
end Go.Proofs.YtheogchkelmeeaaGreatDoor
/- penstockref10.Encode: words for it. Conditions: lengths as told. -/
namespace Go.Proofs.YtheogchkelmeeaaGreatDoor
open Go.RowKit
/-- What a message that may be keeps. -/
structure MsgM.Fine (r:MsgM):Prop where
 x1:0≤r.x1∧r.x1≤1125899906842624
 x2:0≤r.x2∧r.x2≤1125899906842624
 x3:0≤r.x3∧r.x3≤1125899906842624
 z1:0≤r.z1∧r.z1≤1125899906842624
 z2:0≤r.z2∧r.z2≤1125899906842624
 z3:0≤r.z3∧r.z3≤1125899906842624
 z4:0≤r.z4∧r.z4≤1125899906842624
 src:0≤r.src∧r.src≤1125899906842624
 total:0≤r.total∧r.total≤1125899906842624
 code:0≤r.code∧r.code≤1125899906842624
 firsts:∀x ∈ r.firsts,0≤x∧x≤1125899906842624
 firstsL:r.firsts.length≤1000
 smsL:r.sms.length≤1000
 esL:r.es.length≤1000
 rgsL:r.rgs.length≤1000
 rgs:∀g ∈ r.rgs,(0≤g.a∧g.a≤1125899906842624)∧(0≤g.b∧g.b≤1125899906842624)∧(0≤g.c∧g.c≤1125899906842624)∧(0≤g.d∧g.d≤1125899906842624)
 st:stOk r.st=true
theorem inM.wide {x:Int} (h:inM x):0≤x∧x≤1125899906842624:=⟨h.1,by have:=h.2;omega⟩
theorem mfine_of {r:MsgM} (hc:chkM r.p=true):r.Fine:=by
 unfold chkM at hc
 simp only [Bool.and_eq_true,Bool.or_eq_true,Bool.not_eq_true',decide_eq_false_iff_not,decide_eq_true_eq,inB,rgsB,okIs_in,List.all_eq_true] at hc
 obtain ⟨⟨_,⟨⟨⟨⟨⟨⟨⟨⟨⟨⟨c1,c2⟩,c3⟩,c4⟩,c5⟩,c6⟩,c7⟩,c8⟩,c9⟩,c10⟩,c11⟩⟩,c12⟩:=hc
 have i1:∀x ∈ [r.x1,r.x2,r.x3,r.src,r.total],inM x:=c1.1
 have i2:∀x ∈ [r.z1,r.z2,r.z3,r.z4],inM x:=(c7.1 ⟨r.z1,r.z2,r.z3,r.z4⟩ (by simp [MsgM.p])).1
 have k3:∀g ∈ r.rgs,(0≤g.a∧g.a≤1125899906842624)∧(0≤g.b∧g.b≤1125899906842624)∧(0≤g.c∧g.c≤1125899906842624)∧(0≤g.d∧g.d≤1125899906842624):=fun g hg=>by
  have:=(c6.1 g hg).1
  exact ⟨(this _ (by simp [rgNs])).wide,(this _ (by simp [rgNs])).wide,(this _ (by simp [rgNs])).wide,(this _ (by simp [rgNs])).wide⟩
 have k4:(r.sms.map SmM.sm).length≤1000:=c9
 rw [List.length_map] at k4
 have k5:0≤r.code:=c3
 have k6:r.code≤12:=c4
 exact { x1:=(i1 _ (by simp)).wide,x2:=(i1 _ (by simp)).wide,x3:=(i1 _ (by simp)).wide,z1:=(i2 _ (by simp)).wide,z2:=(i2 _ (by simp)).wide,z3:=(i2 _ (by simp)).wide,z4:=(i2 _ (by simp)).wide,src:=(i1 _ (by simp)).wide,total:=(i1 _ (by simp)).wide,code:=⟨k5,by omega⟩,firsts:=fun x hx=>(c2.1 x hx).wide,firstsL:=c2.2,smsL:=k4,esL:=c8,rgsL:=c6.2,rgs:=k3,st:=c5 }
section
variable {l m : List UInt8} {A : Option Addr} {c base : Nat} {w : World}
theorem num10_int (x : Int) (hm : Hid (l ++ nL x = m)) (hl : l.length ≤ 1099511627000) (hx : 0 ≤ x ∧ x ≤ 1125899906842624) (hbase : base ≤ w.heap.size) (hown : OwnL 5 1 byteC w base (.slice A l.length c) l) :
  Calls Tryz.prog 55 #[.slice A l.length c,.int .i64 x] w (PostW w (.slice A l.length c) base m):=by
 obtain ⟨q,rfl⟩:∃q:Nat,x=q:=⟨x.toNat,by omega⟩
 have h1:=hm.out
 unfold nL at h1
 rw [Int.toNat_natCast] at h1
 exact num10_own (Lib.hid h1) (by omega) (by omega) hown hbase
theorem tx10_int (x y z : Int) (hm : Hid (l ++ nLs [x, y, z] = m)) (hl : l.length ≤ 1099511627000) (hx : 0 ≤ x ∧ x ≤ 1125899906842624) (hy : 0 ≤ y ∧ y ≤ 1125899906842624) (hz : 0 ≤ z ∧ z ≤ 1125899906842624) (hbase : base ≤ w.heap.size) (hown : OwnL 5 1 byteC w base (.slice A l.length c) l) :
  Calls Tryz.prog 52 #[.slice A l.length c,.agg #[.int .i64 x,.int .i64 y,.int .i64 z]] w (PostW w (.slice A l.length c) base m):=by
 obtain ⟨a,rfl⟩:∃q:Nat,x=q:=⟨x.toNat,by omega⟩
 obtain ⟨b,rfl⟩:∃q:Nat,y=q:=⟨y.toNat,by omega⟩
 obtain ⟨d,rfl⟩:∃q:Nat,z=q:=⟨z.toNat,by omega⟩
 rw [←hm.out]
 exact tx10_any a b d l A c base w hown hbase hl (by omega) (by omega) (by omega)
theorem rng10_int (x y z t : Int) (hm : Hid (l ++ nLs [x, y, z, t] = m)) (hl : l.length ≤ 1099511627000) (hx : 0 ≤ x ∧ x ≤ 1125899906842624) (hy : 0 ≤ y ∧ y ≤ 1125899906842624) (hz : 0 ≤ z ∧ z ≤ 1125899906842624) (ht : 0 ≤ t ∧ t ≤ 1125899906842624) (hbase : base ≤ w.heap.size) (hown : OwnL 5 1 byteC w base (.slice A l.length c) l) :
  Calls Tryz.prog 58 #[.slice A l.length c,.agg #[.int .i64 x,.int .i64 y,.int .i64 z,.int .i64 t]] w (PostW w (.slice A l.length c) base m):=by
 obtain ⟨a,rfl⟩:∃q:Nat,x=q:=⟨x.toNat,by omega⟩
 obtain ⟨b,rfl⟩:∃q:Nat,y=q:=⟨y.toNat,by omega⟩
 obtain ⟨d,rfl⟩:∃q:Nat,z=q:=⟨z.toNat,by omega⟩
 obtain ⟨e,rfl⟩:∃q:Nat,t=q:=⟨t.toNat,by omega⟩
 rw [←hm.out]
 exact rng10_any a b d e l A c base w hown hbase hl (by omega) (by omega) (by omega) (by omega)
theorem flag10_own (yes : Bool) (hm : Hid (l ++ [if yes = true then 1 else 0] = m)) (hl : l.length ≤ 1099511627000) (hbase : base ≤ w.heap.size) (hown : OwnL 5 1 byteC w base (.slice A l.length c) l) :
  Calls Tryz.prog 56 #[.slice A l.length c,.bool yes] w (PostW w (.slice A l.length c) base m):=by
 rw [←hm.out]
 exact flag10_any yes l A c base w hown hbase (by omega)
theorem ints10_own (ns : List Int) (An : Option Addr) (cn B : Nat) (hm : Hid ((l ++ vL ns.length) ++ nLs ns = m)) (hl : l.length ≤ 1099000000000) (hnl : ns.length ≤ 1000) (hns : ∀ x ∈ ns, 0 ≤ x ∧ x ≤ 1125899906842624) (hB : B ≤ base) (hs : Sl intC 1 w B An ns) (hbase : base ≤ w.heap.size) (hown : OwnL 5 1 byteC w base (.slice A l.length c) l) :
  Calls Tryz.prog 54 #[.slice A l.length c,.slice An ns.length cn] w (PostW w (.slice A l.length c) base m):=by
 rw [←hm.out]
 exact ints10_any ns l A An c cn base B w hown hbase hl (by omega) (fun x hx=>by have:=hns x hx;omega) fun w' hk=>hs.keep fun b o hb=>hk.1.cell (p:=⟨b,o,none⟩) (by show b < base;omega)
theorem streams10_own (sms : List SmM) (As : Option Addr) (cs B : Nat) (hm : Hid ((l ++ vL sms.length) ++ (sms.map SmM.sm).flatMap smL = m)) (hl : l.length ≤ 599000000000) (hnl : sms.length ≤ 1000) (hsm : ∀ s ∈ sms, SmSmall s.name s.es s.ks ∧ (smL s.sm).length ≤ 500000) (hB : B ≤ base) (hs : SmsIn w B As sms) (hT : ∀ w', Below base w w' → Tabs w') (hbase : base ≤ w.heap.size) (hown : OwnL 5 1 byteC w base (.slice A l.length c) l) :
  Calls Tryz.prog 57 #[.slice A l.length c,.slice As sms.length cs] w (PostW w (.slice A l.length c) base m):=by
 rw [←hm.out]
 have hkp:∀{α:Type} {f:α→List Value} {sz:Nat} {A:Option Addr} {xs:List α} {w':World},KeepT 5 base w w'→Sl f sz w B A xs→Sl f sz w' B A xs:=fun hk h=>h.keep fun b o hb=>hk.1.cell (p:=⟨b,o,none⟩) (by show b < base;omega)
 exact streams10_any sms l A As c cs base B w hown hbase hl (by omega) hsm (fun w' hk=>⟨hkp hk hs.1,fun s hS=>⟨hkp hk (hs.2 s hS).1,hkp hk (hs.2 s hS).2⟩⟩) (by omega) fun w' hk=>hT w' hk.1
end
/-- An own row's address is none of an elder block. -/
theorem OwnL.ne {α:Type} {e:TypeId} {sz:Nat} {f:α→List Value} {w:World} {base n c:Nat} {A:Option Addr} {xs:List α} (h:OwnL e sz f w base (.slice A n c) xs) {b0:Nat} (hb:b0 < base):∀b o,A=some ⟨b,o,none⟩→(some b0:Option Nat)≠some b:=by
 rintro b o rfl h2
 cases h2
 have:=(h.blk (k:=b0) rfl).1
 omega
theorem OwnL.nn {α:Type} {e:TypeId} {sz:Nat} {f:α→List Value} {w:World} {base c:Nat} {A:Option Addr} {xs:List α} (hf:∀x,(f x).length=sz) (h:OwnL e sz f w base (.slice A xs.length c) xs):A=none→xs=[]:=fun e=>by
 have:=h.self hf
 rw [e] at this
 exact this.of_none
end Go.Proofs.YtheogchkelmeeaaGreatDoor

/- Several texts in one: MsgOnlyLaw, MsgRdM. -/
import Derived.Test.YtheogchkelmeeaaGreatDoorM34MsgDecodes
import Derived.Test.YtheogchkelmeeaaGreatDoorMsgRdLQMsgDecodes
import Derived.Test.YtheogchkelmeeaaGreatDoorMsgEncQMsgDecodes
/- A message with the fields alone that its kind names: it lies as it lay, is as small, and is itself once more. No condition. -/
namespace Go.Proofs.YtheogchkelmeeaaGreatDoor
open Go.RowKit
theorem mzero_in (k:Int) (w:World):(MsgM.zero k).In w:=⟨⟨Sl.nil,fun _ h=>by cases h⟩,Sl.nil,⟨Sl.nil,fun _ h=>by cases h⟩,Sl.nil,Sl.nil⟩
section
variable {m : MsgM}
end
end Go.Proofs.YtheogchkelmeeaaGreatDoor
/- msg.reader.message: what it answers. Conditions: at most 2^19 bytes; the decoder's tables lie as the library lays them. -/
namespace Go.Proofs.YtheogchkelmeeaaGreatDoor
open Go.RowKit
structure MsgM.Fit0 (m:MsgM):Prop where
 key:m.key.size≤1073741824
 ps:PutsSmall m.ps
 sms:∀s ∈ m.sms,SmSmall s.name s.es s.ks
theorem mzero_fit0 (k:Int):(MsgM.zero k).Fit0:=⟨by show (⟨#[]⟩:ByteArray).size≤_;decide,⟨by simp [MsgM.zero],fun _ h=>by cases h⟩,fun _ h=>by cases h⟩
/-- What the reading of a message answers. -/
def MgPost (R D L:Nat) (w:World) (k:Int) (st:Option (List UInt8)) (e:Ending) (w':World):Prop :=
 ∃v st',e=.returned v∧BrS 59 R D L st' w'∧But (fun k=>k=R) w w'∧((∃m:MsgM,v=m.iface∧m.kind=k∧kOk k=true∧m.only=m∧Gives (dMsg k) st st' m.p∧m.In w'∧m.Fit0)∨(kOk k=false∧st'=none∧v=.nilIface))
theorem mr_put {R D L:Nat} {st:Option (List UInt8)} {w:World} (h:BrS 59 R D L st w):∀(k:Nat) (cs:Array Value) (t:TypeId),k=R→w.heap[k]?=some (.cells cs t (0,0))→t≠110∧t≠9:=by
 rintro k cs t rfl hc
 obtain ⟨c,h1⟩:=h.blk
 rw [h1] at hc
 simp at hc
 rw [←hc.2]
 decide
set_option maxRecDepth 100000 in
set_option maxHeartbeats 2000000 in
theorem mrMsg1_any (R D L : Nat) (st : Option (List UInt8)) (w : World) (h : BrS 59 R D L st w) (hL : L ≤ 524288) (hT : ∀ w', But (fun k => k = R) w w' → Tabs w') :
  Calls Tryz.prog 14 #[.pointer (some ⟨R,0,none⟩),.int .i64 1] w (MgPost R D L w 1 st):=by
 have hR:=h.lt
 have hDR:=h.le
 replace hT:=Lib.hid hT
 replace h:=Lib.hid h
 go_enter Tryz.func14,Tryz.ntmps14
 go_wp2_with (first
  | (go_at_call 36;(with_reducible refine Calls.mono (mrStamp_any R D L s2 _ hr2.out (by omega)) ?_);rintro e u3 ⟨⟨wa,lo,no⟩,s3,rfl,hr3,hb3,hg3⟩;have hokp:=Lib.hid (hokp.out.but hb3 (mr_put hr2.out));have hbb3:=Lib.hid (hbb2.out.trans hb3);replace hr3:=Lib.hid hr3;replace hg3:=Lib.hid hg3;clear hb3;unfold St.val)
  | (go_at_call 35;(with_reducible refine Calls.mono (mrBatch_any R D L s1 _ hr1.out (by omega) (hT.out _ hbb1.out)) ?_);rintro e u2 ⟨key,Ap,cp,ps,s2,rfl,hr2,hb2,hg2,hokp,hky,hpz⟩;replace hokp:=Lib.hid hokp;replace hky:=Lib.hid hky;replace hpz:=Lib.hid hpz;have hbb2:=Lib.hid (hbb1.out.trans hb2);replace hr2:=Lib.hid hr2;replace hg2:=Lib.hid hg2;clear hb2)
  | (go_at_call 34;(with_reducible refine Calls.mono (mrTx_any R D L st _ h.out (by omega)) ?_);rintro e u1 ⟨⟨x1,x2,x3⟩,s1,rfl,hr1,hb1,hg1⟩;have hbb1:=Lib.hid (hb1);replace hr1:=Lib.hid hr1;replace hg1:=Lib.hid hg1;clear hb1;unfold Tr.val))
 go_ret
 have z:=mzero_in 1 u3
 have zl:=mzero_fit0 1
 have hgv:Gives (rb mTx fun tx=>rb dBatch fun bat=>rb dStamp fun st=>rp { mZero 1 with x1:=tx.a,x2:=tx.b,x3:=tx.c,key:=bat.1,ps:=bat.2,st:=st }) st s3 (MsgM.p ({ MsgM.zero 1 with x1:=x1,x2:=x2,x3:=x3,key:=key,Ap:=Ap,cp:=cp,ps:=ps,st:=⟨wa,lo,no⟩ }:MsgM)):=hg1.out.bind (hg2.out.bind (hg3.out.bind (Gives.ret _)))
 have hi0:=(MsgM.iface_1 (m:=({ MsgM.zero 1 with x1:=x1,x2:=x2,x3:=x3,key:=key,Ap:=Ap,cp:=cp,ps:=ps,st:=⟨wa,lo,no⟩ }:MsgM)) rfl).symm
 have hk0:(({ MsgM.zero 1 with x1:=x1,x2:=x2,x3:=x3,key:=key,Ap:=Ap,cp:=cp,ps:=ps,st:=⟨wa,lo,no⟩ }:MsgM)).kind=1:=rfl
 have ho0:(({ MsgM.zero 1 with x1:=x1,x2:=x2,x3:=x3,key:=key,Ap:=Ap,cp:=cp,ps:=ps,st:=⟨wa,lo,no⟩ }:MsgM)).only=({ MsgM.zero 1 with x1:=x1,x2:=x2,x3:=x3,key:=key,Ap:=Ap,cp:=cp,ps:=ps,st:=⟨wa,lo,no⟩ }:MsgM):=by rw [MsgM.only_1 rfl];rfl
 exact ⟨_,s3,rfl,hr3.out,hbb3.out,.inl ⟨_,hi0,hk0,by decide,ho0,hgv,⟨hokp.out.ins,z.firsts,z.sms,z.es,z.rgs⟩,⟨hky.out,hpz.out,zl.sms⟩⟩⟩
set_option maxRecDepth 100000 in
set_option maxHeartbeats 2000000 in
theorem mrMsg2_any (R D L : Nat) (st : Option (List UInt8)) (w : World) (h : BrS 59 R D L st w) (hL : L ≤ 524288) (hT : ∀ w', But (fun k => k = R) w w' → Tabs w') :
  Calls Tryz.prog 14 #[.pointer (some ⟨R,0,none⟩),.int .i64 2] w (MgPost R D L w 2 st):=by
 have hR:=h.lt
 have hDR:=h.le
 replace hT:=Lib.hid hT
 replace h:=Lib.hid h
 go_enter Tryz.func14,Tryz.ntmps14
 go_wp2_with (first
  | (go_at_call 38;(with_reducible refine Calls.mono (mrInts_any R D L s3 _ hr3.out hL) ?_);rintro e u4 ⟨An,cn,firsts,s4,rfl,hr4,hb4,hg4,hon⟩;replace hon:=Lib.hid hon;have hbb4:=Lib.hid (hbb3.out.trans hb4);replace hr4:=Lib.hid hr4;replace hg4:=Lib.hid hg4;clear hb4)
  | (go_at_call 36;(with_reducible refine Calls.mono (mrStamp_any R D L s2 _ hr2.out (by omega)) ?_);rintro e u3 ⟨⟨wa,lo,no⟩,s3,rfl,hr3,hb3,hg3⟩;have hbb3:=Lib.hid (hbb2.out.trans hb3);replace hr3:=Lib.hid hr3;replace hg3:=Lib.hid hg3;clear hb3;unfold St.val)
  | (go_at_call 37;have hn:=msgNum_any R D L s1 _ hr1.out (by omega);obtain ⟨code,s2,hv2⟩:∃v s,gv 0 cM s1=(v,s):=⟨_,_,rfl⟩;rw [hv2] at hn;(with_reducible refine Calls.mono hn ?_);rintro e u2 ⟨rfl,hr2,hb2⟩;have hg2:=gives_i hv2;replace hv2:=Lib.hid hv2;clear hn;have hbb2:=Lib.hid (hbb1.out.trans hb2);replace hr2:=Lib.hid hr2;replace hg2:=Lib.hid hg2;clear hb2)
  | (go_at_call 34;(with_reducible refine Calls.mono (mrTx_any R D L st _ h.out (by omega)) ?_);rintro e u1 ⟨⟨x1,x2,x3⟩,s1,rfl,hr1,hb1,hg1⟩;have hbb1:=Lib.hid (hb1);replace hr1:=Lib.hid hr1;replace hg1:=Lib.hid hg1;clear hb1;unfold Tr.val))
 go_ret
 have z:=mzero_in 2 u4
 have zl:=mzero_fit0 2
 have hgv:Gives (rb mTx fun tx=>rb iM fun code=>rb dStamp fun st=>rb mInts fun ints=>rp { mZero 2 with x1:=tx.a,x2:=tx.b,x3:=tx.c,code:=code,st:=st,firsts:=ints }) st s4 (MsgM.p ({ MsgM.zero 2 with x1:=x1,x2:=x2,x3:=x3,code:=(code:Int),st:=⟨wa,lo,no⟩,An:=An,cn:=cn,firsts:=firsts }:MsgM)):=hg1.out.bind (hg2.out.bind (hg3.out.bind (hg4.out.bind (Gives.ret _))))
 have hi0:=(MsgM.iface_2 (m:=({ MsgM.zero 2 with x1:=x1,x2:=x2,x3:=x3,code:=(code:Int),st:=⟨wa,lo,no⟩,An:=An,cn:=cn,firsts:=firsts }:MsgM)) rfl).symm
 have hk0:(({ MsgM.zero 2 with x1:=x1,x2:=x2,x3:=x3,code:=(code:Int),st:=⟨wa,lo,no⟩,An:=An,cn:=cn,firsts:=firsts }:MsgM)).kind=2:=rfl
 have ho0:(({ MsgM.zero 2 with x1:=x1,x2:=x2,x3:=x3,code:=(code:Int),st:=⟨wa,lo,no⟩,An:=An,cn:=cn,firsts:=firsts }:MsgM)).only=({ MsgM.zero 2 with x1:=x1,x2:=x2,x3:=x3,code:=(code:Int),st:=⟨wa,lo,no⟩,An:=An,cn:=cn,firsts:=firsts }:MsgM):=by rw [MsgM.only_2 rfl];rfl
 exact ⟨_,s4,rfl,hr4.out,hbb4.out,.inl ⟨_,hi0,hk0,by decide,ho0,hgv,⟨z.ps,hon.out.self intC_len,z.sms,z.es,z.rgs⟩,⟨zl.key,zl.ps,zl.sms⟩⟩⟩
set_option maxRecDepth 100000 in
set_option maxHeartbeats 2000000 in
theorem mrMsg3_any (R D L : Nat) (st : Option (List UInt8)) (w : World) (h : BrS 59 R D L st w) (hL : L ≤ 524288) (hT : ∀ w', But (fun k => k = R) w w' → Tabs w') :
  Calls Tryz.prog 14 #[.pointer (some ⟨R,0,none⟩),.int .i64 3] w (MgPost R D L w 3 st):=by
 have hR:=h.lt
 have hDR:=h.le
 replace hT:=Lib.hid hT
 replace h:=Lib.hid h
 go_enter Tryz.func14,Tryz.ntmps14
 go_wp2_with (first
  | (go_at_call 36;(with_reducible refine Calls.mono (mrStamp_any R D L s2 _ hr2.out (by omega)) ?_);rintro e u3 ⟨⟨wa,lo,no⟩,s3,rfl,hr3,hb3,hg3⟩;have hbb3:=Lib.hid (hbb2.out.trans hb3);replace hr3:=Lib.hid hr3;replace hg3:=Lib.hid hg3;clear hb3;unfold St.val)
  | (go_at_call 39;(with_reducible refine Calls.mono (mrFlag_any R D L s1 _ hr1.out (by omega)) ?_);rintro e u2 ⟨yes,s2,rfl,hr2,hb2,hg2⟩;have hbb2:=Lib.hid (hbb1.out.trans hb2);replace hr2:=Lib.hid hr2;replace hg2:=Lib.hid hg2;clear hb2)
  | (go_at_call 34;(with_reducible refine Calls.mono (mrTx_any R D L st _ h.out (by omega)) ?_);rintro e u1 ⟨⟨x1,x2,x3⟩,s1,rfl,hr1,hb1,hg1⟩;have hbb1:=Lib.hid (hb1);replace hr1:=Lib.hid hr1;replace hg1:=Lib.hid hg1;clear hb1;unfold Tr.val))
 go_ret
 have z:=mzero_in 3 u3
 have zl:=mzero_fit0 3
 have hgv:Gives (rb mTx fun tx=>rb mFlag fun flag=>rb dStamp fun st=>rp { mZero 3 with x1:=tx.a,x2:=tx.b,x3:=tx.c,yes:=flag,st:=st }) st s3 (MsgM.p ({ MsgM.zero 3 with x1:=x1,x2:=x2,x3:=x3,yes:=yes,st:=⟨wa,lo,no⟩ }:MsgM)):=hg1.out.bind (hg2.out.bind (hg3.out.bind (Gives.ret _)))
 have hi0:=(MsgM.iface_3 (m:=({ MsgM.zero 3 with x1:=x1,x2:=x2,x3:=x3,yes:=yes,st:=⟨wa,lo,no⟩ }:MsgM)) rfl).symm
 have hk0:(({ MsgM.zero 3 with x1:=x1,x2:=x2,x3:=x3,yes:=yes,st:=⟨wa,lo,no⟩ }:MsgM)).kind=3:=rfl
 have ho0:(({ MsgM.zero 3 with x1:=x1,x2:=x2,x3:=x3,yes:=yes,st:=⟨wa,lo,no⟩ }:MsgM)).only=({ MsgM.zero 3 with x1:=x1,x2:=x2,x3:=x3,yes:=yes,st:=⟨wa,lo,no⟩ }:MsgM):=by rw [MsgM.only_3 rfl];rfl
 exact ⟨_,s3,rfl,hr3.out,hbb3.out,.inl ⟨_,hi0,hk0,by decide,ho0,hgv,⟨z.ps,z.firsts,z.sms,z.es,z.rgs⟩,⟨zl.key,zl.ps,zl.sms⟩⟩⟩
set_option maxRecDepth 100000 in
set_option maxHeartbeats 2000000 in
theorem mrMsg4_any (R D L : Nat) (st : Option (List UInt8)) (w : World) (h : BrS 59 R D L st w) (hL : L ≤ 524288) (hT : ∀ w', But (fun k => k = R) w w' → Tabs w') :
  Calls Tryz.prog 14 #[.pointer (some ⟨R,0,none⟩),.int .i64 4] w (MgPost R D L w 4 st):=by
 have hR:=h.lt
 have hDR:=h.le
 replace hT:=Lib.hid hT
 replace h:=Lib.hid h
 go_enter Tryz.func14,Tryz.ntmps14
 go_wp2_with (first
  | (go_at_call 34;(with_reducible refine Calls.mono (mrTx_any R D L st _ h.out (by omega)) ?_);rintro e u1 ⟨⟨x1,x2,x3⟩,s1,rfl,hr1,hb1,hg1⟩;have hbb1:=Lib.hid (hb1);replace hr1:=Lib.hid hr1;replace hg1:=Lib.hid hg1;clear hb1;unfold Tr.val))
 go_ret
 have z:=mzero_in 4 u1
 have zl:=mzero_fit0 4
 have hgv:Gives (rb mTx fun tx=>rp { mZero 4 with x1:=tx.a,x2:=tx.b,x3:=tx.c }) st s1 (MsgM.p ({ MsgM.zero 4 with x1:=x1,x2:=x2,x3:=x3 }:MsgM)):=hg1.out.bind (Gives.ret _)
 have hi0:=(MsgM.iface_4 (m:=({ MsgM.zero 4 with x1:=x1,x2:=x2,x3:=x3 }:MsgM)) rfl).symm
 have hk0:(({ MsgM.zero 4 with x1:=x1,x2:=x2,x3:=x3 }:MsgM)).kind=4:=rfl
 have ho0:(({ MsgM.zero 4 with x1:=x1,x2:=x2,x3:=x3 }:MsgM)).only=({ MsgM.zero 4 with x1:=x1,x2:=x2,x3:=x3 }:MsgM):=by rw [MsgM.only_4 rfl];rfl
 exact ⟨_,s1,rfl,hr1.out,hbb1.out,.inl ⟨_,hi0,hk0,by decide,ho0,hgv,⟨z.ps,z.firsts,z.sms,z.es,z.rgs⟩,⟨zl.key,zl.ps,zl.sms⟩⟩⟩
set_option maxRecDepth 100000 in
set_option maxHeartbeats 2000000 in
theorem mrMsg5_any (R D L : Nat) (st : Option (List UInt8)) (w : World) (h : BrS 59 R D L st w) (hL : L ≤ 524288) (hT : ∀ w', But (fun k => k = R) w w' → Tabs w') :
  Calls Tryz.prog 14 #[.pointer (some ⟨R,0,none⟩),.int .i64 5] w (MgPost R D L w 5 st):=by
 have hR:=h.lt
 have hDR:=h.le
 replace hT:=Lib.hid hT
 replace h:=Lib.hid h
 go_enter Tryz.func14,Tryz.ntmps14
 go_wp2_with (first
  | (go_at_call 38;(with_reducible refine Calls.mono (mrInts_any R D L s2 _ hr2.out hL) ?_);rintro e u3 ⟨An,cn,firsts,s3,rfl,hr3,hb3,hg3,hon⟩;replace hon:=Lib.hid hon;have hbb3:=Lib.hid (hbb2.out.trans hb3);replace hr3:=Lib.hid hr3;replace hg3:=Lib.hid hg3;clear hb3)
  | (go_at_call 36;(with_reducible refine Calls.mono (mrStamp_any R D L s1 _ hr1.out (by omega)) ?_);rintro e u2 ⟨⟨wa,lo,no⟩,s2,rfl,hr2,hb2,hg2⟩;have hbb2:=Lib.hid (hbb1.out.trans hb2);replace hr2:=Lib.hid hr2;replace hg2:=Lib.hid hg2;clear hb2;unfold St.val)
  | (go_at_call 34;(with_reducible refine Calls.mono (mrTx_any R D L st _ h.out (by omega)) ?_);rintro e u1 ⟨⟨x1,x2,x3⟩,s1,rfl,hr1,hb1,hg1⟩;have hbb1:=Lib.hid (hb1);replace hr1:=Lib.hid hr1;replace hg1:=Lib.hid hg1;clear hb1;unfold Tr.val))
 go_ret
 have z:=mzero_in 5 u3
 have zl:=mzero_fit0 5
 have hgv:Gives (rb mTx fun tx=>rb dStamp fun st=>rb mInts fun ints=>rp { mZero 5 with x1:=tx.a,x2:=tx.b,x3:=tx.c,st:=st,firsts:=ints }) st s3 (MsgM.p ({ MsgM.zero 5 with x1:=x1,x2:=x2,x3:=x3,st:=⟨wa,lo,no⟩,An:=An,cn:=cn,firsts:=firsts }:MsgM)):=hg1.out.bind (hg2.out.bind (hg3.out.bind (Gives.ret _)))
 have hi0:=(MsgM.iface_5 (m:=({ MsgM.zero 5 with x1:=x1,x2:=x2,x3:=x3,st:=⟨wa,lo,no⟩,An:=An,cn:=cn,firsts:=firsts }:MsgM)) rfl).symm
 have hk0:(({ MsgM.zero 5 with x1:=x1,x2:=x2,x3:=x3,st:=⟨wa,lo,no⟩,An:=An,cn:=cn,firsts:=firsts }:MsgM)).kind=5:=rfl
 have ho0:(({ MsgM.zero 5 with x1:=x1,x2:=x2,x3:=x3,st:=⟨wa,lo,no⟩,An:=An,cn:=cn,firsts:=firsts }:MsgM)).only=({ MsgM.zero 5 with x1:=x1,x2:=x2,x3:=x3,st:=⟨wa,lo,no⟩,An:=An,cn:=cn,firsts:=firsts }:MsgM):=by rw [MsgM.only_5 rfl];rfl
 exact ⟨_,s3,rfl,hr3.out,hbb3.out,.inl ⟨_,hi0,hk0,by decide,ho0,hgv,⟨z.ps,hon.out.self intC_len,z.sms,z.es,z.rgs⟩,⟨zl.key,zl.ps,zl.sms⟩⟩⟩
set_option maxRecDepth 100000 in
set_option maxHeartbeats 2000000 in
theorem mrMsg6_any (R D L : Nat) (st : Option (List UInt8)) (w : World) (h : BrS 59 R D L st w) (hL : L ≤ 524288) (hT : ∀ w', But (fun k => k = R) w w' → Tabs w') :
  Calls Tryz.prog 14 #[.pointer (some ⟨R,0,none⟩),.int .i64 6] w (MgPost R D L w 6 st):=by
 have hR:=h.lt
 have hDR:=h.le
 replace hT:=Lib.hid hT
 replace h:=Lib.hid h
 go_enter Tryz.func14,Tryz.ntmps14
 go_wp2_with (first
  | (go_at_call 41;(with_reducible refine Calls.mono (mrStreams_any R D L s2 _ hr2.out hL (fun w' hb=>hT.out _ (hbb2.out.trans hb))) ?_);rintro e u3 ⟨As,cs,sms,s3,rfl,hr3,hb3,hg3,hos,hsz⟩;replace hos:=Lib.hid hos;replace hsz:=Lib.hid hsz;have hbb3:=Lib.hid (hbb2.out.trans hb3);replace hr3:=Lib.hid hr3;replace hg3:=Lib.hid hg3;clear hb3)
  | (go_at_call 36;(with_reducible refine Calls.mono (mrStamp_any R D L s1 _ hr1.out (by omega)) ?_);rintro e u2 ⟨⟨wa,lo,no⟩,s2,rfl,hr2,hb2,hg2⟩;have hbb2:=Lib.hid (hbb1.out.trans hb2);replace hr2:=Lib.hid hr2;replace hg2:=Lib.hid hg2;clear hb2;unfold St.val)
  | (go_at_call 40;(with_reducible refine Calls.mono (mrSpan_any R D L st _ h.out (by omega)) ?_);rintro e u1 ⟨⟨z1,z2,z3,z4⟩,s1,rfl,hr1,hb1,hg1⟩;have hbb1:=Lib.hid (hb1);replace hr1:=Lib.hid hr1;replace hg1:=Lib.hid hg1;clear hb1;unfold Rg.val))
 go_ret
 have z:=mzero_in 6 u3
 have zl:=mzero_fit0 6
 have hgv:Gives (rb mRg fun rng=>rb dStamp fun st=>rb mSms fun sms=>rp { mZero 6 with r1:=rng.a,r2:=rng.b,r3:=rng.c,r4:=rng.d,st:=st,sms:=sms }) st s3 (MsgM.p ({ MsgM.zero 6 with z1:=z1,z2:=z2,z3:=z3,z4:=z4,st:=⟨wa,lo,no⟩,As:=As,cs:=cs,sms:=sms }:MsgM)):=hg1.out.bind (hg2.out.bind (hg3.out.bind (Gives.ret _)))
 have hi0:=(MsgM.iface_6 (m:=({ MsgM.zero 6 with z1:=z1,z2:=z2,z3:=z3,z4:=z4,st:=⟨wa,lo,no⟩,As:=As,cs:=cs,sms:=sms }:MsgM)) rfl).symm
 have hk0:(({ MsgM.zero 6 with z1:=z1,z2:=z2,z3:=z3,z4:=z4,st:=⟨wa,lo,no⟩,As:=As,cs:=cs,sms:=sms }:MsgM)).kind=6:=rfl
 have ho0:(({ MsgM.zero 6 with z1:=z1,z2:=z2,z3:=z3,z4:=z4,st:=⟨wa,lo,no⟩,As:=As,cs:=cs,sms:=sms }:MsgM)).only=({ MsgM.zero 6 with z1:=z1,z2:=z2,z3:=z3,z4:=z4,st:=⟨wa,lo,no⟩,As:=As,cs:=cs,sms:=sms }:MsgM):=by rw [MsgM.only_6 rfl];rfl
 exact ⟨_,s3,rfl,hr3.out,hbb3.out,.inl ⟨_,hi0,hk0,by decide,ho0,hgv,⟨z.ps,z.firsts,hos.out.ins,z.es,z.rgs⟩,⟨zl.key,zl.ps,hsz.out⟩⟩⟩
set_option maxRecDepth 100000 in
set_option maxHeartbeats 2000000 in
theorem mrMsg7_any (R D L : Nat) (st : Option (List UInt8)) (w : World) (h : BrS 59 R D L st w) (hL : L ≤ 524288) (hT : ∀ w', But (fun k => k = R) w w' → Tabs w') :
  Calls Tryz.prog 14 #[.pointer (some ⟨R,0,none⟩),.int .i64 7] w (MgPost R D L w 7 st):=by
 have hR:=h.lt
 have hDR:=h.le
 replace hT:=Lib.hid hT
 replace h:=Lib.hid h
 go_enter Tryz.func14,Tryz.ntmps14
 go_wp2_with (first
  | (go_at_call 40;(with_reducible refine Calls.mono (mrSpan_any R D L st _ h.out (by omega)) ?_);rintro e u1 ⟨⟨z1,z2,z3,z4⟩,s1,rfl,hr1,hb1,hg1⟩;have hbb1:=Lib.hid (hb1);replace hr1:=Lib.hid hr1;replace hg1:=Lib.hid hg1;clear hb1;unfold Rg.val))
 go_ret
 have z:=mzero_in 7 u1
 have zl:=mzero_fit0 7
 have hgv:Gives (rb mRg fun rng=>rp { mZero 7 with r1:=rng.a,r2:=rng.b,r3:=rng.c,r4:=rng.d }) st s1 (MsgM.p ({ MsgM.zero 7 with z1:=z1,z2:=z2,z3:=z3,z4:=z4 }:MsgM)):=hg1.out.bind (Gives.ret _)
 have hi0:=(MsgM.iface_7 (m:=({ MsgM.zero 7 with z1:=z1,z2:=z2,z3:=z3,z4:=z4 }:MsgM)) rfl).symm
 have hk0:(({ MsgM.zero 7 with z1:=z1,z2:=z2,z3:=z3,z4:=z4 }:MsgM)).kind=7:=rfl
 have ho0:(({ MsgM.zero 7 with z1:=z1,z2:=z2,z3:=z3,z4:=z4 }:MsgM)).only=({ MsgM.zero 7 with z1:=z1,z2:=z2,z3:=z3,z4:=z4 }:MsgM):=by rw [MsgM.only_7 rfl];rfl
 exact ⟨_,s1,rfl,hr1.out,hbb1.out,.inl ⟨_,hi0,hk0,by decide,ho0,hgv,⟨z.ps,z.firsts,z.sms,z.es,z.rgs⟩,⟨zl.key,zl.ps,zl.sms⟩⟩⟩
set_option maxRecDepth 100000 in
set_option maxHeartbeats 2000000 in
theorem mrMsg8_any (R D L : Nat) (st : Option (List UInt8)) (w : World) (h : BrS 59 R D L st w) (hL : L ≤ 524288) (hT : ∀ w', But (fun k => k = R) w w' → Tabs w') :
  Calls Tryz.prog 14 #[.pointer (some ⟨R,0,none⟩),.int .i64 8] w (MgPost R D L w 8 st):=by
 have hR:=h.lt
 have hDR:=h.le
 replace hT:=Lib.hid hT
 replace h:=Lib.hid h
 go_enter Tryz.func14,Tryz.ntmps14
 go_wp2_with (first
  | (go_at_call 37;have hn:=msgNum_any R D L st _ h.out (by omega);obtain ⟨src,s1,hv1⟩:∃v s,gv 0 cM st=(v,s):=⟨_,_,rfl⟩;rw [hv1] at hn;(with_reducible refine Calls.mono hn ?_);rintro e u1 ⟨rfl,hr1,hb1⟩;have hg1:=gives_i hv1;replace hv1:=Lib.hid hv1;clear hn;have hbb1:=Lib.hid (hb1);replace hr1:=Lib.hid hr1;replace hg1:=Lib.hid hg1;clear hb1))
 go_ret
 have z:=mzero_in 8 u1
 have zl:=mzero_fit0 8
 have hgv:Gives (rb iM fun src=>rp { mZero 8 with src:=src }) st s1 (MsgM.p ({ MsgM.zero 8 with src:=(src:Int) }:MsgM)):=hg1.out.bind (Gives.ret _)
 have hi0:=(MsgM.iface_8 (m:=({ MsgM.zero 8 with src:=(src:Int) }:MsgM)) rfl).symm
 have hk0:(({ MsgM.zero 8 with src:=(src:Int) }:MsgM)).kind=8:=rfl
 have ho0:(({ MsgM.zero 8 with src:=(src:Int) }:MsgM)).only=({ MsgM.zero 8 with src:=(src:Int) }:MsgM):=by rw [MsgM.only_8 rfl];rfl
 exact ⟨_,s1,rfl,hr1.out,hbb1.out,.inl ⟨_,hi0,hk0,by decide,ho0,hgv,⟨z.ps,z.firsts,z.sms,z.es,z.rgs⟩,⟨zl.key,zl.ps,zl.sms⟩⟩⟩
set_option maxRecDepth 100000 in
set_option maxHeartbeats 2000000 in
theorem mrMsg9_any (R D L : Nat) (st : Option (List UInt8)) (w : World) (h : BrS 59 R D L st w) (hL : L ≤ 524288) (hT : ∀ w', But (fun k => k = R) w w' → Tabs w') :
  Calls Tryz.prog 14 #[.pointer (some ⟨R,0,none⟩),.int .i64 9] w (MgPost R D L w 9 st):=by
 have hR:=h.lt
 have hDR:=h.le
 replace hT:=Lib.hid hT
 replace h:=Lib.hid h
 go_enter Tryz.func14,Tryz.ntmps14
 go_wp2_with (first
  | (go_at_call 43;(with_reducible refine Calls.mono (mrSpans_any R D L s4 _ hr4.out hL) ?_);rintro e u5 ⟨Ag,cg,rgs,s5,rfl,hr5,hb5,hg5,hog⟩;replace hog:=Lib.hid hog;have hoe:=Lib.hid (hoe.out.but' hb5 (fun k hk e=>by have h1:=hoe.out.at_ge k hk.symm;have h2:k=R:=e;omega));have hbb5:=Lib.hid (hbb4.out.trans hb5);replace hr5:=Lib.hid hr5;replace hg5:=Lib.hid hg5;clear hb5)
  | (go_at_call 36;(with_reducible refine Calls.mono (mrStamp_any R D L s3 _ hr3.out (by omega)) ?_);rintro e u4 ⟨⟨wa,lo,no⟩,s4,rfl,hr4,hb4,hg4⟩;have hoe:=Lib.hid (hoe.out.but' hb4 (fun k hk e=>by have h1:=hoe.out.at_ge k hk.symm;have h2:k=R:=e;omega));have hbb4:=Lib.hid (hbb3.out.trans hb4);replace hr4:=Lib.hid hr4;replace hg4:=Lib.hid hg4;clear hb4;unfold St.val)
  | (go_at_call 42;(with_reducible refine Calls.mono (mrEvents_any R D L s2 _ hr2.out hL (fun w' hb=>hT.out _ (hbb2.out.trans hb))) ?_);rintro e u3 ⟨Ae,ce,es,s3,rfl,hr3,hb3,hg3,hoe⟩;have hze:=hb3.size;replace hoe:=Lib.hid (hoe.mono (base':=w.heap.size) (by have:=hbb2.out.size;omega));have hbb3:=Lib.hid (hbb2.out.trans hb3);replace hr3:=Lib.hid hr3;replace hg3:=Lib.hid hg3;clear hb3)
  | (go_at_call 37;have hn:=msgNum_any R D L s1 _ hr1.out (by omega);obtain ⟨total,s2,hv2⟩:∃v s,gv 0 cM s1=(v,s):=⟨_,_,rfl⟩;rw [hv2] at hn;(with_reducible refine Calls.mono hn ?_);rintro e u2 ⟨rfl,hr2,hb2⟩;have hg2:=gives_i hv2;replace hv2:=Lib.hid hv2;clear hn;have hbb2:=Lib.hid (hbb1.out.trans hb2);replace hr2:=Lib.hid hr2;replace hg2:=Lib.hid hg2;clear hb2)
  | (go_at_call 37;have hn:=msgNum_any R D L st _ h.out (by omega);obtain ⟨src,s1,hv1⟩:∃v s,gv 0 cM st=(v,s):=⟨_,_,rfl⟩;rw [hv1] at hn;(with_reducible refine Calls.mono hn ?_);rintro e u1 ⟨rfl,hr1,hb1⟩;have hg1:=gives_i hv1;replace hv1:=Lib.hid hv1;clear hn;have hbb1:=Lib.hid (hb1);replace hr1:=Lib.hid hr1;replace hg1:=Lib.hid hg1;clear hb1))
 go_ret
 have z:=mzero_in 9 u5
 have zl:=mzero_fit0 9
 have hgv:Gives (rb iM fun src=>rb iM fun total=>rb mEvs fun es=>rb dStamp fun st=>rb mRgs fun rgs=>rp { mZero 9 with src:=src,total:=total,es:=es,st:=st,rgs:=rgs }) st s5 (MsgM.p ({ MsgM.zero 9 with src:=(src:Int),total:=(total:Int),Ae:=Ae,ce:=ce,es:=es,st:=⟨wa,lo,no⟩,Ag:=Ag,cg:=cg,rgs:=rgs }:MsgM)):=hg1.out.bind (hg2.out.bind (hg3.out.bind (hg4.out.bind (hg5.out.bind (Gives.ret _)))))
 have hi0:=(MsgM.iface_9 (m:=({ MsgM.zero 9 with src:=(src:Int),total:=(total:Int),Ae:=Ae,ce:=ce,es:=es,st:=⟨wa,lo,no⟩,Ag:=Ag,cg:=cg,rgs:=rgs }:MsgM)) rfl).symm
 have hk0:(({ MsgM.zero 9 with src:=(src:Int),total:=(total:Int),Ae:=Ae,ce:=ce,es:=es,st:=⟨wa,lo,no⟩,Ag:=Ag,cg:=cg,rgs:=rgs }:MsgM)).kind=9:=rfl
 have ho0:(({ MsgM.zero 9 with src:=(src:Int),total:=(total:Int),Ae:=Ae,ce:=ce,es:=es,st:=⟨wa,lo,no⟩,Ag:=Ag,cg:=cg,rgs:=rgs }:MsgM)).only=({ MsgM.zero 9 with src:=(src:Int),total:=(total:Int),Ae:=Ae,ce:=ce,es:=es,st:=⟨wa,lo,no⟩,Ag:=Ag,cg:=cg,rgs:=rgs }:MsgM):=by rw [MsgM.only_9 rfl];rfl
 exact ⟨_,s5,rfl,hr5.out,hbb5.out,.inl ⟨_,hi0,hk0,by decide,ho0,hgv,⟨z.ps,z.firsts,z.sms,hoe.out.self Ev.cells_len,hog.out.self Rg.cells_len⟩,⟨zl.key,zl.ps,zl.sms⟩⟩⟩
set_option maxRecDepth 100000 in
theorem mrMsgNo_any (R D L : Nat) (k : Int) (st : Option (List UInt8)) (w : World) (h : BrS 59 R D L st w) (hk : kOk k = false) :
  Calls Tryz.prog 14 #[.pointer (some ⟨R,0,none⟩),.int .i64 k] w (MgPost R D L w k st):=by
 have hk0:=kOk_no hk
 have t1:(k == 1)=false:=by rw [beq_eq_false_iff_ne];omega
 have t2:(k == 2)=false:=by rw [beq_eq_false_iff_ne];omega
 have t3:(k == 3)=false:=by rw [beq_eq_false_iff_ne];omega
 have t4:(k == 4)=false:=by rw [beq_eq_false_iff_ne];omega
 have t5:(k == 5)=false:=by rw [beq_eq_false_iff_ne];omega
 have t6:(k == 6)=false:=by rw [beq_eq_false_iff_ne];omega
 have t7:(k == 7)=false:=by rw [beq_eq_false_iff_ne];omega
 have t8:(k == 8)=false:=by rw [beq_eq_false_iff_ne];omega
 have t9:(k == 9)=false:=by rw [beq_eq_false_iff_ne];omega
 have f1:=h.free 1
 have c1:=h.c1
 have h2:=Lib.hid h.bad
 have hb:=Lib.hid (but_set w R 1 (.bool true))
 replace hk:=Lib.hid hk
 clear h hk0
 go_enter Tryz.func14,Tryz.ntmps14
 go_wp2_with fail
 go_ret
 exact ⟨_,none,rfl,h2.out,hb.out,.inr ⟨hk.out,rfl,rfl⟩⟩
theorem mrMsg_any (R D L : Nat) (k : Int) (st : Option (List UInt8)) (w : World) (h : BrS 59 R D L st w) (hL : L ≤ 524288) (hT : ∀ w', But (fun k => k = R) w w' → Tabs w') :
  Calls Tryz.prog 14 #[.pointer (some ⟨R,0,none⟩),.int .i64 k] w (MgPost R D L w k st):=by
 rcases mkind_cases k with rfl | rfl | rfl | rfl | rfl | rfl | rfl | rfl | rfl | hk
 ·exact mrMsg1_any R D L st w h hL hT
 ·exact mrMsg2_any R D L st w h hL hT
 ·exact mrMsg3_any R D L st w h hL hT
 ·exact mrMsg4_any R D L st w h hL hT
 ·exact mrMsg5_any R D L st w h hL hT
 ·exact mrMsg6_any R D L st w h hL hT
 ·exact mrMsg7_any R D L st w h hL hT
 ·exact mrMsg8_any R D L st w h hL hT
 ·exact mrMsg9_any R D L st w h hL hT
 ·exact mrMsgNo_any R D L k st w h hk
end Go.Proofs.YtheogchkelmeeaaGreatDoor

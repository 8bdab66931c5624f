/- Messages that are read: what is read is what was written, and no more. Plain mathematics. No condition. -/
import Derived.Test.YtheogchkelmeeaaGreatDoorM30MsgDecodes
import Derived.Test.YtheogchkelmeeaaGreatDoorM20MsgDecodes
import Derived.Test.YtheogchkelmeeaaGreatDoorM27MsgDecodes
namespace Go.Proofs.YtheogchkelmeeaaGreatDoor
open Go.RowKit
/-- Three numbers. -/
structure Tr where
 a:Int
 b:Int
 c:Int
abbrev cM:Reader Nat:=dCount 1099511627776
/-- A number. -/
def mI (m:Nat):Reader Int:=rb (dCount m) fun v=>rp (v:Int)
abbrev iM:Reader Int:=mI 1099511627776
def mTx:Reader Tr:=rb iM fun a=>rb iM fun b=>rb iM fun c=>rp ⟨a,b,c⟩
def mRg:Reader Rg:=rb iM fun a=>rb iM fun b=>rb iM fun c=>rb iM fun d=>rp ⟨a,b,c,d⟩
def mList {α:Type} (d:Reader α):Reader (List α):=rb (dCount 1000) fun n=>dMany d n
def mInts:Reader (List Int):=mList iM
def mEvs:Reader (List Ev):=mList dEvent
def mSms:Reader (List Sm):=mList dStream
def mRgs:Reader (List Rg):=mList mRg
def mFlag:Reader Bool:=rb (dCount 1) fun v=>rp (decide (v=1))
def mYes:Reader Bool:=rb dByte fun v=>rp (decide (v=1))
/-- A message's fields by its kind; how its code and its flag are read is told. -/
def dMsgX (dc:Reader Int) (df:Reader Bool) (k:Int):Reader MsgP :=
 if k=1 then rb mTx fun tx=>rb dBatch fun bat=>rb dStamp fun st=>rp { mZero 1 with x1:=tx.a,x2:=tx.b,x3:=tx.c,key:=bat.1,ps:=bat.2,st:=st }
 else if k=2 then rb mTx fun tx=>rb dc fun code=>rb dStamp fun st=>rb mInts fun ints=>rp { mZero 2 with x1:=tx.a,x2:=tx.b,x3:=tx.c,code:=code,st:=st,firsts:=ints }
 else if k=3 then rb mTx fun tx=>rb df fun flag=>rb dStamp fun st=>rp { mZero 3 with x1:=tx.a,x2:=tx.b,x3:=tx.c,yes:=flag,st:=st }
 else if k=4 then rb mTx fun tx=>rp { mZero 4 with x1:=tx.a,x2:=tx.b,x3:=tx.c }
 else if k=5 then rb mTx fun tx=>rb dStamp fun st=>rb mInts fun ints=>rp { mZero 5 with x1:=tx.a,x2:=tx.b,x3:=tx.c,st:=st,firsts:=ints }
 else if k=6 then rb mRg fun rng=>rb dStamp fun st=>rb mSms fun sms=>rp { mZero 6 with r1:=rng.a,r2:=rng.b,r3:=rng.c,r4:=rng.d,st:=st,sms:=sms }
 else if k=7 then rb mRg fun rng=>rp { mZero 7 with r1:=rng.a,r2:=rng.b,r3:=rng.c,r4:=rng.d }
 else if k=8 then rb iM fun src=>rp { mZero 8 with src:=src }
 else if k=9 then rb iM fun src=>rb iM fun total=>rb mEvs fun es=>rb dStamp fun st=>rb mRgs fun rgs=>rp { mZero 9 with src:=src,total:=total,es:=es,st:=st,rgs:=rgs }
 else rf
def dMsg (k:Int):Reader MsgP:=dMsgX iM mFlag k
def dDoc (k:Int):Reader MsgP:=dMsgX (mI 12) mYes k
def fL (b:Bool):List UInt8:=[if b=true then 1 else 0]
def iL (l:List Int):List UInt8:=vL l.length++nLs l
def smsL (l:List Sm):List UInt8:=vL l.length++l.flatMap smL
def evsL (l:List Ev):List UInt8:=vL l.length++l.flatMap evL
def rgsL (l:List Rg):List UInt8:=vL l.length++l.flatMap fun g=>nLs (rgNs g)
/-- A message's bytes behind its kind. -/
def bodyM (p:MsgP):List UInt8 :=
 if p.kind=1 then nLs [p.x1,p.x2,p.x3]++(batL p.key p.ps++(stL p.st))
 else if p.kind=2 then nLs [p.x1,p.x2,p.x3]++(nL p.code++(stL p.st++(iL p.firsts)))
 else if p.kind=3 then nLs [p.x1,p.x2,p.x3]++(fL p.yes++(stL p.st))
 else if p.kind=4 then nLs [p.x1,p.x2,p.x3]
 else if p.kind=5 then nLs [p.x1,p.x2,p.x3]++(stL p.st++(iL p.firsts))
 else if p.kind=6 then nLs [p.r1,p.r2,p.r3,p.r4]++(stL p.st++(smsL p.sms))
 else if p.kind=7 then nLs [p.r1,p.r2,p.r3,p.r4]
 else if p.kind=8 then nL p.src
 else if p.kind=9 then nL p.src++(nL p.total++(evsL p.es++(stL p.st++(rgsL p.rgs))))
 else []
/-- Bytes as a message; none: they are none. -/
def decM (l:List UInt8):Option MsgP :=
 match l with
 | []=>none
 | b::q=>match dMsg b.toNat q with
  | some (p,[])=>if chkM p=true then some p else none
  | _=>none
theorem docM_body (m:MsgP) (hk:kOk m.kind=true):docM m=UInt8.ofNat m.kind.toNat::bodyM m:=by
 obtain ⟨kind,x1,x2,x3,key,ps,st,code,firsts,yes,r1,r2,r3,r4,sms,src,total,es,rgs⟩:=m
 rcases mkind_cases kind with rfl | rfl | rfl | rfl | rfl | rfl | rfl | rfl | rfl | h
 all_goals first
  | (dsimp only at hk;rw [hk] at h;cases h)
  | (simp [docM,bodyM,iL,smsL,evsL,rgsL,fL,nLs,rgNs,List.append_assoc];done)
/-- A reader and what writes for it, where it may be. -/
structure Cd {α:Type} (d:Reader α) (f:α→List UInt8) (P Q:α→Prop):Prop where
 w:∀x,P x→∀q,d (f x++q)=some (x,q)
 c:∀l x r,d l=some (x,r)→l=f x++r∧Q x
 rd:Rd d
 less:Less d
def inN (m:Nat) (x:Int):Prop:=0≤x∧x≤m
theorem cd_i {m:Nat} (hm:m < 2 ^ 64):Cd (mI m) nL (inN m) (inN m) where
 w:=fun x h q=>by
  obtain ⟨h1,h2⟩:=h
  unfold mI nL
  rw [rb_some (dCount_v (by omega) (by omega) q)]
  unfold rp
  rw [show ((x.toNat:Nat):Int)=x from by omega]
 c:=fun l x r h=>by
  unfold mI at h
  obtain ⟨v,r1,h1,h2⟩:=rb_inv h
  obtain ⟨rfl,rfl⟩:=rp_inv h2
  refine ⟨?_,by have:=(dCount_num h1).2;exact ⟨by omega,by omega⟩⟩
  have:=cn_count _ _ _ _ h1
  unfold nL
  simpa using this
 rd:=(rd_count _).bind fun _=>Rd.pure _
 less:=(eats_count _).less.bind fun _=>Less.pure _
theorem eats_i (m:Nat):Eats (mI m):=(eats_count _).bind fun _=>Less.pure _
abbrev inM:Int→Prop:=inN 1099511627776
theorem cd_iM:Cd iM nL inM inM:=cd_i (by decide)
def inTx (t:Tr):Prop:=inM t.a∧inM t.b∧inM t.c
def inRgP (t:Rg):Prop:=inM t.a∧inM t.b∧inM t.c∧inM t.d
theorem cd_tx:Cd mTx (fun t=>nLs [t.a,t.b,t.c]) inTx inTx where
 w:=fun x h q=>by
  obtain ⟨a,b,c⟩:=x
  obtain ⟨h1,h2,h3⟩:=h
  unfold mTx
  rw [show nLs [a,b,c]++q=nL a++(nL b++(nL c++q)) from by simp [nLs,List.append_assoc],rb_some (cd_iM.w a h1 _),rb_some (cd_iM.w b h2 _),rb_some (cd_iM.w c h3 _)]
  rfl
 c:=fun l x r h=>by
  unfold mTx at h
  obtain ⟨a,r1,h1,h⟩:=rb_inv h
  obtain ⟨b,r2,h2,h⟩:=rb_inv h
  obtain ⟨c,r3,h3,h⟩:=rb_inv h
  obtain ⟨rfl,rfl⟩:=rp_inv h
  obtain ⟨rfl,i1⟩:=cd_iM.c _ _ _ h1
  obtain ⟨rfl,i2⟩:=cd_iM.c _ _ _ h2
  obtain ⟨rfl,i3⟩:=cd_iM.c _ _ _ h3
  exact ⟨by simp [nLs,List.append_assoc],i1,i2,i3⟩
 rd:=cd_iM.rd.bind fun _=>cd_iM.rd.bind fun _=>cd_iM.rd.bind fun _=>Rd.pure _
 less:=cd_iM.less.bind fun _=>cd_iM.less.bind fun _=>cd_iM.less.bind fun _=>Less.pure _
theorem cd_rg:Cd mRg (fun t=>nLs [t.a,t.b,t.c,t.d]) inRgP inRgP where
 w:=fun x h q=>by
  obtain ⟨a,b,c,d⟩:=x
  obtain ⟨h1,h2,h3,h4⟩:=h
  unfold mRg
  rw [show nLs [a,b,c,d]++q=nL a++(nL b++(nL c++(nL d++q))) from by simp [nLs,List.append_assoc],rb_some (cd_iM.w a h1 _),rb_some (cd_iM.w b h2 _),rb_some (cd_iM.w c h3 _),rb_some (cd_iM.w d h4 _)]
  rfl
 c:=fun l x r h=>by
  unfold mRg at h
  obtain ⟨a,r1,h1,h⟩:=rb_inv h
  obtain ⟨b,r2,h2,h⟩:=rb_inv h
  obtain ⟨c,r3,h3,h⟩:=rb_inv h
  obtain ⟨d,r4,h4,h⟩:=rb_inv h
  obtain ⟨rfl,rfl⟩:=rp_inv h
  obtain ⟨rfl,i1⟩:=cd_iM.c _ _ _ h1
  obtain ⟨rfl,i2⟩:=cd_iM.c _ _ _ h2
  obtain ⟨rfl,i3⟩:=cd_iM.c _ _ _ h3
  obtain ⟨rfl,i4⟩:=cd_iM.c _ _ _ h4
  exact ⟨by simp [nLs,List.append_assoc],i1,i2,i3,i4⟩
 rd:=cd_iM.rd.bind fun _=>cd_iM.rd.bind fun _=>cd_iM.rd.bind fun _=>cd_iM.rd.bind fun _=>Rd.pure _
 less:=cd_iM.less.bind fun _=>cd_iM.less.bind fun _=>cd_iM.less.bind fun _=>cd_iM.less.bind fun _=>Less.pure _
theorem eats_rg:Eats mRg:=(eats_i _).bind fun _=>cd_iM.less.bind fun _=>cd_iM.less.bind fun _=>cd_iM.less.bind fun _=>Less.pure _
theorem cd_list {α:Type} {d:Reader α} {f:α→List UInt8} {P Q:α→Prop} (hd:Cd d f P Q) (he:Eats d):Cd (mList d) (fun l=>vL l.length++l.flatMap f) (fun l=>l.length≤1000∧∀x ∈ l,P x) (fun l=>l.length≤1000∧∀x ∈ l,Q x) where
 w:=fun l h q=>by
  unfold mList
  rw [List.append_assoc,rb_some (dCount_v (by have:=h.1;omega) h.1 _)]
  exact dMany_w l (fun x hx q=>hd.w x (h.2 x hx) q) q
 c:=fun l x r h=>by
  unfold mList at h
  obtain ⟨n,r1,h1,h2⟩:=rb_inv h
  have h3:=(dMany_len he _ _ _ _ h2).1
  have h4:=(dCount_num h1).2
  refine ⟨?_,by omega,dMany_all (P:=Q) (L:=r1.length) hd.less (fun l x r _ h=>(hd.c l x r h).2) _ _ _ _ (Nat.le_refl _) h2⟩
  rw [cn_count _ _ _ _ h1,cn_many (f:=f) (fun l x r h=>(hd.c l x r h).1) _ _ _ _ h2,h3]
  simp [List.append_assoc]
 rd:=(rd_count _).bind fun n=>Rd.many hd.rd n
 less:=(eats_count _).less.bind fun n=>Less.many he n
theorem cd_stamp:Cd dStamp stL (fun s=>stOk s=true) (fun s=>stOk s=true):=⟨fun _ h q=>dStamp_w h q,fun l x r h=>⟨cn_stamp l x r h,dStamp_ok h⟩,rd_stamp,eats_stamp.less⟩
def batFit (b:ByteArray × List PutP):Prop:=chkN b.1 b.2=0∧b.1.size < 2 ^ 64∧∀p ∈ b.2,p.stream.size < 2 ^ 64∧∀d ∈ p.data,d.size < 2 ^ 64
theorem cd_bat:Cd dBatch (fun b=>batL b.1 b.2) batFit (fun _=>True):=⟨fun _ h q=>dBatch_w h.1 h.2.1 h.2.2 q,fun _ x _ h=>⟨cn_batch (key:=x.1) (ps:=x.2) h,trivial⟩,rd_batch,eats_batch.less⟩
theorem cd_ev:Cd dEvent evL (fun e=>evOk e=true∧e.stream.size < 2 ^ 64) (fun e=>evOk e=true):=⟨fun _ h q=>dEvent_w h.1 h.2 q,fun l x r h=>⟨cn_event l x r h,dEvent_ok h⟩,rd_event,eats_event.less⟩
def smFit (s:Sm):Prop:=smOk s=true∧s.name.size < 2 ^ 64∧s.evs.length < 2 ^ 64∧s.keys.length < 2 ^ 64∧∀k ∈ s.keys,k.key.size < 2 ^ 64
theorem cd_sm:Cd dStream smL smFit (fun _=>True):=⟨fun _ h q=>dStream_w h.1 h.2.1 h.2.2.1 h.2.2.2.1 h.2.2.2.2 q,fun l x r h=>⟨cn_stream l x r h,trivial⟩,rd_stream,eats_stream.less⟩
theorem cd_flag:Cd mFlag fL (fun _=>True) (fun _=>True) where
 w:=fun b _ q=>by
  unfold mFlag fL
  cases b
  ·exact rb_some (dCount_v (v:=0) (m:=1) (by decide) (by omega) q)
  ·exact rb_some (dCount_v (v:=1) (m:=1) (by decide) (by omega) q)
 c:=fun l x r h=>by
  unfold mFlag at h
  obtain ⟨v,r1,h1,h2⟩:=rb_inv h
  obtain ⟨rfl,rfl⟩:=rp_inv h2
  have h1':=cn_count _ _ _ _ h1
  have h2:=(dCount_num h1).2
  have h3:v=0∨v=1:=by omega
  refine ⟨?_,trivial⟩
  rcases h3 with rfl | rfl
  ·exact h1'
  ·exact h1'
 rd:=(rd_count _).bind fun _=>Rd.pure _
 less:=(eats_count _).less.bind fun _=>Less.pure _
theorem yes_w (b:Bool) (q:List UInt8):mYes (fL b++q)=some (b,q):=by cases b <;> rfl
theorem cd_ints:Cd mInts iL (fun l=>l.length≤1000∧∀x ∈ l,inM x) (fun l=>l.length≤1000∧∀x ∈ l,inM x):=cd_list cd_iM (eats_i _)
theorem cd_evs:Cd mEvs evsL (fun l=>l.length≤1000∧∀e ∈ l,evOk e=true∧e.stream.size < 2 ^ 64) (fun l=>l.length≤1000∧∀e ∈ l,evOk e=true):=cd_list cd_ev eats_event
theorem cd_sms:Cd mSms smsL (fun l=>l.length≤1000∧∀s ∈ l,smFit s) (fun l=>l.length≤1000∧∀e ∈ l,True):=cd_list cd_sm eats_stream
theorem cd_rgs:Cd mRgs rgsL (fun l=>l.length≤1000∧∀g ∈ l,inRgP g) (fun l=>l.length≤1000∧∀g ∈ l,inRgP g):=cd_list cd_rg eats_rg
/-- What a message that may be written keeps, so that it is read again. -/
structure MsgP.Fit (p:MsgP):Prop where
 tx:inM p.x1∧inM p.x2∧inM p.x3
 bat:p.kind=1→batFit (p.key,p.ps)
 st:stOk p.st=true
 code:inN 12 p.code
 ints:p.firsts.length≤1000∧∀x ∈ p.firsts,inM x
 rng:inM p.r1∧inM p.r2∧inM p.r3∧inM p.r4
 sms:p.sms.length≤1000∧∀s ∈ p.sms,smFit s
 src:inM p.src
 total:inM p.total
 es:p.es.length≤1000∧∀e ∈ p.es,evOk e=true∧e.stream.size < 2 ^ 64
 rgs:p.rgs.length≤1000∧∀g ∈ p.rgs,inRgP g
theorem inN.wide {x:Int} (h:inN 12 x):inM x:=⟨h.1,by have:=h.2;omega⟩
/-- A code's reader, a flag's reader that serve. -/
structure Rds (dc:Reader Int) (df:Reader Bool):Prop where
 c:∀x,inN 12 x→∀q,dc (nL x++q)=some (x,q)
 f:∀b q,df (fL b++q)=some (b,q)
theorem rds_msg:Rds iM mFlag:=⟨fun x h q=>cd_iM.w x h.wide q,fun b q=>cd_flag.w b trivial q⟩
theorem rds_doc:Rds (mI 12) mYes:=⟨fun x h q=>(cd_i (m:=12) (by decide)).w x h q,yes_w⟩
theorem mkind_cases2 {k:Int} (h:kOk k=true):k=1∨k=2∨k=3∨k=4∨k=5∨k=6∨k=7∨k=8∨k=9:=by
 have:=of_decide_eq_true h
 omega
section
variable {dc : Reader Int} {df : Reader Bool}
theorem dMsgX_1 (_hr:Rds dc df) {p:MsgP} (hk:p.kind=1) (h:p.Fit) (ho:p.only=p) (q:List UInt8):dMsgX dc df p.kind (bodyM p++q)=some (p,q):=by
 have e1:dMsgX dc df p.kind=rb mTx fun tx=>rb dBatch fun bat=>rb dStamp fun st=>rp { mZero 1 with x1:=tx.a,x2:=tx.b,x3:=tx.c,key:=bat.1,ps:=bat.2,st:=st }:=by
  unfold dMsgX
  rw [if_pos hk]
 have e2:bodyM p=nLs [p.x1,p.x2,p.x3]++(batL p.key p.ps++(stL p.st)):=by
  unfold bodyM
  rw [if_pos hk]
 have e3:p={ mZero 1 with x1:=p.x1,x2:=p.x2,x3:=p.x3,key:=p.key,ps:=p.ps,st:=p.st }:=by
  conv=>lhs;rw [←ho]
  unfold MsgP.only
  rw [if_pos hk]
 rw [e1,e2]
 simp only [List.append_assoc]
 rw [rb_some (cd_tx.w ⟨p.x1,p.x2,p.x3⟩ h.tx _),rb_some (cd_bat.w (p.key,p.ps) (h.bat hk) _),rb_some (cd_stamp.w p.st h.st _)]
 unfold rp
 exact congrArg (fun z=>some (z,q)) e3.symm
theorem dMsgX_2 (hr:Rds dc df) {p:MsgP} (hk:p.kind=2) (h:p.Fit) (ho:p.only=p) (q:List UInt8):dMsgX dc df p.kind (bodyM p++q)=some (p,q):=by
 have e1:dMsgX dc df p.kind=rb mTx fun tx=>rb dc fun code=>rb dStamp fun st=>rb mInts fun ints=>rp { mZero 2 with x1:=tx.a,x2:=tx.b,x3:=tx.c,code:=code,st:=st,firsts:=ints }:=by
  unfold dMsgX
  rw [if_neg (by omega)]
  rw [if_pos hk]
 have e2:bodyM p=nLs [p.x1,p.x2,p.x3]++(nL p.code++(stL p.st++(iL p.firsts))):=by
  unfold bodyM
  rw [if_neg (by omega)]
  rw [if_pos hk]
 have e3:p={ mZero 2 with x1:=p.x1,x2:=p.x2,x3:=p.x3,code:=p.code,st:=p.st,firsts:=p.firsts }:=by
  conv=>lhs;rw [←ho]
  unfold MsgP.only
  rw [if_neg (by omega)]
  rw [if_pos hk]
 rw [e1,e2]
 simp only [List.append_assoc]
 rw [rb_some (cd_tx.w ⟨p.x1,p.x2,p.x3⟩ h.tx _),rb_some (hr.c p.code h.code _),rb_some (cd_stamp.w p.st h.st _),rb_some (cd_ints.w p.firsts h.ints _)]
 unfold rp
 exact congrArg (fun z=>some (z,q)) e3.symm
theorem dMsgX_3 (hr:Rds dc df) {p:MsgP} (hk:p.kind=3) (h:p.Fit) (ho:p.only=p) (q:List UInt8):dMsgX dc df p.kind (bodyM p++q)=some (p,q):=by
 have e1:dMsgX dc df p.kind=rb mTx fun tx=>rb df fun flag=>rb dStamp fun st=>rp { mZero 3 with x1:=tx.a,x2:=tx.b,x3:=tx.c,yes:=flag,st:=st }:=by
  unfold dMsgX
  rw [if_neg (by omega)]
  rw [if_neg (by omega)]
  rw [if_pos hk]
 have e2:bodyM p=nLs [p.x1,p.x2,p.x3]++(fL p.yes++(stL p.st)):=by
  unfold bodyM
  rw [if_neg (by omega)]
  rw [if_neg (by omega)]
  rw [if_pos hk]
 have e3:p={ mZero 3 with x1:=p.x1,x2:=p.x2,x3:=p.x3,yes:=p.yes,st:=p.st }:=by
  conv=>lhs;rw [←ho]
  unfold MsgP.only
  rw [if_neg (by omega)]
  rw [if_neg (by omega)]
  rw [if_pos hk]
 rw [e1,e2]
 simp only [List.append_assoc]
 rw [rb_some (cd_tx.w ⟨p.x1,p.x2,p.x3⟩ h.tx _),rb_some (hr.f p.yes _),rb_some (cd_stamp.w p.st h.st _)]
 unfold rp
 exact congrArg (fun z=>some (z,q)) e3.symm
theorem dMsgX_4 (_hr:Rds dc df) {p:MsgP} (hk:p.kind=4) (h:p.Fit) (ho:p.only=p) (q:List UInt8):dMsgX dc df p.kind (bodyM p++q)=some (p,q):=by
 have e1:dMsgX dc df p.kind=rb mTx fun tx=>rp { mZero 4 with x1:=tx.a,x2:=tx.b,x3:=tx.c }:=by
  unfold dMsgX
  rw [if_neg (by omega)]
  rw [if_neg (by omega)]
  rw [if_neg (by omega)]
  rw [if_pos hk]
 have e2:bodyM p=nLs [p.x1,p.x2,p.x3]:=by
  unfold bodyM
  rw [if_neg (by omega)]
  rw [if_neg (by omega)]
  rw [if_neg (by omega)]
  rw [if_pos hk]
 have e3:p={ mZero 4 with x1:=p.x1,x2:=p.x2,x3:=p.x3 }:=by
  conv=>lhs;rw [←ho]
  unfold MsgP.only
  rw [if_neg (by omega)]
  rw [if_neg (by omega)]
  rw [if_neg (by omega)]
  rw [if_pos hk]
 rw [e1,e2]
 rw [rb_some (cd_tx.w ⟨p.x1,p.x2,p.x3⟩ h.tx _)]
 unfold rp
 exact congrArg (fun z=>some (z,q)) e3.symm
theorem dMsgX_5 (_hr:Rds dc df) {p:MsgP} (hk:p.kind=5) (h:p.Fit) (ho:p.only=p) (q:List UInt8):dMsgX dc df p.kind (bodyM p++q)=some (p,q):=by
 have e1:dMsgX dc df p.kind=rb mTx fun tx=>rb dStamp fun st=>rb mInts fun ints=>rp { mZero 5 with x1:=tx.a,x2:=tx.b,x3:=tx.c,st:=st,firsts:=ints }:=by
  unfold dMsgX
  rw [if_neg (by omega)]
  rw [if_neg (by omega)]
  rw [if_neg (by omega)]
  rw [if_neg (by omega)]
  rw [if_pos hk]
 have e2:bodyM p=nLs [p.x1,p.x2,p.x3]++(stL p.st++(iL p.firsts)):=by
  unfold bodyM
  rw [if_neg (by omega)]
  rw [if_neg (by omega)]
  rw [if_neg (by omega)]
  rw [if_neg (by omega)]
  rw [if_pos hk]
 have e3:p={ mZero 5 with x1:=p.x1,x2:=p.x2,x3:=p.x3,st:=p.st,firsts:=p.firsts }:=by
  conv=>lhs;rw [←ho]
  unfold MsgP.only
  rw [if_neg (by omega)]
  rw [if_neg (by omega)]
  rw [if_neg (by omega)]
  rw [if_neg (by omega)]
  rw [if_pos hk]
 rw [e1,e2]
 simp only [List.append_assoc]
 rw [rb_some (cd_tx.w ⟨p.x1,p.x2,p.x3⟩ h.tx _),rb_some (cd_stamp.w p.st h.st _),rb_some (cd_ints.w p.firsts h.ints _)]
 unfold rp
 exact congrArg (fun z=>some (z,q)) e3.symm
theorem dMsgX_6 (_hr:Rds dc df) {p:MsgP} (hk:p.kind=6) (h:p.Fit) (ho:p.only=p) (q:List UInt8):dMsgX dc df p.kind (bodyM p++q)=some (p,q):=by
 have e1:dMsgX dc df p.kind=rb mRg fun rng=>rb dStamp fun st=>rb mSms fun sms=>rp { mZero 6 with r1:=rng.a,r2:=rng.b,r3:=rng.c,r4:=rng.d,st:=st,sms:=sms }:=by
  unfold dMsgX
  rw [if_neg (by omega)]
  rw [if_neg (by omega)]
  rw [if_neg (by omega)]
  rw [if_neg (by omega)]
  rw [if_neg (by omega)]
  rw [if_pos hk]
 have e2:bodyM p=nLs [p.r1,p.r2,p.r3,p.r4]++(stL p.st++(smsL p.sms)):=by
  unfold bodyM
  rw [if_neg (by omega)]
  rw [if_neg (by omega)]
  rw [if_neg (by omega)]
  rw [if_neg (by omega)]
  rw [if_neg (by omega)]
  rw [if_pos hk]
 have e3:p={ mZero 6 with r1:=p.r1,r2:=p.r2,r3:=p.r3,r4:=p.r4,st:=p.st,sms:=p.sms }:=by
  conv=>lhs;rw [←ho]
  unfold MsgP.only
  rw [if_neg (by omega)]
  rw [if_neg (by omega)]
  rw [if_neg (by omega)]
  rw [if_neg (by omega)]
  rw [if_neg (by omega)]
  rw [if_pos hk]
 rw [e1,e2]
 simp only [List.append_assoc]
 rw [rb_some (cd_rg.w ⟨p.r1,p.r2,p.r3,p.r4⟩ h.rng _),rb_some (cd_stamp.w p.st h.st _),rb_some (cd_sms.w p.sms h.sms _)]
 unfold rp
 exact congrArg (fun z=>some (z,q)) e3.symm
theorem dMsgX_7 (_hr:Rds dc df) {p:MsgP} (hk:p.kind=7) (h:p.Fit) (ho:p.only=p) (q:List UInt8):dMsgX dc df p.kind (bodyM p++q)=some (p,q):=by
 have e1:dMsgX dc df p.kind=rb mRg fun rng=>rp { mZero 7 with r1:=rng.a,r2:=rng.b,r3:=rng.c,r4:=rng.d }:=by
  unfold dMsgX
  rw [if_neg (by omega)]
  rw [if_neg (by omega)]
  rw [if_neg (by omega)]
  rw [if_neg (by omega)]
  rw [if_neg (by omega)]
  rw [if_neg (by omega)]
  rw [if_pos hk]
 have e2:bodyM p=nLs [p.r1,p.r2,p.r3,p.r4]:=by
  unfold bodyM
  rw [if_neg (by omega)]
  rw [if_neg (by omega)]
  rw [if_neg (by omega)]
  rw [if_neg (by omega)]
  rw [if_neg (by omega)]
  rw [if_neg (by omega)]
  rw [if_pos hk]
 have e3:p={ mZero 7 with r1:=p.r1,r2:=p.r2,r3:=p.r3,r4:=p.r4 }:=by
  conv=>lhs;rw [←ho]
  unfold MsgP.only
  rw [if_neg (by omega)]
  rw [if_neg (by omega)]
  rw [if_neg (by omega)]
  rw [if_neg (by omega)]
  rw [if_neg (by omega)]
  rw [if_neg (by omega)]
  rw [if_pos hk]
 rw [e1,e2]
 rw [rb_some (cd_rg.w ⟨p.r1,p.r2,p.r3,p.r4⟩ h.rng _)]
 unfold rp
 exact congrArg (fun z=>some (z,q)) e3.symm
theorem dMsgX_8 (_hr:Rds dc df) {p:MsgP} (hk:p.kind=8) (h:p.Fit) (ho:p.only=p) (q:List UInt8):dMsgX dc df p.kind (bodyM p++q)=some (p,q):=by
 have e1:dMsgX dc df p.kind=rb iM fun src=>rp { mZero 8 with src:=src }:=by
  unfold dMsgX
  rw [if_neg (by omega)]
  rw [if_neg (by omega)]
  rw [if_neg (by omega)]
  rw [if_neg (by omega)]
  rw [if_neg (by omega)]
  rw [if_neg (by omega)]
  rw [if_neg (by omega)]
  rw [if_pos hk]
 have e2:bodyM p=nL p.src:=by
  unfold bodyM
  rw [if_neg (by omega)]
  rw [if_neg (by omega)]
  rw [if_neg (by omega)]
  rw [if_neg (by omega)]
  rw [if_neg (by omega)]
  rw [if_neg (by omega)]
  rw [if_neg (by omega)]
  rw [if_pos hk]
 have e3:p={ mZero 8 with src:=p.src }:=by
  conv=>lhs;rw [←ho]
  unfold MsgP.only
  rw [if_neg (by omega)]
  rw [if_neg (by omega)]
  rw [if_neg (by omega)]
  rw [if_neg (by omega)]
  rw [if_neg (by omega)]
  rw [if_neg (by omega)]
  rw [if_neg (by omega)]
  rw [if_pos hk]
 rw [e1,e2]
 rw [rb_some (cd_iM.w p.src h.src _)]
 unfold rp
 exact congrArg (fun z=>some (z,q)) e3.symm
theorem dMsgX_9 (_hr:Rds dc df) {p:MsgP} (hk:p.kind=9) (h:p.Fit) (ho:p.only=p) (q:List UInt8):dMsgX dc df p.kind (bodyM p++q)=some (p,q):=by
 have e1:dMsgX dc df p.kind=rb iM fun src=>rb iM fun total=>rb mEvs fun es=>rb dStamp fun st=>rb mRgs fun rgs=>rp { mZero 9 with src:=src,total:=total,es:=es,st:=st,rgs:=rgs }:=by
  unfold dMsgX
  rw [if_neg (by omega)]
  rw [if_neg (by omega)]
  rw [if_neg (by omega)]
  rw [if_neg (by omega)]
  rw [if_neg (by omega)]
  rw [if_neg (by omega)]
  rw [if_neg (by omega)]
  rw [if_neg (by omega)]
  rw [if_pos hk]
 have e2:bodyM p=nL p.src++(nL p.total++(evsL p.es++(stL p.st++(rgsL p.rgs)))):=by
  unfold bodyM
  rw [if_neg (by omega)]
  rw [if_neg (by omega)]
  rw [if_neg (by omega)]
  rw [if_neg (by omega)]
  rw [if_neg (by omega)]
  rw [if_neg (by omega)]
  rw [if_neg (by omega)]
  rw [if_neg (by omega)]
  rw [if_pos hk]
 have e3:p={ mZero 9 with src:=p.src,total:=p.total,es:=p.es,st:=p.st,rgs:=p.rgs }:=by
  conv=>lhs;rw [←ho]
  unfold MsgP.only
  rw [if_neg (by omega)]
  rw [if_neg (by omega)]
  rw [if_neg (by omega)]
  rw [if_neg (by omega)]
  rw [if_neg (by omega)]
  rw [if_neg (by omega)]
  rw [if_neg (by omega)]
  rw [if_neg (by omega)]
  rw [if_pos hk]
 rw [e1,e2]
 simp only [List.append_assoc]
 rw [rb_some (cd_iM.w p.src h.src _),rb_some (cd_iM.w p.total h.total _),rb_some (cd_evs.w p.es h.es _),rb_some (cd_stamp.w p.st h.st _),rb_some (cd_rgs.w p.rgs h.rgs _)]
 unfold rp
 exact congrArg (fun z=>some (z,q)) e3.symm
theorem dMsgX_w (hr:Rds dc df) {p:MsgP} (hk:kOk p.kind=true) (h:p.Fit) (ho:p.only=p) (q:List UInt8):dMsgX dc df p.kind (bodyM p++q)=some (p,q):=by
 rcases mkind_cases2 hk with hk | hk | hk | hk | hk | hk | hk | hk | hk
 ·exact dMsgX_1 hr hk h ho q
 ·exact dMsgX_2 hr hk h ho q
 ·exact dMsgX_3 hr hk h ho q
 ·exact dMsgX_4 hr hk h ho q
 ·exact dMsgX_5 hr hk h ho q
 ·exact dMsgX_6 hr hk h ho q
 ·exact dMsgX_7 hr hk h ho q
 ·exact dMsgX_8 hr hk h ho q
 ·exact dMsgX_9 hr hk h ho q
end
/-- What a message that was read keeps. -/
structure MFine (M:Nat) (k:Int) (p:MsgP):Prop where
 kind:p.kind=k
 only:p.only=p
 x1:inM p.x1
 x2:inM p.x2
 x3:inM p.x3
 bat:(batL p.key p.ps).length≤M
 code:inM p.code
 firsts:∀x ∈ p.firsts,inM x
 firstsL:p.firsts.length≤1000
 r1:inM p.r1
 r2:inM p.r2
 r3:inM p.r3
 r4:inM p.r4
 sms:∀s ∈ p.sms,(smL s).length≤M
 smsL:p.sms.length≤1000
 src:inM p.src
 total:inM p.total
 es:∀e ∈ p.es,(evL e).length≤M
 esL:p.es.length≤1000
 esO:∀e ∈ p.es,evOk e=true
 rgs:∀g ∈ p.rgs,inRgP g
 rgsL:p.rgs.length≤1000
theorem inM0:inM 0:=⟨by omega,by omega⟩
theorem batL_zero:batL ByteArray.empty []=[]:=batL_no (by decide)
theorem mfine0 (M:Nat) (k:Int) (ho:(mZero k).only=mZero k):MFine M k (mZero k) where
 kind:=rfl
 only:=ho
 x1:=inM0
 x2:=inM0
 x3:=inM0
 bat:=by show (batL ByteArray.empty []).length≤M;rw [batL_zero];simp
 code:=inM0
 firsts:=fun _ h=>by cases h
 firstsL:=by simp [mZero]
 r1:=inM0
 r2:=inM0
 r3:=inM0
 r4:=inM0
 sms:=fun _ h=>by cases h
 smsL:=by simp [mZero]
 src:=inM0
 total:=inM0
 es:=fun _ h=>by cases h
 esL:=by simp [mZero]
 esO:=fun _ h=>by cases h
 rgs:=fun _ h=>by cases h
 rgsL:=by simp [mZero]
theorem flat_leM {α:Type} (f:α→List UInt8) {l:List α} {x:α} (h:x ∈ l):(f x).length≤(l.flatMap f).length:=by
 induction l with
 | nil=>cases h
 | cons y l ih =>
  rw [List.flatMap_cons,List.length_append]
  rcases List.mem_cons.1 h with rfl | h
  ·omega
  ·have:=ih h
   omega
/-- How a code's and a flag's reader take. -/
structure RdsC (dc:Reader Int) (df:Reader Bool):Prop where
 c:∀l x r,dc l=some (x,r)→l=nL x++r∧inM x
 f:∀l b r,df l=some (b,r)→l=fL b++r
theorem rdsc_msg:RdsC iM mFlag:=⟨fun l x r h=>cd_iM.c l x r h,fun l b r h=>(cd_flag.c l b r h).1⟩
section
variable {dc : Reader Int} {df : Reader Bool}
theorem dMsgX_c1 (_hr:RdsC dc df) {M:Nat} {k:Int} (hk:k=1) {l q:List UInt8} {p:MsgP} (h:dMsgX dc df k l=some (p,q)) (hM:l.length≤M):l=bodyM p++q∧MFine M k p:=by
 subst hk
 have e1:dMsgX dc df 1=rb mTx fun tx=>rb dBatch fun bat=>rb dStamp fun st=>rp { mZero 1 with x1:=tx.a,x2:=tx.b,x3:=tx.c,key:=bat.1,ps:=bat.2,st:=st }:=rfl
 rw [e1] at h
 obtain ⟨tx,r_tx,h_tx,h⟩:=rb_inv h
 obtain ⟨bat,r_bat,h_bat,h⟩:=rb_inv h
 obtain ⟨st,r_st,h_st,h⟩:=rb_inv h
 obtain ⟨rfl,rfl⟩:=rp_inv h
 obtain ⟨rfl,i_tx⟩:=cd_tx.c _ _ _ h_tx
 obtain ⟨rfl,i_bat⟩:=cd_bat.c _ _ _ h_bat
 obtain ⟨rfl,i_st⟩:=cd_stamp.c _ _ _ h_st
 refine ⟨?_,?_⟩
 ·show _=(nLs [({ mZero 1 with x1:=tx.a,x2:=tx.b,x3:=tx.c,key:=bat.1,ps:=bat.2,st:=st }:MsgP).x1,({ mZero 1 with x1:=tx.a,x2:=tx.b,x3:=tx.c,key:=bat.1,ps:=bat.2,st:=st }:MsgP).x2,({ mZero 1 with x1:=tx.a,x2:=tx.b,x3:=tx.c,key:=bat.1,ps:=bat.2,st:=st }:MsgP).x3]++(batL ({ mZero 1 with x1:=tx.a,x2:=tx.b,x3:=tx.c,key:=bat.1,ps:=bat.2,st:=st }:MsgP).key ({ mZero 1 with x1:=tx.a,x2:=tx.b,x3:=tx.c,key:=bat.1,ps:=bat.2,st:=st }:MsgP).ps++(stL ({ mZero 1 with x1:=tx.a,x2:=tx.b,x3:=tx.c,key:=bat.1,ps:=bat.2,st:=st }:MsgP).st)))++_
  simp only [List.append_assoc]
 ·exact { mfine0 M 1 rfl with only:=rfl,x1:=i_tx.1,x2:=i_tx.2.1,x3:=i_tx.2.2,bat:=by simp only [List.length_append] at hM ⊢;omega }
theorem dMsgX_c2 (hr:RdsC dc df) {M:Nat} {k:Int} (hk:k=2) {l q:List UInt8} {p:MsgP} (h:dMsgX dc df k l=some (p,q)) (hM:l.length≤M):l=bodyM p++q∧MFine M k p:=by
 subst hk
 have e1:dMsgX dc df 2=rb mTx fun tx=>rb dc fun code=>rb dStamp fun st=>rb mInts fun ints=>rp { mZero 2 with x1:=tx.a,x2:=tx.b,x3:=tx.c,code:=code,st:=st,firsts:=ints }:=rfl
 rw [e1] at h
 obtain ⟨tx,r_tx,h_tx,h⟩:=rb_inv h
 obtain ⟨code,r_code,h_code,h⟩:=rb_inv h
 obtain ⟨st,r_st,h_st,h⟩:=rb_inv h
 obtain ⟨ints,r_ints,h_ints,h⟩:=rb_inv h
 obtain ⟨rfl,rfl⟩:=rp_inv h
 obtain ⟨rfl,i_tx⟩:=cd_tx.c _ _ _ h_tx
 obtain ⟨rfl,i_code⟩:=hr.c _ _ _ h_code
 obtain ⟨rfl,i_st⟩:=cd_stamp.c _ _ _ h_st
 obtain ⟨rfl,i_ints⟩:=cd_ints.c _ _ _ h_ints
 refine ⟨?_,?_⟩
 ·show _=(nLs [({ mZero 2 with x1:=tx.a,x2:=tx.b,x3:=tx.c,code:=code,st:=st,firsts:=ints }:MsgP).x1,({ mZero 2 with x1:=tx.a,x2:=tx.b,x3:=tx.c,code:=code,st:=st,firsts:=ints }:MsgP).x2,({ mZero 2 with x1:=tx.a,x2:=tx.b,x3:=tx.c,code:=code,st:=st,firsts:=ints }:MsgP).x3]++(nL ({ mZero 2 with x1:=tx.a,x2:=tx.b,x3:=tx.c,code:=code,st:=st,firsts:=ints }:MsgP).code++(stL ({ mZero 2 with x1:=tx.a,x2:=tx.b,x3:=tx.c,code:=code,st:=st,firsts:=ints }:MsgP).st++(iL ({ mZero 2 with x1:=tx.a,x2:=tx.b,x3:=tx.c,code:=code,st:=st,firsts:=ints }:MsgP).firsts))))++_
  simp only [List.append_assoc]
 ·exact { mfine0 M 2 rfl with only:=rfl,x1:=i_tx.1,x2:=i_tx.2.1,x3:=i_tx.2.2,code:=i_code,firsts:=i_ints.2,firstsL:=i_ints.1 }
theorem dMsgX_c3 (hr:RdsC dc df) {M:Nat} {k:Int} (hk:k=3) {l q:List UInt8} {p:MsgP} (h:dMsgX dc df k l=some (p,q)) (hM:l.length≤M):l=bodyM p++q∧MFine M k p:=by
 subst hk
 have e1:dMsgX dc df 3=rb mTx fun tx=>rb df fun flag=>rb dStamp fun st=>rp { mZero 3 with x1:=tx.a,x2:=tx.b,x3:=tx.c,yes:=flag,st:=st }:=rfl
 rw [e1] at h
 obtain ⟨tx,r_tx,h_tx,h⟩:=rb_inv h
 obtain ⟨flag,r_flag,h_flag,h⟩:=rb_inv h
 obtain ⟨st,r_st,h_st,h⟩:=rb_inv h
 obtain ⟨rfl,rfl⟩:=rp_inv h
 obtain ⟨rfl,i_tx⟩:=cd_tx.c _ _ _ h_tx
 obtain rfl:=hr.f _ _ _ h_flag
 obtain ⟨rfl,i_st⟩:=cd_stamp.c _ _ _ h_st
 refine ⟨?_,?_⟩
 ·show _=(nLs [({ mZero 3 with x1:=tx.a,x2:=tx.b,x3:=tx.c,yes:=flag,st:=st }:MsgP).x1,({ mZero 3 with x1:=tx.a,x2:=tx.b,x3:=tx.c,yes:=flag,st:=st }:MsgP).x2,({ mZero 3 with x1:=tx.a,x2:=tx.b,x3:=tx.c,yes:=flag,st:=st }:MsgP).x3]++(fL ({ mZero 3 with x1:=tx.a,x2:=tx.b,x3:=tx.c,yes:=flag,st:=st }:MsgP).yes++(stL ({ mZero 3 with x1:=tx.a,x2:=tx.b,x3:=tx.c,yes:=flag,st:=st }:MsgP).st)))++_
  simp only [List.append_assoc]
 ·exact { mfine0 M 3 rfl with only:=rfl,x1:=i_tx.1,x2:=i_tx.2.1,x3:=i_tx.2.2 }
theorem dMsgX_c4 (_hr:RdsC dc df) {M:Nat} {k:Int} (hk:k=4) {l q:List UInt8} {p:MsgP} (h:dMsgX dc df k l=some (p,q)) (hM:l.length≤M):l=bodyM p++q∧MFine M k p:=by
 subst hk
 have e1:dMsgX dc df 4=rb mTx fun tx=>rp { mZero 4 with x1:=tx.a,x2:=tx.b,x3:=tx.c }:=rfl
 rw [e1] at h
 obtain ⟨tx,r_tx,h_tx,h⟩:=rb_inv h
 obtain ⟨rfl,rfl⟩:=rp_inv h
 obtain ⟨rfl,i_tx⟩:=cd_tx.c _ _ _ h_tx
 refine ⟨?_,?_⟩
 ·show _=(nLs [({ mZero 4 with x1:=tx.a,x2:=tx.b,x3:=tx.c }:MsgP).x1,({ mZero 4 with x1:=tx.a,x2:=tx.b,x3:=tx.c }:MsgP).x2,({ mZero 4 with x1:=tx.a,x2:=tx.b,x3:=tx.c }:MsgP).x3])++_
  rfl
 ·exact { mfine0 M 4 rfl with only:=rfl,x1:=i_tx.1,x2:=i_tx.2.1,x3:=i_tx.2.2 }
theorem dMsgX_c5 (_hr:RdsC dc df) {M:Nat} {k:Int} (hk:k=5) {l q:List UInt8} {p:MsgP} (h:dMsgX dc df k l=some (p,q)) (hM:l.length≤M):l=bodyM p++q∧MFine M k p:=by
 subst hk
 have e1:dMsgX dc df 5=rb mTx fun tx=>rb dStamp fun st=>rb mInts fun ints=>rp { mZero 5 with x1:=tx.a,x2:=tx.b,x3:=tx.c,st:=st,firsts:=ints }:=rfl
 rw [e1] at h
 obtain ⟨tx,r_tx,h_tx,h⟩:=rb_inv h
 obtain ⟨st,r_st,h_st,h⟩:=rb_inv h
 obtain ⟨ints,r_ints,h_ints,h⟩:=rb_inv h
 obtain ⟨rfl,rfl⟩:=rp_inv h
 obtain ⟨rfl,i_tx⟩:=cd_tx.c _ _ _ h_tx
 obtain ⟨rfl,i_st⟩:=cd_stamp.c _ _ _ h_st
 obtain ⟨rfl,i_ints⟩:=cd_ints.c _ _ _ h_ints
 refine ⟨?_,?_⟩
 ·show _=(nLs [({ mZero 5 with x1:=tx.a,x2:=tx.b,x3:=tx.c,st:=st,firsts:=ints }:MsgP).x1,({ mZero 5 with x1:=tx.a,x2:=tx.b,x3:=tx.c,st:=st,firsts:=ints }:MsgP).x2,({ mZero 5 with x1:=tx.a,x2:=tx.b,x3:=tx.c,st:=st,firsts:=ints }:MsgP).x3]++(stL ({ mZero 5 with x1:=tx.a,x2:=tx.b,x3:=tx.c,st:=st,firsts:=ints }:MsgP).st++(iL ({ mZero 5 with x1:=tx.a,x2:=tx.b,x3:=tx.c,st:=st,firsts:=ints }:MsgP).firsts)))++_
  simp only [List.append_assoc]
 ·exact { mfine0 M 5 rfl with only:=rfl,x1:=i_tx.1,x2:=i_tx.2.1,x3:=i_tx.2.2,firsts:=i_ints.2,firstsL:=i_ints.1 }
theorem dMsgX_c6 (_hr:RdsC dc df) {M:Nat} {k:Int} (hk:k=6) {l q:List UInt8} {p:MsgP} (h:dMsgX dc df k l=some (p,q)) (hM:l.length≤M):l=bodyM p++q∧MFine M k p:=by
 subst hk
 have e1:dMsgX dc df 6=rb mRg fun rng=>rb dStamp fun st=>rb mSms fun sms=>rp { mZero 6 with r1:=rng.a,r2:=rng.b,r3:=rng.c,r4:=rng.d,st:=st,sms:=sms }:=rfl
 rw [e1] at h
 obtain ⟨rng,r_rng,h_rng,h⟩:=rb_inv h
 obtain ⟨st,r_st,h_st,h⟩:=rb_inv h
 obtain ⟨sms,r_sms,h_sms,h⟩:=rb_inv h
 obtain ⟨rfl,rfl⟩:=rp_inv h
 obtain ⟨rfl,i_rng⟩:=cd_rg.c _ _ _ h_rng
 obtain ⟨rfl,i_st⟩:=cd_stamp.c _ _ _ h_st
 obtain ⟨rfl,i_sms⟩:=cd_sms.c _ _ _ h_sms
 refine ⟨?_,?_⟩
 ·show _=(nLs [({ mZero 6 with r1:=rng.a,r2:=rng.b,r3:=rng.c,r4:=rng.d,st:=st,sms:=sms }:MsgP).r1,({ mZero 6 with r1:=rng.a,r2:=rng.b,r3:=rng.c,r4:=rng.d,st:=st,sms:=sms }:MsgP).r2,({ mZero 6 with r1:=rng.a,r2:=rng.b,r3:=rng.c,r4:=rng.d,st:=st,sms:=sms }:MsgP).r3,({ mZero 6 with r1:=rng.a,r2:=rng.b,r3:=rng.c,r4:=rng.d,st:=st,sms:=sms }:MsgP).r4]++(stL ({ mZero 6 with r1:=rng.a,r2:=rng.b,r3:=rng.c,r4:=rng.d,st:=st,sms:=sms }:MsgP).st++(smsL ({ mZero 6 with r1:=rng.a,r2:=rng.b,r3:=rng.c,r4:=rng.d,st:=st,sms:=sms }:MsgP).sms)))++_
  simp only [List.append_assoc]
 ·exact { mfine0 M 6 rfl with only:=rfl,r1:=i_rng.1,r2:=i_rng.2.1,r3:=i_rng.2.2.1,r4:=i_rng.2.2.2,sms:=fun s hs=>by have:=flat_leM smL (show s ∈ sms from hs);simp only [smsL,List.length_append] at hM;omega,smsL:=i_sms.1 }
theorem dMsgX_c7 (_hr:RdsC dc df) {M:Nat} {k:Int} (hk:k=7) {l q:List UInt8} {p:MsgP} (h:dMsgX dc df k l=some (p,q)) (hM:l.length≤M):l=bodyM p++q∧MFine M k p:=by
 subst hk
 have e1:dMsgX dc df 7=rb mRg fun rng=>rp { mZero 7 with r1:=rng.a,r2:=rng.b,r3:=rng.c,r4:=rng.d }:=rfl
 rw [e1] at h
 obtain ⟨rng,r_rng,h_rng,h⟩:=rb_inv h
 obtain ⟨rfl,rfl⟩:=rp_inv h
 obtain ⟨rfl,i_rng⟩:=cd_rg.c _ _ _ h_rng
 refine ⟨?_,?_⟩
 ·show _=(nLs [({ mZero 7 with r1:=rng.a,r2:=rng.b,r3:=rng.c,r4:=rng.d }:MsgP).r1,({ mZero 7 with r1:=rng.a,r2:=rng.b,r3:=rng.c,r4:=rng.d }:MsgP).r2,({ mZero 7 with r1:=rng.a,r2:=rng.b,r3:=rng.c,r4:=rng.d }:MsgP).r3,({ mZero 7 with r1:=rng.a,r2:=rng.b,r3:=rng.c,r4:=rng.d }:MsgP).r4])++_
  rfl
 ·exact { mfine0 M 7 rfl with only:=rfl,r1:=i_rng.1,r2:=i_rng.2.1,r3:=i_rng.2.2.1,r4:=i_rng.2.2.2 }
theorem dMsgX_c8 (_hr:RdsC dc df) {M:Nat} {k:Int} (hk:k=8) {l q:List UInt8} {p:MsgP} (h:dMsgX dc df k l=some (p,q)) (hM:l.length≤M):l=bodyM p++q∧MFine M k p:=by
 subst hk
 have e1:dMsgX dc df 8=rb iM fun src=>rp { mZero 8 with src:=src }:=rfl
 rw [e1] at h
 obtain ⟨src,r_src,h_src,h⟩:=rb_inv h
 obtain ⟨rfl,rfl⟩:=rp_inv h
 obtain ⟨rfl,i_src⟩:=cd_iM.c _ _ _ h_src
 refine ⟨?_,?_⟩
 ·show _=(nL ({ mZero 8 with src:=src }:MsgP).src)++_
  rfl
 ·exact { mfine0 M 8 rfl with only:=rfl,src:=i_src }
theorem dMsgX_c9 (_hr:RdsC dc df) {M:Nat} {k:Int} (hk:k=9) {l q:List UInt8} {p:MsgP} (h:dMsgX dc df k l=some (p,q)) (hM:l.length≤M):l=bodyM p++q∧MFine M k p:=by
 subst hk
 have e1:dMsgX dc df 9=rb iM fun src=>rb iM fun total=>rb mEvs fun es=>rb dStamp fun st=>rb mRgs fun rgs=>rp { mZero 9 with src:=src,total:=total,es:=es,st:=st,rgs:=rgs }:=rfl
 rw [e1] at h
 obtain ⟨src,r_src,h_src,h⟩:=rb_inv h
 obtain ⟨total,r_total,h_total,h⟩:=rb_inv h
 obtain ⟨es,r_es,h_es,h⟩:=rb_inv h
 obtain ⟨st,r_st,h_st,h⟩:=rb_inv h
 obtain ⟨rgs,r_rgs,h_rgs,h⟩:=rb_inv h
 obtain ⟨rfl,rfl⟩:=rp_inv h
 obtain ⟨rfl,i_src⟩:=cd_iM.c _ _ _ h_src
 obtain ⟨rfl,i_total⟩:=cd_iM.c _ _ _ h_total
 obtain ⟨rfl,i_es⟩:=cd_evs.c _ _ _ h_es
 obtain ⟨rfl,i_st⟩:=cd_stamp.c _ _ _ h_st
 obtain ⟨rfl,i_rgs⟩:=cd_rgs.c _ _ _ h_rgs
 refine ⟨?_,?_⟩
 ·show _=(nL ({ mZero 9 with src:=src,total:=total,es:=es,st:=st,rgs:=rgs }:MsgP).src++(nL ({ mZero 9 with src:=src,total:=total,es:=es,st:=st,rgs:=rgs }:MsgP).total++(evsL ({ mZero 9 with src:=src,total:=total,es:=es,st:=st,rgs:=rgs }:MsgP).es++(stL ({ mZero 9 with src:=src,total:=total,es:=es,st:=st,rgs:=rgs }:MsgP).st++(rgsL ({ mZero 9 with src:=src,total:=total,es:=es,st:=st,rgs:=rgs }:MsgP).rgs)))))++_
  simp only [List.append_assoc]
 ·exact { mfine0 M 9 rfl with only:=rfl,src:=i_src,total:=i_total,es:=fun s hs=>by have:=flat_leM evL (show s ∈ es from hs);simp only [evsL,List.length_append] at hM;omega,esL:=i_es.1,esO:=i_es.2,rgs:=i_rgs.2,rgsL:=i_rgs.1 }
theorem dMsgX_c (hr:RdsC dc df) {M:Nat} {k:Int} {l q:List UInt8} {p:MsgP} (h:dMsgX dc df k l=some (p,q)) (hM:l.length≤M):l=bodyM p++q∧MFine M k p∧kOk k=true:=by
 rcases mkind_cases k with hk | hk | hk | hk | hk | hk | hk | hk | hk | hk
 ·have h:=dMsgX_c1 hr hk h hM;exact ⟨h.1,h.2,by rw [hk];rfl⟩
 ·have h:=dMsgX_c2 hr hk h hM;exact ⟨h.1,h.2,by rw [hk];rfl⟩
 ·have h:=dMsgX_c3 hr hk h hM;exact ⟨h.1,h.2,by rw [hk];rfl⟩
 ·have h:=dMsgX_c4 hr hk h hM;exact ⟨h.1,h.2,by rw [hk];rfl⟩
 ·have h:=dMsgX_c5 hr hk h hM;exact ⟨h.1,h.2,by rw [hk];rfl⟩
 ·have h:=dMsgX_c6 hr hk h hM;exact ⟨h.1,h.2,by rw [hk];rfl⟩
 ·have h:=dMsgX_c7 hr hk h hM;exact ⟨h.1,h.2,by rw [hk];rfl⟩
 ·have h:=dMsgX_c8 hr hk h hM;exact ⟨h.1,h.2,by rw [hk];rfl⟩
 ·have h:=dMsgX_c9 hr hk h hM;exact ⟨h.1,h.2,by rw [hk];rfl⟩
 ·have h0:¬ (1≤k∧k≤9):=of_decide_eq_false hk
  unfold dMsgX at h
  repeat rw [if_neg (by omega)] at h
  cases h
end
theorem mkind_byte {k:Int} (hk:kOk k=true):((UInt8.ofNat k.toNat).toNat:Int)=k:=by
 have:=of_decide_eq_true hk
 rw [UInt8.toNat_ofNat']
 omega
theorem chkM_kind {m:MsgP} (hc:chkM m=true):kOk m.kind=true:=by
 unfold chkM at hc
 simp only [Bool.and_eq_true] at hc
 exact hc.1.1
/-- Sizes that a message bears which is written and read again. -/
structure MsgP.Fits (r:MsgP):Prop where
 key:r.key.size < 2 ^ 64
 ps:∀p ∈ r.ps,p.stream.size < 2 ^ 64∧∀d ∈ p.data,d.size < 2 ^ 64
 sms:∀s ∈ r.sms,s.name.size < 2 ^ 64∧s.evs.length < 2 ^ 64∧s.keys.length < 2 ^ 64∧∀k ∈ s.keys,k.key.size < 2 ^ 64
 es:∀e ∈ r.es,e.stream.size < 2 ^ 64
theorem okI_in {x:Int}:okI 1099511627776 x=true ↔ inM x:=decide_eq_true_iff
theorem okIs_in {l:List Int}:okIs 1099511627776 l=true ↔ ∀x ∈ l,inM x:=by
 unfold okIs
 rw [List.all_eq_true]
 exact ⟨fun h x hx=>okI_in.1 (h x hx),fun h x hx=>okI_in.2 (h x hx)⟩
theorem fit_of {m:MsgP} (hc:chkM m=true) (hf:m.Fits):m.Fit:=by
 unfold chkM at hc
 simp only [Bool.and_eq_true,Bool.or_eq_true,Bool.not_eq_true',decide_eq_false_iff_not,decide_eq_true_eq,inB,rgsB,okIs_in,List.all_eq_true] at hc
 obtain ⟨⟨_,⟨⟨⟨⟨⟨⟨⟨⟨⟨⟨c1,c2⟩,c3⟩,c4⟩,c5⟩,c6⟩,c7⟩,c8⟩,c9⟩,c10⟩,c11⟩⟩,c12⟩:=hc
 have i1:∀x ∈ [m.x1,m.x2,m.x3,m.src,m.total],inM x:=c1.1
 have i2:=(c7.1 ⟨m.r1,m.r2,m.r3,m.r4⟩ (by simp)).1
 have k1:∀s ∈ m.sms,smFit s:=fun s hs=>by
  refine ⟨?_,hf.sms s hs⟩
  cases ho:smOk s with
  | true=>rfl
  | false=>exact absurd (smL_no ho) (c11 s hs)
 have k2:∀e ∈ m.es,evOk e=true∧e.stream.size < 2 ^ 64:=fun e he=>by
  refine ⟨?_,hf.es e he⟩
  cases ho:evOk e with
  | true=>rfl
  | false=>exact absurd (evL_none ho) (c10 e he)
 have k3:∀g ∈ m.rgs,inRgP g:=fun g hg=>by
  have:=(c6.1 g hg).1
  exact ⟨this _ (by simp [rgNs]),this _ (by simp [rgNs]),this _ (by simp [rgNs]),this _ (by simp [rgNs])⟩
 exact { tx:=⟨i1 _ (by simp),i1 _ (by simp),i1 _ (by simp)⟩,bat:=fun hk=>⟨c12.resolve_left (fun h=>h hk),hf.key,hf.ps⟩,st:=c5,code:=⟨c3,c4⟩,ints:=⟨c2.2,c2.1⟩,rng:=⟨i2 _ (by simp [rgNs]),i2 _ (by simp [rgNs]),i2 _ (by simp [rgNs]),i2 _ (by simp [rgNs])⟩,sms:=⟨c9,k1⟩,src:=i1 _ (by simp),total:=i1 _ (by simp),es:=⟨c8,k2⟩,rgs:=⟨c6.2,k3⟩ }
section
variable {m : MsgP} (hc : chkM m = true) (hf : m.Fits) (ho : m.only = m)
include hc hf ho
theorem decM_back:decM (docM m)=some m:=by
 have hk:=chkM_kind hc
 have h1:=dMsgX_w rds_msg hk (fit_of hc hf) ho []
 rw [List.append_nil] at h1
 rw [docM_body m hk]
 unfold decM
 simp only [mkind_byte hk]
 rw [show dMsg m.kind (bodyM m)=some (m,[]) from h1]
 simp [hc]
end
theorem decM_canon {l:List UInt8} {p:MsgP} (h:decM l=some p):chkM p=true∧l=docM p∧MFine l.length p.kind p:=by
 unfold decM at h
 split at h
 ·cases h
 ·rename_i b q
  split at h
  ·rename_i p' hd
   split at h
   ·rename_i hc
    cases h
    have h1:=dMsgX_c rdsc_msg hd (Nat.le_refl _)
    have hk:=h1.2.1.kind
    refine ⟨hc,?_,?_⟩
    ·rw [docM_body p (chkM_kind hc),hk]
     have:=h1.1
     rw [List.append_nil] at this
     rw [←this]
     simp
    ·have h2:=dMsgX_c (M:=(b::q).length) rdsc_msg hd (by simp)
     rw [hk]
     exact h2.2.1
   ·cases h
  ·cases h
theorem decM_no {b:UInt8} {q:List UInt8} (h:kOk b.toNat=false):decM (b::q)=none:=by
 have h0:¬ (1≤(b.toNat:Int)∧(b.toNat:Int)≤9):=of_decide_eq_false h
 unfold decM dMsg dMsgX
 dsimp only
 repeat rw [if_neg (by omega)]
 rfl
/-- What the document reads of bytes that are a message. -/
theorem mdoc_reads {b:UInt8} {q:List UInt8} {p:MsgP} (h:decM (b::q)=some p) (hf:p.Fits):dDoc b.toNat q=some (p,[]):=by
 obtain ⟨hc,he,hfi⟩:=decM_canon h
 have hk:=chkM_kind hc
 rw [docM_body p hk] at he
 obtain ⟨rfl,rfl⟩:=List.cons.inj he
 have h1:=dMsgX_w rds_doc hk (fit_of hc hf) hfi.only []
 rw [List.append_nil] at h1
 rw [mkind_byte hk]
 exact h1
end Go.Proofs.YtheogchkelmeeaaGreatDoor

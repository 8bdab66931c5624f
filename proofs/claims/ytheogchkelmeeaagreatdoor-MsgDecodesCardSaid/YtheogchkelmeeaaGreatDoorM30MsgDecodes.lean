/- Several texts in one: MsgLaw, BatSmall, CutLaw, Canon. -/
import Derived.Test.YtheogchkelmeeaaGreatDoorM29MsgDecodes
import Derived.Test.YtheogchkelmeeaaGreatDoorM15MsgDecodes
import Derived.Test.YtheogchkelmeeaaGreatDoorMayQMsgDecodes
import Derived.Test.YtheogchkelmeeaaGreatDoorBatEncQMsgDecodes
import Derived.Test.YtheogchkelmeeaaGreatDoorM26MsgDecodes
/- Messages: what they are made of, how they are written; the document's check and its bytes are the program's. Plain mathematics. No condition. -/
namespace Go.Proofs.YtheogchkelmeeaaGreatDoor
open Go.RowKit
/-- A range. -/
structure Rg where
 a:Int
 b:Int
 c:Int
 d:Int
def Rg.cells (g:Rg):List Value:=[.int .i64 g.a,.int .i64 g.b,.int .i64 g.c,.int .i64 g.d]
theorem Rg.cells_len (g:Rg):g.cells.length=4:=rfl
/-- A message as plain data. -/
structure MsgP where
 kind:Int
 x1:Int
 x2:Int
 x3:Int
 key:ByteArray
 ps:List PutP
 st:St
 code:Int
 firsts:List Int
 yes:Bool
 r1:Int
 r2:Int
 r3:Int
 r4:Int
 sms:List Sm
 src:Int
 total:Int
 es:List Ev
 rgs:List Rg
def mZero (k:Int):MsgP:=⟨k,0,0,0,ByteArray.empty,[],⟨0,0,0⟩,0,[],false,0,0,0,0,[],0,0,[],[]⟩
def MsgP.only (m:MsgP):MsgP :=
 if m.kind=1 then { mZero 1 with x1:=m.x1,x2:=m.x2,x3:=m.x3,key:=m.key,ps:=m.ps,st:=m.st }
 else if m.kind=2 then { mZero 2 with x1:=m.x1,x2:=m.x2,x3:=m.x3,code:=m.code,st:=m.st,firsts:=m.firsts }
 else if m.kind=3 then { mZero 3 with x1:=m.x1,x2:=m.x2,x3:=m.x3,yes:=m.yes,st:=m.st }
 else if m.kind=4 then { mZero 4 with x1:=m.x1,x2:=m.x2,x3:=m.x3 }
 else if m.kind=5 then { mZero 5 with x1:=m.x1,x2:=m.x2,x3:=m.x3,st:=m.st,firsts:=m.firsts }
 else if m.kind=6 then { mZero 6 with r1:=m.r1,r2:=m.r2,r3:=m.r3,r4:=m.r4,st:=m.st,sms:=m.sms }
 else if m.kind=7 then { mZero 7 with r1:=m.r1,r2:=m.r2,r3:=m.r3,r4:=m.r4 }
 else if m.kind=8 then { mZero 8 with src:=m.src }
 else if m.kind=9 then { mZero 9 with src:=m.src,total:=m.total,es:=m.es,st:=m.st,rgs:=m.rgs }
 else mZero m.kind
def kOk (k:Int):Bool:=decide (1≤k∧k≤9)
theorem mkind_cases (k:Int):k=1∨k=2∨k=3∨k=4∨k=5∨k=6∨k=7∨k=8∨k=9∨kOk k=false:=by
 by_cases h:1≤k∧k≤9
 ·omega
 ·simp [kOk,h]
/-- Events behind a writer's bytes. -/
def addEvs:List Ev→Option (List UInt8)→Option (List UInt8)
 | [],s=>s
 | e::l,s=>addEvs l (addB (evL e) s)
theorem addEvs_none:∀l,addEvs l none=none
 | []=>rfl
 | _::l=>addEvs_none l
theorem addEvs_drop {l:List Ev} {k:Nat} {m:Ev} (h:l[k]?=some m) (s:Option (List UInt8)):addEvs (l.drop k) s=addEvs (l.drop (k+1)) (addB (evL m) s):=by
 obtain ⟨hk,rfl⟩:=List.getElem?_eq_some_iff.1 h
 rw [List.drop_eq_getElem_cons hk]
 rfl
def rgNs (g:Rg):List Int:=[g.a,g.b,g.c,g.d]
/-- Ranges behind a writer's bytes. -/
def addRgs:List Rg→Option (List UInt8)→Option (List UInt8)
 | [],s=>s
 | g::l,s=>addRgs l (addNs 1099511627776 (rgNs g) s)
theorem addRgs_drop {l:List Rg} {k:Nat} {m:Rg} (h:l[k]?=some m) (s:Option (List UInt8)):addRgs (l.drop k) s=addRgs (l.drop (k+1)) (addNs 1099511627776 (rgNs m) s):=by
 obtain ⟨hk,rfl⟩:=List.getElem?_eq_some_iff.1 h
 rw [List.drop_eq_getElem_cons hk]
 rfl
def addIf (b:Bool) (s:Option (List UInt8)):Option (List UInt8):=if b=true then s else none
def addTx (m:MsgP) (s:Option (List UInt8)):Option (List UInt8):=addNs 1099511627776 [m.x1,m.x2,m.x3] s
def addSpan (m:MsgP) (s:Option (List UInt8)):Option (List UInt8):=addNs 1099511627776 [m.r1,m.r2,m.r3,m.r4] s
def addInts (l:List Int) (s:Option (List UInt8)):Option (List UInt8):=addNs 1099511627776 l (addMany 1099511627776 l.length s)
def addFlag (b:Bool) (s:Option (List UInt8)):Option (List UInt8):=s.map fun l=>l++[if b=true then 1 else 0]
/-- A message's fields, behind a writer's bytes. -/
def fieldsM (m:MsgP) (s:Option (List UInt8)):Option (List UInt8) :=
 if m.kind=1 then addB (stE m.st) (addB (batL m.key m.ps) (addTx m s))
 else if m.kind=2 then addInts m.firsts (addB (stE m.st) (addNs 1099511627776 [m.code] (addIf (decide (m.code≤12)) (addTx m s))))
 else if m.kind=3 then addB (stE m.st) (addFlag m.yes (addTx m s))
 else if m.kind=4 then addTx m s
 else if m.kind=5 then addInts m.firsts (addB (stE m.st) (addTx m s))
 else if m.kind=6 then addSms m.sms (addMany 1099511627776 m.sms.length (addB (stE m.st) (addSpan m s)))
 else if m.kind=7 then addSpan m s
 else if m.kind=8 then addNs 1099511627776 [m.src] s
 else addRgs m.rgs (addMany 1099511627776 m.rgs.length (addB (stE m.st) (addEvs m.es (addMany 1099511627776 m.es.length (addNs 1099511627776 [m.src,m.total] s)))))
/-- A message as bytes; none: it is none. -/
def encM (m:MsgP):Option (List UInt8):=if kOk m.kind=true then fieldsM m (some [UInt8.ofNat m.kind.toNat]) else none
def inB (l:List Int):Bool:=okIs 1099511627776 l && decide (l.length≤1000)
def rgsB (l:List Rg):Bool:=(l.all fun g=>inB (rgNs g)) && decide (l.length≤1000)
/-- What the document asks. -/
def chkM (m:MsgP):Bool :=
 kOk m.kind && ((((((((((inB [m.x1,m.x2,m.x3,m.src,m.total] && inB m.firsts) && decide (0≤m.code)) && decide (m.code≤12)) && stOk m.st) && rgsB m.rgs) && rgsB [⟨m.r1,m.r2,m.r3,m.r4⟩]) && decide (m.es.length≤1000)) && decide (m.sms.length≤1000)) && (m.es.all fun e=>decide (evL e≠[]))) && (m.sms.all fun s=>decide (smL s≠[]))) && (!decide (m.kind=1) || decide (chkN m.key m.ps=0))
/-- The document's bytes. -/
def docM (m:MsgP):List UInt8 :=
 let k:=[UInt8.ofNat m.kind.toNat]
 if m.kind=1 then ((k++nLs [m.x1,m.x2,m.x3])++batL m.key m.ps)++stL m.st
 else if m.kind=2 then ((((k++nLs [m.x1,m.x2,m.x3])++nL m.code)++stL m.st)++vL m.firsts.length)++nLs m.firsts
 else if m.kind=3 then ((k++nLs [m.x1,m.x2,m.x3])++[if m.yes=true then 1 else 0])++stL m.st
 else if m.kind=4 then k++nLs [m.x1,m.x2,m.x3]
 else if m.kind=5 then (((k++nLs [m.x1,m.x2,m.x3])++stL m.st)++vL m.firsts.length)++nLs m.firsts
 else if m.kind=6 then (((k++nLs [m.r1,m.r2,m.r3,m.r4])++stL m.st)++vL m.sms.length)++m.sms.flatMap smL
 else if m.kind=7 then k++nLs [m.r1,m.r2,m.r3,m.r4]
 else if m.kind=8 then k++nL m.src
 else (((((k++nLs [m.src,m.total])++vL m.es.length)++m.es.flatMap evL)++stL m.st)++vL m.rgs.length)++m.rgs.flatMap fun g=>nLs (rgNs g)
theorem addEvs_opt:∀(es:List Ev) (b:Bool) (l:List UInt8),addEvs es (opt b l)=opt (b && es.all fun m=>decide (evL m≠[])) (l++es.flatMap evL)
 | [],b,l=>by simp [addEvs]
 | m::es,b,l=>by
  have h:=addEvs_opt es (b && decide (evL m≠[])) (l++evL m)
  rw [addEvs,addB_opt,h]
  simp [Bool.and_assoc]
theorem addRgs_opt:∀(gs:List Rg) (b:Bool) (l:List UInt8),addRgs gs (opt b l)=opt (b && gs.all fun g=>okIs 1099511627776 (rgNs g)) (l++gs.flatMap fun g=>nLs (rgNs g))
 | [],b,l=>by simp [addRgs]
 | m::gs,b,l=>by
  have h:=addRgs_opt gs (b && okIs 1099511627776 (rgNs m)) (l++nLs (rgNs m))
  rw [addRgs,addNs_opt,h]
  simp [Bool.and_assoc]
theorem addIf_opt (c b:Bool) (l:List UInt8):addIf c (opt b l)=opt (b && c) l:=by cases b <;> cases c <;> rfl
theorem addFlag_opt (c b:Bool) (l:List UInt8):addFlag c (opt b l)=opt b (l++[if c=true then 1 else 0]):=by cases b <;> rfl
theorem okF_zero:okI 1099511627776 0=true:=by decide
set_option maxHeartbeats 4000000 in
theorem encM_eq (m:MsgP):encM m.only=opt (chkM m.only) (docM m.only):=by
 obtain ⟨kind,x1,x2,x3,key,ps,st,code,firsts,yes,r1,r2,r3,r4,sms,src,total,es,rgs⟩:=m
 rcases mkind_cases kind with rfl | rfl | rfl | rfl | rfl | rfl | rfl | rfl | rfl | h
 all_goals first
  | (have e : kOk kind = false := h
     have hk:¬ (1≤kind∧kind≤9):=of_decide_eq_false e
     have h1:(MsgP.only ⟨kind,x1,x2,x3,key,ps,st,code,firsts,yes,r1,r2,r3,r4,sms,src,total,es,rgs⟩).kind=kind:=by
      unfold MsgP.only
      repeat rw [if_neg (by dsimp only;omega)]
      rfl
     unfold encM chkM
     rw [h1,e]
     rfl)
  | (simp only [MsgP.only, mZero, encM, fieldsM, kOk, addTx, addSpan, addInts, opt_one, addNs_opt, addB_opt, addFlag_opt, addIf_opt, addMany_opt 1099511627776 (by decide), addSms_opt, addEvs_opt, addRgs_opt, stE_ne, batL_ne, if_true, if_false, Int.reduceEq, Int.reduceLE, and_self, decide_true]
     refine opt_eq ?_ ?_
     ·simp [chkM,kOk,inB,rgsB,okIs_cons,okIs_nil,okF_zero,stOk_zero,rgNs]
      first
       | done
       | ac_rfl
       | (rw [Bool.eq_iff_iff]
          simp only [Bool.and_eq_true,decide_eq_true_eq,show (okI 1099511627776 code=true)=(0≤code∧code≤1099511627776) from by simp [okI]]
          constructor <;> (intro h;simp only [h,and_self,and_true,true_and] <;> omega))
     ·intro hb
      simp at hb
      simp [docM,nLs_one,hb,stE_ok])
end Go.Proofs.YtheogchkelmeeaaGreatDoor
/- What a small bulk says of a batch. Plain mathematics, no program. No condition. -/
namespace Go.Proofs.YtheogchkelmeeaaGreatDoor
open Go.RowKit
end Go.Proofs.YtheogchkelmeeaaGreatDoor
/- A first part of bytes: what readers say of it, how it is cut; what the small bulks say of the written bytes' lengths. No condition. -/
namespace Go.Proofs.YtheogchkelmeeaaGreatDoor
open Go.RowKit
/-! How long what is written may be. -/
end Go.Proofs.YtheogchkelmeeaaGreatDoor
/- What is read is what would be written: each reader takes just the bytes that its writer writes. Plain mathematics. No condition. -/
namespace Go.Proofs.YtheogchkelmeeaaGreatDoor
open Go.RowKit
theorem uF_canon:∀(l:List UInt8) (i acc v n:Nat),uF i acc l=some (v,n)→acc < 2 ^ (7 * i)→∃u,v=acc+u * 2 ^ (7 * i)∧l=vF (10 - i) u++l.drop (n - i)∧(0 < i→0 < u)
 | [],_,_,_,_,h,_=>by simp [uF] at h
 | x::l,i,acc,v,n,h,hacc=>by
  unfold uF at h
  by_cases hi:10≤i
  ·rw [if_pos hi] at h;cases h
  rw [if_neg hi] at h
  have hx:=x.toNat_lt
  obtain ⟨m,hm⟩:∃m,10 - i=m+1:=⟨9 - i,by omega⟩
  by_cases h1:127 < x.toNat
  ·rw [if_pos h1] at h
   have hp:=pow_step i
   have hacc':acc+(x.toNat - 128) * 2 ^ (7 * i) < 2 ^ (7 * (i+1)):=by
    rw [hp]
    have:(x.toNat - 128) * 2 ^ (7 * i)≤127 * 2 ^ (7 * i):=Nat.mul_le_mul_right _ (by omega)
    omega
   obtain ⟨u,e1,e2,e3⟩:=uF_canon l (i+1) _ v n h hacc'
   have hb:=uF_bd l (i+1) _ v n h hacc'
   have hu:=e3 (by omega)
   refine ⟨(x.toNat - 128)+u * 128,?_,?_,fun _=>by omega⟩
   ·rw [e1,hp,Nat.add_mul,Nat.mul_assoc]
    omega
   ·rw [hm]
    unfold vF
    rw [if_neg (by omega)]
    have a1:(x.toNat - 128+u * 128) % 128+128=x.toNat:=by omega
    have a2:(x.toNat - 128+u * 128) / 128=u:=by omega
    rw [a1,a2,UInt8.ofNat_toNat,List.cons_append]
    have a3:n - i=(n - (i+1))+1:=by omega
    rw [a3,List.drop_succ_cons]
    have a4:10 - (i+1)=m:=by omega
    rw [a4] at e2
    rw [←e2]
  ·rw [if_neg h1] at h
   split at h
   ·cases h
   ·rename_i h2
    simp only [Option.some.injEq,Prod.mk.injEq] at h
    obtain ⟨rfl,rfl⟩:=h
    refine ⟨x.toNat,rfl,?_,fun h3=>by omega⟩
    rw [hm]
    unfold vF
    rw [if_pos (by omega),UInt8.ofNat_toNat]
    simp
theorem uL_canon {l:List UInt8} {v n:Nat} (h:uL l=some (v,n)):l=vL v++l.drop n:=by
 obtain ⟨u,e1,e2,_⟩:=uF_canon l 0 0 v n h (by simp)
 simp at e1
 subst e1
 exact e2
/-- A reader that takes just what f writes. -/
def Cn {α:Type} (d:Reader α) (f:α→List UInt8):Prop:=∀l x r,d l=some (x,r)→l=f x++r
theorem cn_num:Cn dNum vL:=fun l x r h=>by
 unfold dNum at h
 split at h
 ·rename_i v n h1
  simp only [Option.some.injEq,Prod.mk.injEq] at h
  obtain ⟨rfl,rfl⟩:=h
  exact uL_canon h1
 ·cases h
theorem cn_count (m:Nat):Cn (dCount m) vL:=fun l x r h=>cn_num l x r (dCount_num h).1
theorem cn_text:Cn dText textL:=fun l x r h=>by
 unfold dText at h
 split at h
 ·rename_i s n h1
  simp only [Option.some.injEq,Prod.mk.injEq] at h
  obtain ⟨rfl,rfl⟩:=h
  unfold tL at h1
  split at h1
  ·rename_i v k h2
   have hb:=uL_bd h2
   split at h1
   ·rename_i h3
    simp only [Option.some.injEq,Prod.mk.injEq] at h1
    obtain ⟨rfl,rfl⟩:=h1
    have hl:((l.drop k).take v).length=v:=by rw [List.length_take,List.length_drop];omega
    unfold textL
    rw [hl,List.append_assoc,←List.drop_drop,List.take_append_drop]
    exact uL_canon h2
   ·cases h1
  ·cases h1
 ·cases h
section
variable {α β γ : Type}
theorem cn_many {d:Reader α} {f:α→List UInt8} (hd:Cn d f):∀n,Cn (dMany d n) (fun xs=>xs.flatMap f)
 | 0=>fun l x r h=>by
  obtain ⟨rfl,rfl⟩:=rp_inv h
  rfl
 | n+1=>fun l xs r h=>by
  obtain ⟨x,r1,h1,h2⟩:=rb_inv h
  obtain ⟨ys,r2,h3,h4⟩:=rb_inv h2
  obtain ⟨rfl,rfl⟩:=rp_inv h4
  rw [hd l x r1 h1,cn_many hd n r1 ys r2 h3]
  simp [List.flatMap_cons,List.append_assoc]
end
theorem strOf_data (s:List UInt8):(strOf s).data.toList=s:=rfl
theorem cn_stamp:Cn dStamp stL:=fun l x q h=>by
 obtain ⟨a,r1,h1,h⟩:=rb_inv h
 obtain ⟨b,r2,h2,h⟩:=rb_inv h
 obtain ⟨c,r3,h3,h⟩:=rb_inv h
 obtain ⟨rfl,rfl⟩:=rp_inv h
 rw [cn_count _ _ _ _ h1,cn_count _ _ _ _ h2,cn_count _ _ _ _ h3]
 simp [stL,List.append_assoc]
theorem cn_event:Cn dEvent evL:=fun l x q h=>by
 have hok:=dEvent_ok h
 obtain ⟨s,r1,h1,h⟩:=rb_inv h
 obtain ⟨v,r2,h2,h⟩:=rb_inv h
 obtain ⟨d,r3,h3,h⟩:=rb_inv h
 obtain ⟨t,r4,h4,h⟩:=rb_inv h
 obtain ⟨i,r5,h5,h⟩:=rb_inv h
 obtain ⟨_,rfl,rfl⟩:=rif_inv h
 rw [evL_some hok,cn_text _ _ _ h1,cn_count _ _ _ _ h2,cn_text _ _ _ h3,cn_stamp _ _ _ h4,cn_count _ _ _ _ h5]
 simp [evBytes,strOf_data,List.append_assoc]
theorem zig_zag (v:Nat):zigN (zagI v)=v:=by
 unfold zagI zigN
 split <;> split <;> omega
theorem cn_put {l r:List UInt8} {p:PutP} (h:dPut l=some (p,r)) (hp:putOk p=true):l=putBytes p++r:=by
 obtain ⟨s,r1,h1,h⟩:=rb_inv h
 obtain ⟨v,r2,h2,h⟩:=rb_inv h
 obtain ⟨m,r3,h3,h⟩:=rb_inv h
 obtain ⟨ds,r4,h4,h⟩:=rb_inv h
 obtain ⟨rfl,rfl⟩:=rp_inv h
 have hz:zigN (zagI v)=v:=zig_zag v
 have hl:=(dMany_len eats_text _ _ _ _ h4).1
 rw [cn_text _ _ _ h1,cn_num _ _ _ h2,cn_count _ _ _ _ h3,cn_many cn_text _ _ _ _ h4]
 unfold putBytes
 simp only [strOf_data,hz,List.length_map,hl,List.append_assoc]
 congr 4
 rw [List.flatMap_map]
 rfl
theorem cn_puts:∀(n:Nat) (l:List UInt8) (ps:List PutP) (r:List UInt8),dMany dPut n l=some (ps,r)→(∀p ∈ ps,putOk p=true)→l=ps.flatMap putBytes++r
 | 0,l,ps,r,h,_=>by
  obtain ⟨rfl,rfl⟩:=rp_inv h
  rfl
 | n+1,l,ps,r,h,hp=>by
  obtain ⟨x,r1,h1,h2⟩:=rb_inv h
  obtain ⟨ys,r2,h3,h4⟩:=rb_inv h2
  obtain ⟨rfl,rfl⟩:=rp_inv h4
  rw [cn_put h1 (hp x (by simp)),cn_puts n r1 ys r2 h3 fun p h5=>hp p (by simp [h5]),List.flatMap_cons,List.append_assoc]
theorem cn_batch {l r:List UInt8} {key:ByteArray} {ps:List PutP} (h:dBatch l=some ((key,ps),r)):l=batL key ps++r:=by
 have hok:=dBatch_ok h
 obtain ⟨s,r1,h1,h⟩:=rb_inv h
 obtain ⟨n,r2,h2,h⟩:=rb_inv h
 obtain ⟨qs,r3,h3,h⟩:=rb_inv h
 obtain ⟨_,e,rfl⟩:=rif_inv h
 simp only [Prod.mk.injEq] at e
 obtain ⟨rfl,rfl⟩:=e
 have hl:=(dMany_len eats_put _ _ _ _ h3).1
 rw [batL_ok hok,cn_text _ _ _ h1,cn_count _ _ _ _ h2,cn_puts _ _ _ _ h3 fun p hp=>argB_put ((chkN_ok _ _).1 hok).1 hp]
 simp [batBytes,strOf_data,hl,List.append_assoc]
theorem cn_known:Cn dKnown knBytes:=fun l x q h=>by
 obtain ⟨s,r1,h1,h⟩:=rb_inv h
 obtain ⟨v,r2,h2,h⟩:=rb_inv h
 obtain ⟨t,r3,h3,h⟩:=rb_inv h
 obtain ⟨rfl,rfl⟩:=rp_inv h
 rw [cn_text _ _ _ h1,cn_count _ _ _ _ h2,cn_stamp _ _ _ h3]
 simp [knBytes,strOf_data,List.append_assoc]
theorem cn_stream:Cn dStream smL:=fun l x q h=>by
 have hok:=dStream_ok h
 obtain ⟨s,r1,h1,h⟩:=rb_inv h
 obtain ⟨n,r2,h2,h⟩:=rb_inv h
 obtain ⟨es,r3,h3,h⟩:=rb_inv h
 obtain ⟨m,r4,h4,h⟩:=rb_inv h
 obtain ⟨ks,r5,h5,h⟩:=rb_inv h
 obtain ⟨_,rfl,rfl⟩:=rif_inv h
 have hl:=(dMany_len eats_event _ _ _ _ h3).1
 have hl2:=(dMany_len eats_known _ _ _ _ h5).1
 rw [smL_ok hok,cn_text _ _ _ h1,cn_num _ _ _ h2,cn_many cn_event _ _ _ _ h3,cn_num _ _ _ h4,cn_many cn_known _ _ _ _ h5]
 simp [smBytes,strOf_data,hl,hl2,List.append_assoc]
end Go.Proofs.YtheogchkelmeeaaGreatDoor

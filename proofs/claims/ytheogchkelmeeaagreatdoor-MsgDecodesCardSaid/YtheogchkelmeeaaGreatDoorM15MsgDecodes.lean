/- Several texts in one: Zig, BatLaw, Map, ChkLaw, Lin, Sum, Total, Batch. -/
import Derived.Test.YtheogchkelmeeaaGreatDoorM0MsgDecodes
import Derived.Laws.Bits64b
import Derived.Laws.Bits64
import Derived.Test.YtheogchkelmeeaaGreatDoorM5MsgDecodes
import Derived.Test.YtheogchkelmeeaaGreatDoorM4MsgDecodes
import Derived.Maps.Own
import Derived.Maps.OwnOps
import Derived.Maps.Views
/- bits.Zig, bits.Zag, penstockref3.Zig, penstockref3.Zag: what they answer. Conditions: a number of 64 bits; of Zig one from -1 to 2^40. -/
namespace Go.Proofs.YtheogchkelmeeaaGreatDoor
open Go.RowKit
/-- A number with its sign as its last digit, and back. -/
def zigN (n:Int):Nat:=if n < 0 then (-(n+1)).toNat * 2+1 else n.toNat * 2
def zagI (v:Nat):Int:=if v % 2=1 then -((v / 2:Nat):Int) - 1 else ((v / 2:Nat):Int)
theorem zag_zig (n:Int):zagI (zigN n)=n:=by
 unfold zagI zigN
 by_cases h:n < 0
 ·rw [if_pos h,if_pos (by omega)];omega
 ·rw [if_neg h,if_neg (by omega)];omega
theorem zig_lt {n:Int} (h:-1≤n) (h2:n≤1099511627776):zigN n < 2 ^ 64:=by
 unfold zigN
 split <;> omega
theorem zag_i64 {v:Nat} (h:v < 2 ^ 64):-9223372036854775808≤zagI v∧zagI v≤9223372036854775807:=by
 unfold zagI
 split <;> omega
theorem xor_m1 (a:Nat) (h:a < 9223372036854775808):bits .xor .i64 (a:Int) (-1)=-(a:Int) - 1:=by
 show IntKind.i64.wrap ((BitVec.ofInt 64 (a:Int) ^^^ BitVec.ofInt 64 (-1)).toNat:Int)=_
 rw [show (BitVec.ofInt 64 (-1))=BitVec.allOnes 64 by decide,BitVec.xor_allOnes,BitVec.toNat_not,BitVec.ofInt_natCast,BitVec.toNat_ofNat,Nat.mod_eq_of_lt (by omega)]
 obtain ⟨c,hc⟩:∃c,2 ^ 64 - 1 - a=c:=⟨_,rfl⟩
 rw [hc]
 unfold IntKind.wrap
 simp [IntKind.bits,IntKind.signed]
 omega
theorem xor_0 (a:Nat) (h:a < 9223372036854775808):bits .xor .i64 (a:Int) 0=(a:Int):=by
 show IntKind.i64.wrap ((BitVec.ofInt 64 (a:Int) ^^^ BitVec.ofInt 64 0).toNat:Int)=_
 rw [show (BitVec.ofInt 64 0)=0#64 by decide,BitVec.xor_zero,BitVec.ofInt_natCast,BitVec.toNat_ofNat,Nat.mod_eq_of_lt (by omega)]
 exact IntWalk.i64_in _ (by omega)
theorem and_1 (v:Nat) (h:v < 2 ^ 64):bits .and .u64 (v:Int) 1=((v % 2:Nat):Int):=by
 have:=bits_and_u64_nat v 1 (by simpa using h) (by omega)
 rw [show ((1:Nat):Int)=1 from rfl] at this
 rw [this,Nat.and_one_is_mod]
theorem zag_any (v:Nat) (w:World) (h:v < 2 ^ 64):Calls Tryz.prog 100 #[.int .u64 v] w fun e w'=>e=.returned (.int .i64 (zagI v))∧w=w':=by
 obtain ⟨Q,hQ⟩:∃Q,v / 2=Q:=⟨_,rfl⟩
 have hq:(v:Int) / 2=(Q:Int):=by omega
 have hl:Q < 9223372036854775808:=by omega
 have hw:IntKind.i64.wrap (Q:Int)=(Q:Int):=IntWalk.i64_in _ (by omega)
 have h1:=xor_m1 Q hl
 have h0:=xor_0 Q hl
 have ha:=and_1 v h
 by_cases hm:v % 2=1
 ·have hz:zagI v=-(Q:Int) - 1:=by unfold zagI;rw [if_pos hm,hQ]
  rw [hm] at ha
  replace hz:=Lib.hid hz
  replace hQ:=Lib.hid hQ
  replace hm:=Lib.hid hm
  clear h0 hl h
  go_enter Tryz.func100,Tryz.ntmps100
  go_wp2_with fail
  go_ret
  exact ⟨by rw [hz.out];rfl,rfl⟩
 ·have hz:zagI v=(Q:Int):=by unfold zagI;rw [if_neg hm,hQ]
  rw [show v % 2=0 by omega] at ha
  replace hz:=Lib.hid hz
  replace hQ:=Lib.hid hQ
  clear h1 hl h hm
  go_enter Tryz.func100,Tryz.ntmps100
  go_wp2_with fail
  go_ret
  exact ⟨by rw [hz.out];rfl,rfl⟩
theorem refZag_any (v:Nat) (w:World) (h:v < 2 ^ 64):Calls Tryz.prog 45 #[.int .u64 v] w fun e w'=>e=.returned (.int .i64 (zagI v))∧w=w':=by
 obtain ⟨Q,hQ⟩:∃Q,v / 2=Q:=⟨_,rfl⟩
 have hq:(v:Int) / 2=(Q:Int):=by omega
 have hl:Q < 9223372036854775808:=by omega
 have hw:IntKind.i64.wrap (Q:Int)=(Q:Int):=IntWalk.i64_in _ (by omega)
 have n0:(0:Int)≤(v:Int):=by omega
 by_cases hm:v % 2=1
 ·have hz:zagI v=-(Q:Int) - 1:=by unfold zagI;rw [if_pos hm,hQ]
  have hmi:(v:Int) % 2=1:=by omega
  replace hz:=Lib.hid hz
  replace hQ:=Lib.hid hQ
  replace hm:=Lib.hid hm
  clear h
  go_enter Tryz.func45,Tryz.ntmps45
  go_wp2_with fail
  go_ret
  exact ⟨by rw [hz.out];rfl,rfl⟩
 ·have hz:zagI v=(Q:Int):=by unfold zagI;rw [if_neg hm,hQ]
  have hmi:(v:Int) % 2=0:=by omega
  replace hz:=Lib.hid hz
  replace hQ:=Lib.hid hQ
  clear h hm
  go_enter Tryz.func45,Tryz.ntmps45
  go_wp2_with fail
  go_ret
  exact ⟨by rw [hz.out];rfl,rfl⟩
theorem zig_any (n:Int) (w:World) (h:-1≤n) (h2:n≤1099511627776):Calls Tryz.prog 92 #[.int .i64 n] w fun e w'=>e=.returned (.int .u64 (zigN n))∧w=w':=by
 by_cases hn:n=-1
 ·subst hn
  go_enter Tryz.func92,Tryz.ntmps92
  go_wp2_with fail
  go_ret
  exact ⟨rfl,rfl⟩
 ·obtain ⟨m,rfl⟩:∃m:Nat,n=m:=⟨n.toNat,by omega⟩
  have hz:((zigN (m:Int):Nat):Int)=(m:Int) * 2:=by unfold zigN;rw [if_neg (by omega)];omega
  have e1:IntKind.u64.wrap (m:Int)=(m:Int):=by rw [IntKind.wrap_u64];omega
  have e3:(m:Int) / 9223372036854775808=0:=by omega
  have e4:=bits_xor_u64_nat (m * 2) 0 (by omega) (by omega)
  rw [Nat.xor_zero,show ((m * 2:Nat):Int)=(m:Int) * 2 by omega,show ((0:Nat):Int)=0 from rfl] at e4
  replace hz:=Lib.hid hz
  clear hn h
  go_enter Tryz.func92,Tryz.ntmps92
  go_wp2_with fail
  go_ret
  exact ⟨by rw [hz.out];rfl,rfl⟩
theorem refZig_any (n:Int) (w:World) (h:-1≤n) (h2:n≤1099511627776):Calls Tryz.prog 88 #[.int .i64 n] w fun e w'=>e=.returned (.int .u64 (zigN n))∧w=w':=by
 by_cases hn:n=-1
 ·subst hn
  go_enter Tryz.func88,Tryz.ntmps88
  go_wp2_with fail
  go_ret
  exact ⟨rfl,rfl⟩
 ·obtain ⟨m,rfl⟩:∃m:Nat,n=m:=⟨n.toNat,by omega⟩
  have hz:((zigN (m:Int):Nat):Int)=(m:Int) * 2:=by unfold zigN;rw [if_neg (by omega)];omega
  have e1:IntKind.u64.wrap (m:Int)=(m:Int):=by rw [IntKind.wrap_u64];omega
  replace hz:=Lib.hid hz
  clear hn h
  go_enter Tryz.func88,Tryz.ntmps88
  go_wp2_with fail
  go_ret
  exact ⟨by rw [hz.out];rfl,rfl⟩
end Go.Proofs.YtheogchkelmeeaaGreatDoor
/- Batches as bytes, and read again. Plain mathematics, no program. No condition. -/
namespace Go.Proofs.YtheogchkelmeeaaGreatDoor
open Go.RowKit
/-- A Put, as plain data. -/
structure PutP where
 stream:ByteArray
 expect:Int
 data:List ByteArray
 deriving DecidableEq
/-- May a Put be, but for its sizes? -/
def putOk (p:PutP):Bool:=nameB p.stream && decide (-1≤p.expect∧p.expect≤1099511627776) && decide (p.data≠[]) && p.data.all validB
/-- Is no stream named twice? -/
def apart:List ByteArray→Bool
 | []=>true
 | s::l=>!(l.any fun t=>decide (t=s)) && apart l
def argB (key:ByteArray) (ps:List PutP):Bool:=keyB key && decide (ps≠[]) && ps.all putOk && apart (ps.map PutP.stream)
def sizes (ds:List ByteArray):Nat:=(ds.map ByteArray.size).sum
def putBig (p:PutP):Bool:=decide (20 < p.data.length) || p.data.any fun d=>decide (1000 < d.size)
def bigB (ps:List PutP):Bool:=decide (8 < ps.length) || ps.any putBig || decide (30000 < (ps.map fun p=>sizes p.data).sum)
/-- What Check answers. -/
def chkN (key:ByteArray) (ps:List PutP):Nat:=if argB key ps=true then if bigB ps=true then 2 else 0 else 1
theorem chkN_ok (key:ByteArray) (ps:List PutP):chkN key ps=0 ↔ argB key ps=true∧bigB ps=false:=by
 unfold chkN
 cases argB key ps <;> cases bigB ps <;> simp
def putBytes (p:PutP):List UInt8:=textL p.stream.data.toList++(vL (zigN p.expect)++(vL p.data.length++p.data.flatMap fun d=>textL d.data.toList))
def batBytes (key:ByteArray) (ps:List PutP):List UInt8:=textL key.data.toList++(vL ps.length++ps.flatMap putBytes)
def batL (key:ByteArray) (ps:List PutP):List UInt8:=if chkN key ps=0 then batBytes key ps else []
def dPut:Reader PutP:=rb dText fun s=>rb dNum fun v=>rb (dCount 20) fun m=>rb (dMany dText m) fun ds=>rp ⟨strOf s,zagI v,ds.map strOf⟩
/-- As the document's answer reads it: what is expected is not too great. -/
def dPutR:Reader PutP:=rb dText fun s=>rb (dCount 1125899906842624) fun v=>rb (dCount 20) fun m=>rb (dMany dText m) fun ds=>rp ⟨strOf s,zagI v,ds.map strOf⟩
def batEnd (key:ByteArray) (ps:List PutP):Reader (ByteArray × List PutP):=rif (decide (chkN key ps=0)) (key,ps)
def dBatch:Reader (ByteArray × List PutP):=rb dText fun s=>rb (dCount 8) fun n=>rb (dMany dPut n) fun ps=>batEnd (strOf s) ps
def dBatchR:Reader (ByteArray × List PutP):=rb dText fun s=>rb (dCount 8) fun n=>rb (dMany dPutR n) fun ps=>batEnd (strOf s) ps
theorem rd_put:Rd dPut:=rd_text.bind fun _=>rd_num.bind fun _=>(rd_count _).bind fun _=>(rd_text.many _).bind fun _=>Rd.pure _
theorem eats_put:Eats dPut:=eats_text.bind fun _=>eats_num.less.bind fun _=>(eats_count _).less.bind fun _=>(Less.many eats_text _).bind fun _=>Less.pure _
theorem rd_batch:Rd dBatch:=rd_text.bind fun _=>(rd_count _).bind fun _=>(rd_put.many _).bind fun _=>Rd.rif _ _
theorem eats_batch:Eats dBatch:=eats_text.bind fun _=>(eats_count _).less.bind fun _=>(Less.many eats_put _).bind fun _=>Less.rif _ _
theorem putOk_iff (p:PutP):putOk p=true ↔ nameB p.stream=true∧(-1≤p.expect∧p.expect≤1099511627776)∧p.data≠[]∧p.data.all validB=true:=by
 unfold putOk
 simp only [Bool.and_eq_true,decide_eq_true_iff,and_assoc]
theorem argB_put {key:ByteArray} {ps:List PutP} (h:argB key ps=true) {p:PutP} (hp:p ∈ ps):putOk p=true:=by
 unfold argB at h
 simp only [Bool.and_eq_true,List.all_eq_true] at h
 exact h.1.2 p hp
theorem bigB_put {ps:List PutP} (h:bigB ps=false) {p:PutP} (hp:p ∈ ps):p.data.length≤20:=by
 unfold bigB at h
 simp only [Bool.or_eq_false_iff] at h
 have h2:=h.1.2
 rw [List.any_eq_false] at h2
 have h3:=h2 p hp
 unfold putBig at h3
 simp only [Bool.or_eq_true,decide_eq_true_iff,not_or] at h3
 omega
theorem dPut_w {p:PutP} (h:putOk p=true) (hb:p.data.length≤20) (hs:p.stream.size < 2 ^ 64) (hd:∀d ∈ p.data,d.size < 2 ^ 64) (q:List UInt8):dPut (putBytes p++q)=some (p,q):=by
 rw [putOk_iff] at h
 unfold dPut putBytes
 simp only [List.append_assoc]
 have e0:(p.data.flatMap fun d=>textL d.data.toList)=(p.data.map fun d=>d.data.toList).flatMap textL:=by rw [List.flatMap_map]
 have e1:=dMany_w (d:=dText) (f:=textL) (p.data.map fun d=>d.data.toList) (fun x hx q=>by
  obtain ⟨d,hm,rfl⟩:=List.mem_map.1 hx
  exact dText_t (by rw [data_len];exact hd d hm) q) q
 rw [List.length_map] at e1
 rw [rb_some (dText_t (by rw [data_len];exact hs) _),rb_some (dNum_v (zig_lt h.2.1.1 h.2.1.2) _),rb_some (dCount_v (by omega) hb _),e0,rb_some e1]
 have e2:(p.data.map fun d=>d.data.toList).map strOf=p.data:=by
  rw [List.map_map]
  conv=>rhs;rw [←List.map_id p.data]
  exact List.map_congr_left fun d _=>strOf_self d
 rw [e2,strOf_self,zag_zig]
 rfl
theorem batL_ok {key:ByteArray} {ps:List PutP} (h:chkN key ps=0):batL key ps=batBytes key ps:=if_pos h
theorem batL_no {key:ByteArray} {ps:List PutP} (h:chkN key ps≠0):batL key ps=[]:=if_neg h
theorem batBytes_pos (key:ByteArray) (ps:List PutP):0 < (batBytes key ps).length:=by
 unfold batBytes textL
 have:=vL_pos key.data.toList.length
 simp only [List.length_append]
 omega
theorem dBatch_w {key:ByteArray} {ps:List PutP} (h:chkN key ps=0) (hk:key.size < 2 ^ 64) (hs:∀p ∈ ps,p.stream.size < 2 ^ 64∧∀d ∈ p.data,d.size < 2 ^ 64) (q:List UInt8):dBatch (batL key ps++q)=some ((key,ps),q):=by
 rw [batL_ok h]
 have h2:=(chkN_ok _ _).1 h
 have h8:ps.length≤8:=by
  have:=h2.2
  unfold bigB at this
  simp only [Bool.or_eq_false_iff,decide_eq_false_iff_not] at this
  omega
 unfold dBatch batBytes
 simp only [List.append_assoc]
 rw [rb_some (dText_t (by rw [data_len];exact hk) _),rb_some (dCount_v (by omega) h8 _),rb_some (dMany_w (d:=dPut) (f:=putBytes) ps (fun p hp q=>dPut_w (argB_put h2.1 hp) (bigB_put h2.2 hp) (hs p hp).1 (hs p hp).2 q) q)]
 rw [strOf_self,batEnd,rif,if_pos (decide_eq_true h)]
theorem dBatch_ok {l r:List UInt8} {key:ByteArray} {ps:List PutP} (h:dBatch l=some ((key,ps),r)):chkN key ps=0:=by
 obtain ⟨_,_,_,h⟩:=rb_inv h
 obtain ⟨_,_,_,h⟩:=rb_inv h
 obtain ⟨_,_,_,h⟩:=rb_inv h
 obtain ⟨h1,h2,_⟩:=rif_inv h
 cases h2
 exact of_decide_eq_true h1
/-! Both readers answer the same. -/
theorem zag_big {v:Nat} (h:1125899906842624 < v):zagI v < -1∨1099511627776 < zagI v:=by
 unfold zagI
 split <;> omega
/-- What the one reads, the other reads too, or it may not be. -/
theorem dPut_both (l:List UInt8):dPutR l=dPut l∨(dPutR l=none∧∀p r,dPut l=some (p,r)→putOk p=false):=by
 unfold dPut dPutR
 cases h1:dText l with
 | none=>exact .inl (by rw [rb_none h1,rb_none h1])
 | some y =>
  obtain ⟨s,l1⟩:=y
  rw [rb_some h1,rb_some h1]
  cases h2:dNum l1 with
  | none=>exact .inl (by rw [rb_none h2,rb_none (dCount_none h2)])
  | some y =>
   obtain ⟨v,l2⟩:=y
   rw [rb_some h2]
   have h3:=dCount_some (m:=1125899906842624) h2
   by_cases hv:v≤1125899906842624
   ·rw [if_pos hv] at h3
    exact .inl (by rw [rb_some h3])
   ·rw [if_neg hv] at h3
    refine .inr ⟨rb_none h3,fun p r h=>?_⟩
    obtain ⟨m,l3,_,h⟩:=rb_inv h
    obtain ⟨ds,l4,_,h⟩:=rb_inv h
    obtain ⟨rfl,rfl⟩:=rp_inv h
    have:=zag_big (v:=v) (by omega)
    cases hk:putOk ⟨strOf s,zagI v,_⟩ with
    | false=>rfl
    | true =>
     rw [putOk_iff] at hk
     simp only at hk
     omega
theorem dPuts_both:∀(n:Nat) (l:List UInt8),dMany dPutR n l=dMany dPut n l∨(dMany dPutR n l=none∧∀ps r,dMany dPut n l=some (ps,r)→∃p ∈ ps,putOk p=false)
 | 0,l=>.inl rfl
 | n+1,l=>by
  unfold dMany
  rcases dPut_both l with h | ⟨h,hn⟩
  ·cases h1:dPut l with
   | none=>exact .inl (by rw [rb_none h1,rb_none (h.trans h1)])
   | some y =>
    obtain ⟨p,l1⟩:=y
    rw [rb_some h1,rb_some (h.trans h1)]
    rcases dPuts_both n l1 with h2 | ⟨h2,hn2⟩
    ·exact .inl (by unfold rb;rw [h2])
    ·refine .inr ⟨rb_none h2,fun ps r h=>?_⟩
     cases h3:dMany dPut n l1 with
     | none=>rw [rb_none h3] at h;cases h
     | some y =>
      obtain ⟨qs,l2⟩:=y
      rw [rb_some h3] at h
      simp only [rp,Option.some.injEq,Prod.mk.injEq] at h
      obtain ⟨rfl,rfl⟩:=h
      obtain ⟨q,hq,hk⟩:=hn2 qs l2 h3
      exact ⟨q,by simp [hq],hk⟩
  ·refine .inr ⟨rb_none h,fun ps r h2=>?_⟩
   cases h1:dPut l with
   | none=>rw [rb_none h1] at h2;cases h2
   | some y =>
    obtain ⟨p,l1⟩:=y
    rw [rb_some h1] at h2
    cases h3:dMany dPut n l1 with
    | none=>rw [rb_none h3] at h2;cases h2
    | some y =>
     obtain ⟨qs,l2⟩:=y
     rw [rb_some h3] at h2
     simp only [rp,Option.some.injEq,Prod.mk.injEq] at h2
     obtain ⟨rfl,rfl⟩:=h2
     exact ⟨p,by simp,hn p l1 h1⟩
theorem batEnd_no {key:ByteArray} {ps:List PutP} {p:PutP} (hp:p ∈ ps) (h:putOk p=false) (l:List UInt8):batEnd key ps l=none:=by
 have:chkN key ps≠0:=fun e=>by
  have:=argB_put ((chkN_ok _ _).1 e).1 hp
  rw [h] at this
  cases this
 unfold batEnd rif
 rw [if_neg (by simpa using this)]
theorem dBatch_both (l:List UInt8):dBatchR l=dBatch l:=by
 unfold dBatch dBatchR
 cases h1:dText l with
 | none=>rw [rb_none h1,rb_none h1]
 | some y =>
  obtain ⟨s,l1⟩:=y
  rw [rb_some h1,rb_some h1]
  cases h2:dCount 8 l1 with
  | none=>rw [rb_none h2,rb_none h2]
  | some y =>
   obtain ⟨n,l2⟩:=y
   rw [rb_some h2,rb_some h2]
   rcases dPuts_both n l2 with h | ⟨h,hn⟩
   ·unfold rb;rw [h]
   ·rw [rb_none h]
    cases h3:dMany dPut n l2 with
    | none=>rw [rb_none h3]
    | some y =>
     obtain ⟨ps,l3⟩:=y
     obtain ⟨p,hp,hk⟩:=hn ps l3 h3
     rw [rb_some h3,batEnd_no hp hk]
/-! Streams. -/
structure Kn where
 key:ByteArray
 first:Int
 st:St
 deriving DecidableEq
def Kn.cells (k:Kn):List Value:=[.string k.key,.int .i64 k.first,.int .i64 k.st.wall,.int .i64 k.st.logic,.int .i64 k.st.node]
theorem Kn.cells_len (k:Kn):k.cells.length=5:=rfl
def knOk (k:Kn):Bool:=!k.key.toList.isEmpty && keyB k.key && decide (1≤k.first∧k.first≤1099511627776) && stOk k.st
def knBytes (k:Kn):List UInt8:=textL k.key.data.toList++(vL k.first.toNat++stL k.st)
structure Sm where
 name:ByteArray
 evs:List Ev
 keys:List Kn
 deriving DecidableEq
def smEv (n:ByteArray) (e:Ev):Bool:=evOk e && decide (e.stream=n)
def smOk (s:Sm):Bool:=nameB s.name && s.evs.all (smEv s.name) && s.keys.all knOk
def smBytes (s:Sm):List UInt8:=textL s.name.data.toList++(vL s.evs.length++(s.evs.flatMap evL++(vL s.keys.length++s.keys.flatMap knBytes)))
def smL (s:Sm):List UInt8:=if smOk s=true then smBytes s else []
def dKnown:Reader Kn:=rb dText fun s=>rb (dCount 1099511627776) fun v=>rb dStamp fun t=>rp ⟨strOf s,v,t⟩
def smEnd (s:Sm):Reader Sm:=rif (smOk s) s
def dStream:Reader Sm:=rb dText fun s=>rb dNum fun n=>rb (dMany dEvent n) fun es=>rb dNum fun m=>rb (dMany dKnown m) fun ks=>smEnd ⟨strOf s,es,ks⟩
def dStreamR:Reader Sm:=rb dText fun s=>rb (dCount 1073741824) fun n=>rb (dMany dEvent n) fun es=>rb (dCount 1073741824) fun m=>rb (dMany dKnown m) fun ks=>smEnd ⟨strOf s,es,ks⟩
theorem rd_known:Rd dKnown:=rd_text.bind fun _=>(rd_count _).bind fun _=>rd_stamp.bind fun _=>Rd.pure _
theorem eats_known:Eats dKnown:=eats_text.bind fun _=>(eats_count _).less.bind fun _=>eats_stamp.less.bind fun _=>Less.pure _
theorem rd_stream:Rd dStream:=rd_text.bind fun _=>rd_num.bind fun _=>(rd_event.many _).bind fun _=>rd_num.bind fun _=>(rd_known.many _).bind fun _=>Rd.rif _ _
theorem eats_stream:Eats dStream:=eats_text.bind fun _=>eats_num.less.bind fun _=>(Less.many eats_event _).bind fun _=>eats_num.less.bind fun _=>(Less.many eats_known _).bind fun _=>Less.rif _ _
theorem knOk_iff (k:Kn):knOk k=true ↔ k.key.toList.isEmpty=false∧keyB k.key=true∧(1≤k.first∧k.first≤1099511627776)∧stOk k.st=true:=by
 unfold knOk
 simp only [Bool.and_eq_true,decide_eq_true_iff,and_assoc,Bool.not_eq_true']
theorem smOk_iff (s:Sm):smOk s=true ↔ nameB s.name=true∧(∀e ∈ s.evs,evOk e=true∧e.stream=s.name)∧∀k ∈ s.keys,knOk k=true:=by
 unfold smOk
 simp only [Bool.and_eq_true,and_assoc,List.all_eq_true,smEv,decide_eq_true_iff]
theorem smL_ok {s:Sm} (h:smOk s=true):smL s=smBytes s:=if_pos h
theorem smL_no {s:Sm} (h:smOk s=false):smL s=[]:=if_neg (by rw [h];simp)
theorem smBytes_pos (s:Sm):0 < (smBytes s).length:=by
 unfold smBytes textL
 have:=vL_pos s.name.data.toList.length
 simp only [List.length_append]
 omega
theorem dKnown_w {k:Kn} (h:knOk k=true) (hs:k.key.size < 2 ^ 64) (q:List UInt8):dKnown (knBytes k++q)=some (k,q):=by
 rw [knOk_iff] at h
 obtain ⟨_,_,h3,h4⟩:=h
 unfold dKnown knBytes
 simp only [List.append_assoc]
 rw [rb_some (dText_t (by rw [data_len];exact hs) _),rb_some (dCount_v (by omega) (by omega) _),rb_some (dStamp_w h4 _),strOf_self]
 obtain ⟨a,b,c⟩:=k
 simp only at h3
 simp only [rp,Option.some.injEq,Prod.mk.injEq,Kn.mk.injEq,true_and,and_true]
 omega
theorem dStream_w {s:Sm} (h:smOk s=true) (hn:s.name.size < 2 ^ 64) (he:s.evs.length < 2 ^ 64) (hk:s.keys.length < 2 ^ 64) (hks:∀k ∈ s.keys,k.key.size < 2 ^ 64) (q:List UInt8):dStream (smL s++q)=some (s,q):=by
 rw [smL_ok h]
 have h2:=(smOk_iff s).1 h
 unfold dStream smBytes
 simp only [List.append_assoc]
 rw [rb_some (dText_t (by rw [data_len];exact hn) _),rb_some (dNum_v he _),rb_some (dMany_w (d:=dEvent) (f:=evL) s.evs (fun e hm q=>dEvent_w (h2.2.1 e hm).1 (by rw [(h2.2.1 e hm).2];exact hn) q) _),rb_some (dNum_v hk _),
  rb_some (dMany_w (d:=dKnown) (f:=knBytes) s.keys (fun k hm q=>dKnown_w (h2.2.2 k hm) (hks k hm) q) _)]
 rw [strOf_self,smEnd,rif,if_pos h]
theorem dStream_ok {l r:List UInt8} {s:Sm} (h:dStream l=some (s,r)):smOk s=true:=by
 obtain ⟨_,_,_,h⟩:=rb_inv h
 obtain ⟨_,_,_,h⟩:=rb_inv h
 obtain ⟨_,_,_,h⟩:=rb_inv h
 obtain ⟨_,_,_,h⟩:=rb_inv h
 obtain ⟨_,_,_,h⟩:=rb_inv h
 obtain ⟨h1,h2,_⟩:=rif_inv h
 rw [←h2]
 exact h1
/-- More than there are bytes are none: so both readers answer the same. -/
theorem many_num {α β:Type} {d:Reader α} (hd:Eats d) (k:List α→Reader β) (l:List UInt8) (h:l.length < 1073741824):(rb (dCount 1073741824) fun n=>rb (dMany d n) k) l=(rb dNum fun n=>rb (dMany d n) k) l:=by
 cases h1:dNum l with
 | none=>rw [rb_none h1,rb_none (dCount_none h1)]
 | some y =>
  obtain ⟨v,r⟩:=y
  rw [rb_some h1]
  have h2:=dCount_some (m:=1073741824) h1
  by_cases hv:v≤1073741824
  ·rw [if_pos hv] at h2
   rw [rb_some h2]
  ·rw [if_neg hv] at h2
   rw [rb_none h2]
   cases h3:dMany d v r with
   | none=>rw [rb_none h3]
   | some y =>
    obtain ⟨xs,r2⟩:=y
    have:=dMany_len hd v r xs r2 h3
    have:=eats_num _ _ _ h1
    omega
theorem dStream_both (l:List UInt8) (h:l.length < 1073741824):dStreamR l=dStream l:=by
 unfold dStream dStreamR
 cases h1:dText l with
 | none=>rw [rb_none h1,rb_none h1]
 | some y =>
  obtain ⟨s,l1⟩:=y
  rw [rb_some h1,rb_some h1]
  have hl1:=eats_text _ _ _ h1
  rw [many_num eats_event _ _ (by omega)]
  cases h2:dNum l1 with
  | none=>rw [rb_none h2,rb_none h2]
  | some y =>
   obtain ⟨n,l2⟩:=y
   have hl2:=eats_num _ _ _ h2
   rw [rb_some h2,rb_some h2]
   cases h3:dMany dEvent n l2 with
   | none=>rw [rb_none h3,rb_none h3]
   | some y =>
    obtain ⟨es,l3⟩:=y
    have hl3:=dMany_len eats_event _ _ _ _ h3
    rw [rb_some h3,rb_some h3]
    exact many_num eats_known _ _ (by omega)
end Go.Proofs.YtheogchkelmeeaaGreatDoor
/- A map from texts to ints that the call itself makes, as a function. No condition. -/
namespace Go.Proofs.YtheogchkelmeeaaGreatDoor
open Go.RowKit Go.Maps Go.WideMaps
/-- A function, but for one place. -/
def upd (g:ByteArray→Int) (s:ByteArray) (v:Int):ByteArray→Int:=fun t=>if t=s then v else g t
theorem upd_same (g:ByteArray→Int) (s:ByteArray) (v:Int):upd g s v s=v:=by simp [upd]
theorem upd_other (g:ByteArray→Int) {s t:ByteArray} (v:Int) (h:t≠s):upd g s v t=g t:=by simp [upd,h]
/-- Block b is a map of at most n entries; of each text s it tells g s. -/
def MapIs (w:World) (b n:Nat) (g:ByteArray→Int):Prop :=
 ∃D:DataW Unit,IsMap D∧w.ownsMap Tryz.prog 9 (plainElem Tryz.prog 3) b n D∧∀s:ByteArray,D.atKey (.string s.data.toList) (.lit (.int .i64 0))=.lit (.int .i64 (g s))
theorem keyLaw:Keyed Tryz.prog 9:=string_keyed Tryz.underlying9
set_option maxRecDepth 100000 in
theorem zeroInt (w:World):(zeroValue 3).run Tryz.prog w=.ok (.int .i64 0) w:=by kernel_rfl
theorem key_inj {s t:ByteArray} (h:s≠t):(Lit.string s.data.toList)≠.string t.data.toList:=fun e=>h (by
 injection e with e
 cases s;cases t
 simp only [ByteArray.mk.injEq]
 exact Array.toList_inj.1 e)
set_option maxRecDepth 100000 in
theorem MapIs.made (w:World):MapIs (w.alloc (.map #[] 0)) w.heap.size 0 (fun _=>0) :=
 ⟨.map [],⟨[],rfl⟩,World.ownsMap_made _ _ _ _,fun _=>rfl⟩
set_option maxRecDepth 100000 in
theorem MapIs.lt {w:World} {b n:Nat} {g:ByteArray→Int} (h:MapIs w b n g):b < w.heap.size:=by
 obtain ⟨D,_,h1,_⟩:=h
 exact h1.lt
set_option maxRecDepth 100000 in
theorem MapIs.g {w w':World} {b n:Nat} {g:ByteArray→Int} (h:MapIs w b n g) (hg:G w w'):MapIs w' b n g:=by
 obtain ⟨D,hD,h1,h2⟩:=h
 exact ⟨D,hD,h1.kept (row:=none) ⟨hg.os,hg.tape,hg.output,hg.size,fun k hk _=>hg.block k hk⟩ (by simp),h2⟩
set_option maxRecDepth 100000 in
theorem MapIs.look {w : World} {b n : Nat} {g : ByteArray → Int} (h : MapIs w b n g) (s : ByteArray) (hs : s.size ≤ 9223372036854775807) :
  (Instr.lookup 179 (.map (some b)) (.string s) false).run Tryz.prog w=.ok (.int .i64 (g s)) w:=by
 obtain ⟨D,_,h1,h2⟩:=h
 obtain ⟨c,hrun,hat,_⟩:=h1.lookup_int keyLaw Tryz.underlying179 Tryz.underlying3 (zeroInt _) (keyOf_string_mk Tryz.underlying9 (by simpa [maxLen] using hs))
 rw [h2 s] at hat
 injection hat with hat
 injection hat with _ hat
 rw [hrun,hat]
set_option maxRecDepth 100000 in
theorem MapIs.put {w : World} {b n : Nat} {g : ByteArray → Int} (h : MapIs w b n g) (hn : n < 9223372036854775807) (s : ByteArray) (hs : s.size ≤ 9223372036854775807) (v : Int) (hv : (Lit.int .i64 v).wf = true) :
  ∃w',(Instr.mapUpdate 179 (.map (some b)) (.string s) (.int .i64 v)).run Tryz.prog w=.ok () w'∧MapIs w' b (n+1) (upd g s v)∧w.grownBy w' (some b):=by
 obtain ⟨D,hD,h1,h2⟩:=h
 obtain ⟨w',hrun,r1,r2⟩:=h1.update keyLaw Tryz.underlying179 (by simpa [maxLen] using hn) (keyOf_string_mk Tryz.underlying9 (by simpa [maxLen] using hs)) (plainElem_int Tryz.underlying3 hv)
 refine ⟨w',hrun,⟨_,?_,r1,fun t=>?_⟩,r2⟩
 ·obtain ⟨es,rfl⟩:=hD
  exact ⟨_,rfl⟩
 ·by_cases ht:t=s
  ·subst ht
   rw [upd_same,atKey_put_same hD (by simp [WideAt.IsKeyLit])]
  ·rw [upd_other _ _ ht,atKey_put_other (key_inj ht),h2]
section
variable {ops : Array Oper} {rest : List Oper} {o : Oper} {a : Act} {Q : Exit → Act → World → Prop}
set_option maxRecDepth 100000 in
theorem wpList_map_look (w : World) (hg : o.guard = none) (m x : Operand) (hop : o.op = Op.lookup 179 m x false) (b n : Nat) (g : ByteArray → Int) (hm : a.eval m = .map (some b)) (hown : MapIs w b n g)
  (s:ByteArray) (hx:a.eval x=.string s) (hs:s.size≤9223372036854775807) (hK:wpList Tryz.prog ops Q rest (a.put o.dst (.int .i64 (g s))) w):wpList Tryz.prog ops Q (o::rest) a w:=by
 refine wpList_plain hg fun K' hK'=>?_
 have hrun:=hown.look s hs
 unfold Oper.wp
 simp [execOp,hop,hm,hx,hrun,Result.andThen]
 exact hK' _ _ hK
set_option maxRecDepth 100000 in
theorem wpList_map_put (w : World) (hg : o.guard = none) (m x v : Operand) (hop : o.op = Op.mapUpdate 179 m x v) (b n : Nat) (g : ByteArray → Int) (hm : a.eval m = .map (some b)) (hown : MapIs w b n g) (hn : n < 9223372036854775807)
  (s:ByteArray) (hx:a.eval x=.string s) (hs:s.size≤9223372036854775807) (c:Int) (hv:a.eval v=.int .i64 c) (hc:(Lit.int .i64 c).wf=true)
  (hK:∀w',MapIs w' b (n+1) (upd g s c)→w.grownBy w' (some b)→wpList Tryz.prog ops Q rest (a.put o.dst undef) w'):wpList Tryz.prog ops Q (o::rest) a w:=by
 refine wpList_plain hg fun K' hK'=>?_
 obtain ⟨w',hrun,r1,r2⟩:=hown.put hn s hs c hc
 unfold Oper.wp
 simp [execOp,hop,hm,hx,hv,hrun,Result.andThen]
 exact hK' _ _ (hK w' r1 r2)
end
theorem G.mapped {W w w':World} {b:Nat} (h:G W w) (hg:w.grownBy w' (some b)) (hb:W.heap.size≤b):G W w':=h.grown hg (fun k hk=>by cases hk;exact hb)
theorem wf_i64 {n:Int} (h0:-9223372036854775808≤n) (h1:n≤9223372036854775807):(Lit.int .i64 n).wf=true:=WalkArith.wf_i64 ⟨h0,h1⟩
end Go.Proofs.YtheogchkelmeeaaGreatDoor
/- What Check answers, put by put. Plain mathematics, no program. No condition. -/
namespace Go.Proofs.YtheogchkelmeeaaGreatDoor
open Go.RowKit
def PutM.p (p:PutM):PutP:=⟨p.stream,p.expect,p.data⟩
/-- So often a text stands in a list. -/
def cntOf (l:List ByteArray) (s:ByteArray):Int:=(l.filter fun t=>decide (t=s)).length
theorem cntOf_snoc (l:List ByteArray) (s:ByteArray):cntOf (l++[s])=upd (cntOf l) s (cntOf l s+1):=by
 funext t
 unfold cntOf upd
 rw [List.filter_append,List.length_append]
 by_cases h:t=s
 ·subst h
  rw [if_pos rfl]
  simp
 ·rw [if_neg h]
  have:¬ s=t:=fun e=>h e.symm
  simp [this]
theorem cntOf_pos (l:List ByteArray) (s:ByteArray):0 < cntOf l s ↔ (l.any fun t=>decide (t=s))=true:=by
 unfold cntOf
 rw [List.any_eq_true]
 constructor
 ·intro h
  have:0 < (l.filter fun t=>decide (t=s)).length:=by omega
  obtain ⟨t,ht⟩:=List.exists_mem_of_length_pos this
  rw [List.mem_filter] at ht
  exact ⟨t,ht.1,ht.2⟩
 ·rintro ⟨t,h1,h2⟩
  have:t ∈ l.filter fun t=>decide (t=s):=List.mem_filter.2 ⟨h1,h2⟩
  have:=List.length_pos_of_mem this
  omega
theorem cntOf_le (l:List ByteArray) (s:ByteArray):0≤cntOf l s∧cntOf l s≤l.length:=by
 unfold cntOf
 have:=List.length_filter_le (fun t=>decide (t=s)) l
 omega
theorem apart_snoc (l:List ByteArray) (s:ByteArray):apart (l++[s])=(apart l && !(l.any fun t=>decide (t=s))):=by
 induction l with
 | nil=>simp [apart]
 | cons a l ih =>
  rw [List.cons_append]
  unfold apart
  rw [ih,List.any_append,List.any_cons]
  have:(decide (s=a))=(decide (a=s)):=decide_eq_decide.2 ⟨fun h=>h.symm,fun h=>h.symm⟩
  simp only [List.any_cons,List.any_nil,Bool.or_false,this]
  cases (l.any fun t=>decide (t=a)) <;> cases decide (a=s) <;> cases apart l <;> cases (l.any fun t=>decide (t=s)) <;> rfl
theorem apart_left (a b:List ByteArray) (h:apart (a++b)=true):apart a=true:=by
 induction a with
 | nil=>rfl
 | cons x a ih =>
  rw [List.cons_append] at h
  unfold apart at h ⊢
  rw [List.any_append,Bool.not_or,Bool.and_eq_true,Bool.and_eq_true] at h
  rw [h.1.1,ih h.2]
  rfl
theorem argNo_put {key:ByteArray} {ps:List PutP} {k:Nat} {p:PutP} (h:ps[k]?=some p) (hp:putOk p=false):argB key ps=false:=by
 cases ha:argB key ps with
 | false=>rfl
 | true =>
  have:=argB_put ha (List.mem_of_getElem? h)
  rw [hp] at this
  cases this
theorem argNo_twice {key:ByteArray} {ps:List PutP} {k:Nat} {p:PutP} (h:ps[k]?=some p) (hp:(((ps.take k).map PutP.stream).any fun t=>decide (t=p.stream))=true):argB key ps=false:=by
 cases ha:argB key ps with
 | false=>rfl
 | true =>
  have h1:apart (ps.map PutP.stream)=true:=by
   unfold argB at ha
   simp only [Bool.and_eq_true] at ha
   exact ha.2
  rw [←List.take_append_drop (k+1) (ps.map PutP.stream)] at h1
  have h2:=apart_left _ _ h1
  obtain ⟨hk,rfl⟩:=List.getElem?_eq_some_iff.1 h
  rw [←List.map_take,List.take_succ_eq_append_getElem hk,List.map_append,List.map_cons,List.map_nil,apart_snoc,hp] at h2
  simp at h2
theorem argB_end {key:ByteArray} {ps:List PutP} (h1:∀p ∈ ps,putOk p=true) (h2:apart (ps.map PutP.stream)=true):argB key ps=(keyB key && decide (ps≠[])):=by
 unfold argB
 rw [h2,List.all_eq_true.2 h1,Bool.and_true,Bool.and_true]
theorem take_snocP {α:Type} {l:List α} {k:Nat} {x:α} (h:l[k]?=some x):l.take (k+1)=l.take k++[x]:=by
 obtain ⟨hk,rfl⟩:=List.getElem?_eq_some_iff.1 h
 exact List.take_succ_eq_append_getElem hk
end Go.Proofs.YtheogchkelmeeaaGreatDoor
/- A region that draws its order, its operations taken one by one: the moves. No condition. -/
namespace Go.Proofs.YtheogchkelmeeaaGreatDoor
open Go.RowKit
/-- The first operation that is not yet listed, and its slot. -/
def nxd:List Oper→List Bool→Nat→Option (Nat × Option Tmp)
 | o::os,b::bs,k=>match b with
  | true=>nxd os bs (k+1)
  | false=>match o.dst with
   | some t=>some (k,some t)
   | none=>some (k,none)
 | _,_,_=>none
theorem nxd_dst:∀(os:List Oper) (bs:List Bool) (k i:Nat) (d:Option Tmp),nxd os bs k=some (i,d)→∃j,i=k+j∧os[j]?.map Oper.dst=some d
 | [],_,_,_,_,h=>by simp [nxd] at h
 | _::_,[],_,_,_,h=>by simp [nxd] at h
 | o::os,true::bs,k,i,d,h=>by
  obtain ⟨j,h1,h2⟩:=nxd_dst os bs (k+1) i d h
  exact ⟨j+1,by omega,by simpa using h2⟩
 | o::os,false::bs,k,i,d,h=>by
  refine ⟨0,?_⟩
  cases ho:o.dst with
  | none =>
   simp only [nxd,ho,Option.some.injEq,Prod.mk.injEq] at h
   exact ⟨by omega,by simp [ho,h.2]⟩
  | some t =>
   simp only [nxd,ho,Option.some.injEq,Prod.mk.injEq] at h
   exact ⟨by omega,by simp [ho,h.2]⟩
def linB (md:Region.Mode) (ops:Array Oper) (listed:Array Bool) (i:Nat):Bool:=Region.noSelect ops && (Region.free md ops listed i && (Region.ready md ops listed).contains i)
section
variable {P : Program} {ops : Array Oper} {Q : Exit → Act → World → Prop} {md : Region.Mode} {S : World → Prop}
/-- Operation i is taken: it runs, and yields v in each world that meets S. -/
theorem lin_take (i : Nat) (d : Option Tmp) {v : Value} {fuel : Nat} {listed : Array Bool} {a : Act} {w : World} (hi : (ops[i]?.map Oper.dst) = some d)
  (hs:Region.noSelect ops=true) (hf:Region.free md ops listed i=true) (hr:(Region.ready md ops listed).contains i=true)
  (hQ:∀c a w,Q (.panic c) (a.put d v) w→Q (.panic c) a w) (hw:(ops[i]?.map fun o=>Region.wanted o (yielded ops a.tmps))=some true)
  (hv:∀w,S w→(ops[i]?.map fun o=>(execOp a.eval o).run P w)=some (.ok (.value v) w)) (hS:S w)
  (h:wpAnyH P md ops Q S fuel (listed.setIfInBounds i true) (a.put d v) w):wpAnyH P md ops Q S (fuel+1) listed a w:=by
 cases ho:ops[i]? with
 | none=>rw [ho] at hi;cases hi
 | some o =>
  rw [ho] at hi hw
  cases hi
  refine wpAnyH_take ho hs hf hr hQ (.inl ⟨Option.some.inj hw,fun w hS=>?_⟩) hS h
  have:=hv w hS
  rw [ho] at this
  exact Option.some.inj this
/-- Operation i is passed over: its guard says no. -/
theorem lin_pass (i : Nat) (d : Option Tmp) {fuel : Nat} {listed : Array Bool} {a : Act} {w : World} (hi : (ops[i]?.map Oper.dst) = some d)
  (hs:Region.noSelect ops=true) (hf:Region.free md ops listed i=true) (hr:(Region.ready md ops listed).contains i=true)
  (hQ:∀c a w,Q (.panic c) (a.put d undef) w→Q (.panic c) a w) (hw:(ops[i]?.map fun o=>Region.wanted o (yielded ops a.tmps))=some false) (hS:S w)
  (h:wpAnyH P md ops Q S fuel (listed.setIfInBounds i true) (a.put d undef) w):wpAnyH P md ops Q S (fuel+1) listed a w:=by
 cases ho:ops[i]? with
 | none=>rw [ho] at hi;cases hi
 | some o =>
  rw [ho] at hi hw
  cases hi
  exact wpAnyH_take ho hs hf hr hQ (.inr ⟨Option.some.inj hw,rfl⟩) hS h
theorem lin_n {i : Nat} {d : Option Tmp} {v : Value} {fuel : Nat} {listed : Array Bool} {a : Act} {w : World} (hn : nxd ops.toList listed.toList 0 = some (i, d)) (hb : linB md ops listed i = true)
  (hQ:∀c a w,Q (.panic c) (a.put d v) w→Q (.panic c) a w) (hw:(ops[i]?.map fun o=>Region.wanted o (yielded ops a.tmps))=some true)
  (hv:∀w,S w→(ops[i]?.map fun o=>(execOp a.eval o).run P w)=some (.ok (.value v) w)) (hS:S w)
  (h:wpAnyH P md ops Q S fuel (listed.setIfInBounds i true) (a.put d v) w):wpAnyH P md ops Q S (fuel+1) listed a w:=by
 obtain ⟨j,rfl,hi⟩:=nxd_dst _ _ _ _ _ hn
 unfold linB at hb
 simp only [Bool.and_eq_true] at hb
 rw [Nat.zero_add] at hb hw hv h
 exact lin_take j d (by simpa using hi) hb.1 hb.2.1 hb.2.2 hQ hw hv hS h
theorem lin_p {i : Nat} {d : Option Tmp} {fuel : Nat} {listed : Array Bool} {a : Act} {w : World} (hn : nxd ops.toList listed.toList 0 = some (i, d)) (hb : linB md ops listed i = true)
  (hQ:∀c a w,Q (.panic c) (a.put d undef) w→Q (.panic c) a w) (hw:(ops[i]?.map fun o=>Region.wanted o (yielded ops a.tmps))=some false) (hS:S w)
  (h:wpAnyH P md ops Q S fuel (listed.setIfInBounds i true) (a.put d undef) w):wpAnyH P md ops Q S (fuel+1) listed a w:=by
 obtain ⟨j,rfl,hi⟩:=nxd_dst _ _ _ _ _ hn
 unfold linB at hb
 simp only [Bool.and_eq_true] at hb
 rw [Nat.zero_add] at hb hw h
 exact lin_pass j d (by simpa using hi) hb.1 hb.2.1 hb.2.2 hQ hw hS h
end
end Go.Proofs.YtheogchkelmeeaaGreatDoor
/- penstockalike.Sum: what it answers. Condition: the numbers are not below 0. -/
namespace Go.Proofs.YtheogchkelmeeaaGreatDoor
open Go.RowKit
end Go.Proofs.YtheogchkelmeeaaGreatDoor
/- penstockalike.Total: what it answers. Condition: the lengths fit an int. -/
namespace Go.Proofs.YtheogchkelmeeaaGreatDoor
open Go.RowKit
end Go.Proofs.YtheogchkelmeeaaGreatDoor
/- penstockalike.Batch: what it answers. Condition: the lengths fit an int. -/
namespace Go.Proofs.YtheogchkelmeeaaGreatDoor
open Go.RowKit
end Go.Proofs.YtheogchkelmeeaaGreatDoor

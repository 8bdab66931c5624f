/- Several texts in one: EvLaw, RdS. -/
import Derived.Test.YtheogchkelmeeaaGreatDoorM0MsgDecodes
import Derived.Test.YtheogchkelmeeaaGreatDoorM4MsgDecodes
/- Stamps, events, batches, streams as bytes, and read again. Plain mathematics, no program. No condition. -/
namespace Go.Proofs.YtheogchkelmeeaaGreatDoor
open Go.RowKit
/-! Readers, one behind the other. -/
abbrev Reader (α:Type):=List UInt8→Option (α × List UInt8)
def rb {α β:Type} (d:Reader α) (k:α→Reader β):Reader β:=fun l =>
 match d l with
 | some (x,r)=>k x r
 | none=>none
def rp {α:Type} (x:α):Reader α:=fun l=>some (x,l)
def rf {α:Type}:Reader α:=fun _=>none
def rif {α:Type} (b:Bool) (x:α):Reader α:=fun l=>if b=true then some (x,l) else none
def dMany {α:Type} (d:Reader α):Nat→Reader (List α)
 | 0=>rp []
 | n+1=>rb d fun x=>rb (dMany d n) fun xs=>rp (x::xs)
theorem rb_some {α β:Type} {d:Reader α} {k:α→Reader β} {l r:List UInt8} {x:α} (h:d l=some (x,r)):rb d k l=k x r:=by unfold rb;rw [h]
theorem rb_none {α β:Type} {d:Reader α} {k:α→Reader β} {l:List UInt8} (h:d l=none):rb d k l=none:=by unfold rb;rw [h]
theorem rb_inv {α β:Type} {d:Reader α} {k:α→Reader β} {l:List UInt8} {y:β × List UInt8} (h:rb d k l=some y):∃x r,d l=some (x,r)∧k x r=some y:=by
 cases hd:d l with
 | none=>rw [rb_none hd] at h;cases h
 | some z=>exact ⟨z.1,z.2,rfl,by rw [rb_some (x:=z.1) (r:=z.2) hd] at h;exact h⟩
theorem rif_inv {α:Type} {b:Bool} {x y:α} {l r:List UInt8} (h:rif b x l=some (y,r)):b=true∧x=y∧l=r:=by
 unfold rif at h
 split at h
 ·rename_i hb
  simp only [Option.some.injEq,Prod.mk.injEq] at h
  exact ⟨hb,h.1,h.2⟩
 ·cases h
theorem rp_inv {α:Type} {x y:α} {l r:List UInt8} (h:rp x l=some (y,r)):x=y∧l=r:=by
 simp only [rp,Option.some.injEq,Prod.mk.injEq] at h
 exact h
theorem data_len (s:ByteArray):s.data.toList.length=s.size:=by simp
theorem Rd.bind {α β:Type} {d:Reader α} {k:α→Reader β} (hd:Rd d) (hk:∀x,Rd (k x)):Rd (rb d k):=⟨fun l r q y h=>by
 cases hc:d l with
 | none=>rw [rb_none hc] at h;cases h
 | some z =>
  obtain ⟨x,m⟩:=z
  rw [rb_some hc] at h
  rw [rb_some (hd.app _ _ q _ hc)]
  exact (hk x).app _ _ q _ h⟩
theorem Rd.pure {α:Type} (x:α):Rd (rp x):=⟨fun l r q y h=>by
 simp only [rp,Option.some.injEq,Prod.mk.injEq] at h ⊢
 obtain ⟨rfl,rfl⟩:=h
 exact ⟨rfl,rfl⟩⟩
theorem Rd.rif {α:Type} (b:Bool) (x:α):Rd (rif b x):=⟨fun l r q y h=>by
 unfold Go.Proofs.YtheogchkelmeeaaGreatDoor.rif at h ⊢
 split at h
 ·rename_i hb
  rw [if_pos hb]
  simp only [Option.some.injEq,Prod.mk.injEq] at h ⊢
  obtain ⟨rfl,rfl⟩:=h
  exact ⟨rfl,rfl⟩
 ·cases h⟩
theorem Rd.many {α:Type} {d:Reader α} (hd:Rd d):∀n,Rd (dMany d n)
 | 0=>Rd.pure _
 | n+1=>hd.bind fun _=>(Rd.many hd n).bind fun _=>Rd.pure _
/-- A reader that takes at least one byte. -/
def Eats {α:Type} (d:Reader α):Prop:=∀l x r,d l=some (x,r)→r.length < l.length
/-- A reader that gives no byte back. -/
def Less {α:Type} (d:Reader α):Prop:=∀l x r,d l=some (x,r)→r.length≤l.length
theorem Eats.less {α:Type} {d:Reader α} (h:Eats d):Less d:=fun l x r e=>Nat.le_of_lt (h l x r e)
theorem Less.bind {α β:Type} {d:Reader α} {k:α→Reader β} (hd:Less d) (hk:∀x,Less (k x)):Less (rb d k):=fun l y r h=>by
 cases hc:d l with
 | none=>rw [rb_none hc] at h;cases h
 | some z =>
  obtain ⟨x,m⟩:=z
  rw [rb_some hc] at h
  exact Nat.le_trans (hk x _ _ _ h) (hd _ _ _ hc)
theorem Eats.bind {α β:Type} {d:Reader α} {k:α→Reader β} (hd:Eats d) (hk:∀x,Less (k x)):Eats (rb d k):=fun l y r h=>by
 cases hc:d l with
 | none=>rw [rb_none hc] at h;cases h
 | some z =>
  obtain ⟨x,m⟩:=z
  rw [rb_some hc] at h
  exact Nat.lt_of_le_of_lt (hk x _ _ _ h) (hd _ _ _ hc)
theorem Less.pure {α:Type} (x:α):Less (rp x):=fun l y r h=>by
 simp only [rp,Option.some.injEq,Prod.mk.injEq] at h
 obtain ⟨rfl,rfl⟩:=h
 exact Nat.le_refl _
theorem Less.rif {α:Type} (b:Bool) (x:α):Less (rif b x):=fun l y r h=>by
 unfold Go.Proofs.YtheogchkelmeeaaGreatDoor.rif at h
 split at h
 ·simp only [Option.some.injEq,Prod.mk.injEq] at h
  obtain ⟨rfl,rfl⟩:=h
  exact Nat.le_refl _
 ·cases h
theorem eats_num:Eats dNum:=fun l x r h=>by
 unfold dNum at h
 cases hu:uL l with
 | none=>rw [hu] at h;cases h
 | some y =>
  obtain ⟨v,n⟩:=y
  rw [hu] at h
  simp only [Option.some.injEq,Prod.mk.injEq] at h
  obtain ⟨rfl,rfl⟩:=h
  have:=uL_bd hu
  rw [List.length_drop]
  omega
theorem dCount_num {m:Nat} {l r:List UInt8} {v:Nat} (h:dCount m l=some (v,r)):dNum l=some (v,r)∧v≤m:=by
 unfold dCount at h
 cases hd:dNum l with
 | none=>rw [hd] at h;cases h
 | some y =>
  obtain ⟨v',r'⟩:=y
  rw [hd] at h
  simp only at h
  split at h
  ·rename_i hv
   simp only [Option.some.injEq,Prod.mk.injEq] at h
   obtain ⟨rfl,rfl⟩:=h
   exact ⟨rfl,hv⟩
  ·cases h
theorem dCount_some {m:Nat} {l r:List UInt8} {v:Nat} (h:dNum l=some (v,r)):dCount m l=if v≤m then some (v,r) else none:=by unfold dCount;rw [h]
theorem dCount_none {m:Nat} {l:List UInt8} (h:dNum l=none):dCount m l=none:=by unfold dCount;rw [h]
theorem eats_count (m:Nat):Eats (dCount m):=fun _ _ _ h=>eats_num _ _ _ (dCount_num h).1
theorem eats_text:Eats dText:=fun l x r h=>by
 unfold dText at h
 cases hu:tL l with
 | none=>rw [hu] at h;cases h
 | some y =>
  obtain ⟨s,n⟩:=y
  rw [hu] at h
  simp only [Option.some.injEq,Prod.mk.injEq] at h
  obtain ⟨rfl,rfl⟩:=h
  have:=tL_bd hu
  rw [List.length_drop]
  omega
theorem dText_len {l s r:List UInt8} (h:dText l=some (s,r)):s.length < l.length:=by
 unfold dText at h
 cases hu:tL l with
 | none=>rw [hu] at h;cases h
 | some y =>
  obtain ⟨s,n⟩:=y
  rw [hu] at h
  simp only [Option.some.injEq,Prod.mk.injEq] at h
  obtain ⟨rfl,rfl⟩:=h
  have:=tL_bd hu
  omega
/-- More than there are bytes are none. -/
theorem dMany_len {α:Type} {d:Reader α} (hd:Eats d):∀(n:Nat) (l:List UInt8) (xs:List α) (r:List UInt8),dMany d n l=some (xs,r)→xs.length=n∧n+r.length≤l.length
 | 0,l,xs,r,h=>by
  simp only [dMany,rp,Option.some.injEq,Prod.mk.injEq] at h
  obtain ⟨rfl,rfl⟩:=h
  simp
 | n+1,l,xs,r,h=>by
  unfold dMany at h
  cases hc:d l with
  | none=>rw [rb_none hc] at h;cases h
  | some z =>
   obtain ⟨x,m⟩:=z
   rw [rb_some hc] at h
   cases hm:dMany d n m with
   | none=>rw [rb_none hm] at h;cases h
   | some y =>
    obtain ⟨ys,r'⟩:=y
    rw [rb_some hm] at h
    simp only [rp,Option.some.injEq,Prod.mk.injEq] at h
    obtain ⟨rfl,rfl⟩:=h
    have h1:=dMany_len hd n m ys r' hm
    have h2:=hd _ _ _ hc
    simp only [List.length_cons]
    omega
theorem Less.many {α:Type} {d:Reader α} (hd:Eats d) (n:Nat):Less (dMany d n):=fun l xs r h=>by
 have:=dMany_len hd n l xs r h
 omega
/-- What was written one behind the other is read so. -/
theorem dMany_w {α:Type} {d:Reader α} {f:α→List UInt8} (xs:List α) (h:∀x ∈ xs,∀q,d (f x++q)=some (x,q)) (q:List UInt8):dMany d xs.length (xs.flatMap f++q)=some (xs,q):=by
 induction xs with
 | nil=>rfl
 | cons x xs ih =>
  rw [List.flatMap_cons,List.append_assoc,List.length_cons]
  unfold dMany
  rw [rb_some (h x (by simp) _),rb_some (ih fun y hy=>h y (by simp [hy]))]
  rfl
/-! Stamps. -/
def stOk (s:St):Bool:=soundB s.wall s.logic s.node
def stL (s:St):List UInt8:=vL s.wall.toNat++(vL s.logic.toNat++vL s.node.toNat)
def dStamp:Reader St:=rb (dCount 1125899906842624) fun a=>rb (dCount 65535) fun b=>rb (dCount 5) fun c=>rp ⟨a,b,c⟩
theorem stOk_iff (s:St):stOk s=true ↔ 0≤s.wall∧s.wall≤1125899906842624∧0≤s.logic∧s.logic < 65536∧0≤s.node∧s.node≤5:=by
 unfold stOk soundB
 rw [decide_eq_true_iff]
theorem rd_stamp:Rd dStamp:=(rd_count _).bind fun _=>(rd_count _).bind fun _=>(rd_count _).bind fun _=>Rd.pure _
theorem eats_stamp:Eats dStamp:=(eats_count _).bind fun _=>(eats_count _).less.bind fun _=>(eats_count _).less.bind fun _=>Less.pure _
theorem dStamp_w {s:St} (h:stOk s=true) (q:List UInt8):dStamp (stL s++q)=some (s,q):=by
 rw [stOk_iff] at h
 unfold dStamp stL
 rw [List.append_assoc,List.append_assoc,rb_some (dCount_v (by omega) (by omega) _),rb_some (dCount_v (by omega) (by omega) _),rb_some (dCount_v (by omega) (by omega) _)]
 obtain ⟨a,b,c⟩:=s
 simp only at h
 simp only [rp,Option.some.injEq,Prod.mk.injEq,and_true,St.mk.injEq]
 omega
theorem dStamp_ok {l r:List UInt8} {s:St} (h:dStamp l=some (s,r)):stOk s=true:=by
 obtain ⟨a,l1,ha,h⟩:=rb_inv h
 obtain ⟨b,l2,hb,h⟩:=rb_inv h
 obtain ⟨c,l3,hc,h⟩:=rb_inv h
 obtain ⟨rfl,rfl⟩:=rp_inv h
 have:=(dCount_num ha).2
 have:=(dCount_num hb).2
 have:=(dCount_num hc).2
 rw [stOk_iff]
 simp only
 omega
/-! Events. -/
def evOk (e:Ev):Bool:=nameB e.stream && decide (1≤e.version∧e.version≤1099511627776) && decide (e.data.size≤1000) && validB e.data && stOk e.st && decide (0≤e.index∧e.index≤160)
def evBytes (e:Ev):List UInt8:=textL e.stream.data.toList++(vL e.version.toNat++(textL e.data.data.toList++(stL e.st++vL e.index.toNat)))
/-- An event as bytes; none: it is none. -/
def evL (e:Ev):List UInt8:=if evOk e=true then evBytes e else []
def dEvent:Reader Ev:=rb dText fun s=>rb (dCount 1099511627776) fun v=>rb dText fun d=>rb dStamp fun st=>rb (dCount 160) fun i =>
 rif (evOk ⟨strOf s,v,strOf d,st,i⟩) ⟨strOf s,v,strOf d,st,i⟩
theorem evOk_iff (e:Ev):evOk e=true ↔ nameB e.stream=true∧(1≤e.version∧e.version≤1099511627776)∧e.data.size≤1000∧validB e.data=true∧stOk e.st=true∧(0≤e.index∧e.index≤160):=by
 unfold evOk
 simp only [Bool.and_eq_true,decide_eq_true_iff,and_assoc]
theorem rd_event:Rd dEvent:=rd_text.bind fun _=>(rd_count _).bind fun _=>rd_text.bind fun _=>rd_stamp.bind fun _=>(rd_count _).bind fun _=>Rd.rif _ _
theorem eats_event:Eats dEvent:=eats_text.bind fun _=>(eats_count _).less.bind fun _=>eats_text.less.bind fun _=>eats_stamp.less.bind fun _=>(eats_count _).less.bind fun _=>Less.rif _ _
theorem evL_some {e:Ev} (h:evOk e=true):evL e=evBytes e:=if_pos h
theorem evL_none {e:Ev} (h:evOk e=false):evL e=[]:=if_neg (by rw [h];simp)
theorem evBytes_pos (e:Ev):0 < (evBytes e).length:=by
 unfold evBytes textL
 have:=vL_pos e.stream.data.toList.length
 simp only [List.length_append]
 omega
theorem evL_nil (e:Ev):evL e=[] ↔ evOk e=false:=by
 constructor
 ·intro h
  cases hk:evOk e with
  | false=>rfl
  | true =>
   rw [evL_some hk] at h
   have:=evBytes_pos e
   rw [h] at this
   simp at this
 ·exact evL_none
theorem dEvent_w {e:Ev} (h:evOk e=true) (hs:e.stream.size < 2 ^ 64) (q:List UInt8):dEvent (evL e++q)=some (e,q):=by
 rw [evL_some h]
 have h2:=h
 rw [evOk_iff] at h2
 obtain ⟨_,h3,h4,_,h6,h7⟩:=h2
 unfold dEvent evBytes
 simp only [List.append_assoc]
 have hz1:e.stream.data.toList.length < 2 ^ 64:=by rw [data_len];exact hs
 have hz2:e.data.data.toList.length < 2 ^ 64:=by
  rw [data_len]
  omega
 rw [rb_some (dText_t hz1 _),rb_some (dCount_v (by omega) (by omega) _),rb_some (dText_t hz2 _),rb_some (dStamp_w h6 _),rb_some (dCount_v (by omega) (by omega) _)]
 have e1:(⟨strOf e.stream.data.toList,(e.version.toNat:Int),strOf e.data.data.toList,e.st,(e.index.toNat:Int)⟩:Ev)=e:=by
  rw [strOf_self,strOf_self]
  obtain ⟨a,b,c,d,i⟩:=e
  simp only at h3 h7
  simp only [Ev.mk.injEq,true_and]
  omega
 rw [e1,rif,if_pos h]
theorem dEvent_ok {l r:List UInt8} {e:Ev} (h:dEvent l=some (e,r)):evOk e=true:=by
 obtain ⟨_,_,_,h⟩:=rb_inv h
 obtain ⟨_,_,_,h⟩:=rb_inv h
 obtain ⟨_,_,_,h⟩:=rb_inv h
 obtain ⟨_,_,_,h⟩:=rb_inv h
 obtain ⟨_,_,_,h⟩:=rb_inv h
 obtain ⟨h1,h2,_⟩:=rif_inv h
 rw [←h2]
 exact h1
end Go.Proofs.YtheogchkelmeeaaGreatDoor
/- Readers of bytes behind a pointer: what they hold, how they stand. No condition. -/
namespace Go.Proofs.YtheogchkelmeeaaGreatDoor
open Go.RowKit
/-- A reader behind a pointer: its bytes, how far it is, whether it is bad. -/
def RdAt (T:TypeId) (R:Nat) (A:Option Addr) (c8:Nat) (l0:List UInt8) (p:Nat) (b:Bool) (w:World):Prop :=
 w.heap[R]?=some (.cells #[.slice A l0.length c8,.int .i64 p,.bool b] T (0,0))∧Sl byteC 1 w R A l0
section
variable {T : TypeId} {w w' : World} {R : Nat} {A : Option Addr} {c8 : Nat} {l0 : List UInt8} {p : Nat} {b : Bool}
theorem RdAt.lt (h:RdAt T R A c8 l0 p b w):R < w.heap.size:=blk_lt h.1
theorem RdAt.but {S:Nat→Prop} (h:RdAt T R A c8 l0 p b w) (hb:But S w w') (hS:∀k,k≤R→¬ S k):RdAt T R A c8 l0 p b w' :=
 ⟨hb.blk h.1 (hS R (Nat.le_refl _)),h.2.keep fun k o hk=>hb.cell (by have:=h.lt;omega) (hS k (by omega))⟩
theorem RdAt.g (h:RdAt T R A c8 l0 p b w) (hg:G w w'):RdAt T R A c8 l0 p b w':=h.but (S:=fun _=>False) (.of_g hg) (fun _ _ e=>e)
theorem RdAt.c0 (h:RdAt T R A c8 l0 p b w):w.cell? ⟨R,0,none⟩=some (.slice A l0.length c8):=by rw [blk_cell h.1];rfl
theorem RdAt.c1 (h:RdAt T R A c8 l0 p b w):w.cell? ⟨R,1,none⟩=some (.int .i64 p):=by rw [blk_cell h.1];rfl
theorem RdAt.c2 (h:RdAt T R A c8 l0 p b w):w.cell? ⟨R,2,none⟩=some (.bool b):=by rw [blk_cell h.1];rfl
theorem RdAt.free (h:RdAt T R A c8 l0 p b w) (o:Nat):w.frozen? ⟨R,o,none⟩=false:=by simp [World.frozen?,h.1]
theorem blk_put {w:World} {b:Nat} {cs:Array Value} {t:TypeId} {fz:Nat × Nat} (h:w.heap[b]?=some (.cells cs t fz)) (o:Nat) (u:Value):(w.setCell ⟨b,o,none⟩ u).heap[b]?=some (.cells (cs.setIfInBounds o u) t fz):=by
 rw [setCell_eq_setRow w b o cs t fz u h]
 exact setRow_heap w b cs _ t _ h
theorem but_set (w:World) (R o:Nat) (u:Value):But (fun k=>k=R) w (w.setCell ⟨R,o,none⟩ u):=But.set (S:=fun k=>k=R) (p:=⟨R,o,none⟩) (But.refl _ w) (.inr rfl) u
theorem RdAt.at (h:RdAt T R A c8 l0 p b w) (q:Nat):RdAt T R A c8 l0 q b (w.setCell ⟨R,1,none⟩ (.int .i64 q)) :=
 ⟨by rw [blk_put h.1];rfl,h.2.keep fun k o hk=>(but_set w R 1 _).cell (by have:=h.lt;omega) (by omega)⟩
theorem RdAt.bad (h:RdAt T R A c8 l0 p b w) (q:Bool):RdAt T R A c8 l0 p q (w.setCell ⟨R,2,none⟩ (.bool q)) :=
 ⟨by rw [blk_put h.1];rfl,h.2.keep fun k o hk=>(but_set w R 2 _).cell (by have:=h.lt;omega) (by omega)⟩
end
/-- The reader has so many bytes left; none: it is bad. -/
def RdS (T:TypeId) (R:Nat) (A:Option Addr) (c8:Nat) (l0:List UInt8) (st:Option (List UInt8)) (w:World):Prop :=
 ∃p,p≤l0.length∧(∀l,st=some l→l0.drop p=l)∧RdAt T R A c8 l0 p st.isNone w
section
variable {T : TypeId} {w w' : World} {R : Nat} {A : Option Addr} {c8 : Nat} {l0 : List UInt8} {st : Option (List UInt8)}
theorem RdS.lt (h:RdS T R A c8 l0 st w):R < w.heap.size:=by obtain ⟨_,_,_,h⟩:=h;exact h.lt
theorem RdS.but {S:Nat→Prop} (h:RdS T R A c8 l0 st w) (hb:But S w w') (hS:∀k,k≤R→¬ S k):RdS T R A c8 l0 st w':=by
 obtain ⟨p,h1,h2,h3⟩:=h
 exact ⟨p,h1,h2,h3.but hb hS⟩
theorem RdS.g (h:RdS T R A c8 l0 st w) (hg:G w w'):RdS T R A c8 l0 st w':=h.but (S:=fun _=>False) (.of_g hg) (fun _ _ e=>e)
theorem RdS.c2 (h:RdS T R A c8 l0 st w):w.cell? ⟨R,2,none⟩=some (.bool st.isNone):=by obtain ⟨_,_,_,h⟩:=h;exact h.c2
theorem RdS.free (h:RdS T R A c8 l0 st w) (o:Nat):w.frozen? ⟨R,o,none⟩=false:=by obtain ⟨_,_,_,h⟩:=h;exact h.free o
theorem RdS.blk (h:RdS T R A c8 l0 st w):∃cs,w.heap[R]?=some (.cells cs T (0,0)):=by obtain ⟨_,_,_,h⟩:=h;exact ⟨_,h.1⟩
/-- It turns bad. -/
theorem RdS.fail (h:RdS T R A c8 l0 st w):RdS T R A c8 l0 none (w.setCell ⟨R,2,none⟩ (.bool true)):=by
 obtain ⟨p,h1,h2,h3⟩:=h
 exact ⟨p,h1,(fun l e=>by cases e),h3.bad true⟩
/-- It stays as it is. -/
theorem RdS.stay (h:RdS T R A c8 l0 st w):RdS T R A c8 l0 st (w.setCell ⟨R,2,none⟩ (.bool st.isNone)):=by
 obtain ⟨p,h1,h2,h3⟩:=h
 exact ⟨p,h1,h2,h3.bad _⟩
theorem RdS.len {l:List UInt8} (h:RdS T R A c8 l0 (some l) w):l.length≤l0.length:=by
 obtain ⟨p,h1,h2,h3⟩:=h
 rw [←h2 l rfl,List.length_drop]
 omega
end
/-- What a reader gives, and how it stands behind. -/
def gv {α:Type} (z:α) (d:Reader α) (st:Option (List UInt8)):α × Option (List UInt8) :=
 match st with
 | none=>(z,none)
 | some l=>match d l with
  | none=>(z,none)
  | some (x,r)=>(x,some r)
section
variable {α : Type} {z x : α} {d : Reader α} {l r : List UInt8}
theorem gv_none (h:d l=none):gv z d (some l)=(z,none):=by show (match d l with | none=>(z,none) | some (x,r)=>(x,some r))=_;rw [h]
theorem gv_some (h:d l=some (x,r)):gv z d (some l)=(x,some r):=by show (match d l with | none=>(z,none) | some (x,r)=>(x,some r))=_;rw [h]
end
/-- A call gives a value and leaves the reader so. -/
def RdPost (T:TypeId) (R:Nat) (A:Option Addr) (c8:Nat) (l0:List UInt8) (w:World) (v:Value) (st:Option (List UInt8)) (e:Ending) (w':World):Prop :=
 e=.returned v∧RdS T R A c8 l0 st w'∧But (fun k=>k=R) w w'
/-- What stands from a place on. -/
theorem run_tail (l : List UInt8) (A : Option Addr) (c p : Nat) (hp : p ≤ l.length) (hc : l.length ≤ c) : ∃ A', (∀ w, (Instr.slice 22 (.slice A l.length c) (some (.int .i64 p)) none none).run Tryz.prog w = .ok (.slice A' (l.drop p).length (c - p)) w) ∧
  ∀w B,Sl byteC 1 w B A l→Sl byteC 1 w B A' (l.drop p):=by
 refine ⟨if c=p then A else A.map (·.add p),fun w=>?_,fun w B hs=>?_⟩
 ·have ht:Tryz.prog.underlying 22=some (.slice (Tryz.prog.elem 22)):=by kernel_rfl
  have hz:∀w,(Go.sizeOf (Tryz.prog.elem 22)).run Tryz.prog w=.ok 1 w:=fun w=>by kernel_rfl
  rw [run_slice_l w 22 A l.length c ht .i64 p (by omega) (by omega),hz]
  simp [Result.andThen,sliced,List.length_drop]
 ·by_cases he:c=p
  ·rw [if_pos he]
   have:l.drop p=[]:=List.drop_of_length_le (by omega)
   rw [this]
   exact Sl.nil
  ·rw [if_neg he]
   rcases A with _ | ⟨b,o,sp⟩
   ·obtain rfl:=hs.of_none
    simp
    exact Sl.nil
   ·by_cases hn:l=[]
    ·subst hn
     simp
     exact Sl.nil
    ·obtain ⟨b',o',e,hb,_⟩:=hs hn
     cases e
     have:=hs.piece p l.length
     rw [List.take_of_length_le (by simp)] at this
     simpa [Addr.add_lit] using this
end Go.Proofs.YtheogchkelmeeaaGreatDoor

/- Several texts in one: BulkLaw, MsgSmall, RecNamed, RecSpare, UnitsLaw, MsgBackLaw, MsgDec. -/
import Derived.Test.YtheogchkelmeeaaGreatDoorM30MsgDecodes
import Derived.Test.YtheogchkelmeeaaGreatDoorM34MsgDecodes
import Derived.Test.YtheogchkelmeeaaGreatDoorM29MsgDecodes
import Derived.Deep.DeepCutAuto
import Derived.Test.YtheogchkelmeeaaGreatDoorM38MsgDecodes
import Derived.Test.YtheogchkelmeeaaGreatDoorMsgDecLawQMsgDecodes
/- What penstockalike's sums tell of batches and streams. Plain mathematics. No condition. -/
namespace Go.Proofs.YtheogchkelmeeaaGreatDoor
open Go.RowKit
end Go.Proofs.YtheogchkelmeeaaGreatDoor
/- penstocklaw10.small: what it answers, and what a message then is that is looked at. No condition beyond lengths. -/
namespace Go.Proofs.YtheogchkelmeeaaGreatDoor
open Go.RowKit
theorem sl_4 {w : World} {b : Nat} {m m2 m3 m4 : Int} (hc : w.cell? ⟨b, 0, none⟩ = some (.int .i64 m)) (hc2 : w.cell? ⟨b, 1, none⟩ = some (.int .i64 m2)) (hc3 : w.cell? ⟨b, 2, none⟩ = some (.int .i64 m3)) (hc4 : w.cell? ⟨b, 3, none⟩ = some (.int .i64 m4)) :
  Sl intC 1 w (b+1) (some ⟨b,0,none⟩) [m,m2,m3,m4]:=fun _ =>
 ⟨b,0,rfl,by omega,fun k x hx j u hu=>by
  rcases j with _ | j
  ·rcases k with _ | _ | _ | _ | k
   ·simp at hx;subst hx;simp [intC] at hu;subst hu;exact hc
   ·simp at hx;subst hx;simp [intC] at hu;subst hu;exact hc2
   ·simp at hx;subst hx;simp [intC] at hu;subst hu;exact hc3
   ·simp at hx;subst hx;simp [intC] at hu;subst hu;exact hc4
   ·simp at hx
  ·simp [intC] at hu⟩
end Go.Proofs.YtheogchkelmeeaaGreatDoor
/- rec.named: the fields that a kind names. No condition. -/
namespace Go.Proofs.YtheogchkelmeeaaGreatDoor
open Go.RowKit
end Go.Proofs.YtheogchkelmeeaaGreatDoor
/- rec.spare: whether the fields are zero that are not named. Condition: lengths fit an int. -/
namespace Go.Proofs.YtheogchkelmeeaaGreatDoor
open Go.RowKit
def txB (a b c a' b' c':Int):Bool:=decide (a=a'∧b=b'∧c=c')
def rgB (a b c d a' b' c' d':Int):Bool:=decide (a=a'∧b=b'∧c=c'∧d=d')
section
variable (w : World)
theorem tx_equal (a b c a' b' c':Int):(Op.equalIn 10000 28 (.agg #[.int .i64 a,.int .i64 b,.int .i64 c]) (.agg #[.int .i64 a',.int .i64 b',.int .i64 c'])).run Tryz.prog w=.ok (txB a b c a' b' c') w:=by
 by_cases h1:a=a' <;> by_cases h2:b=b' <;> by_cases h3:c=c' <;> simp [go_sem,txB,h1,h2,h3]
theorem tx_eql (a b c a' b' c':Int):(binOp .eql 28 (.agg #[.int .i64 a,.int .i64 b,.int .i64 c]) (.agg #[.int .i64 a',.int .i64 b',.int .i64 c'])).run Tryz.prog w=.ok (.bool (txB a b c a' b' c')) w:=by
 rw [run_eql_struct,tx_equal]
 rfl
theorem rg_equal (a b c d a' b' c' d':Int):(Op.equalIn 10000 36 (.agg #[.int .i64 a,.int .i64 b,.int .i64 c,.int .i64 d]) (.agg #[.int .i64 a',.int .i64 b',.int .i64 c',.int .i64 d'])).run Tryz.prog w=.ok (rgB a b c d a' b' c' d') w:=by
 by_cases h1:a=a' <;> by_cases h2:b=b' <;> by_cases h3:c=c' <;> by_cases h4:d=d' <;> simp [go_sem,rgB,h1,h2,h3,h4]
theorem rg_eql (a b c d a' b' c' d':Int):(binOp .eql 36 (.agg #[.int .i64 a,.int .i64 b,.int .i64 c,.int .i64 d]) (.agg #[.int .i64 a',.int .i64 b',.int .i64 c',.int .i64 d'])).run Tryz.prog w=.ok (.bool (rgB a b c d a' b' c' d')) w:=by
 rw [run_eql_struct,rg_equal]
 rfl
theorem rg_neq (a b c d a' b' c' d':Int):(binOp .neq 36 (.agg #[.int .i64 a,.int .i64 b,.int .i64 c,.int .i64 d]) (.agg #[.int .i64 a',.int .i64 b',.int .i64 c',.int .i64 d'])).run Tryz.prog w=.ok (.bool (!rgB a b c d a' b' c' d')) w:=by
 rw [run_neq_struct,rg_equal]
 rfl
end
end Go.Proofs.YtheogchkelmeeaaGreatDoor
/- How many bytes streams, events and a batch have that are looked at. Plain mathematics. No condition. -/
namespace Go.Proofs.YtheogchkelmeeaaGreatDoor
open Go.RowKit
end Go.Proofs.YtheogchkelmeeaaGreatDoor
/- How many bytes a message that is looked at has; sizes that it bears. Plain mathematics. No condition. -/
namespace Go.Proofs.YtheogchkelmeeaaGreatDoor
open Go.RowKit
theorem msg_fits {r:MsgM} (h:r.Small):r.p.Fits where
 key:=by
  have:=h.key
  show r.key.size < _
  omega
 ps:=fun p hp=>by
  obtain ⟨m,hm,rfl⟩:=List.mem_map.1 hp
  have h1:=h.ps.2 m hm
  exact ⟨by have:=h1.1;show m.stream.size < _;omega,fun d hd=>by have:=h1.2.2.2 d hd;omega⟩
 sms:=fun s hs=>by
  obtain ⟨m,hm,rfl⟩:=List.mem_map.1 hs
  obtain ⟨h1,h2,h3,h4⟩:=(h.sms m hm).1
  exact ⟨by show m.name.size < _;omega,by have:=h2.1;show m.es.length < _;omega,by show m.ks.length < _;omega,fun k hk=>by have:=h4 k hk;omega⟩
 es:=fun e he=>by have:=(h.es e he).1.1;omega
theorem evBytes_ge (e:Ev):e.stream.size+e.data.size≤(evBytes e).length:=by
 unfold evBytes textL
 simp only [List.length_append,data_len]
 omega
theorem ev_sizes {M:Nat} {e:Ev} (ho:evOk e=true) (h:(evL e).length≤M):e.stream.size≤M∧e.data.size≤M:=by
 rw [evL_some ho] at h
 have:=evBytes_ge e
 omega
end Go.Proofs.YtheogchkelmeeaaGreatDoor
/- msg.Decode: what it answers. Conditions: at most 500000 bytes; the decoder's tables lie as the library lays them. -/
namespace Go.Proofs.YtheogchkelmeeaaGreatDoor
open Go.RowKit
/-- What reading bytes as a message answers. -/
def RetMsg (w:World) (l:List UInt8) (e:Ending) (w':World):Prop :=
 ∃(v:Value) (c:Int),e=.returned (.tuple #[v,.int .i64 c])∧((∃m:MsgM,v=m.iface∧decM l=some m.p∧c=0∧m.Small∧m.only=m∧kOk m.kind=true∧m.In w')∨(decM l=none∧c=10∧v=.nilIface))∧G w w'
theorem msmall_of {m:MsgM} {k:Int} (hk:Int64 k) (hf:m.Fit0) (hp:MFine 500000 k m.p):m.Small:=by
 have i:∀x:Int,inM x→Int64 x:=fun x h=>⟨by have:=h.1;omega,by have:=h.2;omega⟩
 have e1:m.kind=k:=hp.kind
 have e2:(m.sms.map SmM.sm).length≤1000:=hp.smsL
 rw [List.length_map] at e2
 have e3:m.firsts.length≤1000:=hp.firstsL
 have e4:m.es.length≤1000:=hp.esL
 have e5:m.rgs.length≤1000:=hp.rgsL
 exact { kind:=by rw [e1];exact hk,x1:=i _ hp.x1,x2:=i _ hp.x2,x3:=i _ hp.x3,code:=i _ hp.code,firsts:=fun x hx=>i x (hp.firsts x hx),z1:=i _ hp.r1,z2:=i _ hp.r2,z3:=i _ hp.r3,z4:=i _ hp.r4,src:=i _ hp.src,total:=i _ hp.total,rgs:=fun g hg=>⟨i _ (hp.rgs g hg).1,i _ (hp.rgs g hg).2.1,i _ (hp.rgs g hg).2.2.1,i _ (hp.rgs g hg).2.2.2⟩,firstsL:=by omega,key:=hf.key,ps:=hf.ps,bat:=hp.bat,smsL:=by omega,sms:=fun s hs=>⟨hf.sms s hs,hp.sms s.sm (List.mem_map.2 ⟨s,hs,rfl⟩)⟩,esL:=by omega,es:=fun e he=>⟨by have:=ev_sizes (hp.esO e he) (hp.es e he);omega,hp.es e he⟩,rgsL:=by omega }
set_option maxRecDepth 100000 in
theorem msgDec_nil (A:Option Addr) (c8:Nat) (w:World):Calls Tryz.prog 5 #[.slice A 0 c8] w (RetMsg w []):=by
 go_enter Tryz.func5,Tryz.ntmps5
 go_wp2_with fail
 go_ret2
 exact ⟨_,10,rfl,.inr ⟨rfl,rfl,rfl⟩,G.refl _⟩
set_option maxRecDepth 100000 in
set_option maxHeartbeats 8000000 in
theorem msgDec_cons (b : UInt8) (q : List UInt8) (A : Option Addr) (c8 : Nat) (w : World) (hs : Sl byteC 1 w w.heap.size A (b :: q)) (hl : (b :: q).length ≤ 500000) (hcap : (b :: q).length ≤ c8) (hT : Tabs w) :
  Calls Tryz.prog 5 #[.slice A (b::q).length c8] w (RetMsg w (b::q)):=by
 obtain ⟨A',hrun,hsl⟩:=run_tail (b::q) A c8 1 (by simp) hcap
 obtain ⟨bb,o,rfl,hbB,hcell⟩:=hs.get (k:=0) (x:=b) rfl
 have cb:=hcell 0 _ rfl
 simp only [Nat.zero_mul,Nat.add_zero] at cb
 have hbx:=b.toNat_lt
 have hwr:IntKind.i64.wrap (b.toNat:Int)=(b.toNat:Int):=IntWalk.i64_in _ (by omega)
 have hlq:(b::q).length=q.length+1:=rfl
 have t0:(((b::q).length:Int) == 0)=false:=by rw [beq_eq_false_iff_ne,hlq];omega
 have n1:(0:Int) < ((b::q).length:Int):=by rw [hlq];omega
 have hrun1:∀w,(Instr.slice 22 (.slice (some ⟨bb,o,none⟩) (b::q).length c8) (some (.int .i64 1)) none none).run Tryz.prog w=.ok (.slice A' q.length (c8 - 1)) w:=fun w=>hrun w
 have hsq:=hsl w w.heap.size hs
 rw [List.drop_one,List.tail_cons] at hsq
 generalize hN:(b::q).length=N at *
 have hg0:=G.new w (.cells #[.slice A' q.length (c8 - 1),.bool false] 59)
 have R0:=blk_new w #[.slice A' q.length (c8 - 1),.bool false] 59
 have cb0:=(hg0.cell hbB).trans cb
 have hrd:BrS 59 w.heap.size w.heap.size 500000 (some q) (w.alloc (.cells #[.slice A' q.length (c8 - 1),.bool false] 59)):=⟨A',q,c8 - 1,R0,hsq.g (Nat.le_refl _) hg0,Nat.le_refl _,by omega,by omega,fun l' e=>by cases e;rfl⟩
 have hm:=mrMsg_any w.heap.size w.heap.size 500000 (b.toNat:Int) (some q) _ hrd (by omega) (fun w' hb=>hT.g (hg0.gOf' hb (fun k hk=>by have e:k=w.heap.size:=hk;omega)))
 have hlq2:q.length≤500000:=by omega
 replace hN:=Lib.hid hN
 replace hlq:=Lib.hid hlq
 replace hcell:=Lib.hid hcell
 replace cb:=Lib.hid cb
 replace hT:=Lib.hid hT
 replace hsl:=Lib.hid hsl
 replace hsq:=Lib.hid hsq
 replace hm:=Lib.hid hm
 clear hrun hrd R0
 go_enter Tryz.func5,Tryz.ntmps5
 go_upto_region 4 with fail
 generalize w.alloc (.cells #[.slice A' q.length (c8 - 1),.bool false] 59)=W1 at *
 go_upto_region 5 with (go_at_call 14;(with_reducible refine Calls.mono hm.out ?_);rintro e w4 ⟨v,st,rfl,hr4,hb4,hv⟩)
 clear hm cb0 hrun1
 have hG4:G w w4:=hg0.gOf' hb4 (fun k hk=>by have e:k=w.heap.size:=hk;omega)
 have hc1:=hr4.c1
 obtain ⟨A9,l9,c9,R9,_,_,hl9,hst9⟩:=hr4.any
 have hc0:=(blk_cell R9 0).trans (show _=some (.slice A9 l9.length c9) from rfl)
 replace R9:=Lib.hid R9
 replace hr4:=Lib.hid hr4
 replace hb4:=Lib.hid hb4
 replace hst9:=Lib.hid hst9
 cases st with
 | none =>
  simp only [Option.isNone_none] at hc1
  have hno:decM (b::q)=none:=by
   rcases hv with ⟨m,_,_,_,_,hgv,_⟩ | ⟨hk,_,_⟩
   ·unfold decM
    dsimp only
    rw [hgv.miss]
   ·exact decM_no hk
  replace hno:=Lib.hid hno
  replace hv:=Lib.hid hv
  clear hc0
  go_wp2_with fail
  go_ret2
  exact ⟨_,10,rfl,.inr ⟨hno.out,rfl,rfl⟩,hG4⟩
 | some lx =>
  obtain rfl:=hst9.out lx rfl
  simp only [Option.isNone_some] at hc1
  obtain ⟨m,rfl,hmk,hk,hmo,hgv,hmi,hmf⟩:∃m:MsgM,v=m.iface∧m.kind=(b.toNat:Int)∧kOk (b.toNat:Int)=true∧m.only=m∧Gives (dMsg (b.toNat:Int)) (some q) (some lx) m.p∧m.In w4∧m.Fit0:=by
   rcases hv with ⟨m,h1,h2,h3,h4,h5,h6,h7⟩ | ⟨_,h,_⟩
   ·exact ⟨m,h1,h2,h3,h4,h5,h6,h7⟩
   ·cases h
  have hhit:=hgv.hit
  by_cases hle:lx=[]
  ·subst hle
   have hp:=(dMsgX_c rdsc_msg (M:=500000) hhit hlq2).2.1
   have hsm:=msmall_of (k:=(b.toNat:Int)) ⟨by omega,by omega⟩ hmf hp
   have hkm:kOk m.kind=true:=by rw [hmk];exact hk
   have hdec:decM (b::q)=if chkM m.p=true then some m.p else none:=by
    unfold decM
    dsimp only
    rw [hhit]
   have hch:=msgCheck_any m w4 hkm hmi hsm (hT.out.g hG4)
   rw [hmo] at hch
   have hpo:m.p=m.p.only:=by rw [←MsgM.only_p,hmo]
   rw [hpo,encM_eq,←hpo] at hch
   replace hhit:=Lib.hid hhit
   replace hgv:=Lib.hid hgv
   replace hp:=Lib.hid hp
   replace hmi:=Lib.hid hmi
   replace hmf:=Lib.hid hmf
   replace hsm:=Lib.hid hsm
   replace hmo:=Lib.hid hmo
   replace hmk:=Lib.hid hmk
   replace hk:=Lib.hid hk
   replace hkm:=Lib.hid hkm
   replace hpo:=Lib.hid hpo
   cases hck:chkM m.p with
   | false =>
    rw [hck] at hch hdec
    have hno:=Lib.hid hdec
    replace hch:Calls Tryz.prog 15 #[m.iface] w4 fun e w'=>e=.returned (.int .i64 1)∧G w4 w':=hch
    replace hch:=Lib.hid hch
    replace hck:=Lib.hid hck
    clear hdec
    generalize hiv:m.iface=iv at *
    replace hiv:=Lib.hid hiv
    go_wp2_with (go_at_call 15;(with_reducible refine Calls.mono hch.out ?_);rintro e w5 ⟨rfl,hg5⟩)
    go_ret2
    exact ⟨_,10,rfl,.inr ⟨hno.out,rfl,rfl⟩,hG4.trans hg5⟩
   | true =>
    rw [hck] at hch hdec
    have hyes:=Lib.hid hdec
    replace hch:Calls Tryz.prog 15 #[m.iface] w4 fun e w'=>e=.returned (.int .i64 0)∧G w4 w':=hch
    replace hch:=Lib.hid hch
    replace hck:=Lib.hid hck
    clear hdec
    generalize hiv:m.iface=iv at *
    replace hiv:=Lib.hid hiv
    go_wp2_with (go_at_call 15;(with_reducible refine Calls.mono hch.out ?_);rintro e w5 ⟨rfl,hg5⟩)
    go_ret2
    exact ⟨iv,0,rfl,.inl ⟨m,hiv.out.symm,hyes.out,rfl,hsm.out,hmo.out,hkm.out,hmi.out.g hg5⟩,hG4.trans hg5⟩
  ·have hno:decM (b::q)=none:=by
    unfold decM
    dsimp only
    rw [hhit]
    cases lx with
    | nil=>exact absurd rfl hle
    | cons x y=>rfl
   have hpos:=List.length_pos_iff.2 hle
   have hpos2:decide (0 < lx.length)=true:=decide_eq_true hpos
   replace hno:=Lib.hid hno
   replace hhit:=Lib.hid hhit
   replace hgv:=Lib.hid hgv
   replace hmi:=Lib.hid hmi
   replace hmf:=Lib.hid hmf
   replace hmo:=Lib.hid hmo
   replace hmk:=Lib.hid hmk
   replace hk:=Lib.hid hk
   generalize m.iface=iv at *
   clear hle
   go_wp2_with fail
   go_ret2
   exact ⟨_,10,rfl,.inr ⟨hno.out,rfl,rfl⟩,hG4⟩
theorem msgDec_any (l : List UInt8) (A : Option Addr) (c8 : Nat) (w : World) (hs : Sl byteC 1 w w.heap.size A l) (hl : l.length ≤ 500000) (hcap : l.length ≤ c8) (hT : Tabs w) :
  Calls Tryz.prog 5 #[.slice A l.length c8] w (RetMsg w l):=by
 cases l with
 | nil=>exact msgDec_nil A c8 w
 | cons b q=>exact msgDec_cons b q A c8 w hs hl hcap hT
end Go.Proofs.YtheogchkelmeeaaGreatDoor

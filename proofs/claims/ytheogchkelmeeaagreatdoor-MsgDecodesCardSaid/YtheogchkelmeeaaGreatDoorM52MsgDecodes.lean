/- Several texts in one: MsgPanic, Awake10, MsgDecodesW, ReadStr, ReadD. -/
import Derived.Test.YtheogchkelmeeaaGreatDoorMsgEncQMsgDecodes
import Derived.Defers
import Derived.Recover
import Derived.Test.YtheogchkelmeeaaGreatDoorM49MsgDecodes
import Derived.Test.YtheogchkelmeeaaGreatDoorMsgFlatQMsgDecodes
import Derived.Test.YtheogchkelmeeaaGreatDoorM51MsgDecodes
import Derived.Test.YtheogchkelmeeaaGreatDoorM1MsgDecodes
import Derived.Test.YtheogchkelmeeaaGreatDoorRows
import Derived.ProofKit
import Derived.OpenShut
import Derived.PinnedBridge
import Derived.Lib.LaidU8T
import Derived.Lay
import Derived.SevenTiedAt
import Derived.LaidMore
import Derived.Test.YtheogchkelmeeaaGreatDoorM4MsgDecodes
import Derived.Test.YtheogchkelmeeaaGreatDoorM15MsgDecodes
import Derived.Test.YtheogchkelmeeaaGreatDoorM2MsgDecodes
import Derived.Deep.Slices
/- msg.MustFeed of what is no Feed panics; penstocklaw10.panics says so. No condition. -/
namespace Go.Proofs.YtheogchkelmeeaaGreatDoor
open Go.RowKit
set_option maxRecDepth 100000 in
theorem ta_panic (t:TypeId) (v:Value) (ht:t≠55) (w:World):∃T cs u pv,(Instr.typeAssert (.iface t v) 20 55 false).run Tryz.prog w=.halt (.panic (.iface u pv)) (w.alloc (.cells cs T)):=by
 refine ⟨192, #[typeHandle Tryz.prog 20, typeHandle Tryz.prog t, typeHandle Tryz.prog 55, strVal ""], Tryz.prog.rt.typeAssertionError, .pointer (some ⟨w.heap.size, 0, none⟩), ?_⟩
 unfold Instr.typeAssert
 simp only [Sem.run_bind,run_underlying Tryz.underlying55,Result.andThen_ok,if_neg ht]
 kernel_rfl
set_option maxRecDepth 100000 in
theorem mustFeed_no (t:TypeId) (v:Value) (w:World) (ht:t≠55):Calls Tryz.prog 13 #[.iface t v] w fun e w'=>∃u pv,e=.panicked [{ v:=.iface u pv,recovered:=false }]∧G w w':=by
 have hp:=ta_panic t v ht (w.alloc (.cells #[.int .i64 0,.int .i64 0,.slice none 0 0,.int .i64 0,.int .i64 0,.int .i64 0,.slice none 0 0] 55))
 obtain ⟨T,cs,u,pv,hp⟩:=hp
 go_enter Tryz.func13,Tryz.ntmps13
 go_wp2_with fail
 exact ⟨rfl,u,pv,rfl,((G.new _ _).trans (G.new _ _))⟩
set_option maxRecDepth 100000 in
theorem catch_panicking (p : Addr) (b : Bool) (u : TypeId) (pv : Value) (older : List PanicEntry) (w : World) (hc : w.cell? p = some (.bool b)) (hz : w.frozen? p = false) :
  CallsD Tryz.prog 33 #[.pointer (some p)] (.panicking ({ v:=.iface u pv,recovered:=false }::older)) w fun e u' w' =>
   e=.returned (.tuple #[])∧u'=.panicking ({ v:=.iface u pv,recovered:=true }::older)∧w'=w.setCell p (.bool true):=by
 refine callsD_of_wpS Tryz.func33 rfl fun c₀ cs hu=>?_
 apply wpS_region
 simp [wpOpsS,go_sem,recoverD,hu,Tryz.ntmps33,hc,hz,bodyPostS,results,Tryz.results33]
set_option maxRecDepth 100000 in
/-- A call that panics, behind a function's value. -/
theorem inner_panics (F : Nat) (cap : Array Value) (D : Nat) (q : Addr) (b : Bool) (w : World) (hp : D < w.heap.size) (hc : w.cell? ⟨D, 0, none⟩ = some (.bool b)) (hz : w.frozen? ⟨D, 0, none⟩ = false) (hq : w.cell? q = some (.func (.func F) #[] cap)) (hcf : ∀ w, (callFunc F cap).run Tryz.prog w = .ok (.enter F cap) w)
  (hF:Calls Tryz.prog F cap w fun e w'=>∃u pv,e=.panicked [{ v:=.iface u pv,recovered:=false }]∧G w w') :
  Calls Tryz.prog 32 #[.pointer (some ⟨D,0,none⟩),.pointer (some q)] w fun e w'=>e=.returned (.tuple #[])∧∃w1,G w w1∧w'=w1.setCell ⟨D,0,none⟩ (.bool true):=by
 have hmf:∀(fn:Fn) (first cap:Array Value) (w:World),(Instr.makeFunc fn first cap).run Tryz.prog w=.ok (.func fn first cap) w:=fun _ _ _ _=>rfl
 go_enter_defers Tryz.func32,Tryz.ntmps32
 replace hF:=Lib.hid hF
 replace hc:=Lib.hid hc
 replace hz:=Lib.hid hz
 go_wp2_with fail
 refine Calls.mono hF.out ?_
 rintro e w1 ⟨u,pv,rfl,hg⟩
 go_wp2_with fail
 have hc1:w1.cell? ⟨D,0,none⟩=some (.bool b):=(hg.cell hp).trans hc.out
 have hz1:w1.frozen? ⟨D,0,none⟩=false:=(hg.frozen hp).trans hz.out
 refine leaves_cons (f:=33) (args:=#[.pointer (some ⟨D,0,none⟩)]) (by simp) (by simp [go_sem]) ?_
 refine (catch_panicking ⟨D,0,none⟩ b u pv [] w1 hc1 hz1).mono ?_
 rintro e u' w'' ⟨rfl,rfl,rfl⟩
 simp [Leaves,settle,results,Tryz.results32,go_sem]
 exact ⟨w1,hg,rfl⟩
set_option maxRecDepth 100000 in
/-- penstocklaw10.panics of a function that panics: true. -/
theorem panics_yes (F : Nat) (cap : Array Value) (w : World) (hcf : ∀ w, (callFunc F cap).run Tryz.prog w = .ok (.enter F cap) w)
  (hF:∀w',G w w'→Calls Tryz.prog F cap w' fun e w''=>∃u pv,e=.panicked [{ v:=.iface u pv,recovered:=false }]∧G w' w'') :
  Calls Tryz.prog 11 #[.func (.func F) #[] cap] w fun e w'=>e=.returned (.bool true)∧G w w':=by
 have hmf:∀(fn:Fn) (first cap:Array Value) (w:World),(Instr.makeFunc fn first cap).run Tryz.prog w=.ok (.func fn first cap) w:=fun _ _ _ _=>rfl
 have hg:=(G.new w (.cells #[.func (.func F) #[] cap] 1)).alloc (.cells #[.bool false] 4)
 have B0:=(G.new (w.alloc (.cells #[.func (.func F) #[] cap] 1)) (.cells #[.bool false] 4)).blk (blk_new w #[.func (.func F) #[] cap] 1)
 have B1:=blk_new' (w.alloc (.cells #[.func (.func F) #[] cap] 1)) #[.bool false] 4 (w.heap.size+1) (by simp)
 go_enter Tryz.func11,Tryz.ntmps11
 go_upto_region 1 with fail
 generalize (w.alloc (.cells #[.func (.func F) #[] cap] 1)).alloc (.cells #[.bool false] 4)=W0 at *
 have hin:=inner_panics F cap (w.heap.size+1) ⟨w.heap.size,0,none⟩ false W0 (blk_lt B1) ((blk_cell B1 0).trans rfl) (by simp [World.frozen?,B1]) ((blk_cell B0 0).trans rfl) hcf (hF W0 hg)
 replace hin:=Lib.hid hin
 go_wp2_with fail
 (with_reducible refine Calls.mono hin.out ?_)
 rintro e w2 ⟨rfl,w1,hg1,rfl⟩
 have hz:=hg.size
 have hb:=blk_put (hg1.blk B1) 0 (.bool true)
 have c0:=(blk_cell hb 0).trans (show _=some (.bool true) from rfl)
 have f0:(w1.setCell ⟨w.heap.size+1,0,none⟩ (.bool true)).frozen? ⟨w.heap.size+1,0,none⟩=false:=by simp [World.frozen?,hb]
 have hb2:=blk_put hb 0 (.bool true)
 have c2:=(blk_cell hb2 0).trans (show _=some (.bool true) from rfl)
 have hgz:=((hg.trans hg1).set (p:=⟨w.heap.size+1,0,none⟩) (Nat.le_succ _) (.bool true)).set (p:=⟨w.heap.size+1,0,none⟩) (Nat.le_succ _) (.bool true)
 replace hb:=Lib.hid hb
 replace hb2:=Lib.hid hb2
 replace c2:=Lib.hid c2
 replace hgz:=Lib.hid hgz
 clear hin hF
 go_wp2_with fail
 have c2:=c2.out
 refine bodyPost_ret (v:=.bool true) (by simp [results,Tryz.results11,go_sem,c2]) rfl ?_
 exact ⟨rfl,hgz.out⟩
end Go.Proofs.YtheogchkelmeeaaGreatDoor
/- penstocklaw10.awake answers true. No condition. -/
namespace Go.Proofs.YtheogchkelmeeaaGreatDoor
open Go.RowKit
set_option maxRecDepth 100000 in
theorem awakeF_any (w:World):Calls Tryz.prog 12 #[] w fun e w'=>∃u pv,e=.panicked [{ v:=.iface u pv,recovered:=false }]∧G w w':=by
 have hm:=fun w'=>mustFeed_no 3 (.int .i64 7) w' (by decide)
 replace hm:=Lib.hid hm
 go_enter Tryz.func12,Tryz.ntmps12
 go_wp2_with fail
 (with_reducible refine Calls.mono (hm.out _) ?_)
 rintro e w1 ⟨u,pv,rfl,hg⟩
 go_wp2_with fail
 exact ⟨rfl,u,pv,rfl,hg⟩
set_option maxRecDepth 100000 in
set_option maxHeartbeats 1000000 in
theorem awake10_any (w:World):Calls Tryz.prog 4 #[] w fun e w'=>e=.returned (.bool true)∧G w w':=by
 have he:=fun w'=>msgEnc_no .nilIface w' kindNil_any
 have hk:=fun w'=>kind4_any (.agg #[.int .i64 0,.int .i64 0,.int .i64 0]) w'
 have hp:=fun w'=>panics_yes 12 #[] w' (fun w=>by kernel_rfl) (fun w'' _=>awakeF_any w'')
 replace he:=Lib.hid he
 replace hk:=Lib.hid hk
 replace hp:=Lib.hid hp
 go_enter Tryz.func4,Tryz.ntmps4
 go_wp2_with (first
  | (go_at_call 9;(with_reducible refine Calls.mono (he.out _) ?_);rintro e w1 ⟨A1,c1,rfl,_,hg1⟩)
  | (go_at_call 10;(with_reducible refine Calls.mono (hk.out _) ?_);rintro e w2 ⟨rfl,hg2⟩)
  | (go_at_call 11;(with_reducible refine Calls.mono (hp.out _) ?_);rintro e w3 ⟨rfl,hg3⟩))
 go_ret
 exact ⟨rfl,(hg1.trans hg2).trans hg3⟩
end Go.Proofs.YtheogchkelmeeaaGreatDoor
/- penstocklaw10.MsgDecodes: the walk. Condition: the decoder's tables lie as the library lays them. -/
namespace Go.Proofs.YtheogchkelmeeaaGreatDoor
open Go.RowKit
/-- What the walk wants of the two readings. -/
theorem msgDec_some {l : List UInt8} {p : MsgP} (h : decM l = some p) (A : Option Addr) (c8 : Nat) (w : World) (hs : Sl byteC 1 w w.heap.size A l) (hl : l.length ≤ 500000) (hcap : l.length ≤ c8) (hT : Tabs w) :
  Calls Tryz.prog 5 #[.slice A l.length c8] w fun e w'=>∃x:MsgM,e=.returned (.tuple #[x.iface,.int .i64 0])∧G w w'∧x.p=p∧x.Small∧x.only=x∧kOk x.kind=true∧x.In w':=by
 refine (msgDec_any l A c8 w hs hl hcap hT).mono ?_
 rintro e w' ⟨v,c,rfl,⟨m,rfl,h1,rfl,h2,h3,h4,h5⟩ | ⟨h1,_,_⟩,hg⟩
 ·rw [h] at h1
  exact ⟨m,rfl,hg,(Option.some.inj h1).symm,h2,h3,h4,h5⟩
 ·rw [h] at h1;cases h1
theorem msgDec_none {l : List UInt8} (h : decM l = none) (A : Option Addr) (c8 : Nat) (w : World) (hs : Sl byteC 1 w w.heap.size A l) (hl : l.length ≤ 500000) (hcap : l.length ≤ c8) (hT : Tabs w) :
  Calls Tryz.prog 5 #[.slice A l.length c8] w fun e w'=>e=.returned (.tuple #[.nilIface,.int .i64 10])∧G w w':=by
 refine (msgDec_any l A c8 w hs hl hcap hT).mono ?_
 rintro e w' ⟨v,c,rfl,⟨m,_,h1,_⟩ | ⟨_,rfl,rfl⟩,hg⟩
 ·rw [h] at h1;cases h1
 ·exact ⟨rfl,hg⟩
theorem refMDec_some {l : List UInt8} {p : MsgP} (h : decM l = some p) (hf : p.Fits) (A : Option Addr) (c8 : Nat) (w : World) (hs : Sl byteC 1 w w.heap.size A l) (hl : l.length ≤ 500000) (hcap : l.length ≤ c8) (hT : Tabs w) :
  Calls Tryz.prog 6 #[.slice A l.length c8] w fun e w'=>∃m:MsgM,e=.returned (.tuple #[.agg m.cells,.int .i64 0])∧G w w'∧m.p=p∧m.In w':=by
 refine (refMDec_any l A c8 w hs hl hcap hT (fun p' h'=>by rw [h] at h';cases h';exact hf)).mono ?_
 rintro e w' ⟨m,c,rfl,⟨h1,rfl,_⟩ | ⟨h1,_⟩,hi,hg⟩
 ·rw [h] at h1
  exact ⟨m,rfl,hg,(Option.some.inj h1).symm,hi⟩
 ·rw [h] at h1;cases h1
theorem refMDec_none {l : List UInt8} (h : decM l = none) (A : Option Addr) (c8 : Nat) (w : World) (hs : Sl byteC 1 w w.heap.size A l) (hl : l.length ≤ 500000) (hcap : l.length ≤ c8) (hT : Tabs w) :
  Calls Tryz.prog 6 #[.slice A l.length c8] w fun e w'=>∃m:MsgM,e=.returned (.tuple #[.agg m.cells,.int .i64 10])∧G w w':=by
 refine (refMDec_any l A c8 w hs hl hcap hT (fun p' h'=>by rw [h] at h';cases h')).mono ?_
 rintro e w' ⟨m,c,rfl,⟨h1,_,_⟩ | ⟨_,rfl⟩,_,hg⟩
 ·rw [h] at h1;cases h1
 ·exact ⟨m,rfl,hg⟩
set_option maxRecDepth 100000 in
set_option maxHeartbeats 4000000 in
theorem msgDecodes_walk (l : List UInt8) (A : Option Addr) (c : Nat) (w : World) (hs : Sl byteC 1 w w.heap.size A l) (hcap : l.length ≤ c) (hT : Tabs w) :
  Calls Tryz.prog 3 #[.slice A l.length c] w fun e w'=>e=.returned (.bool true)∧G w w':=by
 have haw:=fun w'=>awake10_any w'
 replace haw:=Lib.hid haw
 by_cases hbig:6000 < l.length
 ·have t1:decide ((6000:Int) < (l.length:Int))=true:=decide_eq_true (by omega)
  have t1':(6000:Int) < (l.length:Int):=by omega
  replace hbig:=Lib.hid hbig
  go_enter Tryz.func3,Tryz.ntmps3
  go_wp2_with (go_at_call 4;(with_reducible refine Calls.mono (haw.out _) ?_);rintro e w1 ⟨rfl,hg1⟩)
  go_ret
  exact ⟨rfl,hg1⟩
 ·have t1':¬ (6000:Int) < (l.length:Int):=by omega
  have hl:l.length≤500000:=by omega
  have hB:∀(u:World) (r:MsgM),∃W',(Instr.storeAt 41 (.pointer (some ⟨u.heap.size,0,none⟩)) (.agg r.cells)).run Tryz.prog (u.alloc (.cells #[.int .i64 0,.int .i64 0,.int .i64 0,.int .i64 0,.string ⟨#[]⟩,.slice none 0 0,.int .i64 0,.int .i64 0,.int .i64 0,.int .i64 0,.slice none 0 0,.bool false,.int .i64 0,.int .i64 0,.int .i64 0,.int .i64 0,.slice none 0 0,.int .i64 0,.int .i64 0,.slice none 0 0,.slice none 0 0] 41))=.ok () W'∧W'.heap[u.heap.size]?=some (.cells r.cells 41 (0,0))∧G u W':=fun u r=>by
   obtain ⟨W9,SR9,C9,hb9,hG9⟩:=store_blk (P:=Tryz.prog) (T:=41) (cs:=r.cells) (blk_new u #[.int .i64 0,.int .i64 0,.int .i64 0,.int .i64 0,.string ⟨#[]⟩,.slice none 0 0,.int .i64 0,.int .i64 0,.int .i64 0,.int .i64 0,.slice none 0 0,.bool false,.int .i64 0,.int .i64 0,.int .i64 0,.int .i64 0,.slice none 0 0,.int .i64 0,.int .i64 0,.slice none 0 0,.slice none 0 0] 41) rfl (by kernel_rfl) (by kernel_rfl)
   exact ⟨W9,SR9,C9,hG9 u (G.new u _) (Nat.le_refl _)⟩
  replace hB:=Lib.hid hB
  have hl0:=hl
  cases hm:decM l with
  | none =>
   have hd:=msgDec_none hm A c w hs hl hcap hT
   replace hd:=Lib.hid hd
   replace hs:=Lib.hid hs
   replace hbig:=Lib.hid hbig
   go_enter Tryz.func3,Tryz.ntmps3
   go_upto_region 4 with (go_at_call 5;(with_reducible refine Calls.mono hd.out ?_);rintro e u1 ⟨rfl,hg1⟩;clear hd)
   have hd:=refMDec_none hm A c u1 ((hs.out.g (Nat.le_refl _) hg1).more hg1.size) hl hcap (hT.g hg1)
   replace hd:=Lib.hid hd
   replace hm:=Lib.hid hm
   go_upto_region 5 with (first
    | (refine wpList_store_at (ty:=41) rfl (by kernel_rfl) (p:=.pointer (some ⟨u2.heap.size,0,none⟩)) (v:=.agg m.cells) rfl rfl SR2 ?_;clear SR2)
    | (go_at_call 6;(with_reducible refine Calls.mono hd.out ?_);rintro e u2 ⟨m,rfl,hg2⟩;obtain ⟨w2,SR2,C2,hgy⟩:=hB.out u2 m;replace C2:=Lib.hid C2;clear hd))
   have hG2:=(hg1.trans hg2).trans hgy
   clear C2 hB
   go_wp2_with (go_at_call 4;(with_reducible refine Calls.mono (haw.out _) ?_);rintro e w4 ⟨rfl,hg4⟩)
   go_ret
   exact ⟨rfl,hG2.trans hg4⟩
  | some p =>
   have hd:=msgDec_some hm A c w hs hl hcap hT
   replace hd:=Lib.hid hd
   replace hs:=Lib.hid hs
   replace hbig:=Lib.hid hbig
   go_enter Tryz.func3,Tryz.ntmps3
   go_upto_region 4 with (go_at_call 5;(with_reducible refine Calls.mono hd.out ?_);rintro e u1 ⟨x,rfl,hg1,hxp,hxs,hxo,hxk,hxi⟩;clear hd)
   have hd:=refMDec_some hm (hxp ▸ msg_fits hxs) A c u1 ((hs.out.g (Nat.le_refl _) hg1).more hg1.size) hl hcap (hT.g hg1)
   have hfl:∀w',Calls Tryz.prog 7 #[x.iface] w' fun e w''=>e=.returned (.tuple #[.agg x.cells,.bool true])∧G w' w'':=fun w'=>by
    have h:=flat_any x w' hxk
    rw [hxo] at h
    exact h
   generalize x.iface=xv at *
   replace hd:=Lib.hid hd
   replace hm:=Lib.hid hm
   replace hfl:=Lib.hid hfl
   replace hxp:=Lib.hid hxp
   replace hxs:=Lib.hid hxs
   replace hxo:=Lib.hid hxo
   replace hxk:=Lib.hid hxk
   replace hxi:=Lib.hid hxi
   go_upto_region 5 with (first
    | (refine wpList_store_at (ty:=41) rfl (by kernel_rfl) (p:=.pointer (some ⟨u2.heap.size,0,none⟩)) (v:=.agg m.cells) rfl rfl SR2 ?_;clear SR2)
    | (go_at_call 6;(with_reducible refine Calls.mono hd.out ?_);rintro e u2 ⟨m,rfl,hg2,hmp,hmi⟩;obtain ⟨w2,SR2,C2,hgy⟩:=hB.out u2 m;replace C2:=Lib.hid C2;clear hd))
   have hG2:=(hg1.trans hg2).trans hgy
   have hep:x.p=m.p:=hxp.out.trans hmp.symm
   have hin2:x.In w2∧m.In w2:=⟨(hxi.out.g hg2).g hgy,hmi.g hgy⟩
   replace hep:=Lib.hid hep
   replace hin2:=Lib.hid hin2
   generalize u2.heap.size=b2 at *
   clear hmp hmi
   go_upto_region 10 with (first
    | (refine wpList_store_at (ty:=41) rfl (by kernel_rfl) (p:=.pointer (some ⟨u3.heap.size,0,none⟩)) (v:=.agg x.cells) rfl rfl SR3 ?_;clear SR3)
    | (go_at_call 7;(with_reducible refine Calls.mono (hfl.out _) ?_);rintro e u3 ⟨rfl,hg3⟩;obtain ⟨w3,SR3,C3,hgz⟩:=hB.out u3 x;replace C3:=Lib.hid C3;clear hfl))
   have hG3:=(hG2.trans hg3).trans hgz
   have B2:=hgz.blk (hg3.blk C2.out)
   have LR2:=load_blk (P:=Tryz.prog) (T:=41) B2 Tryz.underlying41 rfl (by kernel_rfl)
   have LR3:=load_blk (P:=Tryz.prog) (T:=41) C3.out Tryz.underlying41 rfl (by kernel_rfl)
   have hsm:=sameMsg_yes x m w3 ((hin2.out.1.g hg3).g hgz) ((hin2.out.2.g hg3).g hgz) hep.out hxs.out
   generalize u3.heap.size=b3 at *
   replace hsm:=Lib.hid hsm
   clear B2 hB
   go_wp2_with (first
    | (refine wpList_load_at (ty:=41) rfl (by kernel_rfl) (p:=.pointer (some ⟨b2,0,none⟩)) rfl LR2 ?_;clear LR2)
    | (refine wpList_load_at (ty:=41) rfl (by kernel_rfl) (p:=.pointer (some ⟨b3,0,none⟩)) rfl LR3 ?_;clear LR3)
    | (go_at_call 8;(with_reducible refine Calls.mono hsm.out ?_);rintro e w4 ⟨rfl,hg4⟩;clear hsm)
    | (go_at_call 4;(with_reducible refine Calls.mono (haw.out _) ?_);rintro e w5 ⟨rfl,hg5⟩))
   go_ret
   exact ⟨rfl,(hG3.trans hg4).trans hg5⟩
end Go.Proofs.YtheogchkelmeeaaGreatDoor
/- How texts, numbers and bools read as the laws' arguments; what the listed tables give. No condition. -/
namespace Go.Proofs.YtheogchkelmeeaaGreatDoor
open Go.RowKit Go.ChangeShapes Go.WideShapes Go.Lib
/-- An int of 64 bits. -/
def I64 (n:Int):Prop:=-9223372036854775808≤n∧n≤9223372036854775807
section
variable {H : Type} {enc : TypeId × Value → H} {w : World} {base b0 : Nat} {spare : Nat → Bool} {held : Bool} {fuel : Nat} {cs : List Value} {x : DataW H × List MemPlace} {r : Reach} {v : Value} {d : DataW H} {p : List MemPlace}
theorem i64_of_wf {n:Int} (h:(Lit.int .i64 n).wf=true):I64 n:=by
 have:=bounds_i64 h
 exact ⟨by omega,by omega⟩
end
theorem u8Extra:U8Extra Tryz.prog Tryz.lays196_ren:=⟨by kernel_rfl,by kernel_rfl,by kernel_rfl,by kernel_rfl,by kernel_rfl,by kernel_rfl,by kernel_rfl⟩
theorem accept_eq:(Rows.laid_unicode_utf8_acceptRanges:DataW Unit)=acceptData:=by kernel_rfl
/-- Where the two tables are listed they lie so. -/
theorem tabs_of_laid {w : World} (h : laidMet Tryz.prog [("unicode/utf8.acceptRanges", Rows.laid_unicode_utf8_acceptRanges), ("unicode/utf8.first", Rows.laid_unicode_utf8_first)] w) : Tabs w :=
 utf8Tabs_of_readsT (U8Types.of196 Tryz.lays196) u8Extra (Pinned.utf8First_eq ▸ Lib.laidMet.reads h (.tail _ (.head _))) (accept_eq ▸ Lib.laidMet.reads h (.head _))
end Go.Proofs.YtheogchkelmeeaaGreatDoor
/- Door seats: how the arguments of the laws read: texts, numbers, stamps, events, puts, batches, lists of these. No condition. -/
namespace Go.Proofs.YtheogchkelmeeaaGreatDoor
open Go.RowKit Go.ChangeShapes Go.WideShapes Go.Deep
instance:Inhabited St:=⟨⟨0,0,0⟩⟩
instance:Inhabited Ev:=⟨⟨ByteArray.empty,0,ByteArray.empty,default,0⟩⟩
instance:Inhabited PutM:=⟨⟨ByteArray.empty,0,none,0,[]⟩⟩
section
variable {H : Type} {enc : TypeId × Value → H} {w : World} {base : Nat} {spare : Nat → Bool} {held : Bool} {fuel : Nat} {cs : List Value} {x : DataW H × List MemPlace}
set_option maxRecDepth 100000 in
theorem rdv_int (h:DataW.trod enc Tryz.prog w base spare held fuel 3 cs=some x):∃n,cs=intC n∧I64 n:=by
 obtain ⟨n,rfl,_,hw⟩:=DataW.trod_int Tryz.underlying3 h
 exact ⟨n,rfl,i64_of_wf hw⟩
set_option maxRecDepth 100000 in
theorem cells_int:Tryz.prog.cellsOf 3=1:=by kernel_rfl
set_option maxRecDepth 100000 in
/-- A slice is read as the list of what its elements read as. -/
theorem rdv_slice {α : Type} [Inhabited α] {f : α → List Value} {sz : Nat} {ok : α → Prop} {t e : TypeId} (ht : Tryz.prog.underlying t = some (.slice e)) (hc : Tryz.prog.cellsOf e = sz) (hsz : 0 < sz) (hf : ∀ x, (f x).length = sz)
  (hrd:∀(n:Nat) (cs:List Value) (y:DataW H × List MemPlace),DataW.trod enc Tryz.prog w base spare held n e cs=some y→∃a,cs=f a∧ok a)
  (h:DataW.trod enc Tryz.prog w base spare held fuel t cs=some x) :
  ∃(A:Option Addr) (c:Nat) (xs:List α),cs=[.slice A xs.length c]∧Sl f sz w w.heap.size A xs∧(∀a ∈ xs,ok a)∧xs.length≤c∧c≤9223372036854775807:=by
 rcases open_slice ht h with ⟨rfl,_⟩ | ⟨a,len,cap,m,n,D,Pl,rfl,_,hl,hm,hmm,_,hi⟩
 ·exact ⟨none,0,[],rfl,Sl.nil,by simp,by simp,by simp⟩
 have hlm:len≤m:=by rw [hmm];split <;> omega
 rw [hc] at hi
 obtain ⟨F,hF⟩:=choose_lt (α:=α) (p:=fun i y=>w.cells? base (a.add (i * sz)) sz=some (f y)∧ok y) (n:=len) (fun i hil=>by
  obtain ⟨cs',h1,h2⟩:=hi i (by omega)
  obtain ⟨y,rfl,hy⟩:=hrd _ _ _ h2
  exact ⟨y,h1,hy⟩)
 refine ⟨some a,cap,(List.range len).map F,by simp,fun hne=>?_,fun y hy=>?_,by simpa using hl,by simpa [maxLen] using hm⟩
 ·have hpos:0 < len:=by
   rcases Nat.eq_zero_or_pos len with h0 | h0
   ·subst h0;simp at hne
   ·exact h0
  obtain ⟨_,_,hcell0⟩:=World.cells?_some (hF 0 hpos).1
  have h00:=hcell0 0 hsz
  rw [List.getElem?_eq_getElem (by rw [hf];exact hsz)] at h00
  rw [Nat.zero_mul,add_add] at h00
  have hspot:a.spot=none:=by
   obtain ⟨b,o,spot⟩:=a
   simpa [Addr.add] using World.cell?_spot h00
  obtain ⟨b,o,spot⟩:=a
  simp only at hspot
  subst hspot
  refine ⟨b,o,rfl,?_,fun k y hk j u hu=>?_⟩
  ·simp only [Addr.add_lit,World.cell?] at h00
   rcases Nat.lt_or_ge b w.heap.size with h1 | h1
   ·exact h1
   ·rw [Array.getElem?_eq_none h1] at h00;simp at h00
  ·obtain ⟨hkl,rfl⟩:=List.getElem?_eq_some_iff.1 hk
   simp only [List.length_map,List.length_range] at hkl
   simp only [List.getElem_map,List.getElem_range] at hu
   have hj:j < sz:=by rw [←hf (F k)];exact (List.getElem?_eq_some_iff.1 hu).1
   obtain ⟨_,_,hcell⟩:=World.cells?_some (hF k hkl).1
   have:=hcell j hj
   rw [add_add,Addr.add_lit,←Nat.add_assoc] at this
   rw [this,hu]
 ·simp only [List.mem_map,List.mem_range] at hy
  obtain ⟨i,hil,rfl⟩:=hy
  exact (hF i hil).2
set_option maxRecDepth 100000 in
theorem rdv_ints (h : DataW.trod enc Tryz.prog w base spare held fuel 34 cs = some x) :
  ∃(A:Option Addr) (c:Nat) (xs:List Int),cs=[.slice A xs.length c]∧Sl intC 1 w w.heap.size A xs∧(∀a ∈ xs,I64 a)∧xs.length≤c∧c≤9223372036854775807 :=
 rdv_slice Tryz.underlying34 cells_int (by omega) intC_len (fun _ _ _ h=>rdv_int h) h
set_option maxRecDepth 100000 in
theorem cells_u8:Tryz.prog.cellsOf 5=1:=by kernel_rfl
instance:Inhabited Kn:=⟨⟨ByteArray.empty,0,default⟩⟩
set_option maxRecDepth 100000 in
theorem rdv_u8 (h:DataW.trod enc Tryz.prog w base spare held fuel 5 cs=some x):∃b:UInt8,cs=byteC b∧True:=by
 obtain ⟨n,rfl,_,hw⟩:=DataW.trod_int Tryz.underlying5 h
 have h1:=bounds_u8 hw
 refine ⟨UInt8.ofNat n.toNat,?_,trivial⟩
 unfold byteC
 rw [nat_u8 (by omega)]
 congr 2
 omega
set_option maxRecDepth 100000 in
theorem rdv_bytes (h : DataW.trod enc Tryz.prog w base spare held fuel 22 cs = some x) :
  ∃(A:Option Addr) (c:Nat) (xs:List UInt8),cs=[.slice A xs.length c]∧Sl byteC 1 w w.heap.size A xs∧xs.length≤c∧c≤9223372036854775807:=by
 obtain ⟨A,c,xs,e,h1,_,h2,h3⟩:=rdv_slice (ok:=fun _:UInt8=>True) Tryz.underlying22 cells_u8 (by omega) byteC_len (fun _ _ _ h=>rdv_u8 h) h
 exact ⟨A,c,xs,e,h1,h2,h3⟩
end
/-! The values of the parameters themselves. -/
section
variable {H : Type} {enc : TypeId × Value → H} {w : World} {base b0 : Nat} {spare : Nat → Bool} {held : Bool} {r : Reach} {v : Value} {d : DataW H} {p : List MemPlace}
set_option maxRecDepth 100000 in
theorem in_bytes (hv : Value.okWide Tryz.prog w r b0 22 v) (h : DataW.Trod enc Tryz.prog w base spare held 22 v d p) :
  ∃(A:Option Addr) (c:Nat) (xs:List UInt8),v=.slice A xs.length c∧Sl byteC 1 w w.heap.size A xs∧xs.length≤c∧c≤9223372036854775807:=by
 obtain ⟨A,n,c,rfl⟩:=okWide_slice Tryz.underlying22 hv
 obtain ⟨fuel,hf⟩:=h
 obtain ⟨A',c',xs,e,hr⟩:=rdv_bytes hf
 simp [Value.cells] at e
 obtain ⟨rfl,rfl,rfl⟩:=e
 exact ⟨_,_,xs,rfl,hr⟩
end
end Go.Proofs.YtheogchkelmeeaaGreatDoor

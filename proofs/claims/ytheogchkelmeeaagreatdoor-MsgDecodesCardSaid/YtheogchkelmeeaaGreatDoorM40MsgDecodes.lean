/- Several texts in one: MkSt, SameRg, RefMIn. -/
import Derived.Test.YtheogchkelmeeaaGreatDoorM26MsgDecodes
import Derived.Test.YtheogchkelmeeaaGreatDoorM27MsgDecodes
import Derived.Test.YtheogchkelmeeaaGreatDoorRefDecBatchQMsgDecodes
import Derived.Test.YtheogchkelmeeaaGreatDoorM39MsgDecodes
import Derived.Test.YtheogchkelmeeaaGreatDoorMsgRdLQMsgDecodes
import Derived.Test.YtheogchkelmeeaaGreatDoorM34MsgDecodes
/- How the document's reading of a message stands. No condition. -/
namespace Go.Proofs.YtheogchkelmeeaaGreatDoor
open Go.RowKit
section
variable {α β γ : Type}
theorem rb_assoc (d:Reader α) (k:α→Reader β) (k':β→Reader γ):rb (rb d k) k'=rb d fun x=>rb (k x) k':=by
 funext l
 cases h:d l with
 | none=>rw [rb_none (rb_none h),rb_none h]
 | some y =>
  obtain ⟨x,r⟩:=y
  have e1:rb d k l=k x r:=rb_some h
  have e2:rb d (fun x=>rb (k x) k') l=rb (k x) k' r:=rb_some h
  rw [e2]
  cases h2:k x r with
  | none=>rw [rb_none (e1.trans h2),rb_none h2]
  | some z =>
   obtain ⟨y,r2⟩:=z
   rw [rb_some (e1.trans h2),rb_some h2]
theorem rb_ret (x:α) (k:α→Reader β):rb (rp x) k=k x:=by
 funext l
 exact rb_some rfl
theorem dMany_map (d:Reader α) (f:α→β):∀n,dMany (rb d fun v=>rp (f v)) n=rb (dMany d n) fun xs=>rp (xs.map f)
 | 0=>by
  unfold dMany
  rw [rb_ret]
  rfl
 | n+1=>by
  unfold dMany
  rw [dMany_map d f n]
  simp only [rb_assoc,rb_ret]
  rfl
theorem Gives.tx {st st1:Option (List UInt8)} {a b c:Nat} (h:Gives (d3 1099511627776) st st1 (a,b,c)):Gives mTx st st1 ⟨a,b,c⟩:=by
 have h1:=h.map (f:=fun x:Nat × Nat × Nat=>(⟨x.1,x.2.1,x.2.2⟩:Tr))
 unfold d3 at h1
 simp only [rb_assoc,rb_ret] at h1
 unfold mTx iM mI
 simp only [rb_assoc,rb_ret]
 exact h1
theorem Gives.rng {st st1:Option (List UInt8)} {a b c d:Nat} (h:Gives (d4 1099511627776) st st1 (a,b,c,d)):Gives mRg st st1 ⟨a,b,c,d⟩:=by
 have h1:=h.map (f:=fun x:Nat × Nat × Nat × Nat=>(⟨x.1,x.2.1,x.2.2.1,x.2.2.2⟩:Rg))
 unfold d4 at h1
 simp only [rb_assoc,rb_ret] at h1
 unfold mRg iM mI
 simp only [rb_assoc,rb_ret]
 exact h1
theorem Gives.ints {st st1:Option (List UInt8)} {ns:List Nat} (h:Gives (dInts 1099511627776) st st1 ns):Gives mInts st st1 (ofN ns):=by
 have h1:=h.map (f:=ofN)
 unfold dInts at h1
 simp only [rb_assoc] at h1
 unfold mInts mList iM mI
 simp only [dMany_map]
 exact h1
end
/-- A message that is being read lies in block X, its lists are the call's own. -/
structure MkSt (X base:Nat) (m:MsgM) (w:World):Prop where
 blk:w.heap[X]?=some (.cells m.cells 41 (0,0))
 firsts:OwnL 3 1 intC w base (.slice m.An m.firsts.length m.cn) m.firsts
 puts:PutsOwn base m.Ap m.cp m.ps w
 sms:SmsOwn base m.As m.cs m.sms w
 es:OwnL 76 7 Ev.cells w base (.slice m.Ae m.es.length m.ce) m.es
 rgs:OwnL 36 4 Rg.cells w base (.slice m.Ag m.rgs.length m.cg) m.rgs
 fit:m.Fit0
/-- A type that is none of a list's. -/
def AlienT (t:TypeId):Prop:=t≠3∧(t≠110∧t≠9)∧(t≠118∧t≠76∧t≠131)∧t≠36
section
variable {X base : Nat} {m m' : MsgM} {w w' : World}
/-- Its lists, behind a turn of blocks that are none of theirs. -/
structure MkLs (base:Nat) (m:MsgM) (w:World):Prop where
 firsts:OwnL 3 1 intC w base (.slice m.An m.firsts.length m.cn) m.firsts
 puts:PutsOwn base m.Ap m.cp m.ps w
 sms:SmsOwn base m.As m.cs m.sms w
 es:OwnL 76 7 Ev.cells w base (.slice m.Ae m.es.length m.ce) m.es
 rgs:OwnL 36 4 Rg.cells w base (.slice m.Ag m.rgs.length m.cg) m.rgs
theorem MkSt.ls (h:MkSt X base m w):MkLs base m w:=⟨h.firsts,h.puts,h.sms,h.es,h.rgs⟩
theorem MkLs.but {S:Nat→Prop} (h:MkLs base m w) (hb:But S w w') (hS:∀(k:Nat) (cs:Array Value) (t:TypeId),S k→w.heap[k]?=some (.cells cs t (0,0))→AlienT t):MkLs base m w' :=
 ⟨h.firsts.but' hb fun k hk hSk=>by
  obtain ⟨_,_,c,hc⟩:=h.firsts.blk hk
  exact (hS k c _ hSk hc).1 rfl,h.puts.but hb fun k cs t hSk hc=>(hS k cs t hSk hc).2.1,h.sms.but hb fun k cs t hSk hc=>(hS k cs t hSk hc).2.2.1,h.es.but' hb fun k hk hSk=>by
  obtain ⟨_,_,c,hc⟩:=h.es.blk hk
  exact (hS k c _ hSk hc).2.2.1.2.1 rfl,h.rgs.but' hb fun k hk hSk=>by
  obtain ⟨_,_,c,hc⟩:=h.rgs.blk hk
  exact (hS k c _ hSk hc).2.2.2 rfl⟩
theorem MkSt.but {S:Nat→Prop} (h:MkSt X base m w) (hb:But S w w') (hX:¬ S X) (hS:∀(k:Nat) (cs:Array Value) (t:TypeId),S k→w.heap[k]?=some (.cells cs t (0,0))→AlienT t):MkSt X base m w':=by
 have h1:=h.ls.but hb hS
 exact ⟨hb.blk h.blk hX,h1.firsts,h1.puts,h1.sms,h1.es,h1.rgs,h.fit⟩
theorem MkSt.g (h:MkSt X base m w) (hg:G w w'):MkSt X base m w':=h.but (But.of_g (S:=fun _=>False) hg) (fun h=>h) fun _ _ _ h=>h.elim
theorem MkSt.free (h:MkSt X base m w) (o:Nat):w.frozen? ⟨X,o,none⟩=false:=by simp [World.frozen?,h.blk]
/-- Its own block is turned. -/
theorem MkSt.own (h:MkSt X base m w) (hb:But (fun k=>k=X) w w'):MkLs base m w':=h.ls.but hb fun k cs t hk hc=>by
 have e:k=X:=hk
 subst e
 rw [h.blk] at hc
 simp at hc
 rw [←hc.2]
 unfold AlienT
 decide
theorem MkLs.ins (h:MkLs base m w):m.In w:=⟨h.puts.ins,h.firsts.self intC_len,h.sms.ins,h.es.self Ev.cells_len,h.rgs.self Rg.cells_len⟩
end
/-- How it stands. -/
structure DkM (R X E Z:Nat) (A:Option Addr) (c8:Nat) (l0:List UInt8) (W:World) (m:MsgM) (st:Option (List UInt8)) (wx:World):Prop where
 rd:RdS 64 R A c8 l0 st wx
 rc:MkSt X (X+1) m wx
 eb:wx.heap[E]?=some (.cells #[.pointer (some ⟨R,0,none⟩)] 66 (0,0))
 zb:wx.heap[Z]?=some (.cells (MsgM.zero 0).cells 41 (0,0))
 g:G W wx
 lt:Z < R∧R < E∧E < X∧W.heap.size≤Z
section
variable {R X E Z : Nat} {A : Option Addr} {c8 : Nat} {l0 : List UInt8} {W wx wy wz : World} {st st1 : Option (List UInt8)} {m m' : MsgM}
theorem DkM.call (h:DkM R X E Z A c8 l0 W m st wx) (hb:But (fun k=>k=R) wx wy):MkSt X (X+1) m wy:=h.rc.but hb (fun e=>by have e2:X=R:=e;have:=h.lt;omega) fun k cs t hk hc=>by
 have e:k=R:=hk
 subst e
 rw [h.rd.tyAt hc]
 unfold AlienT
 decide
/-- The reader is turned, then the message's block. -/
theorem DkM.store (h:DkM R X E Z A c8 l0 W m st wx) (hr:RdS 64 R A c8 l0 st1 wy) (hb:But (fun k=>k=R) wx wy) (hb4:But (fun k=>k=X) wy wz) (hrc:MkSt X (X+1) m' wz):DkM R X E Z A c8 l0 W m' st1 wz:=by
 obtain ⟨h1,h2,h3,h4⟩:=h.lt
 exact ⟨hr.but hb4 (fun k hk e=>by have e2:k=X:=e;omega),hrc,hb4.blk (hb.blk h.eb (by intro e;have e2:E=R:=e;omega)) (by intro e;have e2:E=X:=e;omega),hb4.blk (hb.blk h.zb (by intro e;have e2:Z=R:=e;omega)) (by intro e;have e2:Z=X:=e;omega),(h.g.gOf' hb (by intro k e;have e2:k=R:=e;omega)).gOf' hb4 (by intro k e;have e2:k=X:=e;omega),h.lt⟩
/-- The reader alone is turned. -/
theorem DkM.read (h:DkM R X E Z A c8 l0 W m st wx) (hr:RdS 64 R A c8 l0 st1 wy) (hb:But (fun k=>k=R) wx wy):DkM R X E Z A c8 l0 W m st1 wy:=by
 obtain ⟨h1,h2,h3,h4⟩:=h.lt
 exact ⟨hr,h.call hb,hb.blk h.eb (by intro e;have e2:E=R:=e;omega),hb.blk h.zb (by intro e;have e2:Z=R:=e;omega),h.g.gOf' hb (by intro k e;have e2:k=R:=e;omega),h.lt⟩
theorem DkM.gr (h:DkM R X E Z A c8 l0 W m st wx) (hg:G wx wy):DkM R X E Z A c8 l0 W m st wy:=⟨h.rd.g hg,h.rc.g hg,hg.blk h.eb,hg.blk h.zb,h.g.trans hg,h.lt⟩
theorem DkM.ptr (h:DkM R X E Z A c8 l0 W m st wx):wx.cell? ⟨E,0,none⟩=some (.pointer (some ⟨R,0,none⟩)):=(blk_cell h.eb 0).trans rfl
/-- The message's block and own rows are turned. -/
theorem DkM.turn (h:DkM R X E Z A c8 l0 W m st wx) (hb:But (fun k=>k=X∨X+1≤k) wx wz) (hrc:MkSt X (X+1) m' wz):DkM R X E Z A c8 l0 W m' st wz:=by
 obtain ⟨h1,h2,h3,h4⟩:=h.lt
 exact ⟨h.rd.but hb (fun k hk e=>by have e2:k=X∨X+1≤k:=e;omega),hrc,hb.blk h.eb (by intro e;have e2:E=X∨X+1≤E:=e;omega),hb.blk h.zb (by intro e;have e2:Z=X∨X+1≤Z:=e;omega),h.g.gOf' hb (by intro k e;have e2:k=X∨X+1≤k:=e;omega),h.lt⟩
end
/-- What the switch ends with. -/
def DkEnd (R X E Z:Nat) (A:Option Addr) (c8:Nat) (l0:List UInt8) (W:World) (K:Int) (st0:Option (List UInt8)) (wx:World):Prop :=
 ∃m st,DkM R X E Z A c8 l0 W m st wx∧m.kind=K∧m.only=m∧((kOk K=true∧Gives (dDoc K) st0 st m.p)∨(kOk K=false∧m=MsgM.zero K∧st=st0))
section
variable {X base : Nat} {m : MsgM} {wx wz : World}
/-- An event is put behind the message's. -/
theorem MkSt.pushE (h : MkSt X base m wx) {es' : List Ev} {A' : Option Addr} {c' : Nat} (hown : OwnL 76 7 Ev.cells wz base (.slice A' es'.length c') es') (hk : KeepT 76 base wx wz) (hb : But (fun k => some k = (Value.slice m.Ae m.es.length m.ce).ownBlock) wx wz) (hs0 : m.sms = []) :
  wz.frozen? ⟨X,19,none⟩=false∧(∃u,wz.cell? ⟨X,19,none⟩=some u)∧MkSt X base { m with Ae:=A',ce:=c',es:=es' } (wz.setCell ⟨X,19,none⟩ (.slice A' es'.length c'))∧But (fun k=>k=X∨base≤k) wx (wz.setCell ⟨X,19,none⟩ (.slice A' es'.length c')):=by
 have hX:=hk.2 _ _ _ _ (by decide) h.blk
 have hty:∀(k:Nat) (cs:Array Value) (t:TypeId),some k=(Value.slice m.Ae m.es.length m.ce).ownBlock→wx.heap[k]?=some (.cells cs t (0,0))→t=76:=fun k cs t hk' hc=>by
  obtain ⟨_,_,c,hc2⟩:=h.es.blk hk'.symm
  rw [hc] at hc2
  simp at hc2
  exact hc2.2
 have hx:=but_set wz X 19 (.slice A' es'.length c')
 have hxt:∀(k:Nat) (cs:Array Value) (t:TypeId),k=X→wz.heap[k]?=some (.cells cs t (0,0))→t=41:=by
  rintro k cs t rfl hc
  rw [hX] at hc
  simp at hc
  exact hc.2.symm
 refine ⟨by simp [World.frozen?,hX],⟨_,(blk_cell hX 19).trans rfl⟩,⟨?_,?_,?_,?_,?_,?_,⟨h.fit.key,h.fit.ps,h.fit.sms⟩⟩,(hb.mono fun k _ hS=>.inr (h.es.blk hS.symm).1).trans (hx.mono fun k _ hS=>.inl hS)⟩
 ·rw [blk_put hX]
  rfl
 ·exact (h.firsts.keepT hk (by decide)).but' hx fun k hk' e=>by
   obtain ⟨_,_,c,hc2⟩:=(h.firsts.keepT hk (by decide)).blk hk'
   have:=hxt k c _ e hc2
   revert this
   decide
 ·exact (h.puts.but hb fun k cs t hS hc=>by rw [hty k cs t hS hc];decide).but hx fun k cs t hS hc=>by rw [hxt k cs t hS hc];decide
 ·refine ⟨?_,fun s hs=>?_⟩
  ·exact (h.sms.row.keepT hk (by decide)).but' hx fun k hk' e=>by
    obtain ⟨_,_,c,hc2⟩:=(h.sms.row.keepT hk (by decide)).blk hk'
    have:=hxt k c _ e hc2
    revert this
    decide
  ·have hs':s ∈ m.sms:=hs
   rw [hs0] at hs'
   cases hs'
 ·exact hown.but' hx fun k hk' e=>by
   obtain ⟨_,_,c,hc2⟩:=hown.blk hk'
   have:=hxt k c _ e hc2
   revert this
   decide
 ·exact (h.rgs.keepT hk (by decide)).but' hx fun k hk' e=>by
   obtain ⟨_,_,c,hc2⟩:=(h.rgs.keepT hk (by decide)).blk hk'
   have:=hxt k c _ e hc2
   revert this
   decide
/-- A range is put behind the message's. -/
theorem MkSt.pushR (h : MkSt X base m wx) {gs' : List Rg} {A' : Option Addr} {c' : Nat} (hown : OwnL 36 4 Rg.cells wz base (.slice A' gs'.length c') gs') (hk : KeepT 36 base wx wz) (hb : But (fun k => some k = (Value.slice m.Ag m.rgs.length m.cg).ownBlock) wx wz) (hs0 : m.sms = []) :
  wz.frozen? ⟨X,20,none⟩=false∧(∃u,wz.cell? ⟨X,20,none⟩=some u)∧MkSt X base { m with Ag:=A',cg:=c',rgs:=gs' } (wz.setCell ⟨X,20,none⟩ (.slice A' gs'.length c'))∧But (fun k=>k=X∨base≤k) wx (wz.setCell ⟨X,20,none⟩ (.slice A' gs'.length c')):=by
 have hX:=hk.2 _ _ _ _ (by decide) h.blk
 have hty:∀(k:Nat) (cs:Array Value) (t:TypeId),some k=(Value.slice m.Ag m.rgs.length m.cg).ownBlock→wx.heap[k]?=some (.cells cs t (0,0))→t=36:=fun k cs t hk' hc=>by
  obtain ⟨_,_,c,hc2⟩:=h.rgs.blk hk'.symm
  rw [hc] at hc2
  simp at hc2
  exact hc2.2
 have hx:=but_set wz X 20 (.slice A' gs'.length c')
 have hxt:∀(k:Nat) (cs:Array Value) (t:TypeId),k=X→wz.heap[k]?=some (.cells cs t (0,0))→t=41:=by
  rintro k cs t rfl hc
  rw [hX] at hc
  simp at hc
  exact hc.2.symm
 refine ⟨by simp [World.frozen?,hX],⟨_,(blk_cell hX 20).trans rfl⟩,⟨?_,?_,?_,?_,?_,?_,⟨h.fit.key,h.fit.ps,h.fit.sms⟩⟩,(hb.mono fun k _ hS=>.inr (h.rgs.blk hS.symm).1).trans (hx.mono fun k _ hS=>.inl hS)⟩
 ·rw [blk_put hX]
  rfl
 ·exact (h.firsts.keepT hk (by decide)).but' hx fun k hk' e=>by
   obtain ⟨_,_,c,hc2⟩:=(h.firsts.keepT hk (by decide)).blk hk'
   have:=hxt k c _ e hc2
   revert this
   decide
 ·exact (h.puts.but hb fun k cs t hS hc=>by rw [hty k cs t hS hc];decide).but hx fun k cs t hS hc=>by rw [hxt k cs t hS hc];decide
 ·refine ⟨?_,fun s hs=>?_⟩
  ·exact (h.sms.row.keepT hk (by decide)).but' hx fun k hk' e=>by
    obtain ⟨_,_,c,hc2⟩:=(h.sms.row.keepT hk (by decide)).blk hk'
    have:=hxt k c _ e hc2
    revert this
    decide
  ·have hs':s ∈ m.sms:=hs
   rw [hs0] at hs'
   cases hs'
 ·exact (h.es.keepT hk (by decide)).but' hx fun k hk' e=>by
   obtain ⟨_,_,c,hc2⟩:=(h.es.keepT hk (by decide)).blk hk'
   have:=hxt k c _ e hc2
   revert this
   decide
 ·exact hown.but' hx fun k hk' e=>by
   obtain ⟨_,_,c,hc2⟩:=hown.blk hk'
   have:=hxt k c _ e hc2
   revert this
   decide
end
end Go.Proofs.YtheogchkelmeeaaGreatDoor
/- penstockref7.SameRanges of two lists alike: true. Condition: the length fits an int. -/
namespace Go.Proofs.YtheogchkelmeeaaGreatDoor
open Go.RowKit
theorem Sl.rg {w : World} {B : Nat} {A : Option Addr} {xs : List Rg} {k : Nat} {x : Rg} (h : Sl Rg.cells 4 w B A xs) (hx : xs[k]? = some x) :
  ∃b o,A=some ⟨b,o,none⟩∧b < B∧w.cell? ⟨b,o+k * 4,none⟩=some (.int .i64 x.a)∧w.cell? ⟨b,o+k * 4+1,none⟩=some (.int .i64 x.b)∧w.cell? ⟨b,o+k * 4+2,none⟩=some (.int .i64 x.c)∧w.cell? ⟨b,o+k * 4+3,none⟩=some (.int .i64 x.d):=by
 obtain ⟨b,o,e,hb,hc⟩:=h.get hx
 exact ⟨b,o,e,hb,hc 0 _ rfl,hc 1 _ rfl,hc 2 _ rfl,hc 3 _ rfl⟩
theorem rgB_self (a b c d:Int):rgB a b c d a b c d=true:=by simp [rgB]
set_option maxHeartbeats 1000000 in
theorem sameRgs_yes (xs : List Rg) (A A2 : Option Addr) (c c2 B B2 : Nat) (w : World) (hB : B ≤ w.heap.size) (hB2 : B2 ≤ w.heap.size) (hl : xs.length ≤ 9223372036854775806) (hs : Sl Rg.cells 4 w B A xs) (hs2 : Sl Rg.cells 4 w B2 A2 xs) :
  Calls Tryz.prog 30 #[.slice A xs.length c,.slice A2 xs.length c2] w fun e w'=>e=.returned (.bool true)∧G w w':=by
 go_enter Tryz.func30,Tryz.ntmps30
 go_wp2_with fail
 go_loopw [5] (fun i wr=>∃k:Nat,i=.int .i64 k∧k≤xs.length∧G w wr) (fun i _=>xs.length - (intOf i).toNat)
 case atStart=>exact ⟨0,rfl,Nat.zero_le _,G.refl _⟩
 case round =>
  obtain ⟨k,rfl,hk,hg⟩:=hrel
  by_cases hlt:k < xs.length
  ·obtain ⟨x,hx⟩:∃x,xs[k]?=some x:=⟨_,List.getElem?_eq_getElem hlt⟩
   obtain ⟨b,o,rfl,hb,c0,c1,c2,c3⟩:=(hs.g hB hg).rg hx
   obtain ⟨b2,o2,rfl,hb2,d0,d1,d2,d3⟩:=(hs2.g hB2 hg).rg hx
   obtain ⟨xa,xb,xc,xd⟩:=x
   dsimp only at c0 c1 c2 c3 d0 d1 d2 d3
   have n1:(0:Int)≤(k:Int):=by omega
   have n2:(k:Int) < (xs.length:Int):=by omega
   have hq:=@rg_neq
   have hs0:=rgB_self xa xb xc xd
   replace hx:=Lib.hid hx
   clear hs hs2
   go_upto_region 6 with fail
   go_quiet (fail)
   go_wp2_with fail
   go_roundw
   case rel=>exact ⟨k+1,by go_num,by omega,by first | exact hg | exact hg.drew | exact hg.drewN _⟩
   case measure=>(simp [intOf] <;> omega)
  ·clear hs hs2
   go_wp2_with fail
   go_ret
   exact ⟨rfl,hg⟩
end Go.Proofs.YtheogchkelmeeaaGreatDoor
/- penstockref10.in, ranges: what they answer. Condition: lengths that fit an int. -/
namespace Go.Proofs.YtheogchkelmeeaaGreatDoor
open Go.RowKit
theorem all_take_snocM {α:Type} {p:α→Bool} {l:List α} {k:Nat} {x:α} (h:l[k]?=some x) (h1:(l.take k).all p=true) (h2:p x=true):(l.take (k+1)).all p=true:=by
 rw [List.take_add_one,h,List.all_append,h1]
 simp [h2]
theorem all_notM {α:Type} {p:α→Bool} {l:List α} {k:Nat} {x:α} (h:l[k]?=some x) (h2:p x=false):l.all p=false:=List.all_eq_false.2 ⟨x,List.mem_of_getElem? h,by rw [h2];simp⟩
set_option maxRecDepth 100000 in
set_option maxHeartbeats 2000000 in
theorem in10_any (l : List Int) (A : Option Addr) (c B : Nat) (w : World) (hl : l.length ≤ 9223372036854775806) (hs : Sl intC 1 w B A l) :
  Calls Tryz.prog 85 #[.slice A l.length c] w fun e w'=>e=.returned (.bool (inB l))∧G w w':=by
 obtain ⟨CK,hCK⟩:∃b,inB l=b:=⟨_,rfl⟩
 rw [hCK]
 unfold inB at hCK
 replace hCK:=Lib.hid hCK
 replace hs:=Lib.hid hs
 go_enter Tryz.func85,Tryz.ntmps85
 go_wp2_with fail
 go_loop [3] (fun i=>∃k:Nat,k≤l.length∧i=.int .i64 k∧Hid (okIs 1099511627776 (l.take k)=true)) (fun i=>l.length - (intOf i).toNat)
 case atStart=>exact ⟨0,Nat.zero_le _,rfl,Lib.hid rfl⟩
 case round =>
  obtain ⟨k,hkl,rfl,hio⟩:=hrel
  by_cases hlt:k < l.length
  ·obtain ⟨x,hx⟩:∃x,l[k]?=some x:=⟨_,List.getElem?_eq_getElem hlt⟩
   obtain ⟨b5,o5,rfl,_,hcx⟩:=hs.out.int hx
   have n1:(0:Int)≤(k:Int):=by omega
   have n2:(k:Int) < (l.length:Int):=by omega
   cases hxo:okI 1099511627776 x with
   | false =>
    obtain rfl:CK=false:=by rw [←hCK.out,okIs_not hx hxo];rfl
    have hxo':=of_decide_eq_false hxo
    replace hxo:=Lib.hid hxo
    replace hx:=Lib.hid hx
    by_cases h0:x < 0
    ·have m1:decide (x < 0)=true:=decide_eq_true h0
     clear hxo'
     go_wp2_with fail
     go_ret
     exact ⟨rfl,G.refl _⟩
    ·have m1:decide (x < 0)=false:=decide_eq_false h0
     have m2:decide (1099511627776 < x)=true:=decide_eq_true (by omega)
     clear hxo'
     go_wp2_with fail
     go_ret
     exact ⟨rfl,G.refl _⟩
   | true =>
    have hxo':=of_decide_eq_true hxo
    have hnx:=Lib.hid (okIs_take hx hio.out hxo)
    have m1:decide (x < 0)=false:=decide_eq_false (by omega)
    have m2:decide (1099511627776 < x)=false:=decide_eq_false (by omega)
    replace hxo:=Lib.hid hxo
    replace hx:=Lib.hid hx
    clear hxo'
    go_wp2_with fail
    go_round
    case rel=>exact ⟨k+1,by omega,by go_num,hnx⟩
    case measure=>simp [intOf];omega
  ·have hall:=hio.out
   rw [List.take_of_length_le (by omega)] at hall
   obtain rfl:CK=decide ((l.length:Int)≤1000):=by
    rw [←hCK.out,hall,Bool.true_and,decide_eq_decide]
    omega
   clear hio hall hs
   go_wp2_with fail
   go_ret
   exact ⟨rfl,G.refl _⟩
set_option maxRecDepth 100000 in
set_option maxHeartbeats 4000000 in
theorem ranges10_any (l : List Rg) (A : Option Addr) (c B : Nat) (w : World) (hB : B ≤ w.heap.size) (hl : l.length ≤ 9223372036854775806) (hs : Sl Rg.cells 4 w B A l) :
  Calls Tryz.prog 86 #[.slice A l.length c] w fun e w'=>e=.returned (.bool (rgsB l))∧G w w':=by
 obtain ⟨CK,hCK⟩:∃b,rgsB l=b:=⟨_,rfl⟩
 rw [hCK]
 unfold rgsB at hCK
 replace hCK:=Lib.hid hCK
 replace hs:=Lib.hid hs
 go_enter Tryz.func86,Tryz.ntmps86
 go_wp2_with fail
 go_loopw [3] (fun i wr=>∃k:Nat,k≤l.length∧i=.int .i64 k∧Hid ((l.take k).all (fun g=>inB (rgNs g))=true)∧G w wr) (fun i _=>l.length - (intOf i).toNat)
 case atStart=>exact ⟨0,Nat.zero_le _,rfl,Lib.hid rfl,G.refl _⟩
 case round =>
  obtain ⟨wo,rfl⟩:∃wo:World,wo=wr:=⟨_,rfl⟩
  obtain ⟨k,hkl,rfl,hio,hg⟩:=hrel
  by_cases hlt:k < l.length
  ·obtain ⟨x,hx⟩:∃x,l[k]?=some x:=⟨_,List.getElem?_eq_getElem hlt⟩
   obtain ⟨b,o,rfl,hb,c0,c1,c2,c3⟩:=(hs.out.g hB hg).rg hx
   have hb':b < wo.heap.size:=by have:=hg.size;omega
   obtain ⟨xa,xb,xc,xd⟩:=x
   dsimp only at c0 c1 c2 c3
   have q0:∀w',G wo w'→w'.cell? ⟨b,o+k * 4,none⟩=some (.int .i64 xa):=fun w' h=>(h.cell hb').trans c0
   have q1:∀w',G wo w'→w'.cell? ⟨b,o+k * 4+1,none⟩=some (.int .i64 xb):=fun w' h=>(h.cell hb').trans c1
   have q2:∀w',G wo w'→w'.cell? ⟨b,o+k * 4+2,none⟩=some (.int .i64 xc):=fun w' h=>(h.cell hb').trans c2
   have q3:∀w',G wo w'→w'.cell? ⟨b,o+k * 4+3,none⟩=some (.int .i64 xd):=fun w' h=>(h.cell hb').trans c3
   have n1:(0:Int)≤(k:Int):=by omega
   have n2:(k:Int) < (l.length:Int):=by omega
   have n3:k < l.length:=hlt
   have hcall:∀(b4:Nat) (w':World),w'.cell? ⟨b4,0,none⟩=some (.int .i64 xa)→w'.cell? ⟨b4,1,none⟩=some (.int .i64 xb)→w'.cell? ⟨b4,2,none⟩=some (.int .i64 xc)→w'.cell? ⟨b4,3,none⟩=some (.int .i64 xd)→Calls Tryz.prog 85 #[.slice (some ⟨b4,0,none⟩) 4 4] w' fun e w''=>e=.returned (.bool (inB (rgNs ⟨xa,xb,xc,xd⟩)))∧G w' w'':=fun b4 w' d0 d1 d2 d3=>in10_any [xa,xb,xc,xd] (some ⟨b4,0,none⟩) 4 (b4+1) w' (by simp) (sl_4 d0 d1 d2 d3)
   have hdr:G wo wo.drew:=(G.refl _).drew
   replace hcall:=Lib.hid hcall
   replace hx:=Lib.hid hx
   replace hs:=Lib.hid hs
   clear c0 c1 c2 c3
   cases hxo:inB (rgNs ⟨xa,xb,xc,xd⟩) with
   | false =>
    rw [hxo] at hcall
    obtain rfl:CK=false:=by rw [←hCK.out,all_notM hx.out hxo];rfl
    replace hxo:=Lib.hid hxo
    go_upto_region 4 with fail
    go_region_held3 (fun w'=>G wo w') (first | exact hdr | exact G.keep hc1 (by assumption) | exact G.alloc (by assumption) _ | assumption | fail) (first
     | (go_at_call 85;refine (hcall.out _ _ (by simp) (by simp) (by simp) (by simp)).mono ?_;rintro e w2 ⟨rfl,hc1⟩))
    all_goals
     have hGe:G wo w2:=by assumption
     go_wp2_with fail
     go_ret
     exact ⟨rfl,hg.trans hGe⟩
   | true =>
    rw [hxo] at hcall
    have hnx:=Lib.hid (all_take_snocM hx.out hio.out hxo)
    replace hxo:=Lib.hid hxo
    go_upto_region 4 with fail
    go_region_held3 (fun w'=>G wo w') (first | exact hdr | exact G.keep hc1 (by assumption) | exact G.alloc (by assumption) _ | assumption | fail) (first
     | (go_at_call 85;refine (hcall.out _ _ (by simp) (by simp) (by simp) (by simp)).mono ?_;rintro e w2 ⟨rfl,hc1⟩))
    all_goals
     have hGe:G wo w2:=by assumption
     go_wp2_with fail
     go_roundw
     case rel=>exact ⟨k+1,by omega,by go_num,hnx,hg.trans hGe⟩
     case measure=>simp [intOf];omega
  ·have hall:=hio.out
   rw [List.take_of_length_le (by omega)] at hall
   obtain rfl:CK=decide ((l.length:Int)≤1000):=by
    rw [←hCK.out,hall,Bool.true_and,decide_eq_decide]
    omega
   clear hio hall hs
   go_wp2_with fail
   go_ret
   exact ⟨rfl,hg⟩
end Go.Proofs.YtheogchkelmeeaaGreatDoor

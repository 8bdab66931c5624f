/- msg.reader's batch and lists: what they answer. Conditions: at most 2^19 bytes; the decoder's tables lie as the library lays them. -/
import Derived.Test.YtheogchkelmeeaaGreatDoorM32MsgDecodes
import Derived.Test.YtheogchkelmeeaaGreatDoorM26MsgDecodes
import Derived.Test.YtheogchkelmeeaaGreatDoorDecSmQMsgDecodes
import Derived.Test.YtheogchkelmeeaaGreatDoorM14MsgDecodes
namespace Go.Proofs.YtheogchkelmeeaaGreatDoor
open Go.RowKit
theorem But.over2 {S T:Nat→Prop} {a b c:World} (h:But S a b) (k:But T b c) (hT:∀j,T j→a.heap.size≤j∨S j):But S a c :=
 ⟨k.os.trans h.os,k.tape.trans h.tape,k.output.trans h.output,Nat.le_trans h.size k.size,fun j hj hS=>(k.block j (Nat.lt_of_lt_of_le hj h.size) fun e=>by
  rcases hT j e with h1 | h1
  ·omega
  ·exact hS h1).trans (h.block j hj hS)⟩
set_option maxRecDepth 100000 in
theorem rg_elem:IsElem Tryz.prog 39 36 4 32 Rg.cells :=
 isElem_of (z:=.agg #[.int .i64 0,.int .i64 0,.int .i64 0,.int .i64 0]) Tryz.underlying39 (by kernel_rfl) rfl (by decide) Rg.cells_len (fun x u hu=>by simp [Rg.cells] at hu;rcases hu with rfl | rfl | rfl | rfl <;> rfl)
theorem SmsOwn.push {base : Nat} {As A' : Option Addr} {cs c' : Nat} {ss ss' : List SmM} {wx wz : World} (h : SmsOwn base As cs ss wx) (hown : OwnL 118 3 SmM.cells wz base (.slice A' ss'.length c') ss') (hb : But (fun k => some k = (Value.slice As ss.length cs).ownBlock) wx wz)
  (hall:∀s ∈ ss',SmOwn base s.Ae s.ce s.es s.Ak s.ck s.ks wx):SmsOwn base A' c' ss' wz :=
 ⟨hown,fun s hs=>(hall s hs).but hb fun k cs t hS hc=>by
  obtain ⟨_,_,c,hc2⟩:=h.row.blk hS.symm
  rw [hc] at hc2
  simp at hc2
  rw [hc2.2]
  decide⟩
/-- An own row's block is none of an elder one. -/
theorem OwnL.at_ge {α:Type} {e:TypeId} {sz:Nat} {f:α→List Value} {w:World} {base n c:Nat} {A:Option Addr} {xs:List α} (h:OwnL e sz f w base (.slice A n c) xs):∀k,some k=(Value.slice A n c).ownBlock→base≤k:=fun _ hk=>(h.blk hk.symm).1
theorem mr_own {T:TypeId} {R D L base:Nat} {st:Option (List UInt8)} {w w':World} {α:Type} {e:TypeId} {sz:Nat} {f:α→List Value} {n c:Nat} {A:Option Addr} {xs:List α} (h:BrS T R D L st w) (hown:OwnL e sz f w base (.slice A n c) xs) (hb:But (fun k=>some k=(Value.slice A n c).ownBlock) w w') (hR:R < base):BrS T R D L st w' :=
 h.but hb fun k hk=>by
  have h1:=hown.at_ge k hk
  have h2:=h.le
  omega
set_option maxRecDepth 100000 in
set_option maxHeartbeats 2000000 in
theorem mrBatch_any (R D L : Nat) (st : Option (List UInt8)) (w : World) (h : BrS 59 R D L st w) (hL : L ≤ 1073741824) (hT : Tabs w) :
  Calls Tryz.prog 35 #[.pointer (some ⟨R,0,none⟩)] w (fun e w'=>∃(key:ByteArray) (Ap:Option Addr) (cp:Nat) (ps:List PutM) (st':Option (List UInt8)),e=.returned (.agg #[.string key,.slice Ap ps.length cp])∧BrS 59 R D L st' w'∧But (fun k=>k=R) w w'∧Gives dBatch st st' (key,ps.map PutM.p)∧PutsOwn w.heap.size Ap cp ps w'∧key.size≤1073741824∧PutsSmall ps):=by
 have hlt:=h.lt
 have hg0:=G.new w (.cells #[.string ⟨#[]⟩,.slice none 0 0] 31)
 have B0:=blk_new w #[.string ⟨#[]⟩,.slice none 0 0] 31
 have hr0:=h.g hg0
 obtain ⟨A,l,c,g1,g2,g3,g4,g5⟩:=hr0.any
 have c0:=(blk_cell g1 0).trans (show _=some (.slice A l.length c) from rfl)
 have hzx:=hr0.lt
 have hDR:=hr0.le
 have hcb:=decBatch_any l A c _ (g2.more (by omega)) (by omega) g3 (hT.g hg0)
 have hz0:=hg0.size
 replace g1:=Lib.hid g1
 replace g5:=Lib.hid g5
 replace hcb:=Lib.hid hcb
 replace g2:=Lib.hid g2
 replace hT:=Lib.hid hT
 clear h
 go_enter Tryz.func35,Tryz.ntmps35
 go_upto_region 1 with fail
 generalize w.alloc (.cells #[.string ⟨#[]⟩,.slice none 0 0] 31)=W0 at *
 go_upto_region 2 with (go_at_call 70;(with_reducible refine Calls.mono hcb.out ?_);rintro e u1 ⟨kk,Ak,ck,mk,nk,ek,rfl,hbt,hzk,hsk,hok,hg1⟩;replace hbt:=Lib.hid hbt;replace hsk:=Lib.hid hsk;replace hok:=Lib.hid hok)
 clear c0 hcb
 have hG8:=G.new u1 (.cells #[.string kk,.slice Ak mk.length ck] 31)
 have hK8:=blk_new u1 #[.string kk,.slice Ak mk.length ck] 31
 have hGx:=hg1.trans hG8
 have hr8:=hr0.g hGx
 have B8:=hGx.blk B0
 have hz8:=hg1.size
 have hok8:=PutsOwn.mono (base':=w.heap.size) (PutsOwn.but hok.out (But.of_g (S:=fun _=>False) hG8) (fun _ _ _ h=>h.elim)) (by omega)
 generalize u1.alloc (.cells #[.string kk,.slice Ak mk.length ck] 31)=w8 at *
 generalize u1.heap.size=b8 at *
 have htk:∀l',st=some l'→nk≤l'.length:=fun l' e=>by
  obtain rfl:=g5.out l' e
  have h1:=hbt.out
  unfold batT at h1
  split at h1 <;> (simp only [Prod.mk.injEq] at h1;omega)
 have hto:=Lib.hid (msgTake_any R D L st nk w8 hr8 htk hL)
 have hgv:Gives dBatch st (tk st nk) (kk,mk.map PutM.p):=tk_gives fun l' e=>by
  obtain rfl:=g5.out l' e
  have h1:=hbt.out
  cases hd:dBatch l' with
  | none =>
   rw [hd] at h1
   simp only [batT,Prod.mk.injEq] at h1
   exact .inl ⟨rfl,h1.2.1.symm⟩
  | some y =>
   obtain ⟨y,q⟩:=y
   rw [hd] at h1
   simp only [batT,Prod.mk.injEq] at h1
   obtain ⟨e1,e2,_⟩:=h1
   have h2:=cn_took (f:=fun b=>batL b.1 b.2) (fun l x r h=>cn_batch h) eats_batch hd
   rw [e1,←e2]
   exact .inr ⟨q,rfl,h2.1,h2.2.2⟩
 have hn8:=mr_typed hr8 hK8 (by decide)
 have hRt:∀(k:Nat) (cs:Array Value) (t:TypeId),k=R→w8.heap[k]?=some (.cells cs t (0,0))→t≠110∧t≠9:=by
  rintro k cs t rfl hc
  obtain ⟨c,h1⟩:=hr8.blk
  rw [h1] at hc
  simp at hc
  rw [←hc.2]
  decide
 replace hgv:=Lib.hid hgv
 replace hok8:=Lib.hid hok8
 replace hRt:=Lib.hid hRt
 clear htk hok
 go_wp2_with (first
  | (go_at_call 71;(with_reducible refine Calls.mono hto.out ?_);rintro e u2 ⟨b2,rfl,hr2,hb2⟩;have K2:=hb2.blk hK8 hn8;have k0:=(blk_cell K2 0).trans (show _=some (.string kk) from rfl);have k1:=(blk_cell K2 1).trans (show _=some (.slice Ak mk.length ck) from rfl);have B2:=hb2.blk B8 (Nat.ne_of_gt hlt);obtain ⟨w9,SR9,C9,hb9,_⟩:=store_blk (P:=Tryz.prog) (T:=31) (cs:=#[.string kk,.slice Ak mk.length ck]) B2 rfl (by kernel_rfl) (by kernel_rfl);have hr9:=hr2.but hb9 (fun k hk=>by have e:k=w.heap.size:=hk;have:=hr2.le;omega);have hok9:=(hok8.out.but hb2 hRt.out).but hb9 (fun k cs t hk hc=>by have e:k=w.heap.size:=hk;subst e;rw [B2] at hc;simp at hc;rw [←hc.2];decide);replace C9:=Lib.hid C9;replace hr9:=Lib.hid hr9;replace hok9:=Lib.hid hok9;have hbz:=Lib.hid ((But.of_g (hg0.trans hGx)).trans hb2);clear hr2 hb2 B2 K2 hr8 B8 hK8)
  | (refine wpList_store_at (ty:=31) rfl (by kernel_rfl) (p:=.pointer (some ⟨w.heap.size,0,none⟩)) rfl rfl SR9 ?_;clear SR9))
 refine bodyPost_ret (v:=.agg #[.string kk,.slice Ak mk.length ck]) (results_cell (i:=2) rfl rfl C9.out Tryz.underlying31 rfl (by kernel_rfl)) rfl ?_
 exact ⟨kk,Ak,ck,mk,tk st nk,rfl,hr9.out,hbz.out.over hb9 (fun k hk=>.inl (by have e:k=w.heap.size:=hk;omega)),hgv.out,hok9.out,hzk,hsk.out⟩
set_option maxRecDepth 100000 in
set_option maxHeartbeats 4000000 in
theorem mrInts_any (R D L : Nat) (st0 : Option (List UInt8)) (w : World) (h : BrS 59 R D L st0 w) (hL : L ≤ 524288) :
  Calls Tryz.prog 38 #[.pointer (some ⟨R,0,none⟩)] w (fun e w'=>∃(A:Option Addr) (c:Nat) (xs:List Int) (st':Option (List UInt8)),e=.returned (.slice A xs.length c)∧BrS 59 R D L st' w'∧But (fun k=>k=R) w w'∧Gives mInts st0 st' xs∧OwnL 3 1 intC w' w.heap.size (.slice A xs.length c) xs):=by
 obtain ⟨l0,hl0⟩:∃l0:List UInt8,l0.length=L:=⟨List.replicate L 0,by simp⟩
 have hmc:=Lib.hid (mrMany_any R D L st0 w h (by omega))
 have hR:=h.lt
 have hDR:=h.le
 clear h
 replace hl0:=Lib.hid hl0
 go_enter Tryz.func38,Tryz.ntmps38
 go_wp2_with (go_at_call 74;(with_reducible refine Calls.mono hmc.out ?_);rintro e w1 ⟨N,s1,rfl,hr1,hb1,hgN,hNb⟩;replace hr1:=Lib.hid hr1;replace hb1:=Lib.hid hb1;replace hgN:=Lib.hid hgN)
 have hlf:Hid (Left l0 0 s1):=Lib.hid (Left.start fun l' e=>by have:=hr1.out;rw [e] at this;have:=this.len;rw [hl0.out];omega)
 clear hmc
 go_loopw [2,3] (fun v i wr=>∃(k:Nat) (A:Option Addr) (c:Nat) (xs:List Int) (st:Option (List UInt8)),v=.slice A xs.length c∧i=.int .i64 k∧k≤1099511627776∧Hid (Left l0 xs.length st)∧Hid (BrS 59 R D L st wr)∧Hid (But (fun k=>k=R) w wr)∧Hid (OwnL 3 1 intC wr w.heap.size (.slice A xs.length c) xs)∧Hid (More iM N k s1 st xs)) (fun _ i _=>(intOf i).toNat)
 case atStart=>exact ⟨N,none,0,[],s1,rfl,rfl,hNb,hlf,hr1,hb1,Lib.hid OwnL.nil,More.start _ _ _⟩
 case round =>
  obtain ⟨wo,rfl⟩:∃wo:World,wo=wr:=⟨_,rfl⟩
  clear hr1 hb1 hlf
  obtain ⟨k,A,c,xs,st,rfl,rfl,hkb,hlf,hrd,hbw,how,hmo⟩:=hrel
  have q1:=hrd.out.c1
  cases st with
  | none =>
   have hend:=Lib.hid (hgN.out.bind (hmo.out.end (.inr rfl)))
   simp only [Option.isNone_none] at q1
   by_cases hk:k=0
   ·subst hk
    replace hmo:=Lib.hid hmo.out
    go_wp2_with fail
    go_ret
    exact ⟨A,c,xs,none,rfl,hrd.out,hbw.out,hend.out,how.out⟩
   ·have hk':0 < (k:Int):=by omega
    go_wp2_with fail
    go_ret
    exact ⟨A,c,xs,none,rfl,hrd.out,hbw.out,hend.out,how.out⟩
  | some lx =>
   simp only [Option.isNone_some] at q1
   by_cases hk:k=0
   ·have hend:=Lib.hid (hgN.out.bind (hmo.out.end (.inl hk)))
    replace hmo:=Lib.hid hmo.out
    subst hk
    go_wp2_with fail
    go_ret
    exact ⟨A,c,xs,some lx,rfl,hrd.out,hbw.out,hend.out,how.out⟩
   ·obtain ⟨j,rfl⟩:∃j,k=j+1:=⟨k - 1,by omega⟩
    have hk':0 < ((j+1:Nat):Int):=by omega
    have hlen:xs.length≤524289:=hlf.out.1
    have hzw:=hbw.out.size
    obtain ⟨v,s2,hv⟩:∃v s,gv 0 cM (some lx)=(v,s):=⟨_,_,rfl⟩
    have hc:=Lib.hid (msgNumI R D L (some lx) wo hrd.out (by omega) v s2 hv)
    have hgs:=gives_i hv
    have hmo2:=hmo.out.step hgs
    have hlf2:=Left.step hlf.out (by rw [hl0.out];exact hL) (eats_i _) hgs
    obtain ⟨xs',hxs⟩:∃xs',xs++[(v:Int)]=xs':=⟨_,rfl⟩
    have hel:xs.length+1=xs'.length:=by rw [←hxs];simp
    rw [hxs] at hmo2
    rw [hel] at hlf2
    replace hv:=Lib.hid hv
    replace hgs:=Lib.hid hgs
    replace hmo2:=Lib.hid hmo2
    replace hlf2:=Lib.hid hlf2
    replace hxs:=Lib.hid hxs
    replace hel:=Lib.hid hel
    clear hk
    go_wp2_with (first
     | (go_at_call 37;(with_reducible refine Calls.mono hc.out ?_);rintro e w5 ⟨rfl,hr5,hb5⟩;have ho5:=Lib.hid ((how.out.but' hb5 (fun k hk e=>by have h1:=how.out.at_ge k hk.symm;omega)).g (G.new w5 (.cells #[.int .i64 v] 3)));have hz5:=hb5.size;have hr5':=Lib.hid (hr5.g (G.new w5 (.cells #[.int .i64 v] 3)));have hb5':=Lib.hid ((hbw.out.trans hb5).g (G.new w5 (.cells #[.int .i64 v] 3)));clear hr5 hb5)
     | (at_builtin;refine wpList_append_but int_elem10 _ rfl (.tmp 17) (.tmp 20) rfl w.heap.size (.slice A xs.length c) xs rfl ho5.out (w5.heap.size+1) (some ⟨w5.heap.size,0,none⟩) 1 [(v:Int)] rfl (by intro h;cases h) (Sl.of_blk intC_len _ (blk_new _ _ _) rfl (by omega)) (by simp;omega) (by simp;omega) (by simp;omega) ?_;intro v6 w6 hown6 hk6 hb6;rw [hxs.out] at hown6;obtain ⟨A6,c6,e6,_,_,_⟩:=OwnL.sl intC_len hown6;subst e6;have hr7:=Lib.hid (mr_own hr5'.out ho5.out hb6 hR);have hb7:=Lib.hid (hb5'.out.over2 hb6 (fun k hk=>.inl (ho5.out.at_ge k hk)));have ho7:=Lib.hid hown6;clear hown6 hk6 hb6))
    go_roundw
    case rel=>exact ⟨j,A6,c6,xs',s2,rfl,by first | go_num | rfl,by omega,hlf2,hr7,hb7,ho7,hmo2⟩
    case measure=>(simp [intOf] <;> omega)
set_option maxRecDepth 100000 in
set_option maxHeartbeats 4000000 in
theorem mrSpans_any (R D L : Nat) (st0 : Option (List UInt8)) (w : World) (h : BrS 59 R D L st0 w) (hL : L ≤ 524288) :
  Calls Tryz.prog 43 #[.pointer (some ⟨R,0,none⟩)] w (fun e w'=>∃(A:Option Addr) (c:Nat) (xs:List Rg) (st':Option (List UInt8)),e=.returned (.slice A xs.length c)∧BrS 59 R D L st' w'∧But (fun k=>k=R) w w'∧Gives mRgs st0 st' xs∧OwnL 36 4 Rg.cells w' w.heap.size (.slice A xs.length c) xs):=by
 obtain ⟨l0,hl0⟩:∃l0:List UInt8,l0.length=L:=⟨List.replicate L 0,by simp⟩
 have hmc:=Lib.hid (mrMany_any R D L st0 w h (by omega))
 have hR:=h.lt
 have hDR:=h.le
 clear h
 replace hl0:=Lib.hid hl0
 go_enter Tryz.func43,Tryz.ntmps43
 go_wp2_with (go_at_call 74;(with_reducible refine Calls.mono hmc.out ?_);rintro e w1 ⟨N,s1,rfl,hr1,hb1,hgN,hNb⟩;replace hr1:=Lib.hid hr1;replace hb1:=Lib.hid hb1;replace hgN:=Lib.hid hgN)
 have hlf:Hid (Left l0 0 s1):=Lib.hid (Left.start fun l' e=>by have:=hr1.out;rw [e] at this;have:=this.len;rw [hl0.out];omega)
 clear hmc
 go_loopw [2,3] (fun v i wr=>∃(k:Nat) (A:Option Addr) (c:Nat) (xs:List Rg) (st:Option (List UInt8)),v=.slice A xs.length c∧i=.int .i64 k∧k≤1099511627776∧Hid (Left l0 xs.length st)∧Hid (BrS 59 R D L st wr)∧Hid (But (fun k=>k=R) w wr)∧Hid (OwnL 36 4 Rg.cells wr w.heap.size (.slice A xs.length c) xs)∧Hid (More mRg N k s1 st xs)) (fun _ i _=>(intOf i).toNat)
 case atStart=>exact ⟨N,none,0,[],s1,rfl,rfl,hNb,hlf,hr1,hb1,Lib.hid OwnL.nil,More.start _ _ _⟩
 case round =>
  obtain ⟨wo,rfl⟩:∃wo:World,wo=wr:=⟨_,rfl⟩
  clear hr1 hb1 hlf
  obtain ⟨k,A,c,xs,st,rfl,rfl,hkb,hlf,hrd,hbw,how,hmo⟩:=hrel
  have q1:=hrd.out.c1
  cases st with
  | none =>
   have hend:=Lib.hid (hgN.out.bind (hmo.out.end (.inr rfl)))
   simp only [Option.isNone_none] at q1
   by_cases hk:k=0
   ·subst hk
    replace hmo:=Lib.hid hmo.out
    go_wp2_with fail
    go_ret
    exact ⟨A,c,xs,none,rfl,hrd.out,hbw.out,hend.out,how.out⟩
   ·have hk':0 < (k:Int):=by omega
    go_wp2_with fail
    go_ret
    exact ⟨A,c,xs,none,rfl,hrd.out,hbw.out,hend.out,how.out⟩
  | some lx =>
   simp only [Option.isNone_some] at q1
   by_cases hk:k=0
   ·have hend:=Lib.hid (hgN.out.bind (hmo.out.end (.inl hk)))
    replace hmo:=Lib.hid hmo.out
    subst hk
    go_wp2_with fail
    go_ret
    exact ⟨A,c,xs,some lx,rfl,hrd.out,hbw.out,hend.out,how.out⟩
   ·obtain ⟨j,rfl⟩:∃j,k=j+1:=⟨k - 1,by omega⟩
    have hk':0 < ((j+1:Nat):Int):=by omega
    have hlen:xs.length≤524289:=hlf.out.1
    have hzw:=hbw.out.size
    have hc:=Lib.hid (mrSpan_any R D L (some lx) wo hrd.out (by omega))
    clear hk
    go_wp2_with (first
     | (go_at_call 40;(with_reducible refine Calls.mono hc.out ?_);rintro e w5 ⟨⟨g1,g2,g3,g4⟩,s2,rfl,hr5,hb5,hgs⟩;have ho5:=Lib.hid ((how.out.but' hb5 (fun k hk e=>by have h1:=how.out.at_ge k hk.symm;omega)).g (G.new w5 (.cells #[.int .i64 g1,.int .i64 g2,.int .i64 g3,.int .i64 g4] 36)));have hz5:=hb5.size;have hr5':=Lib.hid (hr5.g (G.new w5 (.cells #[.int .i64 g1,.int .i64 g2,.int .i64 g3,.int .i64 g4] 36)));have hb5':=Lib.hid ((hbw.out.trans hb5).g (G.new w5 (.cells #[.int .i64 g1,.int .i64 g2,.int .i64 g3,.int .i64 g4] 36)));have hmo2:=hmo.out.step hgs;have hlf2:=Left.step hlf.out (by rw [hl0.out];exact hL) eats_rg hgs;obtain ⟨xs',hxs⟩:∃xs',xs++[(⟨g1,g2,g3,g4⟩:Rg)]=xs':=⟨_,rfl⟩;have hel:xs.length+1=xs'.length:=(by rw [←hxs];simp);rw [hxs] at hmo2;rw [hel] at hlf2;replace hgs:=Lib.hid hgs;replace hmo2:=Lib.hid hmo2;replace hlf2:=Lib.hid hlf2;replace hxs:=Lib.hid hxs;replace hel:=Lib.hid hel;clear hr5 hb5;unfold Rg.val)
     | (at_builtin;refine wpList_append_but rg_elem _ rfl (.tmp 17) (.tmp 20) rfl w.heap.size (.slice A xs.length c) xs rfl ho5.out (w5.heap.size+1) (some ⟨w5.heap.size,0,none⟩) 1 [(⟨g1,g2,g3,g4⟩:Rg)] rfl (by intro h;cases h) (Sl.of_blk Rg.cells_len _ (blk_new _ _ _) rfl (by omega)) (by simp;omega) (by simp;omega) (by simp;omega) ?_;intro v6 w6 hown6 hk6 hb6;rw [hxs.out] at hown6;obtain ⟨A6,c6,e6,_,_,_⟩:=OwnL.sl Rg.cells_len hown6;subst e6;have hr7:=Lib.hid (mr_own hr5'.out ho5.out hb6 hR);have hb7:=Lib.hid (hb5'.out.over2 hb6 (fun k hk=>.inl (ho5.out.at_ge k hk)));have ho7:=Lib.hid hown6;clear hown6 hk6 hb6))
    go_roundw
    case rel=>exact ⟨j,A6,c6,xs',s2,rfl,by first | go_num | rfl,by omega,hlf2,hr7,hb7,ho7,hmo2⟩
    case measure=>(simp [intOf] <;> omega)
set_option maxRecDepth 100000 in
set_option maxHeartbeats 4000000 in
theorem mrEvents_any (R D L : Nat) (st0 : Option (List UInt8)) (w : World) (h : BrS 59 R D L st0 w) (hL : L ≤ 524288) (hT : ∀ w', But (fun k => k = R) w w' → Tabs w') :
  Calls Tryz.prog 42 #[.pointer (some ⟨R,0,none⟩)] w (fun e w'=>∃(A:Option Addr) (c:Nat) (xs:List Ev) (st':Option (List UInt8)),e=.returned (.slice A xs.length c)∧BrS 59 R D L st' w'∧But (fun k=>k=R) w w'∧Gives mEvs st0 st' xs∧OwnL 76 7 Ev.cells w' w.heap.size (.slice A xs.length c) xs):=by
 obtain ⟨l0,hl0⟩:∃l0:List UInt8,l0.length=L:=⟨List.replicate L 0,by simp⟩
 have hmc:=Lib.hid (mrMany_any R D L st0 w h (by omega))
 have hR:=h.lt
 have hDR:=h.le
 clear h
 replace hT:=Lib.hid hT
 replace hl0:=Lib.hid hl0
 go_enter Tryz.func42,Tryz.ntmps42
 go_wp2_with (go_at_call 74;(with_reducible refine Calls.mono hmc.out ?_);rintro e w1 ⟨N,s1,rfl,hr1,hb1,hgN,hNb⟩;replace hr1:=Lib.hid hr1;replace hb1:=Lib.hid hb1;replace hgN:=Lib.hid hgN)
 have hlf:Hid (Left l0 0 s1):=Lib.hid (Left.start fun l' e=>by have:=hr1.out;rw [e] at this;have:=this.len;rw [hl0.out];omega)
 clear hmc
 go_loopw [2,3] (fun v i wr=>∃(k:Nat) (A:Option Addr) (c:Nat) (xs:List Ev) (st:Option (List UInt8)),v=.slice A xs.length c∧i=.int .i64 k∧k≤1099511627776∧Hid (Left l0 xs.length st)∧Hid (BrS 59 R D L st wr)∧Hid (But (fun k=>k=R) w wr)∧Hid (OwnL 76 7 Ev.cells wr w.heap.size (.slice A xs.length c) xs)∧Hid (More dEvent N k s1 st xs)) (fun _ i _=>(intOf i).toNat)
 case atStart=>exact ⟨N,none,0,[],s1,rfl,rfl,hNb,hlf,hr1,hb1,Lib.hid OwnL.nil,More.start _ _ _⟩
 case round =>
  obtain ⟨wo,rfl⟩:∃wo:World,wo=wr:=⟨_,rfl⟩
  clear hr1 hb1 hlf
  obtain ⟨k,A,c,xs,st,rfl,rfl,hkb,hlf,hrd,hbw,how,hmo⟩:=hrel
  have q1:=hrd.out.c1
  cases st with
  | none =>
   have hend:=Lib.hid (hgN.out.bind (hmo.out.end (.inr rfl)))
   simp only [Option.isNone_none] at q1
   by_cases hk:k=0
   ·subst hk
    replace hmo:=Lib.hid hmo.out
    go_wp2_with fail
    go_ret
    exact ⟨A,c,xs,none,rfl,hrd.out,hbw.out,hend.out,how.out⟩
   ·have hk':0 < (k:Int):=by omega
    go_wp2_with fail
    go_ret
    exact ⟨A,c,xs,none,rfl,hrd.out,hbw.out,hend.out,how.out⟩
  | some lx =>
   simp only [Option.isNone_some] at q1
   by_cases hk:k=0
   ·have hend:=Lib.hid (hgN.out.bind (hmo.out.end (.inl hk)))
    replace hmo:=Lib.hid hmo.out
    subst hk
    go_wp2_with fail
    go_ret
    exact ⟨A,c,xs,some lx,rfl,hrd.out,hbw.out,hend.out,how.out⟩
   ·obtain ⟨j,rfl⟩:∃j,k=j+1:=⟨k - 1,by omega⟩
    have hk':0 < ((j+1:Nat):Int):=by omega
    have hlen:xs.length≤524289:=hlf.out.1
    have hzw:=hbw.out.size
    obtain ⟨Ab,cb,g1,g2,g3⟩:=hrd.out.row
    have g4:=hrd.out.len
    have hzx:=hrd.out.lt
    have c0:=(blk_cell g1 0).trans (show _=some (.slice Ab lx.length cb) from rfl)
    have hcb:=decEvent_any lx Ab cb wo (g2.more (by omega)) (by omega) g3 (hT.out _ hbw.out)
    obtain ⟨⟨es,ev,ed,⟨e1,e2,e3⟩,ei⟩,n,ec,hst,hsn⟩:∃(x:Ev) (n:Nat) (ec:Int),decT evVal zEv lx (dEvent lx)=.tuple #[evVal x,.int .i64 n,.int .i64 ec]∧((dEvent lx=none∧n=0)∨∃q,dEvent lx=some (x,q)∧0 < n∧n≤lx.length∧lx.drop n=q):=by
     cases hd:dEvent lx with
     | none=>exact ⟨zEv,0,10,rfl,.inl ⟨rfl,rfl⟩⟩
     | some y =>
      obtain ⟨x,q⟩:=y
      have h2:=cn_took cn_event eats_event hd
      exact ⟨x,lx.length - q.length,0,rfl,.inr ⟨q,rfl,h2.1,h2.2.1,h2.2.2⟩⟩
    rw [hst] at hcb
    have hgs:Gives dEvent (some lx) (tk (some lx) n) ⟨es,ev,ed,⟨e1,e2,e3⟩,ei⟩:=tk_gives fun l' e=>by
     cases e
     rcases hsn with ⟨h1,h2⟩ | ⟨q,h1,h2,_,h3⟩
     ·exact .inl ⟨h1,h2⟩
     ·exact .inr ⟨q,h1,h2,h3⟩
    have htk:∀l',some lx=some l'→n≤l'.length:=fun l' e=>by
     cases e
     rcases hsn with ⟨_,h2⟩ | ⟨q,_,_,h2,_⟩ <;> omega
    replace hcb:=Lib.hid (show Calls Tryz.prog 76 #[.slice Ab lx.length cb] wo (fun e w'=>e=.returned (.tuple #[.agg #[.string es,.int .i64 ev,.string ed,.int .i64 e1,.int .i64 e2,.int .i64 e3,.int .i64 ei],.int .i64 n,.int .i64 ec])∧G wo w') from hcb)
    replace g1:=Lib.hid g1
    clear g2 g3 hk hst hsn
    go_upto_region 5 with (go_at_call 76;(with_reducible refine Calls.mono hcb.out ?_);rintro e u1 ⟨rfl,hg1'⟩)
    clear c0 hcb g1 q1
    have hG8:=G.new u1 (.cells #[.string es,.int .i64 ev,.string ed,.int .i64 e1,.int .i64 e2,.int .i64 e3,.int .i64 ei] 76)
    have hK8:=blk_new u1 #[.string es,.int .i64 ev,.string ed,.int .i64 e1,.int .i64 e2,.int .i64 e3,.int .i64 ei] 76
    have hGx:=hg1'.trans hG8
    have hr8:=hrd.out.g hGx
    have hb8:=hbw.out.g hGx
    have ho8:=how.out.g hGx
    generalize u1.alloc (.cells #[.string es,.int .i64 ev,.string ed,.int .i64 e1,.int .i64 e2,.int .i64 e3,.int .i64 ei] 76)=w8 at *
    generalize u1.heap.size=b8 at *
    have hto:=Lib.hid (msgTake_any R D L (some lx) n w8 hr8 htk (by omega))
    have hn8:=mr_typed hr8 hK8 (by decide)
    obtain ⟨s2,hs2⟩:∃s,tk (some lx) n=s:=⟨_,rfl⟩
    rw [hs2] at hto hgs
    have hmo2:=hmo.out.step hgs
    have hlf2:=Left.step hlf.out (by rw [hl0.out];exact hL) eats_event hgs
    obtain ⟨xs',hxs⟩:∃xs',xs++[(⟨es,ev,ed,⟨e1,e2,e3⟩,ei⟩:Ev)]=xs':=⟨_,rfl⟩
    have hel:xs.length+1=xs'.length:=by rw [←hxs];simp
    rw [hxs] at hmo2
    rw [hel] at hlf2
    replace hs2:=Lib.hid hs2
    replace hgs:=Lib.hid hgs
    replace hmo2:=Lib.hid hmo2
    replace hlf2:=Lib.hid hlf2
    replace hxs:=Lib.hid hxs
    replace hel:=Lib.hid hel
    replace hr8:=Lib.hid hr8
    replace hb8:=Lib.hid hb8
    replace ho8:=Lib.hid ho8
    clear htk hg1' hG8 hGx
    go_wp2_with (first
     | (go_at_call 71;(with_reducible refine Calls.mono hto.out ?_);rintro e w5 ⟨b5,rfl,hr5,hb5⟩;have K5:=hb5.blk hK8 hn8;have k0:=(blk_cell K5 0).trans (show _=some (.string es) from rfl);have k1:=(blk_cell K5 1).trans (show _=some (.int .i64 ev) from rfl);have k2:=(blk_cell K5 2).trans (show _=some (.string ed) from rfl);have k3:=(blk_cell K5 3).trans (show _=some (.int .i64 e1) from rfl);have k4:=(blk_cell K5 4).trans (show _=some (.int .i64 e2) from rfl);have k5:=(blk_cell K5 5).trans (show _=some (.int .i64 e3) from rfl);have k6:=(blk_cell K5 6).trans (show _=some (.int .i64 ei) from rfl);have ho5:=Lib.hid ((ho8.out.but' hb5 (fun k hk e=>by have h1:=ho8.out.at_ge k hk.symm;omega)).g (G.new w5 (.cells #[.string es,.int .i64 ev,.string ed,.int .i64 e1,.int .i64 e2,.int .i64 e3,.int .i64 ei] 76)));have hz5:w.heap.size≤w5.heap.size:=(hb8.out.trans hb5).size;have hr5':=Lib.hid (hr5.g (G.new w5 (.cells #[.string es,.int .i64 ev,.string ed,.int .i64 e1,.int .i64 e2,.int .i64 e3,.int .i64 ei] 76)));have hb5':=Lib.hid ((hb8.out.trans hb5).g (G.new w5 (.cells #[.string es,.int .i64 ev,.string ed,.int .i64 e1,.int .i64 e2,.int .i64 e3,.int .i64 ei] 76)));clear hr5 hb5 K5)
     | (at_builtin;refine wpList_append_but evs_elem _ rfl (.tmp 32) (.tmp 34) rfl w.heap.size (.slice A xs.length c) xs rfl ho5.out (w5.heap.size+1) (some ⟨w5.heap.size,0,none⟩) 1 [(⟨es,ev,ed,⟨e1,e2,e3⟩,ei⟩:Ev)] rfl (by intro h;cases h) (Sl.of_blk Ev.cells_len _ (blk_new _ _ _) rfl (by omega)) (by simp;omega) (by simp;omega) (by simp;omega) ?_;intro v6 w6 hown6 hk6 hb6;rw [hxs.out] at hown6;obtain ⟨A6,c6,e6,_,_,_⟩:=OwnL.sl Ev.cells_len hown6;subst e6;have hr7:=Lib.hid (mr_own hr5'.out ho5.out hb6 hR);have hb7:=Lib.hid (hb5'.out.over2 hb6 (fun k hk=>.inl (ho5.out.at_ge k hk)));have ho7:=Lib.hid hown6;clear hown6 hk6 hb6))
    go_roundw
    case rel=>exact ⟨j,A6,c6,xs',s2,rfl,by first | go_num | rfl,by omega,hlf2,hr7,hb7,ho7,hmo2⟩
    case measure=>(simp [intOf] <;> omega)
theorem sms_all {base:Nat} {As Ae Ak:Option Addr} {cs ce ck:Nat} {xs xs':List SmM} {nm:ByteArray} {es:List Ev} {ks:List Kn} {y:SmM} {w:World} (hx:xs++[y]=xs') (hy:y=⟨nm,Ae,ce,es,Ak,ck,ks⟩) (h:SmsOwn base As cs xs w) (h2:SmOwn base Ae ce es Ak ck ks w):∀s ∈ xs',SmOwn base s.Ae s.ce s.es s.Ak s.ck s.ks w:=fun s hm=>by
 rw [←hx] at hm
 rcases List.mem_append.1 hm with h1 | h1
 ·exact h.each s h1
 ·simp at h1
  subst h1
  rw [hy]
  exact h2
set_option maxRecDepth 100000 in
set_option maxHeartbeats 4000000 in
theorem mrStreams_any (R D L : Nat) (st0 : Option (List UInt8)) (w : World) (h : BrS 59 R D L st0 w) (hL : L ≤ 524288) (hT : ∀ w', But (fun k => k = R) w w' → Tabs w') :
  Calls Tryz.prog 41 #[.pointer (some ⟨R,0,none⟩)] w (fun e w'=>∃(A:Option Addr) (c:Nat) (xs:List SmM) (st':Option (List UInt8)),e=.returned (.slice A xs.length c)∧BrS 59 R D L st' w'∧But (fun k=>k=R) w w'∧Gives mSms st0 st' (xs.map SmM.sm)∧(SmsOwn w.heap.size A c xs w'∧∀s ∈ xs,SmSmall s.name s.es s.ks)):=by
 obtain ⟨l0,hl0⟩:∃l0:List UInt8,l0.length=L:=⟨List.replicate L 0,by simp⟩
 have hmc:=Lib.hid (mrMany_any R D L st0 w h (by omega))
 have hR:=h.lt
 have hDR:=h.le
 clear h
 replace hT:=Lib.hid hT
 replace hl0:=Lib.hid hl0
 go_enter Tryz.func41,Tryz.ntmps41
 go_wp2_with (go_at_call 74;(with_reducible refine Calls.mono hmc.out ?_);rintro e w1 ⟨N,s1,rfl,hr1,hb1,hgN,hNb⟩;replace hr1:=Lib.hid hr1;replace hb1:=Lib.hid hb1;replace hgN:=Lib.hid hgN)
 have hlf:Hid (Left l0 0 s1):=Lib.hid (Left.start fun l' e=>by have:=hr1.out;rw [e] at this;have:=this.len;rw [hl0.out];omega)
 clear hmc
 go_loopw [2,3] (fun v i wr=>∃(k:Nat) (A:Option Addr) (c:Nat) (xs:List SmM) (st:Option (List UInt8)),v=.slice A xs.length c∧i=.int .i64 k∧k≤1099511627776∧Hid (Left l0 xs.length st)∧Hid (BrS 59 R D L st wr)∧Hid (But (fun k=>k=R) w wr)∧Hid ((SmsOwn w.heap.size A c xs wr∧∀s ∈ xs,SmSmall s.name s.es s.ks))∧Hid (More dStream N k s1 st (xs.map SmM.sm))) (fun _ i _=>(intOf i).toNat)
 case atStart=>exact ⟨N,none,0,[],s1,rfl,rfl,hNb,hlf,hr1,hb1,Lib.hid ⟨⟨OwnL.nil,fun _ h=>by cases h⟩,fun _ h=>by cases h⟩,More.start _ _ _⟩
 case round =>
  obtain ⟨wo,rfl⟩:∃wo:World,wo=wr:=⟨_,rfl⟩
  clear hr1 hb1 hlf
  obtain ⟨k,A,c,xs,st,rfl,rfl,hkb,hlf,hrd,hbw,how,hmo⟩:=hrel
  have q1:=hrd.out.c1
  cases st with
  | none =>
   have hend:=Lib.hid (hgN.out.bind (hmo.out.end (.inr rfl)))
   simp only [Option.isNone_none] at q1
   by_cases hk:k=0
   ·subst hk
    replace hmo:=Lib.hid hmo.out
    go_wp2_with fail
    go_ret
    exact ⟨A,c,xs,none,rfl,hrd.out,hbw.out,hend.out,how.out⟩
   ·have hk':0 < (k:Int):=by omega
    go_wp2_with fail
    go_ret
    exact ⟨A,c,xs,none,rfl,hrd.out,hbw.out,hend.out,how.out⟩
  | some lx =>
   simp only [Option.isNone_some] at q1
   by_cases hk:k=0
   ·have hend:=Lib.hid (hgN.out.bind (hmo.out.end (.inl hk)))
    replace hmo:=Lib.hid hmo.out
    subst hk
    go_wp2_with fail
    go_ret
    exact ⟨A,c,xs,some lx,rfl,hrd.out,hbw.out,hend.out,how.out⟩
   ·obtain ⟨j,rfl⟩:∃j,k=j+1:=⟨k - 1,by omega⟩
    have hk':0 < ((j+1:Nat):Int):=by omega
    have hlen:xs.length≤524289:=hlf.out.1
    have hzw:=hbw.out.size
    obtain ⟨Ab,cb,g1,g2,g3⟩:=hrd.out.row
    have g4:=hrd.out.len
    have hzx:=hrd.out.lt
    have c0:=(blk_cell g1 0).trans (show _=some (.slice Ab lx.length cb) from rfl)
    have hcb:=Lib.hid (decStream_any lx Ab cb wo (g2.more (by omega)) (by omega) g3 (hT.out _ hbw.out))
    replace g1:=Lib.hid g1
    clear g2 g3 hk
    go_upto_region 5 with (go_at_call 75;(with_reducible refine Calls.mono hcb.out ?_);rintro e u1 ⟨nm,Ae,Ak,ce,ck,es,ks,n,ec,rfl,hbt,hsz,hso,hg1'⟩;replace hbt:=Lib.hid hbt;replace hsz:=Lib.hid hsz;replace hso:=Lib.hid hso)
    clear c0 hcb g1 q1
    have hG8:=G.new u1 (.cells #[.string nm,.slice Ae es.length ce,.slice Ak ks.length ck] 118)
    have hK8:=blk_new u1 #[.string nm,.slice Ae es.length ce,.slice Ak ks.length ck] 118
    have hGx:=hg1'.trans hG8
    have hr8:=hrd.out.g hGx
    have hb8:=hbw.out.g hGx
    have ho8:=how.out.1.but (But.of_g (S:=fun _=>False) hGx) (fun _ _ _ h=>h.elim)
    have hsm8:=how.out.2
    have hso8:=(hso.out.mono (base':=w.heap.size) hzw).g hG8
    generalize u1.alloc (.cells #[.string nm,.slice Ae es.length ce,.slice Ak ks.length ck] 118)=w8 at *
    generalize u1.heap.size=b8 at *
    have hgn:(dStream lx=none∧n=0)∨∃q,dStream lx=some (⟨nm,es,ks⟩,q)∧0 < n∧n≤lx.length∧lx.drop n=q:=by
     have h1:=hbt.out
     cases hd:dStream lx with
     | none =>
      rw [hd] at h1
      simp only [smT,Prod.mk.injEq] at h1
      exact .inl ⟨rfl,h1.2.1.symm⟩
     | some y =>
      obtain ⟨y,q⟩:=y
      rw [hd] at h1
      simp only [smT,Prod.mk.injEq] at h1
      obtain ⟨e1,e2,_⟩:=h1
      have h2:=cn_took cn_stream eats_stream hd
      rw [e1,←e2]
      exact .inr ⟨q,rfl,h2.1,h2.2.1,h2.2.2⟩
    have htk:∀l',some lx=some l'→n≤l'.length:=fun l' e=>by
     cases e
     rcases hgn with ⟨_,h⟩ | ⟨_,_,_,h,_⟩ <;> omega
    have hto:=Lib.hid (msgTake_any R D L (some lx) n w8 hr8 htk (by omega))
    have hgs:Gives dStream (some lx) (tk (some lx) n) ⟨nm,es,ks⟩:=tk_gives fun l' e=>by
     cases e
     rcases hgn with ⟨h1,h2⟩ | ⟨q,h1,h2,_,h3⟩
     ·exact .inl ⟨h1,h2⟩
     ·exact .inr ⟨q,h1,h2,h3⟩
    have hn8:=mr_typed hr8 hK8 (by decide)
    obtain ⟨s2,hs2⟩:∃s,tk (some lx) n=s:=⟨_,rfl⟩
    rw [hs2] at hto hgs
    obtain ⟨y,hy⟩:∃y:SmM,y=⟨nm,Ae,ce,es,Ak,ck,ks⟩:=⟨_,rfl⟩
    obtain ⟨xs',hxs⟩:∃xs',xs++[y]=xs':=⟨_,rfl⟩
    have hmo2:=hmo.out.step hgs
    rw [show xs.map SmM.sm++[(⟨nm,es,ks⟩:Sm)]=xs'.map SmM.sm from by rw [←hxs,hy,List.map_append];rfl] at hmo2
    have hlf2:=Left.step hlf.out (by rw [hl0.out];exact hL) eats_stream hgs
    rw [show xs.length+1=xs'.length from by rw [←hxs];simp] at hlf2
    have hRt:∀(k:Nat) (cs:Array Value) (t:TypeId),k=R→w8.heap[k]?=some (.cells cs t (0,0))→t≠118∧t≠76∧t≠131:=by
     rintro k cs t rfl hc
     obtain ⟨c,h1⟩:=hr8.blk
     rw [h1] at hc
     simp at hc
     rw [←hc.2]
     decide
    have hsm':∀s ∈ xs',SmSmall s.name s.es s.ks:=fun s hm=>by
     rw [←hxs] at hm
     rcases List.mem_append.1 hm with h | h
     ·exact hsm8 s h
     ·simp at h
      subst h
      rw [hy]
      exact hsz.out
    have hyc:#[.string nm,.slice Ae es.length ce,.slice Ak ks.length ck].toList=[y].flatMap SmM.cells:=by rw [hy];rfl
    replace hs2:=Lib.hid hs2
    replace hgs:=Lib.hid hgs
    replace hgn:=Lib.hid hgn
    replace hmo2:=Lib.hid hmo2
    replace hlf2:=Lib.hid hlf2
    replace hxs:=Lib.hid hxs
    replace hy:=Lib.hid hy
    replace hyc:=Lib.hid hyc
    replace hr8:=Lib.hid hr8
    replace hb8:=Lib.hid hb8
    replace ho8:=Lib.hid ho8
    replace hso8:=Lib.hid hso8
    replace hRt:=Lib.hid hRt
    replace hsm':=Lib.hid hsm'
    clear htk hg1' hG8 hGx hsm8 hso how
    go_wp2_with (first
     | (go_at_call 71;(with_reducible refine Calls.mono hto.out ?_);rintro e w5 ⟨b5,rfl,hr5,hb5⟩;have K5:=hb5.blk hK8 hn8;have k0:=(blk_cell K5 0).trans (show _=some (.string nm) from rfl);have k1:=(blk_cell K5 1).trans (show _=some (.slice Ae es.length ce) from rfl);have k2:=(blk_cell K5 2).trans (show _=some (.slice Ak ks.length ck) from rfl);have ho5:=Lib.hid ((ho8.out.but hb5 hRt.out).but (But.of_g (S:=fun _=>False) (G.new w5 (.cells #[.string nm,.slice Ae es.length ce,.slice Ak ks.length ck] 118))) (fun _ _ _ h=>h.elim));have hso5:=Lib.hid ((hso8.out.but hb5 (fun k cs t hk hc=>(hRt.out k cs t hk hc).2)).g (G.new w5 (.cells #[.string nm,.slice Ae es.length ce,.slice Ak ks.length ck] 118)));have hz5:w.heap.size≤w5.heap.size:=(hb8.out.trans hb5).size;have hr5':=Lib.hid (hr5.g (G.new w5 (.cells #[.string nm,.slice Ae es.length ce,.slice Ak ks.length ck] 118)));have hb5':=Lib.hid ((hb8.out.trans hb5).g (G.new w5 (.cells #[.string nm,.slice Ae es.length ce,.slice Ak ks.length ck] 118)));clear hr5 hb5 K5)
     | (at_builtin;refine wpList_append_but sms_elem _ rfl (.tmp 32) (.tmp 34) rfl w.heap.size (.slice A xs.length c) xs rfl ho5.out.row (w5.heap.size+1) (some ⟨w5.heap.size,0,none⟩) 1 [y] rfl (by intro h;cases h) (Sl.of_blk SmM.cells_len _ (blk_new _ _ _) hyc.out (by omega)) (by simp;omega) (by simp;omega) (by simp;omega) ?_;intro v6 w6 hown6 hk6 hb6;rw [hxs.out] at hown6;obtain ⟨A6,c6,e6,_,_,_⟩:=OwnL.sl SmM.cells_len hown6;subst e6;have hr7:=Lib.hid (mr_own hr5'.out ho5.out.row hb6 hR);have hb7:=Lib.hid (hb5'.out.over2 hb6 (fun k hk=>.inl (ho5.out.row.at_ge k hk)));have hall:=sms_all hxs.out hy.out ho5.out hso5.out;have ho7:=Lib.hid (⟨ho5.out.push hown6 hb6 hall,hsm'.out⟩:SmsOwn w.heap.size A6 c6 xs' w6∧∀s ∈ xs',SmSmall s.name s.es s.ks);clear hown6 hk6 hb6 hall))
    go_roundw
    case rel=>exact ⟨j,A6,c6,xs',s2,rfl,by first | go_num | rfl,by omega,hlf2,hr7,hb7,ho7,hmo2⟩
    case measure=>(simp [intOf] <;> omega)
end Go.Proofs.YtheogchkelmeeaaGreatDoor

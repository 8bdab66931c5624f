/- penstockref10.Decode: what it answers of what is no Feed. Conditions: at most 500000 bytes; what is a message bears lengths that fit; the decoder's tables lie as the library lays them. -/
import Derived.Test.YtheogchkelmeeaaGreatDoorM46MsgDecodes
import Derived.Deep.CutBlock
namespace Go.Proofs.YtheogchkelmeeaaGreatDoor
open Go.RowKit
set_option maxRecDepth 100000 in
set_option maxHeartbeats 16000000 in
theorem refMDec_not9 (l : List UInt8) (A : Option Addr) (c8 : Nat) (w : World) (hsl : Sl byteC 1 w w.heap.size A l) (hl : l.length ≤ 500000) (hcap : l.length ≤ c8) (hT : Tabs w) (hF : ∀ p, decM l = some p → p.Fits) (h9 : ∀ q, l ≠ 9 :: q) :
  Calls Tryz.prog 6 #[.slice A l.length c8] w (RetDoc w l):=by
 have hl1:l.length≤1073741824:=by omega
 have hl5:l.length≤524288:=by omega
 have hTG:∀w2,G w w2→Tabs w2:=fun w2 h=>hT.g h
 have hg0:=G.new w (.cells #[.int .i64 0,.int .i64 0,.int .i64 0,.int .i64 0,.string ⟨#[]⟩,.slice none 0 0,.int .i64 0,.int .i64 0,.int .i64 0,.int .i64 0,.slice none 0 0,.bool false,.int .i64 0,.int .i64 0,.int .i64 0,.int .i64 0,.slice none 0 0,.int .i64 0,.int .i64 0,.slice none 0 0,.slice none 0 0] 41)
 have hr0:=RdS.start (T:=64) (c8:=c8) ((hsl.g (Nat.le_refl _) hg0).more hg0.size)
 have hg1:=G.new (w.alloc (.cells #[.int .i64 0,.int .i64 0,.int .i64 0,.int .i64 0,.string ⟨#[]⟩,.slice none 0 0,.int .i64 0,.int .i64 0,.int .i64 0,.int .i64 0,.slice none 0 0,.bool false,.int .i64 0,.int .i64 0,.int .i64 0,.int .i64 0,.slice none 0 0,.int .i64 0,.int .i64 0,.slice none 0 0,.slice none 0 0] 41)) (.cells #[.slice A l.length c8,.int .i64 0,.bool false] 64)
 have hz1:(w.alloc (.cells #[.int .i64 0,.int .i64 0,.int .i64 0,.int .i64 0,.string ⟨#[]⟩,.slice none 0 0,.int .i64 0,.int .i64 0,.int .i64 0,.int .i64 0,.slice none 0 0,.bool false,.int .i64 0,.int .i64 0,.int .i64 0,.int .i64 0,.slice none 0 0,.int .i64 0,.int .i64 0,.slice none 0 0,.slice none 0 0] 41)).heap.size=w.heap.size+1:=by simp
 have hz2:((w.alloc (.cells #[.int .i64 0,.int .i64 0,.int .i64 0,.int .i64 0,.string ⟨#[]⟩,.slice none 0 0,.int .i64 0,.int .i64 0,.int .i64 0,.int .i64 0,.slice none 0 0,.bool false,.int .i64 0,.int .i64 0,.int .i64 0,.int .i64 0,.slice none 0 0,.int .i64 0,.int .i64 0,.slice none 0 0,.slice none 0 0] 41)).alloc (.cells #[.slice A l.length c8,.int .i64 0,.bool false] 64)).heap.size=w.heap.size+1+1:=by simp
 rw [hz1] at hr0
 have hg2:=G.new ((w.alloc (.cells #[.int .i64 0,.int .i64 0,.int .i64 0,.int .i64 0,.string ⟨#[]⟩,.slice none 0 0,.int .i64 0,.int .i64 0,.int .i64 0,.int .i64 0,.slice none 0 0,.bool false,.int .i64 0,.int .i64 0,.int .i64 0,.int .i64 0,.slice none 0 0,.int .i64 0,.int .i64 0,.slice none 0 0,.slice none 0 0] 41)).alloc (.cells #[.slice A l.length c8,.int .i64 0,.bool false] 64)) (.cells #[.pointer (some ⟨w.heap.size+1,0,none⟩)] 66)
 have hE:=blk_new ((w.alloc (.cells #[.int .i64 0,.int .i64 0,.int .i64 0,.int .i64 0,.string ⟨#[]⟩,.slice none 0 0,.int .i64 0,.int .i64 0,.int .i64 0,.int .i64 0,.slice none 0 0,.bool false,.int .i64 0,.int .i64 0,.int .i64 0,.int .i64 0,.slice none 0 0,.int .i64 0,.int .i64 0,.slice none 0 0,.slice none 0 0] 41)).alloc (.cells #[.slice A l.length c8,.int .i64 0,.bool false] 64)) #[.pointer (some ⟨w.heap.size+1,0,none⟩)] 66
 rw [hz2] at hE
 have hZ:=hg2.blk (hg1.blk (blk_new w #[.int .i64 0,.int .i64 0,.int .i64 0,.int .i64 0,.string ⟨#[]⟩,.slice none 0 0,.int .i64 0,.int .i64 0,.int .i64 0,.int .i64 0,.slice none 0 0,.bool false,.int .i64 0,.int .i64 0,.int .i64 0,.int .i64 0,.slice none 0 0,.int .i64 0,.int .i64 0,.slice none 0 0,.slice none 0 0] 41))
 have hGa:=(hg0.trans hg1).trans hg2
 have hr2:=hr0.g hg2
 have hz3:(((w.alloc (.cells #[.int .i64 0,.int .i64 0,.int .i64 0,.int .i64 0,.string ⟨#[]⟩,.slice none 0 0,.int .i64 0,.int .i64 0,.int .i64 0,.int .i64 0,.slice none 0 0,.bool false,.int .i64 0,.int .i64 0,.int .i64 0,.int .i64 0,.slice none 0 0,.int .i64 0,.int .i64 0,.slice none 0 0,.slice none 0 0] 41)).alloc (.cells #[.slice A l.length c8,.int .i64 0,.bool false] 64)).alloc (.cells #[.pointer (some ⟨w.heap.size+1,0,none⟩)] 66)).heap.size=w.heap.size+1+1+1:=by simp
 replace hz3:=Lib.hid hz3
 replace hr2:=Lib.hid hr2
 replace hE:=Lib.hid hE
 replace hZ:=Lib.hid hZ
 replace hGa:=Lib.hid hGa
 clear hg0 hg1 hg2 hr0 hz1 hz2 hT
 replace hsl:=Lib.hid hsl
 replace hTG:=Lib.hid hTG
 replace hF:=Lib.hid hF
 go_enter Tryz.func6,Tryz.ntmps6
 go_upto_region 2 with fail
 generalize ((w.alloc (.cells #[.int .i64 0,.int .i64 0,.int .i64 0,.int .i64 0,.string ⟨#[]⟩,.slice none 0 0,.int .i64 0,.int .i64 0,.int .i64 0,.int .i64 0,.slice none 0 0,.bool false,.int .i64 0,.int .i64 0,.int .i64 0,.int .i64 0,.slice none 0 0,.int .i64 0,.int .i64 0,.slice none 0 0,.slice none 0 0] 41)).alloc (.cells #[.slice A l.length c8,.int .i64 0,.bool false] 64)).alloc (.cells #[.pointer (some ⟨w.heap.size+1,0,none⟩)] 66)=W2 at *
 generalize hEe:w.heap.size+1+1=E at *
 generalize hRe:w.heap.size+1=R at *
 have hER:w.heap.size < R∧R < E:=by omega
 have hz2:W2.heap.size=E+1:=hz3.out
 clear hEe hRe hz3
 have hc:=eyeByte_any R A c8 l (some l) W2 hr2.out hl1 hcap
 obtain ⟨kv,st0,h1⟩:∃v s,gv 0 dByte (some l)=(v,s):=⟨_,_,rfl⟩
 have hl2:(l=[]∧st0=none)∨∃b q,l=b::q∧kv=b.toNat∧st0=some q:=by
  cases l with
  | nil =>
   cases h1
   exact .inl ⟨rfl,rfl⟩
  | cons b q =>
   cases h1
   exact .inr ⟨b,q,rfl,rfl,rfl⟩
 have hkv:kv≤255:=by
  rcases hl2 with ⟨rfl,_⟩ | ⟨b,q,_,rfl,_⟩
  ·cases h1;omega
  ·have:=b.toNat_lt;omega
 have hK9:kv≠9:=by
  rcases hl2 with ⟨rfl,_⟩ | ⟨b,q,hb,rfl,_⟩
  ·cases h1;omega
  ·intro e
   exact h9 q (by rw [hb,show b=9 from by rw [←UInt8.toNat_inj];exact e])
 clear h9
 rw [h1] at hc
 obtain ⟨K,hKe⟩:∃K:Int,(kv:Int)=K:=⟨_,rfl⟩
 rw [hKe] at hc
 have hKI:Int64 K:=⟨by omega,by omega⟩
 have hKn:K≠9:=by omega
 replace hKn:=Lib.hid hKn
 clear hK9
 have q:=(blk_cell hE.out 0).trans (show _=some (.pointer (some ⟨R,0,none⟩)) from rfl)
 replace hKe:=Lib.hid hKe
 replace hl2:=Lib.hid hl2
 replace hc:=Lib.hid hc
 replace hz2:=Lib.hid hz2
 replace hKI:=Lib.hid hKI
 clear h1 hr2 hkv
 have hB0:∀u:World,∃W',(Instr.storeAt 41 (.pointer (some ⟨u.heap.size,0,none⟩)) (.agg (MsgM.zero K).cells)).run Tryz.prog (u.alloc (.cells #[.int .i64 0,.int .i64 0,.int .i64 0,.int .i64 0,.string ⟨#[]⟩,.slice none 0 0,.int .i64 0,.int .i64 0,.int .i64 0,.int .i64 0,.slice none 0 0,.bool false,.int .i64 0,.int .i64 0,.int .i64 0,.int .i64 0,.slice none 0 0,.int .i64 0,.int .i64 0,.slice none 0 0,.slice none 0 0] 41))=.ok () W'∧W'.heap[u.heap.size]?=some (.cells (MsgM.zero K).cells 41 (0,0))∧But (fun k=>k=u.heap.size) (u.alloc (.cells #[.int .i64 0,.int .i64 0,.int .i64 0,.int .i64 0,.string ⟨#[]⟩,.slice none 0 0,.int .i64 0,.int .i64 0,.int .i64 0,.int .i64 0,.slice none 0 0,.bool false,.int .i64 0,.int .i64 0,.int .i64 0,.int .i64 0,.slice none 0 0,.int .i64 0,.int .i64 0,.slice none 0 0,.slice none 0 0] 41)) W':=fun u=>by
  obtain ⟨W9,SR9,C9,hb9,hG9⟩:=store_blk (P:=Tryz.prog) (T:=41) (cs:=(MsgM.zero K).cells) (blk_new u #[.int .i64 0,.int .i64 0,.int .i64 0,.int .i64 0,.string ⟨#[]⟩,.slice none 0 0,.int .i64 0,.int .i64 0,.int .i64 0,.int .i64 0,.slice none 0 0,.bool false,.int .i64 0,.int .i64 0,.int .i64 0,.int .i64 0,.slice none 0 0,.int .i64 0,.int .i64 0,.slice none 0 0,.slice none 0 0] 41) rfl (by kernel_rfl) (by kernel_rfl)
  exact ⟨W9,SR9,C9,hb9⟩
 replace hB0:=Lib.hid hB0
 go_cut [5] (fun v wz=>∃X:Nat,v=.pointer (some ⟨X,0,none⟩)∧Hid (DkM R X E w.heap.size A c8 l w (MsgM.zero K) st0 wz))
 case first =>
  go_wp2_with (first
   | (refine wpList_store_at (ty:=41) rfl (by kernel_rfl) (p:=.pointer (some ⟨u1.heap.size,0,none⟩)) (v:=.agg (MsgM.zero K).cells) rfl rfl SR1 ?_;clear SR1)
   | (go_at_call 16;(with_reducible refine Calls.mono hc.out ?_);rintro e u1 ⟨rfl,hr1,hb1⟩;obtain ⟨wx,SR1,C1,hbx⟩:=hB0.out u1;replace C1:=Lib.hid C1;replace hbx:=Lib.hid hbx;replace hr1:=Lib.hid hr1;replace hb1:=Lib.hid hb1;clear hc hB0))
  go_meet
  have hgn:=G.new u1 (.cells #[.int .i64 0,.int .i64 0,.int .i64 0,.int .i64 0,.string ⟨#[]⟩,.slice none 0 0,.int .i64 0,.int .i64 0,.int .i64 0,.int .i64 0,.slice none 0 0,.bool false,.int .i64 0,.int .i64 0,.int .i64 0,.int .i64 0,.slice none 0 0,.int .i64 0,.int .i64 0,.slice none 0 0,.slice none 0 0] 41)
  refine ⟨u1.heap.size,rfl,Lib.hid ?_⟩
  have hz:=hb1.out.size
  have h2:=hz2.out
  refine ⟨(hr1.out.g hgn).but hbx.out (fun k hk e=>by omega),⟨C1.out,OwnL.nil,⟨OwnL.nil,fun _ h=>by cases h⟩,⟨OwnL.nil,fun _ h=>by cases h⟩,OwnL.nil,OwnL.nil,zeroM_fit K⟩,hbx.out.blk (hgn.blk (hb1.out.blk hE.out (by omega))) (by omega),hbx.out.blk (hgn.blk (hb1.out.blk hZ.out (by omega))) (by omega),((hGa.out.gOf' hb1.out (by rintro k rfl;omega)).trans hgn).gOf' hbx.out (by rintro k rfl;omega),⟨hER.1,hER.2,by omega,Nat.le_refl _⟩⟩
 case rest =>
  clear hc hB0 q hE hZ hGa hz2
  obtain ⟨X,rfl,hs⟩:=hcut
  rename_i hC
  refine hC _ _ ?_
  refine wp_seq_k fun K2 hK2=>?_
  go_cut [] (fun wz=>DkEnd R X E w.heap.size A c8 l w K st0 wz)
  case first =>
   clear hF hl2 hKI hKe hsl
   have q4:=(blk_cell hs.out.rc.blk 0).trans (show _=some (.int .i64 K) from rfl)
   rcases mkind_cases K with rfl | rfl | rfl | rfl | rfl | rfl | rfl | rfl | rfl | hno
   ·skip
    go_upto_region 5 with fail
    clear q4
    generalize wc=wx at *
    have hc:=eye10tx_any R A c8 l st0 wx hs.out.rd hl1 hcap 1099511627776 1099511627776 rfl (by omega)
    have q:=hs.out.ptr
    have LE:=load_blk (P:=Tryz.prog) (T:=66) hs.out.eb Tryz.underlying66 rfl (by kernel_rfl)
    replace hc:=Lib.hid hc
    go_upto_region 6 with (first|(refine wpList_load_at (ty:=66) rfl (by kernel_rfl) (p:=.pointer (some ⟨E,0,none⟩)) rfl LE ?_;clear LE)|(go_at_call 17;(with_reducible refine Calls.mono hc.out ?_);rintro e u1 ⟨⟨x1,x2,x3⟩,st1,he,hr1,hb1,g⟩;simp only [txVal] at he;subst he;have g1:=Lib.hid g.tx;clear g;have hrc1:=hs.out.call hb1;have hX1:=hrc1.blk;have cx0:=(blk_cell hX1 1).trans (show _=some (.int .i64 0) from rfl);have fx0:=hrc1.free 1;have cx1:=(blk_cell hX1 2).trans (show _=some (.int .i64 0) from rfl);have fx1:=hrc1.free 2;have cx2:=(blk_cell hX1 3).trans (show _=some (.int .i64 0) from rfl);have fx2:=hrc1.free 3;replace hrc1:=Lib.hid hrc1;replace hX1:=Lib.hid hX1;replace hr1:=Lib.hid hr1;replace hb1:=Lib.hid hb1;clear hc q))
    have hbX:But (fun k=>k=X) u1 (((u1.setCell ⟨X,1,none⟩ (.int .i64 (x1:Int))).setCell ⟨X,2,none⟩ (.int .i64 (x2:Int))).setCell ⟨X,3,none⟩ (.int .i64 (x3:Int))):=(((but_set u1 X 1 (.int .i64 (x1:Int))).trans (but_set _ X 2 (.int .i64 (x2:Int)))).trans (but_set _ X 3 (.int .i64 (x3:Int))))
    have oX:=hrc1.out.own hbX
    have hs1:DkM R X E w.heap.size A c8 l w ({ MsgM.zero 1 with x1:=(x1:Int),x2:=(x2:Int),x3:=(x3:Int) }:MsgM) st1 (((u1.setCell ⟨X,1,none⟩ (.int .i64 (x1:Int))).setCell ⟨X,2,none⟩ (.int .i64 (x2:Int))).setCell ⟨X,3,none⟩ (.int .i64 (x3:Int))):=hs.out.store hr1.out hb1.out hbX ⟨(by rw [blk_put (blk_put (blk_put hX1.out _ _) _ _) _ _];rfl),oX.firsts,oX.puts,oX.sms,oX.es,oX.rgs,⟨hrc1.out.fit.key,hrc1.out.fit.ps,hrc1.out.fit.sms⟩⟩
    replace hs1:=Lib.hid hs1
    clear hbX oX hX1 hrc1 hr1 hb1 
    clear cx0 fx0 cx1 fx1 cx2 fx2
    generalize ((u1.setCell ⟨X,1,none⟩ (.int .i64 (x1:Int))).setCell ⟨X,2,none⟩ (.int .i64 (x2:Int))).setCell ⟨X,3,none⟩ (.int .i64 (x3:Int))=wx1 at *
    clear hs
    have hc:=eyeBatch_any R A c8 l st1 wx1 hs1.out.rd hl1 hcap
    have q:=hs1.out.ptr
    replace hc:=Lib.hid hc
    go_upto_region 7 with (first|(go_at_call 18;(with_reducible refine Calls.mono hc.out ?_);rintro e u1 ⟨key,Ap,cp,ps,st2,rfl,hr1,hb1,g,hks,hsm,hps⟩;have g2:=Lib.hid (g.as (d2:=dBatch) fun l _=>(dBatch_both l).symm);replace hks:=Lib.hid hks;replace hsm:=Lib.hid hsm;replace hps:=Lib.hid hps;clear g;have hrc1:=hs1.out.call hb1;have hX1:=hrc1.blk;have cx0:=(blk_cell hX1 4).trans (show _=some (.string ⟨#[]⟩) from rfl);have fx0:=hrc1.free 4;have cx1:=(blk_cell hX1 5).trans (show _=some (.slice none 0 0) from rfl);have fx1:=hrc1.free 5;replace hrc1:=Lib.hid hrc1;replace hX1:=Lib.hid hX1;replace hr1:=Lib.hid hr1;replace hb1:=Lib.hid hb1;clear hc q))
    have hbX:But (fun k=>k=X) u1 ((u1.setCell ⟨X,4,none⟩ (.string key)).setCell ⟨X,5,none⟩ (.slice Ap ps.length cp)):=((but_set u1 X 4 (.string key)).trans (but_set _ X 5 (.slice Ap ps.length cp)))
    have oX:=hrc1.out.own hbX
    have hs2:DkM R X E w.heap.size A c8 l w ({ MsgM.zero 1 with x1:=(x1:Int),x2:=(x2:Int),x3:=(x3:Int),key:=key,Ap:=Ap,cp:=cp,ps:=ps }:MsgM) st2 ((u1.setCell ⟨X,4,none⟩ (.string key)).setCell ⟨X,5,none⟩ (.slice Ap ps.length cp)):=hs1.out.store hr1.out hb1.out hbX ⟨(by rw [blk_put (blk_put hX1.out _ _) _ _];rfl),oX.firsts,(hps.out.mono (by have:=blk_lt hs1.out.rc.blk;omega)).but hbX (fun k cs t hk hc=>by have e:k=X:=hk;subst e;rw [hX1.out] at hc;cases hc;decide),oX.sms,oX.es,oX.rgs,⟨hks.out,hsm.out,hrc1.out.fit.sms⟩⟩
    replace hs2:=Lib.hid hs2
    clear hbX oX hX1 hrc1 hr1 hb1 hks hsm hps
    clear cx0 fx0 cx1 fx1
    generalize (u1.setCell ⟨X,4,none⟩ (.string key)).setCell ⟨X,5,none⟩ (.slice Ap ps.length cp)=wx2 at *
    clear hs1
    have hc:=eyeStamp_any R A c8 l st2 wx2 hs2.out.rd hl1 hcap
    have q:=hs2.out.ptr
    replace hc:=Lib.hid hc
    go_wp2_with (first|(go_at_call 19;(with_reducible refine Calls.mono hc.out ?_);rintro e u1 ⟨⟨wa,lo,no⟩,st3,he,hr1,hb1,g⟩;simp only [stVal,stV] at he;subst he;have g3:=Lib.hid g;clear g;have hrc1:=hs2.out.call hb1;have hX1:=hrc1.blk;have cx0:=(blk_cell hX1 6).trans (show _=some (.int .i64 0) from rfl);have fx0:=hrc1.free 6;have cx1:=(blk_cell hX1 7).trans (show _=some (.int .i64 0) from rfl);have fx1:=hrc1.free 7;have cx2:=(blk_cell hX1 8).trans (show _=some (.int .i64 0) from rfl);have fx2:=hrc1.free 8;replace hrc1:=Lib.hid hrc1;replace hX1:=Lib.hid hX1;replace hr1:=Lib.hid hr1;replace hb1:=Lib.hid hb1;clear hc q))
    have hbX:But (fun k=>k=X) u1 (((u1.setCell ⟨X,6,none⟩ (.int .i64 wa)).setCell ⟨X,7,none⟩ (.int .i64 lo)).setCell ⟨X,8,none⟩ (.int .i64 no)):=(((but_set u1 X 6 (.int .i64 wa)).trans (but_set _ X 7 (.int .i64 lo))).trans (but_set _ X 8 (.int .i64 no)))
    have oX:=hrc1.out.own hbX
    have hs3:DkM R X E w.heap.size A c8 l w ({ MsgM.zero 1 with x1:=(x1:Int),x2:=(x2:Int),x3:=(x3:Int),key:=key,Ap:=Ap,cp:=cp,ps:=ps,st:=⟨wa,lo,no⟩ }:MsgM) st3 (((u1.setCell ⟨X,6,none⟩ (.int .i64 wa)).setCell ⟨X,7,none⟩ (.int .i64 lo)).setCell ⟨X,8,none⟩ (.int .i64 no)):=hs2.out.store hr1.out hb1.out hbX ⟨(by rw [blk_put (blk_put (blk_put hX1.out _ _) _ _) _ _];rfl),oX.firsts,oX.puts,oX.sms,oX.es,oX.rgs,⟨hrc1.out.fit.key,hrc1.out.fit.ps,hrc1.out.fit.sms⟩⟩
    replace hs3:=Lib.hid hs3
    clear hbX oX hX1 hrc1 hr1 hb1 
    go_meet
    have hgv:Gives (rb mTx fun tx=>rb dBatch fun bat=>rb dStamp fun st=>rp { mZero 1 with x1:=tx.a,x2:=tx.b,x3:=tx.c,key:=bat.1,ps:=bat.2,st:=st }) st0 st3 (MsgM.p ({ MsgM.zero 1 with x1:=(x1:Int),x2:=(x2:Int),x3:=(x3:Int),key:=key,Ap:=Ap,cp:=cp,ps:=ps,st:=⟨wa,lo,no⟩ }:MsgM)):=g1.out.bind (g2.out.bind (g3.out.bind (Gives.ret _)))
    have ho0:(({ MsgM.zero 1 with x1:=(x1:Int),x2:=(x2:Int),x3:=(x3:Int),key:=key,Ap:=Ap,cp:=cp,ps:=ps,st:=⟨wa,lo,no⟩ }:MsgM)).only=({ MsgM.zero 1 with x1:=(x1:Int),x2:=(x2:Int),x3:=(x3:Int),key:=key,Ap:=Ap,cp:=cp,ps:=ps,st:=⟨wa,lo,no⟩ }:MsgM):=by rw [MsgM.only_1 rfl];rfl
    exact ⟨_,_,hs3.out,rfl,ho0,.inl ⟨by decide,hgv⟩⟩
   ·skip
    go_upto_region 9 with fail
    clear q4
    generalize wc=wx at *
    have hc:=eye10tx_any R A c8 l st0 wx hs.out.rd hl1 hcap 1099511627776 1099511627776 rfl (by omega)
    have q:=hs.out.ptr
    have LE:=load_blk (P:=Tryz.prog) (T:=66) hs.out.eb Tryz.underlying66 rfl (by kernel_rfl)
    replace hc:=Lib.hid hc
    go_upto_region 10 with (first|(refine wpList_load_at (ty:=66) rfl (by kernel_rfl) (p:=.pointer (some ⟨E,0,none⟩)) rfl LE ?_;clear LE)|(go_at_call 17;(with_reducible refine Calls.mono hc.out ?_);rintro e u1 ⟨⟨x1,x2,x3⟩,st1,he,hr1,hb1,g⟩;simp only [txVal] at he;subst he;have g1:=Lib.hid g.tx;clear g;have hrc1:=hs.out.call hb1;have hX1:=hrc1.blk;have cx0:=(blk_cell hX1 1).trans (show _=some (.int .i64 0) from rfl);have fx0:=hrc1.free 1;have cx1:=(blk_cell hX1 2).trans (show _=some (.int .i64 0) from rfl);have fx1:=hrc1.free 2;have cx2:=(blk_cell hX1 3).trans (show _=some (.int .i64 0) from rfl);have fx2:=hrc1.free 3;replace hrc1:=Lib.hid hrc1;replace hX1:=Lib.hid hX1;replace hr1:=Lib.hid hr1;replace hb1:=Lib.hid hb1;clear hc q))
    have hbX:But (fun k=>k=X) u1 (((u1.setCell ⟨X,1,none⟩ (.int .i64 (x1:Int))).setCell ⟨X,2,none⟩ (.int .i64 (x2:Int))).setCell ⟨X,3,none⟩ (.int .i64 (x3:Int))):=(((but_set u1 X 1 (.int .i64 (x1:Int))).trans (but_set _ X 2 (.int .i64 (x2:Int)))).trans (but_set _ X 3 (.int .i64 (x3:Int))))
    have oX:=hrc1.out.own hbX
    have hs1:DkM R X E w.heap.size A c8 l w ({ MsgM.zero 2 with x1:=(x1:Int),x2:=(x2:Int),x3:=(x3:Int) }:MsgM) st1 (((u1.setCell ⟨X,1,none⟩ (.int .i64 (x1:Int))).setCell ⟨X,2,none⟩ (.int .i64 (x2:Int))).setCell ⟨X,3,none⟩ (.int .i64 (x3:Int))):=hs.out.store hr1.out hb1.out hbX ⟨(by rw [blk_put (blk_put (blk_put hX1.out _ _) _ _) _ _];rfl),oX.firsts,oX.puts,oX.sms,oX.es,oX.rgs,⟨hrc1.out.fit.key,hrc1.out.fit.ps,hrc1.out.fit.sms⟩⟩
    replace hs1:=Lib.hid hs1
    clear hbX oX hX1 hrc1 hr1 hb1 
    clear cx0 fx0 cx1 fx1 cx2 fx2
    generalize ((u1.setCell ⟨X,1,none⟩ (.int .i64 (x1:Int))).setCell ⟨X,2,none⟩ (.int .i64 (x2:Int))).setCell ⟨X,3,none⟩ (.int .i64 (x3:Int))=wx1 at *
    clear hs
    have hc:=eyeNum_any R A c8 l st1 wx1 hs1.out.rd hl1 hcap 12 12 rfl (by omega)
    obtain ⟨code,st2,h1⟩:∃v s,gv 0 (dCount 12) st1=(v,s):=⟨_,_,rfl⟩
    rw [h1] at hc
    have g2:=gives_i h1
    clear h1
    replace g2:=Lib.hid g2
    have q:=hs1.out.ptr
    replace hc:=Lib.hid hc
    go_upto_region 11 with (first|(go_at_call 20;(with_reducible refine Calls.mono hc.out ?_);rintro e u1 ⟨rfl,hr1,hb1⟩;have hrc1:=hs1.out.call hb1;have hX1:=hrc1.blk;have cx0:=(blk_cell hX1 9).trans (show _=some (.int .i64 0) from rfl);have fx0:=hrc1.free 9;replace hrc1:=Lib.hid hrc1;replace hX1:=Lib.hid hX1;replace hr1:=Lib.hid hr1;replace hb1:=Lib.hid hb1;clear hc q))
    have hbX:But (fun k=>k=X) u1 (u1.setCell ⟨X,9,none⟩ (.int .i64 (code:Int))):=(but_set u1 X 9 (.int .i64 (code:Int)))
    have oX:=hrc1.out.own hbX
    have hs2:DkM R X E w.heap.size A c8 l w ({ MsgM.zero 2 with x1:=(x1:Int),x2:=(x2:Int),x3:=(x3:Int),code:=(code:Int) }:MsgM) st2 (u1.setCell ⟨X,9,none⟩ (.int .i64 (code:Int))):=hs1.out.store hr1.out hb1.out hbX ⟨(by rw [blk_put hX1.out _ _];rfl),oX.firsts,oX.puts,oX.sms,oX.es,oX.rgs,⟨hrc1.out.fit.key,hrc1.out.fit.ps,hrc1.out.fit.sms⟩⟩
    replace hs2:=Lib.hid hs2
    clear hbX oX hX1 hrc1 hr1 hb1 
    clear cx0 fx0
    generalize u1.setCell ⟨X,9,none⟩ (.int .i64 (code:Int))=wx2 at *
    clear hs1
    have hc:=eyeStamp_any R A c8 l st2 wx2 hs2.out.rd hl1 hcap
    have q:=hs2.out.ptr
    replace hc:=Lib.hid hc
    go_upto_region 12 with (first|(go_at_call 19;(with_reducible refine Calls.mono hc.out ?_);rintro e u1 ⟨⟨wa,lo,no⟩,st3,he,hr1,hb1,g⟩;simp only [stVal,stV] at he;subst he;have g3:=Lib.hid g;clear g;have hrc1:=hs2.out.call hb1;have hX1:=hrc1.blk;have cx0:=(blk_cell hX1 6).trans (show _=some (.int .i64 0) from rfl);have fx0:=hrc1.free 6;have cx1:=(blk_cell hX1 7).trans (show _=some (.int .i64 0) from rfl);have fx1:=hrc1.free 7;have cx2:=(blk_cell hX1 8).trans (show _=some (.int .i64 0) from rfl);have fx2:=hrc1.free 8;replace hrc1:=Lib.hid hrc1;replace hX1:=Lib.hid hX1;replace hr1:=Lib.hid hr1;replace hb1:=Lib.hid hb1;clear hc q))
    have hbX:But (fun k=>k=X) u1 (((u1.setCell ⟨X,6,none⟩ (.int .i64 wa)).setCell ⟨X,7,none⟩ (.int .i64 lo)).setCell ⟨X,8,none⟩ (.int .i64 no)):=(((but_set u1 X 6 (.int .i64 wa)).trans (but_set _ X 7 (.int .i64 lo))).trans (but_set _ X 8 (.int .i64 no)))
    have oX:=hrc1.out.own hbX
    have hs3:DkM R X E w.heap.size A c8 l w ({ MsgM.zero 2 with x1:=(x1:Int),x2:=(x2:Int),x3:=(x3:Int),code:=(code:Int),st:=⟨wa,lo,no⟩ }:MsgM) st3 (((u1.setCell ⟨X,6,none⟩ (.int .i64 wa)).setCell ⟨X,7,none⟩ (.int .i64 lo)).setCell ⟨X,8,none⟩ (.int .i64 no)):=hs2.out.store hr1.out hb1.out hbX ⟨(by rw [blk_put (blk_put (blk_put hX1.out _ _) _ _) _ _];rfl),oX.firsts,oX.puts,oX.sms,oX.es,oX.rgs,⟨hrc1.out.fit.key,hrc1.out.fit.ps,hrc1.out.fit.sms⟩⟩
    replace hs3:=Lib.hid hs3
    clear hbX oX hX1 hrc1 hr1 hb1 
    clear cx0 fx0 cx1 fx1 cx2 fx2
    generalize ((u1.setCell ⟨X,6,none⟩ (.int .i64 wa)).setCell ⟨X,7,none⟩ (.int .i64 lo)).setCell ⟨X,8,none⟩ (.int .i64 no)=wx3 at *
    clear hs2
    have hc:=eye10ints_any R A c8 l st3 wx3 hs3.out.rd hl1 hcap 1099511627776 1099511627776 rfl (by omega)
    have q:=hs3.out.ptr
    have LE:=load_blk (P:=Tryz.prog) (T:=66) hs3.out.eb Tryz.underlying66 rfl (by kernel_rfl)
    replace hc:=Lib.hid hc
    go_wp2_with (first|(refine wpList_load_at (ty:=66) rfl (by kernel_rfl) (p:=.pointer (some ⟨E,0,none⟩)) rfl LE ?_;clear LE)|(go_at_call 21;(with_reducible refine Calls.mono hc.out ?_);rintro e u1 ⟨An,cn,firsts,ns,st4,rfl,hzn,hr1,hb1,ho1,g⟩;have g4:=Lib.hid (g.ints.to hzn);replace ho1:=Lib.hid ho1;clear g hzn;have hrc1:=hs3.out.call hb1;have hX1:=hrc1.blk;have cx0:=(blk_cell hX1 10).trans (show _=some (.slice none 0 0) from rfl);have fx0:=hrc1.free 10;replace hrc1:=Lib.hid hrc1;replace hX1:=Lib.hid hX1;replace hr1:=Lib.hid hr1;replace hb1:=Lib.hid hb1;clear hc q))
    have hbX:But (fun k=>k=X) u1 (u1.setCell ⟨X,10,none⟩ (.slice An firsts.length cn)):=(but_set u1 X 10 (.slice An firsts.length cn))
    have oX:=hrc1.out.own hbX
    have hs4:DkM R X E w.heap.size A c8 l w ({ MsgM.zero 2 with x1:=(x1:Int),x2:=(x2:Int),x3:=(x3:Int),code:=(code:Int),st:=⟨wa,lo,no⟩,An:=An,cn:=cn,firsts:=firsts }:MsgM) st4 (u1.setCell ⟨X,10,none⟩ (.slice An firsts.length cn)):=hs3.out.store hr1.out hb1.out hbX ⟨(by rw [blk_put hX1.out _ _];rfl),(ho1.out.mono (by have:=blk_lt hs3.out.rc.blk;omega)).but' hbX (fun k hk e=>by obtain ⟨_,_,c,hc2⟩:=ho1.out.blk hk;have e2:k=X:=e;subst e2;rw [hX1.out] at hc2;cases hc2),oX.puts,oX.sms,oX.es,oX.rgs,⟨hrc1.out.fit.key,hrc1.out.fit.ps,hrc1.out.fit.sms⟩⟩
    replace hs4:=Lib.hid hs4
    clear hbX oX hX1 hrc1 hr1 hb1 ho1
    go_meet
    have hgv:Gives (rb mTx fun tx=>rb (mI 12) fun code=>rb dStamp fun st=>rb mInts fun ints=>rp { mZero 2 with x1:=tx.a,x2:=tx.b,x3:=tx.c,code:=code,st:=st,firsts:=ints }) st0 st4 (MsgM.p ({ MsgM.zero 2 with x1:=(x1:Int),x2:=(x2:Int),x3:=(x3:Int),code:=(code:Int),st:=⟨wa,lo,no⟩,An:=An,cn:=cn,firsts:=firsts }:MsgM)):=g1.out.bind (g2.out.bind (g3.out.bind (g4.out.bind (Gives.ret _))))
    have ho0:(({ MsgM.zero 2 with x1:=(x1:Int),x2:=(x2:Int),x3:=(x3:Int),code:=(code:Int),st:=⟨wa,lo,no⟩,An:=An,cn:=cn,firsts:=firsts }:MsgM)).only=({ MsgM.zero 2 with x1:=(x1:Int),x2:=(x2:Int),x3:=(x3:Int),code:=(code:Int),st:=⟨wa,lo,no⟩,An:=An,cn:=cn,firsts:=firsts }:MsgM):=by rw [MsgM.only_2 rfl];rfl
    exact ⟨_,_,hs4.out,rfl,ho0,.inl ⟨by decide,hgv⟩⟩
   ·skip
    go_upto_region 14 with fail
    clear q4
    generalize wc=wx at *
    have hc:=eye10tx_any R A c8 l st0 wx hs.out.rd hl1 hcap 1099511627776 1099511627776 rfl (by omega)
    have q:=hs.out.ptr
    have LE:=load_blk (P:=Tryz.prog) (T:=66) hs.out.eb Tryz.underlying66 rfl (by kernel_rfl)
    replace hc:=Lib.hid hc
    go_upto_region 15 with (first|(refine wpList_load_at (ty:=66) rfl (by kernel_rfl) (p:=.pointer (some ⟨E,0,none⟩)) rfl LE ?_;clear LE)|(go_at_call 17;(with_reducible refine Calls.mono hc.out ?_);rintro e u1 ⟨⟨x1,x2,x3⟩,st1,he,hr1,hb1,g⟩;simp only [txVal] at he;subst he;have g1:=Lib.hid g.tx;clear g;have hrc1:=hs.out.call hb1;have hX1:=hrc1.blk;have cx0:=(blk_cell hX1 1).trans (show _=some (.int .i64 0) from rfl);have fx0:=hrc1.free 1;have cx1:=(blk_cell hX1 2).trans (show _=some (.int .i64 0) from rfl);have fx1:=hrc1.free 2;have cx2:=(blk_cell hX1 3).trans (show _=some (.int .i64 0) from rfl);have fx2:=hrc1.free 3;replace hrc1:=Lib.hid hrc1;replace hX1:=Lib.hid hX1;replace hr1:=Lib.hid hr1;replace hb1:=Lib.hid hb1;clear hc q))
    have hbX:But (fun k=>k=X) u1 (((u1.setCell ⟨X,1,none⟩ (.int .i64 (x1:Int))).setCell ⟨X,2,none⟩ (.int .i64 (x2:Int))).setCell ⟨X,3,none⟩ (.int .i64 (x3:Int))):=(((but_set u1 X 1 (.int .i64 (x1:Int))).trans (but_set _ X 2 (.int .i64 (x2:Int)))).trans (but_set _ X 3 (.int .i64 (x3:Int))))
    have oX:=hrc1.out.own hbX
    have hs1:DkM R X E w.heap.size A c8 l w ({ MsgM.zero 3 with x1:=(x1:Int),x2:=(x2:Int),x3:=(x3:Int) }:MsgM) st1 (((u1.setCell ⟨X,1,none⟩ (.int .i64 (x1:Int))).setCell ⟨X,2,none⟩ (.int .i64 (x2:Int))).setCell ⟨X,3,none⟩ (.int .i64 (x3:Int))):=hs.out.store hr1.out hb1.out hbX ⟨(by rw [blk_put (blk_put (blk_put hX1.out _ _) _ _) _ _];rfl),oX.firsts,oX.puts,oX.sms,oX.es,oX.rgs,⟨hrc1.out.fit.key,hrc1.out.fit.ps,hrc1.out.fit.sms⟩⟩
    replace hs1:=Lib.hid hs1
    clear hbX oX hX1 hrc1 hr1 hb1 
    clear cx0 fx0 cx1 fx1 cx2 fx2
    generalize ((u1.setCell ⟨X,1,none⟩ (.int .i64 (x1:Int))).setCell ⟨X,2,none⟩ (.int .i64 (x2:Int))).setCell ⟨X,3,none⟩ (.int .i64 (x3:Int))=wx1 at *
    clear hs
    have hc:=eyeByte_any R A c8 l st1 wx1 hs1.out.rd hl1 hcap
    obtain ⟨v,st2,h1⟩:∃v s,gv 0 dByte st1=(v,s):=⟨_,_,rfl⟩
    rw [h1] at hc
    have gq:=gv_gives h1
    clear h1
    obtain ⟨yes,hbq⟩:∃b,((v:Int) == 1)=b:=⟨_,rfl⟩
    have hbq2:decide (v=1)=yes:=by rw [←hbq];by_cases h:v=1 <;> simp [h] <;> omega
    have g2:Gives mYes st1 st2 yes:=(gq.bind (Gives.ret (decide (v=1)))).to (by rw [hbq2])
    clear gq hbq2
    replace g2:=Lib.hid g2
    have q:=hs1.out.ptr
    replace hc:=Lib.hid hc
    go_upto_region 16 with (first|(go_at_call 16;(with_reducible refine Calls.mono hc.out ?_);rintro e u1 ⟨rfl,hr1,hb1⟩;have hrc1:=hs1.out.call hb1;have hX1:=hrc1.blk;have cx0:=(blk_cell hX1 11).trans (show _=some (.bool false) from rfl);have fx0:=hrc1.free 11;replace hrc1:=Lib.hid hrc1;replace hX1:=Lib.hid hX1;replace hr1:=Lib.hid hr1;replace hb1:=Lib.hid hb1;clear hc q))
    have hbX:But (fun k=>k=X) u1 (u1.setCell ⟨X,11,none⟩ (.bool yes)):=(but_set u1 X 11 (.bool yes))
    have oX:=hrc1.out.own hbX
    have hs2:DkM R X E w.heap.size A c8 l w ({ MsgM.zero 3 with x1:=(x1:Int),x2:=(x2:Int),x3:=(x3:Int),yes:=yes }:MsgM) st2 (u1.setCell ⟨X,11,none⟩ (.bool yes)):=hs1.out.store hr1.out hb1.out hbX ⟨(by rw [blk_put hX1.out _ _];rfl),oX.firsts,oX.puts,oX.sms,oX.es,oX.rgs,⟨hrc1.out.fit.key,hrc1.out.fit.ps,hrc1.out.fit.sms⟩⟩
    replace hs2:=Lib.hid hs2
    clear hbX oX hX1 hrc1 hr1 hb1 hbq
    clear cx0 fx0
    generalize u1.setCell ⟨X,11,none⟩ (.bool yes)=wx2 at *
    clear hs1
    have hc:=eyeStamp_any R A c8 l st2 wx2 hs2.out.rd hl1 hcap
    have q:=hs2.out.ptr
    replace hc:=Lib.hid hc
    go_wp2_with (first|(go_at_call 19;(with_reducible refine Calls.mono hc.out ?_);rintro e u1 ⟨⟨wa,lo,no⟩,st3,he,hr1,hb1,g⟩;simp only [stVal,stV] at he;subst he;have g3:=Lib.hid g;clear g;have hrc1:=hs2.out.call hb1;have hX1:=hrc1.blk;have cx0:=(blk_cell hX1 6).trans (show _=some (.int .i64 0) from rfl);have fx0:=hrc1.free 6;have cx1:=(blk_cell hX1 7).trans (show _=some (.int .i64 0) from rfl);have fx1:=hrc1.free 7;have cx2:=(blk_cell hX1 8).trans (show _=some (.int .i64 0) from rfl);have fx2:=hrc1.free 8;replace hrc1:=Lib.hid hrc1;replace hX1:=Lib.hid hX1;replace hr1:=Lib.hid hr1;replace hb1:=Lib.hid hb1;clear hc q))
    have hbX:But (fun k=>k=X) u1 (((u1.setCell ⟨X,6,none⟩ (.int .i64 wa)).setCell ⟨X,7,none⟩ (.int .i64 lo)).setCell ⟨X,8,none⟩ (.int .i64 no)):=(((but_set u1 X 6 (.int .i64 wa)).trans (but_set _ X 7 (.int .i64 lo))).trans (but_set _ X 8 (.int .i64 no)))
    have oX:=hrc1.out.own hbX
    have hs3:DkM R X E w.heap.size A c8 l w ({ MsgM.zero 3 with x1:=(x1:Int),x2:=(x2:Int),x3:=(x3:Int),yes:=yes,st:=⟨wa,lo,no⟩ }:MsgM) st3 (((u1.setCell ⟨X,6,none⟩ (.int .i64 wa)).setCell ⟨X,7,none⟩ (.int .i64 lo)).setCell ⟨X,8,none⟩ (.int .i64 no)):=hs2.out.store hr1.out hb1.out hbX ⟨(by rw [blk_put (blk_put (blk_put hX1.out _ _) _ _) _ _];rfl),oX.firsts,oX.puts,oX.sms,oX.es,oX.rgs,⟨hrc1.out.fit.key,hrc1.out.fit.ps,hrc1.out.fit.sms⟩⟩
    replace hs3:=Lib.hid hs3
    clear hbX oX hX1 hrc1 hr1 hb1 
    go_meet
    have hgv:Gives (rb mTx fun tx=>rb mYes fun flag=>rb dStamp fun st=>rp { mZero 3 with x1:=tx.a,x2:=tx.b,x3:=tx.c,yes:=flag,st:=st }) st0 st3 (MsgM.p ({ MsgM.zero 3 with x1:=(x1:Int),x2:=(x2:Int),x3:=(x3:Int),yes:=yes,st:=⟨wa,lo,no⟩ }:MsgM)):=g1.out.bind (g2.out.bind (g3.out.bind (Gives.ret _)))
    have ho0:(({ MsgM.zero 3 with x1:=(x1:Int),x2:=(x2:Int),x3:=(x3:Int),yes:=yes,st:=⟨wa,lo,no⟩ }:MsgM)).only=({ MsgM.zero 3 with x1:=(x1:Int),x2:=(x2:Int),x3:=(x3:Int),yes:=yes,st:=⟨wa,lo,no⟩ }:MsgM):=by rw [MsgM.only_3 rfl];rfl
    exact ⟨_,_,hs3.out,rfl,ho0,.inl ⟨by decide,hgv⟩⟩
   ·skip
    go_upto_region 18 with fail
    clear q4
    generalize wc=wx at *
    have hc:=eye10tx_any R A c8 l st0 wx hs.out.rd hl1 hcap 1099511627776 1099511627776 rfl (by omega)
    have q:=hs.out.ptr
    have LE:=load_blk (P:=Tryz.prog) (T:=66) hs.out.eb Tryz.underlying66 rfl (by kernel_rfl)
    replace hc:=Lib.hid hc
    go_wp2_with (first|(refine wpList_load_at (ty:=66) rfl (by kernel_rfl) (p:=.pointer (some ⟨E,0,none⟩)) rfl LE ?_;clear LE)|(go_at_call 17;(with_reducible refine Calls.mono hc.out ?_);rintro e u1 ⟨⟨x1,x2,x3⟩,st1,he,hr1,hb1,g⟩;simp only [txVal] at he;subst he;have g1:=Lib.hid g.tx;clear g;have hrc1:=hs.out.call hb1;have hX1:=hrc1.blk;have cx0:=(blk_cell hX1 1).trans (show _=some (.int .i64 0) from rfl);have fx0:=hrc1.free 1;have cx1:=(blk_cell hX1 2).trans (show _=some (.int .i64 0) from rfl);have fx1:=hrc1.free 2;have cx2:=(blk_cell hX1 3).trans (show _=some (.int .i64 0) from rfl);have fx2:=hrc1.free 3;replace hrc1:=Lib.hid hrc1;replace hX1:=Lib.hid hX1;replace hr1:=Lib.hid hr1;replace hb1:=Lib.hid hb1;clear hc q))
    have hbX:But (fun k=>k=X) u1 (((u1.setCell ⟨X,1,none⟩ (.int .i64 (x1:Int))).setCell ⟨X,2,none⟩ (.int .i64 (x2:Int))).setCell ⟨X,3,none⟩ (.int .i64 (x3:Int))):=(((but_set u1 X 1 (.int .i64 (x1:Int))).trans (but_set _ X 2 (.int .i64 (x2:Int)))).trans (but_set _ X 3 (.int .i64 (x3:Int))))
    have oX:=hrc1.out.own hbX
    have hs1:DkM R X E w.heap.size A c8 l w ({ MsgM.zero 4 with x1:=(x1:Int),x2:=(x2:Int),x3:=(x3:Int) }:MsgM) st1 (((u1.setCell ⟨X,1,none⟩ (.int .i64 (x1:Int))).setCell ⟨X,2,none⟩ (.int .i64 (x2:Int))).setCell ⟨X,3,none⟩ (.int .i64 (x3:Int))):=hs.out.store hr1.out hb1.out hbX ⟨(by rw [blk_put (blk_put (blk_put hX1.out _ _) _ _) _ _];rfl),oX.firsts,oX.puts,oX.sms,oX.es,oX.rgs,⟨hrc1.out.fit.key,hrc1.out.fit.ps,hrc1.out.fit.sms⟩⟩
    replace hs1:=Lib.hid hs1
    clear hbX oX hX1 hrc1 hr1 hb1 
    go_meet
    have hgv:Gives (rb mTx fun tx=>rp { mZero 4 with x1:=tx.a,x2:=tx.b,x3:=tx.c }) st0 st1 (MsgM.p ({ MsgM.zero 4 with x1:=(x1:Int),x2:=(x2:Int),x3:=(x3:Int) }:MsgM)):=g1.out.bind (Gives.ret _)
    have ho0:(({ MsgM.zero 4 with x1:=(x1:Int),x2:=(x2:Int),x3:=(x3:Int) }:MsgM)).only=({ MsgM.zero 4 with x1:=(x1:Int),x2:=(x2:Int),x3:=(x3:Int) }:MsgM):=by rw [MsgM.only_4 rfl];rfl
    exact ⟨_,_,hs1.out,rfl,ho0,.inl ⟨by decide,hgv⟩⟩
   ·skip
    go_upto_region 20 with fail
    clear q4
    generalize wc=wx at *
    have hc:=eye10tx_any R A c8 l st0 wx hs.out.rd hl1 hcap 1099511627776 1099511627776 rfl (by omega)
    have q:=hs.out.ptr
    have LE:=load_blk (P:=Tryz.prog) (T:=66) hs.out.eb Tryz.underlying66 rfl (by kernel_rfl)
    replace hc:=Lib.hid hc
    go_upto_region 21 with (first|(refine wpList_load_at (ty:=66) rfl (by kernel_rfl) (p:=.pointer (some ⟨E,0,none⟩)) rfl LE ?_;clear LE)|(go_at_call 17;(with_reducible refine Calls.mono hc.out ?_);rintro e u1 ⟨⟨x1,x2,x3⟩,st1,he,hr1,hb1,g⟩;simp only [txVal] at he;subst he;have g1:=Lib.hid g.tx;clear g;have hrc1:=hs.out.call hb1;have hX1:=hrc1.blk;have cx0:=(blk_cell hX1 1).trans (show _=some (.int .i64 0) from rfl);have fx0:=hrc1.free 1;have cx1:=(blk_cell hX1 2).trans (show _=some (.int .i64 0) from rfl);have fx1:=hrc1.free 2;have cx2:=(blk_cell hX1 3).trans (show _=some (.int .i64 0) from rfl);have fx2:=hrc1.free 3;replace hrc1:=Lib.hid hrc1;replace hX1:=Lib.hid hX1;replace hr1:=Lib.hid hr1;replace hb1:=Lib.hid hb1;clear hc q))
    have hbX:But (fun k=>k=X) u1 (((u1.setCell ⟨X,1,none⟩ (.int .i64 (x1:Int))).setCell ⟨X,2,none⟩ (.int .i64 (x2:Int))).setCell ⟨X,3,none⟩ (.int .i64 (x3:Int))):=(((but_set u1 X 1 (.int .i64 (x1:Int))).trans (but_set _ X 2 (.int .i64 (x2:Int)))).trans (but_set _ X 3 (.int .i64 (x3:Int))))
    have oX:=hrc1.out.own hbX
    have hs1:DkM R X E w.heap.size A c8 l w ({ MsgM.zero 5 with x1:=(x1:Int),x2:=(x2:Int),x3:=(x3:Int) }:MsgM) st1 (((u1.setCell ⟨X,1,none⟩ (.int .i64 (x1:Int))).setCell ⟨X,2,none⟩ (.int .i64 (x2:Int))).setCell ⟨X,3,none⟩ (.int .i64 (x3:Int))):=hs.out.store hr1.out hb1.out hbX ⟨(by rw [blk_put (blk_put (blk_put hX1.out _ _) _ _) _ _];rfl),oX.firsts,oX.puts,oX.sms,oX.es,oX.rgs,⟨hrc1.out.fit.key,hrc1.out.fit.ps,hrc1.out.fit.sms⟩⟩
    replace hs1:=Lib.hid hs1
    clear hbX oX hX1 hrc1 hr1 hb1 
    clear cx0 fx0 cx1 fx1 cx2 fx2
    generalize ((u1.setCell ⟨X,1,none⟩ (.int .i64 (x1:Int))).setCell ⟨X,2,none⟩ (.int .i64 (x2:Int))).setCell ⟨X,3,none⟩ (.int .i64 (x3:Int))=wx1 at *
    clear hs
    have hc:=eyeStamp_any R A c8 l st1 wx1 hs1.out.rd hl1 hcap
    have q:=hs1.out.ptr
    replace hc:=Lib.hid hc
    go_upto_region 22 with (first|(go_at_call 19;(with_reducible refine Calls.mono hc.out ?_);rintro e u1 ⟨⟨wa,lo,no⟩,st2,he,hr1,hb1,g⟩;simp only [stVal,stV] at he;subst he;have g2:=Lib.hid g;clear g;have hrc1:=hs1.out.call hb1;have hX1:=hrc1.blk;have cx0:=(blk_cell hX1 6).trans (show _=some (.int .i64 0) from rfl);have fx0:=hrc1.free 6;have cx1:=(blk_cell hX1 7).trans (show _=some (.int .i64 0) from rfl);have fx1:=hrc1.free 7;have cx2:=(blk_cell hX1 8).trans (show _=some (.int .i64 0) from rfl);have fx2:=hrc1.free 8;replace hrc1:=Lib.hid hrc1;replace hX1:=Lib.hid hX1;replace hr1:=Lib.hid hr1;replace hb1:=Lib.hid hb1;clear hc q))
    have hbX:But (fun k=>k=X) u1 (((u1.setCell ⟨X,6,none⟩ (.int .i64 wa)).setCell ⟨X,7,none⟩ (.int .i64 lo)).setCell ⟨X,8,none⟩ (.int .i64 no)):=(((but_set u1 X 6 (.int .i64 wa)).trans (but_set _ X 7 (.int .i64 lo))).trans (but_set _ X 8 (.int .i64 no)))
    have oX:=hrc1.out.own hbX
    have hs2:DkM R X E w.heap.size A c8 l w ({ MsgM.zero 5 with x1:=(x1:Int),x2:=(x2:Int),x3:=(x3:Int),st:=⟨wa,lo,no⟩ }:MsgM) st2 (((u1.setCell ⟨X,6,none⟩ (.int .i64 wa)).setCell ⟨X,7,none⟩ (.int .i64 lo)).setCell ⟨X,8,none⟩ (.int .i64 no)):=hs1.out.store hr1.out hb1.out hbX ⟨(by rw [blk_put (blk_put (blk_put hX1.out _ _) _ _) _ _];rfl),oX.firsts,oX.puts,oX.sms,oX.es,oX.rgs,⟨hrc1.out.fit.key,hrc1.out.fit.ps,hrc1.out.fit.sms⟩⟩
    replace hs2:=Lib.hid hs2
    clear hbX oX hX1 hrc1 hr1 hb1 
    clear cx0 fx0 cx1 fx1 cx2 fx2
    generalize ((u1.setCell ⟨X,6,none⟩ (.int .i64 wa)).setCell ⟨X,7,none⟩ (.int .i64 lo)).setCell ⟨X,8,none⟩ (.int .i64 no)=wx2 at *
    clear hs1
    have hc:=eye10ints_any R A c8 l st2 wx2 hs2.out.rd hl1 hcap 1099511627776 1099511627776 rfl (by omega)
    have q:=hs2.out.ptr
    have LE:=load_blk (P:=Tryz.prog) (T:=66) hs2.out.eb Tryz.underlying66 rfl (by kernel_rfl)
    replace hc:=Lib.hid hc
    go_wp2_with (first|(refine wpList_load_at (ty:=66) rfl (by kernel_rfl) (p:=.pointer (some ⟨E,0,none⟩)) rfl LE ?_;clear LE)|(go_at_call 21;(with_reducible refine Calls.mono hc.out ?_);rintro e u1 ⟨An,cn,firsts,ns,st3,rfl,hzn,hr1,hb1,ho1,g⟩;have g3:=Lib.hid (g.ints.to hzn);replace ho1:=Lib.hid ho1;clear g hzn;have hrc1:=hs2.out.call hb1;have hX1:=hrc1.blk;have cx0:=(blk_cell hX1 10).trans (show _=some (.slice none 0 0) from rfl);have fx0:=hrc1.free 10;replace hrc1:=Lib.hid hrc1;replace hX1:=Lib.hid hX1;replace hr1:=Lib.hid hr1;replace hb1:=Lib.hid hb1;clear hc q))
    have hbX:But (fun k=>k=X) u1 (u1.setCell ⟨X,10,none⟩ (.slice An firsts.length cn)):=(but_set u1 X 10 (.slice An firsts.length cn))
    have oX:=hrc1.out.own hbX
    have hs3:DkM R X E w.heap.size A c8 l w ({ MsgM.zero 5 with x1:=(x1:Int),x2:=(x2:Int),x3:=(x3:Int),st:=⟨wa,lo,no⟩,An:=An,cn:=cn,firsts:=firsts }:MsgM) st3 (u1.setCell ⟨X,10,none⟩ (.slice An firsts.length cn)):=hs2.out.store hr1.out hb1.out hbX ⟨(by rw [blk_put hX1.out _ _];rfl),(ho1.out.mono (by have:=blk_lt hs2.out.rc.blk;omega)).but' hbX (fun k hk e=>by obtain ⟨_,_,c,hc2⟩:=ho1.out.blk hk;have e2:k=X:=e;subst e2;rw [hX1.out] at hc2;cases hc2),oX.puts,oX.sms,oX.es,oX.rgs,⟨hrc1.out.fit.key,hrc1.out.fit.ps,hrc1.out.fit.sms⟩⟩
    replace hs3:=Lib.hid hs3
    clear hbX oX hX1 hrc1 hr1 hb1 ho1
    go_meet
    have hgv:Gives (rb mTx fun tx=>rb dStamp fun st=>rb mInts fun ints=>rp { mZero 5 with x1:=tx.a,x2:=tx.b,x3:=tx.c,st:=st,firsts:=ints }) st0 st3 (MsgM.p ({ MsgM.zero 5 with x1:=(x1:Int),x2:=(x2:Int),x3:=(x3:Int),st:=⟨wa,lo,no⟩,An:=An,cn:=cn,firsts:=firsts }:MsgM)):=g1.out.bind (g2.out.bind (g3.out.bind (Gives.ret _)))
    have ho0:(({ MsgM.zero 5 with x1:=(x1:Int),x2:=(x2:Int),x3:=(x3:Int),st:=⟨wa,lo,no⟩,An:=An,cn:=cn,firsts:=firsts }:MsgM)).only=({ MsgM.zero 5 with x1:=(x1:Int),x2:=(x2:Int),x3:=(x3:Int),st:=⟨wa,lo,no⟩,An:=An,cn:=cn,firsts:=firsts }:MsgM):=by rw [MsgM.only_5 rfl];rfl
    exact ⟨_,_,hs3.out,rfl,ho0,.inl ⟨by decide,hgv⟩⟩
   ·skip
    go_upto_region 24 with fail
    clear q4
    generalize wc=wx at *
    have hc:=eye10rng_any R A c8 l st0 wx hs.out.rd hl1 hcap 1099511627776 1099511627776 rfl (by omega)
    have q:=hs.out.ptr
    have LE:=load_blk (P:=Tryz.prog) (T:=66) hs.out.eb Tryz.underlying66 rfl (by kernel_rfl)
    replace hc:=Lib.hid hc
    go_upto_region 25 with (first|(refine wpList_load_at (ty:=66) rfl (by kernel_rfl) (p:=.pointer (some ⟨E,0,none⟩)) rfl LE ?_;clear LE)|(go_at_call 22;(with_reducible refine Calls.mono hc.out ?_);rintro e u1 ⟨⟨z1,z2,z3,z4⟩,st1,he,hr1,hb1,g⟩;simp only [rngVal] at he;subst he;have g1:=Lib.hid g.rng;clear g;have hrc1:=hs.out.call hb1;have hX1:=hrc1.blk;have cx0:=(blk_cell hX1 12).trans (show _=some (.int .i64 0) from rfl);have fx0:=hrc1.free 12;have cx1:=(blk_cell hX1 13).trans (show _=some (.int .i64 0) from rfl);have fx1:=hrc1.free 13;have cx2:=(blk_cell hX1 14).trans (show _=some (.int .i64 0) from rfl);have fx2:=hrc1.free 14;have cx3:=(blk_cell hX1 15).trans (show _=some (.int .i64 0) from rfl);have fx3:=hrc1.free 15;replace hrc1:=Lib.hid hrc1;replace hX1:=Lib.hid hX1;replace hr1:=Lib.hid hr1;replace hb1:=Lib.hid hb1;clear hc q))
    have hbX:But (fun k=>k=X) u1 ((((u1.setCell ⟨X,12,none⟩ (.int .i64 (z1:Int))).setCell ⟨X,13,none⟩ (.int .i64 (z2:Int))).setCell ⟨X,14,none⟩ (.int .i64 (z3:Int))).setCell ⟨X,15,none⟩ (.int .i64 (z4:Int))):=((((but_set u1 X 12 (.int .i64 (z1:Int))).trans (but_set _ X 13 (.int .i64 (z2:Int)))).trans (but_set _ X 14 (.int .i64 (z3:Int)))).trans (but_set _ X 15 (.int .i64 (z4:Int))))
    have oX:=hrc1.out.own hbX
    have hs1:DkM R X E w.heap.size A c8 l w ({ MsgM.zero 6 with z1:=(z1:Int),z2:=(z2:Int),z3:=(z3:Int),z4:=(z4:Int) }:MsgM) st1 ((((u1.setCell ⟨X,12,none⟩ (.int .i64 (z1:Int))).setCell ⟨X,13,none⟩ (.int .i64 (z2:Int))).setCell ⟨X,14,none⟩ (.int .i64 (z3:Int))).setCell ⟨X,15,none⟩ (.int .i64 (z4:Int))):=hs.out.store hr1.out hb1.out hbX ⟨(by rw [blk_put (blk_put (blk_put (blk_put hX1.out _ _) _ _) _ _) _ _];rfl),oX.firsts,oX.puts,oX.sms,oX.es,oX.rgs,⟨hrc1.out.fit.key,hrc1.out.fit.ps,hrc1.out.fit.sms⟩⟩
    replace hs1:=Lib.hid hs1
    clear hbX oX hX1 hrc1 hr1 hb1 
    clear cx0 fx0 cx1 fx1 cx2 fx2 cx3 fx3
    generalize (((u1.setCell ⟨X,12,none⟩ (.int .i64 (z1:Int))).setCell ⟨X,13,none⟩ (.int .i64 (z2:Int))).setCell ⟨X,14,none⟩ (.int .i64 (z3:Int))).setCell ⟨X,15,none⟩ (.int .i64 (z4:Int))=wx1 at *
    clear hs
    have hc:=eyeStamp_any R A c8 l st1 wx1 hs1.out.rd hl1 hcap
    have q:=hs1.out.ptr
    replace hc:=Lib.hid hc
    go_upto_region 26 with (first|(go_at_call 19;(with_reducible refine Calls.mono hc.out ?_);rintro e u1 ⟨⟨wa,lo,no⟩,st2,he,hr1,hb1,g⟩;simp only [stVal,stV] at he;subst he;have g2:=Lib.hid g;clear g;have hrc1:=hs1.out.call hb1;have hX1:=hrc1.blk;have cx0:=(blk_cell hX1 6).trans (show _=some (.int .i64 0) from rfl);have fx0:=hrc1.free 6;have cx1:=(blk_cell hX1 7).trans (show _=some (.int .i64 0) from rfl);have fx1:=hrc1.free 7;have cx2:=(blk_cell hX1 8).trans (show _=some (.int .i64 0) from rfl);have fx2:=hrc1.free 8;replace hrc1:=Lib.hid hrc1;replace hX1:=Lib.hid hX1;replace hr1:=Lib.hid hr1;replace hb1:=Lib.hid hb1;clear hc q))
    have hbX:But (fun k=>k=X) u1 (((u1.setCell ⟨X,6,none⟩ (.int .i64 wa)).setCell ⟨X,7,none⟩ (.int .i64 lo)).setCell ⟨X,8,none⟩ (.int .i64 no)):=(((but_set u1 X 6 (.int .i64 wa)).trans (but_set _ X 7 (.int .i64 lo))).trans (but_set _ X 8 (.int .i64 no)))
    have oX:=hrc1.out.own hbX
    have hs2:DkM R X E w.heap.size A c8 l w ({ MsgM.zero 6 with z1:=(z1:Int),z2:=(z2:Int),z3:=(z3:Int),z4:=(z4:Int),st:=⟨wa,lo,no⟩ }:MsgM) st2 (((u1.setCell ⟨X,6,none⟩ (.int .i64 wa)).setCell ⟨X,7,none⟩ (.int .i64 lo)).setCell ⟨X,8,none⟩ (.int .i64 no)):=hs1.out.store hr1.out hb1.out hbX ⟨(by rw [blk_put (blk_put (blk_put hX1.out _ _) _ _) _ _];rfl),oX.firsts,oX.puts,oX.sms,oX.es,oX.rgs,⟨hrc1.out.fit.key,hrc1.out.fit.ps,hrc1.out.fit.sms⟩⟩
    replace hs2:=Lib.hid hs2
    clear hbX oX hX1 hrc1 hr1 hb1 
    clear cx0 fx0 cx1 fx1 cx2 fx2
    generalize ((u1.setCell ⟨X,6,none⟩ (.int .i64 wa)).setCell ⟨X,7,none⟩ (.int .i64 lo)).setCell ⟨X,8,none⟩ (.int .i64 no)=wx2 at *
    clear hs1
    have hc:=eye10strs_any R A c8 l st2 wx2 hs2.out.rd hl5 hcap (hTG.out _ hs2.out.g)
    have q:=hs2.out.ptr
    have LE:=load_blk (P:=Tryz.prog) (T:=66) hs2.out.eb Tryz.underlying66 rfl (by kernel_rfl)
    replace hc:=Lib.hid hc
    go_wp2_with (first|(refine wpList_load_at (ty:=66) rfl (by kernel_rfl) (p:=.pointer (some ⟨E,0,none⟩)) rfl LE ?_;clear LE)|(go_at_call 23;(with_reducible refine Calls.mono hc.out ?_);rintro e u1 ⟨As,cs,sms,st3,rfl,hr1,hb1,ho1,hz1,g⟩;have g3:=Lib.hid (show Gives mSms _ _ _ from g);replace hz1:=Lib.hid hz1;replace ho1:=Lib.hid ho1;clear g;have hrc1:=hs2.out.call hb1;have hX1:=hrc1.blk;have cx0:=(blk_cell hX1 16).trans (show _=some (.slice none 0 0) from rfl);have fx0:=hrc1.free 16;replace hrc1:=Lib.hid hrc1;replace hX1:=Lib.hid hX1;replace hr1:=Lib.hid hr1;replace hb1:=Lib.hid hb1;clear hc q))
    have hbX:But (fun k=>k=X) u1 (u1.setCell ⟨X,16,none⟩ (.slice As sms.length cs)):=(but_set u1 X 16 (.slice As sms.length cs))
    have oX:=hrc1.out.own hbX
    have hs3:DkM R X E w.heap.size A c8 l w ({ MsgM.zero 6 with z1:=(z1:Int),z2:=(z2:Int),z3:=(z3:Int),z4:=(z4:Int),st:=⟨wa,lo,no⟩,As:=As,cs:=cs,sms:=sms }:MsgM) st3 (u1.setCell ⟨X,16,none⟩ (.slice As sms.length cs)):=hs2.out.store hr1.out hb1.out hbX ⟨(by rw [blk_put hX1.out _ _];rfl),oX.firsts,oX.puts,SmsOwn.but ⟨ho1.out.row.mono (by have:=blk_lt hs2.out.rc.blk;omega),fun s h=>(ho1.out.each s h).mono (by have:=blk_lt hs2.out.rc.blk;omega)⟩ hbX (fun k cs t hk hc=>by have e:k=X:=hk;subst e;rw [hX1.out] at hc;cases hc;decide),oX.es,oX.rgs,⟨hrc1.out.fit.key,hrc1.out.fit.ps,hz1.out⟩⟩
    replace hs3:=Lib.hid hs3
    clear hbX oX hX1 hrc1 hr1 hb1 ho1 hz1
    go_meet
    have hgv:Gives (rb mRg fun rng=>rb dStamp fun st=>rb mSms fun sms=>rp { mZero 6 with r1:=rng.a,r2:=rng.b,r3:=rng.c,r4:=rng.d,st:=st,sms:=sms }) st0 st3 (MsgM.p ({ MsgM.zero 6 with z1:=(z1:Int),z2:=(z2:Int),z3:=(z3:Int),z4:=(z4:Int),st:=⟨wa,lo,no⟩,As:=As,cs:=cs,sms:=sms }:MsgM)):=g1.out.bind (g2.out.bind (g3.out.bind (Gives.ret _)))
    have ho0:(({ MsgM.zero 6 with z1:=(z1:Int),z2:=(z2:Int),z3:=(z3:Int),z4:=(z4:Int),st:=⟨wa,lo,no⟩,As:=As,cs:=cs,sms:=sms }:MsgM)).only=({ MsgM.zero 6 with z1:=(z1:Int),z2:=(z2:Int),z3:=(z3:Int),z4:=(z4:Int),st:=⟨wa,lo,no⟩,As:=As,cs:=cs,sms:=sms }:MsgM):=by rw [MsgM.only_6 rfl];rfl
    exact ⟨_,_,hs3.out,rfl,ho0,.inl ⟨by decide,hgv⟩⟩
   ·skip
    go_upto_region 28 with fail
    clear q4
    generalize wc=wx at *
    have hc:=eye10rng_any R A c8 l st0 wx hs.out.rd hl1 hcap 1099511627776 1099511627776 rfl (by omega)
    have q:=hs.out.ptr
    have LE:=load_blk (P:=Tryz.prog) (T:=66) hs.out.eb Tryz.underlying66 rfl (by kernel_rfl)
    replace hc:=Lib.hid hc
    go_wp2_with (first|(refine wpList_load_at (ty:=66) rfl (by kernel_rfl) (p:=.pointer (some ⟨E,0,none⟩)) rfl LE ?_;clear LE)|(go_at_call 22;(with_reducible refine Calls.mono hc.out ?_);rintro e u1 ⟨⟨z1,z2,z3,z4⟩,st1,he,hr1,hb1,g⟩;simp only [rngVal] at he;subst he;have g1:=Lib.hid g.rng;clear g;have hrc1:=hs.out.call hb1;have hX1:=hrc1.blk;have cx0:=(blk_cell hX1 12).trans (show _=some (.int .i64 0) from rfl);have fx0:=hrc1.free 12;have cx1:=(blk_cell hX1 13).trans (show _=some (.int .i64 0) from rfl);have fx1:=hrc1.free 13;have cx2:=(blk_cell hX1 14).trans (show _=some (.int .i64 0) from rfl);have fx2:=hrc1.free 14;have cx3:=(blk_cell hX1 15).trans (show _=some (.int .i64 0) from rfl);have fx3:=hrc1.free 15;replace hrc1:=Lib.hid hrc1;replace hX1:=Lib.hid hX1;replace hr1:=Lib.hid hr1;replace hb1:=Lib.hid hb1;clear hc q))
    have hbX:But (fun k=>k=X) u1 ((((u1.setCell ⟨X,12,none⟩ (.int .i64 (z1:Int))).setCell ⟨X,13,none⟩ (.int .i64 (z2:Int))).setCell ⟨X,14,none⟩ (.int .i64 (z3:Int))).setCell ⟨X,15,none⟩ (.int .i64 (z4:Int))):=((((but_set u1 X 12 (.int .i64 (z1:Int))).trans (but_set _ X 13 (.int .i64 (z2:Int)))).trans (but_set _ X 14 (.int .i64 (z3:Int)))).trans (but_set _ X 15 (.int .i64 (z4:Int))))
    have oX:=hrc1.out.own hbX
    have hs1:DkM R X E w.heap.size A c8 l w ({ MsgM.zero 7 with z1:=(z1:Int),z2:=(z2:Int),z3:=(z3:Int),z4:=(z4:Int) }:MsgM) st1 ((((u1.setCell ⟨X,12,none⟩ (.int .i64 (z1:Int))).setCell ⟨X,13,none⟩ (.int .i64 (z2:Int))).setCell ⟨X,14,none⟩ (.int .i64 (z3:Int))).setCell ⟨X,15,none⟩ (.int .i64 (z4:Int))):=hs.out.store hr1.out hb1.out hbX ⟨(by rw [blk_put (blk_put (blk_put (blk_put hX1.out _ _) _ _) _ _) _ _];rfl),oX.firsts,oX.puts,oX.sms,oX.es,oX.rgs,⟨hrc1.out.fit.key,hrc1.out.fit.ps,hrc1.out.fit.sms⟩⟩
    replace hs1:=Lib.hid hs1
    clear hbX oX hX1 hrc1 hr1 hb1 
    go_meet
    have hgv:Gives (rb mRg fun rng=>rp { mZero 7 with r1:=rng.a,r2:=rng.b,r3:=rng.c,r4:=rng.d }) st0 st1 (MsgM.p ({ MsgM.zero 7 with z1:=(z1:Int),z2:=(z2:Int),z3:=(z3:Int),z4:=(z4:Int) }:MsgM)):=g1.out.bind (Gives.ret _)
    have ho0:(({ MsgM.zero 7 with z1:=(z1:Int),z2:=(z2:Int),z3:=(z3:Int),z4:=(z4:Int) }:MsgM)).only=({ MsgM.zero 7 with z1:=(z1:Int),z2:=(z2:Int),z3:=(z3:Int),z4:=(z4:Int) }:MsgM):=by rw [MsgM.only_7 rfl];rfl
    exact ⟨_,_,hs1.out,rfl,ho0,.inl ⟨by decide,hgv⟩⟩
   ·skip
    go_upto_region 30 with fail
    clear q4
    generalize wc=wx at *
    have hc:=eyeNum_any R A c8 l st0 wx hs.out.rd hl1 hcap 1099511627776 1099511627776 rfl (by omega)
    obtain ⟨src,st1,h1⟩:∃v s,gv 0 (dCount 1099511627776) st0=(v,s):=⟨_,_,rfl⟩
    rw [h1] at hc
    have g1:=gives_i h1
    clear h1
    replace g1:=Lib.hid g1
    have q:=hs.out.ptr
    replace hc:=Lib.hid hc
    go_wp2_with (first|(go_at_call 20;(with_reducible refine Calls.mono hc.out ?_);rintro e u1 ⟨rfl,hr1,hb1⟩;have hrc1:=hs.out.call hb1;have hX1:=hrc1.blk;have cx0:=(blk_cell hX1 17).trans (show _=some (.int .i64 0) from rfl);have fx0:=hrc1.free 17;replace hrc1:=Lib.hid hrc1;replace hX1:=Lib.hid hX1;replace hr1:=Lib.hid hr1;replace hb1:=Lib.hid hb1;clear hc q))
    have hbX:But (fun k=>k=X) u1 (u1.setCell ⟨X,17,none⟩ (.int .i64 (src:Int))):=(but_set u1 X 17 (.int .i64 (src:Int)))
    have oX:=hrc1.out.own hbX
    have hs1:DkM R X E w.heap.size A c8 l w ({ MsgM.zero 8 with src:=(src:Int) }:MsgM) st1 (u1.setCell ⟨X,17,none⟩ (.int .i64 (src:Int))):=hs.out.store hr1.out hb1.out hbX ⟨(by rw [blk_put hX1.out _ _];rfl),oX.firsts,oX.puts,oX.sms,oX.es,oX.rgs,⟨hrc1.out.fit.key,hrc1.out.fit.ps,hrc1.out.fit.sms⟩⟩
    replace hs1:=Lib.hid hs1
    clear hbX oX hX1 hrc1 hr1 hb1 
    go_meet
    have hgv:Gives (rb iM fun src=>rp { mZero 8 with src:=src }) st0 st1 (MsgM.p ({ MsgM.zero 8 with src:=(src:Int) }:MsgM)):=g1.out.bind (Gives.ret _)
    have ho0:(({ MsgM.zero 8 with src:=(src:Int) }:MsgM)).only=({ MsgM.zero 8 with src:=(src:Int) }:MsgM):=by rw [MsgM.only_8 rfl];rfl
    exact ⟨_,_,hs1.out,rfl,ho0,.inl ⟨by decide,hgv⟩⟩
   ·skip
    exact absurd rfl hKn.out
   ·have h0:=kOk_no hno
    have t1:(K == 1)=false:=by rw [beq_eq_false_iff_ne];omega
    have t2:(K == 2)=false:=by rw [beq_eq_false_iff_ne];omega
    have t3:(K == 3)=false:=by rw [beq_eq_false_iff_ne];omega
    have t4:(K == 4)=false:=by rw [beq_eq_false_iff_ne];omega
    have t5:(K == 5)=false:=by rw [beq_eq_false_iff_ne];omega
    have t6:(K == 6)=false:=by rw [beq_eq_false_iff_ne];omega
    have t7:(K == 7)=false:=by rw [beq_eq_false_iff_ne];omega
    have t8:(K == 8)=false:=by rw [beq_eq_false_iff_ne];omega
    have t9:(K == 9)=false:=by rw [beq_eq_false_iff_ne];omega
    have hfin:DkEnd R X E w.heap.size A c8 l w K st0 wc:=⟨_,_,hs.out,rfl,zeroM_only hno,.inr ⟨hno,rfl,rfl⟩⟩
    replace hfin:=Lib.hid hfin
    clear h0 hs hno
    go_wp2_with fail
    go_meet
    exact hfin.out
  case rest =>
   clear hs
   obtain ⟨m,st,hs,hkd,honly,hgv⟩:=hcut
   refine hK2 _ _ ?_
   have q:=hs.ptr
   have q2:=hs.rd.c2
   cases st with
   | none =>
    have hno:decM l=none:=by
     cases hd:decM l with
     | none=>rfl
     | some p =>
      rcases hl2.out with ⟨rfl,_⟩ | ⟨b,q,rfl,rfl,rfl⟩
      ·cases hd
      ·have h2:=(DkEnd.same hKe.out hgv hd (hF.out p hd)).2.1
       cases h2
    unfold Option.isNone at q2
    obtain ⟨W9,SR9,C9,hb9,hG9⟩:=store_blk (P:=Tryz.prog) (T:=41) (cs:=#[.int .i64 0,.int .i64 0,.int .i64 0,.int .i64 0,.string ⟨#[]⟩,.slice none 0 0,.int .i64 0,.int .i64 0,.int .i64 0,.int .i64 0,.slice none 0 0,.bool false,.int .i64 0,.int .i64 0,.int .i64 0,.int .i64 0,.slice none 0 0,.int .i64 0,.int .i64 0,.slice none 0 0,.slice none 0 0]) hs.zb rfl (by kernel_rfl) (by kernel_rfl)
    have hg9:=hG9 w hs.g (Nat.le_refl _)
    replace C9:=Lib.hid C9
    replace hg9:=Lib.hid hg9
    clear hb9 hG9
    replace hno:=Lib.hid hno
    replace hs:=Lib.hid hs
    replace hgv:=Lib.hid hgv
    replace honly:=Lib.hid honly
    replace hkd:=Lib.hid hkd
    go_wp2_with (refine wpList_store_at (ty:=41) rfl (by kernel_rfl) (p:=.pointer (some ⟨w.heap.size,0,none⟩)) (v:=.agg #[.int .i64 0,.int .i64 0,.int .i64 0,.int .i64 0,.string ⟨#[]⟩,.slice none 0 0,.int .i64 0,.int .i64 0,.int .i64 0,.int .i64 0,.slice none 0 0,.bool false,.int .i64 0,.int .i64 0,.int .i64 0,.int .i64 0,.slice none 0 0,.int .i64 0,.int .i64 0,.slice none 0 0,.slice none 0 0]) rfl rfl SR9 ?_;clear SR9)
    refine bodyPost_ret (v:=.tuple #[.agg #[.int .i64 0,.int .i64 0,.int .i64 0,.int .i64 0,.string ⟨#[]⟩,.slice none 0 0,.int .i64 0,.int .i64 0,.int .i64 0,.int .i64 0,.slice none 0 0,.bool false,.int .i64 0,.int .i64 0,.int .i64 0,.int .i64 0,.slice none 0 0,.int .i64 0,.int .i64 0,.slice none 0 0,.slice none 0 0],.int .i64 10]) (results_cell2 (i:=2) (j:=3) rfl rfl rfl C9.out Tryz.underlying41 rfl (by kernel_rfl)) rfl ?_
    exact ⟨MsgM.zero 0,10,rfl,.inr ⟨hno.out,rfl⟩,zeroM_in _ _,hg9.out⟩
   | some rest =>
    obtain ⟨b,q0,rfl,hkb,rfl⟩:∃b q,l=b::q∧kv=b.toNat∧st0=some q:=by
     rcases hl2.out with ⟨_,rfl⟩ | h
     ·rcases hgv with ⟨_,h⟩ | ⟨_,_,h⟩
      ·cases h.still
      ·cases h
     ·exact h
    subst hkb
    have hsm:m.Small:=DkEnd.small hKI.out hs.rc.fit honly (by simp only [List.length_cons] at hl;omega) hgv rfl
    have hsame:∀p,decM (b::q0)=some p→kOk K=true∧p=m.p:=fun p hd=>by
     have h2:=DkEnd.same hKe.out hgv hd (hF.out p hd)
     exact ⟨h2.1,h2.2.2⟩
    have hmi:=hs.rc.ls.ins
    have hTw:=hTG.out _ hs.g
    unfold Option.isNone at q2
    have LR:=load_blk (P:=Tryz.prog) (T:=41) hs.rc.blk Tryz.underlying41 rfl (by kernel_rfl)
    replace hsame:=Lib.hid hsame
    replace hs:=Lib.hid hs
    replace hsm:=Lib.hid hsm
    replace hmi:=Lib.hid hmi
    replace hTw:=Lib.hid hTw
    replace hgv:=True.intro
    clear hgv hl2
    cases hk0:kOk m.kind with
    | false =>
     have hno:decM (b::q0)=none:=by
      cases hd:decM (b::q0) with
      | none=>rfl
      | some p =>
       have h1:=(hsame.out p hd).1
       rw [←hkd,hk0] at h1
       cases h1
     have hen:=refMEnc_kind m wc hmi.out hsm.out hTw.out hk0
     replace hen:=Lib.hid hen
     replace hno:=Lib.hid hno
     replace hk0:=Lib.hid hk0
     replace hkd:=Lib.hid hkd
     replace honly:=Lib.hid honly
     go_upto_region 48 with (first
      | (refine wpList_load_at (ty:=41) rfl (by kernel_rfl) (p:=.pointer (some ⟨X,0,none⟩)) rfl LR ?_;clear LR)
      | (go_at_call 25;(with_reducible refine Calls.mono hen.out ?_);rintro e u2 ⟨rfl,hg2⟩;clear hen))
     obtain ⟨W9,SR9,C9,hb9,hG9⟩:=store_blk (P:=Tryz.prog) (T:=41) (cs:=#[.int .i64 0,.int .i64 0,.int .i64 0,.int .i64 0,.string ⟨#[]⟩,.slice none 0 0,.int .i64 0,.int .i64 0,.int .i64 0,.int .i64 0,.slice none 0 0,.bool false,.int .i64 0,.int .i64 0,.int .i64 0,.int .i64 0,.slice none 0 0,.int .i64 0,.int .i64 0,.slice none 0 0,.slice none 0 0]) (hg2.blk hs.out.zb) rfl (by kernel_rfl) (by kernel_rfl)
     have hg9:=hG9 w (hs.out.g.trans hg2) (Nat.le_refl _)
     replace C9:=Lib.hid C9
     replace hg9:=Lib.hid hg9
     clear hb9 hG9
     go_wp2_with (refine wpList_store_at (ty:=41) rfl (by kernel_rfl) (p:=.pointer (some ⟨w.heap.size,0,none⟩)) (v:=.agg #[.int .i64 0,.int .i64 0,.int .i64 0,.int .i64 0,.string ⟨#[]⟩,.slice none 0 0,.int .i64 0,.int .i64 0,.int .i64 0,.int .i64 0,.slice none 0 0,.bool false,.int .i64 0,.int .i64 0,.int .i64 0,.int .i64 0,.slice none 0 0,.int .i64 0,.int .i64 0,.slice none 0 0,.slice none 0 0]) rfl rfl SR9 ?_;clear SR9)
     refine bodyPost_ret (v:=.tuple #[.agg #[.int .i64 0,.int .i64 0,.int .i64 0,.int .i64 0,.string ⟨#[]⟩,.slice none 0 0,.int .i64 0,.int .i64 0,.int .i64 0,.int .i64 0,.slice none 0 0,.bool false,.int .i64 0,.int .i64 0,.int .i64 0,.int .i64 0,.slice none 0 0,.int .i64 0,.int .i64 0,.slice none 0 0,.slice none 0 0],.int .i64 10]) (results_cell2 (i:=2) (j:=3) rfl rfl rfl C9.out Tryz.underlying41 rfl (by kernel_rfl)) rfl ?_
     exact ⟨MsgM.zero 0,10,rfl,.inr ⟨hno.out,rfl⟩,zeroM_in _ _,hg9.out⟩
    | true =>
     have hen:=refMEnc_any m wc hmi.out hsm.out hTw.out hk0 honly
     rw [show encM m.p=if chkM m.p=true then some (docM m.p) else none from by
      have hp:m.p=m.p.only:=by rw [←MsgM.only_p,honly]
      rw [hp,encM_eq,←hp];rfl] at hen
     replace hkd:=Lib.hid hkd
     cases hck:chkM m.p with
     | false =>
      have hno:decM (b::q0)=none:=by
       cases hd:decM (b::q0) with
       | none=>rfl
       | some p =>
        have h1:=(decM_canon hd).1
        rw [(hsame.out p hd).2,hck] at h1
        cases h1
      rw [hck] at hen
      have hen2:Calls Tryz.prog 25 #[.agg m.cells] wc fun e w'=>∃A c,e=.returned (.tuple #[.slice A 0 c,.int .i64 1])∧G wc w':=hen.mono fun e w' h=>by
       obtain ⟨A,c,h1,_,h3⟩:=h
       exact ⟨A,c,h1,h3⟩
      clear hen
      replace hen:=Lib.hid hen2
      replace hno:=Lib.hid hno
      replace hk0:=Lib.hid hk0
      replace honly:=Lib.hid honly
      replace hck:=Lib.hid hck
      go_upto_region 48 with (first
       | (refine wpList_load_at (ty:=41) rfl (by kernel_rfl) (p:=.pointer (some ⟨X,0,none⟩)) rfl LR ?_;clear LR)
       | (go_at_call 25;(with_reducible refine Calls.mono hen.out ?_);rintro e u2 ⟨A2,d2,rfl,hg2⟩;clear hen))
      obtain ⟨W9,SR9,C9,hb9,hG9⟩:=store_blk (P:=Tryz.prog) (T:=41) (cs:=#[.int .i64 0,.int .i64 0,.int .i64 0,.int .i64 0,.string ⟨#[]⟩,.slice none 0 0,.int .i64 0,.int .i64 0,.int .i64 0,.int .i64 0,.slice none 0 0,.bool false,.int .i64 0,.int .i64 0,.int .i64 0,.int .i64 0,.slice none 0 0,.int .i64 0,.int .i64 0,.slice none 0 0,.slice none 0 0]) (hg2.blk hs.out.zb) rfl (by kernel_rfl) (by kernel_rfl)
      have hg9:=hG9 w (hs.out.g.trans hg2) (Nat.le_refl _)
      replace C9:=Lib.hid C9
      replace hg9:=Lib.hid hg9
      clear hb9 hG9
      go_wp2_with (refine wpList_store_at (ty:=41) rfl (by kernel_rfl) (p:=.pointer (some ⟨w.heap.size,0,none⟩)) (v:=.agg #[.int .i64 0,.int .i64 0,.int .i64 0,.int .i64 0,.string ⟨#[]⟩,.slice none 0 0,.int .i64 0,.int .i64 0,.int .i64 0,.int .i64 0,.slice none 0 0,.bool false,.int .i64 0,.int .i64 0,.int .i64 0,.int .i64 0,.slice none 0 0,.int .i64 0,.int .i64 0,.slice none 0 0,.slice none 0 0]) rfl rfl SR9 ?_;clear SR9)
      refine bodyPost_ret (v:=.tuple #[.agg #[.int .i64 0,.int .i64 0,.int .i64 0,.int .i64 0,.string ⟨#[]⟩,.slice none 0 0,.int .i64 0,.int .i64 0,.int .i64 0,.int .i64 0,.slice none 0 0,.bool false,.int .i64 0,.int .i64 0,.int .i64 0,.int .i64 0,.slice none 0 0,.int .i64 0,.int .i64 0,.slice none 0 0,.slice none 0 0],.int .i64 10]) (results_cell2 (i:=2) (j:=3) rfl rfl rfl C9.out Tryz.underlying41 rfl (by kernel_rfl)) rfl ?_
      exact ⟨MsgM.zero 0,10,rfl,.inr ⟨hno.out,rfl⟩,zeroM_in _ _,hg9.out⟩
     | true =>
      rw [hck] at hen
      obtain ⟨dd,hdd⟩:∃dd,docM m.p=dd:=⟨_,rfl⟩
      rw [hdd] at hen
      have hen2:Calls Tryz.prog 25 #[.agg m.cells] wc fun e w'=>∃A c,e=.returned (.tuple #[.slice A dd.length c,.int .i64 0])∧OwnL 5 1 byteC w' wc.heap.size (.slice A dd.length c) dd∧G wc w':=hen.mono fun e w' h=>by
       obtain ⟨A,c,h1,h2,h3⟩:=h
       exact ⟨A,c,h1,h2,h3⟩
      clear hen
      replace hen:=Lib.hid hen2
      generalize hlq:b::q0=l at *
      replace hdd:=Lib.hid hdd
      replace hlq:=Lib.hid hlq
      replace hk0:=Lib.hid hk0
      replace honly:=Lib.hid honly
      replace hck:=Lib.hid hck
      go_upto_region 48 with (first
       | (refine wpList_load_at (ty:=41) rfl (by kernel_rfl) (p:=.pointer (some ⟨X,0,none⟩)) rfl LR ?_;clear LR)
       | (go_at_call 25;(with_reducible refine Calls.mono hen.out ?_);rintro e u2 ⟨A2,d2,rfl,ho2,hg2⟩;clear hen))
      have hgu:=hs.out.g.trans hg2
      have hcv1:=conv_back (c:=d2) (ho2.self byteC_len)
      have hcv2:=conv_back (c:=c8) (hsl.out.g (Nat.le_refl _) hgu)
      by_cases heq:dd=l
      ·have hz:=hg2.blk hs.out.zb
       obtain ⟨W9,SR9,C9,hb9,hG9⟩:=store_blk (P:=Tryz.prog) (T:=41) (cs:=m.cells) hz rfl (by kernel_rfl) (by kernel_rfl)
       have hg9:=hG9 w hgu (Nat.le_refl _)
       have hlt:=hs.out.lt
       have hrX:=hs.out.rc.g hg2
       have LR2:=load_blk (P:=Tryz.prog) (T:=41) hrX.blk Tryz.underlying41 rfl (by kernel_rfl)
       have hr9:=(hrX.but hb9 (by intro e;have e2:X=w.heap.size:=e;omega) (fun k cs t hk hc=>by
        have e:k=w.heap.size:=hk
        subst e
        rw [hz] at hc
        simp at hc
        rw [←hc.2]
        unfold AlienT
        decide)).ls.ins
       have hyes:decM l=some m.p:=by rw [←heq,←hdd.out];exact decM_back hck.out (msg_fits hsm.out) (by rw [←MsgM.only_p,honly.out])
       replace C9:=Lib.hid C9
       replace hr9:=Lib.hid hr9
       replace hg9:=Lib.hid hg9
       replace hyes:=Lib.hid hyes
       subst heq
       clear hb9 hG9 hz ho2 hrX hlt q q2
       go_wp2_with (first
        | (refine wpList_load_at (ty:=41) rfl (by kernel_rfl) (p:=.pointer (some ⟨X,0,none⟩)) rfl LR2 ?_;clear LR2)
        | (refine wpList_store_at (ty:=41) rfl (by kernel_rfl) (p:=.pointer (some ⟨w.heap.size,0,none⟩)) (v:=.agg m.cells) rfl rfl SR9 ?_;clear SR9))
       refine bodyPost_ret (v:=.tuple #[.agg m.cells,.int .i64 0]) (results_cell2 (i:=2) (j:=3) rfl rfl rfl C9.out Tryz.underlying41 rfl (by kernel_rfl)) rfl ?_
       exact ⟨m,0,rfl,.inl ⟨hyes.out,rfl,hsm.out⟩,hr9.out,hg9.out⟩
      ·have hno:decM l=none:=by
        cases hd:decM l with
        | none=>rfl
        | some p =>
         have h1:=(decM_canon hd).2.1
         rw [(hsame.out p hd).2,hdd.out] at h1
         exact absurd h1.symm heq
       have hne:strOf dd≠strOf l:=fun h=>heq (by rw [←strOf_list dd,h,strOf_list])
       have e2:((strOf dd).toList == (strOf l).toList)=false:=by rw [bytes_beq];simpa using hne
       have e3:((strOf dd).toList != (strOf l).toList)=true:=by unfold bne;rw [e2];rfl
       replace heq:=Lib.hid heq
       replace hne:=Lib.hid hne
       replace hno:=Lib.hid hno
       obtain ⟨W9,SR9,C9,hb9,hG9⟩:=store_blk (P:=Tryz.prog) (T:=41) (cs:=#[.int .i64 0,.int .i64 0,.int .i64 0,.int .i64 0,.string ⟨#[]⟩,.slice none 0 0,.int .i64 0,.int .i64 0,.int .i64 0,.int .i64 0,.slice none 0 0,.bool false,.int .i64 0,.int .i64 0,.int .i64 0,.int .i64 0,.slice none 0 0,.int .i64 0,.int .i64 0,.slice none 0 0,.slice none 0 0]) (hg2.blk hs.out.zb) rfl (by kernel_rfl) (by kernel_rfl)
       have hg9:=hG9 w hgu (Nat.le_refl _)
       replace C9:=Lib.hid C9
       replace hg9:=Lib.hid hg9
       clear hb9 hG9
       go_wp2_with (refine wpList_store_at (ty:=41) rfl (by kernel_rfl) (p:=.pointer (some ⟨w.heap.size,0,none⟩)) (v:=.agg #[.int .i64 0,.int .i64 0,.int .i64 0,.int .i64 0,.string ⟨#[]⟩,.slice none 0 0,.int .i64 0,.int .i64 0,.int .i64 0,.int .i64 0,.slice none 0 0,.bool false,.int .i64 0,.int .i64 0,.int .i64 0,.int .i64 0,.slice none 0 0,.int .i64 0,.int .i64 0,.slice none 0 0,.slice none 0 0]) rfl rfl SR9 ?_;clear SR9)
       refine bodyPost_ret (v:=.tuple #[.agg #[.int .i64 0,.int .i64 0,.int .i64 0,.int .i64 0,.string ⟨#[]⟩,.slice none 0 0,.int .i64 0,.int .i64 0,.int .i64 0,.int .i64 0,.slice none 0 0,.bool false,.int .i64 0,.int .i64 0,.int .i64 0,.int .i64 0,.slice none 0 0,.int .i64 0,.int .i64 0,.slice none 0 0,.slice none 0 0],.int .i64 10]) (results_cell2 (i:=2) (j:=3) rfl rfl rfl C9.out Tryz.underlying41 rfl (by kernel_rfl)) rfl ?_
       exact ⟨MsgM.zero 0,10,rfl,.inr ⟨hno.out,rfl⟩,zeroM_in _ _,hg9.out⟩
end Go.Proofs.YtheogchkelmeeaaGreatDoor

/- penstockref10.Decode: what it answers of a Feed's first byte. Conditions: at most 500000 bytes; what is a message bears lengths that fit; the decoder's tables lie as the library lays them. -/
import Derived.Test.YtheogchkelmeeaaGreatDoorM46MsgDecodes
import Derived.Deep.CutBlock
namespace Go.Proofs.YtheogchkelmeeaaGreatDoor
open Go.RowKit
set_option maxRecDepth 100000 in
set_option maxHeartbeats 16000000 in
theorem refMDec_9 (l : List UInt8) (A : Option Addr) (c8 : Nat) (w : World) (hsl : Sl byteC 1 w w.heap.size A l) (hl : l.length ≤ 500000) (hcap : l.length ≤ c8) (hT : Tabs w) (hF : ∀ p, decM l = some p → p.Fits) (h9 : ∃ q, l = 9 :: q) :
  Calls Tryz.prog 6 #[.slice A l.length c8] w (RetDoc w l):=by
 have hl1:l.length≤1073741824:=by omega
 have hl5:l.length≤524288:=by omega
 have hTG:∀w2,G w w2→Tabs w2:=fun w2 h=>hT.g h
 have hg0:=G.new w (.cells #[.int .i64 0,.int .i64 0,.int .i64 0,.int .i64 0,.string ⟨#[]⟩,.slice none 0 0,.int .i64 0,.int .i64 0,.int .i64 0,.int .i64 0,.slice none 0 0,.bool false,.int .i64 0,.int .i64 0,.int .i64 0,.int .i64 0,.slice none 0 0,.int .i64 0,.int .i64 0,.slice none 0 0,.slice none 0 0] 41)
 have hr0:=RdS.start (T:=64) (c8:=c8) ((hsl.g (Nat.le_refl _) hg0).more hg0.size)
 have hg1:=G.new (w.alloc (.cells #[.int .i64 0,.int .i64 0,.int .i64 0,.int .i64 0,.string ⟨#[]⟩,.slice none 0 0,.int .i64 0,.int .i64 0,.int .i64 0,.int .i64 0,.slice none 0 0,.bool false,.int .i64 0,.int .i64 0,.int .i64 0,.int .i64 0,.slice none 0 0,.int .i64 0,.int .i64 0,.slice none 0 0,.slice none 0 0] 41)) (.cells #[.slice A l.length c8,.int .i64 0,.bool false] 64)
 have hz1:(w.alloc (.cells #[.int .i64 0,.int .i64 0,.int .i64 0,.int .i64 0,.string ⟨#[]⟩,.slice none 0 0,.int .i64 0,.int .i64 0,.int .i64 0,.int .i64 0,.slice none 0 0,.bool false,.int .i64 0,.int .i64 0,.int .i64 0,.int .i64 0,.slice none 0 0,.int .i64 0,.int .i64 0,.slice none 0 0,.slice none 0 0] 41)).heap.size=w.heap.size+1:=by simp
 have hz2:((w.alloc (.cells #[.int .i64 0,.int .i64 0,.int .i64 0,.int .i64 0,.string ⟨#[]⟩,.slice none 0 0,.int .i64 0,.int .i64 0,.int .i64 0,.int .i64 0,.slice none 0 0,.bool false,.int .i64 0,.int .i64 0,.int .i64 0,.int .i64 0,.slice none 0 0,.int .i64 0,.int .i64 0,.slice none 0 0,.slice none 0 0] 41)).alloc (.cells #[.slice A l.length c8,.int .i64 0,.bool false] 64)).heap.size=w.heap.size+1+1:=by simp
 rw [hz1] at hr0
 have hg2:=G.new ((w.alloc (.cells #[.int .i64 0,.int .i64 0,.int .i64 0,.int .i64 0,.string ⟨#[]⟩,.slice none 0 0,.int .i64 0,.int .i64 0,.int .i64 0,.int .i64 0,.slice none 0 0,.bool false,.int .i64 0,.int .i64 0,.int .i64 0,.int .i64 0,.slice none 0 0,.int .i64 0,.int .i64 0,.slice none 0 0,.slice none 0 0] 41)).alloc (.cells #[.slice A l.length c8,.int .i64 0,.bool false] 64)) (.cells #[.pointer (some ⟨w.heap.size+1,0,none⟩)] 66)
 have hE:=blk_new ((w.alloc (.cells #[.int .i64 0,.int .i64 0,.int .i64 0,.int .i64 0,.string ⟨#[]⟩,.slice none 0 0,.int .i64 0,.int .i64 0,.int .i64 0,.int .i64 0,.slice none 0 0,.bool false,.int .i64 0,.int .i64 0,.int .i64 0,.int .i64 0,.slice none 0 0,.int .i64 0,.int .i64 0,.slice none 0 0,.slice none 0 0] 41)).alloc (.cells #[.slice A l.length c8,.int .i64 0,.bool false] 64)) #[.pointer (some ⟨w.heap.size+1,0,none⟩)] 66
 rw [hz2] at hE
 have hZ:=hg2.blk (hg1.blk (blk_new w #[.int .i64 0,.int .i64 0,.int .i64 0,.int .i64 0,.string ⟨#[]⟩,.slice none 0 0,.int .i64 0,.int .i64 0,.int .i64 0,.int .i64 0,.slice none 0 0,.bool false,.int .i64 0,.int .i64 0,.int .i64 0,.int .i64 0,.slice none 0 0,.int .i64 0,.int .i64 0,.slice none 0 0,.slice none 0 0] 41))
 have hGa:=(hg0.trans hg1).trans hg2
 have hr2:=hr0.g hg2
 have hz3:(((w.alloc (.cells #[.int .i64 0,.int .i64 0,.int .i64 0,.int .i64 0,.string ⟨#[]⟩,.slice none 0 0,.int .i64 0,.int .i64 0,.int .i64 0,.int .i64 0,.slice none 0 0,.bool false,.int .i64 0,.int .i64 0,.int .i64 0,.int .i64 0,.slice none 0 0,.int .i64 0,.int .i64 0,.slice none 0 0,.slice none 0 0] 41)).alloc (.cells #[.slice A l.length c8,.int .i64 0,.bool false] 64)).alloc (.cells #[.pointer (some ⟨w.heap.size+1,0,none⟩)] 66)).heap.size=w.heap.size+1+1+1:=by simp
 replace hz3:=Lib.hid hz3
 replace hr2:=Lib.hid hr2
 replace hE:=Lib.hid hE
 replace hZ:=Lib.hid hZ
 replace hGa:=Lib.hid hGa
 clear hg0 hg1 hg2 hr0 hz1 hz2 hT
 replace hsl:=Lib.hid hsl
 replace hTG:=Lib.hid hTG
 replace hF:=Lib.hid hF
 go_enter Tryz.func6,Tryz.ntmps6
 go_upto_region 2 with fail
 generalize ((w.alloc (.cells #[.int .i64 0,.int .i64 0,.int .i64 0,.int .i64 0,.string ⟨#[]⟩,.slice none 0 0,.int .i64 0,.int .i64 0,.int .i64 0,.int .i64 0,.slice none 0 0,.bool false,.int .i64 0,.int .i64 0,.int .i64 0,.int .i64 0,.slice none 0 0,.int .i64 0,.int .i64 0,.slice none 0 0,.slice none 0 0] 41)).alloc (.cells #[.slice A l.length c8,.int .i64 0,.bool false] 64)).alloc (.cells #[.pointer (some ⟨w.heap.size+1,0,none⟩)] 66)=W2 at *
 generalize hEe:w.heap.size+1+1=E at *
 generalize hRe:w.heap.size+1=R at *
 have hER:w.heap.size < R∧R < E:=by omega
 have hz2:W2.heap.size=E+1:=hz3.out
 clear hEe hRe hz3
 have hc:=eyeByte_any R A c8 l (some l) W2 hr2.out hl1 hcap
 obtain ⟨kv,st0,h1⟩:∃v s,gv 0 dByte (some l)=(v,s):=⟨_,_,rfl⟩
 have hl2:(l=[]∧st0=none)∨∃b q,l=b::q∧kv=b.toNat∧st0=some q:=by
  cases l with
  | nil =>
   cases h1
   exact .inl ⟨rfl,rfl⟩
  | cons b q =>
   cases h1
   exact .inr ⟨b,q,rfl,rfl,rfl⟩
 have hkv:kv≤255:=by
  rcases hl2 with ⟨rfl,_⟩ | ⟨b,q,_,rfl,_⟩
  ·cases h1;omega
  ·have:=b.toNat_lt;omega
 have hK9:kv=9:=by
  obtain ⟨q9,hq9⟩:=h9
  rcases hl2 with ⟨rfl,_⟩ | ⟨b,q,hb,rfl,_⟩
  ·cases hq9
  ·rw [hb] at hq9
   rw [(List.cons.inj hq9).1]
   rfl
 clear h9
 rw [h1] at hc
 obtain ⟨K,hKe⟩:∃K:Int,(kv:Int)=K:=⟨_,rfl⟩
 rw [hKe] at hc
 have hKI:Int64 K:=⟨by omega,by omega⟩
 have hKn:K=9:=by omega
 replace hKn:=Lib.hid hKn
 clear hK9
 have q:=(blk_cell hE.out 0).trans (show _=some (.pointer (some ⟨R,0,none⟩)) from rfl)
 replace hKe:=Lib.hid hKe
 replace hl2:=Lib.hid hl2
 replace hc:=Lib.hid hc
 replace hz2:=Lib.hid hz2
 replace hKI:=Lib.hid hKI
 clear h1 hr2 hkv
 have hB0:∀u:World,∃W',(Instr.storeAt 41 (.pointer (some ⟨u.heap.size,0,none⟩)) (.agg (MsgM.zero K).cells)).run Tryz.prog (u.alloc (.cells #[.int .i64 0,.int .i64 0,.int .i64 0,.int .i64 0,.string ⟨#[]⟩,.slice none 0 0,.int .i64 0,.int .i64 0,.int .i64 0,.int .i64 0,.slice none 0 0,.bool false,.int .i64 0,.int .i64 0,.int .i64 0,.int .i64 0,.slice none 0 0,.int .i64 0,.int .i64 0,.slice none 0 0,.slice none 0 0] 41))=.ok () W'∧W'.heap[u.heap.size]?=some (.cells (MsgM.zero K).cells 41 (0,0))∧But (fun k=>k=u.heap.size) (u.alloc (.cells #[.int .i64 0,.int .i64 0,.int .i64 0,.int .i64 0,.string ⟨#[]⟩,.slice none 0 0,.int .i64 0,.int .i64 0,.int .i64 0,.int .i64 0,.slice none 0 0,.bool false,.int .i64 0,.int .i64 0,.int .i64 0,.int .i64 0,.slice none 0 0,.int .i64 0,.int .i64 0,.slice none 0 0,.slice none 0 0] 41)) W':=fun u=>by
  obtain ⟨W9,SR9,C9,hb9,hG9⟩:=store_blk (P:=Tryz.prog) (T:=41) (cs:=(MsgM.zero K).cells) (blk_new u #[.int .i64 0,.int .i64 0,.int .i64 0,.int .i64 0,.string ⟨#[]⟩,.slice none 0 0,.int .i64 0,.int .i64 0,.int .i64 0,.int .i64 0,.slice none 0 0,.bool false,.int .i64 0,.int .i64 0,.int .i64 0,.int .i64 0,.slice none 0 0,.int .i64 0,.int .i64 0,.slice none 0 0,.slice none 0 0] 41) rfl (by kernel_rfl) (by kernel_rfl)
  exact ⟨W9,SR9,C9,hb9⟩
 replace hB0:=Lib.hid hB0
 go_cut [5] (fun v wz=>∃X:Nat,v=.pointer (some ⟨X,0,none⟩)∧Hid (DkM R X E w.heap.size A c8 l w (MsgM.zero K) st0 wz))
 case first =>
  go_wp2_with (first
   | (refine wpList_store_at (ty:=41) rfl (by kernel_rfl) (p:=.pointer (some ⟨u1.heap.size,0,none⟩)) (v:=.agg (MsgM.zero K).cells) rfl rfl SR1 ?_;clear SR1)
   | (go_at_call 16;(with_reducible refine Calls.mono hc.out ?_);rintro e u1 ⟨rfl,hr1,hb1⟩;obtain ⟨wx,SR1,C1,hbx⟩:=hB0.out u1;replace C1:=Lib.hid C1;replace hbx:=Lib.hid hbx;replace hr1:=Lib.hid hr1;replace hb1:=Lib.hid hb1;clear hc hB0))
  go_meet
  have hgn:=G.new u1 (.cells #[.int .i64 0,.int .i64 0,.int .i64 0,.int .i64 0,.string ⟨#[]⟩,.slice none 0 0,.int .i64 0,.int .i64 0,.int .i64 0,.int .i64 0,.slice none 0 0,.bool false,.int .i64 0,.int .i64 0,.int .i64 0,.int .i64 0,.slice none 0 0,.int .i64 0,.int .i64 0,.slice none 0 0,.slice none 0 0] 41)
  refine ⟨u1.heap.size,rfl,Lib.hid ?_⟩
  have hz:=hb1.out.size
  have h2:=hz2.out
  refine ⟨(hr1.out.g hgn).but hbx.out (fun k hk e=>by omega),⟨C1.out,OwnL.nil,⟨OwnL.nil,fun _ h=>by cases h⟩,⟨OwnL.nil,fun _ h=>by cases h⟩,OwnL.nil,OwnL.nil,zeroM_fit K⟩,hbx.out.blk (hgn.blk (hb1.out.blk hE.out (by omega))) (by omega),hbx.out.blk (hgn.blk (hb1.out.blk hZ.out (by omega))) (by omega),((hGa.out.gOf' hb1.out (by rintro k rfl;omega)).trans hgn).gOf' hbx.out (by rintro k rfl;omega),⟨hER.1,hER.2,by omega,Nat.le_refl _⟩⟩
 case rest =>
  clear hc hB0 q hE hZ hGa hz2
  obtain ⟨X,rfl,hs⟩:=hcut
  rename_i hC
  refine hC _ _ ?_
  refine wp_seq_k fun K2 hK2=>?_
  go_cut [] (fun wz=>DkEnd R X E w.heap.size A c8 l w K st0 wz)
  case first =>
   clear hF hl2 hKI hKe hsl
   have q4:=(blk_cell hs.out.rc.blk 0).trans (show _=some (.int .i64 K) from rfl)
   have e9:=hKn.out
   clear hKn
   subst e9
   go_upto_region 32 with fail
   clear q4
   generalize wc=wx at *
   have hc:=eyeNum_any R A c8 l st0 wx hs.out.rd hl1 hcap 1099511627776 1099511627776 rfl (by omega)
   obtain ⟨src,st1,h1⟩:∃v s,gv 0 (dCount 1099511627776) st0=(v,s):=⟨_,_,rfl⟩
   rw [h1] at hc
   have g1:=gives_i h1
   clear h1
   replace g1:=Lib.hid g1
   have q:=hs.out.ptr
   replace hc:=Lib.hid hc
   go_upto_region 33 with (first|(go_at_call 20;(with_reducible refine Calls.mono hc.out ?_);rintro e u1 ⟨rfl,hr1,hb1⟩;have hrc1:=hs.out.call hb1;have hX1:=hrc1.blk;have cx0:=(blk_cell hX1 17).trans (show _=some (.int .i64 0) from rfl);have fx0:=hrc1.free 17;replace hrc1:=Lib.hid hrc1;replace hX1:=Lib.hid hX1;replace hr1:=Lib.hid hr1;replace hb1:=Lib.hid hb1;clear hc q))
   have hbX:But (fun k=>k=X) u1 (u1.setCell ⟨X,17,none⟩ (.int .i64 (src:Int))):=(but_set u1 X 17 (.int .i64 (src:Int)))
   have oX:=hrc1.out.own hbX
   have hs1:DkM R X E w.heap.size A c8 l w ({ MsgM.zero 9 with src:=(src:Int) }:MsgM) st1 (u1.setCell ⟨X,17,none⟩ (.int .i64 (src:Int))):=hs.out.store hr1.out hb1.out hbX ⟨(by rw [blk_put hX1.out _ _];rfl),oX.firsts,oX.puts,oX.sms,oX.es,oX.rgs,⟨hrc1.out.fit.key,hrc1.out.fit.ps,hrc1.out.fit.sms⟩⟩
   replace hs1:=Lib.hid hs1
   clear hbX oX hX1 hrc1 hr1 hb1 
   clear cx0 fx0
   generalize u1.setCell ⟨X,17,none⟩ (.int .i64 (src:Int))=wx1 at *
   clear hs
   have hc:=eyeNum_any R A c8 l st1 wx1 hs1.out.rd hl1 hcap 1099511627776 1099511627776 rfl (by omega)
   obtain ⟨total,st2,h1⟩:∃v s,gv 0 (dCount 1099511627776) st1=(v,s):=⟨_,_,rfl⟩
   rw [h1] at hc
   have g2:=gives_i h1
   clear h1
   replace g2:=Lib.hid g2
   have q:=hs1.out.ptr
   replace hc:=Lib.hid hc
   go_upto_region 34 with (first|(go_at_call 20;(with_reducible refine Calls.mono hc.out ?_);rintro e u1 ⟨rfl,hr1,hb1⟩;have hrc1:=hs1.out.call hb1;have hX1:=hrc1.blk;have cx0:=(blk_cell hX1 18).trans (show _=some (.int .i64 0) from rfl);have fx0:=hrc1.free 18;replace hrc1:=Lib.hid hrc1;replace hX1:=Lib.hid hX1;replace hr1:=Lib.hid hr1;replace hb1:=Lib.hid hb1;clear hc q))
   have hbX:But (fun k=>k=X) u1 (u1.setCell ⟨X,18,none⟩ (.int .i64 (total:Int))):=(but_set u1 X 18 (.int .i64 (total:Int)))
   have oX:=hrc1.out.own hbX
   have hs2:DkM R X E w.heap.size A c8 l w ({ MsgM.zero 9 with src:=(src:Int),total:=(total:Int) }:MsgM) st2 (u1.setCell ⟨X,18,none⟩ (.int .i64 (total:Int))):=hs1.out.store hr1.out hb1.out hbX ⟨(by rw [blk_put hX1.out _ _];rfl),oX.firsts,oX.puts,oX.sms,oX.es,oX.rgs,⟨hrc1.out.fit.key,hrc1.out.fit.ps,hrc1.out.fit.sms⟩⟩
   replace hs2:=Lib.hid hs2
   clear hbX oX hX1 hrc1 hr1 hb1 
   clear cx0 fx0
   generalize u1.setCell ⟨X,18,none⟩ (.int .i64 (total:Int))=wx2 at *
   clear hs1
   have hn:=eyeNum_any R A c8 l st2 wx2 hs2.out.rd hl1 hcap 1000 1000 rfl (by omega)
   obtain ⟨N,st3,h1⟩:∃v s,gv 0 (dCount 1000) st2=(v,s):=⟨_,_,rfl⟩
   rw [h1] at hn
   have g3:=gv_gives h1
   have hN:N≤1000:=gv_bound (P:=(·≤1000)) h1 (by omega) (fun _ _ _ h=>(dCount_num h).2)
   replace g3:=Lib.hid g3
   have q:=hs2.out.ptr
   replace hn:=Lib.hid hn
   clear h1
   go_upto_region 35 with (go_at_call 20;(with_reducible refine Calls.mono hn.out ?_);rintro e u3 ⟨rfl,hr3,hb3⟩;have hs3:=Lib.hid (hs2.out.read hr3 hb3);clear hr3 hb3)
   clear hn q hs2
   go_wp2_with fail
   go_loopw [7] (fun i wr=>∃(jj k:Nat) (Ae:Option Addr) (ce:Nat) (es:List Ev) (st:Option (List UInt8)),i=.int .i64 jj∧Hid (jj+k=N)∧k+es.length≤1000∧Hid (DkM R X E w.heap.size A c8 l w ({ MsgM.zero 9 with src:=(src:Int),total:=(total:Int),Ae:=Ae,ce:=ce,es:=es }:MsgM) st wr)∧Hid (More dEvent N k st3 st es)) (fun i _=>N - (intOf i).toNat)
   case atStart=>exact ⟨0,N,none,0,[],st3,rfl,Lib.hid (by omega),by simpa using hN,hs3,More.start _ _ _⟩
   case round =>
    obtain ⟨wo,rfl⟩:∃wo:World,wo=wr:=⟨_,rfl⟩
    clear hs3
    obtain ⟨jj,k,Ae,ce,es,st,rfl,hjk,hk1,hs,hmo⟩:=hrel
    have q:=hs.out.ptr
    have q2:=hs.out.rd.c2
    by_cases hgo:k≠0∧∃lx,st=some lx
    case pos =>
     obtain ⟨hk,lx,rfl⟩:=hgo
     unfold Option.isNone at q2
     obtain ⟨j,rfl⟩:∃j,k=j+1:=⟨k - 1,by omega⟩
     have hj1:(jj:Int) < (N:Int):=by have:=hjk.out;omega
     have hj2:jj < N:=by have:=hjk.out;omega
     have hid:=hs.out.gr (G.refl wo).drew
     have x1:=(blk_cell hid.rc.blk 19).trans (show _=some (.slice Ae es.length ce) from rfl)
     have x1w:=(blk_cell hs.out.rc.blk 19).trans (show _=some (.slice Ae es.length ce) from rfl)
     have qd:=hid.ptr
     have hc:=eyeEvent_any R A c8 l (some lx) _ hid.rd hl1 hcap (hTG.out _ hid.g)
     replace hc:=Lib.hid hc
     replace hid:=Lib.hid hid
     clear hk hs
     go_upto_region 38 with fail
     go_region_law (first
      | (refine step_append_but evs_elem _ (by kernel_rfl) (.tmp 132) (.tmp 136) rfl (X+1) _ es rfl (hi5.out.rc.es.g (G.new _ _)) (w5.heap.size+1) (some ⟨w5.heap.size,0,none⟩) 1 [(⟨s,v,d,⟨x,y,z⟩,ix⟩:Ev)] rfl (by intro h;cases h) (Sl.of_blk Ev.cells_len _ (blk_new _ _ _) rfl (by omega)) (by simp;omega) (by simp;omega) (by have:=hz5;simp;omega) ?_;intro v6 w6 hown6 hk6 hb6;rw [hes.out] at hown6;obtain ⟨A6,c6,e6,_,_,_⟩:=OwnL.sl Ev.cells_len hown6;subst e6;obtain ⟨zf,⟨u,zc⟩,hd6,hbx⟩:=(hi5.out.rc.g (G.new _ _)).pushE hown6 hk6 hb6 rfl;have hd7:=Lib.hid ((hi5.out.gr (G.new _ _)).turn hbx hd6);clear hd6 hbx hown6 hk6 hb6)
      | (go_simp;go_at_call 24;refine Calls.mono hc.out ?_;rintro e w5 ⟨⟨s,v,d,⟨x,y,z⟩,ix⟩,st4,he,hr5,hb5,g5⟩;simp only [evVal,Ev.cells] at he;subst he;have hi5:=hid.out.read hr5 hb5;have x5:=(blk_cell hi5.rc.blk 19).trans (show _=some (.slice Ae es.length ce) from rfl);have x5b:=(blk_cell (hi5.rc.g (G.new w5 (.cells #[.string s,.int .i64 v,.string d,.int .i64 x,.int .i64 y,.int .i64 z,.int .i64 ix] 76))).blk 19).trans (show _=some (.slice Ae es.length ce) from rfl);have hz5:X+1≤w5.heap.size:=blk_lt hi5.rc.blk;have hmo2:=hmo.out.step g5;obtain ⟨es',hes⟩:∃es',es++[(⟨s,v,d,⟨x,y,z⟩,ix⟩:Ev)]=es':=⟨_,rfl⟩;have hel:es'.length=es.length+1:=(by rw [←hes];simp);rw [hes] at hmo2;replace hmo2:=Lib.hid hmo2;replace hes:=Lib.hid hes;replace hel:=Lib.hid hel;replace hi5:=Lib.hid hi5;clear hr5 hb5 g5))
     all_goals
      go_wp2_with fail
      go_roundw
      case rel=>exact ⟨jj+1,j,A6,c6,es',st4,by go_num,Lib.hid (by have:=hjk.out;omega),by have:=hel.out;omega,hd7,hmo2⟩
      case measure=>(simp [intOf] <;> omega)
    case neg =>
     have hme:Gives (dMany dEvent N) st3 st es:=hmo.out.end (by
      by_cases hk:k=0
      ·exact .inl hk
      ·cases st with
       | none=>exact .inr rfl
       | some lx=>exact absurd ⟨hk,lx,rfl⟩ hgo)
     have g4:Gives mEvs st2 st es:=g3.out.bind hme
     have hends:(jj:Int) < (N:Int)→st=none:=fun h=>by
      cases st with
      | none=>rfl
      | some lx=>exact absurd ⟨by have:=hjk.out;omega,lx,rfl⟩ hgo
     replace g4:=Lib.hid g4
     replace hmo:=Lib.hid hmo.out
     clear hme g3 hgo
     -- the way out: the stamp, the ranges
     have hst:=eyeStamp_any R A c8 l st wo hs.out.rd hl1 hcap
     have hXs:=hs.out.rc
     replace hst:=Lib.hid hst
     have hout:∀(P:Prop),(decide ((jj:Int) < (N:Int))=false→¬ (jj:Int) < (N:Int)→P)→((jj:Int) < (N:Int)→st=none→P)→P:=fun P h1 h2=>by
      by_cases h:(jj:Int) < (N:Int)
      ·exact h2 h (hends h)
      ·exact h1 (decide_eq_false h) h
     clear hends hXs
     refine hout _ (fun t1 t2=>?_) (fun t1 t2=>?_)
     case' _=>skip
     all_goals
      try (subst t2;unfold Option.isNone at q2)
      clear hout
      go_upto_region 40 with (go_at_call 19;(with_reducible refine Calls.mono hst.out ?_);rintro e u1 ⟨⟨wa,lo,no⟩,st5,he,hr1,hb1,g5⟩;simp only [stVal,stV] at he;subst he;have hrc1:=hs.out.call hb1;have hX1:=hrc1.blk;have cx0:=(blk_cell hX1 6).trans (show _=some (.int .i64 0) from rfl);have fx0:=hrc1.free 6;have cx1:=(blk_cell hX1 7).trans (show _=some (.int .i64 0) from rfl);have fx1:=hrc1.free 7;have cx2:=(blk_cell hX1 8).trans (show _=some (.int .i64 0) from rfl);have fx2:=hrc1.free 8;replace hrc1:=Lib.hid hrc1;replace hX1:=Lib.hid hX1;replace hr1:=Lib.hid hr1;replace hb1:=Lib.hid hb1;replace g5:=Lib.hid g5;clear q q2)
      have hbX:But (fun k=>k=X) u1 (((u1.setCell ⟨X,6,none⟩ (.int .i64 wa)).setCell ⟨X,7,none⟩ (.int .i64 lo)).setCell ⟨X,8,none⟩ (.int .i64 no)):=(((but_set u1 X 6 (.int .i64 wa)).trans (but_set _ X 7 (.int .i64 lo))).trans (but_set _ X 8 (.int .i64 no)))
      have oX:=hrc1.out.own hbX
      have hs5:DkM R X E w.heap.size A c8 l w ({ MsgM.zero 9 with src:=(src:Int),total:=(total:Int),Ae:=Ae,ce:=ce,es:=es,st:=⟨wa,lo,no⟩ }:MsgM) st5 (((u1.setCell ⟨X,6,none⟩ (.int .i64 wa)).setCell ⟨X,7,none⟩ (.int .i64 lo)).setCell ⟨X,8,none⟩ (.int .i64 no)):=hs.out.store hr1.out hb1.out hbX ⟨(by rw [blk_put (blk_put (blk_put hX1.out _ _) _ _) _ _];rfl),oX.firsts,oX.puts,oX.sms,oX.es,oX.rgs,⟨hrc1.out.fit.key,hrc1.out.fit.ps,hrc1.out.fit.sms⟩⟩
      replace hs5:=Lib.hid hs5
      clear hbX oX hX1 hrc1 hr1 hb1 cx0 fx0 cx1 fx1 cx2 fx2 hs hst
      generalize ((u1.setCell ⟨X,6,none⟩ (.int .i64 wa)).setCell ⟨X,7,none⟩ (.int .i64 lo)).setCell ⟨X,8,none⟩ (.int .i64 no)=wx5 at *
      have hn:=eyeNum_any R A c8 l st5 wx5 hs5.out.rd hl1 hcap 1000 1000 rfl (by omega)
      obtain ⟨N2,st6,h1⟩:∃v s,gv 0 (dCount 1000) st5=(v,s):=⟨_,_,rfl⟩
      rw [h1] at hn
      have g6:=gv_gives h1
      have hN2:N2≤1000:=gv_bound (P:=(·≤1000)) h1 (by omega) (fun _ _ _ h=>(dCount_num h).2)
      replace g6:=Lib.hid g6
      have q:=hs5.out.ptr
      replace hn:=Lib.hid hn
      clear h1
      go_upto_region 41 with (go_at_call 20;(with_reducible refine Calls.mono hn.out ?_);rintro e u3 ⟨rfl,hr3,hb3⟩;have hs6:=Lib.hid (hs5.out.read hr3 hb3);clear hr3 hb3)
      clear hn q hs5
      go_wp2_with fail
      go_loopw [9] (fun i wr=>∃(jj k:Nat) (Ag:Option Addr) (cg:Nat) (rgs:List Rg) (st:Option (List UInt8)),i=.int .i64 jj∧Hid (jj+k=N2)∧k+rgs.length≤1000∧Hid (DkM R X E w.heap.size A c8 l w ({ MsgM.zero 9 with src:=(src:Int),total:=(total:Int),Ae:=Ae,ce:=ce,es:=es,st:=⟨wa,lo,no⟩,Ag:=Ag,cg:=cg,rgs:=rgs }:MsgM) st wr)∧Hid (More mRg N2 k st6 st rgs)) (fun i _=>N2 - (intOf i).toNat)
      case atStart=>exact ⟨0,N2,none,0,[],st6,rfl,Lib.hid (by omega),by simpa using hN2,hs6,More.start _ _ _⟩
      case round =>
       obtain ⟨wp,rfl⟩:∃wp:World,wp=wr:=⟨_,rfl⟩
       clear hs6
       obtain ⟨jj2,k2,Ag,cg,rgs,st7,rfl,hjk2,hk2,hs7,hmo2⟩:=hrel
       have q:=hs7.out.ptr
       have q2:=hs7.out.rd.c2
       by_cases hgo:k2≠0∧∃lx,st7=some lx
       case pos =>
        obtain ⟨hk,lx,rfl⟩:=hgo
        unfold Option.isNone at q2
        obtain ⟨j,rfl⟩:∃j,k2=j+1:=⟨k2 - 1,by omega⟩
        have hj1:(jj2:Int) < (N2:Int):=by have:=hjk2.out;omega
        have hj2:jj2 < N2:=by have:=hjk2.out;omega
        have hid:=hs7.out.gr (G.refl wp).drew
        have x1:=(blk_cell hid.rc.blk 20).trans (show _=some (.slice Ag rgs.length cg) from rfl)
        have x1w:=(blk_cell hs7.out.rc.blk 20).trans (show _=some (.slice Ag rgs.length cg) from rfl)
        have qd:=hid.ptr
        have hc:=eye10rng_any R A c8 l (some lx) _ hid.rd hl1 hcap 1099511627776 1099511627776 rfl (by omega)
        replace hc:=Lib.hid hc
        replace hid:=Lib.hid hid
        clear hk hs7
        go_upto_region 44 with fail
        go_region_law (first
         | (refine step_append_but rg_elem _ (by kernel_rfl) (.tmp 160) (.tmp 163) rfl (X+1) _ rgs rfl (hi5.out.rc.rgs.g (G.new _ _)) (w5.heap.size+1) (some ⟨w5.heap.size,0,none⟩) 1 [(⟨(v1:Int),(v2:Int),(v3:Int),(v4:Int)⟩:Rg)] rfl (by intro h;cases h) (Sl.of_blk Rg.cells_len _ (blk_new _ _ _) rfl (by omega)) (by simp;omega) (by simp;omega) (by have:=hz5;simp;omega) ?_;intro v6 w6 hown6 hk6 hb6;rw [hgs.out] at hown6;obtain ⟨A6,c6,e6,_,_,_⟩:=OwnL.sl Rg.cells_len hown6;subst e6;obtain ⟨zf,⟨u,zc⟩,hd6,hbx⟩:=(hi5.out.rc.g (G.new _ _)).pushR hown6 hk6 hb6 rfl;have hd7:=Lib.hid ((hi5.out.gr (G.new _ _)).turn hbx hd6);clear hd6 hbx hown6 hk6 hb6)
         | (go_simp;go_at_call 22;refine Calls.mono hc.out ?_;rintro e w5 ⟨⟨v1,v2,v3,v4⟩,st8,he,hr5,hb5,g8⟩;simp only [rngVal] at he;subst he;have hi5:=hid.out.read hr5 hb5;have x5:=(blk_cell hi5.rc.blk 20).trans (show _=some (.slice Ag rgs.length cg) from rfl);have x5b:=(blk_cell (hi5.rc.g (G.new w5 (.cells #[.int .i64 (v1:Int),.int .i64 (v2:Int),.int .i64 (v3:Int),.int .i64 (v4:Int)] 36))).blk 20).trans (show _=some (.slice Ag rgs.length cg) from rfl);have hz5:X+1≤w5.heap.size:=blk_lt hi5.rc.blk;have hmo3:=hmo2.out.step g8.rng;obtain ⟨gs',hgs⟩:∃gs',rgs++[(⟨(v1:Int),(v2:Int),(v3:Int),(v4:Int)⟩:Rg)]=gs':=⟨_,rfl⟩;have hel:gs'.length=rgs.length+1:=(by rw [←hgs];simp);rw [hgs] at hmo3;replace hmo3:=Lib.hid hmo3;replace hgs:=Lib.hid hgs;replace hel:=Lib.hid hel;replace hi5:=Lib.hid hi5;clear hr5 hb5 g8))
        all_goals
         go_wp2_with fail
         go_roundw
         case rel=>exact ⟨jj2+1,j,A6,c6,gs',st8,by go_num,Lib.hid (by have:=hjk2.out;omega),by have:=hel.out;omega,hd7,hmo3⟩
         case measure=>(simp [intOf] <;> omega)
       case neg =>
        have hme:Gives (dMany mRg N2) st6 st7 rgs:=hmo2.out.end (by
         by_cases hk:k2=0
         ·exact .inl hk
         ·cases st7 with
          | none=>exact .inr rfl
          | some lx=>exact absurd ⟨hk,lx,rfl⟩ hgo)
        have g7:Gives mRgs st5 st7 rgs:=g6.out.bind hme
        have hends:(jj2:Int) < (N2:Int)→st7=none:=fun h=>by
         cases st7 with
         | none=>rfl
         | some lx=>exact absurd ⟨by have:=hjk2.out;omega,lx,rfl⟩ hgo
        have hgv:Gives (rb iM fun src=>rb iM fun total=>rb mEvs fun es=>rb dStamp fun st=>rb mRgs fun rgs=>rp { mZero 9 with src:=src,total:=total,es:=es,st:=st,rgs:=rgs }) st0 st7 (MsgM.p ({ MsgM.zero 9 with src:=(src:Int),total:=(total:Int),Ae:=Ae,ce:=ce,es:=es,st:=⟨wa,lo,no⟩,Ag:=Ag,cg:=cg,rgs:=rgs }:MsgM)):=g1.out.bind (g2.out.bind (g4.out.bind (g5.out.bind (g7.bind (Gives.ret _)))))
        have ho0:({ MsgM.zero 9 with src:=(src:Int),total:=(total:Int),Ae:=Ae,ce:=ce,es:=es,st:=⟨wa,lo,no⟩,Ag:=Ag,cg:=cg,rgs:=rgs }:MsgM).only=({ MsgM.zero 9 with src:=(src:Int),total:=(total:Int),Ae:=Ae,ce:=ce,es:=es,st:=⟨wa,lo,no⟩,Ag:=Ag,cg:=cg,rgs:=rgs }:MsgM):=by rw [MsgM.only_9 rfl];rfl
        have hfin:DkEnd R X E w.heap.size A c8 l w 9 st0 wp:=⟨_,_,hs7.out,rfl,ho0,.inl ⟨by decide,hgv⟩⟩
        replace hfin:=Lib.hid hfin
        replace hmo2:=Lib.hid hmo2.out
        clear hme hgv ho0 hs7 g7
        by_cases h:(jj2:Int) < (N2:Int)
        ·obtain rfl:=hends h
         unfold Option.isNone at q2
         go_wp2_with fail
         go_meet
         exact hfin.out
        ·have t3:decide ((jj2:Int) < (N2:Int))=false:=decide_eq_false h
         clear hends
         go_wp2_with fail
         go_meet
         exact hfin.out
  case rest =>
   clear hs
   obtain ⟨m,st,hs,hkd,honly,hgv⟩:=hcut
   refine hK2 _ _ ?_
   have q:=hs.ptr
   have q2:=hs.rd.c2
   cases st with
   | none =>
    have hno:decM l=none:=by
     cases hd:decM l with
     | none=>rfl
     | some p =>
      rcases hl2.out with ⟨rfl,_⟩ | ⟨b,q,rfl,rfl,rfl⟩
      ·cases hd
      ·have h2:=(DkEnd.same hKe.out hgv hd (hF.out p hd)).2.1
       cases h2
    unfold Option.isNone at q2
    obtain ⟨W9,SR9,C9,hb9,hG9⟩:=store_blk (P:=Tryz.prog) (T:=41) (cs:=#[.int .i64 0,.int .i64 0,.int .i64 0,.int .i64 0,.string ⟨#[]⟩,.slice none 0 0,.int .i64 0,.int .i64 0,.int .i64 0,.int .i64 0,.slice none 0 0,.bool false,.int .i64 0,.int .i64 0,.int .i64 0,.int .i64 0,.slice none 0 0,.int .i64 0,.int .i64 0,.slice none 0 0,.slice none 0 0]) hs.zb rfl (by kernel_rfl) (by kernel_rfl)
    have hg9:=hG9 w hs.g (Nat.le_refl _)
    replace C9:=Lib.hid C9
    replace hg9:=Lib.hid hg9
    clear hb9 hG9
    replace hno:=Lib.hid hno
    replace hs:=Lib.hid hs
    replace hgv:=Lib.hid hgv
    replace honly:=Lib.hid honly
    replace hkd:=Lib.hid hkd
    go_wp2_with (refine wpList_store_at (ty:=41) rfl (by kernel_rfl) (p:=.pointer (some ⟨w.heap.size,0,none⟩)) (v:=.agg #[.int .i64 0,.int .i64 0,.int .i64 0,.int .i64 0,.string ⟨#[]⟩,.slice none 0 0,.int .i64 0,.int .i64 0,.int .i64 0,.int .i64 0,.slice none 0 0,.bool false,.int .i64 0,.int .i64 0,.int .i64 0,.int .i64 0,.slice none 0 0,.int .i64 0,.int .i64 0,.slice none 0 0,.slice none 0 0]) rfl rfl SR9 ?_;clear SR9)
    refine bodyPost_ret (v:=.tuple #[.agg #[.int .i64 0,.int .i64 0,.int .i64 0,.int .i64 0,.string ⟨#[]⟩,.slice none 0 0,.int .i64 0,.int .i64 0,.int .i64 0,.int .i64 0,.slice none 0 0,.bool false,.int .i64 0,.int .i64 0,.int .i64 0,.int .i64 0,.slice none 0 0,.int .i64 0,.int .i64 0,.slice none 0 0,.slice none 0 0],.int .i64 10]) (results_cell2 (i:=2) (j:=3) rfl rfl rfl C9.out Tryz.underlying41 rfl (by kernel_rfl)) rfl ?_
    exact ⟨MsgM.zero 0,10,rfl,.inr ⟨hno.out,rfl⟩,zeroM_in _ _,hg9.out⟩
   | some rest =>
    obtain ⟨b,q0,rfl,hkb,rfl⟩:∃b q,l=b::q∧kv=b.toNat∧st0=some q:=by
     rcases hl2.out with ⟨_,rfl⟩ | h
     ·rcases hgv with ⟨_,h⟩ | ⟨_,_,h⟩
      ·cases h.still
      ·cases h
     ·exact h
    subst hkb
    have hsm:m.Small:=DkEnd.small hKI.out hs.rc.fit honly (by simp only [List.length_cons] at hl;omega) hgv rfl
    have hsame:∀p,decM (b::q0)=some p→kOk K=true∧p=m.p:=fun p hd=>by
     have h2:=DkEnd.same hKe.out hgv hd (hF.out p hd)
     exact ⟨h2.1,h2.2.2⟩
    have hmi:=hs.rc.ls.ins
    have hTw:=hTG.out _ hs.g
    unfold Option.isNone at q2
    have LR:=load_blk (P:=Tryz.prog) (T:=41) hs.rc.blk Tryz.underlying41 rfl (by kernel_rfl)
    replace hsame:=Lib.hid hsame
    replace hs:=Lib.hid hs
    replace hsm:=Lib.hid hsm
    replace hmi:=Lib.hid hmi
    replace hTw:=Lib.hid hTw
    replace hgv:=True.intro
    clear hgv hl2
    cases hk0:kOk m.kind with
    | false =>
     rw [hkd,hKn.out] at hk0
     cases hk0
    | true =>
     have hen:=refMEnc_any m wc hmi.out hsm.out hTw.out hk0 honly
     rw [show encM m.p=if chkM m.p=true then some (docM m.p) else none from by
      have hp:m.p=m.p.only:=by rw [←MsgM.only_p,honly]
      rw [hp,encM_eq,←hp];rfl] at hen
     replace hkd:=Lib.hid hkd
     cases hck:chkM m.p with
     | false =>
      have hno:decM (b::q0)=none:=by
       cases hd:decM (b::q0) with
       | none=>rfl
       | some p =>
        have h1:=(decM_canon hd).1
        rw [(hsame.out p hd).2,hck] at h1
        cases h1
      rw [hck] at hen
      have hen2:Calls Tryz.prog 25 #[.agg m.cells] wc fun e w'=>∃A c,e=.returned (.tuple #[.slice A 0 c,.int .i64 1])∧G wc w':=hen.mono fun e w' h=>by
       obtain ⟨A,c,h1,_,h3⟩:=h
       exact ⟨A,c,h1,h3⟩
      clear hen
      replace hen:=Lib.hid hen2
      replace hno:=Lib.hid hno
      replace hk0:=Lib.hid hk0
      replace honly:=Lib.hid honly
      replace hck:=Lib.hid hck
      go_upto_region 48 with (first
       | (refine wpList_load_at (ty:=41) rfl (by kernel_rfl) (p:=.pointer (some ⟨X,0,none⟩)) rfl LR ?_;clear LR)
       | (go_at_call 25;(with_reducible refine Calls.mono hen.out ?_);rintro e u2 ⟨A2,d2,rfl,hg2⟩;clear hen))
      obtain ⟨W9,SR9,C9,hb9,hG9⟩:=store_blk (P:=Tryz.prog) (T:=41) (cs:=#[.int .i64 0,.int .i64 0,.int .i64 0,.int .i64 0,.string ⟨#[]⟩,.slice none 0 0,.int .i64 0,.int .i64 0,.int .i64 0,.int .i64 0,.slice none 0 0,.bool false,.int .i64 0,.int .i64 0,.int .i64 0,.int .i64 0,.slice none 0 0,.int .i64 0,.int .i64 0,.slice none 0 0,.slice none 0 0]) (hg2.blk hs.out.zb) rfl (by kernel_rfl) (by kernel_rfl)
      have hg9:=hG9 w (hs.out.g.trans hg2) (Nat.le_refl _)
      replace C9:=Lib.hid C9
      replace hg9:=Lib.hid hg9
      clear hb9 hG9
      go_wp2_with (refine wpList_store_at (ty:=41) rfl (by kernel_rfl) (p:=.pointer (some ⟨w.heap.size,0,none⟩)) (v:=.agg #[.int .i64 0,.int .i64 0,.int .i64 0,.int .i64 0,.string ⟨#[]⟩,.slice none 0 0,.int .i64 0,.int .i64 0,.int .i64 0,.int .i64 0,.slice none 0 0,.bool false,.int .i64 0,.int .i64 0,.int .i64 0,.int .i64 0,.slice none 0 0,.int .i64 0,.int .i64 0,.slice none 0 0,.slice none 0 0]) rfl rfl SR9 ?_;clear SR9)
      refine bodyPost_ret (v:=.tuple #[.agg #[.int .i64 0,.int .i64 0,.int .i64 0,.int .i64 0,.string ⟨#[]⟩,.slice none 0 0,.int .i64 0,.int .i64 0,.int .i64 0,.int .i64 0,.slice none 0 0,.bool false,.int .i64 0,.int .i64 0,.int .i64 0,.int .i64 0,.slice none 0 0,.int .i64 0,.int .i64 0,.slice none 0 0,.slice none 0 0],.int .i64 10]) (results_cell2 (i:=2) (j:=3) rfl rfl rfl C9.out Tryz.underlying41 rfl (by kernel_rfl)) rfl ?_
      exact ⟨MsgM.zero 0,10,rfl,.inr ⟨hno.out,rfl⟩,zeroM_in _ _,hg9.out⟩
     | true =>
      rw [hck] at hen
      obtain ⟨dd,hdd⟩:∃dd,docM m.p=dd:=⟨_,rfl⟩
      rw [hdd] at hen
      have hen2:Calls Tryz.prog 25 #[.agg m.cells] wc fun e w'=>∃A c,e=.returned (.tuple #[.slice A dd.length c,.int .i64 0])∧OwnL 5 1 byteC w' wc.heap.size (.slice A dd.length c) dd∧G wc w':=hen.mono fun e w' h=>by
       obtain ⟨A,c,h1,h2,h3⟩:=h
       exact ⟨A,c,h1,h2,h3⟩
      clear hen
      replace hen:=Lib.hid hen2
      generalize hlq:b::q0=l at *
      replace hdd:=Lib.hid hdd
      replace hlq:=Lib.hid hlq
      replace hk0:=Lib.hid hk0
      replace honly:=Lib.hid honly
      replace hck:=Lib.hid hck
      go_upto_region 48 with (first
       | (refine wpList_load_at (ty:=41) rfl (by kernel_rfl) (p:=.pointer (some ⟨X,0,none⟩)) rfl LR ?_;clear LR)
       | (go_at_call 25;(with_reducible refine Calls.mono hen.out ?_);rintro e u2 ⟨A2,d2,rfl,ho2,hg2⟩;clear hen))
      have hgu:=hs.out.g.trans hg2
      have hcv1:=conv_back (c:=d2) (ho2.self byteC_len)
      have hcv2:=conv_back (c:=c8) (hsl.out.g (Nat.le_refl _) hgu)
      by_cases heq:dd=l
      ·have hz:=hg2.blk hs.out.zb
       obtain ⟨W9,SR9,C9,hb9,hG9⟩:=store_blk (P:=Tryz.prog) (T:=41) (cs:=m.cells) hz rfl (by kernel_rfl) (by kernel_rfl)
       have hg9:=hG9 w hgu (Nat.le_refl _)
       have hlt:=hs.out.lt
       have hrX:=hs.out.rc.g hg2
       have LR2:=load_blk (P:=Tryz.prog) (T:=41) hrX.blk Tryz.underlying41 rfl (by kernel_rfl)
       have hr9:=(hrX.but hb9 (by intro e;have e2:X=w.heap.size:=e;omega) (fun k cs t hk hc=>by
        have e:k=w.heap.size:=hk
        subst e
        rw [hz] at hc
        simp at hc
        rw [←hc.2]
        unfold AlienT
        decide)).ls.ins
       have hyes:decM l=some m.p:=by rw [←heq,←hdd.out];exact decM_back hck.out (msg_fits hsm.out) (by rw [←MsgM.only_p,honly.out])
       replace C9:=Lib.hid C9
       replace hr9:=Lib.hid hr9
       replace hg9:=Lib.hid hg9
       replace hyes:=Lib.hid hyes
       subst heq
       clear hb9 hG9 hz ho2 hrX hlt q q2
       go_wp2_with (first
        | (refine wpList_load_at (ty:=41) rfl (by kernel_rfl) (p:=.pointer (some ⟨X,0,none⟩)) rfl LR2 ?_;clear LR2)
        | (refine wpList_store_at (ty:=41) rfl (by kernel_rfl) (p:=.pointer (some ⟨w.heap.size,0,none⟩)) (v:=.agg m.cells) rfl rfl SR9 ?_;clear SR9))
       refine bodyPost_ret (v:=.tuple #[.agg m.cells,.int .i64 0]) (results_cell2 (i:=2) (j:=3) rfl rfl rfl C9.out Tryz.underlying41 rfl (by kernel_rfl)) rfl ?_
       exact ⟨m,0,rfl,.inl ⟨hyes.out,rfl,hsm.out⟩,hr9.out,hg9.out⟩
      ·have hno:decM l=none:=by
        cases hd:decM l with
        | none=>rfl
        | some p =>
         have h1:=(decM_canon hd).2.1
         rw [(hsame.out p hd).2,hdd.out] at h1
         exact absurd h1.symm heq
       have hne:strOf dd≠strOf l:=fun h=>heq (by rw [←strOf_list dd,h,strOf_list])
       have e2:((strOf dd).toList == (strOf l).toList)=false:=by rw [bytes_beq];simpa using hne
       have e3:((strOf dd).toList != (strOf l).toList)=true:=by unfold bne;rw [e2];rfl
       replace heq:=Lib.hid heq
       replace hne:=Lib.hid hne
       replace hno:=Lib.hid hno
       obtain ⟨W9,SR9,C9,hb9,hG9⟩:=store_blk (P:=Tryz.prog) (T:=41) (cs:=#[.int .i64 0,.int .i64 0,.int .i64 0,.int .i64 0,.string ⟨#[]⟩,.slice none 0 0,.int .i64 0,.int .i64 0,.int .i64 0,.int .i64 0,.slice none 0 0,.bool false,.int .i64 0,.int .i64 0,.int .i64 0,.int .i64 0,.slice none 0 0,.int .i64 0,.int .i64 0,.slice none 0 0,.slice none 0 0]) (hg2.blk hs.out.zb) rfl (by kernel_rfl) (by kernel_rfl)
       have hg9:=hG9 w hgu (Nat.le_refl _)
       replace C9:=Lib.hid C9
       replace hg9:=Lib.hid hg9
       clear hb9 hG9
       go_wp2_with (refine wpList_store_at (ty:=41) rfl (by kernel_rfl) (p:=.pointer (some ⟨w.heap.size,0,none⟩)) (v:=.agg #[.int .i64 0,.int .i64 0,.int .i64 0,.int .i64 0,.string ⟨#[]⟩,.slice none 0 0,.int .i64 0,.int .i64 0,.int .i64 0,.int .i64 0,.slice none 0 0,.bool false,.int .i64 0,.int .i64 0,.int .i64 0,.int .i64 0,.slice none 0 0,.int .i64 0,.int .i64 0,.slice none 0 0,.slice none 0 0]) rfl rfl SR9 ?_;clear SR9)
       refine bodyPost_ret (v:=.tuple #[.agg #[.int .i64 0,.int .i64 0,.int .i64 0,.int .i64 0,.string ⟨#[]⟩,.slice none 0 0,.int .i64 0,.int .i64 0,.int .i64 0,.int .i64 0,.slice none 0 0,.bool false,.int .i64 0,.int .i64 0,.int .i64 0,.int .i64 0,.slice none 0 0,.int .i64 0,.int .i64 0,.slice none 0 0,.slice none 0 0],.int .i64 10]) (results_cell2 (i:=2) (j:=3) rfl rfl rfl C9.out Tryz.underlying41 rfl (by kernel_rfl)) rfl ?_
       exact ⟨MsgM.zero 0,10,rfl,.inr ⟨hno.out,rfl⟩,zeroM_in _ _,hg9.out⟩
end Go.Proofs.YtheogchkelmeeaaGreatDoor

/- Several texts in one: ByteLaw, EyeByte, DecBatch. -/
import Derived.Test.YtheogchkelmeeaaGreatDoorM5MsgDecodes
import Derived.Test.YtheogchkelmeeaaGreatDoorM6MsgDecodes
import Derived.Test.YtheogchkelmeeaaGreatDoorM20MsgDecodes
import Derived.Test.YtheogchkelmeeaaGreatDoorM14MsgDecodes
import Derived.Test.YtheogchkelmeeaaGreatDoorRefCheckQMsgDecodes
import Derived.Deep.RegionLaw
import Derived.BigRegion
/- One byte as a reader. Plain mathematics. No condition. -/
namespace Go.Proofs.YtheogchkelmeeaaGreatDoor
open Go.RowKit
/-- One byte. -/
def dByte:Reader Nat:=fun l=>match l with
 | []=>none
 | b::q=>some (b.toNat,q)
end Go.Proofs.YtheogchkelmeeaaGreatDoor
/- penstockref7.Eye.Byte: what it answers. Condition: at most 2^30 bytes. -/
namespace Go.Proofs.YtheogchkelmeeaaGreatDoor
open Go.RowKit
set_option maxRecDepth 100000 in
set_option maxHeartbeats 2000000 in
theorem eyeByte_any (R : Nat) (A : Option Addr) (c8 : Nat) (l0 : List UInt8) (st : Option (List UInt8)) (w : World) (h : RdS 64 R A c8 l0 st w) (hl : l0.length ≤ 1073741824) (_hcap : l0.length ≤ c8) :
  Calls Tryz.prog 16 #[.pointer (some ⟨R,0,none⟩)] w (RdPost 64 R A c8 l0 w (.int .i64 (gv 0 dByte st).1) (gv 0 dByte st).2):=by
 obtain ⟨p,hp,hst,hr⟩:=h
 have c0:=hr.c0
 have c1:=hr.c1
 have c2:=hr.c2
 have f2:=hr.free 2
 have hb2:=hr.bad true
 have hbut2:=but_set w R 2 (.bool true)
 cases st with
 | none =>
  clear hst c0 c1
  show Calls _ _ _ _ (RdPost _ _ _ _ _ _ (.int .i64 0) none)
  unfold Option.isNone at c2
  have hend:=hb2.g (G.refl _)
  replace hr:=Lib.hid hr
  replace hend:=Lib.hid hend
  replace hbut2:=Lib.hid hbut2
  clear hb2
  go_enter Tryz.func16,Tryz.ntmps16
  go_upto_region 1 with fail
  go_quiet (fail)
  generalize hwd:w.drewN _=wd
  have hgd:G w wd:=by rw [←hwd];exact (G.refl _).drewN _
  clear hwd
  have hr2:=hr.out.g hgd
  have f2':=hr2.free 2
  have c2w:=hr2.c2
  have hend2:=hr2.bad true
  have hbut3:=(But.of_g hgd).trans (but_set wd R 2 (.bool true))
  replace hr2:=Lib.hid hr2
  replace hend2:=Lib.hid hend2
  replace hbut3:=Lib.hid hbut3
  go_wp2_with fail
  go_ret
  exact ⟨rfl,⟨p,hp,(fun _ h=>by cases h),hend2.out⟩,hbut3.out⟩
 | some l1 =>
  obtain rfl:=hst l1 rfl
  clear hst
  unfold Option.isNone at c2
  rcases Nat.lt_or_ge p l0.length with hlt | hge
  ·obtain ⟨x,hx⟩:∃x,l0[p]?=some x:=⟨_,List.getElem?_eq_getElem hlt⟩
   have hdr:l0.drop p=x::l0.drop (p+1):=by
    rw [List.drop_eq_getElem_cons hlt]
    have:=(List.getElem?_eq_some_iff.1 hx).2
    rw [this]
   rw [hdr]
   show Calls _ _ _ _ (RdPost _ _ _ _ _ _ (.int .i64 (x.toNat:Int)) (some (l0.drop (p+1))))
   have hxb:=x.toNat_lt
   have hwr:IntKind.i64.wrap (x.toNat:Int)=(x.toNat:Int):=IntWalk.i64_in _ (by omega)
   have n1:¬ ((l0.length:Int)≤(p:Int)):=by omega
   have hpl:(p:Int) < (l0.length:Int):=by omega
   have hpn:p≤1073741824:=by omega
   have d1:decide ((l0.length:Int)≤(p:Int))=false:=decide_eq_false n1
   clear hb2 hbut2
   replace hr:=Lib.hid hr
   replace hdr:=Lib.hid hdr
   go_enter Tryz.func16,Tryz.ntmps16
   go_upto_region 1 with fail
   go_quiet (fail)
   generalize hwd:w.drewN _=wd
   have hgd:G w wd:=by rw [←hwd];exact (G.refl _).drewN _
   clear hwd c0 c1 c2 f2
   have hr2:=hr.out.g hgd
   have c1:=hr2.c1
   have f1:=hr2.free 1
   have h3:=hr2.at (p+1)
   have hbut:=(But.of_g hgd).trans (but_set wd R 1 (.int .i64 ((p+1:Nat):Int)))
   have ep:((p+1:Nat):Int)=(p:Int)+1:=by omega
   rw [ep] at h3 hbut
   have k0:=h3.c0
   have k1:=h3.c1
   rw [ep] at k1
   obtain ⟨bb,o,hA,hbB,hcell⟩:=h3.2.get (k:=p) hx
   have cb:=hcell 0 _ rfl
   simp only [Nat.mul_one,Nat.add_zero] at cb
   subst hA
   have hw1:IntKind.i64.wrap ((p:Int)+1)=(p:Int)+1:=IntWalk.i64_in _ (by omega)
   have hw2:IntKind.i64.wrap ((p:Int)+1 - 1)=(p:Int):=by rw [IntWalk.i64_in _ (by omega)];omega
   have hp0:(0:Int)≤(p:Int):=by omega
   replace hr2:=Lib.hid hr2
   replace h3:=Lib.hid h3
   replace hbut:=Lib.hid hbut
   replace hcell:=Lib.hid hcell
   clear hr
   go_upto_region 5 with fail
   go_quiet (fail)
   generalize hwd:World.drewN _ _=we
   have hge:G (wd.setCell ⟨R,1,none⟩ (.int .i64 ((p:Int)+1))) we:=by rw [←hwd];exact (G.refl _).drewN _
   clear hwd
   go_wp2_with fail
   go_ret
   have h4:=h3.out.g hge
   exact ⟨rfl,⟨p+1,by omega,(fun _ h=>by cases h;rfl),h4⟩,hbut.out.g hge⟩
  ·have hdr:l0.drop p=[]:=List.drop_of_length_le hge
   rw [hdr]
   show Calls _ _ _ _ (RdPost _ _ _ _ _ _ (.int .i64 0) none)
   have n1:((l0.length:Int)≤(p:Int)):=by omega
   have d1:decide ((l0.length:Int)≤(p:Int))=true:=decide_eq_true n1
   clear hb2 hbut2
   replace hr:=Lib.hid hr
   go_enter Tryz.func16,Tryz.ntmps16
   go_upto_region 1 with fail
   go_quiet (fail)
   generalize hwd:w.drewN _=wd
   have hgd:G w wd:=by rw [←hwd];exact (G.refl _).drewN _
   clear hwd
   have hr2:=hr.out.g hgd
   have f2':=hr2.free 2
   have c2w:=hr2.c2
   have hend2:=hr2.bad true
   have hbut3:=(But.of_g hgd).trans (but_set wd R 2 (.bool true))
   replace hr2:=Lib.hid hr2
   replace hend2:=Lib.hid hend2
   replace hbut3:=Lib.hid hbut3
   go_wp2_with fail
   go_ret
   exact ⟨rfl,⟨p,hp,(fun _ h=>by cases h),hend2.out⟩,hbut3.out⟩
end Go.Proofs.YtheogchkelmeeaaGreatDoor
/- event.Decode, penstockref7.DecodeBatch: what they answer. Conditions: at most 2^30 bytes; the decoder's tables lie as the library lays them. -/
namespace Go.Proofs.YtheogchkelmeeaaGreatDoor
open Go.RowKit
/-- What a decoder of batches answers. -/
def batT (l:List UInt8):Option ((ByteArray × List PutP) × List UInt8)→(ByteArray × List PutP) × Nat × Nat
 | some (x,r)=>(x,l.length - r.length,0)
 | none=>((⟨#[]⟩,[]),0,10)
def RetBat (w:World) (l:List UInt8) (e:Ending) (w':World):Prop :=
 ∃(key:ByteArray) (Ap:Option Addr) (cp:Nat) (ms:List PutM) (n c:Nat),e=.returned (.tuple #[.agg #[.string key,.slice Ap ms.length cp],.int .i64 n,.int .i64 c])∧batT l (dBatch l)=((key,ms.map PutM.p),n,c)∧key.size≤1073741824∧PutsSmall ms∧PutsOwn w.heap.size Ap cp ms w'∧G w w'
theorem blk2 {w : World} {g : Nat} {x0 x1 : Value} {t : TypeId} (h : w.heap[g]? = some (.cells #[x0, x1] t (0, 0))) (y0 y1 : Value) :
  ((w.setCell ⟨g,0,none⟩ y0).setCell ⟨g,1,none⟩ y1).heap[g]?=some (.cells #[y0,y1] t (0,0)):=stc_blk [y0,y1] h rfl
theorem but2 (w:World) (g:Nat) (y0 y1:Value):But (fun k=>k=g) w ((w.setCell ⟨g,0,none⟩ y0).setCell ⟨g,1,none⟩ y1):=stc_but (fun k=>k=g) g rfl [y0,y1] w w 0 (But.refl _ _)
theorem G.set2 {a w:World} (h:G a w) {g:Nat} (hg:a.heap.size≤g) (y0 y1:Value):G a ((w.setCell ⟨g,0,none⟩ y0).setCell ⟨g,1,none⟩ y1):=G.stc [y0,y1] (o:=0) h hg
theorem strOf_le {s:List UInt8} {n:Nat} (h:s.length≤n):(strOf s).size≤n:=by rw [strOf_size];exact h
/-- A batch read whole, but for its end. -/
theorem bat_gives {l : List UInt8} {s : List UInt8} {N : Nat} {st1 st2 st : Option (List UInt8)} {ps : List PutP} (g1 : Gives dText (some l) st1 s) (g2 : Gives (dCount 8) st1 st2 N) (g3 : Gives (dMany dPut N) st2 st ps) :
  (st=none→dBatch l=none)∧∀r,st=some r→dBatch l=if chkN (strOf s) ps=0 then some ((strOf s,ps),r) else none:=by
 have key:∀(st':Option (List UInt8)) (x:ByteArray × List PutP),Gives (batEnd (strOf s) ps) st st' x→Gives dBatch (some l) st' x:=fun st' x h=>g1.bind (g2.bind (g3.bind h))
 refine ⟨fun e=>?_,fun r e=>?_⟩
 ·subst e
  exact (key none (⟨#[]⟩,[]) (Gives.bad _)).miss
 ·subst e
  by_cases hc:chkN (strOf s) ps=0
  ·rw [if_pos hc]
   exact (key _ _ (Gives.yes (decide_eq_true hc) _)).hit
  ·rw [if_neg hc]
   exact (key none (⟨#[]⟩,[]) (Gives.no (decide_eq_false hc) _ _)).miss
theorem put_gives {s0 s1 s2 s3 s4:Option (List UInt8)} {s:List UInt8} {v m:Nat} {xs:List (List UInt8)} (g1:Gives dText s0 s1 s) (g2:Gives dNum s1 s2 v) (g3:Gives (dCount 20) s2 s3 m) (g4:Gives (dMany dText m) s3 s4 xs):Gives dPut s0 s4 ⟨strOf s,zagI v,xs.map strOf⟩:=g1.bind (g2.bind (g3.bind (g4.bind (Gives.ret _))))
theorem puts_more {ms ms':List PutM} {m:PutM} (h:PutsSmall ms) (hl:ms.length≤8) (hm:m.stream.size≤1073741824∧(-9223372036854775808≤m.expect∧m.expect≤9223372036854775807)∧m.data.length≤1073741824∧∀s ∈ m.data,s.size≤1073741824) (he:Hid (ms++[m]=ms')):PutsSmall ms':=by
 rw [←he.out]
 refine ⟨by rw [List.length_append,List.length_singleton];omega,fun p hp=>?_⟩
 rw [List.mem_append,List.mem_singleton] at hp
 rcases hp with hp | rfl
 ·exact h.2 p hp
 ·exact hm
set_option maxRecDepth 100000 in
set_option maxHeartbeats 8000000 in
theorem decBatch_any (l : List UInt8) (A : Option Addr) (c8 : Nat) (w : World) (hs : Sl byteC 1 w w.heap.size A l) (hl : l.length ≤ 1073741824) (hcap : l.length ≤ c8) (hT : Tabs w) :
  Calls Tryz.prog 70 #[.slice A l.length c8] w (RetBat w l):=by
 have hZ0:=blk_new w #[.string ByteArray.empty,.slice none 0 0] 31
 have hg0:=G.new w (.cells #[.string ByteArray.empty,.slice none 0 0] 31)
 have hz0:(w.alloc (.cells #[.string ByteArray.empty,.slice none 0 0] 31)).heap.size=w.heap.size+1:=by simp
 generalize hW0:w.alloc (.cells #[.string ByteArray.empty,.slice none 0 0] 31)=W0 at hZ0 hg0 hz0
 have hr:=RdS.start (T:=166) (c8:=c8) ((hs.g (Nat.le_refl _) hg0).more hg0.size)
 have hgn:=G.new W0 (.cells #[.slice A l.length c8,.int .i64 0,.bool false] 166)
 rw [hz0] at hr
 have hd:DecSt 166 (w.heap.size+1) w.heap.size w.heap.size A c8 l w ByteArray.empty none 0 [] (some l) (W0.alloc (.cells #[.slice A l.length c8,.int .i64 0,.bool false] 166)) :=
  ⟨hr,hs.g (Nat.le_refl _) (hg0.trans hgn),hgn.blk hZ0,⟨OwnL.nil,fun _ h=>by cases h⟩,.of_g (hg0.trans hgn),by omega,Nat.le_refl _,Nat.le_refl _,by decide⟩
 have hc:=text_any (w.heap.size+1) A c8 l (some l) _ hr hl hcap
 obtain ⟨s,st1,h1⟩:∃s t,gv [] dText (some l)=(s,t):=⟨_,_,rfl⟩
 rw [h1] at hc
 have g1:=gv_gives h1
 have hsz:=strOf_le (gv_text_len h1 (fun l' e=>by cases e;exact hl)).1
 replace g1:=Lib.hid g1
 replace hd:=Lib.hid hd
 replace hz0:=Lib.hid hz0
 replace hT:=Lib.hid hT
 clear hr hZ0 hg0 hs h1 hgn
 subst hW0
 go_enter Tryz.func70,Tryz.ntmps70
 go_wp2_with fail
 refine hc.mono ?_
 clear hc
 rintro e w1 ⟨rfl,hr1,hb1⟩
 replace hd:=hd.out.call hr1 hb1
 have z0:=hd.c0
 have zf:=hd.free 0
 replace hd:=hd.key0 (strOf s)
 have hc:=count_any' (w.heap.size+1) A c8 l st1 _ hd.rd hl hcap 8 8 rfl (by omega)
 obtain ⟨N,st2,h2⟩:∃v t,gv 0 (dCount 8) st1=(v,t):=⟨_,_,rfl⟩
 rw [h2] at hc
 have g2:=gv_gives h2
 have hN:N≤8:=gv_bound (P:=(·≤8)) h2 (by omega) (fun _ _ _ h=>(dCount_num h).2)
 replace g2:=Lib.hid g2
 replace hd:=Lib.hid hd
 clear hr1 hb1 h2
 go_wp2_with fail
 refine hc.mono ?_
 clear hc
 rintro e w2 ⟨rfl,hr2,hb2⟩
 replace hd:=Lib.hid (hd.out.call hr2 hb2)
 clear hr2 hb2 z0 zf
 go_wp2_with fail
 go_loopw [6] (fun i wr=>∃(k:Nat) (Ap:Option Addr) (cp:Nat) (ms:List PutM) (st:Option (List UInt8)),i=.int .i64 k∧k+ms.length≤8∧Hid (DecSt 166 (w.heap.size+1) w.heap.size w.heap.size A c8 l w (strOf s) Ap cp ms st wr)∧Hid (PutsSmall ms)∧Hid (More dPut N k st2 st (ms.map PutM.p))) (fun i _=>(intOf i).toNat)
 case atStart=>exact ⟨N,none,0,[],st2,rfl,by simpa using hN,hd,⟨by simp,fun _ h=>by cases h⟩,More.start _ _ _⟩
 case round =>
  obtain ⟨wo,rfl⟩:∃wo:World,wo=wr:=⟨_,rfl⟩
  clear hd
  obtain ⟨k,Ap,cp,ms,st,rfl,hk8,hd,hsm,hmo⟩:=hrel
  have q2:=hd.out.rd.c2
  cases st with
  | none =>
   unfold Option.isNone at q2
   have hno:=(bat_gives g1.out g2.out (hmo.out.end (.inr rfl))).1 rfl
   clear hmo hsm
   by_cases hk:k=0
   ·subst hk
    replace hno:=Lib.hid hno
    have hg:=(G.refl w).gOf' hd.out.but (fun k e=>by rw [e];omega)
    have hZ:=hd.out.res
    have q0:=hd.out.c0
    have q1:=hd.out.c1
    have f0:=hd.out.free 0
    have f1:=hd.out.free 1
    have hE:=blk2 hZ (.string ⟨#[]⟩) (.slice none 0 0)
    have hgs:=hg.set2 (Nat.le_refl _) (.string ⟨#[]⟩) (.slice none 0 0)
    have e0:=(blk_cell hE 0).trans (show _=some (.string ⟨#[]⟩) from rfl)
    have e1:=(blk_cell hE 1).trans (show _=some (.slice none 0 0) from rfl)
    replace e0:=Lib.hid e0
    replace e1:=Lib.hid e1
    replace hgs:=Lib.hid hgs
    clear hE hg hZ
    go_wp2_with fail
    have e0:=e0.out
    have e1:=e1.out
    refine bodyPost_ret (v:=.tuple #[.agg #[.string ⟨#[]⟩,.slice none 0 0],.int .i64 0,.int .i64 10]) (by simp [results,Tryz.results70,go_sem,e0,e1]) rfl ?_
    exact ⟨⟨#[]⟩,none,0,[],0,10,rfl,by rw [hno.out];rfl,by decide,⟨by simp,fun _ h=>by cases h⟩,⟨OwnL.nil,fun _ h=>by cases h⟩,hgs.out⟩
   ·have hk':0 < (k:Int):=by omega
    replace hno:=Lib.hid hno
    have hg:=(G.refl w).gOf' hd.out.but (fun k e=>by rw [e];omega)
    have hZ:=hd.out.res
    have q0:=hd.out.c0
    have q1:=hd.out.c1
    have f0:=hd.out.free 0
    have f1:=hd.out.free 1
    have hE:=blk2 hZ (.string ⟨#[]⟩) (.slice none 0 0)
    have hgs:=hg.set2 (Nat.le_refl _) (.string ⟨#[]⟩) (.slice none 0 0)
    have e0:=(blk_cell hE 0).trans (show _=some (.string ⟨#[]⟩) from rfl)
    have e1:=(blk_cell hE 1).trans (show _=some (.slice none 0 0) from rfl)
    replace e0:=Lib.hid e0
    replace e1:=Lib.hid e1
    replace hgs:=Lib.hid hgs
    clear hE hg hZ
    go_wp2_with fail
    have e0:=e0.out
    have e1:=e1.out
    refine bodyPost_ret (v:=.tuple #[.agg #[.string ⟨#[]⟩,.slice none 0 0],.int .i64 0,.int .i64 10]) (by simp [results,Tryz.results70,go_sem,e0,e1]) rfl ?_
    exact ⟨⟨#[]⟩,none,0,[],0,10,rfl,by rw [hno.out];rfl,by decide,⟨by simp,fun _ h=>by cases h⟩,⟨OwnL.nil,fun _ h=>by cases h⟩,hgs.out⟩
  | some lx =>
   unfold Option.isNone at q2
   by_cases hk:k=0
   ·subst hk
    have hgv:=(bat_gives g1.out g2.out (hmo.out.end (.inl rfl))).2 lx rfl
    have hg:=(G.refl w).gOf' hd.out.but (fun k e=>by rw [e];omega)
    have hck:=check_any (strOf s) ms Ap cp wo hd.out.puts.ins hsz hsm.out (hT.out.g hg)
    have q0:=hd.out.c0
    have q1:=hd.out.c1
    generalize hcn:chkN (strOf s) (ms.map PutM.p)=cn at hck hgv
    clear hcn hmo
    by_cases hc0:cn=0
    case neg =>
     have hno:dBatch l=none:=by rw [hgv,if_neg hc0]
     have t1:(((cn:Nat):Int) != 0)=true:=by rw [bne_iff_ne];omega
     replace hc0:=Lib.hid hc0
     clear hgv hg
     go_wp2_with fail
     refine hck.mono ?_
     clear hck
     rintro e w5 ⟨rfl,hg5⟩
     replace hd:=Lib.hid (hd.out.g hg5)
     clear q0 q1 q2 hg5
     replace hno:=Lib.hid hno
     have hg:=(G.refl w).gOf' hd.out.but (fun k e=>by rw [e];omega)
     have hZ:=hd.out.res
     have q0:=hd.out.c0
     have q1:=hd.out.c1
     have f0:=hd.out.free 0
     have f1:=hd.out.free 1
     have hE:=blk2 hZ (.string ⟨#[]⟩) (.slice none 0 0)
     have hgs:=hg.set2 (Nat.le_refl _) (.string ⟨#[]⟩) (.slice none 0 0)
     have e0:=(blk_cell hE 0).trans (show _=some (.string ⟨#[]⟩) from rfl)
     have e1:=(blk_cell hE 1).trans (show _=some (.slice none 0 0) from rfl)
     replace e0:=Lib.hid e0
     replace e1:=Lib.hid e1
     replace hgs:=Lib.hid hgs
     clear hE hg hZ
     go_wp2_with fail
     have e0:=e0.out
     have e1:=e1.out
     refine bodyPost_ret (v:=.tuple #[.agg #[.string ⟨#[]⟩,.slice none 0 0],.int .i64 0,.int .i64 10]) (by simp [results,Tryz.results70,go_sem,e0,e1]) rfl ?_
     exact ⟨⟨#[]⟩,none,0,[],0,10,rfl,by rw [hno.out];rfl,by decide,⟨by simp,fun _ h=>by cases h⟩,⟨OwnL.nil,fun _ h=>by cases h⟩,hgs.out⟩
    subst hc0
    rw [if_pos rfl] at hgv
    replace hgv:=Lib.hid hgv
    go_wp2_with fail
    refine hck.mono ?_
    clear hck
    rintro e w5 ⟨rfl,hg5⟩
    replace hd:=hd.out.g hg5
    clear q0 q1 q2
    have hZ:=hd.res
    have q0:=hd.c0
    have q1:=hd.c1
    have q2:=hd.rd.c2
    have f0:=hd.free 0
    have f1:=hd.free 1
    have k1:=hd.rd.end
    unfold Option.isNone at q2
    have hE:=blk2 hZ (.string (strOf s)) (.slice Ap ms.length cp)
    have hgs:=(hg.trans hg5).set2 (Nat.le_refl _) (.string (strOf s)) (.slice Ap ms.length cp)
    have e0:=(blk_cell hE 0).trans (show _=some (.string (strOf s)) from rfl)
    have e1:=(blk_cell hE 1).trans (show _=some (.slice Ap ms.length cp) from rfl)
    have hps:=hd.puts.but (but2 w5 w.heap.size (.string (strOf s)) (.slice Ap ms.length cp)) (fun k cs t e h1=>by
     subst e
     rw [hZ] at h1
     cases h1
     decide)
    have hne:w.heap.size+1≠w.heap.size:=by omega
    replace e0:=Lib.hid e0
    replace e1:=Lib.hid e1
    replace hgs:=Lib.hid hgs
    replace hps:=Lib.hid hps
    clear hE hg hg5 hZ hd
    generalize hnn:l.length - lx.length=nn at *
    replace hnn:=Lib.hid hnn
    go_wp2_with fail
    go_region
    go_wp2_with fail
    have e0:=e0.out
    have e1:=e1.out
    refine bodyPost_ret (v:=.tuple #[.agg #[.string (strOf s),.slice Ap ms.length cp],.int .i64 nn,.int .i64 0]) (by simp [results,Tryz.results70,go_sem,e0,e1]) rfl ?_
    exact ⟨strOf s,Ap,cp,ms,nn,0,rfl,by rw [hgv.out,←hnn.out];rfl,hsz,hsm.out,⟨hps.out.row.g (G.refl _).drew,fun m hm=>(hps.out.data m hm).g (G.refl _).drew⟩,hgs.out.drew⟩
   ·obtain ⟨j,rfl⟩:∃j,k=j+1:=⟨k - 1,by omega⟩
    have hc:=text_any (w.heap.size+1) A c8 l (some lx) wo hd.out.rd hl hcap
    obtain ⟨sp,st3,h3⟩:∃v t,gv [] dText (some lx)=(v,t):=⟨_,_,rfl⟩
    rw [h3] at hc
    have g3:=gv_gives h3
    have hsp:=strOf_le (gv_text_len h3 (fun l' e=>by cases e;exact Nat.le_trans (RdS.len hd.out.rd) hl)).1
    have hj1:0 < ((j+1:Nat):Int):=by omega
    replace g3:=Lib.hid g3
    clear h3 hk
    go_wp2_with fail
    refine hc.mono ?_
    clear hc
    rintro e wa ⟨rfl,hr3,hb3⟩
    replace hd:=Lib.hid (hd.out.call hr3 hb3)
    have hi:=InSt.begin (s:=strOf sp) hr3 (by decide)
    have hc:=num_any (w.heap.size+1) A c8 l st3 _ hi.rd hl hcap
    obtain ⟨v,st4,h4⟩:∃v t,gv 0 dNum st3=(v,t):=⟨_,_,rfl⟩
    rw [h4] at hc
    have g4:=gv_gives h4
    have hv:v < 2 ^ 64:=gv_bound (P:=(· < 2 ^ 64)) h4 (by decide) (fun _ _ _=>dNum_bd)
    have hzi:=zag_i64 hv
    replace g4:=Lib.hid g4
    replace hi:=Lib.hid hi
    clear h4 hr3 hb3 q2
    go_wp2_with fail
    refine hc.mono ?_
    clear hc
    rintro e w4 ⟨rfl,hr4,hb4⟩
    replace hi:=hi.out.call hr4 hb4
    have hz4:=zag_any v w4 hv
    have x1:=hi.c1
    have x1f:=hi.free 1
    replace hi:=hi.expect (zagI v)
    have hc:=count_any' (w.heap.size+1) A c8 l st4 _ hi.rd hl hcap 20 20 rfl (by omega)
    obtain ⟨m,st5,h5⟩:∃v t,gv 0 (dCount 20) st4=(v,t):=⟨_,_,rfl⟩
    rw [h5] at hc
    have g5:=gv_gives h5
    have hm:m≤20:=gv_bound (P:=(·≤20)) h5 (by omega) (fun _ _ _ h=>(dCount_num h).2)
    replace g5:=Lib.hid g5
    replace hi:=Lib.hid hi
    replace hzi:=Lib.hid hzi
    clear h5 hr4 hb4
    go_wp2_with fail
    refine hz4.mono ?_
    clear hz4
    rintro e w4' ⟨rfl,rfl⟩
    go_wp2_with fail
    refine hc.mono ?_
    clear hc
    rintro e w5 ⟨rfl,hr5,hb5⟩
    replace hi:=Lib.hid (hi.out.call hr5 hb5)
    clear hr5 hb5 x1 x1f
    go_wp2_with fail
    go_loopw [8] (fun i wr=>∃(k:Nat) (Ad:Option Addr) (cd:Nat) (xs:List (List UInt8)) (ds:List ByteArray) (st:Option (List UInt8)),i=.int .i64 k∧k+ds.length≤20∧Hid (xs.map strOf=ds)∧Hid (InSt 166 (w.heap.size+1) wa.heap.size A c8 l wa (strOf sp) (zagI v) Ad cd ds st wr)∧Hid (∀d ∈ ds,d.size≤1073741824)∧Hid (More dText m k st5 st xs)) (fun i _=>(intOf i).toNat)
    case atStart=>exact ⟨m,none,0,[],[],st5,rfl,by simpa using hm,rfl,hi,fun _ h=>(by cases h),More.start _ _ _⟩
    case round =>
     clear hi
     obtain ⟨k,Ad,cd,xs,ds,st,rfl,hk20,hds,hi,hdz,hmi⟩:=hrel
     have q2:=hi.out.rd.c2
     cases st with
     | none =>
      unfold Option.isNone at q2
      by_cases hk:k=0
      ·subst hk
       have hgd:=put_gives g3.out g4.out g5.out (hmi.out.end (.inr rfl))
       have hmo2:=hmo.out.step hgd
       rw [hds.out] at hmo2
       have hb:=hi.out.but
       have hws:=hd.out.sizes
       replace hd:=hd.out.call hi.out.rd hb
       have c1:=hd.c1
       have x0:=hi.out.c0
       have x1:=hi.out.c1
       have x2:=hi.out.cell
       obtain ⟨mm,hmm⟩:∃mm:PutM,mm=⟨strOf sp,zagI v,Ad,cd,ds⟩:=⟨_,rfl⟩
       obtain ⟨ms',hms⟩:∃ms',ms++[mm]=ms':=⟨_,rfl⟩
       have hmp:ms'.map PutM.p=ms.map PutM.p++[⟨strOf sp,zagI v,ds⟩]:=by rw [←hms,List.map_append,hmm];rfl
       rw [←hmp] at hmo2
       have hml:ms'.length=ms.length+1:=by rw [←hms];simp
       replace hms:=Lib.hid hms
       have hsm2:=puts_more hsm.out (by omega) (by rw [hmm];exact ⟨hsp,hzi.out,(by show ds.length≤_;omega),hdz.out⟩) hms
       have hrow:OwnL 9 1 strC wr w.heap.size (.slice mm.A mm.data.length mm.c) mm.data:=by rw [hmm];exact hi.out.row.mono hws
       replace hd:=Lib.hid hd
       replace hmo2:=Lib.hid hmo2
       replace hsm2:=Lib.hid hsm2
       replace hml:=Lib.hid hml
       replace hmm:=Lib.hid hmm
       clear hgd hmo hmp hsm hb hds hdz
       go_wp2_with (at_builtin;refine wpList_append_but put_elem _ rfl (.tmp 56) (.tmp 58) rfl w.heap.size _ ms rfl (hd.out.puts.row.g (G.new _ _)) (wr.heap.size+1) (some ⟨wr.heap.size,0,none⟩) 1 [mm] rfl (by intro h;cases h) (Sl.of_blk PutM.cells_len _ (blk_new _ _ _) (by rw [hmm.out];rfl) (by omega)) (by simp;omega) (by simp;omega) (by have:=hd.out.but.size;simp;omega) ?_;intro v6 w6 hown6 hk6 hb6;rw [hms.out] at hown6;obtain ⟨A6,c6,e6,_,_,_⟩:=OwnL.sl PutM.cells_len hown6;subst e6;obtain ⟨zf,⟨u,zc⟩,hd6⟩:=(hd.out.g (G.new _ _)).push hms (hrow.g (G.new _ _)) hown6 hk6 hb6;replace hd6:=Lib.hid hd6)
       go_roundw
       case rel=>exact ⟨j,A6,c6,ms',_,by go_num,by have:=hml.out;omega,hd6,hsm2,hmo2⟩
       case measure=>(simp [intOf] <;> omega)
      ·have hk':0 < (k:Int):=by omega
       have hgd:=put_gives g3.out g4.out g5.out (hmi.out.end (.inr rfl))
       have hmo2:=hmo.out.step hgd
       rw [hds.out] at hmo2
       have hb:=hi.out.but
       have hws:=hd.out.sizes
       replace hd:=hd.out.call hi.out.rd hb
       have c1:=hd.c1
       have x0:=hi.out.c0
       have x1:=hi.out.c1
       have x2:=hi.out.cell
       obtain ⟨mm,hmm⟩:∃mm:PutM,mm=⟨strOf sp,zagI v,Ad,cd,ds⟩:=⟨_,rfl⟩
       obtain ⟨ms',hms⟩:∃ms',ms++[mm]=ms':=⟨_,rfl⟩
       have hmp:ms'.map PutM.p=ms.map PutM.p++[⟨strOf sp,zagI v,ds⟩]:=by rw [←hms,List.map_append,hmm];rfl
       rw [←hmp] at hmo2
       have hml:ms'.length=ms.length+1:=by rw [←hms];simp
       replace hms:=Lib.hid hms
       have hsm2:=puts_more hsm.out (by omega) (by rw [hmm];exact ⟨hsp,hzi.out,(by show ds.length≤_;omega),hdz.out⟩) hms
       have hrow:OwnL 9 1 strC wr w.heap.size (.slice mm.A mm.data.length mm.c) mm.data:=by rw [hmm];exact hi.out.row.mono hws
       replace hd:=Lib.hid hd
       replace hmo2:=Lib.hid hmo2
       replace hsm2:=Lib.hid hsm2
       replace hml:=Lib.hid hml
       replace hmm:=Lib.hid hmm
       clear hgd hmo hmp hsm hb hds hdz
       go_wp2_with (at_builtin;refine wpList_append_but put_elem _ rfl (.tmp 56) (.tmp 58) rfl w.heap.size _ ms rfl (hd.out.puts.row.g (G.new _ _)) (wr.heap.size+1) (some ⟨wr.heap.size,0,none⟩) 1 [mm] rfl (by intro h;cases h) (Sl.of_blk PutM.cells_len _ (blk_new _ _ _) (by rw [hmm.out];rfl) (by omega)) (by simp;omega) (by simp;omega) (by have:=hd.out.but.size;simp;omega) ?_;intro v6 w6 hown6 hk6 hb6;rw [hms.out] at hown6;obtain ⟨A6,c6,e6,_,_,_⟩:=OwnL.sl PutM.cells_len hown6;subst e6;obtain ⟨zf,⟨u,zc⟩,hd6⟩:=(hd.out.g (G.new _ _)).push hms (hrow.g (G.new _ _)) hown6 hk6 hb6;replace hd6:=Lib.hid hd6)
       go_roundw
       case rel=>exact ⟨j,A6,c6,ms',_,by go_num,by have:=hml.out;omega,hd6,hsm2,hmo2⟩
       case measure=>(simp [intOf] <;> omega)
     | some ly =>
      unfold Option.isNone at q2
      by_cases hk:k=0
      ·subst hk
       have hgd:=put_gives g3.out g4.out g5.out (hmi.out.end (.inl rfl))
       have hmo2:=hmo.out.step hgd
       rw [hds.out] at hmo2
       have hb:=hi.out.but
       have hws:=hd.out.sizes
       replace hd:=hd.out.call hi.out.rd hb
       have c1:=hd.c1
       have x0:=hi.out.c0
       have x1:=hi.out.c1
       have x2:=hi.out.cell
       obtain ⟨mm,hmm⟩:∃mm:PutM,mm=⟨strOf sp,zagI v,Ad,cd,ds⟩:=⟨_,rfl⟩
       obtain ⟨ms',hms⟩:∃ms',ms++[mm]=ms':=⟨_,rfl⟩
       have hmp:ms'.map PutM.p=ms.map PutM.p++[⟨strOf sp,zagI v,ds⟩]:=by rw [←hms,List.map_append,hmm];rfl
       rw [←hmp] at hmo2
       have hml:ms'.length=ms.length+1:=by rw [←hms];simp
       replace hms:=Lib.hid hms
       have hsm2:=puts_more hsm.out (by omega) (by rw [hmm];exact ⟨hsp,hzi.out,(by show ds.length≤_;omega),hdz.out⟩) hms
       have hrow:OwnL 9 1 strC wr w.heap.size (.slice mm.A mm.data.length mm.c) mm.data:=by rw [hmm];exact hi.out.row.mono hws
       replace hd:=Lib.hid hd
       replace hmo2:=Lib.hid hmo2
       replace hsm2:=Lib.hid hsm2
       replace hml:=Lib.hid hml
       replace hmm:=Lib.hid hmm
       clear hgd hmo hmp hsm hb hds hdz
       go_wp2_with (at_builtin;refine wpList_append_but put_elem _ rfl (.tmp 56) (.tmp 58) rfl w.heap.size _ ms rfl (hd.out.puts.row.g (G.new _ _)) (wr.heap.size+1) (some ⟨wr.heap.size,0,none⟩) 1 [mm] rfl (by intro h;cases h) (Sl.of_blk PutM.cells_len _ (blk_new _ _ _) (by rw [hmm.out];rfl) (by omega)) (by simp;omega) (by simp;omega) (by have:=hd.out.but.size;simp;omega) ?_;intro v6 w6 hown6 hk6 hb6;rw [hms.out] at hown6;obtain ⟨A6,c6,e6,_,_,_⟩:=OwnL.sl PutM.cells_len hown6;subst e6;obtain ⟨zf,⟨u,zc⟩,hd6⟩:=(hd.out.g (G.new _ _)).push hms (hrow.g (G.new _ _)) hown6 hk6 hb6;replace hd6:=Lib.hid hd6)
       go_roundw
       case rel=>exact ⟨j,A6,c6,ms',_,by go_num,by have:=hml.out;omega,hd6,hsm2,hmo2⟩
       case measure=>(simp [intOf] <;> omega)
      ·obtain ⟨i,rfl⟩:∃i,k=i+1:=⟨k - 1,by omega⟩
       have hid:=hi.out.g (G.refl wr).drew
       have x2:=hid.cell
       have x2w:=hi.out.cell
       have hc:=text_any (w.heap.size+1) A c8 l (some ly) _ hid.rd hl hcap
       obtain ⟨x,st6,h6⟩:∃v t,gv [] dText (some ly)=(v,t):=⟨_,_,rfl⟩
       rw [h6] at hc
       have g6:=gv_gives h6
       have hxz:=strOf_le (gv_text_len h6 (fun l' e=>by cases e;exact Nat.le_trans (RdS.len hid.rd) hl)).1
       have hmi2:=hmi.out.step g6
       obtain ⟨ds',hds'⟩:∃ds',ds++[strOf x]=ds':=⟨_,rfl⟩
       have hdx:(xs++[x]).map strOf=ds':=by rw [List.map_append,hds.out,←hds'];rfl
       have hdl:ds'.length=ds.length+1:=by rw [←hds'];simp
       have hdz2:∀d ∈ ds',d.size≤1073741824:=fun d hd=>by
        rw [←hds',List.mem_append,List.mem_singleton] at hd
        rcases hd with hd | rfl
        ·exact hdz.out d hd
        ·exact hxz
       have hi1:0 < ((i+1:Nat):Int):=by omega
       have hb5':=hi.out.but.size
       replace hds':=Lib.hid hds'
       replace hdx:=Lib.hid hdx
       replace hdl:=Lib.hid hdl
       replace hdz2:=Lib.hid hdz2
       replace hmi2:=Lib.hid hmi2
       replace hid:=Lib.hid hid
       clear g6 h6 hk hmo hsm hd hmi hdz hds
       go_upto_region 11 with fail
       go_region_law (first
        | (refine step_append_but str_elem _ (by kernel_rfl) (.tmp 49) (.tmp 52) rfl wa.heap.size _ ds rfl (hi5.out.row.g (G.new _ _)) (w5.heap.size+1) (some ⟨w5.heap.size,0,none⟩) 1 [strOf x] rfl (by intro h;cases h) (Sl.of_blk strC_len _ (blk_new _ _ _) rfl (by omega)) (by simp;omega) (by simp;omega) (by have:=hi5.out.but.size;simp;omega) ?_;intro v6 w6 hown6 hk6 hb6;rw [hds'.out] at hown6;obtain ⟨A6,c6,e6,_,_,_⟩:=OwnL.sl strC_len hown6;subst e6;obtain ⟨xc,xf,hi6⟩:=(hi5.out.g (G.new _ _)).push hown6 hk6;replace hi6:=Lib.hid hi6)
        | (go_simp;go_at_call 98;refine Calls.mono hc ?_;rintro e w5 ⟨rfl,hr5,hb5⟩;have hi5:=hid.out.call hr5 hb5;have x5:=hi5.cell;have x5b:=(hi5.g (G.new w5 (.cells #[.string (strOf x)] 9))).cell;replace hi5:=Lib.hid hi5))
       all_goals
        go_wp2_with fail
        go_roundw
        case rel=>exact ⟨i,A6,c6,_,ds',_,by go_num,by have:=hdl.out;omega,hdx,hi6,hdz2,hmi2⟩
        case measure=>(simp [intOf] <;> omega)
end Go.Proofs.YtheogchkelmeeaaGreatDoor

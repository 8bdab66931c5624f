/- The reader's Stream of penstockref7, penstockref7.DecodeStream: what they answer. Conditions: at most 2^19 bytes; the decoder's tables lie as the library lays them. -/
import Derived.Test.YtheogchkelmeeaaGreatDoorDecSmQMsgDecodes
import Derived.Test.YtheogchkelmeeaaGreatDoorRefSmEncQMsgDecodes
namespace Go.Proofs.YtheogchkelmeeaaGreatDoor
open Go.RowKit
/-- The reader's Stream answers so. -/
def RdSm (T:TypeId) (R:Nat) (A:Option Addr) (c8:Nat) (l0:List UInt8) (w:World) (st:Option (List UInt8)) (e:Ending) (w':World):Prop :=
 ∃(nm:ByteArray) (Ae Ak:Option Addr) (ce ck:Nat) (es:List Ev) (ks:List Kn) (st':Option (List UInt8)),e=.returned (.agg #[.string nm,.slice Ae es.length ce,.slice Ak ks.length ck])∧RdS T R A c8 l0 st' w'∧But (fun k=>k=R) w w'∧Gives dStreamR st st' ⟨nm,es,ks⟩∧SmSmall nm es ks∧SmOwn w.heap.size Ae ce es Ak ck ks w'
theorem SmOwn.z {base Z:Nat} {Ae Ak:Option Addr} {ce ck:Nat} {es:List Ev} {ks:List Kn} {w:World} {cs:Array Value} (h:SmOwn base Ae ce es Ak ck ks w) (hZ:w.heap[Z]?=some (.cells cs 118 (0,0))) (y0 y1 y2:Value):SmOwn base Ae ce es Ak ck ks (((w.setCell ⟨Z,0,none⟩ y0).setCell ⟨Z,1,none⟩ y1).setCell ⟨Z,2,none⟩ y2):=h.but (but_set3 w Z y0 y1 y2) (fun k cs t e h1=>by
 subst e
 rw [hZ] at h1
 cases h1
 decide)
theorem smSmall_zero:SmSmall ⟨#[]⟩ [] []:=⟨by decide,⟨by simp,fun _ h=>by cases h⟩,by simp,fun _ h=>by cases h⟩
set_option maxRecDepth 100000 in
set_option maxHeartbeats 16000000 in
theorem eyeStream_any (R : Nat) (A : Option Addr) (c8 : Nat) (l : List UInt8) (st : Option (List UInt8)) (w : World) (h : RdS 64 R A c8 l st w) (hl : l.length ≤ 524288) (hcap : l.length ≤ c8) (hT : Tabs w) :
  Calls Tryz.prog 48 #[.pointer (some ⟨R,0,none⟩)] w (RdSm 64 R A c8 l w st):=by
 have hl2:l.length≤1073741824:=by omega
 have hRw:=h.lt
 have hl0:∀l',st=some l'→l'.length≤524288:=fun l' e=>Nat.le_trans (RdS.len (e ▸ h)) hl
 have hZ0:=blk_new w #[.string ByteArray.empty,.slice none 0 0,.slice none 0 0] 118
 have hg0:=G.new w (.cells #[.string ByteArray.empty,.slice none 0 0,.slice none 0 0] 118)
 have hz0:(w.alloc (.cells #[.string ByteArray.empty,.slice none 0 0,.slice none 0 0] 118)).heap.size=w.heap.size+1:=by simp
 obtain ⟨W0,hW0⟩:∃W0,w.alloc (.cells #[.string ByteArray.empty,.slice none 0 0,.slice none 0 0] 118)=W0:=⟨_,rfl⟩
 rw [hW0] at hZ0 hg0 hz0
 have hr:=h.g hg0
 have hc:=eyeText_any R A c8 l st _ hr hl2 hcap
 obtain ⟨s,st1,h1⟩:∃s t,gv [] dText st=(s,t):=⟨_,_,rfl⟩
 rw [h1] at hc
 have g1:=gv_gives h1
 replace g1:=Lib.hid g1
 replace hg0:=Lib.hid hg0
 replace hZ0:=Lib.hid hZ0
 replace hl0:=Lib.hid hl0
 replace hT:=Lib.hid hT
 replace h:=Lib.hid h
 clear h1
 subst hW0
 have hRz:R < (w.alloc (.cells #[.string ByteArray.empty,.slice none 0 0,.slice none 0 0] 118)).heap.size:=by omega
 replace hz0:=Lib.hid hz0
 go_enter Tryz.func48,Tryz.ntmps48
 go_wp2_with fail
 refine hc.mono ?_
 clear hc hr
 rintro e w1 ⟨rfl,hr1,hb1⟩
 generalize w.alloc (.cells #[.string ByteArray.empty,.slice none 0 0,.slice none 0 0] 118)=W0 at *
 have hgn:=G.new w1 (.cells #[.string (strOf s),.slice none 0 0,.slice none 0 0] 118)
 have hd:SmSt 64 R w1.heap.size R A c8 l W0 (strOf s) none 0 [] none 0 [] st1 (w1.alloc (.cells #[.string (strOf s),.slice none 0 0,.slice none 0 0] 118)) :=
  ⟨hr1.g hgn,(hr1.g hgn).sl,blk_new _ _ _,⟨OwnL.nil,OwnL.nil⟩,hb1.g hgn,Nat.le_refl _,by omega,hb1.size,by decide⟩
 have hc:=eyeNum_any R A c8 l st1 _ hd.rd hl2 hcap 1073741824 1073741824 rfl (by omega)
 obtain ⟨N,st2,h2⟩:∃v t,gv 0 (dCount 1073741824) st1=(v,t):=⟨_,_,rfl⟩
 rw [h2] at hc
 have g2:=gv_gives h2
 have hN:N≤1073741824:=gv_bound (P:=(·≤1073741824)) h2 (by omega) (fun _ _ _ h=>(dCount_num h).2)
 replace g2:=Lib.hid g2
 replace hd:=Lib.hid hd
 clear hr1 hb1 h2 hgn
 go_wp2_with fail
 refine hc.mono ?_
 clear hc
 rintro e w2 ⟨rfl,hr2,hb2⟩
 replace hd:=hd.out.call hr2 hb2
 have hlf:Left l 0 st2:=Left.start (fun l' e=>by subst e;exact RdS.len hd.rd)
 replace hd:=Lib.hid hd
 replace hlf:=Lib.hid hlf
 clear hr2 hb2
 go_wp2_with fail
 go_loopw [5] (fun i wr=>∃(jj k:Nat) (Ae:Option Addr) (ce:Nat) (es:List Ev) (st:Option (List UInt8)),i=.int .i64 jj∧Hid (jj+k=N)∧Hid (Left l es.length st)∧Hid (SmSt 64 R w1.heap.size R A c8 l W0 (strOf s) Ae ce es none 0 [] st wr)∧Hid (More dEvent N k st2 st es)) (fun i _=>N - (intOf i).toNat)
 case atStart=>exact ⟨0,N,none,0,[],st2,rfl,Lib.hid (by omega),hlf,hd,More.start _ _ _⟩
 case round =>
  obtain ⟨wo,rfl⟩:∃wo:World,wo=wr:=⟨_,rfl⟩
  clear hd hlf
  obtain ⟨jj,k,Ae,ce,es,st,rfl,hjk,hlf,hd,hmo⟩:=hrel
  have q2:=hd.out.rd.c2
  cases st with
  | none =>
   unfold Option.isNone at q2
   by_cases hk:k=0
   ·subst hk
    obtain rfl:jj=N:=hjk.out
    clear hjk
    have g3:=hmo.out.end (.inr rfl)
    replace g3:=Lib.hid g3
    clear hmo hlf
    have hc:=eyeNum_any R A c8 l none wo hd.out.rd hl2 hcap 1073741824 1073741824 rfl (by omega)
    obtain ⟨M,st4,h4⟩:∃v t,gv 0 (dCount 1073741824) (none)=(v,t):=⟨_,_,rfl⟩
    rw [h4] at hc
    have g4:=gv_gives h4
    have hM:M≤1073741824:=gv_bound (P:=(·≤1073741824)) h4 (by decide) (fun _ _ _ h=>(dCount_num h).2)
    replace g4:=Lib.hid g4
    clear h4
    go_wp2_with fail
    refine hc.mono ?_
    clear hc
    rintro e wb ⟨rfl,hr4,hb4⟩
    replace hd:=hd.out.call hr4 hb4
    have hlf:Left l 0 st4:=Left.start (fun l' e=>by subst e;exact RdS.len hd.rd)
    replace hd:=Lib.hid hd
    replace hlf:=Lib.hid hlf
    clear hr4 hb4 q2
    go_wp2_with fail
    go_loopw [7] (fun i wr=>∃(jj k:Nat) (Ak:Option Addr) (ck:Nat) (ks:List Kn) (st:Option (List UInt8)),i=.int .i64 jj∧Hid (jj+k=M)∧Hid (Left l ks.length st)∧Hid (SmSt 64 R w1.heap.size R A c8 l W0 (strOf s) Ae ce es Ak ck ks st wr)∧Hid (More dKnown M k st4 st ks)) (fun i _=>M - (intOf i).toNat)
    case atStart=>exact ⟨0,M,none,0,[],st4,rfl,Lib.hid (by omega),hlf,hd,More.start _ _ _⟩
    case round =>
     obtain ⟨wo,rfl⟩:∃wo:World,wo=wr:=⟨_,rfl⟩
     clear hd hlf
     obtain ⟨jj,k,Ak,ck,ks,st,rfl,hjk,hlf,hd,hmo⟩:=hrel
     have q2:=hd.out.rd.c2
     cases st with
     | none =>
      unfold Option.isNone at q2
      have hbad:=(stream_givesR g1.out g2.out g3.out g4.out (hmo.out.end (.inr rfl))).1 (.inl rfl)
      clear hmo hlf
      by_cases hk:k=0
      ·subst hk
       obtain rfl:jj=M:=hjk.out
       replace hbad:=Lib.hid hbad
       have hZ:=hd.out.but.blk hZ0.out (by omega)
       have r2:=hd.out.rd.c2
       have rf:=hd.out.rd.free 2
       have hr:=hd.out.rd.fail
       have hbw:=((But.of_g (S:=fun k=>k=R) hg0.out).trans hd.out.but).set (p:=⟨R,2,none⟩) (.inr rfl) (.bool true)
       have hZ2:=(but_set wo R 2 (.bool true)).blk hZ (by omega)
       have q0:=(blk_cell hZ2 0).trans (show _=some (.string ByteArray.empty) from rfl)
       have q1:=(blk_cell hZ2 1).trans (show _=some (.slice none 0 0) from rfl)
       have q3:=(blk_cell hZ2 2).trans (show _=some (.slice none 0 0) from rfl)
       have fq:∀o,(wo.setCell ⟨R,2,none⟩ (.bool true)).frozen? ⟨w.heap.size,o,none⟩=false:=fun o=>by simp [World.frozen?,hZ2]
       have f0:=fq 0
       have f1:=fq 1
       have f2:=fq 2
       have hE:=blk3 hZ2 (.string ⟨#[]⟩) (.slice none 0 0) (.slice none 0 0)
       have hr':=hr.but (but_set3 _ w.heap.size (.string ⟨#[]⟩) (.slice none 0 0) (.slice none 0 0)) (fun k e=>by omega)
       have hbs:=hbw.set3 (Nat.le_refl _) (.string ⟨#[]⟩) (.slice none 0 0) (.slice none 0 0)
       have e0:=(blk_cell hE 0).trans (show _=some (.string ⟨#[]⟩) from rfl)
       have e1:=(blk_cell hE 1).trans (show _=some (.slice none 0 0) from rfl)
       have e2:=(blk_cell hE 2).trans (show _=some (.slice none 0 0) from rfl)
       have hneR:w.heap.size≠R:=by omega
       have hneR':R≠w.heap.size:=by omega
       replace e0:=Lib.hid e0
       replace e1:=Lib.hid e1
       replace e2:=Lib.hid e2
       replace hr':=Lib.hid hr'
       replace hbs:=Lib.hid hbs
       replace hd:=Lib.hid hd
       clear hE hZ hZ2 hbw hr fq
       go_wp2_with fail
       have e0:=e0.out
       have e1:=e1.out
       have e2:=e2.out
       refine bodyPost_ret (v:=.agg #[.string ⟨#[]⟩,.slice none 0 0,.slice none 0 0]) (by simp [results,Tryz.results48,go_sem,e0,e1,e2]) rfl ?_
       exact ⟨⟨#[]⟩,none,none,0,0,[],[],none,rfl,hr'.out,hbs.out,hbad.out,smSmall_zero,⟨OwnL.nil,OwnL.nil⟩⟩
      ·have hk':(jj:Int) < (M:Int):=by have:=hjk.out;omega
       replace hbad:=Lib.hid hbad
       have hZ:=hd.out.but.blk hZ0.out (by omega)
       have r2:=hd.out.rd.c2
       have rf:=hd.out.rd.free 2
       have hr:=hd.out.rd.fail
       have hbw:=((But.of_g (S:=fun k=>k=R) hg0.out).trans hd.out.but).set (p:=⟨R,2,none⟩) (.inr rfl) (.bool true)
       have hZ2:=(but_set wo R 2 (.bool true)).blk hZ (by omega)
       have q0:=(blk_cell hZ2 0).trans (show _=some (.string ByteArray.empty) from rfl)
       have q1:=(blk_cell hZ2 1).trans (show _=some (.slice none 0 0) from rfl)
       have q3:=(blk_cell hZ2 2).trans (show _=some (.slice none 0 0) from rfl)
       have fq:∀o,(wo.setCell ⟨R,2,none⟩ (.bool true)).frozen? ⟨w.heap.size,o,none⟩=false:=fun o=>by simp [World.frozen?,hZ2]
       have f0:=fq 0
       have f1:=fq 1
       have f2:=fq 2
       have hE:=blk3 hZ2 (.string ⟨#[]⟩) (.slice none 0 0) (.slice none 0 0)
       have hr':=hr.but (but_set3 _ w.heap.size (.string ⟨#[]⟩) (.slice none 0 0) (.slice none 0 0)) (fun k e=>by omega)
       have hbs:=hbw.set3 (Nat.le_refl _) (.string ⟨#[]⟩) (.slice none 0 0) (.slice none 0 0)
       have e0:=(blk_cell hE 0).trans (show _=some (.string ⟨#[]⟩) from rfl)
       have e1:=(blk_cell hE 1).trans (show _=some (.slice none 0 0) from rfl)
       have e2:=(blk_cell hE 2).trans (show _=some (.slice none 0 0) from rfl)
       have hneR:w.heap.size≠R:=by omega
       have hneR':R≠w.heap.size:=by omega
       replace e0:=Lib.hid e0
       replace e1:=Lib.hid e1
       replace e2:=Lib.hid e2
       replace hr':=Lib.hid hr'
       replace hbs:=Lib.hid hbs
       replace hd:=Lib.hid hd
       clear hE hZ hZ2 hbw hr fq
       go_wp2_with fail
       have e0:=e0.out
       have e1:=e1.out
       have e2:=e2.out
       refine bodyPost_ret (v:=.agg #[.string ⟨#[]⟩,.slice none 0 0,.slice none 0 0]) (by simp [results,Tryz.results48,go_sem,e0,e1,e2]) rfl ?_
       exact ⟨⟨#[]⟩,none,none,0,0,[],[],none,rfl,hr'.out,hbs.out,hbad.out,smSmall_zero,⟨OwnL.nil,OwnL.nil⟩⟩
     | some lx =>
      unfold Option.isNone at q2
      by_cases hk:k=0
      ·subst hk
       obtain rfl:jj=M:=hjk.out
       clear hlf
       have hgv:=stream_givesR g1.out g2.out g3.out g4.out (hmo.out.end (.inl rfl))
       have hsm:=small_gives hl0.out (eats_count _) (eats_count _) g1.out g2.out g3.out g4.out (hmo.out.end (.inl rfl))
       have hck:=refSmEnc_any (strOf s) es ks Ae Ak ce ck wo hd.out.own.ins hsm (hT.out.rd h.out ((But.of_g (S:=fun k=>k=R) hg0.out).trans hd.out.but))
       have q0:=hd.out.c0
       have q1:=hd.out.c1
       have q3:=hd.out.c2
       cases hok:smOk ⟨strOf s,es,ks⟩ with
       | false =>
        have hbad:=hgv.1 (.inr hok)
        rw [smL_no hok] at hck
        have t1:((([]:List UInt8).length:Int) == 0)=true:=rfl
        replace hok:=Lib.hid hok
        replace hbad:=Lib.hid hbad
        clear hgv hmo hsm
        go_wp2_with fail
        refine hck.mono ?_
        clear hck
        rintro e w5 ⟨Ax,cx,rfl,_,hg5,_⟩
        replace hd:=Lib.hid (hd.out.g hg5)
        have hbad:=hbad.out
        clear q0 q1 q2 q3 hg5
        replace hbad:=Lib.hid hbad
        have hZ:=hd.out.but.blk hZ0.out (by omega)
        have r2:=hd.out.rd.c2
        have rf:=hd.out.rd.free 2
        have hr:=hd.out.rd.fail
        have hbw:=((But.of_g (S:=fun k=>k=R) hg0.out).trans hd.out.but).set (p:=⟨R,2,none⟩) (.inr rfl) (.bool true)
        have hZ2:=(but_set w5 R 2 (.bool true)).blk hZ (by omega)
        have q0:=(blk_cell hZ2 0).trans (show _=some (.string ByteArray.empty) from rfl)
        have q1:=(blk_cell hZ2 1).trans (show _=some (.slice none 0 0) from rfl)
        have q3:=(blk_cell hZ2 2).trans (show _=some (.slice none 0 0) from rfl)
        have fq:∀o,(w5.setCell ⟨R,2,none⟩ (.bool true)).frozen? ⟨w.heap.size,o,none⟩=false:=fun o=>by simp [World.frozen?,hZ2]
        have f0:=fq 0
        have f1:=fq 1
        have f2:=fq 2
        have hE:=blk3 hZ2 (.string ⟨#[]⟩) (.slice none 0 0) (.slice none 0 0)
        have hr':=hr.but (but_set3 _ w.heap.size (.string ⟨#[]⟩) (.slice none 0 0) (.slice none 0 0)) (fun k e=>by omega)
        have hbs:=hbw.set3 (Nat.le_refl _) (.string ⟨#[]⟩) (.slice none 0 0) (.slice none 0 0)
        have e0:=(blk_cell hE 0).trans (show _=some (.string ⟨#[]⟩) from rfl)
        have e1:=(blk_cell hE 1).trans (show _=some (.slice none 0 0) from rfl)
        have e2:=(blk_cell hE 2).trans (show _=some (.slice none 0 0) from rfl)
        have hneR:w.heap.size≠R:=by omega
        have hneR':R≠w.heap.size:=by omega
        replace e0:=Lib.hid e0
        replace e1:=Lib.hid e1
        replace e2:=Lib.hid e2
        replace hr':=Lib.hid hr'
        replace hbs:=Lib.hid hbs
        replace hd:=Lib.hid hd
        clear hE hZ hZ2 hbw hr fq
        go_wp2_with fail
        have e0:=e0.out
        have e1:=e1.out
        have e2:=e2.out
        refine bodyPost_ret (v:=.agg #[.string ⟨#[]⟩,.slice none 0 0,.slice none 0 0]) (by simp [results,Tryz.results48,go_sem,e0,e1,e2]) rfl ?_
        exact ⟨⟨#[]⟩,none,none,0,0,[],[],none,rfl,hr'.out,hbs.out,hbad.out,smSmall_zero,⟨OwnL.nil,OwnL.nil⟩⟩
       | true =>
        have hne:smL ⟨strOf s,es,ks⟩≠[]:=by
         rw [smL_ok hok]
         intro h
         have:=smBytes_pos ⟨strOf s,es,ks⟩
         rw [h] at this
         simp at this
        have t1:(((smL ⟨strOf s,es,ks⟩).length:Int) == 0)=false:=by
         rw [beq_eq_false_iff_ne]
         have:=List.length_pos_iff.2 hne
         omega
        generalize smL ⟨strOf s,es,ks⟩=sl at *
        replace hgv:=hgv.2 hok
        replace hne:=Lib.hid hne
        replace hok:=Lib.hid hok
        replace hgv:=Lib.hid hgv
        replace hsm:=Lib.hid hsm
        clear hmo
        go_wp2_with fail
        refine hck.mono ?_
        clear hck
        rintro e w5 ⟨Ax,cx,rfl,_,hg5,_⟩
        replace hd:=hd.out.g hg5
        clear q0 q1 q2 q3
        have hZ:=hd.but.blk hZ0.out (by omega)
        have q0:=hd.c0
        have q1:=hd.c1
        have q3:=hd.c2
        have z0:=(blk_cell hZ 0).trans (show _=some (.string ByteArray.empty) from rfl)
        have z1:=(blk_cell hZ 1).trans (show _=some (.slice none 0 0) from rfl)
        have z2:=(blk_cell hZ 2).trans (show _=some (.slice none 0 0) from rfl)
        have fq:∀o,w5.frozen? ⟨w.heap.size,o,none⟩=false:=fun o=>by simp [World.frozen?,hZ]
        have f0:=fq 0
        have f1:=fq 1
        have f2:=fq 2
        have hE:=blk3 hZ (.string (strOf s)) (.slice Ae es.length ce) (.slice Ak ks.length ck)
        have e0:=(blk_cell hE 0).trans (show _=some (.string (strOf s)) from rfl)
        have e1:=(blk_cell hE 1).trans (show _=some (.slice Ae es.length ce) from rfl)
        have e2:=(blk_cell hE 2).trans (show _=some (.slice Ak ks.length ck) from rfl)
        have hps:=(hd.own.z hZ (.string (strOf s)) (.slice Ae es.length ce) (.slice Ak ks.length ck)).mono hg0.out.size
        have hr':=hd.rd.but (but_set3 _ w.heap.size (.string (strOf s)) (.slice Ae es.length ce) (.slice Ak ks.length ck)) (fun k e=>by omega)
        have hbs:=((But.of_g (S:=fun k=>k=R) hg0.out).trans hd.but).set3 (Nat.le_refl _) (.string (strOf s)) (.slice Ae es.length ce) (.slice Ak ks.length ck)
        replace e0:=Lib.hid e0
        replace e1:=Lib.hid e1
        replace e2:=Lib.hid e2
        replace hps:=Lib.hid hps
        replace hr':=Lib.hid hr'
        replace hbs:=Lib.hid hbs
        clear hE hg5 hZ hd fq
        go_wp2_with fail
        have e0:=e0.out
        have e1:=e1.out
        have e2:=e2.out
        refine bodyPost_ret (v:=.agg #[.string (strOf s),.slice Ae es.length ce,.slice Ak ks.length ck]) (by simp [results,Tryz.results48,go_sem,e0,e1,e2]) rfl ?_
        exact ⟨strOf s,Ae,Ak,ce,ck,es,ks,_,rfl,hr'.out,hbs.out,hgv.out,hsm.out,hps.out⟩
      ·obtain ⟨j,rfl⟩:∃j,k=j+1:=⟨k - 1,by omega⟩
       have hc:=eyeText_any R A c8 l (some lx) wo hd.out.rd hl2 hcap
       obtain ⟨sk,st5,h5⟩:∃v t,gv [] dText (some lx)=(v,t):=⟨_,_,rfl⟩
       rw [h5] at hc
       have g5:=gv_gives h5
       have hj1:(jj:Int) < (M:Int):=by have:=hjk.out;omega
       replace g5:=Lib.hid g5
       clear h5 hk
       go_wp2_with fail
       refine hc.mono ?_
       clear hc
       rintro e wa ⟨rfl,hr5,hb5⟩
       replace hd:=Lib.hid (hd.out.call hr5 hb5)
       have hi:=KnSt.begin (s:=strOf sk) hr5
       have hc:=eyeNum_any R A c8 l st5 _ hi.rd hl2 hcap 1099511627776 1099511627776 rfl (by omega)
       obtain ⟨v,st6,h6⟩:∃v t,gv 0 (dCount 1099511627776) st5=(v,t):=⟨_,_,rfl⟩
       rw [h6] at hc
       have g6:=gv_gives h6
       replace g6:=Lib.hid g6
       replace hi:=Lib.hid hi
       clear h6 hr5 hb5 q2
       go_wp2_with fail
       refine hc.mono ?_
       clear hc
       rintro e w6 ⟨rfl,hr6,hb6⟩
       replace hi:=hi.out.call hr6 hb6
       have x1:=(hi.cell 1).trans (show _=some (.int .i64 0) from rfl)
       have x1f:=hi.free 1
       replace hi:=(hi.put 1 (.int .i64 v)).as (show _=#[.string (strOf sk),.int .i64 v,.int .i64 0,.int .i64 0,.int .i64 0] from rfl)
       have hc:=eyeStamp_any R A c8 l st6 _ hi.rd hl2 hcap
       replace hi:=Lib.hid hi
       clear hr6 hb6
       go_wp2_with fail
       refine hc.mono ?_
       clear hc
       rintro e w7 ⟨⟨ta,tb,tc⟩,st7,he7,hr7,hb7,g7⟩
       simp only [stVal,stV] at he7
       subst he7
       replace hi:=hi.out.call hr7 hb7
       have y2:=(hi.cell 2).trans (show _=some (.int .i64 0) from rfl)
       have y3:=(hi.cell 3).trans (show _=some (.int .i64 0) from rfl)
       have y4:=(hi.cell 4).trans (show _=some (.int .i64 0) from rfl)
       have y2f:=hi.free 2
       have y3f:=hi.free 3
       have y4f:=hi.free 4
       replace hi:=(((hi.put 2 (.int .i64 ta)).put 3 (.int .i64 tb)).put 4 (.int .i64 tc)).as (show _=#[.string (strOf sk),.int .i64 v,.int .i64 ta,.int .i64 tb,.int .i64 tc] from rfl)
       have z0:=(hi.cell 0).trans (show _=some (.string (strOf sk)) from rfl)
       have z1:=(hi.cell 1).trans (show _=some (.int .i64 v) from rfl)
       have z2:=(hi.cell 2).trans (show _=some (.int .i64 ta) from rfl)
       have z3:=(hi.cell 3).trans (show _=some (.int .i64 tb) from rfl)
       have z4:=(hi.cell 4).trans (show _=some (.int .i64 tc) from rfl)
       have hgk:=known_gives g5.out g6.out g7
       have hlf2:=Left.step hlf.out hl eats_known hgk
       have hmo2:=hmo.out.step hgk
       have hb:=hi.but
       have hws:=hd.out.but.size
       replace hd:=hd.out.call hi.rd hb
       have c2:=hd.c2
       obtain ⟨y,hy⟩:∃y:Kn,y=⟨strOf sk,v,⟨ta,tb,tc⟩⟩:=⟨_,rfl⟩
       obtain ⟨ks',hks⟩:∃ks',ks++[y]=ks':=⟨_,rfl⟩
       rw [←hy,hks] at hmo2
       have hkl:ks'.length=ks.length+1:=by rw [←hks];simp
       have hkb:=hlf.out.1
       rw [←hkl] at hlf2
       replace hd:=Lib.hid hd
       replace hmo2:=Lib.hid hmo2
       replace hlf2:=Lib.hid hlf2
       replace hkl:=Lib.hid hkl
       replace hks:=Lib.hid hks
       replace hy:=Lib.hid hy
       clear hgk hmo hlf hb hr7 hb7 hi g7
       go_upto_region 14 with fail
       generalize ((w7.setCell ⟨wa.heap.size,2,none⟩ (.int .i64 ta)).setCell ⟨wa.heap.size,3,none⟩ (.int .i64 tb)).setCell ⟨wa.heap.size,4,none⟩ (.int .i64 tc)=wz at *
       clear y2 y3 y4 y2f y3f y4f x1 x1f
       go_wp2_with (at_builtin;refine wpList_append_but kns_elem _ rfl (.tmp 57) (.tmp 59) rfl W0.heap.size _ ks rfl (hd.out.own.kns.g (G.new _ _)) (wz.heap.size+1) (some ⟨wz.heap.size,0,none⟩) 1 [y] rfl (by intro h;cases h) (Sl.of_blk Kn.cells_len _ (blk_new _ _ _) (by rw [hy.out];rfl) (by omega)) (by simp;omega) (by simp;omega) (by have:=hd.out.but.size;simp;omega) ?_;intro v8 w8 hown8 hk8 hb8;rw [hks.out] at hown8;obtain ⟨A8,c8',e8,_,_,_⟩:=OwnL.sl Kn.cells_len hown8;subst e8;obtain ⟨zf,⟨u,zc⟩,hd8⟩:=(hd.out.g (G.new _ _)).pushK hown8 hk8 hb8;replace hd8:=Lib.hid hd8)
       go_roundw
       case rel=>exact ⟨jj+1,j,A8,c8',ks',st7,by go_num,Lib.hid (by have:=hjk.out;omega),hlf2,hd8,hmo2⟩
       case measure=>(simp [intOf] <;> omega)
   ·have hk':(jj:Int) < (N:Int):=by have:=hjk.out;omega
    have g3:=hmo.out.end (.inr rfl)
    replace g3:=Lib.hid g3
    clear hmo hlf
    have hc:=eyeNum_any R A c8 l none wo hd.out.rd hl2 hcap 1073741824 1073741824 rfl (by omega)
    obtain ⟨M,st4,h4⟩:∃v t,gv 0 (dCount 1073741824) (none)=(v,t):=⟨_,_,rfl⟩
    rw [h4] at hc
    have g4:=gv_gives h4
    have hM:M≤1073741824:=gv_bound (P:=(·≤1073741824)) h4 (by decide) (fun _ _ _ h=>(dCount_num h).2)
    replace g4:=Lib.hid g4
    clear h4
    go_wp2_with fail
    refine hc.mono ?_
    clear hc
    rintro e wb ⟨rfl,hr4,hb4⟩
    replace hd:=hd.out.call hr4 hb4
    have hlf:Left l 0 st4:=Left.start (fun l' e=>by subst e;exact RdS.len hd.rd)
    replace hd:=Lib.hid hd
    replace hlf:=Lib.hid hlf
    clear hr4 hb4 q2
    go_wp2_with fail
    go_loopw [7] (fun i wr=>∃(jj k:Nat) (Ak:Option Addr) (ck:Nat) (ks:List Kn) (st:Option (List UInt8)),i=.int .i64 jj∧Hid (jj+k=M)∧Hid (Left l ks.length st)∧Hid (SmSt 64 R w1.heap.size R A c8 l W0 (strOf s) Ae ce es Ak ck ks st wr)∧Hid (More dKnown M k st4 st ks)) (fun i _=>M - (intOf i).toNat)
    case atStart=>exact ⟨0,M,none,0,[],st4,rfl,Lib.hid (by omega),hlf,hd,More.start _ _ _⟩
    case round =>
     obtain ⟨wo,rfl⟩:∃wo:World,wo=wr:=⟨_,rfl⟩
     clear hd hlf
     obtain ⟨jj,k,Ak,ck,ks,st,rfl,hjk,hlf,hd,hmo⟩:=hrel
     have q2:=hd.out.rd.c2
     cases st with
     | none =>
      unfold Option.isNone at q2
      have hbad:=(stream_givesR g1.out g2.out g3.out g4.out (hmo.out.end (.inr rfl))).1 (.inl rfl)
      clear hmo hlf
      by_cases hk:k=0
      ·subst hk
       obtain rfl:jj=M:=hjk.out
       replace hbad:=Lib.hid hbad
       have hZ:=hd.out.but.blk hZ0.out (by omega)
       have r2:=hd.out.rd.c2
       have rf:=hd.out.rd.free 2
       have hr:=hd.out.rd.fail
       have hbw:=((But.of_g (S:=fun k=>k=R) hg0.out).trans hd.out.but).set (p:=⟨R,2,none⟩) (.inr rfl) (.bool true)
       have hZ2:=(but_set wo R 2 (.bool true)).blk hZ (by omega)
       have q0:=(blk_cell hZ2 0).trans (show _=some (.string ByteArray.empty) from rfl)
       have q1:=(blk_cell hZ2 1).trans (show _=some (.slice none 0 0) from rfl)
       have q3:=(blk_cell hZ2 2).trans (show _=some (.slice none 0 0) from rfl)
       have fq:∀o,(wo.setCell ⟨R,2,none⟩ (.bool true)).frozen? ⟨w.heap.size,o,none⟩=false:=fun o=>by simp [World.frozen?,hZ2]
       have f0:=fq 0
       have f1:=fq 1
       have f2:=fq 2
       have hE:=blk3 hZ2 (.string ⟨#[]⟩) (.slice none 0 0) (.slice none 0 0)
       have hr':=hr.but (but_set3 _ w.heap.size (.string ⟨#[]⟩) (.slice none 0 0) (.slice none 0 0)) (fun k e=>by omega)
       have hbs:=hbw.set3 (Nat.le_refl _) (.string ⟨#[]⟩) (.slice none 0 0) (.slice none 0 0)
       have e0:=(blk_cell hE 0).trans (show _=some (.string ⟨#[]⟩) from rfl)
       have e1:=(blk_cell hE 1).trans (show _=some (.slice none 0 0) from rfl)
       have e2:=(blk_cell hE 2).trans (show _=some (.slice none 0 0) from rfl)
       have hneR:w.heap.size≠R:=by omega
       have hneR':R≠w.heap.size:=by omega
       replace e0:=Lib.hid e0
       replace e1:=Lib.hid e1
       replace e2:=Lib.hid e2
       replace hr':=Lib.hid hr'
       replace hbs:=Lib.hid hbs
       replace hd:=Lib.hid hd
       clear hE hZ hZ2 hbw hr fq
       go_wp2_with fail
       have e0:=e0.out
       have e1:=e1.out
       have e2:=e2.out
       refine bodyPost_ret (v:=.agg #[.string ⟨#[]⟩,.slice none 0 0,.slice none 0 0]) (by simp [results,Tryz.results48,go_sem,e0,e1,e2]) rfl ?_
       exact ⟨⟨#[]⟩,none,none,0,0,[],[],none,rfl,hr'.out,hbs.out,hbad.out,smSmall_zero,⟨OwnL.nil,OwnL.nil⟩⟩
      ·have hk':(jj:Int) < (M:Int):=by have:=hjk.out;omega
       replace hbad:=Lib.hid hbad
       have hZ:=hd.out.but.blk hZ0.out (by omega)
       have r2:=hd.out.rd.c2
       have rf:=hd.out.rd.free 2
       have hr:=hd.out.rd.fail
       have hbw:=((But.of_g (S:=fun k=>k=R) hg0.out).trans hd.out.but).set (p:=⟨R,2,none⟩) (.inr rfl) (.bool true)
       have hZ2:=(but_set wo R 2 (.bool true)).blk hZ (by omega)
       have q0:=(blk_cell hZ2 0).trans (show _=some (.string ByteArray.empty) from rfl)
       have q1:=(blk_cell hZ2 1).trans (show _=some (.slice none 0 0) from rfl)
       have q3:=(blk_cell hZ2 2).trans (show _=some (.slice none 0 0) from rfl)
       have fq:∀o,(wo.setCell ⟨R,2,none⟩ (.bool true)).frozen? ⟨w.heap.size,o,none⟩=false:=fun o=>by simp [World.frozen?,hZ2]
       have f0:=fq 0
       have f1:=fq 1
       have f2:=fq 2
       have hE:=blk3 hZ2 (.string ⟨#[]⟩) (.slice none 0 0) (.slice none 0 0)
       have hr':=hr.but (but_set3 _ w.heap.size (.string ⟨#[]⟩) (.slice none 0 0) (.slice none 0 0)) (fun k e=>by omega)
       have hbs:=hbw.set3 (Nat.le_refl _) (.string ⟨#[]⟩) (.slice none 0 0) (.slice none 0 0)
       have e0:=(blk_cell hE 0).trans (show _=some (.string ⟨#[]⟩) from rfl)
       have e1:=(blk_cell hE 1).trans (show _=some (.slice none 0 0) from rfl)
       have e2:=(blk_cell hE 2).trans (show _=some (.slice none 0 0) from rfl)
       have hneR:w.heap.size≠R:=by omega
       have hneR':R≠w.heap.size:=by omega
       replace e0:=Lib.hid e0
       replace e1:=Lib.hid e1
       replace e2:=Lib.hid e2
       replace hr':=Lib.hid hr'
       replace hbs:=Lib.hid hbs
       replace hd:=Lib.hid hd
       clear hE hZ hZ2 hbw hr fq
       go_wp2_with fail
       have e0:=e0.out
       have e1:=e1.out
       have e2:=e2.out
       refine bodyPost_ret (v:=.agg #[.string ⟨#[]⟩,.slice none 0 0,.slice none 0 0]) (by simp [results,Tryz.results48,go_sem,e0,e1,e2]) rfl ?_
       exact ⟨⟨#[]⟩,none,none,0,0,[],[],none,rfl,hr'.out,hbs.out,hbad.out,smSmall_zero,⟨OwnL.nil,OwnL.nil⟩⟩
     | some lx =>
      unfold Option.isNone at q2
      by_cases hk:k=0
      ·subst hk
       obtain rfl:jj=M:=hjk.out
       clear hlf
       have hgv:=stream_givesR g1.out g2.out g3.out g4.out (hmo.out.end (.inl rfl))
       have hsm:=small_gives hl0.out (eats_count _) (eats_count _) g1.out g2.out g3.out g4.out (hmo.out.end (.inl rfl))
       have hck:=refSmEnc_any (strOf s) es ks Ae Ak ce ck wo hd.out.own.ins hsm (hT.out.rd h.out ((But.of_g (S:=fun k=>k=R) hg0.out).trans hd.out.but))
       have q0:=hd.out.c0
       have q1:=hd.out.c1
       have q3:=hd.out.c2
       cases hok:smOk ⟨strOf s,es,ks⟩ with
       | false =>
        have hbad:=hgv.1 (.inr hok)
        rw [smL_no hok] at hck
        have t1:((([]:List UInt8).length:Int) == 0)=true:=rfl
        replace hok:=Lib.hid hok
        replace hbad:=Lib.hid hbad
        clear hgv hmo hsm
        go_wp2_with fail
        refine hck.mono ?_
        clear hck
        rintro e w5 ⟨Ax,cx,rfl,_,hg5,_⟩
        replace hd:=Lib.hid (hd.out.g hg5)
        have hbad:=hbad.out
        clear q0 q1 q2 q3 hg5
        replace hbad:=Lib.hid hbad
        have hZ:=hd.out.but.blk hZ0.out (by omega)
        have r2:=hd.out.rd.c2
        have rf:=hd.out.rd.free 2
        have hr:=hd.out.rd.fail
        have hbw:=((But.of_g (S:=fun k=>k=R) hg0.out).trans hd.out.but).set (p:=⟨R,2,none⟩) (.inr rfl) (.bool true)
        have hZ2:=(but_set w5 R 2 (.bool true)).blk hZ (by omega)
        have q0:=(blk_cell hZ2 0).trans (show _=some (.string ByteArray.empty) from rfl)
        have q1:=(blk_cell hZ2 1).trans (show _=some (.slice none 0 0) from rfl)
        have q3:=(blk_cell hZ2 2).trans (show _=some (.slice none 0 0) from rfl)
        have fq:∀o,(w5.setCell ⟨R,2,none⟩ (.bool true)).frozen? ⟨w.heap.size,o,none⟩=false:=fun o=>by simp [World.frozen?,hZ2]
        have f0:=fq 0
        have f1:=fq 1
        have f2:=fq 2
        have hE:=blk3 hZ2 (.string ⟨#[]⟩) (.slice none 0 0) (.slice none 0 0)
        have hr':=hr.but (but_set3 _ w.heap.size (.string ⟨#[]⟩) (.slice none 0 0) (.slice none 0 0)) (fun k e=>by omega)
        have hbs:=hbw.set3 (Nat.le_refl _) (.string ⟨#[]⟩) (.slice none 0 0) (.slice none 0 0)
        have e0:=(blk_cell hE 0).trans (show _=some (.string ⟨#[]⟩) from rfl)
        have e1:=(blk_cell hE 1).trans (show _=some (.slice none 0 0) from rfl)
        have e2:=(blk_cell hE 2).trans (show _=some (.slice none 0 0) from rfl)
        have hneR:w.heap.size≠R:=by omega
        have hneR':R≠w.heap.size:=by omega
        replace e0:=Lib.hid e0
        replace e1:=Lib.hid e1
        replace e2:=Lib.hid e2
        replace hr':=Lib.hid hr'
        replace hbs:=Lib.hid hbs
        replace hd:=Lib.hid hd
        clear hE hZ hZ2 hbw hr fq
        go_wp2_with fail
        have e0:=e0.out
        have e1:=e1.out
        have e2:=e2.out
        refine bodyPost_ret (v:=.agg #[.string ⟨#[]⟩,.slice none 0 0,.slice none 0 0]) (by simp [results,Tryz.results48,go_sem,e0,e1,e2]) rfl ?_
        exact ⟨⟨#[]⟩,none,none,0,0,[],[],none,rfl,hr'.out,hbs.out,hbad.out,smSmall_zero,⟨OwnL.nil,OwnL.nil⟩⟩
       | true =>
        have hne:smL ⟨strOf s,es,ks⟩≠[]:=by
         rw [smL_ok hok]
         intro h
         have:=smBytes_pos ⟨strOf s,es,ks⟩
         rw [h] at this
         simp at this
        have t1:(((smL ⟨strOf s,es,ks⟩).length:Int) == 0)=false:=by
         rw [beq_eq_false_iff_ne]
         have:=List.length_pos_iff.2 hne
         omega
        generalize smL ⟨strOf s,es,ks⟩=sl at *
        replace hgv:=hgv.2 hok
        replace hne:=Lib.hid hne
        replace hok:=Lib.hid hok
        replace hgv:=Lib.hid hgv
        replace hsm:=Lib.hid hsm
        clear hmo
        go_wp2_with fail
        refine hck.mono ?_
        clear hck
        rintro e w5 ⟨Ax,cx,rfl,_,hg5,_⟩
        replace hd:=hd.out.g hg5
        clear q0 q1 q2 q3
        have hZ:=hd.but.blk hZ0.out (by omega)
        have q0:=hd.c0
        have q1:=hd.c1
        have q3:=hd.c2
        have z0:=(blk_cell hZ 0).trans (show _=some (.string ByteArray.empty) from rfl)
        have z1:=(blk_cell hZ 1).trans (show _=some (.slice none 0 0) from rfl)
        have z2:=(blk_cell hZ 2).trans (show _=some (.slice none 0 0) from rfl)
        have fq:∀o,w5.frozen? ⟨w.heap.size,o,none⟩=false:=fun o=>by simp [World.frozen?,hZ]
        have f0:=fq 0
        have f1:=fq 1
        have f2:=fq 2
        have hE:=blk3 hZ (.string (strOf s)) (.slice Ae es.length ce) (.slice Ak ks.length ck)
        have e0:=(blk_cell hE 0).trans (show _=some (.string (strOf s)) from rfl)
        have e1:=(blk_cell hE 1).trans (show _=some (.slice Ae es.length ce) from rfl)
        have e2:=(blk_cell hE 2).trans (show _=some (.slice Ak ks.length ck) from rfl)
        have hps:=(hd.own.z hZ (.string (strOf s)) (.slice Ae es.length ce) (.slice Ak ks.length ck)).mono hg0.out.size
        have hr':=hd.rd.but (but_set3 _ w.heap.size (.string (strOf s)) (.slice Ae es.length ce) (.slice Ak ks.length ck)) (fun k e=>by omega)
        have hbs:=((But.of_g (S:=fun k=>k=R) hg0.out).trans hd.but).set3 (Nat.le_refl _) (.string (strOf s)) (.slice Ae es.length ce) (.slice Ak ks.length ck)
        replace e0:=Lib.hid e0
        replace e1:=Lib.hid e1
        replace e2:=Lib.hid e2
        replace hps:=Lib.hid hps
        replace hr':=Lib.hid hr'
        replace hbs:=Lib.hid hbs
        clear hE hg5 hZ hd fq
        go_wp2_with fail
        have e0:=e0.out
        have e1:=e1.out
        have e2:=e2.out
        refine bodyPost_ret (v:=.agg #[.string (strOf s),.slice Ae es.length ce,.slice Ak ks.length ck]) (by simp [results,Tryz.results48,go_sem,e0,e1,e2]) rfl ?_
        exact ⟨strOf s,Ae,Ak,ce,ck,es,ks,_,rfl,hr'.out,hbs.out,hgv.out,hsm.out,hps.out⟩
      ·obtain ⟨j,rfl⟩:∃j,k=j+1:=⟨k - 1,by omega⟩
       have hc:=eyeText_any R A c8 l (some lx) wo hd.out.rd hl2 hcap
       obtain ⟨sk,st5,h5⟩:∃v t,gv [] dText (some lx)=(v,t):=⟨_,_,rfl⟩
       rw [h5] at hc
       have g5:=gv_gives h5
       have hj1:(jj:Int) < (M:Int):=by have:=hjk.out;omega
       replace g5:=Lib.hid g5
       clear h5 hk
       go_wp2_with fail
       refine hc.mono ?_
       clear hc
       rintro e wa ⟨rfl,hr5,hb5⟩
       replace hd:=Lib.hid (hd.out.call hr5 hb5)
       have hi:=KnSt.begin (s:=strOf sk) hr5
       have hc:=eyeNum_any R A c8 l st5 _ hi.rd hl2 hcap 1099511627776 1099511627776 rfl (by omega)
       obtain ⟨v,st6,h6⟩:∃v t,gv 0 (dCount 1099511627776) st5=(v,t):=⟨_,_,rfl⟩
       rw [h6] at hc
       have g6:=gv_gives h6
       replace g6:=Lib.hid g6
       replace hi:=Lib.hid hi
       clear h6 hr5 hb5 q2
       go_wp2_with fail
       refine hc.mono ?_
       clear hc
       rintro e w6 ⟨rfl,hr6,hb6⟩
       replace hi:=hi.out.call hr6 hb6
       have x1:=(hi.cell 1).trans (show _=some (.int .i64 0) from rfl)
       have x1f:=hi.free 1
       replace hi:=(hi.put 1 (.int .i64 v)).as (show _=#[.string (strOf sk),.int .i64 v,.int .i64 0,.int .i64 0,.int .i64 0] from rfl)
       have hc:=eyeStamp_any R A c8 l st6 _ hi.rd hl2 hcap
       replace hi:=Lib.hid hi
       clear hr6 hb6
       go_wp2_with fail
       refine hc.mono ?_
       clear hc
       rintro e w7 ⟨⟨ta,tb,tc⟩,st7,he7,hr7,hb7,g7⟩
       simp only [stVal,stV] at he7
       subst he7
       replace hi:=hi.out.call hr7 hb7
       have y2:=(hi.cell 2).trans (show _=some (.int .i64 0) from rfl)
       have y3:=(hi.cell 3).trans (show _=some (.int .i64 0) from rfl)
       have y4:=(hi.cell 4).trans (show _=some (.int .i64 0) from rfl)
       have y2f:=hi.free 2
       have y3f:=hi.free 3
       have y4f:=hi.free 4
       replace hi:=(((hi.put 2 (.int .i64 ta)).put 3 (.int .i64 tb)).put 4 (.int .i64 tc)).as (show _=#[.string (strOf sk),.int .i64 v,.int .i64 ta,.int .i64 tb,.int .i64 tc] from rfl)
       have z0:=(hi.cell 0).trans (show _=some (.string (strOf sk)) from rfl)
       have z1:=(hi.cell 1).trans (show _=some (.int .i64 v) from rfl)
       have z2:=(hi.cell 2).trans (show _=some (.int .i64 ta) from rfl)
       have z3:=(hi.cell 3).trans (show _=some (.int .i64 tb) from rfl)
       have z4:=(hi.cell 4).trans (show _=some (.int .i64 tc) from rfl)
       have hgk:=known_gives g5.out g6.out g7
       have hlf2:=Left.step hlf.out hl eats_known hgk
       have hmo2:=hmo.out.step hgk
       have hb:=hi.but
       have hws:=hd.out.but.size
       replace hd:=hd.out.call hi.rd hb
       have c2:=hd.c2
       obtain ⟨y,hy⟩:∃y:Kn,y=⟨strOf sk,v,⟨ta,tb,tc⟩⟩:=⟨_,rfl⟩
       obtain ⟨ks',hks⟩:∃ks',ks++[y]=ks':=⟨_,rfl⟩
       rw [←hy,hks] at hmo2
       have hkl:ks'.length=ks.length+1:=by rw [←hks];simp
       have hkb:=hlf.out.1
       rw [←hkl] at hlf2
       replace hd:=Lib.hid hd
       replace hmo2:=Lib.hid hmo2
       replace hlf2:=Lib.hid hlf2
       replace hkl:=Lib.hid hkl
       replace hks:=Lib.hid hks
       replace hy:=Lib.hid hy
       clear hgk hmo hlf hb hr7 hb7 hi g7
       go_upto_region 14 with fail
       generalize ((w7.setCell ⟨wa.heap.size,2,none⟩ (.int .i64 ta)).setCell ⟨wa.heap.size,3,none⟩ (.int .i64 tb)).setCell ⟨wa.heap.size,4,none⟩ (.int .i64 tc)=wz at *
       clear y2 y3 y4 y2f y3f y4f x1 x1f
       go_wp2_with (at_builtin;refine wpList_append_but kns_elem _ rfl (.tmp 57) (.tmp 59) rfl W0.heap.size _ ks rfl (hd.out.own.kns.g (G.new _ _)) (wz.heap.size+1) (some ⟨wz.heap.size,0,none⟩) 1 [y] rfl (by intro h;cases h) (Sl.of_blk Kn.cells_len _ (blk_new _ _ _) (by rw [hy.out];rfl) (by omega)) (by simp;omega) (by simp;omega) (by have:=hd.out.but.size;simp;omega) ?_;intro v8 w8 hown8 hk8 hb8;rw [hks.out] at hown8;obtain ⟨A8,c8',e8,_,_,_⟩:=OwnL.sl Kn.cells_len hown8;subst e8;obtain ⟨zf,⟨u,zc⟩,hd8⟩:=(hd.out.g (G.new _ _)).pushK hown8 hk8 hb8;replace hd8:=Lib.hid hd8)
       go_roundw
       case rel=>exact ⟨jj+1,j,A8,c8',ks',st7,by go_num,Lib.hid (by have:=hjk.out;omega),hlf2,hd8,hmo2⟩
       case measure=>(simp [intOf] <;> omega)
  | some lx =>
   unfold Option.isNone at q2
   by_cases hk:k=0
   ·subst hk
    obtain rfl:jj=N:=hjk.out
    clear hjk
    have g3:=hmo.out.end (.inl rfl)
    replace g3:=Lib.hid g3
    clear hmo hlf
    have hc:=eyeNum_any R A c8 l (some lx) wo hd.out.rd hl2 hcap 1073741824 1073741824 rfl (by omega)
    obtain ⟨M,st4,h4⟩:∃v t,gv 0 (dCount 1073741824) ((some lx))=(v,t):=⟨_,_,rfl⟩
    rw [h4] at hc
    have g4:=gv_gives h4
    have hM:M≤1073741824:=gv_bound (P:=(·≤1073741824)) h4 (by decide) (fun _ _ _ h=>(dCount_num h).2)
    replace g4:=Lib.hid g4
    clear h4
    go_wp2_with fail
    refine hc.mono ?_
    clear hc
    rintro e wb ⟨rfl,hr4,hb4⟩
    replace hd:=hd.out.call hr4 hb4
    have hlf:Left l 0 st4:=Left.start (fun l' e=>by subst e;exact RdS.len hd.rd)
    replace hd:=Lib.hid hd
    replace hlf:=Lib.hid hlf
    clear hr4 hb4 q2
    go_wp2_with fail
    go_loopw [7] (fun i wr=>∃(jj k:Nat) (Ak:Option Addr) (ck:Nat) (ks:List Kn) (st:Option (List UInt8)),i=.int .i64 jj∧Hid (jj+k=M)∧Hid (Left l ks.length st)∧Hid (SmSt 64 R w1.heap.size R A c8 l W0 (strOf s) Ae ce es Ak ck ks st wr)∧Hid (More dKnown M k st4 st ks)) (fun i _=>M - (intOf i).toNat)
    case atStart=>exact ⟨0,M,none,0,[],st4,rfl,Lib.hid (by omega),hlf,hd,More.start _ _ _⟩
    case round =>
     obtain ⟨wo,rfl⟩:∃wo:World,wo=wr:=⟨_,rfl⟩
     clear hd hlf
     obtain ⟨jj,k,Ak,ck,ks,st,rfl,hjk,hlf,hd,hmo⟩:=hrel
     have q2:=hd.out.rd.c2
     cases st with
     | none =>
      unfold Option.isNone at q2
      have hbad:=(stream_givesR g1.out g2.out g3.out g4.out (hmo.out.end (.inr rfl))).1 (.inl rfl)
      clear hmo hlf
      by_cases hk:k=0
      ·subst hk
       obtain rfl:jj=M:=hjk.out
       replace hbad:=Lib.hid hbad
       have hZ:=hd.out.but.blk hZ0.out (by omega)
       have r2:=hd.out.rd.c2
       have rf:=hd.out.rd.free 2
       have hr:=hd.out.rd.fail
       have hbw:=((But.of_g (S:=fun k=>k=R) hg0.out).trans hd.out.but).set (p:=⟨R,2,none⟩) (.inr rfl) (.bool true)
       have hZ2:=(but_set wo R 2 (.bool true)).blk hZ (by omega)
       have q0:=(blk_cell hZ2 0).trans (show _=some (.string ByteArray.empty) from rfl)
       have q1:=(blk_cell hZ2 1).trans (show _=some (.slice none 0 0) from rfl)
       have q3:=(blk_cell hZ2 2).trans (show _=some (.slice none 0 0) from rfl)
       have fq:∀o,(wo.setCell ⟨R,2,none⟩ (.bool true)).frozen? ⟨w.heap.size,o,none⟩=false:=fun o=>by simp [World.frozen?,hZ2]
       have f0:=fq 0
       have f1:=fq 1
       have f2:=fq 2
       have hE:=blk3 hZ2 (.string ⟨#[]⟩) (.slice none 0 0) (.slice none 0 0)
       have hr':=hr.but (but_set3 _ w.heap.size (.string ⟨#[]⟩) (.slice none 0 0) (.slice none 0 0)) (fun k e=>by omega)
       have hbs:=hbw.set3 (Nat.le_refl _) (.string ⟨#[]⟩) (.slice none 0 0) (.slice none 0 0)
       have e0:=(blk_cell hE 0).trans (show _=some (.string ⟨#[]⟩) from rfl)
       have e1:=(blk_cell hE 1).trans (show _=some (.slice none 0 0) from rfl)
       have e2:=(blk_cell hE 2).trans (show _=some (.slice none 0 0) from rfl)
       have hneR:w.heap.size≠R:=by omega
       have hneR':R≠w.heap.size:=by omega
       replace e0:=Lib.hid e0
       replace e1:=Lib.hid e1
       replace e2:=Lib.hid e2
       replace hr':=Lib.hid hr'
       replace hbs:=Lib.hid hbs
       replace hd:=Lib.hid hd
       clear hE hZ hZ2 hbw hr fq
       go_wp2_with fail
       have e0:=e0.out
       have e1:=e1.out
       have e2:=e2.out
       refine bodyPost_ret (v:=.agg #[.string ⟨#[]⟩,.slice none 0 0,.slice none 0 0]) (by simp [results,Tryz.results48,go_sem,e0,e1,e2]) rfl ?_
       exact ⟨⟨#[]⟩,none,none,0,0,[],[],none,rfl,hr'.out,hbs.out,hbad.out,smSmall_zero,⟨OwnL.nil,OwnL.nil⟩⟩
      ·have hk':(jj:Int) < (M:Int):=by have:=hjk.out;omega
       replace hbad:=Lib.hid hbad
       have hZ:=hd.out.but.blk hZ0.out (by omega)
       have r2:=hd.out.rd.c2
       have rf:=hd.out.rd.free 2
       have hr:=hd.out.rd.fail
       have hbw:=((But.of_g (S:=fun k=>k=R) hg0.out).trans hd.out.but).set (p:=⟨R,2,none⟩) (.inr rfl) (.bool true)
       have hZ2:=(but_set wo R 2 (.bool true)).blk hZ (by omega)
       have q0:=(blk_cell hZ2 0).trans (show _=some (.string ByteArray.empty) from rfl)
       have q1:=(blk_cell hZ2 1).trans (show _=some (.slice none 0 0) from rfl)
       have q3:=(blk_cell hZ2 2).trans (show _=some (.slice none 0 0) from rfl)
       have fq:∀o,(wo.setCell ⟨R,2,none⟩ (.bool true)).frozen? ⟨w.heap.size,o,none⟩=false:=fun o=>by simp [World.frozen?,hZ2]
       have f0:=fq 0
       have f1:=fq 1
       have f2:=fq 2
       have hE:=blk3 hZ2 (.string ⟨#[]⟩) (.slice none 0 0) (.slice none 0 0)
       have hr':=hr.but (but_set3 _ w.heap.size (.string ⟨#[]⟩) (.slice none 0 0) (.slice none 0 0)) (fun k e=>by omega)
       have hbs:=hbw.set3 (Nat.le_refl _) (.string ⟨#[]⟩) (.slice none 0 0) (.slice none 0 0)
       have e0:=(blk_cell hE 0).trans (show _=some (.string ⟨#[]⟩) from rfl)
       have e1:=(blk_cell hE 1).trans (show _=some (.slice none 0 0) from rfl)
       have e2:=(blk_cell hE 2).trans (show _=some (.slice none 0 0) from rfl)
       have hneR:w.heap.size≠R:=by omega
       have hneR':R≠w.heap.size:=by omega
       replace e0:=Lib.hid e0
       replace e1:=Lib.hid e1
       replace e2:=Lib.hid e2
       replace hr':=Lib.hid hr'
       replace hbs:=Lib.hid hbs
       replace hd:=Lib.hid hd
       clear hE hZ hZ2 hbw hr fq
       go_wp2_with fail
       have e0:=e0.out
       have e1:=e1.out
       have e2:=e2.out
       refine bodyPost_ret (v:=.agg #[.string ⟨#[]⟩,.slice none 0 0,.slice none 0 0]) (by simp [results,Tryz.results48,go_sem,e0,e1,e2]) rfl ?_
       exact ⟨⟨#[]⟩,none,none,0,0,[],[],none,rfl,hr'.out,hbs.out,hbad.out,smSmall_zero,⟨OwnL.nil,OwnL.nil⟩⟩
     | some lx =>
      unfold Option.isNone at q2
      by_cases hk:k=0
      ·subst hk
       obtain rfl:jj=M:=hjk.out
       clear hlf
       have hgv:=stream_givesR g1.out g2.out g3.out g4.out (hmo.out.end (.inl rfl))
       have hsm:=small_gives hl0.out (eats_count _) (eats_count _) g1.out g2.out g3.out g4.out (hmo.out.end (.inl rfl))
       have hck:=refSmEnc_any (strOf s) es ks Ae Ak ce ck wo hd.out.own.ins hsm (hT.out.rd h.out ((But.of_g (S:=fun k=>k=R) hg0.out).trans hd.out.but))
       have q0:=hd.out.c0
       have q1:=hd.out.c1
       have q3:=hd.out.c2
       cases hok:smOk ⟨strOf s,es,ks⟩ with
       | false =>
        have hbad:=hgv.1 (.inr hok)
        rw [smL_no hok] at hck
        have t1:((([]:List UInt8).length:Int) == 0)=true:=rfl
        replace hok:=Lib.hid hok
        replace hbad:=Lib.hid hbad
        clear hgv hmo hsm
        go_wp2_with fail
        refine hck.mono ?_
        clear hck
        rintro e w5 ⟨Ax,cx,rfl,_,hg5,_⟩
        replace hd:=Lib.hid (hd.out.g hg5)
        have hbad:=hbad.out
        clear q0 q1 q2 q3 hg5
        replace hbad:=Lib.hid hbad
        have hZ:=hd.out.but.blk hZ0.out (by omega)
        have r2:=hd.out.rd.c2
        have rf:=hd.out.rd.free 2
        have hr:=hd.out.rd.fail
        have hbw:=((But.of_g (S:=fun k=>k=R) hg0.out).trans hd.out.but).set (p:=⟨R,2,none⟩) (.inr rfl) (.bool true)
        have hZ2:=(but_set w5 R 2 (.bool true)).blk hZ (by omega)
        have q0:=(blk_cell hZ2 0).trans (show _=some (.string ByteArray.empty) from rfl)
        have q1:=(blk_cell hZ2 1).trans (show _=some (.slice none 0 0) from rfl)
        have q3:=(blk_cell hZ2 2).trans (show _=some (.slice none 0 0) from rfl)
        have fq:∀o,(w5.setCell ⟨R,2,none⟩ (.bool true)).frozen? ⟨w.heap.size,o,none⟩=false:=fun o=>by simp [World.frozen?,hZ2]
        have f0:=fq 0
        have f1:=fq 1
        have f2:=fq 2
        have hE:=blk3 hZ2 (.string ⟨#[]⟩) (.slice none 0 0) (.slice none 0 0)
        have hr':=hr.but (but_set3 _ w.heap.size (.string ⟨#[]⟩) (.slice none 0 0) (.slice none 0 0)) (fun k e=>by omega)
        have hbs:=hbw.set3 (Nat.le_refl _) (.string ⟨#[]⟩) (.slice none 0 0) (.slice none 0 0)
        have e0:=(blk_cell hE 0).trans (show _=some (.string ⟨#[]⟩) from rfl)
        have e1:=(blk_cell hE 1).trans (show _=some (.slice none 0 0) from rfl)
        have e2:=(blk_cell hE 2).trans (show _=some (.slice none 0 0) from rfl)
        have hneR:w.heap.size≠R:=by omega
        have hneR':R≠w.heap.size:=by omega
        replace e0:=Lib.hid e0
        replace e1:=Lib.hid e1
        replace e2:=Lib.hid e2
        replace hr':=Lib.hid hr'
        replace hbs:=Lib.hid hbs
        replace hd:=Lib.hid hd
        clear hE hZ hZ2 hbw hr fq
        go_wp2_with fail
        have e0:=e0.out
        have e1:=e1.out
        have e2:=e2.out
        refine bodyPost_ret (v:=.agg #[.string ⟨#[]⟩,.slice none 0 0,.slice none 0 0]) (by simp [results,Tryz.results48,go_sem,e0,e1,e2]) rfl ?_
        exact ⟨⟨#[]⟩,none,none,0,0,[],[],none,rfl,hr'.out,hbs.out,hbad.out,smSmall_zero,⟨OwnL.nil,OwnL.nil⟩⟩
       | true =>
        have hne:smL ⟨strOf s,es,ks⟩≠[]:=by
         rw [smL_ok hok]
         intro h
         have:=smBytes_pos ⟨strOf s,es,ks⟩
         rw [h] at this
         simp at this
        have t1:(((smL ⟨strOf s,es,ks⟩).length:Int) == 0)=false:=by
         rw [beq_eq_false_iff_ne]
         have:=List.length_pos_iff.2 hne
         omega
        generalize smL ⟨strOf s,es,ks⟩=sl at *
        replace hgv:=hgv.2 hok
        replace hne:=Lib.hid hne
        replace hok:=Lib.hid hok
        replace hgv:=Lib.hid hgv
        replace hsm:=Lib.hid hsm
        clear hmo
        go_wp2_with fail
        refine hck.mono ?_
        clear hck
        rintro e w5 ⟨Ax,cx,rfl,_,hg5,_⟩
        replace hd:=hd.out.g hg5
        clear q0 q1 q2 q3
        have hZ:=hd.but.blk hZ0.out (by omega)
        have q0:=hd.c0
        have q1:=hd.c1
        have q3:=hd.c2
        have z0:=(blk_cell hZ 0).trans (show _=some (.string ByteArray.empty) from rfl)
        have z1:=(blk_cell hZ 1).trans (show _=some (.slice none 0 0) from rfl)
        have z2:=(blk_cell hZ 2).trans (show _=some (.slice none 0 0) from rfl)
        have fq:∀o,w5.frozen? ⟨w.heap.size,o,none⟩=false:=fun o=>by simp [World.frozen?,hZ]
        have f0:=fq 0
        have f1:=fq 1
        have f2:=fq 2
        have hE:=blk3 hZ (.string (strOf s)) (.slice Ae es.length ce) (.slice Ak ks.length ck)
        have e0:=(blk_cell hE 0).trans (show _=some (.string (strOf s)) from rfl)
        have e1:=(blk_cell hE 1).trans (show _=some (.slice Ae es.length ce) from rfl)
        have e2:=(blk_cell hE 2).trans (show _=some (.slice Ak ks.length ck) from rfl)
        have hps:=(hd.own.z hZ (.string (strOf s)) (.slice Ae es.length ce) (.slice Ak ks.length ck)).mono hg0.out.size
        have hr':=hd.rd.but (but_set3 _ w.heap.size (.string (strOf s)) (.slice Ae es.length ce) (.slice Ak ks.length ck)) (fun k e=>by omega)
        have hbs:=((But.of_g (S:=fun k=>k=R) hg0.out).trans hd.but).set3 (Nat.le_refl _) (.string (strOf s)) (.slice Ae es.length ce) (.slice Ak ks.length ck)
        replace e0:=Lib.hid e0
        replace e1:=Lib.hid e1
        replace e2:=Lib.hid e2
        replace hps:=Lib.hid hps
        replace hr':=Lib.hid hr'
        replace hbs:=Lib.hid hbs
        clear hE hg5 hZ hd fq
        go_wp2_with fail
        have e0:=e0.out
        have e1:=e1.out
        have e2:=e2.out
        refine bodyPost_ret (v:=.agg #[.string (strOf s),.slice Ae es.length ce,.slice Ak ks.length ck]) (by simp [results,Tryz.results48,go_sem,e0,e1,e2]) rfl ?_
        exact ⟨strOf s,Ae,Ak,ce,ck,es,ks,_,rfl,hr'.out,hbs.out,hgv.out,hsm.out,hps.out⟩
      ·obtain ⟨j,rfl⟩:∃j,k=j+1:=⟨k - 1,by omega⟩
       have hc:=eyeText_any R A c8 l (some lx) wo hd.out.rd hl2 hcap
       obtain ⟨sk,st5,h5⟩:∃v t,gv [] dText (some lx)=(v,t):=⟨_,_,rfl⟩
       rw [h5] at hc
       have g5:=gv_gives h5
       have hj1:(jj:Int) < (M:Int):=by have:=hjk.out;omega
       replace g5:=Lib.hid g5
       clear h5 hk
       go_wp2_with fail
       refine hc.mono ?_
       clear hc
       rintro e wa ⟨rfl,hr5,hb5⟩
       replace hd:=Lib.hid (hd.out.call hr5 hb5)
       have hi:=KnSt.begin (s:=strOf sk) hr5
       have hc:=eyeNum_any R A c8 l st5 _ hi.rd hl2 hcap 1099511627776 1099511627776 rfl (by omega)
       obtain ⟨v,st6,h6⟩:∃v t,gv 0 (dCount 1099511627776) st5=(v,t):=⟨_,_,rfl⟩
       rw [h6] at hc
       have g6:=gv_gives h6
       replace g6:=Lib.hid g6
       replace hi:=Lib.hid hi
       clear h6 hr5 hb5 q2
       go_wp2_with fail
       refine hc.mono ?_
       clear hc
       rintro e w6 ⟨rfl,hr6,hb6⟩
       replace hi:=hi.out.call hr6 hb6
       have x1:=(hi.cell 1).trans (show _=some (.int .i64 0) from rfl)
       have x1f:=hi.free 1
       replace hi:=(hi.put 1 (.int .i64 v)).as (show _=#[.string (strOf sk),.int .i64 v,.int .i64 0,.int .i64 0,.int .i64 0] from rfl)
       have hc:=eyeStamp_any R A c8 l st6 _ hi.rd hl2 hcap
       replace hi:=Lib.hid hi
       clear hr6 hb6
       go_wp2_with fail
       refine hc.mono ?_
       clear hc
       rintro e w7 ⟨⟨ta,tb,tc⟩,st7,he7,hr7,hb7,g7⟩
       simp only [stVal,stV] at he7
       subst he7
       replace hi:=hi.out.call hr7 hb7
       have y2:=(hi.cell 2).trans (show _=some (.int .i64 0) from rfl)
       have y3:=(hi.cell 3).trans (show _=some (.int .i64 0) from rfl)
       have y4:=(hi.cell 4).trans (show _=some (.int .i64 0) from rfl)
       have y2f:=hi.free 2
       have y3f:=hi.free 3
       have y4f:=hi.free 4
       replace hi:=(((hi.put 2 (.int .i64 ta)).put 3 (.int .i64 tb)).put 4 (.int .i64 tc)).as (show _=#[.string (strOf sk),.int .i64 v,.int .i64 ta,.int .i64 tb,.int .i64 tc] from rfl)
       have z0:=(hi.cell 0).trans (show _=some (.string (strOf sk)) from rfl)
       have z1:=(hi.cell 1).trans (show _=some (.int .i64 v) from rfl)
       have z2:=(hi.cell 2).trans (show _=some (.int .i64 ta) from rfl)
       have z3:=(hi.cell 3).trans (show _=some (.int .i64 tb) from rfl)
       have z4:=(hi.cell 4).trans (show _=some (.int .i64 tc) from rfl)
       have hgk:=known_gives g5.out g6.out g7
       have hlf2:=Left.step hlf.out hl eats_known hgk
       have hmo2:=hmo.out.step hgk
       have hb:=hi.but
       have hws:=hd.out.but.size
       replace hd:=hd.out.call hi.rd hb
       have c2:=hd.c2
       obtain ⟨y,hy⟩:∃y:Kn,y=⟨strOf sk,v,⟨ta,tb,tc⟩⟩:=⟨_,rfl⟩
       obtain ⟨ks',hks⟩:∃ks',ks++[y]=ks':=⟨_,rfl⟩
       rw [←hy,hks] at hmo2
       have hkl:ks'.length=ks.length+1:=by rw [←hks];simp
       have hkb:=hlf.out.1
       rw [←hkl] at hlf2
       replace hd:=Lib.hid hd
       replace hmo2:=Lib.hid hmo2
       replace hlf2:=Lib.hid hlf2
       replace hkl:=Lib.hid hkl
       replace hks:=Lib.hid hks
       replace hy:=Lib.hid hy
       clear hgk hmo hlf hb hr7 hb7 hi g7
       go_upto_region 14 with fail
       generalize ((w7.setCell ⟨wa.heap.size,2,none⟩ (.int .i64 ta)).setCell ⟨wa.heap.size,3,none⟩ (.int .i64 tb)).setCell ⟨wa.heap.size,4,none⟩ (.int .i64 tc)=wz at *
       clear y2 y3 y4 y2f y3f y4f x1 x1f
       go_wp2_with (at_builtin;refine wpList_append_but kns_elem _ rfl (.tmp 57) (.tmp 59) rfl W0.heap.size _ ks rfl (hd.out.own.kns.g (G.new _ _)) (wz.heap.size+1) (some ⟨wz.heap.size,0,none⟩) 1 [y] rfl (by intro h;cases h) (Sl.of_blk Kn.cells_len _ (blk_new _ _ _) (by rw [hy.out];rfl) (by omega)) (by simp;omega) (by simp;omega) (by have:=hd.out.but.size;simp;omega) ?_;intro v8 w8 hown8 hk8 hb8;rw [hks.out] at hown8;obtain ⟨A8,c8',e8,_,_,_⟩:=OwnL.sl Kn.cells_len hown8;subst e8;obtain ⟨zf,⟨u,zc⟩,hd8⟩:=(hd.out.g (G.new _ _)).pushK hown8 hk8 hb8;replace hd8:=Lib.hid hd8)
       go_roundw
       case rel=>exact ⟨jj+1,j,A8,c8',ks',st7,by go_num,Lib.hid (by have:=hjk.out;omega),hlf2,hd8,hmo2⟩
       case measure=>(simp [intOf] <;> omega)
   ·obtain ⟨j,rfl⟩:∃j,k=j+1:=⟨k - 1,by omega⟩
    have hid:=hd.out.g (G.refl wo).drew
    have x1:=hid.c1
    have x1w:=hd.out.c1
    have hc:=eyeEvent_any R A c8 l (some lx) _ hid.rd hl2 hcap (hT.out.rd h.out ((But.of_g (S:=fun k=>k=R) hg0.out).trans hid.but))
    have hj1:(jj:Int) < (N:Int):=by have:=hjk.out;omega
    have hkb:=hlf.out.1
    replace hid:=Lib.hid hid
    clear hk hd
    go_upto_region 6 with fail
    go_region_law (first
     | (refine step_append_but evs_elem _ (by kernel_rfl) (.tmp 27) (.tmp 30) rfl W0.heap.size _ es rfl (hi5.out.own.evs.g (G.new _ _)) (w5.heap.size+1) (some ⟨w5.heap.size,0,none⟩) 1 [x] rfl (by intro h;cases h) (Sl.of_blk Ev.cells_len _ (blk_new _ _ _) (by rw [hx.out];rfl) (by omega)) (by simp;omega) (by simp;omega) (by have:=hi5.out.but.size;simp;omega) ?_;intro v6 w6 hown6 hk6 hb6;rw [hes.out] at hown6;obtain ⟨A6,c6,e6,_,_,_⟩:=OwnL.sl Ev.cells_len hown6;subst e6;obtain ⟨zf,⟨u,zc⟩,hd6⟩:=(hi5.out.g (G.new _ _)).pushE hown6 hk6 hb6;replace hd6:=Lib.hid hd6)
     | (go_simp;go_at_call 24;refine Calls.mono hc ?_;rintro e w5 ⟨⟨xs,xv,xd,⟨xa,xb,xc⟩,xi⟩,st6,he5,hr5,hb5,g5⟩;simp only [evVal,Ev.cells] at he5;subst he5;have hi5:=hid.out.call hr5 hb5;have x5:=hi5.c1;have x5b:=(hi5.g (G.new w5 (.cells #[.string xs,.int .i64 xv,.string xd,.int .i64 xa,.int .i64 xb,.int .i64 xc,.int .i64 xi] 76))).c1;obtain ⟨x,hx⟩:∃x:Ev,x=⟨xs,xv,xd,⟨xa,xb,xc⟩,xi⟩:=⟨_,rfl⟩;rw [←hx] at g5;obtain ⟨es',hes⟩:∃es',es++[x]=es':=⟨_,rfl⟩;have hmo2:=hmo.out.step g5;rw [hes] at hmo2;have hlf2:=Left.step hlf.out hl eats_event g5;have hel:es'.length=es.length+1:=(by rw [←hes];simp);rw [←hel] at hlf2;replace hi5:=Lib.hid hi5;replace hx:=Lib.hid hx;replace hes:=Lib.hid hes;replace hmo2:=Lib.hid hmo2;replace hlf2:=Lib.hid hlf2;clear g5 hel hr5 hb5))
    all_goals
     go_wp2_with fail
     go_roundw
     case rel=>exact ⟨jj+1,j,A6,c6,es',st6,by go_num,Lib.hid (by have:=hjk.out;omega),hlf2,hd6,hmo2⟩
     case measure=>(simp [intOf] <;> omega)
end Go.Proofs.YtheogchkelmeeaaGreatDoor

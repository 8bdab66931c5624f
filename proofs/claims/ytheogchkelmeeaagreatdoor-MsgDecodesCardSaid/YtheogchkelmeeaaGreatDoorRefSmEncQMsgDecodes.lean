/- penstockref7.EncodeStream: what it answers. Conditions: a stream that is not too great (SmSmall). -/
import Derived.Test.YtheogchkelmeeaaGreatDoorEvEncQMsgDecodes
import Derived.Test.YtheogchkelmeeaaGreatDoorM20MsgDecodes
namespace Go.Proofs.YtheogchkelmeeaaGreatDoor
open Go.RowKit
set_option maxRecDepth 100000 in
set_option maxHeartbeats 8000000 in
theorem refSmEnc_any (n : ByteArray) (es : List Ev) (ks : List Kn) (A A2 : Option Addr) (c c2 : Nat) (w : World) (hin : SmIn w w.heap.size A A2 es ks) (hz : SmSmall n es ks) (hT : Tabs w) :
  Calls Tryz.prog 81 #[.agg #[.string n,.slice A es.length c,.slice A2 ks.length c2]] w (RetBytesN w (smL ⟨n,es,ks⟩)):=by
 obtain ⟨hz0,⟨hz1,hz2⟩,hz3,hz4⟩:=hz
 have hn:∀w',G w w'→Calls Tryz.prog 79 #[.string n] w' fun e w''=>e=.returned (.bool (nameB n))∧G w' w'':=fun w' hg=>refName_any n w' (by omega)
 have hev:∀w',G w w'→∀(s d:ByteArray) (v x y z i:Int),s.size≤524288→d.size≤524288→Calls Tryz.prog 49 #[.agg (Ev.cells ⟨s,v,d,⟨x,y,z⟩,i⟩).toArray] w' (RetBytesN w' (evL ⟨s,v,d,⟨x,y,z⟩,i⟩)):=fun w' hg s d v x y z i h1 h2=>refEvEnc_any s d v x y z i w' (by omega) (by omega) (hT.g hg)
 replace hin:=Lib.hid hin
 replace hz2:=Lib.hid hz2
 replace hz4:=Lib.hid hz4
 replace hev:=Lib.hid hev
 clear hT
 cases hnb:nameB n with
 | false =>
  have hno:=Lib.hid (smL_bad (n:=n) (es:=es) (ks:=ks) (.inl hnb))
  rw [hnb] at hn
  replace hnb:=Lib.hid hnb
  go_enter Tryz.func81,Tryz.ntmps81
  go_wp2_with fail
  refine (hn _ (G.new _ _)).mono ?_
  rintro e w1 ⟨rfl,hg1⟩
  go_wp2_with fail
  go_ret
  exact ⟨none,0,by rw [hno.out];rfl,by rw [hno.out];exact OwnL.nil,(G.new _ _).trans hg1,fun _=>rfl⟩
 | true =>
  rw [hnb] at hn
  replace hnb:=Lib.hid hnb
  obtain ⟨m1,hm1⟩:∃m,textL n.data.toList=m:=⟨_,rfl⟩
  obtain ⟨m2,hm2⟩:∃m,m1++vL es.length=m:=⟨_,rfl⟩
  have b1:m1.length≤n.size+10:=by rw [←hm1];exact textL_len n
  have b2:m2.length≤n.size+20:=by rw [←hm2,List.length_append];have:=vL_len es.length;omega
  have hhd:smHead n es.length=m2:=by unfold smHead;rw [hm1,hm2]
  replace hm1:=Lib.hid hm1
  replace hm2:=Lib.hid hm2
  replace hhd:=Lib.hid hhd
  go_enter Tryz.func81,Tryz.ntmps81
  go_upto_region 1 with fail
  generalize hW0:w.alloc (.cells #[.string n,.slice A es.length c,.slice A2 ks.length c2] 118)=W0
  have hz:w.heap.size+0 < W0.heap.size:=by rw [←hW0];simp
  have hG0:G w W0:=by rw [←hW0];exact G.new _ _
  have r0:W0.cell? ⟨w.heap.size,0,none⟩=some (.string n):=by rw [←hW0];simp
  have r1:W0.cell? ⟨w.heap.size,1,none⟩=some (.slice A es.length c):=by rw [←hW0];simp
  have r2:W0.cell? ⟨w.heap.size,2,none⟩=some (.slice A2 ks.length c2):=by rw [←hW0];simp
  clear hW0
  have q0:∀w',G W0 w'→w'.cell? ⟨w.heap.size,0,none⟩=some (.string n):=fun w' h=>(h.cell (by omega)).trans r0
  have q1:∀w',G W0 w'→w'.cell? ⟨w.heap.size,1,none⟩=some (.slice A es.length c):=fun w' h=>(h.cell (by omega)).trans r1
  have q2:∀w',G W0 w'→w'.cell? ⟨w.heap.size,2,none⟩=some (.slice A2 ks.length c2):=fun w' h=>(h.cell (by omega)).trans r2
  clear r0 r1 r2
  have hgr:G W0 W0:=G.refl _
  go_upto_region 3 with (go_at_call 79;refine (hn _ hG0).mono ?_;rintro e w1 ⟨rfl,hg1⟩)
  clear hn hgr
  go_cut [3] (fun v3 wx=>OwnAt W0.heap.size m2 v3 wx∧G W0 wx)
  case first =>
   go_region_held3 (fun w'=>G W0 w') (first | exact hg1.drew | exact hgm.keep (by assumption) | exact KeepT.g hk2 (by assumption) | fail) (first
    | (go_at_call 83;(with_reducible refine Calls.mono (refText_nil hm1 (by omega)) ?_);rintro e u1 ⟨A1,d1,rfl,hown1,hgm⟩;replace hown1:=OwnL.mono hown1 (show W0.heap.size≤_ from G.size (by assumption)))
    | (go_at_call 84;(with_reducible refine Calls.mono (num7_own (base:=W0.heap.size) hown1 (G.size (by assumption)) (by omega) (by omega) hm2) ?_);rintro e u2 ⟨A2',d2,rfl,hown2,hk2⟩))
   all_goals
    have hGe:G W0 u2:=by assumption
    go_wp2_with fail
    go_meet
    exact ⟨⟨_,_,rfl,hown2⟩,hGe⟩
  case rest =>
   obtain ⟨⟨A3,d3,rfl,hown3⟩,hgc⟩:=hcut
   replace hown3:=Lib.hid hown3
   clear hg1
   go_wp2_with fail
   go_loopw [3,4] (fun v i wr=>∃(k:Nat) (m:List UInt8) (A8:Option Addr) (c8:Nat),v=.slice A8 m.length c8∧i=.int .i64 k∧k≤es.length∧m.length≤530000+k * 1048700∧Hid (m=m2++(es.take k).flatMap evL)∧Hid (∀e ∈ es.take k,smEv n e=true)∧Hid (OwnL 5 1 byteC wr W0.heap.size (.slice A8 m.length c8) m)∧G W0 wr) (fun _ i _=>es.length - (intOf i).toNat)
   case atStart=>exact ⟨0,m2,A3,d3,rfl,rfl,Nat.zero_le _,by omega,by simp [Hid],by simp [Hid],hown3,hgc⟩
   case round =>
    obtain ⟨wo,rfl⟩:∃wo:World,wo=wr:=⟨_,rfl⟩
    clear hown3 hgc
    obtain ⟨k,m,A8,c8,rfl,rfl,hkl,hml,hm,hall,hown,hgr⟩:=hrel
    have hg:=hG0.trans hgr
    have g1:=q1 _ hgr
    by_cases hlt:k < es.length
    ·obtain ⟨x,hx⟩:∃x,es[k]?=some x:=⟨_,List.getElem?_eq_getElem hlt⟩
     have hxm:=List.mem_of_getElem? hx
     obtain ⟨z1,z2⟩:=hz2.out x hxm
     have hsl:=(hin.out.1.g (Nat.le_refl _) hg).get hx
     have hfl:=flat_take_succ evL hx
     have hel:=evL_len x
     have hbad:smEv n x=false→smL ⟨n,es,ks⟩=[]:=fun h=>smL_bad (.inr (.inl ⟨x,hxm,h⟩))
     have hext:smEv n x=true→(∀e ∈ es.take k,smEv n e=true)→∀e ∈ es.take (k+1),smEv n e=true:=fun h1 h2 e he=>by
      rw [List.take_add_one,hx,List.mem_append] at he
      rcases he with he | he
      ·exact h2 e he
      ·simp at he;rw [he];exact h1
     replace hbad:=Lib.hid hbad
     replace hext:=Lib.hid hext
     obtain ⟨xs,xv,xd,⟨xa,xb,xc⟩,xi⟩:=x
     obtain ⟨b,o,rfl,hb,hc⟩:=hsl
     simp only at z1 z2 hel
     have c0:=hc 0 _ rfl
     have c1:=hc 1 _ rfl
     have c2:=hc 2 _ rfl
     have c3:=hc 3 _ rfl
     have c4:=hc 4 _ rfl
     have c5:=hc 5 _ rfl
     have c6:=hc 6 _ rfl
     simp only [Nat.add_zero] at c0
     have n1:(0:Int)≤(k:Int):=by omega
     have n2:(k:Int) < (es.length:Int):=by omega
     have hen:=hev.out (wo.alloc (.cells #[.string xs,.int .i64 xv,.string xd,.int .i64 xa,.int .i64 xb,.int .i64 xc,.int .i64 xi] 76)) (hg.trans (G.new _ _)) xs xd xv xa xb xc xi z1 z2
     unfold Ev.cells at hen
     replace hen:=Lib.hid hen
     replace hel:=Lib.hid hel
     replace hfl:=Lib.hid hfl
     clear hx hen hc
     have hen:=hev.out wo hg xs xd xv xa xb xc xi z1 z2
     unfold Ev.cells at hen
     have hbo:b < wo.heap.size:=by have:=hg.size;omega
     clear hg
     cases hok:evOk ⟨xs,xv,xd,⟨xa,xb,xc⟩,xi⟩ with
     | false =>
      have hno:=Lib.hid (hbad.out (by unfold smEv;rw [hok];rfl))
      rw [evL_none hok] at hen
      replace hok:=Lib.hid hok
      clear hext hfl hel
      go_upto_region 8 with (go_at_call 49;refine hen.mono ?_;rintro e u ⟨Ae,ce,rfl,_,hgu,hnil⟩)
      have t0:((([]:List UInt8).length:Int) == 0)=true:=rfl
      clear hnil hen c0 c1 c2 c3 c4 c5 c6 g1
      go_quiet (fail)
      have hgd:=hG0.trans (hgr.trans hgu)
      go_wp2_with fail
      go_ret
      exact ⟨none,0,by rw [hno.out];rfl,by rw [hno.out];exact OwnL.nil,by first | exact hgd | exact hgd.drew | exact hgd.drewN _,fun _=>rfl⟩
     | true =>
      have hne:evL ⟨xs,xv,xd,⟨xa,xb,xc⟩,xi⟩≠[]:=by rw [Ne,evL_nil,hok];simp
      by_cases hxn:xs=n
      case neg =>
       have hno:=Lib.hid (hbad.out (by unfold smEv;simp only;rw [decide_eq_false hxn,Bool.and_false]))
       generalize evL ⟨xs,xv,xd,⟨xa,xb,xc⟩,xi⟩=el at *
       have t0:((el.length:Int) == 0)=false:=by
        rw [beq_eq_false_iff_ne]
        have:=List.length_pos_iff.2 hne
        omega
       replace hne:=Lib.hid hne
       replace hok:=Lib.hid hok
       have t1:(xs.toList == n.toList)=false:=by rw [bytes_beq];exact decide_eq_false hxn
       have t2:(xs.toList != n.toList)=true:=by rw [bne,t1];rfl
       clear hext hfl hel
       go_upto_region 8 with (go_at_call 49;refine hen.mono ?_;rintro e u ⟨Ae,ce,rfl,_,hgu,_⟩)
       have d0:=(hgu.cell (o:=o+k * 7) hbo).trans c0
       have g0:=q0 _ (hgr.trans hgu)
       have g1:=q1 _ (hgr.trans hgu)
       clear hen c0 c1 c2 c3 c4 c5 c6
       go_quiet (fail)
       have hgd:=hG0.trans (hgr.trans hgu)
       go_wp2_with fail
       go_ret
       exact ⟨none,0,by rw [hno.out];rfl,by rw [hno.out];exact OwnL.nil,by first | exact hgd | exact hgd.drew | exact hgd.drewN _,fun _=>rfl⟩
      subst hxn
      have hsm:=hext.out (by unfold smEv;rw [hok,decide_eq_true rfl];rfl) hall.out
      generalize evL ⟨xs,xv,xd,⟨xa,xb,xc⟩,xi⟩=el at *
      obtain ⟨mE,hmE⟩:∃m',m++el=m':=⟨_,rfl⟩
      have hmEe:mE=m2++(es.take (k+1)).flatMap evL:=by rw [hfl.out,←List.append_assoc,←hm.out,hmE]
      have hmEl:mE.length=m.length+el.length:=by rw [←hmE,List.length_append]
      have t0:((el.length:Int) == 0)=false:=by
       rw [beq_eq_false_iff_ne]
       have:=List.length_pos_iff.2 hne
       omega
      have t1:(xs.toList == xs.toList)=true:=by simp
      have t2:(xs.toList != xs.toList)=false:=by simp
      have hel:=hel.out
      replace hne:=Lib.hid hne
      replace hok:=Lib.hid hok
      replace hsm:=Lib.hid hsm
      replace hmE:=Lib.hid hmE
      replace hmEe:=Lib.hid hmEe
      replace hmEl:=Lib.hid hmEl
      clear hext hfl hm hall
      go_upto_region 8 with (go_at_call 49;refine hen.mono ?_;rintro e u ⟨Ae,ce,rfl,hownE,hgu,_⟩)
      have hslE:=OwnL.self byteC_len hownE
      have d0:=(hgu.cell (o:=o+k * 7) hbo).trans c0
      have g0:=q0 _ (hgr.trans hgu)
      have g1:=q1 _ (hgr.trans hgu)
      clear hen c0 c1 c2 c3 c4 c5 c6 hownE
      go_quiet (fail)
      generalize hwd:u.drewN _=wd
      have hgd:G u wd:=by rw [←hwd];exact (G.refl _).drewN _
      clear hwd
      have hgu2:=hgr.trans (hgu.trans hgd)
      replace hslE:=(hslE.g (Nat.le_refl _) hgd).more hgd.size
      replace hown:=Lib.hid (hown.out.g (hgu.trans hgd))
      have hzu:=hgu2.size
      have hAE:Ae=none→el=[]:=fun h=>(h ▸ hslE).of_none
      go_wp2_with (at_builtin;refine wpList_append_but byte_elem _ rfl (.tmp 46) (.tmp 47) rfl W0.heap.size _ m rfl hown.out wd.heap.size Ae ce el rfl hAE hslE (by omega) (by omega) hzu ?_;intro v6 u6 hown6 hk6 hbut;rw [hmE.out] at hown6;obtain ⟨A6,c6',e6,_,_,_⟩:=OwnL.sl byteC_len hown6;subst e6;clear hbut;replace hown6:=Lib.hid hown6;have hg6:=KeepT.g hk6 hgu2)
      go_roundw
      case rel=>exact ⟨k+1,mE,A6,c6',rfl,by go_num,by omega,by have:=hmEl.out;omega,hmEe,hsm,hown6,hg6⟩
      case measure=>(simp [intOf] <;> omega)
    ·have hm3:m=m2++es.flatMap evL:=by rw [hm.out,List.take_of_length_le (by omega)]
     have hall2:∀e ∈ es,smEv n e=true:=by
      have h:=hall.out
      rwa [List.take_of_length_le (by omega)] at h
     obtain ⟨mK,hmK⟩:∃m',m++vL ks.length=m':=⟨_,rfl⟩
     have lK:mK.length≤m.length+10:=by rw [←hmK,List.length_append];have:=vL_len ks.length;omega
     have hkl2:k * 1048700≤524289 * 1048700:=by omega
     have g2:=q2 _ hgr
     have hzr:=hgr.size
     replace hm3:=Lib.hid hm3
     replace hall2:=Lib.hid hall2
     replace hmK:=Lib.hid hmK
     clear hm hall
     go_wp2_with fail
     refine (num7_own (base:=W0.heap.size) hown.out hzr (by omega) (by omega) hmK).mono ?_
     rintro e u5 ⟨A5,d5,rfl,hown5,hk5⟩
     have hg5:G W0 u5:=KeepT.g hk5 hgr
     replace hown5:=Lib.hid hown5
     clear hown hk5 hzr g2
     go_wp2_with fail
     go_loopw [3,6] (fun v i wr=>∃(j:Nat) (m':List UInt8) (A9:Option Addr) (c9:Nat),v=.slice A9 m'.length c9∧i=.int .i64 j∧j≤ks.length∧m'.length≤mK.length+j * 524400∧Hid (m'=mK++(ks.take j).flatMap knBytes)∧Hid (∀y ∈ ks.take j,knOk y=true)∧Hid (OwnL 5 1 byteC wr W0.heap.size (.slice A9 m'.length c9) m')∧G W0 wr) (fun _ i _=>ks.length - (intOf i).toNat)
     case atStart=>exact ⟨0,mK,A5,d5,rfl,rfl,Nat.zero_le _,by omega,by simp [Hid],by simp [Hid],hown5,hg5⟩
     case round =>
      obtain ⟨wo,rfl⟩:∃wo:World,wo=wr:=⟨_,rfl⟩
      clear hown5 hg5 hg hgr g1
      obtain ⟨j,m',A9,c9,rfl,rfl,hjl,hml',hm',hall',hown,hgr⟩:=hrel
      have hg:=hG0.trans hgr
      have g2:=q2 _ hgr
      by_cases hjt:j < ks.length
      ·obtain ⟨y,hy⟩:∃y,ks[j]?=some y:=⟨_,List.getElem?_eq_getElem hjt⟩
       have hym:=List.mem_of_getElem? hy
       have z1:=hz4.out y hym
       have hsl:=(hin.out.2.g (Nat.le_refl _) hg).get hy
       have hfl:=flat_take_succ knBytes hy
       have hbad:knOk y=false→smL ⟨n,es,ks⟩=[]:=fun h=>smL_bad (.inr (.inr ⟨y,hym,h⟩))
       have hext:knOk y=true→(∀e ∈ ks.take j,knOk e=true)→∀e ∈ ks.take (j+1),knOk e=true:=fun h1 h2 e he=>by
        rw [List.take_add_one,hy,List.mem_append] at he
        rcases he with he | he
        ·exact h2 e he
        ·simp at he;rw [he];exact h1
       replace hbad:=Lib.hid hbad
       replace hext:=Lib.hid hext
       obtain ⟨yk,yv,⟨ya,yb,yc⟩⟩:=y
       obtain ⟨b,o,rfl,hb,hc⟩:=hsl
       simp only at z1
       have c0:=hc 0 _ rfl
       have c1:=hc 1 _ rfl
       have c2:=hc 2 _ rfl
       have c3:=hc 3 _ rfl
       have c4:=hc 4 _ rfl
       simp only [Nat.add_zero] at c0
       have n1:(0:Int)≤(j:Int):=by omega
       have n2:(j:Int) < (ks.length:Int):=by omega
       replace hfl:=Lib.hid hfl
       clear hy hc
       go_upto_region 16 with fail
       have hbx:=blk_new wo #[.string yk,.int .i64 yv,.int .i64 ya,.int .i64 yb,.int .i64 yc] 131
       have hgn:=G.new wo (.cells #[.string yk,.int .i64 yv,.int .i64 ya,.int .i64 yb,.int .i64 yc] 131)
       generalize wo.alloc (.cells #[.string yk,.int .i64 yv,.int .i64 ya,.int .i64 yb,.int .i64 yc] 131)=wx at *
       generalize hX:wo.heap.size=X at *
       replace hX:=Lib.hid hX
       have x0:=(blk_cell hbx 0).trans (show _=some (.string yk) from rfl)
       have x1:=(blk_cell hbx 1).trans (show _=some (.int .i64 yv) from rfl)
       have x2:=(blk_cell hbx 2).trans (show _=some (.int .i64 ya) from rfl)
       have x3:=(blk_cell hbx 3).trans (show _=some (.int .i64 yb) from rfl)
       have x4:=(blk_cell hbx 4).trans (show _=some (.int .i64 yc) from rfl)
       have hgx:G W0 wx:=hgr.trans hgn
       replace hown:=Lib.hid (hown.out.g hgn)
       have hkc:∀w',Calls Tryz.prog 78 #[.string yk] w' fun e w''=>e=.returned (.bool (keyB yk))∧G w' w'':=fun w'=>refKey_any yk w' (by omega)
       have hso:∀w',Calls Tryz.prog 82 #[.agg #[.int .i64 ya,.int .i64 yb,.int .i64 yc]] w' fun e w''=>e=.returned (.bool (stOk ⟨ya,yb,yc⟩))∧G w' w'':=fun w'=>refSound_any ya yb yc w'
       have hfalse:¬ (yk.toList.isEmpty=false∧keyB yk=true∧(1≤yv∧yv≤1099511627776)∧stOk ⟨ya,yb,yc⟩=true)→smL ⟨n,es,ks⟩=[]:=fun h=>hbad.out (by
        cases hk:knOk ⟨yk,yv,⟨ya,yb,yc⟩⟩ with
        | false=>rfl
        | true=>exact absurd ((knOk_iff _).1 hk) h)
       replace hfalse:=Lib.hid hfalse
       clear hgn c0 c1 c2 c3 c4 hg hgr g2 hbad
       cases h1:yk.toList.isEmpty with
       | true =>
        have hno:=Lib.hid (hfalse.out (by rw [h1];simp))
        clear hext hfl hkc hso
        go_wp2_with fail
        go_ret
        exact ⟨none,0,by rw [hno.out];rfl,by rw [hno.out];exact OwnL.nil,hG0.trans hgx,fun _=>rfl⟩
       | false =>
        cases h2:keyB yk with
        | false =>
         have hno:=Lib.hid (hfalse.out (by rw [h2];simp))
         rw [h2] at hkc
         replace h2:=Lib.hid h2
         clear hext hfl hso
         go_wp2_with fail
         refine (hkc _).mono ?_
         rintro e u ⟨rfl,hgu⟩
         clear hkc x0 x1 x2 x3 x4
         go_wp2_with fail
         go_ret
         exact ⟨none,0,by rw [hno.out];rfl,by rw [hno.out];exact OwnL.nil,hG0.trans (hgx.trans hgu),fun _=>rfl⟩
        | true =>
         rw [h2] at hkc
         by_cases h3:1≤yv
         case neg =>
          have hno:=Lib.hid (hfalse.out (by omega))
          have t3:decide (yv < 1)=true:=decide_eq_true (by omega)
          have t3':yv < 1:=by omega
          replace h2:=Lib.hid h2
          clear hext hfl hso h3
          go_wp2_with fail
          refine (hkc _).mono ?_
          rintro e u ⟨rfl,hgu⟩
          have x0:=(blk_cell (hgu.blk hbx) 0).trans (show _=some (.string yk) from rfl)
          have x1:=(blk_cell (hgu.blk hbx) 1).trans (show _=some (.int .i64 yv) from rfl)
          have x2:=(blk_cell (hgu.blk hbx) 2).trans (show _=some (.int .i64 ya) from rfl)
          have x3:=(blk_cell (hgu.blk hbx) 3).trans (show _=some (.int .i64 yb) from rfl)
          have x4:=(blk_cell (hgu.blk hbx) 4).trans (show _=some (.int .i64 yc) from rfl)
          go_wp2_with fail
          go_ret
          exact ⟨none,0,by rw [hno.out];rfl,by rw [hno.out];exact OwnL.nil,hG0.trans (hgx.trans hgu),fun _=>rfl⟩
         have t3:decide (yv < 1)=false:=decide_eq_false (by omega)
         by_cases h4:yv≤1099511627776
         case neg =>
          have hno:=Lib.hid (hfalse.out (by omega))
          have t4:decide (1099511627776 < yv)=true:=decide_eq_true (by omega)
          have t4':1099511627776 < yv:=by omega
          replace h2:=Lib.hid h2
          clear hext hfl hso h4
          go_wp2_with fail
          refine (hkc _).mono ?_
          rintro e u ⟨rfl,hgu⟩
          have x0:=(blk_cell (hgu.blk hbx) 0).trans (show _=some (.string yk) from rfl)
          have x1:=(blk_cell (hgu.blk hbx) 1).trans (show _=some (.int .i64 yv) from rfl)
          have x2:=(blk_cell (hgu.blk hbx) 2).trans (show _=some (.int .i64 ya) from rfl)
          have x3:=(blk_cell (hgu.blk hbx) 3).trans (show _=some (.int .i64 yb) from rfl)
          have x4:=(blk_cell (hgu.blk hbx) 4).trans (show _=some (.int .i64 yc) from rfl)
          go_wp2_with fail
          go_ret
          exact ⟨none,0,by rw [hno.out];rfl,by rw [hno.out];exact OwnL.nil,hG0.trans (hgx.trans hgu),fun _=>rfl⟩
         have t4:decide (1099511627776 < yv)=false:=decide_eq_false (by omega)
         cases h5:stOk ⟨ya,yb,yc⟩ with
         | false =>
          have hno:=Lib.hid (hfalse.out (by rw [h5];simp))
          rw [h5] at hso
          replace h2:=Lib.hid h2
          replace h5:=Lib.hid h5
          clear hext hfl
          go_wp2_with fail
          refine (hkc _).mono ?_
          rintro e u ⟨rfl,hgu⟩
          have x0:=(blk_cell (hgu.blk hbx) 0).trans (show _=some (.string yk) from rfl)
          have x1:=(blk_cell (hgu.blk hbx) 1).trans (show _=some (.int .i64 yv) from rfl)
          have x2:=(blk_cell (hgu.blk hbx) 2).trans (show _=some (.int .i64 ya) from rfl)
          have x3:=(blk_cell (hgu.blk hbx) 3).trans (show _=some (.int .i64 yb) from rfl)
          have x4:=(blk_cell (hgu.blk hbx) 4).trans (show _=some (.int .i64 yc) from rfl)
          go_wp2_with fail
          refine (hso _).mono ?_
          rintro e u' ⟨rfl,hgu'⟩
          go_wp2_with fail
          go_ret
          exact ⟨none,0,by rw [hno.out];rfl,by rw [hno.out];exact OwnL.nil,hG0.trans (hgx.trans (hgu.trans hgu')),fun _=>rfl⟩
         | true =>
          rw [h5] at hso
          have hsm:=hext.out ((knOk_iff _).2 ⟨h1,h2,⟨h3,h4⟩,h5⟩) hall'.out
          obtain ⟨vn,rfl⟩:∃q:Nat,yv=q:=⟨yv.toNat,by omega⟩
          obtain ⟨mT,hmT⟩:∃q,m'++textL yk.data.toList=q:=⟨_,rfl⟩
          obtain ⟨mV,hmV⟩:∃q,mT++vL vn=q:=⟨_,rfl⟩
          obtain ⟨mS,hmS⟩:∃q,mV++stE ⟨ya,yb,yc⟩=q:=⟨_,rfl⟩
          have hmSe:mS=mK++(ks.take (j+1)).flatMap knBytes:=by
           rw [hfl.out,←List.append_assoc,←hm'.out,←hmS,←hmV,←hmT,stE_ok h5]
           unfold knBytes
           simp only [List.append_assoc]
           rfl
          have lT:mT.length≤m'.length+yk.size+10:=by rw [←hmT,List.length_append];have:=textL_len yk;omega
          have lV:mV.length≤mT.length+10:=by rw [←hmV,List.length_append];have:=vL_len vn;omega
          have lS:mS.length≤mV.length+30:=by rw [←hmS,List.length_append];have:=stE_len ⟨ya,yb,yc⟩;omega
          have hen:∀w',Calls Tryz.prog 51 #[.agg #[.int .i64 ya,.int .i64 yb,.int .i64 yc]] w' (RetBytes w' (stE ⟨ya,yb,yc⟩)):=fun w'=>refStEnc_any ⟨ya,yb,yc⟩ w'
          have hel:=stE_len ⟨ya,yb,yc⟩
          generalize stE ⟨ya,yb,yc⟩=ste at *
          replace h2:=Lib.hid h2
          replace h5:=Lib.hid h5
          replace hsm:=Lib.hid hsm
          replace hmT:=Lib.hid hmT
          replace hmV:=Lib.hid hmV
          replace hmS:=Lib.hid hmS
          replace hmSe:=Lib.hid hmSe
          replace hen:=Lib.hid hen
          clear hext hfl hm' hall' hfalse
          go_wp2_with fail
          refine (hkc _).mono ?_
          rintro e u ⟨rfl,hgu⟩
          have x0:=(blk_cell (hgu.blk hbx) 0).trans (show _=some (.string yk) from rfl)
          have x1:=(blk_cell (hgu.blk hbx) 1).trans (show _=some (.int .i64 vn) from rfl)
          have x2:=(blk_cell (hgu.blk hbx) 2).trans (show _=some (.int .i64 ya) from rfl)
          have x3:=(blk_cell (hgu.blk hbx) 3).trans (show _=some (.int .i64 yb) from rfl)
          have x4:=(blk_cell (hgu.blk hbx) 4).trans (show _=some (.int .i64 yc) from rfl)
          go_upto_region 18 with (go_at_call 82;refine (hso _).mono ?_;rintro e u' ⟨rfl,hgu'⟩)
          replace hgu:=hgu.trans hgu'
          clear hkc hso x0 x1 x2 x3 x4
          have x0:∀w',G u' w'→w'.cell? ⟨X,0,none⟩=some (.string yk):=fun w' h=>(blk_cell ((hgu.trans h).blk hbx) 0).trans rfl
          have x1:∀w',G u' w'→w'.cell? ⟨X,1,none⟩=some (.int .i64 vn):=fun w' h=>(blk_cell ((hgu.trans h).blk hbx) 1).trans rfl
          have x2:∀w',G u' w'→w'.cell? ⟨X,2,none⟩=some (.int .i64 ya):=fun w' h=>(blk_cell ((hgu.trans h).blk hbx) 2).trans rfl
          have x3:∀w',G u' w'→w'.cell? ⟨X,3,none⟩=some (.int .i64 yb):=fun w' h=>(blk_cell ((hgu.trans h).blk hbx) 3).trans rfl
          have x4:∀w',G u' w'→w'.cell? ⟨X,4,none⟩=some (.int .i64 yc):=fun w' h=>(blk_cell ((hgu.trans h).blk hbx) 4).trans rfl
          have hownx:∀w',G u' w'→OwnL 5 1 byteC w' W0.heap.size (.slice A9 m'.length c9) m':=fun w' h=>hown.out.g (hgu.trans h)
          have hgz:=hgx.trans hgu
          have hzu:=hgz.size
          replace hbx:=Lib.hid hbx
          replace hownx:=Lib.hid hownx
          clear hown hgu hgu' hgx
          go_region_held3 (fun w'=>G u' w') (first | exact (G.refl _).drew | exact hgm.keep (by assumption) | exact hgE.keep (by assumption) | assumption | exact KeepT.g hk2 (by assumption) | exact KeepT.g hk3 (by assumption) | fail) (first
           | (go_at_call 83;(with_reducible refine Calls.mono (refTextOf_own hmT (by omega) (by omega) (hownx.out _ (by assumption))) ?_);rintro e u1 ⟨A1,d1,rfl,hown1,hgm⟩;replace hown1:=OwnL.mono hown1 (show u'.heap.size≤_ from G.size (by assumption)))
           | (go_at_call 84;(with_reducible refine Calls.mono (num7_own (base:=u'.heap.size) hown1 (G.size (by assumption)) (by omega) (by omega) hmV) ?_);rintro e u2 ⟨A2,d2,rfl,hown2,hk2⟩)
           | (go_at_call 51;(with_reducible refine Calls.mono (hen.out _) ?_);rintro e uE ⟨AE,dE,rfl,hownE,hgE⟩;have hslE:=OwnL.self byteC_len hownE;have hAE:AE=none→ste=[]:=fun h=>(h ▸ hslE).of_none;clear hownE)
           | (refine step_append_but byte_elem _ rfl (.tmp 97) (.tmp 100) rfl u'.heap.size (.slice A2 mV.length d2) mV rfl (hown2.g hgE) uE.heap.size AE dE ste rfl hAE hslE (by omega) (by omega) (G.size (by assumption)) ?_;intro v3 u3 hown3 hk3 hbut;rw [hmS.out] at hown3;obtain ⟨A3,d3,e3,_,_,_⟩:=OwnL.sl byteC_len hown3;subst e3;clear hbut))
          all_goals
           have hGe:=hgz.trans (by assumption)
           have hown4:=Lib.hid (OwnL.mono hown3 hzu)
           go_wp2_with fail
           go_roundw
           case rel=>exact ⟨j+1,mS,A3,d3,rfl,by go_num,by omega,by omega,hmSe,hsm,hown4,hGe⟩
           case measure=>(simp [intOf] <;> omega)
      ·have hall3:∀y ∈ ks,knOk y=true:=by
        have h:=hall'.out
        rwa [List.take_of_length_le (by omega)] at h
       obtain ⟨he,hne⟩:=smL_all hnb.out hall2.out hall3
       have he2:smL ⟨n,es,ks⟩=m':=by rw [he,hhd.out,←hm3.out,hmK.out,hm'.out,List.take_of_length_le (by omega)]
       rw [he2] at hne
       replace he2:=Lib.hid he2
       replace hne:=Lib.hid hne
       clear he hm' hall' hall3
       go_wp2_with fail
       go_ret
       rw [he2.out]
       exact ⟨A9,c9,rfl,OwnL.mono hown.out hG0.size,hg,fun h=>absurd h hne.out⟩
end Go.Proofs.YtheogchkelmeeaaGreatDoor

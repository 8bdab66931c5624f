/- event.DecodeStream: what it answers. Conditions: at most 2^19 bytes; the decoder's tables lie as the library lays them. -/
import Derived.Test.YtheogchkelmeeaaGreatDoorM21MsgDecodes
import Derived.Test.YtheogchkelmeeaaGreatDoorSmEncQMsgDecodes
import Derived.Deep.RegionLaw
import Derived.BigRegion
namespace Go.Proofs.YtheogchkelmeeaaGreatDoor
open Go.RowKit
theorem SmOwn.mono {base base':Nat} {Ae Ak:Option Addr} {ce ck:Nat} {es:List Ev} {ks:List Kn} {w:World} (h:SmOwn base Ae ce es Ak ck ks w) (hb:base'≤base):SmOwn base' Ae ce es Ak ck ks w:=⟨h.evs.mono hb,h.kns.mono hb⟩
theorem G.set3' {a w:World} (h:G a w) {g:Nat} (hg:a.heap.size≤g) (x y z:Value):G a (((w.setCell ⟨g,0,none⟩ x).setCell ⟨g,1,none⟩ y).setCell ⟨g,2,none⟩ z):=((h.set hg x).set hg y).set hg z
theorem wrap_less {j:Nat} (h:j < 2 ^ 64):IntKind.u64.wrap (((j+1:Nat):Int) - 1)=(j:Int):=by rw [IntKind.wrap_u64];omega
set_option maxRecDepth 100000 in
set_option maxHeartbeats 16000000 in
theorem decStream_any (l : List UInt8) (A : Option Addr) (c8 : Nat) (w : World) (hs : Sl byteC 1 w w.heap.size A l) (hl : l.length ≤ 524288) (hcap : l.length ≤ c8) (hT : Tabs w) :
  Calls Tryz.prog 75 #[.slice A l.length c8] w (RetSm w l):=by
 have hl2:l.length≤1073741824:=by omega
 have hZ0:=blk_new w #[.string ByteArray.empty,.slice none 0 0,.slice none 0 0] 118
 have hg0:=G.new w (.cells #[.string ByteArray.empty,.slice none 0 0,.slice none 0 0] 118)
 have hz0:(w.alloc (.cells #[.string ByteArray.empty,.slice none 0 0,.slice none 0 0] 118)).heap.size=w.heap.size+1:=by simp
 generalize hW0:w.alloc (.cells #[.string ByteArray.empty,.slice none 0 0,.slice none 0 0] 118)=W0 at hZ0 hg0 hz0
 have hr:=RdS.start (T:=166) (c8:=c8) ((hs.g (Nat.le_refl _) hg0).more hg0.size)
 have hgn:=G.new W0 (.cells #[.slice A l.length c8,.int .i64 0,.bool false] 166)
 rw [hz0] at hr
 have hd:SmSt 166 (w.heap.size+1) w.heap.size w.heap.size A c8 l w ByteArray.empty none 0 [] none 0 [] (some l) (W0.alloc (.cells #[.slice A l.length c8,.int .i64 0,.bool false] 166)) :=
  ⟨hr,hs.g (Nat.le_refl _) (hg0.trans hgn),hgn.blk hZ0,⟨OwnL.nil,OwnL.nil⟩,.of_g (hg0.trans hgn),by omega,Nat.le_refl _,Nat.le_refl _,by decide⟩
 have hc:=text_any (w.heap.size+1) A c8 l (some l) _ hr hl2 hcap
 obtain ⟨s,st1,h1⟩:∃s t,gv [] dText (some l)=(s,t):=⟨_,_,rfl⟩
 rw [h1] at hc
 have g1:=gv_gives h1
 replace g1:=Lib.hid g1
 replace hd:=Lib.hid hd
 replace hz0:=Lib.hid hz0
 replace hT:=Lib.hid hT
 clear hr hZ0 hg0 hs h1 hgn
 subst hW0
 go_enter Tryz.func75,Tryz.ntmps75
 go_wp2_with fail
 refine hc.mono ?_
 clear hc
 rintro e w1 ⟨rfl,hr1,hb1⟩
 replace hd:=hd.out.call hr1 hb1
 have z0:=hd.c0
 have zf:=hd.free 0
 replace hd:=hd.name0 (strOf s)
 have hc:=num_any (w.heap.size+1) A c8 l st1 _ hd.rd hl2 hcap
 obtain ⟨N,st2,h2⟩:∃v t,gv 0 dNum st1=(v,t):=⟨_,_,rfl⟩
 rw [h2] at hc
 have g2:=gv_gives h2
 have hN:N < 2 ^ 64:=gv_bound (P:=(· < 2 ^ 64)) h2 (by decide) (fun _ _ _=>dNum_bd)
 replace g2:=Lib.hid g2
 replace hd:=Lib.hid hd
 clear hr1 hb1 h2
 go_wp2_with fail
 refine hc.mono ?_
 clear hc
 rintro e w2 ⟨rfl,hr2,hb2⟩
 replace hd:=hd.out.call hr2 hb2
 have hlf:Left l 0 st2:=Left.start (fun l' e=>by subst e;exact RdS.len hd.rd)
 replace hd:=Lib.hid hd
 replace hlf:=Lib.hid hlf
 clear hr2 hb2 z0 zf
 go_wp2_with fail
 go_loopw [6] (fun i wr=>∃(k:Nat) (Ae:Option Addr) (ce:Nat) (es:List Ev) (st:Option (List UInt8)),i=.int .u64 k∧k < 2 ^ 64∧Hid (Left l es.length st)∧Hid (SmSt 166 (w.heap.size+1) w.heap.size w.heap.size A c8 l w (strOf s) Ae ce es none 0 [] st wr)∧Hid (More dEvent N k st2 st es)) (fun i _=>(intOf i).toNat)
 case atStart=>exact ⟨N,none,0,[],st2,rfl,hN,hlf,hd,More.start _ _ _⟩
 case round =>
  obtain ⟨wo,rfl⟩:∃wo:World,wo=wr:=⟨_,rfl⟩
  clear hd hlf
  obtain ⟨k,Ae,ce,es,st,rfl,hk64,hlf,hd,hmo⟩:=hrel
  have q2:=hd.out.rd.c2
  cases st with
  | none =>
   unfold Option.isNone at q2
   by_cases hk:k=0
   ·subst hk
    have g3:=hmo.out.end (.inr rfl)
    replace g3:=Lib.hid g3
    clear hmo hlf
    have hc:=num_any (w.heap.size+1) A c8 l none wo hd.out.rd hl2 hcap
    obtain ⟨M,st4,h4⟩:∃v t,gv 0 dNum (none)=(v,t):=⟨_,_,rfl⟩
    rw [h4] at hc
    have g4:=gv_gives h4
    have hM:M < 2 ^ 64:=gv_bound (P:=(· < 2 ^ 64)) h4 (by decide) (fun _ _ _=>dNum_bd)
    replace g4:=Lib.hid g4
    clear h4
    go_wp2_with fail
    refine hc.mono ?_
    clear hc
    rintro e wb ⟨rfl,hr4,hb4⟩
    replace hd:=hd.out.call hr4 hb4
    have hlf:Left l 0 st4:=Left.start (fun l' e=>by subst e;exact RdS.len hd.rd)
    replace hd:=Lib.hid hd
    replace hlf:=Lib.hid hlf
    clear hr4 hb4 q2
    go_wp2_with fail
    go_loopw [7] (fun i wr=>∃(k:Nat) (Ak:Option Addr) (ck:Nat) (ks:List Kn) (st:Option (List UInt8)),i=.int .u64 k∧k < 2 ^ 64∧Hid (Left l ks.length st)∧Hid (SmSt 166 (w.heap.size+1) w.heap.size w.heap.size A c8 l w (strOf s) Ae ce es Ak ck ks st wr)∧Hid (More dKnown M k st4 st ks)) (fun i _=>(intOf i).toNat)
    case atStart=>exact ⟨M,none,0,[],st4,rfl,hM,hlf,hd,More.start _ _ _⟩
    case round =>
     obtain ⟨wo,rfl⟩:∃wo:World,wo=wr:=⟨_,rfl⟩
     clear hd hlf
     obtain ⟨k,Ak,ck,ks,st,rfl,hk64,hlf,hd,hmo⟩:=hrel
     have q2:=hd.out.rd.c2
     cases st with
     | none =>
      unfold Option.isNone at q2
      have hno:=(stream_gives hl g1.out g2.out g3.out g4.out (hmo.out.end (.inr rfl))).1 rfl
      clear hmo hlf
      by_cases hk:k=0
      ·subst hk
       replace hno:=Lib.hid hno
       have hg:=(G.refl w).gOf' hd.out.but (fun k e=>by rw [e];omega)
       have hZ:=hd.out.res
       have q0:=hd.out.c0
       have q1:=hd.out.c1
       have q2':=hd.out.c2
       have f0:=hd.out.free 0
       have f1:=hd.out.free 1
       have f2:=hd.out.free 2
       have hE:=blk3 hZ (.string ⟨#[]⟩) (.slice none 0 0) (.slice none 0 0)
       have hgs:=hg.set3' (Nat.le_refl _) (.string ⟨#[]⟩) (.slice none 0 0) (.slice none 0 0)
       have e0:=(blk_cell hE 0).trans (show _=some (.string ⟨#[]⟩) from rfl)
       have e1:=(blk_cell hE 1).trans (show _=some (.slice none 0 0) from rfl)
       have e2:=(blk_cell hE 2).trans (show _=some (.slice none 0 0) from rfl)
       replace e0:=Lib.hid e0
       replace e1:=Lib.hid e1
       replace e2:=Lib.hid e2
       replace hgs:=Lib.hid hgs
       clear hE hg hZ
       go_wp2_with fail
       have e0:=e0.out
       have e1:=e1.out
       have e2:=e2.out
       refine bodyPost_ret (v:=.tuple #[.agg #[.string ⟨#[]⟩,.slice none 0 0,.slice none 0 0],.int .i64 0,.int .i64 10]) (by simp [results,Tryz.results75,go_sem,e0,e1,e2]) rfl ?_
       exact ⟨⟨#[]⟩,none,none,0,0,[],[],0,10,rfl,by rw [hno.out];rfl,⟨by decide,⟨by simp,fun _ h=>by cases h⟩,by simp,fun _ h=>by cases h⟩,⟨OwnL.nil,OwnL.nil⟩,hgs.out⟩
      ·have hk':0 < (k:Int):=by omega
       replace hno:=Lib.hid hno
       have hg:=(G.refl w).gOf' hd.out.but (fun k e=>by rw [e];omega)
       have hZ:=hd.out.res
       have q0:=hd.out.c0
       have q1:=hd.out.c1
       have q2':=hd.out.c2
       have f0:=hd.out.free 0
       have f1:=hd.out.free 1
       have f2:=hd.out.free 2
       have hE:=blk3 hZ (.string ⟨#[]⟩) (.slice none 0 0) (.slice none 0 0)
       have hgs:=hg.set3' (Nat.le_refl _) (.string ⟨#[]⟩) (.slice none 0 0) (.slice none 0 0)
       have e0:=(blk_cell hE 0).trans (show _=some (.string ⟨#[]⟩) from rfl)
       have e1:=(blk_cell hE 1).trans (show _=some (.slice none 0 0) from rfl)
       have e2:=(blk_cell hE 2).trans (show _=some (.slice none 0 0) from rfl)
       replace e0:=Lib.hid e0
       replace e1:=Lib.hid e1
       replace e2:=Lib.hid e2
       replace hgs:=Lib.hid hgs
       clear hE hg hZ
       go_wp2_with fail
       have e0:=e0.out
       have e1:=e1.out
       have e2:=e2.out
       refine bodyPost_ret (v:=.tuple #[.agg #[.string ⟨#[]⟩,.slice none 0 0,.slice none 0 0],.int .i64 0,.int .i64 10]) (by simp [results,Tryz.results75,go_sem,e0,e1,e2]) rfl ?_
       exact ⟨⟨#[]⟩,none,none,0,0,[],[],0,10,rfl,by rw [hno.out];rfl,⟨by decide,⟨by simp,fun _ h=>by cases h⟩,by simp,fun _ h=>by cases h⟩,⟨OwnL.nil,OwnL.nil⟩,hgs.out⟩
     | some lx =>
      unfold Option.isNone at q2
      by_cases hk:k=0
      ·subst hk
       clear hlf
       obtain ⟨hsm,hgv⟩:=(stream_gives hl g1.out g2.out g3.out g4.out (hmo.out.end (.inl rfl))).2 lx rfl
       have hg:=(G.refl w).gOf' hd.out.but (fun k e=>by rw [e];omega)
       have hck:=smEnc_any (strOf s) es ks Ae Ak ce ck wo hd.out.own.ins hsm (hT.out.g hg)
       have q0:=hd.out.c0
       have q1:=hd.out.c1
       have q2':=hd.out.c2
       have hq:=fun W A n c=>Lib.run_eql_slice_nil (P:=Tryz.prog) W 22 5 A n c 0 0 Tryz.underlying22
       cases hok:smOk ⟨strOf s,es,ks⟩ with
       | false =>
        have hno:dStream l=none:=by rw [hgv,if_neg (by rw [hok];simp)]
        rw [smL_no hok] at hck
        replace hok:=Lib.hid hok
        clear hgv hg hmo hsm
        go_wp2_with fail
        refine hck.mono ?_
        clear hck
        rintro e w5 ⟨Ax,cx,rfl,_,hg5,hnil⟩
        obtain rfl:=hnil rfl
        replace hd:=Lib.hid (hd.out.g hg5)
        clear q0 q1 q2 q2' hg5 hnil
        replace hno:=Lib.hid hno
        have hg:=(G.refl w).gOf' hd.out.but (fun k e=>by rw [e];omega)
        have hZ:=hd.out.res
        have q0:=hd.out.c0
        have q1:=hd.out.c1
        have q2':=hd.out.c2
        have f0:=hd.out.free 0
        have f1:=hd.out.free 1
        have f2:=hd.out.free 2
        have hE:=blk3 hZ (.string ⟨#[]⟩) (.slice none 0 0) (.slice none 0 0)
        have hgs:=hg.set3' (Nat.le_refl _) (.string ⟨#[]⟩) (.slice none 0 0) (.slice none 0 0)
        have e0:=(blk_cell hE 0).trans (show _=some (.string ⟨#[]⟩) from rfl)
        have e1:=(blk_cell hE 1).trans (show _=some (.slice none 0 0) from rfl)
        have e2:=(blk_cell hE 2).trans (show _=some (.slice none 0 0) from rfl)
        replace e0:=Lib.hid e0
        replace e1:=Lib.hid e1
        replace e2:=Lib.hid e2
        replace hgs:=Lib.hid hgs
        clear hE hg hZ
        go_wp2_with fail
        have e0:=e0.out
        have e1:=e1.out
        have e2:=e2.out
        refine bodyPost_ret (v:=.tuple #[.agg #[.string ⟨#[]⟩,.slice none 0 0,.slice none 0 0],.int .i64 0,.int .i64 10]) (by simp [results,Tryz.results75,go_sem,e0,e1,e2]) rfl ?_
        exact ⟨⟨#[]⟩,none,none,0,0,[],[],0,10,rfl,by rw [hno.out];rfl,⟨by decide,⟨by simp,fun _ h=>by cases h⟩,by simp,fun _ h=>by cases h⟩,⟨OwnL.nil,OwnL.nil⟩,hgs.out⟩
       | true =>
        have hne:smL ⟨strOf s,es,ks⟩≠[]:=by
         rw [smL_ok hok]
         intro h
         have:=smBytes_pos ⟨strOf s,es,ks⟩
         rw [h] at this
         simp at this
        rw [if_pos hok] at hgv
        generalize smL ⟨strOf s,es,ks⟩=sl at *
        replace hne:=Lib.hid hne
        replace hok:=Lib.hid hok
        replace hgv:=Lib.hid hgv
        replace hsm:=Lib.hid hsm
        clear hmo
        go_wp2_with fail
        refine hck.mono ?_
        clear hck
        rintro e w5 ⟨Ax,cx,rfl,hownx,hg5,_⟩
        obtain ⟨ad,rfl⟩:∃a,Ax=some a:=by
         rcases Ax with _ | a
         ·exact absurd ((OwnL.self byteC_len hownx).of_none) hne.out
         ·exact ⟨a,rfl⟩
        replace hd:=hd.out.g hg5
        clear q0 q1 q2 q2' hownx
        have hZ:=hd.res
        have q0:=hd.c0
        have q1:=hd.c1
        have q3:=hd.c2
        have q2:=hd.rd.c2
        have f0:=hd.free 0
        have f1:=hd.free 1
        have f2:=hd.free 2
        have k1:=hd.rd.end
        unfold Option.isNone at q2
        have hE:=blk3 hZ (.string (strOf s)) (.slice Ae es.length ce) (.slice Ak ks.length ck)
        have hgs:=(hg.trans hg5).set3' (Nat.le_refl _) (.string (strOf s)) (.slice Ae es.length ce) (.slice Ak ks.length ck)
        have e0:=(blk_cell hE 0).trans (show _=some (.string (strOf s)) from rfl)
        have e1:=(blk_cell hE 1).trans (show _=some (.slice Ae es.length ce) from rfl)
        have e2:=(blk_cell hE 2).trans (show _=some (.slice Ak ks.length ck) from rfl)
        have hps:=hd.own.but (but_set3 w5 w.heap.size (.string (strOf s)) (.slice Ae es.length ce) (.slice Ak ks.length ck)) (fun k cs t e h1=>by
         subst e
         rw [hZ] at h1
         cases h1
         decide)
        have hne2:w.heap.size+1≠w.heap.size:=by omega
        replace e0:=Lib.hid e0
        replace e1:=Lib.hid e1
        replace e2:=Lib.hid e2
        replace hgs:=Lib.hid hgs
        replace hps:=Lib.hid hps
        clear hE hg hg5 hZ hd
        generalize hnn:l.length - lx.length=nn at *
        replace hnn:=Lib.hid hnn
        go_wp2_with fail
        go_region
        go_wp2_with fail
        have e0:=e0.out
        have e1:=e1.out
        have e2:=e2.out
        refine bodyPost_ret (v:=.tuple #[.agg #[.string (strOf s),.slice Ae es.length ce,.slice Ak ks.length ck],.int .i64 nn,.int .i64 0]) (by simp [results,Tryz.results75,go_sem,e0,e1,e2]) rfl ?_
        exact ⟨strOf s,Ae,Ak,ce,ck,es,ks,nn,0,rfl,by rw [hgv.out,←hnn.out];rfl,hsm.out,hps.out.g (G.refl _).drew,hgs.out.drew⟩
      ·obtain ⟨j,rfl⟩:∃j,k=j+1:=⟨k - 1,by omega⟩
       have hwk:=wrap_less (j:=j) (by omega)
       have hc:=text_any (w.heap.size+1) A c8 l (some lx) wo hd.out.rd hl2 hcap
       obtain ⟨sk,st5,h5⟩:∃v t,gv [] dText (some lx)=(v,t):=⟨_,_,rfl⟩
       rw [h5] at hc
       have g5:=gv_gives h5
       have hj1:0 < ((j+1:Nat):Int):=by omega
       replace g5:=Lib.hid g5
       clear h5 hk
       go_wp2_with fail
       refine hc.mono ?_
       clear hc
       rintro e wa ⟨rfl,hr5,hb5⟩
       replace hd:=Lib.hid (hd.out.call hr5 hb5)
       have hi:=KnSt.begin (s:=strOf sk) hr5
       have hc:=count_any' (w.heap.size+1) A c8 l st5 _ hi.rd hl2 hcap 1099511627776 1099511627776 rfl (by omega)
       obtain ⟨v,st6,h6⟩:∃v t,gv 0 (dCount 1099511627776) st5=(v,t):=⟨_,_,rfl⟩
       rw [h6] at hc
       have g6:=gv_gives h6
       replace g6:=Lib.hid g6
       replace hi:=Lib.hid hi
       clear h6 hr5 hb5 q2
       go_wp2_with fail
       refine hc.mono ?_
       clear hc
       rintro e w6 ⟨rfl,hr6,hb6⟩
       replace hi:=hi.out.call hr6 hb6
       have x1:=(hi.cell 1).trans (show _=some (.int .i64 0) from rfl)
       have x1f:=hi.free 1
       replace hi:=(hi.put 1 (.int .i64 v)).as (show _=#[.string (strOf sk),.int .i64 v,.int .i64 0,.int .i64 0,.int .i64 0] from rfl)
       have hc:=rstamp_any (w.heap.size+1) A c8 l st6 _ hi.rd hl2 hcap
       obtain ⟨⟨ta,tb,tc⟩,st7,h7⟩:∃v t,gv zSt dStamp st6=(v,t):=⟨_,_,rfl⟩
       rw [h7] at hc
       unfold stVal stV at hc
       dsimp only at hc
       have g7:=gv_gives h7
       replace g7:=Lib.hid g7
       replace hi:=Lib.hid hi
       clear h7 hr6 hb6
       go_wp2_with fail
       refine hc.mono ?_
       clear hc
       rintro e w7 ⟨rfl,hr7,hb7⟩
       replace hi:=hi.out.call hr7 hb7
       have y2:=(hi.cell 2).trans (show _=some (.int .i64 0) from rfl)
       have y3:=(hi.cell 3).trans (show _=some (.int .i64 0) from rfl)
       have y4:=(hi.cell 4).trans (show _=some (.int .i64 0) from rfl)
       have y2f:=hi.free 2
       have y3f:=hi.free 3
       have y4f:=hi.free 4
       replace hi:=(((hi.put 2 (.int .i64 ta)).put 3 (.int .i64 tb)).put 4 (.int .i64 tc)).as (show _=#[.string (strOf sk),.int .i64 v,.int .i64 ta,.int .i64 tb,.int .i64 tc] from rfl)
       have z0:=(hi.cell 0).trans (show _=some (.string (strOf sk)) from rfl)
       have z1:=(hi.cell 1).trans (show _=some (.int .i64 v) from rfl)
       have z2:=(hi.cell 2).trans (show _=some (.int .i64 ta) from rfl)
       have z3:=(hi.cell 3).trans (show _=some (.int .i64 tb) from rfl)
       have z4:=(hi.cell 4).trans (show _=some (.int .i64 tc) from rfl)
       have hgk:=known_gives g5.out g6.out g7.out
       have hlf2:=Left.step hlf.out hl eats_known hgk
       have hmo2:=hmo.out.step hgk
       have hb:=hi.but
       have hws:=hd.out.but.size
       replace hd:=hd.out.call hi.rd hb
       have c2:=hd.c2
       obtain ⟨y,hy⟩:∃y:Kn,y=⟨strOf sk,v,⟨ta,tb,tc⟩⟩:=⟨_,rfl⟩
       obtain ⟨ks',hks⟩:∃ks',ks++[y]=ks':=⟨_,rfl⟩
       rw [←hy,hks] at hmo2
       have hkl:ks'.length=ks.length+1:=by rw [←hks];simp
       have hkb:=hlf.out.1
       rw [←hkl] at hlf2
       replace hd:=Lib.hid hd
       replace hmo2:=Lib.hid hmo2
       replace hlf2:=Lib.hid hlf2
       replace hkl:=Lib.hid hkl
       replace hks:=Lib.hid hks
       replace hy:=Lib.hid hy
       clear hgk hmo hlf hb hr7 hb7 hi
       go_upto_region 13 with fail
       generalize ((w7.setCell ⟨wa.heap.size,2,none⟩ (.int .i64 ta)).setCell ⟨wa.heap.size,3,none⟩ (.int .i64 tb)).setCell ⟨wa.heap.size,4,none⟩ (.int .i64 tc)=wz at *
       clear y2 y3 y4 y2f y3f y4f x1 x1f
       go_wp2_with (at_builtin;refine wpList_append_but kns_elem _ rfl (.tmp 58) (.tmp 60) rfl w.heap.size _ ks rfl (hd.out.own.kns.g (G.new _ _)) (wz.heap.size+1) (some ⟨wz.heap.size,0,none⟩) 1 [y] rfl (by intro h;cases h) (Sl.of_blk Kn.cells_len _ (blk_new _ _ _) (by rw [hy.out];rfl) (by omega)) (by simp;omega) (by simp;omega) (by have:=hd.out.but.size;simp;omega) ?_;intro v8 w8 hown8 hk8 hb8;rw [hks.out] at hown8;obtain ⟨A8,c8',e8,_,_,_⟩:=OwnL.sl Kn.cells_len hown8;subst e8;obtain ⟨zf,⟨u,zc⟩,hd8⟩:=(hd.out.g (G.new _ _)).pushK hown8 hk8 hb8;replace hd8:=Lib.hid hd8)
       go_roundw
       case rel=>exact ⟨j,A8,c8',ks',st7,by first | go_num | rfl,by omega,hlf2,hd8,hmo2⟩
       case measure=>(simp [intOf] <;> omega)
   ·have hk':0 < (k:Int):=by omega
    have g3:=hmo.out.end (.inr rfl)
    replace g3:=Lib.hid g3
    clear hmo hlf
    have hc:=num_any (w.heap.size+1) A c8 l none wo hd.out.rd hl2 hcap
    obtain ⟨M,st4,h4⟩:∃v t,gv 0 dNum (none)=(v,t):=⟨_,_,rfl⟩
    rw [h4] at hc
    have g4:=gv_gives h4
    have hM:M < 2 ^ 64:=gv_bound (P:=(· < 2 ^ 64)) h4 (by decide) (fun _ _ _=>dNum_bd)
    replace g4:=Lib.hid g4
    clear h4
    go_wp2_with fail
    refine hc.mono ?_
    clear hc
    rintro e wb ⟨rfl,hr4,hb4⟩
    replace hd:=hd.out.call hr4 hb4
    have hlf:Left l 0 st4:=Left.start (fun l' e=>by subst e;exact RdS.len hd.rd)
    replace hd:=Lib.hid hd
    replace hlf:=Lib.hid hlf
    clear hr4 hb4 q2
    go_wp2_with fail
    go_loopw [7] (fun i wr=>∃(k:Nat) (Ak:Option Addr) (ck:Nat) (ks:List Kn) (st:Option (List UInt8)),i=.int .u64 k∧k < 2 ^ 64∧Hid (Left l ks.length st)∧Hid (SmSt 166 (w.heap.size+1) w.heap.size w.heap.size A c8 l w (strOf s) Ae ce es Ak ck ks st wr)∧Hid (More dKnown M k st4 st ks)) (fun i _=>(intOf i).toNat)
    case atStart=>exact ⟨M,none,0,[],st4,rfl,hM,hlf,hd,More.start _ _ _⟩
    case round =>
     obtain ⟨wo,rfl⟩:∃wo:World,wo=wr:=⟨_,rfl⟩
     clear hd hlf
     obtain ⟨k,Ak,ck,ks,st,rfl,hk64,hlf,hd,hmo⟩:=hrel
     have q2:=hd.out.rd.c2
     cases st with
     | none =>
      unfold Option.isNone at q2
      have hno:=(stream_gives hl g1.out g2.out g3.out g4.out (hmo.out.end (.inr rfl))).1 rfl
      clear hmo hlf
      by_cases hk:k=0
      ·subst hk
       replace hno:=Lib.hid hno
       have hg:=(G.refl w).gOf' hd.out.but (fun k e=>by rw [e];omega)
       have hZ:=hd.out.res
       have q0:=hd.out.c0
       have q1:=hd.out.c1
       have q2':=hd.out.c2
       have f0:=hd.out.free 0
       have f1:=hd.out.free 1
       have f2:=hd.out.free 2
       have hE:=blk3 hZ (.string ⟨#[]⟩) (.slice none 0 0) (.slice none 0 0)
       have hgs:=hg.set3' (Nat.le_refl _) (.string ⟨#[]⟩) (.slice none 0 0) (.slice none 0 0)
       have e0:=(blk_cell hE 0).trans (show _=some (.string ⟨#[]⟩) from rfl)
       have e1:=(blk_cell hE 1).trans (show _=some (.slice none 0 0) from rfl)
       have e2:=(blk_cell hE 2).trans (show _=some (.slice none 0 0) from rfl)
       replace e0:=Lib.hid e0
       replace e1:=Lib.hid e1
       replace e2:=Lib.hid e2
       replace hgs:=Lib.hid hgs
       clear hE hg hZ
       go_wp2_with fail
       have e0:=e0.out
       have e1:=e1.out
       have e2:=e2.out
       refine bodyPost_ret (v:=.tuple #[.agg #[.string ⟨#[]⟩,.slice none 0 0,.slice none 0 0],.int .i64 0,.int .i64 10]) (by simp [results,Tryz.results75,go_sem,e0,e1,e2]) rfl ?_
       exact ⟨⟨#[]⟩,none,none,0,0,[],[],0,10,rfl,by rw [hno.out];rfl,⟨by decide,⟨by simp,fun _ h=>by cases h⟩,by simp,fun _ h=>by cases h⟩,⟨OwnL.nil,OwnL.nil⟩,hgs.out⟩
      ·have hk':0 < (k:Int):=by omega
       replace hno:=Lib.hid hno
       have hg:=(G.refl w).gOf' hd.out.but (fun k e=>by rw [e];omega)
       have hZ:=hd.out.res
       have q0:=hd.out.c0
       have q1:=hd.out.c1
       have q2':=hd.out.c2
       have f0:=hd.out.free 0
       have f1:=hd.out.free 1
       have f2:=hd.out.free 2
       have hE:=blk3 hZ (.string ⟨#[]⟩) (.slice none 0 0) (.slice none 0 0)
       have hgs:=hg.set3' (Nat.le_refl _) (.string ⟨#[]⟩) (.slice none 0 0) (.slice none 0 0)
       have e0:=(blk_cell hE 0).trans (show _=some (.string ⟨#[]⟩) from rfl)
       have e1:=(blk_cell hE 1).trans (show _=some (.slice none 0 0) from rfl)
       have e2:=(blk_cell hE 2).trans (show _=some (.slice none 0 0) from rfl)
       replace e0:=Lib.hid e0
       replace e1:=Lib.hid e1
       replace e2:=Lib.hid e2
       replace hgs:=Lib.hid hgs
       clear hE hg hZ
       go_wp2_with fail
       have e0:=e0.out
       have e1:=e1.out
       have e2:=e2.out
       refine bodyPost_ret (v:=.tuple #[.agg #[.string ⟨#[]⟩,.slice none 0 0,.slice none 0 0],.int .i64 0,.int .i64 10]) (by simp [results,Tryz.results75,go_sem,e0,e1,e2]) rfl ?_
       exact ⟨⟨#[]⟩,none,none,0,0,[],[],0,10,rfl,by rw [hno.out];rfl,⟨by decide,⟨by simp,fun _ h=>by cases h⟩,by simp,fun _ h=>by cases h⟩,⟨OwnL.nil,OwnL.nil⟩,hgs.out⟩
     | some lx =>
      unfold Option.isNone at q2
      by_cases hk:k=0
      ·subst hk
       clear hlf
       obtain ⟨hsm,hgv⟩:=(stream_gives hl g1.out g2.out g3.out g4.out (hmo.out.end (.inl rfl))).2 lx rfl
       have hg:=(G.refl w).gOf' hd.out.but (fun k e=>by rw [e];omega)
       have hck:=smEnc_any (strOf s) es ks Ae Ak ce ck wo hd.out.own.ins hsm (hT.out.g hg)
       have q0:=hd.out.c0
       have q1:=hd.out.c1
       have q2':=hd.out.c2
       have hq:=fun W A n c=>Lib.run_eql_slice_nil (P:=Tryz.prog) W 22 5 A n c 0 0 Tryz.underlying22
       cases hok:smOk ⟨strOf s,es,ks⟩ with
       | false =>
        have hno:dStream l=none:=by rw [hgv,if_neg (by rw [hok];simp)]
        rw [smL_no hok] at hck
        replace hok:=Lib.hid hok
        clear hgv hg hmo hsm
        go_wp2_with fail
        refine hck.mono ?_
        clear hck
        rintro e w5 ⟨Ax,cx,rfl,_,hg5,hnil⟩
        obtain rfl:=hnil rfl
        replace hd:=Lib.hid (hd.out.g hg5)
        clear q0 q1 q2 q2' hg5 hnil
        replace hno:=Lib.hid hno
        have hg:=(G.refl w).gOf' hd.out.but (fun k e=>by rw [e];omega)
        have hZ:=hd.out.res
        have q0:=hd.out.c0
        have q1:=hd.out.c1
        have q2':=hd.out.c2
        have f0:=hd.out.free 0
        have f1:=hd.out.free 1
        have f2:=hd.out.free 2
        have hE:=blk3 hZ (.string ⟨#[]⟩) (.slice none 0 0) (.slice none 0 0)
        have hgs:=hg.set3' (Nat.le_refl _) (.string ⟨#[]⟩) (.slice none 0 0) (.slice none 0 0)
        have e0:=(blk_cell hE 0).trans (show _=some (.string ⟨#[]⟩) from rfl)
        have e1:=(blk_cell hE 1).trans (show _=some (.slice none 0 0) from rfl)
        have e2:=(blk_cell hE 2).trans (show _=some (.slice none 0 0) from rfl)
        replace e0:=Lib.hid e0
        replace e1:=Lib.hid e1
        replace e2:=Lib.hid e2
        replace hgs:=Lib.hid hgs
        clear hE hg hZ
        go_wp2_with fail
        have e0:=e0.out
        have e1:=e1.out
        have e2:=e2.out
        refine bodyPost_ret (v:=.tuple #[.agg #[.string ⟨#[]⟩,.slice none 0 0,.slice none 0 0],.int .i64 0,.int .i64 10]) (by simp [results,Tryz.results75,go_sem,e0,e1,e2]) rfl ?_
        exact ⟨⟨#[]⟩,none,none,0,0,[],[],0,10,rfl,by rw [hno.out];rfl,⟨by decide,⟨by simp,fun _ h=>by cases h⟩,by simp,fun _ h=>by cases h⟩,⟨OwnL.nil,OwnL.nil⟩,hgs.out⟩
       | true =>
        have hne:smL ⟨strOf s,es,ks⟩≠[]:=by
         rw [smL_ok hok]
         intro h
         have:=smBytes_pos ⟨strOf s,es,ks⟩
         rw [h] at this
         simp at this
        rw [if_pos hok] at hgv
        generalize smL ⟨strOf s,es,ks⟩=sl at *
        replace hne:=Lib.hid hne
        replace hok:=Lib.hid hok
        replace hgv:=Lib.hid hgv
        replace hsm:=Lib.hid hsm
        clear hmo
        go_wp2_with fail
        refine hck.mono ?_
        clear hck
        rintro e w5 ⟨Ax,cx,rfl,hownx,hg5,_⟩
        obtain ⟨ad,rfl⟩:∃a,Ax=some a:=by
         rcases Ax with _ | a
         ·exact absurd ((OwnL.self byteC_len hownx).of_none) hne.out
         ·exact ⟨a,rfl⟩
        replace hd:=hd.out.g hg5
        clear q0 q1 q2 q2' hownx
        have hZ:=hd.res
        have q0:=hd.c0
        have q1:=hd.c1
        have q3:=hd.c2
        have q2:=hd.rd.c2
        have f0:=hd.free 0
        have f1:=hd.free 1
        have f2:=hd.free 2
        have k1:=hd.rd.end
        unfold Option.isNone at q2
        have hE:=blk3 hZ (.string (strOf s)) (.slice Ae es.length ce) (.slice Ak ks.length ck)
        have hgs:=(hg.trans hg5).set3' (Nat.le_refl _) (.string (strOf s)) (.slice Ae es.length ce) (.slice Ak ks.length ck)
        have e0:=(blk_cell hE 0).trans (show _=some (.string (strOf s)) from rfl)
        have e1:=(blk_cell hE 1).trans (show _=some (.slice Ae es.length ce) from rfl)
        have e2:=(blk_cell hE 2).trans (show _=some (.slice Ak ks.length ck) from rfl)
        have hps:=hd.own.but (but_set3 w5 w.heap.size (.string (strOf s)) (.slice Ae es.length ce) (.slice Ak ks.length ck)) (fun k cs t e h1=>by
         subst e
         rw [hZ] at h1
         cases h1
         decide)
        have hne2:w.heap.size+1≠w.heap.size:=by omega
        replace e0:=Lib.hid e0
        replace e1:=Lib.hid e1
        replace e2:=Lib.hid e2
        replace hgs:=Lib.hid hgs
        replace hps:=Lib.hid hps
        clear hE hg hg5 hZ hd
        generalize hnn:l.length - lx.length=nn at *
        replace hnn:=Lib.hid hnn
        go_wp2_with fail
        go_region
        go_wp2_with fail
        have e0:=e0.out
        have e1:=e1.out
        have e2:=e2.out
        refine bodyPost_ret (v:=.tuple #[.agg #[.string (strOf s),.slice Ae es.length ce,.slice Ak ks.length ck],.int .i64 nn,.int .i64 0]) (by simp [results,Tryz.results75,go_sem,e0,e1,e2]) rfl ?_
        exact ⟨strOf s,Ae,Ak,ce,ck,es,ks,nn,0,rfl,by rw [hgv.out,←hnn.out];rfl,hsm.out,hps.out.g (G.refl _).drew,hgs.out.drew⟩
      ·obtain ⟨j,rfl⟩:∃j,k=j+1:=⟨k - 1,by omega⟩
       have hwk:=wrap_less (j:=j) (by omega)
       have hc:=text_any (w.heap.size+1) A c8 l (some lx) wo hd.out.rd hl2 hcap
       obtain ⟨sk,st5,h5⟩:∃v t,gv [] dText (some lx)=(v,t):=⟨_,_,rfl⟩
       rw [h5] at hc
       have g5:=gv_gives h5
       have hj1:0 < ((j+1:Nat):Int):=by omega
       replace g5:=Lib.hid g5
       clear h5 hk
       go_wp2_with fail
       refine hc.mono ?_
       clear hc
       rintro e wa ⟨rfl,hr5,hb5⟩
       replace hd:=Lib.hid (hd.out.call hr5 hb5)
       have hi:=KnSt.begin (s:=strOf sk) hr5
       have hc:=count_any' (w.heap.size+1) A c8 l st5 _ hi.rd hl2 hcap 1099511627776 1099511627776 rfl (by omega)
       obtain ⟨v,st6,h6⟩:∃v t,gv 0 (dCount 1099511627776) st5=(v,t):=⟨_,_,rfl⟩
       rw [h6] at hc
       have g6:=gv_gives h6
       replace g6:=Lib.hid g6
       replace hi:=Lib.hid hi
       clear h6 hr5 hb5 q2
       go_wp2_with fail
       refine hc.mono ?_
       clear hc
       rintro e w6 ⟨rfl,hr6,hb6⟩
       replace hi:=hi.out.call hr6 hb6
       have x1:=(hi.cell 1).trans (show _=some (.int .i64 0) from rfl)
       have x1f:=hi.free 1
       replace hi:=(hi.put 1 (.int .i64 v)).as (show _=#[.string (strOf sk),.int .i64 v,.int .i64 0,.int .i64 0,.int .i64 0] from rfl)
       have hc:=rstamp_any (w.heap.size+1) A c8 l st6 _ hi.rd hl2 hcap
       obtain ⟨⟨ta,tb,tc⟩,st7,h7⟩:∃v t,gv zSt dStamp st6=(v,t):=⟨_,_,rfl⟩
       rw [h7] at hc
       unfold stVal stV at hc
       dsimp only at hc
       have g7:=gv_gives h7
       replace g7:=Lib.hid g7
       replace hi:=Lib.hid hi
       clear h7 hr6 hb6
       go_wp2_with fail
       refine hc.mono ?_
       clear hc
       rintro e w7 ⟨rfl,hr7,hb7⟩
       replace hi:=hi.out.call hr7 hb7
       have y2:=(hi.cell 2).trans (show _=some (.int .i64 0) from rfl)
       have y3:=(hi.cell 3).trans (show _=some (.int .i64 0) from rfl)
       have y4:=(hi.cell 4).trans (show _=some (.int .i64 0) from rfl)
       have y2f:=hi.free 2
       have y3f:=hi.free 3
       have y4f:=hi.free 4
       replace hi:=(((hi.put 2 (.int .i64 ta)).put 3 (.int .i64 tb)).put 4 (.int .i64 tc)).as (show _=#[.string (strOf sk),.int .i64 v,.int .i64 ta,.int .i64 tb,.int .i64 tc] from rfl)
       have z0:=(hi.cell 0).trans (show _=some (.string (strOf sk)) from rfl)
       have z1:=(hi.cell 1).trans (show _=some (.int .i64 v) from rfl)
       have z2:=(hi.cell 2).trans (show _=some (.int .i64 ta) from rfl)
       have z3:=(hi.cell 3).trans (show _=some (.int .i64 tb) from rfl)
       have z4:=(hi.cell 4).trans (show _=some (.int .i64 tc) from rfl)
       have hgk:=known_gives g5.out g6.out g7.out
       have hlf2:=Left.step hlf.out hl eats_known hgk
       have hmo2:=hmo.out.step hgk
       have hb:=hi.but
       have hws:=hd.out.but.size
       replace hd:=hd.out.call hi.rd hb
       have c2:=hd.c2
       obtain ⟨y,hy⟩:∃y:Kn,y=⟨strOf sk,v,⟨ta,tb,tc⟩⟩:=⟨_,rfl⟩
       obtain ⟨ks',hks⟩:∃ks',ks++[y]=ks':=⟨_,rfl⟩
       rw [←hy,hks] at hmo2
       have hkl:ks'.length=ks.length+1:=by rw [←hks];simp
       have hkb:=hlf.out.1
       rw [←hkl] at hlf2
       replace hd:=Lib.hid hd
       replace hmo2:=Lib.hid hmo2
       replace hlf2:=Lib.hid hlf2
       replace hkl:=Lib.hid hkl
       replace hks:=Lib.hid hks
       replace hy:=Lib.hid hy
       clear hgk hmo hlf hb hr7 hb7 hi
       go_upto_region 13 with fail
       generalize ((w7.setCell ⟨wa.heap.size,2,none⟩ (.int .i64 ta)).setCell ⟨wa.heap.size,3,none⟩ (.int .i64 tb)).setCell ⟨wa.heap.size,4,none⟩ (.int .i64 tc)=wz at *
       clear y2 y3 y4 y2f y3f y4f x1 x1f
       go_wp2_with (at_builtin;refine wpList_append_but kns_elem _ rfl (.tmp 58) (.tmp 60) rfl w.heap.size _ ks rfl (hd.out.own.kns.g (G.new _ _)) (wz.heap.size+1) (some ⟨wz.heap.size,0,none⟩) 1 [y] rfl (by intro h;cases h) (Sl.of_blk Kn.cells_len _ (blk_new _ _ _) (by rw [hy.out];rfl) (by omega)) (by simp;omega) (by simp;omega) (by have:=hd.out.but.size;simp;omega) ?_;intro v8 w8 hown8 hk8 hb8;rw [hks.out] at hown8;obtain ⟨A8,c8',e8,_,_,_⟩:=OwnL.sl Kn.cells_len hown8;subst e8;obtain ⟨zf,⟨u,zc⟩,hd8⟩:=(hd.out.g (G.new _ _)).pushK hown8 hk8 hb8;replace hd8:=Lib.hid hd8)
       go_roundw
       case rel=>exact ⟨j,A8,c8',ks',st7,by first | go_num | rfl,by omega,hlf2,hd8,hmo2⟩
       case measure=>(simp [intOf] <;> omega)
  | some lx =>
   unfold Option.isNone at q2
   by_cases hk:k=0
   ·subst hk
    have g3:=hmo.out.end (.inl rfl)
    replace g3:=Lib.hid g3
    clear hmo hlf
    have hc:=num_any (w.heap.size+1) A c8 l (some lx) wo hd.out.rd hl2 hcap
    obtain ⟨M,st4,h4⟩:∃v t,gv 0 dNum ((some lx))=(v,t):=⟨_,_,rfl⟩
    rw [h4] at hc
    have g4:=gv_gives h4
    have hM:M < 2 ^ 64:=gv_bound (P:=(· < 2 ^ 64)) h4 (by decide) (fun _ _ _=>dNum_bd)
    replace g4:=Lib.hid g4
    clear h4
    go_wp2_with fail
    refine hc.mono ?_
    clear hc
    rintro e wb ⟨rfl,hr4,hb4⟩
    replace hd:=hd.out.call hr4 hb4
    have hlf:Left l 0 st4:=Left.start (fun l' e=>by subst e;exact RdS.len hd.rd)
    replace hd:=Lib.hid hd
    replace hlf:=Lib.hid hlf
    clear hr4 hb4 q2
    go_wp2_with fail
    go_loopw [7] (fun i wr=>∃(k:Nat) (Ak:Option Addr) (ck:Nat) (ks:List Kn) (st:Option (List UInt8)),i=.int .u64 k∧k < 2 ^ 64∧Hid (Left l ks.length st)∧Hid (SmSt 166 (w.heap.size+1) w.heap.size w.heap.size A c8 l w (strOf s) Ae ce es Ak ck ks st wr)∧Hid (More dKnown M k st4 st ks)) (fun i _=>(intOf i).toNat)
    case atStart=>exact ⟨M,none,0,[],st4,rfl,hM,hlf,hd,More.start _ _ _⟩
    case round =>
     obtain ⟨wo,rfl⟩:∃wo:World,wo=wr:=⟨_,rfl⟩
     clear hd hlf
     obtain ⟨k,Ak,ck,ks,st,rfl,hk64,hlf,hd,hmo⟩:=hrel
     have q2:=hd.out.rd.c2
     cases st with
     | none =>
      unfold Option.isNone at q2
      have hno:=(stream_gives hl g1.out g2.out g3.out g4.out (hmo.out.end (.inr rfl))).1 rfl
      clear hmo hlf
      by_cases hk:k=0
      ·subst hk
       replace hno:=Lib.hid hno
       have hg:=(G.refl w).gOf' hd.out.but (fun k e=>by rw [e];omega)
       have hZ:=hd.out.res
       have q0:=hd.out.c0
       have q1:=hd.out.c1
       have q2':=hd.out.c2
       have f0:=hd.out.free 0
       have f1:=hd.out.free 1
       have f2:=hd.out.free 2
       have hE:=blk3 hZ (.string ⟨#[]⟩) (.slice none 0 0) (.slice none 0 0)
       have hgs:=hg.set3' (Nat.le_refl _) (.string ⟨#[]⟩) (.slice none 0 0) (.slice none 0 0)
       have e0:=(blk_cell hE 0).trans (show _=some (.string ⟨#[]⟩) from rfl)
       have e1:=(blk_cell hE 1).trans (show _=some (.slice none 0 0) from rfl)
       have e2:=(blk_cell hE 2).trans (show _=some (.slice none 0 0) from rfl)
       replace e0:=Lib.hid e0
       replace e1:=Lib.hid e1
       replace e2:=Lib.hid e2
       replace hgs:=Lib.hid hgs
       clear hE hg hZ
       go_wp2_with fail
       have e0:=e0.out
       have e1:=e1.out
       have e2:=e2.out
       refine bodyPost_ret (v:=.tuple #[.agg #[.string ⟨#[]⟩,.slice none 0 0,.slice none 0 0],.int .i64 0,.int .i64 10]) (by simp [results,Tryz.results75,go_sem,e0,e1,e2]) rfl ?_
       exact ⟨⟨#[]⟩,none,none,0,0,[],[],0,10,rfl,by rw [hno.out];rfl,⟨by decide,⟨by simp,fun _ h=>by cases h⟩,by simp,fun _ h=>by cases h⟩,⟨OwnL.nil,OwnL.nil⟩,hgs.out⟩
      ·have hk':0 < (k:Int):=by omega
       replace hno:=Lib.hid hno
       have hg:=(G.refl w).gOf' hd.out.but (fun k e=>by rw [e];omega)
       have hZ:=hd.out.res
       have q0:=hd.out.c0
       have q1:=hd.out.c1
       have q2':=hd.out.c2
       have f0:=hd.out.free 0
       have f1:=hd.out.free 1
       have f2:=hd.out.free 2
       have hE:=blk3 hZ (.string ⟨#[]⟩) (.slice none 0 0) (.slice none 0 0)
       have hgs:=hg.set3' (Nat.le_refl _) (.string ⟨#[]⟩) (.slice none 0 0) (.slice none 0 0)
       have e0:=(blk_cell hE 0).trans (show _=some (.string ⟨#[]⟩) from rfl)
       have e1:=(blk_cell hE 1).trans (show _=some (.slice none 0 0) from rfl)
       have e2:=(blk_cell hE 2).trans (show _=some (.slice none 0 0) from rfl)
       replace e0:=Lib.hid e0
       replace e1:=Lib.hid e1
       replace e2:=Lib.hid e2
       replace hgs:=Lib.hid hgs
       clear hE hg hZ
       go_wp2_with fail
       have e0:=e0.out
       have e1:=e1.out
       have e2:=e2.out
       refine bodyPost_ret (v:=.tuple #[.agg #[.string ⟨#[]⟩,.slice none 0 0,.slice none 0 0],.int .i64 0,.int .i64 10]) (by simp [results,Tryz.results75,go_sem,e0,e1,e2]) rfl ?_
       exact ⟨⟨#[]⟩,none,none,0,0,[],[],0,10,rfl,by rw [hno.out];rfl,⟨by decide,⟨by simp,fun _ h=>by cases h⟩,by simp,fun _ h=>by cases h⟩,⟨OwnL.nil,OwnL.nil⟩,hgs.out⟩
     | some lx =>
      unfold Option.isNone at q2
      by_cases hk:k=0
      ·subst hk
       clear hlf
       obtain ⟨hsm,hgv⟩:=(stream_gives hl g1.out g2.out g3.out g4.out (hmo.out.end (.inl rfl))).2 lx rfl
       have hg:=(G.refl w).gOf' hd.out.but (fun k e=>by rw [e];omega)
       have hck:=smEnc_any (strOf s) es ks Ae Ak ce ck wo hd.out.own.ins hsm (hT.out.g hg)
       have q0:=hd.out.c0
       have q1:=hd.out.c1
       have q2':=hd.out.c2
       have hq:=fun W A n c=>Lib.run_eql_slice_nil (P:=Tryz.prog) W 22 5 A n c 0 0 Tryz.underlying22
       cases hok:smOk ⟨strOf s,es,ks⟩ with
       | false =>
        have hno:dStream l=none:=by rw [hgv,if_neg (by rw [hok];simp)]
        rw [smL_no hok] at hck
        replace hok:=Lib.hid hok
        clear hgv hg hmo hsm
        go_wp2_with fail
        refine hck.mono ?_
        clear hck
        rintro e w5 ⟨Ax,cx,rfl,_,hg5,hnil⟩
        obtain rfl:=hnil rfl
        replace hd:=Lib.hid (hd.out.g hg5)
        clear q0 q1 q2 q2' hg5 hnil
        replace hno:=Lib.hid hno
        have hg:=(G.refl w).gOf' hd.out.but (fun k e=>by rw [e];omega)
        have hZ:=hd.out.res
        have q0:=hd.out.c0
        have q1:=hd.out.c1
        have q2':=hd.out.c2
        have f0:=hd.out.free 0
        have f1:=hd.out.free 1
        have f2:=hd.out.free 2
        have hE:=blk3 hZ (.string ⟨#[]⟩) (.slice none 0 0) (.slice none 0 0)
        have hgs:=hg.set3' (Nat.le_refl _) (.string ⟨#[]⟩) (.slice none 0 0) (.slice none 0 0)
        have e0:=(blk_cell hE 0).trans (show _=some (.string ⟨#[]⟩) from rfl)
        have e1:=(blk_cell hE 1).trans (show _=some (.slice none 0 0) from rfl)
        have e2:=(blk_cell hE 2).trans (show _=some (.slice none 0 0) from rfl)
        replace e0:=Lib.hid e0
        replace e1:=Lib.hid e1
        replace e2:=Lib.hid e2
        replace hgs:=Lib.hid hgs
        clear hE hg hZ
        go_wp2_with fail
        have e0:=e0.out
        have e1:=e1.out
        have e2:=e2.out
        refine bodyPost_ret (v:=.tuple #[.agg #[.string ⟨#[]⟩,.slice none 0 0,.slice none 0 0],.int .i64 0,.int .i64 10]) (by simp [results,Tryz.results75,go_sem,e0,e1,e2]) rfl ?_
        exact ⟨⟨#[]⟩,none,none,0,0,[],[],0,10,rfl,by rw [hno.out];rfl,⟨by decide,⟨by simp,fun _ h=>by cases h⟩,by simp,fun _ h=>by cases h⟩,⟨OwnL.nil,OwnL.nil⟩,hgs.out⟩
       | true =>
        have hne:smL ⟨strOf s,es,ks⟩≠[]:=by
         rw [smL_ok hok]
         intro h
         have:=smBytes_pos ⟨strOf s,es,ks⟩
         rw [h] at this
         simp at this
        rw [if_pos hok] at hgv
        generalize smL ⟨strOf s,es,ks⟩=sl at *
        replace hne:=Lib.hid hne
        replace hok:=Lib.hid hok
        replace hgv:=Lib.hid hgv
        replace hsm:=Lib.hid hsm
        clear hmo
        go_wp2_with fail
        refine hck.mono ?_
        clear hck
        rintro e w5 ⟨Ax,cx,rfl,hownx,hg5,_⟩
        obtain ⟨ad,rfl⟩:∃a,Ax=some a:=by
         rcases Ax with _ | a
         ·exact absurd ((OwnL.self byteC_len hownx).of_none) hne.out
         ·exact ⟨a,rfl⟩
        replace hd:=hd.out.g hg5
        clear q0 q1 q2 q2' hownx
        have hZ:=hd.res
        have q0:=hd.c0
        have q1:=hd.c1
        have q3:=hd.c2
        have q2:=hd.rd.c2
        have f0:=hd.free 0
        have f1:=hd.free 1
        have f2:=hd.free 2
        have k1:=hd.rd.end
        unfold Option.isNone at q2
        have hE:=blk3 hZ (.string (strOf s)) (.slice Ae es.length ce) (.slice Ak ks.length ck)
        have hgs:=(hg.trans hg5).set3' (Nat.le_refl _) (.string (strOf s)) (.slice Ae es.length ce) (.slice Ak ks.length ck)
        have e0:=(blk_cell hE 0).trans (show _=some (.string (strOf s)) from rfl)
        have e1:=(blk_cell hE 1).trans (show _=some (.slice Ae es.length ce) from rfl)
        have e2:=(blk_cell hE 2).trans (show _=some (.slice Ak ks.length ck) from rfl)
        have hps:=hd.own.but (but_set3 w5 w.heap.size (.string (strOf s)) (.slice Ae es.length ce) (.slice Ak ks.length ck)) (fun k cs t e h1=>by
         subst e
         rw [hZ] at h1
         cases h1
         decide)
        have hne2:w.heap.size+1≠w.heap.size:=by omega
        replace e0:=Lib.hid e0
        replace e1:=Lib.hid e1
        replace e2:=Lib.hid e2
        replace hgs:=Lib.hid hgs
        replace hps:=Lib.hid hps
        clear hE hg hg5 hZ hd
        generalize hnn:l.length - lx.length=nn at *
        replace hnn:=Lib.hid hnn
        go_wp2_with fail
        go_region
        go_wp2_with fail
        have e0:=e0.out
        have e1:=e1.out
        have e2:=e2.out
        refine bodyPost_ret (v:=.tuple #[.agg #[.string (strOf s),.slice Ae es.length ce,.slice Ak ks.length ck],.int .i64 nn,.int .i64 0]) (by simp [results,Tryz.results75,go_sem,e0,e1,e2]) rfl ?_
        exact ⟨strOf s,Ae,Ak,ce,ck,es,ks,nn,0,rfl,by rw [hgv.out,←hnn.out];rfl,hsm.out,hps.out.g (G.refl _).drew,hgs.out.drew⟩
      ·obtain ⟨j,rfl⟩:∃j,k=j+1:=⟨k - 1,by omega⟩
       have hwk:=wrap_less (j:=j) (by omega)
       have hc:=text_any (w.heap.size+1) A c8 l (some lx) wo hd.out.rd hl2 hcap
       obtain ⟨sk,st5,h5⟩:∃v t,gv [] dText (some lx)=(v,t):=⟨_,_,rfl⟩
       rw [h5] at hc
       have g5:=gv_gives h5
       have hj1:0 < ((j+1:Nat):Int):=by omega
       replace g5:=Lib.hid g5
       clear h5 hk
       go_wp2_with fail
       refine hc.mono ?_
       clear hc
       rintro e wa ⟨rfl,hr5,hb5⟩
       replace hd:=Lib.hid (hd.out.call hr5 hb5)
       have hi:=KnSt.begin (s:=strOf sk) hr5
       have hc:=count_any' (w.heap.size+1) A c8 l st5 _ hi.rd hl2 hcap 1099511627776 1099511627776 rfl (by omega)
       obtain ⟨v,st6,h6⟩:∃v t,gv 0 (dCount 1099511627776) st5=(v,t):=⟨_,_,rfl⟩
       rw [h6] at hc
       have g6:=gv_gives h6
       replace g6:=Lib.hid g6
       replace hi:=Lib.hid hi
       clear h6 hr5 hb5 q2
       go_wp2_with fail
       refine hc.mono ?_
       clear hc
       rintro e w6 ⟨rfl,hr6,hb6⟩
       replace hi:=hi.out.call hr6 hb6
       have x1:=(hi.cell 1).trans (show _=some (.int .i64 0) from rfl)
       have x1f:=hi.free 1
       replace hi:=(hi.put 1 (.int .i64 v)).as (show _=#[.string (strOf sk),.int .i64 v,.int .i64 0,.int .i64 0,.int .i64 0] from rfl)
       have hc:=rstamp_any (w.heap.size+1) A c8 l st6 _ hi.rd hl2 hcap
       obtain ⟨⟨ta,tb,tc⟩,st7,h7⟩:∃v t,gv zSt dStamp st6=(v,t):=⟨_,_,rfl⟩
       rw [h7] at hc
       unfold stVal stV at hc
       dsimp only at hc
       have g7:=gv_gives h7
       replace g7:=Lib.hid g7
       replace hi:=Lib.hid hi
       clear h7 hr6 hb6
       go_wp2_with fail
       refine hc.mono ?_
       clear hc
       rintro e w7 ⟨rfl,hr7,hb7⟩
       replace hi:=hi.out.call hr7 hb7
       have y2:=(hi.cell 2).trans (show _=some (.int .i64 0) from rfl)
       have y3:=(hi.cell 3).trans (show _=some (.int .i64 0) from rfl)
       have y4:=(hi.cell 4).trans (show _=some (.int .i64 0) from rfl)
       have y2f:=hi.free 2
       have y3f:=hi.free 3
       have y4f:=hi.free 4
       replace hi:=(((hi.put 2 (.int .i64 ta)).put 3 (.int .i64 tb)).put 4 (.int .i64 tc)).as (show _=#[.string (strOf sk),.int .i64 v,.int .i64 ta,.int .i64 tb,.int .i64 tc] from rfl)
       have z0:=(hi.cell 0).trans (show _=some (.string (strOf sk)) from rfl)
       have z1:=(hi.cell 1).trans (show _=some (.int .i64 v) from rfl)
       have z2:=(hi.cell 2).trans (show _=some (.int .i64 ta) from rfl)
       have z3:=(hi.cell 3).trans (show _=some (.int .i64 tb) from rfl)
       have z4:=(hi.cell 4).trans (show _=some (.int .i64 tc) from rfl)
       have hgk:=known_gives g5.out g6.out g7.out
       have hlf2:=Left.step hlf.out hl eats_known hgk
       have hmo2:=hmo.out.step hgk
       have hb:=hi.but
       have hws:=hd.out.but.size
       replace hd:=hd.out.call hi.rd hb
       have c2:=hd.c2
       obtain ⟨y,hy⟩:∃y:Kn,y=⟨strOf sk,v,⟨ta,tb,tc⟩⟩:=⟨_,rfl⟩
       obtain ⟨ks',hks⟩:∃ks',ks++[y]=ks':=⟨_,rfl⟩
       rw [←hy,hks] at hmo2
       have hkl:ks'.length=ks.length+1:=by rw [←hks];simp
       have hkb:=hlf.out.1
       rw [←hkl] at hlf2
       replace hd:=Lib.hid hd
       replace hmo2:=Lib.hid hmo2
       replace hlf2:=Lib.hid hlf2
       replace hkl:=Lib.hid hkl
       replace hks:=Lib.hid hks
       replace hy:=Lib.hid hy
       clear hgk hmo hlf hb hr7 hb7 hi
       go_upto_region 13 with fail
       generalize ((w7.setCell ⟨wa.heap.size,2,none⟩ (.int .i64 ta)).setCell ⟨wa.heap.size,3,none⟩ (.int .i64 tb)).setCell ⟨wa.heap.size,4,none⟩ (.int .i64 tc)=wz at *
       clear y2 y3 y4 y2f y3f y4f x1 x1f
       go_wp2_with (at_builtin;refine wpList_append_but kns_elem _ rfl (.tmp 58) (.tmp 60) rfl w.heap.size _ ks rfl (hd.out.own.kns.g (G.new _ _)) (wz.heap.size+1) (some ⟨wz.heap.size,0,none⟩) 1 [y] rfl (by intro h;cases h) (Sl.of_blk Kn.cells_len _ (blk_new _ _ _) (by rw [hy.out];rfl) (by omega)) (by simp;omega) (by simp;omega) (by have:=hd.out.but.size;simp;omega) ?_;intro v8 w8 hown8 hk8 hb8;rw [hks.out] at hown8;obtain ⟨A8,c8',e8,_,_,_⟩:=OwnL.sl Kn.cells_len hown8;subst e8;obtain ⟨zf,⟨u,zc⟩,hd8⟩:=(hd.out.g (G.new _ _)).pushK hown8 hk8 hb8;replace hd8:=Lib.hid hd8)
       go_roundw
       case rel=>exact ⟨j,A8,c8',ks',st7,by first | go_num | rfl,by omega,hlf2,hd8,hmo2⟩
       case measure=>(simp [intOf] <;> omega)
   ·obtain ⟨j,rfl⟩:∃j,k=j+1:=⟨k - 1,by omega⟩
    have hwk:=wrap_less (j:=j) (by omega)
    have hid:=hd.out.g (G.refl wo).drew
    have x1:=hid.c1
    have x1w:=hd.out.c1
    have hg:=(G.refl w).gOf' hid.but (fun k e=>by rw [e];omega)
    have hc:=revent_any (w.heap.size+1) A c8 l (some lx) _ hid.rd hl2 hcap (hT.out.g hg)
    have hj1:0 < ((j+1:Nat):Int):=by omega
    have hkb:=hlf.out.1
    replace hid:=Lib.hid hid
    clear hk hd hg
    go_upto_region 6 with fail
    go_region_law (first
     | (refine step_append_but evs_elem _ (by kernel_rfl) (.tmp 29) (.tmp 32) rfl w.heap.size _ es rfl (hi5.out.own.evs.g (G.new _ _)) (w5.heap.size+1) (some ⟨w5.heap.size,0,none⟩) 1 [x] rfl (by intro h;cases h) (Sl.of_blk Ev.cells_len _ (blk_new _ _ _) (by rw [hx.out];rfl) (by omega)) (by simp;omega) (by simp;omega) (by have:=hi5.out.but.size;simp;omega) ?_;intro v6 w6 hown6 hk6 hb6;rw [hes.out] at hown6;obtain ⟨A6,c6,e6,_,_,_⟩:=OwnL.sl Ev.cells_len hown6;subst e6;obtain ⟨zf,⟨u,zc⟩,hd6⟩:=(hi5.out.g (G.new _ _)).pushE hown6 hk6 hb6;replace hd6:=Lib.hid hd6)
     | (go_simp;go_at_call 103;refine Calls.mono hc ?_;rintro e w5 ⟨⟨xs,xv,xd,⟨xa,xb,xc⟩,xi⟩,st6,he5,hr5,hb5,g5⟩;simp only [evVal,Ev.cells] at he5;subst he5;have hi5:=hid.out.call hr5 hb5;have x5:=hi5.c1;have x5b:=(hi5.g (G.new w5 (.cells #[.string xs,.int .i64 xv,.string xd,.int .i64 xa,.int .i64 xb,.int .i64 xc,.int .i64 xi] 76))).c1;obtain ⟨x,hx⟩:∃x:Ev,x=⟨xs,xv,xd,⟨xa,xb,xc⟩,xi⟩:=⟨_,rfl⟩;rw [←hx] at g5;obtain ⟨es',hes⟩:∃es',es++[x]=es':=⟨_,rfl⟩;have hmo2:=hmo.out.step g5;rw [hes] at hmo2;have hlf2:=Left.step hlf.out hl eats_event g5;have hel:es'.length=es.length+1:=(by rw [←hes];simp);rw [←hel] at hlf2;replace hi5:=Lib.hid hi5;replace hx:=Lib.hid hx;replace hes:=Lib.hid hes;replace hmo2:=Lib.hid hmo2;replace hlf2:=Lib.hid hlf2;clear g5 hel hr5 hb5))
    all_goals
     go_wp2_with fail
     go_roundw
     case rel=>exact ⟨j,A6,c6,es',st6,by first | go_num | rfl,by omega,hlf2,hd6,hmo2⟩
     case measure=>(simp [intOf] <;> omega)
end Go.Proofs.YtheogchkelmeeaaGreatDoor

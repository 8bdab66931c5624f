/- event's reader's stamp, penstockref7's Eye's Stamp: what they give and leave. Conditions: lengths of at most 2^30. -/
import Derived.Test.YtheogchkelmeeaaGreatDoorStDecQMsgDecodes
namespace Go.Proofs.YtheogchkelmeeaaGreatDoor
open Go.RowKit
/-- A block of three cells that was laid ahead of a call. -/
theorem own3 {W wm : World} {x y z : Value} {t : TypeId} (h : G (W.drew.alloc (.cells #[x, y, z] t)) wm) :
  (wm.cell? ⟨W.heap.size,0,none⟩=some x∧wm.cell? ⟨W.heap.size,1,none⟩=some y∧wm.cell? ⟨W.heap.size,2,none⟩=some z)∧wm.frozen? ⟨W.heap.size,0,none⟩=false∧wm.frozen? ⟨W.heap.size,1,none⟩=false∧wm.frozen? ⟨W.heap.size,2,none⟩=false:=by
 have hb:wm.heap[W.heap.size]?=some (.cells #[x,y,z] t (0,0)):=h.blk (blk_new W.drew _ _)
 exact ⟨⟨(blk_cell hb 0).trans rfl,(blk_cell hb 1).trans rfl,(blk_cell hb 2).trans rfl⟩,by simp [World.frozen?,hb],by simp [World.frozen?,hb],by simp [World.frozen?,hb]⟩
theorem But.set3 {S:Nat→Prop} {a w:World} (h:But S a w) {g:Nat} (hg:a.heap.size≤g) (x y z:Value):But S a (((w.setCell ⟨g,0,none⟩ x).setCell ⟨g,1,none⟩ y).setCell ⟨g,2,none⟩ z) :=
 ((h.set (p:=⟨g,0,none⟩) (.inl hg) x).set (p:=⟨g,1,none⟩) (.inl hg) y).set (p:=⟨g,2,none⟩) (.inl hg) z
theorem but_set3 (w:World) (g:Nat) (x y z:Value):But (fun k=>k=g) w (((w.setCell ⟨g,0,none⟩ x).setCell ⟨g,1,none⟩ y).setCell ⟨g,2,none⟩ z) :=
 (((but_set w g 0 x).trans (but_set _ g 1 y))).trans (but_set _ g 2 z)
set_option maxRecDepth 100000 in
set_option maxHeartbeats 2000000 in
theorem rstamp_any (R : Nat) (A : Option Addr) (c8 : Nat) (l0 : List UInt8) (st : Option (List UInt8)) (w : World) (h : RdS 166 R A c8 l0 st w) (hl : l0.length ≤ 1073741824) (hcap : l0.length ≤ c8) :
  Calls Tryz.prog 104 #[.pointer (some ⟨R,0,none⟩)] w (RdPost 166 R A c8 l0 w (stVal (gv zSt dStamp st).1) (gv zSt dStamp st).2):=by
 obtain ⟨p,hp,hst,hr⟩:=h
 obtain ⟨A',hrun,hsl⟩:=run_tail l0 A c8 p hp hcap
 have hrun2:∀w,(Instr.sliceAt 22 (.slice A l0.length c8) (some (.int .i64 p)) none none).run Tryz.prog w=.ok (.slice A' (l0.drop p).length (c8 - p)) w:=fun w=>by rw [run_sliceAt_slice _ _ _ _ _ _ (show Tryz.prog.underlying 22=some (.slice (Tryz.prog.elem 22)) by kernel_rfl)];exact hrun w
 have hu:∀w',G (w.alloc (.cells #[.int .i64 0,.int .i64 0,.int .i64 0] 33)) w'→Calls Tryz.prog 72 #[.slice A' (l0.drop p).length (c8 - p)] w' fun e w''=>e=.returned (stT (l0.drop p) (dStamp (l0.drop p)))∧G w' w'':=fun w' hg=>
  stDec_any (l0.drop p) A' (c8 - p) w' ((((hsl w R hr.2).more (Nat.le_of_lt hr.lt)).g (Nat.le_refl _) ((G.new _ _).trans hg)).more ((G.new _ _).trans hg).size) (by rw [List.length_drop];omega) (by rw [List.length_drop];omega)
 have hll:(l0.drop p).length=l0.length - p:=List.length_drop
 have hRw:=hr.lt
 generalize hW0:w.alloc (.cells #[.int .i64 0,.int .i64 0,.int .i64 0] 33)=W0 at *
 have hG0:G w W0:=by rw [←hW0];exact G.new _ _
 have hz0:W0.heap.size=w.heap.size+1:=by rw [←hW0];simp
 have hS0:W0.heap[w.heap.size]?=some (.cells #[.int .i64 0,.int .i64 0,.int .i64 0] 33 (0,0)):=by rw [←hW0];exact blk_new _ _ _
 have hr0:=hr.g hG0
 have k0:∀w',G W0 w'→w'.cell? ⟨R,0,none⟩=some (.slice A l0.length c8):=fun w' h=>(hr0.g h).c0
 have k1:∀w',G W0 w'→w'.cell? ⟨R,1,none⟩=some (.int .i64 p):=fun w' h=>(hr0.g h).c1
 replace hS0:=Lib.hid hS0
 replace hr0:=Lib.hid hr0
 replace hll:=Lib.hid hll
 replace hp:=Lib.hid hp
 replace hz0:=Lib.hid hz0
 replace hst:=Lib.hid hst
 clear hr
 cases hx:dStamp (l0.drop p) with
 | none =>
  rw [hx] at hu
  unfold stT stV at hu
  replace hx:=Lib.hid hx
  generalize l0.drop p=l at *
  go_enter Tryz.func104,Tryz.ntmps104
  go_wp2_with fail
  clear hW0
  go_region_held3 (fun w'=>G W0 w') (first | exact (G.refl _).drew | exact hgm.keep (by assumption) | exact G.alloc (by assumption) _ | exact (hgm.keep (G.refl W0).drew).alloc _ | exact G.set3 (by assumption) (by first | exact Nat.le_refl _ | exact G.size hgm | exact G.size (by assumption)) _ _ _ | assumption | fail) (first|(go_at_call 72;refine (hu _ (by assumption)).mono ?_;rintro e wm ⟨rfl,hgm⟩;(first|(have z:=own3 hgm;obtain ⟨⟨z0,z1,z2⟩,z3,z4,z5⟩:=z) | skip)))
  all_goals rename_i hX
  ·generalize wm.alloc (.cells #[.int .i64 0,.int .i64 0,.int .i64 0] 33)=wd at *
   replace hr0:=hr0.out
   have hr:=hr0.g hX
   have ho:=over_bad R A c8 l0 p _ 0 wd hr (.inr rfl)
   clear k0 k1 hu
   replace hr0:=Lib.hid hr0
   replace hr:=Lib.hid hr
   go_wp2_with fail
   refine ho.mono ?_
   clear ho
   rintro e w2 ⟨rfl,hr2,hb2⟩
   have hS:=hb2.blk (hX.blk hS0.out) (by omega)
   have q0:=(blk_cell hS 0).trans (show _=some (.int .i64 0) from rfl)
   have q1:=(blk_cell hS 1).trans (show _=some (.int .i64 0) from rfl)
   have q2:=(blk_cell hS 2).trans (show _=some (.int .i64 0) from rfl)
   have fq:∀o,w2.frozen? ⟨w.heap.size,o,none⟩=false:=fun o=>by simp [World.frozen?,hS]
   have f0:=fq 0
   have f1:=fq 1
   have f2:=fq 2
   have hb3:=blk3 hS (.int .i64 0) (.int .i64 0) (.int .i64 0)
   have e0:=(blk_cell hb3 0).trans (show _=some (.int .i64 0) from rfl)
   have e1:=(blk_cell hb3 1).trans (show _=some (.int .i64 0) from rfl)
   have e2:=(blk_cell hb3 2).trans (show _=some (.int .i64 0) from rfl)
   have hbt:=(((But.of_g (S:=fun k=>k=R) (hG0.trans hX)).trans hb2)).set3 (Nat.le_refl _) (.int .i64 0) (.int .i64 0) (.int .i64 0)
   have hr3:=hr2.but (but_set3 w2 w.heap.size (.int .i64 0) (.int .i64 0) (.int .i64 0)) (by omega)
   replace e0:=Lib.hid e0
   replace e1:=Lib.hid e1
   replace e2:=Lib.hid e2
   replace hb3:=Lib.hid hb3
   replace hbt:=Lib.hid hbt
   replace hr3:=Lib.hid hr3
   replace hS:=Lib.hid hS
   clear fq hr2 hb2
   go_wp2_with fail
   have e0:=e0.out
   have e1:=e1.out
   have e2:=e2.out
   refine bodyPost_ret (v:=.agg #[.int .i64 0,.int .i64 0,.int .i64 0]) (by simp [results,Tryz.results104,go_sem,e0,e1,e2]) rfl ?_
   have hgv:gv zSt dStamp st=(zSt,none):=by
    cases st with
    | none=>rfl
    | some l1 =>
     obtain rfl:=hst.out l1 rfl
     exact gv_none hx.out
   rw [hgv]
   exact ⟨rfl,⟨p,hp.out,(fun _ h=>by cases h),hr3.out⟩,hbt.out⟩
  ·generalize ((wm.setCell ⟨W0.heap.size,0,none⟩ (.int .i64 0)).setCell ⟨W0.heap.size,1,none⟩ (.int .i64 0)).setCell ⟨W0.heap.size,2,none⟩ (.int .i64 0)=wd at *
   replace hr0:=hr0.out
   have hr:=hr0.g hX
   have ho:=over_bad R A c8 l0 p _ 0 wd hr (.inr rfl)
   clear k0 k1 hu
   replace hr0:=Lib.hid hr0
   replace hr:=Lib.hid hr
   go_wp2_with fail
   refine ho.mono ?_
   clear ho
   rintro e w2 ⟨rfl,hr2,hb2⟩
   have hS:=hb2.blk (hX.blk hS0.out) (by omega)
   have q0:=(blk_cell hS 0).trans (show _=some (.int .i64 0) from rfl)
   have q1:=(blk_cell hS 1).trans (show _=some (.int .i64 0) from rfl)
   have q2:=(blk_cell hS 2).trans (show _=some (.int .i64 0) from rfl)
   have fq:∀o,w2.frozen? ⟨w.heap.size,o,none⟩=false:=fun o=>by simp [World.frozen?,hS]
   have f0:=fq 0
   have f1:=fq 1
   have f2:=fq 2
   have hb3:=blk3 hS (.int .i64 0) (.int .i64 0) (.int .i64 0)
   have e0:=(blk_cell hb3 0).trans (show _=some (.int .i64 0) from rfl)
   have e1:=(blk_cell hb3 1).trans (show _=some (.int .i64 0) from rfl)
   have e2:=(blk_cell hb3 2).trans (show _=some (.int .i64 0) from rfl)
   have hbt:=(((But.of_g (S:=fun k=>k=R) (hG0.trans hX)).trans hb2)).set3 (Nat.le_refl _) (.int .i64 0) (.int .i64 0) (.int .i64 0)
   have hr3:=hr2.but (but_set3 w2 w.heap.size (.int .i64 0) (.int .i64 0) (.int .i64 0)) (by omega)
   replace e0:=Lib.hid e0
   replace e1:=Lib.hid e1
   replace e2:=Lib.hid e2
   replace hb3:=Lib.hid hb3
   replace hbt:=Lib.hid hbt
   replace hr3:=Lib.hid hr3
   replace hS:=Lib.hid hS
   clear fq hr2 hb2
   go_wp2_with fail
   have e0:=e0.out
   have e1:=e1.out
   have e2:=e2.out
   refine bodyPost_ret (v:=.agg #[.int .i64 0,.int .i64 0,.int .i64 0]) (by simp [results,Tryz.results104,go_sem,e0,e1,e2]) rfl ?_
   have hgv:gv zSt dStamp st=(zSt,none):=by
    cases st with
    | none=>rfl
    | some l1 =>
     obtain rfl:=hst.out l1 rfl
     exact gv_none hx.out
   rw [hgv]
   exact ⟨rfl,⟨p,hp.out,(fun _ h=>by cases h),hr3.out⟩,hbt.out⟩
 | some y =>
  obtain ⟨⟨sa,sb,sc⟩,r⟩:=y
  rw [hx] at hu
  unfold stT stV at hu
  have hlen:=dStamp_len hx
  obtain ⟨n,hn⟩:∃n,(l0.drop p).length - r.length=n:=⟨_,rfl⟩
  simp only [hn] at hu
  rw [hn] at hlen
  have hn0:0 < n∧n≤(l0.drop p).length:=by omega
  have hdr:=hlen.2
  replace hx:=Lib.hid hx
  replace hn:=Lib.hid hn
  replace hdr:=Lib.hid hdr
  clear hlen
  generalize hdl:l0.drop p=l at *
  replace hdl:=Lib.hid hdl
  cases st with
  | none =>
   go_enter Tryz.func104,Tryz.ntmps104
   go_wp2_with fail
   clear hW0
   go_region_held3 (fun w'=>G W0 w') (first | exact (G.refl _).drew | exact hgm.keep (by assumption) | exact G.alloc (by assumption) _ | exact (hgm.keep (G.refl W0).drew).alloc _ | exact G.set3 (by assumption) (by first | exact Nat.le_refl _ | exact G.size hgm | exact G.size (by assumption)) _ _ _ | assumption | fail) (first|(go_at_call 72;refine (hu _ (by assumption)).mono ?_;rintro e wm ⟨rfl,hgm⟩;(first|(have z:=own3 hgm;obtain ⟨⟨z0,z1,z2⟩,z3,z4,z5⟩:=z) | skip)))
   all_goals rename_i hX
   ·generalize wm.alloc (.cells #[.int .i64 sa,.int .i64 sb,.int .i64 sc] 33)=wd at *
    replace hr0:=hr0.out
    have hr:=hr0.g hX
    have ho:=over_bad R A c8 l0 p _ n wd hr (.inl rfl)
    clear k0 k1 hu
    replace hr0:=Lib.hid hr0
    replace hr:=Lib.hid hr
    go_wp2_with fail
    refine ho.mono ?_
    clear ho
    rintro e w2 ⟨rfl,hr2,hb2⟩
    have hS:=hb2.blk (hX.blk hS0.out) (by omega)
    have q0:=(blk_cell hS 0).trans (show _=some (.int .i64 0) from rfl)
    have q1:=(blk_cell hS 1).trans (show _=some (.int .i64 0) from rfl)
    have q2:=(blk_cell hS 2).trans (show _=some (.int .i64 0) from rfl)
    have fq:∀o,w2.frozen? ⟨w.heap.size,o,none⟩=false:=fun o=>by simp [World.frozen?,hS]
    have f0:=fq 0
    have f1:=fq 1
    have f2:=fq 2
    have hb3:=blk3 hS (.int .i64 0) (.int .i64 0) (.int .i64 0)
    have e0:=(blk_cell hb3 0).trans (show _=some (.int .i64 0) from rfl)
    have e1:=(blk_cell hb3 1).trans (show _=some (.int .i64 0) from rfl)
    have e2:=(blk_cell hb3 2).trans (show _=some (.int .i64 0) from rfl)
    have hbt:=(((But.of_g (S:=fun k=>k=R) (hG0.trans hX)).trans hb2)).set3 (Nat.le_refl _) (.int .i64 0) (.int .i64 0) (.int .i64 0)
    have hr3:=hr2.but (but_set3 w2 w.heap.size (.int .i64 0) (.int .i64 0) (.int .i64 0)) (by omega)
    replace e0:=Lib.hid e0
    replace e1:=Lib.hid e1
    replace e2:=Lib.hid e2
    replace hb3:=Lib.hid hb3
    replace hbt:=Lib.hid hbt
    replace hr3:=Lib.hid hr3
    replace hS:=Lib.hid hS
    clear fq hr2 hb2
    go_wp2_with fail
    have e0:=e0.out
    have e1:=e1.out
    have e2:=e2.out
    refine bodyPost_ret (v:=.agg #[.int .i64 0,.int .i64 0,.int .i64 0]) (by simp [results,Tryz.results104,go_sem,e0,e1,e2]) rfl ?_
    exact ⟨rfl,⟨p,hp.out,(fun _ h=>by cases h),hr3.out⟩,hbt.out⟩
   ·generalize ((wm.setCell ⟨W0.heap.size,0,none⟩ (.int .i64 sa)).setCell ⟨W0.heap.size,1,none⟩ (.int .i64 sb)).setCell ⟨W0.heap.size,2,none⟩ (.int .i64 sc)=wd at *
    replace hr0:=hr0.out
    have hr:=hr0.g hX
    have ho:=over_bad R A c8 l0 p _ n wd hr (.inl rfl)
    clear k0 k1 hu
    replace hr0:=Lib.hid hr0
    replace hr:=Lib.hid hr
    go_wp2_with fail
    refine ho.mono ?_
    clear ho
    rintro e w2 ⟨rfl,hr2,hb2⟩
    have hS:=hb2.blk (hX.blk hS0.out) (by omega)
    have q0:=(blk_cell hS 0).trans (show _=some (.int .i64 0) from rfl)
    have q1:=(blk_cell hS 1).trans (show _=some (.int .i64 0) from rfl)
    have q2:=(blk_cell hS 2).trans (show _=some (.int .i64 0) from rfl)
    have fq:∀o,w2.frozen? ⟨w.heap.size,o,none⟩=false:=fun o=>by simp [World.frozen?,hS]
    have f0:=fq 0
    have f1:=fq 1
    have f2:=fq 2
    have hb3:=blk3 hS (.int .i64 0) (.int .i64 0) (.int .i64 0)
    have e0:=(blk_cell hb3 0).trans (show _=some (.int .i64 0) from rfl)
    have e1:=(blk_cell hb3 1).trans (show _=some (.int .i64 0) from rfl)
    have e2:=(blk_cell hb3 2).trans (show _=some (.int .i64 0) from rfl)
    have hbt:=(((But.of_g (S:=fun k=>k=R) (hG0.trans hX)).trans hb2)).set3 (Nat.le_refl _) (.int .i64 0) (.int .i64 0) (.int .i64 0)
    have hr3:=hr2.but (but_set3 w2 w.heap.size (.int .i64 0) (.int .i64 0) (.int .i64 0)) (by omega)
    replace e0:=Lib.hid e0
    replace e1:=Lib.hid e1
    replace e2:=Lib.hid e2
    replace hb3:=Lib.hid hb3
    replace hbt:=Lib.hid hbt
    replace hr3:=Lib.hid hr3
    replace hS:=Lib.hid hS
    clear fq hr2 hb2
    go_wp2_with fail
    have e0:=e0.out
    have e1:=e1.out
    have e2:=e2.out
    refine bodyPost_ret (v:=.agg #[.int .i64 0,.int .i64 0,.int .i64 0]) (by simp [results,Tryz.results104,go_sem,e0,e1,e2]) rfl ?_
    exact ⟨rfl,⟨p,hp.out,(fun _ h=>by cases h),hr3.out⟩,hbt.out⟩
  | some l1 =>
   obtain rfl:=hst.out l1 rfl
   clear hst
   rw [gv_some hx.out]
   show Calls _ _ _ _ (RdPost _ _ _ _ _ _ (.agg #[.int .i64 sa,.int .i64 sb,.int .i64 sc]) (some r))
   go_enter Tryz.func104,Tryz.ntmps104
   go_wp2_with fail
   clear hW0
   go_region_held3 (fun w'=>G W0 w') (first | exact (G.refl _).drew | exact hgm.keep (by assumption) | exact G.alloc (by assumption) _ | exact (hgm.keep (G.refl W0).drew).alloc _ | exact G.set3 (by assumption) (by first | exact Nat.le_refl _ | exact G.size hgm | exact G.size (by assumption)) _ _ _ | assumption | fail) (first|(go_at_call 72;refine (hu _ (by assumption)).mono ?_;rintro e wm ⟨rfl,hgm⟩;(first|(have z:=own3 hgm;obtain ⟨⟨z0,z1,z2⟩,z3,z4,z5⟩:=z) | skip)))
   all_goals rename_i hX
   ·have hQ:(wm.alloc (.cells #[.int .i64 sa,.int .i64 sb,.int .i64 sc] 33)).heap[wm.heap.size]?=some (.cells #[.int .i64 sa,.int .i64 sb,.int .i64 sc] 33 (0,0)):=blk_new _ _ _
    have hQz:W0.heap.size≤wm.heap.size:=(hgm.keep (G.refl W0).drew).size
    generalize wm.alloc (.cells #[.int .i64 sa,.int .i64 sb,.int .i64 sc] 33)=wd at *
    generalize wm.heap.size=Q at *
    replace hr0:=hr0.out
    have hr:=hr0.g hX
    have hnn:p+n≤l0.length:=by have:=hp.out;have:=hll.out;omega
    have ho:=over_ok R A c8 l0 p n wd hr hn0.1 (by omega)
    clear k0 k1 hu
    have hQR:R≠Q:=by have:=hr0.lt;have:=hz0.out;omega
    have hlast:l0.drop (p+n)=r:=by rw [←List.drop_drop,hdl.out,hdr.out]
    replace hr0:=Lib.hid hr0
    replace hr:=Lib.hid hr
    replace hlast:=Lib.hid hlast
    replace hnn:=Lib.hid hnn
    go_wp2_with fail
    refine ho.mono ?_
    clear ho
    rintro e w2 ⟨rfl,hr2,hb2⟩
    have hS:=hb2.blk (hX.blk hS0.out) (by omega)
    have q0:=(blk_cell hS 0).trans (show _=some (.int .i64 0) from rfl)
    have q1:=(blk_cell hS 1).trans (show _=some (.int .i64 0) from rfl)
    have q2:=(blk_cell hS 2).trans (show _=some (.int .i64 0) from rfl)
    have fq:∀o,w2.frozen? ⟨w.heap.size,o,none⟩=false:=fun o=>by simp [World.frozen?,hS]
    have f0:=fq 0
    have f1:=fq 1
    have f2:=fq 2
    have hb3:=blk3 hS (.int .i64 sa) (.int .i64 sb) (.int .i64 sc)
    have e0:=(blk_cell hb3 0).trans (show _=some (.int .i64 sa) from rfl)
    have e1:=(blk_cell hb3 1).trans (show _=some (.int .i64 sb) from rfl)
    have e2:=(blk_cell hb3 2).trans (show _=some (.int .i64 sc) from rfl)
    have hbt:=(((But.of_g (S:=fun k=>k=R) (hG0.trans hX)).trans hb2)).set3 (Nat.le_refl _) (.int .i64 sa) (.int .i64 sb) (.int .i64 sc)
    have hr3:=hr2.but (but_set3 w2 w.heap.size (.int .i64 sa) (.int .i64 sb) (.int .i64 sc)) (by omega)
    replace e0:=Lib.hid e0
    replace e1:=Lib.hid e1
    replace e2:=Lib.hid e2
    replace hb3:=Lib.hid hb3
    replace hbt:=Lib.hid hbt
    replace hr3:=Lib.hid hr3
    replace hS:=Lib.hid hS
    (have hQ2:=hb2.blk hQ (Ne.symm hQR);have x0:=(blk_cell hQ2 0).trans (show _=some (.int .i64 sa) from rfl);have x1:=(blk_cell hQ2 1).trans (show _=some (.int .i64 sb) from rfl);have x2:=(blk_cell hQ2 2).trans (show _=some (.int .i64 sc) from rfl);replace hQ2:=Lib.hid hQ2)
    clear fq hr2 hb2
    go_wp2_with fail
    have e0:=e0.out
    have e1:=e1.out
    have e2:=e2.out
    refine bodyPost_ret (v:=.agg #[.int .i64 sa,.int .i64 sb,.int .i64 sc]) (by simp [results,Tryz.results104,go_sem,e0,e1,e2]) rfl ?_
    exact ⟨rfl,⟨p+n,hnn.out,(fun _ h=>by cases h;exact hlast.out),hr3.out⟩,hbt.out⟩
   ·have hQ:=blk3 (w:=wm) (g:=W0.heap.size) (G.blk hgm (blk_new W0.drew #[.int .i64 0,.int .i64 0,.int .i64 0] 33)) (.int .i64 sa) (.int .i64 sb) (.int .i64 sc)
    have hQz:W0.heap.size≤W0.heap.size:=Nat.le_refl _
    generalize ((wm.setCell ⟨W0.heap.size,0,none⟩ (.int .i64 sa)).setCell ⟨W0.heap.size,1,none⟩ (.int .i64 sb)).setCell ⟨W0.heap.size,2,none⟩ (.int .i64 sc)=wd at *
    generalize hQQ:W0.heap.size=Q at *
    replace hr0:=hr0.out
    have hr:=hr0.g hX
    have hnn:p+n≤l0.length:=by have:=hp.out;have:=hll.out;omega
    have ho:=over_ok R A c8 l0 p n wd hr hn0.1 (by omega)
    clear k0 k1 hu
    have hQR:R≠Q:=by have:=hr0.lt;have:=hz0.out;omega
    have hlast:l0.drop (p+n)=r:=by rw [←List.drop_drop,hdl.out,hdr.out]
    replace hr0:=Lib.hid hr0
    replace hr:=Lib.hid hr
    replace hlast:=Lib.hid hlast
    replace hnn:=Lib.hid hnn
    go_wp2_with fail
    refine ho.mono ?_
    clear ho
    rintro e w2 ⟨rfl,hr2,hb2⟩
    have hS:=hb2.blk (hX.blk hS0.out) (by omega)
    have q0:=(blk_cell hS 0).trans (show _=some (.int .i64 0) from rfl)
    have q1:=(blk_cell hS 1).trans (show _=some (.int .i64 0) from rfl)
    have q2:=(blk_cell hS 2).trans (show _=some (.int .i64 0) from rfl)
    have fq:∀o,w2.frozen? ⟨w.heap.size,o,none⟩=false:=fun o=>by simp [World.frozen?,hS]
    have f0:=fq 0
    have f1:=fq 1
    have f2:=fq 2
    have hb3:=blk3 hS (.int .i64 sa) (.int .i64 sb) (.int .i64 sc)
    have e0:=(blk_cell hb3 0).trans (show _=some (.int .i64 sa) from rfl)
    have e1:=(blk_cell hb3 1).trans (show _=some (.int .i64 sb) from rfl)
    have e2:=(blk_cell hb3 2).trans (show _=some (.int .i64 sc) from rfl)
    have hbt:=(((But.of_g (S:=fun k=>k=R) (hG0.trans hX)).trans hb2)).set3 (Nat.le_refl _) (.int .i64 sa) (.int .i64 sb) (.int .i64 sc)
    have hr3:=hr2.but (but_set3 w2 w.heap.size (.int .i64 sa) (.int .i64 sb) (.int .i64 sc)) (by omega)
    replace e0:=Lib.hid e0
    replace e1:=Lib.hid e1
    replace e2:=Lib.hid e2
    replace hb3:=Lib.hid hb3
    replace hbt:=Lib.hid hbt
    replace hr3:=Lib.hid hr3
    replace hS:=Lib.hid hS
    (have hQ2:=hb2.blk hQ (Ne.symm hQR);have x0:=(blk_cell hQ2 0).trans (show _=some (.int .i64 sa) from rfl);have x1:=(blk_cell hQ2 1).trans (show _=some (.int .i64 sb) from rfl);have x2:=(blk_cell hQ2 2).trans (show _=some (.int .i64 sc) from rfl);replace hQ2:=Lib.hid hQ2)
    clear fq hr2 hb2
    go_wp2_with fail
    have e0:=e0.out
    have e1:=e1.out
    have e2:=e2.out
    refine bodyPost_ret (v:=.agg #[.int .i64 sa,.int .i64 sb,.int .i64 sc]) (by simp [results,Tryz.results104,go_sem,e0,e1,e2]) rfl ?_
    exact ⟨rfl,⟨p+n,hnn.out,(fun _ h=>by cases h;exact hlast.out),hr3.out⟩,hbt.out⟩
end Go.Proofs.YtheogchkelmeeaaGreatDoor

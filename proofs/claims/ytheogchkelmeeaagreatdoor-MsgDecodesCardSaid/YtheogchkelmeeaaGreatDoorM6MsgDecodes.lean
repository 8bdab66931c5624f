/- Several texts in one: RdNum, Eye. -/
import Derived.Test.YtheogchkelmeeaaGreatDoorM5MsgDecodes
/- event's reader: over, num, count, text; penstockref7's Eye: Num, Text: what they give and leave. Conditions: lengths that fit an int. -/
namespace Go.Proofs.YtheogchkelmeeaaGreatDoor
open Go.RowKit
set_option maxRecDepth 100000 in
set_option maxHeartbeats 400000 in
theorem over_bad (R : Nat) (A : Option Addr) (c8 : Nat) (l0 : List UInt8) (p : Nat) (b : Bool) (n : Int) (w : World) (h : RdAt 166 R A c8 l0 p b w) (hn : b = true ∨ n = 0) :
  Calls Tryz.prog 112 #[.pointer (some ⟨R,0,none⟩),.int .i64 n] w fun e w'=>e=.returned (.bool true)∧RdAt 166 R A c8 l0 p true w'∧But (fun k=>k=R) w w':=by
 have c2:=h.c2
 have hf:=h.free 2
 have hend:=h.bad true
 have d2:=hend.c2
 have hbut:=but_set w R 2 (.bool true)
 replace hend:=Lib.hid hend
 replace hbut:=Lib.hid hbut
 clear h
 cases b with
 | true =>
  clear hn
  go_enter Tryz.func112,Tryz.ntmps112
  go_wp2_with fail
  go_ret
  exact ⟨rfl,hend.out,hbut.out⟩
 | false =>
  obtain rfl:n=0:=by
   rcases hn with h | h
   ·cases h
   ·exact h
  go_enter Tryz.func112,Tryz.ntmps112
  go_wp2_with fail
  go_ret
  exact ⟨rfl,hend.out,hbut.out⟩
set_option maxRecDepth 100000 in
set_option maxHeartbeats 400000 in
theorem over_ok (R : Nat) (A : Option Addr) (c8 : Nat) (l0 : List UInt8) (p n : Nat) (w : World) (h : RdAt 166 R A c8 l0 p false w) (hn : 0 < n) (hl : p + n ≤ 9223372036854775807) :
  Calls Tryz.prog 112 #[.pointer (some ⟨R,0,none⟩),.int .i64 n] w fun e w'=>e=.returned (.bool false)∧RdAt 166 R A c8 l0 (p+n) false w'∧But (fun k=>k=R) w w':=by
 have c1:=h.c1
 have c2:=h.c2
 have hf:=h.free 2
 have h2:=h.bad false
 have d1:=h2.c1
 have d2:=h2.c2
 have f2:=h2.free 1
 have h3:=h2.at (p+n)
 have k2:=h3.c2
 have hbut:=(but_set w R 2 (.bool false)).trans (but_set _ R 1 (.int .i64 ((p+n:Nat):Int)))
 have ep:((p+n:Nat):Int)=(p:Int)+n:=by omega
 have t1:((n:Int) == 0)=false:=by rw [beq_eq_false_iff_ne];omega
 rw [ep] at h3 hbut k2
 replace h3:=Lib.hid h3
 replace hbut:=Lib.hid hbut
 clear h h2 ep hn
 go_enter Tryz.func112,Tryz.ntmps112
 go_wp2_with fail
 go_ret
 exact ⟨rfl,h3.out,hbut.out⟩
/-- Behind a call of Unvarint the two ways. -/
theorem dNum_none {l:List UInt8} (h:uL l=none):dNum l=none:=by unfold dNum;rw [h]
theorem dNum_some {l:List UInt8} {v n:Nat} (h:uL l=some (v,n)):dNum l=some (v,l.drop n):=by unfold dNum;rw [h]
theorem dText_none {l:List UInt8} (h:tL l=none):dText l=none:=by unfold dText;rw [h]
theorem dText_some {l s:List UInt8} {n:Nat} (h:tL l=some (s,n)):dText l=some (s,l.drop n):=by unfold dText;rw [h]
set_option maxRecDepth 100000 in
set_option maxHeartbeats 1000000 in
theorem num_any (R : Nat) (A : Option Addr) (c8 : Nat) (l0 : List UInt8) (st : Option (List UInt8)) (w : World) (h : RdS 166 R A c8 l0 st w) (hl : l0.length ≤ 1073741824) (hcap : l0.length ≤ c8) :
  Calls Tryz.prog 101 #[.pointer (some ⟨R,0,none⟩)] w (RdPost 166 R A c8 l0 w (.int .u64 (gv 0 dNum st).1) (gv 0 dNum st).2):=by
 obtain ⟨p,hp,hst,hr⟩:=h
 cases st with
 | none =>
  clear hst
  show Calls _ _ _ _ (RdPost _ _ _ _ _ _ (.int .u64 0) none)
  obtain ⟨A',hrun,hsl⟩:=run_tail l0 A c8 p hp hcap
  have hrun2:∀w,(Instr.sliceAt 22 (.slice A l0.length c8) (some (.int .i64 p)) none none).run Tryz.prog w=.ok (.slice A' (l0.drop p).length (c8 - p)) w:=fun w=>by rw [run_sliceAt_slice _ _ _ _ _ _ (show Tryz.prog.underlying 22=some (.slice (Tryz.prog.elem 22)) by kernel_rfl)];exact hrun w
  have hu:∀n,Calls Tryz.prog 73 #[.slice A' (l0.drop p).length (c8 - p)] (w.drewN n) fun e w'=>e=.returned (uT (uL (l0.drop p)))∧w'=w.drewN n:=fun n =>
   (unvarint_any (l0.drop p) A' (c8 - p) (w.drewN n) (((hsl w R hr.2).more (Nat.le_of_lt hr.lt)).g (Nat.le_refl _) ((G.refl w).drewN n)) (by rw [List.length_drop];omega) ).mono fun e w' ⟨h1,h2⟩=>⟨h1,h2.symm⟩
  have hll:(l0.drop p).length=l0.length - p:=List.length_drop
  generalize hdr:l0.drop p=l at *
  replace hdr:=Lib.hid hdr
  cases hx:uL l with
  | none =>
   rw [hx] at hu
   unfold uT at hu
   clear hx
   replace hll:=Lib.hid hll
   replace hp:=Lib.hid hp
   replace hcap:=Lib.hid hcap
   replace hl:=Lib.hid hl
   have c0:=hr.c0
   have c1:=hr.c1
   replace hr:=Lib.hid hr
   go_enter Tryz.func101,Tryz.ntmps101
   go_wp2_with fail
   go_quiet ((go_at_call 73;exact Calls.quiet_of_same (hu _)))
   clear hu hrun hrun2 hsl c0 c1
   generalize hwd:w.drewN _=wd
   have hgd:G w wd:=by rw [←hwd];exact (G.refl _).drewN _
   clear hwd
   replace hr:=hr.out.g hgd
   have ho:=over_bad R A c8 l0 p true 0 wd hr (.inl rfl)
   replace hr:=Lib.hid hr
   go_wp2_with fail
   refine ho.mono ?_
   clear ho
   rintro e w2 ⟨rfl,hr2,hb2⟩
   replace hr2:=Lib.hid hr2
   replace hb2:=Lib.hid hb2
   go_wp2_with fail
   go_ret
   exact ⟨rfl,⟨p,hp.out,(fun _ h=>by cases h),hr2.out⟩,(But.of_g hgd).trans hb2.out⟩
  | some y =>
   obtain ⟨v,n⟩:=y
   rw [hx] at hu
   unfold uT at hu
   clear hx
   replace hll:=Lib.hid hll
   replace hp:=Lib.hid hp
   replace hcap:=Lib.hid hcap
   replace hl:=Lib.hid hl
   have c0:=hr.c0
   have c1:=hr.c1
   replace hr:=Lib.hid hr
   go_enter Tryz.func101,Tryz.ntmps101
   go_wp2_with fail
   go_quiet ((go_at_call 73;exact Calls.quiet_of_same (hu _)))
   clear hu hrun hrun2 hsl c0 c1
   generalize hwd:w.drewN _=wd
   have hgd:G w wd:=by rw [←hwd];exact (G.refl _).drewN _
   clear hwd
   replace hr:=hr.out.g hgd
   have ho:=over_bad R A c8 l0 p true n wd hr (.inl rfl)
   replace hr:=Lib.hid hr
   go_wp2_with fail
   refine ho.mono ?_
   clear ho
   rintro e w2 ⟨rfl,hr2,hb2⟩
   replace hr2:=Lib.hid hr2
   replace hb2:=Lib.hid hb2
   go_wp2_with fail
   go_ret
   exact ⟨rfl,⟨p,hp.out,(fun _ h=>by cases h),hr2.out⟩,(But.of_g hgd).trans hb2.out⟩
 | some l1 =>
  obtain rfl:=hst l1 rfl
  clear hst
  obtain ⟨A',hrun,hsl⟩:=run_tail l0 A c8 p hp hcap
  have hrun2:∀w,(Instr.sliceAt 22 (.slice A l0.length c8) (some (.int .i64 p)) none none).run Tryz.prog w=.ok (.slice A' (l0.drop p).length (c8 - p)) w:=fun w=>by rw [run_sliceAt_slice _ _ _ _ _ _ (show Tryz.prog.underlying 22=some (.slice (Tryz.prog.elem 22)) by kernel_rfl)];exact hrun w
  have hu:∀n,Calls Tryz.prog 73 #[.slice A' (l0.drop p).length (c8 - p)] (w.drewN n) fun e w'=>e=.returned (uT (uL (l0.drop p)))∧w'=w.drewN n:=fun n =>
   (unvarint_any (l0.drop p) A' (c8 - p) (w.drewN n) (((hsl w R hr.2).more (Nat.le_of_lt hr.lt)).g (Nat.le_refl _) ((G.refl w).drewN n)) (by rw [List.length_drop];omega) ).mono fun e w' ⟨h1,h2⟩=>⟨h1,h2.symm⟩
  have hll:(l0.drop p).length=l0.length - p:=List.length_drop
  generalize hdr:l0.drop p=l at *
  replace hdr:=Lib.hid hdr
  cases hx:uL l with
  | none =>
   rw [hx] at hu
   unfold uT at hu
   rw [gv_none (dNum_none hx)]
   clear hx
   show Calls _ _ _ _ (RdPost _ _ _ _ _ _ (.int .u64 0) none)
   replace hll:=Lib.hid hll
   replace hp:=Lib.hid hp
   replace hcap:=Lib.hid hcap
   replace hl:=Lib.hid hl
   have c0:=hr.c0
   have c1:=hr.c1
   replace hr:=Lib.hid hr
   go_enter Tryz.func101,Tryz.ntmps101
   go_wp2_with fail
   go_quiet ((go_at_call 73;exact Calls.quiet_of_same (hu _)))
   clear hu hrun hrun2 hsl c0 c1
   generalize hwd:w.drewN _=wd
   have hgd:G w wd:=by rw [←hwd];exact (G.refl _).drewN _
   clear hwd
   replace hr:=hr.out.g hgd
   have ho:=over_bad R A c8 l0 p false 0 wd hr (.inr rfl)
   replace hr:=Lib.hid hr
   go_wp2_with fail
   refine ho.mono ?_
   clear ho
   rintro e w2 ⟨rfl,hr2,hb2⟩
   replace hr2:=Lib.hid hr2
   replace hb2:=Lib.hid hb2
   go_wp2_with fail
   go_ret
   exact ⟨rfl,⟨p,hp.out,(fun _ h=>by cases h),hr2.out⟩,(But.of_g hgd).trans hb2.out⟩
  | some y =>
   obtain ⟨v,n⟩:=y
   rw [hx] at hu
   unfold uT at hu
   have hbd:=uL_bd hx
   rw [gv_some (dNum_some hx)]
   clear hx
   show Calls _ _ _ _ (RdPost _ _ _ _ _ _ (.int .u64 v) (some (l.drop n)))
   replace hll:=Lib.hid hll
   replace hp:=Lib.hid hp
   replace hcap:=Lib.hid hcap
   replace hl:=Lib.hid hl
   have c0:=hr.c0
   have c1:=hr.c1
   replace hr:=Lib.hid hr
   go_enter Tryz.func101,Tryz.ntmps101
   go_wp2_with fail
   go_quiet ((go_at_call 73;exact Calls.quiet_of_same (hu _)))
   clear hu hrun hrun2 hsl c0 c1
   generalize hwd:w.drewN _=wd
   have hgd:G w wd:=by rw [←hwd];exact (G.refl _).drewN _
   clear hwd
   replace hr:=hr.out.g hgd
   have ho:=over_ok R A c8 l0 p n wd hr (by omega) (by have:=hp.out;have:=hl.out;have:=hll.out;omega)
   replace hr:=Lib.hid hr
   go_wp2_with fail
   refine ho.mono ?_
   clear ho
   rintro e w2 ⟨rfl,hr2,hb2⟩
   replace hr2:=Lib.hid hr2
   replace hb2:=Lib.hid hb2
   go_wp2_with fail
   go_ret
   exact ⟨rfl,⟨p+n,by have:=hp.out;have:=hll.out;omega,(fun _ h=>by cases h;rw [←List.drop_drop];exact congrArg _ hdr.out),hr2.out⟩,(But.of_g hgd).trans hb2.out⟩
set_option maxRecDepth 100000 in
set_option maxHeartbeats 1000000 in
theorem text_any (R : Nat) (A : Option Addr) (c8 : Nat) (l0 : List UInt8) (st : Option (List UInt8)) (w : World) (h : RdS 166 R A c8 l0 st w) (hl : l0.length ≤ 1073741824) (hcap : l0.length ≤ c8) :
  Calls Tryz.prog 98 #[.pointer (some ⟨R,0,none⟩)] w (RdPost 166 R A c8 l0 w (.string (strOf (gv [] dText st).1)) (gv [] dText st).2):=by
 obtain ⟨p,hp,hst,hr⟩:=h
 cases st with
 | none =>
  clear hst
  show Calls _ _ _ _ (RdPost _ _ _ _ _ _ (.string ByteArray.empty) none)
  obtain ⟨A',hrun,hsl⟩:=run_tail l0 A c8 p hp hcap
  have hrun2:∀w,(Instr.sliceAt 22 (.slice A l0.length c8) (some (.int .i64 p)) none none).run Tryz.prog w=.ok (.slice A' (l0.drop p).length (c8 - p)) w:=fun w=>by rw [run_sliceAt_slice _ _ _ _ _ _ (show Tryz.prog.underlying 22=some (.slice (Tryz.prog.elem 22)) by kernel_rfl)];exact hrun w
  have hu:∀n,Calls Tryz.prog 111 #[.slice A' (l0.drop p).length (c8 - p)] (w.drewN n) fun e w'=>e=.returned (tT (tL (l0.drop p)))∧w'=w.drewN n:=fun n =>
   (take_any (l0.drop p) A' (c8 - p) (w.drewN n) (((hsl w R hr.2).more (Nat.le_of_lt hr.lt)).g (Nat.le_refl _) ((G.refl w).drewN n)) (by rw [List.length_drop];omega) (by rw [List.length_drop];omega)).mono fun e w' ⟨h1,h2⟩=>⟨h1,h2.symm⟩
  have hll:(l0.drop p).length=l0.length - p:=List.length_drop
  generalize hdr:l0.drop p=l at *
  replace hdr:=Lib.hid hdr
  cases hx:tL l with
  | none =>
   rw [hx] at hu
   unfold tT at hu
   clear hx
   replace hll:=Lib.hid hll
   replace hp:=Lib.hid hp
   replace hcap:=Lib.hid hcap
   replace hl:=Lib.hid hl
   have c0:=hr.c0
   have c1:=hr.c1
   replace hr:=Lib.hid hr
   go_enter Tryz.func98,Tryz.ntmps98
   go_wp2_with fail
   go_quiet ((go_at_call 111;exact Calls.quiet_of_same (hu _)))
   clear hu hrun hrun2 hsl c0 c1
   generalize hwd:w.drewN _=wd
   have hgd:G w wd:=by rw [←hwd];exact (G.refl _).drewN _
   clear hwd
   replace hr:=hr.out.g hgd
   have ho:=over_bad R A c8 l0 p true 0 wd hr (.inl rfl)
   replace hr:=Lib.hid hr
   go_wp2_with fail
   refine ho.mono ?_
   clear ho
   rintro e w2 ⟨rfl,hr2,hb2⟩
   replace hr2:=Lib.hid hr2
   replace hb2:=Lib.hid hb2
   go_wp2_with fail
   go_ret
   exact ⟨rfl,⟨p,hp.out,(fun _ h=>by cases h),hr2.out⟩,(But.of_g hgd).trans hb2.out⟩
  | some y =>
   obtain ⟨s,n⟩:=y
   rw [hx] at hu
   unfold tT at hu
   clear hx
   replace hll:=Lib.hid hll
   replace hp:=Lib.hid hp
   replace hcap:=Lib.hid hcap
   replace hl:=Lib.hid hl
   have c0:=hr.c0
   have c1:=hr.c1
   replace hr:=Lib.hid hr
   go_enter Tryz.func98,Tryz.ntmps98
   go_wp2_with fail
   go_quiet ((go_at_call 111;exact Calls.quiet_of_same (hu _)))
   clear hu hrun hrun2 hsl c0 c1
   generalize hwd:w.drewN _=wd
   have hgd:G w wd:=by rw [←hwd];exact (G.refl _).drewN _
   clear hwd
   replace hr:=hr.out.g hgd
   have ho:=over_bad R A c8 l0 p true n wd hr (.inl rfl)
   replace hr:=Lib.hid hr
   go_wp2_with fail
   refine ho.mono ?_
   clear ho
   rintro e w2 ⟨rfl,hr2,hb2⟩
   replace hr2:=Lib.hid hr2
   replace hb2:=Lib.hid hb2
   go_wp2_with fail
   go_ret
   exact ⟨rfl,⟨p,hp.out,(fun _ h=>by cases h),hr2.out⟩,(But.of_g hgd).trans hb2.out⟩
 | some l1 =>
  obtain rfl:=hst l1 rfl
  clear hst
  obtain ⟨A',hrun,hsl⟩:=run_tail l0 A c8 p hp hcap
  have hrun2:∀w,(Instr.sliceAt 22 (.slice A l0.length c8) (some (.int .i64 p)) none none).run Tryz.prog w=.ok (.slice A' (l0.drop p).length (c8 - p)) w:=fun w=>by rw [run_sliceAt_slice _ _ _ _ _ _ (show Tryz.prog.underlying 22=some (.slice (Tryz.prog.elem 22)) by kernel_rfl)];exact hrun w
  have hu:∀n,Calls Tryz.prog 111 #[.slice A' (l0.drop p).length (c8 - p)] (w.drewN n) fun e w'=>e=.returned (tT (tL (l0.drop p)))∧w'=w.drewN n:=fun n =>
   (take_any (l0.drop p) A' (c8 - p) (w.drewN n) (((hsl w R hr.2).more (Nat.le_of_lt hr.lt)).g (Nat.le_refl _) ((G.refl w).drewN n)) (by rw [List.length_drop];omega) (by rw [List.length_drop];omega)).mono fun e w' ⟨h1,h2⟩=>⟨h1,h2.symm⟩
  have hll:(l0.drop p).length=l0.length - p:=List.length_drop
  generalize hdr:l0.drop p=l at *
  replace hdr:=Lib.hid hdr
  cases hx:tL l with
  | none =>
   rw [hx] at hu
   unfold tT at hu
   rw [gv_none (dText_none hx)]
   clear hx
   show Calls _ _ _ _ (RdPost _ _ _ _ _ _ (.string ByteArray.empty) none)
   replace hll:=Lib.hid hll
   replace hp:=Lib.hid hp
   replace hcap:=Lib.hid hcap
   replace hl:=Lib.hid hl
   have c0:=hr.c0
   have c1:=hr.c1
   replace hr:=Lib.hid hr
   go_enter Tryz.func98,Tryz.ntmps98
   go_wp2_with fail
   go_quiet ((go_at_call 111;exact Calls.quiet_of_same (hu _)))
   clear hu hrun hrun2 hsl c0 c1
   generalize hwd:w.drewN _=wd
   have hgd:G w wd:=by rw [←hwd];exact (G.refl _).drewN _
   clear hwd
   replace hr:=hr.out.g hgd
   have ho:=over_bad R A c8 l0 p false 0 wd hr (.inr rfl)
   replace hr:=Lib.hid hr
   go_wp2_with fail
   refine ho.mono ?_
   clear ho
   rintro e w2 ⟨rfl,hr2,hb2⟩
   replace hr2:=Lib.hid hr2
   replace hb2:=Lib.hid hb2
   go_wp2_with fail
   go_ret
   exact ⟨rfl,⟨p,hp.out,(fun _ h=>by cases h),hr2.out⟩,(But.of_g hgd).trans hb2.out⟩
  | some y =>
   obtain ⟨s,n⟩:=y
   rw [hx] at hu
   unfold tT at hu
   have hbd:=tL_bd hx
   rw [gv_some (dText_some hx)]
   clear hx
   show Calls _ _ _ _ (RdPost _ _ _ _ _ _ (.string (strOf s)) (some (l.drop n)))
   replace hll:=Lib.hid hll
   replace hp:=Lib.hid hp
   replace hcap:=Lib.hid hcap
   replace hl:=Lib.hid hl
   have c0:=hr.c0
   have c1:=hr.c1
   replace hr:=Lib.hid hr
   go_enter Tryz.func98,Tryz.ntmps98
   go_wp2_with fail
   go_quiet ((go_at_call 111;exact Calls.quiet_of_same (hu _)))
   clear hu hrun hrun2 hsl c0 c1
   generalize hwd:w.drewN _=wd
   have hgd:G w wd:=by rw [←hwd];exact (G.refl _).drewN _
   clear hwd
   replace hr:=hr.out.g hgd
   have ho:=over_ok R A c8 l0 p n wd hr (by omega) (by have:=hp.out;have:=hl.out;have:=hll.out;omega)
   replace hr:=Lib.hid hr
   go_wp2_with fail
   refine ho.mono ?_
   clear ho
   rintro e w2 ⟨rfl,hr2,hb2⟩
   replace hr2:=Lib.hid hr2
   replace hb2:=Lib.hid hb2
   go_wp2_with fail
   go_ret
   exact ⟨rfl,⟨p+n,by have:=hp.out;have:=hll.out;omega,(fun _ h=>by cases h;rw [←List.drop_drop];exact congrArg _ hdr.out),hr2.out⟩,(But.of_g hgd).trans hb2.out⟩
set_option maxRecDepth 100000 in
set_option maxHeartbeats 1000000 in
theorem count_any' (R : Nat) (A : Option Addr) (c8 : Nat) (l0 : List UInt8) (st : Option (List UInt8)) (w : World) (h : RdS 166 R A c8 l0 st w) (hl : l0.length ≤ 1073741824) (hcap : l0.length ≤ c8) (mi : Int) (m : Nat) (hm : mi = m) (hm2 : m ≤ 4611686018427387904) :
  Calls Tryz.prog 99 #[.pointer (some ⟨R,0,none⟩),.int .i64 mi] w (RdPost 166 R A c8 l0 w (.int .i64 (gv 0 (dCount m) st).1) (gv 0 (dCount m) st).2):=by
 subst hm
 have hn:=num_any R A c8 l0 st w h hl hcap
 clear h
 have hw:IntKind.u64.wrap (m:Int)=(m:Int):=by rw [wrap_u64];omega
 obtain ⟨v,st1,hv⟩:∃v st1,gv 0 dNum st=(v,st1):=⟨_,_,rfl⟩
 rw [hv] at hn
 dsimp only at hn
 have hg:gv 0 (dCount m) st=if st1.isSome∧v≤m then (v,st1) else (0,none):=by
  cases st with
  | none=>cases hv;rfl
  | some l =>
   cases hd:dNum l with
   | none =>
    rw [gv_none hd] at hv
    cases hv
    rw [gv_none (dCount_none hd)]
    rfl
   | some y =>
    obtain ⟨v',r⟩:=y
    rw [gv_some hd] at hv
    cases hv
    have:=dCount_some (m:=m) hd
    by_cases h:v≤m
    ·rw [if_pos h] at this
     rw [gv_some this,if_pos ⟨rfl,h⟩]
    ·rw [if_neg h] at this
     rw [gv_none this,if_neg (fun hh=>h hh.2)]
 rw [hg]
 clear hg
 replace hv:=Lib.hid hv
 cases st1 with
 | none =>
  rw [if_neg (by simp)]
  go_enter Tryz.func99,Tryz.ntmps99
  go_wp2_with fail
  refine hn.mono ?_
  clear hn
  rintro e w1 ⟨rfl,hr,hb⟩
  have c2:=hr.c2
  have f2:=hr.free 2
  have hend:=hr.fail
  have d2:=hend.c2
  have hbut:=hb.trans (but_set w1 R 2 (.bool true))
  unfold Option.isNone at c2 d2
  replace hend:=Lib.hid hend
  replace hbut:=Lib.hid hbut
  clear hr hb
  go_wp2_with fail
  go_ret
  exact ⟨rfl,hend.out,hbut.out⟩
 | some l1 =>
  by_cases hvm:v≤m
  ·rw [if_pos ⟨rfl,hvm⟩]
   have hw2:IntKind.i64.wrap (v:Int)=(v:Int):=IntWalk.i64_in _ (by omega)
   have t1:¬ (m:Int) < (v:Int):=by omega
   clear hvm
   go_enter Tryz.func99,Tryz.ntmps99
   go_wp2_with fail
   refine hn.mono ?_
   clear hn
   rintro e w1 ⟨rfl,hr,hb⟩
   have c2:=hr.c2
   have f2:=hr.free 2
   have hend:=hr.stay
   have d2:=hend.c2
   have hbut:=hb.trans (but_set w1 R 2 (.bool false))
   unfold Option.isNone at c2 d2 hend
   replace hend:=Lib.hid hend
   replace hbut:=Lib.hid hbut
   clear hr hb
   go_wp2_with fail
   go_ret
   exact ⟨rfl,hend.out,hbut.out⟩
  ·rw [if_neg (fun hh=>hvm hh.2)]
   have t1:(m:Int) < (v:Int):=by omega
   clear hvm
   go_enter Tryz.func99,Tryz.ntmps99
   go_wp2_with fail
   refine hn.mono ?_
   clear hn
   rintro e w1 ⟨rfl,hr,hb⟩
   have c2:=hr.c2
   have f2:=hr.free 2
   have hend:=hr.fail
   have d2:=hend.c2
   have hbut:=hb.trans (but_set w1 R 2 (.bool true))
   unfold Option.isNone at c2 d2
   replace hend:=Lib.hid hend
   replace hbut:=Lib.hid hbut
   clear hr hb
   go_wp2_with fail
   go_ret
   exact ⟨rfl,hend.out,hbut.out⟩
end Go.Proofs.YtheogchkelmeeaaGreatDoor
/- penstockref7's Eye: Num, Text, Stamp: what they give and leave. Conditions: lengths of at most 2^30. -/
namespace Go.Proofs.YtheogchkelmeeaaGreatDoor
open Go.RowKit
set_option maxRecDepth 100000 in
set_option maxHeartbeats 1000000 in
theorem eyeNum_any (R : Nat) (A : Option Addr) (c8 : Nat) (l0 : List UInt8) (st : Option (List UInt8)) (w : World) (h : RdS 64 R A c8 l0 st w) (hl : l0.length ≤ 1073741824) (hcap : l0.length ≤ c8) (mi : Int) (m : Nat) (hm : mi = m) (hm2 : m ≤ 4611686018427387904) :
  Calls Tryz.prog 20 #[.pointer (some ⟨R,0,none⟩),.int .i64 mi] w (RdPost 64 R A c8 l0 w (.int .i64 (gv 0 (dCount m) st).1) (gv 0 (dCount m) st).2):=by
 subst hm
 have hw:IntKind.u64.wrap (m:Int)=(m:Int):=by rw [wrap_u64];omega
 obtain ⟨p,hp,hst,hr⟩:=h
 cases st with
 | none =>
  clear hst
  show Calls _ _ _ _ (RdPost _ _ _ _ _ _ (.int .i64 0) none)
  have c2:=hr.c2
  unfold Option.isNone at c2
  replace hr:=Lib.hid hr
  go_enter Tryz.func20,Tryz.ntmps20
  go_wp2_with fail
  go_ret
  exact ⟨rfl,⟨p,hp,(fun _ h=>by cases h),hr.out⟩,But.refl _ _⟩
 | some l1 =>
  obtain rfl:=hst l1 rfl
  clear hst
  obtain ⟨A',hrun,hsl⟩:=run_tail l0 A c8 p hp hcap
  have hrun2:∀w,(Instr.sliceAt 22 (.slice A l0.length c8) (some (.int .i64 p)) none none).run Tryz.prog w=.ok (.slice A' (l0.drop p).length (c8 - p)) w:=fun w=>by rw [run_sliceAt_slice _ _ _ _ _ _ (show Tryz.prog.underlying 22=some (.slice (Tryz.prog.elem 22)) by kernel_rfl)];exact hrun w
  have hu:∀n,Calls Tryz.prog 47 #[.slice A' (l0.drop p).length (c8 - p)] (w.drewN n) fun e w'=>e=.returned (uT (uL (l0.drop p)))∧w'=w.drewN n:=fun n =>
   (refUnvarint_any (l0.drop p) A' (c8 - p) (w.drewN n) (((hsl w R hr.2).more (Nat.le_of_lt hr.lt)).g (Nat.le_refl _) ((G.refl w).drewN n)) (by rw [List.length_drop];omega) ).mono fun e w' ⟨h1,h2⟩=>⟨h1,h2.symm⟩
  have hll:(l0.drop p).length=l0.length - p:=List.length_drop
  generalize hdr:l0.drop p=l at *
  replace hdr:=Lib.hid hdr
  unfold Option.isNone at hr
  cases hx:uL l with
  | none =>
   rw [hx] at hu
   unfold uT at hu
   rw [gv_none (dCount_none (dNum_none hx))]
   clear hx
   show Calls _ _ _ _ (RdPost _ _ _ _ _ _ (.int .i64 0) none)
   replace hll:=Lib.hid hll
   replace hp:=Lib.hid hp
   replace hcap:=Lib.hid hcap
   replace hl:=Lib.hid hl
   have c0:=hr.c0
   have c1:=hr.c1
   have c2:=hr.c2
   replace hr:=Lib.hid hr
   go_enter Tryz.func20,Tryz.ntmps20
   go_wp2_with fail
   go_quiet ((go_at_call 47;exact Calls.quiet_of_same (hu _)))
   clear hu hrun hrun2 hsl c0 c1 c2
   generalize hwd:w.drewN _=wd
   have hgd:G w wd:=by rw [←hwd];exact (G.refl _).drewN _
   clear hwd
   replace hr:=hr.out.g hgd
   have c2:=hr.c2
   have hf:=hr.free 2
   have hend:=hr.bad true
   have hbut:=(But.of_g hgd).trans (but_set wd R 2 (.bool true))
   replace hr:=Lib.hid hr
   replace hend:=Lib.hid hend
   replace hbut:=Lib.hid hbut
   go_wp2_with fail
   go_ret
   exact ⟨rfl,⟨p,hp.out,(fun _ h=>by cases h),hend.out⟩,hbut.out⟩
  | some y =>
   obtain ⟨v,n⟩:=y
   rw [hx] at hu
   unfold uT at hu
   have hbd:=uL_bd hx
   have hd:=dCount_some (m:=m) (dNum_some hx)
   have t2:((n:Int) == 0)=false:=by rw [beq_eq_false_iff_ne];omega
   by_cases hvm:v≤m
   ·rw [if_pos hvm] at hd
    rw [gv_some hd]
    have t1:¬ (m:Int) < (v:Int):=by omega
    have hw2:IntKind.i64.wrap (v:Int)=(v:Int):=IntWalk.i64_in _ (by omega)
    clear hx hd hvm
    show Calls _ _ _ _ (RdPost _ _ _ _ _ _ (.int .i64 v) (some (l.drop n)))
    replace hll:=Lib.hid hll
    replace hp:=Lib.hid hp
    replace hcap:=Lib.hid hcap
    replace hl:=Lib.hid hl
    have c0:=hr.c0
    have c1:=hr.c1
    have c2:=hr.c2
    replace hr:=Lib.hid hr
    go_enter Tryz.func20,Tryz.ntmps20
    go_wp2_with fail
    go_quiet ((go_at_call 47;exact Calls.quiet_of_same (hu _)))
    clear hu hrun hrun2 hsl c0 c1 c2
    generalize hwd:w.drewN _=wd
    have hgd:G w wd:=by rw [←hwd];exact (G.refl _).drewN _
    clear hwd
    replace hr:=hr.out.g hgd
    have c1:=hr.c1
    have hf:=hr.free 1
    have hend:=hr.at (p+n)
    have hbut:=(But.of_g hgd).trans (but_set wd R 1 (.int .i64 ((p+n:Nat):Int)))
    have ep:((p+n:Nat):Int)=(p:Int)+n:=by omega
    have hnl:p+n≤l0.length:=by have:=hp.out;have:=hll.out;omega
    have hpn:p+n≤1073741824:=by have:=hl.out;omega
    rw [ep] at hend hbut
    replace hnl:=Lib.hid hnl
    replace hr:=Lib.hid hr
    replace hend:=Lib.hid hend
    replace hbut:=Lib.hid hbut
    clear ep
    go_wp2_with fail
    go_ret
    exact ⟨rfl,⟨p+n,hnl.out,(fun _ h=>by cases h;rw [←List.drop_drop];exact congrArg _ hdr.out),hend.out⟩,hbut.out⟩
   ·rw [if_neg hvm] at hd
    rw [gv_none hd]
    have t1:(m:Int) < (v:Int):=by omega
    clear hx hd hvm
    show Calls _ _ _ _ (RdPost _ _ _ _ _ _ (.int .i64 0) none)
    replace hll:=Lib.hid hll
    replace hp:=Lib.hid hp
    replace hcap:=Lib.hid hcap
    replace hl:=Lib.hid hl
    have c0:=hr.c0
    have c1:=hr.c1
    have c2:=hr.c2
    replace hr:=Lib.hid hr
    go_enter Tryz.func20,Tryz.ntmps20
    go_wp2_with fail
    go_quiet ((go_at_call 47;exact Calls.quiet_of_same (hu _)))
    clear hu hrun hrun2 hsl c0 c1 c2
    generalize hwd:w.drewN _=wd
    have hgd:G w wd:=by rw [←hwd];exact (G.refl _).drewN _
    clear hwd
    replace hr:=hr.out.g hgd
    have c2:=hr.c2
    have hf:=hr.free 2
    have hend:=hr.bad true
    have hbut:=(But.of_g hgd).trans (but_set wd R 2 (.bool true))
    replace hr:=Lib.hid hr
    replace hend:=Lib.hid hend
    replace hbut:=Lib.hid hbut
    go_wp2_with fail
    go_ret
    exact ⟨rfl,⟨p,hp.out,(fun _ h=>by cases h),hend.out⟩,hbut.out⟩
set_option maxRecDepth 100000 in
set_option maxHeartbeats 1000000 in
theorem eyeText_any (R : Nat) (A : Option Addr) (c8 : Nat) (l0 : List UInt8) (st : Option (List UInt8)) (w : World) (h : RdS 64 R A c8 l0 st w) (hl : l0.length ≤ 1073741824) (hcap : l0.length ≤ c8) :
  Calls Tryz.prog 44 #[.pointer (some ⟨R,0,none⟩)] w (RdPost 64 R A c8 l0 w (.string (strOf (gv [] dText st).1)) (gv [] dText st).2):=by
 obtain ⟨p,hp,hst,hr⟩:=h
 cases st with
 | none =>
  clear hst
  show Calls _ _ _ _ (RdPost _ _ _ _ _ _ (.string ByteArray.empty) none)
  have c2:=hr.c2
  unfold Option.isNone at c2
  replace hr:=Lib.hid hr
  go_enter Tryz.func44,Tryz.ntmps44
  go_wp2_with fail
  go_ret
  exact ⟨rfl,⟨p,hp,(fun _ h=>by cases h),hr.out⟩,But.refl _ _⟩
 | some l1 =>
  obtain rfl:=hst l1 rfl
  clear hst
  obtain ⟨A',hrun,hsl⟩:=run_tail l0 A c8 p hp hcap
  have hrun2:∀w,(Instr.sliceAt 22 (.slice A l0.length c8) (some (.int .i64 p)) none none).run Tryz.prog w=.ok (.slice A' (l0.drop p).length (c8 - p)) w:=fun w=>by rw [run_sliceAt_slice _ _ _ _ _ _ (show Tryz.prog.underlying 22=some (.slice (Tryz.prog.elem 22)) by kernel_rfl)];exact hrun w
  have hu:∀n,Calls Tryz.prog 77 #[.slice A' (l0.drop p).length (c8 - p)] (w.drewN n) fun e w'=>e=.returned (tT (tL (l0.drop p)))∧w'=w.drewN n:=fun n =>
   (refTake_any (l0.drop p) A' (c8 - p) (w.drewN n) (((hsl w R hr.2).more (Nat.le_of_lt hr.lt)).g (Nat.le_refl _) ((G.refl w).drewN n)) (by rw [List.length_drop];omega) (by rw [List.length_drop];omega)).mono fun e w' ⟨h1,h2⟩=>⟨h1,h2.symm⟩
  have hll:(l0.drop p).length=l0.length - p:=List.length_drop
  generalize hdr:l0.drop p=l at *
  replace hdr:=Lib.hid hdr
  unfold Option.isNone at hr
  cases hx:tL l with
  | none =>
   rw [hx] at hu
   unfold tT at hu
   rw [gv_none (dText_none hx)]
   clear hx
   show Calls _ _ _ _ (RdPost _ _ _ _ _ _ (.string ByteArray.empty) none)
   replace hll:=Lib.hid hll
   replace hp:=Lib.hid hp
   replace hcap:=Lib.hid hcap
   replace hl:=Lib.hid hl
   have c0:=hr.c0
   have c1:=hr.c1
   have c2:=hr.c2
   replace hr:=Lib.hid hr
   go_enter Tryz.func44,Tryz.ntmps44
   go_wp2_with fail
   go_quiet ((go_at_call 77;exact Calls.quiet_of_same (hu _)))
   clear hu hrun hrun2 hsl c0 c1 c2
   generalize hwd:w.drewN _=wd
   have hgd:G w wd:=by rw [←hwd];exact (G.refl _).drewN _
   clear hwd
   replace hr:=hr.out.g hgd
   have c2:=hr.c2
   have hf:=hr.free 2
   have h2:=hr.bad true
   have c1:=h2.c1
   have hf2:=h2.free 1
   have hend:=h2.at p
   have hbut:=((But.of_g hgd).trans (but_set wd R 2 (.bool true))).trans (but_set _ R 1 (.int .i64 p))
   have hpn:p≤1073741824:=by have:=hl.out;have:=hp.out;omega
   replace hr:=Lib.hid hr
   replace h2:=Lib.hid h2
   replace hend:=Lib.hid hend
   replace hbut:=Lib.hid hbut
   go_wp2_with fail
   go_ret
   exact ⟨rfl,⟨p,hp.out,(fun _ h=>by cases h),hend.out⟩,hbut.out⟩
  | some y =>
   obtain ⟨s,n⟩:=y
   rw [hx] at hu
   unfold tT at hu
   have hbd:=tL_bd hx
   have t2:((n:Int) == 0)=false:=by rw [beq_eq_false_iff_ne];omega
   rw [gv_some (dText_some hx)]
   clear hx
   show Calls _ _ _ _ (RdPost _ _ _ _ _ _ (.string (strOf s)) (some (l.drop n)))
   replace hll:=Lib.hid hll
   replace hp:=Lib.hid hp
   replace hcap:=Lib.hid hcap
   replace hl:=Lib.hid hl
   have c0:=hr.c0
   have c1:=hr.c1
   have c2:=hr.c2
   replace hr:=Lib.hid hr
   go_enter Tryz.func44,Tryz.ntmps44
   go_wp2_with fail
   go_quiet ((go_at_call 77;exact Calls.quiet_of_same (hu _)))
   clear hu hrun hrun2 hsl c0 c1 c2
   generalize hwd:w.drewN _=wd
   have hgd:G w wd:=by rw [←hwd];exact (G.refl _).drewN _
   clear hwd
   replace hr:=hr.out.g hgd
   have c1:=hr.c1
   have hf:=hr.free 1
   have hend:=hr.at (p+n)
   have hbut:=(But.of_g hgd).trans (but_set wd R 1 (.int .i64 ((p+n:Nat):Int)))
   have ep:((p+n:Nat):Int)=(p:Int)+n:=by omega
   have hnl:p+n≤l0.length:=by have:=hp.out;have:=hll.out;omega
   have hpn:p+n≤1073741824:=by have:=hl.out;omega
   rw [ep] at hend hbut
   replace hnl:=Lib.hid hnl
   replace hr:=Lib.hid hr
   replace hend:=Lib.hid hend
   replace hbut:=Lib.hid hbut
   clear ep
   go_wp2_with fail
   go_ret
   exact ⟨rfl,⟨p+n,hnl.out,(fun _ h=>by cases h;rw [←List.drop_drop];exact congrArg _ hdr.out),hend.out⟩,hbut.out⟩
end Go.Proofs.YtheogchkelmeeaaGreatDoor

/- stamp.Decode, event's reader's stamp, penstockref7's Eye's Stamp: what they give and leave. Conditions: lengths of at most 2^30. -/
import Derived.Test.YtheogchkelmeeaaGreatDoorM6MsgDecodes
namespace Go.Proofs.YtheogchkelmeeaaGreatDoor
open Go.RowKit
/-! Plain: three numbers of at most 2^50 that make a stamp. -/
def cW:Reader Nat:=dCount 1125899906842624
def s3 (a b c:Nat):Reader St:=rif (stOk ⟨a,b,c⟩) ⟨a,b,c⟩
def s2 (a b:Nat):Reader St:=rb cW fun c=>s3 a b c
def s1 (a:Nat):Reader St:=rb cW fun b=>s2 a b
def s0:Reader St:=rb cW fun a=>s1 a
def stK (k a b c:Nat):Reader St:=if k=0 then s0 else if k=1 then s1 a else if k=2 then s2 a b else s3 a b c
theorem dCount_le {m m':Nat} {l r:List UInt8} {v:Nat} (h:dCount m l=some (v,r)) (hv:v≤m'):dCount m' l=some (v,r):=by
 obtain ⟨h1,_⟩:=dCount_num h
 rw [dCount_some h1,if_pos hv]
theorem dCount_gt {m m':Nat} {l r:List UInt8} {v:Nat} (h:dCount m l=some (v,r)) (hv:m' < v):dCount m' l=none:=by
 obtain ⟨h1,_⟩:=dCount_num h
 rw [dCount_some h1,if_neg (by omega)]
theorem dCount_less {m m':Nat} {l:List UInt8} (h:dCount m l=none) (hm:m'≤m):dCount m' l=none:=by
 cases hd:dNum l with
 | none=>exact dCount_none hd
 | some y =>
  obtain ⟨v,r⟩:=y
  rw [dCount_some hd] at h ⊢
  split at h
  ·cases h
  ·rw [if_neg (by omega)]
theorem s3_no {a b c:Nat} (h:65535 < b∨5 < c) (l:List UInt8):s3 a b c l=none:=by
 unfold s3 rif
 rw [if_neg]
 rw [stOk_iff]
 simp only
 omega
theorem s2_no {a b:Nat} (h:65535 < b) (l:List UInt8):s2 a b l=none:=by
 unfold s2
 cases hc:cW l with
 | none=>rw [rb_none hc]
 | some y=>rw [rb_some (x:=y.1) (r:=y.2) hc,s3_no (.inl h)]
theorem dStamp_s0 (l:List UInt8):dStamp l=s0 l:=by
 unfold dStamp s0
 cases ha:dCount 1125899906842624 l with
 | none=>rw [rb_none ha,rb_none (show cW l=none from ha)]
 | some y =>
  obtain ⟨a,l1⟩:=y
  have ha2:=(dCount_num ha).2
  rw [rb_some ha,rb_some (show cW l=_ from ha)]
  unfold s1
  cases hb:cW l1 with
  | none=>rw [rb_none hb,rb_none (dCount_less (m:=1125899906842624) hb (by omega))]
  | some y =>
   obtain ⟨b,l2⟩:=y
   rw [rb_some hb]
   by_cases hbb:b≤65535
   ·rw [rb_some (dCount_le (m:=1125899906842624) hb hbb)]
    unfold s2
    cases hc:cW l2 with
    | none=>rw [rb_none hc,rb_none (dCount_less (m:=1125899906842624) hc (by omega))]
    | some y =>
     obtain ⟨c,l3⟩:=y
     rw [rb_some hc]
     by_cases hcc:c≤5
     ·rw [rb_some (dCount_le (m:=1125899906842624) hc hcc)]
      unfold s3 rif
      rw [if_pos (by rw [stOk_iff];simp only;omega)]
      rfl
     ·rw [rb_none (dCount_gt (m:=1125899906842624) hc (by omega)),s3_no (.inr (by omega))]
   ·rw [rb_none (dCount_gt (m:=1125899906842624) hb (by omega)),s2_no (by omega)]
theorem cW_none {l:List UInt8} (h:uL l=none):cW l=none:=dCount_none (dNum_none h)
theorem cW_big {l:List UInt8} {v n:Nat} (h:uL l=some (v,n)) (hv:1125899906842624 < v):cW l=none:=by
 unfold cW
 rw [dCount_some (dNum_some h),if_neg (by omega)]
theorem cW_some {l:List UInt8} {v n:Nat} (h:uL l=some (v,n)) (hv:v≤1125899906842624):cW l=some (v,l.drop n):=by
 unfold cW
 rw [dCount_some (dNum_some h),if_pos hv]
theorem stK_none {k a b c:Nat} {l:List UInt8} (hk:k < 3) (h:cW l=none):stK k a b c l=none:=by
 unfold stK s0 s1 s2
 have:k=0∨k=1∨k=2:=by omega
 rcases this with rfl | rfl | rfl <;> simp [rb_none h]
/-- What Decode answers. -/
def stT (l:List UInt8):Option (St × List UInt8)→Value
 | some (s,r)=>.tuple #[stV s.wall s.logic s.node,.int .i64 ((l.length - r.length:Nat):Int),.int .i64 0]
 | none=>.tuple #[stV 0 0 0,.int .i64 0,.int .i64 10]
/-- A block of three ints, laid anew whole. -/
theorem blk3 {w : World} {g : Nat} {x y z : Value} {t : TypeId} (h : w.heap[g]? = some (.cells #[x, y, z] t (0, 0))) (a b c : Value) :
  (((w.setCell ⟨g,0,none⟩ a).setCell ⟨g,1,none⟩ b).setCell ⟨g,2,none⟩ c).heap[g]?=some (.cells #[a,b,c] t (0,0)):=stc_blk [a,b,c] h rfl
theorem G.set3 {a w:World} (h:G a w) {g:Nat} (hg:a.heap.size≤g) (x y z:Value):G a (((w.setCell ⟨g,0,none⟩ x).setCell ⟨g,1,none⟩ y).setCell ⟨g,2,none⟩ z):=((h.set hg x).set hg y).set hg z
set_option maxRecDepth 100000 in
set_option maxHeartbeats 2000000 in
theorem stDec_any (l : List UInt8) (A : Option Addr) (c8 : Nat) (w : World) (hs : Sl byteC 1 w w.heap.size A l) (hl : l.length ≤ 1073741824) (hcap : l.length ≤ c8) :
  Calls Tryz.prog 72 #[.slice A l.length c8] w fun e w'=>e=.returned (stT l (dStamp l))∧G w w':=by
 replace hs:=Lib.hid hs
 have hS0:((w.alloc (.cells #[.int .i64 0,.int .i64 0,.int .i64 0] 33)).alloc (.cells #[.int .i64 0,.int .i64 0,.int .i64 0] 168)).heap[w.heap.size]?=some (.cells #[.int .i64 0,.int .i64 0,.int .i64 0] 33 (0,0)):=(G.new _ _).blk (blk_new _ _ _)
 have hL0:((w.alloc (.cells #[.int .i64 0,.int .i64 0,.int .i64 0] 33)).alloc (.cells #[.int .i64 0,.int .i64 0,.int .i64 0] 168)).heap[w.heap.size+1]?=some (.cells #[.int .i64 0,.int .i64 0,.int .i64 0] 168 (0,0)):=blk_new' _ _ _ _ (by simp)
 replace hS0:=Lib.hid hS0
 replace hL0:=Lib.hid hL0
 go_enter Tryz.func72,Tryz.ntmps72
 go_wp2_with fail
 go_loopw [3,9] (fun v i wr=>∃(k n a b c:Nat),v=.int .i64 n∧i=.int .i64 k∧k≤3∧n≤l.length∧a≤1125899906842624∧b≤1125899906842624∧c≤1125899906842624∧Hid (dStamp l=stK k a b c (l.drop n))∧Hid (wr.heap[w.heap.size+1]?=some (.cells #[.int .i64 a,.int .i64 b,.int .i64 c] 168 (0,0)))∧Hid (wr.heap[w.heap.size]?=some (.cells #[.int .i64 0,.int .i64 0,.int .i64 0] 33 (0,0)))∧G w wr) (fun _ i _=>3 - (intOf i).toNat)
 case atStart=>exact ⟨0,0,0,0,0,rfl,rfl,by omega,Nat.zero_le _,Nat.zero_le _,Nat.zero_le _,Nat.zero_le _,dStamp_s0 l,hL0,hS0,(G.new _ _).alloc _⟩
 case round =>
  clear hS0 hL0
  obtain ⟨k,n,a,b,c,rfl,rfl,hk,hn,ha,hb,hc,hsp,hL,hS,hg⟩:=hrel
  have hk4:k=0∨k=1∨k=2∨k=3:=by omega
  rcases hk4 with rfl | rfl | rfl | rfl
  ·clear hk
   obtain ⟨A',hrun,hsl⟩:=run_tail l A c8 n hn hcap
   have hrun2:∀w,(Instr.sliceAt 22 (.slice A l.length c8) (some (.int .i64 n)) none none).run Tryz.prog w=.ok (.slice A' (l.drop n).length (c8 - n)) w:=fun w=>by rw [run_sliceAt_slice _ _ _ _ _ _ (show Tryz.prog.underlying 22=some (.slice (Tryz.prog.elem 22)) by kernel_rfl)];exact hrun w
   have hu:=unvarint_any (l.drop n) A' (c8 - n) wr ((hsl wr _ (hs.out.g (Nat.le_refl _) hg)).more hg.size) (by rw [List.length_drop];omega)
   have hS:=hS.out
   have hL:=hL.out
   have hll:(l.drop n).length=l.length - n:=List.length_drop
   have hsp:=hsp.out
   generalize hdr:l.drop n=l2 at *
   replace hdr:=Lib.hid hdr
   replace hll:=Lib.hid hll
   cases hx:uL l2 with
   | none =>
    rw [hx] at hu
    unfold uT at hu
    have hcw:=cW_none hx
    clear hx
    have hno:dStamp l=none:=by rw [hsp];exact stK_none (by omega) hcw
    replace hno:=Lib.hid hno
    clear hsp
    replace hS:=Lib.hid hS
    replace hL:=Lib.hid hL
    go_wp2_with fail
    refine hu.mono ?_
    clear hu hrun hrun2
    rintro e w1 ⟨rfl,rfl⟩
    replace hS:=hS.out
    replace hL:=hL.out
    have q0:=(blk_cell hS 0).trans (show _=some (.int .i64 0) from rfl)
    have q1:=(blk_cell hS 1).trans (show _=some (.int .i64 0) from rfl)
    have q2:=(blk_cell hS 2).trans (show _=some (.int .i64 0) from rfl)
    have fq:∀o,(wr).frozen? ⟨w.heap.size,o,none⟩=false:=fun o=>by simp [World.frozen?,hS]
    have f0:=fq 0
    have f1:=fq 1
    have f2:=fq 2
    have hb3:=blk3 hS (.int .i64 0) (.int .i64 0) (.int .i64 0)
    have e0:=(blk_cell hb3 0).trans (show _=some (.int .i64 0) from rfl)
    have e1:=(blk_cell hb3 1).trans (show _=some (.int .i64 0) from rfl)
    have e2:=(blk_cell hb3 2).trans (show _=some (.int .i64 0) from rfl)
    have hg3:=hg.set3 (Nat.le_refl _) (.int .i64 0) (.int .i64 0) (.int .i64 0)
    replace e0:=Lib.hid e0
    replace e1:=Lib.hid e1
    replace e2:=Lib.hid e2
    replace hb3:=Lib.hid hb3
    replace hg3:=Lib.hid hg3
    clear fq
    replace hS:=Lib.hid hS
    replace hL:=Lib.hid hL
    go_wp2_with fail
    have e0:=e0.out
    have e1:=e1.out
    have e2:=e2.out
    refine bodyPost_ret (v:=.tuple #[.agg #[.int .i64 0,.int .i64 0,.int .i64 0],.int .i64 0,.int .i64 10]) (by simp [results,Tryz.results72,go_sem,e0,e1,e2]) rfl ?_
    exact ⟨by rw [hno.out];rfl,hg3.out⟩
   | some y =>
    obtain ⟨v,n2⟩:=y
    rw [hx] at hu
    unfold uT at hu
    have hbd:=uL_bd hx
    have t2:((n2:Int) == 0)=false:=by rw [beq_eq_false_iff_ne];omega
    by_cases hv:v≤1125899906842624
    ·have t1:¬ (1125899906842624:Int) < (v:Int):=by omega
     have hw2:IntKind.i64.wrap (v:Int)=(v:Int):=IntWalk.i64_in _ (by omega)
     have hcw:=cW_some hx hv
     have hnn:n+n2≤l.length:=by have:=hll.out;omega
     have hsp2:dStamp l=stK (1) v b c (l.drop (n+n2)):=by
      rw [hsp,←List.drop_drop,hdr.out]
      exact rb_some hcw
     replace hsp2:=Lib.hid hsp2
     clear hcw hx hsp
     replace hS:=Lib.hid hS
     replace hL:=Lib.hid hL
     go_wp2_with fail
     refine hu.mono ?_
     clear hu hrun hrun2
     rintro e w1 ⟨rfl,rfl⟩
     replace hS:=hS.out
     replace hL:=hL.out
     have q0:=(blk_cell hL 0).trans (show _=some (.int .i64 a) from rfl)
     have q1:=(blk_cell hL 1).trans (show _=some (.int .i64 b) from rfl)
     have q2:=(blk_cell hL 2).trans (show _=some (.int .i64 c) from rfl)
     have f0:wr.frozen? ⟨w.heap.size+1,0,none⟩=false:=by simp [World.frozen?,hL]
     have hL2:=(blk_put hL 0 (.int .i64 v)).trans (show _=some (.cells #[.int .i64 v,.int .i64 b,.int .i64 c] 168 (0,0)) from rfl)
     have hS2:=(but_set wr (w.heap.size+1) 0 (.int .i64 v)).blk hS (by omega)
     have hg2:=hg.set (p:=⟨w.heap.size+1,0,none⟩) (Nat.le_succ _) (.int .i64 v)
     replace hS:=Lib.hid hS
     replace hL:=Lib.hid hL
     replace hS2:=Lib.hid hS2
     replace hL2:=Lib.hid hL2
     replace hg2:=Lib.hid hg2
     go_wp2_with fail
     go_roundw
     case rel=>exact ⟨1,n+n2,v,b,c,by go_num,rfl,by omega,hnn,by omega,by omega,by omega,hsp2,hL2,hS2,hg2.out⟩
     case measure=>(simp [intOf] <;> omega)
    ·have t1:(1125899906842624:Int) < (v:Int):=by omega
     have hcw:=cW_big hx (by omega)
     clear hx
     have hno:dStamp l=none:=by rw [hsp];exact stK_none (by omega) hcw
     replace hno:=Lib.hid hno
     clear hsp
     replace hS:=Lib.hid hS
     replace hL:=Lib.hid hL
     go_wp2_with fail
     refine hu.mono ?_
     clear hu hrun hrun2
     rintro e w1 ⟨rfl,rfl⟩
     replace hS:=hS.out
     replace hL:=hL.out
     have q0:=(blk_cell hS 0).trans (show _=some (.int .i64 0) from rfl)
     have q1:=(blk_cell hS 1).trans (show _=some (.int .i64 0) from rfl)
     have q2:=(blk_cell hS 2).trans (show _=some (.int .i64 0) from rfl)
     have fq:∀o,(wr).frozen? ⟨w.heap.size,o,none⟩=false:=fun o=>by simp [World.frozen?,hS]
     have f0:=fq 0
     have f1:=fq 1
     have f2:=fq 2
     have hb3:=blk3 hS (.int .i64 0) (.int .i64 0) (.int .i64 0)
     have e0:=(blk_cell hb3 0).trans (show _=some (.int .i64 0) from rfl)
     have e1:=(blk_cell hb3 1).trans (show _=some (.int .i64 0) from rfl)
     have e2:=(blk_cell hb3 2).trans (show _=some (.int .i64 0) from rfl)
     have hg3:=hg.set3 (Nat.le_refl _) (.int .i64 0) (.int .i64 0) (.int .i64 0)
     replace e0:=Lib.hid e0
     replace e1:=Lib.hid e1
     replace e2:=Lib.hid e2
     replace hb3:=Lib.hid hb3
     replace hg3:=Lib.hid hg3
     clear fq
     replace hS:=Lib.hid hS
     replace hL:=Lib.hid hL
     go_wp2_with fail
     have e0:=e0.out
     have e1:=e1.out
     have e2:=e2.out
     refine bodyPost_ret (v:=.tuple #[.agg #[.int .i64 0,.int .i64 0,.int .i64 0],.int .i64 0,.int .i64 10]) (by simp [results,Tryz.results72,go_sem,e0,e1,e2]) rfl ?_
     exact ⟨by rw [hno.out];rfl,hg3.out⟩
  ·clear hk
   obtain ⟨A',hrun,hsl⟩:=run_tail l A c8 n hn hcap
   have hrun2:∀w,(Instr.sliceAt 22 (.slice A l.length c8) (some (.int .i64 n)) none none).run Tryz.prog w=.ok (.slice A' (l.drop n).length (c8 - n)) w:=fun w=>by rw [run_sliceAt_slice _ _ _ _ _ _ (show Tryz.prog.underlying 22=some (.slice (Tryz.prog.elem 22)) by kernel_rfl)];exact hrun w
   have hu:=unvarint_any (l.drop n) A' (c8 - n) wr ((hsl wr _ (hs.out.g (Nat.le_refl _) hg)).more hg.size) (by rw [List.length_drop];omega)
   have hS:=hS.out
   have hL:=hL.out
   have hll:(l.drop n).length=l.length - n:=List.length_drop
   have hsp:=hsp.out
   generalize hdr:l.drop n=l2 at *
   replace hdr:=Lib.hid hdr
   replace hll:=Lib.hid hll
   cases hx:uL l2 with
   | none =>
    rw [hx] at hu
    unfold uT at hu
    have hcw:=cW_none hx
    clear hx
    have hno:dStamp l=none:=by rw [hsp];exact stK_none (by omega) hcw
    replace hno:=Lib.hid hno
    clear hsp
    replace hS:=Lib.hid hS
    replace hL:=Lib.hid hL
    go_wp2_with fail
    refine hu.mono ?_
    clear hu hrun hrun2
    rintro e w1 ⟨rfl,rfl⟩
    replace hS:=hS.out
    replace hL:=hL.out
    have q0:=(blk_cell hS 0).trans (show _=some (.int .i64 0) from rfl)
    have q1:=(blk_cell hS 1).trans (show _=some (.int .i64 0) from rfl)
    have q2:=(blk_cell hS 2).trans (show _=some (.int .i64 0) from rfl)
    have fq:∀o,(wr).frozen? ⟨w.heap.size,o,none⟩=false:=fun o=>by simp [World.frozen?,hS]
    have f0:=fq 0
    have f1:=fq 1
    have f2:=fq 2
    have hb3:=blk3 hS (.int .i64 0) (.int .i64 0) (.int .i64 0)
    have e0:=(blk_cell hb3 0).trans (show _=some (.int .i64 0) from rfl)
    have e1:=(blk_cell hb3 1).trans (show _=some (.int .i64 0) from rfl)
    have e2:=(blk_cell hb3 2).trans (show _=some (.int .i64 0) from rfl)
    have hg3:=hg.set3 (Nat.le_refl _) (.int .i64 0) (.int .i64 0) (.int .i64 0)
    replace e0:=Lib.hid e0
    replace e1:=Lib.hid e1
    replace e2:=Lib.hid e2
    replace hb3:=Lib.hid hb3
    replace hg3:=Lib.hid hg3
    clear fq
    replace hS:=Lib.hid hS
    replace hL:=Lib.hid hL
    go_wp2_with fail
    have e0:=e0.out
    have e1:=e1.out
    have e2:=e2.out
    refine bodyPost_ret (v:=.tuple #[.agg #[.int .i64 0,.int .i64 0,.int .i64 0],.int .i64 0,.int .i64 10]) (by simp [results,Tryz.results72,go_sem,e0,e1,e2]) rfl ?_
    exact ⟨by rw [hno.out];rfl,hg3.out⟩
   | some y =>
    obtain ⟨v,n2⟩:=y
    rw [hx] at hu
    unfold uT at hu
    have hbd:=uL_bd hx
    have t2:((n2:Int) == 0)=false:=by rw [beq_eq_false_iff_ne];omega
    by_cases hv:v≤1125899906842624
    ·have t1:¬ (1125899906842624:Int) < (v:Int):=by omega
     have hw2:IntKind.i64.wrap (v:Int)=(v:Int):=IntWalk.i64_in _ (by omega)
     have hcw:=cW_some hx hv
     have hnn:n+n2≤l.length:=by have:=hll.out;omega
     have hsp2:dStamp l=stK (2) a v c (l.drop (n+n2)):=by
      rw [hsp,←List.drop_drop,hdr.out]
      exact rb_some hcw
     replace hsp2:=Lib.hid hsp2
     clear hcw hx hsp
     replace hS:=Lib.hid hS
     replace hL:=Lib.hid hL
     go_wp2_with fail
     refine hu.mono ?_
     clear hu hrun hrun2
     rintro e w1 ⟨rfl,rfl⟩
     replace hS:=hS.out
     replace hL:=hL.out
     have q0:=(blk_cell hL 0).trans (show _=some (.int .i64 a) from rfl)
     have q1:=(blk_cell hL 1).trans (show _=some (.int .i64 b) from rfl)
     have q2:=(blk_cell hL 2).trans (show _=some (.int .i64 c) from rfl)
     have f0:wr.frozen? ⟨w.heap.size+1,1,none⟩=false:=by simp [World.frozen?,hL]
     have hL2:=(blk_put hL 1 (.int .i64 v)).trans (show _=some (.cells #[.int .i64 a,.int .i64 v,.int .i64 c] 168 (0,0)) from rfl)
     have hS2:=(but_set wr (w.heap.size+1) 1 (.int .i64 v)).blk hS (by omega)
     have hg2:=hg.set (p:=⟨w.heap.size+1,1,none⟩) (Nat.le_succ _) (.int .i64 v)
     replace hS:=Lib.hid hS
     replace hL:=Lib.hid hL
     replace hS2:=Lib.hid hS2
     replace hL2:=Lib.hid hL2
     replace hg2:=Lib.hid hg2
     go_wp2_with fail
     go_roundw
     case rel=>exact ⟨2,n+n2,a,v,c,by go_num,rfl,by omega,hnn,by omega,by omega,by omega,hsp2,hL2,hS2,hg2.out⟩
     case measure=>(simp [intOf] <;> omega)
    ·have t1:(1125899906842624:Int) < (v:Int):=by omega
     have hcw:=cW_big hx (by omega)
     clear hx
     have hno:dStamp l=none:=by rw [hsp];exact stK_none (by omega) hcw
     replace hno:=Lib.hid hno
     clear hsp
     replace hS:=Lib.hid hS
     replace hL:=Lib.hid hL
     go_wp2_with fail
     refine hu.mono ?_
     clear hu hrun hrun2
     rintro e w1 ⟨rfl,rfl⟩
     replace hS:=hS.out
     replace hL:=hL.out
     have q0:=(blk_cell hS 0).trans (show _=some (.int .i64 0) from rfl)
     have q1:=(blk_cell hS 1).trans (show _=some (.int .i64 0) from rfl)
     have q2:=(blk_cell hS 2).trans (show _=some (.int .i64 0) from rfl)
     have fq:∀o,(wr).frozen? ⟨w.heap.size,o,none⟩=false:=fun o=>by simp [World.frozen?,hS]
     have f0:=fq 0
     have f1:=fq 1
     have f2:=fq 2
     have hb3:=blk3 hS (.int .i64 0) (.int .i64 0) (.int .i64 0)
     have e0:=(blk_cell hb3 0).trans (show _=some (.int .i64 0) from rfl)
     have e1:=(blk_cell hb3 1).trans (show _=some (.int .i64 0) from rfl)
     have e2:=(blk_cell hb3 2).trans (show _=some (.int .i64 0) from rfl)
     have hg3:=hg.set3 (Nat.le_refl _) (.int .i64 0) (.int .i64 0) (.int .i64 0)
     replace e0:=Lib.hid e0
     replace e1:=Lib.hid e1
     replace e2:=Lib.hid e2
     replace hb3:=Lib.hid hb3
     replace hg3:=Lib.hid hg3
     clear fq
     replace hS:=Lib.hid hS
     replace hL:=Lib.hid hL
     go_wp2_with fail
     have e0:=e0.out
     have e1:=e1.out
     have e2:=e2.out
     refine bodyPost_ret (v:=.tuple #[.agg #[.int .i64 0,.int .i64 0,.int .i64 0],.int .i64 0,.int .i64 10]) (by simp [results,Tryz.results72,go_sem,e0,e1,e2]) rfl ?_
     exact ⟨by rw [hno.out];rfl,hg3.out⟩
  ·clear hk
   obtain ⟨A',hrun,hsl⟩:=run_tail l A c8 n hn hcap
   have hrun2:∀w,(Instr.sliceAt 22 (.slice A l.length c8) (some (.int .i64 n)) none none).run Tryz.prog w=.ok (.slice A' (l.drop n).length (c8 - n)) w:=fun w=>by rw [run_sliceAt_slice _ _ _ _ _ _ (show Tryz.prog.underlying 22=some (.slice (Tryz.prog.elem 22)) by kernel_rfl)];exact hrun w
   have hu:=unvarint_any (l.drop n) A' (c8 - n) wr ((hsl wr _ (hs.out.g (Nat.le_refl _) hg)).more hg.size) (by rw [List.length_drop];omega)
   have hS:=hS.out
   have hL:=hL.out
   have hll:(l.drop n).length=l.length - n:=List.length_drop
   have hsp:=hsp.out
   generalize hdr:l.drop n=l2 at *
   replace hdr:=Lib.hid hdr
   replace hll:=Lib.hid hll
   cases hx:uL l2 with
   | none =>
    rw [hx] at hu
    unfold uT at hu
    have hcw:=cW_none hx
    clear hx
    have hno:dStamp l=none:=by rw [hsp];exact stK_none (by omega) hcw
    replace hno:=Lib.hid hno
    clear hsp
    replace hS:=Lib.hid hS
    replace hL:=Lib.hid hL
    go_wp2_with fail
    refine hu.mono ?_
    clear hu hrun hrun2
    rintro e w1 ⟨rfl,rfl⟩
    replace hS:=hS.out
    replace hL:=hL.out
    have q0:=(blk_cell hS 0).trans (show _=some (.int .i64 0) from rfl)
    have q1:=(blk_cell hS 1).trans (show _=some (.int .i64 0) from rfl)
    have q2:=(blk_cell hS 2).trans (show _=some (.int .i64 0) from rfl)
    have fq:∀o,(wr).frozen? ⟨w.heap.size,o,none⟩=false:=fun o=>by simp [World.frozen?,hS]
    have f0:=fq 0
    have f1:=fq 1
    have f2:=fq 2
    have hb3:=blk3 hS (.int .i64 0) (.int .i64 0) (.int .i64 0)
    have e0:=(blk_cell hb3 0).trans (show _=some (.int .i64 0) from rfl)
    have e1:=(blk_cell hb3 1).trans (show _=some (.int .i64 0) from rfl)
    have e2:=(blk_cell hb3 2).trans (show _=some (.int .i64 0) from rfl)
    have hg3:=hg.set3 (Nat.le_refl _) (.int .i64 0) (.int .i64 0) (.int .i64 0)
    replace e0:=Lib.hid e0
    replace e1:=Lib.hid e1
    replace e2:=Lib.hid e2
    replace hb3:=Lib.hid hb3
    replace hg3:=Lib.hid hg3
    clear fq
    replace hS:=Lib.hid hS
    replace hL:=Lib.hid hL
    go_wp2_with fail
    have e0:=e0.out
    have e1:=e1.out
    have e2:=e2.out
    refine bodyPost_ret (v:=.tuple #[.agg #[.int .i64 0,.int .i64 0,.int .i64 0],.int .i64 0,.int .i64 10]) (by simp [results,Tryz.results72,go_sem,e0,e1,e2]) rfl ?_
    exact ⟨by rw [hno.out];rfl,hg3.out⟩
   | some y =>
    obtain ⟨v,n2⟩:=y
    rw [hx] at hu
    unfold uT at hu
    have hbd:=uL_bd hx
    have t2:((n2:Int) == 0)=false:=by rw [beq_eq_false_iff_ne];omega
    by_cases hv:v≤1125899906842624
    ·have t1:¬ (1125899906842624:Int) < (v:Int):=by omega
     have hw2:IntKind.i64.wrap (v:Int)=(v:Int):=IntWalk.i64_in _ (by omega)
     have hcw:=cW_some hx hv
     have hnn:n+n2≤l.length:=by have:=hll.out;omega
     have hsp2:dStamp l=stK (3) a b v (l.drop (n+n2)):=by
      rw [hsp,←List.drop_drop,hdr.out]
      exact rb_some hcw
     replace hsp2:=Lib.hid hsp2
     clear hcw hx hsp
     replace hS:=Lib.hid hS
     replace hL:=Lib.hid hL
     go_wp2_with fail
     refine hu.mono ?_
     clear hu hrun hrun2
     rintro e w1 ⟨rfl,rfl⟩
     replace hS:=hS.out
     replace hL:=hL.out
     have q0:=(blk_cell hL 0).trans (show _=some (.int .i64 a) from rfl)
     have q1:=(blk_cell hL 1).trans (show _=some (.int .i64 b) from rfl)
     have q2:=(blk_cell hL 2).trans (show _=some (.int .i64 c) from rfl)
     have f0:wr.frozen? ⟨w.heap.size+1,2,none⟩=false:=by simp [World.frozen?,hL]
     have hL2:=(blk_put hL 2 (.int .i64 v)).trans (show _=some (.cells #[.int .i64 a,.int .i64 b,.int .i64 v] 168 (0,0)) from rfl)
     have hS2:=(but_set wr (w.heap.size+1) 2 (.int .i64 v)).blk hS (by omega)
     have hg2:=hg.set (p:=⟨w.heap.size+1,2,none⟩) (Nat.le_succ _) (.int .i64 v)
     replace hS:=Lib.hid hS
     replace hL:=Lib.hid hL
     replace hS2:=Lib.hid hS2
     replace hL2:=Lib.hid hL2
     replace hg2:=Lib.hid hg2
     go_wp2_with fail
     go_roundw
     case rel=>exact ⟨3,n+n2,a,b,v,by go_num,rfl,by omega,hnn,by omega,by omega,by omega,hsp2,hL2,hS2,hg2.out⟩
     case measure=>(simp [intOf] <;> omega)
    ·have t1:(1125899906842624:Int) < (v:Int):=by omega
     have hcw:=cW_big hx (by omega)
     clear hx
     have hno:dStamp l=none:=by rw [hsp];exact stK_none (by omega) hcw
     replace hno:=Lib.hid hno
     clear hsp
     replace hS:=Lib.hid hS
     replace hL:=Lib.hid hL
     go_wp2_with fail
     refine hu.mono ?_
     clear hu hrun hrun2
     rintro e w1 ⟨rfl,rfl⟩
     replace hS:=hS.out
     replace hL:=hL.out
     have q0:=(blk_cell hS 0).trans (show _=some (.int .i64 0) from rfl)
     have q1:=(blk_cell hS 1).trans (show _=some (.int .i64 0) from rfl)
     have q2:=(blk_cell hS 2).trans (show _=some (.int .i64 0) from rfl)
     have fq:∀o,(wr).frozen? ⟨w.heap.size,o,none⟩=false:=fun o=>by simp [World.frozen?,hS]
     have f0:=fq 0
     have f1:=fq 1
     have f2:=fq 2
     have hb3:=blk3 hS (.int .i64 0) (.int .i64 0) (.int .i64 0)
     have e0:=(blk_cell hb3 0).trans (show _=some (.int .i64 0) from rfl)
     have e1:=(blk_cell hb3 1).trans (show _=some (.int .i64 0) from rfl)
     have e2:=(blk_cell hb3 2).trans (show _=some (.int .i64 0) from rfl)
     have hg3:=hg.set3 (Nat.le_refl _) (.int .i64 0) (.int .i64 0) (.int .i64 0)
     replace e0:=Lib.hid e0
     replace e1:=Lib.hid e1
     replace e2:=Lib.hid e2
     replace hb3:=Lib.hid hb3
     replace hg3:=Lib.hid hg3
     clear fq
     replace hS:=Lib.hid hS
     replace hL:=Lib.hid hL
     go_wp2_with fail
     have e0:=e0.out
     have e1:=e1.out
     have e2:=e2.out
     refine bodyPost_ret (v:=.tuple #[.agg #[.int .i64 0,.int .i64 0,.int .i64 0],.int .i64 0,.int .i64 10]) (by simp [results,Tryz.results72,go_sem,e0,e1,e2]) rfl ?_
     exact ⟨by rw [hno.out];rfl,hg3.out⟩
  ·clear hk
   have hS:=hS.out
   have hL:=hL.out
   have hsp:=hsp.out
   have hso:=fun w'=>sound_any a b c w'
   have hl0:=(blk_cell hL 0).trans (show _=some (.int .i64 a) from rfl)
   have hl1:=(blk_cell hL 1).trans (show _=some (.int .i64 b) from rfl)
   have hl2:=(blk_cell hL 2).trans (show _=some (.int .i64 c) from rfl)
   unfold stV at hso
   replace hL:=Lib.hid hL
   have q0:=(blk_cell hS 0).trans (show _=some (.int .i64 0) from rfl)
   have q1:=(blk_cell hS 1).trans (show _=some (.int .i64 0) from rfl)
   have q2:=(blk_cell hS 2).trans (show _=some (.int .i64 0) from rfl)
   have fq:∀o,(wr).frozen? ⟨w.heap.size,o,none⟩=false:=fun o=>by simp [World.frozen?,hS]
   have f0:=fq 0
   have f1:=fq 1
   have f2:=fq 2
   have hb3:=blk3 hS (.int .i64 a) (.int .i64 b) (.int .i64 c)
   have e0:=(blk_cell hb3 0).trans (show _=some (.int .i64 a) from rfl)
   have e1:=(blk_cell hb3 1).trans (show _=some (.int .i64 b) from rfl)
   have e2:=(blk_cell hb3 2).trans (show _=some (.int .i64 c) from rfl)
   have hg3:=hg.set3 (Nat.le_refl _) (.int .i64 a) (.int .i64 b) (.int .i64 c)
   replace e0:=Lib.hid e0
   replace e1:=Lib.hid e1
   replace e2:=Lib.hid e2
   replace hb3:=Lib.hid hb3
   replace hg3:=Lib.hid hg3
   clear fq
   have e0:=e0.out
   have e1:=e1.out
   have e2:=e2.out
   replace hS:=Lib.hid hS
   cases hok:stOk ⟨a,b,c⟩ with
   | true =>
    have hsome:dStamp l=some (⟨a,b,c⟩,l.drop n):=by rw [hsp];unfold stK s3 rif;simp only [hok];rfl
    unfold stOk at hok
    simp only [hok] at hso
    have hld:((l.length - (l.drop n).length:Nat):Int)=(n:Int):=by rw [List.length_drop];omega
    have hst:stT l (dStamp l)=.tuple #[stV a b c,.int .i64 n,.int .i64 0]:=by
     rw [hsome]
     show Value.tuple #[stV a b c,.int .i64 ((l.length - (l.drop n).length:Nat):Int),.int .i64 0]=_
     rw [hld]
    replace hst:=Lib.hid hst
    clear hsp hok hsome hld
    go_wp2_with fail
    refine (hso _).mono ?_
    clear hso
    rintro e w2 ⟨rfl,hgS⟩
    have hS:=hgS.blk hb3.out
    have hG:=hg3.out.trans hgS
    clear e0 e1 e2 q0 q1 q2 f0 f1 f2 hb3 hg3 hgS
    have q0:=(blk_cell hS 0).trans (show _=some (.int .i64 a) from rfl)
    have q1:=(blk_cell hS 1).trans (show _=some (.int .i64 b) from rfl)
    have q2:=(blk_cell hS 2).trans (show _=some (.int .i64 c) from rfl)
    have fq:∀o,(w2).frozen? ⟨w.heap.size,o,none⟩=false:=fun o=>by simp [World.frozen?,hS]
    have f0:=fq 0
    have f1:=fq 1
    have f2:=fq 2
    have hb3:=blk3 hS (.int .i64 a) (.int .i64 b) (.int .i64 c)
    have e0:=(blk_cell hb3 0).trans (show _=some (.int .i64 a) from rfl)
    have e1:=(blk_cell hb3 1).trans (show _=some (.int .i64 b) from rfl)
    have e2:=(blk_cell hb3 2).trans (show _=some (.int .i64 c) from rfl)
    have hg3:=hG.set3 (Nat.le_refl _) (.int .i64 a) (.int .i64 b) (.int .i64 c)
    replace e0:=Lib.hid e0
    replace e1:=Lib.hid e1
    replace e2:=Lib.hid e2
    replace hb3:=Lib.hid hb3
    replace hg3:=Lib.hid hg3
    clear fq
    replace hS:=Lib.hid hS
    go_wp2_with fail
    have e0:=e0.out
    have e1:=e1.out
    have e2:=e2.out
    refine bodyPost_ret (v:=.tuple #[.agg #[.int .i64 a,.int .i64 b,.int .i64 c],.int .i64 n,.int .i64 0]) (by simp [results,Tryz.results72,go_sem,e0,e1,e2]) rfl ?_
    exact ⟨by rw [hst.out];rfl,hg3.out⟩
   | false =>
    have hnone:dStamp l=none:=by rw [hsp];unfold stK s3 rif;simp only [hok];rfl
    unfold stOk at hok
    simp only [hok] at hso
    replace hnone:=Lib.hid hnone
    clear hsp hok
    go_wp2_with fail
    refine (hso _).mono ?_
    clear hso
    rintro e w2 ⟨rfl,hgS⟩
    have hS:=hgS.blk hb3.out
    have hG:=hg3.out.trans hgS
    clear e0 e1 e2 q0 q1 q2 f0 f1 f2 hb3 hg3 hgS
    have q0:=(blk_cell hS 0).trans (show _=some (.int .i64 a) from rfl)
    have q1:=(blk_cell hS 1).trans (show _=some (.int .i64 b) from rfl)
    have q2:=(blk_cell hS 2).trans (show _=some (.int .i64 c) from rfl)
    have fq:∀o,(w2).frozen? ⟨w.heap.size,o,none⟩=false:=fun o=>by simp [World.frozen?,hS]
    have f0:=fq 0
    have f1:=fq 1
    have f2:=fq 2
    have hb3:=blk3 hS (.int .i64 0) (.int .i64 0) (.int .i64 0)
    have e0:=(blk_cell hb3 0).trans (show _=some (.int .i64 0) from rfl)
    have e1:=(blk_cell hb3 1).trans (show _=some (.int .i64 0) from rfl)
    have e2:=(blk_cell hb3 2).trans (show _=some (.int .i64 0) from rfl)
    have hg3:=hG.set3 (Nat.le_refl _) (.int .i64 0) (.int .i64 0) (.int .i64 0)
    replace e0:=Lib.hid e0
    replace e1:=Lib.hid e1
    replace e2:=Lib.hid e2
    replace hb3:=Lib.hid hb3
    replace hg3:=Lib.hid hg3
    clear fq
    replace hS:=Lib.hid hS
    go_wp2_with fail
    have e0:=e0.out
    have e1:=e1.out
    have e2:=e2.out
    refine bodyPost_ret (v:=.tuple #[.agg #[.int .i64 0,.int .i64 0,.int .i64 0],.int .i64 0,.int .i64 10]) (by simp [results,Tryz.results72,go_sem,e0,e1,e2]) rfl ?_
    exact ⟨by rw [hnone.out];rfl,hg3.out⟩
/-! The readers' stamp. -/
theorem dStamp_len {l r:List UInt8} {s:St} (h:dStamp l=some (s,r)):r.length < l.length∧l.drop (l.length - r.length)=r:=by
 have h1:=eats_stamp _ _ _ h
 refine ⟨h1,?_⟩
 have key:∃n,n≤l.length∧l.drop n=r:=by
  obtain ⟨a,l1,ha,h⟩:=rb_inv h
  obtain ⟨b,l2,hb,h⟩:=rb_inv h
  obtain ⟨c,l3,hc,h⟩:=rb_inv h
  obtain ⟨_,rfl⟩:=rp_inv h
  have step:∀{m v:Nat} {x y:List UInt8},dCount m x=some (v,y)→∃n,n≤x.length∧x.drop n=y:=fun {m v x y} e=>by
   have e2:=(dCount_num e).1
   unfold dNum at e2
   cases hu:uL x with
   | none=>rw [hu] at e2;cases e2
   | some z =>
    obtain ⟨v',n⟩:=z
    rw [hu] at e2
    simp only [Option.some.injEq,Prod.mk.injEq] at e2
    exact ⟨n,(uL_bd hu).2.1,e2.2⟩
  obtain ⟨n1,k1,e1⟩:=step ha
  obtain ⟨n2,k2,e2⟩:=step hb
  obtain ⟨n3,k3,e3⟩:=step hc
  refine ⟨n1+n2+n3,?_,?_⟩
  ·rw [←e2,List.length_drop,←e1,List.length_drop] at k3
   rw [←e1,List.length_drop] at k2
   omega
  ·rw [←List.drop_drop,←List.drop_drop,e1,e2,e3]
 obtain ⟨n,hn,he⟩:=key
 have:r.length=l.length - n:=by rw [←he,List.length_drop]
 rw [this,show l.length - (l.length - n)=n by omega]
 exact he
def zSt:St:=⟨0,0,0⟩
def stVal (s:St):Value:=stV s.wall s.logic s.node
end Go.Proofs.YtheogchkelmeeaaGreatDoor

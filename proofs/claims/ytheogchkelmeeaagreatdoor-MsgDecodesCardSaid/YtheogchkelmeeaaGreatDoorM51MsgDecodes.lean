/- Several texts in one: SameInts, SameBatch, SameSm, SameMsg. -/
import Derived.Test.YtheogchkelmeeaaGreatDoorM0MsgDecodes
import Derived.BigQuiet
import Derived.Test.YtheogchkelmeeaaGreatDoorMayQMsgDecodes
import Derived.Test.YtheogchkelmeeaaGreatDoorM26MsgDecodes
import Derived.Test.YtheogchkelmeeaaGreatDoorM15MsgDecodes
import Derived.Test.YtheogchkelmeeaaGreatDoorM40MsgDecodes
/- penstockref7.SameInts: whether two lists of numbers are one. Condition: lengths fit an int. -/
namespace Go.Proofs.YtheogchkelmeeaaGreatDoor
open Go.RowKit
set_option maxRecDepth 100000 in
set_option maxHeartbeats 1000000 in
theorem sameInts_any (xs ys : List Int) (A A2 : Option Addr) (c c2 B B2 : Nat) (w : World) (hB : B ≤ w.heap.size) (hB2 : B2 ≤ w.heap.size) (hl : xs.length ≤ 9223372036854775806) (hl2 : ys.length ≤ 9223372036854775806) (hs : Sl intC 1 w B A xs) (hs2 : Sl intC 1 w B2 A2 ys) :
  Calls Tryz.prog 27 #[.slice A xs.length c,.slice A2 ys.length c2] w fun e w'=>e=.returned (.bool (decide (xs=ys)))∧G w w':=by
 by_cases hlen:xs.length=ys.length
 case neg =>
  have hne:decide (xs=ys)=false:=decide_eq_false fun h=>hlen (by rw [h])
  have t1:((xs.length:Int) != (ys.length:Int))=true:=by rw [bne_iff_ne];omega
  rw [hne]
  clear hne hlen hs hs2
  go_enter Tryz.func27,Tryz.ntmps27
  go_wp2_with fail
  go_ret
  exact ⟨rfl,G.refl _⟩
 have t1:((xs.length:Int) != (ys.length:Int))=false:=by rw [bne_eq_false_iff_eq];omega
 have hle:ys.length≤xs.length:=by omega
 replace hlen:=Lib.hid hlen
 go_enter Tryz.func27,Tryz.ntmps27
 go_wp2_with fail
 clear t1
 go_loopw [5] (fun i wr=>∃k:Nat,i=.int .i64 k∧k≤xs.length∧G w wr∧Hid (xs.take k=ys.take k)) (fun i _=>xs.length - (intOf i).toNat)
 case atStart=>exact ⟨0,rfl,Nat.zero_le _,G.refl _,rfl⟩
 case round =>
  obtain ⟨k,rfl,hk,hg,hh⟩:=hrel
  by_cases hlt:k < xs.length
  ·obtain ⟨x,hx⟩:∃x,xs[k]?=some x:=⟨_,List.getElem?_eq_getElem hlt⟩
   obtain ⟨y,hy⟩:∃y,ys[k]?=some y:=⟨_,List.getElem?_eq_getElem (by have:=hlen.out;omega)⟩
   obtain ⟨b,o,rfl,hb,hc⟩:=(hs.g hB hg).int hx
   obtain ⟨b2,o2,rfl,hb2,hc2⟩:=(hs2.g hB2 hg).int hy
   have n1:(0:Int)≤(k:Int):=by omega
   have n2:(k:Int) < (xs.length:Int):=by omega
   have n3:(k:Int) < (ys.length:Int):=by have:=hlen.out;omega
   by_cases hxy:x=y
   ·have t1:(x != y)=false:=by rw [bne_eq_false_iff_eq];exact hxy
    have hh2:xs.take (k+1)=ys.take (k+1):=by rw [List.take_add_one,List.take_add_one,hx,hy,hh.out,hxy]
    replace hh2:=Lib.hid hh2
    replace hx:=Lib.hid hx
    replace hy:=Lib.hid hy
    replace hxy:=Lib.hid hxy
    clear hh hs hs2
    go_upto_region 6 with fail
    go_quiet (fail)
    go_wp2_with fail
    go_roundw
    case rel=>exact ⟨k+1,by go_num,by omega,by first | exact hg | exact hg.drew | exact hg.drewN _,hh2⟩
    case measure=>(simp [intOf] <;> omega)
   ·have t1:(x != y)=true:=by rw [bne_iff_ne];exact hxy
    have hfin:decide (xs=ys)=false:=decide_eq_false fun h=>by
     subst h
     rw [hx] at hy
     cases hy
     exact hxy rfl
    replace hfin:=Lib.hid hfin
    replace hx:=Lib.hid hx
    replace hy:=Lib.hid hy
    clear hxy hh hs hs2
    go_upto_region 6 with fail
    go_quiet (fail)
    go_wp2_with fail
    go_ret
    exact ⟨by rw [hfin.out];rfl,by first | exact hg | exact hg.drew | exact hg.drewN _⟩
  ·have hfin:decide (xs=ys)=true:=decide_eq_true (by
    have:=hh.out
    rwa [List.take_of_length_le (by omega),List.take_of_length_le (by have:=hlen.out;omega)] at this)
   replace hfin:=Lib.hid hfin
   clear hh hs hs2
   go_wp2_with fail
   go_ret
   exact ⟨by rw [hfin.out];rfl,hg⟩
end Go.Proofs.YtheogchkelmeeaaGreatDoor
/- penstockref7.SameBatch: yes to two batches that hold the same. Condition: lengths of at most 2^30. -/
namespace Go.Proofs.YtheogchkelmeeaaGreatDoor
open Go.RowKit
set_option maxRecDepth 100000 in
set_option maxHeartbeats 8000000 in
theorem sameBatch_yes (key : ByteArray) (ms ms' : List PutM) (A A' : Option Addr) (c c' : Nat) (w : World) (hin : PutsIn w w.heap.size A ms) (hin' : PutsIn w w.heap.size A' ms') (he : ms.map PutM.p = ms'.map PutM.p) (hsm : PutsSmall ms) :
  Calls Tryz.prog 26 #[.agg #[.string key,.slice A ms.length c],.agg #[.string key,.slice A' ms'.length c']] w fun e w'=>e=.returned (.bool true)∧G w w':=by
 have hl:ms'.length=ms.length:=by have:=congrArg List.length he;simpa using this.symm
 rw [hl]
 obtain ⟨hs1,hs2⟩:=hsm
 replace hin:=Lib.hid hin
 replace hin':=Lib.hid hin'
 replace hs2:=Lib.hid hs2
 replace he:=Lib.hid he
 replace hl:=Lib.hid hl
 go_enter Tryz.func26,Tryz.ntmps26
 go_upto_region 1 with fail
 generalize hW0:(w.alloc (.cells #[.string key,.slice A ms.length c] 31)).alloc (.cells #[.string key,.slice A' ms.length c'] 31)=W0
 have hz:w.heap.size+1 < W0.heap.size:=by rw [←hW0];simp
 have hG0:G w W0:=by rw [←hW0];exact (G.new _ _).alloc _
 have r0:W0.cell? ⟨w.heap.size,0,none⟩=some (.string key):=by rw [←hW0];simp
 have r1:W0.cell? ⟨w.heap.size,1,none⟩=some (.slice A ms.length c):=by rw [←hW0];simp
 have r2:W0.cell? ⟨w.heap.size+1,0,none⟩=some (.string key):=by rw [←hW0];simp
 have r3:W0.cell? ⟨w.heap.size+1,1,none⟩=some (.slice A' ms.length c'):=by rw [←hW0];simp
 clear hW0
 have q0:∀w',G W0 w'→w'.cell? ⟨w.heap.size,0,none⟩=some (.string key):=fun w' h=>(h.cell (by omega)).trans r0
 have q1:∀w',G W0 w'→w'.cell? ⟨w.heap.size,1,none⟩=some (.slice A ms.length c):=fun w' h=>(h.cell (by omega)).trans r1
 have q2:∀w',G W0 w'→w'.cell? ⟨w.heap.size+1,0,none⟩=some (.string key):=fun w' h=>(h.cell (by omega)).trans r2
 have q3:∀w',G W0 w'→w'.cell? ⟨w.heap.size+1,1,none⟩=some (.slice A' ms.length c'):=fun w' h=>(h.cell (by omega)).trans r3
 clear r0 r1 r2 r3
 have g0:=q0 W0 (G.refl _)
 have g1:=q1 W0 (G.refl _)
 have g2:=q2 W0 (G.refl _)
 have g3:=q3 W0 (G.refl _)
 go_wp2_with fail
 clear g0 g1 g2 g3
 go_loopw [5] (fun i wr=>∃k:Nat,i=.int .i64 k∧k≤ms.length∧G W0 wr) (fun i _=>ms.length - (intOf i).toNat)
 case atStart=>exact ⟨0,rfl,Nat.zero_le _,G.refl _⟩
 case round =>
  obtain ⟨wo,rfl⟩:∃wo:World,wo=wr:=⟨_,rfl⟩
  obtain ⟨k,rfl,hkl,hgr⟩:=hrel
  have hg:=hG0.trans hgr
  have g1:=q1 wo hgr
  have g3:=q3 wo hgr
  by_cases hlt:k < ms.length
  ·obtain ⟨p,hp⟩:∃p,ms[k]?=some p:=⟨_,List.getElem?_eq_getElem hlt⟩
   obtain ⟨p',hp'⟩:∃p',ms'[k]?=some p':=⟨_,List.getElem?_eq_getElem (by rw [hl.out];exact hlt)⟩
   have hpp:p.p=p'.p:=by
    have h1:=puts_take hp
    have h2:=puts_take hp'
    rw [he.out,h2] at h1
    exact (Option.some.inj h1).symm
   obtain ⟨z1,zE,z2,z3⟩:=hs2.out p (List.mem_of_getElem? hp)
   have hsl:=(hin.out.g (Nat.le_refl _) hg).1.get hp
   have hsl':=(hin'.out.g (Nat.le_refl _) hg).1.get hp'
   have hdat:=hin.out.2 p (List.mem_of_getElem? hp)
   have hdat':=hin'.out.2 p' (List.mem_of_getElem? hp')
   obtain ⟨pst,pex,pA,pc,pd⟩:=p
   obtain ⟨pst',pex',pA',pc',pd'⟩:=p'
   unfold PutM.p at hpp
   simp only [PutP.mk.injEq] at hpp
   obtain ⟨rfl,rfl,rfl⟩:=hpp
   simp only at z1 zE z2 z3 hdat hdat'
   obtain ⟨b,o,rfl,hb,hc⟩:=hsl
   obtain ⟨b',o',rfl,hb',hc'⟩:=hsl'
   have c0:=hc 0 _ rfl
   have c1:=hc 1 _ rfl
   have c2:=hc 2 _ rfl
   simp only [Nat.add_zero] at c0
   have d0:=hc' 0 _ rfl
   have d1:=hc' 1 _ rfl
   have d2:=hc' 2 _ rfl
   simp only [Nat.add_zero] at d0
   have n1:(0:Int)≤(k:Int):=by omega
   have n2:(k:Int) < (ms.length:Int):=by omega
   have hbx:=blk_new wo #[.string pst,.int .i64 pex,.slice pA pd.length pc] 110
   have hgn:=G.new wo (.cells #[.string pst,.int .i64 pex,.slice pA pd.length pc] 110)
   have b0:=(hgn.cell (b:=b') (o:=o'+k * 3) (by have:=hg.size;omega)).trans d0
   have b1:=(hgn.cell (b:=b') (o:=o'+k * 3+1) (by have:=hg.size;omega)).trans d1
   have b2:=(hgn.cell (b:=b') (o:=o'+k * 3+2) (by have:=hg.size;omega)).trans d2
   have b3:=q3 _ (hgr.trans hgn)
   replace hbx:=Lib.hid hbx
   replace hgn:=Lib.hid hgn
   replace hdat:=Lib.hid hdat
   replace hdat':=Lib.hid hdat'
   clear hp hp' hc hc'
   go_upto_region 8 with fail
   generalize hwx:(wo.alloc (.cells #[.string pst,.int .i64 pex,.slice pA pd.length pc] 110)).alloc (.cells #[.string pst,.int .i64 pex,.slice pA' pd.length pc'] 110)=wx
   have hgx:G wo wx:=by rw [←hwx];exact hgn.out.trans (G.new _ _)
   have hX:wx.heap[wo.heap.size]?=some (.cells #[.string pst,.int .i64 pex,.slice pA pd.length pc] 110 (0,0)):=by rw [←hwx];exact (G.new _ _).blk hbx.out
   have hY:wx.heap[wo.heap.size+1]?=some (.cells #[.string pst,.int .i64 pex,.slice pA' pd.length pc'] 110 (0,0)):=by rw [←hwx];exact blk_new' _ _ _ _ (by simp)
   clear hwx b0 b1 b2 b3 c0 c1 c2 d0 d1 d2 g1 g3
   have x0:=(blk_cell hX 0).trans (show _=some (.string pst) from rfl)
   have x1:=(blk_cell hX 1).trans (show _=some (.int .i64 pex) from rfl)
   have x2:=(blk_cell hX 2).trans (show _=some (.slice pA pd.length pc) from rfl)
   have y0:=(blk_cell hY 0).trans (show _=some (.string pst) from rfl)
   have y1:=(blk_cell hY 1).trans (show _=some (.int .i64 pex) from rfl)
   have y2:=(blk_cell hY 2).trans (show _=some (.slice pA' pd.length pc') from rfl)
   replace hX:=Lib.hid hX
   replace hY:=Lib.hid hY
   go_wp2_with fail
   clear x0 x1 x2 y0 y1 y2
   go_loopw [8] (fun i wr=>∃j:Nat,i=.int .i64 j∧j≤pd.length∧G wx wr) (fun i _=>pd.length - (intOf i).toNat)
   case atStart=>exact ⟨0,rfl,Nat.zero_le _,G.refl _⟩
   case round =>
    obtain ⟨j,rfl,hjl,hgw⟩:=hrel
    have hgt:=(hg.trans hgx).trans hgw
    have x2:=(blk_cell (hgw.blk hX.out) 2).trans (show _=some (.slice pA pd.length pc) from rfl)
    have y2:=(blk_cell (hgw.blk hY.out) 2).trans (show _=some (.slice pA' pd.length pc') from rfl)
    by_cases hjt:j < pd.length
    ·obtain ⟨t,ht⟩:∃t,pd[j]?=some t:=⟨_,List.getElem?_eq_getElem hjt⟩
     obtain ⟨b3,o3,rfl,_,t1⟩:=(hdat.out.g (Nat.le_refl _) hgt).str ht
     obtain ⟨b4,o4,rfl,_,t2⟩:=(hdat'.out.g (Nat.le_refl _) hgt).str ht
     have m1:(0:Int)≤(j:Int):=by omega
     have m2:(j:Int) < (pd.length:Int):=by omega
     clear ht
     go_upto_region 13 with fail
     go_quiet (fail)
     go_wp2_with fail
     go_roundw
     case rel=>exact ⟨j+1,by go_num,by omega,by first | exact hgw | exact hgw.drew | exact hgw.drewN _⟩
     case measure=>(simp [intOf] <;> omega)
    ·go_wp2_with fail
     go_roundw
     case rel=>exact ⟨k+1,by go_num,by omega,(hgr.trans hgx).trans hgw⟩
     case measure=>(simp [intOf] <;> omega)
  ·go_wp2_with fail
   go_ret
   exact ⟨rfl,hg⟩
end Go.Proofs.YtheogchkelmeeaaGreatDoor
/- penstockref7.SameStreams: yes to two lists of streams that hold the same. Condition: lengths fit an int. -/
namespace Go.Proofs.YtheogchkelmeeaaGreatDoor
open Go.RowKit
set_option maxRecDepth 100000 in
set_option maxHeartbeats 8000000 in
theorem sameSms_yes (ss ts : List SmM) (A A' : Option Addr) (c c' : Nat) (w : World) (hin : SmsIn w w.heap.size A ss) (hin' : SmsIn w w.heap.size A' ts) (he : ss.map SmM.sm = ts.map SmM.sm) (hl : ss.length ≤ 9223372036854775807) (hll : ∀ s ∈ ss, s.es.length ≤ 9223372036854775807 ∧ s.ks.length ≤ 9223372036854775807) :
  Calls Tryz.prog 28 #[.slice A ss.length c,.slice A' ts.length c'] w fun e w'=>e=.returned (.bool true)∧G w w':=by
 have hlen:ts.length=ss.length:=by have:=congrArg List.length he;simpa using this.symm
 rw [hlen]
 replace hin:=Lib.hid hin
 replace hin':=Lib.hid hin'
 replace he:=Lib.hid he
 replace hlen:=Lib.hid hlen
 replace hll:=Lib.hid hll
 go_enter Tryz.func28,Tryz.ntmps28
 go_wp2_with fail
 go_loopw [5] (fun i wr=>∃k:Nat,i=.int .i64 k∧k≤ss.length∧G w wr) (fun i _=>ss.length - (intOf i).toNat)
 case atStart=>exact ⟨0,rfl,Nat.zero_le _,G.refl _⟩
 case round =>
  obtain ⟨wo,rfl⟩:∃wo:World,wo=wr:=⟨_,rfl⟩
  obtain ⟨k,rfl,hkl,hg⟩:=hrel
  by_cases hlt:k < ss.length
  ·obtain ⟨p,hp⟩:∃p,ss[k]?=some p:=⟨_,List.getElem?_eq_getElem hlt⟩
   obtain ⟨p',hp'⟩:∃p',ts[k]?=some p':=⟨_,List.getElem?_eq_getElem (by rw [hlen.out];exact hlt)⟩
   have hpp:p.sm=p'.sm:=by
    have h1:(ss.map SmM.sm)[k]?=some p.sm:=by rw [List.getElem?_map,hp];rfl
    have h2:(ts.map SmM.sm)[k]?=some p'.sm:=by rw [List.getElem?_map,hp'];rfl
    rw [he.out,h2] at h1
    exact (Option.some.inj h1).symm
   obtain ⟨z1,z2⟩:=hll.out p (List.mem_of_getElem? hp)
   have hsl:=(hin.out.g (Nat.le_refl _) hg).1.get hp
   have hsl':=(hin'.out.g (Nat.le_refl _) hg).1.get hp'
   have hdat:=hin.out.2 p (List.mem_of_getElem? hp)
   have hdat':=hin'.out.2 p' (List.mem_of_getElem? hp')
   obtain ⟨pn,pA,pc,pe,pA2,pc2,pk⟩:=p
   obtain ⟨pn',pA',pc',pe',pA2',pc2',pk'⟩:=p'
   unfold SmM.sm at hpp
   simp only [Sm.mk.injEq] at hpp
   obtain ⟨rfl,rfl,rfl⟩:=hpp
   simp only at z1 z2 hdat hdat'
   obtain ⟨b,o,rfl,hb,hc⟩:=hsl
   obtain ⟨b',o',rfl,hb',hc'⟩:=hsl'
   have hgb:b < wo.heap.size:=by have:=hg.size;omega
   have hgb':b' < wo.heap.size:=by have:=hg.size;omega
   have c0:=hc 0 _ rfl
   have c1:=hc 1 _ rfl
   have c2:=hc 2 _ rfl
   simp only [Nat.add_zero] at c0
   have d0:=hc' 0 _ rfl
   have d1:=hc' 1 _ rfl
   have d2:=hc' 2 _ rfl
   simp only [Nat.add_zero] at d0
   have n1:(0:Int)≤(k:Int):=by omega
   have n2:(k:Int) < (ss.length:Int):=by omega
   have t1:(pn.toList == pn.toList)=true:=by simp
   have t2:(pn.toList != pn.toList)=false:=by simp
   have hse:∀w',G wo w'→Calls Tryz.prog 29 #[.slice pA pe.length pc,.slice pA' pe.length pc'] w' fun e w''=>e=.returned (.bool true)∧G w' w'':=fun w' h=>by
    have:=sameEvents_any pe pe pA pA' pc pc' w.heap.size w' (hg.trans h).size z1 z1 (hdat.1.g (Nat.le_refl _) (hg.trans h)) (hdat'.1.g (Nat.le_refl _) (hg.trans h))
    unfold evsB at this
    simpa using this
   have x0:∀w',G wo w'→w'.cell? ⟨b,o+k * 3,none⟩=some (.string pn):=fun w' h=>(h.cell hgb).trans c0
   have y0:∀w',G wo w'→w'.cell? ⟨b',o'+k * 3,none⟩=some (.string pn):=fun w' h=>(h.cell hgb').trans d0
   have x1:∀w',G wo w'→w'.cell? ⟨b,o+k * 3+1,none⟩=some (.slice pA pe.length pc):=fun w' h=>(h.cell hgb).trans c1
   have x2:∀w',G wo w'→w'.cell? ⟨b,o+k * 3+2,none⟩=some (.slice pA2 pk.length pc2):=fun w' h=>(h.cell hgb).trans c2
   have y1:∀w',G wo w'→w'.cell? ⟨b',o'+k * 3+1,none⟩=some (.slice pA' pe.length pc'):=fun w' h=>(h.cell hgb').trans d1
   have y2:∀w',G wo w'→w'.cell? ⟨b',o'+k * 3+2,none⟩=some (.slice pA2' pk.length pc2'):=fun w' h=>(h.cell hgb').trans d2
   replace hdat:=Lib.hid hdat
   replace hdat':=Lib.hid hdat'
   clear hp hp' hc hc'
   go_upto_region 6 with fail
   refine wp_region_held_drew (S:=fun w'=>G wo w') (by kernel_rfl) ((G.refl _).drew) (fun hHeld=>?_)
   iterate 22 (refine lin_n (by rfl) (v:=?_) (by kernel_rfl) (by exact fun _ _ _ h=>h) (by kernel_rfl) ?_ (by assumption) ?_;rotate_left;(focus (intro w hSw;(try dsimp only at hSw);simp only [List.getElem?_toArray,List.getElem?_cons_zero,List.getElem?_cons_succ,Option.map_some,Option.some.injEq];go_simp;(first | done | with_reducible rfl)));(try simp only [Act.put,List.setIfInBounds_toArray,List.set_cons_zero,List.set_cons_succ]))
   refine wpAnyH_ready (rs:=[22]) (by kernel_rfl) (by simp) ?_
   refine AllReadyH.cons (i:=22) rfl (fun K hK=>?_) AllReadyH.nil
   go_simp
   refine Calls.mono (hse _ (by assumption)) ?_
   rintro e u1 ⟨rfl,hgm⟩
   go_wp2_with fail
   refine hK.out _ _ (hgm.keep (by assumption)) (fun hHeld=>?_)
   clear hK K
   try simp only [Act.put,List.setIfInBounds_toArray,List.set_cons_zero,List.set_cons_succ]
   iterate 17 (refine lin_n (by rfl) (v:=?_) (by kernel_rfl) (by exact fun _ _ _ h=>h) (by kernel_rfl) ?_ (by assumption) ?_;rotate_left;(focus (intro w hSw;(try dsimp only at hSw);simp only [List.getElem?_toArray,List.getElem?_cons_zero,List.getElem?_cons_succ,Option.map_some,Option.some.injEq];go_simp;(first | done | with_reducible rfl)));(try simp only [Act.put,List.setIfInBounds_toArray,List.set_cons_zero,List.set_cons_succ]))
   refine wpAnyH_done (by kernel_rfl) ?_ _
   have hge:G wo u1:=by assumption
   go_wp2_with fail
   go_loopw [6] (fun i wr=>∃j:Nat,i=.int .i64 j∧j≤pk.length∧G wo wr) (fun i _=>pk.length - (intOf i).toNat)
   case atStart=>exact ⟨0,rfl,Nat.zero_le _,by assumption⟩
   case round =>
    obtain ⟨j,rfl,hjl,hgw⟩:=hrel
    have hgt:=hg.trans hgw
    have x2w:=x2 _ hgw
    have y2w:=y2 _ hgw
    by_cases hjt:j < pk.length
    ·obtain ⟨⟨yk,yv,⟨ya,yb,yc⟩⟩,ht⟩:∃t,pk[j]?=some t:=⟨_,List.getElem?_eq_getElem hjt⟩
     obtain ⟨b3,o3,rfl,_,f⟩:=(hdat.out.2.g (Nat.le_refl _) hgt).get ht
     obtain ⟨b4,o4,rfl,_,f'⟩:=(hdat'.out.2.g (Nat.le_refl _) hgt).get ht
     have f0:=f 0 _ rfl
     have f1:=f 1 _ rfl
     have f2:=f 2 _ rfl
     have f3:=f 3 _ rfl
     have f4:=f 4 _ rfl
     simp only [Nat.add_zero] at f0
     have e0:=f' 0 _ rfl
     have e1:=f' 1 _ rfl
     have e2:=f' 2 _ rfl
     have e3:=f' 3 _ rfl
     have e4:=f' 4 _ rfl
     simp only [Nat.add_zero] at e0
     have m1:(0:Int)≤(j:Int):=by omega
     have m2:(j:Int) < (pk.length:Int):=by omega
     clear ht f f' hse
     go_upto_region 11 with fail
     go_quiet (fail)
     go_wp2_with fail
     go_roundw
     case rel=>exact ⟨j+1,by go_num,by omega,by first | exact hgw | exact hgw.drew | exact hgw.drewN _⟩
     case measure=>(simp [intOf] <;> omega)
    ·go_wp2_with fail
     go_roundw
     case rel=>exact ⟨k+1,by go_num,by omega,hg.trans hgw⟩
     case measure=>(simp [intOf] <;> omega)
  ·go_wp2_with fail
   go_ret
   exact ⟨rfl,hg⟩
end Go.Proofs.YtheogchkelmeeaaGreatDoor
/- penstockref10.Same of two messages alike: true. Condition: lengths as told. -/
namespace Go.Proofs.YtheogchkelmeeaaGreatDoor
open Go.RowKit
theorem stB_self (a b c:Int):stB ⟨a,b,c⟩ ⟨a,b,c⟩=true:=by simp [stB]
theorem txB_self (a b c:Int):txB a b c a b c=true:=by simp [txB]
set_option maxRecDepth 100000 in
set_option maxHeartbeats 8000000 in
theorem sameMsg_yes (r q : MsgM) (w : World) (hr : r.In w) (hq : q.In w) (he : r.p = q.p) (hs : r.Small) :
  Calls Tryz.prog 8 #[.agg r.cells,.agg q.cells] w fun e w'=>e=.returned (.bool true)∧G w w':=by
 have hB:∀w',G w w'→Calls Tryz.prog 26 #[.agg #[.string r.key,.slice r.Ap r.ps.length r.cp],.agg #[.string q.key,.slice q.Ap q.ps.length q.cp]] w' fun e w''=>e=.returned (.bool true)∧G w' w'':=fun w' hg=>by
  have h:=sameBatch_yes r.key r.ps q.ps r.Ap q.Ap r.cp q.cp w' (hr.g hg).ps (hq.g hg).ps (congrArg MsgP.ps he) hs.ps
  rw [←(show r.key=q.key from congrArg MsgP.key he)]
  exact h
 have hI:∀w',G w w'→Calls Tryz.prog 27 #[.slice r.An r.firsts.length r.cn,.slice q.An q.firsts.length q.cn] w' fun e w''=>e=.returned (.bool true)∧G w' w'':=fun w' hg=>by
  have e1:r.firsts=q.firsts:=congrArg MsgP.firsts he
  have h:=sameInts_any r.firsts q.firsts r.An q.An r.cn q.cn w'.heap.size w'.heap.size w' (Nat.le_refl _) (Nat.le_refl _) (by have:=hs.firstsL;omega) (by rw [←e1];have:=hs.firstsL;omega) (hr.g hg).firsts (hq.g hg).firsts
  rw [decide_eq_true e1] at h
  exact h
 have hS:∀w',G w w'→Calls Tryz.prog 28 #[.slice r.As r.sms.length r.cs,.slice q.As q.sms.length q.cs] w' fun e w''=>e=.returned (.bool true)∧G w' w'':=fun w' hg =>
  sameSms_yes r.sms q.sms r.As q.As r.cs q.cs w' (hr.g hg).sms (hq.g hg).sms (congrArg MsgP.sms he) (by have:=hs.smsL;omega) fun s hm=>by
   have:=(hs.sms s hm).1
   exact ⟨by have:=this.2.1.1;omega,by have:=this.2.2.1;omega⟩
 have hE:∀w',G w w'→Calls Tryz.prog 29 #[.slice r.Ae r.es.length r.ce,.slice q.Ae q.es.length q.ce] w' fun e w''=>e=.returned (.bool true)∧G w' w'':=fun w' hg=>by
  have e1:r.es=q.es:=congrArg MsgP.es he
  have h:=sameEvents_any r.es q.es r.Ae q.Ae r.ce q.ce w'.heap.size w' (Nat.le_refl _) (by have:=hs.esL;omega) (by rw [←e1];have:=hs.esL;omega) (hr.g hg).es (hq.g hg).es
  rw [show evsB r.es q.es=true from decide_eq_true e1] at h
  exact h
 have hR:∀w',G w w'→Calls Tryz.prog 30 #[.slice r.Ag r.rgs.length r.cg,.slice q.Ag q.rgs.length q.cg] w' fun e w''=>e=.returned (.bool true)∧G w' w'':=fun w' hg=>by
  have e1:r.rgs=q.rgs:=congrArg MsgP.rgs he
  have h2:=(hq.g hg).rgs
  rw [←e1] at h2 ⊢
  exact sameRgs_yes r.rgs r.Ag q.Ag r.cg q.cg w'.heap.size w'.heap.size w' (Nat.le_refl _) (Nat.le_refl _) (by have:=hs.rgsL;omega) (hr.g hg).rgs h2
 clear hr hq hs
 obtain ⟨kind,x1,x2,x3,key,Ap,cp,ps,⟨a,b,c⟩,code,An,cn,firsts,yes,z1,z2,z3,z4,As,cs,sms,src,total,Ae,ce,es,Ag,cg,rgs⟩:=r
 obtain ⟨kind',x1',x2',x3',key',Ap',cp',ps',⟨a',b',c'⟩,code',An',cn',firsts',yes',z1',z2',z3',z4',As',cs',sms',src',total',Ae',ce',es',Ag',cg',rgs'⟩:=q
 simp only [MsgM.p,MsgP.mk.injEq,St.mk.injEq] at he
 obtain ⟨rfl,rfl,rfl,rfl,rfl,hps,⟨rfl,rfl,rfl⟩,rfl,rfl,rfl,rfl,rfl,rfl,rfl,hsms,rfl,rfl,rfl,rfl⟩:=he
 unfold MsgM.cells
 dsimp only at hI hB hS hE hR ⊢
 have hq1:=@st_eql
 have hq2:=@tx_eql
 have hq3:=@rg_eql
 have e1:=stB_self a b c
 have e2:=txB_self x1 x2 x3
 have e3:=rgB_self z1 z2 z3 z4
 clear hps hsms
 go_enter Tryz.func8,Tryz.ntmps8
 go_upto_region 1 with fail
 generalize hW0:(w.alloc (.cells #[.int .i64 kind,.int .i64 x1,.int .i64 x2,.int .i64 x3,.string key,.slice Ap ps.length cp,.int .i64 a,.int .i64 b,.int .i64 c,.int .i64 code,.slice An firsts.length cn,.bool yes,.int .i64 z1,.int .i64 z2,.int .i64 z3,.int .i64 z4,.slice As sms.length cs,.int .i64 src,.int .i64 total,.slice Ae es.length ce,.slice Ag rgs.length cg] 41)).alloc (.cells #[.int .i64 kind,.int .i64 x1,.int .i64 x2,.int .i64 x3,.string key,.slice Ap' ps'.length cp',.int .i64 a,.int .i64 b,.int .i64 c,.int .i64 code,.slice An' firsts.length cn',.bool yes,.int .i64 z1,.int .i64 z2,.int .i64 z3,.int .i64 z4,.slice As' sms'.length cs',.int .i64 src,.int .i64 total,.slice Ae' es.length ce',.slice Ag' rgs.length cg'] 41)=W0
 have hz:w.heap.size+1 < W0.heap.size:=by rw [←hW0];simp
 have hG0:G w W0:=by rw [←hW0];exact (G.new _ _).alloc _
 have r0:W0.cell? ⟨w.heap.size,0,none⟩=some (.int .i64 kind):=by rw [←hW0];simp
 have r1:W0.cell? ⟨w.heap.size,1,none⟩=some (.int .i64 x1):=by rw [←hW0];simp
 have r2:W0.cell? ⟨w.heap.size,2,none⟩=some (.int .i64 x2):=by rw [←hW0];simp
 have r3:W0.cell? ⟨w.heap.size,3,none⟩=some (.int .i64 x3):=by rw [←hW0];simp
 have r4:W0.cell? ⟨w.heap.size,4,none⟩=some (.string key):=by rw [←hW0];simp
 have r5:W0.cell? ⟨w.heap.size,5,none⟩=some (.slice Ap ps.length cp):=by rw [←hW0];simp
 have r6:W0.cell? ⟨w.heap.size,6,none⟩=some (.int .i64 a):=by rw [←hW0];simp
 have r7:W0.cell? ⟨w.heap.size,7,none⟩=some (.int .i64 b):=by rw [←hW0];simp
 have r8:W0.cell? ⟨w.heap.size,8,none⟩=some (.int .i64 c):=by rw [←hW0];simp
 have r9:W0.cell? ⟨w.heap.size,9,none⟩=some (.int .i64 code):=by rw [←hW0];simp
 have r10:W0.cell? ⟨w.heap.size,10,none⟩=some (.slice An firsts.length cn):=by rw [←hW0];simp
 have r11:W0.cell? ⟨w.heap.size,11,none⟩=some (.bool yes):=by rw [←hW0];simp
 have r12:W0.cell? ⟨w.heap.size,12,none⟩=some (.int .i64 z1):=by rw [←hW0];simp
 have r13:W0.cell? ⟨w.heap.size,13,none⟩=some (.int .i64 z2):=by rw [←hW0];simp
 have r14:W0.cell? ⟨w.heap.size,14,none⟩=some (.int .i64 z3):=by rw [←hW0];simp
 have r15:W0.cell? ⟨w.heap.size,15,none⟩=some (.int .i64 z4):=by rw [←hW0];simp
 have r16:W0.cell? ⟨w.heap.size,16,none⟩=some (.slice As sms.length cs):=by rw [←hW0];simp
 have r17:W0.cell? ⟨w.heap.size,17,none⟩=some (.int .i64 src):=by rw [←hW0];simp
 have r18:W0.cell? ⟨w.heap.size,18,none⟩=some (.int .i64 total):=by rw [←hW0];simp
 have r19:W0.cell? ⟨w.heap.size,19,none⟩=some (.slice Ae es.length ce):=by rw [←hW0];simp
 have r20:W0.cell? ⟨w.heap.size,20,none⟩=some (.slice Ag rgs.length cg):=by rw [←hW0];simp
 have r21:W0.cell? ⟨w.heap.size+1,0,none⟩=some (.int .i64 kind):=by rw [←hW0];simp
 have r22:W0.cell? ⟨w.heap.size+1,1,none⟩=some (.int .i64 x1):=by rw [←hW0];simp
 have r23:W0.cell? ⟨w.heap.size+1,2,none⟩=some (.int .i64 x2):=by rw [←hW0];simp
 have r24:W0.cell? ⟨w.heap.size+1,3,none⟩=some (.int .i64 x3):=by rw [←hW0];simp
 have r25:W0.cell? ⟨w.heap.size+1,4,none⟩=some (.string key):=by rw [←hW0];simp
 have r26:W0.cell? ⟨w.heap.size+1,5,none⟩=some (.slice Ap' ps'.length cp'):=by rw [←hW0];simp
 have r27:W0.cell? ⟨w.heap.size+1,6,none⟩=some (.int .i64 a):=by rw [←hW0];simp
 have r28:W0.cell? ⟨w.heap.size+1,7,none⟩=some (.int .i64 b):=by rw [←hW0];simp
 have r29:W0.cell? ⟨w.heap.size+1,8,none⟩=some (.int .i64 c):=by rw [←hW0];simp
 have r30:W0.cell? ⟨w.heap.size+1,9,none⟩=some (.int .i64 code):=by rw [←hW0];simp
 have r31:W0.cell? ⟨w.heap.size+1,10,none⟩=some (.slice An' firsts.length cn'):=by rw [←hW0];simp
 have r32:W0.cell? ⟨w.heap.size+1,11,none⟩=some (.bool yes):=by rw [←hW0];simp
 have r33:W0.cell? ⟨w.heap.size+1,12,none⟩=some (.int .i64 z1):=by rw [←hW0];simp
 have r34:W0.cell? ⟨w.heap.size+1,13,none⟩=some (.int .i64 z2):=by rw [←hW0];simp
 have r35:W0.cell? ⟨w.heap.size+1,14,none⟩=some (.int .i64 z3):=by rw [←hW0];simp
 have r36:W0.cell? ⟨w.heap.size+1,15,none⟩=some (.int .i64 z4):=by rw [←hW0];simp
 have r37:W0.cell? ⟨w.heap.size+1,16,none⟩=some (.slice As' sms'.length cs'):=by rw [←hW0];simp
 have r38:W0.cell? ⟨w.heap.size+1,17,none⟩=some (.int .i64 src):=by rw [←hW0];simp
 have r39:W0.cell? ⟨w.heap.size+1,18,none⟩=some (.int .i64 total):=by rw [←hW0];simp
 have r40:W0.cell? ⟨w.heap.size+1,19,none⟩=some (.slice Ae' es.length ce'):=by rw [←hW0];simp
 have r41:W0.cell? ⟨w.heap.size+1,20,none⟩=some (.slice Ag' rgs.length cg'):=by rw [←hW0];simp
 clear hW0
 have q0:∀w',G W0 w'→w'.cell? ⟨w.heap.size,0,none⟩=some (.int .i64 kind):=fun w' h=>(h.cell (by omega)).trans r0
 have q1:∀w',G W0 w'→w'.cell? ⟨w.heap.size,1,none⟩=some (.int .i64 x1):=fun w' h=>(h.cell (by omega)).trans r1
 have q2:∀w',G W0 w'→w'.cell? ⟨w.heap.size,2,none⟩=some (.int .i64 x2):=fun w' h=>(h.cell (by omega)).trans r2
 have q3:∀w',G W0 w'→w'.cell? ⟨w.heap.size,3,none⟩=some (.int .i64 x3):=fun w' h=>(h.cell (by omega)).trans r3
 have q4:∀w',G W0 w'→w'.cell? ⟨w.heap.size,4,none⟩=some (.string key):=fun w' h=>(h.cell (by omega)).trans r4
 have q5:∀w',G W0 w'→w'.cell? ⟨w.heap.size,5,none⟩=some (.slice Ap ps.length cp):=fun w' h=>(h.cell (by omega)).trans r5
 have q6:∀w',G W0 w'→w'.cell? ⟨w.heap.size,6,none⟩=some (.int .i64 a):=fun w' h=>(h.cell (by omega)).trans r6
 have q7:∀w',G W0 w'→w'.cell? ⟨w.heap.size,7,none⟩=some (.int .i64 b):=fun w' h=>(h.cell (by omega)).trans r7
 have q8:∀w',G W0 w'→w'.cell? ⟨w.heap.size,8,none⟩=some (.int .i64 c):=fun w' h=>(h.cell (by omega)).trans r8
 have q9:∀w',G W0 w'→w'.cell? ⟨w.heap.size,9,none⟩=some (.int .i64 code):=fun w' h=>(h.cell (by omega)).trans r9
 have q10:∀w',G W0 w'→w'.cell? ⟨w.heap.size,10,none⟩=some (.slice An firsts.length cn):=fun w' h=>(h.cell (by omega)).trans r10
 have q11:∀w',G W0 w'→w'.cell? ⟨w.heap.size,11,none⟩=some (.bool yes):=fun w' h=>(h.cell (by omega)).trans r11
 have q12:∀w',G W0 w'→w'.cell? ⟨w.heap.size,12,none⟩=some (.int .i64 z1):=fun w' h=>(h.cell (by omega)).trans r12
 have q13:∀w',G W0 w'→w'.cell? ⟨w.heap.size,13,none⟩=some (.int .i64 z2):=fun w' h=>(h.cell (by omega)).trans r13
 have q14:∀w',G W0 w'→w'.cell? ⟨w.heap.size,14,none⟩=some (.int .i64 z3):=fun w' h=>(h.cell (by omega)).trans r14
 have q15:∀w',G W0 w'→w'.cell? ⟨w.heap.size,15,none⟩=some (.int .i64 z4):=fun w' h=>(h.cell (by omega)).trans r15
 have q16:∀w',G W0 w'→w'.cell? ⟨w.heap.size,16,none⟩=some (.slice As sms.length cs):=fun w' h=>(h.cell (by omega)).trans r16
 have q17:∀w',G W0 w'→w'.cell? ⟨w.heap.size,17,none⟩=some (.int .i64 src):=fun w' h=>(h.cell (by omega)).trans r17
 have q18:∀w',G W0 w'→w'.cell? ⟨w.heap.size,18,none⟩=some (.int .i64 total):=fun w' h=>(h.cell (by omega)).trans r18
 have q19:∀w',G W0 w'→w'.cell? ⟨w.heap.size,19,none⟩=some (.slice Ae es.length ce):=fun w' h=>(h.cell (by omega)).trans r19
 have q20:∀w',G W0 w'→w'.cell? ⟨w.heap.size,20,none⟩=some (.slice Ag rgs.length cg):=fun w' h=>(h.cell (by omega)).trans r20
 have q21:∀w',G W0 w'→w'.cell? ⟨w.heap.size+1,0,none⟩=some (.int .i64 kind):=fun w' h=>(h.cell (by omega)).trans r21
 have q22:∀w',G W0 w'→w'.cell? ⟨w.heap.size+1,1,none⟩=some (.int .i64 x1):=fun w' h=>(h.cell (by omega)).trans r22
 have q23:∀w',G W0 w'→w'.cell? ⟨w.heap.size+1,2,none⟩=some (.int .i64 x2):=fun w' h=>(h.cell (by omega)).trans r23
 have q24:∀w',G W0 w'→w'.cell? ⟨w.heap.size+1,3,none⟩=some (.int .i64 x3):=fun w' h=>(h.cell (by omega)).trans r24
 have q25:∀w',G W0 w'→w'.cell? ⟨w.heap.size+1,4,none⟩=some (.string key):=fun w' h=>(h.cell (by omega)).trans r25
 have q26:∀w',G W0 w'→w'.cell? ⟨w.heap.size+1,5,none⟩=some (.slice Ap' ps'.length cp'):=fun w' h=>(h.cell (by omega)).trans r26
 have q27:∀w',G W0 w'→w'.cell? ⟨w.heap.size+1,6,none⟩=some (.int .i64 a):=fun w' h=>(h.cell (by omega)).trans r27
 have q28:∀w',G W0 w'→w'.cell? ⟨w.heap.size+1,7,none⟩=some (.int .i64 b):=fun w' h=>(h.cell (by omega)).trans r28
 have q29:∀w',G W0 w'→w'.cell? ⟨w.heap.size+1,8,none⟩=some (.int .i64 c):=fun w' h=>(h.cell (by omega)).trans r29
 have q30:∀w',G W0 w'→w'.cell? ⟨w.heap.size+1,9,none⟩=some (.int .i64 code):=fun w' h=>(h.cell (by omega)).trans r30
 have q31:∀w',G W0 w'→w'.cell? ⟨w.heap.size+1,10,none⟩=some (.slice An' firsts.length cn'):=fun w' h=>(h.cell (by omega)).trans r31
 have q32:∀w',G W0 w'→w'.cell? ⟨w.heap.size+1,11,none⟩=some (.bool yes):=fun w' h=>(h.cell (by omega)).trans r32
 have q33:∀w',G W0 w'→w'.cell? ⟨w.heap.size+1,12,none⟩=some (.int .i64 z1):=fun w' h=>(h.cell (by omega)).trans r33
 have q34:∀w',G W0 w'→w'.cell? ⟨w.heap.size+1,13,none⟩=some (.int .i64 z2):=fun w' h=>(h.cell (by omega)).trans r34
 have q35:∀w',G W0 w'→w'.cell? ⟨w.heap.size+1,14,none⟩=some (.int .i64 z3):=fun w' h=>(h.cell (by omega)).trans r35
 have q36:∀w',G W0 w'→w'.cell? ⟨w.heap.size+1,15,none⟩=some (.int .i64 z4):=fun w' h=>(h.cell (by omega)).trans r36
 have q37:∀w',G W0 w'→w'.cell? ⟨w.heap.size+1,16,none⟩=some (.slice As' sms'.length cs'):=fun w' h=>(h.cell (by omega)).trans r37
 have q38:∀w',G W0 w'→w'.cell? ⟨w.heap.size+1,17,none⟩=some (.int .i64 src):=fun w' h=>(h.cell (by omega)).trans r38
 have q39:∀w',G W0 w'→w'.cell? ⟨w.heap.size+1,18,none⟩=some (.int .i64 total):=fun w' h=>(h.cell (by omega)).trans r39
 have q40:∀w',G W0 w'→w'.cell? ⟨w.heap.size+1,19,none⟩=some (.slice Ae' es.length ce'):=fun w' h=>(h.cell (by omega)).trans r40
 have q41:∀w',G W0 w'→w'.cell? ⟨w.heap.size+1,20,none⟩=some (.slice Ag' rgs.length cg'):=fun w' h=>(h.cell (by omega)).trans r41
 clear r0 r1 r2 r3 r4 r5 r6 r7 r8 r9 r10 r11 r12 r13 r14 r15 r16 r17 r18 r19 r20 r21 r22 r23 r24 r25 r26 r27 r28 r29 r30 r31 r32 r33 r34 r35 r36 r37 r38 r39 r40 r41
 have g0:=q0 _ (G.refl W0)
 have g1:=q1 _ (G.refl W0)
 have g2:=q2 _ (G.refl W0)
 have g3:=q3 _ (G.refl W0)
 have g4:=q4 _ (G.refl W0)
 have g5:=q5 _ (G.refl W0)
 have g6:=q6 _ (G.refl W0)
 have g7:=q7 _ (G.refl W0)
 have g8:=q8 _ (G.refl W0)
 have g9:=q9 _ (G.refl W0)
 have g10:=q10 _ (G.refl W0)
 have g11:=q11 _ (G.refl W0)
 have g12:=q12 _ (G.refl W0)
 have g13:=q13 _ (G.refl W0)
 have g14:=q14 _ (G.refl W0)
 have g15:=q15 _ (G.refl W0)
 have g16:=q16 _ (G.refl W0)
 have g17:=q17 _ (G.refl W0)
 have g18:=q18 _ (G.refl W0)
 have g19:=q19 _ (G.refl W0)
 have g20:=q20 _ (G.refl W0)
 have g21:=q21 _ (G.refl W0)
 have g22:=q22 _ (G.refl W0)
 have g23:=q23 _ (G.refl W0)
 have g24:=q24 _ (G.refl W0)
 have g25:=q25 _ (G.refl W0)
 have g26:=q26 _ (G.refl W0)
 have g27:=q27 _ (G.refl W0)
 have g28:=q28 _ (G.refl W0)
 have g29:=q29 _ (G.refl W0)
 have g30:=q30 _ (G.refl W0)
 have g31:=q31 _ (G.refl W0)
 have g32:=q32 _ (G.refl W0)
 have g33:=q33 _ (G.refl W0)
 have g34:=q34 _ (G.refl W0)
 have g35:=q35 _ (G.refl W0)
 have g36:=q36 _ (G.refl W0)
 have g37:=q37 _ (G.refl W0)
 have g38:=q38 _ (G.refl W0)
 have g39:=q39 _ (G.refl W0)
 have g40:=q40 _ (G.refl W0)
 have g41:=q41 _ (G.refl W0)
 go_wp2_with (first
  | (go_at_call 26;(with_reducible refine Calls.mono (hB _ (by assumption)) ?_);rintro e u1 ⟨rfl,hk1⟩;have k1':=hG0.trans hk1;have k1'':=hk1;have g6:=q6 _ k1'';have g27:=q27 _ k1'';have g7:=q7 _ k1'';have g28:=q28 _ k1'';have g8:=q8 _ k1'';have g29:=q29 _ k1'';have g9:=q9 _ k1'';have g30:=q30 _ k1'';have g10:=q10 _ k1'';have g31:=q31 _ k1'';have g11:=q11 _ k1'';have g32:=q32 _ k1'';have g12:=q12 _ k1'';have g33:=q33 _ k1'';have g13:=q13 _ k1'';have g34:=q34 _ k1'';have g14:=q14 _ k1'';have g35:=q35 _ k1'';have g15:=q15 _ k1'';have g36:=q36 _ k1'';have g16:=q16 _ k1'';have g37:=q37 _ k1'')
  | (go_at_call 27;(with_reducible refine Calls.mono (hI _ (by assumption)) ?_);rintro e u2 ⟨rfl,hk2⟩;have k2':=k1'.trans hk2;have k2'':=k1''.trans hk2;have g11:=q11 _ k2'';have g32:=q32 _ k2'';have g12:=q12 _ k2'';have g33:=q33 _ k2'';have g13:=q13 _ k2'';have g34:=q34 _ k2'';have g14:=q14 _ k2'';have g35:=q35 _ k2'';have g15:=q15 _ k2'';have g36:=q36 _ k2'';have g16:=q16 _ k2'';have g37:=q37 _ k2'')
  | (go_at_call 28;(with_reducible refine Calls.mono (hS _ (by assumption)) ?_);rintro e u3 ⟨rfl,hk3⟩;have k3':=k2'.trans hk3;have k3'':=k2''.trans hk3;have g17:=q17 _ k3'';have g38:=q38 _ k3'';have g18:=q18 _ k3'';have g39:=q39 _ k3'';have g19:=q19 _ k3'';have g40:=q40 _ k3'')
  | (go_at_call 29;(with_reducible refine Calls.mono (hE _ (by assumption)) ?_);rintro e u4 ⟨rfl,hk4⟩;have k4':=k3'.trans hk4;have k4'':=k3''.trans hk4;have g20:=q20 _ k4'';have g41:=q41 _ k4'')
  | (go_at_call 30;(with_reducible refine Calls.mono (hR _ (by assumption)) ?_);rintro e u5 ⟨rfl,hk5⟩;have k5':=k4'.trans hk5;have k5'':=k4''.trans hk5))
 go_ret
 exact ⟨rfl,k5'⟩
end Go.Proofs.YtheogchkelmeeaaGreatDoor

/- event.may: what it answers. Conditions: lengths of at most 2^30; the decoder's tables lie as the library lays them. -/
import Derived.Test.YtheogchkelmeeaaGreatDoorM14MsgDecodes
import Derived.Test.YtheogchkelmeeaaGreatDoorM15MsgDecodes
namespace Go.Proofs.YtheogchkelmeeaaGreatDoor
open Go.RowKit
/-- Puts so small that all lengths fit. -/
def PutsSmall (ps:List PutM):Prop:=ps.length≤1073741824∧∀p ∈ ps,p.stream.size≤1073741824∧(-9223372036854775808≤p.expect∧p.expect≤9223372036854775807)∧p.data.length≤1073741824∧∀s ∈ p.data,s.size≤1073741824
theorem puts_take {ps:List PutM} {k:Nat} {p:PutM} (h:ps[k]?=some p):(ps.map PutM.p)[k]?=some p.p:=by rw [List.getElem?_map,h];rfl
theorem strs_take {ps:List PutM} {k:Nat} {p:PutM} (h:ps[k]?=some p):((ps.take (k+1)).map PutM.stream)=((ps.take k).map PutM.stream)++[p.stream]:=by
 rw [take_snocP h,List.map_append]
 rfl
theorem strs_same (ps:List PutM):(ps.map PutM.p).map PutP.stream=ps.map PutM.stream:=by rw [List.map_map];rfl
/-- How the round over the puts stands. -/
structure MaySt (ps:List PutM) (w:World) (mb k:Nat) (wr:World):Prop where
 ok:∀p ∈ ps.take k,putOk p.p=true
 ap:apart ((ps.take k).map PutM.stream)=true
 map:MapIs wr mb k (cntOf ((ps.take k).map PutM.stream))
 mb:w.heap.size≤mb
 g:G w wr
set_option maxRecDepth 100000 in
set_option maxHeartbeats 8000000 in
theorem may_any (key : ByteArray) (ps : List PutM) (A : Option Addr) (c : Nat) (w : World) (hin : PutsIn w w.heap.size A ps) (hk : key.size ≤ 1073741824) (hsm : PutsSmall ps) (hT : Tabs w) :
  Calls Tryz.prog 106 #[.agg #[.string key,.slice A ps.length c]] w fun e w'=>e=.returned (.bool (argB key (ps.map PutM.p)))∧G w w':=by
 obtain ⟨hs1,hs2⟩:=hsm
 have hke:∀w',G w w'→Calls Tryz.prog 116 #[.string key] w' fun e w''=>e=.returned (.bool (keyB key))∧G w' w'':=fun w' hg=>key_any key w' (by omega) (hT.g hg)
 replace hT:=Lib.hid hT
 replace hin:=Lib.hid hin
 replace hs2:=Lib.hid hs2
 replace hke:=Lib.hid hke
 have hb0:=blk_new w #[.string key,.slice A ps.length c] 31
 have hg0:=G.new w (.cells #[.string key,.slice A ps.length c] 31)
 have hz0:(w.alloc (.cells #[.string key,.slice A ps.length c] 31)).heap.size=w.heap.size+1:=by simp
 have hm0:=MapIs.made (w.alloc (.cells #[.string key,.slice A ps.length c] 31))
 have hst:MaySt ps w (w.heap.size+1) 0 ((w.alloc (.cells #[.string key,.slice A ps.length c] 31)).alloc (.map #[] 0)):=⟨by simp,rfl,by rw [hz0] at hm0;exact hm0,by omega,hg0.alloc _⟩
 replace hb0:=Lib.hid ((G.new _ (.map #[] 0)).blk hb0)
 replace hst:=Lib.hid hst
 clear hg0 hz0 hm0
 have hmm:=@run_makeMap Tryz.prog
 go_enter Tryz.func106,Tryz.ntmps106
 go_wp2_with fail
 go_loopw [10] (fun i wr=>∃k:Nat,i=.int .i64 k∧k≤ps.length∧Hid (MaySt ps w (w.heap.size+1) k wr)∧Hid (wr.heap[w.heap.size]?=some (.cells #[.string key,.slice A ps.length c] 31 (0,0)))) (fun i _=>ps.length - (intOf i).toNat)
 case atStart=>exact ⟨0,rfl,Nat.zero_le _,hst,hb0⟩
 case round =>
  clear hst hb0
  obtain ⟨k,rfl,hk2,hst,hb0⟩:=hrel
  by_cases hlt:k < ps.length
  ·obtain ⟨p,hp⟩:∃p,ps[k]?=some p:=⟨_,List.getElem?_eq_getElem hlt⟩
   have hpm:=List.mem_of_getElem? hp
   obtain ⟨z1,zE,z2,z3⟩:=hs2.out p hpm
   have hsl:=(hin.out.g (Nat.le_refl _) hst.out.g).1.get hp
   have hdat:=hin.out.2 p hpm
   have hsn:=strs_take hp
   obtain ⟨pst,pex,pA,pc,pd⟩:=p
   simp only at z1 zE z2 z3 hdat hsn
   obtain ⟨b,o,rfl,hb,hc⟩:=hsl
   have c0:=hc 0 _ rfl
   have c1:=hc 1 _ rfl
   have c2:=hc 2 _ rfl
   simp only [Nat.add_zero] at c0
   have hcnt:=cntOf_le ((ps.take k).map PutM.stream) pst
   have hkl:((ps.take k).map PutM.stream).length≤k:=by simp;omega
   have hwf:=wf_i64 (n:=cntOf ((ps.take k).map PutM.stream) pst+1) (by omega) (by omega)
   have n1:(0:Int)≤(k:Int):=by omega
   have n2:(k:Int) < (ps.length:Int):=by omega
   have hmp:=hst.out.map.g (G.new wr (.cells #[.string pst,.int .i64 pex,.slice pA pd.length pc] 110))
   have hbx:=blk_new wr #[.string pst,.int .i64 pex,.slice pA pd.length pc] 110
   have hmlt:w.heap.size+1 < wr.heap.size:=hst.out.map.lt
   replace hsn:=Lib.hid hsn
   replace hdat:=Lib.hid hdat
   replace hp:=Lib.hid hp
   replace hbx:=Lib.hid hbx
   generalize hgf:cntOf ((ps.take k).map PutM.stream)=gf at *
   replace hgf:=Lib.hid hgf
   have hz1:pst.size≤9223372036854775807:=by omega
   have n3:-9223372036854775808≤gf pst+1:=by omega
   have n4:gf pst+1≤9223372036854775807:=by omega
   clear hc hkl
   go_wp2_with (first
    | (at_lookup;refine wpList_map_look _ rfl (.tmp 14) (.tmp 16) rfl (w.heap.size+1) k gf rfl hmp pst rfl hz1 ?_)
    | (at_mapUpdate;refine wpList_map_put _ rfl (.tmp 14) (.tmp 16) (.tmp 18) rfl (w.heap.size+1) k gf rfl hmp (by omega) pst rfl hz1 (gf pst+1) rfl hwf ?_;intro W2 hm2 hgr2))
   have hG2:G w W2:=G.mapped (hst.out.g.alloc _) hgr2 (by omega)
   have hbx2:W2.heap[wr.heap.size]?=some (.cells #[.string pst,.int .i64 pex,.slice pA pd.length pc] 110 (0,0)):=(hgr2.block _ (blk_lt hbx.out) (by simp;omega)).trans hbx.out
   have hb02:W2.heap[w.heap.size]?=some (.cells #[.string key,.slice (some ⟨b,o,none⟩) ps.length c] 31 (0,0)):=by
    have h1:=(G.new wr (.cells #[.string pst,.int .i64 pex,.slice pA pd.length pc] 110)).blk hb0.out
    exact (hgr2.block _ (blk_lt h1) (by simp)).trans h1
   have x0:∀w',G W2 w'→w'.cell? ⟨wr.heap.size,0,none⟩=some (.string pst):=fun w' h=>(blk_cell (h.blk hbx2) 0).trans rfl
   have x1:∀w',G W2 w'→w'.cell? ⟨wr.heap.size,1,none⟩=some (.int .i64 pex):=fun w' h=>(blk_cell (h.blk hbx2) 1).trans rfl
   have x2:∀w',G W2 w'→w'.cell? ⟨wr.heap.size,2,none⟩=some (.slice pA pd.length pc):=fun w' h=>(blk_cell (h.blk hbx2) 2).trans rfl
   have hlk:∀w',G W2 w'→(Instr.lookup 179 (.map (some (w.heap.size+1))) (.string pst) false).run Tryz.prog w'=.ok (.int .i64 (gf pst+1)) w':=fun w' h=>by
    have:=(hm2.g h).look pst hz1
    rwa [upd_same] at this
   have hn:∀w',G W2 w'→Calls Tryz.prog 108 #[.string pst] w' fun e w''=>e=.returned (.bool (nameB pst))∧G w' w'':=fun w' h=>name_any pst w' (by omega) (hT.out.g (hG2.trans h))
   have hdw:∀w',G W2 w'→Sl strC 1 w' w'.heap.size pA pd:=fun w' h=>(hdat.out.g (Nat.le_refl _) (hG2.trans h)).more (hG2.trans h).size
   have hTw:∀w',G W2 w'→Tabs w':=fun w' h=>hT.out.g (hG2.trans h)
   have hzd:∀s ∈ pd,s.size≤9223372036854775807:=fun s hs=>by have:=z3 s hs;omega
   have hno1:¬ (nameB pst=true∧(-1≤pex∧pex≤1099511627776)∧pd≠[]∧pd.all validB=true)→argB key (ps.map PutM.p)=false:=fun h=>argNo_put (puts_take hp.out) (by
    cases hk:putOk (PutM.p ⟨pst,pex,pA,pc,pd⟩) with
    | false=>rfl
    | true=>exact absurd ((putOk_iff _).1 hk) h)
   have hno2:1 < gf pst+1→argB key (ps.map PutM.p)=false:=fun h=>argNo_twice (puts_take hp.out) (by
    have h2:0 < cntOf ((ps.take k).map PutM.stream) pst:=by rw [hgf.out];omega
    rw [←List.map_take,strs_same]
    exact (cntOf_pos _ _).1 h2)
   have hyes2:¬ 1 < gf pst+1→apart ((ps.take (k+1)).map PutM.stream)=true:=fun h=>by
    rw [hsn.out,apart_snoc,hst.out.ap]
    have h2:¬ 0 < cntOf ((ps.take k).map PutM.stream) pst:=by rw [hgf.out];omega
    rw [Bool.eq_false_iff.2 fun h=>h2 ((cntOf_pos _ _).2 h)]
    rfl
   have hm3:MapIs W2 (w.heap.size+1) (k+1) (cntOf ((ps.take (k+1)).map PutM.stream)):=by
    rw [hsn.out,cntOf_snoc,hgf.out]
    exact hm2
   replace hlk:=hlk
   generalize hq:gf pst+1=q at *
   have hap:=hst.out.ap
   have hokk:=hst.out.ok
   replace hq:=Lib.hid hq
   replace hno1:=Lib.hid hno1
   replace hno2:=Lib.hid hno2
   replace hyes2:=Lib.hid hyes2
   replace hap:=Lib.hid hap
   replace hokk:=Lib.hid hokk
   replace hm3:=Lib.hid hm3
   replace hbx2:=Lib.hid hbx2
   replace hb02:=Lib.hid hb02
   replace hn:=Lib.hid hn
   replace hdw:=Lib.hid hdw
   replace hTw:=Lib.hid hTw
   replace hzd:=Lib.hid hzd
   clear hgr2 hm2 hmp hst hb0 hbx hwf hcnt n3 n4 hgf hmlt c0 c1 c2
   cases h1:nameB pst with
   | false =>
    rw [h1] at hn
    have hno:=hno1.out (by rw [h1];simp)
    replace hno:=Lib.hid hno
    refine wp_region_held_drew (S:=fun w'=>G W2 w') (by kernel_rfl) ((G.refl _).drew) (fun hHeld=>?_)
    iterate 2 (refine lin_n (by rfl) (v:=?_) (by kernel_rfl) (by exact fun _ _ _ h=>h) (by kernel_rfl) ?_ (by assumption) ?_;rotate_left;(focus (intro w hSw;(try dsimp only at hSw);simp only [List.getElem?_toArray,List.getElem?_cons_zero,List.getElem?_cons_succ,Option.map_some,Option.some.injEq];go_simp;(first | done | with_reducible rfl)));(try simp only [Act.put,List.setIfInBounds_toArray,List.set_cons_zero,List.set_cons_succ]))
    refine wpAnyH_ready (rs:=[2]) (by kernel_rfl) (by simp) ?_
    refine AllReadyH.cons (i:=2) rfl (fun K hK=>?_) AllReadyH.nil
    go_simp
    refine Calls.mono (hn.out _ (by assumption)) ?_
    rintro e u1 ⟨rfl,hgm⟩
    go_wp2_with fail
    refine hK.out _ _ (hgm.keep (by assumption)) (fun hHeld=>?_)
    clear hK K
    try simp only [Act.put,List.setIfInBounds_toArray,List.set_cons_zero,List.set_cons_succ]
    iterate 2 (refine lin_n (by rfl) (v:=?_) (by kernel_rfl) (by exact fun _ _ _ h=>h) (by kernel_rfl) ?_ (by assumption) ?_;rotate_left;(focus (intro w hSw;(try dsimp only at hSw);simp only [List.getElem?_toArray,List.getElem?_cons_zero,List.getElem?_cons_succ,Option.map_some,Option.some.injEq];go_simp;(first | done | with_reducible rfl)));(try simp only [Act.put,List.setIfInBounds_toArray,List.set_cons_zero,List.set_cons_succ]))
    iterate 5 (refine lin_p (by rfl) (by kernel_rfl) (by exact fun _ _ _ h=>h) (by kernel_rfl) (by assumption) ?_;(try simp only [Act.put,List.setIfInBounds_toArray,List.set_cons_zero,List.set_cons_succ]))
    iterate 2 (refine lin_n (by rfl) (v:=?_) (by kernel_rfl) (by exact fun _ _ _ h=>h) (by kernel_rfl) ?_ (by assumption) ?_;rotate_left;(focus (intro w hSw;(try dsimp only at hSw);simp only [List.getElem?_toArray,List.getElem?_cons_zero,List.getElem?_cons_succ,Option.map_some,Option.some.injEq];go_simp;(first | done | with_reducible rfl)));(try simp only [Act.put,List.setIfInBounds_toArray,List.set_cons_zero,List.set_cons_succ]))
    iterate 3 (refine lin_p (by rfl) (by kernel_rfl) (by exact fun _ _ _ h=>h) (by kernel_rfl) (by assumption) ?_;(try simp only [Act.put,List.setIfInBounds_toArray,List.set_cons_zero,List.set_cons_succ]))
    iterate 2 (refine lin_n (by rfl) (v:=?_) (by kernel_rfl) (by exact fun _ _ _ h=>h) (by kernel_rfl) ?_ (by assumption) ?_;rotate_left;(focus (intro w hSw;(try dsimp only at hSw);simp only [List.getElem?_toArray,List.getElem?_cons_zero,List.getElem?_cons_succ,Option.map_some,Option.some.injEq];go_simp;(first | done | with_reducible rfl)));(try simp only [Act.put,List.setIfInBounds_toArray,List.set_cons_zero,List.set_cons_succ]))
    iterate 3 (refine lin_p (by rfl) (by kernel_rfl) (by exact fun _ _ _ h=>h) (by kernel_rfl) (by assumption) ?_;(try simp only [Act.put,List.setIfInBounds_toArray,List.set_cons_zero,List.set_cons_succ]))
    iterate 2 (refine lin_n (by rfl) (v:=?_) (by kernel_rfl) (by exact fun _ _ _ h=>h) (by kernel_rfl) ?_ (by assumption) ?_;rotate_left;(focus (intro w hSw;(try dsimp only at hSw);simp only [List.getElem?_toArray,List.getElem?_cons_zero,List.getElem?_cons_succ,Option.map_some,Option.some.injEq];go_simp;(first | done | with_reducible rfl)));(try simp only [Act.put,List.setIfInBounds_toArray,List.set_cons_zero,List.set_cons_succ]))
    iterate 4 (refine lin_p (by rfl) (by kernel_rfl) (by exact fun _ _ _ h=>h) (by kernel_rfl) (by assumption) ?_;(try simp only [Act.put,List.setIfInBounds_toArray,List.set_cons_zero,List.set_cons_succ]))
    iterate 2 (refine lin_n (by rfl) (v:=?_) (by kernel_rfl) (by exact fun _ _ _ h=>h) (by kernel_rfl) ?_ (by assumption) ?_;rotate_left;(focus (intro w hSw;(try dsimp only at hSw);simp only [List.getElem?_toArray,List.getElem?_cons_zero,List.getElem?_cons_succ,Option.map_some,Option.some.injEq];go_simp;(first | done | with_reducible rfl)));(try simp only [Act.put,List.setIfInBounds_toArray,List.set_cons_zero,List.set_cons_succ]))
    iterate 7 (refine lin_p (by rfl) (by kernel_rfl) (by exact fun _ _ _ h=>h) (by kernel_rfl) (by assumption) ?_;(try simp only [Act.put,List.setIfInBounds_toArray,List.set_cons_zero,List.set_cons_succ]))
    iterate 1 (refine lin_n (by rfl) (v:=?_) (by kernel_rfl) (by exact fun _ _ _ h=>h) (by kernel_rfl) ?_ (by assumption) ?_;rotate_left;(focus (intro w hSw;(try dsimp only at hSw);simp only [List.getElem?_toArray,List.getElem?_cons_zero,List.getElem?_cons_succ,Option.map_some,Option.some.injEq];go_simp;(first | done | with_reducible rfl)));(try simp only [Act.put,List.setIfInBounds_toArray,List.set_cons_zero,List.set_cons_succ]))
    refine wpAnyH_done (by kernel_rfl) ?_ _
    have hge:G W2 u1:=by assumption
    go_wp2_with fail
    go_ret
    exact ⟨by rw [hno.out];rfl,hG2.trans hge⟩
   | true =>
    rw [h1] at hn
    replace h1:=Lib.hid h1
    by_cases h2:1 < q
    ·have t2:decide (1 < q)=true:=decide_eq_true h2
     have hno:=hno2.out h2
     replace hno:=Lib.hid hno
     refine wp_region_held_drew (S:=fun w'=>G W2 w') (by kernel_rfl) ((G.refl _).drew) (fun hHeld=>?_)
     iterate 2 (refine lin_n (by rfl) (v:=?_) (by kernel_rfl) (by exact fun _ _ _ h=>h) (by kernel_rfl) ?_ (by assumption) ?_;rotate_left;(focus (intro w hSw;(try dsimp only at hSw);simp only [List.getElem?_toArray,List.getElem?_cons_zero,List.getElem?_cons_succ,Option.map_some,Option.some.injEq];go_simp;(first | done | with_reducible rfl)));(try simp only [Act.put,List.setIfInBounds_toArray,List.set_cons_zero,List.set_cons_succ]))
     refine wpAnyH_ready (rs:=[2]) (by kernel_rfl) (by simp) ?_
     refine AllReadyH.cons (i:=2) rfl (fun K hK=>?_) AllReadyH.nil
     go_simp
     refine Calls.mono (hn.out _ (by assumption)) ?_
     rintro e u1 ⟨rfl,hgm⟩
     go_wp2_with fail
     refine hK.out _ _ (hgm.keep (by assumption)) (fun hHeld=>?_)
     clear hK K
     try simp only [Act.put,List.setIfInBounds_toArray,List.set_cons_zero,List.set_cons_succ]
     iterate 9 (refine lin_n (by rfl) (v:=?_) (by kernel_rfl) (by exact fun _ _ _ h=>h) (by kernel_rfl) ?_ (by assumption) ?_;rotate_left;(focus (intro w hSw;(try dsimp only at hSw);simp only [List.getElem?_toArray,List.getElem?_cons_zero,List.getElem?_cons_succ,Option.map_some,Option.some.injEq];go_simp;(first | done | with_reducible rfl)));(try simp only [Act.put,List.setIfInBounds_toArray,List.set_cons_zero,List.set_cons_succ]))
     iterate 3 (refine lin_p (by rfl) (by kernel_rfl) (by exact fun _ _ _ h=>h) (by kernel_rfl) (by assumption) ?_;(try simp only [Act.put,List.setIfInBounds_toArray,List.set_cons_zero,List.set_cons_succ]))
     iterate 2 (refine lin_n (by rfl) (v:=?_) (by kernel_rfl) (by exact fun _ _ _ h=>h) (by kernel_rfl) ?_ (by assumption) ?_;rotate_left;(focus (intro w hSw;(try dsimp only at hSw);simp only [List.getElem?_toArray,List.getElem?_cons_zero,List.getElem?_cons_succ,Option.map_some,Option.some.injEq];go_simp;(first | done | with_reducible rfl)));(try simp only [Act.put,List.setIfInBounds_toArray,List.set_cons_zero,List.set_cons_succ]))
     iterate 3 (refine lin_p (by rfl) (by kernel_rfl) (by exact fun _ _ _ h=>h) (by kernel_rfl) (by assumption) ?_;(try simp only [Act.put,List.setIfInBounds_toArray,List.set_cons_zero,List.set_cons_succ]))
     iterate 2 (refine lin_n (by rfl) (v:=?_) (by kernel_rfl) (by exact fun _ _ _ h=>h) (by kernel_rfl) ?_ (by assumption) ?_;rotate_left;(focus (intro w hSw;(try dsimp only at hSw);simp only [List.getElem?_toArray,List.getElem?_cons_zero,List.getElem?_cons_succ,Option.map_some,Option.some.injEq];go_simp;(first | done | with_reducible rfl)));(try simp only [Act.put,List.setIfInBounds_toArray,List.set_cons_zero,List.set_cons_succ]))
     iterate 4 (refine lin_p (by rfl) (by kernel_rfl) (by exact fun _ _ _ h=>h) (by kernel_rfl) (by assumption) ?_;(try simp only [Act.put,List.setIfInBounds_toArray,List.set_cons_zero,List.set_cons_succ]))
     iterate 2 (refine lin_n (by rfl) (v:=?_) (by kernel_rfl) (by exact fun _ _ _ h=>h) (by kernel_rfl) ?_ (by assumption) ?_;rotate_left;(focus (intro w hSw;(try dsimp only at hSw);simp only [List.getElem?_toArray,List.getElem?_cons_zero,List.getElem?_cons_succ,Option.map_some,Option.some.injEq];go_simp;(first | done | with_reducible rfl)));(try simp only [Act.put,List.setIfInBounds_toArray,List.set_cons_zero,List.set_cons_succ]))
     iterate 7 (refine lin_p (by rfl) (by kernel_rfl) (by exact fun _ _ _ h=>h) (by kernel_rfl) (by assumption) ?_;(try simp only [Act.put,List.setIfInBounds_toArray,List.set_cons_zero,List.set_cons_succ]))
     iterate 1 (refine lin_n (by rfl) (v:=?_) (by kernel_rfl) (by exact fun _ _ _ h=>h) (by kernel_rfl) ?_ (by assumption) ?_;rotate_left;(focus (intro w hSw;(try dsimp only at hSw);simp only [List.getElem?_toArray,List.getElem?_cons_zero,List.getElem?_cons_succ,Option.map_some,Option.some.injEq];go_simp;(first | done | with_reducible rfl)));(try simp only [Act.put,List.setIfInBounds_toArray,List.set_cons_zero,List.set_cons_succ]))
     refine wpAnyH_done (by kernel_rfl) ?_ _
     have hge:G W2 u1:=by assumption
     go_wp2_with fail
     go_ret
     exact ⟨by rw [hno.out];rfl,hG2.trans hge⟩
    have t2:decide (1 < q)=false:=decide_eq_false h2
    have hap2:=Lib.hid (hyes2.out h2)
    by_cases h3:-1≤pex
    case neg =>
     have t3:decide (pex < -1)=true:=decide_eq_true (by omega)
     have hno:=hno1.out (by omega)
     replace hno:=Lib.hid hno
     clear h2 h3
     refine wp_region_held_drew (S:=fun w'=>G W2 w') (by kernel_rfl) ((G.refl _).drew) (fun hHeld=>?_)
     iterate 2 (refine lin_n (by rfl) (v:=?_) (by kernel_rfl) (by exact fun _ _ _ h=>h) (by kernel_rfl) ?_ (by assumption) ?_;rotate_left;(focus (intro w hSw;(try dsimp only at hSw);simp only [List.getElem?_toArray,List.getElem?_cons_zero,List.getElem?_cons_succ,Option.map_some,Option.some.injEq];go_simp;(first | done | with_reducible rfl)));(try simp only [Act.put,List.setIfInBounds_toArray,List.set_cons_zero,List.set_cons_succ]))
     refine wpAnyH_ready (rs:=[2]) (by kernel_rfl) (by simp) ?_
     refine AllReadyH.cons (i:=2) rfl (fun K hK=>?_) AllReadyH.nil
     go_simp
     refine Calls.mono (hn.out _ (by assumption)) ?_
     rintro e u1 ⟨rfl,hgm⟩
     go_wp2_with fail
     refine hK.out _ _ (hgm.keep (by assumption)) (fun hHeld=>?_)
     clear hK K
     try simp only [Act.put,List.setIfInBounds_toArray,List.set_cons_zero,List.set_cons_succ]
     iterate 14 (refine lin_n (by rfl) (v:=?_) (by kernel_rfl) (by exact fun _ _ _ h=>h) (by kernel_rfl) ?_ (by assumption) ?_;rotate_left;(focus (intro w hSw;(try dsimp only at hSw);simp only [List.getElem?_toArray,List.getElem?_cons_zero,List.getElem?_cons_succ,Option.map_some,Option.some.injEq];go_simp;(first | done | with_reducible rfl)));(try simp only [Act.put,List.setIfInBounds_toArray,List.set_cons_zero,List.set_cons_succ]))
     iterate 3 (refine lin_p (by rfl) (by kernel_rfl) (by exact fun _ _ _ h=>h) (by kernel_rfl) (by assumption) ?_;(try simp only [Act.put,List.setIfInBounds_toArray,List.set_cons_zero,List.set_cons_succ]))
     iterate 2 (refine lin_n (by rfl) (v:=?_) (by kernel_rfl) (by exact fun _ _ _ h=>h) (by kernel_rfl) ?_ (by assumption) ?_;rotate_left;(focus (intro w hSw;(try dsimp only at hSw);simp only [List.getElem?_toArray,List.getElem?_cons_zero,List.getElem?_cons_succ,Option.map_some,Option.some.injEq];go_simp;(first | done | with_reducible rfl)));(try simp only [Act.put,List.setIfInBounds_toArray,List.set_cons_zero,List.set_cons_succ]))
     iterate 4 (refine lin_p (by rfl) (by kernel_rfl) (by exact fun _ _ _ h=>h) (by kernel_rfl) (by assumption) ?_;(try simp only [Act.put,List.setIfInBounds_toArray,List.set_cons_zero,List.set_cons_succ]))
     iterate 2 (refine lin_n (by rfl) (v:=?_) (by kernel_rfl) (by exact fun _ _ _ h=>h) (by kernel_rfl) ?_ (by assumption) ?_;rotate_left;(focus (intro w hSw;(try dsimp only at hSw);simp only [List.getElem?_toArray,List.getElem?_cons_zero,List.getElem?_cons_succ,Option.map_some,Option.some.injEq];go_simp;(first | done | with_reducible rfl)));(try simp only [Act.put,List.setIfInBounds_toArray,List.set_cons_zero,List.set_cons_succ]))
     iterate 7 (refine lin_p (by rfl) (by kernel_rfl) (by exact fun _ _ _ h=>h) (by kernel_rfl) (by assumption) ?_;(try simp only [Act.put,List.setIfInBounds_toArray,List.set_cons_zero,List.set_cons_succ]))
     iterate 1 (refine lin_n (by rfl) (v:=?_) (by kernel_rfl) (by exact fun _ _ _ h=>h) (by kernel_rfl) ?_ (by assumption) ?_;rotate_left;(focus (intro w hSw;(try dsimp only at hSw);simp only [List.getElem?_toArray,List.getElem?_cons_zero,List.getElem?_cons_succ,Option.map_some,Option.some.injEq];go_simp;(first | done | with_reducible rfl)));(try simp only [Act.put,List.setIfInBounds_toArray,List.set_cons_zero,List.set_cons_succ]))
     refine wpAnyH_done (by kernel_rfl) ?_ _
     have hge:G W2 u1:=by assumption
     go_wp2_with fail
     go_ret
     exact ⟨by rw [hno.out];rfl,hG2.trans hge⟩
    have t3:decide (pex < -1)=false:=decide_eq_false (by omega)
    by_cases h4:pex≤1099511627776
    case neg =>
     have t4:decide (1099511627776 < pex)=true:=decide_eq_true (by omega)
     have hno:=hno1.out (by omega)
     replace hno:=Lib.hid hno
     clear h2 h3 h4
     refine wp_region_held_drew (S:=fun w'=>G W2 w') (by kernel_rfl) ((G.refl _).drew) (fun hHeld=>?_)
     iterate 2 (refine lin_n (by rfl) (v:=?_) (by kernel_rfl) (by exact fun _ _ _ h=>h) (by kernel_rfl) ?_ (by assumption) ?_;rotate_left;(focus (intro w hSw;(try dsimp only at hSw);simp only [List.getElem?_toArray,List.getElem?_cons_zero,List.getElem?_cons_succ,Option.map_some,Option.some.injEq];go_simp;(first | done | with_reducible rfl)));(try simp only [Act.put,List.setIfInBounds_toArray,List.set_cons_zero,List.set_cons_succ]))
     refine wpAnyH_ready (rs:=[2]) (by kernel_rfl) (by simp) ?_
     refine AllReadyH.cons (i:=2) rfl (fun K hK=>?_) AllReadyH.nil
     go_simp
     refine Calls.mono (hn.out _ (by assumption)) ?_
     rintro e u1 ⟨rfl,hgm⟩
     go_wp2_with fail
     refine hK.out _ _ (hgm.keep (by assumption)) (fun hHeld=>?_)
     clear hK K
     try simp only [Act.put,List.setIfInBounds_toArray,List.set_cons_zero,List.set_cons_succ]
     iterate 19 (refine lin_n (by rfl) (v:=?_) (by kernel_rfl) (by exact fun _ _ _ h=>h) (by kernel_rfl) ?_ (by assumption) ?_;rotate_left;(focus (intro w hSw;(try dsimp only at hSw);simp only [List.getElem?_toArray,List.getElem?_cons_zero,List.getElem?_cons_succ,Option.map_some,Option.some.injEq];go_simp;(first | done | with_reducible rfl)));(try simp only [Act.put,List.setIfInBounds_toArray,List.set_cons_zero,List.set_cons_succ]))
     iterate 4 (refine lin_p (by rfl) (by kernel_rfl) (by exact fun _ _ _ h=>h) (by kernel_rfl) (by assumption) ?_;(try simp only [Act.put,List.setIfInBounds_toArray,List.set_cons_zero,List.set_cons_succ]))
     iterate 2 (refine lin_n (by rfl) (v:=?_) (by kernel_rfl) (by exact fun _ _ _ h=>h) (by kernel_rfl) ?_ (by assumption) ?_;rotate_left;(focus (intro w hSw;(try dsimp only at hSw);simp only [List.getElem?_toArray,List.getElem?_cons_zero,List.getElem?_cons_succ,Option.map_some,Option.some.injEq];go_simp;(first | done | with_reducible rfl)));(try simp only [Act.put,List.setIfInBounds_toArray,List.set_cons_zero,List.set_cons_succ]))
     iterate 7 (refine lin_p (by rfl) (by kernel_rfl) (by exact fun _ _ _ h=>h) (by kernel_rfl) (by assumption) ?_;(try simp only [Act.put,List.setIfInBounds_toArray,List.set_cons_zero,List.set_cons_succ]))
     iterate 1 (refine lin_n (by rfl) (v:=?_) (by kernel_rfl) (by exact fun _ _ _ h=>h) (by kernel_rfl) ?_ (by assumption) ?_;rotate_left;(focus (intro w hSw;(try dsimp only at hSw);simp only [List.getElem?_toArray,List.getElem?_cons_zero,List.getElem?_cons_succ,Option.map_some,Option.some.injEq];go_simp;(first | done | with_reducible rfl)));(try simp only [Act.put,List.setIfInBounds_toArray,List.set_cons_zero,List.set_cons_succ]))
     refine wpAnyH_done (by kernel_rfl) ?_ _
     have hge:G W2 u1:=by assumption
     go_wp2_with fail
     go_ret
     exact ⟨by rw [hno.out];rfl,hG2.trans hge⟩
    have t4:decide (1099511627776 < pex)=false:=decide_eq_false (by omega)
    by_cases h5:pd=[]
    ·have t5:((pd.length:Int) == 0)=true:=by rw [h5];rfl
     have hno:=hno1.out (by rw [h5];simp)
     replace hno:=Lib.hid hno
     replace h5:=Lib.hid h5
     clear h2 h3 h4
     refine wp_region_held_drew (S:=fun w'=>G W2 w') (by kernel_rfl) ((G.refl _).drew) (fun hHeld=>?_)
     iterate 2 (refine lin_n (by rfl) (v:=?_) (by kernel_rfl) (by exact fun _ _ _ h=>h) (by kernel_rfl) ?_ (by assumption) ?_;rotate_left;(focus (intro w hSw;(try dsimp only at hSw);simp only [List.getElem?_toArray,List.getElem?_cons_zero,List.getElem?_cons_succ,Option.map_some,Option.some.injEq];go_simp;(first | done | with_reducible rfl)));(try simp only [Act.put,List.setIfInBounds_toArray,List.set_cons_zero,List.set_cons_succ]))
     refine wpAnyH_ready (rs:=[2]) (by kernel_rfl) (by simp) ?_
     refine AllReadyH.cons (i:=2) rfl (fun K hK=>?_) AllReadyH.nil
     go_simp
     refine Calls.mono (hn.out _ (by assumption)) ?_
     rintro e u1 ⟨rfl,hgm⟩
     go_wp2_with fail
     refine hK.out _ _ (hgm.keep (by assumption)) (fun hHeld=>?_)
     clear hK K
     try simp only [Act.put,List.setIfInBounds_toArray,List.set_cons_zero,List.set_cons_succ]
     iterate 25 (refine lin_n (by rfl) (v:=?_) (by kernel_rfl) (by exact fun _ _ _ h=>h) (by kernel_rfl) ?_ (by assumption) ?_;rotate_left;(focus (intro w hSw;(try dsimp only at hSw);simp only [List.getElem?_toArray,List.getElem?_cons_zero,List.getElem?_cons_succ,Option.map_some,Option.some.injEq];go_simp;(first | done | with_reducible rfl)));(try simp only [Act.put,List.setIfInBounds_toArray,List.set_cons_zero,List.set_cons_succ]))
     iterate 7 (refine lin_p (by rfl) (by kernel_rfl) (by exact fun _ _ _ h=>h) (by kernel_rfl) (by assumption) ?_;(try simp only [Act.put,List.setIfInBounds_toArray,List.set_cons_zero,List.set_cons_succ]))
     iterate 1 (refine lin_n (by rfl) (v:=?_) (by kernel_rfl) (by exact fun _ _ _ h=>h) (by kernel_rfl) ?_ (by assumption) ?_;rotate_left;(focus (intro w hSw;(try dsimp only at hSw);simp only [List.getElem?_toArray,List.getElem?_cons_zero,List.getElem?_cons_succ,Option.map_some,Option.some.injEq];go_simp;(first | done | with_reducible rfl)));(try simp only [Act.put,List.setIfInBounds_toArray,List.set_cons_zero,List.set_cons_succ]))
     refine wpAnyH_done (by kernel_rfl) ?_ _
     have hge:G W2 u1:=by assumption
     go_wp2_with fail
     go_ret
     exact ⟨by rw [hno.out];rfl,hG2.trans hge⟩
    have t5:((pd.length:Int) == 0)=false:=by
     rw [beq_eq_false_iff_ne]
     intro h
     exact h5 (List.eq_nil_of_length_eq_zero (by omega))
    cases h6:pd.all validB with
    | false =>
     have hva:∀w',G W2 w'→Calls Tryz.prog 115 #[.slice pA pd.length pc] w' fun e w''=>∃A' c' k,e=.returned (.slice A' k c')∧k < pd.length∧G w' w'':=fun w' h=>validNo_any pd pA pc w' (hdw.out w' h) z2 hzd.out (hTw.out w' h) h6
     have hno:=hno1.out (by rw [h6];simp)
     replace hno:=Lib.hid hno
     replace h6:=Lib.hid h6
     replace hva:=Lib.hid hva
     clear h2 h3 h4
     replace h5:=Lib.hid h5
     refine wp_region_held_drew (S:=fun w'=>G W2 w') (by kernel_rfl) ((G.refl _).drew) (fun hHeld=>?_)
     iterate 2 (refine lin_n (by rfl) (v:=?_) (by kernel_rfl) (by exact fun _ _ _ h=>h) (by kernel_rfl) ?_ (by assumption) ?_;rotate_left;(focus (intro w hSw;(try dsimp only at hSw);simp only [List.getElem?_toArray,List.getElem?_cons_zero,List.getElem?_cons_succ,Option.map_some,Option.some.injEq];go_simp;(first | done | with_reducible rfl)));(try simp only [Act.put,List.setIfInBounds_toArray,List.set_cons_zero,List.set_cons_succ]))
     refine wpAnyH_ready (rs:=[2]) (by kernel_rfl) (by simp) ?_
     refine AllReadyH.cons (i:=2) rfl (fun K hK=>?_) AllReadyH.nil
     go_simp
     refine Calls.mono (hn.out _ (by assumption)) ?_
     rintro e u1 ⟨rfl,hgm⟩
     go_wp2_with fail
     refine hK.out _ _ (hgm.keep (by assumption)) (fun hHeld=>?_)
     clear hK K
     try simp only [Act.put,List.setIfInBounds_toArray,List.set_cons_zero,List.set_cons_succ]
     iterate 29 (refine lin_n (by rfl) (v:=?_) (by kernel_rfl) (by exact fun _ _ _ h=>h) (by kernel_rfl) ?_ (by assumption) ?_;rotate_left;(focus (intro w hSw;(try dsimp only at hSw);simp only [List.getElem?_toArray,List.getElem?_cons_zero,List.getElem?_cons_succ,Option.map_some,Option.some.injEq];go_simp;(first | done | with_reducible rfl)));(try simp only [Act.put,List.setIfInBounds_toArray,List.set_cons_zero,List.set_cons_succ]))
     refine wpAnyH_ready (rs:=[32]) (by kernel_rfl) (by simp) ?_
     refine AllReadyH.cons (i:=32) rfl (fun K hK=>?_) AllReadyH.nil
     go_simp
     refine Calls.mono (hva.out _ (by assumption)) ?_
     rintro e u2 ⟨A2,c2,kk,rfl,hkk,hgn⟩
     go_wp2_with fail
     refine hK.out _ _ (hgn.keep (by assumption)) (fun hHeld=>?_)
     clear hK K
     try simp only [Act.put,List.setIfInBounds_toArray,List.set_cons_zero,List.set_cons_succ]
     refine wpAnyH_ready (rs:=[33]) (by kernel_rfl) (by simp) ?_
     refine AllReadyH.cons (i:=33) rfl (fun K hK=>?_) AllReadyH.nil
     go_simp
     refine Calls.mono (Tryz.slices_Equal_string_lens _ _ _ _ _ _ _ (by omega)) ?_
     rintro e u3 ⟨rfl,rfl⟩
     go_wp2_with fail
     refine hK.out _ _ (by assumption) (fun hHeld=>?_)
     clear hK K
     try simp only [Act.put,List.setIfInBounds_toArray,List.set_cons_zero,List.set_cons_succ]
     iterate 2 (refine lin_n (by rfl) (v:=?_) (by kernel_rfl) (by exact fun _ _ _ h=>h) (by kernel_rfl) ?_ (by assumption) ?_;rotate_left;(focus (intro w hSw;(try dsimp only at hSw);simp only [List.getElem?_toArray,List.getElem?_cons_zero,List.getElem?_cons_succ,Option.map_some,Option.some.injEq];go_simp;(first | done | with_reducible rfl)));(try simp only [Act.put,List.setIfInBounds_toArray,List.set_cons_zero,List.set_cons_succ]))
     refine wpAnyH_done (by kernel_rfl) ?_ _
     have hge:G W2 u3:=by assumption
     go_wp2_with fail
     go_ret
     exact ⟨by rw [hno.out];rfl,hG2.trans hge⟩
    | true =>
     have hva:∀w',G W2 w'→Calls Tryz.prog 115 #[.slice pA pd.length pc] w' fun e w''=>∃A' c',e=.returned (.slice A' pd.length c')∧Sl strC 1 w'' w''.heap.size A' pd∧G w' w'':=fun w' h=>validYes_any pd pA pc w' (hdw.out w' h) z2 hzd.out (hTw.out w' h) h6
     have hpk:∀p ∈ ps.take (k+1),putOk p.p=true:=fun p' hp'=>by
      rw [take_snocP hp.out] at hp'
      rcases List.mem_append.1 hp' with h | h
      ·exact hokk.out p' h
      ·rw [List.mem_singleton] at h
       subst h
       exact (putOk_iff _).2 ⟨h1.out,⟨h3,h4⟩,h5,h6⟩
     replace hpk:=Lib.hid hpk
     replace h6:=Lib.hid h6
     replace hva:=Lib.hid hva
     clear h2 h3 h4
     replace h5:=Lib.hid h5
     refine wp_region_held_drew (S:=fun w'=>G W2 w') (by kernel_rfl) ((G.refl _).drew) (fun hHeld=>?_)
     iterate 2 (refine lin_n (by rfl) (v:=?_) (by kernel_rfl) (by exact fun _ _ _ h=>h) (by kernel_rfl) ?_ (by assumption) ?_;rotate_left;(focus (intro w hSw;(try dsimp only at hSw);simp only [List.getElem?_toArray,List.getElem?_cons_zero,List.getElem?_cons_succ,Option.map_some,Option.some.injEq];go_simp;(first | done | with_reducible rfl)));(try simp only [Act.put,List.setIfInBounds_toArray,List.set_cons_zero,List.set_cons_succ]))
     refine wpAnyH_ready (rs:=[2]) (by kernel_rfl) (by simp) ?_
     refine AllReadyH.cons (i:=2) rfl (fun K hK=>?_) AllReadyH.nil
     go_simp
     refine Calls.mono (hn.out _ (by assumption)) ?_
     rintro e u1 ⟨rfl,hgm⟩
     go_wp2_with fail
     refine hK.out _ _ (hgm.keep (by assumption)) (fun hHeld=>?_)
     clear hK K
     try simp only [Act.put,List.setIfInBounds_toArray,List.set_cons_zero,List.set_cons_succ]
     iterate 29 (refine lin_n (by rfl) (v:=?_) (by kernel_rfl) (by exact fun _ _ _ h=>h) (by kernel_rfl) ?_ (by assumption) ?_;rotate_left;(focus (intro w hSw;(try dsimp only at hSw);simp only [List.getElem?_toArray,List.getElem?_cons_zero,List.getElem?_cons_succ,Option.map_some,Option.some.injEq];go_simp;(first | done | with_reducible rfl)));(try simp only [Act.put,List.setIfInBounds_toArray,List.set_cons_zero,List.set_cons_succ]))
     refine wpAnyH_ready (rs:=[32]) (by kernel_rfl) (by simp) ?_
     refine AllReadyH.cons (i:=32) rfl (fun K hK=>?_) AllReadyH.nil
     go_simp
     refine Calls.mono (hva.out _ (by assumption)) ?_
     rintro e u2 ⟨A2,c2,rfl,hsl2,hgn⟩
     have hsl1:=hdw.out _ (show G W2 u2 from hgn.keep (by assumption))
     replace hsl1:=Lib.hid hsl1
     replace hsl2:=Lib.hid hsl2
     go_wp2_with fail
     refine hK.out _ _ (hgn.keep (by assumption)) (fun hHeld=>?_)
     clear hK K
     try simp only [Act.put,List.setIfInBounds_toArray,List.set_cons_zero,List.set_cons_succ]
     refine wpAnyH_ready (rs:=[33]) (by kernel_rfl) (by simp) ?_
     refine AllReadyH.cons (i:=33) rfl (fun K hK=>?_) AllReadyH.nil
     go_simp
     refine Calls.mono (eqSelf_any pd _ _ _ _ _ _ _ hsl1.out hsl2.out (by omega)) ?_
     rintro e u3 ⟨rfl,hgo⟩
     go_wp2_with fail
     refine hK.out _ _ (hgo.keep (by assumption)) (fun hHeld=>?_)
     clear hK K
     try simp only [Act.put,List.setIfInBounds_toArray,List.set_cons_zero,List.set_cons_succ]
     iterate 2 (refine lin_n (by rfl) (v:=?_) (by kernel_rfl) (by exact fun _ _ _ h=>h) (by kernel_rfl) ?_ (by assumption) ?_;rotate_left;(focus (intro w hSw;(try dsimp only at hSw);simp only [List.getElem?_toArray,List.getElem?_cons_zero,List.getElem?_cons_succ,Option.map_some,Option.some.injEq];go_simp;(first | done | with_reducible rfl)));(try simp only [Act.put,List.setIfInBounds_toArray,List.set_cons_zero,List.set_cons_succ]))
     refine wpAnyH_done (by kernel_rfl) ?_ _
     have hge:G W2 u3:=by assumption
     have hst2:MaySt ps w (w.heap.size+1) (k+1) u3:=⟨hpk.out,hap2.out,hm3.out.g hge,by omega,hG2.trans hge⟩
     have hb2:=hge.blk hb02.out
     replace hst2:=Lib.hid hst2
     replace hb2:=Lib.hid hb2
     go_wp2_with fail
     go_roundw
     case rel=>exact ⟨k+1,by go_num,by omega,hst2,hb2⟩
     case measure=>(simp [intOf] <;> omega)
  ·have hend:argB key (ps.map PutM.p)=(keyB key && decide (0 < ps.length)):=by
    have h1:ps.take k=ps:=List.take_of_length_le (by omega)
    have h2:=hst.out.ok
    have h3:=hst.out.ap
    rw [h1] at h2 h3
    rw [argB_end (fun p hp=>by
     obtain ⟨m,hm,rfl⟩:=List.mem_map.1 hp
     exact h2 m hm) (by rw [strs_same];exact h3)]
    congr 1
    rw [decide_eq_decide]
    rcases ps with _ | ⟨a,l⟩
    ·simp
    ·simp
   have hk1:=hke.out wr hst.out.g
   have c0:wr.cell? ⟨w.heap.size,0,none⟩=some (.string key):=(blk_cell hb0.out 0).trans rfl
   have hg:=hst.out.g
   have c1:∀w',G wr w'→w'.cell? ⟨w.heap.size,1,none⟩=some (.slice A ps.length c):=fun w' h=>(blk_cell (h.blk hb0.out) 1).trans rfl
   replace hend:=Lib.hid hend
   clear hst
   cases hkb:keyB key with
   | true =>
    rw [hkb] at hk1
    replace hkb:=Lib.hid hkb
    go_wp2_with fail
    refine hk1.mono ?_
    clear hk1
    rintro e w2 ⟨rfl,hg2⟩
    go_wp2_with fail
    go_ret
    exact ⟨by rw [hend.out,hkb.out];rfl,hg.trans hg2⟩
   | false =>
    rw [hkb] at hk1
    replace hkb:=Lib.hid hkb
    go_wp2_with fail
    refine hk1.mono ?_
    clear hk1
    rintro e w2 ⟨rfl,hg2⟩
    go_wp2_with fail
    go_ret
    exact ⟨by rw [hend.out,hkb.out];rfl,hg.trans hg2⟩
end Go.Proofs.YtheogchkelmeeaaGreatDoor

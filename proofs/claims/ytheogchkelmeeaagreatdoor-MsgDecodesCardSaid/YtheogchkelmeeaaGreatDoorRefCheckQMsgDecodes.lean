/- penstockref7.Check: what it answers. Conditions: lengths of at most 2^30; the decoder's tables lie as the library lays them. -/
import Derived.Test.YtheogchkelmeeaaGreatDoorCheckQMsgDecodes
import Derived.Test.YtheogchkelmeeaaGreatDoorM11MsgDecodes
namespace Go.Proofs.YtheogchkelmeeaaGreatDoor
open Go.RowKit
/-- How the count stands ahead of put k. -/
structure RefSt (ps:List PutP) (k:Nat) (bg:Bool) (al:Nat):Prop where
 ok:∀p ∈ ps.take k,putOk p=true
 ap:apart ((ps.take k).map PutP.stream)=true
 big:bg=(decide (8 < ps.length) || (ps.take k).any putBig)
 all:al=min (sumP (ps.take k)) 1099511627776
/-- .. and within put k, ahead of text i. -/
structure RefIn (ps:List PutP) (k:Nat) (ds:List ByteArray) (i:Nat) (bg:Bool) (al:Nat):Prop where
 big:bg=(decide (8 < ps.length) || (ps.take k).any putBig || decide (20 < ds.length) || (ds.take i).any fun d=>decide (1000 < d.size))
 all:al=min (sumP (ps.take k)+sizes (ds.take i)) 1099511627776
 val:(ds.take i).all validB=true
theorem RefSt.begin {ps:List PutP} {k:Nat} {bg:Bool} {al:Nat} (h:RefSt ps k bg al) (ds:List ByteArray):RefIn ps k ds 0 (bg || decide (20 < ds.length)) al :=
 ⟨by rw [h.big];simp,by rw [h.all];simp [sizes],rfl⟩
theorem RefIn.step {ps:List PutP} {k:Nat} {ds:List ByteArray} {i:Nat} {bg:Bool} {al:Nat} {s:ByteArray} (h:RefIn ps k ds i bg al) (hs:ds[i]?=some s) (hv:validB s=true):RefIn ps k ds (i+1) (bg || decide (1000 < s.size)) (min (al+s.size) 1099511627776) :=
 ⟨by rw [h.big,take_snocP hs,List.any_append];simp [Bool.or_assoc],by rw [h.all,sizes_snoc hs];omega,all_take_snoc hs h.val hv⟩
theorem RefIn.done {ps : List PutP} {k : Nat} {p : PutP} {i : Nat} {bg : Bool} {al : Nat} {bg0 : Bool} {al0 : Nat} (h : RefIn ps k p.data i bg al) (h0 : RefSt ps k bg0 al0) (hp : ps[k]? = some p) (hi : p.data.length ≤ i) (h1 : nameB p.stream = true) (h2 : -1 ≤ p.expect ∧ p.expect ≤ 1099511627776) (h3 : p.data ≠ [])
  (h4:(((ps.take k).map PutP.stream).any fun t=>decide (t=p.stream))=false):RefSt ps (k+1) bg al:=by
 have ht:=List.take_of_length_le hi
 have hb:=h.big
 have ha:=h.all
 have hv:=h.val
 rw [ht] at hb ha hv
 refine ⟨fun q hq=>?_,?_,?_,?_⟩
 ·rw [take_snocP hp] at hq
  rcases List.mem_append.1 hq with h5 | h5
  ·exact h0.ok q h5
  ·rw [List.mem_singleton] at h5
   subst h5
   exact (putOk_iff _).2 ⟨h1,h2,h3,hv⟩
 ·rw [take_snocP hp,List.map_append,List.map_cons,List.map_nil,apart_snoc,h0.ap,h4]
  rfl
 ·rw [hb,take_snocP hp,List.any_append,List.any_cons,List.any_nil,Bool.or_false]
  unfold putBig
  simp only [Bool.or_assoc]
 ·rw [ha,sumP_snoc hp]
theorem RefSt.end {key:ByteArray} {ps:List PutP} {bg:Bool} {al:Nat} (h:RefSt ps ps.length bg al) (hk:keyB key=true) (hne:ps≠[]):chkN key ps=if (bg || decide (30000 < (al:Int)))=true then 2 else 0:=by
 have h1:=h.ok
 have h2:=h.ap
 have h3:=h.big
 have h4:=h.all
 rw [List.take_length] at h1 h2 h3 h4
 have ha:argB key ps=true:=by rw [argB_end h1 h2,hk,decide_eq_true hne];rfl
 have hb:bigB ps=(bg || decide (30000 < (al:Int))):=by
  unfold bigB
  rw [h3]
  congr 1
  rw [decide_eq_decide]
  unfold sumP at h4
  omega
 unfold chkN
 rw [ha,hb]
 rfl
theorem any_not {l:List ByteArray} {s:ByteArray} (h:∀(j:Nat) (t:ByteArray),l[j]?=some t→t≠s):(l.any fun t=>decide (t=s))=false:=by
 rw [List.any_eq_false]
 intro t ht
 obtain ⟨j,hj,rfl⟩:=List.getElem_of_mem ht
 have:=h j _ (List.getElem?_eq_getElem hj)
 simpa using this
theorem cell_lt2 {w:World} {k o:Nat} {v:Value} (h:w.cell? ⟨k,o,none⟩=some v):k < w.heap.size:=by
 rcases Nat.lt_or_ge k w.heap.size with h1 | h1
 ·exact h1
 ·simp [World.cell?,Array.getElem?_eq_none h1] at h
set_option maxRecDepth 100000 in
set_option maxHeartbeats 8000000 in
theorem refCheck_any (key : ByteArray) (ps : List PutM) (A : Option Addr) (c : Nat) (w : World) (hin : PutsIn w w.heap.size A ps) (hk : key.size ≤ 1073741824) (hsm : PutsSmall ps) :
  Calls Tryz.prog 46 #[.agg #[.string key,.slice A ps.length c]] w fun e w'=>e=.returned (.int .i64 (chkN key (ps.map PutM.p)))∧G w w':=by
 have hke:∀w',Calls Tryz.prog 78 #[.string key] w' fun e w''=>e=.returned (.bool (keyB key))∧G w' w'':=fun w'=>refKey_any key w' hk
 obtain ⟨hs1,hs2⟩:=hsm
 replace hin:=Lib.hid hin
 replace hs2:=Lib.hid hs2
 cases hkb:keyB key with
 | false =>
  have hno:=Lib.hid (show chkN key (ps.map PutM.p)=1 by unfold chkN argB;rw [hkb];rfl)
  rw [hkb] at hke
  clear hkb
  go_enter Tryz.func46,Tryz.ntmps46
  go_wp2_with fail
  refine (hke _).mono ?_
  rintro e w1 ⟨rfl,hg⟩
  go_wp2_with fail
  go_ret
  exact ⟨by rw [hno.out];rfl,(G.new _ _).trans hg⟩
 | true =>
 rw [hkb] at hke
 by_cases hnil:ps=[]
 ·have hno:=Lib.hid (show chkN key (ps.map PutM.p)=1 by rw [hnil];unfold chkN argB;simp)
  have hl0:((ps.length:Int) == 0)=true:=by rw [hnil];rfl
  replace hnil:=Lib.hid hnil
  clear hkb
  go_enter Tryz.func46,Tryz.ntmps46
  go_wp2_with fail
  generalize hW0:w.alloc (.cells #[.string key,.slice A ps.length c] 31)=W0
  have hz:w.heap.size+0 < W0.heap.size:=by rw [←hW0];simp
  have hG0:G w W0:=by rw [←hW0];exact G.new _ _
  have r0:W0.cell? ⟨w.heap.size,0,none⟩=some (.string key):=by rw [←hW0];simp
  have r1:W0.cell? ⟨w.heap.size,1,none⟩=some (.slice A ps.length c):=by rw [←hW0];simp
  clear hW0
  have q0:∀w',G W0 w'→w'.cell? ⟨w.heap.size,0,none⟩=some (.string key):=fun w' h=>(h.cell (by omega)).trans r0
  have q1:∀w',G W0 w'→w'.cell? ⟨w.heap.size,1,none⟩=some (.slice A ps.length c):=fun w' h=>(h.cell (by omega)).trans r1
  clear r0 r1
  refine (hke _).mono ?_
  rintro e w1 ⟨rfl,hg⟩
  go_wp2_with fail
  go_ret
  exact ⟨by rw [hno.out];rfl,hG0.trans hg⟩
 have hl0:((ps.length:Int) == 0)=false:=by
  rw [beq_eq_false_iff_ne]
  intro h
  exact hnil (List.eq_nil_of_length_eq_zero (by omega))
 have hne:ps.map PutM.p≠[]:=by simpa using hnil
 replace hne:=Lib.hid hne
 replace hkb:=Lib.hid hkb
 clear hnil
 go_enter Tryz.func46,Tryz.ntmps46
 go_wp2_with fail
 generalize hW0:w.alloc (.cells #[.string key,.slice A ps.length c] 31)=W0
 have hz:w.heap.size+0 < W0.heap.size:=by rw [←hW0];simp
 have hG0:G w W0:=by rw [←hW0];exact G.new _ _
 have r0:W0.cell? ⟨w.heap.size,0,none⟩=some (.string key):=by rw [←hW0];simp
 have r1:W0.cell? ⟨w.heap.size,1,none⟩=some (.slice A ps.length c):=by rw [←hW0];simp
 clear hW0
 have q0:∀w',G W0 w'→w'.cell? ⟨w.heap.size,0,none⟩=some (.string key):=fun w' h=>(h.cell (by omega)).trans r0
 have q1:∀w',G W0 w'→w'.cell? ⟨w.heap.size,1,none⟩=some (.slice A ps.length c):=fun w' h=>(h.cell (by omega)).trans r1
 clear r0 r1
 refine (hke _).mono ?_
 clear hke
 rintro e w1 ⟨rfl,hg⟩
 obtain ⟨bg0,hbg0⟩:∃b,decide (8 < (ps.length:Int))=b:=⟨_,rfl⟩
 have hst0:RefSt (ps.map PutM.p) 0 bg0 0:=⟨by simp,rfl,by rw [←hbg0,List.length_map];simp only [List.take_zero,List.any_nil,Bool.or_false];exact decide_eq_decide.2 (by omega),by simp [sumP]⟩
 replace hst0:=Lib.hid hst0
 go_wp2_with fail
 clear hbg0 hl0
 go_loopw [3,4,5] (fun v a i wr=>∃(k al:Nat) (bg:Bool),v=.bool bg∧a=.int .i64 al∧i=.int .i64 k∧k≤ps.length∧Hid (RefSt (ps.map PutM.p) k bg al)∧G W0 wr) (fun _ _ i _=>ps.length - (intOf i).toNat)
 case atStart=>exact ⟨0,0,bg0,rfl,rfl,rfl,Nat.zero_le _,hst0,hg⟩
 case round =>
  clear hst0 hg
  obtain ⟨k,al,bg,rfl,rfl,rfl,hkl,hst,hgr⟩:=hrel
  obtain ⟨wo,rfl⟩:∃wo:World,wo=wr:=⟨_,rfl⟩
  have hg:=hG0.trans hgr
  by_cases hlt:k < ps.length
  ·obtain ⟨p,hp⟩:∃p,ps[k]?=some p:=⟨_,List.getElem?_eq_getElem hlt⟩
   have hpm:=List.mem_of_getElem? hp
   obtain ⟨z1,zE,z2,z3⟩:=hs2.out p hpm
   have hsl:=(hin.out.g (Nat.le_refl _) hg).1.get hp
   have hdat:=hin.out.2 p hpm
   obtain ⟨pst,pex,pA,pc,pd⟩:=p
   simp only at z1 zE z2 z3 hdat
   obtain ⟨b,o,rfl,hb,hc⟩:=hsl
   have c0:=hc 0 _ rfl
   have c1:=hc 1 _ rfl
   have c2:=hc 2 _ rfl
   simp only [Nat.add_zero] at c0
   have n1:(0:Int)≤(k:Int):=by omega
   have n2:(k:Int) < (ps.length:Int):=by omega
   have hbx:=blk_new wo #[.string pst,.int .i64 pex,.slice pA pd.length pc] 110
   have hgn:=G.new wo (.cells #[.string pst,.int .i64 pex,.slice pA pd.length pc] 110)
   have hgx:=hgr.trans hgn
   have hn:∀w',Calls Tryz.prog 79 #[.string pst] w' fun e w''=>e=.returned (.bool (nameB pst))∧G w' w'':=fun w'=>refName_any pst w' z1
   have hno1:putOk (PutM.p ⟨pst,pex,pA,pc,pd⟩)=false→chkN key (ps.map PutM.p)=1:=fun h=>by unfold chkN;rw [argNo_put (puts_take hp) h];rfl
   have hput:¬ (nameB pst=true∧(-1≤pex∧pex≤1099511627776)∧pd≠[]∧pd.all validB=true)→chkN key (ps.map PutM.p)=1:=fun h=>hno1 (by
    cases hk:putOk (PutM.p ⟨pst,pex,pA,pc,pd⟩) with
    | false=>rfl
    | true=>exact absurd ((putOk_iff _).1 hk) h)
   replace hput:=Lib.hid hput
   replace hp:=Lib.hid hp
   replace hdat:=Lib.hid hdat
   clear hno1 hc
   have hxb:∀w',G (wo.alloc (.cells #[.string pst,.int .i64 pex,.slice pA pd.length pc] 110)) w'→w'.heap[wo.heap.size]?=some (.cells #[.string pst,.int .i64 pex,.slice pA pd.length pc] 110 (0,0)):=fun w' h=>h.blk hbx
   replace hxb:=Lib.hid hxb
   have hgd:=q1 wo hgr
   clear hbx
   cases h1:nameB pst with
   | false =>
    have hno:=Lib.hid (hput.out (by rw [h1];simp))
    rw [h1] at hn
    clear h1
    go_wp2_with fail
    refine (hn _).mono ?_
    rintro e w2 ⟨rfl,hg2⟩
    go_wp2_with fail
    go_ret
    exact ⟨by rw [hno.out];rfl,(hg.trans hgn).trans hg2⟩
   | true =>
   rw [h1] at hn
   replace h1:=Lib.hid h1
   by_cases h2:-1≤pex
   case neg =>
    have hno:=Lib.hid (hput.out (by omega))
    have t2:decide (pex < -1)=true:=decide_eq_true (by omega)
    have t2':pex < -1:=by omega
    clear h2
    go_wp2_with fail
    refine (hn _).mono ?_
    rintro e w2 ⟨rfl,hg2⟩
    have hx:=hxb.out _ hg2
    have x1:=(blk_cell hx 1).trans (show _=some (.int .i64 pex) from rfl)
    clear hx
    go_wp2_with fail
    go_ret
    exact ⟨by rw [hno.out];rfl,(hg.trans hgn).trans hg2⟩
   have t2:¬ pex < -1:=by omega
   by_cases h3:pex≤1099511627776
   case neg =>
    have hno:=Lib.hid (hput.out (by omega))
    have t3:1099511627776 < pex:=by omega
    clear h2 h3
    go_wp2_with fail
    refine (hn _).mono ?_
    rintro e w2 ⟨rfl,hg2⟩
    have hx:=hxb.out _ hg2
    have x1:=(blk_cell hx 1).trans (show _=some (.int .i64 pex) from rfl)
    clear hx
    go_wp2_with fail
    go_ret
    exact ⟨by rw [hno.out];rfl,(hg.trans hgn).trans hg2⟩
   have t3:¬ 1099511627776 < pex:=by omega
   by_cases h4:pd=[]
   ·have hno:=Lib.hid (hput.out (by rw [h4];simp))
    have t4:((pd.length:Int) == 0)=true:=by rw [h4];rfl
    replace h4:=Lib.hid h4
    clear h2 h3
    go_wp2_with fail
    refine (hn _).mono ?_
    rintro e w2 ⟨rfl,hg2⟩
    have hx:=hxb.out _ hg2
    have x1:=(blk_cell hx 1).trans (show _=some (.int .i64 pex) from rfl)
    have x2:=(blk_cell hx 2).trans (show _=some (.slice pA pd.length pc) from rfl)
    clear hx
    go_wp2_with fail
    go_ret
    exact ⟨by rw [hno.out];rfl,(hg.trans hgn).trans hg2⟩
   have t4:((pd.length:Int) == 0)=false:=by
    rw [beq_eq_false_iff_ne]
    intro h
    exact h4 (List.eq_nil_of_length_eq_zero (by omega))
   have h23:=Lib.hid (show -1≤pex∧pex≤1099511627776 from ⟨h2,h3⟩)
   replace h4:=Lib.hid h4
   clear h2 h3
   go_wp2_with fail
   refine (hn _).mono ?_
   clear hn
   rintro e w2 ⟨rfl,hg2⟩
   have hx:=hxb.out _ hg2
   have x1:=(blk_cell hx 1).trans (show _=some (.int .i64 pex) from rfl)
   have x2:=(blk_cell hx 2).trans (show _=some (.slice pA pd.length pc) from rfl)
   replace hgx:=hgx.trans hg2
   replace hx:=Lib.hid hx
   clear hgn hg2 hxb c0 c1 c2
   go_wp2_with fail
   clear x1 x2 t2 t3 t4
   go_loopw [7] (fun i wr=>∃q:Nat,i=.int .i64 q∧q≤k∧Hid (∀(j:Nat) (t:ByteArray),j < q→((ps.map PutM.p).map PutP.stream)[j]?=some t→t≠pst)∧G w2 wr) (fun i _=>k - (intOf i).toNat)
   case atStart=>exact ⟨0,rfl,Nat.zero_le _,(fun j t h=>by omega),G.refl _⟩
   case round =>
    obtain ⟨q,rfl,hq,hun,hgi⟩:=hrel
    have hxi:=hgi.blk hx.out
    have hg0i:=hgx.trans hgi
    have k1:=q1 _ hg0i
    by_cases hql:q < k
    ·obtain ⟨r,hr⟩:∃r,ps[q]?=some r:=⟨_,List.getElem?_eq_getElem (by omega)⟩
     obtain ⟨b2,o2,eA,_,hc2⟩:=(hin.out.g (Nat.le_refl _) (hG0.trans hg0i)).1.get hr
     cases eA
     have d0:=hc2 0 _ rfl
     simp only [Nat.add_zero] at d0
     have x0:=(blk_cell hxi 0).trans (show _=some (.string pst) from rfl)
     have hrs:((ps.map PutM.p).map PutP.stream)[q]?=some r.stream:=by rw [strs_same,List.getElem?_map,hr];rfl
     have m1:(0:Int)≤(q:Int):=by omega
     have m2:(q:Int) < (ps.length:Int):=by omega
     have m3:(q:Int) < (k:Int):=by omega
     obtain ⟨rst,rex,rA,rc,rd⟩:=r
     simp only at hrs
     clear hc2 hr hxi
     by_cases heq:rst=pst
     ·have hno:=Lib.hid (show chkN key (ps.map PutM.p)=1 by
       unfold chkN
       rw [argNo_twice (puts_take hp.out) (by
        rw [List.any_eq_true]
        refine ⟨rst,List.mem_of_getElem? (i:=q) ?_,by rw [heq];simp [PutM.p]⟩
        rw [List.map_take,List.getElem?_take_of_lt hql]
        exact hrs)]
       rfl)
      have hts:(rst.toList == pst.toList)=true:=by rw [bytes_beq,heq];simp
      replace heq:=Lib.hid heq
      clear hrs
      go_wp2_with fail
      go_quiet (fail)
      go_wp2_with fail
      go_ret
      exact ⟨by rw [hno.out];rfl,(hG0.trans hg0i).drewN _⟩
     ·have hts:(rst.toList == pst.toList)=false:=by rw [bytes_beq];exact decide_eq_false heq
      have hun2:∀(j:Nat) (t:ByteArray),j < q+1→((ps.map PutM.p).map PutP.stream)[j]?=some t→t≠pst:=fun j t hj ht=>by
       rcases Nat.lt_or_ge j q with h | h
       ·exact hun.out j t h ht
       ·obtain rfl:j=q:=by omega
        rw [hrs] at ht
        cases ht
        exact heq
      replace hun2:=Lib.hid hun2
      replace heq:=Lib.hid heq
      clear hrs
      go_wp2_with fail
      go_quiet (fail)
      go_wp2_with fail
      go_roundw
      case rel=>exact ⟨q+1,by go_num,by omega,hun2,hgi.drewN _⟩
      case measure=>(simp [intOf] <;> omega)
    ·have hany:(((ps.map PutM.p).take k).map PutP.stream).any (fun t=>decide (t=pst))=false:=any_not fun j t ht=>by
      rw [List.map_take] at ht
      have hjk:j < k:=by
       have:=(List.getElem?_eq_some_iff.1 ht).1
       rw [List.length_take] at this
       omega
      rw [List.getElem?_take_of_lt hjk] at ht
      exact hun.out j t (by omega) ht
     have m3:¬ (q:Int) < (k:Int):=by omega
     have hdi:=hdat.out.g (Nat.le_refl _) (hG0.trans hg0i)
     have x2:∀w',G wr w'→w'.cell? ⟨wo.heap.size,2,none⟩=some (.slice pA pd.length pc):=fun w' h=>(blk_cell (h.blk hxi) 2).trans rfl
     have x2i:=x2 _ (G.refl _)
     have hri0:=hst.out.begin pd
     rw [show decide (20 < pd.length)=decide (20 < (pd.length:Int)) from decide_eq_decide.2 (by omega)] at hri0
     replace hany:=Lib.hid hany
     replace hdi:=Lib.hid hdi
     clear hun hxi k1
     cases bg with
     | true =>
      rw [Bool.true_or] at hri0
      have hri:=Lib.hid hri0
      clear hri0
      go_wp2_with fail
      obtain ⟨wi,rfl⟩:∃wi:World,wi=wr:=⟨_,rfl⟩
      go_loopw [3,4,8] (fun v a i wr=>∃(r am:Nat) (bm:Bool),v=.bool bm∧a=.int .i64 am∧i=.int .i64 r∧r≤pd.length∧Hid (RefIn (ps.map PutM.p) k pd r bm am)∧G wi wr) (fun _ _ i _=>pd.length - (intOf i).toNat)
      case atStart=>exact ⟨0,al,true,rfl,rfl,rfl,Nat.zero_le _,hri,G.refl _⟩
      case round =>
       clear hri
       obtain ⟨r,am,bm,rfl,rfl,rfl,hr,hrn,hgw⟩:=hrel
       have x2r:=x2 _ hgw
       by_cases hrl:r < pd.length
       ·obtain ⟨s,hs⟩:∃s,pd[r]?=some s:=⟨_,List.getElem?_eq_getElem hrl⟩
        have hsm:=List.mem_of_getElem? hs
        have hzs:=z3 s hsm
        obtain ⟨b3,o3,rfl,_,d3⟩:=(hdi.out.g (Nat.le_trans (hG0.trans hg0i).size (Nat.le_refl _)) hgw).str hs
        have hv:=refValid_any s wr hzs
        have m1:(0:Int)≤(r:Int):=by omega
        have m2:(r:Int) < (pd.length:Int):=by omega
        cases hvs:validB s with
        | false =>
         have hno:=Lib.hid (hput.out (fun h=>by
          have:=all_not hs hvs
          rw [h.2.2.2] at this
          cases this))
         rw [hvs] at hv
         clear hs hvs hrn
         go_wp2_with fail
         refine hv.mono ?_
         rintro e w5 ⟨rfl,hg5⟩
         go_wp2_with fail
         go_ret
         exact ⟨by rw [hno.out];rfl,(hG0.trans (hg0i.trans hgw)).trans hg5⟩
        | true =>
         rw [hvs] at hv
         have hnx:=hrn.out.step hs hvs
         rw [show decide (1000 < s.size)=decide (1000 < (s.size:Int)) from decide_eq_decide.2 (by omega)] at hnx
         have ham:am≤1099511627776:=by have:=hrn.out.all;omega
         obtain ⟨M,hM⟩:∃M,min (am+s.size) 1099511627776=M:=⟨_,rfl⟩
         rw [hM] at hnx
         have hmin:min ((am:Int)+(s.size:Int)) 1099511627776=(M:Int):=by omega
         have x3:∀w',G wr w'→w'.cell? ⟨wo.heap.size,2,none⟩=some (.slice (some ⟨b3,o3,none⟩) pd.length pc):=fun w' h=>x2 _ (hgw.trans h)
         have d4:∀w',G wr w'→w'.cell? ⟨b3,o3+r,none⟩=some (.string s):=fun w' h=>(h.cell (cell_lt2 d3)).trans d3
         replace hM:=Lib.hid hM
         replace hvs:=Lib.hid hvs
         clear hs hrn
         cases bm with
         | true =>
          rw [Bool.true_or] at hnx
          replace hnx:=Lib.hid hnx
          go_wp2_with fail
          refine hv.mono ?_
          clear hv
          rintro e w5 ⟨rfl,hg5⟩
          go_wp2_with fail
          go_roundw
          case rel=>exact ⟨r+1,M,true,rfl,rfl,by go_num,by omega,hnx,hgw.trans hg5⟩
          case measure=>(simp [intOf] <;> omega)
         | false =>
          rw [Bool.false_or] at hnx
          generalize hb2:decide (1000 < (s.size:Int))=bb at hnx
          replace hnx:=Lib.hid hnx
          go_wp2_with fail
          refine hv.mono ?_
          clear hv
          rintro e w5 ⟨rfl,hg5⟩
          go_wp2_with fail
          go_roundw
          case rel=>exact ⟨r+1,M,bb,rfl,rfl,by go_num,by omega,hnx,hgw.trans hg5⟩
          case measure=>(simp [intOf] <;> omega)
       ·have hdn:=hrn.out.done hst.out (puts_take hp.out) (by show pd.length≤r;omega) h1.out h23.out h4.out hany.out
        replace hdn:=Lib.hid hdn
        clear hrn
        go_wp2_with fail
        go_roundw
        case rel=>exact ⟨k+1,am,bm,rfl,rfl,by go_num,by omega,hdn,hg0i.trans hgw⟩
        case measure=>(simp [intOf] <;> omega)
     | false =>
      rw [Bool.false_or] at hri0
      generalize hbg1:decide (20 < (pd.length:Int))=bg1 at hri0
      have hri:=Lib.hid hri0
      clear hri0
      go_wp2_with fail
      replace hbg1:=Lib.hid hbg1
      obtain ⟨wi,rfl⟩:∃wi:World,wi=wr:=⟨_,rfl⟩
      go_loopw [3,4,8] (fun v a i wr=>∃(r am:Nat) (bm:Bool),v=.bool bm∧a=.int .i64 am∧i=.int .i64 r∧r≤pd.length∧Hid (RefIn (ps.map PutM.p) k pd r bm am)∧G wi wr) (fun _ _ i _=>pd.length - (intOf i).toNat)
      case atStart=>exact ⟨0,al,bg1,rfl,rfl,rfl,Nat.zero_le _,hri,G.refl _⟩
      case round =>
       clear hri
       obtain ⟨r,am,bm,rfl,rfl,rfl,hr,hrn,hgw⟩:=hrel
       have x2r:=x2 _ hgw
       by_cases hrl:r < pd.length
       ·obtain ⟨s,hs⟩:∃s,pd[r]?=some s:=⟨_,List.getElem?_eq_getElem hrl⟩
        have hsm:=List.mem_of_getElem? hs
        have hzs:=z3 s hsm
        obtain ⟨b3,o3,rfl,_,d3⟩:=(hdi.out.g (Nat.le_trans (hG0.trans hg0i).size (Nat.le_refl _)) hgw).str hs
        have hv:=refValid_any s wr hzs
        have m1:(0:Int)≤(r:Int):=by omega
        have m2:(r:Int) < (pd.length:Int):=by omega
        cases hvs:validB s with
        | false =>
         have hno:=Lib.hid (hput.out (fun h=>by
          have:=all_not hs hvs
          rw [h.2.2.2] at this
          cases this))
         rw [hvs] at hv
         clear hs hvs hrn
         go_wp2_with fail
         refine hv.mono ?_
         rintro e w5 ⟨rfl,hg5⟩
         go_wp2_with fail
         go_ret
         exact ⟨by rw [hno.out];rfl,(hG0.trans (hg0i.trans hgw)).trans hg5⟩
        | true =>
         rw [hvs] at hv
         have hnx:=hrn.out.step hs hvs
         rw [show decide (1000 < s.size)=decide (1000 < (s.size:Int)) from decide_eq_decide.2 (by omega)] at hnx
         have ham:am≤1099511627776:=by have:=hrn.out.all;omega
         obtain ⟨M,hM⟩:∃M,min (am+s.size) 1099511627776=M:=⟨_,rfl⟩
         rw [hM] at hnx
         have hmin:min ((am:Int)+(s.size:Int)) 1099511627776=(M:Int):=by omega
         have x3:∀w',G wr w'→w'.cell? ⟨wo.heap.size,2,none⟩=some (.slice (some ⟨b3,o3,none⟩) pd.length pc):=fun w' h=>x2 _ (hgw.trans h)
         have d4:∀w',G wr w'→w'.cell? ⟨b3,o3+r,none⟩=some (.string s):=fun w' h=>(h.cell (cell_lt2 d3)).trans d3
         replace hM:=Lib.hid hM
         replace hvs:=Lib.hid hvs
         clear hs hrn
         cases bm with
         | true =>
          rw [Bool.true_or] at hnx
          replace hnx:=Lib.hid hnx
          go_wp2_with fail
          refine hv.mono ?_
          clear hv
          rintro e w5 ⟨rfl,hg5⟩
          go_wp2_with fail
          go_roundw
          case rel=>exact ⟨r+1,M,true,rfl,rfl,by go_num,by omega,hnx,hgw.trans hg5⟩
          case measure=>(simp [intOf] <;> omega)
         | false =>
          rw [Bool.false_or] at hnx
          generalize hb2:decide (1000 < (s.size:Int))=bb at hnx
          replace hnx:=Lib.hid hnx
          go_wp2_with fail
          refine hv.mono ?_
          clear hv
          rintro e w5 ⟨rfl,hg5⟩
          go_wp2_with fail
          go_roundw
          case rel=>exact ⟨r+1,M,bb,rfl,rfl,by go_num,by omega,hnx,hgw.trans hg5⟩
          case measure=>(simp [intOf] <;> omega)
       ·have hdn:=hrn.out.done hst.out (puts_take hp.out) (by show pd.length≤r;omega) h1.out h23.out h4.out hany.out
        replace hdn:=Lib.hid hdn
        clear hrn
        go_wp2_with fail
        go_roundw
        case rel=>exact ⟨k+1,am,bm,rfl,rfl,by go_num,by omega,hdn,hg0i.trans hgw⟩
        case measure=>(simp [intOf] <;> omega)
  ·obtain rfl:k=ps.length:=by omega
   have hfin:=RefSt.end (key:=key) (by rw [List.length_map];exact hst.out) hkb.out hne.out
   have hgd:=q1 wo hgr
   clear hst
   cases bg with
   | true =>
    rw [Bool.true_or] at hfin
    replace hfin:=Lib.hid hfin
    go_wp2_with fail
    go_ret
    exact ⟨by rw [hfin.out];rfl,hg⟩
   | false =>
    rw [Bool.false_or] at hfin
    by_cases hal:30000 < (al:Int)
    ·rw [decide_eq_true hal] at hfin
     replace hfin:=Lib.hid hfin
     go_wp2_with fail
     go_ret
     exact ⟨by rw [hfin.out];rfl,hg⟩
    ·rw [decide_eq_false hal] at hfin
     replace hfin:=Lib.hid hfin
     go_wp2_with fail
     go_ret
     exact ⟨by rw [hfin.out];rfl,hg⟩
end Go.Proofs.YtheogchkelmeeaaGreatDoor

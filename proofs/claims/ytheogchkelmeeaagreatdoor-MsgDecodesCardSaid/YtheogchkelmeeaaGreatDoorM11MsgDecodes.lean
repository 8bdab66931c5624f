/- Several texts in one: All, RefAll, RefName. -/
import Derived.Test.YtheogchkelmeeaaGreatDoorM10MsgDecodes
import Derived.Test.YtheogchkelmeeaaGreatDoorM1MsgDecodes
import Derived.BigRegion
import Derived.Test.YtheogchkelmeeaaGreatDoorM4MsgDecodes
/- penstockref1.All: what it lists. Condition: the length is at most 2^30. -/
namespace Go.Proofs.YtheogchkelmeeaaGreatDoor
open Go.RowKit
set_option maxHeartbeats 1000000 in
theorem all_own (s : ByteArray) (w : World) (hs : s.size ≤ 1073741824) :
  Calls Tryz.prog 105 #[.string s] w fun e w'=>∃A c,e=.returned (.slice A (cks s.data.toList).length c)∧OwnL 172 4 Ru.cells w' w.heap.size (.slice A (cks s.data.toList).length c) (allL s.data.toList (cks s.data.toList).length)∧G w w':=by
 have hl:(cks s.data.toList).length≤1073741824:=Nat.le_trans (cks_length_le _) (by simpa using hs)
 have hsl:s.data.toList.length=s.size:=by simp
 replace hsl:=Lib.hid hsl
 go_enter Tryz.func105,Tryz.ntmps105
 go_wp2_with fail
 go_loopw [3] (fun v wr=>∃(k:Nat) (A8:Option Addr) (n8 c8:Nat),v=.slice A8 n8 c8∧k≤(cks s.data.toList).length∧Hid (IterAt wr w.heap.size s k)∧Hid (OwnL 172 4 Ru.cells wr w.heap.size (.slice A8 n8 c8) (preL s.data.toList k))∧G w wr) (fun _ wr=>s.size - wr.iterPos w.heap.size)
 case atStart=>exact ⟨0,_,_,_,rfl,Nat.zero_le _,IterAt.start w s,OwnL.nil,G.iter _ _ _⟩
 case round =>
  obtain ⟨k,A8,n8,c8,rfl,hk,hit,hown,hg⟩:=hrel
  have hsep:∀j,(Value.slice A8 n8 c8).ownBlock=some j→j≠w.heap.size:=by
   rintro j hj rfl
   obtain ⟨_,_,cs,h1⟩:=hown.out.blk hj
   have h2:wr.heap[w.heap.size]?=some (.stringIter s _):=hit.out
   rw [h2] at h1
   cases h1
  obtain ⟨A9,c9,he9,hc9,hc10,hsl9⟩:=OwnL.sl Ru.cells_len hown.out
  rw [preL_len] at he9
  cases he9
  by_cases hlt:k < (cks s.data.toList).length
  ·obtain ⟨c,hc⟩:=piece_at hlt
   have hpos:=hit.out.pos
   have hless:=off_less hc
   obtain ⟨w1,hnx,hit1,hbt,hsz1⟩:=run_next_piece (P:=Tryz.prog) hit.out hc
   clear hsz1
   have hg1:=hg.next hbt (by omega)
   have hown1:=hown.out.but' hbt hsep
   clear hit hown hbt
   replace hc:=Lib.hid hc
   replace hpos:=Lib.hid hpos
   replace hless:=Lib.hid hless
   replace hit1:=Lib.hid hit1
   replace hsep:=Lib.hid hsep
   clear hsl9
   rcases k with _ | m
   ·have hpre:preL s.data.toList (0+1)=[]++[⟨c.r,off s.data.toList 0,s.size,false⟩]:=by rw [←rAt_eq hc.out,←hsl.out];rfl
    replace hpre:=Lib.hid hpre
    replace hown1:=Lib.hid hown1
    go_wp2_with (at_builtin;refine wpList_append_but ru_elem _ rfl (.tmp 23) (.tmp 29) rfl w.heap.size _ [] rfl (hown1.out.g (G.new _ _)) (w1.heap.size+1) (some ⟨w1.heap.size,0,none⟩) 1 [⟨c.r,off s.data.toList 0,s.size,false⟩] rfl (by intro h;cases h) (Sl.of_blk Ru.cells_len _ (blk_new _ _ _) rfl (by omega)) (by simp) (by simp) (by have:=hg1.size;simp;omega) ?_;intro v' w2 hown2 hkeep hbut)
    have it2:IterAt w2 w.heap.size s (0+1):=(hit1.out.g (G.new _ _)).but hbut (fun e=>hsep.out _ e.symm rfl)
    have hg2:G w w2:=hkeep.g (hg1.alloc _)
    have hown3:OwnL 172 4 Ru.cells w2 w.heap.size v' (preL s.data.toList (0+1)):=by
     rw [hpre.out]
     exact hown2
    replace it2:=Lib.hid it2
    replace hown3:=Lib.hid hown3
    clear hown2 hkeep hbut hown1
    obtain ⟨A2,c2,e2,_,_,_⟩:=OwnL.sl Ru.cells_len hown3.out
    subst e2
    go_roundw
    case rel=>exact ⟨0+1,A2,_,c2,rfl,by omega,it2,hown3,hg2⟩
    case measure=>rw [hpos.out,it2.out.pos];exact hless.out
   ·obtain ⟨g,hA8⟩:∃g,A8=some ⟨g,0,none⟩:=by
     rcases hown1.2 with ⟨h1,_⟩ | ⟨g,cap,cur,hv,_⟩
     ·cases h1
     ·rw [preL_len] at hv
      cases hv
      exact ⟨g,rfl⟩
    have hidx:∀w',(Instr.indexAt 169 (.slice A8 (m+1) c8) (.int .i64 m)).run Tryz.prog w'=.ok (.pointer (some ⟨g,m * 4,none⟩)) w':=fun w'=>by
     subst hA8
     obtain ⟨i0,z,hi,hz0,hz1,hz2,hz3⟩:=(ru_elem).info
     rw [run_indexAt_slice (h:=by kernel_rfl),if_pos (by omega)]
     have e5:Tryz.prog.elem 169=172:=by kernel_rfl
     rw [e5]
     simp [sizeOf,typeInfo,hi,hz1,Addr.add]
     intro h0
     omega
    have hopq:=hown1
    replace hopq:=Lib.hid hopq
    rw [hA8] at hown1
    have hput:=OwnL.put Ru.cells_len (xs:=preL s.data.toList (m+1)) (c:=c8) (by rw [preL_len];exact hown1) (preL_last s.data.toList m) (j:=2) (by omega) (y:=⟨rAt s.data.toList m,off s.data.toList m,off s.data.toList (m+1),false⟩) (u:=.int .i64 (off s.data.toList (m+1))) rfl
    rw [preL_len,←hA8] at hput
    replace hA8:=Lib.hid hA8
    obtain ⟨hgb,hgl,cs,hblk⟩:=hown1.blk rfl
    have hfree:w1.frozen? ⟨g,m * 4+2,none⟩=false:=by simp [World.frozen?,hblk]
    have hcell:w1.cell? ⟨g,m * 4+2,none⟩=some (.int .i64 s.data.toList.length):=by
     obtain ⟨A7,c7,e7,_,_,h7⟩:=OwnL.sl Ru.cells_len hown1
     rw [preL_len] at e7
     cases e7
     obtain ⟨b,o,e8,_,h8⟩:=h7 (by intro h;have:=congrArg List.length h;rw [preL_len] at this;simp at this)
     cases e8
     have:=h8 m _ (preL_last s.data.toList m) 2 (.int .i64 s.data.toList.length) rfl
     simpa using this
    clear hblk
    have hitW:IterAt (w1.setCell ⟨g,m * 4+2,none⟩ (.int .i64 (off s.data.toList (m+1)))) w.heap.size s (m+1+1):=hit1.out.but (But.set (S:=fun k=>k=g) (p:=⟨g,m * 4+2,none⟩) (But.refl _ w1) (.inr rfl) _) (fun e=>hsep.out g (by rw [hA8.out];rfl) e.symm)
    have hgW:G w (w1.setCell ⟨g,m * 4+2,none⟩ (.int .i64 (off s.data.toList (m+1)))):=hg1.set (p:=⟨g,m * 4+2,none⟩) hgb _
    have hpre:=preL_put s.data.toList m
    rw [rAt_eq hc.out,hsl.out] at hpre
    replace hpre:=Lib.hid hpre.symm
    replace hitW:=Lib.hid hitW
    replace hput:=Lib.hid hput
    replace hown1:=Lib.hid hown1
    generalize off s.data.toList (m+1)=p1 at *
    have n1:(0:Int)≤↑m:=by omega
    have n2:IntKind.i64.wrap (((m+1:Nat):Int) - 1)=(m:Int):=by rw [IntWalk.i64_in _ (by omega)];omega
    have hszW:(w1.setCell ⟨g,m * 4+2,none⟩ (.int .i64 p1)).heap.size=w1.heap.size:=by simp
    have hblkW:=blk_new (w1.setCell ⟨g,m * 4+2,none⟩ (.int .i64 p1)) #[.int .i32 c.r,.int .i64 p1,.int .i64 s.size,.bool false] 172
    rw [hszW] at hblkW
    have hszG:=hg1.size
    replace hszW:=Lib.hid hszW
    replace hblkW:=Lib.hid hblkW
    go_wp2_with (at_builtin;refine wpList_append_but ru_elem _ rfl (.tmp 23) (.tmp 29) rfl w.heap.size _ ((preL s.data.toList (m+1)).set m ⟨rAt s.data.toList m,off s.data.toList m,p1,false⟩) rfl (hput.out.g (G.new _ _)) (w1.heap.size+1) (some ⟨w1.heap.size,0,none⟩) 1 [⟨c.r,p1,s.size,false⟩] rfl (by intro h;cases h) (Sl.of_blk Ru.cells_len _ hblkW.out rfl (by omega)) (by rw [List.length_set,preL_len,List.length_singleton];omega) (by rw [List.length_set,preL_len,List.length_singleton];omega) (by first | omega|(simp;omega)) ?_;intro v' w2 hown2 hkeep hbut)
    have it2:IterAt w2 w.heap.size s (m+1+1):=(hitW.out.g (G.new _ _)).but hbut (fun e=>hsep.out _ e.symm rfl)
    have hg2:G w w2:=hkeep.g (hgW.alloc _)
    have hown3:OwnL 172 4 Ru.cells w2 w.heap.size v' (preL s.data.toList (m+1+1)):=by
     rw [hpre.out]
     exact hown2
    replace it2:=Lib.hid it2
    replace hown3:=Lib.hid hown3
    clear hown2 hkeep hbut hown1
    obtain ⟨A2,c2,e2,_,_,_⟩:=OwnL.sl Ru.cells_len hown3.out
    subst e2
    go_roundw
    case rel=>exact ⟨m+1+1,A2,_,c2,rfl,by omega,it2,hown3,hg2⟩
    case measure=>rw [hpos.out,it2.out.pos];exact hless.out
  ·have hkn:k=(cks s.data.toList).length:=by omega
   have hnx:=fun ty=>run_next_over (P:=Tryz.prog) ty hit.out (by omega)
   rw [hkn,preL_all] at hown
   clear hsep hsl9 hlt hit
   generalize hn:(cks s.data.toList).length=n at *
   subst hkn
   replace hn:=Lib.hid hn
   go_wp2_with fail
   go_loopw [6] (fun i wr=>∃j:Nat,j≤k∧i=.int .i64 j∧Hid (OwnL 172 4 Ru.cells wr w.heap.size (.slice A8 k c8) (allL s.data.toList j))∧G w wr) (fun i _=>k - (intOf i).toNat)
   case atStart=>exact ⟨0,Nat.zero_le _,rfl,hown,hg⟩
   case round =>
    clear hown hg
    obtain ⟨j,hj,rfl,hown,hg⟩:=hrel
    by_cases hlt:j < k
    ·have hown1:=hown.out
     obtain ⟨g,rfl⟩:∃g,A8=some ⟨g,0,none⟩:=by
      rcases hown1.2 with ⟨h1,_⟩ | ⟨g,cap,cur,hv,_⟩
      ·cases h1
       omega
      ·rw [allL_len,hn.out] at hv
       cases hv
       exact ⟨g,rfl⟩
     have hjn:j < (cks s.data.toList).length:=by rw [hn.out];exact hlt
     obtain ⟨c,hc⟩:=piece_at hjn
     have hget:=allL_get s.data.toList j j hjn
     rw [if_neg (by omega)] at hget
     have hput:=OwnL.put Ru.cells_len (xs:=allL s.data.toList j) (c:=c8) (by rw [allL_len,hn.out];exact hown1) hget (j:=3) (by omega) (y:=⟨rAt s.data.toList j,off s.data.toList j,off s.data.toList (j+1),badAt s.data.toList j⟩) (u:=.bool (badAt s.data.toList j)) rfl
     rw [allL_put _ _ hjn,allL_len,hn.out] at hput
     obtain ⟨hgb,hgl,cs,hblk⟩:=hown1.blk rfl
     have hgW:∀u,G w (wr.setCell ⟨g,j * 4+3,none⟩ u):=fun u=>hg.set (p:=⟨g,j * 4+3,none⟩) hgb _
     have hfree:wr.frozen? ⟨g,j * 4+3,none⟩=false:=by simp [World.frozen?,hblk]
     have hcells:∀i u,(Ru.cells ⟨rAt s.data.toList j,off s.data.toList j,off s.data.toList (j+1),false⟩)[i]?=some u→wr.cell? ⟨g,j * 4+i,none⟩=some u:=by
      obtain ⟨A7,c7,e7,_,_,h7⟩:=OwnL.sl Ru.cells_len hown1
      rw [allL_len,hn.out] at e7
      cases e7
      obtain ⟨b,o,e8,_,h8⟩:=h7 (by intro h;have:=congrArg List.length h;rw [allL_len,hn.out] at this;simp at this;omega)
      cases e8
      intro i u hu
      have:=h8 j _ hget i u hu
      simpa using this
     have c0:=hcells 0 _ rfl
     have c1:=hcells 1 _ rfl
     have c2:=hcells 2 _ rfl
     have c3:=hcells 3 _ rfl
     rw [Nat.add_zero] at c0
     have hos:=off_succ hc
     have hbd:badAt s.data.toList j=decide (rAt s.data.toList j=65533∧off s.data.toList (j+1) - off s.data.toList j=1):=by
      rw [badAt_eq hc,rAt_eq hc,hos,Nat.add_sub_cancel_left]
      rfl
     have hp1:off s.data.toList j≤off s.data.toList (j+1):=by omega
     have hp2:=off_le s.data.toList (j+1)
     rw [hsl.out] at hp2
     clear hcells hblk hown1 hget hos hc hjn
     generalize off s.data.toList (j+1)=p1 at *
     generalize off s.data.toList j=p0 at *
     generalize rAt s.data.toList j=r at *
     generalize badAt s.data.toList j=bd at *
     replace hput:=Lib.hid hput
     replace hown:=Lib.hid hown.out
     replace hgW:=Lib.hid hgW
     have n0:(0:Int)≤j:=by omega
     have n1:(j:Int) < k:=by omega
     have n2:IntKind.i64.wrap ((p1:Int) - p0)=(p1:Int) - p0:=IntWalk.i64_in _ (by omega)
     by_cases hr:r=65533
     ·have b1:((r:Int) == 65533)=true:=by rw [beq_iff_eq];omega
      by_cases hw:p1 - p0=1
      ·have b2:(((p1:Int) - p0) == 1)=true:=by rw [beq_iff_eq];omega
       have hbt:bd=true:=by rw [hbd,hr,hw];rfl
       subst hbt
       clear hbd
       replace hr:=Lib.hid hr
       replace hp2:=Lib.hid hp2
       replace hp1:=Lib.hid hp1
       go_wp2_with fail
       go_region
       all_goals
        go_wp2_with fail
        go_roundw
        case rel=>exact ⟨j+1,by omega,by go_num,hput.out.g ((G.refl _).drew),(hgW.out _).drew⟩
        case measure=>(simp [intOf] <;> omega)
      ·have b2:(((p1:Int) - p0) == 1)=false:=by rw [beq_eq_false_iff_ne];omega
       have hbt:bd=false:=by rw [hbd];exact decide_eq_false (fun h=>hw h.2)
       subst hbt
       replace hw:=Lib.hid hw
       clear hbd
       replace hr:=Lib.hid hr
       replace hp2:=Lib.hid hp2
       replace hp1:=Lib.hid hp1
       go_wp2_with fail
       go_region
       all_goals
        go_wp2_with fail
        go_roundw
        case rel=>exact ⟨j+1,by omega,by go_num,hput.out.g ((G.refl _).drew),(hgW.out _).drew⟩
        case measure=>(simp [intOf] <;> omega)
     ·have b1:((r:Int) == 65533)=false:=by rw [beq_eq_false_iff_ne];omega
      have hbt:bd=false:=by rw [hbd];exact decide_eq_false (fun h=>hr h.1)
      subst hbt
      clear hbd
      replace hr:=Lib.hid hr
      replace hp2:=Lib.hid hp2
      replace hp1:=Lib.hid hp1
      go_wp2_with fail
      go_region
      all_goals
       go_wp2_with fail
       go_roundw
       case rel=>exact ⟨j+1,by omega,by go_num,hput.out.g ((G.refl _).drew),(hgW.out _).drew⟩
       case measure=>(simp [intOf] <;> omega)
    ·obtain ⟨A7,c7,e7,_,_,h7⟩:=OwnL.sl Ru.cells_len hown.out
     rw [allL_len,hn.out] at e7
     cases e7
     have hjk:j=k:=by omega
     subst hjk
     clear h7
     go_wp2_with fail
     go_ret
     exact ⟨A8,c8,by rw [hn.out];rfl,by rw [hn.out];exact hown.out,hg⟩
theorem all_any (s : ByteArray) (w : World) (hs : s.size ≤ 1073741824) :
  Calls Tryz.prog 105 #[.string s] w fun e w'=>∃A c,e=.returned (.slice A (cks s.data.toList).length c)∧Sl Ru.cells 4 w' w'.heap.size A (allL s.data.toList (cks s.data.toList).length)∧G w w' :=
 (all_own s w hs).mono fun e w' h=>by
  obtain ⟨A,c,rfl,ho,hg⟩:=h
  obtain ⟨A2,c2,e2,_,_,h2⟩:=OwnL.sl Ru.cells_len ho
  rw [allL_len] at e2
  cases e2
  exact ⟨A,c,rfl,h2,hg⟩
end Go.Proofs.YtheogchkelmeeaaGreatDoor
/- penstockref1.Valid, Count: what they answer. Condition: the length is at most 2^30. -/
namespace Go.Proofs.YtheogchkelmeeaaGreatDoor
open Go.RowKit
section
variable {w w1 : World} {B : Nat} {A : Option Addr} {l : List UInt8} {k : Nat} {c : Ck}
theorem Sl.ruG (h : Sl Ru.cells 4 w1 B A (allL l (cks l).length)) (hB : B ≤ w1.heap.size) (hc : (cks l)[k]? = some c) :
  ∃b o,A=some ⟨b,o,none⟩∧b < B∧(∀w',G w1 w'→w'.cell? ⟨b,o+k * 4,none⟩=some (.int .i32 c.r))∧(∀w',G w1 w'→w'.cell? ⟨b,o+k * 4+1,none⟩=some (.int .i64 (off l k)))
   ∧ (∀w',G w1 w'→w'.cell? ⟨b,o+k * 4+2,none⟩=some (.int .i64 (off l (k+1))))∧∀w',G w1 w'→w'.cell? ⟨b,o+k * 4+3,none⟩=some (.bool c.bad):=by
 have hk:k < (cks l).length:=(List.getElem?_eq_some_iff.1 hc).1
 have hx:=allL_get l (cks l).length k hk
 rw [if_pos hk,rAt_eq hc,badAt_eq hc] at hx
 obtain ⟨b,o,e,hb,h2⟩:=h.get hx
 have hlt:b < w1.heap.size:=by omega
 refine ⟨b,o,e,hb,fun w' hg=>(hg.cell hlt).trans ?_,fun w' hg=>(hg.cell hlt).trans ?_,fun w' hg=>(hg.cell hlt).trans ?_,fun w' hg=>(hg.cell hlt).trans ?_⟩
 ·exact h2 0 _ rfl
 ·exact h2 1 _ rfl
 ·exact h2 2 _ rfl
 ·exact h2 3 _ rfl
end
theorem validB_not {s:ByteArray} {k:Nat} {c:Ck} (h:(cks s.data.toList)[k]?=some c) (hb:c.bad=true):validB s=false:=by
 unfold validB
 rw [List.all_eq_false]
 exact ⟨c,List.mem_of_getElem? h,by rw [hb];simp⟩
theorem validB_end {s:ByteArray} (h:∀(j:Nat) (c:Ck),(cks s.data.toList)[j]?=some c→c.bad=false):validB s=true:=by
 unfold validB
 rw [List.all_eq_true]
 intro c hc
 obtain ⟨j,hj⟩:=List.getElem?_of_mem hc
 rw [h j c hj];rfl
/-- What held of the pieces ahead holds of one more. -/
theorem all_more {l:List Ck} {k:Nat} {c:Ck} {p:Ck→Prop} (h:∀(j:Nat) (c:Ck),j < k→l[j]?=some c→p c) (hc:l[k]?=some c) (hp:p c):∀(j:Nat) (c:Ck),j < k+1→l[j]?=some c→p c:=fun j c' hj h'=>by
 rcases Nat.lt_or_ge j k with h1 | h1
 ·exact h j c' h1 h'
 ·obtain rfl:j=k:=by omega
  rw [hc] at h'
  cases h'
  exact hp
set_option maxHeartbeats 1000000 in
theorem refValid_any (s : ByteArray) (w : World) (hs : s.size ≤ 1073741824) :
  Calls Tryz.prog 80 #[.string s] w fun e w'=>e=.returned (.bool (validB s))∧G w w':=by
 have hall:=all_any s w hs
 have hl:(cks s.data.toList).length≤1073741824:=Nat.le_trans (cks_length_le _) (by simpa using hs)
 go_enter Tryz.func80,Tryz.ntmps80
 go_wp2_with fail
 refine hall.mono ?_
 clear hall
 rintro e w1 ⟨A,c8,rfl,hsl,hg⟩
 go_wp2_with fail
 go_loop [4] (fun i=>∃k:Nat,k≤(cks s.data.toList).length∧i=.int .i64 k∧Hid (∀j c,j < k→(cks s.data.toList)[j]?=some c→c.bad=false)) (fun i=>(cks s.data.toList).length - (intOf i).toNat)
 case atStart=>exact ⟨0,Nat.zero_le _,rfl,by intro j c h;omega⟩
 case round =>
  obtain ⟨k,hk,rfl,hh⟩:=hrel
  by_cases hlt:k < (cks s.data.toList).length
  ·obtain ⟨c,hc⟩:=piece_at hlt
   obtain ⟨b,o,rfl,hb,c0,c1,c2,c3⟩:=hsl.ruG (Nat.le_refl _) hc
   replace c3:=c3 _ (G.refl _)
   have n1:(0:Int)≤↑k:=by omega
   have n2:(k:Int) < ↑(cks s.data.toList).length:=by omega
   clear c0 c1 c2 hsl
   cases hbd:c.bad with
   | true =>
    have hf:=validB_not hc hbd
    rw [hbd] at c3
    replace hf:=Lib.hid hf
    replace hbd:=Lib.hid hbd
    clear hc
    go_wp2_with fail
    go_ret
    exact ⟨by rw [hf.out];rfl,hg⟩
   | false =>
    have hh2:=all_more hh.out hc hbd
    rw [hbd] at c3
    replace hh2:=Lib.hid hh2
    replace hbd:=Lib.hid hbd
    clear hc
    go_wp2_with fail
    go_round
    case rel=>exact ⟨k+1,by omega,by go_num,hh2⟩
    case measure=>(simp [intOf] <;> omega)
  ·have hf:validB s=true:=validB_end fun j c h=>hh.out j c (by have:=(List.getElem?_eq_some_iff.1 h).1;omega) h
   replace hf:=Lib.hid hf
   clear hsl
   go_wp2_with fail
   go_ret
   exact ⟨by rw [hf.out];rfl,hg⟩
end Go.Proofs.YtheogchkelmeeaaGreatDoor
/- penstockref1.Name, Key: what they answer. Condition: the length is at most 2^30. -/
namespace Go.Proofs.YtheogchkelmeeaaGreatDoor
open Go.RowKit
/-- A piece that may not stand in a name. -/
theorem nameB_not {s:ByteArray} {k:Nat} {c:Ck} (h:(cks s.data.toList)[k]?=some c) (hb:c.bad=true∨namedB c.r=false):nameB s=false:=by
 unfold nameB
 rcases hb with hb | hb
 ·have:everyB 40 namedB s=false:=by
   unfold everyB
   rw [validB_not h hb,Bool.and_false]
  rw [this,Bool.and_false]
 ·rw [everyB_not h hb,Bool.and_false]
theorem nameB_len {s:ByteArray} (h:(cks s.data.toList).length < 1∨40 < (cks s.data.toList).length):nameB s=false:=by
 unfold nameB
 rcases h with h | h
 ·have:s.data.toList=[]:=by
   rcases hl:s.data.toList with _ | ⟨b,l⟩
   ·rfl
   ·rw [hl,cks_step (by simp)] at h
    simp at h
  rw [ByteArray.toList_eq,this]
  rfl
 ·have:everyB 40 namedB s=false:=by
   unfold everyB
   rw [decide_eq_false (by omega)];rfl
  rw [this,Bool.and_false]
theorem nameB_end {s:ByteArray} (h0:1≤(cks s.data.toList).length) (h1:(cks s.data.toList).length≤40) (h:∀(j:Nat) (c:Ck),(cks s.data.toList)[j]?=some c→c.bad=false∧namedB c.r=true):nameB s=true:=by
 unfold nameB
 rw [everyB_end (by omega) fun j c hc=>(h j c hc).2,validB_end fun j c hc=>(h j c hc).1,ByteArray.toList_eq]
 rcases hl:s.data.toList with _ | ⟨b,l⟩
 ·rw [hl,cks_nil] at h0
  simp at h0
 ·rfl
theorem keyB_not {s:ByteArray} {k:Nat} {c:Ck} (h:(cks s.data.toList)[k]?=some c) (hb:c.bad=true∨showB c.r=false):keyB s=false:=by
 unfold keyB
 rcases hb with hb | hb
 ·unfold everyB
  rw [validB_not h hb,Bool.and_false]
 ·exact everyB_not h hb
theorem keyB_end {s:ByteArray} (h:∀(j:Nat) (c:Ck),(cks s.data.toList)[j]?=some c→c.bad=false∧showB c.r=true):keyB s=decide (((cks s.data.toList).length:Int)≤40):=by
 unfold keyB everyB
 have h1:((cks s.data.toList).all fun c=>showB c.r)=true:=by
  rw [List.all_eq_true]
  intro c hc
  obtain ⟨j,hj⟩:=List.getElem?_of_mem hc
  exact (h j c hj).2
 rw [h1,validB_end fun j c hc=>(h j c hc).1,Bool.and_true,Bool.and_true]
set_option maxRecDepth 100000 in
set_option maxHeartbeats 4000000 in
theorem refName_any (s : ByteArray) (w : World) (hs : s.size ≤ 1073741824) :
  Calls Tryz.prog 79 #[.string s] w fun e w'=>e=.returned (.bool (nameB s))∧G w w':=by
 have hall:=all_any s w hs
 have hl:(cks s.data.toList).length≤1073741824:=Nat.le_trans (cks_length_le _) (by simpa using hs)
 by_cases hnn:(cks s.data.toList).length < 1∨40 < (cks s.data.toList).length
 ·have hf:=nameB_len hnn
  replace hf:=Lib.hid hf
  have t1:((cks s.data.toList).length:Int) < 1∨(40:Int) < ((cks s.data.toList).length:Int):=by omega
  rcases t1 with t1 | t1
  ·clear hnn
   go_enter Tryz.func79,Tryz.ntmps79
   go_wp2_with fail
   refine hall.mono ?_
   clear hall
   rintro e w1 ⟨A,c8,rfl,hsl,hg⟩
   clear hsl
   go_wp2_with fail
   go_ret
   exact ⟨by rw [hf.out];rfl,hg⟩
  ·have t2:¬ ((cks s.data.toList).length:Int) < 1:=by omega
   clear hnn
   go_enter Tryz.func79,Tryz.ntmps79
   go_wp2_with fail
   refine hall.mono ?_
   clear hall
   rintro e w1 ⟨A,c8,rfl,hsl,hg⟩
   clear hsl
   go_wp2_with fail
   go_ret
   exact ⟨by rw [hf.out];rfl,hg⟩
 have t1:¬ ((cks s.data.toList).length:Int) < 1:=by omega
 have t2:((cks s.data.toList).length:Int)≤40:=by omega
 go_enter Tryz.func79,Tryz.ntmps79
 go_wp2_with fail
 refine hall.mono ?_
 clear hall
 rintro e w1 ⟨A,c8,rfl,hsl,hg⟩
 replace hsl:=Lib.hid hsl
 clear hnn
 go_wp2_with fail
 go_loop [4] (fun i=>∃k:Nat,k≤(cks s.data.toList).length∧i=.int .i64 k∧Hid (∀j c,j < k→(cks s.data.toList)[j]?=some c→c.bad=false∧namedB c.r=true)) (fun i=>(cks s.data.toList).length - (intOf i).toNat)
 case atStart=>exact ⟨0,Nat.zero_le _,rfl,by intro j c h;omega⟩
 case round =>
  obtain ⟨k,hk,rfl,hh⟩:=hrel
  by_cases hlt:k < (cks s.data.toList).length
  ·obtain ⟨c,hc⟩:=piece_at hlt
   obtain ⟨b,o,rfl,hb,c0,c1,c2,c3⟩:=hsl.out.ruG (Nat.le_refl _) hc
   replace c0:=c0 _ (G.refl _)
   replace c3:=c3 _ (G.refl _)
   have n1:(0:Int)≤↑k:=by omega
   have n2:(k:Int) < ↑(cks s.data.toList).length:=by omega
   clear c1 c2 hsl
   have hn:Hid (c.bad=true∨namedB c.r=false→nameB s=false):=nameB_not hc
   have hy:Hid (c.bad=false→namedB c.r=true→∀j c',j < k+1→(cks s.data.toList)[j]?=some c'→c'.bad=false∧namedB c'.r=true):=fun h1 h2=>all_more (p:=fun c=>c.bad=false∧namedB c.r=true) hh.out hc ⟨h1,h2⟩
   clear hc hh
   generalize c.bad=bd at *
   obtain ⟨cb,r0⟩:=c
   dsimp only at c0 hn hy
   obtain ⟨r,hr⟩:∃r:Int,(r0:Int)=r:=⟨_,rfl⟩
   rw [hr] at c0 hn hy
   clear hr
   by_cases h1:r=45
   ·subst h1
    cases bd with
    | true =>
     have hf:=hn.out (.inl rfl)
     replace hf:=Lib.hid hf
     go_wp2_with fail
     go_ret
     exact ⟨by rw [hf.out];rfl,hg⟩
    | false =>
     have hh2:=hy.out rfl (rfl)
     replace hh2:=Lib.hid hh2
     go_wp2_with fail
     go_round
     case rel=>exact ⟨k+1,by omega,by go_num,hh2⟩
     case measure=>(simp [intOf] <;> omega)
   by_cases h2:r=95
   ·subst h2
    cases bd with
    | true =>
     have hf:=hn.out (.inl rfl)
     replace hf:=Lib.hid hf
     go_wp2_with fail
     go_ret
     exact ⟨by rw [hf.out];rfl,hg⟩
    | false =>
     have hh2:=hy.out rfl (rfl)
     replace hh2:=Lib.hid hh2
     go_wp2_with fail
     go_round
     case rel=>exact ⟨k+1,by omega,by go_num,hh2⟩
     case measure=>(simp [intOf] <;> omega)
   by_cases h3:r=46
   ·subst h3
    cases bd with
    | true =>
     have hf:=hn.out (.inl rfl)
     replace hf:=Lib.hid hf
     go_wp2_with fail
     go_ret
     exact ⟨by rw [hf.out];rfl,hg⟩
    | false =>
     have hh2:=hy.out rfl (rfl)
     replace hh2:=Lib.hid hh2
     go_wp2_with fail
     go_round
     case rel=>exact ⟨k+1,by omega,by go_num,hh2⟩
     case measure=>(simp [intOf] <;> omega)
   by_cases h4:r=47
   ·subst h4
    cases bd with
    | true =>
     have hf:=hn.out (.inl rfl)
     replace hf:=Lib.hid hf
     go_wp2_with fail
     go_ret
     exact ⟨by rw [hf.out];rfl,hg⟩
    | false =>
     have hh2:=hy.out rfl (rfl)
     replace hh2:=Lib.hid hh2
     go_wp2_with fail
     go_round
     case rel=>exact ⟨k+1,by omega,by go_num,hh2⟩
     case measure=>(simp [intOf] <;> omega)
   have b1:(r == 45)=false:=by rw [beq_eq_false_iff_ne];exact h1
   have b2:(r == 95)=false:=by rw [beq_eq_false_iff_ne];exact h2
   have b3:(r == 46)=false:=by rw [beq_eq_false_iff_ne];exact h3
   have b4:(r == 47)=false:=by rw [beq_eq_false_iff_ne];exact h4
   have hR:((97≤r∧r≤122)∨(65≤r∧r≤90)∨(48≤r∧r≤57)∨161≤r)→namedB r=true:=fun h=>(namedB_t (by omega)).symm
   have hR2:¬ ((97≤r∧r≤122)∨(65≤r∧r≤90)∨(48≤r∧r≤57)∨161≤r)→namedB r=false:=fun h=>(namedB_f (by omega)).symm
   replace hR:=Lib.hid hR
   replace hR2:=Lib.hid hR2
   clear h1 h2 h3 h4
   by_cases t1:97≤r
   ·by_cases t2:r≤122
    ·cases bd with
     | true =>
      have hf:=hn.out (.inl rfl)
      replace hf:=Lib.hid hf
      go_wp2_with fail
      go_ret
      exact ⟨by rw [hf.out];rfl,hg⟩
     | false =>
      have hh2:=hy.out rfl (hR.out (by omega))
      replace hh2:=Lib.hid hh2
      go_wp2_with fail
      go_round
      case rel=>exact ⟨k+1,by omega,by go_num,hh2⟩
      case measure=>(simp [intOf] <;> omega)
    ·have t3:65≤r:=by omega
     have t4:¬ r≤90:=by omega
     have t5:48≤r:=by omega
     have t6:¬ r≤57:=by omega
     by_cases t7:161≤r
     ·cases bd with
      | true =>
       have hf:=hn.out (.inl rfl)
       replace hf:=Lib.hid hf
       go_wp2_with fail
       go_ret
       exact ⟨by rw [hf.out];rfl,hg⟩
      | false =>
       have hh2:=hy.out rfl (hR.out (by omega))
       replace hh2:=Lib.hid hh2
       go_wp2_with fail
       go_round
       case rel=>exact ⟨k+1,by omega,by go_num,hh2⟩
       case measure=>(simp [intOf] <;> omega)
     ·cases bd with
      | true =>
       have hf:=hn.out (.inl rfl)
       replace hf:=Lib.hid hf
       go_wp2_with fail
       go_ret
       exact ⟨by rw [hf.out];rfl,hg⟩
      | false =>
       have hf:=hn.out (.inr (hR2.out (by omega)))
       replace hf:=Lib.hid hf
       go_wp2_with fail
       go_ret
       exact ⟨by rw [hf.out];rfl,hg⟩
   ·have t7:¬ 161≤r:=by omega
    by_cases t3:65≤r
    ·by_cases t4:r≤90
     ·cases bd with
      | true =>
       have hf:=hn.out (.inl rfl)
       replace hf:=Lib.hid hf
       go_wp2_with fail
       go_ret
       exact ⟨by rw [hf.out];rfl,hg⟩
      | false =>
       have hh2:=hy.out rfl (hR.out (by omega))
       replace hh2:=Lib.hid hh2
       go_wp2_with fail
       go_round
       case rel=>exact ⟨k+1,by omega,by go_num,hh2⟩
       case measure=>(simp [intOf] <;> omega)
     ·have t5:48≤r:=by omega
      have t6:¬ r≤57:=by omega
      cases bd with
      | true =>
       have hf:=hn.out (.inl rfl)
       replace hf:=Lib.hid hf
       go_wp2_with fail
       go_ret
       exact ⟨by rw [hf.out];rfl,hg⟩
      | false =>
       have hf:=hn.out (.inr (hR2.out (by omega)))
       replace hf:=Lib.hid hf
       go_wp2_with fail
       go_ret
       exact ⟨by rw [hf.out];rfl,hg⟩
    ·by_cases t5:48≤r
     ·have t4:r≤90:=by omega
      by_cases t6:r≤57
      ·cases bd with
       | true =>
        have hf:=hn.out (.inl rfl)
        replace hf:=Lib.hid hf
        go_wp2_with fail
        go_ret
        exact ⟨by rw [hf.out];rfl,hg⟩
       | false =>
        have hh2:=hy.out rfl (hR.out (by omega))
        replace hh2:=Lib.hid hh2
        go_wp2_with fail
        go_round
        case rel=>exact ⟨k+1,by omega,by go_num,hh2⟩
        case measure=>(simp [intOf] <;> omega)
      ·cases bd with
       | true =>
        have hf:=hn.out (.inl rfl)
        replace hf:=Lib.hid hf
        go_wp2_with fail
        go_ret
        exact ⟨by rw [hf.out];rfl,hg⟩
       | false =>
        have hf:=hn.out (.inr (hR2.out (by omega)))
        replace hf:=Lib.hid hf
        go_wp2_with fail
        go_ret
        exact ⟨by rw [hf.out];rfl,hg⟩
     ·cases bd with
      | true =>
       have hf:=hn.out (.inl rfl)
       replace hf:=Lib.hid hf
       go_wp2_with fail
       go_ret
       exact ⟨by rw [hf.out];rfl,hg⟩
      | false =>
       have hf:=hn.out (.inr (hR2.out (by omega)))
       replace hf:=Lib.hid hf
       go_wp2_with fail
       go_ret
       exact ⟨by rw [hf.out];rfl,hg⟩
  ·have hf:nameB s=true:=nameB_end (by omega) (by omega) fun j c h=>hh.out j c (by have:=(List.getElem?_eq_some_iff.1 h).1;omega) h
   replace hf:=Lib.hid hf
   clear hsl
   go_wp2_with fail
   go_ret
   exact ⟨by rw [hf.out];rfl,hg⟩
set_option maxHeartbeats 2000000 in
theorem refKey_any (s : ByteArray) (w : World) (hs : s.size ≤ 1073741824) :
  Calls Tryz.prog 78 #[.string s] w fun e w'=>e=.returned (.bool (keyB s))∧G w w':=by
 have hall:=all_any s w hs
 have hl:(cks s.data.toList).length≤1073741824:=Nat.le_trans (cks_length_le _) (by simpa using hs)
 go_enter Tryz.func78,Tryz.ntmps78
 go_wp2_with fail
 refine hall.mono ?_
 clear hall
 rintro e w1 ⟨A,c8,rfl,hsl,hg⟩
 replace hsl:=Lib.hid hsl
 go_wp2_with fail
 go_loop [4] (fun i=>∃k:Nat,k≤(cks s.data.toList).length∧i=.int .i64 k∧Hid (∀j c,j < k→(cks s.data.toList)[j]?=some c→c.bad=false∧showB c.r=true)) (fun i=>(cks s.data.toList).length - (intOf i).toNat)
 case atStart=>exact ⟨0,Nat.zero_le _,rfl,by intro j c h;omega⟩
 case round =>
  obtain ⟨k,hk,rfl,hh⟩:=hrel
  by_cases hlt:k < (cks s.data.toList).length
  ·obtain ⟨c,hc⟩:=piece_at hlt
   obtain ⟨b,o,rfl,hb,c0,c1,c2,c3⟩:=hsl.out.ruG (Nat.le_refl _) hc
   replace c0:=c0 _ (G.refl _)
   replace c3:=c3 _ (G.refl _)
   have n1:(0:Int)≤↑k:=by omega
   have n2:(k:Int) < ↑(cks s.data.toList).length:=by omega
   clear c1 c2 hsl
   have hn:Hid (c.bad=true∨showB c.r=false→keyB s=false):=keyB_not hc
   have hy:Hid (c.bad=false→showB c.r=true→∀j c',j < k+1→(cks s.data.toList)[j]?=some c'→c'.bad=false∧showB c'.r=true):=fun h1 h2=>all_more (p:=fun c=>c.bad=false∧showB c.r=true) hh.out hc ⟨h1,h2⟩
   clear hc hh
   generalize c.bad=bd at *
   obtain ⟨cb,r0⟩:=c
   dsimp only at c0 hn hy
   obtain ⟨r,hr⟩:∃r:Int,(r0:Int)=r:=⟨_,rfl⟩
   rw [hr] at c0 hn hy
   clear hr
   have hS:Hid (showB r=(!(decide (r < 32) || decide (r=127)))):=rfl
   by_cases h1:r < 32
   ·cases bd with
    | true =>
     have hf:=hn.out (.inl rfl)
     replace hf:=Lib.hid hf
     go_wp2_with fail
     go_ret
     exact ⟨by rw [hf.out];rfl,hg⟩
    | false =>
     have hf:=hn.out (.inr (by rw [hS.out,decide_eq_true h1];rfl))
     replace hf:=Lib.hid hf
     go_wp2_with fail
     go_ret
     exact ⟨by rw [hf.out];rfl,hg⟩
   ·by_cases h2:r=127
    ·subst h2
     cases bd with
     | true =>
      have hf:=hn.out (.inl rfl)
      replace hf:=Lib.hid hf
      go_wp2_with fail
      go_ret
      exact ⟨by rw [hf.out];rfl,hg⟩
     | false =>
      have hf:=hn.out (.inr (rfl))
      replace hf:=Lib.hid hf
      go_wp2_with fail
      go_ret
      exact ⟨by rw [hf.out];rfl,hg⟩
    ·have b1:(r == 127)=false:=by rw [beq_eq_false_iff_ne];exact h2
     replace h2:=Lib.hid h2
     cases bd with
     | true =>
      have hf:=hn.out (.inl rfl)
      replace hf:=Lib.hid hf
      go_wp2_with fail
      go_ret
      exact ⟨by rw [hf.out];rfl,hg⟩
     | false =>
      have hh2:=hy.out rfl (by rw [hS.out,decide_eq_false h1,decide_eq_false h2.out];rfl)
      replace hh2:=Lib.hid hh2
      go_wp2_with fail
      go_round
      case rel=>exact ⟨k+1,by omega,by go_num,hh2⟩
      case measure=>(simp [intOf] <;> omega)
  ·have hf:keyB s=decide (((cks s.data.toList).length:Int)≤40):=keyB_end fun j c h=>hh.out j c (by have:=(List.getElem?_eq_some_iff.1 h).1;omega) h
   replace hf:=Lib.hid hf
   clear hsl
   go_wp2_with fail
   go_ret
   exact ⟨by rw [hf.out];rfl,hg⟩
end Go.Proofs.YtheogchkelmeeaaGreatDoor

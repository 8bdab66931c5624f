/- event.Check: what it answers. Conditions: lengths of at most 2^30; the decoder's tables lie as the library lays them. -/
import Derived.Test.YtheogchkelmeeaaGreatDoorMayQMsgDecodes
namespace Go.Proofs.YtheogchkelmeeaaGreatDoor
open Go.RowKit
/-! Plain: the sizes, put by put. -/
def sumP (ps:List PutP):Nat:=(ps.map fun p=>sizes p.data).sum
theorem sizes_snoc {l:List ByteArray} {i:Nat} {s:ByteArray} (h:l[i]?=some s):sizes (l.take (i+1))=sizes (l.take i)+s.size:=by
 unfold sizes
 rw [take_snocP h,List.map_append,List.sum_append]
 simp
theorem sizes_take (l:List ByteArray) (i:Nat):sizes (l.take i)≤sizes l:=by
 unfold sizes
 conv=>rhs;rw [←List.take_append_drop i l]
 rw [List.map_append,List.sum_append]
 omega
theorem sumP_snoc {ps:List PutP} {k:Nat} {p:PutP} (h:ps[k]?=some p):sumP (ps.take (k+1))=sumP (ps.take k)+sizes p.data:=by
 unfold sumP
 rw [take_snocP h,List.map_append,List.sum_append]
 simp
theorem sumP_take (ps:List PutP) (k:Nat):sumP (ps.take k)≤sumP ps:=by
 unfold sumP
 conv=>rhs;rw [←List.take_append_drop k ps]
 rw [List.map_append,List.sum_append]
 omega
theorem big_put {ps:List PutP} {p:PutP} (h:p ∈ ps) (hb:putBig p=true):bigB ps=true:=by
 unfold bigB
 rw [List.any_eq_true.2 ⟨p,h,hb⟩]
 simp
theorem big_sum {ps:List PutP} (h:30000 < sumP ps):bigB ps=true:=by
 unfold bigB
 unfold sumP at h
 rw [decide_eq_true h]
 simp
theorem big_no {ps:List PutP} (h1:ps.length≤8) (h2:∀p ∈ ps,putBig p=false) (h3:sumP ps≤30000):bigB ps=false:=by
 unfold bigB
 unfold sumP at h3
 rw [decide_eq_false (by omega),decide_eq_false (by omega)]
 simp only [Bool.false_or,Bool.or_false,List.any_eq_false,Bool.not_eq_true]
 exact h2
theorem putBig_long {p:PutP} {i:Nat} (h:i < p.data.length) (hi:20≤i):putBig p=true:=by
 unfold putBig
 rw [decide_eq_true (by omega)]
 rfl
theorem putBig_wide {p:PutP} {s:ByteArray} (h:s ∈ p.data) (hs:1000 < s.size):putBig p=true:=by
 unfold putBig
 rw [List.any_eq_true.2 ⟨s,h,decide_eq_true hs⟩]
 simp
theorem putBig_no {p:PutP} (h:∀(j:Nat) (s:ByteArray),p.data[j]?=some s→j < 20∧s.size≤1000):putBig p=false:=by
 unfold putBig
 have h1:¬ 20 < p.data.length:=fun hl=>by
  have:=h 20 _ (List.getElem?_eq_getElem (by omega))
  omega
 rw [decide_eq_false h1,Bool.false_or,List.any_eq_false]
 intro s hs
 obtain ⟨j,hj,rfl⟩:=List.getElem_of_mem hs
 have:=(h j _ (List.getElem?_eq_getElem hj)).2
 simp
 omega
/-- How the count stands ahead of put k. -/
structure ChkSt (ps:List PutP) (k:Nat) (bg:Bool) (L:Int):Prop where
 yes:bg=true→bigB ps=true
 len:bg=false→ps.length≤8
 no:bg=false→∀p ∈ ps.take k,putBig p=false
 left:bg=false→L=30000 - (sumP (ps.take k):Int)∧0≤L
/-- .. and within put k, ahead of text i. -/
structure ChkIn (ps:List PutP) (k:Nat) (ds:List ByteArray) (i:Nat) (bg:Bool) (L:Int):Prop where
 yes:bg=true→bigB ps=true
 len:bg=false→ps.length≤8
 no:bg=false→∀p ∈ ps.take k,putBig p=false
 here:bg=false→∀(j:Nat) (s:ByteArray),j < i→ds[j]?=some s→j < 20∧s.size≤1000
 left:bg=false→L=30000 - (sumP (ps.take k):Int) - (sizes (ds.take i):Int)∧0≤L
theorem ChkSt.begin {ps:List PutP} {k:Nat} {bg:Bool} {L:Int} (h:ChkSt ps k bg L) (ds:List ByteArray):ChkIn ps k ds 0 bg L :=
 ⟨h.yes,h.len,h.no,(fun _ j s hj=>by omega),fun hb=>by have:=h.left hb;simp [sizes];omega⟩
theorem ChkIn.done {ps:List PutP} {k:Nat} {p:PutP} {i:Nat} {bg:Bool} {L:Int} (h:ChkIn ps k p.data i bg L) (hp:ps[k]?=some p) (hi:bg=false→p.data.length≤i):ChkSt ps (k+1) bg L :=
 ⟨h.yes,h.len,fun hb q hq=>by
  rw [take_snocP hp] at hq
  rcases List.mem_append.1 hq with h1 | h1
  ·exact h.no hb q h1
  ·rw [List.mem_singleton] at h1
   subst h1
   exact putBig_no fun j s hs=>h.here hb j s (by have:=(List.getElem?_eq_some_iff.1 hs).1;have:=hi hb;omega) hs,fun hb=>by
  have h1:=h.left hb
  rw [List.take_of_length_le (hi hb)] at h1
  rw [sumP_snoc hp]
  omega⟩
/-- One text more: not big yet. -/
theorem ChkIn.step {ps:List PutP} {k:Nat} {ds:List ByteArray} {i:Nat} {L:Int} {s:ByteArray} (h:ChkIn ps k ds i false L) (hs:ds[i]?=some s) (hi:i < 20) (hz:s.size≤1000) (hl:0≤L - s.size):ChkIn ps k ds (i+1) false (L - s.size) :=
 ⟨(fun hb => by cases hb), h.len, h.no, (fun _ j t hj ht => by
   rcases Nat.lt_or_ge j i with h1 | h1
   ·exact h.here rfl j t h1 ht
   ·obtain rfl:j=i:=by omega
    rw [hs] at ht
    cases ht
    exact ⟨hi,hz⟩),fun _=>by
   have h1:=h.left rfl
   rw [sizes_snoc hs]
   omega⟩
/-- One text more, that makes it big. -/
theorem ChkIn.big {ps:List PutP} {k:Nat} {p:PutP} {i:Nat} {L L':Int} {s:ByteArray} (h:ChkIn ps k p.data i false L) (hp:ps[k]?=some p) (hs:p.data[i]?=some s) (hb:20≤i∨1000 < s.size∨L - s.size < 0):ChkIn ps k p.data (i+1) true L' :=
 ⟨(fun _ => by
   have hm:=List.mem_of_getElem? hp
   have hi:=(List.getElem?_eq_some_iff.1 hs).1
   rcases hb with h1 | h1 | h1
   ·exact big_put hm (putBig_long hi h1)
   ·exact big_put hm (putBig_wide (List.mem_of_getElem? hs) h1)
   ·refine big_sum ?_
    have h2:=h.left rfl
    have h3:=sizes_snoc hs
    have h4:=sizes_take p.data (i+1)
    have h5:=sumP_snoc hp
    have h6:=sumP_take ps (k+1)
    omega),(fun h=>by cases h),(fun h=>by cases h),(fun h=>by cases h),fun h=>by cases h⟩
theorem PutsIn.more {w:World} {B B':Nat} {A:Option Addr} {ps:List PutM} (h:PutsIn w B A ps) (hB:B≤B'):PutsIn w B' A ps:=⟨h.1.more hB,fun p hp=>(h.2 p hp).more hB⟩
set_option maxRecDepth 100000 in
set_option maxHeartbeats 4000000 in
theorem check_any (key : ByteArray) (ps : List PutM) (A : Option Addr) (c : Nat) (w : World) (hin : PutsIn w w.heap.size A ps) (hk : key.size ≤ 1073741824) (hsm : PutsSmall ps) (hT : Tabs w) :
  Calls Tryz.prog 89 #[.agg #[.string key,.slice A ps.length c]] w fun e w'=>e=.returned (.int .i64 (chkN key (ps.map PutM.p)))∧G w w':=by
 have hg0:=G.new w (.cells #[.string key,.slice A ps.length c] 31)
 have hma:=may_any key ps A c (w.alloc (.cells #[.string key,.slice A ps.length c] 31)) (PutsIn.more (hin.g (Nat.le_refl _) hg0) hg0.size) hk hsm (hT.g hg0)
 obtain ⟨hs1,hs2⟩:=hsm
 replace hin:=Lib.hid hin
 replace hs2:=Lib.hid hs2
 have hb0:=blk_new w #[.string key,.slice A ps.length c] 31
 replace hb0:=Lib.hid hb0
 replace hg0:=Lib.hid hg0
 clear hT
 cases har:argB key (ps.map PutM.p) with
 | false =>
  have hno:chkN key (ps.map PutM.p)=1:=by unfold chkN;rw [har];rfl
  rw [har] at hma
  rw [hno]
  clear hno har
  go_enter Tryz.func89,Tryz.ntmps89
  go_wp2_with fail
  refine hma.mono ?_
  clear hma
  rintro e w1 ⟨rfl,hg⟩
  replace hg:=hg0.out.trans hg
  go_wp2_with fail
  go_ret
  exact ⟨rfl,hg⟩
 | true =>
  have hno:chkN key (ps.map PutM.p)=if bigB (ps.map PutM.p)=true then 2 else 0:=by unfold chkN;rw [har];rfl
  rw [har] at hma
  replace hno:=Lib.hid hno
  clear har
  go_enter Tryz.func89,Tryz.ntmps89
  go_wp2_with fail
  refine hma.mono ?_
  clear hma
  rintro e w1 ⟨rfl,hg⟩
  have hb1:=hg.blk hb0.out
  replace hg:=hg0.out.trans hg
  have c0:=(blk_cell hb1 0).trans (show _=some (.string key) from rfl)
  have c1:=(blk_cell hb1 1).trans (show _=some (.slice A ps.length c) from rfl)
  clear hb0 hg0
  obtain ⟨bg0,hbg0⟩:∃b,decide (8 < (ps.length:Int))=b:=⟨_,rfl⟩
  have hst0:ChkSt (ps.map PutM.p) 0 bg0 30000:=by
   refine ⟨fun h=>?_,fun h=>?_,fun _ p hp=>by simp at hp,fun _=>by simp [sumP]⟩
   ·rw [h] at hbg0
    have:=of_decide_eq_true hbg0
    unfold bigB
    rw [decide_eq_true (by rw [List.length_map];omega)]
    rfl
   ·rw [h] at hbg0
    have:=of_decide_eq_false hbg0
    rw [List.length_map]
    omega
  replace hst0:=Lib.hid hst0
  replace hb1:=Lib.hid hb1
  go_wp2_with fail
  clear c0 c1 hbg0
  go_loopw [3,4,18] (fun v l i wr=>∃(k:Nat) (bg:Bool) (L:Int),v=.bool bg∧l=.int .i64 L∧i=.int .i64 k∧k≤ps.length∧Hid (ChkSt (ps.map PutM.p) k bg L)∧G w wr) (fun _ _ i _=>ps.length - (intOf i).toNat)
  case atStart=>exact ⟨0,bg0,30000,rfl,rfl,rfl,Nat.zero_le _,hst0,hg⟩
  case round =>
   clear hst0 hg hb1
   obtain ⟨k,bg,L,rfl,rfl,rfl,hkl,hst,hg⟩:=hrel
   by_cases hlt:k < ps.length
   ·obtain ⟨p,hp⟩:∃p,ps[k]?=some p:=⟨_,List.getElem?_eq_getElem hlt⟩
    have hpm:=List.mem_of_getElem? hp
    obtain ⟨z1,zE,z2,z3⟩:=hs2.out p hpm
    have hsl:=(hin.out.g (Nat.le_refl _) hg).1.get hp
    have hdat:=hin.out.2 p hpm
    obtain ⟨pst,pex,pA,pc,pd⟩:=p
    simp only at z1 zE z2 z3 hdat
    obtain ⟨b,o,rfl,hb,hc⟩:=hsl
    have c0:=hc 0 _ rfl
    have c1:=hc 1 _ rfl
    have c2:=hc 2 _ rfl
    simp only [Nat.add_zero] at c0
    have n1:(0:Int)≤(k:Int):=by omega
    have n2:(k:Int) < (ps.length:Int):=by omega
    have hbx:=blk_new wr #[.string pst,.int .i64 pex,.slice pA pd.length pc] 110
    have hgx:=hg.trans (G.new wr (.cells #[.string pst,.int .i64 pex,.slice pA pd.length pc] 110))
    have hin0:=hst.out.begin pd
    replace hin0:=Lib.hid hin0
    replace hp:=Lib.hid (puts_take hp)
    clear hc hst
    go_wp2_with fail
    clear c0 c1 c2
    generalize hwx:wr.alloc (.cells #[.string pst,.int .i64 pex,.slice pA pd.length pc] 110)=wx at *
    have x2:wx.cell? ⟨wr.heap.size,2,none⟩=some (.slice pA pd.length pc):=(blk_cell hbx 2).trans rfl
    have hdx:=(hdat.g (Nat.le_refl _) hgx)
    replace hdx:=Lib.hid hdx
    clear hwx hbx hdat
    go_loop [3,4,7] (fun v l i=>∃(q:Nat) (bg:Bool) (L:Int),v=.bool bg∧l=.int .i64 L∧i=.int .i64 q∧q≤pd.length∧Hid (ChkIn (ps.map PutM.p) k pd q bg L)) (fun _ _ i=>pd.length - (intOf i).toNat)
    case atStart=>exact ⟨0,bg,L,rfl,rfl,rfl,Nat.zero_le _,hin0⟩
    case round =>
     clear hin0
     obtain ⟨q,bg,L,rfl,rfl,rfl,hq,hst⟩:=hrel
     by_cases hql:q < pd.length
     ·cases bg with
      | true =>
       have hdn:ChkSt (ps.map PutM.p) (k+1) true L:=hst.out.done hp.out (fun h=>by cases h)
       replace hdn:=Lib.hid hdn
       go_wp2_with fail
       go_roundw
       case rel=>exact ⟨k+1,true,L,rfl,rfl,by go_num,by omega,hdn,hgx⟩
       case measure=>(simp [intOf] <;> omega)
      | false =>
       obtain ⟨s,hs⟩:∃s,pd[q]?=some s:=⟨_,List.getElem?_eq_getElem hql⟩
       have hzs:=z3 s (List.mem_of_getElem? hs)
       obtain ⟨b2,o2,rfl,_,d0⟩:=hdx.out.str hs
       have hL:=hst.out.left rfl
       have m1:(0:Int)≤(q:Int):=by omega
       have m2:(q:Int) < (pd.length:Int):=by omega
       have m3:-9223372036854775808≤L - s.size:=by omega
       have m4:L - s.size≤9223372036854775807:=by omega
       have hbig:∀L',(20≤q∨1000 < s.size∨L - s.size < 0)→ChkIn (ps.map PutM.p) k pd (q+1) true L':=fun L' h=>ChkIn.big (L':=L') hst.out hp.out hs h
       replace hs:=Lib.hid hs
       replace hbig:=Lib.hid hbig
       by_cases h1:20≤q
       ·have t1:(20:Int)≤(q:Int):=by omega
        have hnx:=hbig.out (L - s.size) (.inl h1)
        replace hnx:=Lib.hid hnx
        clear hst hL h1 hbig
        go_wp2_with fail
        go_round
        case rel=>exact ⟨q+1,true,_,rfl,rfl,by go_num,by omega,hnx⟩
        case measure=>(simp [intOf] <;> omega)
       have t1:¬ (20:Int)≤(q:Int):=by omega
       by_cases h2:1000 < s.size
       ·have t2:(1000:Int) < (s.size:Int):=by omega
        have hnx:=hbig.out (L - s.size) (.inr (.inl h2))
        replace hnx:=Lib.hid hnx
        clear hst hL h1 h2 hbig
        go_wp2_with fail
        go_round
        case rel=>exact ⟨q+1,true,_,rfl,rfl,by go_num,by omega,hnx⟩
        case measure=>(simp [intOf] <;> omega)
       have t2:¬ (1000:Int) < (s.size:Int):=by omega
       by_cases h3:L - s.size < 0
       ·have hnx:=hbig.out (L - s.size) (.inr (.inr h3))
        replace hnx:=Lib.hid hnx
        clear hst hL h1 h2 hbig
        go_wp2_with fail
        go_round
        case rel=>exact ⟨q+1,true,_,rfl,rfl,by go_num,by omega,hnx⟩
        case measure=>(simp [intOf] <;> omega)
       have hnx:=hst.out.step hs.out (by omega) (by omega) (by omega)
       replace hnx:=Lib.hid hnx
       clear hst hL h1 h2 hbig
       go_wp2_with fail
       go_round
       case rel=>exact ⟨q+1,false,_,rfl,rfl,by go_num,by omega,hnx⟩
       case measure=>(simp [intOf] <;> omega)
     ·have hdn:ChkSt (ps.map PutM.p) (k+1) bg L:=hst.out.done hp.out (fun _=>by show pd.length≤q;omega)
      replace hdn:=Lib.hid hdn
      clear hst
      go_wp2_with fail
      go_roundw
      case rel=>exact ⟨k+1,bg,L,rfl,rfl,by go_num,by omega,hdn,hgx⟩
      case measure=>(simp [intOf] <;> omega)
   ·cases bg with
    | true =>
     have hbb:=hst.out.yes rfl
     clear hst
     replace hbb:=Lib.hid hbb
     go_wp2_with fail
     go_ret
     exact ⟨by rw [hno.out,hbb.out];rfl,hg⟩
    | false =>
     have hbb:bigB (ps.map PutM.p)=false:=by
      have h1:(ps.map PutM.p).take k=ps.map PutM.p:=List.take_of_length_le (by rw [List.length_map];omega)
      have h2:=hst.out.no rfl
      have h3:=hst.out.left rfl
      rw [h1] at h2 h3
      exact big_no (hst.out.len rfl) h2 (by omega)
     clear hst
     replace hbb:=Lib.hid hbb
     go_wp2_with fail
     go_ret
     exact ⟨by rw [hno.out,hbb.out];rfl,hg⟩
end Go.Proofs.YtheogchkelmeeaaGreatDoor

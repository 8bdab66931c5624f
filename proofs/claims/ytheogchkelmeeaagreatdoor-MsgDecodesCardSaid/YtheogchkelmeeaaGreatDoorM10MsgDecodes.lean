/- Several texts in one: StEnc, OwnSet, AllLaw. -/
import Derived.Test.YtheogchkelmeeaaGreatDoorM9MsgDecodes
import Derived.Test.YtheogchkelmeeaaGreatDoorM5MsgDecodes
import Derived.Test.YtheogchkelmeeaaGreatDoorM2MsgDecodes
import Derived.Test.YtheogchkelmeeaaGreatDoorM1MsgDecodes
/- stamp.Encode, penstockref7.Encode: what they answer. No condition. -/
namespace Go.Proofs.YtheogchkelmeeaaGreatDoor
open Go.RowKit
/-- What Encode answers. -/
def stE (s:St):List UInt8:=if stOk s=true then stL s else []
theorem stE_ok {s:St} (h:stOk s=true):stE s=stL s:=if_pos h
theorem stE_no {s:St} (h:stOk s=false):stE s=[]:=if_neg (by rw [h];simp)
theorem stL_len (s:St):(stL s).length≤30:=by
 unfold stL
 rw [List.length_append,List.length_append]
 have:=vL_len s.wall.toNat
 have:=vL_len s.logic.toNat
 have:=vL_len s.node.toNat
 omega
theorem stE_len (s:St):(stE s).length≤30:=by
 unfold stE
 split
 ·exact stL_len s
 ·simp
set_option maxRecDepth 100000 in
set_option maxHeartbeats 1000000 in
theorem stEnc_any (s:St) (w:World):Calls Tryz.prog 93 #[stV s.wall s.logic s.node] w (RetBytes w (stE s)):=by
 have hs:=fun w'=>sound_any s.wall s.logic s.node w'
 cases hok:stOk s with
 | false =>
  rw [stE_no hok]
  unfold stOk at hok
  rw [hok] at hs
  obtain ⟨a,b,c⟩:=s
  unfold stV at *
  clear hok
  go_enter Tryz.func93,Tryz.ntmps93
  go_wp2_with fail
  refine (hs _).mono ?_
  clear hs
  rintro e w1 ⟨rfl,hg⟩
  go_wp2_with fail
  go_ret
  exact ⟨none,0,rfl,OwnL.nil,(G.new _ _).trans hg⟩
 | true =>
  rw [stE_ok hok]
  have hb:=(stOk_iff s).1 hok
  unfold stOk at hok
  rw [hok] at hs
  clear hok
  obtain ⟨a,b,c⟩:=s
  simp only at hb hs
  obtain ⟨a,rfl⟩:∃n:Nat,a=n:=⟨a.toNat,by omega⟩
  obtain ⟨b,rfl⟩:∃n:Nat,b=n:=⟨b.toNat,by omega⟩
  obtain ⟨c,rfl⟩:∃n:Nat,c=n:=⟨c.toNat,by omega⟩
  have hL:stL ⟨(a:Int),(b:Int),(c:Int)⟩=vL a++(vL b++vL c):=rfl
  rw [hL]
  clear hL
  have hv:∀(n:Nat) (w':World),n < 2 ^ 64→Calls Tryz.prog 94 #[.int .u64 n] w' (RetBytes w' (vL n)):=fun n w' h=>varint_any n w' h
  replace hv:=Lib.hid hv
  unfold stV at *
  have i0:∀w,(Instr.index 168 (.agg #[.int .i64 a,.int .i64 b,.int .i64 c]) (.int .i64 0)).run Tryz.prog w=.ok (.int .i64 a) w:=fun _=>by kernel_rfl
  have i1:∀w,(Instr.index 168 (.agg #[.int .i64 a,.int .i64 b,.int .i64 c]) (.int .i64 1)).run Tryz.prog w=.ok (.int .i64 b) w:=fun _=>by kernel_rfl
  have i2:∀w,(Instr.index 168 (.agg #[.int .i64 a,.int .i64 b,.int .i64 c]) (.int .i64 2)).run Tryz.prog w=.ok (.int .i64 c) w:=fun _=>by kernel_rfl
  go_enter Tryz.func93,Tryz.ntmps93
  go_wp2_with fail
  refine (hs _).mono ?_
  clear hs
  rintro e w1 ⟨rfl,hg1⟩
  have hg:G w w1:=(G.new _ _).trans hg1
  have c0:=(hg1.cell (b:=w.heap.size) (o:=0) (by simp)).trans (show _=some (.int .i64 a) by rw [blk_cell (blk_new _ _ _)];rfl)
  have c1:=(hg1.cell (b:=w.heap.size) (o:=1) (by simp)).trans (show _=some (.int .i64 b) by rw [blk_cell (blk_new _ _ _)];rfl)
  have c2:=(hg1.cell (b:=w.heap.size) (o:=2) (by simp)).trans (show _=some (.int .i64 c) by rw [blk_cell (blk_new _ _ _)];rfl)
  clear hg1
  go_wp2_with fail
  clear c0 c1 c2
  go_loopw [2,15] (fun v i wr=>∃(k:Nat) (m:List UInt8) (A8:Option Addr) (c8:Nat),v=.slice A8 m.length c8∧i=.int .i64 k∧k≤3∧m.length≤k * 10∧Hid (m=([vL a,vL b,vL c].take k).flatten)∧Hid (OwnL 5 1 byteC wr w.heap.size (.slice A8 m.length c8) m)∧G w wr) (fun _ i _=>3 - (intOf i).toNat)
  case atStart=>exact ⟨0,[],none,0,rfl,rfl,by omega,by simp,rfl,OwnL.nil,hg⟩
  case round =>
   clear hg
   obtain ⟨k,m,A8,c8,rfl,rfl,hk,hml,hm,hown,hg⟩:=hrel
   have hk4:k=0∨k=1∨k=2∨k=3:=by omega
   rcases hk4 with rfl | rfl | rfl | rfl
   ·have hv1:=hv.out a wr (by omega)
    have hvl:=vL_len a
    obtain ⟨m2,hm2⟩:∃m2,m++vL a=m2:=⟨_,rfl⟩
    have hm2l:m2.length=m.length+(vL a).length:=by rw [←hm2,List.length_append]
    replace hm2:=Lib.hid hm2
    replace hm2l:=Lib.hid hm2l
    have hw:IntKind.u64.wrap (a:Int)=(a:Int):=by rw [IntKind.wrap_u64];omega
    go_wp2_with fail
    refine hv1.mono ?_
    clear hv1
    rintro e w1 ⟨A2,c2,rfl,hown2,hg2⟩
    have hsl2:=OwnL.self byteC_len hown2
    have hown3:=hown.out.g hg2
    have hz2:=hg2.size
    have hA2:A2=none→vL a=[]:=fun h=>(h ▸ hsl2).of_none
    replace hown3:=Lib.hid hown3
    have hg3:=hg.trans hg2
    have hz3:=hg3.size
    clear hown2 hown hg2
    go_wp2_with (at_builtin;refine wpList_append_but byte_elem _ rfl (.tmp 18) (.tmp 21) rfl w.heap.size _ m rfl hown3.out w1.heap.size A2 c2 (vL a) rfl hA2 hsl2 (by omega) (by omega) (by omega) ?_;intro v3 w3 hown4 hkeep3 hbut;clear hbut hA2 hsl2 hown3;rw [hm2.out] at hown4;obtain ⟨A3,c3,e3,_,_,_⟩:=OwnL.sl byteC_len hown4;subst e3;replace hown4:=Lib.hid hown4;replace hkeep3:=hkeep3.g hg3)
    go_roundw
    case rel=>exact ⟨0+1,m2,A3,c3,rfl,by rfl,by omega,by have:=hm2l.out;omega,by unfold Hid;rw [←hm2.out,hm.out];simp,hown4,hkeep3⟩
    case measure=>(simp [intOf] <;> omega)
   ·have hv1:=hv.out b wr (by omega)
    have hvl:=vL_len b
    obtain ⟨m2,hm2⟩:∃m2,m++vL b=m2:=⟨_,rfl⟩
    have hm2l:m2.length=m.length+(vL b).length:=by rw [←hm2,List.length_append]
    replace hm2:=Lib.hid hm2
    replace hm2l:=Lib.hid hm2l
    have hw:IntKind.u64.wrap (b:Int)=(b:Int):=by rw [IntKind.wrap_u64];omega
    go_wp2_with fail
    refine hv1.mono ?_
    clear hv1
    rintro e w1 ⟨A2,c2,rfl,hown2,hg2⟩
    have hsl2:=OwnL.self byteC_len hown2
    have hown3:=hown.out.g hg2
    have hz2:=hg2.size
    have hA2:A2=none→vL b=[]:=fun h=>(h ▸ hsl2).of_none
    replace hown3:=Lib.hid hown3
    have hg3:=hg.trans hg2
    have hz3:=hg3.size
    clear hown2 hown hg2
    go_wp2_with (at_builtin;refine wpList_append_but byte_elem _ rfl (.tmp 18) (.tmp 21) rfl w.heap.size _ m rfl hown3.out w1.heap.size A2 c2 (vL b) rfl hA2 hsl2 (by omega) (by omega) (by omega) ?_;intro v3 w3 hown4 hkeep3 hbut;clear hbut hA2 hsl2 hown3;rw [hm2.out] at hown4;obtain ⟨A3,c3,e3,_,_,_⟩:=OwnL.sl byteC_len hown4;subst e3;replace hown4:=Lib.hid hown4;replace hkeep3:=hkeep3.g hg3)
    go_roundw
    case rel=>exact ⟨1+1,m2,A3,c3,rfl,by rfl,by omega,by have:=hm2l.out;omega,by unfold Hid;rw [←hm2.out,hm.out];simp,hown4,hkeep3⟩
    case measure=>(simp [intOf] <;> omega)
   ·have hv1:=hv.out c wr (by omega)
    have hvl:=vL_len c
    obtain ⟨m2,hm2⟩:∃m2,m++vL c=m2:=⟨_,rfl⟩
    have hm2l:m2.length=m.length+(vL c).length:=by rw [←hm2,List.length_append]
    replace hm2:=Lib.hid hm2
    replace hm2l:=Lib.hid hm2l
    have hw:IntKind.u64.wrap (c:Int)=(c:Int):=by rw [IntKind.wrap_u64];omega
    go_wp2_with fail
    refine hv1.mono ?_
    clear hv1
    rintro e w1 ⟨A2,c2,rfl,hown2,hg2⟩
    have hsl2:=OwnL.self byteC_len hown2
    have hown3:=hown.out.g hg2
    have hz2:=hg2.size
    have hA2:A2=none→vL c=[]:=fun h=>(h ▸ hsl2).of_none
    replace hown3:=Lib.hid hown3
    have hg3:=hg.trans hg2
    have hz3:=hg3.size
    clear hown2 hown hg2
    go_wp2_with (at_builtin;refine wpList_append_but byte_elem _ rfl (.tmp 18) (.tmp 21) rfl w.heap.size _ m rfl hown3.out w1.heap.size A2 c2 (vL c) rfl hA2 hsl2 (by omega) (by omega) (by omega) ?_;intro v3 w3 hown4 hkeep3 hbut;clear hbut hA2 hsl2 hown3;rw [hm2.out] at hown4;obtain ⟨A3,c3,e3,_,_,_⟩:=OwnL.sl byteC_len hown4;subst e3;replace hown4:=Lib.hid hown4;replace hkeep3:=hkeep3.g hg3)
    go_roundw
    case rel=>exact ⟨2+1,m2,A3,c3,rfl,by rfl,by omega,by have:=hm2l.out;omega,by unfold Hid;rw [←hm2.out,hm.out];simp,hown4,hkeep3⟩
    case measure=>(simp [intOf] <;> omega)
   ·have he:vL a++(vL b++vL c)=m:=by rw [hm.out];simp
    replace he:=Lib.hid he
    go_wp2_with fail
    go_ret
    rw [he.out]
    exact ⟨A8,c8,rfl,hown.out,hg⟩
theorem num7_own {v0 : Value} {l m : List UInt8} {base n : Nat} {w : World} (hown : OwnL 5 1 byteC w base v0 l) (hbase : base ≤ w.heap.size) (hl : l.length ≤ 1099511627776) (hn : n ≤ 4611686018427387904) (hm : Hid (l ++ vL n = m)) :
  Calls Tryz.prog 84 #[v0,.int .i64 n] w (GrownBytes w base m):=hm.out ▸ num7_any v0 l base n w hown hbase hl n rfl hn
set_option maxRecDepth 100000 in
set_option maxHeartbeats 1000000 in
theorem refStEnc_any (s:St) (w:World):Calls Tryz.prog 51 #[stV s.wall s.logic s.node] w (RetBytes w (stE s)):=by
 have hs:=fun w'=>refSound_any s.wall s.logic s.node w'
 cases hok:stOk s with
 | false =>
  rw [stE_no hok]
  unfold stOk at hok
  rw [hok] at hs
  obtain ⟨a,b,c⟩:=s
  unfold stV at *
  clear hok
  go_enter Tryz.func51,Tryz.ntmps51
  go_wp2_with fail
  refine (hs _).mono ?_
  clear hs
  rintro e w1 ⟨rfl,hg⟩
  go_wp2_with fail
  go_ret
  exact ⟨none,0,rfl,OwnL.nil,(G.new _ _).trans hg⟩
 | true =>
  rw [stE_ok hok]
  have hb:=(stOk_iff s).1 hok
  unfold stOk at hok
  rw [hok] at hs
  clear hok
  obtain ⟨a,b,c⟩:=s
  simp only at hb hs
  obtain ⟨a,rfl⟩:∃n:Nat,a=n:=⟨a.toNat,by omega⟩
  obtain ⟨b,rfl⟩:∃n:Nat,b=n:=⟨b.toNat,by omega⟩
  obtain ⟨c,rfl⟩:∃n:Nat,c=n:=⟨c.toNat,by omega⟩
  have hL:stL ⟨(a:Int),(b:Int),(c:Int)⟩=vL a++vL b++vL c:=by rw [List.append_assoc];rfl
  obtain ⟨m1,hm1⟩:∃m,vL a=m:=⟨_,rfl⟩
  obtain ⟨m2,hm2⟩:∃m,m1++vL b=m:=⟨_,rfl⟩
  obtain ⟨m3,hm3⟩:∃m,m2++vL c=m:=⟨_,rfl⟩
  rw [hL,hm1,hm2,hm3]
  have l1:m1.length≤10:=by rw [←hm1];exact vL_len a
  have l2:m2.length≤20:=by rw [←hm2,List.length_append];have:=vL_len b;omega
  have h1:Hid ([]++vL a=m1):=hm1
  replace hm1:=Lib.hid hm1
  replace hm2:=Lib.hid hm2
  replace hm3:=Lib.hid hm3
  clear hL
  unfold stV at *
  go_enter Tryz.func51,Tryz.ntmps51
  go_wp2_with fail
  refine (hs _).mono ?_
  clear hs
  rintro e w1 ⟨rfl,hg1⟩
  have hg:G w w1:=(G.new _ _).trans hg1
  have hlt:w.heap.size < w1.heap.size:=by have:=hg1.size;simp at this;omega
  have c0:∀w',G w1 w'→w'.cell? ⟨w.heap.size,0,none⟩=some (.int .i64 a):=fun w' h=>((hg1.trans h).cell (by simp)).trans (by rw [blk_cell (blk_new _ _ _)];rfl)
  have c1:∀w',G w1 w'→w'.cell? ⟨w.heap.size,1,none⟩=some (.int .i64 b):=fun w' h=>((hg1.trans h).cell (by simp)).trans (by rw [blk_cell (blk_new _ _ _)];rfl)
  have c2:∀w',G w1 w'→w'.cell? ⟨w.heap.size,2,none⟩=some (.int .i64 c):=fun w' h=>((hg1.trans h).cell (by simp)).trans (by rw [blk_cell (blk_new _ _ _)];rfl)
  replace hg:=Lib.hid hg
  clear hg1
  go_wp2_with fail
  go_region_held3 (fun w'=>G w1 w') (first | exact (G.refl _).drew | exact hk1 | exact hk2 | exact hk3 | fail) (first
   | (go_at_call 84;(with_reducible refine (num7_own (base:=w1.heap.size) OwnL.nil (by simp) (by simp) (by omega) h1).mono ?_);rintro e u1 ⟨A1,d1,rfl,hown1,hk1⟩;replace hk1:=KeepT.g hk1 (G.refl w1).drew;have hu1:=hk1.size;replace hown1:=Lib.hid hown1)
   | (go_at_call 84;(with_reducible refine (num7_own (base:=w1.heap.size) hown1.out hu1 (by omega) (by omega) hm2).mono ?_);rintro e u2 ⟨A2,d2,rfl,hown2,hk2⟩;replace hk2:=KeepT.g hk2 hk1;have hu2:=hk2.size;replace hown2:=Lib.hid hown2)
   | (go_at_call 84;(with_reducible refine (num7_own (base:=w1.heap.size) hown2.out hu2 (by omega) (by omega) hm3).mono ?_);rintro e u3 ⟨A3,d3,rfl,hown3,hk3⟩;replace hk3:=KeepT.g hk3 hk2;replace hown3:=Lib.hid hown3))
  all_goals
   go_wp2_with fail
   go_ret
   exact ⟨A3,d3,rfl,OwnL.mono hown3.out hg.out.size,hg.out.trans hk3⟩
end Go.Proofs.YtheogchkelmeeaaGreatDoor
/- A store into a row of the call's own. No condition. -/
namespace Go.Proofs.YtheogchkelmeeaaGreatDoor
open Go.RowKit
section
variable {α : Type} {e : TypeId} {sz : Nat} {f : α → List Value} {w w' : World} {base : Nat} {xs : List α}
theorem flat_set (hf:∀x,(f x).length=sz) {j:Nat} (hj:j < sz) {u:Value} {y:α}:∀(xs:List α) (k:Nat) (x:α),xs[k]?=some x→f y=(f x).set j u→(xs.flatMap f).set (k * sz+j) u=(xs.set k y).flatMap f
 | [],k,x,h,_=>by simp at h
 | a::xs,0,x,h,hy=>by
  simp only [List.getElem?_cons_zero,Option.some.injEq] at h
  subst h
  rw [List.set_cons_zero,List.flatMap_cons,List.flatMap_cons,hy,Nat.zero_mul,Nat.zero_add,List.set_append_left _ _ (by rw [hf];exact hj)]
 | a::xs,k+1,x,h,hy=>by
  rw [List.getElem?_cons_succ] at h
  have hm:(k+1) * sz+j=sz+(k * sz+j):=by rw [Nat.succ_mul];omega
  rw [List.set_cons_succ,List.flatMap_cons,List.flatMap_cons,List.set_append_right _ _ (by rw [hf,hm];omega),hf,hm,Nat.add_sub_cancel_left,flat_set hf hj xs k x h hy]
theorem OwnL.put (hf : ∀ x, (f x).length = sz) {g c : Nat} (h : OwnL e sz f w base (.slice (some ⟨g, 0, none⟩) xs.length c) xs) {k j : Nat} {x y : α} {u : Value} (hx : xs[k]? = some x) (hj : j < sz) (hy : f y = (f x).set j u) :
  OwnL e sz f (w.setCell ⟨g,k * sz+j,none⟩ u) base (.slice (some ⟨g,0,none⟩) xs.length c) (xs.set k y):=by
 have hl:(xs.set k y).length=xs.length:=by simp
 have hfs:=flat_set hf hj xs k x hx hy
 refine ⟨by rw [flat_length hf],?_⟩
 rcases h.2 with ⟨h1,_⟩ | ⟨b,cap,cur,hv,hb,hh,hn,hc,hsz,hr⟩
 ·cases h1
 ·cases hv
  have e1:(w.setCell ⟨g,k * sz+j,none⟩ u).heap[g]?=some (.cells (cur.setIfInBounds (k * sz+j) u) e (0,0)):=by
   rw [setCell_eq_setRow w g (k * sz+j) cur e (0,0) u hh]
   exact setRow_heap w g cur _ e _ hh
  refine .inr ⟨g,c,_,by rw [hl],hb,e1,by rw [hl];exact hn,hc,by simpa using hsz,?_⟩
  rw [Array.toList_setIfInBounds,hl,List.take_set,hr,hfs]
end
end Go.Proofs.YtheogchkelmeeaaGreatDoor
/- What penstockref1.All lists: the runes of a text. No condition. -/
namespace Go.Proofs.YtheogchkelmeeaaGreatDoor
open Go.RowKit
/-- One of a text's runes. -/
structure Ru where
 r:Nat
 beg:Nat
 en:Nat
 no:Bool
def Ru.cells (x:Ru):List Value:=[.int .i32 x.r,.int .i64 x.beg,.int .i64 x.en,.bool x.no]
theorem Ru.cells_len (x:Ru):x.cells.length=4:=rfl
theorem ru_elem:IsElem Tryz.prog 169 172 4 32 Ru.cells :=
 isElem_of (z:=.agg #[.int .i32 0,.int .i64 0,.int .i64 0,.bool false]) Tryz.underlying169 (by kernel_rfl) rfl (by omega) (fun _=>rfl) (fun x u hu=>by
  simp only [Ru.cells,List.mem_cons,List.not_mem_nil,or_false] at hu
  rcases hu with rfl | rfl | rfl | rfl <;> rfl)
def rAt (l:List UInt8) (i:Nat):Nat:=((cks l)[i]?.map Ck.r).getD 0
def badAt (l:List UInt8) (i:Nat):Bool:=((cks l)[i]?.map Ck.bad).getD false
theorem rAt_eq {l:List UInt8} {k:Nat} {c:Ck} (h:(cks l)[k]?=some c):rAt l k=c.r:=by simp [rAt,h]
theorem badAt_eq {l:List UInt8} {k:Nat} {c:Ck} (h:(cks l)[k]?=some c):badAt l k=c.bad:=by simp [badAt,h]
/-- The runes ahead of the k-th, whose ends are known. -/
def baseL (l:List UInt8) (k:Nat):List Ru:=(List.range k).map fun i=>⟨rAt l i,off l i,off l (i+1),false⟩
/-- All's list behind k runes. -/
def preL (l:List UInt8):Nat→List Ru
 | 0=>[]
 | k+1=>baseL l k++[⟨rAt l k,off l k,l.length,false⟩]
/-- All's list, with j runes told whether they begin nothing. -/
def allL (l:List UInt8) (j:Nat):List Ru:=(List.range (cks l).length).map fun i=>⟨rAt l i,off l i,off l (i+1),if i < j then badAt l i else false⟩
theorem baseL_len (l:List UInt8) (k:Nat):(baseL l k).length=k:=by simp [baseL]
theorem preL_len (l:List UInt8):∀k,(preL l k).length=k
 | 0=>rfl
 | k+1=>by rw [preL,List.length_append,baseL_len];rfl
theorem allL_len (l:List UInt8) (j:Nat):(allL l j).length=(cks l).length:=by simp [allL]
theorem baseL_succ (l:List UInt8) (k:Nat):baseL l (k+1)=baseL l k++[⟨rAt l k,off l k,off l (k+1),false⟩]:=by
 unfold baseL
 rw [List.range_succ,List.map_append]
 rfl
theorem preL_last (l:List UInt8) (k:Nat):(preL l (k+1))[k]?=some ⟨rAt l k,off l k,l.length,false⟩:=by
 rw [preL,List.getElem?_append_right (by rw [baseL_len];omega),baseL_len,Nat.sub_self]
 rfl
theorem preL_put (l:List UInt8) (k:Nat):(preL l (k+1)).set k ⟨rAt l k,off l k,off l (k+1),false⟩++[⟨rAt l (k+1),off l (k+1),l.length,false⟩]=preL l (k+2):=by
 rw [preL,preL,baseL_succ,List.set_append_right _ _ (by rw [baseL_len];omega),baseL_len,Nat.sub_self]
 rfl
theorem preL_all (l:List UInt8):preL l (cks l).length=allL l 0:=by
 have h0:allL l 0=baseL l (cks l).length:=by
  unfold allL baseL
  refine List.map_congr_left fun i _=>?_
  rw [if_neg (by omega)]
 rw [h0]
 rcases hn:(cks l).length with _ | n
 ·rfl
 ·rw [preL,baseL_succ,←hn,off_end]
theorem allL_get (l:List UInt8) (j i:Nat) (h:i < (cks l).length):(allL l j)[i]?=some ⟨rAt l i,off l i,off l (i+1),if i < j then badAt l i else false⟩:=by
 unfold allL
 rw [List.getElem?_map,List.getElem?_range h]
 rfl
theorem allL_put (l:List UInt8) (j:Nat) (h:j < (cks l).length):(allL l j).set j ⟨rAt l j,off l j,off l (j+1),badAt l j⟩=allL l (j+1):=by
 refine List.ext_getElem? fun i=>?_
 rw [List.getElem?_set,allL_len]
 by_cases hi:j=i
 ·subst hi
  rw [if_pos rfl,if_pos h,allL_get _ _ _ h,if_pos (by omega)]
 ·rw [if_neg hi]
  rcases Nat.lt_or_ge i (cks l).length with h1 | h1
  ·rw [allL_get _ _ _ h1,allL_get _ _ _ h1]
   by_cases h2:i < j
   ·rw [if_pos h2,if_pos (by omega)]
   ·rw [if_neg h2,if_neg (by omega)]
  ·rw [List.getElem?_eq_none (by rw [allL_len];exact h1),List.getElem?_eq_none (by rw [allL_len];exact h1)]
end Go.Proofs.YtheogchkelmeeaaGreatDoor

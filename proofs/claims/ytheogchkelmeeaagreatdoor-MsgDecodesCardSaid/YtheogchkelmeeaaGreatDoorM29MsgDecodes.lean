/- Several texts in one: BrS, MsgRd, Wr, RecLaw, RecCodeLaw. -/
import Derived.Test.YtheogchkelmeeaaGreatDoorM6MsgDecodes
import Derived.Test.YtheogchkelmeeaaGreatDoorM20MsgDecodes
import Derived.Test.YtheogchkelmeeaaGreatDoorM5MsgDecodes
import Derived.Test.YtheogchkelmeeaaGreatDoorM9MsgDecodes
import Derived.Test.YtheogchkelmeeaaGreatDoorM15MsgDecodes
import Derived.Test.YtheogchkelmeeaaGreatDoorM10MsgDecodes
/- A reader of bytes behind a pointer, as rec and msg have it: the bytes that are left, and whether it is bad. No condition. -/
namespace Go.Proofs.YtheogchkelmeeaaGreatDoor
open Go.RowKit
/-- The reader at block R (its bytes lie below block D, at most L of them): none: it is bad; some l: l is left. -/
def BrS (T:TypeId) (R D L:Nat) (st:Option (List UInt8)) (w:World):Prop :=
 ∃A l c,w.heap[R]?=some (.cells #[.slice A l.length c,.bool st.isNone] T (0,0))∧Sl byteC 1 w D A l∧D≤R∧l.length≤c∧l.length≤L∧∀l',st=some l'→l'=l
section
variable {T : TypeId} {R D L : Nat} {st : Option (List UInt8)} {w w' : World}
theorem BrS.lt (h:BrS T R D L st w):R < w.heap.size:=by
 obtain ⟨_,_,_,h1,_⟩:=h
 exact blk_lt h1
theorem BrS.le (h:BrS T R D L st w):D≤R:=by
 obtain ⟨_,_,_,_,_,h1,_⟩:=h
 exact h1
theorem BrS.len {l:List UInt8} (h:BrS T R D L (some l) w):l.length≤L:=by
 obtain ⟨_,l',_,_,_,_,_,h1,h2⟩:=h
 rw [h2 l rfl]
 exact h1
theorem BrS.but {S:Nat→Prop} (h:BrS T R D L st w) (hb:But S w w') (hS:∀k,S k→D≤k∧k≠R):BrS T R D L st w':=by
 have hlt:=h.lt
 obtain ⟨A,l,c,h1,h2,h3,h4⟩:=h
 refine ⟨A,l,c,hb.blk h1 fun hk=>(hS R hk).2 rfl,h2.keep fun b o hbD=>hb.cell (by omega) fun hk=>?_,h3,h4⟩
 have:=(hS b hk).1
 omega
theorem BrS.g (h:BrS T R D L st w) (hg:G w w'):BrS T R D L st w':=h.but (But.of_g (S:=fun _=>False) hg) fun _ hk=>hk.elim
theorem BrS.blk (h:BrS T R D L st w):∃cs,w.heap[R]?=some (.cells cs T (0,0)):=by
 obtain ⟨_,_,_,h1,_⟩:=h
 exact ⟨_,h1⟩
theorem BrS.c1 (h:BrS T R D L st w):w.cell? ⟨R,1,none⟩=some (.bool st.isNone):=by
 obtain ⟨_,_,_,h1,_⟩:=h
 exact (blk_cell h1 1).trans rfl
theorem BrS.free (h:BrS T R D L st w) (o:Nat):w.frozen? ⟨R,o,none⟩=false:=by
 obtain ⟨_,_,_,h1,_⟩:=h
 simp [World.frozen?,h1]
theorem BrS.setR (h:BrS T R D L st w) (o:Nat) (u:Value) {B:Nat} {A:Option Addr} {l:List UInt8} (hs:Sl byteC 1 w B A l) (hB:B≤R):Sl byteC 1 (w.setCell ⟨R,o,none⟩ u) B A l :=
 hs.keep fun b o' hb=>(but_set w R o u).cell (by have:=h.lt;omega) (by omega)
/-- The flag is laid. -/
theorem BrS.flag (h:BrS T R D L st w) (b:Bool) (hb:b=false→st.isNone=false):BrS T R D L (if b=true then none else st) (w.setCell ⟨R,1,none⟩ (.bool b)):=by
 have hh:=h
 obtain ⟨A,l,c,h1,h2,h3,h4,h5,h6⟩:=h
 refine ⟨A,l,c,?_,hh.setR _ _ h2 h3,h3,h4,h5,fun l' e=>?_⟩
 ·rw [blk_put h1]
  cases b
  ·rw [if_neg (by simp),hb rfl]
   rfl
  ·rfl
 ·cases b
  ·exact h6 l' (by simpa using e)
  ·simp at e
theorem BrS.bad (h:BrS T R D L st w):BrS T R D L none (w.setCell ⟨R,1,none⟩ (.bool true)):=h.flag true (by simp)
theorem BrS.stay {l:List UInt8} (h:BrS T R D L (some l) w):BrS T R D L (some l) (w.setCell ⟨R,1,none⟩ (.bool false)):=h.flag false (by simp)
theorem BrS.row {l:List UInt8} (h:BrS T R D L (some l) w):∃A c,w.heap[R]?=some (.cells #[.slice A l.length c,.bool false] T (0,0))∧Sl byteC 1 w D A l∧l.length≤c:=by
 obtain ⟨A,l',c,h1,h2,_,h4,_,h6⟩:=h
 obtain rfl:=h6 l rfl
 exact ⟨A,c,h1,h2,h4⟩
/-- The bytes, be it bad or not. -/
theorem BrS.any (h:BrS T R D L st w):∃A l c,w.heap[R]?=some (.cells #[.slice A l.length c,.bool st.isNone] T (0,0))∧Sl byteC 1 w D A l∧l.length≤c∧l.length≤L∧(∀l',st=some l'→l'=l):=by
 obtain ⟨A,l,c,h1,h2,_,h4,h5,h6⟩:=h
 exact ⟨A,l,c,h1,h2,h4,h5,h6⟩
/-- Other bytes are laid, a piece of the first. -/
theorem BrS.put {A A':Option Addr} {l l':List UInt8} {c c':Nat} (h:BrS T R D L (some l) w) (h1:w.heap[R]?=some (.cells #[.slice A l.length c,.bool false] T (0,0))) (h2:Sl byteC 1 w D A' l') (h3:l'.length≤c') (h4:l'.length≤L):BrS T R D L (some l') (w.setCell ⟨R,0,none⟩ (.slice A' l'.length c')) :=
 ⟨A',l',c',by rw [blk_put h1];rfl,h.setR _ _ h2 h.le,h.le,h3,h4,fun _ e=>by cases e;rfl⟩
end
/-- What a reader's call answers. -/
def BrPost (T:TypeId) (R D L:Nat) (w:World) (v:Value) (st:Option (List UInt8)) (e:Ending) (w':World):Prop :=
 e=.returned v∧BrS T R D L st w'∧But (fun k=>k=R) w w'
end Go.Proofs.YtheogchkelmeeaaGreatDoor
/- msg.reader's took and num: what they answer. Condition: as many bytes as an int bears. -/
namespace Go.Proofs.YtheogchkelmeeaaGreatDoor
open Go.RowKit
set_option maxRecDepth 100000 in
set_option maxHeartbeats 1000000 in
theorem msgTook_bad (R D L : Nat) (st : Option (List UInt8)) (n : Nat) (w : World) (h : BrS 59 R D L st w) (hn : st = none ∨ n = 0) :
  Calls Tryz.prog 71 #[.pointer (some ⟨R,0,none⟩),.int .i64 n] w (BrPost 59 R D L w (.bool false) none):=by
 have hf:=h.free 1
 have c1:=h.c1
 have h2:=h.bad
 have d1:=h2.c1
 have hbut:=but_set w R 1 (.bool true)
 simp only [Option.isNone_none] at d1
 cases st with
 | none =>
  simp only [Option.isNone_none] at c1
  replace h2:=Lib.hid h2
  replace hbut:=Lib.hid hbut
  clear h hn
  go_enter Tryz.func71,Tryz.ntmps71
  go_wp2_with fail
  go_ret
  exact ⟨rfl,h2.out,hbut.out⟩
 | some l =>
  simp only [Option.isNone_some] at c1
  have t1:((n:Int) == 0)=true:=by
   rcases hn with hn | hn
   ·cases hn
   ·rw [hn];rfl
  replace h2:=Lib.hid h2
  replace hbut:=Lib.hid hbut
  clear h hn
  go_enter Tryz.func71,Tryz.ntmps71
  go_wp2_with fail
  go_ret
  exact ⟨rfl,h2.out,hbut.out⟩
set_option maxRecDepth 100000 in
set_option maxHeartbeats 1000000 in
theorem msgTook_ok (R D L : Nat) (l : List UInt8) (n : Nat) (w : World) (h : BrS 59 R D L (some l) w) (hn : 0 < n) (hl : n ≤ l.length) (_hL : L ≤ 1073741824) :
  Calls Tryz.prog 71 #[.pointer (some ⟨R,0,none⟩),.int .i64 n] w (BrPost 59 R D L w (.bool true) (some (l.drop n))):=by
 have hf:=h.free 1
 have c1:=h.c1
 have hlen:=h.len
 simp only [Option.isNone_some] at c1
 have h2:=h.stay
 have f0:=h2.free 0
 obtain ⟨A,c,g1,g2,g3⟩:=h2.row
 have d0:=(blk_cell g1 0).trans (show _=some (.slice A l.length c) from rfl)
 have d1:=(blk_cell g1 1).trans (show _=some (.bool false) from rfl)
 obtain ⟨A',hrun,hsl⟩:=run_tail l A c n hl g3
 have h3:=h2.put g1 (hsl _ _ g2) (c':=c - n) (by rw [List.length_drop];omega) (by rw [List.length_drop];omega)
 have hbut:=(but_set w R 1 (.bool false)).trans (but_set _ R 0 (.slice A' (l.drop n).length (c - n)))
 have t1:((n:Int) == 0)=false:=by rw [beq_eq_false_iff_ne];omega
 replace h3:=Lib.hid h3
 replace hbut:=Lib.hid hbut
 replace g1:=Lib.hid g1
 clear h h2 hn g2 hsl
 generalize hq:(l.drop n).length=q at *
 replace hq:=Lib.hid hq
 go_enter Tryz.func71,Tryz.ntmps71
 go_wp2_with fail
 go_ret
 exact ⟨rfl,h3.out,hbut.out⟩
set_option maxRecDepth 100000 in
set_option maxHeartbeats 2000000 in
theorem msgNum_any (R D L : Nat) (st : Option (List UInt8)) (w : World) (h : BrS 59 R D L st w) (hL : L ≤ 1073741824) :
  Calls Tryz.prog 37 #[.pointer (some ⟨R,0,none⟩)] w (BrPost 59 R D L w (.int .i64 (gv 0 (dCount 1099511627776) st).1) (gv 0 (dCount 1099511627776) st).2):=by
 have hf:=h.free 1
 obtain ⟨A,l,c,g1,g2,g3,g4,g5⟩:=h.any
 have c0:=(blk_cell g1 0).trans (show _=some (.slice A l.length c) from rfl)
 have c1:=h.c1
 have hD:=h.le
 have hlt:=h.lt
 have hu:=unvarint_any l A c w (g2.more (by omega)) (by omega)
 replace g1:=Lib.hid g1
 clear g2
 have hbutT:=but_set w R 1 (.bool true)
 have hbutF:=but_set w R 1 (.bool false)
 cases st with
 | none =>
  simp only [Option.isNone_none] at c1
  have h2:=h.bad
  have d1:=h2.c1
  simp only [Option.isNone_none] at d1
  show Calls _ _ _ _ (BrPost _ _ _ _ _ (.int .i64 0) none)
  cases hx:uL l with
  | none =>
   rw [hx] at hu
   unfold uT at hu
   have hto:=Lib.hid (msgTook_bad R D L none 0 _ h2 (.inl rfl))
   have hbut:=Lib.hid hbutT
   clear hx h h2 hbutT hbutF g5
   go_enter Tryz.func37,Tryz.ntmps37
   go_wp2_with fail
   refine hu.mono ?_
   clear hu
   rintro e w1 ⟨rfl,rfl⟩
   go_wp2_with fail
   refine Calls.mono hto.out ?_
   rintro e w2 ⟨rfl,hr2,hb2⟩
   go_wp2_with fail
   go_ret
   exact ⟨rfl,hr2,hbut.out.trans hb2⟩
  | some y =>
   obtain ⟨v,n⟩:=y
   rw [hx] at hu
   unfold uT at hu
   have hto:=Lib.hid (msgTook_bad R D L none n _ h2 (.inl rfl))
   have hbut:=Lib.hid hbutT
   clear hx h h2 hbutT hbutF g5
   go_enter Tryz.func37,Tryz.ntmps37
   go_wp2_with fail
   refine hu.mono ?_
   clear hu
   rintro e w1 ⟨rfl,rfl⟩
   go_wp2_with fail
   refine Calls.mono hto.out ?_
   rintro e w2 ⟨rfl,hr2,hb2⟩
   go_wp2_with fail
   go_ret
   exact ⟨rfl,hr2,hbut.out.trans hb2⟩
 | some l1 =>
  obtain rfl:=g5 l1 rfl
  simp only [Option.isNone_some] at c1
  cases hx:uL l1 with
  | none =>
   rw [hx] at hu
   unfold uT at hu
   have h2:=h.stay
   have d1:=h2.c1
   simp only [Option.isNone_some] at d1
   rw [gv_none (dCount_none (dNum_none hx))]
   have hto:=Lib.hid (msgTook_bad R D L _ 0 _ h2 (.inr rfl))
   have hbut:=Lib.hid hbutF
   clear hx h h2 hbutT hbutF g5
   go_enter Tryz.func37,Tryz.ntmps37
   go_wp2_with fail
   refine hu.mono ?_
   clear hu
   rintro e w1 ⟨rfl,rfl⟩
   go_wp2_with fail
   refine Calls.mono hto.out ?_
   rintro e w2 ⟨rfl,hr2,hb2⟩
   go_wp2_with fail
   go_ret
   exact ⟨rfl,hr2,hbut.out.trans hb2⟩
  | some y =>
   obtain ⟨v,n⟩:=y
   have hb:=uL_bd hx
   rw [hx] at hu
   unfold uT at hu
   by_cases hv:1099511627776 < v
   ·have t1:decide (1099511627776 < (v:Int))=true:=decide_eq_true (by omega)
    rw [gv_none (show dCount 1099511627776 l1=none by rw [dCount_some (dNum_some hx),if_neg (by omega)])]
    have h2:=h.bad
    have d1:=h2.c1
    simp only [Option.isNone_none] at d1
    have hto:=Lib.hid (msgTook_bad R D L none n _ h2 (.inl rfl))
    have hbut:=Lib.hid hbutT
    clear hx h h2 hbutT hbutF g5 hb hv
    go_enter Tryz.func37,Tryz.ntmps37
    go_wp2_with fail
    refine hu.mono ?_
    clear hu
    rintro e w1 ⟨rfl,rfl⟩
    go_wp2_with fail
    refine Calls.mono hto.out ?_
    rintro e w2 ⟨rfl,hr2,hb2⟩
    go_wp2_with fail
    go_ret
    exact ⟨rfl,hr2,hbut.out.trans hb2⟩
   ·have t1:decide (1099511627776 < (v:Int))=false:=decide_eq_false (by omega)
    rw [gv_some (show dCount 1099511627776 l1=some (v,l1.drop n) by rw [dCount_some (dNum_some hx),if_pos (by omega)])]
    have h2:=h.stay
    have d1:=h2.c1
    simp only [Option.isNone_some] at d1
    have hwr:IntKind.i64.wrap (v:Int)=(v:Int):=IntWalk.i64_in _ (by omega)
    have hto:=Lib.hid (msgTook_ok R D L l1 n _ h2 hb.1 hb.2.1 hL)
    have hbut:=Lib.hid hbutF
    have n0:(0:Int)≤(v:Int):=by omega
    have n1:(v:Int)≤1099511627776:=by omega
    clear hx h h2 hbutT hbutF g5 hb hv
    go_enter Tryz.func37,Tryz.ntmps37
    go_wp2_with fail
    refine hu.mono ?_
    clear hu
    rintro e w1 ⟨rfl,rfl⟩
    go_wp2_with fail
    refine Calls.mono hto.out ?_
    rintro e w2 ⟨rfl,hr2,hb2⟩
    go_wp2_with fail
    go_ret
    exact ⟨rfl,hr2,hbut.out.trans hb2⟩
end Go.Proofs.YtheogchkelmeeaaGreatDoor
/- Writers of bytes behind a pointer: what they hold, how they stand. No condition. -/
namespace Go.Proofs.YtheogchkelmeeaaGreatDoor
open Go.RowKit
/-- What a writer's call leaves: all below the base, and each block of another type than bytes but its own. -/
def Kw (R base:Nat) (w w':World):Prop:=Below base w w'∧∀(k:Nat) (cs:Array Value) (t:TypeId) (fz:Nat × Nat),t≠5→k≠R→w.heap[k]?=some (.cells cs t fz)→w'.heap[k]?=some (.cells cs t fz)
theorem Kw.refl (R base:Nat) (w:World):Kw R base w w:=⟨Below.refl _ _,fun _ _ _ _ _ _ h=>h⟩
theorem Kw.trans {R base:Nat} {a b c:World} (h:Kw R base a b) (k:Kw R base b c):Kw R base a c:=⟨h.1.trans k.1,fun g cs t fz ht hr hh=>k.2 g cs t fz ht hr (h.2 g cs t fz ht hr hh)⟩
theorem Kw.size {R base:Nat} {a b:World} (h:Kw R base a b):a.heap.size≤b.heap.size:=h.1.size
theorem Kw.of_g {R base:Nat} {a b:World} (h:G a b) (hb:base≤a.heap.size):Kw R base a b:=⟨Below.mono h hb,fun _ _ _ _ _ _ hh=>h.blk hh⟩
theorem Kw.of_keep {R base:Nat} {a b:World} (h:KeepT 5 base a b):Kw R base a b:=⟨h.1,fun k cs t fz ht _ hh=>h.2 k cs t fz ht hh⟩
theorem Kw.blk {R base:Nat} {a b:World} (h:Kw R base a b) {k:Nat} {cs:Array Value} {t:TypeId} {fz:Nat × Nat} (ht:t≠5) (hr:k≠R) (hh:a.heap[k]?=some (.cells cs t fz)):b.heap[k]?=some (.cells cs t fz):=h.2 k cs t fz ht hr hh
theorem Kw.set {R base:Nat} {w:World} (hR:base≤R) (o:Nat) (u:Value):Kw R base w (w.setCell ⟨R,o,none⟩ u):=by
 have hb:=but_set w R o u
 exact ⟨⟨hb.os,hb.tape,hb.output,hb.size,fun k hk=>by
  refine Below.heap_setCell _ _ _ _ ?_
  show k≠R
  omega⟩,fun k cs t fz _ hr hh=>hb.blk hh hr⟩
/-- The writer holds these bytes; none: it is bad. At most n bytes lie there. -/
def WrS (T:TypeId) (R base n:Nat) (st:Option (List UInt8)) (w:World):Prop :=
 ∃v l,w.heap[R]?=some (.cells #[v,.bool st.isNone] T (0,0))∧OwnL 5 1 byteC w base v l∧l.length≤n∧(∀l',st=some l'→l'=l)
section
variable {T : TypeId} {R base n : Nat} {st : Option (List UInt8)} {w w' : World}
theorem WrS.lt (h:WrS T R base n st w):R < w.heap.size:=by obtain ⟨v,l,h1,_⟩:=h;exact blk_lt h1
theorem WrS.g (h:WrS T R base n st w) (hg:G w w'):WrS T R base n st w':=by
 obtain ⟨v,l,h1,h2,h3,h4⟩:=h
 exact ⟨v,l,hg.blk h1,h2.g hg,h3,h4⟩
theorem WrS.more {n':Nat} (h:WrS T R base n st w) (hn:n≤n'):WrS T R base n' st w:=by
 obtain ⟨v,l,h1,h2,h3,h4⟩:=h
 exact ⟨v,l,h1,h2,by omega,h4⟩
theorem WrS.c1 (h:WrS T R base n st w):w.cell? ⟨R,1,none⟩=some (.bool st.isNone):=by obtain ⟨v,l,h1,_⟩:=h;rw [blk_cell h1];rfl
theorem WrS.free (h:WrS T R base n st w) (o:Nat):w.frozen? ⟨R,o,none⟩=false:=by obtain ⟨v,l,h1,_⟩:=h;simp [World.frozen?,h1]
/-- Its row is no block of the writer's own. -/
theorem own_ne {v:Value} {l:List UInt8} {cs:Array Value} (hT:T≠5) (h1:w.heap[R]?=some (.cells cs T (0,0))) (h2:OwnL 5 1 byteC w base v l):∀k,v.ownBlock=some k→¬ k=R:=by
 rintro k hk rfl
 obtain ⟨_,_,cs',h3⟩:=h2.blk hk
 rw [h1] at h3
 cases h3
 exact hT rfl
theorem WrS.turn (hT:T≠5) (h:WrS T R base n st w):WrS T R base n none (w.setCell ⟨R,1,none⟩ (.bool true)):=by
 obtain ⟨v,l,h1,h2,h3,h4⟩:=h
 exact ⟨v,l,by rw [blk_put h1];rfl,h2.but' (but_set w R 1 _) (own_ne hT h1 h2),h3,fun l' e=>by cases e⟩
theorem WrS.stay (hT:T≠5) (h:WrS T R base n st w):WrS T R base n st (w.setCell ⟨R,1,none⟩ (.bool st.isNone)):=by
 obtain ⟨v,l,h1,h2,h3,h4⟩:=h
 exact ⟨v,l,by rw [blk_put h1];rfl,h2.but' (but_set w R 1 _) (own_ne hT h1 h2),h3,h4⟩
/-- A writer that is good, with its row shown. -/
theorem WrS.row {l:List UInt8} (h:WrS T R base n (some l) w):∃A c,w.heap[R]?=some (.cells #[.slice A l.length c,.bool false] T (0,0))∧OwnL 5 1 byteC w base (.slice A l.length c) l∧l.length≤n:=by
 obtain ⟨v,l',h1,h2,h3,h4⟩:=h
 obtain rfl:=h4 l rfl
 obtain ⟨A,c,rfl,_⟩:=OwnL.sl byteC_len h2
 exact ⟨A,c,h1,h2,h3⟩
theorem WrS.rowN (h:WrS T R base n st w):∃A c l,w.heap[R]?=some (.cells #[.slice A l.length c,.bool st.isNone] T (0,0))∧OwnL 5 1 byteC w base (.slice A l.length c) l∧l.length≤n∧(∀l',st=some l'→l'=l):=by
 obtain ⟨v,l,h1,h2,h3,h4⟩:=h
 obtain ⟨A,c,rfl,_⟩:=OwnL.sl byteC_len h2
 exact ⟨A,c,l,h1,h2,h3,h4⟩
/-- A longer row is laid into it. -/
theorem WrS.put {v:Value} {l:List UInt8} {cs:Array Value} {b:Bool} (hT:T≠5) (hst:b=st.isNone) (h1:w.heap[R]?=some (.cells cs T (0,0))) (hcs:cs=#[cs[0]!,.bool b]) (h2:OwnL 5 1 byteC w base v l) (hl:l.length≤n) (hs:∀l',st=some l'→l'=l):WrS T R base n st (w.setCell ⟨R,0,none⟩ v):=by
 subst hst
 refine ⟨v,l,?_,h2.but' (but_set w R 0 _) (own_ne hT h1 h2),hl,hs⟩
 rw [blk_put h1,hcs]
 rfl
end
/-- Numbers of a writer's: from 0 to lim. -/
def okI (lim n:Int):Bool:=decide (0≤n∧n≤lim)
def okIs (lim:Int) (ns:List Int):Bool:=ns.all (okI lim)
def nL (n:Int):List UInt8:=vL n.toNat
def nLs (ns:List Int):List UInt8:=ns.flatMap nL
/-- A writer's bytes with numbers behind. -/
def addNs (lim:Int) (ns:List Int) (st:Option (List UInt8)):Option (List UInt8):=st.bind fun l=>if okIs lim ns=true then some (l++nLs ns) else none
def addB (b:List UInt8) (st:Option (List UInt8)):Option (List UInt8):=st.bind fun l=>if b=[] then none else some (l++b)
def addMany (lim:Int) (k:Nat) (st:Option (List UInt8)):Option (List UInt8):=st.bind fun l=>if k≤1000 then addNs lim [(k:Int)] (some l) else none
theorem nL_len (n:Int):(nL n).length≤10:=vL_len _
theorem nLs_len (ns:List Int):(nLs ns).length≤ns.length * 10:=by
 unfold nLs
 induction ns with
 | nil=>simp
 | cons x l ih =>
  rw [List.flatMap_cons,List.length_append,List.length_cons]
  have:=nL_len x
  omega
theorem nLs_take {ns:List Int} {k:Nat} {x:Int} (h:ns[k]?=some x):nLs (ns.take (k+1))=nLs (ns.take k)++nL x:=flat_take_succ nL h
theorem okIs_take {lim:Int} {ns:List Int} {k:Nat} {x:Int} (h:ns[k]?=some x) (h1:okIs lim (ns.take k)=true) (h2:okI lim x=true):okIs lim (ns.take (k+1))=true:=by
 unfold okIs at *
 rw [List.take_add_one,h,List.all_append,h1]
 simpa using h2
theorem okIs_not {lim:Int} {ns:List Int} {k:Nat} {x:Int} (h:ns[k]?=some x) (h2:okI lim x=false):okIs lim ns=false:=by
 unfold okIs
 rw [List.all_eq_false]
 exact ⟨x,List.mem_of_getElem? h,by simp [h2]⟩
theorem addNs_no {lim:Int} {ns:List Int} {st:Option (List UInt8)} (h:okIs lim ns=false):addNs lim ns st=none:=by
 cases st with
 | none=>rfl
 | some l=>simp [addNs,h]
theorem addNs_yes {lim:Int} {ns:List Int} {l:List UInt8} (h:okIs lim ns=true):addNs lim ns (some l)=some (l++nLs ns):=by simp [addNs,h]
/-- What a writer's call answers. -/
def WrPost (T:TypeId) (R base n:Nat) (st:Option (List UInt8)) (w:World) (e:Ending) (w':World):Prop:=e=.returned (.tuple #[])∧WrS T R base n st w'∧Kw R base w w'
end Go.Proofs.YtheogchkelmeeaaGreatDoor
/- Records: what they are made of, which fields a kind names, how they are written. Plain mathematics. No condition. -/
namespace Go.Proofs.YtheogchkelmeeaaGreatDoor
open Go.RowKit
/-- Streams behind a writer's bytes. -/
def addSms:List Sm→Option (List UInt8)→Option (List UInt8)
 | [],s=>s
 | m::l,s=>addSms l (addB (smL m) s)
theorem addSms_none:∀l,addSms l none=none
 | []=>rfl
 | _::l=>addSms_none l
theorem addSms_drop {l:List Sm} {k:Nat} {m:Sm} (h:l[k]?=some m) (s:Option (List UInt8)):addSms (l.drop k) s=addSms (l.drop (k+1)) (addB (smL m) s):=by
 obtain ⟨hk,rfl⟩:=List.getElem?_eq_some_iff.1 h
 rw [List.drop_eq_getElem_cons hk]
 rfl
end Go.Proofs.YtheogchkelmeeaaGreatDoor
/- Records: the document's check and its bytes are the program's. Plain mathematics. No condition. -/
namespace Go.Proofs.YtheogchkelmeeaaGreatDoor
open Go.RowKit
/-- Some bytes, where they may be. -/
def opt (b:Bool) (l:List UInt8):Option (List UInt8):=if b=true then some l else none
theorem addNs_opt (lim:Int) (ns:List Int) (b:Bool) (l:List UInt8):addNs lim ns (opt b l)=opt (b && okIs lim ns) (l++nLs ns):=by
 cases b
 ·rfl
 ·cases h:okIs lim ns <;> simp [opt,addNs,h]
theorem addB_opt (x:List UInt8) (b:Bool) (l:List UInt8):addB x (opt b l)=opt (b && decide (x≠[])) (l++x):=by
 cases b
 ·rfl
 ·by_cases h:x=[] <;> simp [opt,addB,h]
theorem addMany_opt (lim:Int) (hlim:1000≤lim) (k:Nat) (b:Bool) (l:List UInt8):addMany lim k (opt b l)=opt (b && decide (k≤1000)) (l++vL k):=by
 cases b
 ·rfl
 ·by_cases h:k≤1000
  ·have h1:okIs lim [(k:Int)]=true:=by simp [okIs,okI];omega
   simp [opt,addMany,addNs,h,h1,nLs,nL]
  ·simp [opt,addMany,h]
theorem addSms_opt:∀(sms:List Sm) (b:Bool) (l:List UInt8),addSms sms (opt b l)=opt (b && sms.all fun m=>decide (smL m≠[])) (l++sms.flatMap smL)
 | [],b,l=>by simp [addSms]
 | m::sms,b,l=>by
  have h:=addSms_opt sms (b && decide (smL m≠[])) (l++smL m)
  rw [addSms,addB_opt,h]
  simp [Bool.and_assoc]
theorem opt_one (l:List UInt8):some l=opt true l:=rfl
theorem stE_ne (s:St):decide (stE s≠[])=stOk s:=by
 cases h:stOk s
 ·simp [stE_no h]
 ·rw [stE_ok h]
  have:stL s≠[]:=by
   intro h2
   have:=congrArg List.length h2
   unfold stL at this
   rw [List.length_append] at this
   have h3:=vL_pos s.wall.toNat
   rw [List.length_nil] at this
   omega
  simp [this]
theorem stOk_zero:stOk ⟨0,0,0⟩=true:=by decide
theorem batL_ne (key:ByteArray) (ps:List PutP):decide (batL key ps≠[])=decide (chkN key ps=0):=by
 rw [decide_eq_decide]
 constructor
 ·intro h
  by_cases h2:chkN key ps=0
  ·exact h2
  ·exact absurd (batL_no h2) h
 ·intro h h2
  rw [batL_ok h] at h2
  have:=batBytes_pos key ps
  rw [h2] at this
  simp at this
theorem okIs_cons (lim n:Int) (l:List Int):okIs lim (n::l)=(okI lim n && okIs lim l):=rfl
theorem okIs_nil (lim:Int):okIs lim []=true:=rfl
theorem nLs_one (n:Int):nLs [n]=nL n:=by simp [nLs]
theorem opt_eq {b b':Bool} {l l':List UInt8} (hb:b=b') (hl:b=true→l=l'):opt b l=opt b' l':=by
 subst hb
 cases b
 ·rfl
 ·rw [hl rfl]
end Go.Proofs.YtheogchkelmeeaaGreatDoor

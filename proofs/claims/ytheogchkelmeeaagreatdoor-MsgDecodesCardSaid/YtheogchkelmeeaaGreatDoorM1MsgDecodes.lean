/- Several texts in one: But, Chunk, Range, Shelf, Tabs, Own. -/
import Derived.Test.YtheogchkelmeeaaGreatDoorM0MsgDecodes
import Derived.Lib.MapLaws
import Derived.Lib.ValidLaws
import Derived.Lib.QuoteLoop
import Derived.Laws.RangeAny
import Derived.Shelf.Slices.Equal
import Derived.Ground.Names2Prog
import Derived.Shelf.Slices.Clone
import Derived.Shelf.Slices.Empties2
import Derived.Ground.SlgnProg
import Derived.Shelf.SlicesE.Clone
import Derived.Shelf.Unicode.ValidAny
import Derived.Test.YtheogchkelmeeaaGreatDoorProg
import Derived.Laws.IdiomStrings
/- A world that is another one but for some blocks. No condition. -/
namespace Go.Proofs.YtheogchkelmeeaaGreatDoor
open Go.RowKit
/-- w' is w with more blocks, and but for the blocks that S names. -/
structure But (S:Nat→Prop) (w w':World):Prop where
 os:w'.os=w.os
 tape:w'.tape=w.tape
 output:w'.output=w.output
 size:w.heap.size≤w'.heap.size
 block:∀k,k < w.heap.size→¬ S k→w'.heap[k]?=w.heap[k]?
theorem But.refl (S:Nat→Prop) (w:World):But S w w:=⟨rfl,rfl,rfl,Nat.le_refl _,fun _ _ _=>rfl⟩
theorem But.of_g {S:Nat→Prop} {w w':World} (h:G w w'):But S w w':=⟨h.os,h.tape,h.output,h.size,fun k hk _=>h.block k hk⟩
theorem But.of_grown {S:Nat→Prop} {w w':World} {row:Option Nat} (h:w.grownBy w' row) (hr:∀k,row=some k→S k):But S w w' :=
 ⟨h.os,h.tape,h.output,h.size,fun k hk hS=>h.block k hk fun e=>hS (hr k e.symm)⟩
theorem But.trans {S:Nat→Prop} {a b c:World} (h:But S a b) (k:But S b c):But S a c :=
 ⟨k.os.trans h.os,k.tape.trans h.tape,k.output.trans h.output,Nat.le_trans h.size k.size,fun i hi hS=>(k.block i (Nat.lt_of_lt_of_le hi h.size) hS).trans (h.block i hi hS)⟩
theorem But.g {S:Nat→Prop} {a b c:World} (h:But S a b) (k:G b c):But S a c:=h.trans (.of_g k)
theorem But.mono {S T:Nat→Prop} {a b:World} (h:But S a b) (hS:∀k,k < a.heap.size→S k→T k):But T a b:=⟨h.os,h.tape,h.output,h.size,fun k hk hT=>h.block k hk fun e=>hT (hS k hk e)⟩
/-- Blocks of a that S names lie from a base on: nothing below it has turned. -/
theorem But.below {S:Nat→Prop} {a b:World} (h:But S a b) {B:Nat} (hB:B≤a.heap.size) (hS:∀k,k < a.heap.size→S k→B≤k):Below B a b :=
 ⟨h.os,h.tape,h.output,h.size,fun k hk=>h.block k (by omega) fun e=>by have:=hS k (by omega) e;omega⟩
theorem But.blk {S:Nat→Prop} {a b:World} (h:But S a b) {k:Nat} {o:Obj} (hk:a.heap[k]?=some o) (hS:¬ S k):b.heap[k]?=some o:=(h.block k (blk_lt hk) hS).trans hk
theorem But.cell {S:Nat→Prop} {a b:World} (h:But S a b) {k o:Nat} (hk:k < a.heap.size) (hS:¬ S k):b.cell? ⟨k,o,none⟩=a.cell? ⟨k,o,none⟩:=World.cell?_of_block (w:=a) (h.block k hk hS)
theorem But.set {S:Nat→Prop} {a b:World} (h:But S a b) {p:Addr} (hp:a.heap.size≤p.block∨S p.block) (u:Value):But S a (b.setCell p u):=by
 have k:=(Below.refl 0 b).setCell (p:=p) (Nat.zero_le _) u
 refine ⟨k.os.trans h.os,k.tape.trans h.tape,k.output.trans h.output,Nat.le_trans h.size k.size,fun i hi hS=>?_⟩
 refine (Below.heap_setCell _ _ _ _ ?_).trans (h.block i hi hS)
 rintro rfl
 rcases hp with hp | hp
 ·omega
 ·exact hS hp
/-- Behind w some more blocks turn, of which each is new since a, or one that S names. -/
theorem But.over {S:Nat→Prop} {a b c:World} {g:Nat} (h:But S a b) (k:But (fun k=>k=g) b c) (hS:∀k,k=g→(a.heap.size≤k∨S k)):But S a c :=
 ⟨k.os.trans h.os,k.tape.trans h.tape,k.output.trans h.output,Nat.le_trans h.size k.size,fun i hi hn=>(k.block i (Nat.lt_of_lt_of_le hi h.size) (fun e=>by
  rcases hS i e with h1 | h1
  ·omega
  ·exact hn h1)).trans (h.block i hi hn)⟩
end Go.Proofs.YtheogchkelmeeaaGreatDoor
/- A text's runes, as the decoder tells them: a list of pieces, each its bytes and its rune. Plain Lean. No condition. -/
namespace Go.Proofs.YtheogchkelmeeaaGreatDoor
open Go.Lib
structure Ck where
 bs:List UInt8
 r:Nat
 deriving DecidableEq
def cksF:Nat→List UInt8→List Ck
 | 0,_=>[]
 | n+1,l=>if l=[] then [] else ⟨l.take (decodeL l).2,(decodeL l).1⟩::cksF n (l.drop (decodeL l).2)
def cks (l:List UInt8):List Ck:=cksF l.length l
theorem cksF_nil:∀n,cksF n []=[]
 | 0=>rfl
 | n+1=>by simp [cksF]
theorem cksF_fuel:∀(n m:Nat) (l:List UInt8),l.length≤n→l.length≤m→cksF n l=cksF m l
 | 0,m,l,h,_=>by
  obtain rfl:l=[]:=List.eq_nil_of_length_eq_zero (by omega)
  rw [cksF_nil,cksF_nil]
 | n+1,0,l,_,h=>by
  obtain rfl:l=[]:=List.eq_nil_of_length_eq_zero (by omega)
  rw [cksF_nil,cksF_nil]
 | n+1,m+1,l,h,h'=>by
  simp only [cksF]
  split
  ·rfl
  ·have:=decodeL_width l
   rw [cksF_fuel n m _ (by rw [List.length_drop];omega) (by rw [List.length_drop];omega)]
theorem cks_nil:cks []=[]:=rfl
theorem cks_step {l:List UInt8} (h:l≠[]):cks l=⟨l.take (decodeL l).2,(decodeL l).1⟩::cks (l.drop (decodeL l).2):=by
 have hl:0 < l.length:=List.length_pos_iff.2 h
 have hw:=decodeL_width l
 obtain ⟨n,hn⟩:∃n,l.length=n+1:=⟨l.length - 1,by omega⟩
 unfold cks
 rw [hn,cksF,if_neg h,cksF_fuel n _ _ (by rw [List.length_drop];omega) (Nat.le_refl _)]
/-- All bytes of some pieces. -/
def flat (cs:List Ck):List UInt8:=cs.flatMap Ck.bs
theorem flat_nil:flat []=[]:=rfl
theorem flat_cons (c:Ck) (cs:List Ck):flat (c::cs)=c.bs++flat cs:=List.flatMap_cons
theorem flat_append (a b:List Ck):flat (a++b)=flat a++flat b:=List.flatMap_append
theorem cks_ind {P:List UInt8→Prop} (h0:P []) (hs:∀l,l≠[]→P (l.drop (decodeL l).2)→P l) (l:List UInt8):P l:=by
 have h:∀(n:Nat) (l:List UInt8),l.length≤n→P l:=by
  intro n
  induction n with
  | zero =>
   intro l hl
   obtain rfl:l=[]:=List.eq_nil_of_length_eq_zero (by omega)
   exact h0
  | succ n ih =>
   intro l hl
   by_cases hn:l=[]
   ·rw [hn];exact h0
   ·have hw:=decodeL_width l
    have:=List.length_pos_iff.2 hn
    exact hs l hn (ih _ (by rw [List.length_drop];omega))
 exact h _ l (Nat.le_refl _)
theorem flat_cks (l:List UInt8):flat (cks l)=l:=by
 induction l using cks_ind with
 | h0=>rfl
 | hs l h ih=>rw [cks_step h,flat_cons,ih,List.take_append_drop]
/-- A byte that begins nothing. -/
def Ck.bad (c:Ck):Bool:=decide (c.r=65533∧c.bs.length=1)
theorem validD_cks (l:List UInt8):validD l=(cks l).all fun c=>!c.bad:=by
 induction l using cks_ind with
 | h0=>rfl
 | hs l h ih =>
  have hle:=decodeL_le l h
  have hw:=decodeL_width l
  rw [cks_step h,List.all_cons,←ih,validD_step l h]
  have e:(⟨l.take (decodeL l).2,(decodeL l).1⟩:Ck).bad=decide ((decodeL l).1=65533∧(decodeL l).2=1):=by
   unfold Ck.bad
   simp only [List.length_take]
   rw [Nat.min_eq_left hle]
  rw [e]
  by_cases hb:(decodeL l).1=65533∧(decodeL l).2=1
  ·rw [if_pos hb,decide_eq_true hb];rfl
  ·rw [if_neg hb,decide_eq_false hb];simp
/-- What a piece is. -/
def Ck.ok (c:Ck):Prop:=(c.bad=true∧∃b:UInt8,c.bs=[b]∧128≤b.toNat)∨(c.bad=false∧c.bs=encodeRune (c.r:Int)∧validRune (c.r:Int)=true)
theorem decodeL_valid (l:List UInt8) (_h:l≠[]):validRune ((decodeL l).1:Int)=true:=by
 rw [decodeL_N]
 have h:=decodeN_valid l.length (l.getD 0 0).toNat (l.getD 1 0).toNat (l.getD 2 0).toNat (l.getD 3 0).toNat (UInt8.toNat_lt _)
 unfold validRune
 simp only [decide_eq_true_eq]
 omega
theorem decodeL_bad_byte {l:List UInt8} (_h:l≠[]) (hb:(decodeL l).1=65533∧(decodeL l).2=1):128≤(l.getD 0 0).toNat:=by
 rcases Nat.lt_or_ge (l.getD 0 0).toNat 128 with h1 | h1
 ·rw [decodeL_N,decodeN_ascii _ _ _ _ _ h1] at hb
  omega
 ·exact h1
theorem cks_head_ok {l:List UInt8} (h:l≠[]):(⟨l.take (decodeL l).2,(decodeL l).1⟩:Ck).ok:=by
 have hle:=decodeL_le l h
 have hlen:(l.take (decodeL l).2).length=(decodeL l).2:=by rw [List.length_take,Nat.min_eq_left hle]
 by_cases hb:(decodeL l).1=65533∧(decodeL l).2=1
 ·left
  refine ⟨by simp only [Ck.bad,hlen];exact decide_eq_true hb,l.getD 0 0,?_,decodeL_bad_byte h hb⟩
  rw [hb.2]
  exact takeA l (List.length_pos_iff.2 h)
 ·right
  exact ⟨by simp only [Ck.bad,hlen];exact decide_eq_false hb,(encode_decode l h hb).symm,decodeL_valid l h⟩
theorem cks_ok (l:List UInt8):∀c ∈ cks l,c.ok:=by
 induction l using cks_ind with
 | h0=>intro c hc;cases hc
 | hs l h ih =>
  intro c hc
  rw [cks_step h] at hc
  rcases List.mem_cons.1 hc with rfl | hc
  ·exact cks_head_ok h
  ·exact ih c hc
theorem Ck.ok.len {c:Ck} (h:c.ok):1≤c.bs.length∧c.bs.length≤4:=by
 rcases h with ⟨_,b,h,_⟩ | ⟨_,h,_⟩
 ·rw [h];simp
 ·rw [h]
  have:=encodeRuneZ_length (c.r:Int)
  simpa [encodeRune] using this
theorem cks_length_le (l:List UInt8):(cks l).length≤l.length:=by
 induction l using cks_ind with
 | h0=>simp [cks_nil]
 | hs l h ih =>
  have hw:=decodeL_width l
  have:=List.length_pos_iff.2 h
  rw [cks_step h,List.length_cons]
  rw [List.length_drop] at ih
  omega
/-- Where a piece begins. -/
def off (l:List UInt8) (k:Nat):Nat:=(flat ((cks l).take k)).length
theorem off_zero (l:List UInt8):off l 0=0:=rfl
theorem take_snoc' {α:Type} {l:List α} {k:Nat} {x:α} (h:l[k]?=some x):l.take (k+1)=l.take k++[x]:=by
 rw [List.take_add_one,h];rfl
theorem off_succ {l:List UInt8} {k:Nat} {c:Ck} (h:(cks l)[k]?=some c):off l (k+1)=off l k+c.bs.length:=by
 unfold off
 rw [take_snoc' h,flat_append,List.length_append,flat_cons,flat_nil,List.append_nil]
theorem off_le (l:List UInt8) (k:Nat):off l k≤l.length:=by
 have h:=flat_cks l
 rw [←List.take_append_drop k (cks l),flat_append] at h
 have:=congrArg List.length h
 rw [List.length_append] at this
 unfold off
 omega
theorem off_drop (l:List UInt8) (k:Nat):l.drop (off l k)=flat ((cks l).drop k):=by
 have h:=flat_cks l
 rw [←List.take_append_drop k (cks l),flat_append] at h
 unfold off
 generalize flat ((cks l).take k)=a at *
 generalize flat ((cks l).drop k)=b at *
 rw [←h,List.drop_left]
/-- From a piece's place on stand the pieces from it on. -/
theorem cks_drop (l:List UInt8):∀k,cks (l.drop (off l k))=(cks l).drop k:=by
 induction l using cks_ind with
 | h0=>intro k;simp [cks_nil]
 | hs l h ih =>
  intro k
  cases k with
  | zero=>simp [off_zero]
  | succ k =>
   have e:off l (k+1)=(decodeL l).2+off (l.drop (decodeL l).2) k:=by
    unfold off
    rw [cks_step h,List.take_succ_cons,flat_cons,List.length_append,List.length_take,Nat.min_eq_left (decodeL_le l h)]
   rw [e,←List.drop_drop,ih k,cks_step h,List.drop_succ_cons]
theorem off_lt {l:List UInt8} {k:Nat}:off l k < l.length ↔ k < (cks l).length:=by
 constructor
 ·intro h
  rcases Nat.lt_or_ge k (cks l).length with h1 | h1
  ·exact h1
  ·have h2:=off_drop l k
   rw [List.drop_eq_nil_of_le h1,flat_nil] at h2
   have:=congrArg List.length h2
   rw [List.length_drop] at this
   simp at this
   omega
 ·intro h
  have h2:=cks_drop l k
  rcases Nat.lt_or_ge (off l k) l.length with h1 | h1
  ·exact h1
  ·rw [List.drop_eq_nil_of_le h1,cks_nil] at h2
   have:=congrArg List.length h2
   rw [List.length_drop] at this
   simp at this
   omega
theorem off_end (l:List UInt8):off l (cks l).length=l.length:=by
 have h1:=off_le l (cks l).length
 rcases Nat.lt_or_ge (off l (cks l).length) l.length with h | h
 ·have:=off_lt.1 h;omega
 ·omega
theorem cks_at {l:List UInt8} {k:Nat} (h:k < (cks l).length):(cks l)[k]?=some ⟨(l.drop (off l k)).take (decodeL (l.drop (off l k))).2,(decodeL (l.drop (off l k))).1⟩:=by
 have h1:=cks_drop l k
 have h2:l.drop (off l k)≠[]:=by
  intro e
  have:=congrArg List.length e
  rw [List.length_drop] at this
  have:=off_lt.2 h
  simp at *
  omega
 rw [cks_step h2] at h1
 have h3:=congrArg (·[0]?) h1
 simp only [List.getElem?_cons_zero,List.getElem?_drop,Nat.add_zero] at h3
 exact h3.symm
/-- What the range over a text tells at a piece's place. -/
theorem decode_off {s:ByteArray} {k:Nat} {c:Ck} (h:(cks s.data.toList)[k]?=some c):(Utf8.decode s (off s.data.toList k)).1=c.r∧off s.data.toList k+(Utf8.decode s (off s.data.toList k)).2=off s.data.toList (k+1)∧off s.data.toList k < s.size:=by
 have hk:k < (cks s.data.toList).length:=(List.getElem?_eq_some_iff.1 h).1
 have h1:=cks_at hk
 rw [h] at h1
 have h2:=off_lt.2 hk
 have h3:s.data.toList.drop (off s.data.toList k)≠[]:=by
  intro e
  have:=congrArg List.length e
  rw [List.length_drop] at this
  simp only [List.length_nil] at this
  omega
 have h4:=decodeL_le _ h3
 simp only [Option.some.injEq] at h1
 rw [off_succ h,h1]
 rw [decodeL_drop] at *
 refine ⟨rfl,?_,by simpa using h2⟩
 simp only [List.length_take]
 rw [Nat.min_eq_left h4]
/-- Has a text no byte that begins nothing? -/
def validB (s:ByteArray):Bool:=(cks s.data.toList).all fun c=>!c.bad
theorem validB_eq (s:ByteArray):validD s.data.toList=validB s:=validD_cks _
end Go.Proofs.YtheogchkelmeeaaGreatDoor
/- The range over a text: its iterator, wherever it lies. No condition. -/
namespace Go.Proofs.YtheogchkelmeeaaGreatDoor
open Go.RowKit
/-- Block b is the iterator of a range over s, at the k-th piece. -/
def IterAt (w:World) (b:Nat) (s:ByteArray) (k:Nat):Prop:=w.heap[b]?=some (.stringIter s (off s.data.toList k))
theorem IterAt.start (w:World) (s:ByteArray):IterAt (w.iter s 0) w.heap.size s 0:=World.iter_heap w s 0
theorem IterAt.g {w w':World} {b:Nat} {s:ByteArray} {k:Nat} (h:IterAt w b s k) (hg:G w w'):IterAt w' b s k:=hg.blk h
theorem IterAt.but {S:Nat→Prop} {w w':World} {b:Nat} {s:ByteArray} {k:Nat} (h:IterAt w b s k) (hb:But S w w') (hS:¬ S b):IterAt w' b s k:=hb.blk h hS
theorem IterAt.pos {w:World} {b:Nat} {s:ByteArray} {k:Nat} (h:IterAt w b s k):w.iterPos b=off s.data.toList k:=by
 have h':w.heap[b]?=some (.stringIter s (off s.data.toList k)):=h
 simp [World.iterPos,h']
theorem off_less {s:ByteArray} {k:Nat} {c:Ck} (hc:(cks s.data.toList)[k]?=some c):s.size - off s.data.toList (k+1) < s.size - off s.data.toList k:=by
 have h1:=(decode_off hc).2.2
 have h2:=off_succ hc
 have h3:=(cks_ok _ c (List.mem_of_getElem? hc)).len
 omega
theorem IterAt.lt {w:World} {b:Nat} {s:ByteArray} {k:Nat} (h:IterAt w b s k):b < w.heap.size:=blk_lt h
theorem G.iter (w:World) (s:ByteArray) (p:Nat):G w (w.iter s p):=G.new w _
section
variable {P : Program}
theorem run_next_piece {w : World} {b : Nat} {s : ByteArray} {k : Nat} {c : Ck} (h : IterAt w b s k) (hc : (cks s.data.toList)[k]? = some c) :
  ∃w',(∀ty,(Instr.next (.pointer (some ⟨b,0,none⟩)) true ty).run P w=.ok (.tuple #[.bool true,.int .i64 (off s.data.toList k),.int .i32 c.r]) w')∧IterAt w' b s (k+1)∧But (fun k=>k=b) w w'∧w'.heap.size=w.heap.size:=by
 obtain ⟨h1,h2,h3⟩:=decode_off hc
 have hlt:=h.lt
 refine ⟨{ w with heap:=w.heap.setIfInBounds b (.stringIter s (off s.data.toList (k+1))) },?_,?_,⟨rfl,rfl,rfl,by simp,fun i hi hS=>?_⟩,by simp⟩
 ·intro ty
  have h':w.heap[b]?=some (.stringIter s (off s.data.toList k)):=h
  simp only [Instr.next,getObj,setObj,Sem.run_bind,Sem.run,h',Result.andThen,h3,if_true]
  rw [←h2,←h1]
  simp [goInt]
 ·show ({ w with heap:=w.heap.setIfInBounds b (.stringIter s (off s.data.toList (k+1))) }:World).heap[b]?=_
  simp [hlt]
 ·show (w.heap.setIfInBounds b _)[i]?=_
  rw [Array.getElem?_setIfInBounds_ne (by intro e;exact hS e.symm)]
theorem run_next_over {w : World} {b : Nat} {s : ByteArray} {k : Nat} (ty : TypeId) (h : IterAt w b s k) (hc : (cks s.data.toList).length ≤ k) :
  (Instr.next (.pointer (some ⟨b,0,none⟩)) true ty).run P w=.ok (.tuple #[.bool false]) w:=by
 have h':w.heap[b]?=some (.stringIter s (off s.data.toList k)):=h
 have h2:¬ off s.data.toList k < s.size:=by
  intro e
  have:=off_lt.1 (show off s.data.toList k < s.data.toList.length by simpa using e)
  omega
 simp [Instr.next,getObj,Sem.run,h',h2]
variable {ops : Array Oper} {rest : List Oper} {o : Oper} {a : Act} {Q : Exit → Act → World → Prop}
end
theorem piece_at {l:List UInt8} {k:Nat} (h:k < (cks l).length):∃c,(cks l)[k]?=some c:=⟨_,List.getElem?_eq_getElem h⟩
theorem G.next {W w w':World} {b:Nat} (h:G W w) (hb:But (fun k=>k=b) w w') (hw:W.heap.size≤b):G W w':=Below.trans h (hb.below h.size fun k _ e=>by omega)
end Go.Proofs.YtheogchkelmeeaaGreatDoor
/- The shelf's contracts at this seat's program, in plain declarations: written by the kit's own tools. No condition beyond each contract's. -/
namespace Go.Proofs
open Go.Shelf
def Tryz.lays193_ren:Go.Shelf.Ren:=⟨fun | 193=>114 | n=>n,fun | 31=>108 | 9=>9 | 4=>4 | 3=>3 | 0=>0 | n=>n,fun | n=>n⟩
theorem Tryz.lays193:Go.Proofs.Lays.n193 Tryz.prog Tryz.lays193_ren:={
 mixed:=by kernel_rfl
 f193:=Tryz.func114.trans (congrArg some (by kernel_rfl))
 t0:=Tryz.underlying0
 a0:=Tryz.isAgg0
 z0:=Tryz.sizeOf0
 v0:=Tryz.zeroValue0
 t3:=Tryz.underlying3
 a3:=Tryz.isAgg3
 z3:=Tryz.sizeOf3
 v3:=Tryz.zeroValue3
 t4:=Tryz.underlying4
 a4:=Tryz.isAgg4
 z4:=Tryz.sizeOf4
 v4:=Tryz.zeroValue4
 t9:=Tryz.underlying9
 a9:=Tryz.isAgg9
 z9:=Tryz.sizeOf9
 v9:=Tryz.zeroValue9
 t31:=Tryz.underlying108
 a31:=Tryz.isAgg108
 z31:=Tryz.sizeOf108
 v31:=Tryz.zeroValue108 }
open Go.RowKit Go.Lib in
theorem Tryz.slices_Equal_string (b1 o1 n c b2 o2 m d : Nat) (xs ys : List ByteArray) (w : World) (hx : n ≤ xs.length) (hy : m ≤ ys.length) (hbig : n ≤ 9223372036854775807) (hbig2 : m ≤ 9223372036854775807) (hc1 : ∀ j, j < xs.length → w.cell? ⟨b1, o1 + j, none⟩ = some (.string (xs.getD j ByteArray.empty))) (hc2 : ∀ j, j < ys.length → w.cell? ⟨b2, o2 + j, none⟩ = some (.string (ys.getD j ByteArray.empty))) :
  Calls Tryz.prog 114 #[.slice (some ⟨b1,o1,none⟩) n c,.slice (some ⟨b2,o2,none⟩) m d] w fun e w'=>e=.returned (.bool (decide (xs.take n=ys.take m)))∧∃q,w'=w.drewN q:=Any.slices_Equal_string Tryz.lays193 b1 o1 n c b2 o2 m d xs ys w hx hy hbig hbig2 hc1 hc2
open Go.RowKit Go.Lib in
theorem Tryz.slices_Equal_string_empty (a1 a2 : Option Addr) (c m d : Nat) (w : World) (hbig2 : m ≤ 9223372036854775807) :
  Calls Tryz.prog 114 #[.slice a1 0 c,.slice a2 m d] w fun e w'=>e=.returned (.bool (decide (m=0)))∧w'=w:=Any.slices_Equal_string_empty Tryz.lays193 a1 a2 c m d w hbig2
open Go.RowKit Go.Lib in
theorem Tryz.slices_Equal_string_lens (a1 a2 : Option Addr) (n c m d : Nat) (w : World) (hnm : n ≠ m) :
  Calls Tryz.prog 114 #[.slice a1 n c,.slice a2 m d] w fun e w'=>e=.returned (.bool false)∧w'=w:=Any.slices_Equal_string_lens Tryz.lays193 a1 a2 n c m d w hnm
def Tryz.lays196_ren:Go.Shelf.Ren:=⟨fun | 196=>119 | 259=>125 | n=>n,fun | 9=>9 | 4=>4 | 3=>3 | 5=>5 | 12=>12 | 119=>186 | 0=>0 | 46=>173 | 139=>189 | 138=>188 | 53=>112 | n=>n,fun | 3=>0 | 4=>1 | n=>n⟩
theorem Tryz.lays196:Go.Proofs.Lays.n196 Tryz.prog Tryz.lays196_ren:={
 mixed:=by kernel_rfl
 f196:=Tryz.func119.trans (congrArg some (by kernel_rfl))
 f259:=Tryz.func125.trans (congrArg some (by kernel_rfl))
 t0:=Tryz.underlying0
 a0:=Tryz.isAgg0
 z0:=Tryz.sizeOf0
 v0:=Tryz.zeroValue0
 t3:=Tryz.underlying3
 a3:=Tryz.isAgg3
 z3:=Tryz.sizeOf3
 v3:=Tryz.zeroValue3
 t4:=Tryz.underlying4
 a4:=Tryz.isAgg4
 z4:=Tryz.sizeOf4
 v4:=Tryz.zeroValue4
 t5:=Tryz.underlying5
 a5:=Tryz.isAgg5
 z5:=Tryz.sizeOf5
 v5:=Tryz.zeroValue5
 t9:=Tryz.underlying9
 a9:=Tryz.isAgg9
 z9:=Tryz.sizeOf9
 v9:=Tryz.zeroValue9
 t12:=Tryz.underlying12
 a12:=Tryz.isAgg12
 z12:=Tryz.sizeOf12
 v12:=Tryz.zeroValue12
 t46:=Tryz.underlying173
 a46:=Tryz.isAgg173
 z46:=Tryz.sizeOf173
 v46:=Tryz.zeroValue173
 t53:=Tryz.underlying112
 a53:=Tryz.isAgg112
 z53:=Tryz.sizeOf112
 v53:=Tryz.zeroValue112
 t119:=Tryz.underlying186
 a119:=Tryz.isAgg186
 z119:=Tryz.sizeOf186
 t138:=Tryz.underlying188
 a138:=Tryz.isAgg188
 z138:=Tryz.sizeOf188
 v138:=Tryz.zeroValue188
 t139:=Tryz.underlying189
 a139:=Tryz.isAgg189
 z139:=Tryz.sizeOf189
 v139:=Tryz.zeroValue189
 g3:=by kernel_rfl
 g4:=by kernel_rfl }
open Go.RowKit Go.Lib in
theorem Tryz.utf8_ValidString (s : ByteArray) (w : World) (hs : s.size ≤ 9223372036854775807) (hT : Lib.Utf8Tabs 0 1 w) :
  Calls Tryz.prog 119 #[.string s] w fun e w'=>e=.returned (.bool (Lib.validD s.data.toList))∧Below w.heap.size w w':=Any.utf8_ValidString Tryz.lays196 s w hs hT
end Go.Proofs
/- Texts as bytes; runes.Valid: what it answers. Conditions: the length fits an int; the decoder's tables lie as the library lays them. -/
namespace Go.Proofs.YtheogchkelmeeaaGreatDoor
open Go.RowKit Go.Lib
/-- The decoder's two tables lie as the library lays them. -/
def Tabs (w:World):Prop:=Lib.Utf8Tabs 0 1 w
theorem Tabs.g {w w':World} (h:Tabs w) (hg:G w w'):Tabs w':=Utf8Tabs_below h hg
/-- The text of some bytes. -/
def strOf (l:List UInt8):ByteArray:=⟨l.toArray⟩
theorem strOf_list (l:List UInt8):(strOf l).data.toList=l:=by simp [strOf]
theorem strOf_self (s:ByteArray):strOf s.data.toList=s:=by cases s;simp [strOf]
theorem strOf_size (l:List UInt8):(strOf l).size=l.length:=by simp [strOf,ByteArray.size]
set_option maxHeartbeats 400000 in
theorem valid_any (s : ByteArray) (w : World) (hs : s.size ≤ 9223372036854775807) (hT : Tabs w) :
  Calls Tryz.prog 110 #[.string s] w fun e w'=>e=.returned (.bool (validB s))∧G w w':=by
 have hv:=Tryz.utf8_ValidString s w hs hT
 rw [validB_eq] at hv
 go_enter Tryz.func110,Tryz.ntmps110
 go_wp2_with fail
 refine hv.mono ?_
 rintro e w1 ⟨rfl,hg⟩
 go_wp2_with fail
 go_ret
 exact ⟨rfl,hg⟩
end Go.Proofs.YtheogchkelmeeaaGreatDoor
/- Rows of the call's own, of whatever element type: append of a list onto them. No condition. -/
namespace Go.Proofs.YtheogchkelmeeaaGreatDoor
open Go.RowKit
/-- What the program's table says of a slice type t with elements of type e, each of sz cells, as the function f lays them. -/
structure IsElem {α:Type} (P:Program) (t e:TypeId) (sz bytes:Nat) (f:α→List Value):Prop where
 under:P.underlying t=some (.slice e)
 info:∃i z,P.info? e=some i∧i.zero=some z∧i.size=sz∧i.bytes=bytes∧z.cells.size=sz
 pos:0 < sz
 len:∀x,(f x).length=sz
 one:∀x,∀u ∈ f x,u.oneCell'=true
theorem isElem_of {α : Type} {P : Program} {t e : TypeId} {sz bytes : Nat} {f : α → List Value} {z : Value} (h1 : P.underlying t = some (.slice e)) (h2 : (P.info? e).map (fun i => (i.zero, i.size, i.bytes)) = some (some z, sz, bytes))
  (h3:z.cells.size=sz) (h4:0 < sz) (h5:∀x,(f x).length=sz) (h6:∀x,∀u ∈ f x,u.oneCell'=true):IsElem P t e sz bytes f:=by
 obtain ⟨i,a,b,c,d⟩:=info_parts h2
 exact ⟨h1,⟨i,z,a,b,c,d,h3⟩,h4,h5,h6⟩
/-- The slice value v is the call's own (its block from base on) and holds the list xs. -/
def OwnL {α:Type} (e:TypeId) (sz:Nat) (f:α→List Value) (w:World) (base:Nat) (v:Value) (xs:List α):Prop:=w.ownsRow base e sz v xs.length (xs.flatMap f)
/-- What an append onto a row of elements of type e of the call's own leaves as it was. -/
def KeepT (e:TypeId) (base:Nat) (w w':World):Prop:=Below base w w'∧∀(k:Nat) (cs:Array Value) (t:TypeId) (fz:Nat × Nat),t≠e→w.heap[k]?=some (.cells cs t fz)→w'.heap[k]?=some (.cells cs t fz)
section
variable {α : Type} {e : TypeId} {sz : Nat} {f : α → List Value} {w w' : World} {base : Nat} {v : Value} {xs ys : List α}
theorem flat_length (hf:∀x,(f x).length=sz) (xs:List α):(xs.flatMap f).length=xs.length * sz:=by
 induction xs with
 | nil=>simp
 | cons a xs ih=>rw [List.flatMap_cons,List.length_append,ih,hf,List.length_cons,Nat.succ_mul];omega
theorem Sl.of_none {B:Nat} (h:Sl f sz w B none xs):xs=[]:=by
 rcases xs with _ | ⟨x,xs⟩
 ·rfl
 ·obtain ⟨_,_,e,_⟩:=h (by simp)
  cases e
theorem KeepT.refl (e:TypeId) (base:Nat) (w:World):KeepT e base w w:=⟨Below.refl _ _,fun _ _ _ _ _ h=>h⟩
theorem KeepT.trans {a b c:World} (h:KeepT e base a b) (k:KeepT e base b c):KeepT e base a c:=⟨h.1.trans k.1,fun g cs t fz ht hh=>k.2 g cs t fz ht (h.2 g cs t fz ht hh)⟩
theorem KeepT.g {W:World} (h:KeepT e W.heap.size w w') (hg:G W w):G W w':=Below.trans hg h.1
theorem OwnL.g (h:OwnL e sz f w base v xs) (hg:G w w'):OwnL e sz f w' base v xs:=by
 refine ⟨h.1,?_⟩
 rcases h.2 with h1 | ⟨g,cap,cur,hv,hb,hh,hr⟩
 ·exact .inl h1
 ·exact .inr ⟨g,cap,cur,hv,hb,hg.blk hh,hr⟩
theorem OwnL.mono {base':Nat} (h:OwnL e sz f w base v xs) (hb:base'≤base):OwnL e sz f w base' v xs:=by
 refine ⟨h.1,?_⟩
 rcases h.2 with h1 | ⟨g,cap,cur,hv,hb2,hr⟩
 ·exact .inl h1
 ·exact .inr ⟨g,cap,cur,hv,by omega,hr⟩
theorem OwnL.nil:OwnL e sz f w base (.slice none 0 0) ([]:List α):=⟨by simp,.inl ⟨rfl,rfl⟩⟩
theorem OwnL.sl (hf:∀x,(f x).length=sz) (h:OwnL e sz f w base v xs):∃A c,v=.slice A xs.length c∧xs.length≤c∧c≤9223372036854775807∧Sl f sz w w.heap.size A xs:=by
 obtain ⟨hl,h⟩:=h
 rcases h with ⟨rfl,hn⟩ | ⟨g,cap,cur,rfl,hb,hh,hnc,hcm,hcs,hx⟩
 ·have:xs=[]:=List.eq_nil_of_length_eq_zero hn
  subst this
  exact ⟨none,0,rfl,by simp,by omega,Sl.nil⟩
 ·refine ⟨some ⟨g,0,none⟩,cap,rfl,hnc,by simpa [maxLen] using hcm,fun _=>⟨g,0,rfl,blk_lt hh,fun k x hxk j u hu=>?_⟩⟩
  have h1:=flat_get hf xs k x hxk j u hu
  have hk:k < xs.length:=(List.getElem?_eq_some_iff.1 hxk).1
  have hj:j < sz:=by rw [←hf x];exact (List.getElem?_eq_some_iff.1 hu).1
  have hlt:k * sz+j < xs.length * sz:=by
   have:=Nat.mul_le_mul_right sz (Nat.succ_le_of_lt hk)
   rw [Nat.succ_mul] at this
   omega
  rw [Nat.zero_add,blk_cell hh]
  rw [←hx,List.getElem?_take_of_lt hlt,Array.getElem?_toList] at h1
  exact h1
end
section
variable {α : Type} {P : Program} {t e : TypeId} {sz bytes : Nat} {f : α → List Value} (he : IsElem P t e sz bytes f)
include he
end
end Go.Proofs.YtheogchkelmeeaaGreatDoor

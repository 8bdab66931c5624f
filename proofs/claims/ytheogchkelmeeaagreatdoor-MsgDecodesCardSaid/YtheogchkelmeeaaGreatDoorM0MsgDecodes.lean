/- Several texts in one: Base, VarLaw. -/
import Derived.Test.YtheogchkelmeeaaGreatDoorChecked
import Derived.WalkKit
import Derived.WalkLawsBesides
import Derived.WalkSpells
import Derived.Lib.Hide
import Derived.Below
import Derived.Deep.LoopGhost
import Derived.Deep.DeepMust
import Derived.BigQuiet
import Derived.Deep.QuietTactic
import Derived.Deep.RegionHeld3
import Derived.Deep.RegionWith
import Derived.Deep.DeepCutAuto
/- Words and small lemmas on memory that all texts of this seat use. No condition. -/
namespace Go.Proofs.YtheogchkelmeeaaGreatDoor
open Go.RowKit
/-- w' is w with more blocks; of those of w none has turned. -/
def G (w w':World):Prop:=Below w.heap.size w w'
theorem G.refl (w:World):G w w:=Below.refl _ _
theorem G.size {w w':World} (h:G w w'):w.heap.size≤w'.heap.size:=Below.size h
theorem G.trans {a b c:World} (h:G a b) (k:G b c):G a c:=Below.trans h (Below.mono k (Below.size h))
theorem G.keep {a b c:World} (k:G b c) (h:G a b):G a c:=h.trans k
theorem G.drew {a w:World} (h:G a w):G a w.drew:=Below.drew h
theorem G.drewN {a w:World} (h:G a w) (n:Nat):G a (w.drewN n):=⟨h.os,h.tape,h.output,h.size,h.block⟩
theorem G.alloc {a w:World} (h:G a w) (o:Obj):G a (w.alloc o):=Below.alloc h h.size o
theorem G.new (w:World) (o:Obj):G w (w.alloc o):=(G.refl w).alloc o
theorem G.cell {w w':World} (h:G w w') {b o:Nat} (hb:b < w.heap.size):w'.cell? ⟨b,o,none⟩=w.cell? ⟨b,o,none⟩:=Below.cell (p:=⟨b,o,none⟩) h hb
theorem G.frozen {w w':World} (h:G w w') {b o:Nat} (hb:b < w.heap.size):w'.frozen? ⟨b,o,none⟩=w.frozen? ⟨b,o,none⟩:=Below.frozen (p:=⟨b,o,none⟩) h hb
theorem G.set {a w:World} (h:G a w) {p:Addr} (hp:a.heap.size≤p.block) (u:Value):G a (w.setCell p u):=Below.setCell h hp u
theorem G.grown {a w w':World} {row:Option Nat} (h:G a w) (hg:w.grownBy w' row) (hr:∀k,row=some k→a.heap.size≤k):G a w':=Below.grown h hg h.size hr
/-- A slice value whose address is A reads as the list xs, each element as the cells that f gives, sz of them; it lies below block B. -/
def Sl {α:Type} (f:α→List Value) (sz:Nat) (w:World) (B:Nat) (A:Option Addr) (xs:List α):Prop :=
 xs≠[]→∃b o,A=some ⟨b,o,none⟩∧b < B∧∀k x,xs[k]?=some x→∀j u,(f x)[j]?=some u→w.cell? ⟨b,o+k * sz+j,none⟩=some u
section
variable {α : Type} {f : α → List Value} {sz : Nat} {w w' : World} {B B' : Nat} {A : Option Addr} {xs : List α}
theorem Sl.nil:Sl f sz w B A []:=fun h=>absurd rfl h
theorem Sl.keep (h:Sl f sz w B A xs) (hk:∀b o,b < B→w'.cell? ⟨b,o,none⟩=w.cell? ⟨b,o,none⟩):Sl f sz w' B A xs:=fun hn=>by
 obtain ⟨b,o,e,hb,hc⟩:=h hn
 exact ⟨b,o,e,hb,fun k x hx j u hu=>(hk _ _ hb).trans (hc k x hx j u hu)⟩
theorem Sl.g (h:Sl f sz w B A xs) (hB:B≤w.heap.size) (hg:G w w'):Sl f sz w' B A xs:=h.keep fun _ _ hp=>hg.cell (Nat.lt_of_lt_of_le hp hB)
theorem Sl.more (h:Sl f sz w B A xs) (hB:B≤B'):Sl f sz w B' A xs:=fun hn=>by
 obtain ⟨b,o,e,hb,hc⟩:=h hn
 exact ⟨b,o,e,by omega,hc⟩
/-- The place of an element that is there. -/
theorem Sl.get {k : Nat} {x : α} (h : Sl f sz w B A xs) (hx : xs[k]? = some x) :
  ∃b o,A=some ⟨b,o,none⟩∧b < B∧∀j u,(f x)[j]?=some u→w.cell? ⟨b,o+k * sz+j,none⟩=some u:=by
 obtain ⟨b,o,e,hb,hc⟩:=h (by rintro rfl;simp at hx)
 exact ⟨b,o,e,hb,hc k x hx⟩
/-- Elements of one cell. -/
theorem Sl.get1 {g : α → Value} {k : Nat} {x : α} (h : Sl (fun x => [g x]) 1 w B A xs) (hx : xs[k]? = some x) :
  ∃b o,A=some ⟨b,o,none⟩∧b < B∧w.cell? ⟨b,o+k,none⟩=some (g x):=by
 obtain ⟨b,o,e,hb,hc⟩:=h.get hx
 exact ⟨b,o,e,hb,by simpa using hc 0 _ rfl⟩
end
theorem flat_get {α:Type} {f:α→List Value} {sz:Nat} (hf:∀x,(f x).length=sz):∀(xs:List α) (k:Nat) (x:α),xs[k]?=some x→∀j u,(f x)[j]?=some u→(xs.flatMap f)[k * sz+j]?=some u:=by
 intro xs
 induction xs with
 | nil=>intro k x h;simp at h
 | cons a xs ih =>
  intro k x h j u hu
  have hl:=hf a
  cases k with
  | zero =>
   simp at h;subst h
   have hj:j < sz:=by rw [←hl];exact (List.getElem?_eq_some_iff.1 hu).1
   rw [List.flatMap_cons,List.getElem?_append_left (by omega)]
   simpa using hu
  | succ k =>
   rw [List.flatMap_cons,List.getElem?_append_right (by rw [Nat.succ_mul];omega),hl]
   have:=ih k x (by simpa using h) j u hu
   rw [←this,Nat.succ_mul]
   congr 1
   omega
theorem blk_cell {w:World} {g:Nat} {cs:Array Value} {t:TypeId} {fz:Nat × Nat} (h:w.heap[g]?=some (.cells cs t fz)) (i:Nat):w.cell? ⟨g,i,none⟩=cs[i]?:=by simp [World.cell?,h]
theorem blk_lt {w:World} {g:Nat} {o:Obj} (h:w.heap[g]?=some o):g < w.heap.size:=by
 rcases Nat.lt_or_ge g w.heap.size with h1 | h1
 ·exact h1
 ·rw [Array.getElem?_eq_none h1] at h;cases h
theorem blk_new (w:World) (cs:Array Value) (t:TypeId):(w.alloc (.cells cs t)).heap[w.heap.size]?=some (.cells cs t (0,0)):=heap_alloc_new w _
theorem blk_new' (w:World) (cs:Array Value) (t:TypeId) (b:Nat) (hb:b=w.heap.size):(w.alloc (.cells cs t)).heap[b]?=some (.cells cs t (0,0)):=by rw [hb];exact heap_alloc_new w _
theorem G.blk {w w':World} (h:G w w') {g:Nat} {o:Obj} (hb:w.heap[g]?=some o):w'.heap[g]?=some o:=(h.block g (blk_lt hb)).trans hb
/-- A block that is known whole reads as the list that it holds. -/
theorem Sl.of_blk {α : Type} {f : α → List Value} {sz : Nat} (hf : ∀ x, (f x).length = sz) {w : World} {b B : Nat} {cs : Array Value} {t : TypeId} {fz : Nat × Nat} (xs : List α)
  (h:w.heap[b]?=some (.cells cs t fz)) (hcs:cs.toList=xs.flatMap f) (hB:b < B):Sl f sz w B (some ⟨b,0,none⟩) xs:=fun _ =>
 ⟨b,0,rfl,hB,fun k x hx j u hu=>by
  rw [Nat.zero_add,blk_cell h,←Array.getElem?_toList,hcs]
  exact flat_get hf xs k x hx j u hu⟩
def intC (x:Int):List Value:=[.int .i64 x]
def strC (s:ByteArray):List Value:=[.string s]
theorem Sl.int {w : World} {B : Nat} {A : Option Addr} {xs : List Int} {k : Nat} {x : Int} (h : Sl intC 1 w B A xs) (hx : xs[k]? = some x) :
  ∃b o,A=some ⟨b,o,none⟩∧b < B∧w.cell? ⟨b,o+k,none⟩=some (.int .i64 x):=Sl.get1 (g:=Value.int .i64) h hx
theorem Sl.str {w : World} {B : Nat} {A : Option Addr} {xs : List ByteArray} {k : Nat} {x : ByteArray} (h : Sl strC 1 w B A xs) (hx : xs[k]? = some x) :
  ∃b o,A=some ⟨b,o,none⟩∧b < B∧w.cell? ⟨b,o+k,none⟩=some (.string x):=Sl.get1 (g:=Value.string) h hx
/-- A Put as it lies: its Data's address and capacity beside what they hold. -/
structure PutM where
 stream:ByteArray
 expect:Int
 A:Option Addr
 c:Nat
 data:List ByteArray
def PutM.cells (p:PutM):List Value:=[.string p.stream,.int .i64 p.expect,.slice p.A p.data.length p.c]
theorem intC_len (x:Int):(intC x).length=1:=rfl
theorem strC_len (x:ByteArray):(strC x).length=1:=rfl
theorem PutM.cells_len (p:PutM):p.cells.length=3:=rfl
/-- The Puts of a batch. -/
def PutsIn (w:World) (B:Nat) (A:Option Addr) (ps:List PutM):Prop :=
 Sl PutM.cells 3 w B A ps∧∀p ∈ ps,Sl strC 1 w B p.A p.data
theorem PutsIn.g {w w':World} {B:Nat} {A:Option Addr} {ps:List PutM} (h:PutsIn w B A ps) (hB:B≤w.heap.size) (hg:G w w'):PutsIn w' B A ps :=
 ⟨h.1.g hB hg,fun p hp=>(h.2 p hp).g hB hg⟩
theorem ret_bool {a b:Bool} (h:a=b):Ending.returned (.bool a)=.returned (.bool b):=by rw [h]
end Go.Proofs.YtheogchkelmeeaaGreatDoor
/- Numbers and texts as bytes, and read again. Plain mathematics, no program. No condition. -/
namespace Go.Proofs.YtheogchkelmeeaaGreatDoor
/-- A number in groups of seven digits. -/
def vF:Nat→Nat→List UInt8
 | 0,_=>[]
 | n+1,v=>if v < 128 then [UInt8.ofNat v] else UInt8.ofNat (v % 128+128)::vF n (v / 128)
def vL (v:Nat):List UInt8:=vF 10 v
/-- The number that bytes begin with: i groups were read, acc is what they say. -/
def uF (i acc:Nat):List UInt8→Option (Nat × Nat)
 | []=>none
 | x::l=>if 10≤i then none else if 127 < x.toNat then uF (i+1) (acc+(x.toNat - 128) * 2 ^ (7 * i)) l
  else if (i=9∧1 < x.toNat)∨(0 < i∧x.toNat=0) then none else some (acc+x.toNat * 2 ^ (7 * i),i+1)
def uL (l:List UInt8):Option (Nat × Nat):=uF 0 0 l
theorem nat_u8 {n:Nat} (h:n < 256):(UInt8.ofNat n).toNat=n:=by rw [UInt8.toNat_ofNat'];omega
theorem vF_len:∀n v,(vF n v).length≤n
 | 0,_=>Nat.le_refl _
 | n+1,v=>by
  unfold vF
  split
  ·simp
  ·have:=vF_len n (v / 128)
   simp only [List.length_cons]
   omega
theorem vL_len (v:Nat):(vL v).length≤10:=vF_len 10 v
theorem vL_pos (v:Nat):0 < (vL v).length:=by
 unfold vL vF
 split <;> simp
theorem pow_step (i:Nat):2 ^ (7 * (i+1))=128 * 2 ^ (7 * i):=by
 rw [Nat.mul_add,Nat.mul_one,Nat.pow_add,Nat.mul_comm]
/-- What was written is read again, whatever stands behind. -/
theorem uF_vF:∀(n i acc v:Nat) (q:List UInt8),i+n=10→(i=0∨0 < v)→v * 2 ^ (7 * i) < 2 ^ 64→0 < n→uF i acc (vF n v++q)=some (acc+v * 2 ^ (7 * i),i+(vF n v).length)
 | 0,_,_,_,_,_,_,_,h=>by omega
 | n+1,i,acc,v,q,hi,hv,hb,_=>by
  unfold vF
  by_cases h:v < 128
  ·rw [if_pos h]
   show uF i acc (UInt8.ofNat v::q)=_
   rw [uF,nat_u8 (by omega),if_neg (by omega),if_neg (by omega)]
   have hno:¬ ((i=9∧1 < v)∨(0 < i∧v=0)):=by
    rintro (⟨rfl,h1⟩ | ⟨h1,h2⟩)
    ·have:2 * 2 ^ (7 * 9)≤v * 2 ^ (7 * 9):=Nat.mul_le_mul_right _ h1
     omega
    ·omega
   rw [if_neg hno]
   rfl
  ·rw [if_neg h]
   show uF i acc (UInt8.ofNat (v % 128+128)::(vF n (v / 128)++q))=_
   rw [uF,nat_u8 (by omega),if_neg (by omega),if_pos (by omega)]
   have hn:0 < n:=by
    rcases Nat.eq_zero_or_pos n with h0 | h0
    ·subst h0
     have hi9:i=9:=by omega
     subst hi9
     have:128 * 2 ^ (7 * 9)≤v * 2 ^ (7 * 9):=Nat.mul_le_mul_right _ (by omega)
     omega
    ·exact h0
   have hb2:v / 128 * 2 ^ (7 * (i+1))≤v * 2 ^ (7 * i):=by
    rw [pow_step,←Nat.mul_assoc]
    exact Nat.mul_le_mul_right _ (Nat.div_mul_le_self v 128)
   rw [uF_vF n (i+1) _ (v / 128) q (by omega) (.inr (by omega)) (by omega) hn]
   have e:acc+(v % 128+128 - 128) * 2 ^ (7 * i)+v / 128 * 2 ^ (7 * (i+1))=acc+v * 2 ^ (7 * i):=by
    rw [pow_step,←Nat.mul_assoc,Nat.add_sub_cancel,Nat.add_assoc,←Nat.add_mul]
    congr 2
    omega
   rw [e,List.length_cons,Nat.add_assoc i 1,Nat.add_comm 1]
theorem uL_vL {v:Nat} (h:v < 2 ^ 64) (q:List UInt8):uL (vL v++q)=some (v,(vL v).length):=by
 have:=uF_vF 10 0 0 v q rfl (.inl rfl) (by simpa using h) (by omega)
 simpa [uL,vL] using this
/-- What is read does not hang on what stands behind. -/
theorem uF_app:∀(l q:List UInt8) (i acc:Nat) (r:Nat × Nat),uF i acc l=some r→uF i acc (l++q)=some r
 | [],_,_,_,_,h=>by simp [uF] at h
 | x::l,q,i,acc,r,h=>by
  rw [List.cons_append]
  rw [uF] at h ⊢
  split
  ·rename_i h1;rw [if_pos h1] at h;exact h
  ·rename_i h1
   rw [if_neg h1] at h
   split
   ·rename_i h2;rw [if_pos h2] at h;exact uF_app l q _ _ r h
   ·rename_i h2;rw [if_neg h2] at h;exact h
theorem uF_bd:∀(l:List UInt8) (i acc v n:Nat),uF i acc l=some (v,n)→acc < 2 ^ (7 * i)→i < n∧n≤i+l.length∧n≤10∧v < 2 ^ 64
 | [],_,_,_,_,h,_=>by simp [uF] at h
 | x::l,i,acc,v,n,h,ha=>by
  have hx:=x.toNat_lt
  rw [uF] at h
  split at h
  ·cases h
  ·rename_i h1
   split at h
   ·rename_i h2
    have hb:acc+(x.toNat - 128) * 2 ^ (7 * i) < 2 ^ (7 * (i+1)):=by
     have h3:(x.toNat - 128) * 2 ^ (7 * i)≤127 * 2 ^ (7 * i):=Nat.mul_le_mul_right _ (by omega)
     rw [pow_step]
     omega
    obtain ⟨k1,k2,k3,k4⟩:=uF_bd l (i+1) _ v n h hb
    simp only [List.length_cons]
    exact ⟨by omega,by omega,k3,k4⟩
   ·rename_i h2
    split at h
    ·cases h
    ·rename_i h3
     simp only [Option.some.injEq,Prod.mk.injEq] at h
     obtain ⟨rfl,rfl⟩:=h
     rw [not_or] at h3
     simp only [List.length_cons]
     refine ⟨by omega,by omega,by omega,?_⟩
     by_cases h9:i=9
     ·subst h9
      have h4:x.toNat * 2 ^ (7 * 9)≤1 * 2 ^ (7 * 9):=Nat.mul_le_mul_right _ (by omega)
      omega
     ·have h4:x.toNat * 2 ^ (7 * i)≤127 * 2 ^ (7 * i):=Nat.mul_le_mul_right _ (by omega)
      have h5:2 ^ (7 * i)≤2 ^ (7 * 8):=Nat.pow_le_pow_right (by omega) (by omega)
      omega
theorem uL_bd {l:List UInt8} {v n:Nat} (h:uL l=some (v,n)):0 < n∧n≤l.length∧n≤10∧v < 2 ^ 64:=by
 have:=uF_bd l 0 0 v n h (by simp)
 omega
theorem uL_app {l:List UInt8} {r:Nat × Nat} (q:List UInt8) (h:uL l=some r):uL (l++q)=some r:=uF_app l q 0 0 r h
/-! Readers: what bytes begin with, and what is left. -/
def dNum (l:List UInt8):Option (Nat × List UInt8) :=
 match uL l with
 | some (v,n)=>some (v,l.drop n)
 | none=>none
def dCount (most:Nat) (l:List UInt8):Option (Nat × List UInt8) :=
 match dNum l with
 | some (v,r)=>if v≤most then some (v,r) else none
 | none=>none
/-- A text behind its length: the text's bytes, and how many bytes both take. -/
def tL (l:List UInt8):Option (List UInt8 × Nat) :=
 match uL l with
 | some (v,n)=>if v≤l.length - n then some ((l.drop n).take v,n+v) else none
 | none=>none
def dText (l:List UInt8):Option (List UInt8 × List UInt8) :=
 match tL l with
 | some (s,n)=>some (s,l.drop n)
 | none=>none
def textL (s:List UInt8):List UInt8:=vL s.length++s
theorem dNum_v {v:Nat} (h:v < 2 ^ 64) (q:List UInt8):dNum (vL v++q)=some (v,q):=by
 unfold dNum
 rw [uL_vL h]
 simp
theorem dCount_v {v m:Nat} (h:v < 2 ^ 64) (hm:v≤m) (q:List UInt8):dCount m (vL v++q)=some (v,q):=by
 unfold dCount
 rw [dNum_v h]
 simp [hm]
theorem dText_t {s:List UInt8} (h:s.length < 2 ^ 64) (q:List UInt8):dText (textL s++q)=some (s,q):=by
 unfold dText tL textL
 rw [List.append_assoc,uL_vL h]
 have e:s.length≤(vL s.length++(s++q)).length - (vL s.length).length:=by simp
 dsimp only
 rw [if_pos e]
 dsimp only
 rw [←List.drop_drop,List.drop_left,List.take_left,List.drop_left]
theorem dNum_app {l r:List UInt8} {v:Nat} (q:List UInt8) (h:dNum l=some (v,r)):dNum (l++q)=some (v,r++q):=by
 unfold dNum at *
 cases hu:uL l with
 | none=>rw [hu] at h;cases h
 | some x =>
  obtain ⟨v',n⟩:=x
  rw [hu] at h
  rw [uL_app q hu]
  simp only [Option.some.injEq,Prod.mk.injEq] at h ⊢
  obtain ⟨rfl,rfl⟩:=h
  exact ⟨rfl,List.drop_append_of_le_length (uL_bd hu).2.1⟩
theorem dCount_app {m:Nat} {l r:List UInt8} {v:Nat} (q:List UInt8) (h:dCount m l=some (v,r)):dCount m (l++q)=some (v,r++q):=by
 unfold dCount at *
 cases hd:dNum l with
 | none=>rw [hd] at h;cases h
 | some x =>
  obtain ⟨v',r'⟩:=x
  rw [hd] at h
  rw [dNum_app q hd]
  simp only at h ⊢
  split at h
  ·rename_i hm
   rw [if_pos hm]
   simp only [Option.some.injEq,Prod.mk.injEq] at h ⊢
   exact ⟨h.1,by rw [h.2]⟩
  ·cases h
theorem tL_bd {l s:List UInt8} {n:Nat} (h:tL l=some (s,n)):0 < n∧n≤l.length∧s.length < n:=by
 unfold tL at h
 cases hu:uL l with
 | none=>rw [hu] at h;cases h
 | some x =>
  obtain ⟨v,k⟩:=x
  rw [hu] at h
  simp only at h
  have hb:=uL_bd hu
  split at h
  ·rename_i hv
   simp only [Option.some.injEq,Prod.mk.injEq] at h
   obtain ⟨rfl,rfl⟩:=h
   rw [List.length_take,List.length_drop]
   omega
  ·cases h
theorem dText_app {l r s:List UInt8} (q:List UInt8) (h:dText l=some (s,r)):dText (l++q)=some (s,r++q):=by
 unfold dText at *
 cases ht:tL l with
 | none=>rw [ht] at h;cases h
 | some x =>
  obtain ⟨s',n⟩:=x
  rw [ht] at h
  simp only [Option.some.injEq,Prod.mk.injEq] at h
  obtain ⟨rfl,rfl⟩:=h
  have hb:=tL_bd ht
  have h2:tL (l++q)=some (s',n):=by
   unfold tL at *
   cases hu:uL l with
   | none=>rw [hu] at ht;cases ht
   | some x =>
    obtain ⟨v,k⟩:=x
    rw [hu] at ht
    rw [uL_app q hu]
    have hk:=uL_bd hu
    simp only at ht ⊢
    split at ht
    ·rename_i hv
     rw [if_pos (by rw [List.length_append];omega)]
     simp only [Option.some.injEq,Prod.mk.injEq] at ht ⊢
     obtain ⟨rfl,rfl⟩:=ht
     refine ⟨?_,rfl⟩
     rw [List.drop_append_of_le_length hk.2.1,List.take_append_of_le_length (by rw [List.length_drop];omega)]
    ·cases ht
  rw [h2]
  simp only [Option.some.injEq,Prod.mk.injEq,true_and]
  exact List.drop_append_of_le_length hb.2.1
/-- A reader that moves on, and that does not look beyond what it takes. -/
structure Rd {α:Type} (d:List UInt8→Option (α × List UInt8)):Prop where
 app:∀(l r q:List UInt8) (x:α),d l=some (x,r)→d (l++q)=some (x,r++q)
theorem rd_num:Rd dNum:=⟨fun _ _ q _ h=>dNum_app q h⟩
theorem rd_count (m:Nat):Rd (dCount m):=⟨fun _ _ q _ h=>dCount_app q h⟩
theorem rd_text:Rd dText:=⟨fun _ _ q _ h=>dText_app q h⟩
end Go.Proofs.YtheogchkelmeeaaGreatDoor

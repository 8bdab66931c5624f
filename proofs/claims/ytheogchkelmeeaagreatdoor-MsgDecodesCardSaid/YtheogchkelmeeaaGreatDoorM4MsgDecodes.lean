/- Several texts in one: Take, Ev, Sound, Ctl, Name. -/
import Derived.Test.YtheogchkelmeeaaGreatDoorUnvarintQMsgDecodes
import Derived.Test.YtheogchkelmeeaaGreatDoorM2MsgDecodes
import Derived.Test.YtheogchkelmeeaaGreatDoorM0MsgDecodes
import Derived.Laws.StructEq
import Derived.Test.YtheogchkelmeeaaGreatDoorM1MsgDecodes
/- bits.Take, penstockref3.Take: what they answer. Condition: a length that fits an int. -/
namespace Go.Proofs.YtheogchkelmeeaaGreatDoor
open Go.RowKit
/-- What Take answers. -/
def tT:Option (List UInt8 × Nat)→Value
 | some (s,n)=>.tuple #[.string (strOf s),.int .i64 n]
 | none=>.tuple #[.string ByteArray.empty,.int .i64 0]
theorem Sl.piece {w:World} {B b o:Nat} {l:List UInt8} (h:Sl byteC 1 w B (some ⟨b,o,none⟩) l) (n v:Nat):Sl byteC 1 w B (some ⟨b,o+n,none⟩) ((l.drop n).take v):=fun hne=>by
 obtain ⟨b',o',e,hb,hc⟩:=h (by rintro rfl;simp at hne)
 cases e
 refine ⟨b,o+n,rfl,hb,fun k x hx j u hu=>?_⟩
 have hk:k < ((l.drop n).take v).length:=(List.getElem?_eq_some_iff.1 hx).1
 rw [List.getElem?_take_of_lt (by simp at hk;omega),List.getElem?_drop] at hx
 have:=hc (n+k) x hx j u hu
 rw [show o+n+k * 1+j=o+(n+k) * 1+j by omega]
 exact this
set_option maxRecDepth 100000 in
set_option maxHeartbeats 1000000 in
theorem take_any (l : List UInt8) (A : Option Addr) (c : Nat) (w : World) (hs : Sl byteC 1 w w.heap.size A l) (hl : l.length ≤ 9223372036854775807) (hcap : l.length ≤ c) :
  Calls Tryz.prog 111 #[.slice A l.length c] w fun e w'=>e=.returned (tT (tL l))∧w=w':=by
 have hu:=unvarint_any l A c w hs hl
 go_enter Tryz.func111,Tryz.ntmps111
 go_wp2_with fail
 refine hu.mono ?_
 rintro e w1 ⟨rfl,rfl⟩
 rcases h:uL l with _ | ⟨v,n⟩
 ·have ht:tT (tL l)=.tuple #[.string ByteArray.empty,.int .i64 0]:=by unfold tL;rw [h];rfl
  replace ht:=Lib.hid ht
  unfold uT
  go_wp2_with fail
  go_ret2
  exact ⟨by rw [ht.out];rfl,rfl⟩
 ·unfold uT
  obtain ⟨b0,b1,b2⟩:0 < n∧n≤l.length∧v < 18446744073709551616:=by
   obtain ⟨h1,h2,_,h3⟩:=uL_bd h
   exact ⟨h1,h2,h3⟩
  have e1:((n:Int) == 0)=false:=by rw [beq_eq_false_iff_ne];omega
  have e2:IntKind.u64.wrap ((l.length:Int) - n)=((l.length - n:Nat):Int):=by
   rw [show ((l.length:Int) - n)=((l.length - n:Nat):Int) by omega,wrap_u64,Nat.mod_eq_of_lt (by omega)]
  have e3:IntKind.i64.wrap ((l.length:Int) - n)=(l.length:Int) - n:=by
   have g1:(0:Int)≤(l.length:Int) - n:=by omega
   have g2:(l.length:Int) - n≤9223372036854775807:=by omega
   exact IntWalk.i64_in _ (by omega)
  by_cases hv:v≤l.length - n
  ·have e4:¬ ((l.length - n:Nat):Int) < (v:Int):=by omega
   obtain ⟨x,hx⟩:∃x,l[0]?=some x:=⟨_,List.getElem?_eq_getElem (show 0 < l.length by omega)⟩
   obtain ⟨b,o,rfl,hb,hc⟩:=hs.byte hx
   have e5:(0:Int)≤(n:Int):=by omega
   have e6:(n:Int)≤(n:Int)+(v:Int):=by omega
   have e7:(n:Int)+(v:Int)≤(c:Int):=by omega
   have e8:(n:Int)+(v:Int)≤(l.length:Int):=by omega
   have hlen:((l.drop n).take v).length=v:=by rw [List.length_take,List.length_drop];omega
   have hsome:tT (tL l)=.tuple #[.string (strOf ((l.drop n).take v)),.int .i64 ((n:Int)+v)]:=by unfold tL;rw [h];simp only [];rw [if_pos hv];unfold tT;simp
   replace hsome:=Lib.hid hsome
   by_cases hcn:c=n
   ·have hv0:v=0:=by omega
    have hcv:=conv_back (w:=w) (B:=w.heap.size) (A:=some ⟨b,o,none⟩) (c:=0) (l:=(l.drop n).take v) (by rw [hv0];exact Sl.nil)
    rw [hlen] at hcv
    replace hv0:=Lib.hid hv0
    go_wp2_with fail
    go_ret2
    exact ⟨by rw [hsome.out];rfl,rfl⟩
   ·have hcv:=conv_back (c:=c - n) (hs.piece n v)
    rw [hlen] at hcv
    go_wp2_with fail
    go_ret2
    exact ⟨by rw [hsome.out];rfl,rfl⟩
  ·have e4:((l.length - n:Nat):Int) < (v:Int):=by omega
   have ht:tT (tL l)=.tuple #[.string ByteArray.empty,.int .i64 0]:=by unfold tL;rw [h];simp only [];rw [if_neg hv];rfl
   replace ht:=Lib.hid ht
   go_wp2_with fail
   go_ret2
   exact ⟨by rw [ht.out];rfl,rfl⟩
set_option maxRecDepth 100000 in
set_option maxHeartbeats 1000000 in
theorem refTake_any (l : List UInt8) (A : Option Addr) (c : Nat) (w : World) (hs : Sl byteC 1 w w.heap.size A l) (hl : l.length ≤ 9223372036854775807) (hcap : l.length ≤ c) :
  Calls Tryz.prog 77 #[.slice A l.length c] w fun e w'=>e=.returned (tT (tL l))∧w=w':=by
 have hu:=refUnvarint_any l A c w hs hl
 go_enter Tryz.func77,Tryz.ntmps77
 go_wp2_with fail
 refine hu.mono ?_
 rintro e w1 ⟨rfl,rfl⟩
 rcases h:uL l with _ | ⟨v,n⟩
 ·have ht:tT (tL l)=.tuple #[.string ByteArray.empty,.int .i64 0]:=by unfold tL;rw [h];rfl
  replace ht:=Lib.hid ht
  unfold uT
  go_wp2_with fail
  go_ret2
  exact ⟨by rw [ht.out];rfl,rfl⟩
 ·unfold uT
  obtain ⟨b0,b1,b2⟩:0 < n∧n≤l.length∧v < 18446744073709551616:=by
   obtain ⟨h1,h2,_,h3⟩:=uL_bd h
   exact ⟨h1,h2,h3⟩
  have e1:((n:Int) == 0)=false:=by rw [beq_eq_false_iff_ne];omega
  have e2:IntKind.u64.wrap ((l.length:Int) - n)=((l.length - n:Nat):Int):=by
   rw [show ((l.length:Int) - n)=((l.length - n:Nat):Int) by omega,wrap_u64,Nat.mod_eq_of_lt (by omega)]
  have e3:IntKind.i64.wrap ((l.length:Int) - n)=(l.length:Int) - n:=by
   have g1:(0:Int)≤(l.length:Int) - n:=by omega
   have g2:(l.length:Int) - n≤9223372036854775807:=by omega
   exact IntWalk.i64_in _ (by omega)
  by_cases hv:v≤l.length - n
  ·have e4:¬ ((l.length - n:Nat):Int) < (v:Int):=by omega
   obtain ⟨x,hx⟩:∃x,l[0]?=some x:=⟨_,List.getElem?_eq_getElem (show 0 < l.length by omega)⟩
   obtain ⟨b,o,rfl,hb,hc⟩:=hs.byte hx
   have e5:(0:Int)≤(n:Int):=by omega
   have e6:(n:Int)≤(n:Int)+(v:Int):=by omega
   have e7:(n:Int)+(v:Int)≤(c:Int):=by omega
   have e8:(n:Int)+(v:Int)≤(l.length:Int):=by omega
   have hlen:((l.drop n).take v).length=v:=by rw [List.length_take,List.length_drop];omega
   have hsome:tT (tL l)=.tuple #[.string (strOf ((l.drop n).take v)),.int .i64 ((n:Int)+v)]:=by unfold tL;rw [h];simp only [];rw [if_pos hv];unfold tT;simp
   replace hsome:=Lib.hid hsome
   by_cases hcn:c=n
   ·have hv0:v=0:=by omega
    have hcv:=conv_back (w:=w) (B:=w.heap.size) (A:=some ⟨b,o,none⟩) (c:=0) (l:=(l.drop n).take v) (by rw [hv0];exact Sl.nil)
    rw [hlen] at hcv
    replace hv0:=Lib.hid hv0
    go_wp2_with fail
    go_ret2
    exact ⟨by rw [hsome.out];rfl,rfl⟩
   ·have hcv:=conv_back (c:=c - n) (hs.piece n v)
    rw [hlen] at hcv
    go_wp2_with fail
    go_ret2
    exact ⟨by rw [hsome.out];rfl,rfl⟩
  ·have e4:((l.length - n:Nat):Int) < (v:Int):=by omega
   have ht:tT (tL l)=.tuple #[.string ByteArray.empty,.int .i64 0]:=by unfold tL;rw [h];simp only [];rw [if_neg hv];rfl
   replace ht:=Lib.hid ht
   go_wp2_with fail
   go_ret2
   exact ⟨by rw [ht.out];rfl,rfl⟩
end Go.Proofs.YtheogchkelmeeaaGreatDoor
/- Stamps and events: as Lean structures, as cells, held against each other by Go's == and !=. No condition. -/
namespace Go.Proofs.YtheogchkelmeeaaGreatDoor
open Go.RowKit
structure St where
 wall:Int
 logic:Int
 node:Int
 deriving DecidableEq
def St.cells (s:St):List Value:=[.int .i64 s.wall,.int .i64 s.logic,.int .i64 s.node]
structure Ev where
 stream:ByteArray
 version:Int
 data:ByteArray
 st:St
 index:Int
 deriving DecidableEq
def Ev.cells (e:Ev):List Value:=[.string e.stream,.int .i64 e.version,.string e.data,.int .i64 e.st.wall,.int .i64 e.st.logic,.int .i64 e.st.node,.int .i64 e.index]
theorem bytes_beq (a b:ByteArray):(a.toList == b.toList)=decide (a=b):=by
 rw [ByteArray.toList_eq,ByteArray.toList_eq]
 by_cases h:a=b
 ·subst h;simp
 ·rw [decide_eq_false h]
  have:¬ a.data.toList=b.data.toList:=fun e=>h (by cases a;cases b;simp only [ByteArray.mk.injEq];exact Array.toList_inj.1 e)
  simp only [beq_eq_false_iff_ne,ne_eq,this,not_false_eq_true]
def stB (a b:St):Bool:=decide (a=b)
def evB (a b:Ev):Bool:=decide (a=b)
section
variable (w : World)
theorem st_equal (a b:St):(Op.equalIn 10000 33 (.agg a.cells.toArray) (.agg b.cells.toArray)).run Tryz.prog w=.ok (stB a b) w:=by
 obtain ⟨a1,a2,a3⟩:=a
 obtain ⟨b1,b2,b3⟩:=b
 by_cases h1:a1=b1 <;> by_cases h2:a2=b2 <;> by_cases h3:a3=b3 <;> simp [go_sem,St.cells,stB,h1,h2,h3]
theorem st_eql (x y z x' y' z':Int):(binOp .eql 33 (.agg #[.int .i64 x,.int .i64 y,.int .i64 z]) (.agg #[.int .i64 x',.int .i64 y',.int .i64 z'])).run Tryz.prog w=.ok (.bool (stB ⟨x,y,z⟩ ⟨x',y',z'⟩)) w:=by
 have h:=st_equal w ⟨x,y,z⟩ ⟨x',y',z'⟩
 unfold St.cells at h
 rw [run_eql_struct,h]
 rfl
theorem ev_equal (a b:Ev):(Op.equalIn 10000 76 (.agg a.cells.toArray) (.agg b.cells.toArray)).run Tryz.prog w=.ok (evB a b) w:=by
 obtain ⟨a1,a2,a3,⟨a4,a5,a6⟩,a7⟩:=a
 obtain ⟨b1,b2,b3,⟨b4,b5,b6⟩,b7⟩:=b
 by_cases h1:a1=b1
 ·by_cases h2:a2=b2
  ·by_cases h3:a3=b3
   ·by_cases h4:a4=b4
    ·by_cases h5:a5=b5
     ·by_cases h6:a6=b6
      ·by_cases h7:a7=b7 <;> simp [go_sem,Ev.cells,evB,h1,h2,h3,h4,h5,h6,h7]
      ·simp [go_sem,Ev.cells,evB,h1,h2,h3,h4,h5,h6]
     ·simp [go_sem,Ev.cells,evB,h1,h2,h3,h4,h5]
    ·simp [go_sem,Ev.cells,evB,h1,h2,h3,h4]
   ·simp [go_sem,Ev.cells,evB,bytes_beq,h1,h2,h3]
  ·simp [go_sem,Ev.cells,evB,bytes_beq,h1,h2]
 ·simp [go_sem,Ev.cells,evB,bytes_beq,h1]
theorem ev_neq (s d s' d' : ByteArray) (v x y z i v' x' y' z' i' : Int) : (binOp .neq 76 (.agg #[.string s, .int .i64 v, .string d, .int .i64 x, .int .i64 y, .int .i64 z, .int .i64 i])
  (.agg #[.string s',.int .i64 v',.string d',.int .i64 x',.int .i64 y',.int .i64 z',.int .i64 i'])).run Tryz.prog w=.ok (.bool (!evB ⟨s,v,d,⟨x,y,z⟩,i⟩ ⟨s',v',d',⟨x',y',z'⟩,i'⟩)) w:=by
 have h:=ev_equal w ⟨s,v,d,⟨x,y,z⟩,i⟩ ⟨s',v',d',⟨x',y',z'⟩,i'⟩
 unfold Ev.cells at h
 rw [run_neq_struct,h]
 rfl
end
/-- The cells of a list of events, one behind the other. -/
def evs (es:List Ev):List Value:=es.flatMap Ev.cells
theorem Ev.cells_len (e:Ev):e.cells.length=7:=rfl
/-- The slice value v is the call's own (its block from base on) and holds the events es. -/
def Own (w:World) (base:Nat) (v:Value) (es:List Ev):Prop:=w.ownsRow base 76 7 v es.length (evs es)
end Go.Proofs.YtheogchkelmeeaaGreatDoor
/- stamp.Sound, penstockref7.Sound: the stamps that may be. Conditions: none. -/
namespace Go.Proofs.YtheogchkelmeeaaGreatDoor
open Go.RowKit
/-- A stamp's value. -/
def stV (a b c:Int):Value:=.agg #[.int .i64 a,.int .i64 b,.int .i64 c]
def soundB (a b c:Int):Bool:=decide (0≤a∧a≤1125899906842624∧0≤b∧b < 65536∧0≤c∧c≤5)
theorem within_any (n m : Int) (w : World) :
  Calls Tryz.prog 113 #[.int .i64 n,.int .i64 m] w fun e w'=>e=.returned (.bool (decide (0≤n∧n≤m)))∧w=w':=by
 go_enter Tryz.func113,Tryz.ntmps113
 by_cases h:0≤n
 ·by_cases h2:n≤m
  ·go_wp2_with fail
   go_ret
   exact ⟨by simp [h,h2],rfl⟩
  ·go_wp2_with fail
   go_ret
   exact ⟨by simp [h2],rfl⟩
 ·go_wp2_with fail
  go_ret
  exact ⟨by rw [show decide (0≤n)=false from decide_eq_false (by omega)];rfl,rfl⟩
theorem sound_any (a b c : Int) (w : World) :
  Calls Tryz.prog 102 #[stV a b c] w fun e w'=>e=.returned (.bool (soundB a b c))∧G w w':=by
 unfold stV
 go_enter Tryz.func102,Tryz.ntmps102
 have h1:=fun w=>within_any a 1125899906842624 w
 have h2:=fun w=>within_any b 65535 w
 have h3:=fun w=>within_any c 5 w
 by_cases d1:0≤a∧a≤1125899906842624
 ·have e1:decide (0≤a∧a≤1125899906842624)=true:=decide_eq_true d1
  by_cases d2:0≤b∧b≤65535
  ·have e2:decide (0≤b∧b≤65535)=true:=decide_eq_true d2
   simp only [e1] at h1
   simp only [e2] at h2
   go_wp2_with fail
   refine (h1 _).mono ?_
   rintro e w1 ⟨rfl,rfl⟩
   go_wp2_with fail
   refine (h2 _).mono ?_
   rintro e w1 ⟨rfl,rfl⟩
   go_wp2_with fail
   refine (h3 _).mono ?_
   rintro e w1 ⟨rfl,rfl⟩
   go_wp2_with fail
   go_ret
   exact ⟨by rw [show soundB a b c=(decide (0≤c) && decide (c≤5)) by unfold soundB;rw [←Bool.decide_and];exact decide_eq_decide.2 (by omega)];rfl,G.alloc (G.refl _) _⟩
  ·have e2:decide (0≤b∧b≤65535)=false:=decide_eq_false d2
   simp only [e1] at h1
   simp only [e2] at h2
   go_wp2_with fail
   refine (h1 _).mono ?_
   rintro e w1 ⟨rfl,rfl⟩
   go_wp2_with fail
   refine (h2 _).mono ?_
   rintro e w1 ⟨rfl,rfl⟩
   go_wp2_with fail
   go_ret
   exact ⟨by rw [show soundB a b c=false from decide_eq_false (by omega)];rfl,G.alloc (G.refl _) _⟩
 ·have e1:decide (0≤a∧a≤1125899906842624)=false:=decide_eq_false d1
  simp only [e1] at h1
  go_wp2_with fail
  refine (h1 _).mono ?_
  rintro e w1 ⟨rfl,rfl⟩
  go_wp2_with fail
  go_ret
  exact ⟨by rw [show soundB a b c=false from decide_eq_false (by omega)];rfl,G.alloc (G.refl _) _⟩
theorem refSound_any (a b c : Int) (w : World) :
  Calls Tryz.prog 82 #[stV a b c] w fun e w'=>e=.returned (.bool (soundB a b c))∧G w w':=by
 unfold stV
 go_enter Tryz.func82,Tryz.ntmps82
 by_cases d0:(0:Int)≤a
 case neg =>
  have e0:decide ((0:Int)≤a)=false:=decide_eq_false d0
  go_wp2_with fail
  go_ret
  exact ⟨by rw [show soundB a b c=false from decide_eq_false (by omega)];rfl,G.alloc (G.refl _) _⟩
 by_cases d1:a≤1125899906842624
 case neg =>
  have e1:decide (a≤1125899906842624)=false:=decide_eq_false d1
  go_wp2_with fail
  go_ret
  exact ⟨by rw [show soundB a b c=false from decide_eq_false (by omega)];rfl,G.alloc (G.refl _) _⟩
 by_cases d2:(0:Int)≤b
 case neg =>
  have e2:decide ((0:Int)≤b)=false:=decide_eq_false d2
  go_wp2_with fail
  go_ret
  exact ⟨by rw [show soundB a b c=false from decide_eq_false (by omega)];rfl,G.alloc (G.refl _) _⟩
 by_cases d3:b < 65536
 case neg =>
  have e3:decide (b < 65536)=false:=decide_eq_false d3
  go_wp2_with fail
  go_ret
  exact ⟨by rw [show soundB a b c=false from decide_eq_false (by omega)];rfl,G.alloc (G.refl _) _⟩
 by_cases d4:(0:Int)≤c
 case neg =>
  have e4:decide ((0:Int)≤c)=false:=decide_eq_false d4
  go_wp2_with fail
  go_ret
  exact ⟨by rw [show soundB a b c=false from decide_eq_false (by omega)];rfl,G.alloc (G.refl _) _⟩
 by_cases d5:c≤5
 case neg =>
  have e5:decide (c≤5)=false:=decide_eq_false d5
  go_wp2_with fail
  go_ret
  exact ⟨by rw [show soundB a b c=false from decide_eq_false (by omega)];rfl,G.alloc (G.refl _) _⟩
 go_wp2_with fail
 go_ret
 exact ⟨by rw [show soundB a b c=true from decide_eq_true (by omega)];rfl,G.alloc (G.refl _) _⟩
end Go.Proofs.YtheogchkelmeeaaGreatDoor
/- runes.control: what it answers. No condition. -/
namespace Go.Proofs.YtheogchkelmeeaaGreatDoor
open Go.RowKit Go.Lib
/-- A rune that is not shown. -/
def ctl (r:Int):Bool:=decide (r < 32) || decide (r=127)
set_option maxHeartbeats 400000 in
theorem control_any (r:Int) (w:World):Calls Tryz.prog 124 #[.int .i32 r] w fun e w'=>e=.returned (.bool (ctl r))∧w=w':=by
 by_cases h1:r < 32
 ·go_enter Tryz.func124,Tryz.ntmps124
  go_wp2
  go_ret
  exact ⟨ret_bool (by simp [ctl,h1]),rfl⟩
 ·by_cases h2:r=127
  ·subst h2
   go_enter Tryz.func124,Tryz.ntmps124
   go_wp2
   go_ret
   exact ⟨rfl,rfl⟩
  ·have h3:(r == 127)=false:=by rw [beq_eq_false_iff_ne];exact h2
   replace h2:=Lib.hid h2
   go_enter Tryz.func124,Tryz.ntmps124
   go_wp2
   go_ret
   exact ⟨ret_bool (by simp [ctl,h1,h2.out]),rfl⟩
end Go.Proofs.YtheogchkelmeeaaGreatDoor
/- runes.named, runes.every, runes.Name, runes.Key: what they answer. Conditions: the length fits an int; the decoder's tables lie as the library lays them. -/
namespace Go.Proofs.YtheogchkelmeeaaGreatDoor
open Go.RowKit
/-- May a rune stand in a name? -/
def namedB (r:Int):Bool:=decide (r=45∨r=95∨r=46∨r=47∨(97≤r∧r≤122)∨(65≤r∧r≤90)∨(48≤r∧r≤57)∨161≤r)
theorem namedB_t {r:Int} (h:r=45∨r=95∨r=46∨r=47∨(97≤r∧r≤122)∨(65≤r∧r≤90)∨(48≤r∧r≤57)∨161≤r):true=namedB r:=(decide_eq_true h).symm
theorem namedB_f {r:Int} (h:¬ (r=45∨r=95∨r=46∨r=47∨(97≤r∧r≤122)∨(65≤r∧r≤90)∨(48≤r∧r≤57)∨161≤r)):false=namedB r:=(decide_eq_false h).symm
set_option maxHeartbeats 1000000 in
theorem named_any (r:Int) (w:World):Calls Tryz.prog 118 #[.int .i32 r] w fun e w'=>e=.returned (.bool (namedB r))∧w=w':=by
 by_cases h1:r=45
 ·subst h1
  go_enter Tryz.func118,Tryz.ntmps118
  go_wp2
  go_ret
  exact ⟨rfl,rfl⟩
 by_cases h2:r=95
 ·subst h2
  go_enter Tryz.func118,Tryz.ntmps118
  go_wp2
  go_ret
  exact ⟨rfl,rfl⟩
 by_cases h3:r=46
 ·subst h3
  go_enter Tryz.func118,Tryz.ntmps118
  go_wp2
  go_ret
  exact ⟨rfl,rfl⟩
 by_cases h4:r=47
 ·subst h4
  go_enter Tryz.func118,Tryz.ntmps118
  go_wp2
  go_ret
  exact ⟨rfl,rfl⟩
 have b1:(r == 45)=false:=by rw [beq_eq_false_iff_ne];exact h1
 have b2:(r == 95)=false:=by rw [beq_eq_false_iff_ne];exact h2
 have b3:(r == 46)=false:=by rw [beq_eq_false_iff_ne];exact h3
 have b4:(r == 47)=false:=by rw [beq_eq_false_iff_ne];exact h4
 have hR:∀b,(b=true ↔ ((97≤r∧r≤122)∨(65≤r∧r≤90)∨(48≤r∧r≤57)∨161≤r))→b=namedB r:=fun b h=>by
  rw [Bool.eq_iff_iff,h]
  unfold namedB
  rw [decide_eq_true_iff]
  omega
 replace hR:=Lib.hid hR
 clear h1 h2 h3 h4
 by_cases t1:97≤r
 ·by_cases t2:r≤122
  ·go_enter Tryz.func118,Tryz.ntmps118
   go_wp2
   go_ret
   exact ⟨ret_bool (hR.out true (by simp;omega)),rfl⟩
  ·have t3:65≤r:=by omega
   have t4:¬ r≤90:=by omega
   have t5:48≤r:=by omega
   have t6:¬ r≤57:=by omega
   by_cases t7:161≤r
   ·go_enter Tryz.func118,Tryz.ntmps118
    go_wp2
    go_ret
    exact ⟨ret_bool (hR.out true (by simp;omega)),rfl⟩
   ·go_enter Tryz.func118,Tryz.ntmps118
    go_wp2
    go_ret
    exact ⟨ret_bool (hR.out false (by simp;omega)),rfl⟩
 ·have t7:¬ 161≤r:=by omega
  by_cases t3:65≤r
  ·by_cases t4:r≤90
   ·go_enter Tryz.func118,Tryz.ntmps118
    go_wp2
    go_ret
    exact ⟨ret_bool (hR.out true (by simp;omega)),rfl⟩
   ·have t5:48≤r:=by omega
    have t6:¬ r≤57:=by omega
    go_enter Tryz.func118,Tryz.ntmps118
    go_wp2
    go_ret
    exact ⟨ret_bool (hR.out false (by simp;omega)),rfl⟩
  ·by_cases t5:48≤r
   ·by_cases t6:r≤57
    ·go_enter Tryz.func118,Tryz.ntmps118
     go_wp2
     go_ret
     exact ⟨ret_bool (hR.out true (by simp;omega)),rfl⟩
    ·go_enter Tryz.func118,Tryz.ntmps118
     go_wp2
     go_ret
     exact ⟨ret_bool (hR.out false (by simp;omega)),rfl⟩
   ·go_enter Tryz.func118,Tryz.ntmps118
    go_wp2
    go_ret
    exact ⟨ret_bool (hR.out false (by simp;omega)),rfl⟩
/-- A rune that is shown. -/
def showB (r:Int):Bool:=!ctl r
set_option maxHeartbeats 400000 in
theorem keyFn_any (r:Int) (w:World):Calls Tryz.prog 123 #[.int .i32 r] w fun e w'=>e=.returned (.bool (showB r))∧w=w':=by
 go_enter Tryz.func123,Tryz.ntmps123
 go_wp2_with fail
 refine (control_any r w).mono ?_
 rintro e w1 ⟨rfl,rfl⟩
 go_wp2_with fail
 go_ret
 exact ⟨rfl,rfl⟩
/-- Has a text some number of runes at most, does something hold of all of them, and is it UTF-8? -/
def everyB (most:Int) (p:Int→Bool) (s:ByteArray):Bool:=decide (((cks s.data.toList).length:Int)≤most) && ((cks s.data.toList).all fun c=>p c.r) && validB s
theorem everyB_long {most:Int} {p:Int→Bool} {s:ByteArray} {k:Nat} (h:k < (cks s.data.toList).length) (hm:most < k+1):everyB most p s=false:=by
 unfold everyB
 rw [decide_eq_false (by omega)];rfl
theorem everyB_not {most:Int} {p:Int→Bool} {s:ByteArray} {k:Nat} {c:Ck} (h:(cks s.data.toList)[k]?=some c) (hp:p c.r=false):everyB most p s=false:=by
 unfold everyB
 have:((cks s.data.toList).all fun c=>p c.r)=false:=by
  rw [List.all_eq_false]
  exact ⟨c,List.mem_of_getElem? h,by rw [hp];simp⟩
 rw [this,Bool.and_false];rfl
theorem everyB_end {most:Int} {p:Int→Bool} {s:ByteArray} (hm:((cks s.data.toList).length:Int)≤most) (h:∀(j:Nat) (c:Ck),(cks s.data.toList)[j]?=some c→p c.r=true):everyB most p s=validB s:=by
 unfold everyB
 have:((cks s.data.toList).all fun c=>p c.r)=true:=by
  rw [List.all_eq_true]
  intro c hc
  obtain ⟨j,hj⟩:=List.getElem?_of_mem hc
  exact h j c hj
 rw [this,decide_eq_true hm];rfl
set_option maxHeartbeats 1000000 in
theorem everyNamed_any (s : ByteArray) (most : Int) (w : World) (hs : s.size ≤ 9223372036854775806) (hT : Tabs w) (hm0 : 0 ≤ most) :
  Calls Tryz.prog 117 #[.string s,.int .i64 most,.func (.func 118) #[] #[]] w fun e w'=>e=.returned (.bool (everyB most namedB s))∧G w w':=by
 have hl:(cks s.data.toList).length≤9223372036854775806:=Nat.le_trans (cks_length_le _) (by simpa using hs)
 replace hT:=Lib.hid hT
 go_enter Tryz.func117,Tryz.ntmps117
 go_wp2_with fail
 go_loopw [7] (fun n wr=>∃k:Nat,k≤(cks s.data.toList).length∧n=.int .i64 k∧(k:Int)≤most∧Hid (IterAt wr w.heap.size s k)∧Hid (∀j c,j < k→(cks s.data.toList)[j]?=some c→namedB c.r=true)∧G w wr) (fun n _=>(cks s.data.toList).length - (intOf n).toNat)
 case atStart=>exact ⟨0,Nat.zero_le _,rfl,hm0,IterAt.start w s,by intro j c h;omega,G.iter _ _ _⟩
 case round =>
  obtain ⟨k,hk,rfl,hkm,hit,hall,hg⟩:=hrel
  by_cases hlt:k < (cks s.data.toList).length
  ·obtain ⟨c,hc⟩:=piece_at hlt
   obtain ⟨w1,hnx,hit1,hbt,hsz⟩:=run_next_piece (P:=Tryz.prog) hit.out hc
   have hg1:=hg.next hbt (Nat.le_refl _)
   replace hit1:=Lib.hid hit1
   clear hsz hit hbt
   by_cases hmo:most < (k:Int)+1
   ·have hf:everyB most namedB s=false:=everyB_long hlt hmo
    replace hf:=Lib.hid hf
    clear hc
    go_wp2_with fail
    go_ret
    exact ⟨by rw [hf.out];rfl,hg1⟩
   ·have hmo2:(k:Int)+1≤most:=by omega
    have hna:=named_any c.r w1
    cases hp:namedB c.r with
    | false =>
     have hf:everyB most namedB s=false:=everyB_not hc hp
     rw [hp] at hna
     replace hf:=Lib.hid hf
     replace hp:=Lib.hid hp
     clear hc
     go_wp2_with fail
     refine hna.mono ?_
     rintro e w2 ⟨rfl,rfl⟩
     go_wp2_with fail
     go_ret
     exact ⟨by rw [hf.out];rfl,hg1⟩
    | true =>
     have hall2:∀j c,j < k+1→(cks s.data.toList)[j]?=some c→namedB c.r=true:=fun j c' hj h=>by
      rcases Nat.lt_or_ge j k with h1 | h1
      ·exact hall.out j c' h1 h
      ·obtain rfl:j=k:=by omega
       rw [hc] at h
       cases h
       exact hp
     rw [hp] at hna
     replace hall2:=Lib.hid hall2
     replace hp:=Lib.hid hp
     clear hc
     go_wp2_with fail
     refine hna.mono ?_
     rintro e w2 ⟨rfl,rfl⟩
     go_wp2_with fail
     go_roundw
     case rel=>exact ⟨k+1,by omega,by go_num,by omega,hit1,hall2,hg1⟩
     case measure=>(simp [intOf] <;> omega)
  ·have hnx:=fun ty=>run_next_over (P:=Tryz.prog) ty hit.out (by omega)
   have hf:everyB most namedB s=validB s:=everyB_end (by omega) fun j c h=>hall.out j c (by have:=(List.getElem?_eq_some_iff.1 h).1;omega) h
   have hv:=valid_any s wr (by omega) (hT.out.g hg)
   replace hf:=Lib.hid hf
   go_wp2_with fail
   refine hv.mono ?_
   rintro e w2 ⟨rfl,hg2⟩
   go_wp2_with fail
   go_ret
   exact ⟨by rw [hf.out];rfl,hg.trans hg2⟩
set_option maxHeartbeats 1000000 in
theorem everyKey_any (s : ByteArray) (most : Int) (w : World) (hs : s.size ≤ 9223372036854775806) (hT : Tabs w) (hm0 : 0 ≤ most) :
  Calls Tryz.prog 117 #[.string s,.int .i64 most,.func (.func 123) #[] #[]] w fun e w'=>e=.returned (.bool (everyB most showB s))∧G w w':=by
 have hl:(cks s.data.toList).length≤9223372036854775806:=Nat.le_trans (cks_length_le _) (by simpa using hs)
 replace hT:=Lib.hid hT
 go_enter Tryz.func117,Tryz.ntmps117
 go_wp2_with fail
 go_loopw [7] (fun n wr=>∃k:Nat,k≤(cks s.data.toList).length∧n=.int .i64 k∧(k:Int)≤most∧Hid (IterAt wr w.heap.size s k)∧Hid (∀j c,j < k→(cks s.data.toList)[j]?=some c→showB c.r=true)∧G w wr) (fun n _=>(cks s.data.toList).length - (intOf n).toNat)
 case atStart=>exact ⟨0,Nat.zero_le _,rfl,hm0,IterAt.start w s,by intro j c h;omega,G.iter _ _ _⟩
 case round =>
  obtain ⟨k,hk,rfl,hkm,hit,hall,hg⟩:=hrel
  by_cases hlt:k < (cks s.data.toList).length
  ·obtain ⟨c,hc⟩:=piece_at hlt
   obtain ⟨w1,hnx,hit1,hbt,hsz⟩:=run_next_piece (P:=Tryz.prog) hit.out hc
   have hg1:=hg.next hbt (Nat.le_refl _)
   replace hit1:=Lib.hid hit1
   clear hsz hit hbt
   by_cases hmo:most < (k:Int)+1
   ·have hf:everyB most showB s=false:=everyB_long hlt hmo
    replace hf:=Lib.hid hf
    clear hc
    go_wp2_with fail
    go_ret
    exact ⟨by rw [hf.out];rfl,hg1⟩
   ·have hmo2:(k:Int)+1≤most:=by omega
    have hna:=keyFn_any c.r w1
    cases hp:showB c.r with
    | false =>
     have hf:everyB most showB s=false:=everyB_not hc hp
     rw [hp] at hna
     replace hf:=Lib.hid hf
     replace hp:=Lib.hid hp
     clear hc
     go_wp2_with fail
     refine hna.mono ?_
     rintro e w2 ⟨rfl,rfl⟩
     go_wp2_with fail
     go_ret
     exact ⟨by rw [hf.out];rfl,hg1⟩
    | true =>
     have hall2:∀j c,j < k+1→(cks s.data.toList)[j]?=some c→showB c.r=true:=fun j c' hj h=>by
      rcases Nat.lt_or_ge j k with h1 | h1
      ·exact hall.out j c' h1 h
      ·obtain rfl:j=k:=by omega
       rw [hc] at h
       cases h
       exact hp
     rw [hp] at hna
     replace hall2:=Lib.hid hall2
     replace hp:=Lib.hid hp
     clear hc
     go_wp2_with fail
     refine hna.mono ?_
     rintro e w2 ⟨rfl,rfl⟩
     go_wp2_with fail
     go_roundw
     case rel=>exact ⟨k+1,by omega,by go_num,by omega,hit1,hall2,hg1⟩
     case measure=>(simp [intOf] <;> omega)
  ·have hnx:=fun ty=>run_next_over (P:=Tryz.prog) ty hit.out (by omega)
   have hf:everyB most showB s=validB s:=everyB_end (by omega) fun j c h=>hall.out j c (by have:=(List.getElem?_eq_some_iff.1 h).1;omega) h
   have hv:=valid_any s wr (by omega) (hT.out.g hg)
   replace hf:=Lib.hid hf
   go_wp2_with fail
   refine hv.mono ?_
   rintro e w2 ⟨rfl,hg2⟩
   go_wp2_with fail
   go_ret
   exact ⟨by rw [hf.out];rfl,hg.trans hg2⟩
/-- May a text name a stream? -/
def nameB (s:ByteArray):Bool:=!s.toList.isEmpty && everyB 40 namedB s
def keyB (s:ByteArray):Bool:=everyB 40 showB s
set_option maxHeartbeats 400000 in
theorem name_any (s : ByteArray) (w : World) (hs : s.size ≤ 9223372036854775806) (hT : Tabs w) :
  Calls Tryz.prog 108 #[.string s] w fun e w'=>e=.returned (.bool (nameB s))∧G w w':=by
 have he:=everyNamed_any s 40 w hs hT (by omega)
 unfold nameB
 cases hb:s.toList.isEmpty with
 | true =>
  have hb2:s.toList=[]:=List.isEmpty_iff.1 hb
  clear he
  go_enter Tryz.func108,Tryz.ntmps108
  go_wp2_with fail
  go_ret
  exact ⟨rfl,G.refl _⟩
 | false =>
  go_enter Tryz.func108,Tryz.ntmps108
  go_wp2_with fail
  refine he.mono ?_
  rintro e w1 ⟨rfl,hg⟩
  go_wp2_with fail
  go_ret
  exact ⟨rfl,hg⟩
set_option maxHeartbeats 400000 in
theorem key_any (s : ByteArray) (w : World) (hs : s.size ≤ 9223372036854775806) (hT : Tabs w) :
  Calls Tryz.prog 116 #[.string s] w fun e w'=>e=.returned (.bool (keyB s))∧G w w':=by
 have he:=everyKey_any s 40 w hs hT (by omega)
 go_enter Tryz.func116,Tryz.ntmps116
 go_wp2_with fail
 refine he.mono ?_
 rintro e w1 ⟨rfl,hg⟩
 go_wp2_with fail
 go_ret
 exact ⟨rfl,hg⟩
end Go.Proofs.YtheogchkelmeeaaGreatDoor

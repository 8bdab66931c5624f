/- Several texts in one: Gives, OwnStr, TextOf. -/
import Derived.Test.YtheogchkelmeeaaGreatDoorRdStampQMsgDecodes
import Derived.Test.YtheogchkelmeeaaGreatDoorM2MsgDecodes
import Derived.Lib.AppendStr
import Derived.Lib.SliceRun
/- How readers stand one behind the other. No condition. -/
namespace Go.Proofs.YtheogchkelmeeaaGreatDoor
open Go.RowKit
/-- From st on, d gives x and leaves st'; bad: of x nothing is said. -/
def Gives {α:Type} (d:Reader α) (st st':Option (List UInt8)) (x:α):Prop :=
 (st'=none∧st.bind d=none)∨∃l r,st=some l∧d l=some (x,r)∧st'=some r
section
variable {α β : Type} {d : Reader α} {k : α → Reader β} {st st1 st2 : Option (List UInt8)} {x : α} {y : β}
theorem gv_gives {z:α} {v:α} (h:gv z d st=(v,st1)):Gives d st st1 v:=by
 cases st with
 | none=>cases h;exact .inl ⟨rfl,rfl⟩
 | some l =>
  cases hd:d l with
  | none =>
   rw [gv_none hd] at h
   cases h
   exact .inl ⟨rfl,hd⟩
  | some p =>
   obtain ⟨a,r⟩:=p
   rw [gv_some hd] at h
   cases h
   exact .inr ⟨l,r,rfl,hd,rfl⟩
theorem Gives.bind (h:Gives d st st1 x) (h2:Gives (k x) st1 st2 y):Gives (rb d k) st st2 y:=by
 rcases h with ⟨rfl,hb⟩ | ⟨l,r,rfl,hd,rfl⟩
 ·rcases h2 with ⟨rfl,_⟩ | ⟨l,r,h,_⟩
  ·refine .inl ⟨rfl,?_⟩
   cases st with
   | none=>rfl
   | some l=>exact rb_none hb
  ·cases h
 ·rcases h2 with ⟨rfl,h3⟩ | ⟨l2,r2,h3,h4,rfl⟩
  ·exact .inl ⟨rfl,(rb_some hd).trans h3⟩
  ·cases h3
   exact .inr ⟨l,r2,rfl,(rb_some hd).trans h4,rfl⟩
theorem Gives.ret (x:α):Gives (rp x) st st x:=by
 cases st with
 | none=>exact .inl ⟨rfl,rfl⟩
 | some l=>exact .inr ⟨l,l,rfl,rfl,rfl⟩
theorem Gives.yes {b:Bool} (h:b=true) (x:α):Gives (rif b x) st st x:=by
 cases st with
 | none=>exact .inl ⟨rfl,rfl⟩
 | some l=>exact .inr ⟨l,l,rfl,if_pos h,rfl⟩
theorem Gives.no {b:Bool} (h:b=false) (x y:α):Gives (rif b x) st none y:=by
 cases st with
 | none=>exact .inl ⟨rfl,rfl⟩
 | some l=>exact .inl ⟨rfl,if_neg (by rw [h];simp)⟩
theorem Gives.bad (y:α):Gives d none none y:=.inl ⟨rfl,rfl⟩
theorem Gives.hit {l r:List UInt8} (h:Gives d (some l) (some r) x):d l=some (x,r):=by
 rcases h with ⟨h,_⟩ | ⟨_,_,h1,h2,h3⟩
 ·cases h
 ·cases h1
  cases h3
  exact h2
theorem Gives.miss {l:List UInt8} (h:Gives d (some l) none x):d l=none:=by
 rcases h with ⟨_,h⟩ | ⟨_,_,_,_,h⟩
 ·exact h
 ·cases h
/-- From a bad reader on all is bad. -/
theorem Gives.still (h:Gives d none st1 x):st1=none:=by
 rcases h with ⟨h,_⟩ | ⟨_,_,h,_⟩
 ·exact h
 ·cases h
theorem Gives.many0:Gives (dMany d 0) st st []:=Gives.ret []
theorem Gives.many {n:Nat} {xs:List α} (h:Gives d st st1 x) (h2:Gives (dMany d n) st1 st2 xs):Gives (dMany d (n+1)) st st2 (x::xs) :=
 h.bind (h2.bind (Gives.ret _))
theorem Gives.map {γ:Type} {f:α→γ} (h:Gives d st st1 x):Gives (rb d fun a=>rp (f a)) st st1 (f x):=h.bind (Gives.ret _)
/-- The same answer by another reader. -/
theorem Gives.as {d2:Reader α} (h:Gives d st st1 x) (he:∀l,st=some l→d2 l=d l):Gives d2 st st1 x:=by
 rcases h with ⟨rfl,hb⟩ | ⟨l,r,rfl,hd,rfl⟩
 ·refine .inl ⟨rfl,?_⟩
  cases st with
  | none=>rfl
  | some l=>exact (he l rfl).trans hb
 ·exact .inr ⟨l,r,rfl,(he l rfl).trans hd,rfl⟩
end
/-- A call gives some value and leaves the reader so. -/
def RdLoose {α:Type} (T:TypeId) (R:Nat) (A:Option Addr) (c8:Nat) (l0:List UInt8) (w:World) (f:α→Value) (d:Reader α) (st:Option (List UInt8)) (e:Ending) (w':World):Prop :=
 ∃x st',e=.returned (f x)∧RdS T R A c8 l0 st' w'∧But (fun k=>k=R) w w'∧Gives d st st' x
set_option maxRecDepth 100000 in
set_option maxHeartbeats 1000000 in
theorem eyeStamp_any (R : Nat) (A : Option Addr) (c8 : Nat) (l0 : List UInt8) (st : Option (List UInt8)) (w : World) (h : RdS 64 R A c8 l0 st w) (hl : l0.length ≤ 1073741824) (hcap : l0.length ≤ c8) :
  Calls Tryz.prog 19 #[.pointer (some ⟨R,0,none⟩)] w (RdLoose 64 R A c8 l0 w stVal dStamp st):=by
 have hRw:=h.lt
 have h0:=h.g (G.new w (.cells #[.int .i64 0,.int .i64 0,.int .i64 0] 33))
 have hS0:(w.alloc (.cells #[.int .i64 0,.int .i64 0,.int .i64 0] 33)).heap[w.heap.size]?=some (.cells #[.int .i64 0,.int .i64 0,.int .i64 0] 33 (0,0)):=blk_new _ _ _
 have hn1:=eyeNum_any R A c8 l0 st _ h0 hl hcap 1125899906842624 1125899906842624 rfl (by omega)
 obtain ⟨a,st1,h1⟩:∃v s,gv 0 (dCount 1125899906842624) st=(v,s):=⟨_,_,rfl⟩
 rw [h1] at hn1
 have g1:=gv_gives h1
 replace g1:=Lib.hid g1
 replace hS0:=Lib.hid hS0
 clear h1 h h0
 go_enter Tryz.func19,Tryz.ntmps19
 go_wp2_with fail
 refine hn1.mono ?_
 clear hn1
 rintro e w1 ⟨rfl,hr1,hb1⟩
 have hn2:=eyeNum_any R A c8 l0 st1 w1 hr1 hl hcap 65535 65535 rfl (by omega)
 obtain ⟨b,st2,h2⟩:∃v s,gv 0 (dCount 65535) st1=(v,s):=⟨_,_,rfl⟩
 rw [h2] at hn2
 have g2:=gv_gives h2
 replace g2:=Lib.hid g2
 replace hb1:=Lib.hid hb1
 clear h2 hr1
 go_wp2_with fail
 refine hn2.mono ?_
 clear hn2
 rintro e w2 ⟨rfl,hr2,hb2⟩
 have hn3:=eyeNum_any R A c8 l0 st2 w2 hr2 hl hcap 5 5 rfl (by omega)
 obtain ⟨c,st3,h3⟩:∃v s,gv 0 (dCount 5) st2=(v,s):=⟨_,_,rfl⟩
 rw [h3] at hn3
 have g3:=gv_gives h3
 replace g3:=Lib.hid g3
 replace hb2:=Lib.hid hb2
 clear h3 hr2
 go_wp2_with fail
 refine hn3.mono ?_
 clear hn3
 rintro e w3 ⟨rfl,hr3,hb3⟩
 have hbb:=(hb1.out.trans hb2.out).trans hb3
 have hS:=hbb.blk hS0.out (by omega)
 have hbw:=(But.of_g (S:=fun k=>k=R) (G.new w (.cells #[.int .i64 0,.int .i64 0,.int .i64 0] 33))).trans hbb
 have q0:=(blk_cell hS 0).trans (show _=some (.int .i64 0) from rfl)
 have q1:=(blk_cell hS 1).trans (show _=some (.int .i64 0) from rfl)
 have q2:=(blk_cell hS 2).trans (show _=some (.int .i64 0) from rfl)
 have fq:∀o,w3.frozen? ⟨w.heap.size,o,none⟩=false:=fun o=>by simp [World.frozen?,hS]
 have f0:=fq 0
 have f1:=fq 1
 have f2:=fq 2
 have hk3:=blk3 hS (.int .i64 a) (.int .i64 b) (.int .i64 c)
 have e0:=(blk_cell hk3 0).trans (show _=some (.int .i64 a) from rfl)
 have e1:=(blk_cell hk3 1).trans (show _=some (.int .i64 b) from rfl)
 have e2:=(blk_cell hk3 2).trans (show _=some (.int .i64 c) from rfl)
 have hbt:=hbw.set3 (Nat.le_refl _) (.int .i64 a) (.int .i64 b) (.int .i64 c)
 have hr4:=hr3.but (but_set3 w3 w.heap.size (.int .i64 a) (.int .i64 b) (.int .i64 c)) (by omega)
 replace e0:=Lib.hid e0
 replace e1:=Lib.hid e1
 replace e2:=Lib.hid e2
 replace hk3:=Lib.hid hk3
 replace hbt:=Lib.hid hbt
 replace hr4:=Lib.hid hr4
 clear fq hS hbw hbb hb1 hb2 hb3 hr3
 go_wp2_with fail
 have e0:=e0.out
 have e1:=e1.out
 have e2:=e2.out
 refine bodyPost_ret (v:=.agg #[.int .i64 a,.int .i64 b,.int .i64 c]) (by simp [results,Tryz.results19,go_sem,e0,e1,e2]) rfl ?_
 exact ⟨⟨a,b,c⟩,st3,rfl,hr4.out,hbt.out,g1.out.bind (g2.out.bind (g3.out.bind (Gives.ret _)))⟩
end Go.Proofs.YtheogchkelmeeaaGreatDoor
/- append of a text onto a row of bytes of the call's own. No condition. -/
namespace Go.Proofs.YtheogchkelmeeaaGreatDoor
open Go.RowKit Go.Lib
theorem strCells_eq (s:ByteArray):strCells s=s.data.toList.flatMap byteC:=by
 have:∀l:List UInt8,l.map (fun b=>Value.int .u8 b.toNat)=l.flatMap byteC:=fun l=>by
  induction l with
  | nil=>rfl
  | cons b l ih=>simp [byteC,ih]
 unfold strCells
 exact this _
theorem run_append_text (w : World) (ty : TypeId) (base : Nat) (v : Value) (xs : List UInt8) (hown : OwnL 5 1 byteC w base v xs) (s : ByteArray)
  (hlen:xs.length+s.size≤140737488355328) (hbase:base≤w.heap.size) :
  ∃v' w',(Builtin.append_ #[22,9] ty #[v,.string s]).run Tryz.prog w=.ok v' w'∧OwnL 5 1 byteC w' base v' (xs++s.data.toList)∧KeepT 5 base w w'∧But (fun k=>some k=v.ownBlock) w w':=by
 obtain ⟨i0,z,hi,hz0,hz1,hz2,hz3⟩:=byte_elem.info
 have hz:i0.zero=some (.int .u8 0):=by
  have h5:(Tryz.prog.info? 5).bind (·.zero)=some (.int .u8 0):=by kernel_rfl
  rw [hi] at h5
  exact h5
 obtain ⟨v',w',hrun,h1,h2,_⟩:=run_append_own_string (P:=Tryz.prog) w base 22 9 ty 5 i0 byte_elem.under Tryz.underlying9 hi hz hz1 hz2 v xs.length (xs.flatMap byteC) hown s (by unfold maxLen;omega) hlen hbase
 refine ⟨v',w',hrun,?_,⟨(Below.refl _ _).grown h2 hbase ?_,fun k cs t' fz ht' hh=>?_⟩,.of_grown h2 fun k hk=>hk.symm⟩
 ·show w'.ownsRow _ _ _ _ _ _
  rw [List.flatMap_append,List.length_append,←strCells_eq,show s.data.toList.length=s.size by simp]
  exact h1
 ·intro k hk
  rcases hown.2 with ⟨rfl,_⟩ | ⟨g,cap,cur,rfl,hbg,hh,_⟩
  ·simp [Value.ownBlock] at hk
  ·simp [Value.ownBlock] at hk;omega
 ·refine (h2.block k (blk_lt hh) ?_).trans hh
  intro hk
  rcases hown.2 with ⟨rfl,_⟩ | ⟨g,cap,cur,rfl,hbg,hh2,_⟩
  ·simp [Value.ownBlock] at hk
  ·simp [Value.ownBlock] at hk
   subst hk
   rw [hh] at hh2
   simp at hh2
   exact ht' hh2.2.1
theorem wp_append_text {o : Oper} {a : Act} {K : Act → World → Prop} {Q : Exit → Act → World → Prop} (w : World) (x y : Operand)
  (ho:o.op=.call { callee:=.builtin .append,args:=#[x,y],argTypes:=#[22,9] })
  (base:Nat) (v:Value) (xs:List UInt8) (hv:a.eval x=v) (hown:OwnL 5 1 byteC w base v xs) (s:ByteArray) (hx:a.eval y=.string s)
  (hlen:xs.length+s.size≤140737488355328) (hbase:base≤w.heap.size)
  (h:∀v' w',OwnL 5 1 byteC w' base v' (xs++s.data.toList)→KeepT 5 base w w'→But (fun k=>some k=v.ownBlock) w w'→K (a.put o.dst v') w'):o.wp Tryz.prog a w K Q:=by
 obtain ⟨v',w',hrun,h2,h3,h4⟩:=run_append_text w o.type base v xs hown s hlen hbase
 unfold Oper.wp execOp
 simp only [ho,resolve,invoke,builtin,Sem.run_bind,Sem.run_pure,Result.andThen_ok,List.map_toArray,List.map_cons,List.map_nil,hv,hx,hrun]
 exact h v' w' h2 h3 h4
theorem wpList_append_text {ops : Array Oper} {rest : List Oper} {o : Oper} {a : Act} {Q : Exit → Act → World → Prop} (w : World) (hgd : o.guard = none) (x y : Operand)
  (ho:o.op=.call { callee:=.builtin .append,args:=#[x,y],argTypes:=#[22,9] })
  (base:Nat) (v:Value) (xs:List UInt8) (hv:a.eval x=v) (hown:OwnL 5 1 byteC w base v xs) (s:ByteArray) (hx:a.eval y=.string s)
  (hlen:xs.length+s.size≤140737488355328) (hbase:base≤w.heap.size)
  (h:∀v' w',OwnL 5 1 byteC w' base v' (xs++s.data.toList)→KeepT 5 base w w'→But (fun k=>some k=v.ownBlock) w w'→wpList Tryz.prog ops Q rest (a.put o.dst v') w'):wpList Tryz.prog ops Q (o::rest) a w :=
 wpList_plain hgd fun _ hK=>wp_append_text w x y ho base v xs hv hown s hx hlen hbase fun v' w' h2 h3 h4=>hK _ _ (h v' w' h2 h3 h4)
end Go.Proofs.YtheogchkelmeeaaGreatDoor
/- bits.Text, penstockref3.Text, event.nums, penstockref7.num: what they answer. Conditions: lengths of at most 2^40. -/
namespace Go.Proofs.YtheogchkelmeeaaGreatDoor
open Go.RowKit
/-- A row of bytes that is the call's own from base on, longer than it was. -/
def GrownBytes (w:World) (base:Nat) (l:List UInt8) (e:Ending) (w':World):Prop:=∃A c,e=.returned (.slice A l.length c)∧OwnL 5 1 byteC w' base (.slice A l.length c) l∧KeepT 5 base w w'
theorem KeepT.of_g {e:TypeId} {base:Nat} {a b:World} (h:G a b) (hb:base≤a.heap.size):KeepT e base a b:=⟨Below.mono h hb,fun _ _ _ _ _ hh=>h.blk hh⟩
theorem KeepT.mono {e:TypeId} {base base':Nat} {a b:World} (h:KeepT e base a b) (hb:base'≤base):KeepT e base' a b:=⟨Below.mono h.1 hb,h.2⟩
set_option maxRecDepth 100000 in
set_option maxHeartbeats 400000 in
theorem clone_any (l : List UInt8) (A : Option Addr) (c : Nat) (w : World) (hs : Sl byteC 1 w w.heap.size A l) (hl : l.length ≤ 1099511627776) :
  Calls Tryz.prog 107 #[.slice A l.length c] w (RetBytes w l):=by
 rcases A with _ | ad
 ·obtain rfl:=hs.of_none
  clear hl hs
  have hq:=fun W A n c=>Lib.run_eql_slice_nil (P:=Tryz.prog) W 22 5 A n c 0 0 Tryz.underlying22
  go_enter Tryz.func107,Tryz.ntmps107
  go_wp2_with fail
  go_ret
  exact ⟨none,0,rfl,OwnL.nil,G.refl _⟩
 ·have hown:OwnL 5 1 byteC (w.alloc (.cells #[] 5)) w.heap.size (.slice (some ⟨w.heap.size,0,none⟩) 0 0) []:=OwnL.made byteC_len [] (blk_new _ _ _) rfl (Nat.le_refl _) (by simp)
  replace hown:=Lib.hid hown
  have hq:=fun W A n c=>Lib.run_eql_slice_nil (P:=Tryz.prog) W 22 5 A n c 0 0 Tryz.underlying22
  go_enter Tryz.func107,Tryz.ntmps107
  go_wp2_with (at_builtin;refine wpList_append_but byte_elem _ rfl (.tmp 5) (.tmp 6) rfl w.heap.size _ [] rfl hown.out w.heap.size (some ad) c l rfl (by intro h;cases h) (hs.g (Nat.le_refl _) (G.new _ _)) (by simp;omega) (by simp;omega) (by simp) ?_;intro v' w2 hown2 hkeep hbut)
  have hg2:G w w2:=hkeep.g (G.new _ _)
  rw [List.nil_append] at hown2
  obtain ⟨A2,c2,e2,_,_,_⟩:=OwnL.sl byteC_len hown2
  subst e2
  replace hown2:=Lib.hid hown2
  clear hkeep hbut
  go_wp2_with fail
  go_ret
  exact ⟨A2,c2,rfl,hown2.out,hg2⟩
set_option maxRecDepth 100000 in
set_option maxHeartbeats 1000000 in
theorem textOf_any (l : List UInt8) (A : Option Addr) (c : Nat) (s : ByteArray) (w : World) (hs : Sl byteC 1 w w.heap.size A l) (hl : l.length ≤ 1099511627776) (hz : s.size ≤ 1099511627776) :
  Calls Tryz.prog 91 #[.slice A l.length c,.string s] w (RetBytes w (l++textL s.data.toList)):=by
 have hc:=clone_any l A c w hs hl
 have hv:∀w',Calls Tryz.prog 94 #[.int .u64 s.size] w' (RetBytes w' (vL s.size)):=fun w'=>varint_any s.size w' (by omega)
 have hvl:=vL_len s.size
 have hw:IntKind.u64.wrap (s.size:Int)=(s.size:Int):=by rw [IntKind.wrap_u64];omega
 obtain ⟨m,hm⟩:∃m,l++vL s.size=m:=⟨_,rfl⟩
 have hll:m.length=l.length+(vL s.size).length:=by rw [←hm,List.length_append]
 have ht:l++textL s.data.toList=m++s.data.toList:=by unfold textL;rw [←hm,List.append_assoc,show s.data.toList.length=s.size by simp]
 replace hm:=Lib.hid hm
 replace hll:=Lib.hid hll
 obtain ⟨m2,hm2⟩:∃m2,m++s.data.toList=m2:=⟨_,rfl⟩
 replace hm2:=Lib.hid hm2
 replace ht:=Lib.hid ht
 replace hv:=Lib.hid hv
 clear hs
 go_enter Tryz.func91,Tryz.ntmps91
 go_wp2_with fail
 refine hc.mono ?_
 clear hc
 rintro e w1 ⟨A1,c1,rfl,hown1,hg1⟩
 replace hown1:=Lib.hid hown1
 go_wp2_with fail
 refine (hv.out w1).mono ?_
 clear hv
 rintro e w2 ⟨A2,c2,rfl,hown2,hg2⟩
 have hsl2:=OwnL.self byteC_len hown2
 have hown3:=hown1.out.g hg2
 have hz1:=hg1.size
 have hz2:=hg2.size
 have hA2:A2=none→vL s.size=[]:=fun h=>(h ▸ hsl2).of_none
 have hg3:=hg1.trans hg2
 clear hown1 hown2 hg1 hg2
 replace hown3:=Lib.hid hown3
 go_wp2_with (first
  | (at_builtin;refine wpList_append_but byte_elem _ rfl (.tmp 6) (.tmp 10) rfl w.heap.size _ l rfl hown3.out w2.heap.size A2 c2 (vL s.size) rfl hA2 hsl2 (by omega) (by omega) (by omega) ?_;intro v3 w3 hown4 hkeep hbut;clear hbut hA2 hsl2 hown3;replace hkeep:=hkeep.g hg3;have hz3:=hkeep.size;rw [hm.out] at hown4;obtain ⟨A3,c3,e3,_,_,_⟩:=OwnL.sl byteC_len hown4;subst e3;replace hown4:=Lib.hid hown4)
  | (at_builtin;refine wpList_append_text _ rfl (.tmp 11) (.tmp 12) rfl w.heap.size _ m rfl hown4.out s rfl (by rw [hll.out];omega) (by omega) ?_;intro v5 w5 hown5 hkeep5 hbut5;clear hbut5;replace hkeep5:=hkeep5.g hkeep;rw [hm2.out] at hown5;obtain ⟨A5,c5,e5,_,_,_⟩:=OwnL.sl byteC_len hown5;subst e5;replace hown5:=Lib.hid hown5))
 go_wp2_with fail
 go_ret
 rw [ht.out,hm2.out]
 exact ⟨A5,c5,rfl,hown5.out,hkeep5⟩
/-! Numbers behind bytes. -/
def u64C (n:Nat):List Value:=[.int .u64 n]
theorem u64C_len (n:Nat):(u64C n).length=1:=rfl
theorem Sl.u64 {w : World} {B : Nat} {A : Option Addr} {xs : List Nat} {k : Nat} {x : Nat} (h : Sl u64C 1 w B A xs) (hx : xs[k]? = some x) :
  ∃b o,A=some ⟨b,o,none⟩∧b < B∧w.cell? ⟨b,o+k,none⟩=some (.int .u64 x):=Sl.get1 (g:=fun n:Nat=>Value.int .u64 n) h hx
theorem flat_take_succ {α β:Type} (f:α→List β) {l:List α} {k:Nat} {x:α} (h:l[k]?=some x):(l.take (k+1)).flatMap f=(l.take k).flatMap f++f x:=by
 obtain ⟨hk,rfl⟩:=List.getElem?_eq_some_iff.1 h
 rw [List.take_succ_eq_append_getElem hk,List.flatMap_append]
 simp
theorem vLs_len (l:List Nat):(l.flatMap vL).length≤l.length * 10:=by
 induction l with
 | nil=>simp
 | cons x l ih =>
  rw [List.flatMap_cons,List.length_append,List.length_cons]
  have:=vL_len x
  omega
set_option maxRecDepth 100000 in
set_option maxHeartbeats 1000000 in
theorem nums_any (v0 : Value) (l : List UInt8) (A2 : Option Addr) (_c c2 B2 base : Nat) (ns : List Nat) (w : World) (hown : OwnL 5 1 byteC w base v0 l) (hbase : base ≤ w.heap.size) (hl : l.length ≤ 1099511627776)
  (hs:Sl u64C 1 w B2 A2 ns) (_hB:B2≤w.heap.size) (hn:ns.length≤100) (hns:∀n ∈ ns,n < 2 ^ 64) (hty:∀b o,A2=some ⟨b,o,none⟩→∃cs t fz,w.heap[b]?=some (.cells cs t fz)∧t≠5) :
  Calls Tryz.prog 90 #[v0,.slice A2 ns.length c2] w (GrownBytes w base (l++ns.flatMap vL)):=by
 obtain ⟨A0,c0,rfl,_,_,_⟩:=OwnL.sl byteC_len hown
 have hv:∀(n:Nat) (w':World),n < 2 ^ 64→Calls Tryz.prog 94 #[.int .u64 n] w' (RetBytes w' (vL n)):=fun n w' h=>varint_any n w' h
 replace hv:=Lib.hid hv
 replace hns:=Lib.hid hns
 replace hown:=Lib.hid hown
 have hcells:∀w',KeepT 5 base w w'→Sl u64C 1 w' B2 A2 ns:=fun w' hk hne=>by
  obtain ⟨b,o,e,hb,hc⟩:=hs hne
  obtain ⟨cs,t,fz,h1,h2⟩:=hty b o e
  refine ⟨b,o,e,hb,fun k x hx j u hu=>?_⟩
  have h3:=hk.2 b cs t fz h2 h1
  rw [blk_cell h3,←blk_cell h1]
  exact hc k x hx j u hu
 replace hcells:=Lib.hid hcells
 clear hs hty
 go_enter Tryz.func90,Tryz.ntmps90
 go_wp2_with fail
 go_loopw [0,9] (fun v i wr=>∃(k:Nat) (m:List UInt8) (A8:Option Addr) (c8:Nat),v=.slice A8 m.length c8∧i=.int .i64 k∧k≤ns.length∧Hid (m=l++(ns.take k).flatMap vL)∧Hid (OwnL 5 1 byteC wr base (.slice A8 m.length c8) m)∧Hid (KeepT 5 base w wr)∧w.heap.size≤wr.heap.size) (fun _ i _=>ns.length - (intOf i).toNat)
 case atStart=>exact ⟨0,l,A0,c0,rfl,rfl,Nat.zero_le _,by simp [Hid],hown,KeepT.refl _ _ _,Nat.le_refl _⟩
 case round =>
  obtain ⟨k,m,A8,c8,rfl,rfl,hk,hm,hown,hkeep,hz⟩:=hrel
  by_cases hlt:k < ns.length
  ·obtain ⟨x,hx⟩:∃x,ns[k]?=some x:=⟨_,List.getElem?_eq_getElem hlt⟩
   obtain ⟨b,o,rfl,hb,hc⟩:=(hcells.out _ hkeep.out).u64 hx
   have hx64:=hns.out x (List.mem_of_getElem? hx)
   have hv1:=hv.out x wr hx64
   have hfl:=flat_take_succ vL hx
   have hml:m.length≤1099511629776:=by
    rw [hm.out,List.length_append]
    have:=vLs_len (ns.take k)
    rw [List.length_take] at this
    omega
   have hvl:=vL_len x
   have n1:(0:Int)≤(k:Int):=by omega
   have n2:(k:Int) < (ns.length:Int):=by omega
   obtain ⟨m2,hm2⟩:∃m2,m++vL x=m2:=⟨_,rfl⟩
   replace hm2:=Lib.hid hm2
   replace hfl:=Lib.hid hfl
   clear hx hx64
   go_wp2_with fail
   refine hv1.mono ?_
   clear hv1
   rintro e w1 ⟨A2,c2,rfl,hown2,hg2⟩
   have hsl2:=OwnL.self byteC_len hown2
   have hown3:=hown.out.g hg2
   have hz2:=hg2.size
   have hA2:A2=none→vL x=[]:=fun h=>(h ▸ hsl2).of_none
   have hkeep1:=hkeep.out.trans (KeepT.of_g hg2 (Nat.le_trans hbase hz))
   replace hown3:=Lib.hid hown3
   clear hown2 hown hg2 hc
   go_wp2_with (at_builtin;refine wpList_append_but byte_elem _ rfl (.tmp 13) (.tmp 15) rfl base _ m rfl hown3.out w1.heap.size A2 c2 (vL x) rfl hA2 hsl2 (by omega) (by omega) (by omega) ?_;intro v3 w3 hown4 hkeep3 hbut;clear hbut hA2 hsl2 hown3;have hz3:=hkeep3.1.size;rw [hm2.out] at hown4;obtain ⟨A3,c3,e3,_,_,_⟩:=OwnL.sl byteC_len hown4;subst e3;replace hown4:=Lib.hid hown4;replace hkeep3:=Lib.hid (hkeep1.trans hkeep3);clear hkeep1)
   go_roundw
   case rel=>exact ⟨k+1,m2,A3,c3,rfl,by go_num,by omega,by unfold Hid;rw [hfl.out,←List.append_assoc,←hm.out,hm2.out],hown4,hkeep3,by omega⟩
   case measure=>(simp [intOf] <;> omega)
  ·have he:l++ns.flatMap vL=m:=by rw [hm.out,List.take_of_length_le (by omega)]
   replace he:=Lib.hid he
   go_wp2_with fail
   go_ret
   rw [he.out]
   exact ⟨A8,c8,rfl,hown.out,hkeep.out⟩
set_option maxRecDepth 100000 in
set_option maxHeartbeats 1000000 in
theorem num7_any (v0 : Value) (l : List UInt8) (base n : Nat) (w : World) (hown : OwnL 5 1 byteC w base v0 l) (hbase : base ≤ w.heap.size) (hl : l.length ≤ 1099511627776) (ni : Int) (hni : ni = n) (hn : n ≤ 4611686018427387904) :
  Calls Tryz.prog 84 #[v0,.int .i64 ni] w (GrownBytes w base (l++vL n)):=by
 subst hni
 obtain ⟨A0,c0,rfl,_,_,_⟩:=OwnL.sl byteC_len hown
 have hv:=refVarint_any n w (by omega)
 have hw:IntKind.u64.wrap (n:Int)=(n:Int):=by rw [IntKind.wrap_u64];omega
 have hvl:=vL_len n
 obtain ⟨m2,hm2⟩:∃m2,l++vL n=m2:=⟨_,rfl⟩
 rw [hm2]
 replace hm2:=Lib.hid hm2
 replace hown:=Lib.hid hown
 go_enter Tryz.func84,Tryz.ntmps84
 go_wp2_with fail
 refine hv.mono ?_
 clear hv
 rintro e w1 ⟨A2,c2,rfl,hown2,hg2⟩
 have hsl2:=OwnL.self byteC_len hown2
 have hown3:=hown.out.g hg2
 have hz2:=hg2.size
 have hA2:A2=none→vL n=[]:=fun h=>(h ▸ hsl2).of_none
 have hkeep1:=KeepT.of_g (e:=5) hg2 hbase
 replace hown3:=Lib.hid hown3
 clear hown2 hown hg2
 go_wp2_with (at_builtin;refine wpList_append_but byte_elem _ rfl (.tmp 5) (.tmp 8) rfl base _ l rfl hown3.out w1.heap.size A2 c2 (vL n) rfl hA2 hsl2 (by omega) (by omega) (by omega) ?_;intro v3 w3 hown4 hkeep3 hbut;clear hbut hA2 hsl2 hown3;have hz3:=hkeep3.1.size;rw [hm2.out] at hown4;obtain ⟨A3,c3,e3,_,_,_⟩:=OwnL.sl byteC_len hown4;subst e3;replace hown4:=Lib.hid hown4;replace hkeep3:=Lib.hid (hkeep1.trans hkeep3);clear hkeep1)
 go_wp2_with fail
 go_ret
 exact ⟨A3,c3,rfl,hown4.out,hkeep3.out⟩
set_option maxRecDepth 100000 in
set_option maxHeartbeats 1000000 in
theorem refTextOf_any (l : List UInt8) (A : Option Addr) (c : Nat) (s : ByteArray) (w : World) (hs : Sl byteC 1 w w.heap.size A l) (hl : l.length ≤ 1099511627776) (hz : s.size ≤ 1099511627776) :
  Calls Tryz.prog 83 #[.slice A l.length c,.string s] w (RetBytes w (l++textL s.data.toList)):=by
 have hv:∀w',Calls Tryz.prog 87 #[.int .u64 s.size] w' (RetBytes w' (vL s.size)):=fun w'=>refVarint_any s.size w' (by omega)
 have hvl:=vL_len s.size
 have hw:IntKind.u64.wrap (s.size:Int)=(s.size:Int):=by rw [IntKind.wrap_u64];omega
 obtain ⟨m,hm⟩:∃m,l++vL s.size=m:=⟨_,rfl⟩
 have hll:m.length=l.length+(vL s.size).length:=by rw [←hm,List.length_append]
 have ht:l++textL s.data.toList=m++s.data.toList:=by unfold textL;rw [←hm,List.append_assoc,show s.data.toList.length=s.size by simp]
 replace hm:=Lib.hid hm
 replace hll:=Lib.hid hll
 obtain ⟨m2,hm2⟩:∃m2,m++s.data.toList=m2:=⟨_,rfl⟩
 replace hm2:=Lib.hid hm2
 replace ht:=Lib.hid ht
 replace hv:=Lib.hid hv
 have hown0:OwnL 5 1 byteC (w.alloc (.cells #[] 5)) w.heap.size (.slice (some ⟨w.heap.size,0,none⟩) 0 0) []:=OwnL.made byteC_len [] (blk_new _ _ _) rfl (Nat.le_refl _) (by simp)
 replace hown0:=Lib.hid hown0
 have hA:A=none→l=[]:=fun h=>(h ▸ hs).of_none
 have hs1:=hs.g (Nat.le_refl _) (G.new w (.cells #[] 5))
 replace hs1:=Lib.hid hs1
 clear hs
 go_enter Tryz.func83,Tryz.ntmps83
 go_wp2_with (at_builtin;refine wpList_append_but byte_elem _ rfl (.tmp 6) (.tmp 7) rfl w.heap.size _ [] rfl hown0.out w.heap.size A c l rfl hA hs1.out (by simp;omega) (by simp;omega) (by simp) ?_;intro v1 w1 hown1 hkeep1 hbut;clear hbut hA hs1 hown0;have hg1:G w w1:=hkeep1.g (G.new _ _);clear hkeep1;rw [List.nil_append] at hown1;obtain ⟨A1,c1,e1,_,_,_⟩:=OwnL.sl byteC_len hown1;subst e1;replace hown1:=Lib.hid hown1)
 refine (hv.out w1).mono ?_
 clear hv
 rintro e w2 ⟨A2,c2,rfl,hown2,hg2⟩
 have hsl2:=OwnL.self byteC_len hown2
 have hown3:=hown1.out.g hg2
 have hz1:=hg1.size
 have hz2:=hg2.size
 have hA2:A2=none→vL s.size=[]:=fun h=>(h ▸ hsl2).of_none
 have hg3:=hg1.trans hg2
 clear hown1 hown2 hg1 hg2
 replace hown3:=Lib.hid hown3
 go_wp2_with (first
  | (at_builtin;refine wpList_append_but byte_elem _ rfl (.tmp 9) (.tmp 13) rfl w.heap.size _ l rfl hown3.out w2.heap.size A2 c2 (vL s.size) rfl hA2 hsl2 (by omega) (by omega) (by omega) ?_;intro v3 w3 hown4 hkeep hbut;clear hbut hA2 hsl2 hown3;replace hkeep:=hkeep.g hg3;have hz3:=hkeep.size;rw [hm.out] at hown4;obtain ⟨A3,c3,e3,_,_,_⟩:=OwnL.sl byteC_len hown4;subst e3;replace hown4:=Lib.hid hown4)
  | (at_builtin;refine wpList_append_text _ rfl (.tmp 14) (.tmp 15) rfl w.heap.size _ m rfl hown4.out s rfl (by rw [hll.out];omega) (by omega) ?_;intro v5 w5 hown5 hkeep5 hbut5;clear hbut5;replace hkeep5:=hkeep5.g hkeep;rw [hm2.out] at hown5;obtain ⟨A5,c5,e5,_,_,_⟩:=OwnL.sl byteC_len hown5;subst e5;replace hown5:=Lib.hid hown5))
 go_wp2_with fail
 go_ret
 rw [ht.out,hm2.out]
 exact ⟨A5,c5,rfl,hown5.out,hkeep5⟩
end Go.Proofs.YtheogchkelmeeaaGreatDoor

/- Several texts in one: RdTook, MsgRdP, MsgRdQ. -/
import Derived.Test.YtheogchkelmeeaaGreatDoorM29MsgDecodes
import Derived.Test.YtheogchkelmeeaaGreatDoorM30MsgDecodes
import Derived.Test.YtheogchkelmeeaaGreatDoorM9MsgDecodes
import Derived.Test.YtheogchkelmeeaaGreatDoorMsgDecLawQMsgDecodes
import Derived.Test.YtheogchkelmeeaaGreatDoorM27MsgDecodes
import Derived.Test.YtheogchkelmeeaaGreatDoorStDecQMsgDecodes
import Derived.Test.YtheogchkelmeeaaGreatDoorM20MsgDecodes
/- What a piece that is read leaves of the bytes. No condition. -/
namespace Go.Proofs.YtheogchkelmeeaaGreatDoor
open Go.RowKit
/-- What a piece that is read leaves of the bytes. -/
def tk (st:Option (List UInt8)) (n:Nat):Option (List UInt8):=st.bind fun l=>if n=0 then none else some (l.drop n)
theorem tk_gives {α:Type} {d:Reader α} {st:Option (List UInt8)} {n:Nat} {x:α} (h:∀l,st=some l→(d l=none∧n=0)∨∃r,d l=some (x,r)∧0 < n∧l.drop n=r):Gives d st (tk st n) x:=by
 cases st with
 | none=>exact .inl ⟨rfl,rfl⟩
 | some l =>
  rcases h l rfl with ⟨h1,rfl⟩ | ⟨r,h1,h2,h3⟩
  ·exact .inl ⟨rfl,h1⟩
  ·refine .inr ⟨l,r,rfl,h1,?_⟩
   show (if n=0 then none else some (l.drop n))=some r
   rw [if_neg (by omega),h3]
/-- Of a reader that takes what f writes: how much it took. -/
theorem cn_took {α:Type} {d:Reader α} {f:α→List UInt8} (hd:Cn d f) (he:Eats d) {l r:List UInt8} {x:α} (h:d l=some (x,r)):0 < l.length - r.length∧l.length - r.length≤l.length∧l.drop (l.length - r.length)=r:=by
 have h1:=hd l x r h
 have h2:=he l x r h
 refine ⟨by omega,by omega,?_⟩
 have h3:l.length - r.length=(f x).length:=by rw [h1];simp
 rw [h3]
 conv=>lhs;rw [h1]
 simp
def TookPost (T:TypeId) (R D L:Nat) (w:World) (st:Option (List UInt8)) (e:Ending) (w':World):Prop:=∃b,e=.returned (.bool b)∧BrS T R D L st w'∧But (fun k=>k=R) w w'
end Go.Proofs.YtheogchkelmeeaaGreatDoor
/- msg.reader's tx, span, stamp, batch, flag, many: what they answer. Conditions: at most 2^19 bytes; the decoder's tables lie as the library lays them. -/
namespace Go.Proofs.YtheogchkelmeeaaGreatDoor
open Go.RowKit
/-- What a reader of a value of many numbers answers. -/
def MrPost {α:Type} (R D L:Nat) (w:World) (d:Reader α) (st:Option (List UInt8)) (f:α→Value) (e:Ending) (w':World):Prop :=
 ∃x st',e=.returned (f x)∧BrS 59 R D L st' w'∧But (fun k=>k=R) w w'∧Gives d st st' x
theorem gives_i {m:Nat} {st st1:Option (List UInt8)} {v:Nat} (h:gv 0 (dCount m) st=(v,st1)):Gives (mI m) st st1 (v:Int):=(gv_gives h).bind (Gives.ret _)
def Tr.val (t:Tr):Value:=.agg #[.int .i64 t.a,.int .i64 t.b,.int .i64 t.c]
def Rg.val (t:Rg):Value:=.agg #[.int .i64 t.a,.int .i64 t.b,.int .i64 t.c,.int .i64 t.d]
def St.val (t:St):Value:=.agg #[.int .i64 t.wall,.int .i64 t.logic,.int .i64 t.node]
theorem msgTake_any (R D L : Nat) (st : Option (List UInt8)) (n : Nat) (w : World) (h : BrS 59 R D L st w) (hl : ∀ l, st = some l → n ≤ l.length) (hL : L ≤ 1073741824) :
  Calls Tryz.prog 71 #[.pointer (some ⟨R,0,none⟩),.int .i64 n] w (TookPost 59 R D L w (tk st n)):=by
 cases st with
 | none=>exact (msgTook_bad R D L none n w h (.inl rfl)).mono fun e w' ⟨h1,h2,h3⟩=>⟨_,h1,h2,h3⟩
 | some l =>
  by_cases hn:n=0
  ·have e:tk (some l) n=none:=by unfold tk;simp [hn]
   rw [e]
   exact (msgTook_bad R D L _ n w h (.inr hn)).mono fun e w' ⟨h1,h2,h3⟩=>⟨_,h1,h2,h3⟩
  ·have e:tk (some l) n=some (l.drop n):=by unfold tk;simp [hn]
   rw [e]
   exact (msgTook_ok R D L l n w h (by omega) (hl l rfl) hL).mono fun e w' ⟨h1,h2,h3⟩=>⟨_,h1,h2,h3⟩
/-- The reader's num at whatever state. -/
theorem msgNumI (R D L : Nat) (st : Option (List UInt8)) (w : World) (h : BrS 59 R D L st w) (hL : L ≤ 1073741824) (v : Nat) (s : Option (List UInt8)) (hv : gv 0 cM st = (v, s)) :
  Calls Tryz.prog 37 #[.pointer (some ⟨R,0,none⟩)] w (BrPost 59 R D L w (.int .i64 v) s):=by
 have h1:=msgNum_any R D L st w h hL
 rw [hv] at h1
 exact h1
set_option maxRecDepth 100000 in
set_option maxHeartbeats 2000000 in
theorem mrTx_any (R D L : Nat) (st : Option (List UInt8)) (w : World) (h : BrS 59 R D L st w) (hL : L ≤ 1073741824) :
  Calls Tryz.prog 34 #[.pointer (some ⟨R,0,none⟩)] w (MrPost R D L w mTx st Tr.val):=by
 obtain ⟨v1,s1,hv1⟩:∃v s,gv 0 cM st=(v,s):=⟨_,_,rfl⟩
 obtain ⟨v2,s2,hv2⟩:∃v s,gv 0 cM s1=(v,s):=⟨_,_,rfl⟩
 obtain ⟨v3,s3,hv3⟩:∃v s,gv 0 cM s2=(v,s):=⟨_,_,rfl⟩
 have hc1:=fun w' h=>msgNumI R D L st w' h hL v1 s1 hv1
 have hc2:=fun w' h=>msgNumI R D L s1 w' h hL v2 s2 hv2
 have hc3:=fun w' h=>msgNumI R D L s2 w' h hL v3 s3 hv3
 have hgi:Gives mTx st s3 ⟨v1,v2,v3⟩:=(gives_i hv1).bind ((gives_i hv2).bind ((gives_i hv3).bind (Gives.ret _)))
 have hlt:=h.lt
 have hg0:=G.new w (.cells #[.int .i64 0,.int .i64 0,.int .i64 0] 28)
 have B0:=blk_new w #[.int .i64 0,.int .i64 0,.int .i64 0] 28
 have hr0:=h.g hg0
 replace hc1:=Lib.hid hc1
 replace hc2:=Lib.hid hc2
 replace hc3:=Lib.hid hc3
 replace hgi:=Lib.hid hgi
 replace hg0:=Lib.hid hg0
 clear h hv1 hv2 hv3
 go_enter Tryz.func34,Tryz.ntmps34
 go_upto_region 1 with fail
 generalize w.alloc (.cells #[.int .i64 0,.int .i64 0,.int .i64 0] 28)=W0 at *
 go_wp2_with (first
  | (go_at_call 37;(with_reducible refine Calls.mono (hc3.out _ hr2) ?_);rintro e u3 ⟨rfl,hr3,hb3⟩;have B3:=hb3.blk B2 (Nat.ne_of_gt hlt);obtain ⟨w9,SR9,C9,hb9,_⟩:=store_blk (P:=Tryz.prog) (T:=28) (cs:=#[.int .i64 v1,.int .i64 v2,.int .i64 v3]) B3 rfl (by kernel_rfl) (by kernel_rfl);have hr9:=hr3.but hb9 (fun k hk=>by have e:k=w.heap.size:=hk;have:=hr3.le;omega);replace C9:=Lib.hid C9;replace hr9:=Lib.hid hr9;have hbz:=Lib.hid (hb2.trans hb3);clear hr2 hr3 B2 B3)
  | (go_at_call 37;(with_reducible refine Calls.mono (hc2.out _ hr1) ?_);rintro e u2 ⟨rfl,hr2,hb2'⟩;have B2:=hb2'.blk B1 (Nat.ne_of_gt hlt);have hb2:=hb1.trans hb2';clear hr1 B1)
  | (go_at_call 37;(with_reducible refine Calls.mono (hc1.out _ hr0) ?_);rintro e u1 ⟨rfl,hr1,hb1⟩;have B1:=hb1.blk B0 (Nat.ne_of_gt hlt);clear hr0 B0)
  | (refine wpList_store_at (ty:=28) rfl (by kernel_rfl) (p:=.pointer (some ⟨w.heap.size,0,none⟩)) rfl rfl SR9 ?_;clear SR9))
 refine bodyPost_ret (v:=.agg #[.int .i64 v1,.int .i64 v2,.int .i64 v3]) (results_cell (i:=2) rfl rfl C9.out Tryz.underlying28 rfl (by kernel_rfl)) rfl ?_
 exact ⟨⟨v1,v2,v3⟩,s3,rfl,hr9.out,((But.of_g hg0.out).trans hbz.out).over hb9 (fun k hk=>.inl (by omega)),hgi.out⟩
set_option maxRecDepth 100000 in
set_option maxHeartbeats 2000000 in
theorem mrSpan_any (R D L : Nat) (st : Option (List UInt8)) (w : World) (h : BrS 59 R D L st w) (hL : L ≤ 1073741824) :
  Calls Tryz.prog 40 #[.pointer (some ⟨R,0,none⟩)] w (MrPost R D L w mRg st Rg.val):=by
 obtain ⟨v1,s1,hv1⟩:∃v s,gv 0 cM st=(v,s):=⟨_,_,rfl⟩
 obtain ⟨v2,s2,hv2⟩:∃v s,gv 0 cM s1=(v,s):=⟨_,_,rfl⟩
 obtain ⟨v3,s3,hv3⟩:∃v s,gv 0 cM s2=(v,s):=⟨_,_,rfl⟩
 obtain ⟨v4,s4,hv4⟩:∃v s,gv 0 cM s3=(v,s):=⟨_,_,rfl⟩
 have hc1:=fun w' h=>msgNumI R D L st w' h hL v1 s1 hv1
 have hc2:=fun w' h=>msgNumI R D L s1 w' h hL v2 s2 hv2
 have hc3:=fun w' h=>msgNumI R D L s2 w' h hL v3 s3 hv3
 have hc4:=fun w' h=>msgNumI R D L s3 w' h hL v4 s4 hv4
 have hgi:Gives mRg st s4 ⟨v1,v2,v3,v4⟩:=(gives_i hv1).bind ((gives_i hv2).bind ((gives_i hv3).bind ((gives_i hv4).bind (Gives.ret _))))
 have hlt:=h.lt
 have hg0:=G.new w (.cells #[.int .i64 0,.int .i64 0,.int .i64 0,.int .i64 0] 36)
 have B0:=blk_new w #[.int .i64 0,.int .i64 0,.int .i64 0,.int .i64 0] 36
 have hr0:=h.g hg0
 replace hc1:=Lib.hid hc1
 replace hc2:=Lib.hid hc2
 replace hc3:=Lib.hid hc3
 replace hc4:=Lib.hid hc4
 replace hgi:=Lib.hid hgi
 replace hg0:=Lib.hid hg0
 clear h hv1 hv2 hv3 hv4
 go_enter Tryz.func40,Tryz.ntmps40
 go_upto_region 1 with fail
 generalize w.alloc (.cells #[.int .i64 0,.int .i64 0,.int .i64 0,.int .i64 0] 36)=W0 at *
 go_wp2_with (first
  | (go_at_call 37;(with_reducible refine Calls.mono (hc4.out _ hr3) ?_);rintro e u4 ⟨rfl,hr4,hb4⟩;have B4:=hb4.blk B3 (Nat.ne_of_gt hlt);obtain ⟨w9,SR9,C9,hb9,_⟩:=store_blk (P:=Tryz.prog) (T:=36) (cs:=#[.int .i64 v1,.int .i64 v2,.int .i64 v3,.int .i64 v4]) B4 rfl (by kernel_rfl) (by kernel_rfl);have hr9:=hr4.but hb9 (fun k hk=>by have e:k=w.heap.size:=hk;have:=hr4.le;omega);replace C9:=Lib.hid C9;replace hr9:=Lib.hid hr9;have hbz:=Lib.hid (hb3.trans hb4);clear hr3 hr4 B3 B4)
  | (go_at_call 37;(with_reducible refine Calls.mono (hc3.out _ hr2) ?_);rintro e u3 ⟨rfl,hr3,hb3'⟩;have B3:=hb3'.blk B2 (Nat.ne_of_gt hlt);have hb3:=hb2.trans hb3';clear hr2 B2)
  | (go_at_call 37;(with_reducible refine Calls.mono (hc2.out _ hr1) ?_);rintro e u2 ⟨rfl,hr2,hb2'⟩;have B2:=hb2'.blk B1 (Nat.ne_of_gt hlt);have hb2:=hb1.trans hb2';clear hr1 B1)
  | (go_at_call 37;(with_reducible refine Calls.mono (hc1.out _ hr0) ?_);rintro e u1 ⟨rfl,hr1,hb1⟩;have B1:=hb1.blk B0 (Nat.ne_of_gt hlt);clear hr0 B0)
  | (refine wpList_store_at (ty:=36) rfl (by kernel_rfl) (p:=.pointer (some ⟨w.heap.size,0,none⟩)) rfl rfl SR9 ?_;clear SR9))
 refine bodyPost_ret (v:=.agg #[.int .i64 v1,.int .i64 v2,.int .i64 v3,.int .i64 v4]) (results_cell (i:=2) rfl rfl C9.out Tryz.underlying36 rfl (by kernel_rfl)) rfl ?_
 exact ⟨⟨v1,v2,v3,v4⟩,s4,rfl,hr9.out,((But.of_g hg0.out).trans hbz.out).over hb9 (fun k hk=>.inl (by omega)),hgi.out⟩
end Go.Proofs.YtheogchkelmeeaaGreatDoor
/- msg.reader's stamp, batch, flag, many: what they answer. Conditions: at most 2^19 bytes; the decoder's tables lie as the library lays them. -/
namespace Go.Proofs.YtheogchkelmeeaaGreatDoor
open Go.RowKit
theorem cut_gives {m K:Nat} (hK:K≤m) {st st1:Option (List UInt8)} {v:Nat} (h:gv 0 (dCount m) st=(v,st1)):Gives (dCount K) st (if v≤K then st1 else none) v:=by
 cases st with
 | none =>
  cases h
  exact .inl ⟨by split <;> rfl,rfl⟩
 | some l =>
  cases hd:dCount m l with
  | none =>
   rw [gv_none hd] at h
   cases h
   exact .inl ⟨by split <;> rfl,dCount_less hd hK⟩
  | some y =>
   obtain ⟨v',q⟩:=y
   rw [gv_some hd] at h
   cases h
   by_cases hv:v≤K
   ·rw [if_pos hv]
    exact .inr ⟨l,q,rfl,dCount_le hd hv,rfl⟩
   ·rw [if_neg hv]
    exact .inl ⟨rfl,dCount_gt hd (by omega)⟩
theorem mr_typed {T:TypeId} {R D L b:Nat} {st:Option (List UInt8)} {w:World} {cs:Array Value} (h:BrS 59 R D L st w) (hk:w.heap[b]?=some (.cells cs T (0,0))) (hT:T≠59):¬ b=R:=by
 rintro rfl
 obtain ⟨c,h1⟩:=h.blk
 rw [h1] at hk
 simp at hk
 exact hT hk.2.symm
set_option maxRecDepth 100000 in
set_option maxHeartbeats 2000000 in
theorem mrMany_any (R D L : Nat) (st : Option (List UInt8)) (w : World) (h : BrS 59 R D L st w) (hL : L ≤ 1073741824) :
  Calls Tryz.prog 74 #[.pointer (some ⟨R,0,none⟩)] w (fun e w'=>∃(v:Nat) (st':Option (List UInt8)),e=.returned (.int .i64 v)∧BrS 59 R D L st' w'∧But (fun k=>k=R) w w'∧Gives (dCount 1000) st st' v∧v≤1099511627776):=by
 obtain ⟨v,s1,hv⟩:∃v s,gv 0 cM st=(v,s):=⟨_,_,rfl⟩
 have hvb:v≤1099511627776:=gv_bound (P:=(·≤1099511627776)) hv (by decide) (fun l y r h=>(dCount_num h).2)
 have hc:=Lib.hid (msgNumI R D L st w h hL v s1 hv)
 have hgi:=Lib.hid (cut_gives (K:=1000) (by decide) hv)
 have hR:=h.lt
 clear h hv
 go_enter Tryz.func74,Tryz.ntmps74
 go_upto_region 2 with (go_at_call 37;(with_reducible refine Calls.mono hc.out ?_);rintro e u1 ⟨rfl,hr1,hb1⟩)
 clear hc
 have c1:=hr1.c1
 have f1:=hr1.free 1
 by_cases hl:v≤1000
 ·have t1:decide ((1000:Int) < (v:Int))=false:=decide_eq_false (by omega)
  rw [if_pos hl] at hgi
  cases s1 with
  | none =>
   simp only [Option.isNone_none] at c1
   have h2:=Lib.hid hr1.bad
   have hbut:=Lib.hid (hb1.trans (but_set u1 R 1 (.bool true)))
   clear hr1 hb1
   go_wp2_with fail
   go_ret
   exact ⟨v,none,rfl,h2.out,hbut.out,hgi.out,hvb⟩
  | some l =>
   simp only [Option.isNone_some] at c1
   have h2:=Lib.hid hr1.stay
   have hbut:=Lib.hid (hb1.trans (but_set u1 R 1 (.bool false)))
   clear hr1 hb1
   go_wp2_with fail
   go_ret
   exact ⟨v,some l,rfl,h2.out,hbut.out,hgi.out,hvb⟩
 ·have t1:decide ((1000:Int) < (v:Int))=true:=decide_eq_true (by omega)
  rw [if_neg hl] at hgi
  have h2:=Lib.hid hr1.bad
  have hbut:=Lib.hid (hb1.trans (but_set u1 R 1 (.bool true)))
  cases s1 with
  | none =>
   simp only [Option.isNone_none] at c1
   clear hr1 hb1
   go_wp2_with fail
   go_ret
   exact ⟨v,none,rfl,h2.out,hbut.out,hgi.out,hvb⟩
  | some l =>
   simp only [Option.isNone_some] at c1
   clear hr1 hb1
   go_wp2_with fail
   go_ret
   exact ⟨v,none,rfl,h2.out,hbut.out,hgi.out,hvb⟩
set_option maxRecDepth 100000 in
set_option maxHeartbeats 2000000 in
theorem mrFlag0_any (R D L : Nat) (st : Option (List UInt8)) (w : World) (h : BrS 59 R D L st w) (hL : L ≤ 1073741824) :
  Calls Tryz.prog 39 #[.pointer (some ⟨R,0,none⟩)] w (fun e w'=>∃(v:Nat) (st':Option (List UInt8)),e=.returned (.bool ((v:Int) == 1))∧BrS 59 R D L st' w'∧But (fun k=>k=R) w w'∧Gives (dCount 1) st st' v∧v≤1099511627776):=by
 obtain ⟨v,s1,hv⟩:∃v s,gv 0 cM st=(v,s):=⟨_,_,rfl⟩
 have hvb:v≤1099511627776:=gv_bound (P:=(·≤1099511627776)) hv (by decide) (fun l y r h=>(dCount_num h).2)
 have hc:=Lib.hid (msgNumI R D L st w h hL v s1 hv)
 have hgi:=Lib.hid (cut_gives (K:=1) (by decide) hv)
 have hR:=h.lt
 clear h hv
 go_enter Tryz.func39,Tryz.ntmps39
 go_upto_region 2 with (go_at_call 37;(with_reducible refine Calls.mono hc.out ?_);rintro e u1 ⟨rfl,hr1,hb1⟩)
 clear hc
 have c1:=hr1.c1
 have f1:=hr1.free 1
 by_cases hl:v≤1
 ·have t1:decide ((1:Int) < (v:Int))=false:=decide_eq_false (by omega)
  rw [if_pos hl] at hgi
  cases s1 with
  | none =>
   simp only [Option.isNone_none] at c1
   have h2:=Lib.hid hr1.bad
   have hbut:=Lib.hid (hb1.trans (but_set u1 R 1 (.bool true)))
   clear hr1 hb1
   go_wp2_with fail
   go_ret
   exact ⟨v,none,rfl,h2.out,hbut.out,hgi.out,hvb⟩
  | some l =>
   simp only [Option.isNone_some] at c1
   have h2:=Lib.hid hr1.stay
   have hbut:=Lib.hid (hb1.trans (but_set u1 R 1 (.bool false)))
   clear hr1 hb1
   go_wp2_with fail
   go_ret
   exact ⟨v,some l,rfl,h2.out,hbut.out,hgi.out,hvb⟩
 ·have t1:decide ((1:Int) < (v:Int))=true:=decide_eq_true (by omega)
  rw [if_neg hl] at hgi
  have h2:=Lib.hid hr1.bad
  have hbut:=Lib.hid (hb1.trans (but_set u1 R 1 (.bool true)))
  cases s1 with
  | none =>
   simp only [Option.isNone_none] at c1
   clear hr1 hb1
   go_wp2_with fail
   go_ret
   exact ⟨v,none,rfl,h2.out,hbut.out,hgi.out,hvb⟩
  | some l =>
   simp only [Option.isNone_some] at c1
   clear hr1 hb1
   go_wp2_with fail
   go_ret
   exact ⟨v,none,rfl,h2.out,hbut.out,hgi.out,hvb⟩
theorem mrFlag_any (R D L : Nat) (st : Option (List UInt8)) (w : World) (h : BrS 59 R D L st w) (hL : L ≤ 1073741824) :
  Calls Tryz.prog 39 #[.pointer (some ⟨R,0,none⟩)] w (MrPost R D L w mFlag st (fun b=>.bool b)):=by
 refine (mrFlag0_any R D L st w h hL).mono ?_
 rintro e w' ⟨v,st',rfl,h1,h2,h3,_⟩
 refine ⟨decide (v=1),st',?_,h1,h2,h3.bind (Gives.ret _)⟩
 have:((v:Int) == 1)=decide (v=1):=by
  rw [Bool.eq_iff_iff]
  simp
  omega
 rw [this]
set_option maxRecDepth 100000 in
set_option maxHeartbeats 2000000 in
theorem mrStamp_any (R D L : Nat) (st : Option (List UInt8)) (w : World) (h : BrS 59 R D L st w) (hL : L ≤ 1073741824) :
  Calls Tryz.prog 36 #[.pointer (some ⟨R,0,none⟩)] w (MrPost R D L w dStamp st St.val):=by
 have hlt:=h.lt
 have hg0:=G.new w (.cells #[.int .i64 0,.int .i64 0,.int .i64 0] 33)
 have B0:=blk_new w #[.int .i64 0,.int .i64 0,.int .i64 0] 33
 have hr0:=h.g hg0
 obtain ⟨A,l,c,g1,g2,g3,g4,g5⟩:=hr0.any
 have c0:=(blk_cell g1 0).trans (show _=some (.slice A l.length c) from rfl)
 have hzx:=hr0.lt
 have hDR:=hr0.le
 have hcb:=stDec_any l A c _ (g2.more (by omega)) (by omega) g3
 obtain ⟨s,n,ec,hst,hsn⟩:∃(s:St) (n:Nat) (ec:Int),stT l (dStamp l)=.tuple #[stV s.wall s.logic s.node,.int .i64 n,.int .i64 ec]∧((dStamp l=none∧n=0)∨∃q,dStamp l=some (s,q)∧0 < n∧n≤l.length∧l.drop n=q):=by
  cases hd:dStamp l with
  | none=>exact ⟨⟨0,0,0⟩,0,10,rfl,.inl ⟨rfl,rfl⟩⟩
  | some y =>
   obtain ⟨s,q⟩:=y
   have h2:=cn_took cn_stamp eats_stamp hd
   exact ⟨s,l.length - q.length,0,rfl,.inr ⟨q,rfl,h2.1,h2.2.1,h2.2.2⟩⟩
 obtain ⟨a,b,cc⟩:=s
 have hcb':Calls Tryz.prog 72 #[.slice A l.length c] (w.alloc (.cells #[.int .i64 0,.int .i64 0,.int .i64 0] 33)) (fun e w'=>e=.returned (.tuple #[.agg #[.int .i64 a,.int .i64 b,.int .i64 cc],.int .i64 n,.int .i64 ec])∧G (w.alloc (.cells #[.int .i64 0,.int .i64 0,.int .i64 0] 33)) w'):=by rw [hst] at hcb;exact hcb
 have hgv:Gives dStamp st (tk st n) ⟨a,b,cc⟩:=tk_gives fun l' e=>by
  obtain rfl:=g5 l' e
  rcases hsn with ⟨h1,h2⟩ | ⟨q,h1,h2,_,h3⟩
  ·exact .inl ⟨h1,h2⟩
  ·exact .inr ⟨q,h1,h2,h3⟩
 have htk:∀l',st=some l'→n≤l'.length:=fun l' e=>by
  obtain rfl:=g5 l' e
  rcases hsn with ⟨_,h2⟩ | ⟨q,_,_,h2,_⟩ <;> omega
 replace g1:=Lib.hid g1
 replace g5:=Lib.hid g5
 replace hcb:=Lib.hid hcb'
 replace hgv:=Lib.hid hgv
 replace htk:=Lib.hid htk
 replace g2:=Lib.hid g2
 clear h hst hsn hcb'
 go_enter Tryz.func36,Tryz.ntmps36
 go_upto_region 1 with fail
 generalize w.alloc (.cells #[.int .i64 0,.int .i64 0,.int .i64 0] 33)=W0 at *
 go_upto_region 2 with (go_at_call 72;(with_reducible refine Calls.mono hcb.out ?_);rintro e u1 ⟨rfl,hg1⟩)
 clear c0 hcb
 have hG8:=G.new u1 (.cells #[.int .i64 a,.int .i64 b,.int .i64 cc] 33)
 have hK8:=blk_new u1 #[.int .i64 a,.int .i64 b,.int .i64 cc] 33
 have hGx:=hg1.trans hG8
 have hr8:=hr0.g hGx
 have B8:=hGx.blk B0
 have hz8:=hg1.size
 generalize u1.alloc (.cells #[.int .i64 a,.int .i64 b,.int .i64 cc] 33)=w8 at *
 generalize u1.heap.size=b8 at *
 have hto:=Lib.hid (msgTake_any R D L st n w8 hr8 htk.out hL)
 have hn8:=mr_typed hr8 hK8 (by decide)
 go_wp2_with (first
  | (go_at_call 71;(with_reducible refine Calls.mono hto.out ?_);rintro e u2 ⟨b2,rfl,hr2,hb2⟩;have K2:=hb2.blk hK8 hn8;have k0:=(blk_cell K2 0).trans (show _=some (.int .i64 a) from rfl);have k1:=(blk_cell K2 1).trans (show _=some (.int .i64 b) from rfl);have k2:=(blk_cell K2 2).trans (show _=some (.int .i64 cc) from rfl);have B2:=hb2.blk B8 (Nat.ne_of_gt hlt);obtain ⟨w9,SR9,C9,hb9,_⟩:=store_blk (P:=Tryz.prog) (T:=33) (cs:=#[.int .i64 a,.int .i64 b,.int .i64 cc]) B2 rfl (by kernel_rfl) (by kernel_rfl);have hr9:=hr2.but hb9 (fun k hk=>by have e:k=w.heap.size:=hk;have:=hr2.le;omega);replace C9:=Lib.hid C9;replace hr9:=Lib.hid hr9;have hbz:=Lib.hid ((But.of_g (hg0.trans hGx)).trans hb2);clear hr2 hb2 B2 K2 hr8 B8 hK8)
  | (refine wpList_store_at (ty:=33) rfl (by kernel_rfl) (p:=.pointer (some ⟨w.heap.size,0,none⟩)) rfl rfl SR9 ?_;clear SR9))
 refine bodyPost_ret (v:=.agg #[.int .i64 a,.int .i64 b,.int .i64 cc]) (results_cell (i:=2) rfl rfl C9.out Tryz.underlying33 rfl (by kernel_rfl)) rfl ?_
 exact ⟨⟨a,b,cc⟩,tk st n,rfl,hr9.out,hbz.out.over hb9 (fun k hk=>.inl (by have e:k=w.heap.size:=hk;omega)),hgv.out⟩
end Go.Proofs.YtheogchkelmeeaaGreatDoor

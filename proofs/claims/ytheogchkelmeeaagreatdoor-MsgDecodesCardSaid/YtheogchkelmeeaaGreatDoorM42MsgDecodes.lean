/- Several texts in one: OwnW, MPut. -/
import Derived.Test.YtheogchkelmeeaaGreatDoorM2MsgDecodes
import Derived.Test.YtheogchkelmeeaaGreatDoorM34MsgDecodes
import Derived.Deep.RegionHeld3
/- Where a row lies behind an append: in its own block, or in a new one. No condition. -/
namespace Go.Proofs.YtheogchkelmeeaaGreatDoor
open Go.RowKit
theorem app_where {α : Type} {P : Program} {t e : TypeId} {sz bytes : Nat} {f : α → List Value} (he : IsElem P t e sz bytes f) (w : World) (ty : TypeId) (base : Nat) (v : Value) (xs : List α) (hown : OwnL e sz f w base v xs) (B : Nat) (A : Option Addr) (c : Nat) (ys : List α) (hA : A = none → ys = [])
  (hs:Sl f sz w B A ys) (hlen:xs.length+ys.length≤9223372036854775807) (hby:(xs.length+ys.length) * bytes≤140737488355328) {v':Value} {w':World} (hrun:(Builtin.append_ #[t,t] ty #[v,.slice A ys.length c]).run P w=.ok v' w') :
  v'.ownBlock=v.ownBlock∨v'.ownBlock=some w.heap.size:=by
 obtain ⟨i,z,hi,hz,hsize,hbytes,hzs⟩:=he.info
 have ht:=he.under
 have hpos:=he.pos
 rcases A with _ | a
 ·have hy:=hA rfl
  subst hy
  have hr:(Builtin.append_ #[t,t] ty #[v,.slice none ([]:List α).length c]).run P w=.ok v w:=by
   rcases hown.2 with ⟨rfl,_⟩ | ⟨g,cap,cur,rfl,_,_,hnc,_⟩
   ·simp [Builtin.append_,run_underlying ht,sizeOf,typeInfo,hi,Builtin.lenOf,Builtin.firstCells]
   ·simp [Builtin.append_,run_underlying ht,sizeOf,typeInfo,hi,Builtin.lenOf,Builtin.firstCells,hnc,storeCells]
  rw [hr] at hrun
  injection hrun with h1 h2
  exact .inl (by rw [h1])
 ·have hfl:=flat_length he.len ys
  have hnews:∀(j:Nat) u,(ys.flatMap f)[j]?=some u→w.cell? (a.add j)=some u:=fun j u hu=>by
   have hj:j < ys.length * sz:=by rw [←hfl];exact (List.getElem?_eq_some_iff.1 hu).1
   have hk:j / sz < ys.length:=(Nat.div_lt_iff_lt_mul he.pos).2 hj
   obtain ⟨b,o,hA',_,hc⟩:=hs (by rintro rfl;simp at hj)
   cases hA'
   have hy:ys[j / sz]?=some ys[j / sz]:=List.getElem?_eq_getElem hk
   have hm:j % sz < (f ys[j / sz]).length:=by rw [he.len];exact Nat.mod_lt _ he.pos
   have h4:=flat_get he.len ys (j / sz) _ hy (j % sz) _ (List.getElem?_eq_getElem hm)
   have e1:j / sz * sz+j % sz=j:=by rw [Nat.mul_comm];exact Nat.div_add_mod j sz
   rw [e1,hu] at h4
   have h5:=hc (j / sz) _ hy (j % sz) u (by rw [List.getElem?_eq_getElem hm];exact h4.symm)
   rw [Nat.add_assoc,e1] at h5
   rw [Addr.add_lit]
   exact h5
  have h1:∀u ∈ ys.flatMap f,u.oneCell'=true:=fun u hu=>by
   obtain ⟨y,_,h4⟩:=List.mem_flatMap.1 hu
   exact he.one y u h4
  subst hsize
  subst hbytes
  have hlen0:=hown.1
  rcases hown.2 with ⟨rfl,hn⟩ | ⟨g,cap,cur,rfl,hbg,hg,hnc,hcm,hcs,htake⟩
  ·by_cases hm:ys=[]
   ·subst hm
    have hr:(Builtin.append_ #[t,t] ty #[.slice none 0 0,.slice (some a) ([]:List α).length c]).run P w=.ok (.slice none 0 0) w:=by
     simp [Builtin.append_,run_underlying ht,sizeOf,typeInfo,hi,Builtin.lenOf,Builtin.firstCells,loadCells,loadCellsFrom]
    rw [hr] at hrun
    injection hrun with h1 h2
    exact .inl (by rw [h1])
   ·have hp:0 < ys.length:=List.length_pos_iff.2 hm
    have hx:xs.length=0:=hn
    rw [hx,Nat.zero_add] at hlen hby
    have hr:=run_append_nil (P:=P) w t ty e i z ht hi hz a ys.length c (ys.flatMap f) hfl hnews hp (by omega) (by omega)
    rw [hr] at hrun
    injection hrun with h1 h2
    exact .inr (by rw [←h1];rfl)
  ·by_cases hroom:xs.length+ys.length≤cap
   ·have hfit:xs.length * i.size+(ys.flatMap f).length≤cur.size:=by rw [hfl,hcs,←Nat.add_mul];exact Nat.mul_le_mul_right _ hroom
    have hr:=run_append_room (P:=P) w t ty e i ht hi g xs.length cap cur hg a ys.length c (ys.flatMap f) hfl hnews h1 hroom hfit
    rw [hr] at hrun
    injection hrun with h1 h2
    exact .inl (by rw [←h1];rfl)
   ·have hcells:w.ownsRow base e i.size (.slice (some ⟨g,0,none⟩) xs.length cap) xs.length (xs.flatMap f):=hown
    have holds:∀j u,(xs.flatMap f)[j]?=some u→w.cell? ((⟨g,0,none⟩:Addr).add j)=some u:=hcells.cells (g:=g) rfl
    have hr:=run_append_grow (P:=P) w t ty e i z ht hi hz ⟨g,0,none⟩ xs.length cap (xs.flatMap f) hown.1 holds a ys.length c (ys.flatMap f) hfl hnews (by omega) (by omega) (growslice_fits (by omega) hby)
    rw [hr] at hrun
    injection hrun with h1 h2
    exact .inr (by rw [←h1];rfl)
section
variable {α : Type} {P : Program} {t e : TypeId} {sz bytes : Nat} {f : α → List Value} (he : IsElem P t e sz bytes f)
include he
theorem wp_append_w {o : Oper} {a : Act} {K : Act → World → Prop} {Q : Exit → Act → World → Prop} (w : World) (s x : Operand)
  (ho:o.op=.call { callee:=.builtin .append,args:=#[s,x],argTypes:=#[t,t] })
  (base:Nat) (v:Value) (xs:List α) (hv:a.eval s=v) (hown:OwnL e sz f w base v xs) (B:Nat) (A:Option Addr) (c:Nat) (ys:List α) (hx:a.eval x=.slice A ys.length c) (hA:A=none→ys=[])
  (hs:Sl f sz w B A ys) (hlen:xs.length+ys.length≤9223372036854775807) (hby:(xs.length+ys.length) * bytes≤140737488355328) (hbase:base≤w.heap.size)
  (h:∀v' w',OwnL e sz f w' base v' (xs++ys)→KeepT e base w w'→But (fun k=>some k=v.ownBlock) w w'→(v'.ownBlock=v.ownBlock∨v'.ownBlock=some w.heap.size)→K (a.put o.dst v') w'):o.wp P a w K Q:=by
 obtain ⟨v',w',hrun,h2,h3,h4⟩:=run_append_but he w o.type base v xs hown B A c ys hA hs hlen hby hbase
 have h5:=app_where he w o.type base v xs hown B A c ys hA hs hlen hby hrun
 unfold Oper.wp execOp
 simp only [ho,resolve,invoke,builtin,Sem.run_bind,Sem.run_pure,Result.andThen_ok,List.map_toArray,List.map_cons,List.map_nil,hv,hx,hrun]
 exact h v' w' h2 h3 h4 h5
theorem wpList_append_w {ops : Array Oper} {rest : List Oper} {o : Oper} {a : Act} {Q : Exit → Act → World → Prop} (w : World) (hgd : o.guard = none) (s x : Operand)
  (ho:o.op=.call { callee:=.builtin .append,args:=#[s,x],argTypes:=#[t,t] })
  (base:Nat) (v:Value) (xs:List α) (hv:a.eval s=v) (hown:OwnL e sz f w base v xs) (B:Nat) (A:Option Addr) (c:Nat) (ys:List α) (hx:a.eval x=.slice A ys.length c) (hA:A=none→ys=[])
  (hs:Sl f sz w B A ys) (hlen:xs.length+ys.length≤9223372036854775807) (hby:(xs.length+ys.length) * bytes≤140737488355328) (hbase:base≤w.heap.size)
  (h:∀v' w',OwnL e sz f w' base v' (xs++ys)→KeepT e base w w'→But (fun k=>some k=v.ownBlock) w w'→(v'.ownBlock=v.ownBlock∨v'.ownBlock=some w.heap.size)→wpList P ops Q rest (a.put o.dst v') w'):wpList P ops Q (o::rest) a w :=
 wpList_plain hgd fun _ hK=>wp_append_w he w s x ho base v xs hv hown B A c ys hx hA hs hlen hby hbase fun v' w' h2 h3 h4 h5=>hK _ _ (h v' w' h2 h3 h4 h5)
theorem step_append_w {ops : Array Oper} {o : Oper} {a : Act} {K : Act → World → Prop} {Q : Exit → Act → World → Prop} {E : Prop} (w : World) (hgd : Region.wanted o (yielded ops a.tmps) = true) (s x : Operand)
  (ho:o.op=.call { callee:=.builtin .append,args:=#[s,x],argTypes:=#[t,t] })
  (base:Nat) (v:Value) (xs:List α) (hv:a.eval s=v) (hown:OwnL e sz f w base v xs) (B:Nat) (A:Option Addr) (c:Nat) (ys:List α) (hx:a.eval x=.slice A ys.length c) (hA:A=none→ys=[])
  (hs:Sl f sz w B A ys) (hlen:xs.length+ys.length≤9223372036854775807) (hby:(xs.length+ys.length) * bytes≤140737488355328) (hbase:base≤w.heap.size)
  (h:∀v' w',OwnL e sz f w' base v' (xs++ys)→KeepT e base w w'→But (fun k=>some k=v.ownBlock) w w'→(v'.ownBlock=v.ownBlock∨v'.ownBlock=some w.heap.size)→K (a.put o.dst v') w') :
  if Region.wanted o (yielded ops a.tmps)=true then Oper.wp P o a w K Q else E:=by
 rw [if_pos hgd]
 exact wp_append_w he w s x ho base v xs hv hown B A c ys hx hA hs hlen hby hbase h
end
/-- What turned row by row lies in the row's own block or in new ones. -/
structure Turn (w:World) (v0 v:Value) (w':World):Prop where
 but:But (fun k=>some k=v0.ownBlock) w w'
 at_:∀k,v.ownBlock=some k→v0.ownBlock=some k∨w.heap.size≤k
theorem Turn.of_app {w w':World} {v v':Value} (h:But (fun k=>some k=v.ownBlock) w w') (hw:v'.ownBlock=v.ownBlock∨v'.ownBlock=some w.heap.size):Turn w v v' w':=⟨h,fun k hk=>by
 rcases hw with e | e
 ·exact .inl (by rw [←e];exact hk)
 ·rw [e] at hk;cases hk;exact .inr (Nat.le_refl _)⟩
theorem Turn.trans {w w1 w2:World} {v0 v1 v2:Value} (h:Turn w v0 v1 w1) (k:Turn w1 v1 v2 w2):Turn w v0 v2 w2:=by
 refine ⟨⟨k.but.os.trans h.but.os,k.but.tape.trans h.but.tape,k.but.output.trans h.but.output,Nat.le_trans h.but.size k.but.size,fun i hi hS=>?_⟩,fun i hi=>?_⟩
 ·refine (k.but.block i (Nat.lt_of_lt_of_le hi h.but.size) fun e=>?_).trans (h.but.block i hi hS)
  rcases h.at_ i e.symm with h1 | h1
  ·exact hS h1.symm
  ·omega
 ·rcases k.at_ i hi with h1 | h1
  ·exact h.at_ i h1
  ·exact .inr (Nat.le_trans h.but.size h1)
theorem Turn.g {w w1:World} {v0 v:Value} {w0:World} (hg:G w0 w) (h:Turn w v0 v w1):Turn w0 v0 v w1:=by
 have h0:=But.of_g (S:=fun k=>some k=v0.ownBlock) hg
 exact ⟨h0.trans h.but,fun k hk=>(h.at_ k hk).imp id (Nat.le_trans hg.size)⟩
theorem Turn.after {w w1 w2:World} {v0 v:Value} (h:Turn w v0 v w1) (hg:G w1 w2):Turn w v0 v w2:=⟨h.but.g hg,h.at_⟩
/-- A slice that is not the row's own, and was there, stays. -/
theorem Turn.sl {α:Type} {f:α→List Value} {sz:Nat} {w w':World} {v0 v:Value} (h:Turn w v0 v w') {B:Nat} {A:Option Addr} {xs:List α} (hs:Sl f sz w B A xs) (hB:B≤w.heap.size) (hA:∀b o,A=some ⟨b,o,none⟩→v0.ownBlock≠some b):Sl f sz w' B A xs:=fun hn=>by
 obtain ⟨b,o,e,hb,hc⟩:=hs hn
 exact ⟨b,o,e,hb,fun k x hx j u hu=>(h.but.cell (by omega) (fun e'=>hA b o e e'.symm)).trans (hc k x hx j u hu)⟩
end Go.Proofs.YtheogchkelmeeaaGreatDoor
/- penstockref10's num, tx, rng, flag, ints: bytes behind a row. Conditions: lengths that an append bears; numbers that are no less than zero. -/
namespace Go.Proofs.YtheogchkelmeeaaGreatDoor
open Go.RowKit
theorem keepT_sz {e:TypeId} {base:Nat} {w w':World} (h:KeepT e base w w'):w.heap.size≤w'.heap.size:=h.1.size
/-- A row with bytes behind. -/
def PostW (w:World) (v0:Value) (base:Nat) (l:List UInt8) (e:Ending) (w':World):Prop:=∃A c,e=.returned (.slice A l.length c)∧OwnL 5 1 byteC w' base (.slice A l.length c) l∧KeepT 5 base w w'∧Turn w v0 (.slice A l.length c) w'
set_option maxRecDepth 100000 in
set_option maxHeartbeats 1000000 in
theorem num10_any (l : List UInt8) (A0 : Option Addr) (c0 base n : Nat) (w : World) (hown : OwnL 5 1 byteC w base (.slice A0 l.length c0) l) (hbase : base ≤ w.heap.size) (hl : l.length ≤ 1099511627776) (hn : n ≤ 4611686018427387904) :
  Calls Tryz.prog 55 #[.slice A0 l.length c0,.int .i64 n] w (PostW w (.slice A0 l.length c0) base (l++vL n)):=by
 have hv:=refVarint_any n w (by omega)
 have hw:IntKind.u64.wrap (n:Int)=(n:Int):=by rw [IntKind.wrap_u64];omega
 have hvl:=vL_len n
 obtain ⟨m2,hm2⟩:∃m2,l++vL n=m2:=⟨_,rfl⟩
 rw [hm2]
 replace hm2:=Lib.hid hm2
 replace hown:=Lib.hid hown
 go_enter Tryz.func55,Tryz.ntmps55
 go_wp2_with fail
 refine hv.mono ?_
 clear hv
 rintro e w1 ⟨A2,c2,rfl,hown2,hg2⟩
 have hsl2:=OwnL.self byteC_len hown2
 have hown3:=hown.out.g hg2
 have hz2:=hg2.size
 have hA2:A2=none→vL n=[]:=fun h=>(h ▸ hsl2).of_none
 replace hown3:=Lib.hid hown3
 clear hown2 hown
 go_wp2_with (at_builtin;refine wpList_append_w byte_elem _ rfl (.tmp 5) (.tmp 8) rfl base (.slice A0 l.length c0) l rfl hown3.out w1.heap.size A2 c2 (vL n) rfl hA2 hsl2 (by omega) (by omega) (by omega) ?_;intro v3 w3 hown4 hkeep3 hbut hwh;rw [hm2.out] at hown4;obtain ⟨A3,c3,e3,_,_,_⟩:=OwnL.sl byteC_len hown4;subst e3;have hk3:=Lib.hid ((KeepT.of_g hg2 hbase).trans hkeep3);have ht3:=Lib.hid (Turn.g hg2 (Turn.of_app hbut hwh));replace hown4:=Lib.hid hown4;clear hkeep3 hbut hwh)
 go_ret
 exact ⟨A3,c3,rfl,hown4.out,hk3.out,ht3.out⟩
/-- The same, with what comes out named. -/
theorem num10_own {l m : List UInt8} {A : Option Addr} {c base n : Nat} {w : World} (hm : Hid (l ++ vL n = m)) (hl : l.length ≤ 1099511627776) (hn : n ≤ 4611686018427387904) (hown : OwnL 5 1 byteC w base (.slice A l.length c) l) (hbase : base ≤ w.heap.size) :
  Calls Tryz.prog 55 #[.slice A l.length c,.int .i64 n] w (PostW w (.slice A l.length c) base m):=hm.out ▸ num10_any l A c base n w hown hbase hl hn
set_option maxRecDepth 100000 in
set_option maxHeartbeats 1000000 in
theorem flag10_any (yes : Bool) (l : List UInt8) (A0 : Option Addr) (c0 base : Nat) (w : World) (hown : OwnL 5 1 byteC w base (.slice A0 l.length c0) l) (hbase : base ≤ w.heap.size) (hl : l.length ≤ 1099511627776) :
  Calls Tryz.prog 56 #[.slice A0 l.length c0,.bool yes] w (PostW w (.slice A0 l.length c0) base (l++[if yes=true then 1 else 0])):=by
 replace hown:=Lib.hid hown
 cases yes with
 | true =>
  obtain ⟨m2,hm2⟩:∃m2,l++[1]=m2:=⟨_,rfl⟩
  rw [show (l++[if true=true then (1:UInt8) else 0])=m2 from hm2]
  replace hm2:=Lib.hid hm2
  go_enter Tryz.func56,Tryz.ntmps56
  go_wp2_with (at_builtin;refine wpList_append_w byte_elem _ rfl (.tmp 6) (.tmp 7) rfl base (.slice A0 l.length c0) l rfl (hown.out.g (G.new _ _)) (w.heap.size+1) (some ⟨w.heap.size,0,none⟩) 1 [1] rfl (by intro h;cases h) (Sl.of_blk byteC_len _ (blk_new _ _ _) rfl (by omega)) (by simp;omega) (by simp;omega) (by simp;omega) ?_;intro v3 w3 hown4 hkeep3 hbut hwh;rw [hm2.out] at hown4;obtain ⟨A3,c3,e3,_,_,_⟩:=OwnL.sl byteC_len hown4;subst e3;have hk3:=Lib.hid ((KeepT.of_g (G.new w _) hbase).trans hkeep3);have ht3:=Lib.hid (Turn.g (G.new w _) (Turn.of_app hbut hwh));replace hown4:=Lib.hid hown4;clear hkeep3 hbut hwh)
  go_ret
  exact ⟨A3,c3,rfl,hown4.out,hk3.out,ht3.out⟩
 | false =>
  obtain ⟨m2,hm2⟩:∃m2,l++[0]=m2:=⟨_,rfl⟩
  rw [show (l++[if false=true then (1:UInt8) else 0])=m2 from hm2]
  replace hm2:=Lib.hid hm2
  go_enter Tryz.func56,Tryz.ntmps56
  go_wp2_with (at_builtin;refine wpList_append_w byte_elem _ rfl (.tmp 9) (.tmp 10) rfl base (.slice A0 l.length c0) l rfl (hown.out.g (G.new _ _)) (w.heap.size+1) (some ⟨w.heap.size,0,none⟩) 1 [0] rfl (by intro h;cases h) (Sl.of_blk byteC_len _ (blk_new _ _ _) rfl (by omega)) (by simp;omega) (by simp;omega) (by simp;omega) ?_;intro v3 w3 hown4 hkeep3 hbut hwh;rw [hm2.out] at hown4;obtain ⟨A3,c3,e3,_,_,_⟩:=OwnL.sl byteC_len hown4;subst e3;have hk3:=Lib.hid ((KeepT.of_g (G.new w _) hbase).trans hkeep3);have ht3:=Lib.hid (Turn.g (G.new w _) (Turn.of_app hbut hwh));replace hown4:=Lib.hid hown4;clear hkeep3 hbut hwh)
  go_ret
  exact ⟨A3,c3,rfl,hown4.out,hk3.out,ht3.out⟩
set_option maxRecDepth 100000 in
set_option maxHeartbeats 1000000 in
theorem tx10_any (a b c : Nat) (l : List UInt8) (A0 : Option Addr) (c0 base : Nat) (w : World) (hown : OwnL 5 1 byteC w base (.slice A0 l.length c0) l) (hbase : base ≤ w.heap.size) (hl : l.length ≤ 1099511627000) (ha : a ≤ 4611686018427387904) (hb : b ≤ 4611686018427387904) (hc : c ≤ 4611686018427387904) :
  Calls Tryz.prog 52 #[.slice A0 l.length c0,.agg #[.int .i64 a,.int .i64 b,.int .i64 c]] w (PostW w (.slice A0 l.length c0) base (l++nLs [(a:Int),(b:Int),(c:Int)])):=by
 obtain ⟨m1,hm1⟩:∃m,l++vL a=m:=⟨_,rfl⟩
 have hl1:m1.length≤l.length+10:=by rw [←hm1,List.length_append];have:=vL_len a;omega
 obtain ⟨m2,hm2⟩:∃m,m1++vL b=m:=⟨_,rfl⟩
 have hl2:m2.length≤l.length+20:=by rw [←hm2,List.length_append];have:=vL_len b;omega
 obtain ⟨m3,hm3⟩:∃m,m2++vL c=m:=⟨_,rfl⟩
 have hl3:m3.length≤l.length+30:=by rw [←hm3,List.length_append];have:=vL_len c;omega
 have hfin:l++nLs [(a:Int),(b:Int),(c:Int)]=m3:=by
  rw [←hm3,←hm2,←hm1]
  simp [nLs,nL,List.append_assoc]
 rw [hfin]
 replace hm1:=Lib.hid hm1
 replace hm2:=Lib.hid hm2
 replace hm3:=Lib.hid hm3
 replace hfin:=Lib.hid hfin
 replace hown:=Lib.hid hown
 go_enter Tryz.func52,Tryz.ntmps52
 go_upto_region 1 with fail
 have hg0:=G.new w (.cells #[.int .i64 a,.int .i64 b,.int .i64 c] 28)
 have B0:=blk_new w #[.int .i64 a,.int .i64 b,.int .i64 c] 28
 generalize w.alloc (.cells #[.int .i64 a,.int .i64 b,.int .i64 c] 28)=W0 at *
 have hz0:=hg0.size
 have ho0:=fun (w':World) (h:G W0 w')=>hown.out.g (hg0.trans h)
 have x0:∀w',KeepT 5 base W0 w'→w'.cell? ⟨w.heap.size,0,none⟩=some (.int .i64 a):=fun w' h=>(blk_cell (h.2 _ _ _ _ (by decide) B0) 0).trans rfl
 have x1:∀w',KeepT 5 base W0 w'→w'.cell? ⟨w.heap.size,1,none⟩=some (.int .i64 b):=fun w' h=>(blk_cell (h.2 _ _ _ _ (by decide) B0) 1).trans rfl
 have x2:∀w',KeepT 5 base W0 w'→w'.cell? ⟨w.heap.size,2,none⟩=some (.int .i64 c):=fun w' h=>(blk_cell (h.2 _ _ _ _ (by decide) B0) 2).trans rfl
 have hc1:=fun (w':World) (h:G W0 w')=>num10_own hm1 (by omega) ha (ho0 w' h) (Nat.le_trans (Nat.le_trans hbase hz0) h.size)
 replace hc1:=Lib.hid hc1
 have hdr:G W0 W0.drew:=(G.refl _).drew
 have hkd:=KeepT.of_g (e:=5) hdr (Nat.le_trans hbase hz0)
 replace B0:=Lib.hid B0
 replace ho0:=Lib.hid ho0
 go_region_held3 (fun w'=>KeepT 5 base W0 w') (first | exact hkd | exact KeepT.trans (by assumption) hk1 | exact KeepT.trans (by assumption) hk2 | exact KeepT.trans (by assumption) hk3 | fail) (first
  | (go_at_call 55;(with_reducible refine Calls.mono (hc1.out _ hdr) ?_);rintro e u1 ⟨A1,d1,rfl,ho1,hk1,ht1⟩;have hz1:=hk1.1.size;have ht1':=Turn.g (hg0.trans hdr) ht1;clear ht1)
  | (go_at_call 55;(with_reducible refine Calls.mono (num10_own hm2 (by omega) hb ho1 (Nat.le_trans (Nat.le_trans hbase hz0) (keepT_sz (show KeepT 5 base W0 u1 from by assumption)))) ?_);rintro e u2 ⟨A2,d2,rfl,ho2,hk2,ht2⟩;have ht2':=ht1'.trans ht2;clear ht2)
  | (go_at_call 55;(with_reducible refine Calls.mono (num10_own hm3 (by omega) hc ho2 (Nat.le_trans (Nat.le_trans hbase hz0) (keepT_sz (show KeepT 5 base W0 u2 from by assumption)))) ?_);rintro e u3 ⟨A3,d3,rfl,ho3,hk3,ht3⟩;have ht3':=ht2'.trans ht3;clear ht3))
 all_goals
  have hsE:KeepT 5 base W0 u3:=by assumption
  go_wp2_with fail
  go_ret
  exact ⟨A3,d3,rfl,ho3,(KeepT.of_g hg0 hbase).trans hsE,ht3'⟩
set_option maxRecDepth 100000 in
set_option maxHeartbeats 1000000 in
theorem rng10_any (a b c d : Nat) (l : List UInt8) (A0 : Option Addr) (c0 base : Nat) (w : World) (hown : OwnL 5 1 byteC w base (.slice A0 l.length c0) l) (hbase : base ≤ w.heap.size) (hl : l.length ≤ 1099511627000) (ha : a ≤ 4611686018427387904) (hb : b ≤ 4611686018427387904) (hc : c ≤ 4611686018427387904) (hd : d ≤ 4611686018427387904) :
  Calls Tryz.prog 58 #[.slice A0 l.length c0,.agg #[.int .i64 a,.int .i64 b,.int .i64 c,.int .i64 d]] w (PostW w (.slice A0 l.length c0) base (l++nLs [(a:Int),(b:Int),(c:Int),(d:Int)])):=by
 obtain ⟨m1,hm1⟩:∃m,l++vL a=m:=⟨_,rfl⟩
 have hl1:m1.length≤l.length+10:=by rw [←hm1,List.length_append];have:=vL_len a;omega
 obtain ⟨m2,hm2⟩:∃m,m1++vL b=m:=⟨_,rfl⟩
 have hl2:m2.length≤l.length+20:=by rw [←hm2,List.length_append];have:=vL_len b;omega
 obtain ⟨m3,hm3⟩:∃m,m2++vL c=m:=⟨_,rfl⟩
 have hl3:m3.length≤l.length+30:=by rw [←hm3,List.length_append];have:=vL_len c;omega
 obtain ⟨m4,hm4⟩:∃m,m3++vL d=m:=⟨_,rfl⟩
 have hl4:m4.length≤l.length+40:=by rw [←hm4,List.length_append];have:=vL_len d;omega
 have hfin:l++nLs [(a:Int),(b:Int),(c:Int),(d:Int)]=m4:=by
  rw [←hm4,←hm3,←hm2,←hm1]
  simp [nLs,nL,List.append_assoc]
 rw [hfin]
 replace hm1:=Lib.hid hm1
 replace hm2:=Lib.hid hm2
 replace hm3:=Lib.hid hm3
 replace hm4:=Lib.hid hm4
 replace hfin:=Lib.hid hfin
 replace hown:=Lib.hid hown
 go_enter Tryz.func58,Tryz.ntmps58
 go_upto_region 1 with fail
 have hg0:=G.new w (.cells #[.int .i64 a,.int .i64 b,.int .i64 c,.int .i64 d] 36)
 have B0:=blk_new w #[.int .i64 a,.int .i64 b,.int .i64 c,.int .i64 d] 36
 generalize w.alloc (.cells #[.int .i64 a,.int .i64 b,.int .i64 c,.int .i64 d] 36)=W0 at *
 have hz0:=hg0.size
 have ho0:=fun (w':World) (h:G W0 w')=>hown.out.g (hg0.trans h)
 have x0:∀w',KeepT 5 base W0 w'→w'.cell? ⟨w.heap.size,0,none⟩=some (.int .i64 a):=fun w' h=>(blk_cell (h.2 _ _ _ _ (by decide) B0) 0).trans rfl
 have x1:∀w',KeepT 5 base W0 w'→w'.cell? ⟨w.heap.size,1,none⟩=some (.int .i64 b):=fun w' h=>(blk_cell (h.2 _ _ _ _ (by decide) B0) 1).trans rfl
 have x2:∀w',KeepT 5 base W0 w'→w'.cell? ⟨w.heap.size,2,none⟩=some (.int .i64 c):=fun w' h=>(blk_cell (h.2 _ _ _ _ (by decide) B0) 2).trans rfl
 have x3:∀w',KeepT 5 base W0 w'→w'.cell? ⟨w.heap.size,3,none⟩=some (.int .i64 d):=fun w' h=>(blk_cell (h.2 _ _ _ _ (by decide) B0) 3).trans rfl
 have hc1:=fun (w':World) (h:G W0 w')=>num10_own hm1 (by omega) ha (ho0 w' h) (Nat.le_trans (Nat.le_trans hbase hz0) h.size)
 replace hc1:=Lib.hid hc1
 have hdr:G W0 W0.drew:=(G.refl _).drew
 have hkd:=KeepT.of_g (e:=5) hdr (Nat.le_trans hbase hz0)
 replace B0:=Lib.hid B0
 replace ho0:=Lib.hid ho0
 go_region_held3 (fun w'=>KeepT 5 base W0 w') (first | exact hkd | exact KeepT.trans (by assumption) hk1 | exact KeepT.trans (by assumption) hk2 | exact KeepT.trans (by assumption) hk3 | exact KeepT.trans (by assumption) hk4 | fail) (first
  | (go_at_call 55;(with_reducible refine Calls.mono (hc1.out _ hdr) ?_);rintro e u1 ⟨A1,d1,rfl,ho1,hk1,ht1⟩;have hz1:=hk1.1.size;have ht1':=Turn.g (hg0.trans hdr) ht1;clear ht1)
  | (go_at_call 55;(with_reducible refine Calls.mono (num10_own hm2 (by omega) hb ho1 (Nat.le_trans (Nat.le_trans hbase hz0) (keepT_sz (show KeepT 5 base W0 u1 from by assumption)))) ?_);rintro e u2 ⟨A2,d2,rfl,ho2,hk2,ht2⟩;have ht2':=ht1'.trans ht2;clear ht2)
  | (go_at_call 55;(with_reducible refine Calls.mono (num10_own hm3 (by omega) hc ho2 (Nat.le_trans (Nat.le_trans hbase hz0) (keepT_sz (show KeepT 5 base W0 u2 from by assumption)))) ?_);rintro e u3 ⟨A3,d3,rfl,ho3,hk3,ht3⟩;have ht3':=ht2'.trans ht3;clear ht3)
  | (go_at_call 55;(with_reducible refine Calls.mono (num10_own hm4 (by omega) hd ho3 (Nat.le_trans (Nat.le_trans hbase hz0) (keepT_sz (show KeepT 5 base W0 u3 from by assumption)))) ?_);rintro e u4 ⟨A4,d4,rfl,ho4,hk4,ht4⟩;have ht4':=ht3'.trans ht4;clear ht4))
 all_goals
  have hsE:KeepT 5 base W0 u4:=by assumption
  go_wp2_with fail
  go_ret
  exact ⟨A4,d4,rfl,ho4,(KeepT.of_g hg0 hbase).trans hsE,ht4'⟩
end Go.Proofs.YtheogchkelmeeaaGreatDoor

/- Several texts in one: OwnBut, Str, Varint. -/
import Derived.Test.YtheogchkelmeeaaGreatDoorM1MsgDecodes
import Derived.Test.YtheogchkelmeeaaGreatDoorM0MsgDecodes
import Derived.Laws.Bits64b
/- append of a list onto a row of the call's own, with what it leaves as it was told by blocks. No condition. -/
namespace Go.Proofs.YtheogchkelmeeaaGreatDoor
open Go.RowKit
section
variable {α : Type} {P : Program} {t e : TypeId} {sz bytes : Nat} {f : α → List Value} (he : IsElem P t e sz bytes f)
include he
theorem run_append_but (w : World) (ty : TypeId) (base : Nat) (v : Value) (xs : List α) (hown : OwnL e sz f w base v xs) (B : Nat) (A : Option Addr) (c : Nat) (ys : List α) (hA : A = none → ys = [])
  (hs:Sl f sz w B A ys) (hlen:xs.length+ys.length≤9223372036854775807) (hby:(xs.length+ys.length) * bytes≤140737488355328) (hbase:base≤w.heap.size) :
  ∃v' w',(Builtin.append_ #[t,t] ty #[v,.slice A ys.length c]).run P w=.ok v' w'∧OwnL e sz f w' base v' (xs++ys)∧KeepT e base w w'∧But (fun k=>some k=v.ownBlock) w w':=by
 obtain ⟨i0,z,hi,hz0,hz1,hz2,hz3⟩:=he.info
 have ht:=he.under
 rcases A with _ | ad
 ·have hy:=hA rfl
  subst hy
  refine ⟨v,w,?_,by simpa using hown,KeepT.refl _ _ _,But.refl _ _⟩
  rcases hown.2 with ⟨rfl,_⟩ | ⟨g,cap,cur,rfl,_,_,hnc,_⟩
  ·simp [Builtin.append_,run_underlying ht,sizeOf,typeInfo,hi,Builtin.lenOf,Builtin.firstCells]
  ·simp [Builtin.append_,run_underlying ht,sizeOf,typeInfo,hi,Builtin.lenOf,Builtin.firstCells,hnc,storeCells]
 ·have hfl:=flat_length he.len ys
  obtain ⟨v', w', hrun, h1, h2, h3⟩ := run_append_own (P := P) w base t ty e i0 z sz bytes ht hi hz0 hz1 hz2 hz3 he.pos v xs.length (xs.flatMap f) hown ad ys.length c (ys.flatMap f) hfl (fun j u hu => by
    have hj:j < ys.length * sz:=by rw [←hfl];exact (List.getElem?_eq_some_iff.1 hu).1
    have hk:j / sz < ys.length:=(Nat.div_lt_iff_lt_mul he.pos).2 hj
    obtain ⟨b,o,hA',_,hc⟩:=hs (by rintro rfl;simp at hj)
    cases hA'
    have hy:ys[j / sz]?=some ys[j / sz]:=List.getElem?_eq_getElem hk
    have hm:j % sz < (f ys[j / sz]).length:=by rw [he.len];exact Nat.mod_lt _ he.pos
    have h4:=flat_get he.len ys (j / sz) _ hy (j % sz) _ (List.getElem?_eq_getElem hm)
    have e1:j / sz * sz+j % sz=j:=by rw [Nat.mul_comm];exact Nat.div_add_mod j sz
    rw [e1,hu] at h4
    have h5:=hc (j / sz) _ hy (j % sz) u (by rw [List.getElem?_eq_getElem hm];exact h4.symm)
    rw [Nat.add_assoc,e1] at h5
    rw [Addr.add_lit]
    exact h5)
   (fun u hu=>by
    obtain ⟨y,_,h4⟩:=List.mem_flatMap.1 hu
    exact he.one y u h4) (by simpa [maxLen] using hlen) hby hbase
  refine ⟨v',w',hrun,?_,⟨(Below.refl _ _).grown h2 hbase ?_,fun k cs t' fz ht' hh=>?_⟩,.of_grown h2 fun k hk=>hk.symm⟩
  ·show w'.ownsRow _ _ _ _ _ _
   rw [List.flatMap_append,List.length_append]
   exact h1
  ·intro k hk
   rcases hown.2 with ⟨rfl,_⟩ | ⟨g,cap,cur,rfl,hbg,hh,_⟩
   ·simp [Value.ownBlock] at hk
   ·simp [Value.ownBlock] at hk;omega
  ·refine (h2.block k (blk_lt hh) ?_).trans hh
   intro hk
   rcases hown.2 with ⟨rfl,_⟩ | ⟨g,cap,cur,rfl,hbg,hh2,_⟩
   ·simp [Value.ownBlock] at hk
   ·simp [Value.ownBlock] at hk
    subst hk
    rw [hh] at hh2
    simp at hh2
    exact ht' hh2.2.1
theorem wp_append_but {o : Oper} {a : Act} {K : Act → World → Prop} {Q : Exit → Act → World → Prop} (w : World) (s x : Operand)
  (ho:o.op=.call { callee:=.builtin .append,args:=#[s,x],argTypes:=#[t,t] })
  (base:Nat) (v:Value) (xs:List α) (hv:a.eval s=v) (hown:OwnL e sz f w base v xs) (B:Nat) (A:Option Addr) (c:Nat) (ys:List α) (hx:a.eval x=.slice A ys.length c) (hA:A=none→ys=[])
  (hs:Sl f sz w B A ys) (hlen:xs.length+ys.length≤9223372036854775807) (hby:(xs.length+ys.length) * bytes≤140737488355328) (hbase:base≤w.heap.size)
  (h:∀v' w',OwnL e sz f w' base v' (xs++ys)→KeepT e base w w'→But (fun k=>some k=v.ownBlock) w w'→K (a.put o.dst v') w'):o.wp P a w K Q:=by
 obtain ⟨v',w',hrun,h2,h3,h4⟩:=run_append_but he w o.type base v xs hown B A c ys hA hs hlen hby hbase
 unfold Oper.wp execOp
 simp only [ho,resolve,invoke,builtin,Sem.run_bind,Sem.run_pure,Result.andThen_ok,List.map_toArray,List.map_cons,List.map_nil,hv,hx,hrun]
 exact h v' w' h2 h3 h4
theorem wpList_append_but {ops : Array Oper} {rest : List Oper} {o : Oper} {a : Act} {Q : Exit → Act → World → Prop} (w : World) (hgd : o.guard = none) (s x : Operand)
  (ho:o.op=.call { callee:=.builtin .append,args:=#[s,x],argTypes:=#[t,t] })
  (base:Nat) (v:Value) (xs:List α) (hv:a.eval s=v) (hown:OwnL e sz f w base v xs) (B:Nat) (A:Option Addr) (c:Nat) (ys:List α) (hx:a.eval x=.slice A ys.length c) (hA:A=none→ys=[])
  (hs:Sl f sz w B A ys) (hlen:xs.length+ys.length≤9223372036854775807) (hby:(xs.length+ys.length) * bytes≤140737488355328) (hbase:base≤w.heap.size)
  (h:∀v' w',OwnL e sz f w' base v' (xs++ys)→KeepT e base w w'→But (fun k=>some k=v.ownBlock) w w'→wpList P ops Q rest (a.put o.dst v') w'):wpList P ops Q (o::rest) a w :=
 wpList_plain hgd fun _ hK=>wp_append_but he w s x ho base v xs hv hown B A c ys hx hA hs hlen hby hbase fun v' w' h2 h3 h4=>hK _ _ (h v' w' h2 h3 h4)
theorem step_append_but {ops : Array Oper} {o : Oper} {a : Act} {K : Act → World → Prop} {Q : Exit → Act → World → Prop} {E : Prop} (w : World) (hgd : Region.wanted o (yielded ops a.tmps) = true) (s x : Operand)
  (ho:o.op=.call { callee:=.builtin .append,args:=#[s,x],argTypes:=#[t,t] })
  (base:Nat) (v:Value) (xs:List α) (hv:a.eval s=v) (hown:OwnL e sz f w base v xs) (B:Nat) (A:Option Addr) (c:Nat) (ys:List α) (hx:a.eval x=.slice A ys.length c) (hA:A=none→ys=[])
  (hs:Sl f sz w B A ys) (hlen:xs.length+ys.length≤9223372036854775807) (hby:(xs.length+ys.length) * bytes≤140737488355328) (hbase:base≤w.heap.size)
  (h:∀v' w',OwnL e sz f w' base v' (xs++ys)→KeepT e base w w'→But (fun k=>some k=v.ownBlock) w w'→K (a.put o.dst v') w') :
  if Region.wanted o (yielded ops a.tmps)=true then Oper.wp P o a w K Q else E:=by
 rw [if_pos hgd]
 exact wp_append_but he w s x ho base v xs hv hown B A c ys hx hA hs hlen hby hbase h
end
section
variable {α : Type} {e : TypeId} {sz : Nat} {f : α → List Value} {w w' : World} {base : Nat} {v : Value} {xs : List α}
/-- A row of the call's own, where blocks turn that are not its own. -/
theorem OwnL.but' {S:Nat→Prop} (h:OwnL e sz f w base v xs) (hb:But S w w') (hS:∀k,v.ownBlock=some k→¬ S k):OwnL e sz f w' base v xs:=by
 refine ⟨h.1,?_⟩
 rcases h.2 with h1 | ⟨g,cap,cur,hv,hb2,hh,hr⟩
 ·exact .inl h1
 ·refine .inr ⟨g,cap,cur,hv,hb2,hb.blk hh (hS g ?_),hr⟩
  rw [hv];rfl
/-- Its own block lies in the world, from its base on, and bears its elements' type. -/
theorem OwnL.blk (h:OwnL e sz f w base v xs) {k:Nat} (hk:v.ownBlock=some k):base≤k∧k < w.heap.size∧∃cs,w.heap[k]?=some (.cells cs e (0,0)):=by
 rcases h.2 with ⟨rfl,_⟩ | ⟨g,cap,cur,rfl,hb,hh,_⟩
 ·simp [Value.ownBlock] at hk
 ·simp [Value.ownBlock] at hk
  subst hk
  exact ⟨hb,blk_lt hh,cur,hh⟩
theorem OwnL.keepT {e':TypeId} {base':Nat} (h:OwnL e sz f w base v xs) (k:KeepT e' base' w w') (hne:e≠e'):OwnL e sz f w' base v xs:=by
 refine ⟨h.1,?_⟩
 rcases h.2 with h1 | ⟨g,cap,cur,hv,hb,hh,hr⟩
 ·exact .inl h1
 ·exact .inr ⟨g,cap,cur,hv,hb,k.2 g cur _ _ hne hh,hr⟩
theorem OwnL.self (hf:∀x,(f x).length=sz) {A:Option Addr} {c:Nat} (h:OwnL e sz f w base (.slice A xs.length c) xs):Sl f sz w w.heap.size A xs:=by
 obtain ⟨A',c',e,_,_,h2⟩:=OwnL.sl hf h
 cases e
 exact h2
end
/-- A row just laid: as many cells as it takes. -/
theorem OwnL.made {α : Type} {e : TypeId} {sz : Nat} {f : α → List Value} {w : World} {base b : Nat} {cs : Array Value} (hf : ∀ x, (f x).length = sz) (xs : List α) (hb : w.heap[b]? = some (.cells cs e (0, 0))) (hcs : cs.toList = xs.flatMap f) (hbase : base ≤ b) (hl : xs.length ≤ 9223372036854775807) :
  OwnL e sz f w base (.slice (some ⟨b,0,none⟩) xs.length xs.length) xs:=by
 have h1:=flat_length hf xs
 have h2:cs.size=xs.length * sz:=by rw [←Array.length_toList,hcs,h1]
 exact ⟨h1,.inr ⟨b,xs.length,cs,rfl,hbase,hb,Nat.le_refl _,by simpa [maxLen] using hl,h2,by rw [hcs,←h1,List.take_length]⟩⟩
/-- A world with values laid into cells, one behind the other. -/
def stc (w:World) (g o:Nat):List Value→World
 | []=>w
 | u::us=>stc (w.setCell ⟨g,o,none⟩ u) g (o+1) us
theorem stc_heap (g : Nat) (t : TypeId) (fz : Nat × Nat) : ∀ (us : List Value) (w : World) (o : Nat) (cur : Array Value), w.heap[g]? = some (.cells cur t fz) → o + us.length ≤ cur.size →
  ∃cur',(stc w g o us).heap[g]?=some (.cells cur' t fz)∧cur'.toList=cur.toList.take o++us++cur.toList.drop (o+us.length):=by
 intro us
 induction us with
 | nil=>intro w o cur h _;exact ⟨cur,h,by simp⟩
 | cons u us ih =>
  intro w o cur h hl
  rw [List.length_cons] at hl
  have e1:(w.setCell ⟨g,o,none⟩ u).heap[g]?=some (.cells (cur.setIfInBounds o u) t fz):=by
   rw [setCell_eq_setRow w g o cur t fz u h]
   exact setRow_heap w g cur _ t _ h
  obtain ⟨cur',h1,h2⟩:=ih (w.setCell ⟨g,o,none⟩ u) (o+1) (cur.setIfInBounds o u) e1 (by simp;omega)
  refine ⟨cur',h1,?_⟩
  rw [h2]
  have e:=list_seg_step cur.toList o u us (by simp;omega)
  simpa [Array.toList_setIfInBounds,Nat.add_assoc,Nat.add_comm,Nat.add_left_comm] using e
theorem stc_but (S:Nat→Prop) (g:Nat) (hS:S g):∀(us:List Value) (a w:World) (o:Nat),But S a w→But S a (stc w g o us):=by
 intro us
 induction us with
 | nil=>intro a w o h;exact h
 | cons u us ih=>intro a w o h;exact ih a _ _ (h.set (.inr hS) u)
/-- A block that is known whole, with all its cells laid anew. -/
theorem stc_blk {w:World} {g:Nat} {cur:Array Value} {t:TypeId} {fz:Nat × Nat} (us:List Value) (h:w.heap[g]?=some (.cells cur t fz)) (hs:cur.size=us.length):(stc w g 0 us).heap[g]?=some (.cells us.toArray t fz):=by
 obtain ⟨cur',h1,h2⟩:=stc_heap g t fz us w 0 cur h (by omega)
 rw [h1]
 have:cur'=us.toArray:=by
  apply Array.toList_inj.1
  rw [h2,List.take_zero,List.nil_append,List.drop_of_length_le (by rw [Array.length_toList];omega),List.append_nil]
 rw [this]
theorem G.stc {a:World} {g:Nat} (us:List Value):∀{w:World} {o:Nat},G a w→a.heap.size≤g→G a (stc w g o us):=by
 induction us with
 | nil=>intro w o h _;exact h
 | cons u us ih=>intro w o h hg;exact ih (h.set hg u) hg
end Go.Proofs.YtheogchkelmeeaaGreatDoor
/- Texts as rows of bytes. No condition. -/
namespace Go.Proofs.YtheogchkelmeeaaGreatDoor
open Go.RowKit Go.Lib
def byteC (b:UInt8):List Value:=[.int .u8 b.toNat]
theorem byteC_len (b:UInt8):(byteC b).length=1:=rfl
theorem byte_elem:IsElem Tryz.prog 22 5 1 1 byteC :=
 isElem_of (z:=.int .u8 0) Tryz.underlying22 (by kernel_rfl) rfl (by omega) byteC_len (by intro x u hu;simp [byteC] at hu;subst hu;rfl)
theorem Sl.byte {w : World} {B : Nat} {A : Option Addr} {xs : List UInt8} {k : Nat} {x : UInt8} (h : Sl byteC 1 w B A xs) (hx : xs[k]? = some x) :
  ∃b o,A=some ⟨b,o,none⟩∧b < B∧w.cell? ⟨b,o+k,none⟩=some (.int .u8 x.toNat):=Sl.get1 (g:=fun b:UInt8=>Value.int .u8 b.toNat) h hx
theorem conv_back {w:World} {B:Nat} {A:Option Addr} {c:Nat} {l:List UInt8} (hs:Sl byteC 1 w B A l):(convert 22 9 (.slice A l.length c)).run Tryz.prog w=.ok (.string (strOf l)) w:=by
 rcases A with _ | ⟨b,o,sp⟩
 ·obtain rfl:=hs.of_none
  rw [List.length_nil,run_convert_bytes_string w _ _ _ none 0 c Tryz.underlying22 Tryz.underlying5 Tryz.underlying9]
  rfl
 ·refine run_convert_bytes_back w _ _ _ ⟨b,o,sp⟩ c l Tryz.underlying22 Tryz.underlying5 Tryz.underlying9 fun j hj=>?_
  obtain ⟨b',o',e,_,hc⟩:=hs.byte (List.getElem?_eq_getElem hj)
  cases e
  rw [Addr.add_lit]
  exact hc
end Go.Proofs.YtheogchkelmeeaaGreatDoor
/- bits.Varint, penstockref3.Varint: what they answer. Condition: the number is one of 64 bits. -/
namespace Go.Proofs.YtheogchkelmeeaaGreatDoor
open Go.RowKit
theorem vF_lo {n v:Nat} (h:v < 128):vF (n+1) v=[UInt8.ofNat v]:=if_pos h
theorem vF_hi {n v:Nat} (h:¬ v < 128):vF (n+1) v=UInt8.ofNat (v % 128+128)::vF n (v / 128):=if_neg h
set_option maxRecDepth 100000 in
theorem or128:∀X:Fin 256,bits .or .u8 ((X.val:Nat):Int) 128=((X.val % 128+128:Nat):Int):=by decide
theorem and127 (z:Nat) (h:z < 2 ^ 64):bits .and .u64 (z:Int) 127=((z % 128:Nat):Int):=by
 have:=bits_and_u64_nat z 127 (by simpa using h) (by omega)
 rw [show ((127:Nat):Int)=127 from rfl] at this
 rw [this,show (127:Nat)=2 ^ 7 - 1 from rfl,Nat.and_two_pow_sub_one_eq_mod]
theorem or_128 (p:Nat) (h:p < 128):bits .or .u64 (p:Int) 128=((p+128:Nat):Int):=by
 have:=bits_or_u64_nat p 128 (by omega) (by omega)
 rw [show ((128:Nat):Int)=128 from rfl] at this
 rw [this]
 congr 1
 have h2:128+p=128 ||| p:=Nat.two_pow_add_eq_or_of_lt (i:=7) (b:=p) h 1
 rw [Nat.or_comm,←h2,Nat.add_comm]
theorem wrap_u8 (z:Nat):IntKind.u8.wrap (z:Int)=((z % 256:Nat):Int):=by
 unfold IntKind.wrap
 simp [IntKind.signed,IntKind.bits]
/-- What a number is written as: a row of bytes that is new. -/
def RetBytes (w:World) (l:List UInt8) (e:Ending) (w':World):Prop:=∃A c,e=.returned (.slice A l.length c)∧OwnL 5 1 byteC w' w.heap.size (.slice A l.length c) l∧G w w'
set_option maxRecDepth 100000 in
set_option maxHeartbeats 1000000 in
theorem varint_any (v0:Nat) (w:World) (h0:v0 < 2 ^ 64):Calls Tryz.prog 94 #[.int .u64 v0] w (RetBytes w (vL v0)):=by
 replace h0:=Lib.hid h0
 go_enter Tryz.func94,Tryz.ntmps94
 go_wp2_with fail
 go_loopw [0,2] (fun x v wr=>∃(z:Nat) (acc:List UInt8) (A8:Option Addr) (n8 c8:Nat),x=.int .u64 z∧v=.slice A8 n8 c8∧z < 2 ^ 64∧acc.length≤9∧Hid (z * 2 ^ (7 * acc.length)≤v0)∧Hid (vL v0=acc++vF (10 - acc.length) z)∧Hid (OwnL 5 1 byteC wr w.heap.size (.slice A8 n8 c8) acc)∧G w wr) (fun x _ _=>(intOf x).toNat)
 case atStart=>exact ⟨v0,[],none,0,0,rfl,rfl,h0.out,by simp,by simp [Hid],rfl,OwnL.nil,G.refl _⟩
 case round =>
  obtain ⟨z,acc,A8,n8,c8,rfl,rfl,hz,hj,hpw,hv,hown,hg⟩:=hrel
  obtain ⟨m,hm⟩:∃m,10 - acc.length=m+1:=⟨9 - acc.length,by omega⟩
  have hown1:=hown.out
  clear hown
  by_cases hlt:z < 128
  ·have hvl:vL v0=acc++[UInt8.ofNat z]:=by rw [hv.out,hm,vF_lo hlt]
   have t1:¬ (127:Int) < (z:Int):=by omega
   have t2:¬ (128:Int)≤(z:Int):=by omega
   have hw8:IntKind.u8.wrap (z:Int)=(z:Int):=by rw [wrap_u8];omega
   have hb:((UInt8.ofNat z).toNat:Int)=(z:Int):=by rw [nat_u8 (by omega)]
   obtain ⟨B,hB⟩:∃B,UInt8.ofNat z=B:=⟨_,rfl⟩
   rw [hB] at hvl hb
   replace hvl:=Lib.hid hvl
   replace hB:=Lib.hid hB
   replace hm:=Lib.hid hm
   replace hb:=hb.symm
   go_wp2_with (at_builtin;refine wpList_append_but byte_elem _ rfl (.tmp 13) (.tmp 16) rfl w.heap.size _ acc rfl (hown1.g (G.new _ _)) (wr.heap.size+1) (some ⟨wr.heap.size,0,none⟩) 1 [B] rfl (by intro h;cases h) (Sl.of_blk byteC_len _ (blk_new _ _ _) (by simp [byteC]) (by omega)) (by simp;omega) (by simp;omega) (by have:=hg.size;simp;omega) ?_;intro v' w2 hown2 hkeep hbut)
   have hg2:G w w2:=hkeep.g (hg.alloc _)
   replace hown2:=Lib.hid hown2
   clear hkeep hbut
   obtain ⟨A2,c2,e2,_,_,_⟩:=OwnL.sl byteC_len hown2.out
   subst e2
   go_wp2_with fail
   go_ret
   exact ⟨A2,c2,by rw [hvl.out];rfl,by rw [hvl.out];exact hown2.out,hg2⟩
  ·have hvn:vL v0=acc++UInt8.ofNat (z % 128+128)::vF m (z / 128):=by rw [hv.out,hm,vF_hi hlt]
   have hjn:acc.length≤8:=by
    rcases Nat.lt_or_ge acc.length 9 with h | h
    ·omega
    ·exfalso
     have h9:acc.length=9:=by omega
     have h1:=hpw.out
     have h3:=h0.out
     rw [h9] at h1
     have h2:128 * 2 ^ (7 * 9)≤z * 2 ^ (7 * 9):=Nat.mul_le_mul_right _ (by omega)
     omega
   obtain ⟨Y,hY⟩:∃Y,z % 128+128=Y:=⟨_,rfl⟩
   obtain ⟨Q,hQ⟩:∃Q,z / 128=Q:=⟨_,rfl⟩
   obtain ⟨X,hX⟩:∃X,z % 256=X:=⟨_,rfl⟩
   obtain ⟨P,hP⟩:∃P,z % 128=P:=⟨_,rfl⟩
   rw [hY,hQ] at hvn
   have hv2:vL v0=(acc++[UInt8.ofNat Y])++vF (10 - (acc++[UInt8.ofNat Y]).length) Q:=by
    rw [hvn,List.length_append,List.length_singleton,show 10 - (acc.length+1)=m by omega]
    simp
   have hpw2:Q * 2 ^ (7 * (acc++[UInt8.ofNat Y]).length)≤v0:=by
    rw [List.length_append,List.length_singleton,pow_step,←Nat.mul_assoc]
    exact Nat.le_trans (Nat.mul_le_mul_right _ (by omega)) hpw.out
   have hsh:(z:Int) / 128=(Q:Int):=by omega
   have hw8:IntKind.u8.wrap (z:Int)=(X:Int):=by rw [wrap_u8,hX]
   have hor:bits .or .u8 (X:Int) 128=(Y:Int):=by
    have h1:=or128 ⟨X,by omega⟩
    dsimp only at h1
    rw [h1]
    omega
   have hand:bits .and .u64 (z:Int) 127=(P:Int):=by rw [and127 z hz,hP]
   have hor2:bits .or .u64 (P:Int) 128=(Y:Int):=by rw [or_128 P (by omega)];omega
   have hwY:IntKind.u8.wrap (Y:Int)=(Y:Int):=by rw [wrap_u8];omega
   have hQz:Q < z:=by omega
   have hb:((UInt8.ofNat Y).toNat:Int)=(Y:Int):=by rw [nat_u8 (by omega)]
   have t1:(127:Int) < (z:Int):=by omega
   have t2:(128:Int)≤(z:Int):=by omega
   replace hpw:=Lib.hid hpw2
   replace hv2:=Lib.hid hv2
   replace hY:=Lib.hid hY
   replace hQ:=Lib.hid hQ
   replace hX:=Lib.hid hX
   replace hP:=Lib.hid hP
   replace hm:=Lib.hid hm
   clear hvn hpw2 hv
   go_wp2_with (at_builtin;refine wpList_append_but byte_elem _ rfl (.tmp 5) (.tmp 9) rfl w.heap.size _ acc rfl (hown1.g (G.new _ _)) (wr.heap.size+1) (some ⟨wr.heap.size,0,none⟩) 1 [UInt8.ofNat Y] rfl (by intro h;cases h) (Sl.of_blk byteC_len _ (blk_new _ _ _) (by simp only [List.flatMap_cons,List.flatMap_nil,byteC,hb];rfl) (by omega)) (by simp;omega) (by simp;omega) (by have:=hg.size;simp;omega) ?_;intro v' w2 hown2 hkeep hbut)
   have hg2:G w w2:=hkeep.g (hg.alloc _)
   replace hown2:=Lib.hid hown2
   clear hkeep hbut
   obtain ⟨A2,c2,e2,_,_,_⟩:=OwnL.sl byteC_len hown2.out
   subst e2
   go_wp2_with fail
   go_roundw
   case rel=>exact ⟨Q,acc++[UInt8.ofNat Y],A2,_,c2,rfl,rfl,by omega,by rw [List.length_append,List.length_singleton];omega,hpw.out,hv2.out,hown2,hg2⟩
   case measure=>(simp [intOf] <;> omega)
set_option maxRecDepth 100000 in
set_option maxHeartbeats 1000000 in
theorem refVarint_any (v0:Nat) (w:World) (h0:v0 < 2 ^ 64):Calls Tryz.prog 87 #[.int .u64 v0] w (RetBytes w (vL v0)):=by
 replace h0:=Lib.hid h0
 go_enter Tryz.func87,Tryz.ntmps87
 go_wp2_with fail
 go_loopw [0,3] (fun x v wr=>∃(z:Nat) (acc:List UInt8) (A8:Option Addr) (n8 c8:Nat),x=.int .u64 z∧v=.slice A8 n8 c8∧z < 2 ^ 64∧acc.length≤9∧Hid (z * 2 ^ (7 * acc.length)≤v0)∧Hid (vL v0=acc++vF (10 - acc.length) z)∧Hid (OwnL 5 1 byteC wr w.heap.size (.slice A8 n8 c8) acc)∧G w wr) (fun x _ _=>(intOf x).toNat)
 case atStart=>exact ⟨v0,[],none,0,0,rfl,rfl,h0.out,by simp,by simp [Hid],rfl,OwnL.nil,G.refl _⟩
 case round =>
  obtain ⟨z,acc,A8,n8,c8,rfl,rfl,hz,hj,hpw,hv,hown,hg⟩:=hrel
  obtain ⟨m,hm⟩:∃m,10 - acc.length=m+1:=⟨9 - acc.length,by omega⟩
  have hown1:=hown.out
  clear hown
  by_cases hlt:z < 128
  ·have hvl:vL v0=acc++[UInt8.ofNat z]:=by rw [hv.out,hm,vF_lo hlt]
   have t1:¬ (127:Int) < (z:Int):=by omega
   have t2:¬ (128:Int)≤(z:Int):=by omega
   have hw8:IntKind.u8.wrap (z:Int)=(z:Int):=by rw [wrap_u8];omega
   have hb:((UInt8.ofNat z).toNat:Int)=(z:Int):=by rw [nat_u8 (by omega)]
   obtain ⟨B,hB⟩:∃B,UInt8.ofNat z=B:=⟨_,rfl⟩
   rw [hB] at hvl hb
   replace hvl:=Lib.hid hvl
   replace hB:=Lib.hid hB
   replace hm:=Lib.hid hm
   replace hb:=hb.symm
   go_wp2_with (at_builtin;refine wpList_append_but byte_elem _ rfl (.tmp 15) (.tmp 18) rfl w.heap.size _ acc rfl (hown1.g (G.new _ _)) (wr.heap.size+1) (some ⟨wr.heap.size,0,none⟩) 1 [B] rfl (by intro h;cases h) (Sl.of_blk byteC_len _ (blk_new _ _ _) (by simp [byteC]) (by omega)) (by simp;omega) (by simp;omega) (by have:=hg.size;simp;omega) ?_;intro v' w2 hown2 hkeep hbut)
   have hg2:G w w2:=hkeep.g (hg.alloc _)
   replace hown2:=Lib.hid hown2
   clear hkeep hbut
   obtain ⟨A2,c2,e2,_,_,_⟩:=OwnL.sl byteC_len hown2.out
   subst e2
   go_wp2_with fail
   go_ret
   exact ⟨A2,c2,by rw [hvl.out];rfl,by rw [hvl.out];exact hown2.out,hg2⟩
  ·have hvn:vL v0=acc++UInt8.ofNat (z % 128+128)::vF m (z / 128):=by rw [hv.out,hm,vF_hi hlt]
   have hjn:acc.length≤8:=by
    rcases Nat.lt_or_ge acc.length 9 with h | h
    ·omega
    ·exfalso
     have h9:acc.length=9:=by omega
     have h1:=hpw.out
     have h3:=h0.out
     rw [h9] at h1
     have h2:128 * 2 ^ (7 * 9)≤z * 2 ^ (7 * 9):=Nat.mul_le_mul_right _ (by omega)
     omega
   obtain ⟨Y,hY⟩:∃Y,z % 128+128=Y:=⟨_,rfl⟩
   obtain ⟨Q,hQ⟩:∃Q,z / 128=Q:=⟨_,rfl⟩
   obtain ⟨X,hX⟩:∃X,z % 256=X:=⟨_,rfl⟩
   obtain ⟨P,hP⟩:∃P,z % 128=P:=⟨_,rfl⟩
   rw [hY,hQ] at hvn
   have hv2:vL v0=(acc++[UInt8.ofNat Y])++vF (10 - (acc++[UInt8.ofNat Y]).length) Q:=by
    rw [hvn,List.length_append,List.length_singleton,show 10 - (acc.length+1)=m by omega]
    simp
   have hpw2:Q * 2 ^ (7 * (acc++[UInt8.ofNat Y]).length)≤v0:=by
    rw [List.length_append,List.length_singleton,pow_step,←Nat.mul_assoc]
    exact Nat.le_trans (Nat.mul_le_mul_right _ (by omega)) hpw.out
   have hsh:(z:Int) / 128=(Q:Int):=by omega
   have hw8:IntKind.u8.wrap (z:Int)=(X:Int):=by rw [wrap_u8,hX]
   have hor:bits .or .u8 (X:Int) 128=(Y:Int):=by
    have h1:=or128 ⟨X,by omega⟩
    dsimp only at h1
    rw [h1]
    omega
   have hand:bits .and .u64 (z:Int) 127=(P:Int):=by rw [and127 z hz,hP]
   have hor2:bits .or .u64 (P:Int) 128=(Y:Int):=by rw [or_128 P (by omega)];omega
   have hwY:IntKind.u8.wrap (Y:Int)=(Y:Int):=by rw [wrap_u8];omega
   have hQz:Q < z:=by omega
   have hb:((UInt8.ofNat Y).toNat:Int)=(Y:Int):=by rw [nat_u8 (by omega)]
   have t1:(127:Int) < (z:Int):=by omega
   have t2:(128:Int)≤(z:Int):=by omega
   replace hpw:=Lib.hid hpw2
   replace hv2:=Lib.hid hv2
   replace hY:=Lib.hid hY
   replace hQ:=Lib.hid hQ
   replace hX:=Lib.hid hX
   replace hP:=Lib.hid hP
   replace hm:=Lib.hid hm
   clear hvn hpw2 hv
   go_wp2_with (at_builtin;refine wpList_append_but byte_elem _ rfl (.tmp 6) (.tmp 11) rfl w.heap.size _ acc rfl (hown1.g (G.new _ _)) (wr.heap.size+1) (some ⟨wr.heap.size,0,none⟩) 1 [UInt8.ofNat Y] rfl (by intro h;cases h) (Sl.of_blk byteC_len _ (blk_new _ _ _) (by simp only [List.flatMap_cons,List.flatMap_nil,byteC,hb];rfl) (by omega)) (by simp;omega) (by simp;omega) (by have:=hg.size;simp;omega) ?_;intro v' w2 hown2 hkeep hbut)
   have hg2:G w w2:=hkeep.g (hg.alloc _)
   replace hown2:=Lib.hid hown2
   clear hkeep hbut
   obtain ⟨A2,c2,e2,_,_,_⟩:=OwnL.sl byteC_len hown2.out
   subst e2
   go_wp2_with fail
   go_roundw
   case rel=>exact ⟨Q,acc++[UInt8.ofNat Y],A2,_,c2,rfl,rfl,by omega,by rw [List.length_append,List.length_singleton];omega,hpw.out,hv2.out,hown2,hg2⟩
   case measure=>(simp [intOf] <;> omega)
end Go.Proofs.YtheogchkelmeeaaGreatDoor

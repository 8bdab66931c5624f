/- Several texts in one: DecEvent, Valid. -/
import Derived.Test.YtheogchkelmeeaaGreatDoorRdEventQMsgDecodes
import Derived.BigRegion
import Derived.Test.YtheogchkelmeeaaGreatDoorM9MsgDecodes
import Derived.Test.YtheogchkelmeeaaGreatDoorM10MsgDecodes
/- event.DecodeEvent, penstockref7.DecodeEvent: what they answer. Conditions: at most 2^30 bytes; the decoder's tables lie as the library lays them. -/
namespace Go.Proofs.YtheogchkelmeeaaGreatDoor
open Go.RowKit
/-- What a decoder answers. -/
def decT {α:Type} (f:α→Value) (z:α) (l:List UInt8):Option (α × List UInt8)→Value
 | some (x,r)=>.tuple #[f x,.int .i64 ((l.length - r.length:Nat):Int),.int .i64 0]
 | none=>.tuple #[f z,.int .i64 0,.int .i64 10]
theorem RdS.start {T:TypeId} {A:Option Addr} {c8:Nat} {l:List UInt8} {w:World} (hs:Sl byteC 1 w w.heap.size A l):RdS T w.heap.size A c8 l (some l) (w.alloc (.cells #[.slice A l.length c8,.int .i64 0,.bool false] T)) :=
 ⟨0,Nat.zero_le _,(fun _ e=>by cases e;rfl),blk_new _ _ _,hs.g (Nat.le_refl _) (G.new _ _)⟩
/-- Where a reader stands that has r left. -/
theorem RdS.end {T:TypeId} {R:Nat} {A:Option Addr} {c8:Nat} {l r:List UInt8} {w:World} (h:RdS T R A c8 l (some r) w):w.cell? ⟨R,1,none⟩=some (.int .i64 ((l.length - r.length:Nat):Int)):=by
 obtain ⟨p,h1,h2,h3⟩:=h
 have:=h2 r rfl
 have hp:l.length - r.length=p:=by rw [←this,List.length_drop];omega
 rw [hp]
 exact h3.c1
theorem blk7 {w : World} {g : Nat} {x0 x1 x2 x3 x4 x5 x6 : Value} {t : TypeId} (h : w.heap[g]? = some (.cells #[x0, x1, x2, x3, x4, x5, x6] t (0, 0))) (y0 y1 y2 y3 y4 y5 y6 : Value) :
  (((((((w.setCell ⟨g,0,none⟩ y0).setCell ⟨g,1,none⟩ y1).setCell ⟨g,2,none⟩ y2).setCell ⟨g,3,none⟩ y3).setCell ⟨g,4,none⟩ y4).setCell ⟨g,5,none⟩ y5).setCell ⟨g,6,none⟩ y6).heap[g]?=some (.cells #[y0,y1,y2,y3,y4,y5,y6] t (0,0)) :=
 stc_blk [y0,y1,y2,y3,y4,y5,y6] h rfl
theorem but7 (w:World) (g:Nat) (y0 y1 y2 y3 y4 y5 y6:Value):But (fun k=>k=g) w (((((((w.setCell ⟨g,0,none⟩ y0).setCell ⟨g,1,none⟩ y1).setCell ⟨g,2,none⟩ y2).setCell ⟨g,3,none⟩ y3).setCell ⟨g,4,none⟩ y4).setCell ⟨g,5,none⟩ y5).setCell ⟨g,6,none⟩ y6) :=
 stc_but (fun k=>k=g) g rfl [y0,y1,y2,y3,y4,y5,y6] w w 0 (But.refl _ _)
theorem G.set7 {a w:World} (h:G a w) {g:Nat} (hg:a.heap.size≤g) (y0 y1 y2 y3 y4 y5 y6:Value):G a (((((((w.setCell ⟨g,0,none⟩ y0).setCell ⟨g,1,none⟩ y1).setCell ⟨g,2,none⟩ y2).setCell ⟨g,3,none⟩ y3).setCell ⟨g,4,none⟩ y4).setCell ⟨g,5,none⟩ y5).setCell ⟨g,6,none⟩ y6) :=
 G.stc [y0,y1,y2,y3,y4,y5,y6] (o:=0) h hg
/-- Blocks that turn are new: so nothing old has turned. -/
theorem But.gOf {S:Nat→Prop} {a b c:World} (h:G a b) (k:But S b c) (hS:∀k,S k→a.heap.size≤k):G a c:=((But.of_g (S:=S) h).trans k).below (Nat.le_refl _) (fun k _ hk=>hS k hk)
theorem G.gOf' {S:Nat→Prop} {a b c:World} (h:G a b) (k:But S b c) (hS:∀k,S k→a.heap.size≤k):G a c:=Go.Proofs.YtheogchkelmeeaaGreatDoor.But.gOf h k hS
set_option maxRecDepth 100000 in
set_option maxHeartbeats 4000000 in
theorem decEvent_any (l : List UInt8) (A : Option Addr) (c8 : Nat) (w : World) (hs : Sl byteC 1 w w.heap.size A l) (hl : l.length ≤ 1073741824) (hcap : l.length ≤ c8) (hT : Tabs w) :
  Calls Tryz.prog 76 #[.slice A l.length c8] w fun e w'=>e=.returned (decT evVal zEv l (dEvent l))∧G w w':=by
 have hZ0:=blk_new w #[.string ByteArray.empty,.int .i64 0,.string ByteArray.empty,.int .i64 0,.int .i64 0,.int .i64 0,.int .i64 0] 76
 have hg0:=G.new w (.cells #[.string ByteArray.empty,.int .i64 0,.string ByteArray.empty,.int .i64 0,.int .i64 0,.int .i64 0,.int .i64 0] 76)
 have hz0:(w.alloc (.cells #[.string ByteArray.empty,.int .i64 0,.string ByteArray.empty,.int .i64 0,.int .i64 0,.int .i64 0,.int .i64 0] 76)).heap.size=w.heap.size+1:=by simp
 generalize hW0:w.alloc (.cells #[.string ByteArray.empty,.int .i64 0,.string ByteArray.empty,.int .i64 0,.int .i64 0,.int .i64 0,.int .i64 0] 76)=W0 at hZ0 hg0 hz0
 have hr:=RdS.start (T:=166) (c8:=c8) ((hs.g (Nat.le_refl _) hg0).more hg0.size)
 have hc:=revent_any W0.heap.size A c8 l (some l) _ hr hl hcap ((hT.g hg0).g (G.new _ _))
 have hZ1:=(G.new W0 (.cells #[.slice A l.length c8,.int .i64 0,.bool false] 166)).blk hZ0
 have hg1:=hg0.trans (G.new W0 (.cells #[.slice A l.length c8,.int .i64 0,.bool false] 166))
 rw [hz0] at hc
 replace hz0:=Lib.hid hz0
 replace hZ1:=Lib.hid hZ1
 replace hg1:=Lib.hid hg1
 clear hr hZ0 hg0 hs hT
 subst hW0
 go_enter Tryz.func76,Tryz.ntmps76
 go_wp2_with fail
 refine hc.mono ?_
 clear hc
 rintro e w1 ⟨⟨s,v,d,⟨ta,tb,tc⟩,i⟩,st',rfl,hr,hb,hgv⟩
 unfold evVal Ev.cells
 dsimp only
 have hZ:=hb.blk hZ1.out (by omega)
 have hg:=hg1.out.gOf' hb (fun k e=>by rw [e];omega)
 replace hgv:=Lib.hid hgv
 clear hZ1 hg1 hb
 have q0:=(blk_cell hZ 0).trans (show _=some (.string ByteArray.empty) from rfl)
 have q1:=(blk_cell hZ 1).trans (show _=some (.int .i64 0) from rfl)
 have q2:=(blk_cell hZ 2).trans (show _=some (.string ByteArray.empty) from rfl)
 have q3:=(blk_cell hZ 3).trans (show _=some (.int .i64 0) from rfl)
 have q4:=(blk_cell hZ 4).trans (show _=some (.int .i64 0) from rfl)
 have q5:=(blk_cell hZ 5).trans (show _=some (.int .i64 0) from rfl)
 have q6:=(blk_cell hZ 6).trans (show _=some (.int .i64 0) from rfl)
 have fq:∀o,(w1).frozen? ⟨w.heap.size,o,none⟩=false:=fun o=>by simp [World.frozen?,hZ]
 have f0:=fq 0
 have f1:=fq 1
 have f2:=fq 2
 have f3:=fq 3
 have f4:=fq 4
 have f5:=fq 5
 have f6:=fq 6
 clear fq
 have hE:=blk7 hZ (.string s) (.int .i64 v) (.string d) (.int .i64 ta) (.int .i64 tb) (.int .i64 tc) (.int .i64 i)
 have hbs:=but7 w1 w.heap.size (.string s) (.int .i64 v) (.string d) (.int .i64 ta) (.int .i64 tb) (.int .i64 tc) (.int .i64 i)
 have hgs:=hg.set7 (Nat.le_refl _) (.string s) (.int .i64 v) (.string d) (.int .i64 ta) (.int .i64 tb) (.int .i64 tc) (.int .i64 i)
 have k2:=(hbs.cell (k:=w.heap.size+1) (o:=2) hr.lt (by omega)).trans hr.c2
 cases st' with
 | none =>
  have hno:=hgv.out.miss
  unfold Option.isNone at k2
  replace hbs:=Lib.hid hbs
  replace hE:=Lib.hid hE
  replace hgs:=Lib.hid hgs
  replace hZ:=Lib.hid hZ
  have hE2:=blk7 hE.out (.string ⟨#[]⟩) (.int .i64 0) (.string ⟨#[]⟩) (.int .i64 0) (.int .i64 0) (.int .i64 0) (.int .i64 0)
  have hg2:=hgs.out.set7 (Nat.le_refl _) (.string ⟨#[]⟩) (.int .i64 0) (.string ⟨#[]⟩) (.int .i64 0) (.int .i64 0) (.int .i64 0) (.int .i64 0)
  have e0:=(blk_cell hE2 0).trans (show _=some (.string ⟨#[]⟩) from rfl)
  have e1:=(blk_cell hE2 1).trans (show _=some (.int .i64 0) from rfl)
  have e2:=(blk_cell hE2 2).trans (show _=some (.string ⟨#[]⟩) from rfl)
  have e3:=(blk_cell hE2 3).trans (show _=some (.int .i64 0) from rfl)
  have e4:=(blk_cell hE2 4).trans (show _=some (.int .i64 0) from rfl)
  have e5:=(blk_cell hE2 5).trans (show _=some (.int .i64 0) from rfl)
  have e6:=(blk_cell hE2 6).trans (show _=some (.int .i64 0) from rfl)
  replace e0:=Lib.hid e0
  replace e1:=Lib.hid e1
  replace e2:=Lib.hid e2
  replace e3:=Lib.hid e3
  replace e4:=Lib.hid e4
  replace e5:=Lib.hid e5
  replace e6:=Lib.hid e6
  replace hE2:=Lib.hid hE2
  replace hg2:=Lib.hid hg2
  go_wp2_with fail
  have e0:=e0.out
  have e1:=e1.out
  have e2:=e2.out
  have e3:=e3.out
  have e4:=e4.out
  have e5:=e5.out
  have e6:=e6.out
  refine bodyPost_ret (v:=.tuple #[.agg #[.string ⟨#[]⟩,.int .i64 0,.string ⟨#[]⟩,.int .i64 0,.int .i64 0,.int .i64 0,.int .i64 0],.int .i64 0,.int .i64 10]) (by simp [results,Tryz.results76,go_sem,e0,e1,e2,e3,e4,e5,e6]) rfl ?_
  exact ⟨by first|(rw [hno];rfl) | rfl,hg2.out⟩
 | some r =>
  have k1:=(hbs.cell (k:=w.heap.size+1) (o:=1) hr.lt (by omega)).trans hr.end
  unfold Option.isNone at k2
  have hyes:=hgv.out.hit
  replace hbs:=Lib.hid hbs
  replace hE:=Lib.hid hE
  replace hgs:=Lib.hid hgs
  replace hZ:=Lib.hid hZ
  replace hyes:=Lib.hid hyes
  go_wp2_with fail
  clear q0 q1 q2 q3 q4 q5 q6 f0 f1 f2 f3 f4 f5 f6 hZ hbs hr
  generalize ((((((w1.setCell ⟨w.heap.size,0,none⟩ (.string s)).setCell ⟨w.heap.size,1,none⟩ (.int .i64 v)).setCell ⟨w.heap.size,2,none⟩ (.string d)).setCell ⟨w.heap.size,3,none⟩ (.int .i64 ta)).setCell ⟨w.heap.size,4,none⟩ (.int .i64 tb)).setCell ⟨w.heap.size,5,none⟩ (.int .i64 tc)).setCell ⟨w.heap.size,6,none⟩ (.int .i64 i)=w2 at *
  replace hE:=hE.out
  have q0:=(blk_cell hE 0).trans (show _=some (.string s) from rfl)
  have q1:=(blk_cell hE 1).trans (show _=some (.int .i64 v) from rfl)
  have q2:=(blk_cell hE 2).trans (show _=some (.string d) from rfl)
  have q3:=(blk_cell hE 3).trans (show _=some (.int .i64 ta) from rfl)
  have q4:=(blk_cell hE 4).trans (show _=some (.int .i64 tb) from rfl)
  have q5:=(blk_cell hE 5).trans (show _=some (.int .i64 tc) from rfl)
  have q6:=(blk_cell hE 6).trans (show _=some (.int .i64 i) from rfl)
  have fq:∀o,(w2).frozen? ⟨w.heap.size,o,none⟩=false:=fun o=>by simp [World.frozen?,hE]
  have f0:=fq 0
  have f1:=fq 1
  have f2:=fq 2
  have f3:=fq 3
  have f4:=fq 4
  have f5:=fq 5
  have f6:=fq 6
  clear fq
  have hE2:=blk7 hE (.string s) (.int .i64 v) (.string d) (.int .i64 ta) (.int .i64 tb) (.int .i64 tc) (.int .i64 i)
  have hg2:=hgs.out.set7 (Nat.le_refl _) (.string s) (.int .i64 v) (.string d) (.int .i64 ta) (.int .i64 tb) (.int .i64 tc) (.int .i64 i)
  have e0:=(blk_cell hE2 0).trans (show _=some (.string s) from rfl)
  have e1:=(blk_cell hE2 1).trans (show _=some (.int .i64 v) from rfl)
  have e2:=(blk_cell hE2 2).trans (show _=some (.string d) from rfl)
  have e3:=(blk_cell hE2 3).trans (show _=some (.int .i64 ta) from rfl)
  have e4:=(blk_cell hE2 4).trans (show _=some (.int .i64 tb) from rfl)
  have e5:=(blk_cell hE2 5).trans (show _=some (.int .i64 tc) from rfl)
  have e6:=(blk_cell hE2 6).trans (show _=some (.int .i64 i) from rfl)
  replace e0:=Lib.hid e0
  replace e1:=Lib.hid e1
  replace e2:=Lib.hid e2
  replace e3:=Lib.hid e3
  replace e4:=Lib.hid e4
  replace e5:=Lib.hid e5
  replace e6:=Lib.hid e6
  replace hE2:=Lib.hid hE2
  replace hg2:=Lib.hid hg2
  replace hE:=Lib.hid hE
  generalize hnn:l.length - r.length=nn at *
  replace hnn:=Lib.hid hnn
  go_region
  go_wp2_with fail
  have e0:=e0.out
  have e1:=e1.out
  have e2:=e2.out
  have e3:=e3.out
  have e4:=e4.out
  have e5:=e5.out
  have e6:=e6.out
  refine bodyPost_ret (v:=.tuple #[.agg #[.string s,.int .i64 v,.string d,.int .i64 ta,.int .i64 tb,.int .i64 tc,.int .i64 i],.int .i64 nn,.int .i64 0]) (by simp [results,Tryz.results76,go_sem,e0,e1,e2,e3,e4,e5,e6]) rfl ?_
  refine ⟨?_,hg2.out.drew⟩
  rw [hyes.out,←hnn.out]
  rfl
end Go.Proofs.YtheogchkelmeeaaGreatDoor
/- event.valid and what it calls: what they answer. Conditions: lengths of at most 2^40; the decoder's tables lie as the library lays them. -/
namespace Go.Proofs.YtheogchkelmeeaaGreatDoor
open Go.RowKit
theorem str_elem:IsElem Tryz.prog 108 9 1 16 strC :=
 isElem_of (z:=.string ByteArray.empty) Tryz.underlying108 (by kernel_rfl) rfl (by omega) strC_len (by intro x u hu;simp [strC] at hu;subst hu;rfl)
theorem validFn_any (s : ByteArray) (w : World) (hs : s.size ≤ 9223372036854775807) (hT : Tabs w) :
  Calls Tryz.prog 122 #[.string s] w fun e w'=>e=.returned (.bool (!validB s))∧G w w':=by
 have hv:=valid_any s w hs hT
 go_enter Tryz.func122,Tryz.ntmps122
 go_wp2_with fail
 refine hv.mono ?_
 rintro e w1 ⟨rfl,hg⟩
 go_wp2_with fail
 go_ret
 exact ⟨rfl,hg⟩
theorem all_take_snoc {l:List ByteArray} {k:Nat} {x:ByteArray} (h:l[k]?=some x) (h1:(l.take k).all validB=true) (h2:validB x=true):(l.take (k+1)).all validB=true:=by
 obtain ⟨hk,rfl⟩:=List.getElem?_eq_some_iff.1 h
 rw [List.take_succ_eq_append_getElem hk,List.all_append,h1]
 simp [h2]
theorem all_not {l:List ByteArray} {k:Nat} {x:ByteArray} (h:l[k]?=some x) (h2:validB x=false):l.all validB=false:=by
 rw [List.all_eq_false]
 exact ⟨x,List.mem_of_getElem? h,by rw [h2];simp⟩
/-- Where the first text is that is not UTF-8. -/
def IdxPost (xs:List ByteArray) (w:World) (e:Ending) (w':World):Prop :=
 ∃n:Int,e=.returned (.int .i64 n)∧((n=-1∧xs.all validB=true)∨∃k:Nat,n=k∧k < xs.length∧xs.all validB=false)∧G w w'
set_option maxRecDepth 100000 in
set_option maxHeartbeats 1000000 in
theorem indexFn_any (xs : List ByteArray) (A : Option Addr) (c B : Nat) (w : World) (hB : B ≤ w.heap.size) (hs : Sl strC 1 w B A xs) (hl : xs.length ≤ 1099511627776) (hz : ∀ s ∈ xs, s.size ≤ 9223372036854775807) (hT : Tabs w) :
  Calls Tryz.prog 126 #[.slice A xs.length c,.func (.func 122) #[] #[]] w (IdxPost xs w):=by
 replace hT:=Lib.hid hT
 replace hz:=Lib.hid hz
 go_enter Tryz.func126,Tryz.ntmps126
 go_wp2_with fail
 go_loopw [8] (fun i wr=>∃k:Nat,i=.int .i64 k∧k≤xs.length∧Hid ((xs.take k).all validB=true)∧G w wr) (fun i _=>xs.length - (intOf i).toNat)
 case atStart=>exact ⟨0,rfl,Nat.zero_le _,rfl,G.refl _⟩
 case round =>
  obtain ⟨k,rfl,hk,hall,hg⟩:=hrel
  by_cases hlt:k < xs.length
  ·obtain ⟨x,hx⟩:∃x,xs[k]?=some x:=⟨_,List.getElem?_eq_getElem hlt⟩
   obtain ⟨b,o,rfl,hb,hc⟩:=(hs.g hB hg).str hx
   have hv:=validFn_any x wr (hz.out x (List.mem_of_getElem? hx)) (hT.out.g hg)
   have n1:(0:Int)≤(k:Int):=by omega
   have n2:(k:Int) < (xs.length:Int):=by omega
   cases hvx:validB x with
   | true =>
    have hall2:=all_take_snoc hx hall.out hvx
    rw [hvx] at hv
    replace hall2:=Lib.hid hall2
    replace hvx:=Lib.hid hvx
    clear hx hs hall
    go_wp2_with fail
    refine hv.mono ?_
    clear hv
    rintro e w1 ⟨rfl,hg1⟩
    go_wp2_with fail
    go_roundw
    case rel=>exact ⟨k+1,by go_num,by omega,hall2,hg.trans hg1⟩
    case measure=>(simp [intOf] <;> omega)
   | false =>
    have hall2:=all_not hx hvx
    rw [hvx] at hv
    replace hall2:=Lib.hid hall2
    replace hvx:=Lib.hid hvx
    clear hx hs hall
    go_wp2_with fail
    refine hv.mono ?_
    clear hv
    rintro e w1 ⟨rfl,hg1⟩
    go_wp2_with fail
    go_ret
    exact ⟨k,rfl,.inr ⟨k,rfl,hlt,hall2.out⟩,hg.trans hg1⟩
  ·have hend:xs.all validB=true:=by have:=hall.out;rwa [List.take_of_length_le (by omega)] at this
   replace hend:=Lib.hid hend
   clear hs hall
   go_wp2_with fail
   go_ret
   exact ⟨-1,rfl,.inl ⟨rfl,hend.out⟩,hg⟩
set_option maxRecDepth 100000 in
set_option maxHeartbeats 400000 in
theorem cloneS_any (l : List ByteArray) (A : Option Addr) (c : Nat) (w : World) (hs : Sl strC 1 w w.heap.size A l) (hl : l.length ≤ 1099511627776) :
  Calls Tryz.prog 121 #[.slice A l.length c] w fun e w'=>∃A' c',e=.returned (.slice A' l.length c')∧OwnL 9 1 strC w' w.heap.size (.slice A' l.length c') l∧G w w':=by
 rcases A with _ | ad
 ·obtain rfl:=hs.of_none
  clear hl hs
  have hq:=fun W A n c=>Lib.run_eql_slice_nil (P:=Tryz.prog) W 108 9 A n c 0 0 Tryz.underlying108
  go_enter Tryz.func121,Tryz.ntmps121
  go_wp2_with fail
  go_ret
  exact ⟨none,0,rfl,OwnL.nil,G.refl _⟩
 ·have hown:OwnL 9 1 strC (w.alloc (.cells #[] 9)) w.heap.size (.slice (some ⟨w.heap.size,0,none⟩) 0 0) []:=OwnL.made strC_len [] (blk_new _ _ _) rfl (Nat.le_refl _) (by simp)
  replace hown:=Lib.hid hown
  have hq:=fun W A n c=>Lib.run_eql_slice_nil (P:=Tryz.prog) W 108 9 A n c 0 0 Tryz.underlying108
  go_enter Tryz.func121,Tryz.ntmps121
  go_wp2_with (at_builtin;refine wpList_append_but str_elem _ rfl (.tmp 5) (.tmp 6) rfl w.heap.size _ [] rfl hown.out w.heap.size (some ad) c l rfl (by intro h;cases h) (hs.g (Nat.le_refl _) (G.new _ _)) (by simp;omega) (by simp;omega) (by simp) ?_;intro v' w2 hown2 hkeep hbut)
  have hg2:G w w2:=hkeep.g (G.new _ _)
  rw [List.nil_append] at hown2
  obtain ⟨A2,c2,e2,_,_,_⟩:=OwnL.sl strC_len hown2
  subst e2
  replace hown2:=Lib.hid hown2
  clear hkeep hbut
  go_wp2_with fail
  go_ret
  exact ⟨A2,c2,rfl,hown2.out,hg2⟩
theorem KeepT.put {e:TypeId} {base:Nat} {w w':World} {g o:Nat} (h:KeepT e base w w') {cs:Array Value} (hb:w'.heap[g]?=some (.cells cs e (0,0))) (hg:base≤g) (u:Value):KeepT e base w (w'.setCell ⟨g,o,none⟩ u) :=
 ⟨h.1.setCell (p:=⟨g,o,none⟩) hg u,fun k cs' t fz ht hh=>by
  have h1:=h.2 k cs' t fz ht hh
  refine (Below.heap_setCell _ _ _ _ ?_).trans h1
  rintro rfl
  rw [hb] at h1
  cases h1
  exact ht rfl⟩
set_option maxRecDepth 100000 in
set_option maxHeartbeats 2000000 in
theorem deleteYes_any (xs : List ByteArray) (A : Option Addr) (c base : Nat) (w : World) (_hbase : base ≤ w.heap.size) (hown : OwnL 9 1 strC w base (.slice A xs.length c) xs) (hl : xs.length ≤ 1099511627776) (hz : ∀ s ∈ xs, s.size ≤ 9223372036854775807) (hT : Tabs w) (hall : xs.all validB = true) :
  Calls Tryz.prog 120 #[.slice A xs.length c,.func (.func 122) #[] #[]] w fun e w'=>e=.returned (.slice A xs.length c)∧G w w':=by
 have hi:=indexFn_any xs A c w.heap.size w (Nat.le_refl _) (OwnL.self strC_len hown) hl hz hT
 replace hall:=Lib.hid hall
 clear hown hz hT
 go_enter Tryz.func120,Tryz.ntmps120
 go_wp2_with fail
 refine hi.mono ?_
 clear hi
 rintro e w1 ⟨n,rfl,hn,hg⟩
 obtain rfl:n=-1:=by
  rcases hn with ⟨h,_⟩ | ⟨k,_,_,h⟩
  ·exact h
  ·rw [hall.out] at h;cases h
 clear hn
 go_wp2_with fail
 go_ret
 exact ⟨rfl,hg⟩
theorem mem_set {l:List ByteArray} {i:Nat} {y s:ByteArray} (h:s ∈ l.set i y):s ∈ l∨s=y:=List.mem_or_eq_of_mem_set h
theorem heap_put {w:World} {b:Nat} {cs:Array Value} {t:TypeId} {fz:Nat × Nat} (h:w.heap[b]?=some (.cells cs t fz)) (o:Nat) (u:Value):(w.setCell ⟨b,o,none⟩ u).heap[b]?=some (.cells (cs.setIfInBounds o u) t fz):=by
 rw [setCell_eq_setRow w b o cs t fz u h]
 exact setRow_heap w b cs _ t _ h
theorem setCells_keepT {e:TypeId} {base g:Nat} {w:World} (hg:base≤g) (us:List Value):∀(w':World) (o:Nat),KeepT e base w w'→(∃cs,w'.heap[g]?=some (.cells cs e (0,0)))→KeepT e base w (w'.setCells g o us):=by
 induction us with
 | nil=>intro w' o h _;exact h
 | cons u us ih =>
  intro w' o h ⟨cs,hb⟩
  exact ih _ (o+1) (h.put hb hg u) ⟨_,heap_put hb o u⟩
set_option maxRecDepth 100000 in
set_option maxHeartbeats 4000000 in
theorem deleteNo_any (xs : List ByteArray) (g c base : Nat) (w : World) (hbase : base ≤ w.heap.size) (hown : OwnL 9 1 strC w base (.slice (some ⟨g, 0, none⟩) xs.length c) xs) (hl : xs.length ≤ 1099511627776) (hz : ∀ s ∈ xs, s.size ≤ 9223372036854775807) (hT : Tabs w) (hTb : ∀ w', Below base w w' → Tabs w') (hall : xs.all validB = false) (hcap : xs.length ≤ c) :
  Calls Tryz.prog 120 #[.slice (some ⟨g,0,none⟩) xs.length c,.func (.func 122) #[] #[]] w fun e w'=>∃A' c' k,e=.returned (.slice A' k c')∧k < xs.length∧KeepT 9 base w w':=by
 have hi:=indexFn_any xs (some ⟨g,0,none⟩) c w.heap.size w (Nat.le_refl _) (OwnL.self strC_len hown) hl hz hT
 replace hall:=Lib.hid hall
 replace hTb:=Lib.hid hTb
 replace hown:=Lib.hid hown
 replace hz:=Lib.hid hz
 clear hT
 go_enter Tryz.func120,Tryz.ntmps120
 go_wp2_with fail
 refine hi.mono ?_
 clear hi
 rintro e w1 ⟨n,rfl,hn,hg⟩
 obtain ⟨k,rfl,hk⟩:∃k:Nat,n=k∧k < xs.length:=by
  rcases hn with ⟨_,h⟩ | ⟨k,h1,h2,_⟩
  ·rw [hall.out] at h;cases h
  ·exact ⟨k,h1,h2⟩
 have hown1:=hown.out.g hg
 have hkeep:=KeepT.of_g (e:=9) hg hbase
 have t1:((k:Int) == -1)=false:=by rw [beq_eq_false_iff_ne];omega
 replace hown1:=Lib.hid hown1
 replace hkeep:=Lib.hid hkeep
 have hz1:=hg.size
 clear hn hall hown hg
 go_wp2_with fail
 clear t1
 go_loopw [5,6] (fun v j wr=>∃(i q:Nat) (ys:List ByteArray),v=.int .i64 i∧j=.int .i64 q∧i < q∧q≤xs.length∧Hid (ys.length=xs.length)∧Hid (∀s ∈ ys,s.size≤9223372036854775807)∧Hid (OwnL 9 1 strC wr base (.slice (some ⟨g,0,none⟩) ys.length c) ys)∧Hid (KeepT 9 base w wr)) (fun _ j _=>xs.length - (intOf j).toNat)
 case atStart=>exact ⟨k,k+1,xs,rfl,by go_num,by omega,by omega,rfl,hz,hown1,hkeep⟩
 case round =>
  clear hown1 hkeep hz hk
  obtain ⟨i,q,ys,rfl,rfl,hiq,hq,hyl,hz,hown,hkeep⟩:=hrel
  by_cases hlt:q < xs.length
  ·obtain ⟨y,hy⟩:∃y,ys[q]?=some y:=⟨_,List.getElem?_eq_getElem (by rw [hyl.out];omega)⟩
   obtain ⟨y0,hy0⟩:∃y,ys[i]?=some y:=⟨_,List.getElem?_eq_getElem (by rw [hyl.out];omega)⟩
   have hself:=OwnL.self strC_len hown.out
   obtain ⟨b',o',e,_,hc⟩:=hself.str hy
   cases e
   rw [Nat.zero_add] at hc
   have hv:=validFn_any y wr (hz.out y (List.mem_of_getElem? hy)) (hTb.out _ hkeep.out.1)
   have n1:(0:Int)≤(q:Int):=by omega
   have n2:(q:Int) < (xs.length:Int):=by omega
   have n3:(0:Int)≤(i:Int):=by omega
   have n4:(i:Int) < (xs.length:Int):=by omega
   clear hself
   cases hvy:validB y with
   | true =>
    rw [hvy] at hv
    replace hvy:=Lib.hid hvy
    replace hy:=Lib.hid hy
    replace hy0:=Lib.hid hy0
    go_wp2_with fail
    refine hv.mono ?_
    clear hv
    rintro e w2 ⟨rfl,hg2⟩
    have hown2:=hown.out.g hg2
    obtain ⟨hbg,hgl,cs,hcs⟩:=hown2.blk rfl
    obtain ⟨b',o',e,_,hc0⟩:=(OwnL.self strC_len hown2).str hy0.out
    cases e
    rw [Nat.zero_add] at hc0
    have hf0:w2.frozen? ⟨g,i,none⟩=false:=by simp [World.frozen?,hcs]
    have hput:=hown2.put strC_len (j:=0) (y:=y) (u:=.string y) hy0.out (by omega) rfl
    rw [Nat.mul_one,Nat.add_zero] at hput
    have hkeep2:=(hkeep.out.trans (KeepT.of_g hg2 (Nat.le_trans hbase hkeep.out.1.size))).put (o:=i) hcs hbg (.string y)
    have hlen:(ys.set i y).length=xs.length:=by rw [List.length_set];exact hyl.out
    have hzs:∀s ∈ ys.set i y,s.size≤9223372036854775807:=fun s hs=>by
     rcases mem_set hs with h | rfl
     ·exact hz.out s h
     ·exact hz.out _ (List.mem_of_getElem? hy.out)
    rw [show ys.length=(ys.set i y).length by simp] at hput
    replace hput:=Lib.hid hput
    replace hkeep2:=Lib.hid hkeep2
    replace hlen:=Lib.hid hlen
    replace hzs:=Lib.hid hzs
    clear hown hown2 hg2 hc hcs hkeep
    go_wp2_with fail
    go_roundw
    case rel=>exact ⟨i+1,q+1,ys.set i y,by go_num,by go_num,by omega,by omega,hlen,hzs,hput,hkeep2⟩
    case measure=>(simp [intOf] <;> omega)
   | false =>
    rw [hvy] at hv
    replace hvy:=Lib.hid hvy
    replace hy:=Lib.hid hy
    replace hy0:=Lib.hid hy0
    go_wp2_with fail
    refine hv.mono ?_
    clear hv
    rintro e w2 ⟨rfl,hg2⟩
    have hown2:=hown.out.g hg2
    have hkeep2:=hkeep.out.trans (KeepT.of_g hg2 (Nat.le_trans hbase hkeep.out.1.size))
    replace hown2:=Lib.hid hown2
    replace hkeep2:=Lib.hid hkeep2
    clear hown hkeep hc hg2
    go_wp2_with fail
    go_roundw
    case rel=>exact ⟨i,q+1,ys,rfl,by go_num,by omega,by omega,hyl,hz,hown2,hkeep2⟩
    case measure=>(simp [intOf] <;> omega)
  ·have hq2:i < xs.length:=by omega
   have hn1:=hown.out.blk rfl
   obtain ⟨hbg,hgl,cs,hcs⟩:=hn1
   have hself:=OwnL.self strC_len hown.out
   have hclr:=fun ty=>Lib.run_clear_slice (P:=Tryz.prog) wr 108 9 ty (.string ByteArray.empty) Tryz.underlying108 (fun _=>by kernel_rfl) rfl rfl g i (xs.length - i) (c - i) (by omega)
    (fun q hq=>by
     obtain ⟨y,hy⟩:∃y,ys[i+q]?=some y:=⟨_,List.getElem?_eq_getElem (by rw [hyl.out];omega)⟩
     obtain ⟨b',o',e,_,h2⟩:=hself.str hy
     cases e
     rw [show i+q=0+(i+q) by omega,h2]
     rfl) (fun q _=>by simp [World.frozen?,hcs])
   have hs1:∀w,(Instr.sliceAt 108 (.slice (some ⟨g,0,none⟩) xs.length c) (some (.int .i64 i)) none none).run Tryz.prog w=.ok (.slice (some ⟨g,i,none⟩) (xs.length - i) (c - i)) w:=fun w=>by
    have ht:Tryz.prog.underlying 108=some (.slice (Tryz.prog.elem 108)):=by kernel_rfl
    have hsz:∀w,(Go.sizeOf (Tryz.prog.elem 108)).run Tryz.prog w=.ok 1 w:=fun w=>by kernel_rfl
    rw [run_sliceAt_slice _ _ _ _ _ _ ht,run_slice_l w 108 _ _ c ht .i64 i (by omega) (by omega),hsz]
    simp [Result.andThen,sliced,show ¬ c=i by omega,Addr.add_lit]
   have hs2:∀w,(Instr.sliceAt 108 (.slice (some ⟨g,0,none⟩) xs.length c) none (some (.int .i64 i)) none).run Tryz.prog w=.ok (.slice (some ⟨g,0,none⟩) i c) w:=fun w=>by
    have ht:Tryz.prog.underlying 108=some (.slice (Tryz.prog.elem 108)):=by kernel_rfl
    have hsz:∀w,(Go.sizeOf (Tryz.prog.elem 108)).run Tryz.prog w=.ok 1 w:=fun w=>by kernel_rfl
    rw [run_sliceAt_slice _ _ _ _ _ _ ht,run_slice_h w 108 _ _ c ht .i64 i (by omega) (by omega),hsz]
    simp [Result.andThen,sliced,Addr.add_lit]
   have hkeep2:KeepT 9 base w (wr.setCells g i (List.replicate (xs.length - i) (.string ByteArray.empty))):=setCells_keepT hbg _ _ _ hkeep.out ⟨cs,hcs⟩
   have hlq:¬ (q:Int) < (xs.length:Int):=by omega
   replace hkeep2:=Lib.hid hkeep2
   clear hself hcs hown hz hkeep
   go_wp2_with fail
   go_ret
   exact ⟨_,_,i,rfl,hq2,hkeep2.out⟩
/-! The texts of a list that are UTF-8, held against the list. -/
set_option maxRecDepth 100000 in
theorem validYes_any (l : List ByteArray) (A : Option Addr) (c : Nat) (w : World) (hs : Sl strC 1 w w.heap.size A l) (hl : l.length ≤ 1073741824) (hz : ∀ s ∈ l, s.size ≤ 9223372036854775807) (hT : Tabs w) (hall : l.all validB = true) :
  Calls Tryz.prog 115 #[.slice A l.length c] w fun e w'=>∃A' c',e=.returned (.slice A' l.length c')∧Sl strC 1 w' w'.heap.size A' l∧G w w':=by
 have hcl:=cloneS_any l A c w hs (by omega)
 replace hT:=Lib.hid hT
 replace hz:=Lib.hid hz
 replace hall:=Lib.hid hall
 clear hs
 go_enter Tryz.func115,Tryz.ntmps115
 go_wp2_with fail
 refine hcl.mono ?_
 clear hcl
 rintro e w1 ⟨A1,c1,rfl,hown,hg⟩
 have hd:=deleteYes_any l A1 c1 w.heap.size w1 hg.size hown (by omega) hz.out (hT.out.g hg) hall.out
 replace hown:=Lib.hid hown
 go_wp2_with fail
 refine hd.mono ?_
 clear hd
 rintro e w2 ⟨rfl,hg2⟩
 go_wp2_with fail
 go_ret
 exact ⟨A1,c1,rfl,OwnL.self strC_len (hown.out.g hg2),hg.trans hg2⟩
set_option maxRecDepth 100000 in
theorem validNo_any (l : List ByteArray) (A : Option Addr) (c : Nat) (w : World) (hs : Sl strC 1 w w.heap.size A l) (hl : l.length ≤ 1073741824) (hz : ∀ s ∈ l, s.size ≤ 9223372036854775807) (hT : Tabs w) (hall : l.all validB = false) :
  Calls Tryz.prog 115 #[.slice A l.length c] w fun e w'=>∃A' c' k,e=.returned (.slice A' k c')∧k < l.length∧G w w':=by
 have hcl:=cloneS_any l A c w hs (by omega)
 have hne:l≠[]:=by rintro rfl;simp at hall
 replace hT:=Lib.hid hT
 replace hz:=Lib.hid hz
 replace hall:=Lib.hid hall
 replace hne:=Lib.hid hne
 clear hs
 go_enter Tryz.func115,Tryz.ntmps115
 go_wp2_with fail
 refine hcl.mono ?_
 clear hcl
 rintro e w1 ⟨A1,c1,rfl,hown,hg⟩
 obtain ⟨g,rfl,hcap⟩:∃g,A1=some ⟨g,0,none⟩∧l.length≤c1:=by
  rcases hown.2 with ⟨h,h2⟩ | ⟨g,cap,cur,h,_,_,hn,_⟩
  ·exact absurd (List.eq_nil_of_length_eq_zero h2) hne.out
  ·cases h
   exact ⟨g,rfl,hn⟩
 have hd:=deleteNo_any l g c1 w.heap.size w1 hg.size hown (by omega) hz.out (hT.out.g hg) (fun w' hb=>hT.out.g (Below.trans (show Below w.heap.size w w1 from hg) hb)) hall.out hcap
 replace hown:=Lib.hid hown
 go_wp2_with fail
 refine hd.mono ?_
 clear hd
 rintro e w2 ⟨A2,c2,k,rfl,hk,hkeep⟩
 replace hkeep:=Lib.hid hkeep
 go_wp2_with fail
 go_ret
 exact ⟨A2,c2,k,rfl,hk,hkeep.out.g hg⟩
theorem getD_of {l:List ByteArray} {j:Nat} {s:ByteArray} (h:l[j]?=some s):l.getD j ByteArray.empty=s:=by rw [List.getD_eq_getElem?_getD,h];rfl
theorem eqSelf_any (l : List ByteArray) (A A2 : Option Addr) (c c2 B B2 : Nat) (w : World) (hs : Sl strC 1 w B A l) (hs2 : Sl strC 1 w B2 A2 l) (hl : l.length ≤ 9223372036854775807) :
  Calls Tryz.prog 114 #[.slice A l.length c,.slice A2 l.length c2] w fun e w'=>e=.returned (.bool true)∧G w w':=by
 by_cases hne:l=[]
 ·subst hne
  refine (Tryz.slices_Equal_string_empty A A2 c 0 c2 w (by omega)).mono fun e w' ⟨h1,h2⟩=>⟨by rw [h1];rfl,by rw [h2];exact G.refl _⟩
 ·obtain ⟨b,o,rfl,_,hc⟩:=hs hne
  obtain ⟨b2,o2,rfl,_,hc2⟩:=hs2 hne
  have hx:∀(b o:Nat),(∀k x,l[k]?=some x→∀j u,(strC x)[j]?=some u→w.cell? ⟨b,o+k * 1+j,none⟩=some u)→∀j,j < l.length→w.cell? ⟨b,o+j,none⟩=some (.string (l.getD j ByteArray.empty)):=fun b o h j hj=>by
   have h1:l[j]?=some l[j]:=List.getElem?_eq_getElem hj
   have h2:=h j _ h1 0 _ rfl
   rw [getD_of h1]
   simpa using h2
  refine (Tryz.slices_Equal_string b o l.length c b2 o2 l.length c2 l l w (Nat.le_refl _) (Nat.le_refl _) hl hl (hx _ _ hc) (hx _ _ hc2)).mono fun e w' ⟨h1,q,h2⟩=>⟨by rw [h1];simp,by rw [h2];exact (G.refl _).drewN _⟩
end Go.Proofs.YtheogchkelmeeaaGreatDoor

/- Several texts in one: IntElem, Same, EvBulk, AlikeSm, ListsOwn, Eye10. -/
import Derived.Test.YtheogchkelmeeaaGreatDoorM1MsgDecodes
import Derived.Test.YtheogchkelmeeaaGreatDoorM4MsgDecodes
import Derived.Test.YtheogchkelmeeaaGreatDoorM15MsgDecodes
import Derived.Test.YtheogchkelmeeaaGreatDoorM20MsgDecodes
import Derived.Test.YtheogchkelmeeaaGreatDoorM21MsgDecodes
import Derived.Test.YtheogchkelmeeaaGreatDoorRefDecSmQMsgDecodes
/- Rows of numbers. No condition. -/
namespace Go.Proofs.YtheogchkelmeeaaGreatDoor
open Go.RowKit
theorem int_elem10:IsElem Tryz.prog 34 3 1 8 intC :=
 isElem_of (z:=.int .i64 0) Tryz.underlying34 (by kernel_rfl) rfl (by decide) intC_len (fun x u hu=>by simp [intC] at hu;subst hu;rfl)
end Go.Proofs.YtheogchkelmeeaaGreatDoor
/- penstockref7.SameEvents: whether two lists of events are one. Condition: the lengths fit an int. -/
namespace Go.Proofs.YtheogchkelmeeaaGreatDoor
open Go.RowKit
def evsB (es fs:List Ev):Bool:=decide (es=fs)
theorem Sl.ev {w : World} {B : Nat} {A : Option Addr} {xs : List Ev} {k : Nat} {x : Ev} (h : Sl Ev.cells 7 w B A xs) (hx : xs[k]? = some x) :
  ∃b o,A=some ⟨b,o,none⟩∧b < B∧w.cell? ⟨b,o+k * 7,none⟩=some (.string x.stream)∧w.cell? ⟨b,o+k * 7+1,none⟩=some (.int .i64 x.version)∧w.cell? ⟨b,o+k * 7+2,none⟩=some (.string x.data) ∧
   w.cell? ⟨b,o+k * 7+3,none⟩=some (.int .i64 x.st.wall)∧w.cell? ⟨b,o+k * 7+4,none⟩=some (.int .i64 x.st.logic)∧w.cell? ⟨b,o+k * 7+5,none⟩=some (.int .i64 x.st.node)∧w.cell? ⟨b,o+k * 7+6,none⟩=some (.int .i64 x.index):=by
 obtain ⟨b,o,e,hb,hc⟩:=h.get hx
 exact ⟨b,o,e,hb,hc 0 _ rfl,hc 1 _ rfl,hc 2 _ rfl,hc 3 _ rfl,hc 4 _ rfl,hc 5 _ rfl,hc 6 _ rfl⟩
set_option maxHeartbeats 1000000 in
theorem sameEvents_any (es fs : List Ev) (A A2 : Option Addr) (c c2 B : Nat) (w : World) (hB : B ≤ w.heap.size) (_hl : es.length ≤ 9223372036854775807) (_hl2 : fs.length ≤ 9223372036854775807)
  (hs:Sl Ev.cells 7 w B A es) (hs2:Sl Ev.cells 7 w B A2 fs) :
  Calls Tryz.prog 29 #[.slice A es.length c,.slice A2 fs.length c2] w fun e w'=>e=.returned (.bool (evsB es fs))∧G w w':=by
 by_cases hlen:es.length=fs.length
 ·have hlb:((es.length:Int) != (fs.length:Int))=false:=by rw [bne_eq_false_iff_eq];omega
  go_enter Tryz.func29,Tryz.ntmps29
  have hle:es.length≤fs.length:=by omega
  replace hlen:=Lib.hid hlen
  go_wp2_with fail
  go_loopw [5] (fun i wr=>∃(k:Nat),k≤es.length∧i=.int .i64 k∧G w wr∧Hid (es.take k=fs.take k)) (fun i _=>es.length - (intOf i).toNat)
  case atStart=>exact ⟨0,Nat.zero_le _,rfl,G.refl _,by simp [Hid]⟩
  case round =>
   obtain ⟨k,hk,rfl,hg,hh⟩:=hrel
   by_cases hlt:k < es.length
   ·obtain ⟨⟨s1,v1,d1,⟨x1,y1,z1⟩,i1⟩,ha⟩:∃a,es[k]?=some a:=⟨_,List.getElem?_eq_getElem hlt⟩
    obtain ⟨⟨s2,v2,d2,⟨x2,y2,z2⟩,i2⟩,hb⟩:∃b,fs[k]?=some b:=⟨_,List.getElem?_eq_getElem (by omega)⟩
    obtain ⟨b1,o1,rfl,hb1,_⟩:=hs.ev ha
    obtain ⟨b2,o2,rfl,hb2,_⟩:=hs2.ev hb
    obtain ⟨_,_,e1,_,c10,c11,c12,c13,c14,c15,c16⟩:=(hs.g hB hg).ev ha
    cases e1
    obtain ⟨_,_,e1,_,c20,c21,c22,c23,c24,c25,c26⟩:=(hs2.g hB hg).ev hb
    cases e1
    have hnq:=@ev_neq
    replace ha:=Lib.hid ha
    replace hb:=Lib.hid hb
    clear hs hs2
    go_wp2_with fail
    go_quiet (fail)
    clear hnq
    go_wp2_with fail
    ·go_ret
     rename_i hq
     refine ⟨ret_bool ?_,hg.drewN _⟩
     unfold evsB
     rw [decide_eq_false]
     rintro rfl
     have h3:=ha.out.symm.trans hb.out
     simp [evB] at hq
     simp at h3
     simp [h3] at hq
    ·rename_i hq
     go_roundw
     case rel =>
      refine ⟨k+1,by omega,by go_num,hg.drewN _,?_⟩
      unfold Hid
      have he:es[k]?=fs[k]?:=by
       rw [ha.out,hb.out]
       simp [evB] at hq
       simp [hq]
      rw [List.take_add_one,List.take_add_one,hh.out,he]
     case measure=>simp [intOf];omega
   ·go_wp2_with fail
    go_ret
    exact ⟨ret_bool (by
     unfold evsB
     rw [decide_eq_true]
     have h1:es.take k=es:=List.take_of_length_le (by omega)
     have h2:fs.take k=fs:=List.take_of_length_le (by have:=hlen.out;omega)
     rw [←h1,←h2];exact hh.out),hg⟩
 ·have hlb:((es.length:Int) != (fs.length:Int))=true:=by rw [bne_iff_ne];omega
  go_enter Tryz.func29,Tryz.ntmps29
  go_wp2_with fail
  go_ret
  exact ⟨ret_bool (by unfold evsB;rw [decide_eq_false];intro h;exact hlen (by rw [h])),G.refl _⟩
end Go.Proofs.YtheogchkelmeeaaGreatDoor
/- penstockalike.Events: what it answers. Condition: lengths fit an int. -/
namespace Go.Proofs.YtheogchkelmeeaaGreatDoor
open Go.RowKit
end Go.Proofs.YtheogchkelmeeaaGreatDoor
/- penstockalike.Streams: what it answers; what a small bulk says. Condition: lengths fit an int. -/
namespace Go.Proofs.YtheogchkelmeeaaGreatDoor
open Go.RowKit
/-- A stream as it lies. -/
structure SmM where
 name:ByteArray
 Ae:Option Addr
 ce:Nat
 es:List Ev
 Ak:Option Addr
 ck:Nat
 ks:List Kn
def SmM.cells (s:SmM):List Value:=[.string s.name,.slice s.Ae s.es.length s.ce,.slice s.Ak s.ks.length s.ck]
theorem SmM.cells_len (s:SmM):s.cells.length=3:=rfl
def SmM.sm (s:SmM):Sm:=⟨s.name,s.es,s.ks⟩
/-- Streams as they lie. -/
def SmsIn (w:World) (B:Nat) (A:Option Addr) (ss:List SmM):Prop:=Sl SmM.cells 3 w B A ss∧∀s ∈ ss,SmIn w B s.Ae s.Ak s.es s.ks
theorem SmsIn.g {w w':World} {B:Nat} {A:Option Addr} {ss:List SmM} (h:SmsIn w B A ss) (hB:B≤w.heap.size) (hg:G w w'):SmsIn w' B A ss:=⟨h.1.g hB hg,fun s hs=>(h.2 s hs).g hB hg⟩
/-! What a small bulk says. -/
end Go.Proofs.YtheogchkelmeeaaGreatDoor
/- Lists of numbers and of streams that a reading makes. No condition. -/
namespace Go.Proofs.YtheogchkelmeeaaGreatDoor
open Go.RowKit
def ofN (l:List Nat):List Int:=l.map fun v:Nat=>(v:Int)
theorem ofN_snoc (ns:List Nat) (v:Nat):ofN ns++[(v:Int)]=ofN (ns++[v]):=by simp [ofN]
structure SmsOwn (base:Nat) (As:Option Addr) (cs:Nat) (ss:List SmM) (w:World):Prop where
 row:OwnL 118 3 SmM.cells w base (.slice As ss.length cs) ss
 each:∀s ∈ ss,SmOwn base s.Ae s.ce s.es s.Ak s.ck s.ks w
theorem SmsOwn.but {S : Nat → Prop} {base cs : Nat} {As : Option Addr} {ss : List SmM} {w w' : World} (h : SmsOwn base As cs ss w) (hb : But S w w')
  (hS:∀(k:Nat) (cs:Array Value) (t:TypeId),S k→w.heap[k]?=some (.cells cs t (0,0))→t≠118∧t≠76∧t≠131):SmsOwn base As cs ss w' :=
 ⟨h.row.but' hb fun k hk hSk=>by
  obtain ⟨_,_,c,hc⟩:=h.row.blk hk
  exact (hS k c _ hSk hc).1 rfl,fun s hs=>(h.each s hs).but hb fun k c t hSk hc=>(hS k c t hSk hc).2⟩
theorem SmsOwn.ins {base cs:Nat} {As:Option Addr} {ss:List SmM} {w:World} (h:SmsOwn base As cs ss w):SmsIn w w.heap.size As ss:=⟨h.row.self SmM.cells_len,fun s hs=>(h.each s hs).ins⟩
theorem sms_elem:IsElem Tryz.prog 37 118 3 64 SmM.cells :=
 isElem_of (z:=.agg #[.string ⟨#[]⟩,.slice none 0 0,.slice none 0 0]) Tryz.underlying37 (by kernel_rfl) rfl (by decide) SmM.cells_len (fun x u hu=>by simp [SmM.cells] at hu;rcases hu with rfl | rfl | rfl <;> rfl)
end Go.Proofs.YtheogchkelmeeaaGreatDoor
/- penstockref10.Eye's tx, rng, ints, streams: what they give and leave. Conditions: at most 2^19 bytes; the decoder's tables lie as the library lays them. -/
namespace Go.Proofs.YtheogchkelmeeaaGreatDoor
open Go.RowKit
def d3 (m:Nat):Reader (Nat × Nat × Nat):=rb (dCount m) fun a=>rb (dCount m) fun b=>rb (dCount m) fun c=>rp (a,b,c)
def txVal (x:Nat × Nat × Nat):Value:=.agg #[.int .i64 x.1,.int .i64 x.2.1,.int .i64 x.2.2]
set_option maxRecDepth 100000 in
set_option maxHeartbeats 1000000 in
theorem eye10tx_any (R : Nat) (A : Option Addr) (c8 : Nat) (l0 : List UInt8) (st : Option (List UInt8)) (w : World) (h : RdS 64 R A c8 l0 st w) (hl : l0.length ≤ 1073741824) (hcap : l0.length ≤ c8) (mi : Int) (m : Nat) (hm : mi = m) (hm2 : m ≤ 4611686018427387904) :
  Calls Tryz.prog 17 #[.agg #[.pointer (some ⟨R,0,none⟩)],.int .i64 mi] w (RdLoose 64 R A c8 l0 w txVal (d3 m) st):=by
 subst hm
 have hRw:=h.lt
 have hgA:=G.new w (.cells #[.pointer (some ⟨R,0,none⟩)] 66)
 have hgB:=G.new (w.alloc (.cells #[.pointer (some ⟨R,0,none⟩)] 66)) (.cells #[.int .i64 0,.int .i64 0,.int .i64 0] 28)
 have BA:=hgB.blk (blk_new w #[.pointer (some ⟨R,0,none⟩)] 66)
 have BB:=blk_new (w.alloc (.cells #[.pointer (some ⟨R,0,none⟩)] 66)) #[.int .i64 0,.int .i64 0,.int .i64 0] 28
 have hzA:(w.alloc (.cells #[.pointer (some ⟨R,0,none⟩)] 66)).heap.size=w.heap.size+1:=by simp
 rw [hzA] at BB
 have hG:=hgA.trans hgB
 replace hgA:=Lib.hid hgA
 replace hgB:=Lib.hid hgB
 clear hgA hgB hzA
 replace BA:=Lib.hid BA
 replace BB:=Lib.hid BB
 replace hG:=Lib.hid hG
 go_enter Tryz.func17,Tryz.ntmps17
 go_upto_region 1 with fail
 generalize (w.alloc (.cells #[.pointer (some ⟨R,0,none⟩)] 66)).alloc (.cells #[.int .i64 0,.int .i64 0,.int .i64 0] 28)=w0 at *
 have hr0:=h.g hG.out
 have hbut0:=But.of_g (S:=fun k=>k=R) hG.out
 replace BA:=BA.out
 replace BB:=BB.out
 clear h hG
 have q:=(blk_cell BA 0).trans (show _=some (.pointer (some ⟨R,0,none⟩)) from rfl)
 have hn:=eyeNum_any R A c8 l0 st w0 hr0 hl hcap m m rfl hm2
 obtain ⟨a,st1,h1⟩:∃v s,gv 0 (dCount m) st=(v,s):=⟨_,_,rfl⟩
 rw [h1] at hn
 have g1:=gv_gives h1
 replace g1:=Lib.hid g1
 replace hbut0:=Lib.hid hbut0
 replace BA:=Lib.hid BA
 replace BB:=Lib.hid BB
 replace hn:=Lib.hid hn
 clear h1 hr0
 go_wp2_with fail
 (with_reducible refine Calls.mono hn.out ?_)
 clear hn q
 rintro e w1 ⟨rfl,hr1,hb⟩
 have hbut1:=hbut0.out.trans hb
 replace BA:=hb.blk BA.out (by omega)
 replace BB:=hb.blk BB.out (by omega)
 clear hb hbut0
 have q:=(blk_cell BA 0).trans (show _=some (.pointer (some ⟨R,0,none⟩)) from rfl)
 have hn:=eyeNum_any R A c8 l0 st1 w1 hr1 hl hcap m m rfl hm2
 obtain ⟨b,st2,h1⟩:∃v s,gv 0 (dCount m) st1=(v,s):=⟨_,_,rfl⟩
 rw [h1] at hn
 have g2:=gv_gives h1
 replace g2:=Lib.hid g2
 replace hbut1:=Lib.hid hbut1
 replace BA:=Lib.hid BA
 replace BB:=Lib.hid BB
 replace hn:=Lib.hid hn
 clear h1 hr1
 go_wp2_with fail
 (with_reducible refine Calls.mono hn.out ?_)
 clear hn q
 rintro e w2 ⟨rfl,hr2,hb⟩
 have hbut2:=hbut1.out.trans hb
 replace BA:=hb.blk BA.out (by omega)
 replace BB:=hb.blk BB.out (by omega)
 clear hb hbut1
 have q:=(blk_cell BA 0).trans (show _=some (.pointer (some ⟨R,0,none⟩)) from rfl)
 have hn:=eyeNum_any R A c8 l0 st2 w2 hr2 hl hcap m m rfl hm2
 obtain ⟨c,st3,h1⟩:∃v s,gv 0 (dCount m) st2=(v,s):=⟨_,_,rfl⟩
 rw [h1] at hn
 have g3:=gv_gives h1
 replace g3:=Lib.hid g3
 replace hbut2:=Lib.hid hbut2
 replace BA:=Lib.hid BA
 replace BB:=Lib.hid BB
 replace hn:=Lib.hid hn
 clear h1 hr2
 go_wp2_with fail
 (with_reducible refine Calls.mono hn.out ?_)
 clear hn q
 rintro e w3 ⟨rfl,hr3,hb⟩
 have hbut3:=hbut2.out.trans hb
 replace BA:=hb.blk BA.out (by omega)
 replace BB:=hb.blk BB.out (by omega)
 clear hb hbut2
 obtain ⟨WZ,SRZ,CZ,hbZ,hGZ⟩:=store_blk (P:=Tryz.prog) (T:=28) (cs:=#[.int .i64 a,.int .i64 b,.int .i64 c]) BB rfl (by kernel_rfl) (by kernel_rfl)
 have hbt:But (fun k=>k=R) w WZ:=hbut3.up hbZ (fun k hk=>by omega)
 have hrZ:=hr3.but hbZ (fun k hk e=>by omega)
 replace CZ:=Lib.hid CZ
 replace hbt:=Lib.hid hbt
 replace hrZ:=Lib.hid hrZ
 clear BA BB hbZ hGZ hbut3 hr3
 go_wp2_with (refine wpList_store_at (ty:=28) rfl (by kernel_rfl) (p:=.pointer (some ⟨w.heap.size+1,0,none⟩)) (v:=.agg #[.int .i64 a,.int .i64 b,.int .i64 c]) rfl rfl SRZ ?_;clear SRZ)
 refine bodyPost_ret (v:=.agg #[.int .i64 a,.int .i64 b,.int .i64 c]) (results_cell (i:=4) rfl rfl CZ.out Tryz.underlying28 rfl (by kernel_rfl)) rfl ?_
 exact ⟨(a,b,c),st3,rfl,hrZ.out,hbt.out,g1.out.bind (g2.out.bind (g3.out.bind (Gives.ret _)))⟩
def d4 (m:Nat):Reader (Nat × Nat × Nat × Nat):=rb (dCount m) fun a=>rb (dCount m) fun b=>rb (dCount m) fun c=>rb (dCount m) fun d=>rp (a,b,c,d)
def rngVal (x:Nat × Nat × Nat × Nat):Value:=.agg #[.int .i64 x.1,.int .i64 x.2.1,.int .i64 x.2.2.1,.int .i64 x.2.2.2]
set_option maxRecDepth 100000 in
set_option maxHeartbeats 1000000 in
theorem eye10rng_any (R : Nat) (A : Option Addr) (c8 : Nat) (l0 : List UInt8) (st : Option (List UInt8)) (w : World) (h : RdS 64 R A c8 l0 st w) (hl : l0.length ≤ 1073741824) (hcap : l0.length ≤ c8) (mi : Int) (m : Nat) (hm : mi = m) (hm2 : m ≤ 4611686018427387904) :
  Calls Tryz.prog 22 #[.agg #[.pointer (some ⟨R,0,none⟩)],.int .i64 mi] w (RdLoose 64 R A c8 l0 w rngVal (d4 m) st):=by
 subst hm
 have hRw:=h.lt
 have hgA:=G.new w (.cells #[.pointer (some ⟨R,0,none⟩)] 66)
 have hgB:=G.new (w.alloc (.cells #[.pointer (some ⟨R,0,none⟩)] 66)) (.cells #[.int .i64 0,.int .i64 0,.int .i64 0,.int .i64 0] 36)
 have BA:=hgB.blk (blk_new w #[.pointer (some ⟨R,0,none⟩)] 66)
 have BB:=blk_new (w.alloc (.cells #[.pointer (some ⟨R,0,none⟩)] 66)) #[.int .i64 0,.int .i64 0,.int .i64 0,.int .i64 0] 36
 have hzA:(w.alloc (.cells #[.pointer (some ⟨R,0,none⟩)] 66)).heap.size=w.heap.size+1:=by simp
 rw [hzA] at BB
 have hG:=hgA.trans hgB
 replace hgA:=Lib.hid hgA
 replace hgB:=Lib.hid hgB
 clear hgA hgB hzA
 replace BA:=Lib.hid BA
 replace BB:=Lib.hid BB
 replace hG:=Lib.hid hG
 go_enter Tryz.func22,Tryz.ntmps22
 go_upto_region 1 with fail
 generalize (w.alloc (.cells #[.pointer (some ⟨R,0,none⟩)] 66)).alloc (.cells #[.int .i64 0,.int .i64 0,.int .i64 0,.int .i64 0] 36)=w0 at *
 have hr0:=h.g hG.out
 have hbut0:=But.of_g (S:=fun k=>k=R) hG.out
 replace BA:=BA.out
 replace BB:=BB.out
 clear h hG
 have q:=(blk_cell BA 0).trans (show _=some (.pointer (some ⟨R,0,none⟩)) from rfl)
 have hn:=eyeNum_any R A c8 l0 st w0 hr0 hl hcap m m rfl hm2
 obtain ⟨a,st1,h1⟩:∃v s,gv 0 (dCount m) st=(v,s):=⟨_,_,rfl⟩
 rw [h1] at hn
 have g1:=gv_gives h1
 replace g1:=Lib.hid g1
 replace hbut0:=Lib.hid hbut0
 replace BA:=Lib.hid BA
 replace BB:=Lib.hid BB
 replace hn:=Lib.hid hn
 clear h1 hr0
 go_wp2_with fail
 (with_reducible refine Calls.mono hn.out ?_)
 clear hn q
 rintro e w1 ⟨rfl,hr1,hb⟩
 have hbut1:=hbut0.out.trans hb
 replace BA:=hb.blk BA.out (by omega)
 replace BB:=hb.blk BB.out (by omega)
 clear hb hbut0
 have q:=(blk_cell BA 0).trans (show _=some (.pointer (some ⟨R,0,none⟩)) from rfl)
 have hn:=eyeNum_any R A c8 l0 st1 w1 hr1 hl hcap m m rfl hm2
 obtain ⟨b,st2,h1⟩:∃v s,gv 0 (dCount m) st1=(v,s):=⟨_,_,rfl⟩
 rw [h1] at hn
 have g2:=gv_gives h1
 replace g2:=Lib.hid g2
 replace hbut1:=Lib.hid hbut1
 replace BA:=Lib.hid BA
 replace BB:=Lib.hid BB
 replace hn:=Lib.hid hn
 clear h1 hr1
 go_wp2_with fail
 (with_reducible refine Calls.mono hn.out ?_)
 clear hn q
 rintro e w2 ⟨rfl,hr2,hb⟩
 have hbut2:=hbut1.out.trans hb
 replace BA:=hb.blk BA.out (by omega)
 replace BB:=hb.blk BB.out (by omega)
 clear hb hbut1
 have q:=(blk_cell BA 0).trans (show _=some (.pointer (some ⟨R,0,none⟩)) from rfl)
 have hn:=eyeNum_any R A c8 l0 st2 w2 hr2 hl hcap m m rfl hm2
 obtain ⟨c,st3,h1⟩:∃v s,gv 0 (dCount m) st2=(v,s):=⟨_,_,rfl⟩
 rw [h1] at hn
 have g3:=gv_gives h1
 replace g3:=Lib.hid g3
 replace hbut2:=Lib.hid hbut2
 replace BA:=Lib.hid BA
 replace BB:=Lib.hid BB
 replace hn:=Lib.hid hn
 clear h1 hr2
 go_wp2_with fail
 (with_reducible refine Calls.mono hn.out ?_)
 clear hn q
 rintro e w3 ⟨rfl,hr3,hb⟩
 have hbut3:=hbut2.out.trans hb
 replace BA:=hb.blk BA.out (by omega)
 replace BB:=hb.blk BB.out (by omega)
 clear hb hbut2
 have q:=(blk_cell BA 0).trans (show _=some (.pointer (some ⟨R,0,none⟩)) from rfl)
 have hn:=eyeNum_any R A c8 l0 st3 w3 hr3 hl hcap m m rfl hm2
 obtain ⟨d,st4,h1⟩:∃v s,gv 0 (dCount m) st3=(v,s):=⟨_,_,rfl⟩
 rw [h1] at hn
 have g4:=gv_gives h1
 replace g4:=Lib.hid g4
 replace hbut3:=Lib.hid hbut3
 replace BA:=Lib.hid BA
 replace BB:=Lib.hid BB
 replace hn:=Lib.hid hn
 clear h1 hr3
 go_wp2_with fail
 (with_reducible refine Calls.mono hn.out ?_)
 clear hn q
 rintro e w4 ⟨rfl,hr4,hb⟩
 have hbut4:=hbut3.out.trans hb
 replace BA:=hb.blk BA.out (by omega)
 replace BB:=hb.blk BB.out (by omega)
 clear hb hbut3
 obtain ⟨WZ,SRZ,CZ,hbZ,hGZ⟩:=store_blk (P:=Tryz.prog) (T:=36) (cs:=#[.int .i64 a,.int .i64 b,.int .i64 c,.int .i64 d]) BB rfl (by kernel_rfl) (by kernel_rfl)
 have hbt:But (fun k=>k=R) w WZ:=hbut4.up hbZ (fun k hk=>by omega)
 have hrZ:=hr4.but hbZ (fun k hk e=>by omega)
 replace CZ:=Lib.hid CZ
 replace hbt:=Lib.hid hbt
 replace hrZ:=Lib.hid hrZ
 clear BA BB hbZ hGZ hbut4 hr4
 go_wp2_with (refine wpList_store_at (ty:=36) rfl (by kernel_rfl) (p:=.pointer (some ⟨w.heap.size+1,0,none⟩)) (v:=.agg #[.int .i64 a,.int .i64 b,.int .i64 c,.int .i64 d]) rfl rfl SRZ ?_;clear SRZ)
 refine bodyPost_ret (v:=.agg #[.int .i64 a,.int .i64 b,.int .i64 c,.int .i64 d]) (results_cell (i:=4) rfl rfl CZ.out Tryz.underlying36 rfl (by kernel_rfl)) rfl ?_
 exact ⟨(a,b,c,d),st4,rfl,hrZ.out,hbt.out,g1.out.bind (g2.out.bind (g3.out.bind (g4.out.bind (Gives.ret _))))⟩
def dInts (m:Nat):Reader (List Nat):=rb (dCount 1000) fun n=>dMany (dCount m) n
def dStrs:Reader (List Sm):=rb (dCount 1000) fun n=>dMany dStream n
/-- What the reading of numbers leaves. -/
def RdInts (T:TypeId) (R:Nat) (A:Option Addr) (c8:Nat) (l0:List UInt8) (w:World) (d:Reader (List Nat)) (st:Option (List UInt8)) (e:Ending) (w':World):Prop :=
 ∃(A':Option Addr) (c':Nat) (zs:List Int) (ns:List Nat) (st':Option (List UInt8)),e=.returned (.slice A' zs.length c')∧ofN ns=zs∧RdS T R A c8 l0 st' w'∧But (fun k=>k=R) w w'∧OwnL 3 1 intC w' w.heap.size (.slice A' zs.length c') zs∧Gives d st st' ns
/-- What the reading of streams leaves. -/
def RdStrs (T:TypeId) (R:Nat) (A:Option Addr) (c8:Nat) (l0:List UInt8) (w:World) (d:Reader (List Sm)) (st:Option (List UInt8)) (e:Ending) (w':World):Prop :=
 ∃(A':Option Addr) (c':Nat) (ss:List SmM) (st':Option (List UInt8)),e=.returned (.slice A' ss.length c')∧RdS T R A c8 l0 st' w'∧But (fun k=>k=R) w w'∧SmsOwn w.heap.size A' c' ss w'∧(∀s ∈ ss,SmSmall s.name s.es s.ks)∧Gives d st st' (ss.map SmM.sm)
set_option maxRecDepth 100000 in
set_option maxHeartbeats 4000000 in
theorem eye10ints_any (R : Nat) (A : Option Addr) (c8 : Nat) (l0 : List UInt8) (st0 : Option (List UInt8)) (w : World) (h : RdS 64 R A c8 l0 st0 w) (hl : l0.length ≤ 1073741824) (hcap : l0.length ≤ c8) (mi : Int) (m : Nat) (hm : mi = m) (hm2 : m ≤ 4611686018427387904) :
  Calls Tryz.prog 21 #[.agg #[.pointer (some ⟨R,0,none⟩)],.int .i64 mi] w (RdInts 64 R A c8 l0 w (dInts m) st0):=by
 subst hm
 have hRw:=h.lt
 have hG:=G.new w (.cells #[.pointer (some ⟨R,0,none⟩)] 66)
 have BA:=blk_new w #[.pointer (some ⟨R,0,none⟩)] 66
 have hz0:(w.alloc (.cells #[.pointer (some ⟨R,0,none⟩)] 66)).heap.size=w.heap.size+1:=by simp
 replace hG:=Lib.hid hG
 replace BA:=Lib.hid BA
 replace hz0:=Lib.hid hz0
 go_enter Tryz.func21,Tryz.ntmps21
 go_upto_region 1 with fail
 generalize w.alloc (.cells #[.pointer (some ⟨R,0,none⟩)] 66)=w0 at *
 have q:=(blk_cell BA.out 0).trans (show _=some (.pointer (some ⟨R,0,none⟩)) from rfl)
 have hn:=eyeNum_any R A c8 l0 st0 w0 (h.g hG.out) hl hcap 1000 1000 rfl (by omega)
 obtain ⟨N,st1,h1⟩:∃v s,gv 0 (dCount 1000) st0=(v,s):=⟨_,_,rfl⟩
 rw [h1] at hn
 have g1:=gv_gives h1
 have hN:N≤1000:=gv_bound (P:=(·≤1000)) h1 (by omega) (fun _ _ _ h=>(dCount_num h).2)
 replace g1:=Lib.hid g1
 replace hn:=Lib.hid hn
 clear h1 h
 go_wp2_with fail
 (with_reducible refine Calls.mono hn.out ?_)
 clear hn q
 rintro e w1 ⟨rfl,hr1,hb1⟩
 replace BA:=Lib.hid (hb1.blk BA.out (by omega))
 replace hr1:=Lib.hid hr1
 replace hb1:=Lib.hid hb1
 go_wp2_with fail
 go_loopw [6,7] (fun l i wr=>∃(jj k:Nat) (A':Option Addr) (c':Nat) (zs:List Int) (ns:List Nat) (st:Option (List UInt8)),l=.slice A' zs.length c'∧i=.int .i64 jj∧Hid (ofN ns=zs)∧Hid (jj+k=N)∧k+zs.length≤1000∧Hid (RdS 64 R A c8 l0 st wr)∧Hid (OwnL 3 1 intC wr w0.heap.size (.slice A' zs.length c') zs)∧Hid (But (fun k=>k=R) w0 wr)∧Hid (wr.heap[w.heap.size]?=some (.cells #[.pointer (some ⟨R,0,none⟩)] 66 (0,0)))∧Hid (More (dCount m) N k st1 st ns)) (fun _ i _=>N - (intOf i).toNat)
 case atStart=>exact ⟨0,N,none,0,[],[],st1,rfl,rfl,rfl,Lib.hid (by omega),by simpa using hN,hr1,OwnL.nil,hb1,BA,More.start _ _ _⟩
 case round =>
  clear BA hr1 hb1
  obtain ⟨jj,k,A',c',zs,ns,st,rfl,rfl,hzs,hjk,hk1,hrd,hown,hbut,BA,hmo⟩:=hrel
  have q:=(blk_cell BA.out 0).trans (show _=some (.pointer (some ⟨R,0,none⟩)) from rfl)
  have q2:=hrd.out.c2
  cases st with
  | none =>
   unfold Option.isNone at q2
   by_cases hk:k=0
   ·subst hk
    obtain rfl:jj=N:=hjk.out
    go_wp2_with fail
    go_ret
    exact ⟨A',c',zs,ns,none,rfl,hzs.out,hrd.out,(But.of_g hG.out).trans hbut.out,hown.out.mono hG.out.size,g1.out.bind (hmo.out.end (.inr rfl))⟩
   ·have hk':(jj:Int) < (N:Int):=by have:=hjk.out;omega
    go_wp2_with fail
    go_ret
    exact ⟨A',c',zs,ns,none,rfl,hzs.out,hrd.out,(But.of_g hG.out).trans hbut.out,hown.out.mono hG.out.size,g1.out.bind (hmo.out.end (.inr rfl))⟩
  | some lx =>
   unfold Option.isNone at q2
   by_cases hk:k=0
   ·subst hk
    obtain rfl:jj=N:=hjk.out
    go_wp2_with fail
    go_ret
    exact ⟨A',c',zs,ns,(some lx),rfl,hzs.out,hrd.out,(But.of_g hG.out).trans hbut.out,hown.out.mono hG.out.size,g1.out.bind (hmo.out.end (.inl rfl))⟩
   ·obtain ⟨j,rfl⟩:∃j,k=j+1:=⟨k - 1,by omega⟩
    have hn:=eyeNum_any R A c8 l0 (some lx) wr hrd.out hl hcap m m rfl hm2
    obtain ⟨v,st3,h3⟩:∃v s,gv 0 (dCount m) (some lx)=(v,s):=⟨_,_,rfl⟩
    rw [h3] at hn
    have g3:=gv_gives h3
    have hmo2:=hmo.out.step g3
    obtain ⟨zs',hz'⟩:∃zs',zs++[(v:Int)]=zs':=⟨_,rfl⟩
    have hzn:ofN (ns++[v])=zs':=by rw [←ofN_snoc,hzs.out,hz']
    have hzl:zs'.length=zs.length+1:=by rw [←hz'];simp
    have hj1:(jj:Int) < (N:Int):=by have:=hjk.out;omega
    replace hn:=Lib.hid hn
    replace hmo2:=Lib.hid hmo2
    replace hz':=Lib.hid hz'
    replace hzn:=Lib.hid hzn
    replace hzl:=Lib.hid hzl
    clear h3 g3 hk hmo hzs
    go_wp2_with fail
    (with_reducible refine Calls.mono hn.out ?_)
    clear hn q q2
    rintro e w2 ⟨rfl,hr2,hb2⟩
    have hRz:R < w0.heap.size:=by have:=hz0.out;omega
    have hown2:=hown.out.but' hb2 (fun k hk e=>by have:=(hown.out.blk hk).1;omega)
    have BA2:=hb2.blk BA.out (by omega)
    have hbut2:=hbut.out.trans hb2
    have hgn:=G.new w2 (.cells #[.int .i64 v] 3)
    have hr3:=hr2.g hgn
    have BA3:=hgn.blk BA2
    have hbut3:=hbut2.g hgn
    have hown3:=hown2.g hgn
    have hob:∀k,some k=(Value.slice A' zs.length c').ownBlock→w0.heap.size≤k:=fun k hk=>(hown3.blk hk.symm).1
    have hsz:=hbut3.size
    replace hr3:=Lib.hid hr3
    replace BA3:=Lib.hid BA3
    replace hbut3:=Lib.hid hbut3
    replace hown3:=Lib.hid hown3
    clear hown hrd BA hbut hr2 hb2 hown2 BA2 hbut2 hgn
    go_wp2_with (at_builtin;refine wpList_append_but int_elem10 _ rfl (.tmp 24) (.tmp 29) rfl w0.heap.size _ zs rfl hown3.out (w2.heap.size+1) (some ⟨w2.heap.size,0,none⟩) 1 [(v:Int)] rfl (by intro h;cases h) (Sl.of_blk intC_len _ (blk_new _ _ _) rfl (by omega)) (by simp;omega) (by simp;omega) hsz ?_;intro v6 w6 hown6 hk6 hb6;rw [hz'.out] at hown6;obtain ⟨A6,c6,e6,_,_,_⟩:=OwnL.sl intC_len hown6;subst e6;have hr6:=hr3.out.but hb6 (fun k hk e=>by have:=hob k e;omega);have BA6:=hk6.2 _ _ _ _ (by decide) BA3.out;have hbut6:=hbut3.out.up hb6 hob;replace hr6:=Lib.hid hr6;replace BA6:=Lib.hid BA6;replace hbut6:=Lib.hid hbut6;replace hown6:=Lib.hid hown6)
    go_roundw
    case rel=>exact ⟨jj+1,j,A6,c6,zs',ns++[v],st3,rfl,by go_num,hzn,Lib.hid (by have:=hjk.out;omega),by have:=hzl.out;omega,hr6,hown6,hbut6,BA6,hmo2⟩
    case measure=>(simp [intOf] <;> omega)
set_option maxRecDepth 100000 in
set_option maxHeartbeats 4000000 in
theorem eye10strs_any (R : Nat) (A : Option Addr) (c8 : Nat) (l0 : List UInt8) (st0 : Option (List UInt8)) (w : World) (h : RdS 64 R A c8 l0 st0 w) (hl : l0.length ≤ 524288) (hcap : l0.length ≤ c8) (hT : Tabs w) :
  Calls Tryz.prog 23 #[.agg #[.pointer (some ⟨R,0,none⟩)]] w (RdStrs 64 R A c8 l0 w dStrs st0):=by
 have hl2:l0.length≤1073741824:=by omega
 have hRw:=h.lt
 have hG:=G.new w (.cells #[.pointer (some ⟨R,0,none⟩)] 66)
 have BA:=blk_new w #[.pointer (some ⟨R,0,none⟩)] 66
 have hz0:(w.alloc (.cells #[.pointer (some ⟨R,0,none⟩)] 66)).heap.size=w.heap.size+1:=by simp
 have hTT:∀w',But (fun k=>k=R) w w'→Tabs w':=fun w' hb=>hT.rd h hb
 replace hTT:=Lib.hid hTT
 replace hG:=Lib.hid hG
 replace BA:=Lib.hid BA
 replace hz0:=Lib.hid hz0
 go_enter Tryz.func23,Tryz.ntmps23
 go_upto_region 1 with fail
 generalize w.alloc (.cells #[.pointer (some ⟨R,0,none⟩)] 66)=w0 at *
 have q:=(blk_cell BA.out 0).trans (show _=some (.pointer (some ⟨R,0,none⟩)) from rfl)
 have hn:=eyeNum_any R A c8 l0 st0 w0 (h.g hG.out) hl2 hcap 1000 1000 rfl (by omega)
 obtain ⟨N,st1,h1⟩:∃v s,gv 0 (dCount 1000) st0=(v,s):=⟨_,_,rfl⟩
 rw [h1] at hn
 have g1:=gv_gives h1
 have hN:N≤1000:=gv_bound (P:=(·≤1000)) h1 (by omega) (fun _ _ _ h=>(dCount_num h).2)
 replace g1:=Lib.hid g1
 replace hn:=Lib.hid hn
 clear h1 h hT
 go_wp2_with fail
 (with_reducible refine Calls.mono hn.out ?_)
 clear hn q
 rintro e w1 ⟨rfl,hr1,hb1⟩
 replace BA:=Lib.hid (hb1.blk BA.out (by omega))
 replace hr1:=Lib.hid hr1
 replace hb1:=Lib.hid hb1
 go_wp2_with fail
 go_loopw [4,5] (fun l i wr=>∃(jj k:Nat) (A':Option Addr) (c':Nat) (zs:List SmM) (st:Option (List UInt8)),l=.slice A' zs.length c'∧i=.int .i64 jj∧Hid (jj+k=N)∧k+zs.length≤1000∧Hid (RdS 64 R A c8 l0 st wr)∧Hid (SmsOwn w0.heap.size A' c' zs wr)∧Hid (∀s ∈ zs,SmSmall s.name s.es s.ks)∧Hid (But (fun k=>k=R) w0 wr)∧Hid (wr.heap[w.heap.size]?=some (.cells #[.pointer (some ⟨R,0,none⟩)] 66 (0,0)))∧Hid (More dStream N k st1 st (zs.map SmM.sm))) (fun _ i _=>N - (intOf i).toNat)
 case atStart=>exact ⟨0,N,none,0,[],st1,rfl,rfl,Lib.hid (by omega),by simpa using hN,hr1,⟨OwnL.nil,fun _ h=>(by cases h)⟩,fun _ h=>(by cases h),hb1,BA,More.start _ _ _⟩
 case round =>
  clear BA hr1 hb1
  obtain ⟨jj,k,A',c',zs,st,rfl,rfl,hjk,hk1,hrd,hown,hsm,hbut,BA,hmo⟩:=hrel
  have q:=(blk_cell BA.out 0).trans (show _=some (.pointer (some ⟨R,0,none⟩)) from rfl)
  have q2:=hrd.out.c2
  cases st with
  | none =>
   unfold Option.isNone at q2
   by_cases hk:k=0
   ·subst hk
    obtain rfl:jj=N:=hjk.out
    go_wp2_with fail
    go_ret
    exact ⟨A',c',zs,none,rfl,hrd.out,(But.of_g hG.out).trans hbut.out,⟨hown.out.row.mono hG.out.size,fun s hs=>(hown.out.each s hs).mono hG.out.size⟩,hsm.out,g1.out.bind (hmo.out.end (.inr rfl))⟩
   ·have hk':(jj:Int) < (N:Int):=by have:=hjk.out;omega
    go_wp2_with fail
    go_ret
    exact ⟨A',c',zs,none,rfl,hrd.out,(But.of_g hG.out).trans hbut.out,⟨hown.out.row.mono hG.out.size,fun s hs=>(hown.out.each s hs).mono hG.out.size⟩,hsm.out,g1.out.bind (hmo.out.end (.inr rfl))⟩
  | some lx =>
   unfold Option.isNone at q2
   by_cases hk:k=0
   ·subst hk
    obtain rfl:jj=N:=hjk.out
    go_wp2_with fail
    go_ret
    exact ⟨A',c',zs,(some lx),rfl,hrd.out,(But.of_g hG.out).trans hbut.out,⟨hown.out.row.mono hG.out.size,fun s hs=>(hown.out.each s hs).mono hG.out.size⟩,hsm.out,g1.out.bind (hmo.out.end (.inl rfl))⟩
   ·obtain ⟨j,rfl⟩:∃j,k=j+1:=⟨k - 1,by omega⟩
    have hn:=eyeStream_any R A c8 l0 (some lx) wr hrd.out hl hcap (hTT.out _ ((But.of_g hG.out).trans hbut.out))
    have hj1:(jj:Int) < (N:Int):=by have:=hjk.out;omega
    replace hn:=Lib.hid hn
    clear hk
    go_wp2_with fail
    (with_reducible refine Calls.mono hn.out ?_)
    clear hn q q2
    rintro e w2 ⟨nm,Ae,Ak,ce,ck,es,ks,st3,rfl,hr2,hb2,g3,hs3,ho3⟩
    replace g3:=g3.as (d2:=dStream) (fun l' e=>(dStream_both l' (by cases e;have:=hrd.out.len;omega)).symm)
    obtain ⟨s,hs⟩:∃s:SmM,s=⟨nm,Ae,ce,es,Ak,ck,ks⟩:=⟨_,rfl⟩
    have hmo2:=hmo.out.step g3
    obtain ⟨zs',hz'⟩:∃zs',zs++[s]=zs':=⟨_,rfl⟩
    have hmo3:More dStream N j st1 st3 (zs'.map SmM.sm):=by rw [←hz',List.map_append,hs];exact hmo2
    have hzl:zs'.length=zs.length+1:=by rw [←hz'];simp
    have hsm2:∀s ∈ zs',SmSmall s.name s.es s.ks:=fun x hx=>by
     rw [←hz',List.mem_append,List.mem_singleton] at hx
     rcases hx with hx | rfl
     ·exact hsm.out x hx
     ·rw [hs];exact hs3
    have hRz:R < w0.heap.size:=by have:=hz0.out;omega
    have hownS:∀x ∈ zs',SmOwn w0.heap.size x.Ae x.ce x.es x.Ak x.ck x.ks w2:=fun x hx=>by
     rw [←hz',List.mem_append,List.mem_singleton] at hx
     rcases hx with hx | rfl
     ·exact (hown.out.each x hx).but hb2 (fun k c t hk hc=>by
       subst hk
       rw [hrd.out.tyAt hc]
       decide)
     ·rw [hs];exact ho3.mono hbut.out.size
    have hown2:=hown.out.row.but' hb2 (fun k hk e=>by have:=(hown.out.row.blk hk).1;omega)
    have BA2:=hb2.blk BA.out (by omega)
    have hbut2:=hbut.out.trans hb2
    have hgn:=G.new w2 (.cells #[.string nm,.slice Ae es.length ce,.slice Ak ks.length ck] 118)
    have hr3:=hr2.g hgn
    have BA3:=hgn.blk BA2
    have hbut3:=hbut2.g hgn
    have hown3:=hown2.g hgn
    have hob:∀k,some k=(Value.slice A' zs.length c').ownBlock→w0.heap.size≤k:=fun k hk=>(hown3.blk hk.symm).1
    have hty:∀(k:Nat) (cs:Array Value) (t:TypeId),some k=(Value.slice A' zs.length c').ownBlock→(w2.alloc (.cells #[.string nm,.slice Ae es.length ce,.slice Ak ks.length ck] 118)).heap[k]?=some (.cells cs t (0,0))→t=118:=fun k cs t hk hc=>by
     obtain ⟨_,_,c,hc2⟩:=hown3.blk hk.symm
     rw [hc] at hc2
     simp at hc2
     exact hc2.2
    have hsz:=hbut3.size
    have hownS3:∀x ∈ zs',SmOwn w0.heap.size x.Ae x.ce x.es x.Ak x.ck x.ks _:=fun x hx=>(hownS x hx).g hgn
    replace hr3:=Lib.hid hr3
    replace BA3:=Lib.hid BA3
    replace hbut3:=Lib.hid hbut3
    replace hown3:=Lib.hid hown3
    replace hownS3:=Lib.hid hownS3
    replace hty:=Lib.hid hty
    replace hs:=Lib.hid hs
    replace hz':=Lib.hid hz'
    replace hmo3:=Lib.hid hmo3
    replace hzl:=Lib.hid hzl
    replace hsm2:=Lib.hid hsm2
    clear hown hrd BA hbut hr2 hb2 hown2 BA2 hbut2 hgn hmo hmo2 hsm hs3 ho3 hownS g3
    go_wp2_with (at_builtin;refine wpList_append_but sms_elem _ rfl (.tmp 22) (.tmp 26) rfl w0.heap.size _ zs rfl hown3.out (w2.heap.size+1) (some ⟨w2.heap.size,0,none⟩) 1 [s] rfl (by intro h;cases h) (Sl.of_blk SmM.cells_len _ (blk_new _ _ _) (by rw [hs.out];rfl) (by omega)) (by simp;omega) (by simp;omega) hsz ?_;intro v6 w6 hown6 hk6 hb6;rw [hz'.out] at hown6;obtain ⟨A6,c6,e6,_,_,_⟩:=OwnL.sl SmM.cells_len hown6;subst e6;have hr6:=hr3.out.but hb6 (fun k hk e=>by have:=hob k e;omega);have BA6:=hk6.2 _ _ _ _ (by decide) BA3.out;have hbut6:=hbut3.out.up hb6 hob;have hS6:SmsOwn w0.heap.size A6 c6 zs' w6:=⟨hown6,fun x hx=>(hownS3.out x hx).but hb6 (fun k cs t hk hc=>by rw [hty.out k cs t hk hc];decide)⟩;replace hr6:=Lib.hid hr6;replace BA6:=Lib.hid BA6;replace hbut6:=Lib.hid hbut6;replace hS6:=Lib.hid hS6;clear hown6)
    go_roundw
    case rel=>exact ⟨jj+1,j,A6,c6,zs',st3,rfl,by go_num,Lib.hid (by have:=hjk.out;omega),by have:=hzl.out;omega,hr6,hS6,hsm2,hbut6,BA6,hmo3⟩
    case measure=>(simp [intOf] <;> omega)
end Go.Proofs.YtheogchkelmeeaaGreatDoor

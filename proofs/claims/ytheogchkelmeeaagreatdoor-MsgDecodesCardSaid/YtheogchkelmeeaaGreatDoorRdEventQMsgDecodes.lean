/- event's reader's event, penstockref7's Eye's Event; DecodeEvent of both: what they answer. Conditions: lengths of at most 2^30; the decoder's tables lie as the library lays them. -/
import Derived.Test.YtheogchkelmeeaaGreatDoorM9MsgDecodes
import Derived.Test.YtheogchkelmeeaaGreatDoorEvEncQMsgDecodes
namespace Go.Proofs.YtheogchkelmeeaaGreatDoor
open Go.RowKit
theorem cell_lt {w:World} {k o:Nat} {v:Value} (h:w.cell? ⟨k,o,none⟩=some v):k < w.heap.size:=by
 rcases Nat.lt_or_ge k w.heap.size with h1 | h1
 ·exact h1
 ·simp [World.cell?,Array.getElem?_eq_none h1] at h
/-- The decoder's tables lie where no reader turns. -/
theorem Tabs.rd {T:TypeId} {R:Nat} {A:Option Addr} {c8:Nat} {l0:List UInt8} {st:Option (List UInt8)} {w w':World} (hT:Tabs w) (hr:RdS T R A c8 l0 st w) (hb:But (fun k=>k=R) w w'):Tabs w':=by
 obtain ⟨p,_,_,hr⟩:=hr
 have c0:=hr.c0
 have key:∀(g o:Nat) (n:Int),w.cell? ⟨g,0,none⟩=some (.int .u8 n)→∀v,w.cell? ⟨g,o,none⟩=some v→w'.cell? ⟨g,o,none⟩=some v:=fun g o n h0 v h=>by
  have hne:¬ g=R:=by
   rintro rfl
   rw [c0] at h0
   cases h0
  rw [hb.cell (cell_lt h) hne]
  exact h
 refine ⟨fun c hc=>key _ _ _ (hT.1 0 (by omega)) _ (hT.1 c hc),fun i hi=>⟨key _ _ _ (hT.2 0 (by omega)).1 _ (hT.2 i hi).1,key _ _ _ (hT.2 0 (by omega)).1 _ (hT.2 i hi).2⟩⟩
theorem gv_text_len {st st1:Option (List UInt8)} {s:List UInt8} {L:Nat} (h:gv [] dText st=(s,st1)) (hst:∀l,st=some l→l.length≤L):s.length≤L∧∀l,st1=some l→l.length≤L:=by
 cases st with
 | none=>cases h;exact ⟨by simp,fun l h=>by cases h⟩
 | some l =>
  have hl:=hst l rfl
  cases hd:dText l with
  | none =>
   rw [gv_none hd] at h
   cases h
   exact ⟨by simp,fun l h=>by cases h⟩
  | some p =>
   obtain ⟨a,r⟩:=p
   rw [gv_some hd] at h
   cases h
   have h1:=dText_len hd
   have h2:=eats_text _ _ _ hd
   exact ⟨by omega,fun l h=>by cases h;omega⟩
theorem gv_less {α:Type} {z x:α} {d:Reader α} {st st1:Option (List UInt8)} {L:Nat} (hd:Less d) (h:gv z d st=(x,st1)) (hst:∀l,st=some l→l.length≤L):∀l,st1=some l→l.length≤L:=by
 cases st with
 | none=>cases h;exact fun l h=>by cases h
 | some l =>
  have hl:=hst l rfl
  cases hc:d l with
  | none =>
   rw [gv_none hc] at h
   cases h
   exact fun l h=>by cases h
  | some p =>
   obtain ⟨a,r⟩:=p
   rw [gv_some hc] at h
   cases h
   have h2:=hd _ _ _ hc
   exact fun l h=>by cases h;omega
def evVal (e:Ev):Value:=.agg e.cells.toArray
def zEv:Ev:=⟨ByteArray.empty,0,ByteArray.empty,⟨0,0,0⟩,0⟩
/-- What an event reads to, told field by field. -/
theorem gives_event {st st1 st2 st3 st4 st5 st6 : Option (List UInt8)} {s d : List UInt8} {v i : Nat} {t : St} {y : Ev} (g1 : Gives dText st st1 s) (g2 : Gives (dCount 1099511627776) st1 st2 v) (g3 : Gives dText st2 st3 d) (g4 : Gives dStamp st3 st4 t) (g5 : Gives (dCount 160) st4 st5 i)
  (g6:Gives (rif (evOk ⟨strOf s,v,strOf d,t,i⟩) ⟨strOf s,v,strOf d,t,i⟩) st5 st6 y):Gives dEvent st st6 y:=g1.bind (g2.bind (g3.bind (g4.bind (g5.bind g6))))
/-- How the walk over an event's fields stands. -/
structure EvSt (T:TypeId) (R:Nat) (A:Option Addr) (c8:Nat) (l0:List UInt8) (w:World) (B:Nat) (st:Option (List UInt8)) (cs:Array Value) (wx:World):Prop where
 rd:RdS T R A c8 l0 st wx
 blk:wx.heap[B]?=some (.cells cs 76 (0,0))
 but:But (fun k=>k=R) w wx
section
variable {T : TypeId} {R : Nat} {A : Option Addr} {c8 : Nat} {l0 : List UInt8} {w wx wy : World} {B : Nat} {st st1 : Option (List UInt8)} {cs : Array Value}
theorem EvSt.call (h:EvSt T R A c8 l0 w B st cs wx) (hB:R < B) (hr:RdS T R A c8 l0 st1 wy) (hb:But (fun k=>k=R) wx wy):EvSt T R A c8 l0 w B st1 cs wy:=⟨hr,hb.blk h.blk (by omega),h.but.trans hb⟩
theorem EvSt.put (h:EvSt T R A c8 l0 w B st cs wx) (hB:R < B) (hw:w.heap.size≤B) (o:Nat) (u:Value):EvSt T R A c8 l0 w B st (cs.setIfInBounds o u) (wx.setCell ⟨B,o,none⟩ u) :=
 ⟨h.rd.but (but_set wx B o u) (by omega),blk_put h.blk o u,h.but.set (p:=⟨B,o,none⟩) (.inl hw) u⟩
theorem EvSt.free (h:EvSt T R A c8 l0 w B st cs wx) (o:Nat):wx.frozen? ⟨B,o,none⟩=false:=by simp [World.frozen?,h.blk]
theorem EvSt.cell (h:EvSt T R A c8 l0 w B st cs wx) (o:Nat):wx.cell? ⟨B,o,none⟩=cs[o]?:=blk_cell h.blk o
theorem EvSt.as (h:EvSt T R A c8 l0 w B st cs wx) {cs':Array Value} (he:cs=cs'):EvSt T R A c8 l0 w B st cs' wx:=he ▸ h
theorem EvSt.g (h:EvSt T R A c8 l0 w B st cs wx) (hg:G wx wy):EvSt T R A c8 l0 w B st cs wy:=⟨h.rd.g hg,hg.blk h.blk,h.but.g hg⟩
theorem EvSt.bad (h:EvSt T R A c8 l0 w B st cs wx) (hB:R < B):EvSt T R A c8 l0 w B none cs (wx.setCell ⟨R,2,none⟩ (.bool true)) :=
 ⟨h.rd.fail,(but_set wx R 2 _).blk h.blk (by omega),h.but.trans (but_set wx R 2 _)⟩
theorem EvSt.stay {l:List UInt8} (h:EvSt T R A c8 l0 w B (some l) cs wx) (hB:R < B):EvSt T R A c8 l0 w B (some l) cs (wx.setCell ⟨R,2,none⟩ (.bool false)) :=
 ⟨h.rd.stay,(but_set wx R 2 _).blk h.blk (by omega),h.but.trans (but_set wx R 2 _)⟩
theorem EvSt.put7 {x0 x1 x2 x3 x4 x5 x6 y0 y1 y2 y3 y4 y5 y6 : Value} (h : EvSt T R A c8 l0 w B st #[x0, x1, x2, x3, x4, x5, x6] wx) (hB : R < B) (hw : w.heap.size ≤ B) :
  EvSt T R A c8 l0 w B st #[y0,y1,y2,y3,y4,y5,y6] (((((((wx.setCell ⟨B,0,none⟩ y0).setCell ⟨B,1,none⟩ y1).setCell ⟨B,2,none⟩ y2).setCell ⟨B,3,none⟩ y3).setCell ⟨B,4,none⟩ y4).setCell ⟨B,5,none⟩ y5).setCell ⟨B,6,none⟩ y6) :=
 show EvSt T R A c8 l0 w B st [y0,y1,y2,y3,y4,y5,y6].toArray (stc wx B 0 [y0,y1,y2,y3,y4,y5,y6]) from
 ⟨h.rd.but (stc_but (fun k=>k=B) B rfl _ wx wx 0 (But.refl _ _)) (by omega),stc_blk _ h.blk rfl,h.but.over (stc_but (fun k=>k=B) B rfl _ wx wx 0 (But.refl _ _)) (fun k e=>.inl (e ▸ hw))⟩
end
set_option maxRecDepth 100000 in
set_option maxHeartbeats 4000000 in
theorem revent_any (R : Nat) (A : Option Addr) (c8 : Nat) (l0 : List UInt8) (st : Option (List UInt8)) (w : World) (h : RdS 166 R A c8 l0 st w) (hl : l0.length ≤ 1073741824) (hcap : l0.length ≤ c8) (hT : Tabs w) :
  Calls Tryz.prog 103 #[.pointer (some ⟨R,0,none⟩)] w (RdLoose 166 R A c8 l0 w evVal dEvent st):=by
 have hRw:=h.lt
 have hs:EvSt 166 R A c8 l0 w w.heap.size st #[.string ByteArray.empty,.int .i64 0,.string ByteArray.empty,.int .i64 0,.int .i64 0,.int .i64 0,.int .i64 0] (w.alloc (.cells #[.string ByteArray.empty,.int .i64 0,.string ByteArray.empty,.int .i64 0,.int .i64 0,.int .i64 0,.int .i64 0] 76)):=⟨h.g (G.new _ _),blk_new _ _ _,.of_g (G.new _ _)⟩
 have hl0:∀l,st=some l→l.length≤1073741824:=fun l e=>Nat.le_trans (RdS.len (e ▸ h)) hl
 replace h:=Lib.hid h
 replace hT:=Lib.hid hT
 have hc:=text_any R A c8 l0 st _ hs.rd hl hcap
 go_enter Tryz.func103,Tryz.ntmps103
 obtain ⟨s,st1,hv⟩:∃v s,gv [] dText st=(v,s):=⟨_,_,rfl⟩
 rw [hv] at hc
 dsimp only at hc
 have g1:=gv_gives hv
 obtain ⟨hsl,hl1⟩:=gv_text_len hv hl0
 replace g1:=Lib.hid g1
 clear hv
 replace hs:=Lib.hid hs
 go_wp2_with fail
 refine hc.mono ?_
 clear hc
 rintro e w1 ⟨rfl,hr1,hb1⟩
 replace hs:=hs.out.call (by omega) hr1 hb1
 clear hr1 hb1
 have qa:=(hs.cell 0).trans (show _=some (.string ByteArray.empty) from rfl)
 have fa:=hs.free 0
 replace hs:=(hs.put (by omega) (Nat.le_refl _) 0 (.string (strOf s))).as (show _=#[.string (strOf s),.int .i64 0,.string ByteArray.empty,.int .i64 0,.int .i64 0,.int .i64 0,.int .i64 0] from rfl)
 have hc:=count_any' R A c8 l0 st1 _ hs.rd hl hcap 1099511627776 1099511627776 rfl (by omega)
 obtain ⟨v,st2,hv⟩:∃v s,gv 0 (dCount 1099511627776) st1=(v,s):=⟨_,_,rfl⟩
 rw [hv] at hc
 dsimp only at hc
 have g2:=gv_gives hv
 have hl2:=gv_less (eats_count _).less hv hl1
 replace g2:=Lib.hid g2
 clear hv
 replace hs:=Lib.hid hs
 go_wp2_with fail
 refine hc.mono ?_
 clear hc
 rintro e w2 ⟨rfl,hr1,hb1⟩
 replace hs:=hs.out.call (by omega) hr1 hb1
 clear hr1 hb1
 have qa:=(hs.cell 1).trans (show _=some (.int .i64 0) from rfl)
 have fa:=hs.free 1
 replace hs:=(hs.put (by omega) (Nat.le_refl _) 1 (.int .i64 v)).as (show _=#[.string (strOf s),.int .i64 v,.string ByteArray.empty,.int .i64 0,.int .i64 0,.int .i64 0,.int .i64 0] from rfl)
 have hc:=text_any R A c8 l0 st2 _ hs.rd hl hcap
 obtain ⟨d,st3,hv⟩:∃v s,gv [] dText st2=(v,s):=⟨_,_,rfl⟩
 rw [hv] at hc
 dsimp only at hc
 have g3:=gv_gives hv
 obtain ⟨hdl,hl3⟩:=gv_text_len hv hl2
 replace g3:=Lib.hid g3
 clear hv
 replace hs:=Lib.hid hs
 go_wp2_with fail
 refine hc.mono ?_
 clear hc
 rintro e w3 ⟨rfl,hr1,hb1⟩
 replace hs:=hs.out.call (by omega) hr1 hb1
 clear hr1 hb1
 have qa:=(hs.cell 2).trans (show _=some (.string ByteArray.empty) from rfl)
 have fa:=hs.free 2
 replace hs:=(hs.put (by omega) (Nat.le_refl _) 2 (.string (strOf d))).as (show _=#[.string (strOf s),.int .i64 v,.string (strOf d),.int .i64 0,.int .i64 0,.int .i64 0,.int .i64 0] from rfl)
 have hc:=rstamp_any R A c8 l0 st3 _ hs.rd hl hcap
 obtain ⟨⟨ta,tb,tc⟩,st4,hv⟩:∃v s,gv zSt dStamp st3=(v,s):=⟨_,_,rfl⟩
 rw [hv] at hc
 unfold stVal stV at hc
 dsimp only at hc
 have g4:=gv_gives hv
 have hl4:=gv_less eats_stamp.less hv hl3
 replace g4:=Lib.hid g4
 clear hv
 replace hs:=Lib.hid hs
 go_wp2_with fail
 refine hc.mono ?_
 clear hc
 rintro e w4 ⟨rfl,hr1,hb1⟩
 replace hs:=hs.out.call (by omega) hr1 hb1
 clear hr1 hb1
 have qa:=(hs.cell 3).trans (show _=some (.int .i64 0) from rfl)
 have qb:=(hs.cell 4).trans (show _=some (.int .i64 0) from rfl)
 have qc:=(hs.cell 5).trans (show _=some (.int .i64 0) from rfl)
 have fa:=hs.free 3
 have fb:=hs.free 4
 have fc:=hs.free 5
 replace hs:=(((hs.put (by omega) (Nat.le_refl _) 3 (.int .i64 ta)).put (by omega) (Nat.le_refl _) 4 (.int .i64 tb)).put (by omega) (Nat.le_refl _) 5 (.int .i64 tc)).as (show _=#[.string (strOf s),.int .i64 v,.string (strOf d),.int .i64 ta,.int .i64 tb,.int .i64 tc,.int .i64 0] from rfl)
 have hc:=count_any' R A c8 l0 st4 _ hs.rd hl hcap 160 160 rfl (by omega)
 obtain ⟨i,st5,hv⟩:∃v s,gv 0 (dCount 160) st4=(v,s):=⟨_,_,rfl⟩
 rw [hv] at hc
 dsimp only at hc
 have g5:=gv_gives hv
 have hl5:=gv_less (eats_count _).less hv hl4
 replace g5:=Lib.hid g5
 clear hv
 replace hs:=Lib.hid hs
 go_wp2_with fail
 refine hc.mono ?_
 clear hc
 rintro e w5 ⟨rfl,hr1,hb1⟩
 replace hs:=hs.out.call (by omega) hr1 hb1
 clear hr1 hb1
 have qa:=(hs.cell 6).trans (show _=some (.int .i64 0) from rfl)
 have fa:=hs.free 6
 replace hs:=(hs.put (by omega) (Nat.le_refl _) 6 (.int .i64 i)).as (show _=#[.string (strOf s),.int .i64 v,.string (strOf d),.int .i64 ta,.int .i64 tb,.int .i64 tc,.int .i64 i] from rfl)
 cases st5 with
 | none =>
  have qz:_=some (Value.bool true):=hs.rd.c2
  have fz:=hs.rd.free 2
  replace hs:=hs.bad (by omega)
  clear hl1 hl2 hl3 hl4 hl5
  have q0:=(hs.cell 0).trans (show _=some (.string (strOf s)) from rfl)
  have q1:=(hs.cell 1).trans (show _=some (.int .i64 v) from rfl)
  have q2:=(hs.cell 2).trans (show _=some (.string (strOf d)) from rfl)
  have q3:=(hs.cell 3).trans (show _=some (.int .i64 ta) from rfl)
  have q4:=(hs.cell 4).trans (show _=some (.int .i64 tb) from rfl)
  have q5:=(hs.cell 5).trans (show _=some (.int .i64 tc) from rfl)
  have q6:=(hs.cell 6).trans (show _=some (.int .i64 i) from rfl)
  have f0:=hs.free 0
  have f1:=hs.free 1
  have f2:=hs.free 2
  have f3:=hs.free 3
  have f4:=hs.free 4
  have f5:=hs.free 5
  have f6:=hs.free 6
  have hp:=hs.put7 (y0:=.string (strOf s)) (y1:=.int .i64 v) (y2:=.string (strOf d)) (y3:=.int .i64 ta) (y4:=.int .i64 tb) (y5:=.int .i64 tc) (y6:=.int .i64 i) (by omega) (Nat.le_refl _)
  have e0:=(hp.cell 0).trans (show _=some (.string (strOf s)) from rfl)
  have e1:=(hp.cell 1).trans (show _=some (.int .i64 v) from rfl)
  have e2:=(hp.cell 2).trans (show _=some (.string (strOf d)) from rfl)
  have e3:=(hp.cell 3).trans (show _=some (.int .i64 ta) from rfl)
  have e4:=(hp.cell 4).trans (show _=some (.int .i64 tb) from rfl)
  have e5:=(hp.cell 5).trans (show _=some (.int .i64 tc) from rfl)
  have e6:=(hp.cell 6).trans (show _=some (.int .i64 i) from rfl)
  replace e0:=Lib.hid e0
  replace e1:=Lib.hid e1
  replace e2:=Lib.hid e2
  replace e3:=Lib.hid e3
  replace e4:=Lib.hid e4
  replace e5:=Lib.hid e5
  replace e6:=Lib.hid e6
  replace hp:=Lib.hid hp
  replace hs:=Lib.hid hs
  go_wp2_with fail
  have e0:=e0.out
  have e1:=e1.out
  have e2:=e2.out
  have e3:=e3.out
  have e4:=e4.out
  have e5:=e5.out
  have e6:=e6.out
  refine bodyPost_ret (v:=.agg #[.string (strOf s),.int .i64 v,.string (strOf d),.int .i64 ta,.int .i64 tb,.int .i64 tc,.int .i64 i]) (by simp [results,Tryz.results103,go_sem,e0,e1,e2,e3,e4,e5,e6]) rfl ?_
  exact ⟨⟨strOf s,v,strOf d,⟨ta,tb,tc⟩,i⟩,none,rfl,hp.out.rd,hp.out.but,gives_event g1.out g2.out g3.out g4.out g5.out (Gives.bad _)⟩
 | some l5 =>
  have qz:_=some (Value.bool false):=hs.rd.c2
  have hen:=evEnc_any (strOf s) (strOf d) v ta tb tc i _ (by rw [strOf_size];exact hsl) (by rw [strOf_size];exact hdl) (hT.out.rd h.out hs.but)
  have hq:=fun W A n c=>Lib.run_eql_slice_nil (P:=Tryz.prog) W 22 5 A n c 0 0 Tryz.underlying22
  unfold Ev.cells at hen
  clear hl1 hl2 hl3 hl4 hl5
  have q0:=(hs.cell 0).trans (show _=some (.string (strOf s)) from rfl)
  have q1:=(hs.cell 1).trans (show _=some (.int .i64 v) from rfl)
  have q2:=(hs.cell 2).trans (show _=some (.string (strOf d)) from rfl)
  have q3:=(hs.cell 3).trans (show _=some (.int .i64 ta) from rfl)
  have q4:=(hs.cell 4).trans (show _=some (.int .i64 tb) from rfl)
  have q5:=(hs.cell 5).trans (show _=some (.int .i64 tc) from rfl)
  have q6:=(hs.cell 6).trans (show _=some (.int .i64 i) from rfl)
  replace hs:=Lib.hid hs
  cases hok:evOk ⟨strOf s,v,strOf d,⟨ta,tb,tc⟩,i⟩ with
  | true =>
   have hne:evL ⟨strOf s,v,strOf d,⟨ta,tb,tc⟩,i⟩≠[]:=by rw [Ne,evL_nil,hok];simp
   generalize evL ⟨strOf s,v,strOf d,⟨ta,tb,tc⟩,i⟩=el at *
   replace hne:=Lib.hid hne
   replace hok:=Lib.hid hok
   go_wp2_with fail
   refine hen.mono ?_
   clear hen
   rintro e w6 ⟨Ae,ce,rfl,hown,hg,_⟩
   clear qz q0 q1 q2 q3 q4 q5 q6
   replace hs:=hs.out.g hg
   clear hg
   obtain ⟨ad,rfl⟩:∃a,Ae=some a:=by
    rcases Ae with _ | a
    ·exact absurd ((OwnL.self byteC_len hown).of_none) hne.out
    ·exact ⟨a,rfl⟩
   have fz:=hs.rd.free 2
   have qz:_=some (Value.bool false):=hs.rd.c2
   clear hown
   replace hs:=hs.stay (by omega)
   have q0:=(hs.cell 0).trans (show _=some (.string (strOf s)) from rfl)
   have q1:=(hs.cell 1).trans (show _=some (.int .i64 v) from rfl)
   have q2:=(hs.cell 2).trans (show _=some (.string (strOf d)) from rfl)
   have q3:=(hs.cell 3).trans (show _=some (.int .i64 ta) from rfl)
   have q4:=(hs.cell 4).trans (show _=some (.int .i64 tb) from rfl)
   have q5:=(hs.cell 5).trans (show _=some (.int .i64 tc) from rfl)
   have q6:=(hs.cell 6).trans (show _=some (.int .i64 i) from rfl)
   have f0:=hs.free 0
   have f1:=hs.free 1
   have f2:=hs.free 2
   have f3:=hs.free 3
   have f4:=hs.free 4
   have f5:=hs.free 5
   have f6:=hs.free 6
   have hp:=hs.put7 (y0:=.string (strOf s)) (y1:=.int .i64 v) (y2:=.string (strOf d)) (y3:=.int .i64 ta) (y4:=.int .i64 tb) (y5:=.int .i64 tc) (y6:=.int .i64 i) (by omega) (Nat.le_refl _)
   have e0:=(hp.cell 0).trans (show _=some (.string (strOf s)) from rfl)
   have e1:=(hp.cell 1).trans (show _=some (.int .i64 v) from rfl)
   have e2:=(hp.cell 2).trans (show _=some (.string (strOf d)) from rfl)
   have e3:=(hp.cell 3).trans (show _=some (.int .i64 ta) from rfl)
   have e4:=(hp.cell 4).trans (show _=some (.int .i64 tb) from rfl)
   have e5:=(hp.cell 5).trans (show _=some (.int .i64 tc) from rfl)
   have e6:=(hp.cell 6).trans (show _=some (.int .i64 i) from rfl)
   replace e0:=Lib.hid e0
   replace e1:=Lib.hid e1
   replace e2:=Lib.hid e2
   replace e3:=Lib.hid e3
   replace e4:=Lib.hid e4
   replace e5:=Lib.hid e5
   replace e6:=Lib.hid e6
   replace hp:=Lib.hid hp
   replace hs:=Lib.hid hs
   go_wp2_with fail
   have e0:=e0.out
   have e1:=e1.out
   have e2:=e2.out
   have e3:=e3.out
   have e4:=e4.out
   have e5:=e5.out
   have e6:=e6.out
   refine bodyPost_ret (v:=.agg #[.string (strOf s),.int .i64 v,.string (strOf d),.int .i64 ta,.int .i64 tb,.int .i64 tc,.int .i64 i]) (by simp [results,Tryz.results103,go_sem,e0,e1,e2,e3,e4,e5,e6]) rfl ?_
   exact ⟨⟨strOf s,v,strOf d,⟨ta,tb,tc⟩,i⟩,some l5,rfl,hp.out.rd,hp.out.but,gives_event g1.out g2.out g3.out g4.out g5.out (Gives.yes hok.out _)⟩
  | false =>
   have hne:evL ⟨strOf s,v,strOf d,⟨ta,tb,tc⟩,i⟩=[]:=evL_none hok
   rw [hne] at hen
   replace hok:=Lib.hid hok
   clear hne
   go_wp2_with fail
   refine hen.mono ?_
   clear hen
   rintro e w6 ⟨Ae,ce,rfl,hown,hg,hnil⟩
   obtain rfl:=hnil rfl
   clear qz q0 q1 q2 q3 q4 q5 q6 hown hnil
   replace hs:=hs.out.g hg
   clear hg
   have fz:=hs.rd.free 2
   have qz:_=some (Value.bool false):=hs.rd.c2
   replace hs:=hs.bad (by omega)
   have q0:=(hs.cell 0).trans (show _=some (.string (strOf s)) from rfl)
   have q1:=(hs.cell 1).trans (show _=some (.int .i64 v) from rfl)
   have q2:=(hs.cell 2).trans (show _=some (.string (strOf d)) from rfl)
   have q3:=(hs.cell 3).trans (show _=some (.int .i64 ta) from rfl)
   have q4:=(hs.cell 4).trans (show _=some (.int .i64 tb) from rfl)
   have q5:=(hs.cell 5).trans (show _=some (.int .i64 tc) from rfl)
   have q6:=(hs.cell 6).trans (show _=some (.int .i64 i) from rfl)
   have f0:=hs.free 0
   have f1:=hs.free 1
   have f2:=hs.free 2
   have f3:=hs.free 3
   have f4:=hs.free 4
   have f5:=hs.free 5
   have f6:=hs.free 6
   have hp:=hs.put7 (y0:=.string (strOf s)) (y1:=.int .i64 v) (y2:=.string (strOf d)) (y3:=.int .i64 ta) (y4:=.int .i64 tb) (y5:=.int .i64 tc) (y6:=.int .i64 i) (by omega) (Nat.le_refl _)
   have e0:=(hp.cell 0).trans (show _=some (.string (strOf s)) from rfl)
   have e1:=(hp.cell 1).trans (show _=some (.int .i64 v) from rfl)
   have e2:=(hp.cell 2).trans (show _=some (.string (strOf d)) from rfl)
   have e3:=(hp.cell 3).trans (show _=some (.int .i64 ta) from rfl)
   have e4:=(hp.cell 4).trans (show _=some (.int .i64 tb) from rfl)
   have e5:=(hp.cell 5).trans (show _=some (.int .i64 tc) from rfl)
   have e6:=(hp.cell 6).trans (show _=some (.int .i64 i) from rfl)
   replace e0:=Lib.hid e0
   replace e1:=Lib.hid e1
   replace e2:=Lib.hid e2
   replace e3:=Lib.hid e3
   replace e4:=Lib.hid e4
   replace e5:=Lib.hid e5
   replace e6:=Lib.hid e6
   replace hp:=Lib.hid hp
   replace hs:=Lib.hid hs
   go_wp2_with fail
   have e0:=e0.out
   have e1:=e1.out
   have e2:=e2.out
   have e3:=e3.out
   have e4:=e4.out
   have e5:=e5.out
   have e6:=e6.out
   refine bodyPost_ret (v:=.agg #[.string (strOf s),.int .i64 v,.string (strOf d),.int .i64 ta,.int .i64 tb,.int .i64 tc,.int .i64 i]) (by simp [results,Tryz.results103,go_sem,e0,e1,e2,e3,e4,e5,e6]) rfl ?_
   exact ⟨⟨strOf s,v,strOf d,⟨ta,tb,tc⟩,i⟩,none,rfl,hp.out.rd,hp.out.but,gives_event g1.out g2.out g3.out g4.out g5.out (Gives.no hok.out _ _)⟩
/-- The same, with the result's block beside it. -/
structure EvT (T:TypeId) (R:Nat) (A:Option Addr) (c8:Nat) (l0:List UInt8) (w:World) (B Z:Nat) (st:Option (List UInt8)) (cs:Array Value) (wx:World):Prop where
 s:EvSt T R A c8 l0 w B st cs wx
 res:wx.heap[Z]?=some (.cells #[.string ByteArray.empty,.int .i64 0,.string ByteArray.empty,.int .i64 0,.int .i64 0,.int .i64 0,.int .i64 0] 76 (0,0))
section
variable {T : TypeId} {R : Nat} {A : Option Addr} {c8 : Nat} {l0 : List UInt8} {w wx wy : World} {B Z : Nat} {st st1 : Option (List UInt8)} {cs : Array Value}
theorem EvT.call (h:EvT T R A c8 l0 w B Z st cs wx) (hB:R < B) (hZ:R < Z) (hr:RdS T R A c8 l0 st1 wy) (hb:But (fun k=>k=R) wx wy):EvT T R A c8 l0 w B Z st1 cs wy:=⟨h.s.call hB hr hb,hb.blk h.res (by omega)⟩
theorem EvT.put (h:EvT T R A c8 l0 w B Z st cs wx) (hB:R < B) (hw:w.heap.size≤B) (hZ:Z≠B) (o:Nat) (u:Value):EvT T R A c8 l0 w B Z st (cs.setIfInBounds o u) (wx.setCell ⟨B,o,none⟩ u) :=
 ⟨h.s.put hB hw o u,(but_set wx B o u).blk h.res hZ⟩
theorem EvT.as (h:EvT T R A c8 l0 w B Z st cs wx) {cs':Array Value} (he:cs=cs'):EvT T R A c8 l0 w B Z st cs' wx:=he ▸ h
theorem EvT.g (h:EvT T R A c8 l0 w B Z st cs wx) (hg:G wx wy):EvT T R A c8 l0 w B Z st cs wy:=⟨h.s.g hg,hg.blk h.res⟩
theorem EvT.bad (h:EvT T R A c8 l0 w B Z st cs wx) (hB:R < B) (hZ:R < Z):EvT T R A c8 l0 w B Z none cs (wx.setCell ⟨R,2,none⟩ (.bool true)):=⟨h.s.bad hB,(but_set wx R 2 _).blk h.res (by omega)⟩
/-- Its result's block, laid anew. -/
theorem EvT.done (h : EvT T R A c8 l0 w B Z st cs wx) (hZ : R < Z) (hw : w.heap.size ≤ Z) (y0 y1 y2 y3 y4 y5 y6 : Value) :
  EvSt T R A c8 l0 w Z st #[y0,y1,y2,y3,y4,y5,y6] (((((((wx.setCell ⟨Z,0,none⟩ y0).setCell ⟨Z,1,none⟩ y1).setCell ⟨Z,2,none⟩ y2).setCell ⟨Z,3,none⟩ y3).setCell ⟨Z,4,none⟩ y4).setCell ⟨Z,5,none⟩ y5).setCell ⟨Z,6,none⟩ y6) :=
 EvSt.put7 ⟨h.s.rd,h.res,h.s.but⟩ hZ hw
end
set_option maxRecDepth 100000 in
set_option maxHeartbeats 4000000 in
theorem eyeEvent_any (R : Nat) (A : Option Addr) (c8 : Nat) (l0 : List UInt8) (st : Option (List UInt8)) (w : World) (h : RdS 64 R A c8 l0 st w) (hl : l0.length ≤ 1073741824) (hcap : l0.length ≤ c8) (hT : Tabs w) :
  Calls Tryz.prog 24 #[.pointer (some ⟨R,0,none⟩)] w (RdLoose 64 R A c8 l0 w evVal dEvent st):=by
 have hRw:=h.lt
 have hl0:∀l,st=some l→l.length≤1073741824:=fun l e=>Nat.le_trans (RdS.len (e ▸ h)) hl
 have hc:=eyeText_any R A c8 l0 st (w.alloc (.cells #[.string ByteArray.empty,.int .i64 0,.string ByteArray.empty,.int .i64 0,.int .i64 0,.int .i64 0,.int .i64 0] 76)) (h.g (G.new _ _)) hl hcap
 replace h:=Lib.hid h
 replace hT:=Lib.hid hT
 obtain ⟨s,st1,hv⟩:∃v s,gv [] dText st=(v,s):=⟨_,_,rfl⟩
 rw [hv] at hc
 dsimp only at hc
 have g1:=gv_gives hv
 obtain ⟨hsl,hl1⟩:=gv_text_len hv hl0
 replace g1:=Lib.hid g1
 clear hv
 go_enter Tryz.func24,Tryz.ntmps24
 go_wp2_with fail
 refine hc.mono ?_
 clear hc
 rintro e w1 ⟨rfl,hr1,hb1⟩
 have hBz:w.heap.size < w1.heap.size:=by have:=hb1.size;simp at this;omega
 have hs:EvT 64 R A c8 l0 w w1.heap.size w.heap.size st1 #[.string (strOf s),.int .i64 0,.string ByteArray.empty,.int .i64 0,.int .i64 0,.int .i64 0,.int .i64 0] (w1.alloc (.cells #[.string (strOf s),.int .i64 0,.string ByteArray.empty,.int .i64 0,.int .i64 0,.int .i64 0,.int .i64 0] 76)) :=
  ⟨⟨hr1.g (G.new _ _),blk_new _ _ _,((But.of_g (G.new _ _)).trans hb1).g (G.new _ _)⟩,(G.new _ _).blk (hb1.blk (blk_new _ _ _) (by omega))⟩
 clear hr1 hb1
 generalize hBB:w1.heap.size=B at hs hBz
 have hc:=eyeNum_any R A c8 l0 st1 _ hs.s.rd hl hcap 1099511627776 1099511627776 rfl (by omega)
 obtain ⟨v,st2,hv⟩:∃v s,gv 0 (dCount 1099511627776) st1=(v,s):=⟨_,_,rfl⟩
 rw [hv] at hc
 dsimp only at hc
 have g2:=gv_gives hv
 have hl2:=gv_less (eats_count _).less hv hl1
 replace g2:=Lib.hid g2
 clear hv
 replace hs:=Lib.hid hs
 go_wp2_with fail
 refine hc.mono ?_
 clear hc
 rintro e w2 ⟨rfl,hr1,hb1⟩
 replace hs:=hs.out.call (by omega) hRw hr1 hb1
 clear hr1 hb1
 have qa:=(hs.s.cell 1).trans (show _=some (.int .i64 0) from rfl)
 have fa:=hs.s.free 1
 replace hs:=(hs.put (by omega) (by omega) (by omega) 1 (.int .i64 v)).as (show _=#[.string (strOf s),.int .i64 v,.string ByteArray.empty,.int .i64 0,.int .i64 0,.int .i64 0,.int .i64 0] from rfl)
 clear hBB
 have hc:=eyeText_any R A c8 l0 st2 _ hs.s.rd hl hcap
 obtain ⟨d,st3,hv⟩:∃v s,gv [] dText st2=(v,s):=⟨_,_,rfl⟩
 rw [hv] at hc
 dsimp only at hc
 have g3:=gv_gives hv
 obtain ⟨hdl,hl3⟩:=gv_text_len hv hl2
 replace g3:=Lib.hid g3
 clear hv
 replace hs:=Lib.hid hs
 go_wp2_with fail
 refine hc.mono ?_
 clear hc
 rintro e w3 ⟨rfl,hr1,hb1⟩
 replace hs:=hs.out.call (by omega) hRw hr1 hb1
 clear hr1 hb1
 have qa:=(hs.s.cell 2).trans (show _=some (.string ByteArray.empty) from rfl)
 have fa:=hs.s.free 2
 replace hs:=(hs.put (by omega) (by omega) (by omega) 2 (.string (strOf d))).as (show _=#[.string (strOf s),.int .i64 v,.string (strOf d),.int .i64 0,.int .i64 0,.int .i64 0,.int .i64 0] from rfl)
 have hc:=eyeStamp_any R A c8 l0 st3 _ hs.s.rd hl hcap
 replace hs:=Lib.hid hs
 go_wp2_with fail
 refine hc.mono ?_
 clear hc
 rintro e w4 ⟨⟨ta,tb,tc⟩,st4,rfl,hr1,hb1,g4⟩
 have hl4:∀l,st4=some l→l.length≤1073741824:=fun l e=>Nat.le_trans (RdS.len (e ▸ hr1)) hl
 unfold stVal stV
 dsimp only
 replace hs:=hs.out.call (by omega) hRw hr1 hb1
 replace g4:=Lib.hid g4
 clear hr1 hb1
 have qa:=(hs.s.cell 3).trans (show _=some (.int .i64 0) from rfl)
 have qb:=(hs.s.cell 4).trans (show _=some (.int .i64 0) from rfl)
 have qc:=(hs.s.cell 5).trans (show _=some (.int .i64 0) from rfl)
 have fa:=hs.s.free 3
 have fb:=hs.s.free 4
 have fc:=hs.s.free 5
 replace hs:=(((hs.put (by omega) (by omega) (by omega) 3 (.int .i64 ta)).put (by omega) (by omega) (by omega) 4 (.int .i64 tb)).put (by omega) (by omega) (by omega) 5 (.int .i64 tc)).as (show _=#[.string (strOf s),.int .i64 v,.string (strOf d),.int .i64 ta,.int .i64 tb,.int .i64 tc,.int .i64 0] from rfl)
 have hc:=eyeNum_any R A c8 l0 st4 _ hs.s.rd hl hcap 160 160 rfl (by omega)
 obtain ⟨i,st5,hv⟩:∃v s,gv 0 (dCount 160) st4=(v,s):=⟨_,_,rfl⟩
 rw [hv] at hc
 dsimp only at hc
 have g5:=gv_gives hv
 have hl5:=gv_less (eats_count _).less hv hl4
 replace g5:=Lib.hid g5
 clear hv
 replace hs:=Lib.hid hs
 go_wp2_with fail
 refine hc.mono ?_
 clear hc
 rintro e w5 ⟨rfl,hr1,hb1⟩
 replace hs:=hs.out.call (by omega) hRw hr1 hb1
 clear hr1 hb1
 have qa:=(hs.s.cell 6).trans (show _=some (.int .i64 0) from rfl)
 have fa:=hs.s.free 6
 replace hs:=(hs.put (by omega) (by omega) (by omega) 6 (.int .i64 i)).as (show _=#[.string (strOf s),.int .i64 v,.string (strOf d),.int .i64 ta,.int .i64 tb,.int .i64 tc,.int .i64 i] from rfl)
 cases st5 with
 | none =>
  have qz:_=some (Value.bool true):=hs.s.rd.c2
  have fz:=hs.s.rd.free 2
  replace hs:=hs.bad (by omega) hRw
  clear hl1 hl2 hl3 hl4 hl5
  have hZ:EvSt _ _ _ _ _ _ w.heap.size _ #[.string ByteArray.empty,.int .i64 0,.string ByteArray.empty,.int .i64 0,.int .i64 0,.int .i64 0,.int .i64 0] _:=⟨hs.s.rd,hs.res,hs.s.but⟩
  have u0:=(hZ.cell 0).trans (show _=some (Value.string ByteArray.empty) from rfl)
  have u1:=(hZ.cell 1).trans (show _=some (Value.int .i64 0) from rfl)
  have u2:=(hZ.cell 2).trans (show _=some (Value.string ByteArray.empty) from rfl)
  have u3:=(hZ.cell 3).trans (show _=some (Value.int .i64 0) from rfl)
  have u4:=(hZ.cell 4).trans (show _=some (Value.int .i64 0) from rfl)
  have u5:=(hZ.cell 5).trans (show _=some (Value.int .i64 0) from rfl)
  have u6:=(hZ.cell 6).trans (show _=some (Value.int .i64 0) from rfl)
  have f0:=hZ.free 0
  have f1:=hZ.free 1
  have f2:=hZ.free 2
  have f3:=hZ.free 3
  have f4:=hZ.free 4
  have f5:=hZ.free 5
  have f6:=hZ.free 6
  have hp:=hs.done hRw (Nat.le_refl _) (.string ⟨#[]⟩) (.int .i64 0) (.string ⟨#[]⟩) (.int .i64 0) (.int .i64 0) (.int .i64 0) (.int .i64 0)
  have e0:=(hp.cell 0).trans (show _=some (.string ⟨#[]⟩) from rfl)
  have e1:=(hp.cell 1).trans (show _=some (.int .i64 0) from rfl)
  have e2:=(hp.cell 2).trans (show _=some (.string ⟨#[]⟩) from rfl)
  have e3:=(hp.cell 3).trans (show _=some (.int .i64 0) from rfl)
  have e4:=(hp.cell 4).trans (show _=some (.int .i64 0) from rfl)
  have e5:=(hp.cell 5).trans (show _=some (.int .i64 0) from rfl)
  have e6:=(hp.cell 6).trans (show _=some (.int .i64 0) from rfl)
  replace e0:=Lib.hid e0
  replace e1:=Lib.hid e1
  replace e2:=Lib.hid e2
  replace e3:=Lib.hid e3
  replace e4:=Lib.hid e4
  replace e5:=Lib.hid e5
  replace e6:=Lib.hid e6
  replace hp:=Lib.hid hp
  replace hs:=Lib.hid hs
  replace hZ:=Lib.hid hZ
  go_wp2_with fail
  have e0:=e0.out
  have e1:=e1.out
  have e2:=e2.out
  have e3:=e3.out
  have e4:=e4.out
  have e5:=e5.out
  have e6:=e6.out
  refine bodyPost_ret (v:=.agg #[.string ⟨#[]⟩,.int .i64 0,.string ⟨#[]⟩,.int .i64 0,.int .i64 0,.int .i64 0,.int .i64 0]) (by simp [results,Tryz.results24,go_sem,e0,e1,e2,e3,e4,e5,e6]) rfl ?_
  exact ⟨zEv,none,rfl,hp.out.rd,hp.out.but,gives_event g1.out g2.out g3.out g4.out g5.out (Gives.bad _)⟩
 | some l5 =>
  have qz:_=some (Value.bool false):=hs.s.rd.c2
  have hen:=refEvEnc_any (strOf s) (strOf d) v ta tb tc i _ (by rw [strOf_size];exact hsl) (by rw [strOf_size];exact hdl) (hT.out.rd h.out hs.s.but)
  unfold Ev.cells at hen
  clear hl1 hl2 hl3 hl4 hl5
  have q0:=(hs.s.cell 0).trans (show _=some (.string (strOf s)) from rfl)
  have q1:=(hs.s.cell 1).trans (show _=some (.int .i64 v) from rfl)
  have q2:=(hs.s.cell 2).trans (show _=some (.string (strOf d)) from rfl)
  have q3:=(hs.s.cell 3).trans (show _=some (.int .i64 ta) from rfl)
  have q4:=(hs.s.cell 4).trans (show _=some (.int .i64 tb) from rfl)
  have q5:=(hs.s.cell 5).trans (show _=some (.int .i64 tc) from rfl)
  have q6:=(hs.s.cell 6).trans (show _=some (.int .i64 i) from rfl)
  replace hs:=Lib.hid hs
  cases hok:evOk ⟨strOf s,v,strOf d,⟨ta,tb,tc⟩,i⟩ with
  | true =>
   have hne:(((evL ⟨strOf s,v,strOf d,⟨ta,tb,tc⟩,i⟩).length:Int) == 0)=false:=by
    rw [evL_some hok,beq_eq_false_iff_ne]
    have:=evBytes_pos ⟨strOf s,v,strOf d,⟨ta,tb,tc⟩,i⟩
    omega
   generalize evL ⟨strOf s,v,strOf d,⟨ta,tb,tc⟩,i⟩=el at *
   replace hok:=Lib.hid hok
   go_wp2_with fail
   refine hen.mono ?_
   clear hen
   rintro e w6 ⟨Ae,ce,rfl,hown,hg,_⟩
   clear qz q0 q1 q2 q3 q4 q5 q6 hown
   replace hs:=hs.out.g hg
   clear hg
   have q0:=(hs.s.cell 0).trans (show _=some (.string (strOf s)) from rfl)
   have q1:=(hs.s.cell 1).trans (show _=some (.int .i64 v) from rfl)
   have q2:=(hs.s.cell 2).trans (show _=some (.string (strOf d)) from rfl)
   have q3:=(hs.s.cell 3).trans (show _=some (.int .i64 ta) from rfl)
   have q4:=(hs.s.cell 4).trans (show _=some (.int .i64 tb) from rfl)
   have q5:=(hs.s.cell 5).trans (show _=some (.int .i64 tc) from rfl)
   have q6:=(hs.s.cell 6).trans (show _=some (.int .i64 i) from rfl)
   have hZ:EvSt _ _ _ _ _ _ w.heap.size _ #[.string ByteArray.empty,.int .i64 0,.string ByteArray.empty,.int .i64 0,.int .i64 0,.int .i64 0,.int .i64 0] _:=⟨hs.s.rd,hs.res,hs.s.but⟩
   have u0:=(hZ.cell 0).trans (show _=some (Value.string ByteArray.empty) from rfl)
   have u1:=(hZ.cell 1).trans (show _=some (Value.int .i64 0) from rfl)
   have u2:=(hZ.cell 2).trans (show _=some (Value.string ByteArray.empty) from rfl)
   have u3:=(hZ.cell 3).trans (show _=some (Value.int .i64 0) from rfl)
   have u4:=(hZ.cell 4).trans (show _=some (Value.int .i64 0) from rfl)
   have u5:=(hZ.cell 5).trans (show _=some (Value.int .i64 0) from rfl)
   have u6:=(hZ.cell 6).trans (show _=some (Value.int .i64 0) from rfl)
   have f0:=hZ.free 0
   have f1:=hZ.free 1
   have f2:=hZ.free 2
   have f3:=hZ.free 3
   have f4:=hZ.free 4
   have f5:=hZ.free 5
   have f6:=hZ.free 6
   have hp:=hs.done hRw (Nat.le_refl _) (.string (strOf s)) (.int .i64 v) (.string (strOf d)) (.int .i64 ta) (.int .i64 tb) (.int .i64 tc) (.int .i64 i)
   have e0:=(hp.cell 0).trans (show _=some (.string (strOf s)) from rfl)
   have e1:=(hp.cell 1).trans (show _=some (.int .i64 v) from rfl)
   have e2:=(hp.cell 2).trans (show _=some (.string (strOf d)) from rfl)
   have e3:=(hp.cell 3).trans (show _=some (.int .i64 ta) from rfl)
   have e4:=(hp.cell 4).trans (show _=some (.int .i64 tb) from rfl)
   have e5:=(hp.cell 5).trans (show _=some (.int .i64 tc) from rfl)
   have e6:=(hp.cell 6).trans (show _=some (.int .i64 i) from rfl)
   replace e0:=Lib.hid e0
   replace e1:=Lib.hid e1
   replace e2:=Lib.hid e2
   replace e3:=Lib.hid e3
   replace e4:=Lib.hid e4
   replace e5:=Lib.hid e5
   replace e6:=Lib.hid e6
   replace hp:=Lib.hid hp
   replace hs:=Lib.hid hs
   replace hZ:=Lib.hid hZ
   go_wp2_with fail
   have e0:=e0.out
   have e1:=e1.out
   have e2:=e2.out
   have e3:=e3.out
   have e4:=e4.out
   have e5:=e5.out
   have e6:=e6.out
   refine bodyPost_ret (v:=.agg #[.string (strOf s),.int .i64 v,.string (strOf d),.int .i64 ta,.int .i64 tb,.int .i64 tc,.int .i64 i]) (by simp [results,Tryz.results24,go_sem,e0,e1,e2,e3,e4,e5,e6]) rfl ?_
   exact ⟨⟨strOf s,v,strOf d,⟨ta,tb,tc⟩,i⟩,some l5,rfl,hp.out.rd,hp.out.but,gives_event g1.out g2.out g3.out g4.out g5.out (Gives.yes hok.out _)⟩
  | false =>
   have hne:evL ⟨strOf s,v,strOf d,⟨ta,tb,tc⟩,i⟩=[]:=evL_none hok
   rw [hne] at hen
   replace hok:=Lib.hid hok
   clear hne
   go_wp2_with fail
   refine hen.mono ?_
   clear hen
   rintro e w6 ⟨Ae,ce,rfl,hown,hg,hnil⟩
   clear qz q0 q1 q2 q3 q4 q5 q6 hown hnil
   replace hs:=hs.out.g hg
   clear hg
   have fz:=hs.s.rd.free 2
   have qz:_=some (Value.bool false):=hs.s.rd.c2
   replace hs:=hs.bad (by omega) hRw
   have hZ:EvSt _ _ _ _ _ _ w.heap.size _ #[.string ByteArray.empty,.int .i64 0,.string ByteArray.empty,.int .i64 0,.int .i64 0,.int .i64 0,.int .i64 0] _:=⟨hs.s.rd,hs.res,hs.s.but⟩
   have u0:=(hZ.cell 0).trans (show _=some (Value.string ByteArray.empty) from rfl)
   have u1:=(hZ.cell 1).trans (show _=some (Value.int .i64 0) from rfl)
   have u2:=(hZ.cell 2).trans (show _=some (Value.string ByteArray.empty) from rfl)
   have u3:=(hZ.cell 3).trans (show _=some (Value.int .i64 0) from rfl)
   have u4:=(hZ.cell 4).trans (show _=some (Value.int .i64 0) from rfl)
   have u5:=(hZ.cell 5).trans (show _=some (Value.int .i64 0) from rfl)
   have u6:=(hZ.cell 6).trans (show _=some (Value.int .i64 0) from rfl)
   have f0:=hZ.free 0
   have f1:=hZ.free 1
   have f2:=hZ.free 2
   have f3:=hZ.free 3
   have f4:=hZ.free 4
   have f5:=hZ.free 5
   have f6:=hZ.free 6
   have hp:=hs.done hRw (Nat.le_refl _) (.string ⟨#[]⟩) (.int .i64 0) (.string ⟨#[]⟩) (.int .i64 0) (.int .i64 0) (.int .i64 0) (.int .i64 0)
   have e0:=(hp.cell 0).trans (show _=some (.string ⟨#[]⟩) from rfl)
   have e1:=(hp.cell 1).trans (show _=some (.int .i64 0) from rfl)
   have e2:=(hp.cell 2).trans (show _=some (.string ⟨#[]⟩) from rfl)
   have e3:=(hp.cell 3).trans (show _=some (.int .i64 0) from rfl)
   have e4:=(hp.cell 4).trans (show _=some (.int .i64 0) from rfl)
   have e5:=(hp.cell 5).trans (show _=some (.int .i64 0) from rfl)
   have e6:=(hp.cell 6).trans (show _=some (.int .i64 0) from rfl)
   replace e0:=Lib.hid e0
   replace e1:=Lib.hid e1
   replace e2:=Lib.hid e2
   replace e3:=Lib.hid e3
   replace e4:=Lib.hid e4
   replace e5:=Lib.hid e5
   replace e6:=Lib.hid e6
   replace hp:=Lib.hid hp
   replace hs:=Lib.hid hs
   replace hZ:=Lib.hid hZ
   go_wp2_with fail
   have e0:=e0.out
   have e1:=e1.out
   have e2:=e2.out
   have e3:=e3.out
   have e4:=e4.out
   have e5:=e5.out
   have e6:=e6.out
   refine bodyPost_ret (v:=.agg #[.string ⟨#[]⟩,.int .i64 0,.string ⟨#[]⟩,.int .i64 0,.int .i64 0,.int .i64 0,.int .i64 0]) (by simp [results,Tryz.results24,go_sem,e0,e1,e2,e3,e4,e5,e6]) rfl ?_
   exact ⟨zEv,none,rfl,hp.out.rd,hp.out.but,gives_event g1.out g2.out g3.out g4.out g5.out (Gives.no hok.out _ _)⟩
end Go.Proofs.YtheogchkelmeeaaGreatDoor

/- Several texts in one: SmSt, Known. -/
import Derived.Test.YtheogchkelmeeaaGreatDoorM20MsgDecodes
import Derived.Test.YtheogchkelmeeaaGreatDoorM4MsgDecodes
import Derived.Test.YtheogchkelmeeaaGreatDoorM15MsgDecodes
/- How a reader of streams stands. No condition. -/
namespace Go.Proofs.YtheogchkelmeeaaGreatDoor
open Go.RowKit
theorem evs_elem:IsElem Tryz.prog 38 76 7 72 Ev.cells :=
 isElem_of (z:=.agg #[.string ByteArray.empty,.int .i64 0,.string ByteArray.empty,.int .i64 0,.int .i64 0,.int .i64 0,.int .i64 0]) Tryz.underlying38 (by kernel_rfl) rfl (by omega) Ev.cells_len (by intro x u hu;simp [Ev.cells] at hu;rcases hu with rfl | rfl | rfl | rfl | rfl | rfl | rfl <;> rfl)
theorem kns_elem:IsElem Tryz.prog 116 131 5 48 Kn.cells :=
 isElem_of (z:=.agg #[.string ByteArray.empty,.int .i64 0,.int .i64 0,.int .i64 0,.int .i64 0]) Tryz.underlying116 (by kernel_rfl) rfl (by omega) Kn.cells_len (by intro x u hu;simp [Kn.cells] at hu;rcases hu with rfl | rfl | rfl | rfl | rfl <;> rfl)
/-- A stream's rows, that the call made from base on. -/
structure SmOwn (base:Nat) (Ae:Option Addr) (ce:Nat) (es:List Ev) (Ak:Option Addr) (ck:Nat) (ks:List Kn) (w:World):Prop where
 evs:OwnL 76 7 Ev.cells w base (.slice Ae es.length ce) es
 kns:OwnL 131 5 Kn.cells w base (.slice Ak ks.length ck) ks
/-- How the reading of a stream stands: the reader lies at R, the stream at Z, the bytes below D. -/
structure SmSt (T:TypeId) (R Z D:Nat) (A:Option Addr) (c8:Nat) (l0:List UInt8) (w:World) (n:ByteArray) (Ae:Option Addr) (ce:Nat) (es:List Ev) (Ak:Option Addr) (ck:Nat) (ks:List Kn) (st:Option (List UInt8)) (wx:World):Prop where
 rd:RdS T R A c8 l0 st wx
 sl:Sl byteC 1 wx D A l0
 res:wx.heap[Z]?=some (.cells #[.string n,.slice Ae es.length ce,.slice Ak ks.length ck] 118 (0,0))
 own:SmOwn w.heap.size Ae ce es Ak ck ks wx
 but:But (fun k=>k=R) w wx
 dr:D≤R
 dw:D≤w.heap.size
 zw:w.heap.size≤Z
 ty:T≠76∧T≠131∧T≠118
/-- .. and within a key, whose block lies at X. -/
structure KnSt (T:TypeId) (R X:Nat) (A:Option Addr) (c8:Nat) (l0:List UInt8) (wa:World) (st:Option (List UInt8)) (cs:Array Value) (wx:World):Prop where
 rd:RdS T R A c8 l0 st wx
 blk:wx.heap[X]?=some (.cells cs 131 (0,0))
 but:But (fun k=>k=R) wa wx
 pl:X=wa.heap.size
 lt:R < X
section
variable {T : TypeId} {R Z X D base : Nat} {A : Option Addr} {c8 : Nat} {l0 : List UInt8} {w wa wx wy wz : World} {n : ByteArray} {Ae Ak : Option Addr} {ce ck : Nat} {es : List Ev} {ks : List Kn} {st st1 : Option (List UInt8)} {cs : Array Value}
theorem SmOwn.but {S:Nat→Prop} (h:SmOwn base Ae ce es Ak ck ks wx) (hb:But S wx wy) (hS:∀(k:Nat) (cs:Array Value) (t:TypeId),S k→wx.heap[k]?=some (.cells cs t (0,0))→t≠76∧t≠131):SmOwn base Ae ce es Ak ck ks wy :=
 ⟨h.evs.but' hb (fun k hk hs=>by obtain ⟨_,_,cs,h1⟩:=h.evs.blk hk;exact (hS k cs _ hs h1).1 rfl),h.kns.but' hb (fun k hk hs=>by obtain ⟨_,_,cs,h1⟩:=h.kns.blk hk;exact (hS k cs _ hs h1).2 rfl)⟩
theorem SmOwn.ins (h:SmOwn base Ae ce es Ak ck ks wx):SmIn wx wx.heap.size Ae Ak es ks:=⟨OwnL.self Ev.cells_len h.evs,OwnL.self Kn.cells_len h.kns⟩
theorem SmOwn.g (h:SmOwn base Ae ce es Ak ck ks wx) (hg:G wx wy):SmOwn base Ae ce es Ak ck ks wy:=⟨h.evs.g hg,h.kns.g hg⟩
theorem SmSt.rz (h:SmSt T R Z D A c8 l0 w n Ae ce es Ak ck ks st wx):R≠Z:=by
 rintro rfl
 exact h.ty.2.2 (h.rd.tyAt h.res).symm
theorem SmSt.call (h:SmSt T R Z D A c8 l0 w n Ae ce es Ak ck ks st wx) (hr:RdS T R A c8 l0 st1 wy) (hb:But (fun k=>k=R) wx wy):SmSt T R Z D A c8 l0 w n Ae ce es Ak ck ks st1 wy :=
 ⟨hr,h.sl.keep fun k o hk=>hb.cell (by have:=h.but.size;have:=h.dw;omega) (by have:=h.dr;omega),hb.blk h.res (fun e=>h.rz e.symm),h.own.but hb (fun k cs t e h1=>by
  subst e
  rw [h.rd.tyAt h1]
  exact ⟨h.ty.1,h.ty.2.1⟩),h.but.trans hb,h.dr,h.dw,h.zw,h.ty⟩
theorem SmSt.g (h:SmSt T R Z D A c8 l0 w n Ae ce es Ak ck ks st wx) (hg:G wx wy):SmSt T R Z D A c8 l0 w n Ae ce es Ak ck ks st wy:=h.call (h.rd.g hg) (.of_g hg)
/-- The stream's own block turns. -/
theorem SmSt.z (h:SmSt T R Z D A c8 l0 w n Ae ce es Ak ck ks st wx) {S:Nat→Prop} (hb:But S wx wy) (hS:∀k,S k→w.heap.size≤k∧k≠R) {n':ByteArray} {Ae' Ak':Option Addr} {ce' ck':Nat} {es':List Ev} {ks':List Kn} (hres:wy.heap[Z]?=some (.cells #[.string n',.slice Ae' es'.length ce',.slice Ak' ks'.length ck'] 118 (0,0))) (hp:SmOwn w.heap.size Ae' ce' es' Ak' ck' ks' wy):SmSt T R Z D A c8 l0 w n' Ae' ce' es' Ak' ck' ks' st wy:=by
 have hsl:Sl byteC 1 wy D A l0:=h.sl.keep fun k o hk=>hb.cell (by have:=h.but.size;have:=h.dw;omega) (fun e=>by have:=(hS k e).1;have:=h.dw;omega)
 exact ⟨h.rd.own hsl h.dr hb (fun e=>(hS R e).2 rfl),hsl,hres,hp,h.but.up hb (fun k e=>(hS k e).1),h.dr,h.dw,h.zw,h.ty⟩
theorem SmSt.name0 (h:SmSt T R Z D A c8 l0 w n Ae ce es Ak ck ks st wx) (n':ByteArray):SmSt T R Z D A c8 l0 w n' Ae ce es Ak ck ks st (wx.setCell ⟨Z,0,none⟩ (.string n')) :=
 h.z (but_set wx Z 0 _) (fun k e=>by subst e;exact ⟨h.zw,fun e=>h.rz e.symm⟩) (by rw [blk_put h.res];rfl) (h.own.but (but_set wx Z 0 _) (fun k cs t e h1=>by
  subst e
  rw [h.res] at h1
  cases h1
  decide))
theorem SmSt.free (h:SmSt T R Z D A c8 l0 w n Ae ce es Ak ck ks st wx) (o:Nat):wx.frozen? ⟨Z,o,none⟩=false:=by simp [World.frozen?,h.res]
theorem SmSt.c0 (h:SmSt T R Z D A c8 l0 w n Ae ce es Ak ck ks st wx):wx.cell? ⟨Z,0,none⟩=some (.string n):=by rw [blk_cell h.res];rfl
theorem SmSt.c1 (h:SmSt T R Z D A c8 l0 w n Ae ce es Ak ck ks st wx):wx.cell? ⟨Z,1,none⟩=some (.slice Ae es.length ce):=by rw [blk_cell h.res];rfl
theorem SmSt.c2 (h:SmSt T R Z D A c8 l0 w n Ae ce es Ak ck ks st wx):wx.cell? ⟨Z,2,none⟩=some (.slice Ak ks.length ck):=by rw [blk_cell h.res];rfl
/-- One more event. -/
theorem SmSt.pushE (h : SmSt T R Z D A c8 l0 w n Ae ce es Ak ck ks st wx) {es' : List Ev} {A' : Option Addr} {c' : Nat} (hown : OwnL 76 7 Ev.cells wz w.heap.size (.slice A' es'.length c') es') (hk : KeepT 76 w.heap.size wx wz) (hb : But (fun k => some k = (Value.slice Ae es.length ce).ownBlock) wx wz) :
  wz.frozen? ⟨Z,1,none⟩=false∧(∃u,wz.cell? ⟨Z,1,none⟩=some u)∧SmSt T R Z D A c8 l0 w n A' c' es' Ak ck ks st (wz.setCell ⟨Z,1,none⟩ (.slice A' es'.length c')):=by
 have hZ:=hk.blk (by decide) h.res
 have hS:∀k,some k=(Value.slice Ae es.length ce).ownBlock→w.heap.size≤k∧k≠R:=fun k e=>by
  obtain ⟨h1,_,cs,h2⟩:=h.own.evs.blk e.symm
  refine ⟨h1,?_⟩
  rintro rfl
  exact h.ty.1 (h.rd.tyAt h2).symm
 have hne:∀k cs t,k=Z→wz.heap[k]?=some (.cells cs t (0,0))→t≠76∧t≠131:=fun k cs t e h1=>by
  subst e
  rw [hZ] at h1
  cases h1
  decide
 have hps:SmOwn w.heap.size A' c' es' Ak ck ks wz:=⟨hown,h.own.kns.keepT hk (by decide)⟩
 refine ⟨by simp [World.frozen?,hZ],⟨_,blk_cell hZ 1⟩,?_⟩
 exact h.z (S:=fun k=>some k=(Value.slice Ae es.length ce).ownBlock∨k=Z) ((hb.mono fun _ _=>.inl).set (p:=⟨Z,1,none⟩) (.inr (.inr rfl)) _) (fun k e=>by
  rcases e with e | rfl
  ·exact hS k e
  ·exact ⟨h.zw,fun e=>h.rz e.symm⟩) (by rw [blk_put hZ];rfl) (hps.but (but_set wz Z 1 _) hne)
/-- One more key. -/
theorem SmSt.pushK (h : SmSt T R Z D A c8 l0 w n Ae ce es Ak ck ks st wx) {ks' : List Kn} {A' : Option Addr} {c' : Nat} (hown : OwnL 131 5 Kn.cells wz w.heap.size (.slice A' ks'.length c') ks') (hk : KeepT 131 w.heap.size wx wz) (hb : But (fun k => some k = (Value.slice Ak ks.length ck).ownBlock) wx wz) :
  wz.frozen? ⟨Z,2,none⟩=false∧(∃u,wz.cell? ⟨Z,2,none⟩=some u)∧SmSt T R Z D A c8 l0 w n Ae ce es A' c' ks' st (wz.setCell ⟨Z,2,none⟩ (.slice A' ks'.length c')):=by
 have hZ:=hk.blk (by decide) h.res
 have hS:∀k,some k=(Value.slice Ak ks.length ck).ownBlock→w.heap.size≤k∧k≠R:=fun k e=>by
  obtain ⟨h1,_,cs,h2⟩:=h.own.kns.blk e.symm
  refine ⟨h1,?_⟩
  rintro rfl
  exact h.ty.2.1 (h.rd.tyAt h2).symm
 have hne:∀k cs t,k=Z→wz.heap[k]?=some (.cells cs t (0,0))→t≠76∧t≠131:=fun k cs t e h1=>by
  subst e
  rw [hZ] at h1
  cases h1
  decide
 have hps:SmOwn w.heap.size Ae ce es A' c' ks' wz:=⟨h.own.evs.keepT hk (by decide),hown⟩
 refine ⟨by simp [World.frozen?,hZ],⟨_,blk_cell hZ 2⟩,?_⟩
 exact h.z (S:=fun k=>some k=(Value.slice Ak ks.length ck).ownBlock∨k=Z) ((hb.mono fun _ _=>.inl).set (p:=⟨Z,2,none⟩) (.inr (.inr rfl)) _) (fun k e=>by
  rcases e with e | rfl
  ·exact hS k e
  ·exact ⟨h.zw,fun e=>h.rz e.symm⟩) (by rw [blk_put hZ];rfl) (hps.but (but_set wz Z 2 _) hne)
theorem KnSt.call (h:KnSt T R X A c8 l0 wa st cs wx) (hr:RdS T R A c8 l0 st1 wy) (hb:But (fun k=>k=R) wx wy):KnSt T R X A c8 l0 wa st1 cs wy :=
 ⟨hr,hb.blk h.blk (fun e=>by have:=h.lt;omega),h.but.trans hb,h.pl,h.lt⟩
theorem KnSt.cell (h:KnSt T R X A c8 l0 wa st cs wx) (o:Nat):wx.cell? ⟨X,o,none⟩=cs[o]?:=blk_cell h.blk o
theorem KnSt.free (h:KnSt T R X A c8 l0 wa st cs wx) (o:Nat):wx.frozen? ⟨X,o,none⟩=false:=by simp [World.frozen?,h.blk]
theorem KnSt.as (h:KnSt T R X A c8 l0 wa st cs wx) {cs':Array Value} (he:cs=cs'):KnSt T R X A c8 l0 wa st cs' wx:=he ▸ h
theorem KnSt.begin {st:Option (List UInt8)} {s:ByteArray} (hr:RdS T R A c8 l0 st wa):KnSt T R wa.heap.size A c8 l0 wa st #[.string s,.int .i64 0,.int .i64 0,.int .i64 0,.int .i64 0] (wa.alloc (.cells #[.string s,.int .i64 0,.int .i64 0,.int .i64 0,.int .i64 0] 131)) :=
 ⟨hr.g (G.new _ _),blk_new _ _ _,.of_g (G.new _ _),rfl,hr.lt⟩
theorem KnSt.put (h:KnSt T R X A c8 l0 wa st cs wx) (o:Nat) (u:Value):KnSt T R X A c8 l0 wa st (cs.setIfInBounds o u) (wx.setCell ⟨X,o,none⟩ u) :=
 ⟨h.rd.but (but_set wx X o _) (fun k e=>by have:=h.lt;omega),blk_put h.blk o u,h.but.set (p:=⟨X,o,none⟩) (.inl (show wa.heap.size≤X from Nat.le_of_eq h.pl.symm)) _,h.pl,h.lt⟩
end
/-- What a decoder of streams answers. -/
def smT (l:List UInt8):Option (Sm × List UInt8)→Sm × Nat × Nat
 | some (x,r)=>(x,l.length - r.length,0)
 | none=>(⟨⟨#[]⟩,[],[]⟩,0,10)
def RetSm (w:World) (l:List UInt8) (e:Ending) (w':World):Prop :=
 ∃(nm:ByteArray) (Ae Ak:Option Addr) (ce ck:Nat) (es:List Ev) (ks:List Kn) (n c:Nat),e=.returned (.tuple #[.agg #[.string nm,.slice Ae es.length ce,.slice Ak ks.length ck],.int .i64 n,.int .i64 c])∧smT l (dStream l)=(⟨nm,es,ks⟩,n,c)∧SmSmall nm es ks∧SmOwn w.heap.size Ae ce es Ak ck ks w'∧G w w'
/-- How many are left. -/
def Left (l0:List UInt8) (n:Nat) (st:Option (List UInt8)):Prop:=n≤524289∧∀l,st=some l→n+l.length≤l0.length
theorem Left.step {α:Type} {d:Reader α} {l0 l:List UInt8} {n:Nat} {st:Option (List UInt8)} {x:α} (h:Left l0 n (some l)) (h0:l0.length≤524288) (hd:Eats d) (hg:Gives d (some l) st x):Left l0 (n+1) st:=by
 have:=h.2 l rfl
 refine ⟨by omega,fun l' e=>?_⟩
 subst e
 have:=hd _ _ _ hg.hit
 omega
theorem Left.start {l0:List UInt8} {st:Option (List UInt8)} (h:∀l,st=some l→l.length≤l0.length):Left l0 0 st:=⟨by omega,fun l e=>by have:=h l e;omega⟩
end Go.Proofs.YtheogchkelmeeaaGreatDoor
/- event.known: what it answers. Conditions: texts of at most 2^30 bytes; the decoder's tables lie as the library lays them. -/
namespace Go.Proofs.YtheogchkelmeeaaGreatDoor
open Go.RowKit
set_option maxRecDepth 100000 in
set_option maxHeartbeats 2000000 in
theorem known_any (key : ByteArray) (v x y z : Int) (w : World) (hs : key.size ≤ 1073741824) (hT : Tabs w) :
  Calls Tryz.prog 109 #[.agg #[.string key,.int .i64 v,.int .i64 x,.int .i64 y,.int .i64 z]] w fun e w'=>e=.returned (.bool (knOk ⟨key,v,⟨x,y,z⟩⟩))∧G w w':=by
 have hk:∀w',G w w'→Calls Tryz.prog 116 #[.string key] w' fun e w''=>e=.returned (.bool (keyB key))∧G w' w'':=fun w' hg=>key_any key w' (by omega) (hT.g hg)
 have ho:∀w',Calls Tryz.prog 102 #[.agg #[.int .i64 x,.int .i64 y,.int .i64 z]] w' fun e w''=>e=.returned (.bool (stOk ⟨x,y,z⟩))∧G w' w'':=fun w'=>sound_any x y z w'
 unfold knOk
 simp only
 clear hT
 cases h1:key.toList.isEmpty with
 | true =>
  go_enter Tryz.func109,Tryz.ntmps109
  go_wp2_with fail
  go_ret
  exact ⟨by simp,G.new _ _⟩
 | false =>
  cases h2:keyB key with
  | false =>
   rw [h2] at hk
   go_enter Tryz.func109,Tryz.ntmps109
   go_wp2_with fail
   generalize hW0:w.alloc (.cells #[.string key,.int .i64 v,.int .i64 x,.int .i64 y,.int .i64 z] 131)=W0
   have hz:w.heap.size+0 < W0.heap.size:=by rw [←hW0];simp
   have hG0:G w W0:=by rw [←hW0];exact G.new _ _
   have r0:W0.cell? ⟨w.heap.size,0,none⟩=some (.string key):=by rw [←hW0];simp
   have r1:W0.cell? ⟨w.heap.size,1,none⟩=some (.int .i64 v):=by rw [←hW0];simp
   have r2:W0.cell? ⟨w.heap.size,2,none⟩=some (.int .i64 x):=by rw [←hW0];simp
   have r3:W0.cell? ⟨w.heap.size,3,none⟩=some (.int .i64 y):=by rw [←hW0];simp
   have r4:W0.cell? ⟨w.heap.size,4,none⟩=some (.int .i64 z):=by rw [←hW0];simp
   clear hW0
   have q0:∀w',G W0 w'→w'.cell? ⟨w.heap.size,0,none⟩=some (.string key):=fun w' h=>(h.cell (by omega)).trans r0
   have q1:∀w',G W0 w'→w'.cell? ⟨w.heap.size,1,none⟩=some (.int .i64 v):=fun w' h=>(h.cell (by omega)).trans r1
   have q2:∀w',G W0 w'→w'.cell? ⟨w.heap.size,2,none⟩=some (.int .i64 x):=fun w' h=>(h.cell (by omega)).trans r2
   have q3:∀w',G W0 w'→w'.cell? ⟨w.heap.size,3,none⟩=some (.int .i64 y):=fun w' h=>(h.cell (by omega)).trans r3
   have q4:∀w',G W0 w'→w'.cell? ⟨w.heap.size,4,none⟩=some (.int .i64 z):=fun w' h=>(h.cell (by omega)).trans r4
   clear r0 r1 r2 r3 r4
   refine (hk W0 hG0).mono ?_
   rintro e w1 ⟨rfl,hg1⟩
   go_wp2_with fail
   go_ret
   exact ⟨by simp,hG0.trans hg1⟩
  | true =>
   rw [h2] at hk
   by_cases h3:1≤v
   case neg =>
    have t3:decide (1≤v)=false:=decide_eq_false h3
    go_enter Tryz.func109,Tryz.ntmps109
    go_wp2_with fail
    generalize hW0:w.alloc (.cells #[.string key,.int .i64 v,.int .i64 x,.int .i64 y,.int .i64 z] 131)=W0
    have hz:w.heap.size+0 < W0.heap.size:=by rw [←hW0];simp
    have hG0:G w W0:=by rw [←hW0];exact G.new _ _
    have r0:W0.cell? ⟨w.heap.size,0,none⟩=some (.string key):=by rw [←hW0];simp
    have r1:W0.cell? ⟨w.heap.size,1,none⟩=some (.int .i64 v):=by rw [←hW0];simp
    have r2:W0.cell? ⟨w.heap.size,2,none⟩=some (.int .i64 x):=by rw [←hW0];simp
    have r3:W0.cell? ⟨w.heap.size,3,none⟩=some (.int .i64 y):=by rw [←hW0];simp
    have r4:W0.cell? ⟨w.heap.size,4,none⟩=some (.int .i64 z):=by rw [←hW0];simp
    clear hW0
    have q0:∀w',G W0 w'→w'.cell? ⟨w.heap.size,0,none⟩=some (.string key):=fun w' h=>(h.cell (by omega)).trans r0
    have q1:∀w',G W0 w'→w'.cell? ⟨w.heap.size,1,none⟩=some (.int .i64 v):=fun w' h=>(h.cell (by omega)).trans r1
    have q2:∀w',G W0 w'→w'.cell? ⟨w.heap.size,2,none⟩=some (.int .i64 x):=fun w' h=>(h.cell (by omega)).trans r2
    have q3:∀w',G W0 w'→w'.cell? ⟨w.heap.size,3,none⟩=some (.int .i64 y):=fun w' h=>(h.cell (by omega)).trans r3
    have q4:∀w',G W0 w'→w'.cell? ⟨w.heap.size,4,none⟩=some (.int .i64 z):=fun w' h=>(h.cell (by omega)).trans r4
    clear r0 r1 r2 r3 r4
    refine (hk W0 hG0).mono ?_
    rintro e w1 ⟨rfl,hg1⟩
    have g1:=q1 w1 hg1
    go_wp2_with fail
    go_ret
    exact ⟨ret_bool (by rw [decide_eq_false (by omega)];rfl),hG0.trans hg1⟩
   by_cases h4:v≤1099511627776
   case neg =>
    have t4:decide (v≤1099511627776)=false:=decide_eq_false h4
    go_enter Tryz.func109,Tryz.ntmps109
    go_wp2_with fail
    generalize hW0:w.alloc (.cells #[.string key,.int .i64 v,.int .i64 x,.int .i64 y,.int .i64 z] 131)=W0
    have hz:w.heap.size+0 < W0.heap.size:=by rw [←hW0];simp
    have hG0:G w W0:=by rw [←hW0];exact G.new _ _
    have r0:W0.cell? ⟨w.heap.size,0,none⟩=some (.string key):=by rw [←hW0];simp
    have r1:W0.cell? ⟨w.heap.size,1,none⟩=some (.int .i64 v):=by rw [←hW0];simp
    have r2:W0.cell? ⟨w.heap.size,2,none⟩=some (.int .i64 x):=by rw [←hW0];simp
    have r3:W0.cell? ⟨w.heap.size,3,none⟩=some (.int .i64 y):=by rw [←hW0];simp
    have r4:W0.cell? ⟨w.heap.size,4,none⟩=some (.int .i64 z):=by rw [←hW0];simp
    clear hW0
    have q0:∀w',G W0 w'→w'.cell? ⟨w.heap.size,0,none⟩=some (.string key):=fun w' h=>(h.cell (by omega)).trans r0
    have q1:∀w',G W0 w'→w'.cell? ⟨w.heap.size,1,none⟩=some (.int .i64 v):=fun w' h=>(h.cell (by omega)).trans r1
    have q2:∀w',G W0 w'→w'.cell? ⟨w.heap.size,2,none⟩=some (.int .i64 x):=fun w' h=>(h.cell (by omega)).trans r2
    have q3:∀w',G W0 w'→w'.cell? ⟨w.heap.size,3,none⟩=some (.int .i64 y):=fun w' h=>(h.cell (by omega)).trans r3
    have q4:∀w',G W0 w'→w'.cell? ⟨w.heap.size,4,none⟩=some (.int .i64 z):=fun w' h=>(h.cell (by omega)).trans r4
    clear r0 r1 r2 r3 r4
    refine (hk W0 hG0).mono ?_
    rintro e w1 ⟨rfl,hg1⟩
    have g1:=q1 w1 hg1
    go_wp2_with fail
    go_ret
    exact ⟨ret_bool (by rw [decide_eq_false (by omega)];rfl),hG0.trans hg1⟩
   rw [show decide (1≤v∧v≤1099511627776)=true from decide_eq_true ⟨h3,h4⟩]
   generalize stOk ⟨x,y,z⟩=so at *
   go_enter Tryz.func109,Tryz.ntmps109
   go_wp2_with fail
   generalize hW0:w.alloc (.cells #[.string key,.int .i64 v,.int .i64 x,.int .i64 y,.int .i64 z] 131)=W0
   have hz:w.heap.size+0 < W0.heap.size:=by rw [←hW0];simp
   have hG0:G w W0:=by rw [←hW0];exact G.new _ _
   have r0:W0.cell? ⟨w.heap.size,0,none⟩=some (.string key):=by rw [←hW0];simp
   have r1:W0.cell? ⟨w.heap.size,1,none⟩=some (.int .i64 v):=by rw [←hW0];simp
   have r2:W0.cell? ⟨w.heap.size,2,none⟩=some (.int .i64 x):=by rw [←hW0];simp
   have r3:W0.cell? ⟨w.heap.size,3,none⟩=some (.int .i64 y):=by rw [←hW0];simp
   have r4:W0.cell? ⟨w.heap.size,4,none⟩=some (.int .i64 z):=by rw [←hW0];simp
   clear hW0
   have q0:∀w',G W0 w'→w'.cell? ⟨w.heap.size,0,none⟩=some (.string key):=fun w' h=>(h.cell (by omega)).trans r0
   have q1:∀w',G W0 w'→w'.cell? ⟨w.heap.size,1,none⟩=some (.int .i64 v):=fun w' h=>(h.cell (by omega)).trans r1
   have q2:∀w',G W0 w'→w'.cell? ⟨w.heap.size,2,none⟩=some (.int .i64 x):=fun w' h=>(h.cell (by omega)).trans r2
   have q3:∀w',G W0 w'→w'.cell? ⟨w.heap.size,3,none⟩=some (.int .i64 y):=fun w' h=>(h.cell (by omega)).trans r3
   have q4:∀w',G W0 w'→w'.cell? ⟨w.heap.size,4,none⟩=some (.int .i64 z):=fun w' h=>(h.cell (by omega)).trans r4
   clear r0 r1 r2 r3 r4
   refine (hk W0 hG0).mono ?_
   rintro e w1 ⟨rfl,hg1⟩
   have g1:=q1 w1 hg1
   have g2:=q2 w1 hg1
   have g3:=q3 w1 hg1
   have g4:=q4 w1 hg1
   go_wp2_with fail
   refine (ho w1).mono ?_
   rintro e w2 ⟨rfl,hg2⟩
   go_wp2_with fail
   go_ret
   exact ⟨by simp,(hG0.trans hg1).trans hg2⟩
end Go.Proofs.YtheogchkelmeeaaGreatDoor

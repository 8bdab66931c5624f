/- Several texts in one: DecSt, Load, SmLaw, SmRead. -/
import Derived.Test.YtheogchkelmeeaaGreatDoorM14MsgDecodes
import Derived.Test.YtheogchkelmeeaaGreatDoorBatEncQMsgDecodes
import Derived.Test.YtheogchkelmeeaaGreatDoorM2MsgDecodes
import Derived.Deep.MidRow
import Derived.Test.YtheogchkelmeeaaGreatDoorM15MsgDecodes
import Derived.Test.YtheogchkelmeeaaGreatDoorRdEventQMsgDecodes
/- How a reader of batches stands. No condition. -/
namespace Go.Proofs.YtheogchkelmeeaaGreatDoor
open Go.RowKit
theorem put_elem:IsElem Tryz.prog 29 110 3 48 PutM.cells :=
 isElem_of (z:=.agg #[.string ByteArray.empty,.int .i64 0,.slice none 0 0]) Tryz.underlying29 (by kernel_rfl) rfl (by omega) PutM.cells_len (by intro x u hu;simp [PutM.cells] at hu;rcases hu with rfl | rfl | rfl <;> rfl)
/-- A block of the call's own turns, that lies above the bytes. -/
theorem RdS.own {T:TypeId} {R D:Nat} {A:Option Addr} {c8:Nat} {l0:List UInt8} {st:Option (List UInt8)} {w w':World} {S:Nat→Prop} (h:RdS T R A c8 l0 st w) (hs:Sl byteC 1 w' D A l0) (hD:D≤R) (hb:But S w w') (hR:¬ S R):RdS T R A c8 l0 st w':=by
 obtain ⟨p,h1,h2,h3⟩:=h
 exact ⟨p,h1,h2,hb.blk h3.1 hR,hs.more hD⟩
/-- The puts of a batch, that the call made from base on. -/
structure PutsOwn (base:Nat) (Ap:Option Addr) (cp:Nat) (ms:List PutM) (w:World):Prop where
 row:OwnL 110 3 PutM.cells w base (.slice Ap ms.length cp) ms
 data:∀m ∈ ms,OwnL 9 1 strC w base (.slice m.A m.data.length m.c) m.data
/-- How the reading of a batch stands: the reader lies at R, the batch at Z, the bytes below D. -/
structure DecSt (T:TypeId) (R Z D:Nat) (A:Option Addr) (c8:Nat) (l0:List UInt8) (w:World) (key:ByteArray) (Ap:Option Addr) (cp:Nat) (ms:List PutM) (st:Option (List UInt8)) (wx:World):Prop where
 rd:RdS T R A c8 l0 st wx
 sl:Sl byteC 1 wx D A l0
 res:wx.heap[Z]?=some (.cells #[.string key,.slice Ap ms.length cp] 31 (0,0))
 puts:PutsOwn w.heap.size Ap cp ms wx
 but:But (fun k=>k=R) w wx
 dr:D≤R
 dw:D≤w.heap.size
 zw:w.heap.size≤Z
 ty:T≠110∧T≠9∧T≠31
/-- .. and within a put, whose block lies at X. -/
structure InSt (T:TypeId) (R X:Nat) (A:Option Addr) (c8:Nat) (l0:List UInt8) (wa:World) (s:ByteArray) (e:Int) (Ad:Option Addr) (cd:Nat) (ds:List ByteArray) (st:Option (List UInt8)) (wx:World):Prop where
 rd:RdS T R A c8 l0 st wx
 blk:wx.heap[X]?=some (.cells #[.string s,.int .i64 e,.slice Ad ds.length cd] 110 (0,0))
 row:OwnL 9 1 strC wx X (.slice Ad ds.length cd) ds
 but:But (fun k=>k=R) wa wx
 pl:X=wa.heap.size
 lt:R < X
 ty:T≠9
section
variable {T : TypeId} {R Z X D base : Nat} {A : Option Addr} {c8 : Nat} {l0 : List UInt8} {w wa wx wy wz : World} {key s : ByteArray} {e : Int} {Ap Ad : Option Addr} {cp cd : Nat} {ms : List PutM} {ds : List ByteArray} {st st1 : Option (List UInt8)}
theorem PutsOwn.but {S:Nat→Prop} (h:PutsOwn base Ap cp ms wx) (hb:But S wx wy) (hS:∀(k:Nat) (cs:Array Value) (t:TypeId),S k→wx.heap[k]?=some (.cells cs t (0,0))→t≠110∧t≠9):PutsOwn base Ap cp ms wy :=
 ⟨h.row.but' hb (fun k hk hs=>by obtain ⟨_,_,cs,h1⟩:=h.row.blk hk;exact (hS k cs _ hs h1).1 rfl),fun m hm=>(h.data m hm).but' hb (fun k hk hs=>by obtain ⟨_,_,cs,h1⟩:=(h.data m hm).blk hk;exact (hS k cs _ hs h1).2 rfl)⟩
theorem PutsOwn.ins (h:PutsOwn base Ap cp ms wx):PutsIn wx wx.heap.size Ap ms:=⟨OwnL.self PutM.cells_len h.row,fun m hm=>OwnL.self strC_len (h.data m hm)⟩
/-- A block above what a other world held turns too. -/
theorem But.up {S S':Nat→Prop} {a b c:World} (h:But S a b) (k:But S' b c) (hS:∀k,S' k→a.heap.size≤k):But S a c :=
 ⟨k.os.trans h.os,k.tape.trans h.tape,k.output.trans h.output,Nat.le_trans h.size k.size,fun i hi hn=>(k.block i (Nat.lt_of_lt_of_le hi h.size) (fun e=>by have:=hS i e;omega)).trans (h.block i hi hn)⟩
theorem RdS.tyAt (h:RdS T R A c8 l0 st wx) {cs:Array Value} {t:TypeId} (h1:wx.heap[R]?=some (.cells cs t (0,0))):t=T:=by
 obtain ⟨cs',h2⟩:=h.blk
 rw [h1] at h2
 cases h2
 rfl
theorem RdS.sl (h:RdS T R A c8 l0 st wx):Sl byteC 1 wx R A l0:=by
 obtain ⟨p,h1,h2,h3⟩:=h
 exact h3.2
theorem DecSt.sizes (h:DecSt T R Z D A c8 l0 w key Ap cp ms st wx):w.heap.size≤wx.heap.size:=h.but.size
theorem DecSt.rz (h:DecSt T R Z D A c8 l0 w key Ap cp ms st wx):R≠Z:=by
 rintro rfl
 exact h.ty.2.2 (h.rd.tyAt h.res).symm
theorem DecSt.call (h:DecSt T R Z D A c8 l0 w key Ap cp ms st wx) (hr:RdS T R A c8 l0 st1 wy) (hb:But (fun k=>k=R) wx wy):DecSt T R Z D A c8 l0 w key Ap cp ms st1 wy :=
 ⟨hr,h.sl.keep fun k o hk=>hb.cell (by have:=h.but.size;have:=h.dw;omega) (by have:=h.dr;omega),hb.blk h.res (fun e=>h.rz e.symm),h.puts.but hb (fun k cs t e h1=>by
  subst e
  rw [h.rd.tyAt h1]
  exact ⟨h.ty.1,h.ty.2.1⟩),h.but.trans hb,h.dr,h.dw,h.zw,h.ty⟩
theorem DecSt.g (h:DecSt T R Z D A c8 l0 w key Ap cp ms st wx) (hg:G wx wy):DecSt T R Z D A c8 l0 w key Ap cp ms st wy:=h.call (h.rd.g hg) (.of_g hg)
/-- The batch's own block turns. -/
theorem DecSt.z (h:DecSt T R Z D A c8 l0 w key Ap cp ms st wx) {S:Nat→Prop} (hb:But S wx wy) (hS:∀k,S k→w.heap.size≤k∧k≠R) {key':ByteArray} {Ap':Option Addr} {cp':Nat} {ms':List PutM} (hres:wy.heap[Z]?=some (.cells #[.string key',.slice Ap' ms'.length cp'] 31 (0,0))) (hp:PutsOwn w.heap.size Ap' cp' ms' wy):DecSt T R Z D A c8 l0 w key' Ap' cp' ms' st wy:=by
 have hsl:Sl byteC 1 wy D A l0:=h.sl.keep fun k o hk=>hb.cell (by have:=h.but.size;have:=h.dw;omega) (fun e=>by have:=(hS k e).1;have:=h.dw;omega)
 exact ⟨h.rd.own hsl h.dr hb (fun e=>(hS R e).2 rfl),hsl,hres,hp,h.but.up hb (fun k e=>(hS k e).1),h.dr,h.dw,h.zw,h.ty⟩
theorem DecSt.key0 (h:DecSt T R Z D A c8 l0 w key Ap cp ms st wx) (key':ByteArray):DecSt T R Z D A c8 l0 w key' Ap cp ms st (wx.setCell ⟨Z,0,none⟩ (.string key')) :=
 h.z (but_set wx Z 0 _) (fun k e=>by subst e;exact ⟨h.zw,fun e=>h.rz e.symm⟩) (by rw [blk_put h.res];rfl) (h.puts.but (but_set wx Z 0 _) (fun k cs t e h1=>by
  subst e
  rw [h.res] at h1
  cases h1
  decide))
theorem InSt.call (h:InSt T R X A c8 l0 wa s e Ad cd ds st wx) (hr:RdS T R A c8 l0 st1 wy) (hb:But (fun k=>k=R) wx wy):InSt T R X A c8 l0 wa s e Ad cd ds st1 wy :=
 ⟨hr,hb.blk h.blk (fun e=>by have:=h.lt;omega),h.row.but' hb (fun k hk e=>by have:=(h.row.blk hk).1;have:=h.lt;omega),h.but.trans hb,h.pl,h.lt,h.ty⟩
theorem InSt.g (h:InSt T R X A c8 l0 wa s e Ad cd ds st wx) (hg:G wx wy):InSt T R X A c8 l0 wa s e Ad cd ds st wy:=h.call (h.rd.g hg) (.of_g hg)
theorem InSt.cell (h:InSt T R X A c8 l0 wa s e Ad cd ds st wx):wx.cell? ⟨X,2,none⟩=some (.slice Ad ds.length cd):=by rw [blk_cell h.blk];rfl
theorem InSt.free (h:InSt T R X A c8 l0 wa s e Ad cd ds st wx) (o:Nat):wx.frozen? ⟨X,o,none⟩=false:=by simp [World.frozen?,h.blk]
theorem InSt.begin {st:Option (List UInt8)} (hr:RdS T R A c8 l0 st wa) (hT:T≠9):InSt T R wa.heap.size A c8 l0 wa s 0 none 0 [] st (wa.alloc (.cells #[.string s,.int .i64 0,.slice none 0 0] 110)) :=
 ⟨hr.g (G.new _ _),blk_new _ _ _,OwnL.nil,.of_g (G.new _ _),rfl,hr.lt,hT⟩
theorem InSt.expect (h:InSt T R X A c8 l0 wa s e Ad cd ds st wx) (e':Int):InSt T R X A c8 l0 wa s e' Ad cd ds st (wx.setCell ⟨X,1,none⟩ (.int .i64 e')) :=
 ⟨h.rd.but (but_set wx X 1 _) (fun k e=>by have:=h.lt;omega),by rw [blk_put h.blk];rfl,h.row.but' (but_set wx X 1 _) (fun k hk e=>by
  subst e
  obtain ⟨_,_,cs,h1⟩:=h.row.blk hk
  rw [h.blk] at h1
  cases h1),h.but.set (p:=⟨X,1,none⟩) (.inl (show wa.heap.size≤X from Nat.le_of_eq h.pl.symm)) _,h.pl,h.lt,h.ty⟩
theorem DecSt.free (h:DecSt T R Z D A c8 l0 w key Ap cp ms st wx) (o:Nat):wx.frozen? ⟨Z,o,none⟩=false:=by simp [World.frozen?,h.res]
theorem DecSt.c0 (h:DecSt T R Z D A c8 l0 w key Ap cp ms st wx):wx.cell? ⟨Z,0,none⟩=some (.string key):=by rw [blk_cell h.res];rfl
theorem DecSt.c1 (h:DecSt T R Z D A c8 l0 w key Ap cp ms st wx):wx.cell? ⟨Z,1,none⟩=some (.slice Ap ms.length cp):=by rw [blk_cell h.res];rfl
theorem InSt.c0 (h:InSt T R X A c8 l0 wa s e Ad cd ds st wx):wx.cell? ⟨X,0,none⟩=some (.string s):=by rw [blk_cell h.blk];rfl
theorem InSt.c1 (h:InSt T R X A c8 l0 wa s e Ad cd ds st wx):wx.cell? ⟨X,1,none⟩=some (.int .i64 e):=by rw [blk_cell h.blk];rfl
/-- One more text behind the row of texts, and into the put's block. -/
theorem InSt.push (h : InSt T R X A c8 l0 wa s e Ad cd ds st wx) {ds' : List ByteArray} {A' : Option Addr} {c' : Nat} (hown : OwnL 9 1 strC wz X (.slice A' ds'.length c') ds') (hk : KeepT 9 X wx wz) : 
  wz.cell? ⟨X,2,none⟩=some (.slice Ad ds.length cd)∧wz.frozen? ⟨X,2,none⟩=false∧InSt T R X A c8 l0 wa s e A' c' ds' st (wz.setCell ⟨X,2,none⟩ (.slice A' ds'.length c')):=by
 have hX:=hk.blk (by decide) h.blk
 have hbt:But (fun k=>X≤k) wx wz:=⟨hk.1.os,hk.1.tape,hk.1.output,hk.1.size,fun k hk1 hk2=>hk.1.block k (by omega)⟩
 refine ⟨by rw [blk_cell hX];rfl,by simp [World.frozen?,hX],(h.rd.but hbt (fun k e=>by have:=h.lt;omega)).but (but_set wz X 2 _) (fun k e=>by have:=h.lt;omega),by rw [blk_put hX];rfl,hown.but' (but_set wz X 2 _) (fun k hk2 e=>?_),(h.but.up hbt (fun k e=>by have:=h.pl;omega)).set (p:=⟨X,2,none⟩) (.inl (show wa.heap.size≤X from Nat.le_of_eq h.pl.symm)) _,h.pl,h.lt,h.ty⟩
 subst e
 obtain ⟨_,_,cs,h1⟩:=hown.blk hk2
 rw [hX] at h1
 cases h1
/-- One more put. -/
theorem DecSt.push (h : DecSt T R Z D A c8 l0 w key Ap cp ms st wx) {m : PutM} {ms' : List PutM} {A' : Option Addr} {c' : Nat} (hms : Hid (ms ++ [m] = ms')) (hd : OwnL 9 1 strC wx w.heap.size (.slice m.A m.data.length m.c) m.data) (hown : OwnL 110 3 PutM.cells wz w.heap.size (.slice A' ms'.length c') ms') (hk : KeepT 110 w.heap.size wx wz) (hb : But (fun k => some k = (Value.slice Ap ms.length cp).ownBlock) wx wz) :
  wz.frozen? ⟨Z,1,none⟩=false∧(∃u,wz.cell? ⟨Z,1,none⟩=some u)∧DecSt T R Z D A c8 l0 w key A' c' ms' st (wz.setCell ⟨Z,1,none⟩ (.slice A' ms'.length c')):=by
 have hZ:=hk.blk (by decide) h.res
 have hS:∀k,some k=(Value.slice Ap ms.length cp).ownBlock→w.heap.size≤k∧k≠R:=fun k e=>by
  obtain ⟨h1,_,cs,h2⟩:=h.puts.row.blk e.symm
  refine ⟨h1,?_⟩
  rintro rfl
  exact h.ty.1 (h.rd.tyAt h2).symm
 have hne:∀k cs t,k=Z→wz.heap[k]?=some (.cells cs t (0,0))→t≠110∧t≠9:=fun k cs t e h1=>by
  subst e
  rw [hZ] at h1
  cases h1
  decide
 have hps:PutsOwn w.heap.size A' c' ms' wz:=⟨hown,fun x hx=>by
  rw [←hms.out,List.mem_append,List.mem_singleton] at hx
  rcases hx with hx | rfl
  ·exact (h.puts.data x hx).keepT hk (by decide)
  ·exact hd.keepT hk (by decide)⟩
 refine ⟨by simp [World.frozen?,hZ],⟨_,blk_cell hZ 1⟩,?_⟩
 exact h.z (S:=fun k=>some k=(Value.slice Ap ms.length cp).ownBlock∨k=Z) ((hb.mono fun _ _=>.inl).set (p:=⟨Z,1,none⟩) (.inr (.inr rfl)) _) (fun k e=>by
  rcases e with e | rfl
  ·exact hS k e
  ·exact ⟨h.zw,fun e=>h.rz e.symm⟩) (by rw [blk_put hZ];rfl) (hps.but (but_set wz Z 1 _) hne)
end
/-- The rest of a list read behind what was read. -/
def More {α:Type} (d:Reader α) (n k:Nat) (st0 st:Option (List UInt8)) (xs:List α):Prop:=∀(st':Option (List UInt8)) (ys:List α),Gives (dMany d k) st st' ys→Gives (dMany d n) st0 st' (xs++ys)
theorem More.start {α:Type} (d:Reader α) (n:Nat) (st:Option (List UInt8)):More d n n st st []:=fun _ _ h=>h
theorem More.step {α:Type} {d:Reader α} {n k:Nat} {st0 st st1:Option (List UInt8)} {xs:List α} {x:α} (h:More d n (k+1) st0 st xs) (hx:Gives d st st1 x):More d n k st0 st1 (xs++[x]):=fun st' ys hy=>by
 rw [List.append_assoc]
 exact h st' ([x]++ys) (hx.many hy)
theorem More.end {α:Type} {d:Reader α} {n k:Nat} {st0 st:Option (List UInt8)} {xs:List α} (h:More d n k st0 st xs) (hk:k=0∨st=none):Gives (dMany d n) st0 st xs:=by
 rcases hk with rfl | rfl
 ·have:=h st [] Gives.many0
  rwa [List.append_nil] at this
 ·have:=h none [] (Gives.bad _)
  rwa [List.append_nil] at this
theorem gv_bound {α:Type} {z x:α} {d:Reader α} {P:α→Prop} {st st1:Option (List UInt8)} (h:gv z d st=(x,st1)) (hz:P z) (hd:∀l y r,d l=some (y,r)→P y):P x:=by
 cases st with
 | none=>cases h;exact hz
 | some l =>
  cases hc:d l with
  | none=>rw [gv_none hc] at h;cases h;exact hz
  | some p =>
   obtain ⟨a,r⟩:=p
   rw [gv_some hc] at h
   cases h
   exact hd _ _ _ hc
theorem dNum_bd {l r:List UInt8} {v:Nat} (h:dNum l=some (v,r)):v < 2 ^ 64:=by
 unfold dNum at h
 cases hu:uL l with
 | none=>rw [hu] at h;cases h
 | some y =>
  obtain ⟨v',n⟩:=y
  rw [hu] at h
  simp only [Option.some.injEq,Prod.mk.injEq] at h
  rw [←h.1]
  exact (uL_bd hu).2.2.2
theorem PutsOwn.mono {base base':Nat} {Ap:Option Addr} {cp:Nat} {ms:List PutM} {w:World} (h:PutsOwn base Ap cp ms w) (hb:base'≤base):PutsOwn base' Ap cp ms w:=⟨h.row.mono hb,fun m hm=>(h.data m hm).mono hb⟩
end Go.Proofs.YtheogchkelmeeaaGreatDoor
/- A struct that is a block of its own is loaded whole. No condition. -/
namespace Go.Proofs.YtheogchkelmeeaaGreatDoor
open Go.RowKit
theorem load_blk {P : Program} {W : World} {b : Nat} {cs : Array Value} {t T : TypeId} {fz : Nat × Nat} {d : TypeDesc} (h : W.heap[b]? = some (.cells cs t fz)) (hu : P.underlying T = some d) (hd : d.isRow = true) (hi : (P.info? T).map (·.size) = some cs.size) :
  (Instr.loadAt T (.pointer (some ⟨b,0,none⟩))).run P W=.ok (.agg cs) W:=by
 have:=run_loadAt_mid (P:=P) W b 0 T cs.toList d (fun j v hv=>by rw [Nat.zero_add,blk_cell h];simpa using hv) hu hd (by simpa using hi)
 simpa using this
/-- The operation, by what the load answers: an arm of the walk's. -/
theorem wp_load_at {P : Program} {op : Oper} {a : Act} {w : World} {K : Act → World → Prop} {Q : Exit → Act → World → Prop} {ty : TypeId} {x : Operand} (ho : op.op = .load ty x) {p v : Value} (hx : a.eval x = p) (hl : (Instr.loadAt ty p).run P w = .ok v w)
  (h:K (a.put op.dst v) w):op.wp P a w K Q:=by
 unfold Oper.wp execOp
 simp only [ho,hx,Sem.run_bind,Sem.run_pure,Result.andThen_ok,hl]
 exact h
/-- The same, at a list of operations: guarded or not. -/
theorem wpList_load_at {P : Program} {ops : Array Oper} {rest : List Oper} {op : Oper} {a : Act} {w : World} {Q : Exit → Act → World → Prop} {ty : TypeId} {x : Operand} (ho : op.op = .load ty x) (hg : Region.wanted op (yielded ops a.tmps) = true) {p v : Value} (hx : a.eval x = p)
  (hl:(Instr.loadAt ty p).run P w=.ok v w) (h:wpList P ops Q rest (a.put op.dst v) w):wpList P ops Q (op::rest) a w :=
 wpList_step fun K hK=>by
  rw [if_pos hg]
  exact wp_load_at ho hx hl (hK _ _ h)
theorem setCells_stc (b:Nat):∀(vs:List Value) (o:Nat) (w:World),w.setCells b o vs=stc w b o vs
 | [],_,_=>rfl
 | v::r,o,w=>setCells_stc b r (o+1) (w.setCell ⟨b,o,none⟩ v)
/-- A struct is laid whole into a block of its own. -/
theorem store_blk {P : Program} {W : World} {b : Nat} {old cs : Array Value} {t T : TypeId} (h : W.heap[b]? = some (.cells old t (0, 0))) (hz : old.size = cs.size) (hi : (P.info? T).map (·.size) = some cs.size) (h1 : cs.all (·.oneCell') = true) :
  ∃W',(Instr.storeAt T (.pointer (some ⟨b,0,none⟩)) (.agg cs)).run P W=.ok () W'∧W'.heap[b]?=some (.cells cs t (0,0))∧But (fun k=>k=b) W W'∧∀w0,G w0 W→w0.heap.size≤b→G w0 W':=by
 refine ⟨_,run_storeAt_mid (P:=P) W b 0 T cs (fun j hj=>?_) hi h1,?_,?_,?_⟩
 ·rw [Nat.zero_add,blk_cell h]
  refine ⟨?_,by simp [World.frozen?,h]⟩
  rw [Array.getElem?_eq_getElem (by omega)]
  rfl
 ·rw [setCells_stc,stc_blk cs.toList h (by simpa using hz)]
 ·rw [setCells_stc]
  exact stc_but (fun k=>k=b) b rfl cs.toList W W 0 (But.refl _ _)
 ·intro w0 hg hb
  rw [setCells_stc]
  exact G.stc cs.toList hg hb
theorem wp_store_at {P : Program} {op : Oper} {a : Act} {w w' : World} {K : Act → World → Prop} {Q : Exit → Act → World → Prop} {ty : TypeId} {x y : Operand} (ho : op.op = .store ty x y) {p v : Value} (hx : a.eval x = p) (hy : a.eval y = v) (hl : (Instr.storeAt ty p v).run P w = .ok () w')
  (h:K (a.put op.dst undef) w'):op.wp P a w K Q:=by
 unfold Oper.wp execOp
 simp only [ho,hx,hy,Sem.run_bind,Sem.run_pure,Result.andThen_ok,hl]
 exact h
theorem wpList_store_at {P : Program} {ops : Array Oper} {rest : List Oper} {op : Oper} {a : Act} {w w' : World} {Q : Exit → Act → World → Prop} {ty : TypeId} {x y : Operand} (ho : op.op = .store ty x y) (hg : Region.wanted op (yielded ops a.tmps) = true) {p v : Value} (hx : a.eval x = p) (hy : a.eval y = v)
  (hl:(Instr.storeAt ty p v).run P w=.ok () w') (h:wpList P ops Q rest (a.put op.dst undef) w'):wpList P ops Q (op::rest) a w :=
 wpList_step fun K hK=>by
  rw [if_pos hg]
  exact wp_store_at ho hx hy hl (hK _ _ h)
/-- A struct result that is a block of its own. -/
theorem results_cell {P : Program} {fn : Func} {tmps : Array Value} {W : World} {i b : Nat} {cs : Array Value} {t T : TypeId} {fz : Nat × Nat} {d : TypeDesc} (hr : fn.results = #[.cell i T]) (hp : tmps.getD i undef = .pointer (some ⟨b, 0, none⟩)) (h : W.heap[b]? = some (.cells cs t fz)) (hu : P.underlying T = some d) (hd : d.isRow = true) (hi : (P.info? T).map (·.size) = some cs.size) :
  (results fn tmps).run P W=.ok (.agg cs) W:=by
 have h2:=run_loadVar_mid (P:=P) W b 0 T cs.toList d (fun j v hv=>by rw [Nat.zero_add,blk_cell h];simpa using hv) hu hd (by simpa using hi)
 have h3:(asAddr (tmps.getD i undef)).run P W=.ok ⟨b,0,none⟩ W:=by rw [hp];rfl
 have h4:(tmps[i]?.getD undef)=tmps.getD i undef:=by simp [Array.getD_eq_getD_getElem?]
 unfold results
 rw [hr]
 simp only [List.mapM_toArray,List.mapM_cons,List.mapM_nil,Sem.run_bind,Sem.run_pure,Functor.map]
 have h5:∀(m:Sem (List Value)) (w1:World),(m.bind (Sem.pure ∘ List.toArray)).run P w1=(m.run P w1).andThen fun a w'=>.ok a.toArray w':=fun m w1=>by
  show (m >>= fun a=>pure a.toArray).run P w1=_
  simp only [Sem.run_bind,Sem.run_pure]
 rw [h5]
 simp only [Sem.run_bind,Sem.run_pure,Result.andThen_ok,h3,h2]
 rfl
end Go.Proofs.YtheogchkelmeeaaGreatDoor
/- Streams: how they lie, their sizes; what is written of them. Plain mathematics. No condition. -/
namespace Go.Proofs.YtheogchkelmeeaaGreatDoor
open Go.RowKit
/-- A stream's events and keys as they lie. -/
def SmIn (w:World) (B:Nat) (A A2:Option Addr) (es:List Ev) (ks:List Kn):Prop:=Sl Ev.cells 7 w B A es∧Sl Kn.cells 5 w B A2 ks
theorem SmIn.g {w w':World} {B:Nat} {A A2:Option Addr} {es:List Ev} {ks:List Kn} (h:SmIn w B A A2 es ks) (hB:B≤w.heap.size) (hg:G w w'):SmIn w' B A A2 es ks:=⟨h.1.g hB hg,h.2.g hB hg⟩
theorem SmIn.more {w:World} {B B':Nat} {A A2:Option Addr} {es:List Ev} {ks:List Kn} (h:SmIn w B A A2 es ks) (hB:B≤B'):SmIn w B' A A2 es ks:=⟨h.1.more hB,h.2.more hB⟩
/-- A stream that is not too great. -/
def SmSmall (n:ByteArray) (es:List Ev) (ks:List Kn):Prop:=n.size≤524288∧(es.length≤524289∧∀e ∈ es,e.stream.size≤524288∧e.data.size≤524288)∧ks.length≤524289∧∀k ∈ ks,k.key.size≤524288
theorem text_len (s:ByteArray):(textL s.data.toList).length≤s.size+10:=by
 unfold textL
 rw [List.length_append,data_len]
 have:=vL_len s.size
 omega
theorem st_len (s:St):(stL s).length≤30:=by
 unfold stL
 simp only [List.length_append]
 have:=vL_len s.wall.toNat
 have:=vL_len s.logic.toNat
 have:=vL_len s.node.toNat
 omega
theorem evL_len (e:Ev):(evL e).length≤e.stream.size+e.data.size+80:=by
 unfold evL
 split
 ·unfold evBytes
  simp only [List.length_append]
  have:=text_len e.stream
  have:=text_len e.data
  have:=vL_len e.version.toNat
  have:=vL_len e.index.toNat
  have:=st_len e.st
  omega
 ·simp
/-- A stream's head: its name, how many events. -/
def smHead (n:ByteArray) (k:Nat):List UInt8:=textL n.data.toList++vL k
theorem smL_bad {n:ByteArray} {es:List Ev} {ks:List Kn} (h:nameB n=false∨(∃e ∈ es,smEv n e=false)∨∃k ∈ ks,knOk k=false):smL ⟨n,es,ks⟩=[]:=by
 refine smL_no ?_
 cases hs:smOk ⟨n,es,ks⟩ with
 | false=>rfl
 | true =>
  rw [smOk_iff] at hs
  simp only at hs
  rcases h with h | ⟨e,he,h⟩ | ⟨k,hk,h⟩
  ·rw [hs.1] at h;cases h
  ·have:=hs.2.1 e he
   unfold smEv at h
   rw [this.1,decide_eq_true this.2] at h
   cases h
  ·have:=hs.2.2 k hk
   rw [this] at h
   cases h
theorem smL_all {n:ByteArray} {es:List Ev} {ks:List Kn} (h1:nameB n=true) (h2:∀e ∈ es,smEv n e=true) (h3:∀k ∈ ks,knOk k=true):smL ⟨n,es,ks⟩=((smHead n es.length++es.flatMap evL)++vL ks.length)++ks.flatMap knBytes∧smL ⟨n,es,ks⟩≠[]:=by
 have hs:smOk ⟨n,es,ks⟩=true:=by
  unfold smOk
  simp only [Bool.and_eq_true,List.all_eq_true]
  exact ⟨⟨h1,h2⟩,h3⟩
 constructor
 ·rw [smL_ok hs]
  unfold smBytes smHead
  simp only [List.append_assoc]
 ·rw [smL_ok hs]
  intro h
  have:=smBytes_pos ⟨n,es,ks⟩
  rw [h] at this
  simp at this
theorem flatLe {α:Type} (f:α→List UInt8) (M:Nat):∀(l:List α),(∀x ∈ l,(f x).length≤M)→(l.flatMap f).length≤l.length * M
 | [],_=>by simp
 | x::l,h=>by
  have h1:=flatLe f M l fun y hy=>h y (by simp [hy])
  have h2:=h x (by simp)
  rw [List.flatMap_cons,List.length_append,List.length_cons,Nat.succ_mul]
  omega
end Go.Proofs.YtheogchkelmeeaaGreatDoor
/- What a reader of streams gives: bounds. Plain mathematics, no program. No condition. -/
namespace Go.Proofs.YtheogchkelmeeaaGreatDoor
open Go.RowKit
theorem dMany_all {α:Type} {d:Reader α} {P:α→Prop} {L:Nat} (hless:Less d) (hd:∀l x r,l.length≤L→d l=some (x,r)→P x):∀(n:Nat) (l:List UInt8) (xs:List α) (r:List UInt8),l.length≤L→dMany d n l=some (xs,r)→∀x ∈ xs,P x
 | 0,l,xs,r,_,h=>by
  unfold dMany at h
  obtain ⟨rfl,_⟩:=rp_inv h
  intro x hx
  cases hx
 | n+1,l,xs,r,hl,h=>by
  unfold dMany at h
  obtain ⟨y,l1,h1,h⟩:=rb_inv h
  obtain ⟨ys,l2,h2,h⟩:=rb_inv h
  obtain ⟨rfl,_⟩:=rp_inv h
  have:=hless _ _ _ h1
  intro x hx
  rcases List.mem_cons.1 hx with rfl | hx
  ·exact hd _ _ _ hl h1
  ·exact dMany_all hless hd n l1 ys l2 (by omega) h2 x hx
theorem dEvent_small {L:Nat} {l r:List UInt8} {e:Ev} (hl:l.length≤L) (h:dEvent l=some (e,r)):e.stream.size≤L∧e.data.size≤L:=by
 unfold dEvent at h
 obtain ⟨s,l1,h1,h⟩:=rb_inv h
 obtain ⟨v,l2,h2,h⟩:=rb_inv h
 obtain ⟨d,l3,h3,h⟩:=rb_inv h
 obtain ⟨t,l4,h4,h⟩:=rb_inv h
 obtain ⟨i,l5,h5,h⟩:=rb_inv h
 obtain ⟨_,h6,_⟩:=rif_inv h
 have b1:=dText_len h1
 have b3:=dText_len h3
 have e1:=eats_text _ _ _ h1
 have e2:=eats_count _ _ _ _ h2
 rw [←h6]
 simp only [strOf_size]
 omega
theorem dKnown_small {L:Nat} {l r:List UInt8} {k:Kn} (hl:l.length≤L) (h:dKnown l=some (k,r)):k.key.size≤L:=by
 unfold dKnown at h
 obtain ⟨s,l1,h1,h⟩:=rb_inv h
 obtain ⟨v,l2,h2,h⟩:=rb_inv h
 obtain ⟨t,l3,h3,h⟩:=rb_inv h
 obtain ⟨h6,_⟩:=rp_inv h
 have b1:=dText_len h1
 rw [←h6]
 simp only [strOf_size]
 omega
/-- What was read is small. -/
theorem small_gives {st0:Option (List UInt8)} {s:List UInt8} {N M:Nat} {d2 d4:Reader Nat} {es:List Ev} {ks:List Kn} {st1 st2 st3 st4:Option (List UInt8)} {r:List UInt8} (hl:∀l,st0=some l→l.length≤524288) (e2:Eats d2) (e4:Eats d4) (g1:Gives dText st0 st1 s) (g2:Gives d2 st1 st2 N) (g3:Gives (dMany dEvent N) st2 st3 es) (g4:Gives d4 st3 st4 M) (g5:Gives (dMany dKnown M) st4 (some r) ks):SmSmall (strOf s) es ks:=by
 obtain ⟨l4,rfl⟩:∃l4,st4=some l4:=by
  cases st4 with
  | none=>cases g5.still
  | some l4=>exact ⟨_,rfl⟩
 obtain ⟨l3,rfl⟩:∃l3,st3=some l3:=by
  cases st3 with
  | none=>cases g4.still
  | some l4=>exact ⟨_,rfl⟩
 obtain ⟨l2,rfl⟩:∃l3,st2=some l3:=by
  cases st2 with
  | none=>cases g3.still
  | some l4=>exact ⟨_,rfl⟩
 obtain ⟨l1,rfl⟩:∃l3,st1=some l3:=by
  cases st1 with
  | none=>cases g2.still
  | some l4=>exact ⟨_,rfl⟩
 obtain ⟨l,rfl⟩:∃l3,st0=some l3:=by
  cases st0 with
  | none=>cases g1.still
  | some l4=>exact ⟨_,rfl⟩
 have hl:=hl l rfl
 have h1:=g1.hit
 have h2:=g2.hit
 have h3:=g3.hit
 have h4:=g4.hit
 have h5:=g5.hit
 have b1:=dText_len h1
 have e1:=eats_text _ _ _ h1
 have e2:=e2 _ _ _ h2
 have e4:=e4 _ _ _ h4
 have m3:=dMany_len eats_event _ _ _ _ h3
 have m5:=dMany_len eats_known _ _ _ _ h5
 refine ⟨by rw [strOf_size];omega,⟨by omega,dMany_all eats_event.less (fun l x r h1 h2=>dEvent_small h1 h2) _ _ _ _ (by omega) h3⟩,by omega,dMany_all eats_known.less (fun l x r h1 h2=>dKnown_small h1 h2) _ _ _ _ (by omega) h5⟩
/-- A stream read whole, but for its end. -/
theorem stream_gives {l s : List UInt8} {N M : Nat} {es : List Ev} {ks : List Kn} {st1 st2 st3 st4 st : Option (List UInt8)} (hl : l.length ≤ 524288) (g1 : Gives dText (some l) st1 s) (g2 : Gives dNum st1 st2 N) (g3 : Gives (dMany dEvent N) st2 st3 es) (g4 : Gives dNum st3 st4 M) (g5 : Gives (dMany dKnown M) st4 st ks) :
  (st=none→dStream l=none)∧∀r,st=some r→SmSmall (strOf s) es ks∧dStream l=if smOk ⟨strOf s,es,ks⟩=true then some (⟨strOf s,es,ks⟩,r) else none:=by
 have key:∀(st':Option (List UInt8)) (x:Sm),Gives (smEnd ⟨strOf s,es,ks⟩) st st' x→Gives dStream (some l) st' x:=fun st' x h=>g1.bind (g2.bind (g3.bind (g4.bind (g5.bind h))))
 refine ⟨fun e=>?_,fun r e=>⟨?_,?_⟩⟩
 ·subst e
  exact (key none ⟨⟨#[]⟩,[],[]⟩ (Gives.bad _)).miss
 ·subst e
  exact small_gives (fun l' e=>by cases e;exact hl) eats_num eats_num g1 g2 g3 g4 g5
 ·subst e
  by_cases hc:smOk ⟨strOf s,es,ks⟩=true
  ·rw [if_pos hc]
   exact (key _ _ (Gives.yes hc _)).hit
  ·rw [if_neg hc]
   exact (key none ⟨⟨#[]⟩,[],[]⟩ (Gives.no (by simpa using hc) _ _)).miss
theorem stream_givesR {st0 : Option (List UInt8)} {s : List UInt8} {N M : Nat} {es : List Ev} {ks : List Kn} {st1 st2 st3 st4 st : Option (List UInt8)} (g1 : Gives dText st0 st1 s) (g2 : Gives (dCount 1073741824) st1 st2 N) (g3 : Gives (dMany dEvent N) st2 st3 es) (g4 : Gives (dCount 1073741824) st3 st4 M) (g5 : Gives (dMany dKnown M) st4 st ks) :
  ((st=none∨smOk ⟨strOf s,es,ks⟩=false)→Gives dStreamR st0 none ⟨⟨#[]⟩,[],[]⟩)∧(smOk ⟨strOf s,es,ks⟩=true→Gives dStreamR st0 st ⟨strOf s,es,ks⟩):=by
 have key:∀(st':Option (List UInt8)) (x:Sm),Gives (smEnd ⟨strOf s,es,ks⟩) st st' x→Gives dStreamR st0 st' x:=fun st' x h=>g1.bind (g2.bind (g3.bind (g4.bind (g5.bind h))))
 refine ⟨fun e=>?_,fun hc=>key _ _ (Gives.yes hc _)⟩
 rcases e with rfl | hc
 ·exact key none _ (Gives.bad _)
 ·exact key none _ (Gives.no hc _ _)
theorem known_gives {s0 s1 s2 s3:Option (List UInt8)} {s:List UInt8} {v:Nat} {t:St} (g1:Gives dText s0 s1 s) (g2:Gives (dCount 1099511627776) s1 s2 v) (g3:Gives dStamp s2 s3 t):Gives dKnown s0 s3 ⟨strOf s,v,t⟩:=g1.bind (g2.bind (g3.bind (Gives.ret _)))
end Go.Proofs.YtheogchkelmeeaaGreatDoor

/- Several texts in one: DecSt, BrS, MsgRd. -/
import Derived.Test.YtheogchkelmeeaaDoorDecEventQMsgFirst
import Derived.Test.YtheogchkelmeeaaDoorBatEncQMsgFirst
import Derived.Test.YtheogchkelmeeaaDoorM9MsgFirst
/- How a reader of batches stands. No condition. -/
namespace Go.Proofs.YtheogchkelmeeaaDoor
open Go.RowKit

theorem put_elem : IsElem Tryd.prog 24 124 3 48 PutM.cells :=
  isElem_of (z := .agg #[.string ByteArray.empty, .int .i64 0, .slice none 0 0]) Tryd.underlying24 (by kernel_rfl) rfl (by omega) PutM.cells_len (by intro x u hu; simp [PutM.cells] at hu; rcases hu with rfl | rfl | rfl <;> rfl)
/-- The bytes lie where no reader turns. -/
theorem Sl.rd {D R : Nat} {w w' : World} {A : Option Addr} {l : List UInt8} (h : Sl byteC 1 w D A l) (hb : But (fun k => k = R) w w') (hD : D ≤ w.heap.size) (hR : D ≤ R) : Sl byteC 1 w' D A l := h.keep fun k o hk => hb.cell (by omega) (by omega)
/-- A block of the call's own turns, that lies above the bytes. -/
theorem RdS.own {T : TypeId} {R D : Nat} {A : Option Addr} {c8 : Nat} {l0 : List UInt8} {st : Option (List UInt8)} {w w' : World} {S : Nat → Prop} (h : RdS T R A c8 l0 st w) (hs : Sl byteC 1 w' D A l0) (hD : D ≤ R) (hb : But S w w') (hR : ¬ S R) : RdS T R A c8 l0 st w' := by
  obtain ⟨p, h1, h2, h3⟩ := h
  exact ⟨p, h1, h2, hb.blk h3.1 hR, hs.more hD⟩
/-- The puts of a batch, that the call made from base on. -/
structure PutsOwn (base : Nat) (Ap : Option Addr) (cp : Nat) (ms : List PutM) (w : World) : Prop where
  row : OwnL 124 3 PutM.cells w base (.slice Ap ms.length cp) ms
  data : ∀ m ∈ ms, OwnL 9 1 strC w base (.slice m.A m.data.length m.c) m.data
/-- How the reading of a batch stands: the reader lies at R, the batch at Z, the bytes below D. -/
structure DecSt (T : TypeId) (R Z D : Nat) (A : Option Addr) (c8 : Nat) (l0 : List UInt8) (w : World) (key : ByteArray) (Ap : Option Addr) (cp : Nat) (ms : List PutM) (st : Option (List UInt8)) (wx : World) : Prop where
  rd : RdS T R A c8 l0 st wx
  sl : Sl byteC 1 wx D A l0
  res : wx.heap[Z]? = some (.cells #[.string key, .slice Ap ms.length cp] 26 (0, 0))
  puts : PutsOwn w.heap.size Ap cp ms wx
  but : But (fun k => k = R) w wx
  dr : D ≤ R
  dw : D ≤ w.heap.size
  zw : w.heap.size ≤ Z
  ty : T ≠ 124 ∧ T ≠ 9 ∧ T ≠ 26
/-- .. and within a put, whose block lies at X. -/
structure InSt (T : TypeId) (R X : Nat) (A : Option Addr) (c8 : Nat) (l0 : List UInt8) (wa : World) (s : ByteArray) (e : Int) (Ad : Option Addr) (cd : Nat) (ds : List ByteArray) (st : Option (List UInt8)) (wx : World) : Prop where
  rd : RdS T R A c8 l0 st wx
  blk : wx.heap[X]? = some (.cells #[.string s, .int .i64 e, .slice Ad ds.length cd] 124 (0, 0))
  row : OwnL 9 1 strC wx X (.slice Ad ds.length cd) ds
  but : But (fun k => k = R) wa wx
  pl : X = wa.heap.size
  lt : R < X
  ty : T ≠ 9
section
variable {T : TypeId} {R Z X D base : Nat} {A : Option Addr} {c8 : Nat} {l0 : List UInt8} {w wa wx wy wz : World} {key s : ByteArray} {e : Int} {Ap Ad : Option Addr} {cp cd : Nat} {ms : List PutM} {ds : List ByteArray} {st st1 : Option (List UInt8)}
theorem PutsOwn.but {S : Nat → Prop} (h : PutsOwn base Ap cp ms wx) (hb : But S wx wy) (hS : ∀ (k : Nat) (cs : Array Value) (t : TypeId), S k → wx.heap[k]? = some (.cells cs t (0, 0)) → t ≠ 124 ∧ t ≠ 9) : PutsOwn base Ap cp ms wy :=
  ⟨h.row.but' hb (fun k hk hs => by obtain ⟨_, _, cs, h1⟩ := h.row.blk hk; exact (hS k cs _ hs h1).1 rfl), fun m hm => (h.data m hm).but' hb (fun k hk hs => by obtain ⟨_, _, cs, h1⟩ := (h.data m hm).blk hk; exact (hS k cs _ hs h1).2 rfl)⟩
theorem PutsOwn.ins (h : PutsOwn base Ap cp ms wx) : PutsIn wx wx.heap.size Ap ms := ⟨OwnL.self PutM.cells_len h.row, fun m hm => OwnL.self strC_len (h.data m hm)⟩
/-- A block above what a other world held turns too. -/
theorem But.up {S S' : Nat → Prop} {a b c : World} (h : But S a b) (k : But S' b c) (hS : ∀ k, S' k → a.heap.size ≤ k) : But S a c :=
  ⟨k.os.trans h.os, k.tape.trans h.tape, k.output.trans h.output, Nat.le_trans h.size k.size, fun i hi hn => (k.block i (Nat.lt_of_lt_of_le hi h.size) (fun e => by have := hS i e; omega)).trans (h.block i hi hn)⟩
theorem RdS.tyAt (h : RdS T R A c8 l0 st wx) {cs : Array Value} {t : TypeId} (h1 : wx.heap[R]? = some (.cells cs t (0, 0))) : t = T := by
  obtain ⟨cs', h2⟩ := h.blk
  rw [h1] at h2
  cases h2
  rfl
theorem RdS.sl (h : RdS T R A c8 l0 st wx) : Sl byteC 1 wx R A l0 := by
  obtain ⟨p, h1, h2, h3⟩ := h
  exact h3.2
theorem DecSt.sizes (h : DecSt T R Z D A c8 l0 w key Ap cp ms st wx) : w.heap.size ≤ wx.heap.size := h.but.size
theorem DecSt.rz (h : DecSt T R Z D A c8 l0 w key Ap cp ms st wx) : R ≠ Z := by
  rintro rfl
  exact h.ty.2.2 (h.rd.tyAt h.res).symm
theorem DecSt.call (h : DecSt T R Z D A c8 l0 w key Ap cp ms st wx) (hr : RdS T R A c8 l0 st1 wy) (hb : But (fun k => k = R) wx wy) : DecSt T R Z D A c8 l0 w key Ap cp ms st1 wy :=
  ⟨hr, h.sl.keep fun k o hk => hb.cell (by have := h.but.size; have := h.dw; omega) (by have := h.dr; omega), hb.blk h.res (fun e => h.rz e.symm), h.puts.but hb (fun k cs t e h1 => by
    subst e
    rw [h.rd.tyAt h1]
    exact ⟨h.ty.1, h.ty.2.1⟩), h.but.trans hb, h.dr, h.dw, h.zw, h.ty⟩
theorem DecSt.g (h : DecSt T R Z D A c8 l0 w key Ap cp ms st wx) (hg : G wx wy) : DecSt T R Z D A c8 l0 w key Ap cp ms st wy := h.call (h.rd.g hg) (.of_g hg)
/-- The batch's own block turns. -/
theorem DecSt.z (h : DecSt T R Z D A c8 l0 w key Ap cp ms st wx) {S : Nat → Prop} (hb : But S wx wy) (hS : ∀ k, S k → w.heap.size ≤ k ∧ k ≠ R) {key' : ByteArray} {Ap' : Option Addr} {cp' : Nat} {ms' : List PutM} (hres : wy.heap[Z]? = some (.cells #[.string key', .slice Ap' ms'.length cp'] 26 (0, 0))) (hp : PutsOwn w.heap.size Ap' cp' ms' wy) : DecSt T R Z D A c8 l0 w key' Ap' cp' ms' st wy := by
  have hsl : Sl byteC 1 wy D A l0 := h.sl.keep fun k o hk => hb.cell (by have := h.but.size; have := h.dw; omega) (fun e => by have := (hS k e).1; have := h.dw; omega)
  exact ⟨h.rd.own hsl h.dr hb (fun e => (hS R e).2 rfl), hsl, hres, hp, h.but.up hb (fun k e => (hS k e).1), h.dr, h.dw, h.zw, h.ty⟩
theorem DecSt.key0 (h : DecSt T R Z D A c8 l0 w key Ap cp ms st wx) (key' : ByteArray) : DecSt T R Z D A c8 l0 w key' Ap cp ms st (wx.setCell ⟨Z, 0, none⟩ (.string key')) :=
  h.z (but_set wx Z 0 _) (fun k e => by subst e; exact ⟨h.zw, fun e => h.rz e.symm⟩) (by rw [blk_put h.res]; rfl) (h.puts.but (but_set wx Z 0 _) (fun k cs t e h1 => by
    subst e
    rw [h.res] at h1
    cases h1
    decide))
theorem InSt.call (h : InSt T R X A c8 l0 wa s e Ad cd ds st wx) (hr : RdS T R A c8 l0 st1 wy) (hb : But (fun k => k = R) wx wy) : InSt T R X A c8 l0 wa s e Ad cd ds st1 wy :=
  ⟨hr, hb.blk h.blk (fun e => by have := h.lt; omega), h.row.but' hb (fun k hk e => by have := (h.row.blk hk).1; have := h.lt; omega), h.but.trans hb, h.pl, h.lt, h.ty⟩
theorem InSt.g (h : InSt T R X A c8 l0 wa s e Ad cd ds st wx) (hg : G wx wy) : InSt T R X A c8 l0 wa s e Ad cd ds st wy := h.call (h.rd.g hg) (.of_g hg)
theorem InSt.cell (h : InSt T R X A c8 l0 wa s e Ad cd ds st wx) : wx.cell? ⟨X, 2, none⟩ = some (.slice Ad ds.length cd) := by rw [blk_cell h.blk]; rfl
theorem InSt.free (h : InSt T R X A c8 l0 wa s e Ad cd ds st wx) (o : Nat) : wx.frozen? ⟨X, o, none⟩ = false := by simp [World.frozen?, h.blk]
theorem InSt.begin {st : Option (List UInt8)} (hr : RdS T R A c8 l0 st wa) (hT : T ≠ 9) : InSt T R wa.heap.size A c8 l0 wa s 0 none 0 [] st (wa.alloc (.cells #[.string s, .int .i64 0, .slice none 0 0] 124)) :=
  ⟨hr.g (G.new _ _), blk_new _ _ _, OwnL.nil, .of_g (G.new _ _), rfl, hr.lt, hT⟩
theorem InSt.expect (h : InSt T R X A c8 l0 wa s e Ad cd ds st wx) (e' : Int) : InSt T R X A c8 l0 wa s e' Ad cd ds st (wx.setCell ⟨X, 1, none⟩ (.int .i64 e')) :=
  ⟨h.rd.but (but_set wx X 1 _) (fun k e => by have := h.lt; omega), by rw [blk_put h.blk]; rfl, h.row.but' (but_set wx X 1 _) (fun k hk e => by
    subst e
    obtain ⟨_, _, cs, h1⟩ := h.row.blk hk
    rw [h.blk] at h1
    cases h1), h.but.set (p := ⟨X, 1, none⟩) (.inl (show wa.heap.size ≤ X from Nat.le_of_eq h.pl.symm)) _, h.pl, h.lt, h.ty⟩
theorem DecSt.free (h : DecSt T R Z D A c8 l0 w key Ap cp ms st wx) (o : Nat) : wx.frozen? ⟨Z, o, none⟩ = false := by simp [World.frozen?, h.res]
theorem DecSt.c0 (h : DecSt T R Z D A c8 l0 w key Ap cp ms st wx) : wx.cell? ⟨Z, 0, none⟩ = some (.string key) := by rw [blk_cell h.res]; rfl
theorem DecSt.c1 (h : DecSt T R Z D A c8 l0 w key Ap cp ms st wx) : wx.cell? ⟨Z, 1, none⟩ = some (.slice Ap ms.length cp) := by rw [blk_cell h.res]; rfl
theorem InSt.c0 (h : InSt T R X A c8 l0 wa s e Ad cd ds st wx) : wx.cell? ⟨X, 0, none⟩ = some (.string s) := by rw [blk_cell h.blk]; rfl
theorem InSt.c1 (h : InSt T R X A c8 l0 wa s e Ad cd ds st wx) : wx.cell? ⟨X, 1, none⟩ = some (.int .i64 e) := by rw [blk_cell h.blk]; rfl
/-- One more text behind the row of texts, and into the put's block. -/
theorem InSt.push (h : InSt T R X A c8 l0 wa s e Ad cd ds st wx) {ds' : List ByteArray} {A' : Option Addr} {c' : Nat} (hown : OwnL 9 1 strC wz X (.slice A' ds'.length c') ds') (hk : KeepT 9 X wx wz) : 
    wz.cell? ⟨X, 2, none⟩ = some (.slice Ad ds.length cd) ∧ wz.frozen? ⟨X, 2, none⟩ = false ∧ InSt T R X A c8 l0 wa s e A' c' ds' st (wz.setCell ⟨X, 2, none⟩ (.slice A' ds'.length c')) := by
  have hX := hk.blk (by decide) h.blk
  have hbt : But (fun k => X ≤ k) wx wz := ⟨hk.1.os, hk.1.tape, hk.1.output, hk.1.size, fun k hk1 hk2 => hk.1.block k (by omega)⟩
  refine ⟨by rw [blk_cell hX]; rfl, by simp [World.frozen?, hX], (h.rd.but hbt (fun k e => by have := h.lt; omega)).but (but_set wz X 2 _) (fun k e => by have := h.lt; omega), by rw [blk_put hX]; rfl, hown.but' (but_set wz X 2 _) (fun k hk2 e => ?_), (h.but.up hbt (fun k e => by have := h.pl; omega)).set (p := ⟨X, 2, none⟩) (.inl (show wa.heap.size ≤ X from Nat.le_of_eq h.pl.symm)) _, h.pl, h.lt, h.ty⟩
  subst e
  obtain ⟨_, _, cs, h1⟩ := hown.blk hk2
  rw [hX] at h1
  cases h1
/-- One more put. -/
theorem DecSt.push (h : DecSt T R Z D A c8 l0 w key Ap cp ms st wx) {m : PutM} {ms' : List PutM} {A' : Option Addr} {c' : Nat} (hms : Hid (ms ++ [m] = ms')) (hd : OwnL 9 1 strC wx w.heap.size (.slice m.A m.data.length m.c) m.data) (hown : OwnL 124 3 PutM.cells wz w.heap.size (.slice A' ms'.length c') ms') (hk : KeepT 124 w.heap.size wx wz) (hb : But (fun k => some k = (Value.slice Ap ms.length cp).ownBlock) wx wz) :
    wz.frozen? ⟨Z, 1, none⟩ = false ∧ (∃ u, wz.cell? ⟨Z, 1, none⟩ = some u) ∧ DecSt T R Z D A c8 l0 w key A' c' ms' st (wz.setCell ⟨Z, 1, none⟩ (.slice A' ms'.length c')) := by
  have hZ := hk.blk (by decide) h.res
  have hS : ∀ k, some k = (Value.slice Ap ms.length cp).ownBlock → w.heap.size ≤ k ∧ k ≠ R := fun k e => by
    obtain ⟨h1, _, cs, h2⟩ := h.puts.row.blk e.symm
    refine ⟨h1, ?_⟩
    rintro rfl
    exact h.ty.1 (h.rd.tyAt h2).symm
  have hne : ∀ k cs t, k = Z → wz.heap[k]? = some (.cells cs t (0, 0)) → t ≠ 124 ∧ t ≠ 9 := fun k cs t e h1 => by
    subst e
    rw [hZ] at h1
    cases h1
    decide
  have hps : PutsOwn w.heap.size A' c' ms' wz := ⟨hown, fun x hx => by
    rw [← hms.out, List.mem_append, List.mem_singleton] at hx
    rcases hx with hx | rfl
    · exact (h.puts.data x hx).keepT hk (by decide)
    · exact hd.keepT hk (by decide)⟩
  refine ⟨by simp [World.frozen?, hZ], ⟨_, blk_cell hZ 1⟩, ?_⟩
  exact h.z (S := fun k => some k = (Value.slice Ap ms.length cp).ownBlock ∨ k = Z) ((hb.mono fun _ _ => .inl).set (p := ⟨Z, 1, none⟩) (.inr (.inr rfl)) _) (fun k e => by
    rcases e with e | rfl
    · exact hS k e
    · exact ⟨h.zw, fun e => h.rz e.symm⟩) (by rw [blk_put hZ]; rfl) (hps.but (but_set wz Z 1 _) hne)
end
/-- The rest of a list read behind what was read. -/
def More {α : Type} (d : Reader α) (n k : Nat) (st0 st : Option (List UInt8)) (xs : List α) : Prop := ∀ (st' : Option (List UInt8)) (ys : List α), Gives (dMany d k) st st' ys → Gives (dMany d n) st0 st' (xs ++ ys)
theorem More.start {α : Type} (d : Reader α) (n : Nat) (st : Option (List UInt8)) : More d n n st st [] := fun _ _ h => h
theorem More.step {α : Type} {d : Reader α} {n k : Nat} {st0 st st1 : Option (List UInt8)} {xs : List α} {x : α} (h : More d n (k + 1) st0 st xs) (hx : Gives d st st1 x) : More d n k st0 st1 (xs ++ [x]) := fun st' ys hy => by
  rw [List.append_assoc]
  exact h st' ([x] ++ ys) (hx.many hy)
theorem More.end {α : Type} {d : Reader α} {n k : Nat} {st0 st : Option (List UInt8)} {xs : List α} (h : More d n k st0 st xs) (hk : k = 0 ∨ st = none) : Gives (dMany d n) st0 st xs := by
  rcases hk with rfl | rfl
  · have := h st [] Gives.many0
    rwa [List.append_nil] at this
  · have := h none [] (Gives.bad _)
    rwa [List.append_nil] at this
theorem gv_bound {α : Type} {z x : α} {d : Reader α} {P : α → Prop} {st st1 : Option (List UInt8)} (h : gv z d st = (x, st1)) (hz : P z) (hd : ∀ l y r, d l = some (y, r) → P y) : P x := by
  cases st with
  | none => cases h; exact hz
  | some l =>
    cases hc : d l with
    | none => rw [gv_none hc] at h; cases h; exact hz
    | some p =>
      obtain ⟨a, r⟩ := p
      rw [gv_some hc] at h
      cases h
      exact hd _ _ _ hc
theorem dNum_bd {l r : List UInt8} {v : Nat} (h : dNum l = some (v, r)) : v < 2 ^ 64 := by
  unfold dNum at h
  cases hu : uL l with
  | none => rw [hu] at h; cases h
  | some y =>
    obtain ⟨v', n⟩ := y
    rw [hu] at h
    simp only [Option.some.injEq, Prod.mk.injEq] at h
    rw [← h.1]
    exact (uL_bd hu).2.2.2
theorem PutsOwn.mono {base base' : Nat} {Ap : Option Addr} {cp : Nat} {ms : List PutM} {w : World} (h : PutsOwn base Ap cp ms w) (hb : base' ≤ base) : PutsOwn base' Ap cp ms w := ⟨h.row.mono hb, fun m hm => (h.data m hm).mono hb⟩
end Go.Proofs.YtheogchkelmeeaaDoor
/- A reader of bytes behind a pointer, as rec and msg have it: the bytes that are left, and whether it is bad. No condition. -/
namespace Go.Proofs.YtheogchkelmeeaaDoor
open Go.RowKit

/-- The reader at block R (its bytes lie below block D, at most L of them): none: it is bad; some l: l is left. -/
def BrS (T : TypeId) (R D L : Nat) (st : Option (List UInt8)) (w : World) : Prop :=
  ∃ A l c, w.heap[R]? = some (.cells #[.slice A l.length c, .bool st.isNone] T (0, 0)) ∧ Sl byteC 1 w D A l ∧ D ≤ R ∧ l.length ≤ c ∧ l.length ≤ L ∧ ∀ l', st = some l' → l' = l
section
variable {T : TypeId} {R D L : Nat} {st : Option (List UInt8)} {w w' : World}
theorem BrS.lt (h : BrS T R D L st w) : R < w.heap.size := by
  obtain ⟨_, _, _, h1, _⟩ := h
  exact blk_lt h1
theorem BrS.le (h : BrS T R D L st w) : D ≤ R := by
  obtain ⟨_, _, _, _, _, h1, _⟩ := h
  exact h1
theorem BrS.len {l : List UInt8} (h : BrS T R D L (some l) w) : l.length ≤ L := by
  obtain ⟨_, l', _, _, _, _, _, h1, h2⟩ := h
  rw [h2 l rfl]
  exact h1
theorem BrS.but {S : Nat → Prop} (h : BrS T R D L st w) (hb : But S w w') (hS : ∀ k, S k → D ≤ k ∧ k ≠ R) : BrS T R D L st w' := by
  have hlt := h.lt
  obtain ⟨A, l, c, h1, h2, h3, h4⟩ := h
  refine ⟨A, l, c, hb.blk h1 fun hk => (hS R hk).2 rfl, h2.keep fun b o hbD => hb.cell (by omega) fun hk => ?_, h3, h4⟩
  have := (hS b hk).1
  omega
theorem BrS.g (h : BrS T R D L st w) (hg : G w w') : BrS T R D L st w' := h.but (But.of_g (S := fun _ => False) hg) fun _ hk => hk.elim
theorem BrS.blk (h : BrS T R D L st w) : ∃ cs, w.heap[R]? = some (.cells cs T (0, 0)) := by
  obtain ⟨_, _, _, h1, _⟩ := h
  exact ⟨_, h1⟩
theorem BrS.c1 (h : BrS T R D L st w) : w.cell? ⟨R, 1, none⟩ = some (.bool st.isNone) := by
  obtain ⟨_, _, _, h1, _⟩ := h
  exact (blk_cell h1 1).trans rfl
theorem BrS.free (h : BrS T R D L st w) (o : Nat) : w.frozen? ⟨R, o, none⟩ = false := by
  obtain ⟨_, _, _, h1, _⟩ := h
  simp [World.frozen?, h1]
theorem BrS.setR (h : BrS T R D L st w) (o : Nat) (u : Value) {B : Nat} {A : Option Addr} {l : List UInt8} (hs : Sl byteC 1 w B A l) (hB : B ≤ R) : Sl byteC 1 (w.setCell ⟨R, o, none⟩ u) B A l :=
  hs.keep fun b o' hb => (but_set w R o u).cell (by have := h.lt; omega) (by omega)
/-- The flag is laid. -/
theorem BrS.flag (h : BrS T R D L st w) (b : Bool) (hb : b = false → st.isNone = false) : BrS T R D L (if b = true then none else st) (w.setCell ⟨R, 1, none⟩ (.bool b)) := by
  have hh := h
  obtain ⟨A, l, c, h1, h2, h3, h4, h5, h6⟩ := h
  refine ⟨A, l, c, ?_, hh.setR _ _ h2 h3, h3, h4, h5, fun l' e => ?_⟩
  · rw [blk_put h1]
    cases b
    · rw [if_neg (by simp), hb rfl]
      rfl
    · rfl
  · cases b
    · exact h6 l' (by simpa using e)
    · simp at e
theorem BrS.bad (h : BrS T R D L st w) : BrS T R D L none (w.setCell ⟨R, 1, none⟩ (.bool true)) := h.flag true (by simp)
theorem BrS.stay {l : List UInt8} (h : BrS T R D L (some l) w) : BrS T R D L (some l) (w.setCell ⟨R, 1, none⟩ (.bool false)) := h.flag false (by simp)
theorem BrS.row {l : List UInt8} (h : BrS T R D L (some l) w) : ∃ A c, w.heap[R]? = some (.cells #[.slice A l.length c, .bool false] T (0, 0)) ∧ Sl byteC 1 w D A l ∧ l.length ≤ c := by
  obtain ⟨A, l', c, h1, h2, _, h4, _, h6⟩ := h
  obtain rfl := h6 l rfl
  exact ⟨A, c, h1, h2, h4⟩
/-- The bytes, be it bad or not. -/
theorem BrS.any (h : BrS T R D L st w) : ∃ A l c, w.heap[R]? = some (.cells #[.slice A l.length c, .bool st.isNone] T (0, 0)) ∧ Sl byteC 1 w D A l ∧ l.length ≤ c ∧ l.length ≤ L ∧ (∀ l', st = some l' → l' = l) := by
  obtain ⟨A, l, c, h1, h2, _, h4, h5, h6⟩ := h
  exact ⟨A, l, c, h1, h2, h4, h5, h6⟩
/-- Other bytes are laid, a piece of the first. -/
theorem BrS.put {A A' : Option Addr} {l l' : List UInt8} {c c' : Nat} (h : BrS T R D L (some l) w) (h1 : w.heap[R]? = some (.cells #[.slice A l.length c, .bool false] T (0, 0))) (h2 : Sl byteC 1 w D A' l') (h3 : l'.length ≤ c') (h4 : l'.length ≤ L) : BrS T R D L (some l') (w.setCell ⟨R, 0, none⟩ (.slice A' l'.length c')) :=
  ⟨A', l', c', by rw [blk_put h1]; rfl, h.setR _ _ h2 h.le, h.le, h3, h4, fun _ e => by cases e; rfl⟩
end
/-- What a reader's call answers. -/
def BrPost (T : TypeId) (R D L : Nat) (w : World) (v : Value) (st : Option (List UInt8)) (e : Ending) (w' : World) : Prop :=
  e = .returned v ∧ BrS T R D L st w' ∧ But (fun k => k = R) w w'
end Go.Proofs.YtheogchkelmeeaaDoor
/- msg.reader's took and num: what they answer. Condition: as many bytes as an int bears. -/
namespace Go.Proofs.YtheogchkelmeeaaDoor
open Go.RowKit

set_option maxRecDepth 100000 in
set_option maxHeartbeats 1000000 in
theorem msgTook_bad (R D L : Nat) (st : Option (List UInt8)) (n : Nat) (w : World) (h : BrS 121 R D L st w) (hn : st = none ∨ n = 0) :
    Calls Tryd.prog 96 #[.pointer (some ⟨R, 0, none⟩), .int .i64 n] w (BrPost 121 R D L w (.bool false) none) := by
  have hf := h.free 1
  have c1 := h.c1
  have h2 := h.bad
  have d1 := h2.c1
  have hbut := but_set w R 1 (.bool true)
  simp only [Option.isNone_none] at d1
  cases st with
  | none =>
    simp only [Option.isNone_none] at c1
    replace h2 := Lib.hid h2
    replace hbut := Lib.hid hbut
    clear h hn
    go_enter Tryd.func96, Tryd.ntmps96
    go_wp2_with fail
    go_ret
    exact ⟨rfl, h2.out, hbut.out⟩
  | some l =>
    simp only [Option.isNone_some] at c1
    have t1 : ((n : Int) == 0) = true := by
      rcases hn with hn | hn
      · cases hn
      · rw [hn]; rfl
    replace h2 := Lib.hid h2
    replace hbut := Lib.hid hbut
    clear h hn
    go_enter Tryd.func96, Tryd.ntmps96
    go_wp2_with fail
    go_ret
    exact ⟨rfl, h2.out, hbut.out⟩
set_option maxRecDepth 100000 in
set_option maxHeartbeats 1000000 in
theorem msgTook_ok (R D L : Nat) (l : List UInt8) (n : Nat) (w : World) (h : BrS 121 R D L (some l) w) (hn : 0 < n) (hl : n ≤ l.length) (_hL : L ≤ 1073741824) :
    Calls Tryd.prog 96 #[.pointer (some ⟨R, 0, none⟩), .int .i64 n] w (BrPost 121 R D L w (.bool true) (some (l.drop n))) := by
  have hf := h.free 1
  have c1 := h.c1
  have hlen := h.len
  simp only [Option.isNone_some] at c1
  have h2 := h.stay
  have f0 := h2.free 0
  obtain ⟨A, c, g1, g2, g3⟩ := h2.row
  have d0 := (blk_cell g1 0).trans (show _ = some (.slice A l.length c) from rfl)
  have d1 := (blk_cell g1 1).trans (show _ = some (.bool false) from rfl)
  obtain ⟨A', hrun, hsl⟩ := run_tail l A c n hl g3
  have h3 := h2.put g1 (hsl _ _ g2) (c' := c - n) (by rw [List.length_drop]; omega) (by rw [List.length_drop]; omega)
  have hbut := (but_set w R 1 (.bool false)).trans (but_set _ R 0 (.slice A' (l.drop n).length (c - n)))
  have t1 : ((n : Int) == 0) = false := by rw [beq_eq_false_iff_ne]; omega
  replace h3 := Lib.hid h3
  replace hbut := Lib.hid hbut
  replace g1 := Lib.hid g1
  clear h h2 hn g2 hsl
  generalize hq : (l.drop n).length = q at *
  replace hq := Lib.hid hq
  go_enter Tryd.func96, Tryd.ntmps96
  go_wp2_with fail
  go_ret
  exact ⟨rfl, h3.out, hbut.out⟩
set_option maxRecDepth 100000 in
set_option maxHeartbeats 2000000 in
theorem msgNum_any (R D L : Nat) (st : Option (List UInt8)) (w : World) (h : BrS 121 R D L st w) (hL : L ≤ 1073741824) :
    Calls Tryd.prog 78 #[.pointer (some ⟨R, 0, none⟩)] w (BrPost 121 R D L w (.int .i64 (gv 0 (dCount 1099511627776) st).1) (gv 0 (dCount 1099511627776) st).2) := by
  have hf := h.free 1
  obtain ⟨A, l, c, g1, g2, g3, g4, g5⟩ := h.any
  have c0 := (blk_cell g1 0).trans (show _ = some (.slice A l.length c) from rfl)
  have c1 := h.c1
  have hD := h.le
  have hlt := h.lt
  have hu := unvarint_any l A c w (g2.more (by omega)) (by omega)
  replace g1 := Lib.hid g1
  clear g2
  have hbutT := but_set w R 1 (.bool true)
  have hbutF := but_set w R 1 (.bool false)
  cases st with
  | none =>
    simp only [Option.isNone_none] at c1
    have h2 := h.bad
    have d1 := h2.c1
    simp only [Option.isNone_none] at d1
    show Calls _ _ _ _ (BrPost _ _ _ _ _ (.int .i64 0) none)
    cases hx : uL l with
    | none =>
      rw [hx] at hu
      unfold uT at hu
      have hto := Lib.hid (msgTook_bad R D L none 0 _ h2 (.inl rfl))
      have hbut := Lib.hid hbutT
      clear hx h h2 hbutT hbutF g5
      go_enter Tryd.func78, Tryd.ntmps78
      go_wp2_with fail
      refine hu.mono ?_
      clear hu
      rintro e w1 ⟨rfl, rfl⟩
      go_wp2_with fail
      refine Calls.mono hto.out ?_
      rintro e w2 ⟨rfl, hr2, hb2⟩
      go_wp2_with fail
      go_ret
      exact ⟨rfl, hr2, hbut.out.trans hb2⟩
    | some y =>
      obtain ⟨v, n⟩ := y
      rw [hx] at hu
      unfold uT at hu
      have hto := Lib.hid (msgTook_bad R D L none n _ h2 (.inl rfl))
      have hbut := Lib.hid hbutT
      clear hx h h2 hbutT hbutF g5
      go_enter Tryd.func78, Tryd.ntmps78
      go_wp2_with fail
      refine hu.mono ?_
      clear hu
      rintro e w1 ⟨rfl, rfl⟩
      go_wp2_with fail
      refine Calls.mono hto.out ?_
      rintro e w2 ⟨rfl, hr2, hb2⟩
      go_wp2_with fail
      go_ret
      exact ⟨rfl, hr2, hbut.out.trans hb2⟩
  | some l1 =>
    obtain rfl := g5 l1 rfl
    simp only [Option.isNone_some] at c1
    cases hx : uL l1 with
    | none =>
      rw [hx] at hu
      unfold uT at hu
      have h2 := h.stay
      have d1 := h2.c1
      simp only [Option.isNone_some] at d1
      rw [gv_none (dCount_none (dNum_none hx))]
      have hto := Lib.hid (msgTook_bad R D L _ 0 _ h2 (.inr rfl))
      have hbut := Lib.hid hbutF
      clear hx h h2 hbutT hbutF g5
      go_enter Tryd.func78, Tryd.ntmps78
      go_wp2_with fail
      refine hu.mono ?_
      clear hu
      rintro e w1 ⟨rfl, rfl⟩
      go_wp2_with fail
      refine Calls.mono hto.out ?_
      rintro e w2 ⟨rfl, hr2, hb2⟩
      go_wp2_with fail
      go_ret
      exact ⟨rfl, hr2, hbut.out.trans hb2⟩
    | some y =>
      obtain ⟨v, n⟩ := y
      have hb := uL_bd hx
      rw [hx] at hu
      unfold uT at hu
      by_cases hv : 1099511627776 < v
      · have t1 : decide (1099511627776 < (v : Int)) = true := decide_eq_true (by omega)
        rw [gv_none (show dCount 1099511627776 l1 = none by rw [dCount_some (dNum_some hx), if_neg (by omega)])]
        have h2 := h.bad
        have d1 := h2.c1
        simp only [Option.isNone_none] at d1
        have hto := Lib.hid (msgTook_bad R D L none n _ h2 (.inl rfl))
        have hbut := Lib.hid hbutT
        clear hx h h2 hbutT hbutF g5 hb hv
        go_enter Tryd.func78, Tryd.ntmps78
        go_wp2_with fail
        refine hu.mono ?_
        clear hu
        rintro e w1 ⟨rfl, rfl⟩
        go_wp2_with fail
        refine Calls.mono hto.out ?_
        rintro e w2 ⟨rfl, hr2, hb2⟩
        go_wp2_with fail
        go_ret
        exact ⟨rfl, hr2, hbut.out.trans hb2⟩
      · have t1 : decide (1099511627776 < (v : Int)) = false := decide_eq_false (by omega)
        rw [gv_some (show dCount 1099511627776 l1 = some (v, l1.drop n) by rw [dCount_some (dNum_some hx), if_pos (by omega)])]
        have h2 := h.stay
        have d1 := h2.c1
        simp only [Option.isNone_some] at d1
        have hwr : IntKind.i64.wrap (v : Int) = (v : Int) := IntWalk.i64_in _ (by omega)
        have hto := Lib.hid (msgTook_ok R D L l1 n _ h2 hb.1 hb.2.1 hL)
        have hbut := Lib.hid hbutF
        have n0 : (0 : Int) ≤ (v : Int) := by omega
        have n1 : (v : Int) ≤ 1099511627776 := by omega
        clear hx h h2 hbutT hbutF g5 hb hv
        go_enter Tryd.func78, Tryd.ntmps78
        go_wp2_with fail
        refine hu.mono ?_
        clear hu
        rintro e w1 ⟨rfl, rfl⟩
        go_wp2_with fail
        refine Calls.mono hto.out ?_
        rintro e w2 ⟨rfl, hr2, hb2⟩
        go_wp2_with fail
        go_ret
        exact ⟨rfl, hr2, hbut.out.trans hb2⟩
end Go.Proofs.YtheogchkelmeeaaDoor

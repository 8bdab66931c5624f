/- Several texts in one: SmRead, SmSt. -/
import Derived.Test.YthafeaclpcjjbaaDoorM30RecBack
import Derived.Test.YthafeaclpcjjbaaDoorRdEventQRecBack
import Derived.Test.YthafeaclpcjjbaaDoorM26RecBack
/- What a reader of streams gives: bounds. Plain mathematics, no program. No condition. -/
namespace Go.Proofs.YthafeaclpcjjbaaDoor
open Go.RowKit

theorem dMany_all {α : Type} {d : Reader α} {P : α → Prop} {L : Nat} (hless : Less d) (hd : ∀ l x r, l.length ≤ L → d l = some (x, r) → P x) : ∀ (n : Nat) (l : List UInt8) (xs : List α) (r : List UInt8), l.length ≤ L → dMany d n l = some (xs, r) → ∀ x ∈ xs, P x
  | 0, l, xs, r, _, h => by
    unfold dMany at h
    obtain ⟨rfl, _⟩ := rp_inv h
    intro x hx
    cases hx
  | n + 1, l, xs, r, hl, h => by
    unfold dMany at h
    obtain ⟨y, l1, h1, h⟩ := rb_inv h
    obtain ⟨ys, l2, h2, h⟩ := rb_inv h
    obtain ⟨rfl, _⟩ := rp_inv h
    have := hless _ _ _ h1
    intro x hx
    rcases List.mem_cons.1 hx with rfl | hx
    · exact hd _ _ _ hl h1
    · exact dMany_all hless hd n l1 ys l2 (by omega) h2 x hx
theorem dEvent_small {L : Nat} {l r : List UInt8} {e : Ev} (hl : l.length ≤ L) (h : dEvent l = some (e, r)) : e.stream.size ≤ L ∧ e.data.size ≤ L := by
  unfold dEvent at h
  obtain ⟨s, l1, h1, h⟩ := rb_inv h
  obtain ⟨v, l2, h2, h⟩ := rb_inv h
  obtain ⟨d, l3, h3, h⟩ := rb_inv h
  obtain ⟨t, l4, h4, h⟩ := rb_inv h
  obtain ⟨i, l5, h5, h⟩ := rb_inv h
  obtain ⟨_, h6, _⟩ := rif_inv h
  have b1 := dText_len h1
  have b3 := dText_len h3
  have e1 := eats_text _ _ _ h1
  have e2 := eats_count _ _ _ _ h2
  rw [← h6]
  simp only [strOf_size]
  omega
theorem dKnown_small {L : Nat} {l r : List UInt8} {k : Kn} (hl : l.length ≤ L) (h : dKnown l = some (k, r)) : k.key.size ≤ L := by
  unfold dKnown at h
  obtain ⟨s, l1, h1, h⟩ := rb_inv h
  obtain ⟨v, l2, h2, h⟩ := rb_inv h
  obtain ⟨t, l3, h3, h⟩ := rb_inv h
  obtain ⟨h6, _⟩ := rp_inv h
  have b1 := dText_len h1
  rw [← h6]
  simp only [strOf_size]
  omega
/-- What was read is small. -/
theorem small_gives {st0 : Option (List UInt8)} {s : List UInt8} {N M : Nat} {d2 d4 : Reader Nat} {es : List Ev} {ks : List Kn} {st1 st2 st3 st4 : Option (List UInt8)} {r : List UInt8} (hl : ∀ l, st0 = some l → l.length ≤ 524288) (e2 : Eats d2) (e4 : Eats d4) (g1 : Gives dText st0 st1 s) (g2 : Gives d2 st1 st2 N) (g3 : Gives (dMany dEvent N) st2 st3 es) (g4 : Gives d4 st3 st4 M) (g5 : Gives (dMany dKnown M) st4 (some r) ks) : SmSmall (strOf s) es ks := by
  obtain ⟨l4, rfl⟩ : ∃ l4, st4 = some l4 := by
    cases st4 with
    | none => cases g5.still
    | some l4 => exact ⟨_, rfl⟩
  obtain ⟨l3, rfl⟩ : ∃ l3, st3 = some l3 := by
    cases st3 with
    | none => cases g4.still
    | some l4 => exact ⟨_, rfl⟩
  obtain ⟨l2, rfl⟩ : ∃ l3, st2 = some l3 := by
    cases st2 with
    | none => cases g3.still
    | some l4 => exact ⟨_, rfl⟩
  obtain ⟨l1, rfl⟩ : ∃ l3, st1 = some l3 := by
    cases st1 with
    | none => cases g2.still
    | some l4 => exact ⟨_, rfl⟩
  obtain ⟨l, rfl⟩ : ∃ l3, st0 = some l3 := by
    cases st0 with
    | none => cases g1.still
    | some l4 => exact ⟨_, rfl⟩
  have hl := hl l rfl
  have h1 := g1.hit
  have h2 := g2.hit
  have h3 := g3.hit
  have h4 := g4.hit
  have h5 := g5.hit
  have b1 := dText_len h1
  have e1 := eats_text _ _ _ h1
  have e2 := e2 _ _ _ h2
  have e4 := e4 _ _ _ h4
  have m3 := dMany_len eats_event _ _ _ _ h3
  have m5 := dMany_len eats_known _ _ _ _ h5
  refine ⟨by rw [strOf_size]; omega, ⟨by omega, dMany_all eats_event.less (fun l x r h1 h2 => dEvent_small h1 h2) _ _ _ _ (by omega) h3⟩, by omega, dMany_all eats_known.less (fun l x r h1 h2 => dKnown_small h1 h2) _ _ _ _ (by omega) h5⟩
/-- A stream read whole, but for its end. -/
theorem stream_gives {l s : List UInt8} {N M : Nat} {es : List Ev} {ks : List Kn} {st1 st2 st3 st4 st : Option (List UInt8)} (hl : l.length ≤ 524288) (g1 : Gives dText (some l) st1 s) (g2 : Gives dNum st1 st2 N) (g3 : Gives (dMany dEvent N) st2 st3 es) (g4 : Gives dNum st3 st4 M) (g5 : Gives (dMany dKnown M) st4 st ks) :
    (st = none → dStream l = none) ∧ ∀ r, st = some r → SmSmall (strOf s) es ks ∧ dStream l = if smOk ⟨strOf s, es, ks⟩ = true then some (⟨strOf s, es, ks⟩, r) else none := by
  have key : ∀ (st' : Option (List UInt8)) (x : Sm), Gives (smEnd ⟨strOf s, es, ks⟩) st st' x → Gives dStream (some l) st' x := fun st' x h => g1.bind (g2.bind (g3.bind (g4.bind (g5.bind h))))
  refine ⟨fun e => ?_, fun r e => ⟨?_, ?_⟩⟩
  · subst e
    exact (key none ⟨⟨#[]⟩, [], []⟩ (Gives.bad _)).miss
  · subst e
    exact small_gives (fun l' e => by cases e; exact hl) eats_num eats_num g1 g2 g3 g4 g5
  · subst e
    by_cases hc : smOk ⟨strOf s, es, ks⟩ = true
    · rw [if_pos hc]
      exact (key _ _ (Gives.yes hc _)).hit
    · rw [if_neg hc]
      exact (key none ⟨⟨#[]⟩, [], []⟩ (Gives.no (by simpa using hc) _ _)).miss
theorem stream_givesR {st0 : Option (List UInt8)} {s : List UInt8} {N M : Nat} {es : List Ev} {ks : List Kn} {st1 st2 st3 st4 st : Option (List UInt8)} (g1 : Gives dText st0 st1 s) (g2 : Gives (dCount 1073741824) st1 st2 N) (g3 : Gives (dMany dEvent N) st2 st3 es) (g4 : Gives (dCount 1073741824) st3 st4 M) (g5 : Gives (dMany dKnown M) st4 st ks) :
    ((st = none ∨ smOk ⟨strOf s, es, ks⟩ = false) → Gives dStreamR st0 none ⟨⟨#[]⟩, [], []⟩) ∧ (smOk ⟨strOf s, es, ks⟩ = true → Gives dStreamR st0 st ⟨strOf s, es, ks⟩) := by
  have key : ∀ (st' : Option (List UInt8)) (x : Sm), Gives (smEnd ⟨strOf s, es, ks⟩) st st' x → Gives dStreamR st0 st' x := fun st' x h => g1.bind (g2.bind (g3.bind (g4.bind (g5.bind h))))
  refine ⟨fun e => ?_, fun hc => key _ _ (Gives.yes hc _)⟩
  rcases e with rfl | hc
  · exact key none _ (Gives.bad _)
  · exact key none _ (Gives.no hc _ _)
theorem known_gives {s0 s1 s2 s3 : Option (List UInt8)} {s : List UInt8} {v : Nat} {t : St} (g1 : Gives dText s0 s1 s) (g2 : Gives (dCount 1099511627776) s1 s2 v) (g3 : Gives dStamp s2 s3 t) : Gives dKnown s0 s3 ⟨strOf s, v, t⟩ := g1.bind (g2.bind (g3.bind (Gives.ret _)))
end Go.Proofs.YthafeaclpcjjbaaDoor
/- How a reader of streams stands. No condition. -/
namespace Go.Proofs.YthafeaclpcjjbaaDoor
open Go.RowKit

theorem evs_elem : IsElem Tryd.prog 80 106 7 72 Ev.cells :=
  isElem_of (z := .agg #[.string ByteArray.empty, .int .i64 0, .string ByteArray.empty, .int .i64 0, .int .i64 0, .int .i64 0, .int .i64 0]) Tryd.underlying80 (by kernel_rfl) rfl (by omega) Ev.cells_len (by intro x u hu; simp [Ev.cells] at hu; rcases hu with rfl | rfl | rfl | rfl | rfl | rfl | rfl <;> rfl)
theorem kns_elem : IsElem Tryd.prog 81 95 5 48 Kn.cells :=
  isElem_of (z := .agg #[.string ByteArray.empty, .int .i64 0, .int .i64 0, .int .i64 0, .int .i64 0]) Tryd.underlying81 (by kernel_rfl) rfl (by omega) Kn.cells_len (by intro x u hu; simp [Kn.cells] at hu; rcases hu with rfl | rfl | rfl | rfl | rfl <;> rfl)
/-- A stream's rows, that the call made from base on. -/
structure SmOwn (base : Nat) (Ae : Option Addr) (ce : Nat) (es : List Ev) (Ak : Option Addr) (ck : Nat) (ks : List Kn) (w : World) : Prop where
  evs : OwnL 106 7 Ev.cells w base (.slice Ae es.length ce) es
  kns : OwnL 95 5 Kn.cells w base (.slice Ak ks.length ck) ks
/-- How the reading of a stream stands: the reader lies at R, the stream at Z, the bytes below D. -/
structure SmSt (T : TypeId) (R Z D : Nat) (A : Option Addr) (c8 : Nat) (l0 : List UInt8) (w : World) (n : ByteArray) (Ae : Option Addr) (ce : Nat) (es : List Ev) (Ak : Option Addr) (ck : Nat) (ks : List Kn) (st : Option (List UInt8)) (wx : World) : Prop where
  rd : RdS T R A c8 l0 st wx
  sl : Sl byteC 1 wx D A l0
  res : wx.heap[Z]? = some (.cells #[.string n, .slice Ae es.length ce, .slice Ak ks.length ck] 83 (0, 0))
  own : SmOwn w.heap.size Ae ce es Ak ck ks wx
  but : But (fun k => k = R) w wx
  dr : D ≤ R
  dw : D ≤ w.heap.size
  zw : w.heap.size ≤ Z
  ty : T ≠ 106 ∧ T ≠ 95 ∧ T ≠ 83
/-- .. and within a key, whose block lies at X. -/
structure KnSt (T : TypeId) (R X : Nat) (A : Option Addr) (c8 : Nat) (l0 : List UInt8) (wa : World) (st : Option (List UInt8)) (cs : Array Value) (wx : World) : Prop where
  rd : RdS T R A c8 l0 st wx
  blk : wx.heap[X]? = some (.cells cs 95 (0, 0))
  but : But (fun k => k = R) wa wx
  pl : X = wa.heap.size
  lt : R < X
section
variable {T : TypeId} {R Z X D base : Nat} {A : Option Addr} {c8 : Nat} {l0 : List UInt8} {w wa wx wy wz : World} {n : ByteArray} {Ae Ak : Option Addr} {ce ck : Nat} {es : List Ev} {ks : List Kn} {st st1 : Option (List UInt8)} {cs : Array Value}
theorem SmOwn.but {S : Nat → Prop} (h : SmOwn base Ae ce es Ak ck ks wx) (hb : But S wx wy) (hS : ∀ (k : Nat) (cs : Array Value) (t : TypeId), S k → wx.heap[k]? = some (.cells cs t (0, 0)) → t ≠ 106 ∧ t ≠ 95) : SmOwn base Ae ce es Ak ck ks wy :=
  ⟨h.evs.but' hb (fun k hk hs => by obtain ⟨_, _, cs, h1⟩ := h.evs.blk hk; exact (hS k cs _ hs h1).1 rfl), h.kns.but' hb (fun k hk hs => by obtain ⟨_, _, cs, h1⟩ := h.kns.blk hk; exact (hS k cs _ hs h1).2 rfl)⟩
theorem SmOwn.ins (h : SmOwn base Ae ce es Ak ck ks wx) : SmIn wx wx.heap.size Ae Ak es ks := ⟨OwnL.self Ev.cells_len h.evs, OwnL.self Kn.cells_len h.kns⟩
theorem SmOwn.g (h : SmOwn base Ae ce es Ak ck ks wx) (hg : G wx wy) : SmOwn base Ae ce es Ak ck ks wy := ⟨h.evs.g hg, h.kns.g hg⟩
theorem SmSt.rz (h : SmSt T R Z D A c8 l0 w n Ae ce es Ak ck ks st wx) : R ≠ Z := by
  rintro rfl
  exact h.ty.2.2 (h.rd.tyAt h.res).symm
theorem SmSt.call (h : SmSt T R Z D A c8 l0 w n Ae ce es Ak ck ks st wx) (hr : RdS T R A c8 l0 st1 wy) (hb : But (fun k => k = R) wx wy) : SmSt T R Z D A c8 l0 w n Ae ce es Ak ck ks st1 wy :=
  ⟨hr, h.sl.keep fun k o hk => hb.cell (by have := h.but.size; have := h.dw; omega) (by have := h.dr; omega), hb.blk h.res (fun e => h.rz e.symm), h.own.but hb (fun k cs t e h1 => by
    subst e
    rw [h.rd.tyAt h1]
    exact ⟨h.ty.1, h.ty.2.1⟩), h.but.trans hb, h.dr, h.dw, h.zw, h.ty⟩
theorem SmSt.g (h : SmSt T R Z D A c8 l0 w n Ae ce es Ak ck ks st wx) (hg : G wx wy) : SmSt T R Z D A c8 l0 w n Ae ce es Ak ck ks st wy := h.call (h.rd.g hg) (.of_g hg)
/-- The stream's own block turns. -/
theorem SmSt.z (h : SmSt T R Z D A c8 l0 w n Ae ce es Ak ck ks st wx) {S : Nat → Prop} (hb : But S wx wy) (hS : ∀ k, S k → w.heap.size ≤ k ∧ k ≠ R) {n' : ByteArray} {Ae' Ak' : Option Addr} {ce' ck' : Nat} {es' : List Ev} {ks' : List Kn} (hres : wy.heap[Z]? = some (.cells #[.string n', .slice Ae' es'.length ce', .slice Ak' ks'.length ck'] 83 (0, 0))) (hp : SmOwn w.heap.size Ae' ce' es' Ak' ck' ks' wy) : SmSt T R Z D A c8 l0 w n' Ae' ce' es' Ak' ck' ks' st wy := by
  have hsl : Sl byteC 1 wy D A l0 := h.sl.keep fun k o hk => hb.cell (by have := h.but.size; have := h.dw; omega) (fun e => by have := (hS k e).1; have := h.dw; omega)
  exact ⟨h.rd.own hsl h.dr hb (fun e => (hS R e).2 rfl), hsl, hres, hp, h.but.up hb (fun k e => (hS k e).1), h.dr, h.dw, h.zw, h.ty⟩
theorem SmSt.name0 (h : SmSt T R Z D A c8 l0 w n Ae ce es Ak ck ks st wx) (n' : ByteArray) : SmSt T R Z D A c8 l0 w n' Ae ce es Ak ck ks st (wx.setCell ⟨Z, 0, none⟩ (.string n')) :=
  h.z (but_set wx Z 0 _) (fun k e => by subst e; exact ⟨h.zw, fun e => h.rz e.symm⟩) (by rw [blk_put h.res]; rfl) (h.own.but (but_set wx Z 0 _) (fun k cs t e h1 => by
    subst e
    rw [h.res] at h1
    cases h1
    decide))
theorem SmSt.free (h : SmSt T R Z D A c8 l0 w n Ae ce es Ak ck ks st wx) (o : Nat) : wx.frozen? ⟨Z, o, none⟩ = false := by simp [World.frozen?, h.res]
theorem SmSt.c0 (h : SmSt T R Z D A c8 l0 w n Ae ce es Ak ck ks st wx) : wx.cell? ⟨Z, 0, none⟩ = some (.string n) := by rw [blk_cell h.res]; rfl
theorem SmSt.c1 (h : SmSt T R Z D A c8 l0 w n Ae ce es Ak ck ks st wx) : wx.cell? ⟨Z, 1, none⟩ = some (.slice Ae es.length ce) := by rw [blk_cell h.res]; rfl
theorem SmSt.c2 (h : SmSt T R Z D A c8 l0 w n Ae ce es Ak ck ks st wx) : wx.cell? ⟨Z, 2, none⟩ = some (.slice Ak ks.length ck) := by rw [blk_cell h.res]; rfl
/-- One more event. -/
theorem SmSt.pushE (h : SmSt T R Z D A c8 l0 w n Ae ce es Ak ck ks st wx) {es' : List Ev} {A' : Option Addr} {c' : Nat} (hown : OwnL 106 7 Ev.cells wz w.heap.size (.slice A' es'.length c') es') (hk : KeepT 106 w.heap.size wx wz) (hb : But (fun k => some k = (Value.slice Ae es.length ce).ownBlock) wx wz) :
    wz.frozen? ⟨Z, 1, none⟩ = false ∧ (∃ u, wz.cell? ⟨Z, 1, none⟩ = some u) ∧ SmSt T R Z D A c8 l0 w n A' c' es' Ak ck ks st (wz.setCell ⟨Z, 1, none⟩ (.slice A' es'.length c')) := by
  have hZ := hk.blk (by decide) h.res
  have hS : ∀ k, some k = (Value.slice Ae es.length ce).ownBlock → w.heap.size ≤ k ∧ k ≠ R := fun k e => by
    obtain ⟨h1, _, cs, h2⟩ := h.own.evs.blk e.symm
    refine ⟨h1, ?_⟩
    rintro rfl
    exact h.ty.1 (h.rd.tyAt h2).symm
  have hne : ∀ k cs t, k = Z → wz.heap[k]? = some (.cells cs t (0, 0)) → t ≠ 106 ∧ t ≠ 95 := fun k cs t e h1 => by
    subst e
    rw [hZ] at h1
    cases h1
    decide
  have hps : SmOwn w.heap.size A' c' es' Ak ck ks wz := ⟨hown, h.own.kns.keepT hk (by decide)⟩
  refine ⟨by simp [World.frozen?, hZ], ⟨_, blk_cell hZ 1⟩, ?_⟩
  exact h.z (S := fun k => some k = (Value.slice Ae es.length ce).ownBlock ∨ k = Z) ((hb.mono fun _ _ => .inl).set (p := ⟨Z, 1, none⟩) (.inr (.inr rfl)) _) (fun k e => by
    rcases e with e | rfl
    · exact hS k e
    · exact ⟨h.zw, fun e => h.rz e.symm⟩) (by rw [blk_put hZ]; rfl) (hps.but (but_set wz Z 1 _) hne)
/-- One more key. -/
theorem SmSt.pushK (h : SmSt T R Z D A c8 l0 w n Ae ce es Ak ck ks st wx) {ks' : List Kn} {A' : Option Addr} {c' : Nat} (hown : OwnL 95 5 Kn.cells wz w.heap.size (.slice A' ks'.length c') ks') (hk : KeepT 95 w.heap.size wx wz) (hb : But (fun k => some k = (Value.slice Ak ks.length ck).ownBlock) wx wz) :
    wz.frozen? ⟨Z, 2, none⟩ = false ∧ (∃ u, wz.cell? ⟨Z, 2, none⟩ = some u) ∧ SmSt T R Z D A c8 l0 w n Ae ce es A' c' ks' st (wz.setCell ⟨Z, 2, none⟩ (.slice A' ks'.length c')) := by
  have hZ := hk.blk (by decide) h.res
  have hS : ∀ k, some k = (Value.slice Ak ks.length ck).ownBlock → w.heap.size ≤ k ∧ k ≠ R := fun k e => by
    obtain ⟨h1, _, cs, h2⟩ := h.own.kns.blk e.symm
    refine ⟨h1, ?_⟩
    rintro rfl
    exact h.ty.2.1 (h.rd.tyAt h2).symm
  have hne : ∀ k cs t, k = Z → wz.heap[k]? = some (.cells cs t (0, 0)) → t ≠ 106 ∧ t ≠ 95 := fun k cs t e h1 => by
    subst e
    rw [hZ] at h1
    cases h1
    decide
  have hps : SmOwn w.heap.size Ae ce es A' c' ks' wz := ⟨h.own.evs.keepT hk (by decide), hown⟩
  refine ⟨by simp [World.frozen?, hZ], ⟨_, blk_cell hZ 2⟩, ?_⟩
  exact h.z (S := fun k => some k = (Value.slice Ak ks.length ck).ownBlock ∨ k = Z) ((hb.mono fun _ _ => .inl).set (p := ⟨Z, 2, none⟩) (.inr (.inr rfl)) _) (fun k e => by
    rcases e with e | rfl
    · exact hS k e
    · exact ⟨h.zw, fun e => h.rz e.symm⟩) (by rw [blk_put hZ]; rfl) (hps.but (but_set wz Z 2 _) hne)
theorem KnSt.call (h : KnSt T R X A c8 l0 wa st cs wx) (hr : RdS T R A c8 l0 st1 wy) (hb : But (fun k => k = R) wx wy) : KnSt T R X A c8 l0 wa st1 cs wy :=
  ⟨hr, hb.blk h.blk (fun e => by have := h.lt; omega), h.but.trans hb, h.pl, h.lt⟩
theorem KnSt.g (h : KnSt T R X A c8 l0 wa st cs wx) (hg : G wx wy) : KnSt T R X A c8 l0 wa st cs wy := h.call (h.rd.g hg) (.of_g hg)
theorem KnSt.cell (h : KnSt T R X A c8 l0 wa st cs wx) (o : Nat) : wx.cell? ⟨X, o, none⟩ = cs[o]? := blk_cell h.blk o
theorem KnSt.free (h : KnSt T R X A c8 l0 wa st cs wx) (o : Nat) : wx.frozen? ⟨X, o, none⟩ = false := by simp [World.frozen?, h.blk]
theorem KnSt.as (h : KnSt T R X A c8 l0 wa st cs wx) {cs' : Array Value} (he : cs = cs') : KnSt T R X A c8 l0 wa st cs' wx := he ▸ h
theorem KnSt.begin {st : Option (List UInt8)} {s : ByteArray} (hr : RdS T R A c8 l0 st wa) : KnSt T R wa.heap.size A c8 l0 wa st #[.string s, .int .i64 0, .int .i64 0, .int .i64 0, .int .i64 0] (wa.alloc (.cells #[.string s, .int .i64 0, .int .i64 0, .int .i64 0, .int .i64 0] 95)) :=
  ⟨hr.g (G.new _ _), blk_new _ _ _, .of_g (G.new _ _), rfl, hr.lt⟩
theorem KnSt.put (h : KnSt T R X A c8 l0 wa st cs wx) (o : Nat) (u : Value) : KnSt T R X A c8 l0 wa st (cs.setIfInBounds o u) (wx.setCell ⟨X, o, none⟩ u) :=
  ⟨h.rd.but (but_set wx X o _) (fun k e => by have := h.lt; omega), blk_put h.blk o u, h.but.set (p := ⟨X, o, none⟩) (.inl (show wa.heap.size ≤ X from Nat.le_of_eq h.pl.symm)) _, h.pl, h.lt⟩
end
/-- What a decoder of streams answers. -/
def smT (l : List UInt8) : Option (Sm × List UInt8) → Sm × Nat × Nat
  | some (x, r) => (x, l.length - r.length, 0)
  | none => (⟨⟨#[]⟩, [], []⟩, 0, 10)
def RetSm (w : World) (l : List UInt8) (e : Ending) (w' : World) : Prop :=
  ∃ (nm : ByteArray) (Ae Ak : Option Addr) (ce ck : Nat) (es : List Ev) (ks : List Kn) (n c : Nat), e = .returned (.tuple #[.agg #[.string nm, .slice Ae es.length ce, .slice Ak ks.length ck], .int .i64 n, .int .i64 c]) ∧ smT l (dStream l) = (⟨nm, es, ks⟩, n, c) ∧ SmSmall nm es ks ∧ SmOwn w.heap.size Ae ce es Ak ck ks w' ∧ G w w'
/-- How many are left. -/
def Left (l0 : List UInt8) (n : Nat) (st : Option (List UInt8)) : Prop := n ≤ 524289 ∧ ∀ l, st = some l → n + l.length ≤ l0.length
theorem Left.step {α : Type} {d : Reader α} {l0 l : List UInt8} {n : Nat} {st : Option (List UInt8)} {x : α} (h : Left l0 n (some l)) (h0 : l0.length ≤ 524288) (hd : Eats d) (hg : Gives d (some l) st x) : Left l0 (n + 1) st := by
  have := h.2 l rfl
  refine ⟨by omega, fun l' e => ?_⟩
  subst e
  have := hd _ _ _ hg.hit
  omega
theorem Left.start {l0 : List UInt8} {st : Option (List UInt8)} (h : ∀ l, st = some l → l.length ≤ l0.length) : Left l0 0 st := ⟨by omega, fun l e => by have := h l e; omega⟩
end Go.Proofs.YthafeaclpcjjbaaDoor

/- Several texts in one: MsgRdQ, SmSt. -/
import Derived.Test.YtheogchkelmeeaaDoorM34MsgFirst
import Derived.Test.YtheogchkelmeeaaDoorM27MsgFirst
import Derived.Test.YtheogchkelmeeaaDoorM31MsgFirst
/- msg.reader's stamp, batch, flag, many: what they answer. Conditions: at most 2^19 bytes; the decoder's tables lie as the library lays them. -/
namespace Go.Proofs.YtheogchkelmeeaaDoor
open Go.RowKit

theorem cut_gives {m K : Nat} (hK : K ≤ m) {st st1 : Option (List UInt8)} {v : Nat} (h : gv 0 (dCount m) st = (v, st1)) : Gives (dCount K) st (if v ≤ K then st1 else none) v := by
  cases st with
  | none =>
    cases h
    exact .inl ⟨by split <;> rfl, rfl⟩
  | some l =>
    cases hd : dCount m l with
    | none =>
      rw [gv_none hd] at h
      cases h
      exact .inl ⟨by split <;> rfl, dCount_less hd hK⟩
    | some y =>
      obtain ⟨v', q⟩ := y
      rw [gv_some hd] at h
      cases h
      by_cases hv : v ≤ K
      · rw [if_pos hv]
        exact .inr ⟨l, q, rfl, dCount_le hd hv, rfl⟩
      · rw [if_neg hv]
        exact .inl ⟨rfl, dCount_gt hd (by omega)⟩
theorem mr_typed {T : TypeId} {R D L b : Nat} {st : Option (List UInt8)} {w : World} {cs : Array Value} (h : BrS 121 R D L st w) (hk : w.heap[b]? = some (.cells cs T (0, 0))) (hT : T ≠ 121) : ¬ b = R := by
  rintro rfl
  obtain ⟨c, h1⟩ := h.blk
  rw [h1] at hk
  simp at hk
  exact hT hk.2.symm
set_option maxRecDepth 100000 in
set_option maxHeartbeats 2000000 in
theorem mrMany_any (R D L : Nat) (st : Option (List UInt8)) (w : World) (h : BrS 121 R D L st w) (hL : L ≤ 1073741824) :
    Calls Tryd.prog 99 #[.pointer (some ⟨R, 0, none⟩)] w (fun e w' => ∃ (v : Nat) (st' : Option (List UInt8)), e = .returned (.int .i64 v) ∧ BrS 121 R D L st' w' ∧ But (fun k => k = R) w w' ∧ Gives (dCount 1000) st st' v ∧ v ≤ 1099511627776) := by
  obtain ⟨v, s1, hv⟩ : ∃ v s, gv 0 cM st = (v, s) := ⟨_, _, rfl⟩
  have hvb : v ≤ 1099511627776 := gv_bound (P := (· ≤ 1099511627776)) hv (by decide) (fun l y r h => (dCount_num h).2)
  have hc := Lib.hid (msgNumI R D L st w h hL v s1 hv)
  have hgi := Lib.hid (cut_gives (K := 1000) (by decide) hv)
  have hR := h.lt
  clear h hv
  go_enter Tryd.func99, Tryd.ntmps99
  go_upto_region 2 with (go_at_call 78; (with_reducible refine Calls.mono hc.out ?_); rintro e u1 ⟨rfl, hr1, hb1⟩)
  clear hc
  have c1 := hr1.c1
  have f1 := hr1.free 1
  by_cases hl : v ≤ 1000
  · have t1 : decide ((1000 : Int) < (v : Int)) = false := decide_eq_false (by omega)
    rw [if_pos hl] at hgi
    cases s1 with
    | none =>
      simp only [Option.isNone_none] at c1
      have h2 := Lib.hid hr1.bad
      have hbut := Lib.hid (hb1.trans (but_set u1 R 1 (.bool true)))
      clear hr1 hb1
      go_wp2_with fail
      go_ret
      exact ⟨v, none, rfl, h2.out, hbut.out, hgi.out, hvb⟩
    | some l =>
      simp only [Option.isNone_some] at c1
      have h2 := Lib.hid hr1.stay
      have hbut := Lib.hid (hb1.trans (but_set u1 R 1 (.bool false)))
      clear hr1 hb1
      go_wp2_with fail
      go_ret
      exact ⟨v, some l, rfl, h2.out, hbut.out, hgi.out, hvb⟩
  · have t1 : decide ((1000 : Int) < (v : Int)) = true := decide_eq_true (by omega)
    rw [if_neg hl] at hgi
    have h2 := Lib.hid hr1.bad
    have hbut := Lib.hid (hb1.trans (but_set u1 R 1 (.bool true)))
    cases s1 with
    | none =>
      simp only [Option.isNone_none] at c1
      clear hr1 hb1
      go_wp2_with fail
      go_ret
      exact ⟨v, none, rfl, h2.out, hbut.out, hgi.out, hvb⟩
    | some l =>
      simp only [Option.isNone_some] at c1
      clear hr1 hb1
      go_wp2_with fail
      go_ret
      exact ⟨v, none, rfl, h2.out, hbut.out, hgi.out, hvb⟩
set_option maxRecDepth 100000 in
set_option maxHeartbeats 2000000 in
theorem mrFlag0_any (R D L : Nat) (st : Option (List UInt8)) (w : World) (h : BrS 121 R D L st w) (hL : L ≤ 1073741824) :
    Calls Tryd.prog 80 #[.pointer (some ⟨R, 0, none⟩)] w (fun e w' => ∃ (v : Nat) (st' : Option (List UInt8)), e = .returned (.bool ((v : Int) == 1)) ∧ BrS 121 R D L st' w' ∧ But (fun k => k = R) w w' ∧ Gives (dCount 1) st st' v ∧ v ≤ 1099511627776) := by
  obtain ⟨v, s1, hv⟩ : ∃ v s, gv 0 cM st = (v, s) := ⟨_, _, rfl⟩
  have hvb : v ≤ 1099511627776 := gv_bound (P := (· ≤ 1099511627776)) hv (by decide) (fun l y r h => (dCount_num h).2)
  have hc := Lib.hid (msgNumI R D L st w h hL v s1 hv)
  have hgi := Lib.hid (cut_gives (K := 1) (by decide) hv)
  have hR := h.lt
  clear h hv
  go_enter Tryd.func80, Tryd.ntmps80
  go_upto_region 2 with (go_at_call 78; (with_reducible refine Calls.mono hc.out ?_); rintro e u1 ⟨rfl, hr1, hb1⟩)
  clear hc
  have c1 := hr1.c1
  have f1 := hr1.free 1
  by_cases hl : v ≤ 1
  · have t1 : decide ((1 : Int) < (v : Int)) = false := decide_eq_false (by omega)
    rw [if_pos hl] at hgi
    cases s1 with
    | none =>
      simp only [Option.isNone_none] at c1
      have h2 := Lib.hid hr1.bad
      have hbut := Lib.hid (hb1.trans (but_set u1 R 1 (.bool true)))
      clear hr1 hb1
      go_wp2_with fail
      go_ret
      exact ⟨v, none, rfl, h2.out, hbut.out, hgi.out, hvb⟩
    | some l =>
      simp only [Option.isNone_some] at c1
      have h2 := Lib.hid hr1.stay
      have hbut := Lib.hid (hb1.trans (but_set u1 R 1 (.bool false)))
      clear hr1 hb1
      go_wp2_with fail
      go_ret
      exact ⟨v, some l, rfl, h2.out, hbut.out, hgi.out, hvb⟩
  · have t1 : decide ((1 : Int) < (v : Int)) = true := decide_eq_true (by omega)
    rw [if_neg hl] at hgi
    have h2 := Lib.hid hr1.bad
    have hbut := Lib.hid (hb1.trans (but_set u1 R 1 (.bool true)))
    cases s1 with
    | none =>
      simp only [Option.isNone_none] at c1
      clear hr1 hb1
      go_wp2_with fail
      go_ret
      exact ⟨v, none, rfl, h2.out, hbut.out, hgi.out, hvb⟩
    | some l =>
      simp only [Option.isNone_some] at c1
      clear hr1 hb1
      go_wp2_with fail
      go_ret
      exact ⟨v, none, rfl, h2.out, hbut.out, hgi.out, hvb⟩
theorem mrFlag_any (R D L : Nat) (st : Option (List UInt8)) (w : World) (h : BrS 121 R D L st w) (hL : L ≤ 1073741824) :
    Calls Tryd.prog 80 #[.pointer (some ⟨R, 0, none⟩)] w (MrPost R D L w mFlag st (fun b => .bool b)) := by
  refine (mrFlag0_any R D L st w h hL).mono ?_
  rintro e w' ⟨v, st', rfl, h1, h2, h3, _⟩
  refine ⟨decide (v = 1), st', ?_, h1, h2, h3.bind (Gives.ret _)⟩
  have : ((v : Int) == 1) = decide (v = 1) := by
    rw [Bool.eq_iff_iff]
    simp
    omega
  rw [this]
set_option maxRecDepth 100000 in
set_option maxHeartbeats 2000000 in
theorem mrStamp_any (R D L : Nat) (st : Option (List UInt8)) (w : World) (h : BrS 121 R D L st w) (hL : L ≤ 1073741824) :
    Calls Tryd.prog 77 #[.pointer (some ⟨R, 0, none⟩)] w (MrPost R D L w dStamp st St.val) := by
  have hlt := h.lt
  have hg0 := G.new w (.cells #[.int .i64 0, .int .i64 0, .int .i64 0] 28)
  have B0 := blk_new w #[.int .i64 0, .int .i64 0, .int .i64 0] 28
  have hr0 := h.g hg0
  obtain ⟨A, l, c, g1, g2, g3, g4, g5⟩ := hr0.any
  have c0 := (blk_cell g1 0).trans (show _ = some (.slice A l.length c) from rfl)
  have hzx := hr0.lt
  have hDR := hr0.le
  have hcb := stDec_any l A c _ (g2.more (by omega)) (by omega) g3
  obtain ⟨s, n, ec, hst, hsn⟩ : ∃ (s : St) (n : Nat) (ec : Int), stT l (dStamp l) = .tuple #[stV s.wall s.logic s.node, .int .i64 n, .int .i64 ec] ∧ ((dStamp l = none ∧ n = 0) ∨ ∃ q, dStamp l = some (s, q) ∧ 0 < n ∧ n ≤ l.length ∧ l.drop n = q) := by
    cases hd : dStamp l with
    | none => exact ⟨⟨0, 0, 0⟩, 0, 10, rfl, .inl ⟨rfl, rfl⟩⟩
    | some y =>
      obtain ⟨s, q⟩ := y
      have h2 := cn_took cn_stamp eats_stamp hd
      exact ⟨s, l.length - q.length, 0, rfl, .inr ⟨q, rfl, h2.1, h2.2.1, h2.2.2⟩⟩
  obtain ⟨a, b, cc⟩ := s
  have hcb' : Calls Tryd.prog 97 #[.slice A l.length c] (w.alloc (.cells #[.int .i64 0, .int .i64 0, .int .i64 0] 28)) (fun e w' => e = .returned (.tuple #[.agg #[.int .i64 a, .int .i64 b, .int .i64 cc], .int .i64 n, .int .i64 ec]) ∧ G (w.alloc (.cells #[.int .i64 0, .int .i64 0, .int .i64 0] 28)) w') := by rw [hst] at hcb; exact hcb
  have hgv : Gives dStamp st (tk st n) ⟨a, b, cc⟩ := tk_gives fun l' e => by
    obtain rfl := g5 l' e
    rcases hsn with ⟨h1, h2⟩ | ⟨q, h1, h2, _, h3⟩
    · exact .inl ⟨h1, h2⟩
    · exact .inr ⟨q, h1, h2, h3⟩
  have htk : ∀ l', st = some l' → n ≤ l'.length := fun l' e => by
    obtain rfl := g5 l' e
    rcases hsn with ⟨_, h2⟩ | ⟨q, _, _, h2, _⟩ <;> omega
  replace g1 := Lib.hid g1
  replace g5 := Lib.hid g5
  replace hcb := Lib.hid hcb'
  replace hgv := Lib.hid hgv
  replace htk := Lib.hid htk
  replace g2 := Lib.hid g2
  clear h hst hsn hcb'
  go_enter Tryd.func77, Tryd.ntmps77
  go_upto_region 1 with fail
  generalize w.alloc (.cells #[.int .i64 0, .int .i64 0, .int .i64 0] 28) = W0 at *
  go_upto_region 2 with (go_at_call 97; (with_reducible refine Calls.mono hcb.out ?_); rintro e u1 ⟨rfl, hg1⟩)
  clear c0 hcb
  have hG8 := G.new u1 (.cells #[.int .i64 a, .int .i64 b, .int .i64 cc] 28)
  have hK8 := blk_new u1 #[.int .i64 a, .int .i64 b, .int .i64 cc] 28
  have hGx := hg1.trans hG8
  have hr8 := hr0.g hGx
  have B8 := hGx.blk B0
  have hz8 := hg1.size
  generalize u1.alloc (.cells #[.int .i64 a, .int .i64 b, .int .i64 cc] 28) = w8 at *
  generalize u1.heap.size = b8 at *
  have hto := Lib.hid (msgTake_any R D L st n w8 hr8 htk.out hL)
  have hn8 := mr_typed hr8 hK8 (by decide)
  go_wp2_with (first
    | (go_at_call 96; (with_reducible refine Calls.mono hto.out ?_); rintro e u2 ⟨b2, rfl, hr2, hb2⟩; have K2 := hb2.blk hK8 hn8; have k0 := (blk_cell K2 0).trans (show _ = some (.int .i64 a) from rfl); have k1 := (blk_cell K2 1).trans (show _ = some (.int .i64 b) from rfl); have k2 := (blk_cell K2 2).trans (show _ = some (.int .i64 cc) from rfl); have B2 := hb2.blk B8 (Nat.ne_of_gt hlt); obtain ⟨w9, SR9, C9, hb9, _⟩ := store_blk (P := Tryd.prog) (T := 28) (cs := #[.int .i64 a, .int .i64 b, .int .i64 cc]) B2 rfl (by kernel_rfl) (by kernel_rfl); have hr9 := hr2.but hb9 (fun k hk => by have e : k = w.heap.size := hk; have := hr2.le; omega); replace C9 := Lib.hid C9; replace hr9 := Lib.hid hr9; have hbz := Lib.hid ((But.of_g (hg0.trans hGx)).trans hb2); clear hr2 hb2 B2 K2 hr8 B8 hK8)
    | (refine wpList_store_at (ty := 28) rfl (by kernel_rfl) (p := .pointer (some ⟨w.heap.size, 0, none⟩)) rfl rfl SR9 ?_; clear SR9))
  refine bodyPost_ret (v := .agg #[.int .i64 a, .int .i64 b, .int .i64 cc]) (results_cell (i := 2) rfl rfl C9.out Tryd.underlying28 rfl (by kernel_rfl)) rfl ?_
  exact ⟨⟨a, b, cc⟩, tk st n, rfl, hr9.out, hbz.out.over hb9 (fun k hk => .inl (by have e : k = w.heap.size := hk; omega)), hgv.out⟩
end Go.Proofs.YtheogchkelmeeaaDoor
/- How a reader of streams stands. No condition. -/
namespace Go.Proofs.YtheogchkelmeeaaDoor
open Go.RowKit

theorem evs_elem : IsElem Tryd.prog 33 110 7 72 Ev.cells :=
  isElem_of (z := .agg #[.string ByteArray.empty, .int .i64 0, .string ByteArray.empty, .int .i64 0, .int .i64 0, .int .i64 0, .int .i64 0]) Tryd.underlying33 (by kernel_rfl) rfl (by omega) Ev.cells_len (by intro x u hu; simp [Ev.cells] at hu; rcases hu with rfl | rfl | rfl | rfl | rfl | rfl | rfl <;> rfl)
theorem kns_elem : IsElem Tryd.prog 116 127 5 48 Kn.cells :=
  isElem_of (z := .agg #[.string ByteArray.empty, .int .i64 0, .int .i64 0, .int .i64 0, .int .i64 0]) Tryd.underlying116 (by kernel_rfl) rfl (by omega) Kn.cells_len (by intro x u hu; simp [Kn.cells] at hu; rcases hu with rfl | rfl | rfl | rfl | rfl <;> rfl)
/-- A stream's rows, that the call made from base on. -/
structure SmOwn (base : Nat) (Ae : Option Addr) (ce : Nat) (es : List Ev) (Ak : Option Addr) (ck : Nat) (ks : List Kn) (w : World) : Prop where
  evs : OwnL 110 7 Ev.cells w base (.slice Ae es.length ce) es
  kns : OwnL 127 5 Kn.cells w base (.slice Ak ks.length ck) ks
/-- How the reading of a stream stands: the reader lies at R, the stream at Z, the bytes below D. -/
structure SmSt (T : TypeId) (R Z D : Nat) (A : Option Addr) (c8 : Nat) (l0 : List UInt8) (w : World) (n : ByteArray) (Ae : Option Addr) (ce : Nat) (es : List Ev) (Ak : Option Addr) (ck : Nat) (ks : List Kn) (st : Option (List UInt8)) (wx : World) : Prop where
  rd : RdS T R A c8 l0 st wx
  sl : Sl byteC 1 wx D A l0
  res : wx.heap[Z]? = some (.cells #[.string n, .slice Ae es.length ce, .slice Ak ks.length ck] 118 (0, 0))
  own : SmOwn w.heap.size Ae ce es Ak ck ks wx
  but : But (fun k => k = R) w wx
  dr : D ≤ R
  dw : D ≤ w.heap.size
  zw : w.heap.size ≤ Z
  ty : T ≠ 110 ∧ T ≠ 127 ∧ T ≠ 118
/-- .. and within a key, whose block lies at X. -/
structure KnSt (T : TypeId) (R X : Nat) (A : Option Addr) (c8 : Nat) (l0 : List UInt8) (wa : World) (st : Option (List UInt8)) (cs : Array Value) (wx : World) : Prop where
  rd : RdS T R A c8 l0 st wx
  blk : wx.heap[X]? = some (.cells cs 127 (0, 0))
  but : But (fun k => k = R) wa wx
  pl : X = wa.heap.size
  lt : R < X
section
variable {T : TypeId} {R Z X D base : Nat} {A : Option Addr} {c8 : Nat} {l0 : List UInt8} {w wa wx wy wz : World} {n : ByteArray} {Ae Ak : Option Addr} {ce ck : Nat} {es : List Ev} {ks : List Kn} {st st1 : Option (List UInt8)} {cs : Array Value}
theorem SmOwn.but {S : Nat → Prop} (h : SmOwn base Ae ce es Ak ck ks wx) (hb : But S wx wy) (hS : ∀ (k : Nat) (cs : Array Value) (t : TypeId), S k → wx.heap[k]? = some (.cells cs t (0, 0)) → t ≠ 110 ∧ t ≠ 127) : SmOwn base Ae ce es Ak ck ks wy :=
  ⟨h.evs.but' hb (fun k hk hs => by obtain ⟨_, _, cs, h1⟩ := h.evs.blk hk; exact (hS k cs _ hs h1).1 rfl), h.kns.but' hb (fun k hk hs => by obtain ⟨_, _, cs, h1⟩ := h.kns.blk hk; exact (hS k cs _ hs h1).2 rfl)⟩
theorem SmOwn.ins (h : SmOwn base Ae ce es Ak ck ks wx) : SmIn wx wx.heap.size Ae Ak es ks := ⟨OwnL.self Ev.cells_len h.evs, OwnL.self Kn.cells_len h.kns⟩
theorem SmOwn.g (h : SmOwn base Ae ce es Ak ck ks wx) (hg : G wx wy) : SmOwn base Ae ce es Ak ck ks wy := ⟨h.evs.g hg, h.kns.g hg⟩
theorem SmSt.rz (h : SmSt T R Z D A c8 l0 w n Ae ce es Ak ck ks st wx) : R ≠ Z := by
  rintro rfl
  exact h.ty.2.2 (h.rd.tyAt h.res).symm
theorem SmSt.call (h : SmSt T R Z D A c8 l0 w n Ae ce es Ak ck ks st wx) (hr : RdS T R A c8 l0 st1 wy) (hb : But (fun k => k = R) wx wy) : SmSt T R Z D A c8 l0 w n Ae ce es Ak ck ks st1 wy :=
  ⟨hr, h.sl.keep fun k o hk => hb.cell (by have := h.but.size; have := h.dw; omega) (by have := h.dr; omega), hb.blk h.res (fun e => h.rz e.symm), h.own.but hb (fun k cs t e h1 => by
    subst e
    rw [h.rd.tyAt h1]
    exact ⟨h.ty.1, h.ty.2.1⟩), h.but.trans hb, h.dr, h.dw, h.zw, h.ty⟩
theorem SmSt.g (h : SmSt T R Z D A c8 l0 w n Ae ce es Ak ck ks st wx) (hg : G wx wy) : SmSt T R Z D A c8 l0 w n Ae ce es Ak ck ks st wy := h.call (h.rd.g hg) (.of_g hg)
/-- The stream's own block turns. -/
theorem SmSt.z (h : SmSt T R Z D A c8 l0 w n Ae ce es Ak ck ks st wx) {S : Nat → Prop} (hb : But S wx wy) (hS : ∀ k, S k → w.heap.size ≤ k ∧ k ≠ R) {n' : ByteArray} {Ae' Ak' : Option Addr} {ce' ck' : Nat} {es' : List Ev} {ks' : List Kn} (hres : wy.heap[Z]? = some (.cells #[.string n', .slice Ae' es'.length ce', .slice Ak' ks'.length ck'] 118 (0, 0))) (hp : SmOwn w.heap.size Ae' ce' es' Ak' ck' ks' wy) : SmSt T R Z D A c8 l0 w n' Ae' ce' es' Ak' ck' ks' st wy := by
  have hsl : Sl byteC 1 wy D A l0 := h.sl.keep fun k o hk => hb.cell (by have := h.but.size; have := h.dw; omega) (fun e => by have := (hS k e).1; have := h.dw; omega)
  exact ⟨h.rd.own hsl h.dr hb (fun e => (hS R e).2 rfl), hsl, hres, hp, h.but.up hb (fun k e => (hS k e).1), h.dr, h.dw, h.zw, h.ty⟩
theorem SmSt.name0 (h : SmSt T R Z D A c8 l0 w n Ae ce es Ak ck ks st wx) (n' : ByteArray) : SmSt T R Z D A c8 l0 w n' Ae ce es Ak ck ks st (wx.setCell ⟨Z, 0, none⟩ (.string n')) :=
  h.z (but_set wx Z 0 _) (fun k e => by subst e; exact ⟨h.zw, fun e => h.rz e.symm⟩) (by rw [blk_put h.res]; rfl) (h.own.but (but_set wx Z 0 _) (fun k cs t e h1 => by
    subst e
    rw [h.res] at h1
    cases h1
    decide))
theorem SmSt.free (h : SmSt T R Z D A c8 l0 w n Ae ce es Ak ck ks st wx) (o : Nat) : wx.frozen? ⟨Z, o, none⟩ = false := by simp [World.frozen?, h.res]
theorem SmSt.c0 (h : SmSt T R Z D A c8 l0 w n Ae ce es Ak ck ks st wx) : wx.cell? ⟨Z, 0, none⟩ = some (.string n) := by rw [blk_cell h.res]; rfl
theorem SmSt.c1 (h : SmSt T R Z D A c8 l0 w n Ae ce es Ak ck ks st wx) : wx.cell? ⟨Z, 1, none⟩ = some (.slice Ae es.length ce) := by rw [blk_cell h.res]; rfl
theorem SmSt.c2 (h : SmSt T R Z D A c8 l0 w n Ae ce es Ak ck ks st wx) : wx.cell? ⟨Z, 2, none⟩ = some (.slice Ak ks.length ck) := by rw [blk_cell h.res]; rfl
/-- One more event. -/
theorem SmSt.pushE (h : SmSt T R Z D A c8 l0 w n Ae ce es Ak ck ks st wx) {es' : List Ev} {A' : Option Addr} {c' : Nat} (hown : OwnL 110 7 Ev.cells wz w.heap.size (.slice A' es'.length c') es') (hk : KeepT 110 w.heap.size wx wz) (hb : But (fun k => some k = (Value.slice Ae es.length ce).ownBlock) wx wz) :
    wz.frozen? ⟨Z, 1, none⟩ = false ∧ (∃ u, wz.cell? ⟨Z, 1, none⟩ = some u) ∧ SmSt T R Z D A c8 l0 w n A' c' es' Ak ck ks st (wz.setCell ⟨Z, 1, none⟩ (.slice A' es'.length c')) := by
  have hZ := hk.blk (by decide) h.res
  have hS : ∀ k, some k = (Value.slice Ae es.length ce).ownBlock → w.heap.size ≤ k ∧ k ≠ R := fun k e => by
    obtain ⟨h1, _, cs, h2⟩ := h.own.evs.blk e.symm
    refine ⟨h1, ?_⟩
    rintro rfl
    exact h.ty.1 (h.rd.tyAt h2).symm
  have hne : ∀ k cs t, k = Z → wz.heap[k]? = some (.cells cs t (0, 0)) → t ≠ 110 ∧ t ≠ 127 := fun k cs t e h1 => by
    subst e
    rw [hZ] at h1
    cases h1
    decide
  have hps : SmOwn w.heap.size A' c' es' Ak ck ks wz := ⟨hown, h.own.kns.keepT hk (by decide)⟩
  refine ⟨by simp [World.frozen?, hZ], ⟨_, blk_cell hZ 1⟩, ?_⟩
  exact h.z (S := fun k => some k = (Value.slice Ae es.length ce).ownBlock ∨ k = Z) ((hb.mono fun _ _ => .inl).set (p := ⟨Z, 1, none⟩) (.inr (.inr rfl)) _) (fun k e => by
    rcases e with e | rfl
    · exact hS k e
    · exact ⟨h.zw, fun e => h.rz e.symm⟩) (by rw [blk_put hZ]; rfl) (hps.but (but_set wz Z 1 _) hne)
/-- One more key. -/
theorem SmSt.pushK (h : SmSt T R Z D A c8 l0 w n Ae ce es Ak ck ks st wx) {ks' : List Kn} {A' : Option Addr} {c' : Nat} (hown : OwnL 127 5 Kn.cells wz w.heap.size (.slice A' ks'.length c') ks') (hk : KeepT 127 w.heap.size wx wz) (hb : But (fun k => some k = (Value.slice Ak ks.length ck).ownBlock) wx wz) :
    wz.frozen? ⟨Z, 2, none⟩ = false ∧ (∃ u, wz.cell? ⟨Z, 2, none⟩ = some u) ∧ SmSt T R Z D A c8 l0 w n Ae ce es A' c' ks' st (wz.setCell ⟨Z, 2, none⟩ (.slice A' ks'.length c')) := by
  have hZ := hk.blk (by decide) h.res
  have hS : ∀ k, some k = (Value.slice Ak ks.length ck).ownBlock → w.heap.size ≤ k ∧ k ≠ R := fun k e => by
    obtain ⟨h1, _, cs, h2⟩ := h.own.kns.blk e.symm
    refine ⟨h1, ?_⟩
    rintro rfl
    exact h.ty.2.1 (h.rd.tyAt h2).symm
  have hne : ∀ k cs t, k = Z → wz.heap[k]? = some (.cells cs t (0, 0)) → t ≠ 110 ∧ t ≠ 127 := fun k cs t e h1 => by
    subst e
    rw [hZ] at h1
    cases h1
    decide
  have hps : SmOwn w.heap.size Ae ce es A' c' ks' wz := ⟨h.own.evs.keepT hk (by decide), hown⟩
  refine ⟨by simp [World.frozen?, hZ], ⟨_, blk_cell hZ 2⟩, ?_⟩
  exact h.z (S := fun k => some k = (Value.slice Ak ks.length ck).ownBlock ∨ k = Z) ((hb.mono fun _ _ => .inl).set (p := ⟨Z, 2, none⟩) (.inr (.inr rfl)) _) (fun k e => by
    rcases e with e | rfl
    · exact hS k e
    · exact ⟨h.zw, fun e => h.rz e.symm⟩) (by rw [blk_put hZ]; rfl) (hps.but (but_set wz Z 2 _) hne)
theorem KnSt.call (h : KnSt T R X A c8 l0 wa st cs wx) (hr : RdS T R A c8 l0 st1 wy) (hb : But (fun k => k = R) wx wy) : KnSt T R X A c8 l0 wa st1 cs wy :=
  ⟨hr, hb.blk h.blk (fun e => by have := h.lt; omega), h.but.trans hb, h.pl, h.lt⟩
theorem KnSt.g (h : KnSt T R X A c8 l0 wa st cs wx) (hg : G wx wy) : KnSt T R X A c8 l0 wa st cs wy := h.call (h.rd.g hg) (.of_g hg)
theorem KnSt.cell (h : KnSt T R X A c8 l0 wa st cs wx) (o : Nat) : wx.cell? ⟨X, o, none⟩ = cs[o]? := blk_cell h.blk o
theorem KnSt.free (h : KnSt T R X A c8 l0 wa st cs wx) (o : Nat) : wx.frozen? ⟨X, o, none⟩ = false := by simp [World.frozen?, h.blk]
theorem KnSt.as (h : KnSt T R X A c8 l0 wa st cs wx) {cs' : Array Value} (he : cs = cs') : KnSt T R X A c8 l0 wa st cs' wx := he ▸ h
theorem KnSt.begin {st : Option (List UInt8)} {s : ByteArray} (hr : RdS T R A c8 l0 st wa) : KnSt T R wa.heap.size A c8 l0 wa st #[.string s, .int .i64 0, .int .i64 0, .int .i64 0, .int .i64 0] (wa.alloc (.cells #[.string s, .int .i64 0, .int .i64 0, .int .i64 0, .int .i64 0] 127)) :=
  ⟨hr.g (G.new _ _), blk_new _ _ _, .of_g (G.new _ _), rfl, hr.lt⟩
theorem KnSt.put (h : KnSt T R X A c8 l0 wa st cs wx) (o : Nat) (u : Value) : KnSt T R X A c8 l0 wa st (cs.setIfInBounds o u) (wx.setCell ⟨X, o, none⟩ u) :=
  ⟨h.rd.but (but_set wx X o _) (fun k e => by have := h.lt; omega), blk_put h.blk o u, h.but.set (p := ⟨X, o, none⟩) (.inl (show wa.heap.size ≤ X from Nat.le_of_eq h.pl.symm)) _, h.pl, h.lt⟩
end
/-- What a decoder of streams answers. -/
def smT (l : List UInt8) : Option (Sm × List UInt8) → Sm × Nat × Nat
  | some (x, r) => (x, l.length - r.length, 0)
  | none => (⟨⟨#[]⟩, [], []⟩, 0, 10)
def RetSm (w : World) (l : List UInt8) (e : Ending) (w' : World) : Prop :=
  ∃ (nm : ByteArray) (Ae Ak : Option Addr) (ce ck : Nat) (es : List Ev) (ks : List Kn) (n c : Nat), e = .returned (.tuple #[.agg #[.string nm, .slice Ae es.length ce, .slice Ak ks.length ck], .int .i64 n, .int .i64 c]) ∧ smT l (dStream l) = (⟨nm, es, ks⟩, n, c) ∧ SmSmall nm es ks ∧ SmOwn w.heap.size Ae ce es Ak ck ks w' ∧ G w w'
/-- How many are left. -/
def Left (l0 : List UInt8) (n : Nat) (st : Option (List UInt8)) : Prop := n ≤ 524289 ∧ ∀ l, st = some l → n + l.length ≤ l0.length
theorem Left.step {α : Type} {d : Reader α} {l0 l : List UInt8} {n : Nat} {st : Option (List UInt8)} {x : α} (h : Left l0 n (some l)) (h0 : l0.length ≤ 524288) (hd : Eats d) (hg : Gives d (some l) st x) : Left l0 (n + 1) st := by
  have := h.2 l rfl
  refine ⟨by omega, fun l' e => ?_⟩
  subst e
  have := hd _ _ _ hg.hit
  omega
theorem Left.start {l0 : List UInt8} {st : Option (List UInt8)} (h : ∀ l, st = some l → l.length ≤ l0.length) : Left l0 0 st := ⟨by omega, fun l e => by have := h l e; omega⟩
end Go.Proofs.YtheogchkelmeeaaDoor

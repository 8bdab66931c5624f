/- rec.reader.head: the fields that have no list. Conditions: at most 2^30 bytes; the decoder's tables lie as the library lays them, be the reader and the record turned. -/
import Derived.Test.YthafeaclpcjjbaaGreatDoorM31RecDecodes
import Derived.Test.YthafeaclpcjjbaaGreatDoorEvEncQRecDecodes
namespace Go.Proofs.YthafeaclpcjjbaaGreatDoor
open Go.RowKit
section
variable {R X D L base : Nat} {w0 wx w3 w4 : World} {d : Reader RecP} {k : RecP → Reader RecP} {st0 st st1 : Option (List UInt8)} {r r' : RecM}
theorem HdSt.skip (h : HdSt R X D L base w0 d st0 r st wx) (hk : k r.p = rp r.p) : HdSt R X D L base w0 (rb d k) st0 r st wx := ⟨h.rd, h.rc, h.gv.bind (by rw [hk]; exact Gives.ret _), h.but, h.ls⟩
theorem HdSt.store (h : HdSt R X D L base w0 d st0 r st wx) (hRX : R ≠ X) (hDX : D ≤ X) (hr : BrS 53 R D L st1 w3) (hb : But (fun k => k = R) wx w3) (hb4 : But (fun k => k = X) w3 w4) (hrc : RcSt X base r' w4) (hg : Gives (k r.p) st st1 r'.p) (hls : r'.nodes = [] ∧ r'.sms = []) : HdSt R X D L base w0 (rb d k) st0 r' st1 w4 :=
 ⟨hr.but hb4 fun k hk => by subst hk; exact ⟨hDX, fun e => hRX e.symm⟩, hrc, h.gv.bind hg, (h.but.left hb).right hb4, hls⟩
theorem flag_gives {v : Nat} (h : gv 0 cR st = (v, st1)) : Gives (dCount 1) st (if v ≤ 1 then st1 else none) v := by
 cases st with
 | none =>
  cases h
  exact .inl ⟨by split <;> rfl, rfl⟩
 | some l =>
  cases hd : cR l with
  | none =>
   rw [gv_none hd] at h
   cases h
   exact .inl ⟨by split <;> rfl, dCount_less hd (by omega)⟩
  | some y =>
   obtain ⟨v', q⟩ := y
   rw [gv_some hd] at h
   cases h
   by_cases hv : v ≤ 1
   ·rw [if_pos hv]
    exact .inr ⟨l, q, rfl, dCount_le hd hv, rfl⟩
   ·rw [if_neg hv]
    exact .inl ⟨rfl, dCount_gt hd (by omega)⟩
end
theorem rec_batch {R D L : Nat} {st : Option (List UInt8)} {w : World} {cs : Array Value} (h : BrS 53 R D L st w) (hk : w.heap[R]? = some (.cells cs 31 (0, 0))) : False := by
 obtain ⟨c, h1⟩ := h.blk
 rw [h1] at hk
 simp at hk
theorem rec_stamp {R D L : Nat} {st : Option (List UInt8)} {w : World} {cs : Array Value} (h : BrS 53 R D L st w) (hk : w.heap[R]? = some (.cells cs 25 (0, 0))) : False := by
 obtain ⟨c, h1⟩ := h.blk
 rw [h1] at hk
 simp at hk
def HdPost (R X D L base : Nat) (w : World) (d : Reader RecP) (st0 : Option (List UInt8)) (e : Ending) (w' : World) : Prop := e = .returned (.tuple #[]) ∧ ∃ w0, G w w0 ∧ HdEx R X D L base w0 d st0 w'
set_option maxRecDepth 100000 in
set_option maxHeartbeats 8000000 in
theorem recHdR_any (f : Fl) (R X D L base : Nat) (r0 : RecM) (st0 : Option (List UInt8)) (w : World) (hrd : BrS 53 R D L st0 w) (hrc : RcSt X base r0 w) (h0 : r0.nodes = [] ∧ r0.sms = []) (hRX : R ≠ X) (hDX : D ≤ X) (hbase : base ≤ w.heap.size) (hL : L ≤ 1073741824) (hT : ∀ w1 w2, G w w1 → But (fun k => k = R ∨ k = X) w1 w2 → Tabs w2) :
  Calls Tryz.prog 11 #[.pointer (some ⟨R, 0, none⟩), .pointer (some ⟨X, 0, none⟩), .agg f.cells] w (HdPost R X D L base w (dHead f r0.p) st0) := by
 have hg0 := G.new w (.cells f.cells 48)
 have BF := blk_new w f.cells 48
 have hR := hrd.lt
 have hX := hrc.lt
 have hDR := hrd.le
 have hs : HdSt R X D L base (w.alloc (.cells f.cells 48)) (rp r0.p) st0 r0 st0 (w.alloc (.cells f.cells 48)) := ⟨hrd.g hg0, hrc.g hg0, Gives.ret _, But.refl _ _, h0⟩
 have hTw : ∀ w', But (fun k => k = R ∨ k = X) (w.alloc (.cells f.cells 48)) w' → Tabs w' := fun w' h => hT _ _ hg0 h
 have hzb := hg0.size
 clear hrd hrc hT h0
 replace hs := Lib.hid hs
 replace hTw := Lib.hid hTw
 replace hg0 := Lib.hid hg0
 replace BF := Lib.hid BF
 go_enter Tryz.func11, Tryz.ntmps11
 go_upto_region 1 with fail
 generalize w.alloc (.cells f.cells 48) = W0 at *
 replace hs := hs.out
 have hs0 : HdEx R X D L base W0 (rp r0.p) st0 W0 := ⟨r0, st0, hs⟩
 clear hs
 obtain ⟨r, st, hs⟩ := hs0
 have BF' := hs.but.blk BF.out (by rintro (h | h) <;> omega)
 have gf := (blk_cell BF' 0).trans (show _ = some (.bool f.n) from rfl)
 replace hs := Lib.hid hs
 clear BF'
 go_upto_if 14 with fail
 go_cut [] (fun wz => HdEx R X D L base W0 (rb (rp r0.p) (dH1 f)) st0 wz)
 case first =>
  cases hf : f.n with
  | false =>
   rw [hf] at gf
   have hs' := Lib.hid (hs.out.skip (k := dH1 f) (by unfold dH1; rw [hf]; rfl))
   clear hs
   go_wp2_with fail
   go_meet
   exact ⟨_, _, hs'.out⟩
  | true =>
   rw [hf] at gf
   replace hf := Lib.hid hf
   obtain ⟨v1, s1, hv1⟩ : ∃ v s, gv 0 cR st = (v, s) := ⟨_, _, rfl⟩
   have hrc0 := hs.out.rc
   have hrd0 := hs.out.rd
   have hcw : ∀ (st : Option (List UInt8)) (w' : World), BrS 53 R D L st w' → Calls Tryz.prog 29 #[.pointer (some ⟨R, 0, none⟩)] w' (BrPost 53 R D L w' (.int .i64 (gv 0 cR st).1) (gv 0 cR st).2) := fun st w' h => recNum_any R D L st w' h hL
   have hc1 : ∀ w', BrS 53 R D L st w' → Calls Tryz.prog 29 #[.pointer (some ⟨R, 0, none⟩)] w' (BrPost 53 R D L w' (.int .i64 v1) s1) := fun w' h => by have h1 := hcw _ w' h; rw [hv1] at h1; exact h1
   replace hc1 := Lib.hid hc1
   replace hv1 := Lib.hid hv1
   clear hcw
   replace hrc0 := Lib.hid hrc0
   replace hrd0 := Lib.hid hrd0
   go_wp2_with (go_at_call 29; (with_reducible refine Calls.mono (hc1.out _ hrd0.out) ?_); rintro e u1 ⟨rfl, hr1, hb1⟩; have hB1 : But (fun k => k = R) _ u1 := hb1; have hrc1 := (hrc0.out).reader (hrd0.out) hRX hb1; have cx0 := (blk_cell hrc1.blk 1).trans (show _ = some (.int .i64 r.n) from rfl); have fx0 := hrc1.free 1; replace hrc1 := Lib.hid hrc1; replace hr1 := Lib.hid hr1; clear hb1 hc1)
   go_meet
   exact ⟨{ r with n := v1 }, s1, hs.out.store hRX hDX hr1.out hB1 (but_set u1 X 1 (.int .i64 v1)) (hrc1.out.nums (but_set u1 X 1 (.int .i64 v1)) r.kind (v1) r.dst r.yes r.st r.x1 r.x2 r.x3 r.z1 r.z2 r.z3 r.z4 (by rw [blk_put hrc1.out.blk _ _]; rfl)) (by unfold dH1; rw [if_pos hf.out]; exact (gv_gives hv1.out).bind (Gives.ret _)) hs.out.ls⟩
 case rest =>
  clear gf hs
  obtain ⟨r, st, hs⟩ := hcut
  have BF' := hs.but.blk BF.out (by rintro (h | h) <;> omega)
  have gf := (blk_cell BF' 4).trans (show _ = some (.bool f.tx) from rfl)
  replace hs := Lib.hid hs
  clear BF'
  go_upto_if 21 with fail
  go_cut [] (fun wz => HdEx R X D L base W0 (rb (rb (rp r0.p) (dH1 f)) (dH2 f)) st0 wz)
  case first =>
   cases hf : f.tx with
   | false =>
    rw [hf] at gf
    have hs' := Lib.hid (hs.out.skip (k := dH2 f) (by unfold dH2; rw [hf]; rfl))
    clear hs
    go_wp2_with fail
    go_meet
    exact ⟨_, _, hs'.out⟩
   | true =>
    rw [hf] at gf
    replace hf := Lib.hid hf
    obtain ⟨v1, s1, hv1⟩ : ∃ v s, gv 0 cR st = (v, s) := ⟨_, _, rfl⟩
    obtain ⟨v2, s2, hv2⟩ : ∃ v s, gv 0 cR s1 = (v, s) := ⟨_, _, rfl⟩
    obtain ⟨v3, s3, hv3⟩ : ∃ v s, gv 0 cR s2 = (v, s) := ⟨_, _, rfl⟩
    have hrc0 := hs.out.rc
    have hrd0 := hs.out.rd
    have hcw : ∀ (st : Option (List UInt8)) (w' : World), BrS 53 R D L st w' → Calls Tryz.prog 29 #[.pointer (some ⟨R, 0, none⟩)] w' (BrPost 53 R D L w' (.int .i64 (gv 0 cR st).1) (gv 0 cR st).2) := fun st w' h => recNum_any R D L st w' h hL
    have hc1 : ∀ w', BrS 53 R D L st w' → Calls Tryz.prog 29 #[.pointer (some ⟨R, 0, none⟩)] w' (BrPost 53 R D L w' (.int .i64 v1) s1) := fun w' h => by have h1 := hcw _ w' h; rw [hv1] at h1; exact h1
    have hc2 : ∀ w', BrS 53 R D L s1 w' → Calls Tryz.prog 29 #[.pointer (some ⟨R, 0, none⟩)] w' (BrPost 53 R D L w' (.int .i64 v2) s2) := fun w' h => by have h1 := hcw _ w' h; rw [hv2] at h1; exact h1
    have hc3 : ∀ w', BrS 53 R D L s2 w' → Calls Tryz.prog 29 #[.pointer (some ⟨R, 0, none⟩)] w' (BrPost 53 R D L w' (.int .i64 v3) s3) := fun w' h => by have h1 := hcw _ w' h; rw [hv3] at h1; exact h1
    replace hc1 := Lib.hid hc1
    replace hc2 := Lib.hid hc2
    replace hc3 := Lib.hid hc3
    replace hv1 := Lib.hid hv1
    replace hv2 := Lib.hid hv2
    replace hv3 := Lib.hid hv3
    clear hcw
    replace hrc0 := Lib.hid hrc0
    replace hrd0 := Lib.hid hrd0
    go_wp2_with (first
     | (go_at_call 29; (with_reducible refine Calls.mono (hc3.out _ hr2.out) ?_); rintro e u3 ⟨rfl, hr3, hb3⟩; have hB3 : But (fun k => k = R) _ u3 := hB2.trans hb3; have hrc3 := (hrc2.out).reader (hr2.out) hRX hb3; have cx0 := (blk_cell hrc3.blk 7).trans (show _ = some (.int .i64 r.x1) from rfl); have fx0 := hrc3.free 7; have cx1 := (blk_cell hrc3.blk 8).trans (show _ = some (.int .i64 r.x2) from rfl); have fx1 := hrc3.free 8; have cx2 := (blk_cell hrc3.blk 9).trans (show _ = some (.int .i64 r.x3) from rfl); have fx2 := hrc3.free 9; replace hrc3 := Lib.hid hrc3; replace hr3 := Lib.hid hr3; clear hb3 hc3)
     | (go_at_call 29; (with_reducible refine Calls.mono (hc2.out _ hr1.out) ?_); rintro e u2 ⟨rfl, hr2, hb2⟩; have hB2 : But (fun k => k = R) _ u2 := hB1.trans hb2; have hrc2 := (hrc1.out).reader (hr1.out) hRX hb2; replace hrc2 := Lib.hid hrc2; replace hr2 := Lib.hid hr2; clear hb2 hc2)
     | (go_at_call 29; (with_reducible refine Calls.mono (hc1.out _ hrd0.out) ?_); rintro e u1 ⟨rfl, hr1, hb1⟩; have hB1 : But (fun k => k = R) _ u1 := hb1; have hrc1 := (hrc0.out).reader (hrd0.out) hRX hb1; replace hrc1 := Lib.hid hrc1; replace hr1 := Lib.hid hr1; clear hb1 hc1))
    go_meet
    exact ⟨{ r with x1 := v1, x2 := v2, x3 := v3 }, s3, hs.out.store hRX hDX hr3.out hB3 (((but_set u3 X 7 (.int .i64 v1)).trans (but_set _ X 8 (.int .i64 v2))).trans (but_set _ X 9 (.int .i64 v3))) (hrc3.out.nums (((but_set u3 X 7 (.int .i64 v1)).trans (but_set _ X 8 (.int .i64 v2))).trans (but_set _ X 9 (.int .i64 v3))) r.kind r.n r.dst r.yes r.st (v1) (v2) (v3) r.z1 r.z2 r.z3 r.z4 (by rw [blk_put (blk_put (blk_put hrc3.out.blk _ _) _ _) _ _]; rfl)) (by unfold dH2; rw [if_pos hf.out]; exact (gv_gives hv1.out).bind ((gv_gives hv2.out).bind ((gv_gives hv3.out).bind (Gives.ret _)))) hs.out.ls⟩
  case rest =>
   clear gf hs
   obtain ⟨r, st, hs⟩ := hcut
   have BF' := hs.but.blk BF.out (by rintro (h | h) <;> omega)
   have gf := (blk_cell BF' 2).trans (show _ = some (.bool f.yes) from rfl)
   replace hs := Lib.hid hs
   clear BF'
   go_upto_if 33 with fail
   go_cut [] (fun wz => HdEx R X D L base W0 (rb (rb (rb (rp r0.p) (dH1 f)) (dH2 f)) (dH3 f)) st0 wz)
   case first =>
    cases hf : f.yes with
    | false =>
     rw [hf] at gf
     have hs' := Lib.hid (hs.out.skip (k := dH3 f) (by unfold dH3; rw [hf]; rfl))
     clear hs
     go_wp2_with fail
     go_meet
     exact ⟨_, _, hs'.out⟩
    | true =>
     rw [hf] at gf
     replace hf := Lib.hid hf
     obtain ⟨v1, s1, hv1⟩ : ∃ v s, gv 0 cR st = (v, s) := ⟨_, _, rfl⟩
     have hrc0 := hs.out.rc
     have hrd0 := hs.out.rd
     have hc1 := recNum_any R D L st _ hrd0 hL
     rw [hv1] at hc1
     have hgv := flag_gives hv1
     have hbool : ∀ v : Nat, ((v : Int) == 1) = decide (v = 1) := fun v => by by_cases h : v = 1 <;> simp [h] <;> omega
     replace hbool := Lib.hid hbool
     replace hgv := Lib.hid hgv
     replace hc1 := Lib.hid hc1
     replace hv1 := Lib.hid hv1
     replace hrc0 := Lib.hid hrc0
     replace hrd0 := Lib.hid hrd0
     obtain ⟨bq, hbq⟩ : ∃ b, ((v1 : Int) == 1) = b := ⟨_, rfl⟩
     have hbq2 := Lib.hid (show bq = decide (v1 = 1) by rw [← hbq]; exact hbool.out v1)
     cases s1 with
     | none =>
      have hgv2 : Hid (Gives (dCount 1) st none v1) := Lib.hid (by have := hgv.out; rw [ite_self] at this; exact this)
      go_wp2_with (go_at_call 29; (with_reducible refine Calls.mono hc1.out ?_); rintro e u1 ⟨rfl, hr1, hb1⟩; have hrc1 := (hrc0.out).reader (hrd0.out) hRX hb1; have c1 := hr1.c1; have f1 := hr1.free 1; have hr2 := hr1.bad; have hb2 := hb1.trans (but_set u1 R 1 (.bool true)); have hrc2 := hrc1.reader hr1 hRX (but_set u1 R 1 (.bool true)); have cx := (blk_cell hrc2.blk 3).trans (show _ = some (.bool r.yes) from rfl); have fx := hrc2.free 3; simp only [Option.isNone_none] at c1; replace hrc1 := Lib.hid hrc1; replace hrc2 := Lib.hid hrc2; replace hr2 := Lib.hid hr2; clear hr1 hb1)
      go_meet
      exact ⟨{ r with yes := bq }, _, hs.out.store hRX hDX hr2.out hb2 (but_set _ X 3 (.bool bq)) (hrc2.out.nums (but_set _ X 3 (.bool bq)) r.kind r.n r.dst (bq) r.st r.x1 r.x2 r.x3 r.z1 r.z2 r.z3 r.z4 (by rw [blk_put hrc2.out.blk]; rfl)) (by unfold dH3; rw [if_pos hf.out, hbq2.out]; exact hgv2.out.bind (Gives.ret _)) hs.out.ls⟩
     | some q =>
      by_cases hq : 1 < v1
      ·have t1 : decide (1 < (v1 : Int)) = true := decide_eq_true (by omega)
       have hgv2 : Hid (Gives (dCount 1) st none v1) := Lib.hid (by have := hgv.out; rw [if_neg (by omega)] at this; exact this)
       clear hq
       go_wp2_with (go_at_call 29; (with_reducible refine Calls.mono hc1.out ?_); rintro e u1 ⟨rfl, hr1, hb1⟩; have hrc1 := (hrc0.out).reader (hrd0.out) hRX hb1; have c1 := hr1.c1; have f1 := hr1.free 1; have hr2 := hr1.bad; have hb2 := hb1.trans (but_set u1 R 1 (.bool true)); have hrc2 := hrc1.reader hr1 hRX (but_set u1 R 1 (.bool true)); have cx := (blk_cell hrc2.blk 3).trans (show _ = some (.bool r.yes) from rfl); have fx := hrc2.free 3; simp only [Option.isNone_some] at c1; replace hrc1 := Lib.hid hrc1; replace hrc2 := Lib.hid hrc2; replace hr2 := Lib.hid hr2; clear hr1 hb1)
       go_meet
       exact ⟨{ r with yes := bq }, _, hs.out.store hRX hDX hr2.out hb2 (but_set _ X 3 (.bool bq)) (hrc2.out.nums (but_set _ X 3 (.bool bq)) r.kind r.n r.dst (bq) r.st r.x1 r.x2 r.x3 r.z1 r.z2 r.z3 r.z4 (by rw [blk_put hrc2.out.blk]; rfl)) (by unfold dH3; rw [if_pos hf.out, hbq2.out]; exact hgv2.out.bind (Gives.ret _)) hs.out.ls⟩
      ·have t1 : decide (1 < (v1 : Int)) = false := decide_eq_false (by omega)
       have hgv2 : Hid (Gives (dCount 1) st (some q) v1) := Lib.hid (by have := hgv.out; rw [if_pos (by omega)] at this; exact this)
       clear hq
       go_wp2_with (go_at_call 29; (with_reducible refine Calls.mono hc1.out ?_); rintro e u1 ⟨rfl, hr1, hb1⟩; have hrc1 := (hrc0.out).reader (hrd0.out) hRX hb1; have c1 := hr1.c1; have f1 := hr1.free 1; have hr2 := hr1.stay; have hb2 := hb1.trans (but_set u1 R 1 (.bool false)); have hrc2 := hrc1.reader hr1 hRX (but_set u1 R 1 (.bool false)); have cx := (blk_cell hrc2.blk 3).trans (show _ = some (.bool r.yes) from rfl); have fx := hrc2.free 3; simp only [Option.isNone_some] at c1; replace hrc1 := Lib.hid hrc1; replace hrc2 := Lib.hid hrc2; replace hr2 := Lib.hid hr2; clear hr1 hb1)
       go_meet
       exact ⟨{ r with yes := bq }, _, hs.out.store hRX hDX hr2.out hb2 (but_set _ X 3 (.bool bq)) (hrc2.out.nums (but_set _ X 3 (.bool bq)) r.kind r.n r.dst (bq) r.st r.x1 r.x2 r.x3 r.z1 r.z2 r.z3 r.z4 (by rw [blk_put hrc2.out.blk]; rfl)) (by unfold dH3; rw [if_pos hf.out, hbq2.out]; exact hgv2.out.bind (Gives.ret _)) hs.out.ls⟩
   case rest =>
    clear gf hs
    obtain ⟨r, st, hs⟩ := hcut
    have BF' := hs.but.blk BF.out (by rintro (h | h) <;> omega)
    have gf := (blk_cell BF' 6).trans (show _ = some (.bool f.bat) from rfl)
    replace hs := Lib.hid hs
    clear BF'
    go_upto_if 53 with fail
    go_cut [] (fun wz => HdEx R X D L base W0 (rb (rb (rb (rb (rp r0.p) (dH1 f)) (dH2 f)) (dH3 f)) (dH4 f)) st0 wz)
    case first =>
     cases hf : f.bat with
     | false =>
      rw [hf] at gf
      have hs' := Lib.hid (hs.out.skip (k := dH4 f) (by unfold dH4; rw [hf]; rfl))
      clear hs
      go_wp2_with fail
      go_meet
      exact ⟨_, _, hs'.out⟩
     | true =>
      rw [hf] at gf
      replace hf := Lib.hid hf
      have hrc0 := hs.out.rc
      have hrd0 := hs.out.rd
      have hbu := hs.out.but
      obtain ⟨A, l, c, g1, g2, g3, g4, g5⟩ := hrd0.any
      have c0 := (blk_cell g1 0).trans (show _ = some (.slice A l.length c) from rfl)
      have hzx := hrd0.lt
      have hcb := decBatch_any l A c _ (g2.more (by omega)) (by omega) g3 (hTw.out _ hbu)
      have hzw := hbu.size
      replace g1 := Lib.hid g1
      replace g5 := Lib.hid g5
      replace hcb := Lib.hid hcb
      replace hrc0 := Lib.hid hrc0
      replace hrd0 := Lib.hid hrd0
      replace hbu := Lib.hid hbu
      replace g2 := Lib.hid g2
      go_upto_region 11 with (go_at_call 30; (with_reducible refine Calls.mono hcb.out ?_); rintro e u1 ⟨kk, Ak, ck, mk, nk, ek, rfl, hbt, hzk, hsk, hok, hg1⟩; replace hbt := Lib.hid hbt; replace hsk := Lib.hid hsk; replace hok := Lib.hid hok)
      clear c0 hcb
      have hG8 := G.new u1 (.cells #[.string kk, .slice Ak mk.length ck] 31)
      have hK8 := blk_new u1 #[.string kk, .slice Ak mk.length ck] 31
      have hrd8 := (hrd0.out.g hg1).g hG8
      have hrc8 := (hrc0.out.g hg1).g hG8
      have hz8 := hg1.size
      have hbu8 := (hbu.out.g hg1).g hG8
      have hGx := Lib.hid (hg1.trans hG8)
      have hok8 := PutsOwn.mono (base' := base) (PutsOwn.but hok.out (But.of_g (S := fun _ => False) hG8) (fun _ _ _ h => h.elim)) (by omega)
      generalize u1.alloc (.cells #[.string kk, .slice Ak mk.length ck] 31) = w8 at *
      generalize u1.heap.size = b8 at *
      have htk : ∀ l', st = some l' → nk ≤ l'.length := fun l' e => by
       obtain rfl := g5.out l' e
       have h1 := hbt.out
       unfold batT at h1
       split at h1 <;> (simp only [Prod.mk.injEq] at h1; omega)
      have hto := Lib.hid (recTake_any R D L st nk w8 hrd8 htk hL)
      have hgv4 : Gives dBatch st (tk st nk) (kk, mk.map PutM.p) := tk_gives fun l' e => by
       obtain rfl := g5.out l' e
       have h1 := hbt.out
       cases hd : dBatch l' with
       | none =>
        rw [hd] at h1
        simp only [batT, Prod.mk.injEq] at h1
        exact .inl ⟨rfl, h1.2.1.symm⟩
       | some y =>
        obtain ⟨y, q⟩ := y
        rw [hd] at h1
        simp only [batT, Prod.mk.injEq] at h1
        obtain ⟨e1, e2, _⟩ := h1
        have h2 := cn_took (f := fun b => batL b.1 b.2) (fun l x r h => cn_batch h) eats_batch hd
        rw [e1, ← e2]
        exact .inr ⟨q, rfl, h2.1, h2.2.2⟩
      replace hgv4 := Lib.hid hgv4
      replace hK8 := Lib.hid hK8
      replace hrd8 := Lib.hid hrd8
      replace hrc8 := Lib.hid hrc8
      replace hbu8 := Lib.hid hbu8
      replace hok8 := Lib.hid hok8
      clear htk hg1 hG8 hok g1 g2 g3 g4 hzx hzw hz8 hrc0 hrd0 hbu g5
      obtain ⟨s4, hs4⟩ : ∃ s, tk st nk = s := ⟨_, rfl⟩
      rw [hs4] at hto hgv4
      replace hs4 := Lib.hid hs4
      skip
      go_wp2_with (go_at_call 31; (with_reducible refine Calls.mono hto.out ?_); rintro e u2 ⟨b2, rfl, hr2, hb2⟩; have hrc2 := hrc8.out.reader hrd8.out hRX hb2; have k0 := (blk_cell (hb2.blk hK8.out (by intro h; rw [h] at hK8; exact rec_batch hrd8.out hK8.out)) 0).trans (show _ = some (.string kk) from rfl); have k1 := (blk_cell (hb2.blk hK8.out (by intro h; rw [h] at hK8; exact rec_batch hrd8.out hK8.out)) 1).trans (show _ = some (.slice Ak mk.length ck) from rfl); have hok2 := hok8.out.but hb2 (fun k cs t hk hc => ((reader_alien hrd8.out hRX k hk).2 cs t hc).2.1); have cx := (blk_cell hrc2.blk 11).trans (show _ = some (.string r.key) from rfl); have fx := hrc2.free 11; have cx2 := (blk_cell hrc2.blk 12).trans (show _ = some (.slice r.Ap r.ps.length r.cp) from rfl); have fx2 := hrc2.free 12; replace hrc2 := Lib.hid hrc2; replace hr2 := Lib.hid hr2; replace hok2 := Lib.hid hok2)
      go_meet
      have hbx := (but_set u2 X 11 (.string kk)).trans (but_set _ X 12 (.slice Ak mk.length ck))
      have hblk := blk_put (blk_put hrc2.out.blk 11 (.string kk)) 12 (.slice Ak mk.length ck)
      have hok3 := PutsOwn.but hok2.out hbx (fun k cs t hk hc => by subst hk; rw [hrc2.out.blk] at hc; simp at hc; rw [← hc.2]; decide)
      exact ⟨{ r with key := kk, Ap := Ak, cp := ck, ps := mk }, s4, hs.out.store hRX hDX hr2.out ((But.of_g hGx.out).trans hb2) hbx (hrc2.out.bat hbx hzk hsk.out hok3 (by rw [hblk]; rfl)) (by unfold dH4; rw [if_pos hf.out]; exact hgv4.out.bind (Gives.ret _)) hs.out.ls⟩
    case rest =>
     clear gf hs
     obtain ⟨r, st, hs⟩ := hcut
     have BF' := hs.but.blk BF.out (by rintro (h | h) <;> omega)
     have gf := (blk_cell BF' 7).trans (show _ = some (.bool f.span) from rfl)
     replace hs := Lib.hid hs
     clear BF'
     go_upto_if 71 with fail
     go_cut [] (fun wz => HdEx R X D L base W0 (rb (rb (rb (rb (rb (rp r0.p) (dH1 f)) (dH2 f)) (dH3 f)) (dH4 f)) (dH5 f)) st0 wz)
     case first =>
      cases hf : f.span with
      | false =>
       rw [hf] at gf
       have hs' := Lib.hid (hs.out.skip (k := dH5 f) (by unfold dH5; rw [hf]; rfl))
       clear hs
       go_wp2_with fail
       go_meet
       exact ⟨_, _, hs'.out⟩
      | true =>
       rw [hf] at gf
       replace hf := Lib.hid hf
       obtain ⟨v1, s1, hv1⟩ : ∃ v s, gv 0 cR st = (v, s) := ⟨_, _, rfl⟩
       obtain ⟨v2, s2, hv2⟩ : ∃ v s, gv 0 cR s1 = (v, s) := ⟨_, _, rfl⟩
       obtain ⟨v3, s3, hv3⟩ : ∃ v s, gv 0 cR s2 = (v, s) := ⟨_, _, rfl⟩
       obtain ⟨v4, s4, hv4⟩ : ∃ v s, gv 0 cR s3 = (v, s) := ⟨_, _, rfl⟩
       have hrc0 := hs.out.rc
       have hrd0 := hs.out.rd
       have hcw : ∀ (st : Option (List UInt8)) (w' : World), BrS 53 R D L st w' → Calls Tryz.prog 29 #[.pointer (some ⟨R, 0, none⟩)] w' (BrPost 53 R D L w' (.int .i64 (gv 0 cR st).1) (gv 0 cR st).2) := fun st w' h => recNum_any R D L st w' h hL
       have hc1 : ∀ w', BrS 53 R D L st w' → Calls Tryz.prog 29 #[.pointer (some ⟨R, 0, none⟩)] w' (BrPost 53 R D L w' (.int .i64 v1) s1) := fun w' h => by have h1 := hcw _ w' h; rw [hv1] at h1; exact h1
       have hc2 : ∀ w', BrS 53 R D L s1 w' → Calls Tryz.prog 29 #[.pointer (some ⟨R, 0, none⟩)] w' (BrPost 53 R D L w' (.int .i64 v2) s2) := fun w' h => by have h1 := hcw _ w' h; rw [hv2] at h1; exact h1
       have hc3 : ∀ w', BrS 53 R D L s2 w' → Calls Tryz.prog 29 #[.pointer (some ⟨R, 0, none⟩)] w' (BrPost 53 R D L w' (.int .i64 v3) s3) := fun w' h => by have h1 := hcw _ w' h; rw [hv3] at h1; exact h1
       have hc4 : ∀ w', BrS 53 R D L s3 w' → Calls Tryz.prog 29 #[.pointer (some ⟨R, 0, none⟩)] w' (BrPost 53 R D L w' (.int .i64 v4) s4) := fun w' h => by have h1 := hcw _ w' h; rw [hv4] at h1; exact h1
       replace hc1 := Lib.hid hc1
       replace hc2 := Lib.hid hc2
       replace hc3 := Lib.hid hc3
       replace hc4 := Lib.hid hc4
       replace hv1 := Lib.hid hv1
       replace hv2 := Lib.hid hv2
       replace hv3 := Lib.hid hv3
       replace hv4 := Lib.hid hv4
       clear hcw
       replace hrc0 := Lib.hid hrc0
       replace hrd0 := Lib.hid hrd0
       go_wp2_with (first
        | (go_at_call 29; (with_reducible refine Calls.mono (hc4.out _ hr3.out) ?_); rintro e u4 ⟨rfl, hr4, hb4⟩; have hB4 : But (fun k => k = R) _ u4 := hB3.trans hb4; have hrc4 := (hrc3.out).reader (hr3.out) hRX hb4; have cx0 := (blk_cell hrc4.blk 13).trans (show _ = some (.int .i64 r.z1) from rfl); have fx0 := hrc4.free 13; have cx1 := (blk_cell hrc4.blk 14).trans (show _ = some (.int .i64 r.z2) from rfl); have fx1 := hrc4.free 14; have cx2 := (blk_cell hrc4.blk 15).trans (show _ = some (.int .i64 r.z3) from rfl); have fx2 := hrc4.free 15; have cx3 := (blk_cell hrc4.blk 16).trans (show _ = some (.int .i64 r.z4) from rfl); have fx3 := hrc4.free 16; replace hrc4 := Lib.hid hrc4; replace hr4 := Lib.hid hr4; clear hb4 hc4)
        | (go_at_call 29; (with_reducible refine Calls.mono (hc3.out _ hr2.out) ?_); rintro e u3 ⟨rfl, hr3, hb3⟩; have hB3 : But (fun k => k = R) _ u3 := hB2.trans hb3; have hrc3 := (hrc2.out).reader (hr2.out) hRX hb3; replace hrc3 := Lib.hid hrc3; replace hr3 := Lib.hid hr3; clear hb3 hc3)
        | (go_at_call 29; (with_reducible refine Calls.mono (hc2.out _ hr1.out) ?_); rintro e u2 ⟨rfl, hr2, hb2⟩; have hB2 : But (fun k => k = R) _ u2 := hB1.trans hb2; have hrc2 := (hrc1.out).reader (hr1.out) hRX hb2; replace hrc2 := Lib.hid hrc2; replace hr2 := Lib.hid hr2; clear hb2 hc2)
        | (go_at_call 29; (with_reducible refine Calls.mono (hc1.out _ hrd0.out) ?_); rintro e u1 ⟨rfl, hr1, hb1⟩; have hB1 : But (fun k => k = R) _ u1 := hb1; have hrc1 := (hrc0.out).reader (hrd0.out) hRX hb1; replace hrc1 := Lib.hid hrc1; replace hr1 := Lib.hid hr1; clear hb1 hc1))
       go_meet
       exact ⟨{ r with z1 := v1, z2 := v2, z3 := v3, z4 := v4 }, s4, hs.out.store hRX hDX hr4.out hB4 ((((but_set u4 X 13 (.int .i64 v1)).trans (but_set _ X 14 (.int .i64 v2))).trans (but_set _ X 15 (.int .i64 v3))).trans (but_set _ X 16 (.int .i64 v4))) (hrc4.out.nums ((((but_set u4 X 13 (.int .i64 v1)).trans (but_set _ X 14 (.int .i64 v2))).trans (but_set _ X 15 (.int .i64 v3))).trans (but_set _ X 16 (.int .i64 v4))) r.kind r.n r.dst r.yes r.st r.x1 r.x2 r.x3 (v1) (v2) (v3) (v4) (by rw [blk_put (blk_put (blk_put (blk_put hrc4.out.blk _ _) _ _) _ _) _ _]; rfl)) (by unfold dH5; rw [if_pos hf.out]; exact (gv_gives hv1.out).bind ((gv_gives hv2.out).bind ((gv_gives hv3.out).bind ((gv_gives hv4.out).bind (Gives.ret _))))) hs.out.ls⟩
     case rest =>
      clear gf hs
      obtain ⟨r, st, hs⟩ := hcut
      have BF' := hs.but.blk BF.out (by rintro (h | h) <;> omega)
      have gf := (blk_cell BF' 1).trans (show _ = some (.bool f.dst) from rfl)
      replace hs := Lib.hid hs
      clear BF'
      go_upto_if 85 with fail
      go_cut [] (fun wz => HdEx R X D L base W0 (rb (rb (rb (rb (rb (rb (rp r0.p) (dH1 f)) (dH2 f)) (dH3 f)) (dH4 f)) (dH5 f)) (dH6 f)) st0 wz)
      case first =>
       cases hf : f.dst with
       | false =>
        rw [hf] at gf
        have hs' := Lib.hid (hs.out.skip (k := dH6 f) (by unfold dH6; rw [hf]; rfl))
        clear hs
        go_wp2_with fail
        go_meet
        exact ⟨_, _, hs'.out⟩
       | true =>
        rw [hf] at gf
        replace hf := Lib.hid hf
        obtain ⟨v1, s1, hv1⟩ : ∃ v s, gv 0 cR st = (v, s) := ⟨_, _, rfl⟩
        have hrc0 := hs.out.rc
        have hrd0 := hs.out.rd
        have hcw : ∀ (st : Option (List UInt8)) (w' : World), BrS 53 R D L st w' → Calls Tryz.prog 29 #[.pointer (some ⟨R, 0, none⟩)] w' (BrPost 53 R D L w' (.int .i64 (gv 0 cR st).1) (gv 0 cR st).2) := fun st w' h => recNum_any R D L st w' h hL
        have hc1 : ∀ w', BrS 53 R D L st w' → Calls Tryz.prog 29 #[.pointer (some ⟨R, 0, none⟩)] w' (BrPost 53 R D L w' (.int .i64 v1) s1) := fun w' h => by have h1 := hcw _ w' h; rw [hv1] at h1; exact h1
        replace hc1 := Lib.hid hc1
        replace hv1 := Lib.hid hv1
        clear hcw
        replace hrc0 := Lib.hid hrc0
        replace hrd0 := Lib.hid hrd0
        go_wp2_with (go_at_call 29; (with_reducible refine Calls.mono (hc1.out _ hrd0.out) ?_); rintro e u1 ⟨rfl, hr1, hb1⟩; have hB1 : But (fun k => k = R) _ u1 := hb1; have hrc1 := (hrc0.out).reader (hrd0.out) hRX hb1; have cx0 := (blk_cell hrc1.blk 2).trans (show _ = some (.int .i64 r.dst) from rfl); have fx0 := hrc1.free 2; replace hrc1 := Lib.hid hrc1; replace hr1 := Lib.hid hr1; clear hb1 hc1)
        go_meet
        exact ⟨{ r with dst := v1 }, s1, hs.out.store hRX hDX hr1.out hB1 (but_set u1 X 2 (.int .i64 v1)) (hrc1.out.nums (but_set u1 X 2 (.int .i64 v1)) r.kind r.n (v1) r.yes r.st r.x1 r.x2 r.x3 r.z1 r.z2 r.z3 r.z4 (by rw [blk_put hrc1.out.blk _ _]; rfl)) (by unfold dH6; rw [if_pos hf.out]; exact (gv_gives hv1.out).bind (Gives.ret _)) hs.out.ls⟩
      case rest =>
       clear gf hs
       obtain ⟨r, st, hs⟩ := hcut
       have BF' := hs.but.blk BF.out (by rintro (h | h) <;> omega)
       have gf := (blk_cell BF' 3).trans (show _ = some (.bool f.st) from rfl)
       replace hs := Lib.hid hs
       clear BF'
       cases hf : f.st with
       | false =>
        rw [hf] at gf
        have hs' := Lib.hid (hs.out.skip (k := dH7 f) (by unfold dH7; rw [hf]; rfl))
        clear hs
        go_wp2_with fail
        go_end0
        exact ⟨rfl, W0, hg0.out, _, _, hs'.out⟩
       | true =>
        rw [hf] at gf
        replace hf := Lib.hid hf
        have hrc0 := hs.out.rc
        have hrd0 := hs.out.rd
        have hbu := hs.out.but
        obtain ⟨A, l, c, g1, g2, g3, g4, g5⟩ := hrd0.any
        have c0 := (blk_cell g1 0).trans (show _ = some (.slice A l.length c) from rfl)
        have hzx := hrd0.lt
        have hcb := stDec_any l A c _ (g2.more (by omega)) (by omega) g3
        obtain ⟨s, n, ec, hst, hsn⟩ : ∃ (s : St) (n : Nat) (ec : Int), stT l (dStamp l) = .tuple #[stV s.wall s.logic s.node, .int .i64 n, .int .i64 ec] ∧ ((dStamp l = none ∧ n = 0) ∨ ∃ q, dStamp l = some (s, q) ∧ 0 < n ∧ n ≤ l.length ∧ l.drop n = q) := by
         cases hd : dStamp l with
         | none => exact ⟨⟨0, 0, 0⟩, 0, 10, rfl, .inl ⟨rfl, rfl⟩⟩
         | some y =>
          obtain ⟨s, q⟩ := y
          have h2 := cn_took cn_stamp eats_stamp hd
          exact ⟨s, l.length - q.length, 0, rfl, .inr ⟨q, rfl, h2.1, h2.2.1, h2.2.2⟩⟩
        obtain ⟨a, b, cc⟩ := s
        have hcb' : Calls Tryz.prog 32 #[.slice A l.length c] wc (fun e w' => e = .returned (.tuple #[.agg #[.int .i64 a, .int .i64 b, .int .i64 cc], .int .i64 n, .int .i64 ec]) ∧ G wc w') := by rw [hst] at hcb; exact hcb
        have hgv7 : Gives dStamp st (tk st n) ⟨a, b, cc⟩ := tk_gives fun l' e => by
         obtain rfl := g5 l' e
         rcases hsn with ⟨h1, h2⟩ | ⟨q, h1, h2, _, h3⟩
         ·exact .inl ⟨h1, h2⟩
         ·exact .inr ⟨q, h1, h2, h3⟩
        have htk : ∀ l', st = some l' → n ≤ l'.length := fun l' e => by
         obtain rfl := g5 l' e
         rcases hsn with ⟨_, h2⟩ | ⟨q, _, _, h2, _⟩ <;> omega
        have hzw := hbu.size
        replace g1 := Lib.hid g1
        replace g5 := Lib.hid g5
        replace hcb := Lib.hid hcb'
        replace hrc0 := Lib.hid hrc0
        replace hrd0 := Lib.hid hrd0
        replace hbu := Lib.hid hbu
        replace g2 := Lib.hid g2
        replace htk := Lib.hid htk
        replace hgv7 := Lib.hid hgv7
        clear hst hsn hcb'
        go_upto_region 19 with (go_at_call 32; (with_reducible refine Calls.mono hcb.out ?_); rintro e u1 ⟨rfl, hg1⟩)
        clear c0 hcb
        have hG8 := G.new u1 (.cells #[.int .i64 a, .int .i64 b, .int .i64 cc] 25)
        have hK8 := blk_new u1 #[.int .i64 a, .int .i64 b, .int .i64 cc] 25
        have hrd8 := (hrd0.out.g hg1).g hG8
        have hrc8 := (hrc0.out.g hg1).g hG8
        have hGx := Lib.hid (hg1.trans hG8)
        generalize u1.alloc (.cells #[.int .i64 a, .int .i64 b, .int .i64 cc] 25) = w8 at *
        generalize u1.heap.size = b8 at *
        have hto := Lib.hid (recTake_any R D L st n w8 hrd8 htk.out hL)
        replace hK8 := Lib.hid hK8
        replace hrd8 := Lib.hid hrd8
        replace hrc8 := Lib.hid hrc8
        clear htk hg1 hG8 g1 g2 g3 g4 hzx hzw hrc0 hrd0 hbu g5
        obtain ⟨s7, hs7⟩ : ∃ s, tk st n = s := ⟨_, rfl⟩
        rw [hs7] at hto hgv7
        replace hs7 := Lib.hid hs7
        go_wp2_with (go_at_call 31; (with_reducible refine Calls.mono hto.out ?_); rintro e u2 ⟨b2, rfl, hr2, hb2⟩; have hrc2 := hrc8.out.reader hrd8.out hRX hb2; have k0 := (blk_cell (hb2.blk hK8.out (by intro h; rw [h] at hK8; exact rec_stamp hrd8.out hK8.out)) 0).trans (show _ = some (.int .i64 a) from rfl); have k1 := (blk_cell (hb2.blk hK8.out (by intro h; rw [h] at hK8; exact rec_stamp hrd8.out hK8.out)) 1).trans (show _ = some (.int .i64 b) from rfl); have k2 := (blk_cell (hb2.blk hK8.out (by intro h; rw [h] at hK8; exact rec_stamp hrd8.out hK8.out)) 2).trans (show _ = some (.int .i64 cc) from rfl); have cx := (blk_cell hrc2.blk 4).trans (show _ = some (.int .i64 r.st.wall) from rfl); have fx := hrc2.free 4; have cx2 := (blk_cell hrc2.blk 5).trans (show _ = some (.int .i64 r.st.logic) from rfl); have fx2 := hrc2.free 5; have cx3 := (blk_cell hrc2.blk 6).trans (show _ = some (.int .i64 r.st.node) from rfl); have fx3 := hrc2.free 6; replace hrc2 := Lib.hid hrc2; replace hr2 := Lib.hid hr2)
        go_end0
        have hbx := ((but_set u2 X 4 (.int .i64 a)).trans (but_set _ X 5 (.int .i64 b))).trans (but_set _ X 6 (.int .i64 cc))
        have hblk := blk_put (blk_put (blk_put hrc2.out.blk 4 (.int .i64 a)) 5 (.int .i64 b)) 6 (.int .i64 cc)
        exact ⟨rfl, W0, hg0.out, ⟨{ r with st := ⟨a, b, cc⟩ }, s7, hs.out.store hRX hDX hr2.out ((But.of_g hGx.out).trans hb2) hbx (hrc2.out.nums hbx r.kind r.n r.dst r.yes (⟨a, b, cc⟩) r.x1 r.x2 r.x3 r.z1 r.z2 r.z3 r.z4 (by rw [hblk]; rfl)) (by unfold dH7; rw [if_pos hf.out]; exact hgv7.out.bind (Gives.ret _)) hs.out.ls⟩⟩
end Go.Proofs.YthafeaclpcjjbaaGreatDoor

/- penstockref10.DecodeRec: what it answers. Conditions: at most 2^19 bytes; what is a record bears lengths that fit; the decoder's tables lie as the library lays them. -/
import Derived.Test.YthafeaclpcjjbaaGreatDoorM40RecDecodes
import Derived.Test.YthafeaclpcjjbaaGreatDoorM50RecDecodes
import Derived.Deep.CutBlock
namespace Go.Proofs.YthafeaclpcjjbaaGreatDoor
open Go.RowKit
theorem fl_no {k : Int} (h : fOk k = false) : flOf k = {} := by
 have h0 := fOk_no h
 unfold flOf
 repeat rw [if_neg (by omega)]
theorem rec_fits2 {r : RecM} (h : r.Small) : r.p.Fits := by
 refine ⟨⟨?_, fun p hp => ?_⟩, fun s hs => ?_⟩
 ·have := h.key
  show r.key.size < _
  omega
 ·obtain ⟨m, hm, rfl⟩ := List.mem_map.1 hp
  have := h.ps.2 m hm
  refine ⟨by show m.stream.size < _; omega, fun d hd => ?_⟩
  have := this.2.2.2 d hd
  omega
 ·obtain ⟨m, hm, rfl⟩ := List.mem_map.1 hs
  have := (h.sms m hm).1
  refine ⟨by have := this.1; show m.name.size < _; omega, by have := this.2.1.1; show m.es.length < _; omega, by have := this.2.2.1; show m.ks.length < _; omega, fun k hk => by have := this.2.2.2 k hk; omega⟩
set_option maxRecDepth 100000 in
set_option maxHeartbeats 16000000 in
theorem refDecRec_any (l : List UInt8) (A : Option Addr) (c8 : Nat) (w : World) (hsl : Sl byteC 1 w w.heap.size A l) (hl : l.length ≤ 500000) (hcap : l.length ≤ c8) (hT : Tabs w) (hF : ∀ p, decR l = some p → p.Fits) :
  Calls Tryz.prog 6 #[.slice A l.length c8] w (RetRec w l) := by
 have hl1 : l.length ≤ 1073741824 := by omega
 have hl5 : l.length ≤ 524288 := by omega
 have hTG : ∀ w2, G w w2 → Tabs w2 := fun w2 h => hT.g h
 have hg0 := G.new w (.cells #[.int .i64 0, .int .i64 0, .int .i64 0, .bool false, .int .i64 0, .int .i64 0, .int .i64 0, .int .i64 0, .int .i64 0, .int .i64 0, .slice none 0 0, .string ⟨#[]⟩, .slice none 0 0, .int .i64 0, .int .i64 0, .int .i64 0, .int .i64 0, .slice none 0 0] 36)
 have hr0 := RdS.start (T := 59) (c8 := c8) ((hsl.g (Nat.le_refl _) hg0).more hg0.size)
 have hg1 := G.new (w.alloc (.cells #[.int .i64 0, .int .i64 0, .int .i64 0, .bool false, .int .i64 0, .int .i64 0, .int .i64 0, .int .i64 0, .int .i64 0, .int .i64 0, .slice none 0 0, .string ⟨#[]⟩, .slice none 0 0, .int .i64 0, .int .i64 0, .int .i64 0, .int .i64 0, .slice none 0 0] 36)) (.cells #[.slice A l.length c8, .int .i64 0, .bool false] 59)
 have hz1 : (w.alloc (.cells #[.int .i64 0, .int .i64 0, .int .i64 0, .bool false, .int .i64 0, .int .i64 0, .int .i64 0, .int .i64 0, .int .i64 0, .int .i64 0, .slice none 0 0, .string ⟨#[]⟩, .slice none 0 0, .int .i64 0, .int .i64 0, .int .i64 0, .int .i64 0, .slice none 0 0] 36)).heap.size = w.heap.size + 1 := by simp
 have hz2 : ((w.alloc (.cells #[.int .i64 0, .int .i64 0, .int .i64 0, .bool false, .int .i64 0, .int .i64 0, .int .i64 0, .int .i64 0, .int .i64 0, .int .i64 0, .slice none 0 0, .string ⟨#[]⟩, .slice none 0 0, .int .i64 0, .int .i64 0, .int .i64 0, .int .i64 0, .slice none 0 0] 36)).alloc (.cells #[.slice A l.length c8, .int .i64 0, .bool false] 59)).heap.size = w.heap.size + 1 + 1 := by simp
 rw [hz1] at hr0
 have hg2 := G.new ((w.alloc (.cells #[.int .i64 0, .int .i64 0, .int .i64 0, .bool false, .int .i64 0, .int .i64 0, .int .i64 0, .int .i64 0, .int .i64 0, .int .i64 0, .slice none 0 0, .string ⟨#[]⟩, .slice none 0 0, .int .i64 0, .int .i64 0, .int .i64 0, .int .i64 0, .slice none 0 0] 36)).alloc (.cells #[.slice A l.length c8, .int .i64 0, .bool false] 59)) (.cells #[.pointer (some ⟨w.heap.size + 1, 0, none⟩)] 61)
 have hE := blk_new ((w.alloc (.cells #[.int .i64 0, .int .i64 0, .int .i64 0, .bool false, .int .i64 0, .int .i64 0, .int .i64 0, .int .i64 0, .int .i64 0, .int .i64 0, .slice none 0 0, .string ⟨#[]⟩, .slice none 0 0, .int .i64 0, .int .i64 0, .int .i64 0, .int .i64 0, .slice none 0 0] 36)).alloc (.cells #[.slice A l.length c8, .int .i64 0, .bool false] 59)) #[.pointer (some ⟨w.heap.size + 1, 0, none⟩)] 61
 rw [hz2] at hE
 have hZ := hg2.blk (hg1.blk (blk_new w #[.int .i64 0, .int .i64 0, .int .i64 0, .bool false, .int .i64 0, .int .i64 0, .int .i64 0, .int .i64 0, .int .i64 0, .int .i64 0, .slice none 0 0, .string ⟨#[]⟩, .slice none 0 0, .int .i64 0, .int .i64 0, .int .i64 0, .int .i64 0, .slice none 0 0] 36))
 have hGa := (hg0.trans hg1).trans hg2
 have hr2 := hr0.g hg2
 have hz3 : (((w.alloc (.cells #[.int .i64 0, .int .i64 0, .int .i64 0, .bool false, .int .i64 0, .int .i64 0, .int .i64 0, .int .i64 0, .int .i64 0, .int .i64 0, .slice none 0 0, .string ⟨#[]⟩, .slice none 0 0, .int .i64 0, .int .i64 0, .int .i64 0, .int .i64 0, .slice none 0 0] 36)).alloc (.cells #[.slice A l.length c8, .int .i64 0, .bool false] 59)).alloc (.cells #[.pointer (some ⟨w.heap.size + 1, 0, none⟩)] 61)).heap.size = w.heap.size + 1 + 1 + 1 := by simp
 replace hz3 := Lib.hid hz3
 replace hr2 := Lib.hid hr2
 replace hE := Lib.hid hE
 replace hZ := Lib.hid hZ
 replace hGa := Lib.hid hGa
 clear hg0 hg1 hg2 hr0 hz1 hz2 hT
 replace hsl := Lib.hid hsl
 replace hTG := Lib.hid hTG
 replace hF := Lib.hid hF
 go_enter Tryz.func6, Tryz.ntmps6
 go_upto_region 2 with fail
 generalize ((w.alloc (.cells #[.int .i64 0, .int .i64 0, .int .i64 0, .bool false, .int .i64 0, .int .i64 0, .int .i64 0, .int .i64 0, .int .i64 0, .int .i64 0, .slice none 0 0, .string ⟨#[]⟩, .slice none 0 0, .int .i64 0, .int .i64 0, .int .i64 0, .int .i64 0, .slice none 0 0] 36)).alloc (.cells #[.slice A l.length c8, .int .i64 0, .bool false] 59)).alloc (.cells #[.pointer (some ⟨w.heap.size + 1, 0, none⟩)] 61) = W2 at *
 generalize hEe : w.heap.size + 1 + 1 = E at *
 generalize hRe : w.heap.size + 1 = R at *
 have hER : w.heap.size < R ∧ R < E := by omega
 have hz2 : W2.heap.size = E + 1 := hz3.out
 clear hEe hRe hz3
 have hc := eyeByte_any R A c8 l (some l) W2 hr2.out hl1 hcap
 obtain ⟨kv, st0, h1⟩ : ∃ v s, gv 0 dByte (some l) = (v, s) := ⟨_, _, rfl⟩
 have hl2 : (l = [] ∧ st0 = none) ∨ ∃ b q, l = b :: q ∧ kv = b.toNat ∧ st0 = some q := by
  cases l with
  | nil =>
   cases h1
   exact .inl ⟨rfl, rfl⟩
  | cons b q =>
   cases h1
   exact .inr ⟨b, q, rfl, rfl, rfl⟩
 have hkv : kv ≤ 255 := by
  rcases hl2 with ⟨rfl, _⟩ | ⟨b, q, _, rfl, _⟩
  ·cases h1; omega
  ·have := b.toNat_lt; omega
 rw [h1] at hc
 obtain ⟨K, hK⟩ : ∃ K : Int, (kv : Int) = K := ⟨_, rfl⟩
 rw [hK] at hc
 have hKI : Int64 K := ⟨by omega, by omega⟩
 have q := (blk_cell hE.out 0).trans (show _ = some (.pointer (some ⟨R, 0, none⟩)) from rfl)
 replace hK := Lib.hid hK
 replace hl2 := Lib.hid hl2
 replace hc := Lib.hid hc
 replace hz2 := Lib.hid hz2
 replace hKI := Lib.hid hKI
 clear h1 hr2 hkv
 have hB0 : ∀ u : World, ∃ W', (Instr.storeAt 36 (.pointer (some ⟨u.heap.size, 0, none⟩)) (.agg (kR K).cells)).run Tryz.prog (u.alloc (.cells #[.int .i64 0, .int .i64 0, .int .i64 0, .bool false, .int .i64 0, .int .i64 0, .int .i64 0, .int .i64 0, .int .i64 0, .int .i64 0, .slice none 0 0, .string ⟨#[]⟩, .slice none 0 0, .int .i64 0, .int .i64 0, .int .i64 0, .int .i64 0, .slice none 0 0] 36)) = .ok () W' ∧ W'.heap[u.heap.size]? = some (.cells (kR K).cells 36 (0, 0)) ∧ But (fun k => k = u.heap.size) (u.alloc (.cells #[.int .i64 0, .int .i64 0, .int .i64 0, .bool false, .int .i64 0, .int .i64 0, .int .i64 0, .int .i64 0, .int .i64 0, .int .i64 0, .slice none 0 0, .string ⟨#[]⟩, .slice none 0 0, .int .i64 0, .int .i64 0, .int .i64 0, .int .i64 0, .slice none 0 0] 36)) W' := fun u => by
  obtain ⟨W9, SR9, C9, hb9, hG9⟩ := store_blk (P := Tryz.prog) (T := 36) (cs := (kR K).cells) (blk_new u #[.int .i64 0, .int .i64 0, .int .i64 0, .bool false, .int .i64 0, .int .i64 0, .int .i64 0, .int .i64 0, .int .i64 0, .int .i64 0, .slice none 0 0, .string ⟨#[]⟩, .slice none 0 0, .int .i64 0, .int .i64 0, .int .i64 0, .int .i64 0, .slice none 0 0] 36) rfl (by kernel_rfl) (by kernel_rfl)
  exact ⟨W9, SR9, C9, hb9⟩
 replace hB0 := Lib.hid hB0
 go_cut [5] (fun v wz => ∃ X : Nat, v = .pointer (some ⟨X, 0, none⟩) ∧ Hid (DkSt R X E w.heap.size A c8 l w (rp (p0 K)) st0 (kR K) st0 wz))
 case first =>
  go_wp2_with (first
   | (refine wpList_store_at (ty := 36) rfl (by kernel_rfl) (p := .pointer (some ⟨u1.heap.size, 0, none⟩)) (v := .agg (kR K).cells) rfl rfl SR1 ?_; clear SR1)
   | (go_at_call 14; (with_reducible refine Calls.mono hc.out ?_); rintro e u1 ⟨rfl, hr1, hb1⟩; obtain ⟨wx, SR1, C1, hbx⟩ := hB0.out u1; replace C1 := Lib.hid C1; replace hbx := Lib.hid hbx; replace hr1 := Lib.hid hr1; replace hb1 := Lib.hid hb1; clear hc hB0))
  go_meet
  have hgn := G.new u1 (.cells #[.int .i64 0, .int .i64 0, .int .i64 0, .bool false, .int .i64 0, .int .i64 0, .int .i64 0, .int .i64 0, .int .i64 0, .int .i64 0, .slice none 0 0, .string ⟨#[]⟩, .slice none 0 0, .int .i64 0, .int .i64 0, .int .i64 0, .int .i64 0, .slice none 0 0] 36)
  refine ⟨u1.heap.size, rfl, Lib.hid ?_⟩
  have hz := hb1.out.size
  have h2 := hz2.out
  refine ⟨(hr1.out.g hgn).but hbx.out (fun k hk e => by omega), ⟨C1.out, OwnL.nil, ⟨OwnL.nil, fun _ h => by cases h⟩, ⟨OwnL.nil, fun _ h => by cases h⟩, (show (⟨#[]⟩ : ByteArray).size ≤ 1073741824 by decide), ⟨by simp [kR], fun _ h => by cases h⟩, fun _ h => by cases h⟩, hbx.out.blk (hgn.blk (hb1.out.blk hE.out (by omega))) (by omega), hbx.out.blk (hgn.blk (hb1.out.blk hZ.out (by omega))) (by omega), Gives.ret _, ((hGa.out.gOf' hb1.out (by rintro k rfl; omega)).trans hgn).gOf' hbx.out (by rintro k rfl; omega), ⟨hER.1, hER.2, by omega, Nat.le_refl _⟩⟩
 case rest =>
  clear hc hB0 q hE hZ hGa hz2
  obtain ⟨X, rfl, hs⟩ := hcut
  obtain ⟨f, hfd⟩ : ∃ f, f = flOf K := ⟨_, rfl⟩
  replace hfd := Lib.hid hfd
  go_upto_region 3 with fail
  go_cut [6] (fun v wz => v = .int .i64 1125899906842624 ∧ wz = wc)
  case first =>
   go_wp2_with fail
   go_meet
   exact ⟨rfl, rfl⟩
  case rest =>
   obtain ⟨rfl, rfl⟩ := hcut
   rename_i hK
   refine hK _ _ ?_
   refine wp_seq_k fun K2 hK2 => ?_
   go_cut [] (fun wz => DkEx R X E w.heap.size A c8 l w (dDocF f (p0 K)) st0 wz)
   case first =>
    clear hF hl2 hKI hK hsl
    have q4 := (blk_cell hs.out.rc.blk 0).trans (show _ = some (.int .i64 K) from rfl)
    have hs0 : DkEx R X E w.heap.size A c8 l w (rp (p0 K)) st0 wc := ⟨_, _, hs.out⟩
    clear hs
    obtain ⟨r, st, hs⟩ := hs0
    replace hs := Lib.hid hs
    rcases kind_cases K with rfl | rfl | rfl | rfl | rfl | rfl | rfl | rfl | rfl | rfl | rfl | hno
    ·skip
     have hf : f = { n := true } := hfd.out.trans fl1
     go_upto_region 8 with fail
     clear q4
     generalize wc = wx at *
     have hc := eyeNum_any R A c8 l st wx hs.out.rd hl1 hcap 1125899906842624 1125899906842624 rfl (by omega)
     obtain ⟨v, st1, h1⟩ : ∃ v s, gv 0 (dCount 1125899906842624) st = (v, s) := ⟨_, _, rfl⟩
     rw [h1] at hc
     have g1 := gv_gives h1
     clear h1
     have q := hs.out.ptr
     replace g1 := Lib.hid g1
     replace hc := Lib.hid hc
     go_wp2_with (first | (go_at_call 15; (with_reducible refine Calls.mono hc.out ?_); rintro e u1 ⟨rfl, hr1, hb1⟩; have hrc1 := hs.out.call hb1; have hX1 := hrc1.blk; have cx0 := (blk_cell hX1 1).trans (show _ = some (.int .i64 (r.n)) from rfl); have fx0 := hrc1.free 1; replace hrc1 := Lib.hid hrc1; replace hX1 := Lib.hid hX1; replace hr1 := Lib.hid hr1; replace hb1 := Lib.hid hb1; clear hc q))
     have hbX : But (fun k => k = X) u1 (u1.setCell ⟨X, 1, none⟩ (.int .i64 (v : Int))) := (but_set u1 X 1 (.int .i64 (v : Int)))
     have hs2 := hs.out.store (k := dH1 f) (r' := { r with n := (v : Int) }) hr1.out hb1.out hbX (hrc1.out.nums hbX r.kind ((v : Int)) r.dst r.yes r.st r.x1 r.x2 r.x3 r.z1 r.z2 r.z3 r.z4 (by rw [blk_put hX1.out _ _]; rfl)) (by unfold dH1; rw [hf, if_pos rfl]; exact g1.out.bind (Gives.ret _))
     replace hs := Lib.hid hs2
     clear hs2
     replace hs := Lib.hid (hs.out.skip (k := dH2 f) (by rw [hf]; rfl))
     replace hs := Lib.hid (hs.out.skip (k := dY3 f) (by rw [hf]; rfl))
     replace hs := Lib.hid (hs.out.skip (k := dH4 f) (by rw [hf]; rfl))
     replace hs := Lib.hid (hs.out.skip (k := dH5 f) (by rw [hf]; rfl))
     replace hs := Lib.hid (hs.out.skip (k := dH6 f) (by rw [hf]; rfl))
     replace hs := Lib.hid (hs.out.skip (k := dH7 f) (by rw [hf]; rfl))
     replace hs := Lib.hid (hs.out.skip (k := dY8 f) (by rw [hf]; rfl))
     replace hs := Lib.hid (hs.out.skip (k := dY9 f) (by rw [hf]; rfl))
     go_meet
     exact ⟨_, _, hs.out⟩
    ·skip
     have hf : f = { n := true } := hfd.out.trans fl2
     go_upto_region 8 with fail
     clear q4
     generalize wc = wx at *
     have hc := eyeNum_any R A c8 l st wx hs.out.rd hl1 hcap 1125899906842624 1125899906842624 rfl (by omega)
     obtain ⟨v, st1, h1⟩ : ∃ v s, gv 0 (dCount 1125899906842624) st = (v, s) := ⟨_, _, rfl⟩
     rw [h1] at hc
     have g1 := gv_gives h1
     clear h1
     have q := hs.out.ptr
     replace g1 := Lib.hid g1
     replace hc := Lib.hid hc
     go_wp2_with (first | (go_at_call 15; (with_reducible refine Calls.mono hc.out ?_); rintro e u1 ⟨rfl, hr1, hb1⟩; have hrc1 := hs.out.call hb1; have hX1 := hrc1.blk; have cx0 := (blk_cell hX1 1).trans (show _ = some (.int .i64 (r.n)) from rfl); have fx0 := hrc1.free 1; replace hrc1 := Lib.hid hrc1; replace hX1 := Lib.hid hX1; replace hr1 := Lib.hid hr1; replace hb1 := Lib.hid hb1; clear hc q))
     have hbX : But (fun k => k = X) u1 (u1.setCell ⟨X, 1, none⟩ (.int .i64 (v : Int))) := (but_set u1 X 1 (.int .i64 (v : Int)))
     have hs2 := hs.out.store (k := dH1 f) (r' := { r with n := (v : Int) }) hr1.out hb1.out hbX (hrc1.out.nums hbX r.kind ((v : Int)) r.dst r.yes r.st r.x1 r.x2 r.x3 r.z1 r.z2 r.z3 r.z4 (by rw [blk_put hX1.out _ _]; rfl)) (by unfold dH1; rw [hf, if_pos rfl]; exact g1.out.bind (Gives.ret _))
     replace hs := Lib.hid hs2
     clear hs2
     replace hs := Lib.hid (hs.out.skip (k := dH2 f) (by rw [hf]; rfl))
     replace hs := Lib.hid (hs.out.skip (k := dY3 f) (by rw [hf]; rfl))
     replace hs := Lib.hid (hs.out.skip (k := dH4 f) (by rw [hf]; rfl))
     replace hs := Lib.hid (hs.out.skip (k := dH5 f) (by rw [hf]; rfl))
     replace hs := Lib.hid (hs.out.skip (k := dH6 f) (by rw [hf]; rfl))
     replace hs := Lib.hid (hs.out.skip (k := dH7 f) (by rw [hf]; rfl))
     replace hs := Lib.hid (hs.out.skip (k := dY8 f) (by rw [hf]; rfl))
     replace hs := Lib.hid (hs.out.skip (k := dY9 f) (by rw [hf]; rfl))
     go_meet
     exact ⟨_, _, hs.out⟩
    ·skip
     have hf : f = { bat := true, st := true } := hfd.out.trans fl3
     replace hs := Lib.hid (hs.out.skip (k := dH1 f) (by rw [hf]; rfl))
     replace hs := Lib.hid (hs.out.skip (k := dH2 f) (by rw [hf]; rfl))
     replace hs := Lib.hid (hs.out.skip (k := dY3 f) (by rw [hf]; rfl))
     go_upto_region 10 with fail
     clear q4
     generalize wc = wx at *
     have hc := eyeBatch_any R A c8 l st wx hs.out.rd hl1 hcap
     have q := hs.out.ptr
     replace hc := Lib.hid hc
     go_upto_region 11 with (first | (go_at_call 16; (with_reducible refine Calls.mono hc.out ?_); rintro e u1 ⟨key, Ap, cp, ps, st1, rfl, hr1, hb1, g1, hks, hsm, hps⟩; have hrc1 := hs.out.call hb1; have hX1 := hrc1.blk; have cx0 := (blk_cell hX1 11).trans (show _ = some (.string r.key) from rfl); have fx0 := hrc1.free 11; have cx1 := (blk_cell hX1 12).trans (show _ = some (.slice r.Ap r.ps.length r.cp) from rfl); have fx1 := hrc1.free 12; replace hrc1 := Lib.hid hrc1; replace hX1 := Lib.hid hX1; replace hr1 := Lib.hid hr1; replace hb1 := Lib.hid hb1; replace g1 := Lib.hid g1; replace hks := Lib.hid hks; replace hsm := Lib.hid hsm; replace hps := Lib.hid hps; clear hc q))
     have hbX : But (fun k => k = X) u1 ((u1.setCell ⟨X, 11, none⟩ (.string key)).setCell ⟨X, 12, none⟩ (.slice Ap ps.length cp)) := ((but_set u1 X 11 (.string key)).trans (but_set _ X 12 (.slice Ap ps.length cp)))
     have hs2 := hs.out.store (k := dH4 f) (r' := { r with key := key, Ap := Ap, cp := cp, ps := ps }) hr1.out hb1.out hbX (hrc1.out.bat hbX hks.out hsm.out ((hps.out.mono (by have := blk_lt hs.out.rc.blk; omega)).but hbX (fun k cs t hk hc => by subst hk; rw [hX1.out] at hc; cases hc; decide)) (by rw [blk_put (blk_put hX1.out _ _) _ _]; rfl)) (by unfold dH4; rw [hf, if_pos rfl]; exact (g1.out.as (d2 := dBatch) fun l _ => (dBatch_both l).symm).map (f := fun b => { r.p with key := b.1, ps := b.2 }))
     replace hs := Lib.hid hs2
     clear hs2 hbX hX1 hrc1 hr1 hb1 hks hsm hps g1
     clear cx0 fx0 cx1 fx1
     generalize (u1.setCell ⟨X, 11, none⟩ (.string key)).setCell ⟨X, 12, none⟩ (.slice Ap ps.length cp) = wx at *
     replace hs : Hid (∃ r st, DkSt R X E w.heap.size A c8 l w _ st0 r st wx) := Lib.hid ⟨_, _, hs.out⟩
     obtain ⟨r, st, hs⟩ := hs.out
     replace hs := Lib.hid hs
     replace hs := Lib.hid (hs.out.skip (k := dH5 f) (by rw [hf]; rfl))
     replace hs := Lib.hid (hs.out.skip (k := dH6 f) (by rw [hf]; rfl))
     have hc := eyeStamp_any R A c8 l st wx hs.out.rd hl1 hcap
     have q := hs.out.ptr
     replace hc := Lib.hid hc
     go_wp2_with (first | (go_at_call 17; (with_reducible refine Calls.mono hc.out ?_); rintro e u1 ⟨⟨v1, v2, v3⟩, st1, he, hr1, hb1, g1⟩; simp only [stVal, stV] at he; subst he; have hrc1 := hs.out.call hb1; have hX1 := hrc1.blk; have cx0 := (blk_cell hX1 4).trans (show _ = some (.int .i64 (r.st.wall)) from rfl); have fx0 := hrc1.free 4; have cx1 := (blk_cell hX1 5).trans (show _ = some (.int .i64 (r.st.logic)) from rfl); have fx1 := hrc1.free 5; have cx2 := (blk_cell hX1 6).trans (show _ = some (.int .i64 (r.st.node)) from rfl); have fx2 := hrc1.free 6; replace hrc1 := Lib.hid hrc1; replace hX1 := Lib.hid hX1; replace hr1 := Lib.hid hr1; replace hb1 := Lib.hid hb1; replace g1 := Lib.hid g1; clear hc q))
     have hbX : But (fun k => k = X) u1 (((u1.setCell ⟨X, 4, none⟩ (.int .i64 v1)).setCell ⟨X, 5, none⟩ (.int .i64 v2)).setCell ⟨X, 6, none⟩ (.int .i64 v3)) := (((but_set u1 X 4 (.int .i64 v1)).trans (but_set _ X 5 (.int .i64 v2))).trans (but_set _ X 6 (.int .i64 v3)))
     have hs2 := hs.out.store (k := dH7 f) (r' := { r with st := ⟨v1, v2, v3⟩ }) hr1.out hb1.out hbX (hrc1.out.nums hbX r.kind r.n r.dst r.yes ⟨v1, v2, v3⟩ r.x1 r.x2 r.x3 r.z1 r.z2 r.z3 r.z4 (by rw [blk_put (blk_put (blk_put hX1.out _ _) _ _) _ _]; rfl)) (by unfold dH7; rw [hf, if_pos rfl]; exact g1.out.map (f := fun s => { r.p with st := s }))
     replace hs := Lib.hid hs2
     clear hs2
     replace hs := Lib.hid (hs.out.skip (k := dY8 f) (by rw [hf]; rfl))
     replace hs := Lib.hid (hs.out.skip (k := dY9 f) (by rw [hf]; rfl))
     go_meet
     exact ⟨_, _, hs.out⟩
    ·skip
     have hf : f = { tx := true, bat := true, st := true } := hfd.out.trans fl4
     replace hs := Lib.hid (hs.out.skip (k := dH1 f) (by rw [hf]; rfl))
     go_upto_region 13 with fail
     clear q4
     generalize wc = wx at *
     have hc := eye10tx_any R A c8 l st wx hs.out.rd hl1 hcap 1125899906842624 1125899906842624 rfl (by omega)
     have q := hs.out.ptr
     have LE := load_blk (P := Tryz.prog) (T := 61) hs.out.eb Tryz.underlying61 rfl (by kernel_rfl)
     replace hc := Lib.hid hc
     go_upto_region 14 with (first | (refine wpList_load_at (ty := 61) rfl (by kernel_rfl) (p := .pointer (some ⟨E, 0, none⟩)) rfl LE ?_; clear LE) | (go_at_call 18; (with_reducible refine Calls.mono hc.out ?_); rintro e u1 ⟨⟨v1, v2, v3⟩, st1, he, hr1, hb1, g1⟩; simp only [txVal] at he; subst he; have hrc1 := hs.out.call hb1; have hX1 := hrc1.blk; have cx0 := (blk_cell hX1 7).trans (show _ = some (.int .i64 (r.x1)) from rfl); have fx0 := hrc1.free 7; have cx1 := (blk_cell hX1 8).trans (show _ = some (.int .i64 (r.x2)) from rfl); have fx1 := hrc1.free 8; have cx2 := (blk_cell hX1 9).trans (show _ = some (.int .i64 (r.x3)) from rfl); have fx2 := hrc1.free 9; replace hrc1 := Lib.hid hrc1; replace hX1 := Lib.hid hX1; replace hr1 := Lib.hid hr1; replace hb1 := Lib.hid hb1; replace g1 := Lib.hid g1; clear hc q))
     have hbX : But (fun k => k = X) u1 (((u1.setCell ⟨X, 7, none⟩ (.int .i64 (v1 : Int))).setCell ⟨X, 8, none⟩ (.int .i64 (v2 : Int))).setCell ⟨X, 9, none⟩ (.int .i64 (v3 : Int))) := (((but_set u1 X 7 (.int .i64 (v1 : Int))).trans (but_set _ X 8 (.int .i64 (v2 : Int)))).trans (but_set _ X 9 (.int .i64 (v3 : Int))))
     have hs2 := hs.out.store (k := dH2 f) (r' := { r with x1 := (v1 : Int), x2 := (v2 : Int), x3 := (v3 : Int) }) hr1.out hb1.out hbX (hrc1.out.nums hbX r.kind r.n r.dst r.yes r.st (v1) (v2) (v3) r.z1 r.z2 r.z3 r.z4 (by rw [blk_put (blk_put (blk_put hX1.out _ _) _ _) _ _]; rfl)) (by unfold dH2; rw [hf, if_pos rfl]; exact g1.out.d3 (fun a b c => { r.p with x1 := (a : Int), x2 := (b : Int), x3 := (c : Int) }))
     replace hs := Lib.hid hs2
     clear hs2 hbX hX1 hrc1 hr1 hb1 g1
     clear cx0 fx0 cx1 fx1 cx2 fx2
     generalize ((u1.setCell ⟨X, 7, none⟩ (.int .i64 (v1 : Int))).setCell ⟨X, 8, none⟩ (.int .i64 (v2 : Int))).setCell ⟨X, 9, none⟩ (.int .i64 (v3 : Int)) = wx at *
     replace hs : Hid (∃ r st, DkSt R X E w.heap.size A c8 l w _ st0 r st wx) := Lib.hid ⟨_, _, hs.out⟩
     obtain ⟨r, st, hs⟩ := hs.out
     replace hs := Lib.hid hs
     replace hs := Lib.hid (hs.out.skip (k := dY3 f) (by rw [hf]; rfl))
     have hc := eyeBatch_any R A c8 l st wx hs.out.rd hl1 hcap
     have q := hs.out.ptr
     replace hc := Lib.hid hc
     go_upto_region 15 with (first | (go_at_call 16; (with_reducible refine Calls.mono hc.out ?_); rintro e u1 ⟨key, Ap, cp, ps, st1, rfl, hr1, hb1, g1, hks, hsm, hps⟩; have hrc1 := hs.out.call hb1; have hX1 := hrc1.blk; have cx0 := (blk_cell hX1 11).trans (show _ = some (.string r.key) from rfl); have fx0 := hrc1.free 11; have cx1 := (blk_cell hX1 12).trans (show _ = some (.slice r.Ap r.ps.length r.cp) from rfl); have fx1 := hrc1.free 12; replace hrc1 := Lib.hid hrc1; replace hX1 := Lib.hid hX1; replace hr1 := Lib.hid hr1; replace hb1 := Lib.hid hb1; replace g1 := Lib.hid g1; replace hks := Lib.hid hks; replace hsm := Lib.hid hsm; replace hps := Lib.hid hps; clear hc q))
     have hbX : But (fun k => k = X) u1 ((u1.setCell ⟨X, 11, none⟩ (.string key)).setCell ⟨X, 12, none⟩ (.slice Ap ps.length cp)) := ((but_set u1 X 11 (.string key)).trans (but_set _ X 12 (.slice Ap ps.length cp)))
     have hs2 := hs.out.store (k := dH4 f) (r' := { r with key := key, Ap := Ap, cp := cp, ps := ps }) hr1.out hb1.out hbX (hrc1.out.bat hbX hks.out hsm.out ((hps.out.mono (by have := blk_lt hs.out.rc.blk; omega)).but hbX (fun k cs t hk hc => by subst hk; rw [hX1.out] at hc; cases hc; decide)) (by rw [blk_put (blk_put hX1.out _ _) _ _]; rfl)) (by unfold dH4; rw [hf, if_pos rfl]; exact (g1.out.as (d2 := dBatch) fun l _ => (dBatch_both l).symm).map (f := fun b => { r.p with key := b.1, ps := b.2 }))
     replace hs := Lib.hid hs2
     clear hs2 hbX hX1 hrc1 hr1 hb1 hks hsm hps g1
     clear cx0 fx0 cx1 fx1
     generalize (u1.setCell ⟨X, 11, none⟩ (.string key)).setCell ⟨X, 12, none⟩ (.slice Ap ps.length cp) = wx at *
     replace hs : Hid (∃ r st, DkSt R X E w.heap.size A c8 l w _ st0 r st wx) := Lib.hid ⟨_, _, hs.out⟩
     obtain ⟨r, st, hs⟩ := hs.out
     replace hs := Lib.hid hs
     replace hs := Lib.hid (hs.out.skip (k := dH5 f) (by rw [hf]; rfl))
     replace hs := Lib.hid (hs.out.skip (k := dH6 f) (by rw [hf]; rfl))
     have hc := eyeStamp_any R A c8 l st wx hs.out.rd hl1 hcap
     have q := hs.out.ptr
     replace hc := Lib.hid hc
     go_wp2_with (first | (go_at_call 17; (with_reducible refine Calls.mono hc.out ?_); rintro e u1 ⟨⟨v1, v2, v3⟩, st1, he, hr1, hb1, g1⟩; simp only [stVal, stV] at he; subst he; have hrc1 := hs.out.call hb1; have hX1 := hrc1.blk; have cx0 := (blk_cell hX1 4).trans (show _ = some (.int .i64 (r.st.wall)) from rfl); have fx0 := hrc1.free 4; have cx1 := (blk_cell hX1 5).trans (show _ = some (.int .i64 (r.st.logic)) from rfl); have fx1 := hrc1.free 5; have cx2 := (blk_cell hX1 6).trans (show _ = some (.int .i64 (r.st.node)) from rfl); have fx2 := hrc1.free 6; replace hrc1 := Lib.hid hrc1; replace hX1 := Lib.hid hX1; replace hr1 := Lib.hid hr1; replace hb1 := Lib.hid hb1; replace g1 := Lib.hid g1; clear hc q))
     have hbX : But (fun k => k = X) u1 (((u1.setCell ⟨X, 4, none⟩ (.int .i64 v1)).setCell ⟨X, 5, none⟩ (.int .i64 v2)).setCell ⟨X, 6, none⟩ (.int .i64 v3)) := (((but_set u1 X 4 (.int .i64 v1)).trans (but_set _ X 5 (.int .i64 v2))).trans (but_set _ X 6 (.int .i64 v3)))
     have hs2 := hs.out.store (k := dH7 f) (r' := { r with st := ⟨v1, v2, v3⟩ }) hr1.out hb1.out hbX (hrc1.out.nums hbX r.kind r.n r.dst r.yes ⟨v1, v2, v3⟩ r.x1 r.x2 r.x3 r.z1 r.z2 r.z3 r.z4 (by rw [blk_put (blk_put (blk_put hX1.out _ _) _ _) _ _]; rfl)) (by unfold dH7; rw [hf, if_pos rfl]; exact g1.out.map (f := fun s => { r.p with st := s }))
     replace hs := Lib.hid hs2
     clear hs2
     replace hs := Lib.hid (hs.out.skip (k := dY8 f) (by rw [hf]; rfl))
     replace hs := Lib.hid (hs.out.skip (k := dY9 f) (by rw [hf]; rfl))
     go_meet
     exact ⟨_, _, hs.out⟩
    ·skip
     have hf : f = { tx := true, yes := true, st := true } := hfd.out.trans fl5
     replace hs := Lib.hid (hs.out.skip (k := dH1 f) (by rw [hf]; rfl))
     go_upto_region 17 with fail
     clear q4
     generalize wc = wx at *
     have hc := eye10tx_any R A c8 l st wx hs.out.rd hl1 hcap 1125899906842624 1125899906842624 rfl (by omega)
     have q := hs.out.ptr
     have LE := load_blk (P := Tryz.prog) (T := 61) hs.out.eb Tryz.underlying61 rfl (by kernel_rfl)
     replace hc := Lib.hid hc
     go_upto_region 18 with (first | (refine wpList_load_at (ty := 61) rfl (by kernel_rfl) (p := .pointer (some ⟨E, 0, none⟩)) rfl LE ?_; clear LE) | (go_at_call 18; (with_reducible refine Calls.mono hc.out ?_); rintro e u1 ⟨⟨v1, v2, v3⟩, st1, he, hr1, hb1, g1⟩; simp only [txVal] at he; subst he; have hrc1 := hs.out.call hb1; have hX1 := hrc1.blk; have cx0 := (blk_cell hX1 7).trans (show _ = some (.int .i64 (r.x1)) from rfl); have fx0 := hrc1.free 7; have cx1 := (blk_cell hX1 8).trans (show _ = some (.int .i64 (r.x2)) from rfl); have fx1 := hrc1.free 8; have cx2 := (blk_cell hX1 9).trans (show _ = some (.int .i64 (r.x3)) from rfl); have fx2 := hrc1.free 9; replace hrc1 := Lib.hid hrc1; replace hX1 := Lib.hid hX1; replace hr1 := Lib.hid hr1; replace hb1 := Lib.hid hb1; replace g1 := Lib.hid g1; clear hc q))
     have hbX : But (fun k => k = X) u1 (((u1.setCell ⟨X, 7, none⟩ (.int .i64 (v1 : Int))).setCell ⟨X, 8, none⟩ (.int .i64 (v2 : Int))).setCell ⟨X, 9, none⟩ (.int .i64 (v3 : Int))) := (((but_set u1 X 7 (.int .i64 (v1 : Int))).trans (but_set _ X 8 (.int .i64 (v2 : Int)))).trans (but_set _ X 9 (.int .i64 (v3 : Int))))
     have hs2 := hs.out.store (k := dH2 f) (r' := { r with x1 := (v1 : Int), x2 := (v2 : Int), x3 := (v3 : Int) }) hr1.out hb1.out hbX (hrc1.out.nums hbX r.kind r.n r.dst r.yes r.st (v1) (v2) (v3) r.z1 r.z2 r.z3 r.z4 (by rw [blk_put (blk_put (blk_put hX1.out _ _) _ _) _ _]; rfl)) (by unfold dH2; rw [hf, if_pos rfl]; exact g1.out.d3 (fun a b c => { r.p with x1 := (a : Int), x2 := (b : Int), x3 := (c : Int) }))
     replace hs := Lib.hid hs2
     clear hs2 hbX hX1 hrc1 hr1 hb1 g1
     clear cx0 fx0 cx1 fx1 cx2 fx2
     generalize ((u1.setCell ⟨X, 7, none⟩ (.int .i64 (v1 : Int))).setCell ⟨X, 8, none⟩ (.int .i64 (v2 : Int))).setCell ⟨X, 9, none⟩ (.int .i64 (v3 : Int)) = wx at *
     replace hs : Hid (∃ r st, DkSt R X E w.heap.size A c8 l w _ st0 r st wx) := Lib.hid ⟨_, _, hs.out⟩
     obtain ⟨r, st, hs⟩ := hs.out
     replace hs := Lib.hid hs
     have hc := eyeByte_any R A c8 l st wx hs.out.rd hl1 hcap
     obtain ⟨v, st1, h1⟩ : ∃ v s, gv 0 dByte st = (v, s) := ⟨_, _, rfl⟩
     rw [h1] at hc
     have g1 := gv_gives h1
     clear h1
     obtain ⟨bq, hbq⟩ : ∃ b, ((v : Int) == 1) = b := ⟨_, rfl⟩
     have hbq2 : bq = decide (v = 1) := by rw [← hbq]; by_cases h : v = 1 <;> simp [h] <;> omega
     replace hbq2 := Lib.hid hbq2
     have q := hs.out.ptr
     replace g1 := Lib.hid g1
     replace hc := Lib.hid hc
     go_upto_region 19 with (first | (go_at_call 14; (with_reducible refine Calls.mono hc.out ?_); rintro e u1 ⟨rfl, hr1, hb1⟩; have hrc1 := hs.out.call hb1; have hX1 := hrc1.blk; have cx0 := (blk_cell hX1 3).trans (show _ = some (.bool r.yes) from rfl); have fx0 := hrc1.free 3; replace hrc1 := Lib.hid hrc1; replace hX1 := Lib.hid hX1; replace hr1 := Lib.hid hr1; replace hb1 := Lib.hid hb1; clear hc q))
     have hbX : But (fun k => k = X) u1 (u1.setCell ⟨X, 3, none⟩ (.bool bq)) := (but_set u1 X 3 (.bool bq))
     have hs2 := hs.out.store (k := dY3 f) (r' := { r with yes := bq }) hr1.out hb1.out hbX (hrc1.out.nums hbX r.kind r.n r.dst (bq) r.st r.x1 r.x2 r.x3 r.z1 r.z2 r.z3 r.z4 (by rw [blk_put hX1.out _ _]; rfl)) (by unfold dY3; rw [hf, if_pos rfl]; exact Gives.to (x := { r.p with yes := decide (v = 1) }) (g1.out.bind (Gives.ret _)) (by rw [hbq2.out] <;> rfl))
     replace hs := Lib.hid hs2
     clear hs2 hbX hX1 hrc1 hr1 hb1 g1 hbq hbq2
     clear cx0 fx0
     generalize u1.setCell ⟨X, 3, none⟩ (.bool bq) = wx at *
     replace hs : Hid (∃ r st, DkSt R X E w.heap.size A c8 l w _ st0 r st wx) := Lib.hid ⟨_, _, hs.out⟩
     obtain ⟨r, st, hs⟩ := hs.out
     replace hs := Lib.hid hs
     replace hs := Lib.hid (hs.out.skip (k := dH4 f) (by rw [hf]; rfl))
     replace hs := Lib.hid (hs.out.skip (k := dH5 f) (by rw [hf]; rfl))
     replace hs := Lib.hid (hs.out.skip (k := dH6 f) (by rw [hf]; rfl))
     have hc := eyeStamp_any R A c8 l st wx hs.out.rd hl1 hcap
     have q := hs.out.ptr
     replace hc := Lib.hid hc
     go_wp2_with (first | (go_at_call 17; (with_reducible refine Calls.mono hc.out ?_); rintro e u1 ⟨⟨v1, v2, v3⟩, st1, he, hr1, hb1, g1⟩; simp only [stVal, stV] at he; subst he; have hrc1 := hs.out.call hb1; have hX1 := hrc1.blk; have cx0 := (blk_cell hX1 4).trans (show _ = some (.int .i64 (r.st.wall)) from rfl); have fx0 := hrc1.free 4; have cx1 := (blk_cell hX1 5).trans (show _ = some (.int .i64 (r.st.logic)) from rfl); have fx1 := hrc1.free 5; have cx2 := (blk_cell hX1 6).trans (show _ = some (.int .i64 (r.st.node)) from rfl); have fx2 := hrc1.free 6; replace hrc1 := Lib.hid hrc1; replace hX1 := Lib.hid hX1; replace hr1 := Lib.hid hr1; replace hb1 := Lib.hid hb1; replace g1 := Lib.hid g1; clear hc q))
     have hbX : But (fun k => k = X) u1 (((u1.setCell ⟨X, 4, none⟩ (.int .i64 v1)).setCell ⟨X, 5, none⟩ (.int .i64 v2)).setCell ⟨X, 6, none⟩ (.int .i64 v3)) := (((but_set u1 X 4 (.int .i64 v1)).trans (but_set _ X 5 (.int .i64 v2))).trans (but_set _ X 6 (.int .i64 v3)))
     have hs2 := hs.out.store (k := dH7 f) (r' := { r with st := ⟨v1, v2, v3⟩ }) hr1.out hb1.out hbX (hrc1.out.nums hbX r.kind r.n r.dst r.yes ⟨v1, v2, v3⟩ r.x1 r.x2 r.x3 r.z1 r.z2 r.z3 r.z4 (by rw [blk_put (blk_put (blk_put hX1.out _ _) _ _) _ _]; rfl)) (by unfold dH7; rw [hf, if_pos rfl]; exact g1.out.map (f := fun s => { r.p with st := s }))
     replace hs := Lib.hid hs2
     clear hs2
     replace hs := Lib.hid (hs.out.skip (k := dY8 f) (by rw [hf]; rfl))
     replace hs := Lib.hid (hs.out.skip (k := dY9 f) (by rw [hf]; rfl))
     go_meet
     exact ⟨_, _, hs.out⟩
    ·skip
     have hf : f = { tx := true, yes := true, st := true, nodes := true } := hfd.out.trans fl6
     replace hs := Lib.hid (hs.out.skip (k := dH1 f) (by rw [hf]; rfl))
     go_upto_region 21 with fail
     clear q4
     generalize wc = wx at *
     have hc := eye10tx_any R A c8 l st wx hs.out.rd hl1 hcap 1125899906842624 1125899906842624 rfl (by omega)
     have q := hs.out.ptr
     have LE := load_blk (P := Tryz.prog) (T := 61) hs.out.eb Tryz.underlying61 rfl (by kernel_rfl)
     replace hc := Lib.hid hc
     go_upto_region 22 with (first | (refine wpList_load_at (ty := 61) rfl (by kernel_rfl) (p := .pointer (some ⟨E, 0, none⟩)) rfl LE ?_; clear LE) | (go_at_call 18; (with_reducible refine Calls.mono hc.out ?_); rintro e u1 ⟨⟨v1, v2, v3⟩, st1, he, hr1, hb1, g1⟩; simp only [txVal] at he; subst he; have hrc1 := hs.out.call hb1; have hX1 := hrc1.blk; have cx0 := (blk_cell hX1 7).trans (show _ = some (.int .i64 (r.x1)) from rfl); have fx0 := hrc1.free 7; have cx1 := (blk_cell hX1 8).trans (show _ = some (.int .i64 (r.x2)) from rfl); have fx1 := hrc1.free 8; have cx2 := (blk_cell hX1 9).trans (show _ = some (.int .i64 (r.x3)) from rfl); have fx2 := hrc1.free 9; replace hrc1 := Lib.hid hrc1; replace hX1 := Lib.hid hX1; replace hr1 := Lib.hid hr1; replace hb1 := Lib.hid hb1; replace g1 := Lib.hid g1; clear hc q))
     have hbX : But (fun k => k = X) u1 (((u1.setCell ⟨X, 7, none⟩ (.int .i64 (v1 : Int))).setCell ⟨X, 8, none⟩ (.int .i64 (v2 : Int))).setCell ⟨X, 9, none⟩ (.int .i64 (v3 : Int))) := (((but_set u1 X 7 (.int .i64 (v1 : Int))).trans (but_set _ X 8 (.int .i64 (v2 : Int)))).trans (but_set _ X 9 (.int .i64 (v3 : Int))))
     have hs2 := hs.out.store (k := dH2 f) (r' := { r with x1 := (v1 : Int), x2 := (v2 : Int), x3 := (v3 : Int) }) hr1.out hb1.out hbX (hrc1.out.nums hbX r.kind r.n r.dst r.yes r.st (v1) (v2) (v3) r.z1 r.z2 r.z3 r.z4 (by rw [blk_put (blk_put (blk_put hX1.out _ _) _ _) _ _]; rfl)) (by unfold dH2; rw [hf, if_pos rfl]; exact g1.out.d3 (fun a b c => { r.p with x1 := (a : Int), x2 := (b : Int), x3 := (c : Int) }))
     replace hs := Lib.hid hs2
     clear hs2 hbX hX1 hrc1 hr1 hb1 g1
     clear cx0 fx0 cx1 fx1 cx2 fx2
     generalize ((u1.setCell ⟨X, 7, none⟩ (.int .i64 (v1 : Int))).setCell ⟨X, 8, none⟩ (.int .i64 (v2 : Int))).setCell ⟨X, 9, none⟩ (.int .i64 (v3 : Int)) = wx at *
     replace hs : Hid (∃ r st, DkSt R X E w.heap.size A c8 l w _ st0 r st wx) := Lib.hid ⟨_, _, hs.out⟩
     obtain ⟨r, st, hs⟩ := hs.out
     replace hs := Lib.hid hs
     have hc := eyeByte_any R A c8 l st wx hs.out.rd hl1 hcap
     obtain ⟨v, st1, h1⟩ : ∃ v s, gv 0 dByte st = (v, s) := ⟨_, _, rfl⟩
     rw [h1] at hc
     have g1 := gv_gives h1
     clear h1
     obtain ⟨bq, hbq⟩ : ∃ b, ((v : Int) == 1) = b := ⟨_, rfl⟩
     have hbq2 : bq = decide (v = 1) := by rw [← hbq]; by_cases h : v = 1 <;> simp [h] <;> omega
     replace hbq2 := Lib.hid hbq2
     have q := hs.out.ptr
     replace g1 := Lib.hid g1
     replace hc := Lib.hid hc
     go_upto_region 23 with (first | (go_at_call 14; (with_reducible refine Calls.mono hc.out ?_); rintro e u1 ⟨rfl, hr1, hb1⟩; have hrc1 := hs.out.call hb1; have hX1 := hrc1.blk; have cx0 := (blk_cell hX1 3).trans (show _ = some (.bool r.yes) from rfl); have fx0 := hrc1.free 3; replace hrc1 := Lib.hid hrc1; replace hX1 := Lib.hid hX1; replace hr1 := Lib.hid hr1; replace hb1 := Lib.hid hb1; clear hc q))
     have hbX : But (fun k => k = X) u1 (u1.setCell ⟨X, 3, none⟩ (.bool bq)) := (but_set u1 X 3 (.bool bq))
     have hs2 := hs.out.store (k := dY3 f) (r' := { r with yes := bq }) hr1.out hb1.out hbX (hrc1.out.nums hbX r.kind r.n r.dst (bq) r.st r.x1 r.x2 r.x3 r.z1 r.z2 r.z3 r.z4 (by rw [blk_put hX1.out _ _]; rfl)) (by unfold dY3; rw [hf, if_pos rfl]; exact Gives.to (x := { r.p with yes := decide (v = 1) }) (g1.out.bind (Gives.ret _)) (by rw [hbq2.out] <;> rfl))
     replace hs := Lib.hid hs2
     clear hs2 hbX hX1 hrc1 hr1 hb1 g1 hbq hbq2
     clear cx0 fx0
     generalize u1.setCell ⟨X, 3, none⟩ (.bool bq) = wx at *
     replace hs : Hid (∃ r st, DkSt R X E w.heap.size A c8 l w _ st0 r st wx) := Lib.hid ⟨_, _, hs.out⟩
     obtain ⟨r, st, hs⟩ := hs.out
     replace hs := Lib.hid hs
     replace hs := Lib.hid (hs.out.skip (k := dH4 f) (by rw [hf]; rfl))
     replace hs := Lib.hid (hs.out.skip (k := dH5 f) (by rw [hf]; rfl))
     replace hs := Lib.hid (hs.out.skip (k := dH6 f) (by rw [hf]; rfl))
     have hc := eyeStamp_any R A c8 l st wx hs.out.rd hl1 hcap
     have q := hs.out.ptr
     replace hc := Lib.hid hc
     go_upto_region 24 with (first | (go_at_call 17; (with_reducible refine Calls.mono hc.out ?_); rintro e u1 ⟨⟨v1, v2, v3⟩, st1, he, hr1, hb1, g1⟩; simp only [stVal, stV] at he; subst he; have hrc1 := hs.out.call hb1; have hX1 := hrc1.blk; have cx0 := (blk_cell hX1 4).trans (show _ = some (.int .i64 (r.st.wall)) from rfl); have fx0 := hrc1.free 4; have cx1 := (blk_cell hX1 5).trans (show _ = some (.int .i64 (r.st.logic)) from rfl); have fx1 := hrc1.free 5; have cx2 := (blk_cell hX1 6).trans (show _ = some (.int .i64 (r.st.node)) from rfl); have fx2 := hrc1.free 6; replace hrc1 := Lib.hid hrc1; replace hX1 := Lib.hid hX1; replace hr1 := Lib.hid hr1; replace hb1 := Lib.hid hb1; replace g1 := Lib.hid g1; clear hc q))
     have hbX : But (fun k => k = X) u1 (((u1.setCell ⟨X, 4, none⟩ (.int .i64 v1)).setCell ⟨X, 5, none⟩ (.int .i64 v2)).setCell ⟨X, 6, none⟩ (.int .i64 v3)) := (((but_set u1 X 4 (.int .i64 v1)).trans (but_set _ X 5 (.int .i64 v2))).trans (but_set _ X 6 (.int .i64 v3)))
     have hs2 := hs.out.store (k := dH7 f) (r' := { r with st := ⟨v1, v2, v3⟩ }) hr1.out hb1.out hbX (hrc1.out.nums hbX r.kind r.n r.dst r.yes ⟨v1, v2, v3⟩ r.x1 r.x2 r.x3 r.z1 r.z2 r.z3 r.z4 (by rw [blk_put (blk_put (blk_put hX1.out _ _) _ _) _ _]; rfl)) (by unfold dH7; rw [hf, if_pos rfl]; exact g1.out.map (f := fun s => { r.p with st := s }))
     replace hs := Lib.hid hs2
     clear hs2 hbX hX1 hrc1 hr1 hb1 g1
     clear cx0 fx0 cx1 fx1 cx2 fx2
     generalize ((u1.setCell ⟨X, 4, none⟩ (.int .i64 v1)).setCell ⟨X, 5, none⟩ (.int .i64 v2)).setCell ⟨X, 6, none⟩ (.int .i64 v3) = wx at *
     replace hs : Hid (∃ r st, DkSt R X E w.heap.size A c8 l w _ st0 r st wx) := Lib.hid ⟨_, _, hs.out⟩
     obtain ⟨r, st, hs⟩ := hs.out
     replace hs := Lib.hid hs
     have hc := eye10ints_any R A c8 l st wx hs.out.rd hl1 hcap 1125899906842624 1125899906842624 rfl (by omega)
     have q := hs.out.ptr
     have LE := load_blk (P := Tryz.prog) (T := 61) hs.out.eb Tryz.underlying61 rfl (by kernel_rfl)
     replace hc := Lib.hid hc
     go_wp2_with (first | (refine wpList_load_at (ty := 61) rfl (by kernel_rfl) (p := .pointer (some ⟨E, 0, none⟩)) rfl LE ?_; clear LE) | (go_at_call 19; (with_reducible refine Calls.mono hc.out ?_); rintro e u1 ⟨A1, c1, zs, ns, st1, rfl, hzn, hr1, hb1, ho1, g1⟩; have hrc1 := hs.out.call hb1; have hX1 := hrc1.blk; have cx0 := (blk_cell hX1 10).trans (show _ = some (.slice r.An r.nodes.length r.cn) from rfl); have fx0 := hrc1.free 10; replace hrc1 := Lib.hid hrc1; replace hX1 := Lib.hid hX1; replace hr1 := Lib.hid hr1; replace hb1 := Lib.hid hb1; replace g1 := Lib.hid g1; replace hzn := Lib.hid hzn; replace ho1 := Lib.hid ho1; clear hc q))
     have hbX : But (fun k => k = X) u1 (u1.setCell ⟨X, 10, none⟩ (.slice A1 zs.length c1)) := (but_set u1 X 10 (.slice A1 zs.length c1))
     have hs2 := hs.out.store (k := dY8 f) (r' := { r with An := A1, cn := c1, nodes := zs }) hr1.out hb1.out hbX (hrc1.out.setN hbX ((ho1.out.mono (by have := blk_lt hs.out.rc.blk; omega)).but' hbX (fun k hk e => by obtain ⟨_, _, c, hc2⟩ := ho1.out.blk hk; subst e; rw [hX1.out] at hc2; cases hc2)) (by rw [blk_put hX1.out _ _]; rfl)) (by unfold dY8; rw [hf, if_pos rfl]; exact (g1.out.dI (fun ns => { r.p with nodes := ofN ns })).to (congrArg (fun z => { r.p with nodes := z }) hzn.out))
     replace hs := Lib.hid hs2
     clear hs2
     replace hs := Lib.hid (hs.out.skip (k := dY9 f) (by rw [hf]; rfl))
     go_meet
     exact ⟨_, _, hs.out⟩
    ·skip
     have hf : f = { tx := true } := hfd.out.trans fl7
     replace hs := Lib.hid (hs.out.skip (k := dH1 f) (by rw [hf]; rfl))
     go_upto_region 26 with fail
     clear q4
     generalize wc = wx at *
     have hc := eye10tx_any R A c8 l st wx hs.out.rd hl1 hcap 1125899906842624 1125899906842624 rfl (by omega)
     have q := hs.out.ptr
     have LE := load_blk (P := Tryz.prog) (T := 61) hs.out.eb Tryz.underlying61 rfl (by kernel_rfl)
     replace hc := Lib.hid hc
     go_wp2_with (first | (refine wpList_load_at (ty := 61) rfl (by kernel_rfl) (p := .pointer (some ⟨E, 0, none⟩)) rfl LE ?_; clear LE) | (go_at_call 18; (with_reducible refine Calls.mono hc.out ?_); rintro e u1 ⟨⟨v1, v2, v3⟩, st1, he, hr1, hb1, g1⟩; simp only [txVal] at he; subst he; have hrc1 := hs.out.call hb1; have hX1 := hrc1.blk; have cx0 := (blk_cell hX1 7).trans (show _ = some (.int .i64 (r.x1)) from rfl); have fx0 := hrc1.free 7; have cx1 := (blk_cell hX1 8).trans (show _ = some (.int .i64 (r.x2)) from rfl); have fx1 := hrc1.free 8; have cx2 := (blk_cell hX1 9).trans (show _ = some (.int .i64 (r.x3)) from rfl); have fx2 := hrc1.free 9; replace hrc1 := Lib.hid hrc1; replace hX1 := Lib.hid hX1; replace hr1 := Lib.hid hr1; replace hb1 := Lib.hid hb1; replace g1 := Lib.hid g1; clear hc q))
     have hbX : But (fun k => k = X) u1 (((u1.setCell ⟨X, 7, none⟩ (.int .i64 (v1 : Int))).setCell ⟨X, 8, none⟩ (.int .i64 (v2 : Int))).setCell ⟨X, 9, none⟩ (.int .i64 (v3 : Int))) := (((but_set u1 X 7 (.int .i64 (v1 : Int))).trans (but_set _ X 8 (.int .i64 (v2 : Int)))).trans (but_set _ X 9 (.int .i64 (v3 : Int))))
     have hs2 := hs.out.store (k := dH2 f) (r' := { r with x1 := (v1 : Int), x2 := (v2 : Int), x3 := (v3 : Int) }) hr1.out hb1.out hbX (hrc1.out.nums hbX r.kind r.n r.dst r.yes r.st (v1) (v2) (v3) r.z1 r.z2 r.z3 r.z4 (by rw [blk_put (blk_put (blk_put hX1.out _ _) _ _) _ _]; rfl)) (by unfold dH2; rw [hf, if_pos rfl]; exact g1.out.d3 (fun a b c => { r.p with x1 := (a : Int), x2 := (b : Int), x3 := (c : Int) }))
     replace hs := Lib.hid hs2
     clear hs2
     replace hs := Lib.hid (hs.out.skip (k := dY3 f) (by rw [hf]; rfl))
     replace hs := Lib.hid (hs.out.skip (k := dH4 f) (by rw [hf]; rfl))
     replace hs := Lib.hid (hs.out.skip (k := dH5 f) (by rw [hf]; rfl))
     replace hs := Lib.hid (hs.out.skip (k := dH6 f) (by rw [hf]; rfl))
     replace hs := Lib.hid (hs.out.skip (k := dH7 f) (by rw [hf]; rfl))
     replace hs := Lib.hid (hs.out.skip (k := dY8 f) (by rw [hf]; rfl))
     replace hs := Lib.hid (hs.out.skip (k := dY9 f) (by rw [hf]; rfl))
     go_meet
     exact ⟨_, _, hs.out⟩
    ·skip
     have hf : f = { n := true } := hfd.out.trans fl8
     go_upto_region 8 with fail
     clear q4
     generalize wc = wx at *
     have hc := eyeNum_any R A c8 l st wx hs.out.rd hl1 hcap 1125899906842624 1125899906842624 rfl (by omega)
     obtain ⟨v, st1, h1⟩ : ∃ v s, gv 0 (dCount 1125899906842624) st = (v, s) := ⟨_, _, rfl⟩
     rw [h1] at hc
     have g1 := gv_gives h1
     clear h1
     have q := hs.out.ptr
     replace g1 := Lib.hid g1
     replace hc := Lib.hid hc
     go_wp2_with (first | (go_at_call 15; (with_reducible refine Calls.mono hc.out ?_); rintro e u1 ⟨rfl, hr1, hb1⟩; have hrc1 := hs.out.call hb1; have hX1 := hrc1.blk; have cx0 := (blk_cell hX1 1).trans (show _ = some (.int .i64 (r.n)) from rfl); have fx0 := hrc1.free 1; replace hrc1 := Lib.hid hrc1; replace hX1 := Lib.hid hX1; replace hr1 := Lib.hid hr1; replace hb1 := Lib.hid hb1; clear hc q))
     have hbX : But (fun k => k = X) u1 (u1.setCell ⟨X, 1, none⟩ (.int .i64 (v : Int))) := (but_set u1 X 1 (.int .i64 (v : Int)))
     have hs2 := hs.out.store (k := dH1 f) (r' := { r with n := (v : Int) }) hr1.out hb1.out hbX (hrc1.out.nums hbX r.kind ((v : Int)) r.dst r.yes r.st r.x1 r.x2 r.x3 r.z1 r.z2 r.z3 r.z4 (by rw [blk_put hX1.out _ _]; rfl)) (by unfold dH1; rw [hf, if_pos rfl]; exact g1.out.bind (Gives.ret _))
     replace hs := Lib.hid hs2
     clear hs2
     replace hs := Lib.hid (hs.out.skip (k := dH2 f) (by rw [hf]; rfl))
     replace hs := Lib.hid (hs.out.skip (k := dY3 f) (by rw [hf]; rfl))
     replace hs := Lib.hid (hs.out.skip (k := dH4 f) (by rw [hf]; rfl))
     replace hs := Lib.hid (hs.out.skip (k := dH5 f) (by rw [hf]; rfl))
     replace hs := Lib.hid (hs.out.skip (k := dH6 f) (by rw [hf]; rfl))
     replace hs := Lib.hid (hs.out.skip (k := dH7 f) (by rw [hf]; rfl))
     replace hs := Lib.hid (hs.out.skip (k := dY8 f) (by rw [hf]; rfl))
     replace hs := Lib.hid (hs.out.skip (k := dY9 f) (by rw [hf]; rfl))
     go_meet
     exact ⟨_, _, hs.out⟩
    ·skip
     have hf : f = { span := true, dst := true } := hfd.out.trans fl9
     replace hs := Lib.hid (hs.out.skip (k := dH1 f) (by rw [hf]; rfl))
     replace hs := Lib.hid (hs.out.skip (k := dH2 f) (by rw [hf]; rfl))
     replace hs := Lib.hid (hs.out.skip (k := dY3 f) (by rw [hf]; rfl))
     replace hs := Lib.hid (hs.out.skip (k := dH4 f) (by rw [hf]; rfl))
     go_upto_region 28 with fail
     clear q4
     generalize wc = wx at *
     have hc := eye10rng_any R A c8 l st wx hs.out.rd hl1 hcap 1125899906842624 1125899906842624 rfl (by omega)
     have q := hs.out.ptr
     have LE := load_blk (P := Tryz.prog) (T := 61) hs.out.eb Tryz.underlying61 rfl (by kernel_rfl)
     replace hc := Lib.hid hc
     go_upto_region 29 with (first | (refine wpList_load_at (ty := 61) rfl (by kernel_rfl) (p := .pointer (some ⟨E, 0, none⟩)) rfl LE ?_; clear LE) | (go_at_call 20; (with_reducible refine Calls.mono hc.out ?_); rintro e u1 ⟨⟨v1, v2, v3, v4⟩, st1, he, hr1, hb1, g1⟩; simp only [rngVal] at he; subst he; have hrc1 := hs.out.call hb1; have hX1 := hrc1.blk; have cx0 := (blk_cell hX1 13).trans (show _ = some (.int .i64 (r.z1)) from rfl); have fx0 := hrc1.free 13; have cx1 := (blk_cell hX1 14).trans (show _ = some (.int .i64 (r.z2)) from rfl); have fx1 := hrc1.free 14; have cx2 := (blk_cell hX1 15).trans (show _ = some (.int .i64 (r.z3)) from rfl); have fx2 := hrc1.free 15; have cx3 := (blk_cell hX1 16).trans (show _ = some (.int .i64 (r.z4)) from rfl); have fx3 := hrc1.free 16; replace hrc1 := Lib.hid hrc1; replace hX1 := Lib.hid hX1; replace hr1 := Lib.hid hr1; replace hb1 := Lib.hid hb1; replace g1 := Lib.hid g1; clear hc q))
     have hbX : But (fun k => k = X) u1 ((((u1.setCell ⟨X, 13, none⟩ (.int .i64 (v1 : Int))).setCell ⟨X, 14, none⟩ (.int .i64 (v2 : Int))).setCell ⟨X, 15, none⟩ (.int .i64 (v3 : Int))).setCell ⟨X, 16, none⟩ (.int .i64 (v4 : Int))) := ((((but_set u1 X 13 (.int .i64 (v1 : Int))).trans (but_set _ X 14 (.int .i64 (v2 : Int)))).trans (but_set _ X 15 (.int .i64 (v3 : Int)))).trans (but_set _ X 16 (.int .i64 (v4 : Int))))
     have hs2 := hs.out.store (k := dH5 f) (r' := { r with z1 := (v1 : Int), z2 := (v2 : Int), z3 := (v3 : Int), z4 := (v4 : Int) }) hr1.out hb1.out hbX (hrc1.out.nums hbX r.kind r.n r.dst r.yes r.st r.x1 r.x2 r.x3 (v1) (v2) (v3) (v4) (by rw [blk_put (blk_put (blk_put (blk_put hX1.out _ _) _ _) _ _) _ _]; rfl)) (by unfold dH5; rw [hf, if_pos rfl]; exact g1.out.d4 (fun a b c d => { r.p with r1 := (a : Int), r2 := (b : Int), r3 := (c : Int), r4 := (d : Int) }))
     replace hs := Lib.hid hs2
     clear hs2 hbX hX1 hrc1 hr1 hb1 g1
     clear cx0 fx0 cx1 fx1 cx2 fx2 cx3 fx3
     generalize (((u1.setCell ⟨X, 13, none⟩ (.int .i64 (v1 : Int))).setCell ⟨X, 14, none⟩ (.int .i64 (v2 : Int))).setCell ⟨X, 15, none⟩ (.int .i64 (v3 : Int))).setCell ⟨X, 16, none⟩ (.int .i64 (v4 : Int)) = wx at *
     replace hs : Hid (∃ r st, DkSt R X E w.heap.size A c8 l w _ st0 r st wx) := Lib.hid ⟨_, _, hs.out⟩
     obtain ⟨r, st, hs⟩ := hs.out
     replace hs := Lib.hid hs
     have hc := eyeNum_any R A c8 l st wx hs.out.rd hl1 hcap 1125899906842624 1125899906842624 rfl (by omega)
     obtain ⟨v, st1, h1⟩ : ∃ v s, gv 0 (dCount 1125899906842624) st = (v, s) := ⟨_, _, rfl⟩
     rw [h1] at hc
     have g1 := gv_gives h1
     clear h1
     have q := hs.out.ptr
     replace g1 := Lib.hid g1
     replace hc := Lib.hid hc
     go_wp2_with (first | (go_at_call 15; (with_reducible refine Calls.mono hc.out ?_); rintro e u1 ⟨rfl, hr1, hb1⟩; have hrc1 := hs.out.call hb1; have hX1 := hrc1.blk; have cx0 := (blk_cell hX1 2).trans (show _ = some (.int .i64 (r.dst)) from rfl); have fx0 := hrc1.free 2; replace hrc1 := Lib.hid hrc1; replace hX1 := Lib.hid hX1; replace hr1 := Lib.hid hr1; replace hb1 := Lib.hid hb1; clear hc q))
     have hbX : But (fun k => k = X) u1 (u1.setCell ⟨X, 2, none⟩ (.int .i64 (v : Int))) := (but_set u1 X 2 (.int .i64 (v : Int)))
     have hs2 := hs.out.store (k := dH6 f) (r' := { r with dst := (v : Int) }) hr1.out hb1.out hbX (hrc1.out.nums hbX r.kind r.n ((v : Int)) r.yes r.st r.x1 r.x2 r.x3 r.z1 r.z2 r.z3 r.z4 (by rw [blk_put hX1.out _ _]; rfl)) (by unfold dH6; rw [hf, if_pos rfl]; exact g1.out.bind (Gives.ret _))
     replace hs := Lib.hid hs2
     clear hs2
     replace hs := Lib.hid (hs.out.skip (k := dH7 f) (by rw [hf]; rfl))
     replace hs := Lib.hid (hs.out.skip (k := dY8 f) (by rw [hf]; rfl))
     replace hs := Lib.hid (hs.out.skip (k := dY9 f) (by rw [hf]; rfl))
     go_meet
     exact ⟨_, _, hs.out⟩
    ·skip
     have hf : f = { span := true, st := true, sms := true } := hfd.out.trans fl10
     replace hs := Lib.hid (hs.out.skip (k := dH1 f) (by rw [hf]; rfl))
     replace hs := Lib.hid (hs.out.skip (k := dH2 f) (by rw [hf]; rfl))
     replace hs := Lib.hid (hs.out.skip (k := dY3 f) (by rw [hf]; rfl))
     replace hs := Lib.hid (hs.out.skip (k := dH4 f) (by rw [hf]; rfl))
     go_upto_region 31 with fail
     clear q4
     generalize wc = wx at *
     have hc := eye10rng_any R A c8 l st wx hs.out.rd hl1 hcap 1125899906842624 1125899906842624 rfl (by omega)
     have q := hs.out.ptr
     have LE := load_blk (P := Tryz.prog) (T := 61) hs.out.eb Tryz.underlying61 rfl (by kernel_rfl)
     replace hc := Lib.hid hc
     go_upto_region 32 with (first | (refine wpList_load_at (ty := 61) rfl (by kernel_rfl) (p := .pointer (some ⟨E, 0, none⟩)) rfl LE ?_; clear LE) | (go_at_call 20; (with_reducible refine Calls.mono hc.out ?_); rintro e u1 ⟨⟨v1, v2, v3, v4⟩, st1, he, hr1, hb1, g1⟩; simp only [rngVal] at he; subst he; have hrc1 := hs.out.call hb1; have hX1 := hrc1.blk; have cx0 := (blk_cell hX1 13).trans (show _ = some (.int .i64 (r.z1)) from rfl); have fx0 := hrc1.free 13; have cx1 := (blk_cell hX1 14).trans (show _ = some (.int .i64 (r.z2)) from rfl); have fx1 := hrc1.free 14; have cx2 := (blk_cell hX1 15).trans (show _ = some (.int .i64 (r.z3)) from rfl); have fx2 := hrc1.free 15; have cx3 := (blk_cell hX1 16).trans (show _ = some (.int .i64 (r.z4)) from rfl); have fx3 := hrc1.free 16; replace hrc1 := Lib.hid hrc1; replace hX1 := Lib.hid hX1; replace hr1 := Lib.hid hr1; replace hb1 := Lib.hid hb1; replace g1 := Lib.hid g1; clear hc q))
     have hbX : But (fun k => k = X) u1 ((((u1.setCell ⟨X, 13, none⟩ (.int .i64 (v1 : Int))).setCell ⟨X, 14, none⟩ (.int .i64 (v2 : Int))).setCell ⟨X, 15, none⟩ (.int .i64 (v3 : Int))).setCell ⟨X, 16, none⟩ (.int .i64 (v4 : Int))) := ((((but_set u1 X 13 (.int .i64 (v1 : Int))).trans (but_set _ X 14 (.int .i64 (v2 : Int)))).trans (but_set _ X 15 (.int .i64 (v3 : Int)))).trans (but_set _ X 16 (.int .i64 (v4 : Int))))
     have hs2 := hs.out.store (k := dH5 f) (r' := { r with z1 := (v1 : Int), z2 := (v2 : Int), z3 := (v3 : Int), z4 := (v4 : Int) }) hr1.out hb1.out hbX (hrc1.out.nums hbX r.kind r.n r.dst r.yes r.st r.x1 r.x2 r.x3 (v1) (v2) (v3) (v4) (by rw [blk_put (blk_put (blk_put (blk_put hX1.out _ _) _ _) _ _) _ _]; rfl)) (by unfold dH5; rw [hf, if_pos rfl]; exact g1.out.d4 (fun a b c d => { r.p with r1 := (a : Int), r2 := (b : Int), r3 := (c : Int), r4 := (d : Int) }))
     replace hs := Lib.hid hs2
     clear hs2 hbX hX1 hrc1 hr1 hb1 g1
     clear cx0 fx0 cx1 fx1 cx2 fx2 cx3 fx3
     generalize (((u1.setCell ⟨X, 13, none⟩ (.int .i64 (v1 : Int))).setCell ⟨X, 14, none⟩ (.int .i64 (v2 : Int))).setCell ⟨X, 15, none⟩ (.int .i64 (v3 : Int))).setCell ⟨X, 16, none⟩ (.int .i64 (v4 : Int)) = wx at *
     replace hs : Hid (∃ r st, DkSt R X E w.heap.size A c8 l w _ st0 r st wx) := Lib.hid ⟨_, _, hs.out⟩
     obtain ⟨r, st, hs⟩ := hs.out
     replace hs := Lib.hid hs
     replace hs := Lib.hid (hs.out.skip (k := dH6 f) (by rw [hf]; rfl))
     have hc := eyeStamp_any R A c8 l st wx hs.out.rd hl1 hcap
     have q := hs.out.ptr
     replace hc := Lib.hid hc
     go_upto_region 33 with (first | (go_at_call 17; (with_reducible refine Calls.mono hc.out ?_); rintro e u1 ⟨⟨v1, v2, v3⟩, st1, he, hr1, hb1, g1⟩; simp only [stVal, stV] at he; subst he; have hrc1 := hs.out.call hb1; have hX1 := hrc1.blk; have cx0 := (blk_cell hX1 4).trans (show _ = some (.int .i64 (r.st.wall)) from rfl); have fx0 := hrc1.free 4; have cx1 := (blk_cell hX1 5).trans (show _ = some (.int .i64 (r.st.logic)) from rfl); have fx1 := hrc1.free 5; have cx2 := (blk_cell hX1 6).trans (show _ = some (.int .i64 (r.st.node)) from rfl); have fx2 := hrc1.free 6; replace hrc1 := Lib.hid hrc1; replace hX1 := Lib.hid hX1; replace hr1 := Lib.hid hr1; replace hb1 := Lib.hid hb1; replace g1 := Lib.hid g1; clear hc q))
     have hbX : But (fun k => k = X) u1 (((u1.setCell ⟨X, 4, none⟩ (.int .i64 v1)).setCell ⟨X, 5, none⟩ (.int .i64 v2)).setCell ⟨X, 6, none⟩ (.int .i64 v3)) := (((but_set u1 X 4 (.int .i64 v1)).trans (but_set _ X 5 (.int .i64 v2))).trans (but_set _ X 6 (.int .i64 v3)))
     have hs2 := hs.out.store (k := dH7 f) (r' := { r with st := ⟨v1, v2, v3⟩ }) hr1.out hb1.out hbX (hrc1.out.nums hbX r.kind r.n r.dst r.yes ⟨v1, v2, v3⟩ r.x1 r.x2 r.x3 r.z1 r.z2 r.z3 r.z4 (by rw [blk_put (blk_put (blk_put hX1.out _ _) _ _) _ _]; rfl)) (by unfold dH7; rw [hf, if_pos rfl]; exact g1.out.map (f := fun s => { r.p with st := s }))
     replace hs := Lib.hid hs2
     clear hs2 hbX hX1 hrc1 hr1 hb1 g1
     clear cx0 fx0 cx1 fx1 cx2 fx2
     generalize ((u1.setCell ⟨X, 4, none⟩ (.int .i64 v1)).setCell ⟨X, 5, none⟩ (.int .i64 v2)).setCell ⟨X, 6, none⟩ (.int .i64 v3) = wx at *
     replace hs : Hid (∃ r st, DkSt R X E w.heap.size A c8 l w _ st0 r st wx) := Lib.hid ⟨_, _, hs.out⟩
     obtain ⟨r, st, hs⟩ := hs.out
     replace hs := Lib.hid hs
     replace hs := Lib.hid (hs.out.skip (k := dY8 f) (by rw [hf]; rfl))
     have hc := eye10strs_any R A c8 l st wx hs.out.rd hl5 hcap (hTG.out _ hs.out.g)
     have q := hs.out.ptr
     have LE := load_blk (P := Tryz.prog) (T := 61) hs.out.eb Tryz.underlying61 rfl (by kernel_rfl)
     replace hc := Lib.hid hc
     go_wp2_with (first | (refine wpList_load_at (ty := 61) rfl (by kernel_rfl) (p := .pointer (some ⟨E, 0, none⟩)) rfl LE ?_; clear LE) | (go_at_call 21; (with_reducible refine Calls.mono hc.out ?_); rintro e u1 ⟨A1, c1, ss, st1, rfl, hr1, hb1, ho1, hz1, g1⟩; have hrc1 := hs.out.call hb1; have hX1 := hrc1.blk; have cx0 := (blk_cell hX1 17).trans (show _ = some (.slice r.As r.sms.length r.cs) from rfl); have fx0 := hrc1.free 17; replace hrc1 := Lib.hid hrc1; replace hX1 := Lib.hid hX1; replace hr1 := Lib.hid hr1; replace hb1 := Lib.hid hb1; replace g1 := Lib.hid g1; replace hz1 := Lib.hid hz1; replace ho1 := Lib.hid ho1; clear hc q))
     have hbX : But (fun k => k = X) u1 (u1.setCell ⟨X, 17, none⟩ (.slice A1 ss.length c1)) := (but_set u1 X 17 (.slice A1 ss.length c1))
     have hs2 := hs.out.store (k := dY9 f) (r' := { r with As := A1, cs := c1, sms := ss }) hr1.out hb1.out hbX (hrc1.out.setS hbX (SmsOwn.but ⟨ho1.out.row.mono (by have := blk_lt hs.out.rc.blk; omega), fun s h => (ho1.out.each s h).mono (by have := blk_lt hs.out.rc.blk; omega)⟩ hbX (fun k cs t hk hc => by subst hk; rw [hX1.out] at hc; cases hc; decide)) hz1.out (by rw [blk_put hX1.out _ _]; rfl)) (by unfold dY9; rw [hf, if_pos rfl]; exact g1.out.dS (fun ss => { r.p with sms := ss }))
     replace hs := Lib.hid hs2
     clear hs2
     go_meet
     exact ⟨_, _, hs.out⟩
    ·skip
     have hf : f = { span := true } := hfd.out.trans fl11
     replace hs := Lib.hid (hs.out.skip (k := dH1 f) (by rw [hf]; rfl))
     replace hs := Lib.hid (hs.out.skip (k := dH2 f) (by rw [hf]; rfl))
     replace hs := Lib.hid (hs.out.skip (k := dY3 f) (by rw [hf]; rfl))
     replace hs := Lib.hid (hs.out.skip (k := dH4 f) (by rw [hf]; rfl))
     go_upto_region 35 with fail
     clear q4
     generalize wc = wx at *
     have hc := eye10rng_any R A c8 l st wx hs.out.rd hl1 hcap 1125899906842624 1125899906842624 rfl (by omega)
     have q := hs.out.ptr
     have LE := load_blk (P := Tryz.prog) (T := 61) hs.out.eb Tryz.underlying61 rfl (by kernel_rfl)
     replace hc := Lib.hid hc
     go_wp2_with (first | (refine wpList_load_at (ty := 61) rfl (by kernel_rfl) (p := .pointer (some ⟨E, 0, none⟩)) rfl LE ?_; clear LE) | (go_at_call 20; (with_reducible refine Calls.mono hc.out ?_); rintro e u1 ⟨⟨v1, v2, v3, v4⟩, st1, he, hr1, hb1, g1⟩; simp only [rngVal] at he; subst he; have hrc1 := hs.out.call hb1; have hX1 := hrc1.blk; have cx0 := (blk_cell hX1 13).trans (show _ = some (.int .i64 (r.z1)) from rfl); have fx0 := hrc1.free 13; have cx1 := (blk_cell hX1 14).trans (show _ = some (.int .i64 (r.z2)) from rfl); have fx1 := hrc1.free 14; have cx2 := (blk_cell hX1 15).trans (show _ = some (.int .i64 (r.z3)) from rfl); have fx2 := hrc1.free 15; have cx3 := (blk_cell hX1 16).trans (show _ = some (.int .i64 (r.z4)) from rfl); have fx3 := hrc1.free 16; replace hrc1 := Lib.hid hrc1; replace hX1 := Lib.hid hX1; replace hr1 := Lib.hid hr1; replace hb1 := Lib.hid hb1; replace g1 := Lib.hid g1; clear hc q))
     have hbX : But (fun k => k = X) u1 ((((u1.setCell ⟨X, 13, none⟩ (.int .i64 (v1 : Int))).setCell ⟨X, 14, none⟩ (.int .i64 (v2 : Int))).setCell ⟨X, 15, none⟩ (.int .i64 (v3 : Int))).setCell ⟨X, 16, none⟩ (.int .i64 (v4 : Int))) := ((((but_set u1 X 13 (.int .i64 (v1 : Int))).trans (but_set _ X 14 (.int .i64 (v2 : Int)))).trans (but_set _ X 15 (.int .i64 (v3 : Int)))).trans (but_set _ X 16 (.int .i64 (v4 : Int))))
     have hs2 := hs.out.store (k := dH5 f) (r' := { r with z1 := (v1 : Int), z2 := (v2 : Int), z3 := (v3 : Int), z4 := (v4 : Int) }) hr1.out hb1.out hbX (hrc1.out.nums hbX r.kind r.n r.dst r.yes r.st r.x1 r.x2 r.x3 (v1) (v2) (v3) (v4) (by rw [blk_put (blk_put (blk_put (blk_put hX1.out _ _) _ _) _ _) _ _]; rfl)) (by unfold dH5; rw [hf, if_pos rfl]; exact g1.out.d4 (fun a b c d => { r.p with r1 := (a : Int), r2 := (b : Int), r3 := (c : Int), r4 := (d : Int) }))
     replace hs := Lib.hid hs2
     clear hs2
     replace hs := Lib.hid (hs.out.skip (k := dH6 f) (by rw [hf]; rfl))
     replace hs := Lib.hid (hs.out.skip (k := dH7 f) (by rw [hf]; rfl))
     replace hs := Lib.hid (hs.out.skip (k := dY8 f) (by rw [hf]; rfl))
     replace hs := Lib.hid (hs.out.skip (k := dY9 f) (by rw [hf]; rfl))
     go_meet
     exact ⟨_, _, hs.out⟩
    ·have h0 := fOk_no hno
     have hf : f = {} := hfd.out.trans (fl_no hno)
     have t1 : (K == 1) = false := by rw [beq_eq_false_iff_ne]; omega
     have t2 : (K == 2) = false := by rw [beq_eq_false_iff_ne]; omega
     have t3 : (K == 3) = false := by rw [beq_eq_false_iff_ne]; omega
     have t4 : (K == 4) = false := by rw [beq_eq_false_iff_ne]; omega
     have t5 : (K == 5) = false := by rw [beq_eq_false_iff_ne]; omega
     have t6 : (K == 6) = false := by rw [beq_eq_false_iff_ne]; omega
     have t7 : (K == 7) = false := by rw [beq_eq_false_iff_ne]; omega
     have t8 : (K == 8) = false := by rw [beq_eq_false_iff_ne]; omega
     have t9 : (K == 9) = false := by rw [beq_eq_false_iff_ne]; omega
     have t10 : (K == 10) = false := by rw [beq_eq_false_iff_ne]; omega
     have t11 : (K == 11) = false := by rw [beq_eq_false_iff_ne]; omega
     replace hno := Lib.hid hno
     replace hfd := Lib.hid hfd
     have hs9 := (((((((((hs.out.skip (k := dH1 f) (by rw [hf]; rfl)).skip (k := dH2 f) (by rw [hf]; rfl)).skip (k := dY3 f) (by rw [hf]; rfl)).skip (k := dH4 f) (by rw [hf]; rfl)).skip (k := dH5 f) (by rw [hf]; rfl)).skip (k := dH6 f) (by rw [hf]; rfl)).skip (k := dH7 f) (by rw [hf]; rfl)).skip (k := dY8 f) (by rw [hf]; rfl)).skip (k := dY9 f) (by rw [hf]; rfl))
     replace hs9 := Lib.hid hs9
     clear hf h0 hs
     go_wp2_with fail
     go_meet
     exact ⟨_, _, hs9.out⟩
   case rest =>
    clear hs
    obtain ⟨r, st, hs⟩ := hcut
    refine hK2 _ _ ?_
    have q := hs.ptr
    have q2 := hs.rd.c2
    cases st with
    | none =>
     have hno : decR l = none := by
      cases hd : decR l with
      | none => rfl
      | some p =>
       rcases hl2.out with ⟨rfl, _⟩ | ⟨b, q, rfl, rfl, rfl⟩
       ·cases hd
       ·have h2 := doc_reads hd (hF.out p hd)
        have h3 := hs.gv
        rw [hfd.out, ← hK.out] at h3
        rw [h3.miss] at h2
        cases h2
     unfold Option.isNone at q2
     obtain ⟨W9, SR9, C9, hb9, hG9⟩ := store_blk (P := Tryz.prog) (T := 36) (cs := #[.int .i64 0, .int .i64 0, .int .i64 0, .bool false, .int .i64 0, .int .i64 0, .int .i64 0, .int .i64 0, .int .i64 0, .int .i64 0, .slice none 0 0, .string ⟨#[]⟩, .slice none 0 0, .int .i64 0, .int .i64 0, .int .i64 0, .int .i64 0, .slice none 0 0]) hs.zb rfl (by kernel_rfl) (by kernel_rfl)
     have hg9 := hG9 w hs.g (Nat.le_refl _)
     replace C9 := Lib.hid C9
     replace hg9 := Lib.hid hg9
     clear hb9 hG9
     replace hno := Lib.hid hno
     replace hs := Lib.hid hs
     go_wp2_with (refine wpList_store_at (ty := 36) rfl (by kernel_rfl) (p := .pointer (some ⟨w.heap.size, 0, none⟩)) (v := .agg zR.cells) rfl rfl SR9 ?_; clear SR9)
     refine bodyPost_ret (v := .tuple #[.agg #[.int .i64 0, .int .i64 0, .int .i64 0, .bool false, .int .i64 0, .int .i64 0, .int .i64 0, .int .i64 0, .int .i64 0, .int .i64 0, .slice none 0 0, .string ⟨#[]⟩, .slice none 0 0, .int .i64 0, .int .i64 0, .int .i64 0, .int .i64 0, .slice none 0 0], .int .i64 10]) (results_cell2 (i := 2) (j := 3) rfl rfl rfl C9.out Tryz.underlying36 rfl (by kernel_rfl)) rfl ?_
     exact ⟨zR, 10, rfl, .inr ⟨hno.out, rfl, rfl⟩, zR_in _, hg9.out⟩
    | some rest =>
     obtain ⟨b, q0, rfl, hkb, rfl⟩ : ∃ b q, l = b :: q ∧ kv = b.toNat ∧ st0 = some q := by
      rcases hl2.out with ⟨_, rfl⟩ | h
      ·cases hs.gv.still
      ·exact h
     subst hkb
     have hit : dDocF (flOf (b.toNat : Int)) (p0 (b.toNat : Int)) q0 = some (r.p, rest) := by
      have h3 := hs.gv
      rw [hfd.out, ← hK.out] at h3
      exact h3.hit
     have hsm : r.Small := small_of hs.rc hKI.out (by
      have := (good_docF (M := 500000) (k := K) f q0 r.p rest (by simp only [List.length_cons] at hl; omega) (by rw [hfd.out, ← hK.out]; exact hit)).1
      exact this)
     have hen := refEncR_any r wc hs.rc.ins hsm (hTG.out _ hs.g)
     have hsame : ∀ p, decR (b :: q0) = some p → p = r.p := fun p hd => by
      have h2 := doc_reads hd (hF.out p hd)
      rw [hit] at h2
      cases h2
      rfl
     unfold Option.isNone at q2
     have LR := load_blk (P := Tryz.prog) (T := 36) hs.rc.blk Tryz.underlying36 rfl (by kernel_rfl)
     rw [encR_eq] at hen
     replace hit := Lib.hid hit
     replace hsame := Lib.hid hsame
     replace hs := Lib.hid hs
     replace hsm := Lib.hid hsm
     replace hkb := True.intro
     clear hkb hl2
     cases hck : chkR r.p with
     | false =>
      have hno : decR (b :: q0) = none := by
       cases hd : decR (b :: q0) with
       | none => rfl
       | some p =>
        have h1 := (decR_canon hd).1
        rw [hsame.out p hd, hck] at h1
        cases h1
      rw [hck] at hen
      have hen2 : Calls Tryz.prog 22 #[.agg r.cells] wc fun e w' => ∃ A c, e = .returned (.tuple #[.slice A 0 c, .int .i64 1]) ∧ G wc w' := hen.mono fun e w' h => by
       obtain ⟨A, c, h1, _, h3⟩ := h
       exact ⟨A, c, h1, h3⟩
      clear hen
      replace hen := Lib.hid hen2
      replace hno := Lib.hid hno
      go_upto_region 39 with (first
       | (refine wpList_load_at (ty := 36) rfl (by kernel_rfl) (p := .pointer (some ⟨X, 0, none⟩)) rfl LR ?_; clear LR)
       | (go_at_call 22; (with_reducible refine Calls.mono hen.out ?_); rintro e u2 ⟨A2, d2, rfl, hg2⟩; clear hen))
      obtain ⟨W9, SR9, C9, hb9, hG9⟩ := store_blk (P := Tryz.prog) (T := 36) (cs := #[.int .i64 0, .int .i64 0, .int .i64 0, .bool false, .int .i64 0, .int .i64 0, .int .i64 0, .int .i64 0, .int .i64 0, .int .i64 0, .slice none 0 0, .string ⟨#[]⟩, .slice none 0 0, .int .i64 0, .int .i64 0, .int .i64 0, .int .i64 0, .slice none 0 0]) (hg2.blk hs.out.zb) rfl (by kernel_rfl) (by kernel_rfl)
      have hg9 := hG9 w (hs.out.g.trans hg2) (Nat.le_refl _)
      replace C9 := Lib.hid C9
      replace hg9 := Lib.hid hg9
      clear hb9 hG9
      go_wp2_with (refine wpList_store_at (ty := 36) rfl (by kernel_rfl) (p := .pointer (some ⟨w.heap.size, 0, none⟩)) (v := .agg zR.cells) rfl rfl SR9 ?_; clear SR9)
      refine bodyPost_ret (v := .tuple #[.agg #[.int .i64 0, .int .i64 0, .int .i64 0, .bool false, .int .i64 0, .int .i64 0, .int .i64 0, .int .i64 0, .int .i64 0, .int .i64 0, .slice none 0 0, .string ⟨#[]⟩, .slice none 0 0, .int .i64 0, .int .i64 0, .int .i64 0, .int .i64 0, .slice none 0 0], .int .i64 10]) (results_cell2 (i := 2) (j := 3) rfl rfl rfl C9.out Tryz.underlying36 rfl (by kernel_rfl)) rfl ?_
      exact ⟨zR, 10, rfl, .inr ⟨hno.out, rfl, rfl⟩, zR_in _, hg9.out⟩
     | true =>
      rw [hck] at hen
      obtain ⟨dd, hdd⟩ : ∃ dd, docR r.p = dd := ⟨_, rfl⟩
      rw [hdd] at hen
      have hen2 : Calls Tryz.prog 22 #[.agg r.cells] wc fun e w' => ∃ A c, e = .returned (.tuple #[.slice A dd.length c, .int .i64 0]) ∧ OwnL 5 1 byteC w' wc.heap.size (.slice A dd.length c) dd ∧ G wc w' := hen.mono fun e w' h => by
       obtain ⟨A, c, h1, h2, h3⟩ := h
       exact ⟨A, c, h1, h2, h3⟩
      clear hen
      replace hen := Lib.hid hen2
      generalize hlq : b :: q0 = l at *
      replace hdd := Lib.hid hdd
      replace hlq := Lib.hid hlq
      go_upto_region 39 with (first
       | (refine wpList_load_at (ty := 36) rfl (by kernel_rfl) (p := .pointer (some ⟨X, 0, none⟩)) rfl LR ?_; clear LR)
       | (go_at_call 22; (with_reducible refine Calls.mono hen.out ?_); rintro e u2 ⟨A2, d2, rfl, ho2, hg2⟩; clear hen))
      have hgu := hs.out.g.trans hg2
      have hcv1 := conv_back (c := d2) (ho2.self byteC_len)
      have hcv2 := conv_back (c := c8) (hsl.out.g (Nat.le_refl _) hgu)
      by_cases heq : dd = l
      ·have hz := hg2.blk hs.out.zb
       obtain ⟨W9, SR9, C9, hb9, hG9⟩ := store_blk (P := Tryz.prog) (T := 36) (cs := r.cells) hz rfl (by kernel_rfl) (by kernel_rfl)
       have hg9 := hG9 w hgu (Nat.le_refl _)
       have hlt := hs.out.lt
       have hrX := hs.out.rc.g hg2
       have LR2 := load_blk (P := Tryz.prog) (T := 36) hrX.blk Tryz.underlying36 rfl (by kernel_rfl)
       have hr9 := (hrX.but hb9 (by
        rintro k rfl
        exact ⟨by omega, fun cs t hc => by rw [hz] at hc; cases hc; decide⟩)).ins
       have hyes : decR l = some r.p := by rw [← heq, ← hdd.out]; exact decR_back hck (rec_fits2 hsm.out)
       replace C9 := Lib.hid C9
       replace hr9 := Lib.hid hr9
       replace hg9 := Lib.hid hg9
       replace hyes := Lib.hid hyes
       subst heq
       clear hb9 hG9 hz ho2 hrX hlt q q2
       go_wp2_with (first
        | (refine wpList_load_at (ty := 36) rfl (by kernel_rfl) (p := .pointer (some ⟨X, 0, none⟩)) rfl LR2 ?_; clear LR2)
        | (refine wpList_store_at (ty := 36) rfl (by kernel_rfl) (p := .pointer (some ⟨w.heap.size, 0, none⟩)) (v := .agg r.cells) rfl rfl SR9 ?_; clear SR9))
       refine bodyPost_ret (v := .tuple #[.agg r.cells, .int .i64 0]) (results_cell2 (i := 2) (j := 3) rfl rfl rfl C9.out Tryz.underlying36 rfl (by kernel_rfl)) rfl ?_
       exact ⟨r, 0, rfl, .inl ⟨hyes.out, rfl, hsm.out⟩, hr9.out, hg9.out⟩
      ·have hno : decR l = none := by
        cases hd : decR l with
        | none => rfl
        | some p =>
         have h1 := (decR_canon hd).2
         rw [hsame.out p hd, hdd.out] at h1
         exact absurd h1.symm heq
       have hne : strOf dd ≠ strOf l := fun h => heq (by rw [← strOf_list dd, h, strOf_list])
       have e2 : ((strOf dd).toList == (strOf l).toList) = false := by rw [bytes_beq]; simpa using hne
       have e3 : ((strOf dd).toList != (strOf l).toList) = true := by unfold bne; rw [e2]; rfl
       replace heq := Lib.hid heq
       replace hne := Lib.hid hne
       replace hno := Lib.hid hno
       obtain ⟨W9, SR9, C9, hb9, hG9⟩ := store_blk (P := Tryz.prog) (T := 36) (cs := #[.int .i64 0, .int .i64 0, .int .i64 0, .bool false, .int .i64 0, .int .i64 0, .int .i64 0, .int .i64 0, .int .i64 0, .int .i64 0, .slice none 0 0, .string ⟨#[]⟩, .slice none 0 0, .int .i64 0, .int .i64 0, .int .i64 0, .int .i64 0, .slice none 0 0]) (hg2.blk hs.out.zb) rfl (by kernel_rfl) (by kernel_rfl)
       have hg9 := hG9 w hgu (Nat.le_refl _)
       replace C9 := Lib.hid C9
       replace hg9 := Lib.hid hg9
       clear hb9 hG9
       go_wp2_with (refine wpList_store_at (ty := 36) rfl (by kernel_rfl) (p := .pointer (some ⟨w.heap.size, 0, none⟩)) (v := .agg zR.cells) rfl rfl SR9 ?_; clear SR9)
       refine bodyPost_ret (v := .tuple #[.agg #[.int .i64 0, .int .i64 0, .int .i64 0, .bool false, .int .i64 0, .int .i64 0, .int .i64 0, .int .i64 0, .int .i64 0, .int .i64 0, .slice none 0 0, .string ⟨#[]⟩, .slice none 0 0, .int .i64 0, .int .i64 0, .int .i64 0, .int .i64 0, .slice none 0 0], .int .i64 10]) (results_cell2 (i := 2) (j := 3) rfl rfl rfl C9.out Tryz.underlying36 rfl (by kernel_rfl)) rfl ?_
       exact ⟨zR, 10, rfl, .inr ⟨hno.out, rfl, rfl⟩, zR_in _, hg9.out⟩
end Go.Proofs.YthafeaclpcjjbaaGreatDoor

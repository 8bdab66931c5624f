/- rec.Decode: what it answers. Conditions: at most 2^19 bytes; the decoder's tables lie as the library lays them. -/
import Derived.Test.YthafeaclpcjjbaaGreatDoorRecLsRQRecDecodes
import Derived.Test.YthafeaclpcjjbaaGreatDoorM36RecDecodes
import Derived.Test.YthafeaclpcjjbaaGreatDoorM37RecDecodes
namespace Go.Proofs.YthafeaclpcjjbaaGreatDoor
open Go.RowKit
def zR : RecM := ⟨0, 0, 0, false, ⟨0, 0, 0⟩, 0, 0, 0, none, 0, [], ⟨#[]⟩, none, 0, [], 0, 0, 0, 0, none, 0, []⟩
def kR (k : Int) : RecM := ⟨k, 0, 0, false, ⟨0, 0, 0⟩, 0, 0, 0, none, 0, [], ⟨#[]⟩, none, 0, [], 0, 0, 0, 0, none, 0, []⟩
def RetRec (w : World) (l : List UInt8) (e : Ending) (w' : World) : Prop :=
 ∃ (r : RecM) (c : Nat), e = .returned (.tuple #[.agg r.cells, .int .i64 c]) ∧ ((decR l = some r.p ∧ c = 0 ∧ r.Small) ∨ (decR l = none ∧ c = 10 ∧ r = zR)) ∧ r.In w' ∧ G w w'
theorem RcSt.ins {X base : Nat} {r : RecM} {w : World} (h : RcSt X base r w) : r.In w := ⟨h.nodes.self intC_len, h.puts.ins, h.sms.ins⟩
theorem zR_in (w : World) : zR.In w := ⟨Sl.nil, ⟨Sl.nil, fun _ h => by cases h⟩, ⟨Sl.nil, fun _ h => by cases h⟩⟩
theorem small_of {X base : Nat} {r : RecM} {w : World} (h : RcSt X base r w) {k : Int} (hk : Int64 k) (hp : PFine 500000 k r.p) : r.Small := by
 have i : ∀ x : Int, 0 ≤ x ∧ x ≤ 1125899906842624 → Int64 x := fun x h => ⟨by omega, by omega⟩
 have e1 : r.kind = k := hp.kind
 have e3 : (r.sms.map SmM.sm).length ≤ 500000 := hp.smsL
 have e4 : r.nodes.length ≤ 500000 := hp.nodesL
 rw [List.length_map] at e3
 exact ⟨by rw [e1]; exact hk, i _ hp.n, i _ hp.dst, i _ hp.x1, i _ hp.x2, i _ hp.x3, i _ hp.z1, i _ hp.z2, i _ hp.z3, i _ hp.z4, fun x hx => i x (hp.nodes x hx), by omega, h.key, h.psz, hp.bat, by omega, fun s hs => ⟨h.smz s hs, hp.sms s.sm (List.mem_map.2 ⟨s, hs, rfl⟩)⟩⟩
set_option maxRecDepth 100000 in
set_option maxHeartbeats 8000000 in
theorem recDec_nil (A : Option Addr) (c8 : Nat) (w : World) : Calls Tryz.prog 5 #[.slice A 0 c8] w (RetRec w []) := by
 have hg0 := G.new w (.cells #[.int .i64 0, .int .i64 0, .int .i64 0, .bool false, .int .i64 0, .int .i64 0, .int .i64 0, .int .i64 0, .int .i64 0, .int .i64 0, .slice none 0 0, .string ⟨#[]⟩, .slice none 0 0, .int .i64 0, .int .i64 0, .int .i64 0, .int .i64 0, .slice none 0 0] 36)
 have B0 := blk_new w #[.int .i64 0, .int .i64 0, .int .i64 0, .bool false, .int .i64 0, .int .i64 0, .int .i64 0, .int .i64 0, .int .i64 0, .int .i64 0, .slice none 0 0, .string ⟨#[]⟩, .slice none 0 0, .int .i64 0, .int .i64 0, .int .i64 0, .int .i64 0, .slice none 0 0] 36
 obtain ⟨WZ, SRZ, CZ, hbZ, hGZ⟩ := store_blk (P := Tryz.prog) (T := 36) (cs := #[.int .i64 0, .int .i64 0, .int .i64 0, .bool false, .int .i64 0, .int .i64 0, .int .i64 0, .int .i64 0, .int .i64 0, .int .i64 0, .slice none 0 0, .string ⟨#[]⟩, .slice none 0 0, .int .i64 0, .int .i64 0, .int .i64 0, .int .i64 0, .slice none 0 0]) B0 rfl (by kernel_rfl) (by kernel_rfl)
 have hgz := hGZ w hg0 (Nat.le_refl _)
 replace CZ := Lib.hid CZ
 replace B0 := Lib.hid B0
 clear hbZ hGZ
 go_enter Tryz.func5, Tryz.ntmps5
 go_upto_region 1 with fail
 go_wp2_with (refine wpList_store_at (ty := 36) rfl (by kernel_rfl) rfl rfl SRZ ?_; clear SRZ)
 refine bodyPost_ret (v := .tuple #[.agg #[.int .i64 0, .int .i64 0, .int .i64 0, .bool false, .int .i64 0, .int .i64 0, .int .i64 0, .int .i64 0, .int .i64 0, .int .i64 0, .slice none 0 0, .string ⟨#[]⟩, .slice none 0 0, .int .i64 0, .int .i64 0, .int .i64 0, .int .i64 0, .slice none 0 0], .int .i64 10]) (results_cell2 (i := 2) (j := 3) rfl rfl rfl CZ.out Tryz.underlying36 rfl (by kernel_rfl)) rfl ?_
 exact ⟨zR, 10, rfl, .inr ⟨rfl, rfl, rfl⟩, zR_in _, hgz⟩
set_option maxRecDepth 100000 in
set_option maxHeartbeats 8000000 in
theorem recDec_cons (b : UInt8) (q : List UInt8) (A : Option Addr) (c8 : Nat) (w : World) (hs : Sl byteC 1 w w.heap.size A (b :: q)) (hl : (b :: q).length ≤ 500000) (hcap : (b :: q).length ≤ c8) (hT : Tabs w) :
  Calls Tryz.prog 5 #[.slice A (b :: q).length c8] w (RetRec w (b :: q)) := by
 obtain ⟨A', hrun, hsl⟩ := run_tail (b :: q) A c8 1 (by simp) hcap
 obtain ⟨bb, o, rfl, hbB, hcell⟩ := hs.get (k := 0) (x := b) rfl
 have cb := hcell 0 _ rfl
 simp only [Nat.zero_mul, Nat.add_zero] at cb
 have hbx := b.toNat_lt
 have hwr : IntKind.i64.wrap (b.toNat : Int) = (b.toNat : Int) := IntWalk.i64_in _ (by omega)
 have hlq : (b :: q).length = q.length + 1 := rfl
 have t0 : (((b :: q).length : Int) == 0) = false := by rw [beq_eq_false_iff_ne, hlq]; omega
 have n1 : (0 : Int) < ((b :: q).length : Int) := by rw [hlq]; omega
 have hrun1 : ∀ w, (Instr.slice 22 (.slice (some ⟨bb, o, none⟩) (b :: q).length c8) (some (.int .i64 1)) none none).run Tryz.prog w = .ok (.slice A' q.length (c8 - 1)) w := fun w => hrun w
 have hsq := hsl w w.heap.size hs
 rw [List.drop_one, List.tail_cons] at hsq
 generalize hN : (b :: q).length = N at *
 replace hN := Lib.hid hN
 replace hlq := Lib.hid hlq
 replace hcell := Lib.hid hcell
 have hg0 := G.new w (.cells #[.int .i64 0, .int .i64 0, .int .i64 0, .bool false, .int .i64 0, .int .i64 0, .int .i64 0, .int .i64 0, .int .i64 0, .int .i64 0, .slice none 0 0, .string ⟨#[]⟩, .slice none 0 0, .int .i64 0, .int .i64 0, .int .i64 0, .int .i64 0, .slice none 0 0] 36)
 have B0 := blk_new w #[.int .i64 0, .int .i64 0, .int .i64 0, .bool false, .int .i64 0, .int .i64 0, .int .i64 0, .int .i64 0, .int .i64 0, .int .i64 0, .slice none 0 0, .string ⟨#[]⟩, .slice none 0 0, .int .i64 0, .int .i64 0, .int .i64 0, .int .i64 0, .slice none 0 0] 36
 have cb0 := (hg0.cell hbB).trans cb
 have hz0 : (w.alloc (.cells #[.int .i64 0, .int .i64 0, .int .i64 0, .bool false, .int .i64 0, .int .i64 0, .int .i64 0, .int .i64 0, .int .i64 0, .int .i64 0, .slice none 0 0, .string ⟨#[]⟩, .slice none 0 0, .int .i64 0, .int .i64 0, .int .i64 0, .int .i64 0, .slice none 0 0] 36)).heap.size = w.heap.size + 1 := by simp
 replace cb := Lib.hid cb
 replace hT := Lib.hid hT
 replace hsl := Lib.hid hsl
 replace hsq := Lib.hid hsq
 clear hrun
 go_enter Tryz.func5, Tryz.ntmps5
 go_upto_region 1 with fail
 generalize w.alloc (.cells #[.int .i64 0, .int .i64 0, .int .i64 0, .bool false, .int .i64 0, .int .i64 0, .int .i64 0, .int .i64 0, .int .i64 0, .int .i64 0, .slice none 0 0, .string ⟨#[]⟩, .slice none 0 0, .int .i64 0, .int .i64 0, .int .i64 0, .int .i64 0, .slice none 0 0] 36) = W0 at *
 obtain ⟨W1, SR1, C1, hb1, hG1⟩ := store_blk (P := Tryz.prog) (T := 36) (cs := #[.int .i64 b.toNat, .int .i64 0, .int .i64 0, .bool false, .int .i64 0, .int .i64 0, .int .i64 0, .int .i64 0, .int .i64 0, .int .i64 0, .slice none 0 0, .string ⟨#[]⟩, .slice none 0 0, .int .i64 0, .int .i64 0, .int .i64 0, .int .i64 0, .slice none 0 0]) (blk_new W0 #[.int .i64 0, .int .i64 0, .int .i64 0, .bool false, .int .i64 0, .int .i64 0, .int .i64 0, .int .i64 0, .int .i64 0, .int .i64 0, .slice none 0 0, .string ⟨#[]⟩, .slice none 0 0, .int .i64 0, .int .i64 0, .int .i64 0, .int .i64 0, .slice none 0 0] 36) rfl (by kernel_rfl) (by kernel_rfl)
 have hga := G.new W0 (.cells #[.int .i64 0, .int .i64 0, .int .i64 0, .bool false, .int .i64 0, .int .i64 0, .int .i64 0, .int .i64 0, .int .i64 0, .int .i64 0, .slice none 0 0, .string ⟨#[]⟩, .slice none 0 0, .int .i64 0, .int .i64 0, .int .i64 0, .int .i64 0, .slice none 0 0] 36)
 have hgW1 := hG1 w (hg0.trans hga) (by rw [hz0]; omega)
 have B1 := hb1.blk (hga.blk B0) (by rw [hz0]; omega)
 rw [hz0] at SR1 C1
 replace B0 := Lib.hid B0
 replace B1 := Lib.hid B1
 replace hb1 := Lib.hid hb1
 clear hG1 hga
 go_upto_region 4 with (refine wpList_store_at (ty := 36) rfl (by kernel_rfl) (p := .pointer (some ⟨w.heap.size + 1, 0, none⟩)) (v := .agg (kR b.toNat).cells) rfl rfl SR1 ?_; clear SR1)
 have g0 := (blk_cell C1 0).trans (show _ = some (.int .i64 b.toNat) from rfl)
 have hnm := Lib.hid (recNamed_any (b.toNat : Int) W1)
 obtain ⟨f, hf⟩ : ∃ f, flOf (b.toNat : Int) = f := ⟨_, rfl⟩
 obtain ⟨ok, hok⟩ : ∃ o, fOk (b.toNat : Int) = o := ⟨_, rfl⟩
 rw [hf, hok] at hnm
 replace hf := Lib.hid hf
 replace hok := Lib.hid hok
 have hzW := hb1.out.size
 have hxW := blk_lt C1
 go_wp2_with fail
 refine Calls.mono hnm.out ?_
 rintro e u1 ⟨rfl, hg1⟩
 clear hnm g0
 have hgu := hgW1.trans hg1
 have C2 := hg1.blk C1
 have B2 := hg1.blk B1.out
 have hgb := G.new u1 (.cells #[.bool false, .bool false, .bool false, .bool false, .bool false, .bool false, .bool false, .bool false, .bool false] 48)
 obtain ⟨W2, SR2, F2, hb2, hG2⟩ := store_blk (P := Tryz.prog) (T := 48) (cs := f.cells) (blk_new u1 #[.bool false, .bool false, .bool false, .bool false, .bool false, .bool false, .bool false, .bool false, .bool false] 48) rfl (by kernel_rfl) (by kernel_rfl)
 have hgW2 := hG2 w (hgu.trans hgb) hgu.size
 have hxu := blk_lt C2
 have C3 := hb2.blk (hgb.blk C2) (by omega)
 have B3 := hb2.blk (hgb.blk B2) (by omega)
 have hzu := blk_lt F2
 replace F2 := Lib.hid F2
 replace C2 := Lib.hid C2
 replace B2 := Lib.hid B2
 replace C3 := Lib.hid C3
 replace B3 := Lib.hid B3
 replace C1 := Lib.hid C1
 clear hb2 hG2 hgb
 go_upto_region 5 with (refine wpList_store_at (ty := 48) rfl (by kernel_rfl) (p := .pointer (some ⟨u1.heap.size, 0, none⟩)) (v := .agg f.cells) rfl rfl SR2 ?_; clear SR2)
 go_upto_region 6 with fail
 have hgr := G.new W2 (.cells #[.slice A' q.length (c8 - 1), .bool false] 53)
 have R4 := blk_new W2 #[.slice A' q.length (c8 - 1), .bool false] 53
 have hzr : (W2.alloc (.cells #[.slice A' q.length (c8 - 1), .bool false] 53)).heap.size = W2.heap.size + 1 := by simp
 have C4 := hgr.blk C3.out
 have B4 := hgr.blk B3.out
 have F4 := hgr.blk F2.out
 have hgW3 := hgW2.trans hgr
 generalize W2.alloc (.cells #[.slice A' q.length (c8 - 1), .bool false] 53) = W3 at *
 have hzw2 := hgW2.size
 have hcapq : q.length ≤ c8 - 1 := by have := hlq.out; omega
 have hlenq : q.length ≤ 500000 := by have := hlq.out; omega
 have hrd : BrS 53 W2.heap.size w.heap.size 500000 (some q) W3 := ⟨A', q, c8 - 1, R4, hsq.out.g (Nat.le_refl _) hgW3, hzw2, hcapq, hlenq, fun l' e => by cases e; rfl⟩
 have hrc : RcSt (w.heap.size + 1) (W2.heap.size + 1) (kR b.toNat) W3 := ⟨C4, OwnL.nil, ⟨OwnL.nil, fun _ h => by cases h⟩, ⟨OwnL.nil, fun _ h => by cases h⟩, (show (⟨#[]⟩ : ByteArray).size ≤ 1073741824 by decide), ⟨by simp [kR], fun _ h => by cases h⟩, fun _ h => by cases h⟩
 have hTG : ∀ w2, G w w2 → Tabs w2 := fun w2 h => hT.out.g h
 generalize hRe : W2.heap.size = R at *
 generalize hFe : u1.heap.size = F at *
 have hFR : F < R := by omega
 have hXF : w.heap.size + 1 < F := by omega
 clear hRe hFe hgr R4 hgu hg1 hxu hzw2
 have hh := recHdR_any f R (w.heap.size + 1) w.heap.size 500000 (R + 1) (kR b.toNat) (some q) W3 hrd hrc ⟨rfl, rfl⟩ (by omega) (by omega) (by omega) (by omega) (fun w1 w2 h1 h2 => hTG _ ((hgW3.trans h1).gOf' h2 (by rintro k (rfl | rfl) <;> omega)))
 have LF := load_blk (P := Tryz.prog) (T := 48) F4 Tryz.underlying48 rfl (by kernel_rfl)
 replace hh := Lib.hid hh
 replace hrd := Lib.hid hrd
 replace hrc := Lib.hid hrc
 replace hTG := Lib.hid hTG
 replace F4 := Lib.hid F4
 replace B4 := Lib.hid B4
 replace C4 := Lib.hid C4
 clear hrun1 cb0
 go_upto_region 7 with (first | (refine wpList_load_at (ty := 48) rfl (by kernel_rfl) (p := .pointer (some ⟨F, 0, none⟩)) rfl LF ?_; clear LF) | (go_at_call 11; (with_reducible refine Calls.mono hh.out ?_); rintro e w4 ⟨rfl, w0, hg0', r1, st1, hs1⟩))
 clear hh
 have hG4 : G w w4 := (hgW3.trans hg0').gOf' hs1.but (by rintro k (rfl | rfl) <;> omega)
 have F5 := hs1.but.blk (hg0'.blk F4.out) (by rintro (h | h) <;> omega)
 have B5 := hs1.but.blk (hg0'.blk B4.out) (by rintro (h | h) <;> omega)
 have hl := recLsR_any f R (w.heap.size + 1) w.heap.size 500000 (R + 1) r1 st1 w4 hs1.rd hs1.rc hs1.ls.1 hs1.ls.2 (by omega) (by omega) (by omega) (by omega) (by have := hs1.rd.lt; omega) (by omega) (fun w1 w2 h1 h2 => hTG.out _ ((hG4.trans h1).gOf' h2.1 (by rintro k (rfl | rfl | h) <;> omega)))
 have LF := load_blk (P := Tryz.prog) (T := 48) F5 Tryz.underlying48 rfl (by kernel_rfl)
 replace hl := Lib.hid hl
 have hgd1 := Lib.hid hs1.gv
 clear hg0' hs1
 replace F5 := Lib.hid F5
 replace B5 := Lib.hid B5
 go_upto_region 8 with (first | (refine wpList_load_at (ty := 48) rfl (by kernel_rfl) (p := .pointer (some ⟨F, 0, none⟩)) rfl LF ?_; clear LF) | (go_at_call 12; (with_reducible refine Calls.mono hl.out ?_); rintro e w5 ⟨rfl, w0', hg0', r2, st2, hs2, hgd2⟩))
 clear hl
 have hG5 : G w w5 := (hG4.trans hg0').gOf' hs2.but.1 (by rintro k (rfl | rfl | h) <;> omega)
 have B6 := hs2.but.2 _ _ _ (by decide) (by decide) (by omega) (by omega) (hg0'.blk B5.out)
 have hgv : Gives (dRecB (b.toNat : Int)) (some q) st2 r2.p := by
  unfold dRecB
  rw [hf.out]
  exact hgd1.out.bind hgd2
 clear hg0'
 have hc1 := hs2.rd.c1
 obtain ⟨A9, l9, c9, R9, _, _, hl9, hst9⟩ := hs2.rd.any
 have hc0 := (blk_cell R9 0).trans (show _ = some (.slice A9 l9.length c9) from rfl)
 obtain ⟨W9, SR9, C9, hb9, hG9⟩ := store_blk (P := Tryz.prog) (T := 36) (cs := #[.int .i64 0, .int .i64 0, .int .i64 0, .bool false, .int .i64 0, .int .i64 0, .int .i64 0, .int .i64 0, .int .i64 0, .int .i64 0, .slice none 0 0, .string ⟨#[]⟩, .slice none 0 0, .int .i64 0, .int .i64 0, .int .i64 0, .int .i64 0, .slice none 0 0]) B6 rfl (by kernel_rfl) (by kernel_rfl)
 have hg9 := hG9 w hG5 (Nat.le_refl _)
 have LR := load_blk (P := Tryz.prog) (T := 36) hs2.rc.blk Tryz.underlying36 rfl (by kernel_rfl)
 replace R9 := Lib.hid R9
 replace C9 := Lib.hid C9
 replace hst9 := Lib.hid hst9
 replace hs2 := Lib.hid hs2
 replace hgv := Lib.hid hgv
 replace hg9 := Lib.hid hg9
 replace hG5 := Lib.hid hG5
 replace hgW3 := Lib.hid hgW3
 replace hG4 := Lib.hid hG4
 clear hb9 hG9 hgd1 hgd2 B5 F5 C4 B4 F4 hrd hrc
 cases ok with
 | false =>
  have hno : decR (b :: q) = none := by
   unfold decR
   split
   ·rfl
   ·rename_i b' q' e
    cases e
    split
    ·rw [if_neg fun h => by rw [hok.out] at h; exact absurd h.1 (by simp)]
    ·rfl
  replace hno := Lib.hid hno
  clear LR hc1 hc0
  go_wp2_with (refine wpList_store_at (ty := 36) rfl (by kernel_rfl) (p := .pointer (some ⟨w.heap.size, 0, none⟩)) (v := .agg zR.cells) rfl rfl SR9 ?_; clear SR9)
  refine bodyPost_ret (v := .tuple #[.agg #[.int .i64 0, .int .i64 0, .int .i64 0, .bool false, .int .i64 0, .int .i64 0, .int .i64 0, .int .i64 0, .int .i64 0, .int .i64 0, .slice none 0 0, .string ⟨#[]⟩, .slice none 0 0, .int .i64 0, .int .i64 0, .int .i64 0, .int .i64 0, .slice none 0 0], .int .i64 10]) (results_cell2 (i := 2) (j := 3) rfl rfl rfl C9.out Tryz.underlying36 rfl (by kernel_rfl)) rfl ?_
  exact ⟨zR, 10, rfl, .inr ⟨hno.out, rfl, rfl⟩, zR_in _, hg9.out⟩
 | true =>
  cases hst : st2 with
  | none =>
   rw [hst] at hc1 hgv
   simp only [Option.isNone_none] at hc1
   have hno : decR (b :: q) = none := by
    unfold decR
    split
    ·rfl
    ·rename_i b' q' e
     cases e
     rw [hgv.out.miss]
   replace hno := Lib.hid hno
   replace hst := Lib.hid hst
   clear LR hc0
   go_wp2_with (refine wpList_store_at (ty := 36) rfl (by kernel_rfl) (p := .pointer (some ⟨w.heap.size, 0, none⟩)) (v := .agg zR.cells) rfl rfl SR9 ?_; clear SR9)
   refine bodyPost_ret (v := .tuple #[.agg #[.int .i64 0, .int .i64 0, .int .i64 0, .bool false, .int .i64 0, .int .i64 0, .int .i64 0, .int .i64 0, .int .i64 0, .int .i64 0, .slice none 0 0, .string ⟨#[]⟩, .slice none 0 0, .int .i64 0, .int .i64 0, .int .i64 0, .int .i64 0, .slice none 0 0], .int .i64 10]) (results_cell2 (i := 2) (j := 3) rfl rfl rfl C9.out Tryz.underlying36 rfl (by kernel_rfl)) rfl ?_
   exact ⟨zR, 10, rfl, .inr ⟨hno.out, rfl, rfl⟩, zR_in _, hg9.out⟩
  | some lx =>
   obtain rfl := hst9.out lx hst
   rw [hst] at hc1 hgv
   simp only [Option.isNone_some] at hc1
   have hhit := hgv.out.hit
   by_cases hle : lx = []
   ·subst hle
    have hp := (good_rec 500000 (b.toNat : Int) q r2.p [] hlenq hhit).1
    have hsm := small_of hs2.out.rc (k := (b.toNat : Int)) ⟨by omega, by omega⟩ hp
    have hdec : decR (b :: q) = if chkR r2.p = true then some r2.p else none := by
     unfold decR
     split
     ·rename_i e
      cases e
     ·rename_i b' q' e
      cases e
      rw [hhit]
      simp only [hok.out, true_and]
    have hch := recCheck_any r2 w5 hs2.out.rc.ins hsm (hTG.out _ hG5.out)
    rw [encR_eq] at hch
    replace hst := Lib.hid hst
    replace hhit := Lib.hid hhit
    replace hp := Lib.hid hp
    cases hck : chkR r2.p with
    | false =>
     rw [hck] at hch hdec
     have hno := Lib.hid hdec
     replace hch : Calls Tryz.prog 13 #[.agg r2.cells] w5 fun e w' => e = .returned (.int .i64 1) ∧ G w5 w' := hch
     replace hch := Lib.hid hch
     replace hck := Lib.hid hck
     clear hdec SR9 C9 hg9
     have BZ5 := B6
     replace B6 := Lib.hid B6
     go_upto_region 9 with (first | (refine wpList_load_at (ty := 36) rfl (by kernel_rfl) (p := .pointer (some ⟨w.heap.size + 1, 0, none⟩)) rfl LR ?_; clear LR) | (go_at_call 13; (with_reducible refine Calls.mono hch.out ?_); rintro e w6 ⟨rfl, hg6⟩))
     obtain ⟨W9, SR9, C9, hb9, hG9⟩ := store_blk (P := Tryz.prog) (T := 36) (cs := #[.int .i64 0, .int .i64 0, .int .i64 0, .bool false, .int .i64 0, .int .i64 0, .int .i64 0, .int .i64 0, .int .i64 0, .int .i64 0, .slice none 0 0, .string ⟨#[]⟩, .slice none 0 0, .int .i64 0, .int .i64 0, .int .i64 0, .int .i64 0, .slice none 0 0]) (hg6.blk BZ5) rfl (by kernel_rfl) (by kernel_rfl)
     have hg9 := hG9 w (hG5.out.trans hg6) (Nat.le_refl _)
     replace C9 := Lib.hid C9
     replace hg9 := Lib.hid hg9
     clear hb9 hG9 BZ5
     go_wp2_with (refine wpList_store_at (ty := 36) rfl (by kernel_rfl) (p := .pointer (some ⟨w.heap.size, 0, none⟩)) (v := .agg zR.cells) rfl rfl SR9 ?_; clear SR9)
     refine bodyPost_ret (v := .tuple #[.agg #[.int .i64 0, .int .i64 0, .int .i64 0, .bool false, .int .i64 0, .int .i64 0, .int .i64 0, .int .i64 0, .int .i64 0, .int .i64 0, .slice none 0 0, .string ⟨#[]⟩, .slice none 0 0, .int .i64 0, .int .i64 0, .int .i64 0, .int .i64 0, .slice none 0 0], .int .i64 10]) (results_cell2 (i := 2) (j := 3) rfl rfl rfl C9.out Tryz.underlying36 rfl (by kernel_rfl)) rfl ?_
     exact ⟨zR, 10, rfl, .inr ⟨hno.out, rfl, rfl⟩, zR_in _, hg9.out⟩
    | true =>
     rw [hck] at hch hdec
     have hyes := Lib.hid hdec
     replace hch : Calls Tryz.prog 13 #[.agg r2.cells] w5 fun e w' => e = .returned (.int .i64 0) ∧ G w5 w' := hch
     replace hch := Lib.hid hch
     replace hck := Lib.hid hck
     clear hdec SR9 C9 hg9
     have BZ5 := B6
     replace B6 := Lib.hid B6
     go_upto_region 10 with (first | (refine wpList_load_at (ty := 36) rfl (by kernel_rfl) (p := .pointer (some ⟨w.heap.size + 1, 0, none⟩)) rfl LR ?_; clear LR) | (go_at_call 13; (with_reducible refine Calls.mono hch.out ?_); rintro e w6 ⟨rfl, hg6⟩))
     have hrc6 := hs2.out.rc.g hg6
     have LR := load_blk (P := Tryz.prog) (T := 36) hrc6.blk Tryz.underlying36 rfl (by kernel_rfl)
     obtain ⟨W9, SR9, C9, hb9, hG9⟩ := store_blk (P := Tryz.prog) (T := 36) (cs := r2.cells) (hg6.blk BZ5) rfl (by kernel_rfl) (by kernel_rfl)
     have hg9 := hG9 w (hG5.out.trans hg6) (Nat.le_refl _)
     have hin9 := (hrc6.but hb9 (fun k hk => by
      subst hk
      refine ⟨by omega, fun cs t hc => ?_⟩
      have h1 := hg6.blk BZ5
      rw [h1] at hc
      simp at hc
      rw [← hc.2]
      decide)).ins
     replace C9 := Lib.hid C9
     replace hg9 := Lib.hid hg9
     replace hin9 := Lib.hid hin9
     replace hrc6 := Lib.hid hrc6
     clear hb9 hG9 BZ5
     go_wp2_with (first | (refine wpList_load_at (ty := 36) rfl (by kernel_rfl) (p := .pointer (some ⟨w.heap.size + 1, 0, none⟩)) rfl LR ?_; clear LR) | (refine wpList_store_at (ty := 36) rfl (by kernel_rfl) (p := .pointer (some ⟨w.heap.size, 0, none⟩)) (v := .agg r2.cells) rfl rfl SR9 ?_; clear SR9))
     refine bodyPost_ret (v := .tuple #[.agg r2.cells, .int .i64 0]) (results_cell2 (i := 2) (j := 3) rfl rfl rfl C9.out Tryz.underlying36 rfl (by kernel_rfl)) rfl ?_
     exact ⟨r2, 0, rfl, .inl ⟨hyes.out, rfl, hsm⟩, hin9.out, hg9.out⟩
   ·have t9 : decide (0 < (lx.length : Int)) = true := decide_eq_true (by
     have : lx.length ≠ 0 := fun h => hle (List.eq_nil_of_length_eq_zero h)
     omega)
    have hno : decR (b :: q) = none := by
     unfold decR
     split
     ·rfl
     ·rename_i b' q' e
      cases e
      rw [hhit]
      cases lx with
      | nil => exact absurd rfl hle
      | cons x y => rfl
    replace hno := Lib.hid hno
    replace hst := Lib.hid hst
    replace hhit := Lib.hid hhit
    replace hle := Lib.hid hle
    generalize lx.length = n9 at *
    have t10 : 0 < n9 := by have := of_decide_eq_true t9; omega
    clear LR
    go_wp2_with (refine wpList_store_at (ty := 36) rfl (by kernel_rfl) (p := .pointer (some ⟨w.heap.size, 0, none⟩)) (v := .agg zR.cells) rfl rfl SR9 ?_; clear SR9)
    refine bodyPost_ret (v := .tuple #[.agg #[.int .i64 0, .int .i64 0, .int .i64 0, .bool false, .int .i64 0, .int .i64 0, .int .i64 0, .int .i64 0, .int .i64 0, .int .i64 0, .slice none 0 0, .string ⟨#[]⟩, .slice none 0 0, .int .i64 0, .int .i64 0, .int .i64 0, .int .i64 0, .slice none 0 0], .int .i64 10]) (results_cell2 (i := 2) (j := 3) rfl rfl rfl C9.out Tryz.underlying36 rfl (by kernel_rfl)) rfl ?_
    exact ⟨zR, 10, rfl, .inr ⟨hno.out, rfl, rfl⟩, zR_in _, hg9.out⟩
theorem recDec_any (l : List UInt8) (A : Option Addr) (c8 : Nat) (w : World) (hs : Sl byteC 1 w w.heap.size A l) (hl : l.length ≤ 500000) (hcap : l.length ≤ c8) (hT : Tabs w) : Calls Tryz.prog 5 #[.slice A l.length c8] w (RetRec w l) := by
 cases l with
 | nil => exact recDec_nil A c8 w
 | cons b q => exact recDec_cons b q A c8 w hs hl hcap hT
end Go.Proofs.YthafeaclpcjjbaaGreatDoor

/- Several texts in one: RecBackW, ReadStr. -/
import Derived.Test.YthafeaclpcjjbaaDoorRecDecQRecBack
import Derived.Test.YthafeaclpcjjbaaDoorSameRecQRecBack
import Derived.Test.YthafeaclpcjjbaaDoorM48RecBack
import Derived.Test.YthafeaclpcjjbaaDoorSameSmQRecBack
import Derived.Test.YthafeaclpcjjbaaDoorM50RecBack
import Derived.Test.YthafeaclpcjjbaaDoorM2RecBack
import Derived.Test.YthafeaclpcjjbaaDoorRows
import Derived.ProofKit
import Derived.OpenShut
import Derived.PinnedBridge
import Derived.Lib.LaidU8T
import Derived.Lay
import Derived.SevenTiedAt
import Derived.LaidMore
/- penstocklaw12.RecBack: the walk. Condition: the decoder's tables lie as the library lays them. -/
namespace Go.Proofs.YthafeaclpcjjbaaDoor
open Go.RowKit

theorem RecM.In.g {r : RecM} {w w' : World} (h : r.In w) (hg : G w w') : r.In w' := ⟨(h.1.g (Nat.le_refl _) hg).more hg.size, PutsIn.more (h.2.1.g (Nat.le_refl _) hg) hg.size, SmsIn.more (h.2.2.g (Nat.le_refl _) hg) hg.size⟩
theorem sameRec_yes (r q : RecM) (w : World) (hr : r.In w) (hq : q.In w) (he : r.p = q.p) (hs : r.Small) :
    Calls Tryd.prog 18 #[.agg r.cells, .agg q.cells] w fun e w' => e = .returned (.bool true) ∧ G w w' := by
  have e1 : r.nodes = q.nodes := congrArg RecP.nodes he
  have e2 : r.key = q.key := congrArg RecP.key he
  have e3 : r.ps.map PutM.p = q.ps.map PutM.p := congrArg RecP.ps he
  have e4 : r.sms.map SmM.sm = q.sms.map SmM.sm := congrArg RecP.sms he
  have hb : recB r q true true true = true := by
    have a1 : r.kind = q.kind := congrArg RecP.kind he
    have a2 : r.n = q.n := congrArg RecP.n he
    have a3 : r.dst = q.dst := congrArg RecP.dst he
    have a4 : r.yes = q.yes := congrArg RecP.yes he
    have a5 : r.st = q.st := congrArg RecP.st he
    have a6 : r.x1 = q.x1 := congrArg RecP.x1 he
    have a7 : r.x2 = q.x2 := congrArg RecP.x2 he
    have a8 : r.x3 = q.x3 := congrArg RecP.x3 he
    have b1 : r.z1 = q.z1 := congrArg RecP.r1 he
    have b2 : r.z2 = q.z2 := congrArg RecP.r2 he
    have b3 : r.z3 = q.z3 := congrArg RecP.r3 he
    have b4 : r.z4 = q.z4 := congrArg RecP.r4 he
    unfold recB
    rw [a1, a2, a3, a4, a5, a6, a7, a8, b1, b2, b3, b4]
    simp [stB, txB, rgB]
  rw [← hb]
  refine sameRec_any r q true true true w (fun w' hg => ?_) (fun w' hg => ?_) (fun w' hg => ?_)
  · have h := sameInts_any r.nodes q.nodes r.An q.An r.cn q.cn w'.heap.size w'.heap.size w' (Nat.le_refl _) (Nat.le_refl _) (by have := hs.nodesL; omega) (by rw [← e1]; have := hs.nodesL; omega) (hr.g hg).1 (hq.g hg).1
    rw [decide_eq_true e1] at h
    exact h
  · have h := sameBatch_yes r.key r.ps q.ps r.Ap q.Ap r.cp q.cp w' (hr.g hg).2.1 (hq.g hg).2.1 e3 hs.ps
    rw [← e2]
    exact h
  · exact sameSms_yes r.sms q.sms r.As q.As r.cs q.cs w' (hr.g hg).2.2 (hq.g hg).2.2 e4 (by have := hs.smsL; omega) fun s hm => by
      have := (hs.sms s hm).1
      exact ⟨by have := this.2.1.1; omega, by have := this.2.2.1; omega⟩
theorem mod_natR (k : Int) {n : Nat} (hn : 0 < n) : ∃ r : Nat, k % (n : Int) = r ∧ r < n := by
  have h1 := Int.emod_nonneg k (show (n : Int) ≠ 0 by omega)
  have h2 := Int.emod_lt_of_pos k (show (0 : Int) < n by omega)
  exact ⟨(k % (n : Int)).toNat, by omega, by omega⟩
set_option maxRecDepth 100000 in
set_option maxHeartbeats 8000000 in
theorem recBack_walk (r : RecM) (cut : Int) (w : World) (hin : r.In w) (hi : r.I64) (hcut : Int64 cut) (hT : Tabs w) :
    Calls Tryd.prog 6 #[.agg r.cells, .int .i64 cut] w fun e w' => e = .returned (.bool true) ∧ G w w' := by
  have hg0 := G.new w (.cells r.cells 37)
  have hB0 := blk_new w r.cells 37
  have LR0 := load_blk (P := Tryd.prog) (T := 37) hB0 Tryd.underlying37 rfl (by kernel_rfl)
  have hal := alikeRec_any r (w.alloc (.cells r.cells 37)) (hin.g hg0) hi
  have haw := fun (w' : World) (hg : G w w') => awake12_any w' (hT.g hg)
  obtain ⟨T, hTo⟩ : ∃ T, recBulk r = T := ⟨_, rfl⟩
  rw [hTo] at hal
  by_cases hbig : T ≤ 6000
  · have hb6 : recBulk r ≤ 6000 := by rw [hTo]; exact hbig
    have hok := rec_small hi hb6
    have t1 : decide (6000 < T) = false := decide_eq_false (by omega)
    have hc1 : ∀ w', G w w' → Calls Tryd.prog 10 #[.agg r.cells] w' (RetEnc 1 w' (encR r.p)) := fun w' hg => recEnc_any r w' (hin.g hg) hok (hT.g hg)
    have hk1 : ∀ w', G w w' → Calls Tryd.prog 12 #[.agg r.cells] w' fun e w'' => e = .returned (.int .i64 (codeO 1 (encR r.p))) ∧ G w' w'' := fun w' hg => recCheck_any r w' (hin.g hg) hok (hT.g hg)
    have hde : ∀ w' (l : List UInt8) (A : Option Addr) (c8 : Nat), G w w' → Sl byteC 1 w' w'.heap.size A l → l.length ≤ 500000 → l.length ≤ c8 → Calls Tryd.prog 17 #[.slice A l.length c8] w' (RetRec w' l) := fun w' l A c8 hg hs hl hc => recDec_any l A c8 w' hs hl hc (hT.g hg)
    rw [encR_eq] at hc1 hk1
    replace hTo := Lib.hid hTo
    replace hi := Lib.hid hi
    replace hb6 := Lib.hid hb6
    replace hT := Lib.hid hT
    replace haw := Lib.hid haw
    replace hal := Lib.hid hal
    replace hde := Lib.hid hde
    cases hck : chkR r.p with
    | false =>
      rw [hck] at hc1 hk1
      have hc1' : ∀ w', G w w' → Calls Tryd.prog 10 #[.agg r.cells] w' (fun e w'' => ∃ A c, e = .returned (.tuple #[.slice A 0 c, .int .i64 1]) ∧ OwnL 5 1 byteC w'' w'.heap.size (.slice A 0 c) [] ∧ G w' w'') := hc1
      have hk1' : ∀ w', G w w' → Calls Tryd.prog 12 #[.agg r.cells] w' fun e w'' => e = .returned (.int .i64 1) ∧ G w' w'' := hk1
      replace hc1 := Lib.hid hc1'
      replace hk1 := Lib.hid hk1'
      replace hck := Lib.hid hck
      replace hok := Lib.hid hok
      replace hin := Lib.hid hin
      clear hc1' hk1'
      go_enter Tryd.func6, Tryd.ntmps6
      go_upto_region 1 with fail
      generalize w.alloc (.cells r.cells 37) = W0 at *
      go_upto_region 3 with (first | (refine wpList_load_at (ty := 37) rfl (by kernel_rfl) (p := .pointer (some ⟨w.heap.size, 0, none⟩)) rfl LR0 ?_) | (go_at_call 9; refine Calls.mono hal.out ?_; rintro e w1 ⟨rfl, hg1⟩))
      clear LR0 hal
      have hG1 := hg0.trans hg1
      have B1 := hg1.blk hB0
      have LR1 := load_blk (P := Tryd.prog) (T := 37) B1 Tryd.underlying37 rfl (by kernel_rfl)
      replace B1 := Lib.hid B1
      replace hB0 := Lib.hid hB0
      go_upto_region 5 with (first | (refine wpList_load_at (ty := 37) rfl (by kernel_rfl) (p := .pointer (some ⟨w.heap.size, 0, none⟩)) rfl LR1 ?_) | (go_at_call 10; refine Calls.mono (hc1.out _ hG1) ?_; rintro e w2 ⟨A1, d1, rfl, ho1, hg2⟩))
      clear LR1
      have hG2 := hG1.trans hg2
      have B2 := hg2.blk B1.out
      have LR2 := load_blk (P := Tryd.prog) (T := 37) B2 Tryd.underlying37 rfl (by kernel_rfl)
      replace B2 := Lib.hid B2
      replace ho1 := Lib.hid ho1
      go_wp2_with (first | (refine wpList_load_at (ty := 37) rfl (by kernel_rfl) (p := .pointer (some ⟨w.heap.size, 0, none⟩)) rfl LR2 ?_) | (go_at_call 12; refine Calls.mono (hk1.out _ hG2) ?_; rintro e w3 ⟨rfl, hg3⟩) | (go_at_call 8; refine Calls.mono (haw.out _ (hG2.trans hg3)) ?_; rintro e w4 ⟨rfl, hg4⟩))
      go_ret
      exact ⟨rfl, (hG2.trans hg3).trans hg4⟩
    | true =>
      rw [hck] at hc1
      have hll := docR_len hi.out hb6.out hck
      have hpos := docR_pos r.p
      have hbk := decR_back hck (rec_fits hok)
      have hcu := fun (k : Nat) (h : k < (docR r.p).length) => decR_cut hck (rec_fits hok) h
      have hmo := decR_more hck (rec_fits hok) 0
      have hc1' : ∀ w', G w w' → Calls Tryd.prog 10 #[.agg r.cells] w' (fun e w'' => ∃ A c, e = .returned (.tuple #[.slice A (docR r.p).length c, .int .i64 0]) ∧ OwnL 5 1 byteC w'' w'.heap.size (.slice A (docR r.p).length c) (docR r.p) ∧ G w' w'') := hc1
      generalize docR r.p = l at *
      obtain ⟨k, hk, hkl⟩ := mod_natR cut hpos
      have hcuk := hcu k hkl
      have hrd := fun (w' : World) => round_any cut l.length w' (by omega) (by omega) hcut.1 hcut.2
      rw [hk] at hrd
      have t2 : ((l.length : Int) == 0) = false := by rw [beq_eq_false_iff_ne]; omega
      obtain ⟨m, hm⟩ : ∃ m, l ++ [0] = m := ⟨_, rfl⟩
      have hml : m.length = l.length + 1 := by rw [← hm]; simp
      have hml2 : m.length ≤ 500000 := by omega
      have hml3 : l.length ≤ 500000 := by omega
      have hltk : (l.take k).length = k := by rw [List.length_take]; omega
      rw [hm] at hmo
      replace hc1 := Lib.hid hc1'
      replace hck := Lib.hid hck
      replace hok := Lib.hid hok
      replace hbk := Lib.hid hbk
      replace hcuk := Lib.hid hcuk
      replace hmo := Lib.hid hmo
      replace hrd := Lib.hid hrd
      replace hm := Lib.hid hm
      replace hml := Lib.hid hml
      replace hltk := Lib.hid hltk
      replace hk := Lib.hid hk
      clear hc1' hcu hk1
      replace hin := Lib.hid hin
      go_enter Tryd.func6, Tryd.ntmps6
      go_upto_region 1 with fail
      generalize w.alloc (.cells r.cells 37) = W0 at *
      go_upto_region 3 with (first | (refine wpList_load_at (ty := 37) rfl (by kernel_rfl) (p := .pointer (some ⟨w.heap.size, 0, none⟩)) rfl LR0 ?_) | (go_at_call 9; refine Calls.mono hal.out ?_; rintro e w1 ⟨rfl, hg1⟩))
      clear LR0 hal
      have hG1 := hg0.trans hg1
      have B1 := hg1.blk hB0
      have LR1 := load_blk (P := Tryd.prog) (T := 37) B1 Tryd.underlying37 rfl (by kernel_rfl)
      replace B1 := Lib.hid B1
      replace hB0 := Lib.hid hB0
      go_upto_region 8 with (first | (refine wpList_load_at (ty := 37) rfl (by kernel_rfl) (p := .pointer (some ⟨w.heap.size, 0, none⟩)) rfl LR1 ?_) | (go_at_call 10; refine Calls.mono (hc1.out _ hG1) ?_; rintro e w2 ⟨A1, d1, rfl, ho1, hg2⟩))
      clear LR1
      have hG2 := hG1.trans hg2
      have B2 := hg2.blk B1.out
      have hs1 := ho1.self byteC_len
      obtain ⟨_, _, ee, hcd, hcd2, _⟩ := OwnL.sl byteC_len ho1
      cases ee
      have hd1 := Lib.hid (hde.out w2 l A1 d1 hG2 hs1 hml3 hcd)
      replace B2 := Lib.hid B2
      replace ho1 := Lib.hid ho1
      go_upto_region 9 with (first
        | (refine wpList_store_at (ty := 37) rfl (by kernel_rfl) (p := .pointer (some ⟨w3.heap.size, 0, none⟩)) (v := .agg x.cells) rfl rfl SR3 ?_; clear SR3)
        | (go_at_call 17; (with_reducible refine Calls.mono hd1.out ?_); rintro e w3 ⟨x, cx, rfl, hx, hxi, hg3⟩; obtain ⟨W4, SR3, C4, hb4, hG4'⟩ := store_blk (P := Tryd.prog) (T := 37) (cs := x.cells) (blk_new w3 #[.int .i64 0, .int .i64 0, .int .i64 0, .bool false, .int .i64 0, .int .i64 0, .int .i64 0, .int .i64 0, .int .i64 0, .int .i64 0, .slice none 0 0, .string ⟨#[]⟩, .slice none 0 0, .int .i64 0, .int .i64 0, .int .i64 0, .int .i64 0, .slice none 0 0] 37) rfl (by kernel_rfl) (by kernel_rfl); have hg34 := hG4' w3 (G.new w3 _) (Nat.le_refl _); clear hb4 hG4'; replace hx := Lib.hid hx; replace C4 := Lib.hid C4; replace hxi := Lib.hid hxi))
      clear hd1
      obtain ⟨hxp, rfl, hxs⟩ : r.p = x.p ∧ cx = 0 ∧ x.Small := by
        have h1 := hx.out
        rw [hbk.out] at h1
        rcases h1 with ⟨h2, h3, h4⟩ | ⟨h2, _⟩
        · exact ⟨by simpa using h2, h3, h4⟩
        · cases h2
      have hg24 := hg3.trans hg34
      have hG4 := hG2.trans hg24
      have hx4 := hxi.out.g hg34
      have hs4 := (hs1.g (Nat.le_refl _) hg24).more hg24.size
      have hne : l ≠ [] := by rintro rfl; simp at hpos
      have hfr := run_front hs4 hne d1 k (by omega)
      have hc2 := hde.out W4 (l.take k) A1 d1 hG4 (hs4.first k) (by rw [hltk.out]; omega) (by rw [hltk.out]; omega)
      rw [hltk.out] at hc2
      replace hc2 := Lib.hid hc2
      replace hne := Lib.hid hne
      replace hxp := Lib.hid hxp
      replace hxs := Lib.hid hxs
      replace hx4 := Lib.hid hx4
      clear hx hxi
      go_upto_region 10 with (first
        | (refine wpList_store_at (ty := 37) rfl (by kernel_rfl) (p := .pointer (some ⟨w5.heap.size, 0, none⟩)) (v := .agg x2.cells) rfl rfl SR5 ?_; clear SR5)
        | (go_at_call 16; refine Calls.mono (hrd.out _) ?_; rintro e v5 ⟨rfl, rfl⟩)
        | (go_at_call 17; (with_reducible refine Calls.mono hc2.out ?_); rintro e w5 ⟨x2, cx2, rfl, hx2, _, hg5⟩; obtain ⟨W6, SR5, C6, hb6', hG6'⟩ := store_blk (P := Tryd.prog) (T := 37) (cs := x2.cells) (blk_new w5 #[.int .i64 0, .int .i64 0, .int .i64 0, .bool false, .int .i64 0, .int .i64 0, .int .i64 0, .int .i64 0, .int .i64 0, .int .i64 0, .slice none 0 0, .string ⟨#[]⟩, .slice none 0 0, .int .i64 0, .int .i64 0, .int .i64 0, .int .i64 0, .slice none 0 0] 37) rfl (by kernel_rfl) (by kernel_rfl); have hg56 := hG6' w5 (G.new w5 _) (Nat.le_refl _); clear hb6' hG6' C6; replace hx2 := Lib.hid hx2))
      clear hc2 hfr
      obtain rfl : cx2 = 10 := by
        have h1 := hx2.out
        rw [hcuk.out] at h1
        rcases h1 with ⟨h2, _⟩ | ⟨_, h3, _⟩
        · cases h2
        · exact h3
      have hg46 := hg5.trans hg56
      have hG6 := hG4.trans hg46
      have hx6 := hx4.out.g hg46
      have hs6 := (hs4.g (Nat.le_refl _) hg46).more hg46.size
      have C6 := hg46.blk C4.out
      have hA1 : A1 = none → l = [] := fun h => (h ▸ hs6).of_none
      replace hA1 := Lib.hid hA1
      replace hx6 := Lib.hid hx6
      replace C6 := Lib.hid C6
      clear hx2 hs4 hx4
      go_upto_region 11 with (first
        | (refine wpList_store_at (ty := 37) rfl (by kernel_rfl) (p := .pointer (some ⟨w9.heap.size, 0, none⟩)) (v := .agg x3.cells) rfl rfl SR9 ?_; clear SR9)
        | (at_builtin; refine wpList_append_but byte_elem _ rfl (.tmp 54) (.tmp 55) rfl W6.heap.size _ [] rfl (OwnL.empty _ (blk_new _ _ _) (Nat.le_refl _)) W6.heap.size A1 d1 l rfl hA1.out (hs6.g (Nat.le_refl _) (G.new _ _)) (by simp; omega) (by simp; omega) (by simp) ?_; intro v7 w7 hown7 hk7 hb7; rw [List.nil_append] at hown7; have hg67 := KeepT.g hk7 (G.new W6 (.cells #[] 5)); obtain ⟨A7, c7, e7, _, _, _⟩ := OwnL.sl byteC_len hown7; subst e7; have hz7 := hg67.size; replace hown7 := Lib.hid hown7; clear hk7 hb7)
        | (at_builtin; refine wpList_append_but byte_elem _ rfl (.tmp 56) (.tmp 57) rfl W6.heap.size _ l rfl (hown7.out.g (G.new _ _)) (w7.heap.size + 1) (some ⟨w7.heap.size, 0, none⟩) 1 [0] rfl (by intro h; cases h) (Sl.of_blk byteC_len [(0 : UInt8)] (blk_new _ _ _) rfl (by omega)) (by simp; omega) (by simp; omega) (by simp; omega) ?_; intro v8 w8 hown8 hk8 hb8; rw [hm.out] at hown8; obtain ⟨A8, c8', e8, hc8, _, hsl8⟩ := OwnL.sl byteC_len hown8; subst e8; have hg68 := KeepT.g hk8 (hg67.trans (G.new w7 _)); have hd9 := Lib.hid (hde.out w8 m A8 c8' (hG6.trans hg68) hsl8 hml2 hc8); clear hk8 hb8 hown8 hsl8)
        | (go_at_call 17; (with_reducible refine Calls.mono hd9.out ?_); rintro e w9 ⟨x3, cx3, rfl, hx3, _, hg9⟩; obtain ⟨W10, SR9, C10, hb10, hG10'⟩ := store_blk (P := Tryd.prog) (T := 37) (cs := x3.cells) (blk_new w9 #[.int .i64 0, .int .i64 0, .int .i64 0, .bool false, .int .i64 0, .int .i64 0, .int .i64 0, .int .i64 0, .int .i64 0, .int .i64 0, .slice none 0 0, .string ⟨#[]⟩, .slice none 0 0, .int .i64 0, .int .i64 0, .int .i64 0, .int .i64 0, .slice none 0 0] 37) rfl (by kernel_rfl) (by kernel_rfl); have hg910 := hG10' w9 (G.new w9 _) (Nat.le_refl _); clear hb10 hG10' C10; replace hx3 := Lib.hid hx3))
      clear hd9
      obtain rfl : cx3 = 10 := by
        have h1 := hx3.out
        rw [hmo.out] at h1
        rcases h1 with ⟨h2, _⟩ | ⟨_, h3, _⟩
        · cases h2
        · exact h3
      have hg6X := (hg68.trans hg9).trans hg910
      have hGX := hG6.trans hg6X
      have hsr := Lib.hid (sameRec_yes x r W10 (hx6.out.g hg6X) (hin.out.g hGX) hxp.out.symm hxs.out)
      have CX := hg6X.blk C6.out
      have BX := (hg24.trans (hg46.trans hg6X)).blk B2.out
      have LRX := load_blk (P := Tryd.prog) (T := 37) CX Tryd.underlying37 rfl (by kernel_rfl)
      have LRB := load_blk (P := Tryd.prog) (T := 37) BX Tryd.underlying37 rfl (by kernel_rfl)
      replace CX := Lib.hid CX
      replace BX := Lib.hid BX
      clear hx3 hs6 hown7
      go_wp2_with (first
        | (refine wpList_load_at (ty := 37) rfl (by kernel_rfl) (p := .pointer (some ⟨w3.heap.size, 0, none⟩)) rfl LRX ?_)
        | (refine wpList_load_at (ty := 37) rfl (by kernel_rfl) (p := .pointer (some ⟨w.heap.size, 0, none⟩)) rfl LRB ?_)
        | (go_at_call 18; (with_reducible refine Calls.mono hsr.out ?_); rintro e w11 ⟨rfl, hg11⟩)
        | (go_at_call 8; (with_reducible refine Calls.mono (haw.out _ (hGX.trans hg11)) ?_); rintro e w12 ⟨rfl, hg12⟩))
      go_ret
      exact ⟨rfl, (hGX.trans hg11).trans hg12⟩
  · have t1 : decide (6000 < T) = true := decide_eq_true (by omega)
    replace hTo := Lib.hid hTo
    replace hT := Lib.hid hT
    replace hi := Lib.hid hi
    replace hin := Lib.hid hin
    replace haw := Lib.hid haw
    replace hal := Lib.hid hal
    replace hB0 := Lib.hid hB0
    go_enter Tryd.func6, Tryd.ntmps6
    go_upto_region 1 with fail
    generalize w.alloc (.cells r.cells 37) = W0 at *
    go_wp2_with (first | (refine wpList_load_at (ty := 37) rfl (by kernel_rfl) (p := .pointer (some ⟨w.heap.size, 0, none⟩)) rfl LR0 ?_) | (go_at_call 9; refine Calls.mono hal.out ?_; rintro e w1 ⟨rfl, hg1⟩) | (go_at_call 8; refine Calls.mono (haw.out _ (hg0.trans hg1)) ?_; rintro e w2 ⟨rfl, hg2⟩))
    go_ret
    exact ⟨rfl, (hg0.trans hg1).trans hg2⟩
end Go.Proofs.YthafeaclpcjjbaaDoor
/- How texts, numbers and bools read as the laws' arguments; what the listed tables give. No condition. -/
namespace Go.Proofs.YthafeaclpcjjbaaDoor
open Go.RowKit Go.ChangeShapes Go.WideShapes Go.Lib

/-- An int of 64 bits. -/
def I64 (n : Int) : Prop := -9223372036854775808 ≤ n ∧ n ≤ 9223372036854775807
section
variable {H : Type} {enc : TypeId × Value → H} {w : World} {base b0 : Nat} {spare : Nat → Bool} {held : Bool} {fuel : Nat} {cs : List Value} {x : DataW H × List MemPlace} {r : Reach} {v : Value} {d : DataW H} {p : List MemPlace}
theorem i64_of_wf {n : Int} (h : (Lit.int .i64 n).wf = true) : I64 n := by
  have := bounds_i64 h
  exact ⟨by omega, by omega⟩
set_option maxRecDepth 100000 in
theorem in_int (hv : Value.okWide Tryd.prog w r b0 3 v) (h : DataW.Trod enc Tryd.prog w base spare held 3 v d p) : ∃ n, v = .int .i64 n ∧ I64 n := by
  obtain ⟨n, rfl⟩ := okWide_int Tryd.underlying3 hv
  obtain ⟨fuel, hf⟩ := h
  obtain ⟨n', e, _, hn⟩ := DataW.trod_int Tryd.underlying3 hf
  simp [Value.cells] at e
  subst e
  exact ⟨n, rfl, i64_of_wf hn⟩
set_option maxRecDepth 100000 in
theorem in_str (hv : Value.okWide Tryd.prog w r b0 9 v) (h : DataW.Trod enc Tryd.prog w base spare held 9 v d p) : ∃ s, v = .string s ∧ s.size ≤ 9223372036854775807 := by
  obtain ⟨s, rfl⟩ := okWide_string Tryd.underlying9 hv
  obtain ⟨fuel, hf⟩ := h
  obtain ⟨s', e, _, hn⟩ := DataW.trod_string Tryd.underlying9 hf
  simp [Value.cells] at e
  subst e
  exact ⟨s, rfl, by simpa [maxLen] using hn⟩
set_option maxRecDepth 100000 in
theorem in_bool (hv : Value.okWide Tryd.prog w r b0 4 v) (_h : DataW.Trod enc Tryd.prog w base spare held 4 v d p) : ∃ b, v = .bool b ∧ b = b := by
  obtain ⟨b, rfl⟩ := okWide_bool Tryd.underlying4 hv
  exact ⟨b, rfl, rfl⟩
end
theorem u8Extra : U8Extra Tryd.prog Tryd.lays196_ren := ⟨by kernel_rfl, by kernel_rfl, by kernel_rfl, by kernel_rfl, by kernel_rfl, by kernel_rfl, by kernel_rfl⟩
theorem accept_eq : (Rows.laid_unicode_utf8_acceptRanges : DataW Unit) = acceptData := by kernel_rfl
/-- Where the two tables are listed they lie so. -/
theorem tabs_of_laid {w : World} (h : laidMet Tryd.prog [("unicode/utf8.acceptRanges", Rows.laid_unicode_utf8_acceptRanges), ("unicode/utf8.first", Rows.laid_unicode_utf8_first)] w) : Tabs w :=
  utf8Tabs_of_readsT (U8Types.of196 Tryd.lays196) u8Extra (Pinned.utf8First_eq ▸ Lib.laidMet.reads h (.tail _ (.head _))) (accept_eq ▸ Lib.laidMet.reads h (.head _))
end Go.Proofs.YthafeaclpcjjbaaDoor

/- penstockref10.EncodeRec, kinds 1, 2, 3, 4: what it answers of a record that may be. Conditions: lengths as told; the decoder's tables lie as the library lays them. -/
import Derived.Test.YthafeaclpcjjbaaGreatDoorM47RecDecodes
namespace Go.Proofs.YthafeaclpcjjbaaGreatDoor
open Go.RowKit
set_option maxRecDepth 100000 in
set_option maxHeartbeats 4000000 in
theorem refEncR_1 (r : RecM) (w : World) (hin : r.In w) (hok : r.Small) (hT : Tabs w) (hk : r.kind = 1) (hc : chkR r.p = true) : Calls Tryz.prog 22 #[.agg r.cells] w (RetEnc 1 w (some (docR r.p))) := by
 have hdoc : docR r.p = ([UInt8.ofNat r.kind.toNat]) ++ nL r.n := by
  have h0 : r.p.kind = 1 := hk
  unfold docR
  simp only [h0, hk]
  rfl
 rw [hdoc]
 obtain ⟨m0, hm0⟩ : ∃ m, [UInt8.ofNat r.kind.toNat] = m := ⟨_, rfl⟩
 rw [hm0]
 have hl0 : m0.length = 1 := by rw [← hm0]; rfl
 have fn := fine_of hc
 have hste := stE_ok fn.st
 have hbl := hok.bat
 obtain ⟨m1, hm1⟩ : ∃ m, m0 ++ nL r.n = m := ⟨_, rfl⟩
 rw [hm1]
 have hl1 : m1.length ≤ 11 := by rw [← hm1, List.length_append]; have h1 := nL_len r.n; omega
 have hg0 := G.new w (.cells r.cells 36)
 have hB0 := blk_new w r.cells 36
 have LR := load_blk (P := Tryz.prog) (T := 36) hB0 Tryz.underlying36 rfl (by kernel_rfl)
 have hck : Calls Tryz.prog 39 #[.agg r.cells] (w.alloc (.cells r.cells 36)) fun e w' => e = .returned (.int .i64 0) ∧ G (w.alloc (.cells r.cells 36)) w' := by
  have := refChk_any r _ ⟨(hin.1.g (Nat.le_refl _) hg0).more hg0.size, PutsIn.more (hin.2.1.g (Nat.le_refl _) hg0) hg0.size, SmsIn.more (hin.2.2.g (Nat.le_refl _) hg0) hg0.size⟩ hok (hT.g hg0)
  rw [hc] at this
  exact this
 have hkw : IntKind.u8.wrap r.kind = r.kind := by rw [hk]; rfl
 have hub : ((UInt8.ofNat r.kind.toNat).toNat : Int) = r.kind := by rw [hk]; rfl
 have e1 : (r.kind == 1) = true := by rw [hk]; rfl
 have hst : ∀ w', Calls Tryz.prog 40 #[.agg #[.int .i64 r.st.wall, .int .i64 r.st.logic, .int .i64 r.st.node]] w' (RetBytes w' (stE r.st)) := fun w' => refStEnc_any r.st w'
 rw [hste] at hst
 have hbt : ∀ w', G w w' → Calls Tryz.prog 41 #[.agg #[.string r.key, .slice r.Ap r.ps.length r.cp]] w' (RetBytesN w' (batL r.key (r.ps.map PutM.p))) := fun w' hg => refBatEnc_any r.key r.ps r.Ap r.cp w' (PutsIn.more (hin.2.1.g (Nat.le_refl _) hg) hg.size) (by have := hok.key; omega) hok.ps
 obtain ⟨sl, hsl⟩ : ∃ l, stL r.st = l := ⟨_, rfl⟩
 obtain ⟨bl, hbl2⟩ : ∃ l, batL r.key (r.ps.map PutM.p) = l := ⟨_, rfl⟩
 have hsll : sl.length ≤ 30 := by rw [← hsl]; exact stL_len r.st
 have hbll : bl.length ≤ 500000 := by rw [← hbl2]; exact hbl
 rw [hsl] at hst
 rw [hbl2] at hbt
 replace hst := Lib.hid hst
 replace hbt := Lib.hid hbt
 replace hck := Lib.hid hck
 replace hm0 := Lib.hid hm0
 replace hm1 := Lib.hid hm1
 replace hl0 := Lib.hid hl0
 replace hk := Lib.hid hk
 replace hdoc := Lib.hid hdoc
 replace hin := Lib.hid hin
 replace hok := Lib.hid hok
 replace hT := Lib.hid hT
 replace hste := Lib.hid hste
 replace hub := Lib.hid hub
 replace hsl := Lib.hid hsl
 replace hbl2 := Lib.hid hbl2
 replace hc := Lib.hid hc
 clear hbl
 go_enter Tryz.func22, Tryz.ntmps22
 go_upto_region 1 with fail
 generalize w.alloc (.cells r.cells 36) = W0 at *
 go_upto_region 3 with (first | (refine wpList_load_at rfl (by kernel_rfl) (p := .pointer (some ⟨_, 0, none⟩)) rfl (by assumption) ?_) | (go_at_call 39; refine Calls.mono hck.out ?_; rintro e u1 ⟨rfl, hg1⟩))
 clear LR hck
 have B1 := hg1.blk hB0
 have hz0 : w.heap.size < u1.heap.size := blk_lt B1
 have hG1 := hg0.trans hg1
 have g0 := (blk_cell B1 0).trans (show _ = some (.int .i64 r.kind) from rfl)
 go_upto_region 4 with fail
 clear g0 hkw
 have hgy := G.new u1 (.cells #[.int .u8 r.kind] 5)
 have hY := blk_new u1 #[.int .u8 r.kind] 5
 have hzz : (u1.alloc (.cells #[.int .u8 r.kind] 5)).heap.size = u1.heap.size + 1 := by simp
 generalize u1.alloc (.cells #[.int .u8 r.kind] 5) = W2 at *
 have ho0 : OwnL 5 1 byteC W2 u1.heap.size (.slice (some ⟨u1.heap.size, 0, none⟩) m0.length 1) m0 := by
  rw [← hm0.out]
  exact OwnL.made byteC_len [UInt8.ofNat r.kind.toNat] hY (by simp only [List.flatMap_cons, List.flatMap_nil, byteC, hub.out]; rfl) (Nat.le_refl _) (by simp)
 have B2 := hgy.blk B1
 have hG2 := hG1.trans hgy
 generalize u1.heap.size = b0 at *
 have y4 := (blk_cell B2 4).trans (show _ = some (.int .i64 r.st.wall) from rfl)
 have y5 := (blk_cell B2 5).trans (show _ = some (.int .i64 r.st.logic) from rfl)
 have y6 := (blk_cell B2 6).trans (show _ = some (.int .i64 r.st.node) from rfl)
 replace B1 := Lib.hid B1
 replace B2 := Lib.hid B2
 replace hY := Lib.hid hY
 replace hzz := Lib.hid hzz
 go_upto_region 5 with ((go_at_call 40; (with_reducible refine Calls.mono (hst.out _) ?_); rintro e w3 ⟨As, cs, rfl, hos, hg3⟩))
 clear y4 y5 y6 hst
 have B3 := hg3.blk B2.out
 have hG3 := hG2.trans hg3
 have y11 := (blk_cell B3 11).trans (show _ = some (.string r.key) from rfl)
 have y12 := (blk_cell B3 12).trans (show _ = some (.slice r.Ap r.ps.length r.cp) from rfl)
 replace B3 := Lib.hid B3
 go_upto_region 6 with ((go_at_call 41; (with_reducible refine Calls.mono (hbt.out _ hG3) ?_); rintro e w4 ⟨Ab, cb, rfl, hob, hg4, _⟩))
 clear y11 y12 hbt
 have hG4 := hG3.trans hg4
 have hg24 := hg3.trans hg4
 have B4 := hg4.blk B3.out
 replace hos := hos.g hg4
 have hz3 := hg3.size
 have hns := hos.ne (b0 := b0) (by rw [hzz.out]; omega)
 have hnb := hob.ne (b0 := b0) (by rw [hzz.out] at hz3; omega)
 have hns2 := hos.nn byteC_len
 have hnb2 := hob.nn byteC_len
 have hss := hos.self byteC_len
 have hsb := hob.self byteC_len
 have hzb : b0 < w4.heap.size := by have := hg4.size; rw [hzz.out] at hz3; omega
 replace ho0 := ho0.g hg24
 have y0 := (blk_cell B4 0).trans (show _ = some (.int .i64 r.kind) from rfl)
 replace ho0 := Lib.hid ho0
 replace hns := Lib.hid hns
 replace hnb := Lib.hid hnb
 replace hns2 := Lib.hid hns2
 replace hnb2 := Lib.hid hnb2
 replace hss := Lib.hid hss
 replace hsb := Lib.hid hsb
 clear hos hob hz3 hzz hY B1 B2 B3 hg3 hg4 hg24 hG1 hG2 hG3 hgy hg1 hg0 hB0
 go_upto_region 10 with fail
 clear y0
 have q1 : ∀ w', KeepT 5 b0 w4 w' → w'.cell? ⟨w.heap.size, 1, none⟩ = some (.int .i64 r.n) := fun w' h => (blk_cell (h.2 _ _ _ _ (by decide) B4) 1).trans rfl
 have hl0' := hl0.out
 have hc1 : ∀ w', G w4 w' → Calls Tryz.prog 42 #[.slice (some ⟨b0, 0, none⟩) 1 1, .int .i64 r.n] w' (PostW w' (.slice (some ⟨b0, 0, none⟩) 1 1) b0 m1) := fun w' h => by
  have h8 := ho0.out.g h
  have h9 := num10_int r.n hm1 (by omega) fn.n (Nat.le_trans (Nat.le_of_lt hzb) h.size) h8
  rw [hl0'] at h9
  exact h9
 replace hc1 := Lib.hid hc1
 have y1 := q1 w4 (KeepT.refl _ _ _)
 replace B4 := Lib.hid B4
 clear q1
 go_wp2_with (first
  | (go_at_call 42; (with_reducible refine Calls.mono (hc1.out _ (G.refl _)) ?_); rintro e u1 ⟨A1, d1, rfl, ho1, hk1, ht1⟩; have hK1 : KeepT 5 b0 w4 u1 := hk1; have ht1' := ht1; clear ht1))
 go_ret2
 exact ⟨A1, d1, rfl, ho1.mono (by omega), KeepT.g (hK1.mono (by omega)) hG4⟩
set_option maxRecDepth 100000 in
set_option maxHeartbeats 4000000 in
theorem refEncR_2 (r : RecM) (w : World) (hin : r.In w) (hok : r.Small) (hT : Tabs w) (hk : r.kind = 2) (hc : chkR r.p = true) : Calls Tryz.prog 22 #[.agg r.cells] w (RetEnc 1 w (some (docR r.p))) := by
 have hdoc : docR r.p = ([UInt8.ofNat r.kind.toNat]) ++ nL r.n := by
  have h0 : r.p.kind = 2 := hk
  unfold docR
  simp only [h0, hk]
  rfl
 rw [hdoc]
 obtain ⟨m0, hm0⟩ : ∃ m, [UInt8.ofNat r.kind.toNat] = m := ⟨_, rfl⟩
 rw [hm0]
 have hl0 : m0.length = 1 := by rw [← hm0]; rfl
 have fn := fine_of hc
 have hste := stE_ok fn.st
 have hbl := hok.bat
 obtain ⟨m1, hm1⟩ : ∃ m, m0 ++ nL r.n = m := ⟨_, rfl⟩
 rw [hm1]
 have hl1 : m1.length ≤ 11 := by rw [← hm1, List.length_append]; have h1 := nL_len r.n; omega
 have hg0 := G.new w (.cells r.cells 36)
 have hB0 := blk_new w r.cells 36
 have LR := load_blk (P := Tryz.prog) (T := 36) hB0 Tryz.underlying36 rfl (by kernel_rfl)
 have hck : Calls Tryz.prog 39 #[.agg r.cells] (w.alloc (.cells r.cells 36)) fun e w' => e = .returned (.int .i64 0) ∧ G (w.alloc (.cells r.cells 36)) w' := by
  have := refChk_any r _ ⟨(hin.1.g (Nat.le_refl _) hg0).more hg0.size, PutsIn.more (hin.2.1.g (Nat.le_refl _) hg0) hg0.size, SmsIn.more (hin.2.2.g (Nat.le_refl _) hg0) hg0.size⟩ hok (hT.g hg0)
  rw [hc] at this
  exact this
 have hkw : IntKind.u8.wrap r.kind = r.kind := by rw [hk]; rfl
 have hub : ((UInt8.ofNat r.kind.toNat).toNat : Int) = r.kind := by rw [hk]; rfl
 have e1 : (r.kind == 1) = false := by rw [hk]; rfl
 have e2 : (r.kind == 2) = true := by rw [hk]; rfl
 have hst : ∀ w', Calls Tryz.prog 40 #[.agg #[.int .i64 r.st.wall, .int .i64 r.st.logic, .int .i64 r.st.node]] w' (RetBytes w' (stE r.st)) := fun w' => refStEnc_any r.st w'
 rw [hste] at hst
 have hbt : ∀ w', G w w' → Calls Tryz.prog 41 #[.agg #[.string r.key, .slice r.Ap r.ps.length r.cp]] w' (RetBytesN w' (batL r.key (r.ps.map PutM.p))) := fun w' hg => refBatEnc_any r.key r.ps r.Ap r.cp w' (PutsIn.more (hin.2.1.g (Nat.le_refl _) hg) hg.size) (by have := hok.key; omega) hok.ps
 obtain ⟨sl, hsl⟩ : ∃ l, stL r.st = l := ⟨_, rfl⟩
 obtain ⟨bl, hbl2⟩ : ∃ l, batL r.key (r.ps.map PutM.p) = l := ⟨_, rfl⟩
 have hsll : sl.length ≤ 30 := by rw [← hsl]; exact stL_len r.st
 have hbll : bl.length ≤ 500000 := by rw [← hbl2]; exact hbl
 rw [hsl] at hst
 rw [hbl2] at hbt
 replace hst := Lib.hid hst
 replace hbt := Lib.hid hbt
 replace hck := Lib.hid hck
 replace hm0 := Lib.hid hm0
 replace hm1 := Lib.hid hm1
 replace hl0 := Lib.hid hl0
 replace hk := Lib.hid hk
 replace hdoc := Lib.hid hdoc
 replace hin := Lib.hid hin
 replace hok := Lib.hid hok
 replace hT := Lib.hid hT
 replace hste := Lib.hid hste
 replace hub := Lib.hid hub
 replace hsl := Lib.hid hsl
 replace hbl2 := Lib.hid hbl2
 replace hc := Lib.hid hc
 clear hbl
 go_enter Tryz.func22, Tryz.ntmps22
 go_upto_region 1 with fail
 generalize w.alloc (.cells r.cells 36) = W0 at *
 go_upto_region 3 with (first | (refine wpList_load_at rfl (by kernel_rfl) (p := .pointer (some ⟨_, 0, none⟩)) rfl (by assumption) ?_) | (go_at_call 39; refine Calls.mono hck.out ?_; rintro e u1 ⟨rfl, hg1⟩))
 clear LR hck
 have B1 := hg1.blk hB0
 have hz0 : w.heap.size < u1.heap.size := blk_lt B1
 have hG1 := hg0.trans hg1
 have g0 := (blk_cell B1 0).trans (show _ = some (.int .i64 r.kind) from rfl)
 go_upto_region 4 with fail
 clear g0 hkw
 have hgy := G.new u1 (.cells #[.int .u8 r.kind] 5)
 have hY := blk_new u1 #[.int .u8 r.kind] 5
 have hzz : (u1.alloc (.cells #[.int .u8 r.kind] 5)).heap.size = u1.heap.size + 1 := by simp
 generalize u1.alloc (.cells #[.int .u8 r.kind] 5) = W2 at *
 have ho0 : OwnL 5 1 byteC W2 u1.heap.size (.slice (some ⟨u1.heap.size, 0, none⟩) m0.length 1) m0 := by
  rw [← hm0.out]
  exact OwnL.made byteC_len [UInt8.ofNat r.kind.toNat] hY (by simp only [List.flatMap_cons, List.flatMap_nil, byteC, hub.out]; rfl) (Nat.le_refl _) (by simp)
 have B2 := hgy.blk B1
 have hG2 := hG1.trans hgy
 generalize u1.heap.size = b0 at *
 have y4 := (blk_cell B2 4).trans (show _ = some (.int .i64 r.st.wall) from rfl)
 have y5 := (blk_cell B2 5).trans (show _ = some (.int .i64 r.st.logic) from rfl)
 have y6 := (blk_cell B2 6).trans (show _ = some (.int .i64 r.st.node) from rfl)
 replace B1 := Lib.hid B1
 replace B2 := Lib.hid B2
 replace hY := Lib.hid hY
 replace hzz := Lib.hid hzz
 go_upto_region 5 with ((go_at_call 40; (with_reducible refine Calls.mono (hst.out _) ?_); rintro e w3 ⟨As, cs, rfl, hos, hg3⟩))
 clear y4 y5 y6 hst
 have B3 := hg3.blk B2.out
 have hG3 := hG2.trans hg3
 have y11 := (blk_cell B3 11).trans (show _ = some (.string r.key) from rfl)
 have y12 := (blk_cell B3 12).trans (show _ = some (.slice r.Ap r.ps.length r.cp) from rfl)
 replace B3 := Lib.hid B3
 go_upto_region 6 with ((go_at_call 41; (with_reducible refine Calls.mono (hbt.out _ hG3) ?_); rintro e w4 ⟨Ab, cb, rfl, hob, hg4, _⟩))
 clear y11 y12 hbt
 have hG4 := hG3.trans hg4
 have hg24 := hg3.trans hg4
 have B4 := hg4.blk B3.out
 replace hos := hos.g hg4
 have hz3 := hg3.size
 have hns := hos.ne (b0 := b0) (by rw [hzz.out]; omega)
 have hnb := hob.ne (b0 := b0) (by rw [hzz.out] at hz3; omega)
 have hns2 := hos.nn byteC_len
 have hnb2 := hob.nn byteC_len
 have hss := hos.self byteC_len
 have hsb := hob.self byteC_len
 have hzb : b0 < w4.heap.size := by have := hg4.size; rw [hzz.out] at hz3; omega
 replace ho0 := ho0.g hg24
 have y0 := (blk_cell B4 0).trans (show _ = some (.int .i64 r.kind) from rfl)
 replace ho0 := Lib.hid ho0
 replace hns := Lib.hid hns
 replace hnb := Lib.hid hnb
 replace hns2 := Lib.hid hns2
 replace hnb2 := Lib.hid hnb2
 replace hss := Lib.hid hss
 replace hsb := Lib.hid hsb
 clear hos hob hz3 hzz hY B1 B2 B3 hg3 hg4 hg24 hG1 hG2 hG3 hgy hg1 hg0 hB0
 go_upto_region 10 with fail
 clear y0
 have q1 : ∀ w', KeepT 5 b0 w4 w' → w'.cell? ⟨w.heap.size, 1, none⟩ = some (.int .i64 r.n) := fun w' h => (blk_cell (h.2 _ _ _ _ (by decide) B4) 1).trans rfl
 have hl0' := hl0.out
 have hc1 : ∀ w', G w4 w' → Calls Tryz.prog 42 #[.slice (some ⟨b0, 0, none⟩) 1 1, .int .i64 r.n] w' (PostW w' (.slice (some ⟨b0, 0, none⟩) 1 1) b0 m1) := fun w' h => by
  have h8 := ho0.out.g h
  have h9 := num10_int r.n hm1 (by omega) fn.n (Nat.le_trans (Nat.le_of_lt hzb) h.size) h8
  rw [hl0'] at h9
  exact h9
 replace hc1 := Lib.hid hc1
 have y1 := q1 w4 (KeepT.refl _ _ _)
 replace B4 := Lib.hid B4
 clear q1
 go_wp2_with (first
  | (go_at_call 42; (with_reducible refine Calls.mono (hc1.out _ (G.refl _)) ?_); rintro e u1 ⟨A1, d1, rfl, ho1, hk1, ht1⟩; have hK1 : KeepT 5 b0 w4 u1 := hk1; have ht1' := ht1; clear ht1))
 go_ret2
 exact ⟨A1, d1, rfl, ho1.mono (by omega), KeepT.g (hK1.mono (by omega)) hG4⟩
set_option maxRecDepth 100000 in
set_option maxHeartbeats 4000000 in
theorem refEncR_3 (r : RecM) (w : World) (hin : r.In w) (hok : r.Small) (hT : Tabs w) (hk : r.kind = 3) (hc : chkR r.p = true) : Calls Tryz.prog 22 #[.agg r.cells] w (RetEnc 1 w (some (docR r.p))) := by
 have hdoc : docR r.p = (([UInt8.ofNat r.kind.toNat]) ++ batL r.key (r.ps.map PutM.p)) ++ stL r.st := by
  have h0 : r.p.kind = 3 := hk
  unfold docR
  simp only [h0, hk]
  rfl
 rw [hdoc]
 obtain ⟨m0, hm0⟩ : ∃ m, [UInt8.ofNat r.kind.toNat] = m := ⟨_, rfl⟩
 rw [hm0]
 have hl0 : m0.length = 1 := by rw [← hm0]; rfl
 have fn := fine_of hc
 have hste := stE_ok fn.st
 have hbl := hok.bat
 obtain ⟨m1, hm1⟩ : ∃ m, m0 ++ batL r.key (r.ps.map PutM.p) = m := ⟨_, rfl⟩
 rw [hm1]
 have hl1 : m1.length ≤ 500001 := by rw [← hm1, List.length_append]; have h1 := hbl; omega
 obtain ⟨m2, hm2⟩ : ∃ m, m1 ++ stL r.st = m := ⟨_, rfl⟩
 rw [hm2]
 have hl2 : m2.length ≤ 500031 := by rw [← hm2, List.length_append]; have h1 := stL_len r.st; omega
 have hg0 := G.new w (.cells r.cells 36)
 have hB0 := blk_new w r.cells 36
 have LR := load_blk (P := Tryz.prog) (T := 36) hB0 Tryz.underlying36 rfl (by kernel_rfl)
 have hck : Calls Tryz.prog 39 #[.agg r.cells] (w.alloc (.cells r.cells 36)) fun e w' => e = .returned (.int .i64 0) ∧ G (w.alloc (.cells r.cells 36)) w' := by
  have := refChk_any r _ ⟨(hin.1.g (Nat.le_refl _) hg0).more hg0.size, PutsIn.more (hin.2.1.g (Nat.le_refl _) hg0) hg0.size, SmsIn.more (hin.2.2.g (Nat.le_refl _) hg0) hg0.size⟩ hok (hT.g hg0)
  rw [hc] at this
  exact this
 have hkw : IntKind.u8.wrap r.kind = r.kind := by rw [hk]; rfl
 have hub : ((UInt8.ofNat r.kind.toNat).toNat : Int) = r.kind := by rw [hk]; rfl
 have e1 : (r.kind == 1) = false := by rw [hk]; rfl
 have e2 : (r.kind == 2) = false := by rw [hk]; rfl
 have e8 : (r.kind == 8) = false := by rw [hk]; rfl
 have e3 : (r.kind == 3) = true := by rw [hk]; rfl
 have hst : ∀ w', Calls Tryz.prog 40 #[.agg #[.int .i64 r.st.wall, .int .i64 r.st.logic, .int .i64 r.st.node]] w' (RetBytes w' (stE r.st)) := fun w' => refStEnc_any r.st w'
 rw [hste] at hst
 have hbt : ∀ w', G w w' → Calls Tryz.prog 41 #[.agg #[.string r.key, .slice r.Ap r.ps.length r.cp]] w' (RetBytesN w' (batL r.key (r.ps.map PutM.p))) := fun w' hg => refBatEnc_any r.key r.ps r.Ap r.cp w' (PutsIn.more (hin.2.1.g (Nat.le_refl _) hg) hg.size) (by have := hok.key; omega) hok.ps
 obtain ⟨sl, hsl⟩ : ∃ l, stL r.st = l := ⟨_, rfl⟩
 obtain ⟨bl, hbl2⟩ : ∃ l, batL r.key (r.ps.map PutM.p) = l := ⟨_, rfl⟩
 have hsll : sl.length ≤ 30 := by rw [← hsl]; exact stL_len r.st
 have hbll : bl.length ≤ 500000 := by rw [← hbl2]; exact hbl
 rw [hsl] at hst
 rw [hbl2] at hbt
 rw [hbl2] at hm1
 rw [hsl] at hm2
 replace hst := Lib.hid hst
 replace hbt := Lib.hid hbt
 replace hck := Lib.hid hck
 replace hm0 := Lib.hid hm0
 replace hm1 := Lib.hid hm1
 replace hm2 := Lib.hid hm2
 replace hl0 := Lib.hid hl0
 replace hk := Lib.hid hk
 replace hdoc := Lib.hid hdoc
 replace hin := Lib.hid hin
 replace hok := Lib.hid hok
 replace hT := Lib.hid hT
 replace hste := Lib.hid hste
 replace hub := Lib.hid hub
 replace hsl := Lib.hid hsl
 replace hbl2 := Lib.hid hbl2
 replace hc := Lib.hid hc
 clear hbl
 go_enter Tryz.func22, Tryz.ntmps22
 go_upto_region 1 with fail
 generalize w.alloc (.cells r.cells 36) = W0 at *
 go_upto_region 3 with (first | (refine wpList_load_at rfl (by kernel_rfl) (p := .pointer (some ⟨_, 0, none⟩)) rfl (by assumption) ?_) | (go_at_call 39; refine Calls.mono hck.out ?_; rintro e u1 ⟨rfl, hg1⟩))
 clear LR hck
 have B1 := hg1.blk hB0
 have hz0 : w.heap.size < u1.heap.size := blk_lt B1
 have hG1 := hg0.trans hg1
 have g0 := (blk_cell B1 0).trans (show _ = some (.int .i64 r.kind) from rfl)
 go_upto_region 4 with fail
 clear g0 hkw
 have hgy := G.new u1 (.cells #[.int .u8 r.kind] 5)
 have hY := blk_new u1 #[.int .u8 r.kind] 5
 have hzz : (u1.alloc (.cells #[.int .u8 r.kind] 5)).heap.size = u1.heap.size + 1 := by simp
 generalize u1.alloc (.cells #[.int .u8 r.kind] 5) = W2 at *
 have ho0 : OwnL 5 1 byteC W2 u1.heap.size (.slice (some ⟨u1.heap.size, 0, none⟩) m0.length 1) m0 := by
  rw [← hm0.out]
  exact OwnL.made byteC_len [UInt8.ofNat r.kind.toNat] hY (by simp only [List.flatMap_cons, List.flatMap_nil, byteC, hub.out]; rfl) (Nat.le_refl _) (by simp)
 have B2 := hgy.blk B1
 have hG2 := hG1.trans hgy
 generalize u1.heap.size = b0 at *
 have y4 := (blk_cell B2 4).trans (show _ = some (.int .i64 r.st.wall) from rfl)
 have y5 := (blk_cell B2 5).trans (show _ = some (.int .i64 r.st.logic) from rfl)
 have y6 := (blk_cell B2 6).trans (show _ = some (.int .i64 r.st.node) from rfl)
 replace B1 := Lib.hid B1
 replace B2 := Lib.hid B2
 replace hY := Lib.hid hY
 replace hzz := Lib.hid hzz
 go_upto_region 5 with ((go_at_call 40; (with_reducible refine Calls.mono (hst.out _) ?_); rintro e w3 ⟨As, cs, rfl, hos, hg3⟩))
 clear y4 y5 y6 hst
 have B3 := hg3.blk B2.out
 have hG3 := hG2.trans hg3
 have y11 := (blk_cell B3 11).trans (show _ = some (.string r.key) from rfl)
 have y12 := (blk_cell B3 12).trans (show _ = some (.slice r.Ap r.ps.length r.cp) from rfl)
 replace B3 := Lib.hid B3
 go_upto_region 6 with ((go_at_call 41; (with_reducible refine Calls.mono (hbt.out _ hG3) ?_); rintro e w4 ⟨Ab, cb, rfl, hob, hg4, _⟩))
 clear y11 y12 hbt
 have hG4 := hG3.trans hg4
 have hg24 := hg3.trans hg4
 have B4 := hg4.blk B3.out
 replace hos := hos.g hg4
 have hz3 := hg3.size
 have hns := hos.ne (b0 := b0) (by rw [hzz.out]; omega)
 have hnb := hob.ne (b0 := b0) (by rw [hzz.out] at hz3; omega)
 have hns2 := hos.nn byteC_len
 have hnb2 := hob.nn byteC_len
 have hss := hos.self byteC_len
 have hsb := hob.self byteC_len
 have hzb : b0 < w4.heap.size := by have := hg4.size; rw [hzz.out] at hz3; omega
 replace ho0 := ho0.g hg24
 have y0 := (blk_cell B4 0).trans (show _ = some (.int .i64 r.kind) from rfl)
 replace ho0 := Lib.hid ho0
 replace hns := Lib.hid hns
 replace hnb := Lib.hid hnb
 replace hns2 := Lib.hid hns2
 replace hnb2 := Lib.hid hnb2
 replace hss := Lib.hid hss
 replace hsb := Lib.hid hsb
 clear hos hob hz3 hzz hY B1 B2 B3 hg3 hg4 hg24 hG1 hG2 hG3 hgy hg1 hg0 hB0
 go_upto_region 12 with fail
 clear y0
 have hl0' := hl0.out
 replace B4 := Lib.hid B4
 skip
 go_wp2_with (first
  | (at_builtin; refine wpList_append_w byte_elem _ rfl (.tmp 32) (.tmp 33) rfl b0 (.slice (some ⟨b0, 0, none⟩) m0.length 1) m0 (by rw [hl0']; rfl) ho0.out w4.heap.size Ab cb bl rfl hnb2.out hsb.out (by omega) (by omega) (Nat.le_of_lt hzb) ?_; intro v1 u1 ho1 hk1 hbut hwh; rw [hm1.out] at ho1; obtain ⟨A1, d1, e1, _, _, _⟩ := OwnL.sl byteC_len ho1; subst e1; have hK1 : KeepT 5 b0 w4 u1 := hk1; have ht1' := Turn.of_app hbut hwh; rw [hl0'] at ht1'; clear hbut hwh)
  | (at_builtin; refine wpList_append_w byte_elem _ rfl (.tmp 34) (.tmp 35) rfl b0 (.slice A1 m1.length d1) m1 rfl ho1 w4.heap.size As cs sl rfl hns2.out (ht1'.sl hss.out (Nat.le_refl _) hns.out) (by omega) (by omega) (Nat.le_trans (Nat.le_of_lt hzb) (keepT_sz hK1)) ?_; intro v2 u2 ho2 hk2 hbut hwh; rw [hm2.out] at ho2; obtain ⟨A2, d2, e2, _, _, _⟩ := OwnL.sl byteC_len ho2; subst e2; have hK2 := hK1.trans hk2; have ht2' := ht1'.trans (Turn.of_app hbut hwh); clear hbut hwh))
 go_ret2
 exact ⟨A2, d2, rfl, ho2.mono (by omega), KeepT.g (hK2.mono (by omega)) hG4⟩
set_option maxRecDepth 100000 in
set_option maxHeartbeats 4000000 in
theorem refEncR_4 (r : RecM) (w : World) (hin : r.In w) (hok : r.Small) (hT : Tabs w) (hk : r.kind = 4) (hc : chkR r.p = true) : Calls Tryz.prog 22 #[.agg r.cells] w (RetEnc 1 w (some (docR r.p))) := by
 have hdoc : docR r.p = ((([UInt8.ofNat r.kind.toNat]) ++ nLs [r.x1, r.x2, r.x3]) ++ batL r.key (r.ps.map PutM.p)) ++ stL r.st := by
  have h0 : r.p.kind = 4 := hk
  unfold docR
  simp only [h0, hk]
  rfl
 rw [hdoc]
 obtain ⟨m0, hm0⟩ : ∃ m, [UInt8.ofNat r.kind.toNat] = m := ⟨_, rfl⟩
 rw [hm0]
 have hl0 : m0.length = 1 := by rw [← hm0]; rfl
 have fn := fine_of hc
 have hste := stE_ok fn.st
 have hbl := hok.bat
 obtain ⟨m1, hm1⟩ : ∃ m, m0 ++ nLs [r.x1, r.x2, r.x3] = m := ⟨_, rfl⟩
 rw [hm1]
 have hl1 : m1.length ≤ 31 := by rw [← hm1, List.length_append]; have h1 := nLs_len [r.x1, r.x2, r.x3]; rw [show [r.x1, r.x2, r.x3].length = 3 from rfl] at h1; omega
 obtain ⟨m2, hm2⟩ : ∃ m, m1 ++ batL r.key (r.ps.map PutM.p) = m := ⟨_, rfl⟩
 rw [hm2]
 have hl2 : m2.length ≤ 500031 := by rw [← hm2, List.length_append]; have h1 := hbl; omega
 obtain ⟨m3, hm3⟩ : ∃ m, m2 ++ stL r.st = m := ⟨_, rfl⟩
 rw [hm3]
 have hl3 : m3.length ≤ 500061 := by rw [← hm3, List.length_append]; have h1 := stL_len r.st; omega
 have hg0 := G.new w (.cells r.cells 36)
 have hB0 := blk_new w r.cells 36
 have LR := load_blk (P := Tryz.prog) (T := 36) hB0 Tryz.underlying36 rfl (by kernel_rfl)
 have hck : Calls Tryz.prog 39 #[.agg r.cells] (w.alloc (.cells r.cells 36)) fun e w' => e = .returned (.int .i64 0) ∧ G (w.alloc (.cells r.cells 36)) w' := by
  have := refChk_any r _ ⟨(hin.1.g (Nat.le_refl _) hg0).more hg0.size, PutsIn.more (hin.2.1.g (Nat.le_refl _) hg0) hg0.size, SmsIn.more (hin.2.2.g (Nat.le_refl _) hg0) hg0.size⟩ hok (hT.g hg0)
  rw [hc] at this
  exact this
 have hkw : IntKind.u8.wrap r.kind = r.kind := by rw [hk]; rfl
 have hub : ((UInt8.ofNat r.kind.toNat).toNat : Int) = r.kind := by rw [hk]; rfl
 have e1 : (r.kind == 1) = false := by rw [hk]; rfl
 have e2 : (r.kind == 2) = false := by rw [hk]; rfl
 have e8 : (r.kind == 8) = false := by rw [hk]; rfl
 have e3 : (r.kind == 3) = false := by rw [hk]; rfl
 have e4 : (r.kind == 4) = true := by rw [hk]; rfl
 have hst : ∀ w', Calls Tryz.prog 40 #[.agg #[.int .i64 r.st.wall, .int .i64 r.st.logic, .int .i64 r.st.node]] w' (RetBytes w' (stE r.st)) := fun w' => refStEnc_any r.st w'
 rw [hste] at hst
 have hbt : ∀ w', G w w' → Calls Tryz.prog 41 #[.agg #[.string r.key, .slice r.Ap r.ps.length r.cp]] w' (RetBytesN w' (batL r.key (r.ps.map PutM.p))) := fun w' hg => refBatEnc_any r.key r.ps r.Ap r.cp w' (PutsIn.more (hin.2.1.g (Nat.le_refl _) hg) hg.size) (by have := hok.key; omega) hok.ps
 obtain ⟨sl, hsl⟩ : ∃ l, stL r.st = l := ⟨_, rfl⟩
 obtain ⟨bl, hbl2⟩ : ∃ l, batL r.key (r.ps.map PutM.p) = l := ⟨_, rfl⟩
 have hsll : sl.length ≤ 30 := by rw [← hsl]; exact stL_len r.st
 have hbll : bl.length ≤ 500000 := by rw [← hbl2]; exact hbl
 rw [hsl] at hst
 rw [hbl2] at hbt
 rw [hbl2] at hm2
 rw [hsl] at hm3
 replace hst := Lib.hid hst
 replace hbt := Lib.hid hbt
 replace hck := Lib.hid hck
 replace hm0 := Lib.hid hm0
 replace hm1 := Lib.hid hm1
 replace hm2 := Lib.hid hm2
 replace hm3 := Lib.hid hm3
 replace hl0 := Lib.hid hl0
 replace hk := Lib.hid hk
 replace hdoc := Lib.hid hdoc
 replace hin := Lib.hid hin
 replace hok := Lib.hid hok
 replace hT := Lib.hid hT
 replace hste := Lib.hid hste
 replace hub := Lib.hid hub
 replace hsl := Lib.hid hsl
 replace hbl2 := Lib.hid hbl2
 replace hc := Lib.hid hc
 clear hbl
 go_enter Tryz.func22, Tryz.ntmps22
 go_upto_region 1 with fail
 generalize w.alloc (.cells r.cells 36) = W0 at *
 go_upto_region 3 with (first | (refine wpList_load_at rfl (by kernel_rfl) (p := .pointer (some ⟨_, 0, none⟩)) rfl (by assumption) ?_) | (go_at_call 39; refine Calls.mono hck.out ?_; rintro e u1 ⟨rfl, hg1⟩))
 clear LR hck
 have B1 := hg1.blk hB0
 have hz0 : w.heap.size < u1.heap.size := blk_lt B1
 have hG1 := hg0.trans hg1
 have g0 := (blk_cell B1 0).trans (show _ = some (.int .i64 r.kind) from rfl)
 go_upto_region 4 with fail
 clear g0 hkw
 have hgy := G.new u1 (.cells #[.int .u8 r.kind] 5)
 have hY := blk_new u1 #[.int .u8 r.kind] 5
 have hzz : (u1.alloc (.cells #[.int .u8 r.kind] 5)).heap.size = u1.heap.size + 1 := by simp
 generalize u1.alloc (.cells #[.int .u8 r.kind] 5) = W2 at *
 have ho0 : OwnL 5 1 byteC W2 u1.heap.size (.slice (some ⟨u1.heap.size, 0, none⟩) m0.length 1) m0 := by
  rw [← hm0.out]
  exact OwnL.made byteC_len [UInt8.ofNat r.kind.toNat] hY (by simp only [List.flatMap_cons, List.flatMap_nil, byteC, hub.out]; rfl) (Nat.le_refl _) (by simp)
 have B2 := hgy.blk B1
 have hG2 := hG1.trans hgy
 generalize u1.heap.size = b0 at *
 have y4 := (blk_cell B2 4).trans (show _ = some (.int .i64 r.st.wall) from rfl)
 have y5 := (blk_cell B2 5).trans (show _ = some (.int .i64 r.st.logic) from rfl)
 have y6 := (blk_cell B2 6).trans (show _ = some (.int .i64 r.st.node) from rfl)
 replace B1 := Lib.hid B1
 replace B2 := Lib.hid B2
 replace hY := Lib.hid hY
 replace hzz := Lib.hid hzz
 go_upto_region 5 with ((go_at_call 40; (with_reducible refine Calls.mono (hst.out _) ?_); rintro e w3 ⟨As, cs, rfl, hos, hg3⟩))
 clear y4 y5 y6 hst
 have B3 := hg3.blk B2.out
 have hG3 := hG2.trans hg3
 have y11 := (blk_cell B3 11).trans (show _ = some (.string r.key) from rfl)
 have y12 := (blk_cell B3 12).trans (show _ = some (.slice r.Ap r.ps.length r.cp) from rfl)
 replace B3 := Lib.hid B3
 go_upto_region 6 with ((go_at_call 41; (with_reducible refine Calls.mono (hbt.out _ hG3) ?_); rintro e w4 ⟨Ab, cb, rfl, hob, hg4, _⟩))
 clear y11 y12 hbt
 have hG4 := hG3.trans hg4
 have hg24 := hg3.trans hg4
 have B4 := hg4.blk B3.out
 replace hos := hos.g hg4
 have hz3 := hg3.size
 have hns := hos.ne (b0 := b0) (by rw [hzz.out]; omega)
 have hnb := hob.ne (b0 := b0) (by rw [hzz.out] at hz3; omega)
 have hns2 := hos.nn byteC_len
 have hnb2 := hob.nn byteC_len
 have hss := hos.self byteC_len
 have hsb := hob.self byteC_len
 have hzb : b0 < w4.heap.size := by have := hg4.size; rw [hzz.out] at hz3; omega
 replace ho0 := ho0.g hg24
 have y0 := (blk_cell B4 0).trans (show _ = some (.int .i64 r.kind) from rfl)
 replace ho0 := Lib.hid ho0
 replace hns := Lib.hid hns
 replace hnb := Lib.hid hnb
 replace hns2 := Lib.hid hns2
 replace hnb2 := Lib.hid hnb2
 replace hss := Lib.hid hss
 replace hsb := Lib.hid hsb
 clear hos hob hz3 hzz hY B1 B2 B3 hg3 hg4 hg24 hG1 hG2 hG3 hgy hg1 hg0 hB0
 go_upto_region 14 with fail
 clear y0
 have q7 : ∀ w', KeepT 5 b0 w4 w' → w'.cell? ⟨w.heap.size, 7, none⟩ = some (.int .i64 r.x1) := fun w' h => (blk_cell (h.2 _ _ _ _ (by decide) B4) 7).trans rfl
 have q8 : ∀ w', KeepT 5 b0 w4 w' → w'.cell? ⟨w.heap.size, 8, none⟩ = some (.int .i64 r.x2) := fun w' h => (blk_cell (h.2 _ _ _ _ (by decide) B4) 8).trans rfl
 have q9 : ∀ w', KeepT 5 b0 w4 w' → w'.cell? ⟨w.heap.size, 9, none⟩ = some (.int .i64 r.x3) := fun w' h => (blk_cell (h.2 _ _ _ _ (by decide) B4) 9).trans rfl
 have hl0' := hl0.out
 have hc1 : ∀ w', G w4 w' → Calls Tryz.prog 43 #[.slice (some ⟨b0, 0, none⟩) 1 1, .agg #[.int .i64 r.x1, .int .i64 r.x2, .int .i64 r.x3]] w' (PostW w' (.slice (some ⟨b0, 0, none⟩) 1 1) b0 m1) := fun w' h => by
  have h8 := ho0.out.g h
  have h9 := tx10_int r.x1 r.x2 r.x3 hm1 (by omega) fn.x1 fn.x2 fn.x3 (Nat.le_trans (Nat.le_of_lt hzb) h.size) h8
  rw [hl0'] at h9
  exact h9
 replace hc1 := Lib.hid hc1
 have y7 := q7 w4 (KeepT.refl _ _ _)
 have y8 := q8 w4 (KeepT.refl _ _ _)
 have y9 := q9 w4 (KeepT.refl _ _ _)
 replace B4 := Lib.hid B4
 clear q7 q8 q9
 go_wp2_with (first
  | (go_at_call 43; (with_reducible refine Calls.mono (hc1.out _ (G.refl _)) ?_); rintro e u1 ⟨A1, d1, rfl, ho1, hk1, ht1⟩; have hK1 : KeepT 5 b0 w4 u1 := hk1; have ht1' := ht1; clear ht1)
  | (at_builtin; refine wpList_append_w byte_elem _ rfl (.tmp 42) (.tmp 43) rfl b0 (.slice A1 m1.length d1) m1 rfl ho1 w4.heap.size Ab cb bl rfl hnb2.out (ht1'.sl hsb.out (Nat.le_refl _) hnb.out) (by omega) (by omega) (Nat.le_trans (Nat.le_of_lt hzb) (keepT_sz hK1)) ?_; intro v2 u2 ho2 hk2 hbut hwh; rw [hm2.out] at ho2; obtain ⟨A2, d2, e2, _, _, _⟩ := OwnL.sl byteC_len ho2; subst e2; have hK2 := hK1.trans hk2; have ht2' := ht1'.trans (Turn.of_app hbut hwh); clear hbut hwh)
  | (at_builtin; refine wpList_append_w byte_elem _ rfl (.tmp 44) (.tmp 45) rfl b0 (.slice A2 m2.length d2) m2 rfl ho2 w4.heap.size As cs sl rfl hns2.out (ht2'.sl hss.out (Nat.le_refl _) hns.out) (by omega) (by omega) (Nat.le_trans (Nat.le_of_lt hzb) (keepT_sz hK2)) ?_; intro v3 u3 ho3 hk3 hbut hwh; rw [hm3.out] at ho3; obtain ⟨A3, d3, e3, _, _, _⟩ := OwnL.sl byteC_len ho3; subst e3; have hK3 := hK2.trans hk3; have ht3' := ht2'.trans (Turn.of_app hbut hwh); clear hbut hwh))
 go_ret2
 exact ⟨A3, d3, rfl, ho3.mono (by omega), KeepT.g (hK3.mono (by omega)) hG4⟩
end Go.Proofs.YthafeaclpcjjbaaGreatDoor

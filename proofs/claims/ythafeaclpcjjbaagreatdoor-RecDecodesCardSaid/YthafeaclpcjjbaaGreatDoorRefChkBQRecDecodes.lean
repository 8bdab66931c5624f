/- penstockref10.CheckRec: what it answers of a record whose fields are those that its kind names. Conditions: lengths as told; the decoder's tables lie as the library lays them. -/
import Derived.Test.YthafeaclpcjjbaaGreatDoorRefChkQRecDecodes
import Derived.Test.YthafeaclpcjjbaaGreatDoorM37RecDecodes
namespace Go.Proofs.YthafeaclpcjjbaaGreatDoor
open Go.RowKit
theorem chkR_of {r : RecM} (hk : fOk r.kind = true) (hsp : spareB r.p (flOf r.kind) = true) (hss : stOk r.st = true) (h3 : r.nodes.length ≤ 1000) (h4 : r.sms.length ≤ 1000) :
  chkR r.p = (okIs 1125899906842624 ([r.n, r.dst, r.x1, r.x2, r.x3, r.z1, r.z2, r.z3, r.z4] ++ r.nodes) && (((r.sms.map SmM.sm).all fun m => decide (smL m ≠ [])) && (!(flOf r.kind).bat || decide (chkN r.key (r.ps.map PutM.p) = 0)))) := by
 have e1 : fOk r.p.kind = true := hk
 have e2 : spareB r.p (flOf r.p.kind) = true := hsp
 have e3 : stOk r.p.st = true := hss
 have e4 : decide (r.p.nodes.length ≤ 1000) = true := decide_eq_true h3
 have e5 : decide (r.p.sms.length ≤ 1000) = true := decide_eq_true (by show (r.sms.map SmM.sm).length ≤ 1000; rw [List.length_map]; exact h4)
 unfold chkR restR
 rw [e1, e2, e3, e4, e5]
 simp only [Bool.true_and]
 rfl
theorem all_take_snocB {α : Type} {p : α → Bool} {l : List α} {k : Nat} {x : α} (h : l[k]? = some x) (h1 : (l.take k).all p = true) (h2 : p x = true) : (l.take (k + 1)).all p = true := by
 rw [List.take_add_one, h, List.all_append, h1]
 simpa using h2
theorem bat_kind {k : Int} (hk : fOk k = true) : (flOf k).bat = decide (k = 3 ∨ k = 4) := by
 rcases kind_cases k with rfl | rfl | rfl | rfl | rfl | rfl | rfl | rfl | rfl | rfl | rfl | h
 all_goals first
  | rfl
  | (rw [hk] at h; cases h)
set_option maxRecDepth 100000 in
set_option maxHeartbeats 8000000 in
theorem refChk_yes (r : RecM) (w : World) (hin : r.In w) (hok : r.Small) (hT : Tabs w) (hk : fOk r.kind = true) (hsp : spareB r.p (flOf r.kind) = true) (hss : stOk r.st = true) (h3 : r.nodes.length ≤ 1000) (h4 : r.sms.length ≤ 1000) (CK : Bool)
  (hCK : chkR r.p = CK) :
  Calls Tryz.prog 39 #[.agg r.cells] w fun e w' => e = .returned (.int .i64 (if CK = true then 0 else 1)) ∧ G w w' := by
 rw [chkR_of hk hsp hss h3 h4, bat_kind hk] at hCK
 have hkb := fOk_in hk
 have hg0 := G.new w (.cells r.cells 36)
 have hB0 := blk_new w r.cells 36
 have hon : ∀ w', G (w.alloc (.cells r.cells 36)) w' → Calls Tryz.prog 70 #[.agg r.cells] w' fun e w'' => e = .returned (.agg r.only.cells) ∧ G w' w'' := fun w' _ => only_any r w'
 have hsa : ∀ w', G (w.alloc (.cells r.cells 36)) w' → Calls Tryz.prog 7 #[.agg r.only.cells, .agg r.cells] w' fun e w'' => e = .returned (.bool (spareB r.p (flOf r.kind))) ∧ G w' w'' := fun w' hg => by
  have hg' := hg0.trans hg
  exact sameOnly_any r w' ⟨(hin.1.g (Nat.le_refl _) hg').more hg'.size, PutsIn.more (hin.2.1.g (Nat.le_refl _) hg') hg'.size, SmsIn.more (hin.2.2.g (Nat.le_refl _) hg') hg'.size⟩ hok
 have hso : ∀ w', G (w.alloc (.cells r.cells 36)) w' → Calls Tryz.prog 71 #[.agg #[.int .i64 r.st.wall, .int .i64 r.st.logic, .int .i64 r.st.node]] w' fun e w'' => e = .returned (.bool (stOk r.st)) ∧ G w' w'' := fun w' _ => refSound_any _ _ _ w'
 have LR : ∀ w', G (w.alloc (.cells r.cells 36)) w' → (Instr.loadAt 36 (.pointer (some ⟨w.heap.size, 0, none⟩))).run Tryz.prog w' = .ok (.agg r.cells) w' := fun w' h => load_blk (h.blk hB0) Tryz.underlying36 rfl (by kernel_rfl)
 have x0 : ∀ w', G (w.alloc (.cells r.cells 36)) w' → w'.cell? ⟨w.heap.size, 0, none⟩ = some (.int .i64 r.kind) := fun w' h => (blk_cell (h.blk hB0) 0).trans rfl
 have x4 : ∀ w', G (w.alloc (.cells r.cells 36)) w' → w'.cell? ⟨w.heap.size, 4, none⟩ = some (.int .i64 r.st.wall) := fun w' h => (blk_cell (h.blk hB0) 4).trans rfl
 have x5 : ∀ w', G (w.alloc (.cells r.cells 36)) w' → w'.cell? ⟨w.heap.size, 5, none⟩ = some (.int .i64 r.st.logic) := fun w' h => (blk_cell (h.blk hB0) 5).trans rfl
 have x6 : ∀ w', G (w.alloc (.cells r.cells 36)) w' → w'.cell? ⟨w.heap.size, 6, none⟩ = some (.int .i64 r.st.node) := fun w' h => (blk_cell (h.blk hB0) 6).trans rfl
 have x10 : ∀ w', G (w.alloc (.cells r.cells 36)) w' → w'.cell? ⟨w.heap.size, 10, none⟩ = some (.slice r.An r.nodes.length r.cn) := fun w' h => (blk_cell (h.blk hB0) 10).trans rfl
 have x17 : ∀ w', G (w.alloc (.cells r.cells 36)) w' → w'.cell? ⟨w.heap.size, 17, none⟩ = some (.slice r.As r.sms.length r.cs) := fun w' h => (blk_cell (h.blk hB0) 17).trans rfl
 have x1 : ∀ w', G (w.alloc (.cells r.cells 36)) w' → w'.cell? ⟨w.heap.size, 1, none⟩ = some (.int .i64 r.n) := fun w' h => (blk_cell (h.blk hB0) 1).trans rfl
 have x2 : ∀ w', G (w.alloc (.cells r.cells 36)) w' → w'.cell? ⟨w.heap.size, 2, none⟩ = some (.int .i64 r.dst) := fun w' h => (blk_cell (h.blk hB0) 2).trans rfl
 have x7 : ∀ w', G (w.alloc (.cells r.cells 36)) w' → w'.cell? ⟨w.heap.size, 7, none⟩ = some (.int .i64 r.x1) := fun w' h => (blk_cell (h.blk hB0) 7).trans rfl
 have x8 : ∀ w', G (w.alloc (.cells r.cells 36)) w' → w'.cell? ⟨w.heap.size, 8, none⟩ = some (.int .i64 r.x2) := fun w' h => (blk_cell (h.blk hB0) 8).trans rfl
 have x9 : ∀ w', G (w.alloc (.cells r.cells 36)) w' → w'.cell? ⟨w.heap.size, 9, none⟩ = some (.int .i64 r.x3) := fun w' h => (blk_cell (h.blk hB0) 9).trans rfl
 have x11 : ∀ w', G (w.alloc (.cells r.cells 36)) w' → w'.cell? ⟨w.heap.size, 11, none⟩ = some (.string r.key) := fun w' h => (blk_cell (h.blk hB0) 11).trans rfl
 have x12 : ∀ w', G (w.alloc (.cells r.cells 36)) w' → w'.cell? ⟨w.heap.size, 12, none⟩ = some (.slice r.Ap r.ps.length r.cp) := fun w' h => (blk_cell (h.blk hB0) 12).trans rfl
 have x13 : ∀ w', G (w.alloc (.cells r.cells 36)) w' → w'.cell? ⟨w.heap.size, 13, none⟩ = some (.int .i64 r.z1) := fun w' h => (blk_cell (h.blk hB0) 13).trans rfl
 have x14 : ∀ w', G (w.alloc (.cells r.cells 36)) w' → w'.cell? ⟨w.heap.size, 14, none⟩ = some (.int .i64 r.z2) := fun w' h => (blk_cell (h.blk hB0) 14).trans rfl
 have x15 : ∀ w', G (w.alloc (.cells r.cells 36)) w' → w'.cell? ⟨w.heap.size, 15, none⟩ = some (.int .i64 r.z3) := fun w' h => (blk_cell (h.blk hB0) 15).trans rfl
 have x16 : ∀ w', G (w.alloc (.cells r.cells 36)) w' → w'.cell? ⟨w.heap.size, 16, none⟩ = some (.int .i64 r.z4) := fun w' h => (blk_cell (h.blk hB0) 16).trans rfl
 rw [hsp] at hsa
 rw [hss] at hso
 have t1 : decide (r.kind < 1) = false := decide_eq_false (by omega)
 have t2 : decide (11 < r.kind) = false := decide_eq_false (by omega)
 have t3 : decide (1000 < (r.nodes.length : Int)) = false := decide_eq_false (by omega)
 have t4 : decide (1000 < (r.sms.length : Int)) = false := decide_eq_false (by omega)
 replace hCK := Lib.hid hCK
 replace hon := Lib.hid hon
 replace hsa := Lib.hid hsa
 replace hso := Lib.hid hso
 replace hin := Lib.hid hin
 replace hok := Lib.hid hok
 replace hT := Lib.hid hT
 clear hsp hss hk
 go_enter Tryz.func39, Tryz.ntmps39
 go_upto_region 1 with fail
 generalize w.alloc (.cells r.cells 36) = W0 at *
 refine wp_region_held_drew (S := fun w' => G W0 w') (by kernel_rfl) ((G.refl _).drew) (fun hHeld => ?_)
 iterate 9 (refine lin_n (by rfl) (v := ?_) (by kernel_rfl) (by exact fun _ _ _ h => h) (by kernel_rfl) ?_ (by assumption) ?_; rotate_left; (focus (intro w hSw; (try dsimp only at hSw); simp only [List.getElem?_toArray, List.getElem?_cons_zero, List.getElem?_cons_succ, Option.map_some, Option.some.injEq]; go_simp; (first | done | with_reducible rfl))); (try simp only [Act.put, List.setIfInBounds_toArray, List.set_cons_zero, List.set_cons_succ]))
 refine lin_take 9 (some 15) (v := .agg r.cells) (by kernel_rfl) (by kernel_rfl) (by kernel_rfl) (by kernel_rfl) (fun _ _ _ h => h) (by kernel_rfl) (fun w' hSw => ?_) (by assumption) ?_
 ·simp only [List.getElem?_toArray, List.getElem?_cons_zero, List.getElem?_cons_succ, Option.map_some, Option.some.injEq]
  exact exec_load rfl rfl (LR w' hSw)
 try simp only [Act.put, List.setIfInBounds_toArray, List.set_cons_zero, List.set_cons_succ]
 refine lin_take 11 (some 17) (v := .agg r.cells) (by kernel_rfl) (by kernel_rfl) (by kernel_rfl) (by kernel_rfl) (fun _ _ _ h => h) (by kernel_rfl) (fun w' hSw => ?_) (by assumption) ?_
 ·simp only [List.getElem?_toArray, List.getElem?_cons_zero, List.getElem?_cons_succ, Option.map_some, Option.some.injEq]
  exact exec_load rfl rfl (LR w' hSw)
 try simp only [Act.put, List.setIfInBounds_toArray, List.set_cons_zero, List.set_cons_succ]
 refine wpAnyH_ready (rs := [10]) (by kernel_rfl) (by simp) ?_
 refine AllReadyH.cons (i := 10) rfl (fun K hK => ?_) AllReadyH.nil
 go_simp
 refine Calls.mono (hon.out _ (by assumption)) ?_
 rintro e u1 ⟨rfl, hgm⟩
 go_wp2_with fail
 refine hK.out _ _ (hgm.keep (by assumption)) (fun hHeld => ?_)
 clear hK K
 try simp only [Act.put, List.setIfInBounds_toArray, List.set_cons_zero, List.set_cons_succ]
 have hu1 : G W0 u1 := by assumption
 refine wpAnyH_ready (rs := [12]) (by kernel_rfl) (by simp) ?_
 refine AllReadyH.cons (i := 12) rfl (fun K hK => ?_) AllReadyH.nil
 go_simp
 refine Calls.mono (hsa.out _ (by assumption)) ?_
 rintro e u2 ⟨rfl, hgn⟩
 go_wp2_with fail
 refine hK.out _ _ (hgn.keep (by assumption)) (fun hHeld => ?_)
 clear hK K
 try simp only [Act.put, List.setIfInBounds_toArray, List.set_cons_zero, List.set_cons_succ]
 have hu2 : G W0 u2 := by assumption
 clear hu1 hgm hgn
 iterate 3 (refine lin_n (by rfl) (v := ?_) (by kernel_rfl) (by exact fun _ _ _ h => h) (by kernel_rfl) ?_ (by assumption) ?_; rotate_left; (focus (intro w hSw; (try dsimp only at hSw); simp only [List.getElem?_toArray, List.getElem?_cons_zero, List.getElem?_cons_succ, Option.map_some, Option.some.injEq]; go_simp; (first | done | with_reducible rfl))); (try simp only [Act.put, List.setIfInBounds_toArray, List.set_cons_zero, List.set_cons_succ]))
 iterate 2 (refine lin_n (by rfl) (v := ?_) (by kernel_rfl) (by exact fun _ _ _ h => h) (by kernel_rfl) ?_ (by assumption) ?_; rotate_left; (focus (intro w hSw; (try dsimp only at hSw); simp only [List.getElem?_toArray, List.getElem?_cons_zero, List.getElem?_cons_succ, Option.map_some, Option.some.injEq]; go_simp; (first | done | with_reducible rfl))); (try simp only [Act.put, List.setIfInBounds_toArray, List.set_cons_zero, List.set_cons_succ]))
 refine wpAnyH_ready (rs := [18]) (by kernel_rfl) (by simp) ?_
 refine AllReadyH.cons (i := 18) rfl (fun K hK => ?_) AllReadyH.nil
 go_simp
 refine Calls.mono (hso.out _ (by assumption)) ?_
 rintro e u3 ⟨rfl, hgo⟩
 go_wp2_with fail
 refine hK.out _ _ (hgo.keep (by assumption)) (fun hHeld => ?_)
 clear hK K
 try simp only [Act.put, List.setIfInBounds_toArray, List.set_cons_zero, List.set_cons_succ]
 have hu3 : G W0 u3 := by assumption
 clear hu2 hgo
 iterate 3 (refine lin_n (by rfl) (v := ?_) (by kernel_rfl) (by exact fun _ _ _ h => h) (by kernel_rfl) ?_ (by assumption) ?_; rotate_left; (focus (intro w hSw; (try dsimp only at hSw); simp only [List.getElem?_toArray, List.getElem?_cons_zero, List.getElem?_cons_succ, Option.map_some, Option.some.injEq]; go_simp; (first | done | with_reducible rfl))); (try simp only [Act.put, List.setIfInBounds_toArray, List.set_cons_zero, List.set_cons_succ]))
 iterate 11 (refine lin_n (by rfl) (v := ?_) (by kernel_rfl) (by exact fun _ _ _ h => h) (by kernel_rfl) ?_ (by assumption) ?_; rotate_left; (focus (intro w hSw; (try dsimp only at hSw); simp only [List.getElem?_toArray, List.getElem?_cons_zero, List.getElem?_cons_succ, Option.map_some, Option.some.injEq]; go_simp; (first | done | with_reducible rfl))); (try simp only [Act.put, List.setIfInBounds_toArray, List.set_cons_zero, List.set_cons_succ]))
 refine wpAnyH_done (by kernel_rfl) ?_ _
 have hge : G W0 u3 := by assumption
 clear hon hsa hso t1 t2 t3 t4
 have hz0 : w.heap.size < W0.heap.size := blk_lt hB0
 have hG3 := hg0.trans hge
 have g1 := x1 _ hge
 have g2 := x2 _ hge
 have g7 := x7 _ hge
 have g8 := x8 _ hge
 have g9 := x9 _ hge
 have g10 := x10 _ hge
 have g13 := x13 _ hge
 have g14 := x14 _ hge
 have g15 := x15 _ hge
 have g16 := x16 _ hge
 have hzu := hge.size
 go_upto_region 4 with fail
 have hgy := G.new u3 (.cells #[.int .i64 r.n, .int .i64 r.dst, .int .i64 r.x1, .int .i64 r.x2, .int .i64 r.x3, .int .i64 r.z1, .int .i64 r.z2, .int .i64 r.z3, .int .i64 r.z4] 3)
 have hY := blk_new u3 #[.int .i64 r.n, .int .i64 r.dst, .int .i64 r.x1, .int .i64 r.x2, .int .i64 r.x3, .int .i64 r.z1, .int .i64 r.z2, .int .i64 r.z3, .int .i64 r.z4] 3
 have hown0 : OwnL 3 1 intC (u3.alloc (.cells #[.int .i64 r.n, .int .i64 r.dst, .int .i64 r.x1, .int .i64 r.x2, .int .i64 r.x3, .int .i64 r.z1, .int .i64 r.z2, .int .i64 r.z3, .int .i64 r.z4] 3)) w.heap.size (.slice (some ⟨u3.heap.size, 0, none⟩) 9 9) [r.n, r.dst, r.x1, r.x2, r.x3, r.z1, r.z2, r.z3, r.z4] := OwnL.made intC_len [r.n, r.dst, r.x1, r.x2, r.x3, r.z1, r.z2, r.z3, r.z4] hY rfl (by omega) (by simp)
 have hGy := hge.trans hgy
 generalize u3.alloc (.cells #[.int .i64 r.n, .int .i64 r.dst, .int .i64 r.x1, .int .i64 r.x2, .int .i64 r.x3, .int .i64 r.z1, .int .i64 r.z2, .int .i64 r.z3, .int .i64 r.z4] 3) = W4 at *
 have hG4 := hg0.trans hGy
 have hB4 := hGy.blk hB0
 have g10' := x10 _ hGy
 have hsn := (hin.out.1.g (Nat.le_refl _) hG4).more hG4.size
 have hAn : r.An = none → r.nodes = [] := fun e => by
  have := hsn
  rw [e] at this
  exact this.of_none
 obtain ⟨NS, hNS⟩ : ∃ NS, [r.n, r.dst, r.x1, r.x2, r.x3, r.z1, r.z2, r.z3, r.z4] ++ r.nodes = NS := ⟨_, rfl⟩
 have hNL : NS.length = 9 + r.nodes.length := by rw [← hNS, List.length_append]; rfl
 have hNL2 : NS.length ≤ 1009 := by omega
 replace hCK : Hid ((okIs 1125899906842624 NS && (((r.sms.map SmM.sm).all fun m => decide (smL m ≠ [])) && (!decide (r.kind = 3 ∨ r.kind = 4) || decide (chkN r.key (r.ps.map PutM.p) = 0)))) = CK) := Lib.hid (by rw [← hNS]; exact hCK.out)
 replace hNS := Lib.hid hNS
 replace hNL := Lib.hid hNL
 replace hB4 := Lib.hid hB4
 replace hAn := Lib.hid hAn
 replace hsn := Lib.hid hsn
 have hzW : w.heap.size ≤ W4.heap.size := hG4.size
 clear g1 g2 g7 g8 g9 g10 g13 g14 g15 g16 x0 x1 x2 x4 x5 x6 x7 x8 x9 x10 x11 x12 x13 x14 x15 x16 x17 hu3 LR hgy hY hB0
 go_wp2_with ((at_builtin; refine wpList_append_list int_elem10 _ rfl (.tmp 65) (.tmp 67) rfl w.heap.size _ [r.n, r.dst, r.x1, r.x2, r.x3, r.z1, r.z2, r.z3, r.z4] rfl hown0 W4.heap.size r.An r.cn r.nodes rfl hAn.out hsn.out (by simp; omega) (by simp; omega) hzW ?_; intro v1 w5 hown5 hk5 _; rw [hNS.out] at hown5; obtain ⟨A5, c5, rfl, _, hc5, hsl5⟩ := OwnL.sl intC_len hown5))
 clear hown0 hown5 g10'
 have hG5 : G w w5 := KeepT.g hk5 hG4
 have hB5 := Lib.hid (hk5.2 _ _ _ _ (by decide) hB4.out)
 replace hsl5 := Lib.hid hsl5
 clear hk5 hge hGy
 go_loop [4] (fun i => ∃ k : Nat, k ≤ NS.length ∧ i = .int .i64 k ∧ Hid (okIs 1125899906842624 (NS.take k) = true)) (fun i => NS.length - (intOf i).toNat)
 case atStart => exact ⟨0, Nat.zero_le _, rfl, Lib.hid rfl⟩
 case round =>
  obtain ⟨k, hkl, rfl, hio⟩ := hrel
  by_cases hlt : k < NS.length
  ·obtain ⟨x, hx⟩ : ∃ x, NS[k]? = some x := ⟨_, List.getElem?_eq_getElem hlt⟩
   obtain ⟨b5, o5, rfl, _, hcx⟩ := hsl5.out.int hx
   have n1 : (0 : Int) ≤ (k : Int) := by omega
   have n2 : (k : Int) < (NS.length : Int) := by omega
   cases hxo : okI 1125899906842624 x with
   | false =>
    obtain rfl : CK = false := by rw [← hCK.out, okIs_not hx hxo]; rfl
    have hxo' := of_decide_eq_false hxo
    replace hxo := Lib.hid hxo
    replace hx := Lib.hid hx
    by_cases h0 : x < 0
    ·have m1 : decide (x < 0) = true := decide_eq_true h0
     clear hxo'
     go_wp2_with fail
     go_ret
     exact ⟨rfl, hG5⟩
    ·have m1 : decide (x < 0) = false := decide_eq_false h0
     have m2 : decide (1125899906842624 < x) = true := decide_eq_true (by omega)
     clear hxo'
     go_wp2_with fail
     go_ret
     exact ⟨rfl, hG5⟩
   | true =>
    have hxo' := of_decide_eq_true hxo
    have hnx := Lib.hid (okIs_take hx hio.out hxo)
    have m1 : decide (x < 0) = false := decide_eq_false (by omega)
    have m2 : decide (1125899906842624 < x) = false := decide_eq_false (by omega)
    replace hxo := Lib.hid hxo
    replace hx := Lib.hid hx
    clear hxo'
    go_wp2_with fail
    go_round
    case rel => exact ⟨k + 1, by omega, by go_num, hnx⟩
    case measure => simp [intOf]; omega
  ·have hall := hio.out
   rw [List.take_of_length_le (by omega)] at hall
   replace hCK : Hid ((((r.sms.map SmM.sm).all fun m => decide (smL m ≠ [])) && (!decide (r.kind = 3 ∨ r.kind = 4) || decide (chkN r.key (r.ps.map PutM.p) = 0))) = CK) := Lib.hid (by rw [← hCK.out, hall, Bool.true_and])
   clear hio hall hsl5
   go_wp2_with fail
   go_loopw [5] (fun i wr => ∃ k : Nat, k ≤ r.sms.length ∧ i = .int .i64 k ∧ Hid (((r.sms.map SmM.sm).take k).all (fun m => decide (smL m ≠ [])) = true) ∧ G w5 wr) (fun i _ => r.sms.length - (intOf i).toNat)
   case atStart => exact ⟨0, Nat.zero_le _, rfl, Lib.hid rfl, G.refl _⟩
   case round =>
    obtain ⟨wo, rfl⟩ : ∃ wo : World, wo = wr := ⟨_, rfl⟩
    obtain ⟨j, hjl, rfl, hal, hgr⟩ := hrel
    have hGr := hG5.trans hgr
    have y17 : wo.cell? ⟨w.heap.size, 17, none⟩ = some (.slice r.As r.sms.length r.cs) := (blk_cell (hgr.blk hB5.out) 17).trans rfl
    by_cases hlj : j < r.sms.length
    ·obtain ⟨s, hs⟩ : ∃ s, r.sms[j]? = some s := ⟨_, List.getElem?_eq_getElem hlj⟩
     obtain ⟨b6, o6, hAs, _, d0, d1, d2⟩ := Sl.smc (hin.out.2.2.1.g (Nat.le_refl _) hGr) hs
     rw [hAs] at y17
     have hsM := List.mem_of_getElem? hs
     have hen := refSmEnc_any s.name s.es s.ks s.Ae s.Ak s.ce s.ck wo (((hin.out.2.2.2 s hsM).g (Nat.le_refl _) hGr).more hGr.size) (hok.out.sms s hsM).1 
     have hms : (r.sms.map SmM.sm)[j]? = some s.sm := by rw [List.getElem?_map, hs]; rfl
     have n1 : (0 : Int) ≤ (j : Int) := by omega
     have n2 : (j : Int) < (r.sms.length : Int) := by omega
     obtain ⟨l, hl⟩ : ∃ l, smL s.sm = l := ⟨_, rfl⟩
     have hl' : smL ⟨s.name, s.es, s.ks⟩ = l := hl
     rw [hl'] at hen
     replace hen := Lib.hid (hen (hT.out.g hGr))
     by_cases hle : l = []
     ·subst hle
      obtain rfl : CK = false := by
       rw [← hCK.out, List.all_eq_false.2 ⟨s.sm, List.mem_of_getElem? hms, by rw [hl]; decide⟩]
       rfl
      replace hs := Lib.hid hs
      replace hl := Lib.hid hl
      replace hl' := Lib.hid hl'
      replace hms := Lib.hid hms
      clear hAs
      go_wp2_with (go_at_call 69; (with_reducible refine Calls.mono hen.out ?_); rintro e w6 ⟨A6, c6, rfl, hown6, hg6, _⟩)
      go_ret
      exact ⟨rfl, hGr.trans hg6⟩
     ·have m1 : ((l.length : Int) == 0) = false := by
       rw [beq_eq_false_iff_ne]
       intro h
       exact hle (List.eq_nil_of_length_eq_zero (by omega))
      have hnx := Lib.hid (all_take_snocB hms hal.out (show decide (smL s.sm ≠ []) = true by rw [hl]; exact decide_eq_true hle))
      replace hs := Lib.hid hs
      replace hl := Lib.hid hl
      replace hl' := Lib.hid hl'
      replace hms := Lib.hid hms
      clear hAs
      go_wp2_with (go_at_call 69; (with_reducible refine Calls.mono hen.out ?_); rintro e w6 ⟨A6, c6, rfl, hown6, hg6, _⟩)
      go_roundw
      case rel => exact ⟨j + 1, by omega, by go_num, hnx, hgr.trans hg6⟩
      case measure => simp [intOf]; omega
    ·have hall := hal.out
     rw [List.take_of_length_le (by rw [List.length_map]; omega)] at hall
     replace hCK : Hid ((!decide (r.kind = 3 ∨ r.kind = 4) || decide (chkN r.key (r.ps.map PutM.p) = 0)) = CK) := Lib.hid (by rw [← hCK.out, hall, Bool.true_and])
     have y0 : wo.cell? ⟨w.heap.size, 0, none⟩ = some (.int .i64 r.kind) := (blk_cell (hgr.blk hB5.out) 0).trans rfl
     have y11 : wo.cell? ⟨w.heap.size, 11, none⟩ = some (.string r.key) := (blk_cell (hgr.blk hB5.out) 11).trans rfl
     have y12 : wo.cell? ⟨w.heap.size, 12, none⟩ = some (.slice r.Ap r.ps.length r.cp) := (blk_cell (hgr.blk hB5.out) 12).trans rfl
     clear hal hall
     have hch := refCheck_any r.key r.ps r.Ap r.cp wo (PutsIn.more (hin.out.2.1.g (Nat.le_refl _) hGr) hGr.size) (by have := hok.out.key; omega) hok.out.ps
     obtain ⟨N, hN⟩ : ∃ N, chkN r.key (r.ps.map PutM.p) = N := ⟨_, rfl⟩
     rw [hN] at hch hCK
     replace hN := Lib.hid hN
     by_cases hkk : r.kind = 3 ∨ r.kind = 4
     ·rw [decide_eq_true hkk, Bool.not_true, Bool.false_or] at hCK
      by_cases hn0 : N = 0
      ·subst hn0
       obtain rfl : CK = true := hCK.out.symm
       replace hch := Lib.hid hch
       rcases hkk with hk3 | hk4
       ·have m1 : (r.kind == 3) = true := by rw [hk3]; rfl
        replace hk3 := Lib.hid hk3
        go_wp2_with (go_at_call 37; (with_reducible refine Calls.mono hch.out ?_); rintro e w6 ⟨rfl, hg6⟩)
        go_ret
        exact ⟨rfl, hGr.trans hg6⟩
       ·have m1 : (r.kind == 3) = false := by rw [hk4]; rfl
        have m2 : (r.kind == 4) = true := by rw [hk4]; rfl
        replace hk4 := Lib.hid hk4
        go_wp2_with (go_at_call 37; (with_reducible refine Calls.mono hch.out ?_); rintro e w6 ⟨rfl, hg6⟩)
        go_ret
        exact ⟨rfl, hGr.trans hg6⟩
      ·obtain rfl : CK = false := by rw [← hCK.out]; exact decide_eq_false hn0
       have m3 : ((N : Int) == 0) = false := by rw [beq_eq_false_iff_ne]; omega
       have m4 : ((N : Int) != 0) = true := by rw [bne, m3]; rfl
       replace hch := Lib.hid hch
       rcases hkk with hk3 | hk4
       ·have m1 : (r.kind == 3) = true := by rw [hk3]; rfl
        replace hk3 := Lib.hid hk3
        go_wp2_with (go_at_call 37; (with_reducible refine Calls.mono hch.out ?_); rintro e w6 ⟨rfl, hg6⟩)
        go_ret
        exact ⟨rfl, hGr.trans hg6⟩
       ·have m1 : (r.kind == 3) = false := by rw [hk4]; rfl
        have m2 : (r.kind == 4) = true := by rw [hk4]; rfl
        replace hk4 := Lib.hid hk4
        go_wp2_with (go_at_call 37; (with_reducible refine Calls.mono hch.out ?_); rintro e w6 ⟨rfl, hg6⟩)
        go_ret
        exact ⟨rfl, hGr.trans hg6⟩
     ·rw [decide_eq_false hkk, Bool.not_false, Bool.true_or] at hCK
      obtain rfl : CK = true := hCK.out.symm
      have m1 : (r.kind == 3) = false := by rw [beq_eq_false_iff_ne]; exact fun h => hkk (.inl h)
      have m2 : (r.kind == 4) = false := by rw [beq_eq_false_iff_ne]; exact fun h => hkk (.inr h)
      clear hch
      go_wp2_with fail
      go_ret
      exact ⟨rfl, hGr⟩
end Go.Proofs.YthafeaclpcjjbaaGreatDoor

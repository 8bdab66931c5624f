/- penstockref10.CheckRec: what it answers. Conditions: lengths as told; the decoder's tables lie as the library lays them. -/
import Derived.Test.YthafeaclpcjjbaaGreatDoorM43RecDecodes
import Derived.Test.YthafeaclpcjjbaaGreatDoorRefSmEncQRecDecodes
import Derived.Test.YthafeaclpcjjbaaGreatDoorRefCheckQRecDecodes
import Derived.Test.YthafeaclpcjjbaaGreatDoorRecListsQRecDecodes
import Derived.Test.YthafeaclpcjjbaaGreatDoorM20RecDecodes
import Derived.Test.YthafeaclpcjjbaaGreatDoorM15RecDecodes
import Derived.Test.YthafeaclpcjjbaaGreatDoorM26RecDecodes
namespace Go.Proofs.YthafeaclpcjjbaaGreatDoor
open Go.RowKit
set_option maxRecDepth 100000 in
set_option maxHeartbeats 8000000 in
theorem refChk_no (r : RecM) (w : World) (hin : r.In w) (hok : r.Small) (hbad : (fOk r.kind && (spareB r.p (flOf r.kind) && (stOk r.st && (decide (r.nodes.length ≤ 1000) && decide (r.sms.length ≤ 1000))))) = false) :
  Calls Tryz.prog 39 #[.agg r.cells] w fun e w' => e = .returned (.int .i64 (if chkR r.p = true then 0 else 1)) ∧ G w w' := by
 rw [show (if chkR r.p = true then (0 : Int) else 1) = 1 from if_neg (by
  rw [Bool.not_eq_true]
  unfold chkR restR
  show (fOk r.kind && (spareB r.p (flOf r.kind) && (stOk r.st && (decide (r.nodes.length ≤ 1000) && (decide ((r.sms.map SmM.sm).length ≤ 1000) && _))))) = false
  rw [List.length_map]
  revert hbad
  cases fOk r.kind <;> cases spareB r.p (flOf r.kind) <;> cases stOk r.st <;> cases decide (r.nodes.length ≤ 1000) <;> cases decide (r.sms.length ≤ 1000) <;> simp)]
 have hg0 := G.new w (.cells r.cells 36)
 have hB0 := blk_new w r.cells 36
 have hon : ∀ w', G (w.alloc (.cells r.cells 36)) w' → Calls Tryz.prog 70 #[.agg r.cells] w' fun e w'' => e = .returned (.agg r.only.cells) ∧ G w' w'' := fun w' _ => only_any r w'
 have hsa : ∀ w', G (w.alloc (.cells r.cells 36)) w' → Calls Tryz.prog 7 #[.agg r.only.cells, .agg r.cells] w' fun e w'' => e = .returned (.bool (spareB r.p (flOf r.kind))) ∧ G w' w'' := fun w' hg => by
  have hg' := hg0.trans hg
  exact sameOnly_any r w' ⟨(hin.1.g (Nat.le_refl _) hg').more hg'.size, PutsIn.more (hin.2.1.g (Nat.le_refl _) hg') hg'.size, SmsIn.more (hin.2.2.g (Nat.le_refl _) hg') hg'.size⟩ hok
 have hso : ∀ w', G (w.alloc (.cells r.cells 36)) w' → Calls Tryz.prog 71 #[.agg #[.int .i64 r.st.wall, .int .i64 r.st.logic, .int .i64 r.st.node]] w' fun e w'' => e = .returned (.bool (stOk r.st)) ∧ G w' w'' := fun w' _ => refSound_any _ _ _ w'
 have LR : ∀ w', G (w.alloc (.cells r.cells 36)) w' → (Instr.loadAt 36 (.pointer (some ⟨w.heap.size, 0, none⟩))).run Tryz.prog w' = .ok (.agg r.cells) w' := fun w' h => load_blk (h.blk hB0) Tryz.underlying36 rfl (by kernel_rfl)
 have x0 : ∀ w', G (w.alloc (.cells r.cells 36)) w' → w'.cell? ⟨w.heap.size, 0, none⟩ = some (.int .i64 r.kind) := fun w' h => (blk_cell (h.blk hB0) 0).trans rfl
 have x4 : ∀ w', G (w.alloc (.cells r.cells 36)) w' → w'.cell? ⟨w.heap.size, 4, none⟩ = some (.int .i64 r.st.wall) := fun w' h => (blk_cell (h.blk hB0) 4).trans rfl
 have x5 : ∀ w', G (w.alloc (.cells r.cells 36)) w' → w'.cell? ⟨w.heap.size, 5, none⟩ = some (.int .i64 r.st.logic) := fun w' h => (blk_cell (h.blk hB0) 5).trans rfl
 have x6 : ∀ w', G (w.alloc (.cells r.cells 36)) w' → w'.cell? ⟨w.heap.size, 6, none⟩ = some (.int .i64 r.st.node) := fun w' h => (blk_cell (h.blk hB0) 6).trans rfl
 have x10 : ∀ w', G (w.alloc (.cells r.cells 36)) w' → w'.cell? ⟨w.heap.size, 10, none⟩ = some (.slice r.An r.nodes.length r.cn) := fun w' h => (blk_cell (h.blk hB0) 10).trans rfl
 have x17 : ∀ w', G (w.alloc (.cells r.cells 36)) w' → w'.cell? ⟨w.heap.size, 17, none⟩ = some (.slice r.As r.sms.length r.cs) := fun w' h => (blk_cell (h.blk hB0) 17).trans rfl
 replace hon := Lib.hid hon
 replace hsa := Lib.hid hsa
 replace hso := Lib.hid hso
 replace hin := Lib.hid hin
 replace hok := Lib.hid hok
 clear hB0
 by_cases h1 : r.kind < 1
 ·have t1 : decide (r.kind < 1) = true := decide_eq_true h1
  clear hbad
  go_enter Tryz.func39, Tryz.ntmps39
  go_upto_region 1 with fail
  generalize w.alloc (.cells r.cells 36) = W0 at *
  refine wp_region_held_drew (S := fun w' => G W0 w') (by kernel_rfl) ((G.refl _).drew) (fun hHeld => ?_)
  iterate 4 (refine lin_n (by rfl) (v := ?_) (by kernel_rfl) (by exact fun _ _ _ h => h) (by kernel_rfl) ?_ (by assumption) ?_; rotate_left; (focus (intro w hSw; (try dsimp only at hSw); simp only [List.getElem?_toArray, List.getElem?_cons_zero, List.getElem?_cons_succ, Option.map_some, Option.some.injEq]; go_simp; (first | done | with_reducible rfl))); (try simp only [Act.put, List.setIfInBounds_toArray, List.set_cons_zero, List.set_cons_succ]))
  iterate 3 (refine lin_p (by rfl) (by kernel_rfl) (by exact fun _ _ _ h => h) (by kernel_rfl) (by assumption) ?_; (try simp only [Act.put, List.setIfInBounds_toArray, List.set_cons_zero, List.set_cons_succ]))
  iterate 2 (refine lin_n (by rfl) (v := ?_) (by kernel_rfl) (by exact fun _ _ _ h => h) (by kernel_rfl) ?_ (by assumption) ?_; rotate_left; (focus (intro w hSw; (try dsimp only at hSw); simp only [List.getElem?_toArray, List.getElem?_cons_zero, List.getElem?_cons_succ, Option.map_some, Option.some.injEq]; go_simp; (first | done | with_reducible rfl))); (try simp only [Act.put, List.setIfInBounds_toArray, List.set_cons_zero, List.set_cons_succ]))
  iterate 5 (refine lin_p (by rfl) (by kernel_rfl) (by exact fun _ _ _ h => h) (by kernel_rfl) (by assumption) ?_; (try simp only [Act.put, List.setIfInBounds_toArray, List.set_cons_zero, List.set_cons_succ]))
  iterate 2 (refine lin_n (by rfl) (v := ?_) (by kernel_rfl) (by exact fun _ _ _ h => h) (by kernel_rfl) ?_ (by assumption) ?_; rotate_left; (focus (intro w hSw; (try dsimp only at hSw); simp only [List.getElem?_toArray, List.getElem?_cons_zero, List.getElem?_cons_succ, Option.map_some, Option.some.injEq]; go_simp; (first | done | with_reducible rfl))); (try simp only [Act.put, List.setIfInBounds_toArray, List.set_cons_zero, List.set_cons_succ]))
  iterate 4 (refine lin_p (by rfl) (by kernel_rfl) (by exact fun _ _ _ h => h) (by kernel_rfl) (by assumption) ?_; (try simp only [Act.put, List.setIfInBounds_toArray, List.set_cons_zero, List.set_cons_succ]))
  iterate 2 (refine lin_n (by rfl) (v := ?_) (by kernel_rfl) (by exact fun _ _ _ h => h) (by kernel_rfl) ?_ (by assumption) ?_; rotate_left; (focus (intro w hSw; (try dsimp only at hSw); simp only [List.getElem?_toArray, List.getElem?_cons_zero, List.getElem?_cons_succ, Option.map_some, Option.some.injEq]; go_simp; (first | done | with_reducible rfl))); (try simp only [Act.put, List.setIfInBounds_toArray, List.set_cons_zero, List.set_cons_succ]))
  iterate 4 (refine lin_p (by rfl) (by kernel_rfl) (by exact fun _ _ _ h => h) (by kernel_rfl) (by assumption) ?_; (try simp only [Act.put, List.setIfInBounds_toArray, List.set_cons_zero, List.set_cons_succ]))
  iterate 2 (refine lin_n (by rfl) (v := ?_) (by kernel_rfl) (by exact fun _ _ _ h => h) (by kernel_rfl) ?_ (by assumption) ?_; rotate_left; (focus (intro w hSw; (try dsimp only at hSw); simp only [List.getElem?_toArray, List.getElem?_cons_zero, List.getElem?_cons_succ, Option.map_some, Option.some.injEq]; go_simp; (first | done | with_reducible rfl))); (try simp only [Act.put, List.setIfInBounds_toArray, List.set_cons_zero, List.set_cons_succ]))
  iterate 4 (refine lin_p (by rfl) (by kernel_rfl) (by exact fun _ _ _ h => h) (by kernel_rfl) (by assumption) ?_; (try simp only [Act.put, List.setIfInBounds_toArray, List.set_cons_zero, List.set_cons_succ]))
  iterate 1 (refine lin_n (by rfl) (v := ?_) (by kernel_rfl) (by exact fun _ _ _ h => h) (by kernel_rfl) ?_ (by assumption) ?_; rotate_left; (focus (intro w hSw; (try dsimp only at hSw); simp only [List.getElem?_toArray, List.getElem?_cons_zero, List.getElem?_cons_succ, Option.map_some, Option.some.injEq]; go_simp; (first | done | with_reducible rfl))); (try simp only [Act.put, List.setIfInBounds_toArray, List.set_cons_zero, List.set_cons_succ]))
  refine wpAnyH_done (by kernel_rfl) ?_ _
  have hge : G W0 W0.drew := (G.refl _).drew
  go_wp2_with fail
  go_ret
  exact ⟨rfl, hg0.trans hge⟩
 have t1 : decide (r.kind < 1) = false := decide_eq_false h1
 by_cases h2 : 11 < r.kind
 ·have t2 : decide (11 < r.kind) = true := decide_eq_true h2
  clear hbad
  go_enter Tryz.func39, Tryz.ntmps39
  go_upto_region 1 with fail
  generalize w.alloc (.cells r.cells 36) = W0 at *
  refine wp_region_held_drew (S := fun w' => G W0 w') (by kernel_rfl) ((G.refl _).drew) (fun hHeld => ?_)
  iterate 9 (refine lin_n (by rfl) (v := ?_) (by kernel_rfl) (by exact fun _ _ _ h => h) (by kernel_rfl) ?_ (by assumption) ?_; rotate_left; (focus (intro w hSw; (try dsimp only at hSw); simp only [List.getElem?_toArray, List.getElem?_cons_zero, List.getElem?_cons_succ, Option.map_some, Option.some.injEq]; go_simp; (first | done | with_reducible rfl))); (try simp only [Act.put, List.setIfInBounds_toArray, List.set_cons_zero, List.set_cons_succ]))
  iterate 5 (refine lin_p (by rfl) (by kernel_rfl) (by exact fun _ _ _ h => h) (by kernel_rfl) (by assumption) ?_; (try simp only [Act.put, List.setIfInBounds_toArray, List.set_cons_zero, List.set_cons_succ]))
  iterate 2 (refine lin_n (by rfl) (v := ?_) (by kernel_rfl) (by exact fun _ _ _ h => h) (by kernel_rfl) ?_ (by assumption) ?_; rotate_left; (focus (intro w hSw; (try dsimp only at hSw); simp only [List.getElem?_toArray, List.getElem?_cons_zero, List.getElem?_cons_succ, Option.map_some, Option.some.injEq]; go_simp; (first | done | with_reducible rfl))); (try simp only [Act.put, List.setIfInBounds_toArray, List.set_cons_zero, List.set_cons_succ]))
  iterate 4 (refine lin_p (by rfl) (by kernel_rfl) (by exact fun _ _ _ h => h) (by kernel_rfl) (by assumption) ?_; (try simp only [Act.put, List.setIfInBounds_toArray, List.set_cons_zero, List.set_cons_succ]))
  iterate 2 (refine lin_n (by rfl) (v := ?_) (by kernel_rfl) (by exact fun _ _ _ h => h) (by kernel_rfl) ?_ (by assumption) ?_; rotate_left; (focus (intro w hSw; (try dsimp only at hSw); simp only [List.getElem?_toArray, List.getElem?_cons_zero, List.getElem?_cons_succ, Option.map_some, Option.some.injEq]; go_simp; (first | done | with_reducible rfl))); (try simp only [Act.put, List.setIfInBounds_toArray, List.set_cons_zero, List.set_cons_succ]))
  iterate 4 (refine lin_p (by rfl) (by kernel_rfl) (by exact fun _ _ _ h => h) (by kernel_rfl) (by assumption) ?_; (try simp only [Act.put, List.setIfInBounds_toArray, List.set_cons_zero, List.set_cons_succ]))
  iterate 2 (refine lin_n (by rfl) (v := ?_) (by kernel_rfl) (by exact fun _ _ _ h => h) (by kernel_rfl) ?_ (by assumption) ?_; rotate_left; (focus (intro w hSw; (try dsimp only at hSw); simp only [List.getElem?_toArray, List.getElem?_cons_zero, List.getElem?_cons_succ, Option.map_some, Option.some.injEq]; go_simp; (first | done | with_reducible rfl))); (try simp only [Act.put, List.setIfInBounds_toArray, List.set_cons_zero, List.set_cons_succ]))
  iterate 4 (refine lin_p (by rfl) (by kernel_rfl) (by exact fun _ _ _ h => h) (by kernel_rfl) (by assumption) ?_; (try simp only [Act.put, List.setIfInBounds_toArray, List.set_cons_zero, List.set_cons_succ]))
  iterate 1 (refine lin_n (by rfl) (v := ?_) (by kernel_rfl) (by exact fun _ _ _ h => h) (by kernel_rfl) ?_ (by assumption) ?_; rotate_left; (focus (intro w hSw; (try dsimp only at hSw); simp only [List.getElem?_toArray, List.getElem?_cons_zero, List.getElem?_cons_succ, Option.map_some, Option.some.injEq]; go_simp; (first | done | with_reducible rfl))); (try simp only [Act.put, List.setIfInBounds_toArray, List.set_cons_zero, List.set_cons_succ]))
  refine wpAnyH_done (by kernel_rfl) ?_ _
  have hge : G W0 W0.drew := (G.refl _).drew
  go_wp2_with fail
  go_ret
  exact ⟨rfl, hg0.trans hge⟩
 have t2 : decide (11 < r.kind) = false := decide_eq_false h2
 have hk : fOk r.kind = true := decide_eq_true (by omega)
 rw [hk, Bool.true_and] at hbad
 cases hsp : spareB r.p (flOf r.kind) with
 | false =>
  rw [hsp] at hsa
  clear hbad hsp hk
  go_enter Tryz.func39, Tryz.ntmps39
  go_upto_region 1 with fail
  generalize w.alloc (.cells r.cells 36) = W0 at *
  refine wp_region_held_drew (S := fun w' => G W0 w') (by kernel_rfl) ((G.refl _).drew) (fun hHeld => ?_)
  iterate 9 (refine lin_n (by rfl) (v := ?_) (by kernel_rfl) (by exact fun _ _ _ h => h) (by kernel_rfl) ?_ (by assumption) ?_; rotate_left; (focus (intro w hSw; (try dsimp only at hSw); simp only [List.getElem?_toArray, List.getElem?_cons_zero, List.getElem?_cons_succ, Option.map_some, Option.some.injEq]; go_simp; (first | done | with_reducible rfl))); (try simp only [Act.put, List.setIfInBounds_toArray, List.set_cons_zero, List.set_cons_succ]))
  refine lin_take 9 (some 15) (v := .agg r.cells) (by kernel_rfl) (by kernel_rfl) (by kernel_rfl) (by kernel_rfl) (fun _ _ _ h => h) (by kernel_rfl) (fun w' hSw => ?_) (by assumption) ?_
  ·simp only [List.getElem?_toArray, List.getElem?_cons_zero, List.getElem?_cons_succ, Option.map_some, Option.some.injEq]
   exact exec_load rfl rfl (LR w' hSw)
  try simp only [Act.put, List.setIfInBounds_toArray, List.set_cons_zero, List.set_cons_succ]
  refine lin_take 11 (some 17) (v := .agg r.cells) (by kernel_rfl) (by kernel_rfl) (by kernel_rfl) (by kernel_rfl) (fun _ _ _ h => h) (by kernel_rfl) (fun w' hSw => ?_) (by assumption) ?_
  ·simp only [List.getElem?_toArray, List.getElem?_cons_zero, List.getElem?_cons_succ, Option.map_some, Option.some.injEq]
   exact exec_load rfl rfl (LR w' hSw)
  try simp only [Act.put, List.setIfInBounds_toArray, List.set_cons_zero, List.set_cons_succ]
  refine wpAnyH_ready (rs := [10]) (by kernel_rfl) (by simp) ?_
  refine AllReadyH.cons (i := 10) rfl (fun K hK => ?_) AllReadyH.nil
  go_simp
  refine Calls.mono (hon.out _ (by assumption)) ?_
  rintro e u1 ⟨rfl, hgm⟩
  go_wp2_with fail
  refine hK.out _ _ (hgm.keep (by assumption)) (fun hHeld => ?_)
  clear hK K
  try simp only [Act.put, List.setIfInBounds_toArray, List.set_cons_zero, List.set_cons_succ]
  have hu1 : G W0 u1 := by assumption
  refine wpAnyH_ready (rs := [12]) (by kernel_rfl) (by simp) ?_
  refine AllReadyH.cons (i := 12) rfl (fun K hK => ?_) AllReadyH.nil
  go_simp
  refine Calls.mono (hsa.out _ (by assumption)) ?_
  rintro e u2 ⟨rfl, hgn⟩
  go_wp2_with fail
  refine hK.out _ _ (hgn.keep (by assumption)) (fun hHeld => ?_)
  clear hK K
  try simp only [Act.put, List.setIfInBounds_toArray, List.set_cons_zero, List.set_cons_succ]
  have hu2 : G W0 u2 := by assumption
  clear hu1 hgm hgn
  iterate 3 (refine lin_n (by rfl) (v := ?_) (by kernel_rfl) (by exact fun _ _ _ h => h) (by kernel_rfl) ?_ (by assumption) ?_; rotate_left; (focus (intro w hSw; (try dsimp only at hSw); simp only [List.getElem?_toArray, List.getElem?_cons_zero, List.getElem?_cons_succ, Option.map_some, Option.some.injEq]; go_simp; (first | done | with_reducible rfl))); (try simp only [Act.put, List.setIfInBounds_toArray, List.set_cons_zero, List.set_cons_succ]))
  iterate 4 (refine lin_p (by rfl) (by kernel_rfl) (by exact fun _ _ _ h => h) (by kernel_rfl) (by assumption) ?_; (try simp only [Act.put, List.setIfInBounds_toArray, List.set_cons_zero, List.set_cons_succ]))
  iterate 2 (refine lin_n (by rfl) (v := ?_) (by kernel_rfl) (by exact fun _ _ _ h => h) (by kernel_rfl) ?_ (by assumption) ?_; rotate_left; (focus (intro w hSw; (try dsimp only at hSw); simp only [List.getElem?_toArray, List.getElem?_cons_zero, List.getElem?_cons_succ, Option.map_some, Option.some.injEq]; go_simp; (first | done | with_reducible rfl))); (try simp only [Act.put, List.setIfInBounds_toArray, List.set_cons_zero, List.set_cons_succ]))
  iterate 4 (refine lin_p (by rfl) (by kernel_rfl) (by exact fun _ _ _ h => h) (by kernel_rfl) (by assumption) ?_; (try simp only [Act.put, List.setIfInBounds_toArray, List.set_cons_zero, List.set_cons_succ]))
  iterate 2 (refine lin_n (by rfl) (v := ?_) (by kernel_rfl) (by exact fun _ _ _ h => h) (by kernel_rfl) ?_ (by assumption) ?_; rotate_left; (focus (intro w hSw; (try dsimp only at hSw); simp only [List.getElem?_toArray, List.getElem?_cons_zero, List.getElem?_cons_succ, Option.map_some, Option.some.injEq]; go_simp; (first | done | with_reducible rfl))); (try simp only [Act.put, List.setIfInBounds_toArray, List.set_cons_zero, List.set_cons_succ]))
  iterate 4 (refine lin_p (by rfl) (by kernel_rfl) (by exact fun _ _ _ h => h) (by kernel_rfl) (by assumption) ?_; (try simp only [Act.put, List.setIfInBounds_toArray, List.set_cons_zero, List.set_cons_succ]))
  iterate 1 (refine lin_n (by rfl) (v := ?_) (by kernel_rfl) (by exact fun _ _ _ h => h) (by kernel_rfl) ?_ (by assumption) ?_; rotate_left; (focus (intro w hSw; (try dsimp only at hSw); simp only [List.getElem?_toArray, List.getElem?_cons_zero, List.getElem?_cons_succ, Option.map_some, Option.some.injEq]; go_simp; (first | done | with_reducible rfl))); (try simp only [Act.put, List.setIfInBounds_toArray, List.set_cons_zero, List.set_cons_succ]))
  refine wpAnyH_done (by kernel_rfl) ?_ _
  have hge : G W0 u2 := by assumption
  go_wp2_with fail
  go_ret
  exact ⟨rfl, hg0.trans hge⟩
 | true =>
 rw [hsp] at hsa hbad
 cases hss : stOk r.st with
 | false =>
  rw [hss] at hso
  clear hbad hsp hk hss
  go_enter Tryz.func39, Tryz.ntmps39
  go_upto_region 1 with fail
  generalize w.alloc (.cells r.cells 36) = W0 at *
  refine wp_region_held_drew (S := fun w' => G W0 w') (by kernel_rfl) ((G.refl _).drew) (fun hHeld => ?_)
  iterate 9 (refine lin_n (by rfl) (v := ?_) (by kernel_rfl) (by exact fun _ _ _ h => h) (by kernel_rfl) ?_ (by assumption) ?_; rotate_left; (focus (intro w hSw; (try dsimp only at hSw); simp only [List.getElem?_toArray, List.getElem?_cons_zero, List.getElem?_cons_succ, Option.map_some, Option.some.injEq]; go_simp; (first | done | with_reducible rfl))); (try simp only [Act.put, List.setIfInBounds_toArray, List.set_cons_zero, List.set_cons_succ]))
  refine lin_take 9 (some 15) (v := .agg r.cells) (by kernel_rfl) (by kernel_rfl) (by kernel_rfl) (by kernel_rfl) (fun _ _ _ h => h) (by kernel_rfl) (fun w' hSw => ?_) (by assumption) ?_
  ·simp only [List.getElem?_toArray, List.getElem?_cons_zero, List.getElem?_cons_succ, Option.map_some, Option.some.injEq]
   exact exec_load rfl rfl (LR w' hSw)
  try simp only [Act.put, List.setIfInBounds_toArray, List.set_cons_zero, List.set_cons_succ]
  refine lin_take 11 (some 17) (v := .agg r.cells) (by kernel_rfl) (by kernel_rfl) (by kernel_rfl) (by kernel_rfl) (fun _ _ _ h => h) (by kernel_rfl) (fun w' hSw => ?_) (by assumption) ?_
  ·simp only [List.getElem?_toArray, List.getElem?_cons_zero, List.getElem?_cons_succ, Option.map_some, Option.some.injEq]
   exact exec_load rfl rfl (LR w' hSw)
  try simp only [Act.put, List.setIfInBounds_toArray, List.set_cons_zero, List.set_cons_succ]
  refine wpAnyH_ready (rs := [10]) (by kernel_rfl) (by simp) ?_
  refine AllReadyH.cons (i := 10) rfl (fun K hK => ?_) AllReadyH.nil
  go_simp
  refine Calls.mono (hon.out _ (by assumption)) ?_
  rintro e u1 ⟨rfl, hgm⟩
  go_wp2_with fail
  refine hK.out _ _ (hgm.keep (by assumption)) (fun hHeld => ?_)
  clear hK K
  try simp only [Act.put, List.setIfInBounds_toArray, List.set_cons_zero, List.set_cons_succ]
  have hu1 : G W0 u1 := by assumption
  refine wpAnyH_ready (rs := [12]) (by kernel_rfl) (by simp) ?_
  refine AllReadyH.cons (i := 12) rfl (fun K hK => ?_) AllReadyH.nil
  go_simp
  refine Calls.mono (hsa.out _ (by assumption)) ?_
  rintro e u2 ⟨rfl, hgn⟩
  go_wp2_with fail
  refine hK.out _ _ (hgn.keep (by assumption)) (fun hHeld => ?_)
  clear hK K
  try simp only [Act.put, List.setIfInBounds_toArray, List.set_cons_zero, List.set_cons_succ]
  have hu2 : G W0 u2 := by assumption
  clear hu1 hgm hgn
  iterate 3 (refine lin_n (by rfl) (v := ?_) (by kernel_rfl) (by exact fun _ _ _ h => h) (by kernel_rfl) ?_ (by assumption) ?_; rotate_left; (focus (intro w hSw; (try dsimp only at hSw); simp only [List.getElem?_toArray, List.getElem?_cons_zero, List.getElem?_cons_succ, Option.map_some, Option.some.injEq]; go_simp; (first | done | with_reducible rfl))); (try simp only [Act.put, List.setIfInBounds_toArray, List.set_cons_zero, List.set_cons_succ]))
  iterate 2 (refine lin_n (by rfl) (v := ?_) (by kernel_rfl) (by exact fun _ _ _ h => h) (by kernel_rfl) ?_ (by assumption) ?_; rotate_left; (focus (intro w hSw; (try dsimp only at hSw); simp only [List.getElem?_toArray, List.getElem?_cons_zero, List.getElem?_cons_succ, Option.map_some, Option.some.injEq]; go_simp; (first | done | with_reducible rfl))); (try simp only [Act.put, List.setIfInBounds_toArray, List.set_cons_zero, List.set_cons_succ]))
  refine wpAnyH_ready (rs := [18]) (by kernel_rfl) (by simp) ?_
  refine AllReadyH.cons (i := 18) rfl (fun K hK => ?_) AllReadyH.nil
  go_simp
  refine Calls.mono (hso.out _ (by assumption)) ?_
  rintro e u3 ⟨rfl, hgo⟩
  go_wp2_with fail
  refine hK.out _ _ (hgo.keep (by assumption)) (fun hHeld => ?_)
  clear hK K
  try simp only [Act.put, List.setIfInBounds_toArray, List.set_cons_zero, List.set_cons_succ]
  have hu3 : G W0 u3 := by assumption
  clear hu2 hgo
  iterate 3 (refine lin_n (by rfl) (v := ?_) (by kernel_rfl) (by exact fun _ _ _ h => h) (by kernel_rfl) ?_ (by assumption) ?_; rotate_left; (focus (intro w hSw; (try dsimp only at hSw); simp only [List.getElem?_toArray, List.getElem?_cons_zero, List.getElem?_cons_succ, Option.map_some, Option.some.injEq]; go_simp; (first | done | with_reducible rfl))); (try simp only [Act.put, List.setIfInBounds_toArray, List.set_cons_zero, List.set_cons_succ]))
  iterate 4 (refine lin_p (by rfl) (by kernel_rfl) (by exact fun _ _ _ h => h) (by kernel_rfl) (by assumption) ?_; (try simp only [Act.put, List.setIfInBounds_toArray, List.set_cons_zero, List.set_cons_succ]))
  iterate 2 (refine lin_n (by rfl) (v := ?_) (by kernel_rfl) (by exact fun _ _ _ h => h) (by kernel_rfl) ?_ (by assumption) ?_; rotate_left; (focus (intro w hSw; (try dsimp only at hSw); simp only [List.getElem?_toArray, List.getElem?_cons_zero, List.getElem?_cons_succ, Option.map_some, Option.some.injEq]; go_simp; (first | done | with_reducible rfl))); (try simp only [Act.put, List.setIfInBounds_toArray, List.set_cons_zero, List.set_cons_succ]))
  iterate 4 (refine lin_p (by rfl) (by kernel_rfl) (by exact fun _ _ _ h => h) (by kernel_rfl) (by assumption) ?_; (try simp only [Act.put, List.setIfInBounds_toArray, List.set_cons_zero, List.set_cons_succ]))
  iterate 1 (refine lin_n (by rfl) (v := ?_) (by kernel_rfl) (by exact fun _ _ _ h => h) (by kernel_rfl) ?_ (by assumption) ?_; rotate_left; (focus (intro w hSw; (try dsimp only at hSw); simp only [List.getElem?_toArray, List.getElem?_cons_zero, List.getElem?_cons_succ, Option.map_some, Option.some.injEq]; go_simp; (first | done | with_reducible rfl))); (try simp only [Act.put, List.setIfInBounds_toArray, List.set_cons_zero, List.set_cons_succ]))
  refine wpAnyH_done (by kernel_rfl) ?_ _
  have hge : G W0 u3 := by assumption
  go_wp2_with fail
  go_ret
  exact ⟨rfl, hg0.trans hge⟩
 | true =>
 rw [hss] at hso hbad
 by_cases h3 : 1000 < r.nodes.length
 ·have t3 : decide (1000 < (r.nodes.length : Int)) = true := decide_eq_true (by omega)
  clear hbad hsp hk hss
  go_enter Tryz.func39, Tryz.ntmps39
  go_upto_region 1 with fail
  generalize w.alloc (.cells r.cells 36) = W0 at *
  refine wp_region_held_drew (S := fun w' => G W0 w') (by kernel_rfl) ((G.refl _).drew) (fun hHeld => ?_)
  iterate 9 (refine lin_n (by rfl) (v := ?_) (by kernel_rfl) (by exact fun _ _ _ h => h) (by kernel_rfl) ?_ (by assumption) ?_; rotate_left; (focus (intro w hSw; (try dsimp only at hSw); simp only [List.getElem?_toArray, List.getElem?_cons_zero, List.getElem?_cons_succ, Option.map_some, Option.some.injEq]; go_simp; (first | done | with_reducible rfl))); (try simp only [Act.put, List.setIfInBounds_toArray, List.set_cons_zero, List.set_cons_succ]))
  refine lin_take 9 (some 15) (v := .agg r.cells) (by kernel_rfl) (by kernel_rfl) (by kernel_rfl) (by kernel_rfl) (fun _ _ _ h => h) (by kernel_rfl) (fun w' hSw => ?_) (by assumption) ?_
  ·simp only [List.getElem?_toArray, List.getElem?_cons_zero, List.getElem?_cons_succ, Option.map_some, Option.some.injEq]
   exact exec_load rfl rfl (LR w' hSw)
  try simp only [Act.put, List.setIfInBounds_toArray, List.set_cons_zero, List.set_cons_succ]
  refine lin_take 11 (some 17) (v := .agg r.cells) (by kernel_rfl) (by kernel_rfl) (by kernel_rfl) (by kernel_rfl) (fun _ _ _ h => h) (by kernel_rfl) (fun w' hSw => ?_) (by assumption) ?_
  ·simp only [List.getElem?_toArray, List.getElem?_cons_zero, List.getElem?_cons_succ, Option.map_some, Option.some.injEq]
   exact exec_load rfl rfl (LR w' hSw)
  try simp only [Act.put, List.setIfInBounds_toArray, List.set_cons_zero, List.set_cons_succ]
  refine wpAnyH_ready (rs := [10]) (by kernel_rfl) (by simp) ?_
  refine AllReadyH.cons (i := 10) rfl (fun K hK => ?_) AllReadyH.nil
  go_simp
  refine Calls.mono (hon.out _ (by assumption)) ?_
  rintro e u1 ⟨rfl, hgm⟩
  go_wp2_with fail
  refine hK.out _ _ (hgm.keep (by assumption)) (fun hHeld => ?_)
  clear hK K
  try simp only [Act.put, List.setIfInBounds_toArray, List.set_cons_zero, List.set_cons_succ]
  have hu1 : G W0 u1 := by assumption
  refine wpAnyH_ready (rs := [12]) (by kernel_rfl) (by simp) ?_
  refine AllReadyH.cons (i := 12) rfl (fun K hK => ?_) AllReadyH.nil
  go_simp
  refine Calls.mono (hsa.out _ (by assumption)) ?_
  rintro e u2 ⟨rfl, hgn⟩
  go_wp2_with fail
  refine hK.out _ _ (hgn.keep (by assumption)) (fun hHeld => ?_)
  clear hK K
  try simp only [Act.put, List.setIfInBounds_toArray, List.set_cons_zero, List.set_cons_succ]
  have hu2 : G W0 u2 := by assumption
  clear hu1 hgm hgn
  iterate 3 (refine lin_n (by rfl) (v := ?_) (by kernel_rfl) (by exact fun _ _ _ h => h) (by kernel_rfl) ?_ (by assumption) ?_; rotate_left; (focus (intro w hSw; (try dsimp only at hSw); simp only [List.getElem?_toArray, List.getElem?_cons_zero, List.getElem?_cons_succ, Option.map_some, Option.some.injEq]; go_simp; (first | done | with_reducible rfl))); (try simp only [Act.put, List.setIfInBounds_toArray, List.set_cons_zero, List.set_cons_succ]))
  iterate 2 (refine lin_n (by rfl) (v := ?_) (by kernel_rfl) (by exact fun _ _ _ h => h) (by kernel_rfl) ?_ (by assumption) ?_; rotate_left; (focus (intro w hSw; (try dsimp only at hSw); simp only [List.getElem?_toArray, List.getElem?_cons_zero, List.getElem?_cons_succ, Option.map_some, Option.some.injEq]; go_simp; (first | done | with_reducible rfl))); (try simp only [Act.put, List.setIfInBounds_toArray, List.set_cons_zero, List.set_cons_succ]))
  refine wpAnyH_ready (rs := [18]) (by kernel_rfl) (by simp) ?_
  refine AllReadyH.cons (i := 18) rfl (fun K hK => ?_) AllReadyH.nil
  go_simp
  refine Calls.mono (hso.out _ (by assumption)) ?_
  rintro e u3 ⟨rfl, hgo⟩
  go_wp2_with fail
  refine hK.out _ _ (hgo.keep (by assumption)) (fun hHeld => ?_)
  clear hK K
  try simp only [Act.put, List.setIfInBounds_toArray, List.set_cons_zero, List.set_cons_succ]
  have hu3 : G W0 u3 := by assumption
  clear hu2 hgo
  iterate 3 (refine lin_n (by rfl) (v := ?_) (by kernel_rfl) (by exact fun _ _ _ h => h) (by kernel_rfl) ?_ (by assumption) ?_; rotate_left; (focus (intro w hSw; (try dsimp only at hSw); simp only [List.getElem?_toArray, List.getElem?_cons_zero, List.getElem?_cons_succ, Option.map_some, Option.some.injEq]; go_simp; (first | done | with_reducible rfl))); (try simp only [Act.put, List.setIfInBounds_toArray, List.set_cons_zero, List.set_cons_succ]))
  iterate 6 (refine lin_n (by rfl) (v := ?_) (by kernel_rfl) (by exact fun _ _ _ h => h) (by kernel_rfl) ?_ (by assumption) ?_; rotate_left; (focus (intro w hSw; (try dsimp only at hSw); simp only [List.getElem?_toArray, List.getElem?_cons_zero, List.getElem?_cons_succ, Option.map_some, Option.some.injEq]; go_simp; (first | done | with_reducible rfl))); (try simp only [Act.put, List.setIfInBounds_toArray, List.set_cons_zero, List.set_cons_succ]))
  iterate 4 (refine lin_p (by rfl) (by kernel_rfl) (by exact fun _ _ _ h => h) (by kernel_rfl) (by assumption) ?_; (try simp only [Act.put, List.setIfInBounds_toArray, List.set_cons_zero, List.set_cons_succ]))
  iterate 1 (refine lin_n (by rfl) (v := ?_) (by kernel_rfl) (by exact fun _ _ _ h => h) (by kernel_rfl) ?_ (by assumption) ?_; rotate_left; (focus (intro w hSw; (try dsimp only at hSw); simp only [List.getElem?_toArray, List.getElem?_cons_zero, List.getElem?_cons_succ, Option.map_some, Option.some.injEq]; go_simp; (first | done | with_reducible rfl))); (try simp only [Act.put, List.setIfInBounds_toArray, List.set_cons_zero, List.set_cons_succ]))
  refine wpAnyH_done (by kernel_rfl) ?_ _
  have hge : G W0 u3 := by assumption
  go_wp2_with fail
  go_ret
  exact ⟨rfl, hg0.trans hge⟩
 have t3 : decide (1000 < (r.nodes.length : Int)) = false := decide_eq_false (by omega)
 by_cases h4 : 1000 < r.sms.length
 ·have t4 : decide (1000 < (r.sms.length : Int)) = true := decide_eq_true (by omega)
  clear hbad hsp hk hss
  go_enter Tryz.func39, Tryz.ntmps39
  go_upto_region 1 with fail
  generalize w.alloc (.cells r.cells 36) = W0 at *
  refine wp_region_held_drew (S := fun w' => G W0 w') (by kernel_rfl) ((G.refl _).drew) (fun hHeld => ?_)
  iterate 9 (refine lin_n (by rfl) (v := ?_) (by kernel_rfl) (by exact fun _ _ _ h => h) (by kernel_rfl) ?_ (by assumption) ?_; rotate_left; (focus (intro w hSw; (try dsimp only at hSw); simp only [List.getElem?_toArray, List.getElem?_cons_zero, List.getElem?_cons_succ, Option.map_some, Option.some.injEq]; go_simp; (first | done | with_reducible rfl))); (try simp only [Act.put, List.setIfInBounds_toArray, List.set_cons_zero, List.set_cons_succ]))
  refine lin_take 9 (some 15) (v := .agg r.cells) (by kernel_rfl) (by kernel_rfl) (by kernel_rfl) (by kernel_rfl) (fun _ _ _ h => h) (by kernel_rfl) (fun w' hSw => ?_) (by assumption) ?_
  ·simp only [List.getElem?_toArray, List.getElem?_cons_zero, List.getElem?_cons_succ, Option.map_some, Option.some.injEq]
   exact exec_load rfl rfl (LR w' hSw)
  try simp only [Act.put, List.setIfInBounds_toArray, List.set_cons_zero, List.set_cons_succ]
  refine lin_take 11 (some 17) (v := .agg r.cells) (by kernel_rfl) (by kernel_rfl) (by kernel_rfl) (by kernel_rfl) (fun _ _ _ h => h) (by kernel_rfl) (fun w' hSw => ?_) (by assumption) ?_
  ·simp only [List.getElem?_toArray, List.getElem?_cons_zero, List.getElem?_cons_succ, Option.map_some, Option.some.injEq]
   exact exec_load rfl rfl (LR w' hSw)
  try simp only [Act.put, List.setIfInBounds_toArray, List.set_cons_zero, List.set_cons_succ]
  refine wpAnyH_ready (rs := [10]) (by kernel_rfl) (by simp) ?_
  refine AllReadyH.cons (i := 10) rfl (fun K hK => ?_) AllReadyH.nil
  go_simp
  refine Calls.mono (hon.out _ (by assumption)) ?_
  rintro e u1 ⟨rfl, hgm⟩
  go_wp2_with fail
  refine hK.out _ _ (hgm.keep (by assumption)) (fun hHeld => ?_)
  clear hK K
  try simp only [Act.put, List.setIfInBounds_toArray, List.set_cons_zero, List.set_cons_succ]
  have hu1 : G W0 u1 := by assumption
  refine wpAnyH_ready (rs := [12]) (by kernel_rfl) (by simp) ?_
  refine AllReadyH.cons (i := 12) rfl (fun K hK => ?_) AllReadyH.nil
  go_simp
  refine Calls.mono (hsa.out _ (by assumption)) ?_
  rintro e u2 ⟨rfl, hgn⟩
  go_wp2_with fail
  refine hK.out _ _ (hgn.keep (by assumption)) (fun hHeld => ?_)
  clear hK K
  try simp only [Act.put, List.setIfInBounds_toArray, List.set_cons_zero, List.set_cons_succ]
  have hu2 : G W0 u2 := by assumption
  clear hu1 hgm hgn
  iterate 3 (refine lin_n (by rfl) (v := ?_) (by kernel_rfl) (by exact fun _ _ _ h => h) (by kernel_rfl) ?_ (by assumption) ?_; rotate_left; (focus (intro w hSw; (try dsimp only at hSw); simp only [List.getElem?_toArray, List.getElem?_cons_zero, List.getElem?_cons_succ, Option.map_some, Option.some.injEq]; go_simp; (first | done | with_reducible rfl))); (try simp only [Act.put, List.setIfInBounds_toArray, List.set_cons_zero, List.set_cons_succ]))
  iterate 2 (refine lin_n (by rfl) (v := ?_) (by kernel_rfl) (by exact fun _ _ _ h => h) (by kernel_rfl) ?_ (by assumption) ?_; rotate_left; (focus (intro w hSw; (try dsimp only at hSw); simp only [List.getElem?_toArray, List.getElem?_cons_zero, List.getElem?_cons_succ, Option.map_some, Option.some.injEq]; go_simp; (first | done | with_reducible rfl))); (try simp only [Act.put, List.setIfInBounds_toArray, List.set_cons_zero, List.set_cons_succ]))
  refine wpAnyH_ready (rs := [18]) (by kernel_rfl) (by simp) ?_
  refine AllReadyH.cons (i := 18) rfl (fun K hK => ?_) AllReadyH.nil
  go_simp
  refine Calls.mono (hso.out _ (by assumption)) ?_
  rintro e u3 ⟨rfl, hgo⟩
  go_wp2_with fail
  refine hK.out _ _ (hgo.keep (by assumption)) (fun hHeld => ?_)
  clear hK K
  try simp only [Act.put, List.setIfInBounds_toArray, List.set_cons_zero, List.set_cons_succ]
  have hu3 : G W0 u3 := by assumption
  clear hu2 hgo
  iterate 3 (refine lin_n (by rfl) (v := ?_) (by kernel_rfl) (by exact fun _ _ _ h => h) (by kernel_rfl) ?_ (by assumption) ?_; rotate_left; (focus (intro w hSw; (try dsimp only at hSw); simp only [List.getElem?_toArray, List.getElem?_cons_zero, List.getElem?_cons_succ, Option.map_some, Option.some.injEq]; go_simp; (first | done | with_reducible rfl))); (try simp only [Act.put, List.setIfInBounds_toArray, List.set_cons_zero, List.set_cons_succ]))
  iterate 11 (refine lin_n (by rfl) (v := ?_) (by kernel_rfl) (by exact fun _ _ _ h => h) (by kernel_rfl) ?_ (by assumption) ?_; rotate_left; (focus (intro w hSw; (try dsimp only at hSw); simp only [List.getElem?_toArray, List.getElem?_cons_zero, List.getElem?_cons_succ, Option.map_some, Option.some.injEq]; go_simp; (first | done | with_reducible rfl))); (try simp only [Act.put, List.setIfInBounds_toArray, List.set_cons_zero, List.set_cons_succ]))
  refine wpAnyH_done (by kernel_rfl) ?_ _
  have hge : G W0 u3 := by assumption
  go_wp2_with fail
  go_ret
  exact ⟨rfl, hg0.trans hge⟩
 ·exfalso
  rw [decide_eq_true (show r.nodes.length ≤ 1000 by omega), decide_eq_true (show r.sms.length ≤ 1000 by omega)] at hbad
  cases hbad
end Go.Proofs.YthafeaclpcjjbaaGreatDoor

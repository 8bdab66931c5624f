/- penstocklaw12.RecCodes: the walk. Condition: the decoder's tables lie as the library lays them. -/
import Derived.Test.YthafeaclpcjjbaaDoorM48RecCodes
import Derived.Test.YthafeaclpcjjbaaDoorM49RecCodes
namespace Go.Proofs.YthafeaclpcjjbaaDoor
open Go.RowKit

theorem encR_len {r : RecM} (hs : r.Small) : (((encR r.p).getD [] : List UInt8)).length ≤ 1099511627776 := by
  rw [encR_eq]
  cases hc : chkR r.p with
  | false => simp [opt]
  | true =>
    have fn := fine_of hc
    have h1 := nLs_len [r.x1, r.x2, r.x3]
    have h2 := nLs_len [r.z1, r.z2, r.z3, r.z4]
    have h3 := nL_len r.n
    have h4 := nL_len r.dst
    have h5 := nLs_len r.nodes
    have h6 := fn.nodesL
    have h7 := vL_len r.nodes.length
    have h8 := stL_len r.st
    have h9 := hs.bat
    have h10 := flatLe smL 500000 (r.sms.map SmM.sm) fun m hm => by
      obtain ⟨s, hs', rfl⟩ := List.mem_map.1 hm
      exact (hs.sms s hs').2
    have h11 := vL_len (r.sms.map SmM.sm).length
    have h12 := fn.smsL
    rw [List.length_map] at h10 h11
    have h13 : ([if r.yes = true then 1 else 0] : List UInt8).length = 1 := rfl
    have h14 : ([UInt8.ofNat r.kind.toNat] : List UInt8).length = 1 := rfl
    rw [show [r.x1, r.x2, r.x3].length = 3 from rfl] at h1
    rw [show [r.z1, r.z2, r.z3, r.z4].length = 4 from rfl] at h2
    show (docR r.p).length ≤ _
    unfold docR RecM.p
    dsimp only
    repeat' split
    all_goals (simp only [List.length_append, List.length_map, List.length_cons, List.length_nil]; omega)
set_option maxRecDepth 100000 in
set_option maxHeartbeats 8000000 in
theorem recCodes_walk (r : RecM) (w : World) (hin : r.In w) (hi : r.I64) (hT : Tabs w) :
    Calls Tryd.prog 4 #[.agg r.cells] w fun e w' => e = .returned (.bool true) ∧ G w w' := by
  have hg0 := G.new w (.cells r.cells 37)
  have hB0 := blk_new w r.cells 37
  have LR0 := load_blk (P := Tryd.prog) (T := 37) hB0 Tryd.underlying37 rfl (by kernel_rfl)
  have hIn : ∀ w', G w w' → r.In w' := fun w' hg => ⟨(hin.1.g (Nat.le_refl _) hg).more hg.size, PutsIn.more (hin.2.1.g (Nat.le_refl _) hg) hg.size, SmsIn.more (hin.2.2.g (Nat.le_refl _) hg) hg.size⟩
  have hal := alikeRec_any r (w.alloc (.cells r.cells 37)) (hIn _ hg0) hi
  have haw := fun (w' : World) (hg : G w w') => awake12_any w' (hT.g hg)
  obtain ⟨T, hTo⟩ : ∃ T, recBulk r = T := ⟨_, rfl⟩
  rw [hTo] at hal
  by_cases hbig : T ≤ 6000
  · have hok := rec_small hi (by rw [hTo]; exact hbig)
    have t1 : decide (6000 < T) = false := decide_eq_false (by omega)
    have hc1 : ∀ w', G w w' → Calls Tryd.prog 10 #[.agg r.cells] w' (RetEnc 1 w' (encR r.p)) := fun w' hg => recEnc_any r w' (hIn w' hg) hok (hT.g hg)
    have hc2 : ∀ w', G w w' → Calls Tryd.prog 11 #[.agg r.cells] w' (RetEnc 1 w' (encR r.p)) := fun w' hg => refEncR_any r w' (hIn w' hg) hok (hT.g hg)
    have hk1 : ∀ w', G w w' → Calls Tryd.prog 12 #[.agg r.cells] w' fun e w'' => e = .returned (.int .i64 (codeO 1 (encR r.p))) ∧ G w' w'' := fun w' hg => recCheck_any r w' (hIn w' hg) hok (hT.g hg)
    have hk2 : ∀ w', G w w' → Calls Tryd.prog 13 #[.agg r.cells] w' fun e w'' => e = .returned (.int .i64 (codeO 1 (encR r.p))) ∧ G w' w'' := fun w' hg => by
      have h := refChk_any r w' (hIn w' hg) hok (hT.g hg)
      rw [encR_eq]
      cases hc : chkR r.p <;> (rw [hc] at h; exact h)
    have hkI := hi.kind
    have hlen := encR_len hok
    obtain ⟨o, ho⟩ : ∃ o, encR r.p = o := ⟨_, rfl⟩
    rw [ho] at hc1 hc2 hk1 hk2 hlen
    obtain ⟨l, hl⟩ : ∃ l, (o.getD [] : List UInt8) = l := ⟨_, rfl⟩
    have hc1' : ∀ w', G w w' → Calls Tryd.prog 10 #[.agg r.cells] w' (fun e w'' => ∃ A c, e = .returned (.tuple #[.slice A l.length c, .int .i64 (codeO 1 o)]) ∧ OwnL 5 1 byteC w'' w'.heap.size (.slice A l.length c) l ∧ G w' w'') := fun w' hg => by have h := hc1 w' hg; unfold RetEnc at h; rw [hl] at h; exact h
    have hc2' : ∀ w', G w w' → Calls Tryd.prog 11 #[.agg r.cells] w' (fun e w'' => ∃ A c, e = .returned (.tuple #[.slice A l.length c, .int .i64 (codeO 1 o)]) ∧ OwnL 5 1 byteC w'' w'.heap.size (.slice A l.length c) l ∧ G w' w'') := fun w' hg => by have h := hc2 w' hg; unfold RetEnc at h; rw [hl] at h; exact h
    rw [hl] at hlen
    generalize codeO 1 o = cd at *
    clear hc1 hc2 ho hl hin hIn
    replace hTo := Lib.hid hTo
    replace hT := Lib.hid hT
    replace hi := Lib.hid hi
    replace hok := Lib.hid hok
    replace hc1' := Lib.hid hc1'
    replace hc2' := Lib.hid hc2'
    replace hk1 := Lib.hid hk1
    replace hk2 := Lib.hid hk2
    replace haw := Lib.hid haw
    replace hal := Lib.hid hal
    go_enter Tryd.func4, Tryd.ntmps4
    go_upto_region 1 with fail
    generalize w.alloc (.cells r.cells 37) = W0 at *
    go_upto_region 3 with (first | (refine wpList_load_at rfl (by kernel_rfl) (p := .pointer (some ⟨_, 0, none⟩)) rfl LR0 ?_) | (go_at_call 9; refine Calls.mono hal.out ?_; rintro e w1 ⟨rfl, hg1⟩))
    clear LR0 hal
    have hG1 := hg0.trans hg1
    have B1 := hg1.blk hB0
    have LR1 := load_blk (P := Tryd.prog) (T := 37) B1 Tryd.underlying37 rfl (by kernel_rfl)
    replace B1 := Lib.hid B1
    go_upto_region 4 with (first | (refine wpList_load_at rfl (by kernel_rfl) (p := .pointer (some ⟨_, 0, none⟩)) rfl LR1 ?_) | (go_at_call 10; refine Calls.mono (hc1'.out _ hG1) ?_; rintro e w2 ⟨A1, d1, rfl, ho1, hg2⟩))
    clear LR1 hc1'
    have hG2 := hG1.trans hg2
    have B2 := hg2.blk B1.out
    have LR2 := load_blk (P := Tryd.prog) (T := 37) B2 Tryd.underlying37 rfl (by kernel_rfl)
    replace B2 := Lib.hid B2
    replace ho1 := Lib.hid ho1
    go_upto_region 5 with (first | (refine wpList_load_at rfl (by kernel_rfl) (p := .pointer (some ⟨_, 0, none⟩)) rfl LR2 ?_) | (go_at_call 11; refine Calls.mono (hc2'.out _ hG2) ?_; rintro e W5 ⟨A2, d2, rfl, ho2, hg3⟩))
    clear LR2 hc2'
    have hG5 := hG2.trans hg3
    have B5 := hg3.blk B2.out
    have LR : ∀ w', G W5 w' → (Instr.loadAt 37 (.pointer (some ⟨w.heap.size, 0, none⟩))).run Tryd.prog w' = .ok (.agg r.cells) w' := fun w' h => load_blk (h.blk B5) Tryd.underlying37 rfl (by kernel_rfl)
    have q0 : ∀ w', G W5 w' → w'.cell? ⟨w.heap.size, 0, none⟩ = some (.int .i64 r.kind) := fun w' h => (blk_cell (h.blk B5) 0).trans rfl
    have hs1 := (ho1.out.g hg3).self byteC_len
    have hs2 := ho2.self byteC_len
    have hby : ∀ w', G W5 w' → Calls Tryd.prog 14 #[.slice A1 l.length d1, .slice A2 l.length d2] w' fun e w'' => e = .returned (.bool true) ∧ G w' w'' := fun w' h => bytesSelf_any l A1 A2 d1 d2 W5.heap.size w' h.size (hs1.g (Nat.le_refl _) h) (hs2.g (Nat.le_refl _) h) (by omega)
    have hk1' : ∀ w', G W5 w' → Calls Tryd.prog 12 #[.agg r.cells] w' fun e w'' => e = .returned (.int .i64 cd) ∧ G w' w'' := fun w' h => hk1.out w' (hG5.trans h)
    have hk2' : ∀ w', G W5 w' → Calls Tryd.prog 13 #[.agg r.cells] w' fun e w'' => e = .returned (.int .i64 cd) ∧ G w' w'' := fun w' h => hk2.out w' (hG5.trans h)
    have hn1 : ∀ w', G W5 w' → Calls Tryd.prog 7 #[.int .i64 r.kind] w' fun e w'' => e = .returned (.string (nmOf r.kind)) ∧ G w' w'' := fun w' _ => recName_any r.kind w'
    have hn2 : ∀ w', G W5 w' → Calls Tryd.prog 15 #[.int .i64 r.kind] w' fun e w'' => e = .returned (.string (nmOf r.kind)) ∧ G w' w'' := fun w' _ => refRecName_any r.kind w' hkI
    have haw' : ∀ w', G W5 w' → Calls Tryd.prog 8 #[] w' fun e w'' => e = .returned (.bool true) ∧ G w' w'' := fun w' h => haw.out w' (hG5.trans h)
    have hGw : ∀ w', G W5 w' → G w w' := fun w' h => hG5.trans h
    generalize nmOf r.kind = nm at *
    replace LR := Lib.hid LR
    replace hby := Lib.hid hby
    replace hk1 := Lib.hid hk1'
    replace hk2 := Lib.hid hk2'
    replace hn1 := Lib.hid hn1
    replace hn2 := Lib.hid hn2
    replace haw := Lib.hid haw'
    replace hGw := Lib.hid hGw
    clear hk1' hk2' haw' hs1 hs2 ho1 ho2 B5 B2 B1 hB0 hG5 hG2 hG1 hg0 hg1 hg2 hg3 hkI
    refine wp_region_held_drew (S := fun w' => G W5 w') (by kernel_rfl) ((G.refl _).drew) (fun hHeld => ?_)
    refine lin_take 0 (some 21) (v := .agg r.cells) (by kernel_rfl) (by kernel_rfl) (by kernel_rfl) (by kernel_rfl) (fun _ _ _ h => h) (by kernel_rfl) (fun w' hSw => ?_) (by assumption) ?_
    · simp only [List.getElem?_toArray, List.getElem?_cons_zero, Option.map_some, Option.some.injEq]
      exact exec_load rfl rfl (LR.out w' hSw)
    try simp only [Act.put, List.setIfInBounds_toArray, List.set_cons_zero, List.set_cons_succ]
    refine lin_take 2 (some 23) (v := .agg r.cells) (by kernel_rfl) (by kernel_rfl) (by kernel_rfl) (by kernel_rfl) (fun _ _ _ h => h) (by kernel_rfl) (fun w' hSw => ?_) (by assumption) ?_
    · simp only [List.getElem?_toArray, List.getElem?_cons_zero, List.getElem?_cons_succ, Option.map_some, Option.some.injEq]
      exact exec_load rfl rfl (LR.out w' hSw)
    try simp only [Act.put, List.setIfInBounds_toArray, List.set_cons_zero, List.set_cons_succ]
    refine wpAnyH_ready (rs := [1]) (by kernel_rfl) (by simp) ?_
    refine AllReadyH.cons (i := 1) rfl (fun K hK => ?_) AllReadyH.nil
    go_simp
    refine Calls.mono (hk1.out _ (by assumption)) ?_
    rintro e v1 ⟨rfl, hg1'⟩
    go_wp2_with fail
    refine hK.out _ _ (hg1'.keep (by assumption)) (fun hHeld => ?_)
    clear hK K
    try simp only [Act.put, List.setIfInBounds_toArray, List.set_cons_zero, List.set_cons_succ]
    refine wpAnyH_ready (rs := [3]) (by kernel_rfl) (by simp) ?_
    refine AllReadyH.cons (i := 3) rfl (fun K hK => ?_) AllReadyH.nil
    go_simp
    refine Calls.mono (hk2.out _ (by assumption)) ?_
    rintro e v2 ⟨rfl, hg2'⟩
    go_wp2_with fail
    refine hK.out _ _ (hg2'.keep (by assumption)) (fun hHeld => ?_)
    clear hK K
    try simp only [Act.put, List.setIfInBounds_toArray, List.set_cons_zero, List.set_cons_succ]
    refine lin_take 4 (some 25) (v := ?_) (by kernel_rfl) (by kernel_rfl) (by kernel_rfl) (by kernel_rfl) (fun _ _ _ h => h) (by kernel_rfl) ?_ (by assumption) ?_; rotate_left; focus (intro w hSw; (try dsimp only at hSw); simp only [List.getElem?_toArray, List.getElem?_cons_zero, List.getElem?_cons_succ, Option.map_some, Option.some.injEq]; go_simp; (first | done | with_reducible rfl))
    try simp only [Act.put, List.setIfInBounds_toArray, List.set_cons_zero, List.set_cons_succ]
    refine lin_take 5 (some 26) (v := ?_) (by kernel_rfl) (by kernel_rfl) (by kernel_rfl) (by kernel_rfl) (fun _ _ _ h => h) (by kernel_rfl) ?_ (by assumption) ?_; rotate_left; focus (intro w hSw; (try dsimp only at hSw); simp only [List.getElem?_toArray, List.getElem?_cons_zero, List.getElem?_cons_succ, Option.map_some, Option.some.injEq]; go_simp; (first | done | with_reducible rfl))
    try simp only [Act.put, List.setIfInBounds_toArray, List.set_cons_zero, List.set_cons_succ]
    refine lin_take 6 (some 27) (v := ?_) (by kernel_rfl) (by kernel_rfl) (by kernel_rfl) (by kernel_rfl) (fun _ _ _ h => h) (by kernel_rfl) ?_ (by assumption) ?_; rotate_left; focus (intro w hSw; (try dsimp only at hSw); simp only [List.getElem?_toArray, List.getElem?_cons_zero, List.getElem?_cons_succ, Option.map_some, Option.some.injEq]; go_simp; (first | done | with_reducible rfl))
    try simp only [Act.put, List.setIfInBounds_toArray, List.set_cons_zero, List.set_cons_succ]
    refine lin_take 7 (some 28) (v := ?_) (by kernel_rfl) (by kernel_rfl) (by kernel_rfl) (by kernel_rfl) (fun _ _ _ h => h) (by kernel_rfl) ?_ (by assumption) ?_; rotate_left; focus (intro w hSw; (try dsimp only at hSw); simp only [List.getElem?_toArray, List.getElem?_cons_zero, List.getElem?_cons_succ, Option.map_some, Option.some.injEq]; go_simp; (first | done | with_reducible rfl))
    try simp only [Act.put, List.setIfInBounds_toArray, List.set_cons_zero, List.set_cons_succ]
    refine wpAnyH_ready (rs := [8]) (by kernel_rfl) (by simp) ?_
    refine AllReadyH.cons (i := 8) rfl (fun K hK => ?_) AllReadyH.nil
    go_simp
    refine Calls.mono (hby.out _ (by assumption)) ?_
    rintro e v3 ⟨rfl, hg3'⟩
    go_wp2_with fail
    refine hK.out _ _ (hg3'.keep (by assumption)) (fun hHeld => ?_)
    clear hK K
    try simp only [Act.put, List.setIfInBounds_toArray, List.set_cons_zero, List.set_cons_succ]
    refine lin_take 9 (some 30) (v := ?_) (by kernel_rfl) (by kernel_rfl) (by kernel_rfl) (by kernel_rfl) (fun _ _ _ h => h) (by kernel_rfl) ?_ (by assumption) ?_; rotate_left; focus (intro w hSw; (try dsimp only at hSw); simp only [List.getElem?_toArray, List.getElem?_cons_zero, List.getElem?_cons_succ, Option.map_some, Option.some.injEq]; go_simp; (first | done | with_reducible rfl))
    try simp only [Act.put, List.setIfInBounds_toArray, List.set_cons_zero, List.set_cons_succ]
    refine lin_take 10 (some 31) (v := ?_) (by kernel_rfl) (by kernel_rfl) (by kernel_rfl) (by kernel_rfl) (fun _ _ _ h => h) (by kernel_rfl) ?_ (by assumption) ?_; rotate_left; focus (intro w hSw; (try dsimp only at hSw); simp only [List.getElem?_toArray, List.getElem?_cons_zero, List.getElem?_cons_succ, Option.map_some, Option.some.injEq]; go_simp; (first | done | with_reducible rfl))
    try simp only [Act.put, List.setIfInBounds_toArray, List.set_cons_zero, List.set_cons_succ]
    refine lin_take 11 (some 32) (v := ?_) (by kernel_rfl) (by kernel_rfl) (by kernel_rfl) (by kernel_rfl) (fun _ _ _ h => h) (by kernel_rfl) ?_ (by assumption) ?_; rotate_left; focus (intro w hSw; (try dsimp only at hSw); simp only [List.getElem?_toArray, List.getElem?_cons_zero, List.getElem?_cons_succ, Option.map_some, Option.some.injEq]; go_simp; (first | done | with_reducible rfl))
    try simp only [Act.put, List.setIfInBounds_toArray, List.set_cons_zero, List.set_cons_succ]
    refine lin_take 12 (some 33) (v := ?_) (by kernel_rfl) (by kernel_rfl) (by kernel_rfl) (by kernel_rfl) (fun _ _ _ h => h) (by kernel_rfl) ?_ (by assumption) ?_; rotate_left; focus (intro w hSw; (try dsimp only at hSw); simp only [List.getElem?_toArray, List.getElem?_cons_zero, List.getElem?_cons_succ, Option.map_some, Option.some.injEq]; go_simp; (first | done | with_reducible rfl))
    try simp only [Act.put, List.setIfInBounds_toArray, List.set_cons_zero, List.set_cons_succ]
    refine lin_take 13 (some 34) (v := ?_) (by kernel_rfl) (by kernel_rfl) (by kernel_rfl) (by kernel_rfl) (fun _ _ _ h => h) (by kernel_rfl) ?_ (by assumption) ?_; rotate_left; focus (intro w hSw; (try dsimp only at hSw); simp only [List.getElem?_toArray, List.getElem?_cons_zero, List.getElem?_cons_succ, Option.map_some, Option.some.injEq]; go_simp; (first | done | with_reducible rfl))
    try simp only [Act.put, List.setIfInBounds_toArray, List.set_cons_zero, List.set_cons_succ]
    refine lin_take 14 (some 35) (v := ?_) (by kernel_rfl) (by kernel_rfl) (by kernel_rfl) (by kernel_rfl) (fun _ _ _ h => h) (by kernel_rfl) ?_ (by assumption) ?_; rotate_left; focus (intro w hSw; (try dsimp only at hSw); simp only [List.getElem?_toArray, List.getElem?_cons_zero, List.getElem?_cons_succ, Option.map_some, Option.some.injEq]; go_simp; (first | done | with_reducible rfl))
    try simp only [Act.put, List.setIfInBounds_toArray, List.set_cons_zero, List.set_cons_succ]
    refine lin_take 15 (some 36) (v := ?_) (by kernel_rfl) (by kernel_rfl) (by kernel_rfl) (by kernel_rfl) (fun _ _ _ h => h) (by kernel_rfl) ?_ (by assumption) ?_; rotate_left; focus (intro w hSw; (try dsimp only at hSw); simp only [List.getElem?_toArray, List.getElem?_cons_zero, List.getElem?_cons_succ, Option.map_some, Option.some.injEq]; go_simp; (first | done | with_reducible rfl))
    try simp only [Act.put, List.setIfInBounds_toArray, List.set_cons_zero, List.set_cons_succ]
    refine lin_take 16 (some 37) (v := ?_) (by kernel_rfl) (by kernel_rfl) (by kernel_rfl) (by kernel_rfl) (fun _ _ _ h => h) (by kernel_rfl) ?_ (by assumption) ?_; rotate_left; focus (intro w hSw; (try dsimp only at hSw); simp only [List.getElem?_toArray, List.getElem?_cons_zero, List.getElem?_cons_succ, Option.map_some, Option.some.injEq]; go_simp; (first | done | with_reducible rfl))
    try simp only [Act.put, List.setIfInBounds_toArray, List.set_cons_zero, List.set_cons_succ]
    refine lin_take 17 (some 38) (v := ?_) (by kernel_rfl) (by kernel_rfl) (by kernel_rfl) (by kernel_rfl) (fun _ _ _ h => h) (by kernel_rfl) ?_ (by assumption) ?_; rotate_left; focus (intro w hSw; (try dsimp only at hSw); simp only [List.getElem?_toArray, List.getElem?_cons_zero, List.getElem?_cons_succ, Option.map_some, Option.some.injEq]; go_simp; (first | done | with_reducible rfl))
    try simp only [Act.put, List.setIfInBounds_toArray, List.set_cons_zero, List.set_cons_succ]
    refine lin_take 19 (some 40) (v := ?_) (by kernel_rfl) (by kernel_rfl) (by kernel_rfl) (by kernel_rfl) (fun _ _ _ h => h) (by kernel_rfl) ?_ (by assumption) ?_; rotate_left; focus (intro w hSw; (try dsimp only at hSw); simp only [List.getElem?_toArray, List.getElem?_cons_zero, List.getElem?_cons_succ, Option.map_some, Option.some.injEq]; go_simp; (first | done | with_reducible rfl))
    try simp only [Act.put, List.setIfInBounds_toArray, List.set_cons_zero, List.set_cons_succ]
    refine lin_take 20 (some 41) (v := ?_) (by kernel_rfl) (by kernel_rfl) (by kernel_rfl) (by kernel_rfl) (fun _ _ _ h => h) (by kernel_rfl) ?_ (by assumption) ?_; rotate_left; focus (intro w hSw; (try dsimp only at hSw); simp only [List.getElem?_toArray, List.getElem?_cons_zero, List.getElem?_cons_succ, Option.map_some, Option.some.injEq]; go_simp; (first | done | with_reducible rfl))
    try simp only [Act.put, List.setIfInBounds_toArray, List.set_cons_zero, List.set_cons_succ]
    refine wpAnyH_ready (rs := [18]) (by kernel_rfl) (by simp) ?_
    refine AllReadyH.cons (i := 18) rfl (fun K hK => ?_) AllReadyH.nil
    go_simp
    refine Calls.mono (hn1.out _ (by assumption)) ?_
    rintro e v4 ⟨rfl, hg4'⟩
    go_wp2_with fail
    refine hK.out _ _ (hg4'.keep (by assumption)) (fun hHeld => ?_)
    clear hK K
    try simp only [Act.put, List.setIfInBounds_toArray, List.set_cons_zero, List.set_cons_succ]
    refine wpAnyH_ready (rs := [21]) (by kernel_rfl) (by simp) ?_
    refine AllReadyH.cons (i := 21) rfl (fun K hK => ?_) AllReadyH.nil
    go_simp
    refine Calls.mono (hn2.out _ (by assumption)) ?_
    rintro e v5 ⟨rfl, hg5'⟩
    go_wp2_with fail
    refine hK.out _ _ (hg5'.keep (by assumption)) (fun hHeld => ?_)
    clear hK K
    try simp only [Act.put, List.setIfInBounds_toArray, List.set_cons_zero, List.set_cons_succ]
    refine lin_take 22 (some 43) (v := ?_) (by kernel_rfl) (by kernel_rfl) (by kernel_rfl) (by kernel_rfl) (fun _ _ _ h => h) (by kernel_rfl) ?_ (by assumption) ?_; rotate_left; focus (intro w hSw; (try dsimp only at hSw); simp only [List.getElem?_toArray, List.getElem?_cons_zero, List.getElem?_cons_succ, Option.map_some, Option.some.injEq]; go_simp; (first | done | with_reducible rfl))
    try simp only [Act.put, List.setIfInBounds_toArray, List.set_cons_zero, List.set_cons_succ]
    refine lin_take 23 (some 44) (v := ?_) (by kernel_rfl) (by kernel_rfl) (by kernel_rfl) (by kernel_rfl) (fun _ _ _ h => h) (by kernel_rfl) ?_ (by assumption) ?_; rotate_left; focus (intro w hSw; (try dsimp only at hSw); simp only [List.getElem?_toArray, List.getElem?_cons_zero, List.getElem?_cons_succ, Option.map_some, Option.some.injEq]; go_simp; (first | done | with_reducible rfl))
    try simp only [Act.put, List.setIfInBounds_toArray, List.set_cons_zero, List.set_cons_succ]
    refine lin_take 24 (some 45) (v := ?_) (by kernel_rfl) (by kernel_rfl) (by kernel_rfl) (by kernel_rfl) (fun _ _ _ h => h) (by kernel_rfl) ?_ (by assumption) ?_; rotate_left; focus (intro w hSw; (try dsimp only at hSw); simp only [List.getElem?_toArray, List.getElem?_cons_zero, List.getElem?_cons_succ, Option.map_some, Option.some.injEq]; go_simp; (first | done | with_reducible rfl))
    try simp only [Act.put, List.setIfInBounds_toArray, List.set_cons_zero, List.set_cons_succ]
    refine wpAnyH_ready (rs := [25]) (by kernel_rfl) (by simp) ?_
    refine AllReadyH.cons (i := 25) rfl (fun K hK => ?_) AllReadyH.nil
    go_simp
    refine Calls.mono (haw.out _ (by assumption)) ?_
    rintro e v6 ⟨rfl, hg6⟩
    go_wp2_with fail
    refine hK.out _ _ (hg6.keep (by assumption)) (fun hHeld => ?_)
    clear hK K
    try simp only [Act.put, List.setIfInBounds_toArray, List.set_cons_zero, List.set_cons_succ]
    refine lin_take 26 (some 47) (v := ?_) (by kernel_rfl) (by kernel_rfl) (by kernel_rfl) (by kernel_rfl) (fun _ _ _ h => h) (by kernel_rfl) ?_ (by assumption) ?_; rotate_left; focus (intro w hSw; (try dsimp only at hSw); simp only [List.getElem?_toArray, List.getElem?_cons_zero, List.getElem?_cons_succ, Option.map_some, Option.some.injEq]; go_simp; (first | done | with_reducible rfl))
    try simp only [Act.put, List.setIfInBounds_toArray, List.set_cons_zero, List.set_cons_succ]
    refine lin_take 27 (some 2) (v := ?_) (by kernel_rfl) (by kernel_rfl) (by kernel_rfl) (by kernel_rfl) (fun _ _ _ h => h) (by kernel_rfl) ?_ (by assumption) ?_; rotate_left; focus (intro w hSw; (try dsimp only at hSw); simp only [List.getElem?_toArray, List.getElem?_cons_zero, List.getElem?_cons_succ, Option.map_some, Option.some.injEq]; go_simp; (first | done | with_reducible rfl))
    try simp only [Act.put, List.setIfInBounds_toArray, List.set_cons_zero, List.set_cons_succ]
    refine wpAnyH_done (by kernel_rfl) ?_ _
    have hGe : G W5 v6 := by assumption
    go_wp2_with fail
    go_ret
    exact ⟨rfl, hGw.out _ hGe⟩
  · have t1 : decide (6000 < T) = true := decide_eq_true (by omega)
    replace hTo := Lib.hid hTo
    replace hT := Lib.hid hT
    replace hi := Lib.hid hi
    replace hin := Lib.hid hin
    replace hIn := Lib.hid hIn
    replace haw := Lib.hid haw
    replace hal := Lib.hid hal
    replace hB0 := Lib.hid hB0
    go_enter Tryd.func4, Tryd.ntmps4
    go_upto_region 1 with fail
    generalize w.alloc (.cells r.cells 37) = W0 at *
    go_wp2_with (first | (refine wpList_load_at rfl (by kernel_rfl) (p := .pointer (some ⟨_, 0, none⟩)) rfl LR0 ?_) | (go_at_call 9; refine Calls.mono hal.out ?_; rintro e w1 ⟨rfl, hg1⟩) | (go_at_call 8; refine Calls.mono (haw.out _ (hg0.trans hg1)) ?_; rintro e w2 ⟨rfl, hg2⟩))
    go_ret
    exact ⟨rfl, (hg0.trans hg1).trans hg2⟩
end Go.Proofs.YthafeaclpcjjbaaDoor

/- penstocklaw18.HeapPieces returns true for every input and leaves its arguments as they were. No condition. -/
import Derived.Test.YtnenabacbhepdaaPlaces
import Derived.Test.YtnenabacbhepdaaOwnBut
import Derived.Test.YtnenabacbhepdaaReadLogs
import Derived.Test.YtnenabacbhepdaaRows
namespace Go.Proofs.Ytnenabacbhepdaa.heapPieces
open Go.RowKit

theorem evsB_eq {es fs : List Ev} (h : es = fs) : evsB es fs = true := by unfold evsB; exact decide_eq_true h
theorem AllOf.next {ls : List LogM} {st : St} {cu : Cu} {xs ts ps : List Ev} {x : Ev} {n : Nat} (hap : Apart (allEvs ls)) (h : AllOf (mergeF ls st cu) (xs.drop ts.length)) (hts : ts = xs.take ts.length) (hps : ps = (xs.drop ts.length).take n) {m : Nat} (hm : ps.length = m + 1) (hx : ps[m]? = some x) :
    ts ++ ps = xs.take (ts ++ ps).length ∧ AllOf (mergeF ls st (plOf x)) (xs.drop (ts ++ ps).length) ∧ (ts ++ ps).length ≤ xs.length := by
  have hl : ps.length = min n (xs.length - ts.length) := by rw [hps]; simp
  have htl : ts.length = min ts.length xs.length := by
    have := congrArg List.length hts
    simpa using this
  have hd : (xs.drop ts.length)[m]? = some x := by
    rw [hps] at hx
    rw [List.getElem?_take_of_lt (by omega)] at hx
    exact hx
  have hb := h.behind hap hd
  refine ⟨?_, ?_, ?_⟩
  · rw [List.length_append, List.take_add, ← hts]
    congr 1
    rw [hl, hps, List.take_eq_take_min]
    simp
  · rw [List.length_append, hm]
    rw [List.drop_drop] at hb
    exact hb
  · rw [List.length_append]; omega
set_option maxRecDepth 100000 in
set_option maxHeartbeats 4000000 in
theorem walk (ls : List LogM) (A A2 : Option Addr) (c c2 : Nat) (ax ay az : Int) (sizes : List Int) (w : World) (hl : ls.length ≤ 9223372036854775807) (hx : ∀ l ∈ ls, EvsOk l.es) (hs : LogsIn w w.heap.size A ls)
    (hcl : sizes.length ≤ 9223372036854775807) (hci : ∀ k ∈ sizes, I64 k) (hs2 : Sl intC 1 w w.heap.size A2 sizes) :
    Calls Try.prog 9 #[.slice A ls.length c, .agg #[.int .i64 ax, .int .i64 ay, .int .i64 az], .slice A2 sizes.length c2] w fun e w' => e = .returned (.bool true) ∧ G w w' := by
  replace hci := Lib.hid hci
  go_enter Try.func9, Try.ntmps9
  go_wp2_with fail
  generalize hW0 : w.alloc (.cells #[.int .i64 ax, .int .i64 ay, .int .i64 az] 27) = W0
  have hz : w.heap.size + 0 < W0.heap.size := by rw [← hW0]; simp
  have hG0 : G w W0 := by rw [← hW0]; exact G.new _ _
  have r0 : W0.cell? ⟨w.heap.size, 0, none⟩ = some (.int .i64 ax) := by rw [← hW0]; simp
  have r1 : W0.cell? ⟨w.heap.size, 1, none⟩ = some (.int .i64 ay) := by rw [← hW0]; simp
  have r2 : W0.cell? ⟨w.heap.size, 2, none⟩ = some (.int .i64 az) := by rw [← hW0]; simp
  clear hW0
  have q0 : ∀ w', G W0 w' → w'.cell? ⟨w.heap.size, 0, none⟩ = some (.int .i64 ax) := fun w' h => (h.cell (by omega)).trans r0
  have q1 : ∀ w', G W0 w' → w'.cell? ⟨w.heap.size, 1, none⟩ = some (.int .i64 ay) := fun w' h => (h.cell (by omega)).trans r1
  have q2 : ∀ w', G W0 w' → w'.cell? ⟨w.heap.size, 2, none⟩ = some (.int .i64 az) := fun w' h => (h.cell (by omega)).trans r2
  clear r0 r1 r2
  refine (small18_any ls A c w.heap.size W0 (by omega) (by omega) hx (hs.g (Nat.le_refl _) hG0)).mono ?_
  rintro e w1 ⟨rfl, hg1⟩
  have hlen : smallB 150 10 ls = true → evTally ls ≤ 150 := fun h => by
    have := (small_len (by omega) (by omega) h).1
    rw [tally_int]; omega
  replace hlen := Lib.hid hlen
  clear hx
  cases hsm : smallB 150 10 ls with
  | false =>
    go_wp2_with fail
    refine (awake18_any _).mono ?_
    rintro e w9 ⟨rfl, hg9⟩
    go_wp2_with fail
    go_ret
    exact ⟨rfl, hG0.trans (hg1.trans hg9)⟩
  | true =>
    have htl := hlen.out hsm
    by_cases h20 : (20 : Int) < sizes.length
    · go_wp2_with fail
      refine (awake18_any _).mono ?_
      rintro e w9 ⟨rfl, hg9⟩
      go_wp2_with fail
      go_ret
      exact ⟨rfl, hG0.trans (hg1.trans hg9)⟩
    · go_wp2_with fail
      refine (one18_any ls A c w.heap.size w1 (hG0.trans hg1).size hl (by omega) (hs.g (Nat.le_refl _) (hG0.trans hg1))).mono ?_
      rintro e w2 ⟨b1, rfl, hap, hg2⟩
      replace hg2 := hg1.trans hg2
      cases b1 with
      | false =>
        go_wp2_with fail
        refine (awake18_any _).mono ?_
        rintro e w9 ⟨rfl, hg9⟩
        go_wp2_with fail
        go_ret
        exact ⟨rfl, hG0.trans (hg2.trans hg9)⟩
      | true =>
        replace hap := Lib.hid (hap rfl)
        go_wp2_with fail
        refine (merge_any ls A c w.heap.size ax ay az 0 0 0 0 _ 1073741824 w2 (hG0.trans hg2).size hl (by omega) (hs.g (Nat.le_refl _) (hG0.trans hg2))).mono ?_
        rintro e W1 ⟨xs, hfx, hxl, vx, rfl, hox, hg3⟩
        replace hg3 := hg2.trans hg3
        obtain ⟨xA, xc, rfl, hxc, hxm, hsx⟩ := OwnL.sl Ev.cells_len hox
        have hall := hfx.all (by omega)
        have hsorted := hall.sorted hap.out
        have hg01 := hG0.trans hg3
        replace hall := Lib.hid hall
        replace hsorted := Lib.hid hsorted
        clear hox hfx hg1 hg2
        have hblk := blk_new W1 #[.int .i64 0, .int .i64 0, .int .i64 0, .int .i64 0, .string ⟨#[]⟩] 42
        replace hblk := Lib.hid hblk
        go_wp2_with fail
        go_loopw [8, 10] (fun v8 i wr => ∃ (j : Nat) (ts : List Ev) (A8 : Option Addr) (c8 : Nat) (cu1 cu2 cu3 cu4 : Int) (cu5 : ByteArray), v8 = .slice A8 ts.length c8 ∧ i = .int .i64 j ∧ j ≤ ts.length ∧ ts.length ≤ xs.length ∧ Hid (ts = xs.take ts.length) ∧ Hid (OwnL 44 7 Ev.cells wr W1.heap.size (.slice A8 ts.length c8) ts) ∧ Hid (wr.heap[W1.heap.size]? = some (.cells #[.int .i64 cu1, .int .i64 cu2, .int .i64 cu3, .int .i64 cu4, .string cu5] 42 (0, 0))) ∧ Hid (AllOf (mergeF ls ⟨ax, ay, az⟩ ⟨⟨cu1, cu2, cu3⟩, cu4, cu5⟩) (xs.drop ts.length)) ∧ G W1 wr) (fun _ i _ => 2000 - (intOf i).toNat)
        case atStart => exact ⟨0, [], none, 0, 0, 0, 0, 0, ⟨#[]⟩, rfl, rfl, Nat.zero_le _, Nat.zero_le _, by simp [Hid], OwnL.nil, hblk, by simpa using hall, G.new _ _⟩
        case round =>
          obtain ⟨j, ts, A8, c8, cu1, cu2, cu3, cu4, cu5, rfl, rfl, hj, htx, hts, hown, hcu, hall, hg⟩ := hrel
          have hgw := hg01.trans hg
          have hg0w := hg3.trans hg
          have r0 : wr.cell? ⟨W1.heap.size, 0, none⟩ = some (.int .i64 cu1) := by rw [blk_cell hcu.out]; rfl
          have r1 : wr.cell? ⟨W1.heap.size, 1, none⟩ = some (.int .i64 cu2) := by rw [blk_cell hcu.out]; rfl
          have r2 : wr.cell? ⟨W1.heap.size, 2, none⟩ = some (.int .i64 cu3) := by rw [blk_cell hcu.out]; rfl
          have r3 : wr.cell? ⟨W1.heap.size, 3, none⟩ = some (.int .i64 cu4) := by rw [blk_cell hcu.out]; rfl
          have r4 : wr.cell? ⟨W1.heap.size, 4, none⟩ = some (.string cu5) := by rw [blk_cell hcu.out]; rfl
          by_cases hlt : ts.length < xs.length
          · by_cases hsz : sizes.length = 0
            · rw [hsz]
              replace hsz := Lib.hid hsz
              have hm := merge_any ls A c w.heap.size ax ay az cu1 cu2 cu3 cu4 cu5 1 wr hgw.size hl (by omega) (hs.g (Nat.le_refl _) hgw)
              go_wp2_with fail
              refine hm.mono ?_
              clear hm
              rintro e w3 ⟨ps, hfp, hpl, vp, rfl, hop, hg3⟩
              have hps : ps = (xs.drop ts.length).take 1 := hall.out.told 1 (by omega) hfp
              have hpl1 : ps.length = min 1 (xs.length - ts.length) := by rw [hps]; simp
              obtain ⟨m, hm⟩ : ∃ m, ps.length = m + 1 := ⟨ps.length - 1, by omega⟩
              have hm4 : (m : Int) + 1 ≤ 1 := by omega
              obtain ⟨⟨es, ev, ed, ⟨ex, ey, ez⟩, ei⟩, hxm⟩ : ∃ x, ps[m]? = some x := ⟨_, List.getElem?_eq_getElem (by omega)⟩
              obtain ⟨hn1, hn2, hn3⟩ := AllOf.next hap.out hall.out hts.out hps hm hxm
              replace hn1 := Lib.hid hn1
              replace hn2 := Lib.hid hn2
              have hown3 := hown.out.g hg3
              have hcu3 := hg3.blk hcu.out
              replace hop : OwnL 44 7 Ev.cells w3 wr.heap.size vp ps := hop
              obtain ⟨pA, pc, rfl, hpc, hpm, hsp⟩ := OwnL.sl Ev.cells_len hop
              have hm5 : ((m : Int) + 1 == 0) = false := by rw [beq_eq_false_iff_ne]; omega
              have hg13 := hg.trans hg3
              clear hfp hps hpl1 hpl r0 r1 r2 r3 r4
              obtain ⟨b, o, rfl, _⟩ := hsp.evG (Nat.le_refl _) hxm
              have x2 : (0 : Int) ≤ ↑m := by omega
              have x3 : (m : Int) < ↑m + 1 := by omega
              go_wp2_with (
                at_builtin
                refine wpList_append_but ev_elem _ rfl (.tmp 69) (.tmp 70) rfl W1.heap.size (.slice A8 ts.length c8) ts rfl hown3 w3.heap.size (some ⟨b, o, none⟩) pc ps (by rw [hm]; rfl) (by intro h; cases h) hsp (by omega) (by omega) hg13.size ?_
                intro v4 w4 hown4 hkeep hbut
                have hop4 := hop.but' hbut (fun k hk hS => by have h1 := (hop.blk hk).1; have h2 := (hown.out.blk hS.symm).2.1; omega)
                have hg14 : G W1 w4 := hkeep.g hg13
                have hcu4 := hkeep.2 _ _ _ _ (by decide) hcu3
                have hsp4 := OwnL.self Ev.cells_len hop4
                obtain ⟨_, _, e', hbl, c0, c1, c2, c3, c4, c5, c6⟩ := hsp4.evG (Nat.le_refl _) hxm
                cases e'
                replace c0 := c0 _ (G.refl _)
                replace c1 := c1 _ (G.refl _)
                replace c2 := c2 _ (G.refl _)
                replace c3 := c3 _ (G.refl _)
                replace c4 := c4 _ (G.refl _)
                replace c5 := c5 _ (G.refl _)
                replace c6 := c6 _ (G.refl _)
                dsimp only at c0 c1 c2 c3 c4 c5 c6
                have hz4 : W1.heap.size < w4.heap.size := blk_lt hcu4
                have g0 : w4.cell? ⟨W1.heap.size, 0, none⟩ = some (.int .i64 cu1) := by rw [blk_cell hcu4]; rfl
                have d0 : ∀ o, (w4.alloc o).cell? ⟨W1.heap.size, 0, none⟩ = some (.int .i64 cu1) := fun o => by rw [blk_cell ((G.new w4 o).blk hcu4)]; rfl
                have g1 : w4.cell? ⟨W1.heap.size, 1, none⟩ = some (.int .i64 cu2) := by rw [blk_cell hcu4]; rfl
                have d1 : ∀ o, (w4.alloc o).cell? ⟨W1.heap.size, 1, none⟩ = some (.int .i64 cu2) := fun o => by rw [blk_cell ((G.new w4 o).blk hcu4)]; rfl
                have g2 : w4.cell? ⟨W1.heap.size, 2, none⟩ = some (.int .i64 cu3) := by rw [blk_cell hcu4]; rfl
                have d2 : ∀ o, (w4.alloc o).cell? ⟨W1.heap.size, 2, none⟩ = some (.int .i64 cu3) := fun o => by rw [blk_cell ((G.new w4 o).blk hcu4)]; rfl
                have g3 : w4.cell? ⟨W1.heap.size, 3, none⟩ = some (.int .i64 cu4) := by rw [blk_cell hcu4]; rfl
                have d3 : ∀ o, (w4.alloc o).cell? ⟨W1.heap.size, 3, none⟩ = some (.int .i64 cu4) := fun o => by rw [blk_cell ((G.new w4 o).blk hcu4)]; rfl
                have g4 : w4.cell? ⟨W1.heap.size, 4, none⟩ = some (.string cu5) := by rw [blk_cell hcu4]; rfl
                have d4 : ∀ o, (w4.alloc o).cell? ⟨W1.heap.size, 4, none⟩ = some (.string cu5) := fun o => by rw [blk_cell ((G.new w4 o).blk hcu4)]; rfl
                have g5 : ∀ j, w4.frozen? ⟨W1.heap.size, j, none⟩ = false := fun j => by simp [World.frozen?, hcu4]
                have d5 : ∀ o j, (w4.alloc o).frozen? ⟨W1.heap.size, j, none⟩ = false := fun o j => by simp [World.frozen?, (G.new w4 o).blk hcu4]
                obtain ⟨A4, c4', rfl, hl4, hm6, hs4⟩ := OwnL.sl Ev.cells_len hown4
                have hsep : ∀ k, (Value.slice A4 (ts ++ ps).length c4').ownBlock = some k → k ≠ W1.heap.size := by
                  rintro k hk rfl
                  obtain ⟨_, _, cs, h1⟩ := hown4.blk hk
                  rw [hcu4] at h1
                  simp at h1
                have hne : ¬ W1.heap.size = w4.heap.size := by omega
                have hne2 : ¬ w4.heap.size = W1.heap.size := by omega
                have hle2 : (ts ++ ps).length ≤ xs.length := hn3
                have hjj : j + 1 ≤ (ts ++ ps).length := by rw [List.length_append]; omega
                generalize hus : ts ++ ps = us at *
                replace hus := Lib.hid hus
                replace hsep := Lib.hid hsep
                replace hown4 := Lib.hid hown4
                replace hcu4 := Lib.hid hcu4
                replace hxm := Lib.hid hxm
                clear hop hop4 hsp hsp4 hbut hown3 hcu3 hs4 hall hts hown hcu
                replace hm := Lib.hid hm)
              have hG5 : G W1 ((stc w4 W1.heap.size 0 [.int .i64 ex, .int .i64 ey, .int .i64 ez, .int .i64 ei, .string es]).alloc (.cells #[.string es, .int .i64 ev, .string ed, .int .i64 ex, .int .i64 ey, .int .i64 ez, .int .i64 ei] 44)) := (hg14.stc _ (Nat.le_refl _)).alloc _
              have hown5 : OwnL 44 7 Ev.cells ((stc w4 W1.heap.size 0 [.int .i64 ex, .int .i64 ey, .int .i64 ez, .int .i64 ei, .string es]).alloc (.cells #[.string es, .int .i64 ev, .string ed, .int .i64 ex, .int .i64 ey, .int .i64 ez, .int .i64 ei] 44)) W1.heap.size (.slice A4 us.length c4') us :=
                (hown4.out.but' (stc_but (fun k => k = W1.heap.size) W1.heap.size rfl _ _ _ _ (But.refl _ _)) (fun k hk => hsep.out k hk)).g (G.new _ _)
              have hcu5 : ((stc w4 W1.heap.size 0 [.int .i64 ex, .int .i64 ey, .int .i64 ez, .int .i64 ei, .string es]).alloc (.cells #[.string es, .int .i64 ev, .string ed, .int .i64 ex, .int .i64 ey, .int .i64 ez, .int .i64 ei] 44)).heap[W1.heap.size]? = some (.cells #[.int .i64 ex, .int .i64 ey, .int .i64 ez, .int .i64 ei, .string es] 42 (0, 0)) := (G.new _ _).blk (stc_blk [.int .i64 ex, .int .i64 ey, .int .i64 ez, .int .i64 ei, .string es] hcu4.out rfl)
              go_roundw
              case rel =>
                first
                  | exact ⟨j + 1, us, A4, c4', ex, ey, ez, ei, es, rfl, by go_num, hjj, hle2, hn1, hown5, hcu5, hn2, hG5⟩
                  | (repeat apply Exists.intro
                     refine ⟨?_, rfl⟩
                     exact ⟨j + 1, us, A4, c4', ex, ey, ez, ei, es, rfl, by go_num, hjj, hle2, hn1, hown5, hcu5, hn2, hG5⟩)
              case measure => (simp [intOf] <;> omega)
            · have hszp : 0 < sizes.length := by omega
              have hszi : (0 : Int) < sizes.length := by omega
              have hmd := Nat.mod_lt j hszp
              obtain ⟨sv, hq1⟩ : ∃ sv, sizes[j % sizes.length]? = some sv := ⟨_, List.getElem?_eq_getElem hmd⟩
              obtain ⟨bq, oq, rfl, hbq, hcq⟩ := hs2.int hq1
              replace hcq := (hgw.cell hbq).trans hcq
              obtain ⟨hv1, hv2⟩ := hci.out sv (List.mem_of_getElem? hq1)
              have m1 : (0 : Int) ≤ ↑j % ↑sizes.length := by omega
              have m2 : (↑j : Int) % ↑sizes.length < ↑sizes.length := Int.emod_lt_of_pos _ hszi
              have m3 : ((j : Int) % (sizes.length : Int)).toNat = j % sizes.length := by omega
              have hq0 : 0 ≤ sv % 5 ∧ sv % 5 < 5 := by omega
              obtain ⟨q5, hq5⟩ := Int.eq_ofNat_of_zero_le hq0.1
              rw [hq5] at hq0
              have hq6 : q5 < 5 := by omega
              have hrd := round_any sv 5 wr (by omega) (by omega) hv1 hv2
              rw [hq5] at hrd
              replace hsz := Lib.hid hsz
              clear hq1 hq5 hq0 hmd
              go_wp2_with fail
              refine hrd.mono ?_
              clear hrd
              rintro e w0 ⟨rfl, rfl⟩
              clear m1 m2 m3 hcq
              have hm := merge_any ls A c w.heap.size ax ay az cu1 cu2 cu3 cu4 cu5 (1 + (q5 : Int)) wr hgw.size hl (by omega) (hs.g (Nat.le_refl _) hgw)
              go_wp2_with fail
              refine hm.mono ?_
              clear hm
              rintro e w3 ⟨ps, hfp, hpl, vp, rfl, hop, hg3⟩
              have hps : ps = (xs.drop ts.length).take (1 + q5) := hall.out.told (1 + q5) (by omega) hfp
              have hpl1 : ps.length = min (1 + q5) (xs.length - ts.length) := by rw [hps]; simp
              obtain ⟨m, hm⟩ : ∃ m, ps.length = m + 1 := ⟨ps.length - 1, by omega⟩
              have hm4 : (m : Int) + 1 ≤ (1 + (q5 : Int)) := by omega
              obtain ⟨⟨es, ev, ed, ⟨ex, ey, ez⟩, ei⟩, hxm⟩ : ∃ x, ps[m]? = some x := ⟨_, List.getElem?_eq_getElem (by omega)⟩
              obtain ⟨hn1, hn2, hn3⟩ := AllOf.next hap.out hall.out hts.out hps hm hxm
              replace hn1 := Lib.hid hn1
              replace hn2 := Lib.hid hn2
              have hown3 := hown.out.g hg3
              have hcu3 := hg3.blk hcu.out
              replace hop : OwnL 44 7 Ev.cells w3 wr.heap.size vp ps := hop
              obtain ⟨pA, pc, rfl, hpc, hpm, hsp⟩ := OwnL.sl Ev.cells_len hop
              have hm5 : ((m : Int) + 1 == 0) = false := by rw [beq_eq_false_iff_ne]; omega
              have hg13 := hg.trans hg3
              clear hfp hps hpl1 hpl r0 r1 r2 r3 r4
              obtain ⟨b, o, rfl, _⟩ := hsp.evG (Nat.le_refl _) hxm
              have x2 : (0 : Int) ≤ ↑m := by omega
              have x3 : (m : Int) < ↑m + 1 := by omega
              go_wp2_with (
                at_builtin
                refine wpList_append_but ev_elem _ rfl (.tmp 69) (.tmp 70) rfl W1.heap.size (.slice A8 ts.length c8) ts rfl hown3 w3.heap.size (some ⟨b, o, none⟩) pc ps (by rw [hm]; rfl) (by intro h; cases h) hsp (by omega) (by omega) hg13.size ?_
                intro v4 w4 hown4 hkeep hbut
                have hop4 := hop.but' hbut (fun k hk hS => by have h1 := (hop.blk hk).1; have h2 := (hown.out.blk hS.symm).2.1; omega)
                have hg14 : G W1 w4 := hkeep.g hg13
                have hcu4 := hkeep.2 _ _ _ _ (by decide) hcu3
                have hsp4 := OwnL.self Ev.cells_len hop4
                obtain ⟨_, _, e', hbl, c0, c1, c2, c3, c4, c5, c6⟩ := hsp4.evG (Nat.le_refl _) hxm
                cases e'
                replace c0 := c0 _ (G.refl _)
                replace c1 := c1 _ (G.refl _)
                replace c2 := c2 _ (G.refl _)
                replace c3 := c3 _ (G.refl _)
                replace c4 := c4 _ (G.refl _)
                replace c5 := c5 _ (G.refl _)
                replace c6 := c6 _ (G.refl _)
                dsimp only at c0 c1 c2 c3 c4 c5 c6
                have hz4 : W1.heap.size < w4.heap.size := blk_lt hcu4
                have g0 : w4.cell? ⟨W1.heap.size, 0, none⟩ = some (.int .i64 cu1) := by rw [blk_cell hcu4]; rfl
                have d0 : ∀ o, (w4.alloc o).cell? ⟨W1.heap.size, 0, none⟩ = some (.int .i64 cu1) := fun o => by rw [blk_cell ((G.new w4 o).blk hcu4)]; rfl
                have g1 : w4.cell? ⟨W1.heap.size, 1, none⟩ = some (.int .i64 cu2) := by rw [blk_cell hcu4]; rfl
                have d1 : ∀ o, (w4.alloc o).cell? ⟨W1.heap.size, 1, none⟩ = some (.int .i64 cu2) := fun o => by rw [blk_cell ((G.new w4 o).blk hcu4)]; rfl
                have g2 : w4.cell? ⟨W1.heap.size, 2, none⟩ = some (.int .i64 cu3) := by rw [blk_cell hcu4]; rfl
                have d2 : ∀ o, (w4.alloc o).cell? ⟨W1.heap.size, 2, none⟩ = some (.int .i64 cu3) := fun o => by rw [blk_cell ((G.new w4 o).blk hcu4)]; rfl
                have g3 : w4.cell? ⟨W1.heap.size, 3, none⟩ = some (.int .i64 cu4) := by rw [blk_cell hcu4]; rfl
                have d3 : ∀ o, (w4.alloc o).cell? ⟨W1.heap.size, 3, none⟩ = some (.int .i64 cu4) := fun o => by rw [blk_cell ((G.new w4 o).blk hcu4)]; rfl
                have g4 : w4.cell? ⟨W1.heap.size, 4, none⟩ = some (.string cu5) := by rw [blk_cell hcu4]; rfl
                have d4 : ∀ o, (w4.alloc o).cell? ⟨W1.heap.size, 4, none⟩ = some (.string cu5) := fun o => by rw [blk_cell ((G.new w4 o).blk hcu4)]; rfl
                have g5 : ∀ j, w4.frozen? ⟨W1.heap.size, j, none⟩ = false := fun j => by simp [World.frozen?, hcu4]
                have d5 : ∀ o j, (w4.alloc o).frozen? ⟨W1.heap.size, j, none⟩ = false := fun o j => by simp [World.frozen?, (G.new w4 o).blk hcu4]
                obtain ⟨A4, c4', rfl, hl4, hm6, hs4⟩ := OwnL.sl Ev.cells_len hown4
                have hsep : ∀ k, (Value.slice A4 (ts ++ ps).length c4').ownBlock = some k → k ≠ W1.heap.size := by
                  rintro k hk rfl
                  obtain ⟨_, _, cs, h1⟩ := hown4.blk hk
                  rw [hcu4] at h1
                  simp at h1
                have hne : ¬ W1.heap.size = w4.heap.size := by omega
                have hne2 : ¬ w4.heap.size = W1.heap.size := by omega
                have hle2 : (ts ++ ps).length ≤ xs.length := hn3
                have hjj : j + 1 ≤ (ts ++ ps).length := by rw [List.length_append]; omega
                generalize hus : ts ++ ps = us at *
                replace hus := Lib.hid hus
                replace hsep := Lib.hid hsep
                replace hown4 := Lib.hid hown4
                replace hcu4 := Lib.hid hcu4
                replace hxm := Lib.hid hxm
                clear hop hop4 hsp hsp4 hbut hown3 hcu3 hs4 hall hts hown hcu
                replace hm := Lib.hid hm)
              have hG5 : G W1 ((stc w4 W1.heap.size 0 [.int .i64 ex, .int .i64 ey, .int .i64 ez, .int .i64 ei, .string es]).alloc (.cells #[.string es, .int .i64 ev, .string ed, .int .i64 ex, .int .i64 ey, .int .i64 ez, .int .i64 ei] 44)) := (hg14.stc _ (Nat.le_refl _)).alloc _
              have hown5 : OwnL 44 7 Ev.cells ((stc w4 W1.heap.size 0 [.int .i64 ex, .int .i64 ey, .int .i64 ez, .int .i64 ei, .string es]).alloc (.cells #[.string es, .int .i64 ev, .string ed, .int .i64 ex, .int .i64 ey, .int .i64 ez, .int .i64 ei] 44)) W1.heap.size (.slice A4 us.length c4') us :=
                (hown4.out.but' (stc_but (fun k => k = W1.heap.size) W1.heap.size rfl _ _ _ _ (But.refl _ _)) (fun k hk => hsep.out k hk)).g (G.new _ _)
              have hcu5 : ((stc w4 W1.heap.size 0 [.int .i64 ex, .int .i64 ey, .int .i64 ez, .int .i64 ei, .string es]).alloc (.cells #[.string es, .int .i64 ev, .string ed, .int .i64 ex, .int .i64 ey, .int .i64 ez, .int .i64 ei] 44)).heap[W1.heap.size]? = some (.cells #[.int .i64 ex, .int .i64 ey, .int .i64 ez, .int .i64 ei, .string es] 42 (0, 0)) := (G.new _ _).blk (stc_blk [.int .i64 ex, .int .i64 ey, .int .i64 ez, .int .i64 ei, .string es] hcu4.out rfl)
              go_roundw
              case rel =>
                first
                  | exact ⟨j + 1, us, A4, c4', ex, ey, ez, ei, es, rfl, by go_num, hjj, hle2, hn1, hown5, hcu5, hn2, hG5⟩
                  | (repeat apply Exists.intro
                     refine ⟨?_, rfl⟩
                     exact ⟨j + 1, us, A4, c4', ex, ey, ez, ei, es, rfl, by go_num, hjj, hle2, hn1, hown5, hcu5, hn2, hG5⟩)
              case measure => (simp [intOf] <;> omega)
          · have htl2 : ts.length = xs.length := by omega
            have htx2 : ts = xs := by
              have := hts.out
              rwa [htl2, List.take_length] at this
            subst htx2
            have hnil : ∀ out, IsFirst (mergeF ls ⟨ax, ay, az⟩ ⟨⟨cu1, cu2, cu3⟩, cu4, cu5⟩) 5 out → out = [] := fun out h => by
              have := hall.out.told 5 rfl h
              rw [List.drop_length] at this
              simpa using this
            have hsx2 := (hsx.g (Nat.le_refl _) hg).more hg.size
            have hso := heapSorted_any ts xA xc wr.heap.size wr (Nat.le_refl _) (by omega) hsx2
            rw [hsorted.out] at hso
            have hse : ∀ w', G wr w' → _ := fun w' h => sameEvents_any ts ts A8 xA c8 xc w'.heap.size w' (Nat.le_refl _) (by omega) (by omega) (((OwnL.self Ev.cells_len hown.out).g (Nat.le_refl _) h).more h.size) ((hsx2.g (Nat.le_refl _) h).more h.size)
            rw [evsB_eq rfl] at hse
            replace hse := Lib.hid hse
            have hx0 : ((ts.length : Int) == 0) = false ∨ ts = [] := by
              rcases ts with _ | ⟨a, l⟩
              · exact .inr rfl
              · left; rw [beq_eq_false_iff_ne]; simp; omega
            replace hnil := Lib.hid hnil
            clear hall hsx hsx2 hts
            go_wp2_with fail
            refine hso.mono ?_
            clear hso
            rintro e w3 ⟨rfl, hg3⟩
            go_wp2_with fail
            refine (hse.out _ hg3).mono ?_
            rintro e w4 ⟨rfl, hg4⟩
            have hg34 := hg3.trans hg4
            have hgw4 := hgw.trans hg34
            have hg04 := hg0w.trans hg34
            have hcu4 := hg34.blk hcu.out
            have r0 : w4.cell? ⟨W1.heap.size, 0, none⟩ = some (.int .i64 cu1) := by rw [blk_cell hcu4]; rfl
            have r1 : w4.cell? ⟨W1.heap.size, 1, none⟩ = some (.int .i64 cu2) := by rw [blk_cell hcu4]; rfl
            have r2 : w4.cell? ⟨W1.heap.size, 2, none⟩ = some (.int .i64 cu3) := by rw [blk_cell hcu4]; rfl
            have r3 : w4.cell? ⟨W1.heap.size, 3, none⟩ = some (.int .i64 cu4) := by rw [blk_cell hcu4]; rfl
            have r4 : w4.cell? ⟨W1.heap.size, 4, none⟩ = some (.string cu5) := by rw [blk_cell hcu4]; rfl
            have hm := merge_any ls A c w.heap.size ax ay az cu1 cu2 cu3 cu4 cu5 5 w4 hgw4.size hl (by omega) (hs.g (Nat.le_refl _) hgw4)
            clear hcu4
            rcases hx0 with hx0 | rfl
            · go_wp2_with fail
              refine hm.mono ?_
              clear hm
              rintro e w5 ⟨out, hf, _, vo, rfl, hoo, hg5⟩
              obtain rfl := hnil.out _ hf
              replace hoo : OwnL 44 7 Ev.cells w5 w4.heap.size vo [] := hoo
              obtain ⟨oA, oc, rfl, _, _, _⟩ := OwnL.sl Ev.cells_len hoo
              go_wp2_with fail
              refine (awake18_any _).mono ?_
              rintro e w9 ⟨rfl, hg9⟩
              go_wp2_with fail
              go_ret
              exact ⟨rfl, hgw4.trans (hg5.trans hg9)⟩
            · clear hm
              go_wp2_with fail
              refine (awake18_any _).mono ?_
              rintro e w9 ⟨rfl, hg9⟩
              go_wp2_with fail
              go_ret
              exact ⟨rfl, hgw4.trans hg9⟩

/-! The row's step, by the guide's shell. -/
open Go.ChangeShapes Go.WideShapes Go.ChangeAt
theorem own : ownKnob Try.prog.godebug = none := by kernel_rfl
theorem laidOut : laidOutB Try.prog = true := by kernel_rfl
set_option maxRecDepth 100000 in
theorem lifted (os : Os) (started : os.Started) (H : Type) (enc : TypeId × Value → H) :
    ReturnsInHanded {} Try.checked os 9 .any (Rows.heapPiecesSpec.pre6 enc Try.prog Try.f9 Rows.heapPiecesRow.domain false) (Rows.heapPiecesSpec.post enc Try.prog Try.f9 false true false false) := by
  refine returnsInHanded_of_change (C := Try.checked) own started (by kernel_rfl) Try.func9
    (ChangeSpec.witness6 (enc := enc) (C := Try.checked) false ⟨#[], #[.slice none 0 0, .agg #[.int .i64 0, .int .i64 0, .int .i64 0], .slice none 0 0], []⟩ 8 (by kernel_rfl) (by kernel_rfl) (by kernel_rfl) (by kernel_rfl)) ?_
  intro W base args ds gs before hval0 hW hcnd _
  have hval : ∀ (j : Nat) t v, Try.f9.params[j]? = some t → args[j]? = some v → Value.okWide Try.prog W .any base t v := hval0
  have hW' := hW
  obtain ⟨p, q, hA0, hV, rfl, hfz, hnd⟩ := hW
  have hA : DataW.TrodAll enc Try.prog W 0 (fun _ => true) true Try.f9.params.toList args.toList ds p := hA0
  rw [Try.params9] at hA hval
  obtain ⟨v0, vs0, d0, ds0, p0, q0, hargs, rfl, rfl, h0, r0⟩ := trodAll_cons hA
  obtain ⟨v1, vs1, d1, ds1, p1, q1, rfl, rfl, rfl, h1, r1⟩ := trodAll_cons r0
  obtain ⟨v2, vs2, d2, ds2, p2, q2, rfl, rfl, rfl, h2, r2⟩ := trodAll_cons r1
  obtain ⟨rfl, rfl, rfl⟩ := trodAll_nil r2
  obtain rfl : args = #[v0, v1, v2] := by cases args; simp_all
  obtain ⟨rfl, rfl⟩ := trodVars_none hV
  have lt0 : ∀ x ∈ p0, x.block < W.heap.size := by obtain ⟨m, hm⟩ := h0; exact DataW.trod_lt m _ _ _ hm
  have lt1 : ∀ x ∈ p1, x.block < W.heap.size := by obtain ⟨m, hm⟩ := h1; exact DataW.trod_lt m _ _ _ hm
  have lt2 : ∀ x ∈ p2, x.block < W.heap.size := by obtain ⟨m, hm⟩ := h2; exact DataW.trod_lt m _ _ _ hm
  obtain ⟨A, c, ls, rfl, hs, hx, hl1, hl2⟩ := in_logs (hval 0 _ _ rfl rfl) h0
  obtain ⟨a, rfl, ha⟩ := in_st (hval 1 _ _ rfl rfl) h1
  obtain ⟨A2, c2, sizes, rfl, hs2, hci, hk1, hk2⟩ := in_ints (hval 2 _ _ rfl rfl) h2
  clear hA0 hval0
  refine (walk ls A A2 c c2 _ _ _ sizes W (by omega) (fun l hl => evsOk_of (hx l hl)) hs (by omega) hci hs2).mono fun e W' ⟨he, hg⟩ => ?_
  have bel : Below W.heap.size W W' := hg
  subst he
  exact ⟨_, rfl, _, _, _, [], _, [], hW', trodAll_mk1 (shut_bool Try.underlying4 _), (trodAll_cons_mk (Below.trod laidOut (by kernel_rfl) (of_decide_eq_true (by kernel_rfl)) h0 bel lt0) (trodAll_cons_mk (Below.trod laidOut (by kernel_rfl) (of_decide_eq_true (by kernel_rfl)) h1 bel lt1) (trodAll_cons_mk (Below.trod laidOut (by kernel_rfl) (of_decide_eq_true (by kernel_rfl)) h2 bel lt2) (trodAll_mk0)))), rfl, bel.frame _, fun h => by cases h⟩

theorem over : Rows.heapPiecesRow.holds Try.pinned (OpenSpec.ofChange Rows.heapPiecesSpec) :=
  OpenClaim.holds_of_wide 9 Try.f9 rfl rfl rfl rfl rfl rfl rfl ⟨rfl, rfl, rfl, rfl, rfl⟩ rfl rfl rfl rfl rfl (by kernel_rfl) Try.func9 (by kernel_rfl)
    (of_decide_eq_true (by kernel_rfl)) (by unfold Func.isWrapper; first | (rw [if_pos (by decide +kernel)]; kernel_rfl) | (rw [if_neg (by decide +kernel)]; exact ⟨rfl, rfl⟩))
    (fun os started H enc _ => lifted os started H enc)

theorem proved : Rows.HeapPiecesSaid := over
#print axioms proved
end Go.Proofs.Ytnenabacbhepdaa.heapPieces

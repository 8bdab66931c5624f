/- (*heap.pile).pop: the least one out of the pile. Condition: the pile is not empty, and has at most 2^32 events. -/
import Derived.Test.YthhhobfdlgmjlaaDoorPushQWholeRow
namespace Go.Proofs.YthhhobfdlgmjlaaDoor
open Go.RowKit

/-- What a pop leaves. -/
def Popped (w : World) (pb g c : Nat) (xs : List Ev) (r : Ev) (w' : World) : Prop :=
  ∃ ys, PileAt w' pb g c ys ∧ ys.length + 1 = xs.length ∧ (∀ y, y ∈ xs ↔ y = r ∨ y ∈ ys) ∧ HeapOk ys ∧ But (fun k => k = pb ∨ k = g) w w'
theorem evSize : (Tryd.prog.info? 32).map (·.size) = some 7 := by kernel_rfl
set_option maxHeartbeats 2000000 in
theorem pop_any (xs : List Ev) (pb g c : Nat) (r : Ev) (w : World) (hp : PileAt w pb g c xs) (hl : xs.length ≤ 4294967296) (hok : HeapOk xs) (hr : xs[0]? = some r) :
    Calls Tryd.prog 51 #[.pointer (some ⟨pb, 0, none⟩)] w fun e w' => e = .returned (.agg r.cells.toArray) ∧ Popped w pb g c xs r w' := by
  have hn0 := (List.getElem?_eq_some_iff.1 hr).1
  obtain ⟨n, hn⟩ : ∃ n, xs.length = n + 1 := ⟨xs.length - 1, by omega⟩
  obtain ⟨l, hll⟩ : ∃ l, xs[n]? = some l := ⟨_, List.getElem?_eq_getElem (by omega)⟩
  obtain ⟨hp1, hrow⟩ := hp
  rw [hn] at hp1
  have hc1 : n + 1 ≤ c ∧ c ≤ 9223372036854775807 := by obtain ⟨_, _, h1, h2, _⟩ := hrow; omega
  have hpl := blk_lt hp1
  have hgl := hrow.lt
  have hne := hrow.ne hp1
  have q0 : w.cell? ⟨pb, 0, none⟩ = some (.slice (some ⟨g, 0, none⟩) (n + 1) c) := by rw [blk_cell hp1]; rfl
  obtain ⟨a0, a1, a2, a3, a4, a5, a6⟩ := hrow.ev hr
  obtain ⟨b0, b1, b2, b3, b4, b5, b6⟩ := hrow.ev hll
  rw [Nat.zero_mul] at a0 a1 a2 a3 a4 a5 a6
  have hfz := hrow.frz
  replace hp1 := Lib.hid hp1
  replace hrow := Lib.hid hrow
  replace hr := Lib.hid hr
  replace hll := Lib.hid hll
  replace hok := Lib.hid hok
  replace hn := Lib.hid hn
  go_enter Tryd.func51, Tryd.ntmps51
  go_wp2_with fail
  have hrow3 := (((hrow.out.st7 (i := 0) (by omega) l).take n).g (G.new _ (.cells #[.string ⟨#[]⟩, .int .i64 0, .string ⟨#[]⟩, .int .i64 0, .int .i64 0, .int .i64 0, .int .i64 0] 32))).g (G.new _ (.cells r.cells.toArray 32))
  have hbut3 : But (fun k => k = pb ∨ k = g) w (((st7 w g (0 * 7) l).alloc (.cells #[.string ⟨#[]⟩, .int .i64 0, .string ⟨#[]⟩, .int .i64 0, .int .i64 0, .int .i64 0, .int .i64 0] 32)).alloc (.cells r.cells.toArray 32)) :=
    (((st7_but w g (0 * 7) l).mono fun k _ h => .inr h).g (G.new _ _)).g (G.new _ _)
  have hsz := (st7_but w g (0 * 7) l).size
  have hse : (st7 w g (0 * 7) l).heap.size = w.heap.size := st7_size w g (0 * 7) l
  have hz3 : (((st7 w g (0 * 7) l).alloc (.cells #[.string ⟨#[]⟩, .int .i64 0, .string ⟨#[]⟩, .int .i64 0, .int .i64 0, .int .i64 0, .int .i64 0] 32)).alloc (.cells r.cells.toArray 32)).heap[w.heap.size]? = some (.cells #[.string ⟨#[]⟩, .int .i64 0, .string ⟨#[]⟩, .int .i64 0, .int .i64 0, .int .i64 0, .int .i64 0] 32 (0, 0)) :=
    (G.new _ _).blk (blk_new' _ _ _ _ hse.symm)
  have hr3 : (((st7 w g (0 * 7) l).alloc (.cells #[.string ⟨#[]⟩, .int .i64 0, .string ⟨#[]⟩, .int .i64 0, .int .i64 0, .int .i64 0, .int .i64 0] 32)).alloc (.cells r.cells.toArray 32)).heap[w.heap.size + 1]? = some (.cells r.cells.toArray 32 (0, 0)) :=
    blk_new' _ _ _ _ (by simp [hse])
  have hp3 : Hid (∃ u, (((st7 w g (0 * 7) l).alloc (.cells #[.string ⟨#[]⟩, .int .i64 0, .string ⟨#[]⟩, .int .i64 0, .int .i64 0, .int .i64 0, .int .i64 0] 32)).alloc (.cells r.cells.toArray 32)).heap[pb]? = some (.cells #[u] 104 (0, 0))) :=
    ⟨_, ((G.new _ _).alloc _).blk ((st7_but w g (0 * 7) l).blk hp1.out fun e => hne e.symm)⟩
  change Code.wp _ _ _ _ (((st7 w g (0 * 7) l).alloc (.cells #[.string ⟨#[]⟩, .int .i64 0, .string ⟨#[]⟩, .int .i64 0, .int .i64 0, .int .i64 0, .int .i64 0] 32)).alloc (.cells r.cells.toArray 32))
  generalize ((st7 w g (0 * 7) l).alloc (.cells #[.string ⟨#[]⟩, .int .i64 0, .string ⟨#[]⟩, .int .i64 0, .int .i64 0, .int .i64 0, .int .i64 0] 32)).alloc (.cells r.cells.toArray 32) = W3 at hrow3 hbut3 hz3 hr3 hp3 ⊢
  have hzl : ((xs.set 0 l).take n).length = n := by rw [List.length_take, List.length_set, hn.out]; omega
  have hdn : DnOk ((xs.set 0 l).take n) 0 := by have := DnOk.start hok.out l hn0; rwa [hn.out] at this
  have hmm : ∀ t, t ∈ xs ↔ t = r ∨ t ∈ (xs.set 0 l).take n := fun t => by have := mem_popped hr.out (by rw [hn.out]; exact hll.out) t; rwa [hn.out] at this
  generalize (xs.set 0 l).take n = zs at *
  replace hzl := Lib.hid hzl
  replace hdn := Lib.hid hdn
  replace hmm := Lib.hid hmm
  replace hz3 := Lib.hid hz3
  replace hr3 := Lib.hid hr3
  clear a0 a1 a2 a3 a4 a5 a6 b0 b1 b2 b3 b4 b5 b6 hfz q0 hll
  have hnb : n ≤ 4294967296 := by have := hn.out; omega
  replace hpl := Lib.hid hpl
  replace hgl := Lib.hid hgl
  replace hne := Lib.hid hne
  clear hl hn0 hsz hse
  go_loopw [6] (fun i6 wr => ∃ (k : Nat) (ys : List Ev), k ≤ n ∧ i6 = .int .i64 k ∧ Hid (ys.length = n) ∧ Hid (∃ u, wr.heap[pb]? = some (.cells #[u] 104 (0, 0))) ∧ Row wr g c ys ∧ But (fun k => k = pb ∨ k = g) w wr ∧ Hid (DnOk ys k) ∧ Hid (∀ t, t ∈ xs ↔ t = r ∨ t ∈ ys)
    ∧ Hid (wr.heap[w.heap.size]? = some (.cells #[.string ⟨#[]⟩, .int .i64 0, .string ⟨#[]⟩, .int .i64 0, .int .i64 0, .int .i64 0, .int .i64 0] 32 (0, 0))) ∧ Hid (wr.heap[w.heap.size + 1]? = some (.cells r.cells.toArray 32 (0, 0)))) (fun i6 _ => n - (intOf i6).toNat)
  case atStart => exact ⟨0, zs, Nat.zero_le _, rfl, hzl, hp3, hrow3, hbut3, hdn, hmm, hz3, hr3⟩
  case round =>
    obtain ⟨k, ys, hk, rfl, hyl, hpr, hrr, hbr, hdr, hmr, hzr, hrw⟩ := hrel
    by_cases h1 : 2 * k + 1 < n
    · obtain ⟨a, ha⟩ : ∃ a, ys[2 * k + 1]? = some a := ⟨_, List.getElem?_eq_getElem (by rw [hyl.out]; omega)⟩
      obtain ⟨x, hx⟩ : ∃ x, ys[k]? = some x := ⟨_, List.getElem?_eq_getElem (by rw [hyl.out]; omega)⟩
      by_cases h2 : 2 * k + 2 < n
      · obtain ⟨b, hb⟩ : ∃ b, ys[2 * k + 2]? = some b := ⟨_, List.getElem?_eq_getElem (by rw [hyl.out]; omega)⟩
        have w1 : IntKind.i64.wrap (2 * ↑k) = 2 * ↑k := IntWalk.i64_in _ (by omega)
        have w2 : IntKind.i64.wrap (2 * ↑k + 1) = 2 * ↑k + 1 := IntWalk.i64_in _ (by omega)
        have w3 : IntKind.i64.wrap (2 * ↑k + 1 + 1) = 2 * ↑k + 1 + 1 := IntWalk.i64_in _ (by omega)
        have n1 : 2 * (k : Int) + 1 < ↑n := by clear w1 w2 w3; omega
        have n2 : 2 * (k : Int) + 1 + 1 < ↑n := by clear w1 w2 w3; omega
        have hlst := least_any ys (some ⟨g, 0, none⟩) c wr.heap.size wr (Nat.le_refl _) (by rw [hyl.out]; omega) hrr.sl (2 * k + 2) (2 * k + 1) b a hb ha
        rw [hyl.out, show ((2 * k + 2 : Nat) : Int) = 2 * ↑k + 1 + 1 from by omega, show ((2 * k + 1 : Nat) : Int) = 2 * ↑k + 1 from by omega] at hlst
        go_wp2_with fail
        refine hlst.mono ?_
        rintro e w5 ⟨rfl, hg5⟩
        clear hlst
        replace hpr : Hid (∃ u, w5.heap[pb]? = some (.cells #[u] 104 (0, 0))) := by obtain ⟨u, h⟩ := hpr.out; exact ⟨u, hg5.blk h⟩
        replace hrr := hrr.g hg5
        replace hbr := hbr.g hg5
        replace hzr := Lib.hid (hg5.blk hzr.out)
        replace hrw := Lib.hid (hg5.blk hrw.out)
        cases hfk : fl b a with
        | false =>
          have hmin : ∀ (j : Nat) (y : Ev), 0 < j → (j - 1) / 2 = k → ys[j]? = some y → fl y a = false := by
            intro j y h0 hj hy
            rcases (show j = 2 * k + 1 ∨ j = 2 * k + 2 by omega) with rfl | rfl
            · rw [ha] at hy; cases hy; exact SO.fl.irr _
            · rw [hb] at hy; cases hy; exact hfk
          replace hb := Lib.hid hb
          have hlst2 := least_any ys (some ⟨g, 0, none⟩) c w5.heap.size w5 (Nat.le_refl _) (by rw [hyl.out]; omega) hrr.sl (2 * k + 1) k a x ha hx
          rw [hyl.out, show ((2 * k + 1 : Nat) : Int) = 2 * (k : Int) + 1 from by omega] at hlst2
          go_wp2_with fail
          refine hlst2.mono ?_
          rintro e wN ⟨rfl, hgN⟩
          clear hlst2
          replace hpr : Hid (∃ u, wN.heap[pb]? = some (.cells #[u] 104 (0, 0))) := by obtain ⟨u, h⟩ := hpr.out; exact ⟨u, hgN.blk h⟩
          replace hrr := hrr.g hgN
          replace hbr := hbr.g hgN
          replace hzr := Lib.hid (hgN.blk hzr.out)
          replace hrw := Lib.hid (hgN.blk hrw.out)
          cases hfl : fl a x with
          | false =>
            have hfin : HeapOk ys := hdr.out.stop hx ha hmin hfl
            clear w1 w2 w3 n1
            replace hfin := Lib.hid hfin
            obtain ⟨u, hu⟩ := hpr.out
            have t1 : wN.cell? ⟨pb, 0, none⟩ = some u := by rw [blk_cell hu]; rfl
            have t2 : wN.frozen? ⟨pb, 0, none⟩ = false := by simp [World.frozen?, hu]
            have t3 : ∀ o, wN.frozen? ⟨w.heap.size, o, none⟩ = false := fun o => by simp [World.frozen?, hzr.out]
            have z0 : wN.cell? ⟨w.heap.size, 0, none⟩ = some (.string ⟨#[]⟩) := by rw [blk_cell hzr.out]; rfl
            have z1 : wN.cell? ⟨w.heap.size, 1, none⟩ = some (.int .i64 0) := by rw [blk_cell hzr.out]; rfl
            have z2 : wN.cell? ⟨w.heap.size, 2, none⟩ = some (.string ⟨#[]⟩) := by rw [blk_cell hzr.out]; rfl
            have z3 : wN.cell? ⟨w.heap.size, 3, none⟩ = some (.int .i64 0) := by rw [blk_cell hzr.out]; rfl
            have z4 : wN.cell? ⟨w.heap.size, 4, none⟩ = some (.int .i64 0) := by rw [blk_cell hzr.out]; rfl
            have z5 : wN.cell? ⟨w.heap.size, 5, none⟩ = some (.int .i64 0) := by rw [blk_cell hzr.out]; rfl
            have z6 : wN.cell? ⟨w.heap.size, 6, none⟩ = some (.int .i64 0) := by rw [blk_cell hzr.out]; rfl
            have v0 : wN.cell? ⟨w.heap.size + 1, 0, none⟩ = some (.string r.stream) := by rw [blk_cell hrw.out]; rfl
            have v1 : wN.cell? ⟨w.heap.size + 1, 1, none⟩ = some (.int .i64 r.version) := by rw [blk_cell hrw.out]; rfl
            have v2 : wN.cell? ⟨w.heap.size + 1, 2, none⟩ = some (.string r.data) := by rw [blk_cell hrw.out]; rfl
            have v3 : wN.cell? ⟨w.heap.size + 1, 3, none⟩ = some (.int .i64 r.st.wall) := by rw [blk_cell hrw.out]; rfl
            have v4 : wN.cell? ⟨w.heap.size + 1, 4, none⟩ = some (.int .i64 r.st.logic) := by rw [blk_cell hrw.out]; rfl
            have v5 : wN.cell? ⟨w.heap.size + 1, 5, none⟩ = some (.int .i64 r.st.node) := by rw [blk_cell hrw.out]; rfl
            have v6 : wN.cell? ⟨w.heap.size + 1, 6, none⟩ = some (.int .i64 r.index) := by rw [blk_cell hrw.out]; rfl
            have x1 : ¬ pb = w.heap.size := by have := hpl.out; omega
            have x2 : ¬ w.heap.size = pb := by have := hpl.out; omega
            have x3 : ¬ pb = w.heap.size + 1 := by have := hpl.out; omega
            have x4 : ¬ w.heap.size + 1 = pb := by have := hpl.out; omega
            replace hu := Lib.hid hu
            go_wp2_with fail
            have e1 : (wN.setCell ⟨pb, 0, none⟩ (.slice (some ⟨g, 0, none⟩) n c)).heap[pb]? = some (.cells #[.slice (some ⟨g, 0, none⟩) n c] 104 (0, 0)) := blk_set hu.out 0 _
            have e2 : (wN.setCell ⟨pb, 0, none⟩ (.slice (some ⟨g, 0, none⟩) n c)).heap[w.heap.size]? = some (.cells #[.string ⟨#[]⟩, .int .i64 0, .string ⟨#[]⟩, .int .i64 0, .int .i64 0, .int .i64 0, .int .i64 0] 32 (0, 0)) := (Below.heap_setCell _ _ _ _ x2).trans hzr.out
            have e3 : Row (wN.setCell ⟨pb, 0, none⟩ (.slice (some ⟨g, 0, none⟩) n c)) g c ys := hrr.set_far hne.out _
            have e4 : But (fun k => k = pb ∨ k = g) w (wN.setCell ⟨pb, 0, none⟩ (.slice (some ⟨g, 0, none⟩) n c)) := hbr.set (.inr (.inl rfl)) _
            change bodyPost _ _ _ Exit.ret _ (st7 (wN.setCell ⟨pb, 0, none⟩ (.slice (some ⟨g, 0, none⟩) n c)) w.heap.size 0 r)
            have k0 := st7_but (wN.setCell ⟨pb, 0, none⟩ (.slice (some ⟨g, 0, none⟩) n c)) w.heap.size 0 r
            refine bodyPost_ret (results_cell_row rfl _ _ w.heap.size _ r.cells.toArray _ _ rfl (st7_blk e2 rfl r) Tryd.underlying32 rfl evSize) rfl ?_
            refine ⟨rfl, ys, ⟨?_, e3.but k0 fun e => ?_⟩, ?_, hmr.out, hfin.out, e4.over k0 fun k e => .inl (by omega)⟩
            · rw [hyl.out]
              exact k0.blk e1 x1
            · have := hgl.out; omega
            · rw [hyl.out, hn.out]
          | true =>
            go_wp2_with fail
            obtain ⟨a0, a1, a2, a3, a4, a5, a6⟩ := hrr.ev hx
            obtain ⟨b0, b1, b2, b3, b4, b5, b6⟩ := hrr.ev ha
            have hfz := hrr.frz
            have hdn2 : DnOk (swp ys k (2 * k + 1) x a) (2 * k + 1) := hdr.out.go hx ha (by omega) (by omega) hmin hfl
            have hm2 : ∀ t, t ∈ xs ↔ t = r ∨ t ∈ swp ys k (2 * k + 1) x a := fun t => (hmr.out t).trans (by rw [swp_mem hx ha])
            have hl2 : (swp ys k (2 * k + 1) x a).length = n := by rw [swp_length]; exact hyl.out
            have m1 : (0 : Int) ≤ ↑k := by clear w1 w2 w3; omega
            have m2 : (k : Int) < ↑n := by clear w1 w2 w3; omega
            have m3 : (0 : Int) ≤ 2 * (k : Int) + 1 := by clear w1 w2 w3; omega
            have m4 : 2 * (k : Int) + 1 < (n : Int) := by clear w1 w2 w3; omega
            have m5 : (2 * (k : Int) + 1).toNat = 2 * k + 1 := by clear w1 w2 w3; omega
            have m6 : k < 2 * k + 1 := by clear w1 w2 w3; omega
            have hr3 : Row (st7 (st7 wN g (k * 7) a) g ((2 * k + 1) * 7) x).drew g c (swp ys k (2 * k + 1) x a) := ((hrr.st7 (by rw [hyl.out]; omega) a).st7 (by rw [List.length_set, hyl.out]; omega) x).g (G.refl _).drew
            have hb3 : But (fun k => k = g) wN (st7 (st7 wN g (k * 7) a) g ((2 * k + 1) * 7) x).drew := ((st7_but _ _ _ _).trans (st7_but _ _ _ _)).drew
            replace hdn2 := Lib.hid hdn2
            replace hm2 := Lib.hid hm2
            replace hl2 := Lib.hid hl2
            replace hx := Lib.hid hx
            replace ha := Lib.hid ha
            replace hmin := Lib.hid hmin
            replace hrr := Lib.hid hrr
            replace hr3 := Lib.hid hr3
            replace hb3 := Lib.hid hb3
            go_region
            replace hr3 := hr3.out
            replace hb3 := hb3.out
            change Exit.then _ _ Exit.normal _ (st7 (st7 wN g (k * 7) a) g ((2 * k + 1) * 7) x).drew
            generalize (st7 (st7 wN g (k * 7) a) g ((2 * k + 1) * 7) x).drew = W4 at hr3 hb3 ⊢
            have hp3 : Hid (∃ u, W4.heap[pb]? = some (.cells #[u] 104 (0, 0))) := by obtain ⟨u, h⟩ := hpr.out; exact ⟨u, hb3.blk h fun e => hne.out e.symm⟩
            have hz4 := Lib.hid (hb3.blk hzr.out fun e => by have := hgl.out; omega)
            have hr4 := Lib.hid (hb3.blk hrw.out fun e => by have := hgl.out; omega)
            have hbw := hbr.over hb3 fun k e => .inr (.inr e)
            clear hb3 a0 a1 a2 a3 a4 a5 a6 b0 b1 b2 b3 b4 b5 b6 hfz
            go_wp2_with fail
            go_roundw
            case rel => exact ⟨2 * k + 1, swp ys k (2 * k + 1) x a, by clear w1 w2 w3 m5; omega, by rw [← show ((2 * k + 1 : Nat) : Int) = 2 * (k : Int) + 1 from by clear w1 w2 w3 m5; omega], hl2, hp3, hr3, hbw, hdn2, hm2, hz4, hr4⟩
            case measure => clear w1 w2 w3; simp [intOf]; omega
        | true =>
          have hmin : ∀ (j : Nat) (y : Ev), 0 < j → (j - 1) / 2 = k → ys[j]? = some y → fl y b = false := by
            intro j y h0 hj hy
            rcases (show j = 2 * k + 1 ∨ j = 2 * k + 2 by omega) with rfl | rfl
            · rw [ha] at hy; cases hy; exact SO.fl.asymm hfk
            · rw [hb] at hy; cases hy; exact SO.fl.irr _
          have hlst2 := least_any ys (some ⟨g, 0, none⟩) c w5.heap.size w5 (Nat.le_refl _) (by rw [hyl.out]; omega) hrr.sl (2 * k + 2) k b x hb hx
          rw [hyl.out, show ((2 * k + 2 : Nat) : Int) = 2 * (k : Int) + 1 + 1 from by omega] at hlst2
          go_wp2_with fail
          refine hlst2.mono ?_
          rintro e wN ⟨rfl, hgN⟩
          clear hlst2
          replace hpr : Hid (∃ u, wN.heap[pb]? = some (.cells #[u] 104 (0, 0))) := by obtain ⟨u, h⟩ := hpr.out; exact ⟨u, hgN.blk h⟩
          replace hrr := hrr.g hgN
          replace hbr := hbr.g hgN
          replace hzr := Lib.hid (hgN.blk hzr.out)
          replace hrw := Lib.hid (hgN.blk hrw.out)
          cases hfl : fl b x with
          | false =>
            have hfin : HeapOk ys := hdr.out.stop hx hb hmin hfl
            clear w1 w2 w3 n1
            replace hfin := Lib.hid hfin
            obtain ⟨u, hu⟩ := hpr.out
            have t1 : wN.cell? ⟨pb, 0, none⟩ = some u := by rw [blk_cell hu]; rfl
            have t2 : wN.frozen? ⟨pb, 0, none⟩ = false := by simp [World.frozen?, hu]
            have t3 : ∀ o, wN.frozen? ⟨w.heap.size, o, none⟩ = false := fun o => by simp [World.frozen?, hzr.out]
            have z0 : wN.cell? ⟨w.heap.size, 0, none⟩ = some (.string ⟨#[]⟩) := by rw [blk_cell hzr.out]; rfl
            have z1 : wN.cell? ⟨w.heap.size, 1, none⟩ = some (.int .i64 0) := by rw [blk_cell hzr.out]; rfl
            have z2 : wN.cell? ⟨w.heap.size, 2, none⟩ = some (.string ⟨#[]⟩) := by rw [blk_cell hzr.out]; rfl
            have z3 : wN.cell? ⟨w.heap.size, 3, none⟩ = some (.int .i64 0) := by rw [blk_cell hzr.out]; rfl
            have z4 : wN.cell? ⟨w.heap.size, 4, none⟩ = some (.int .i64 0) := by rw [blk_cell hzr.out]; rfl
            have z5 : wN.cell? ⟨w.heap.size, 5, none⟩ = some (.int .i64 0) := by rw [blk_cell hzr.out]; rfl
            have z6 : wN.cell? ⟨w.heap.size, 6, none⟩ = some (.int .i64 0) := by rw [blk_cell hzr.out]; rfl
            have v0 : wN.cell? ⟨w.heap.size + 1, 0, none⟩ = some (.string r.stream) := by rw [blk_cell hrw.out]; rfl
            have v1 : wN.cell? ⟨w.heap.size + 1, 1, none⟩ = some (.int .i64 r.version) := by rw [blk_cell hrw.out]; rfl
            have v2 : wN.cell? ⟨w.heap.size + 1, 2, none⟩ = some (.string r.data) := by rw [blk_cell hrw.out]; rfl
            have v3 : wN.cell? ⟨w.heap.size + 1, 3, none⟩ = some (.int .i64 r.st.wall) := by rw [blk_cell hrw.out]; rfl
            have v4 : wN.cell? ⟨w.heap.size + 1, 4, none⟩ = some (.int .i64 r.st.logic) := by rw [blk_cell hrw.out]; rfl
            have v5 : wN.cell? ⟨w.heap.size + 1, 5, none⟩ = some (.int .i64 r.st.node) := by rw [blk_cell hrw.out]; rfl
            have v6 : wN.cell? ⟨w.heap.size + 1, 6, none⟩ = some (.int .i64 r.index) := by rw [blk_cell hrw.out]; rfl
            have x1 : ¬ pb = w.heap.size := by have := hpl.out; omega
            have x2 : ¬ w.heap.size = pb := by have := hpl.out; omega
            have x3 : ¬ pb = w.heap.size + 1 := by have := hpl.out; omega
            have x4 : ¬ w.heap.size + 1 = pb := by have := hpl.out; omega
            replace hu := Lib.hid hu
            go_wp2_with fail
            have e1 : (wN.setCell ⟨pb, 0, none⟩ (.slice (some ⟨g, 0, none⟩) n c)).heap[pb]? = some (.cells #[.slice (some ⟨g, 0, none⟩) n c] 104 (0, 0)) := blk_set hu.out 0 _
            have e2 : (wN.setCell ⟨pb, 0, none⟩ (.slice (some ⟨g, 0, none⟩) n c)).heap[w.heap.size]? = some (.cells #[.string ⟨#[]⟩, .int .i64 0, .string ⟨#[]⟩, .int .i64 0, .int .i64 0, .int .i64 0, .int .i64 0] 32 (0, 0)) := (Below.heap_setCell _ _ _ _ x2).trans hzr.out
            have e3 : Row (wN.setCell ⟨pb, 0, none⟩ (.slice (some ⟨g, 0, none⟩) n c)) g c ys := hrr.set_far hne.out _
            have e4 : But (fun k => k = pb ∨ k = g) w (wN.setCell ⟨pb, 0, none⟩ (.slice (some ⟨g, 0, none⟩) n c)) := hbr.set (.inr (.inl rfl)) _
            change bodyPost _ _ _ Exit.ret _ (st7 (wN.setCell ⟨pb, 0, none⟩ (.slice (some ⟨g, 0, none⟩) n c)) w.heap.size 0 r)
            have k0 := st7_but (wN.setCell ⟨pb, 0, none⟩ (.slice (some ⟨g, 0, none⟩) n c)) w.heap.size 0 r
            refine bodyPost_ret (results_cell_row rfl _ _ w.heap.size _ r.cells.toArray _ _ rfl (st7_blk e2 rfl r) Tryd.underlying32 rfl evSize) rfl ?_
            refine ⟨rfl, ys, ⟨?_, e3.but k0 fun e => ?_⟩, ?_, hmr.out, hfin.out, e4.over k0 fun k e => .inl (by omega)⟩
            · rw [hyl.out]
              exact k0.blk e1 x1
            · have := hgl.out; omega
            · rw [hyl.out, hn.out]
          | true =>
            go_wp2_with fail
            obtain ⟨a0, a1, a2, a3, a4, a5, a6⟩ := hrr.ev hx
            obtain ⟨b0, b1, b2, b3, b4, b5, b6⟩ := hrr.ev hb
            have hfz := hrr.frz
            have hdn2 : DnOk (swp ys k (2 * k + 2) x b) (2 * k + 2) := hdr.out.go hx hb (by omega) (by omega) hmin hfl
            have hm2 : ∀ t, t ∈ xs ↔ t = r ∨ t ∈ swp ys k (2 * k + 2) x b := fun t => (hmr.out t).trans (by rw [swp_mem hx hb])
            have hl2 : (swp ys k (2 * k + 2) x b).length = n := by rw [swp_length]; exact hyl.out
            have m1 : (0 : Int) ≤ ↑k := by clear w1 w2 w3; omega
            have m2 : (k : Int) < ↑n := by clear w1 w2 w3; omega
            have m3 : (0 : Int) ≤ 2 * (k : Int) + 1 + 1 := by clear w1 w2 w3; omega
            have m4 : 2 * (k : Int) + 1 + 1 < (n : Int) := by clear w1 w2 w3; omega
            have m5 : (2 * (k : Int) + 1 + 1).toNat = 2 * k + 2 := by clear w1 w2 w3; omega
            have m6 : k < 2 * k + 2 := by clear w1 w2 w3; omega
            have hr3 : Row (st7 (st7 wN g (k * 7) b) g ((2 * k + 2) * 7) x).drew g c (swp ys k (2 * k + 2) x b) := ((hrr.st7 (by rw [hyl.out]; omega) b).st7 (by rw [List.length_set, hyl.out]; omega) x).g (G.refl _).drew
            have hb3 : But (fun k => k = g) wN (st7 (st7 wN g (k * 7) b) g ((2 * k + 2) * 7) x).drew := ((st7_but _ _ _ _).trans (st7_but _ _ _ _)).drew
            replace hdn2 := Lib.hid hdn2
            replace hm2 := Lib.hid hm2
            replace hl2 := Lib.hid hl2
            replace hx := Lib.hid hx
            replace ha := Lib.hid ha
            replace hmin := Lib.hid hmin
            replace hrr := Lib.hid hrr
            replace hr3 := Lib.hid hr3
            replace hb3 := Lib.hid hb3
            go_region
            replace hr3 := hr3.out
            replace hb3 := hb3.out
            change Exit.then _ _ Exit.normal _ (st7 (st7 wN g (k * 7) b) g ((2 * k + 2) * 7) x).drew
            generalize (st7 (st7 wN g (k * 7) b) g ((2 * k + 2) * 7) x).drew = W4 at hr3 hb3 ⊢
            have hp3 : Hid (∃ u, W4.heap[pb]? = some (.cells #[u] 104 (0, 0))) := by obtain ⟨u, h⟩ := hpr.out; exact ⟨u, hb3.blk h fun e => hne.out e.symm⟩
            have hz4 := Lib.hid (hb3.blk hzr.out fun e => by have := hgl.out; omega)
            have hr4 := Lib.hid (hb3.blk hrw.out fun e => by have := hgl.out; omega)
            have hbw := hbr.over hb3 fun k e => .inr (.inr e)
            clear hb3 a0 a1 a2 a3 a4 a5 a6 b0 b1 b2 b3 b4 b5 b6 hfz
            go_wp2_with fail
            go_roundw
            case rel => exact ⟨2 * k + 2, swp ys k (2 * k + 2) x b, by clear w1 w2 w3 m5; omega, by rw [← show ((2 * k + 2 : Nat) : Int) = 2 * (k : Int) + 1 + 1 from by clear w1 w2 w3 m5; omega], hl2, hp3, hr3, hbw, hdn2, hm2, hz4, hr4⟩
            case measure => clear w1 w2 w3; simp [intOf]; omega
      · have w1 : IntKind.i64.wrap (2 * ↑k) = 2 * ↑k := IntWalk.i64_in _ (by omega)
        have w2 : IntKind.i64.wrap (2 * ↑k + 1) = 2 * ↑k + 1 := IntWalk.i64_in _ (by omega)
        have w3 : IntKind.i64.wrap (2 * ↑k + 1 + 1) = 2 * ↑k + 1 + 1 := IntWalk.i64_in _ (by omega)
        have n1 : 2 * (k : Int) + 1 < ↑n := by clear w1 w2 w3; omega
        have n2 : ¬ 2 * (k : Int) + 1 + 1 < ↑n := by clear w1 w2 w3; omega
        have hmin : ∀ (j : Nat) (y : Ev), 0 < j → (j - 1) / 2 = k → ys[j]? = some y → fl y a = false := by
          intro j y h0 hj hy
          have := (List.getElem?_eq_some_iff.1 hy).1
          rw [hyl.out] at this
          obtain rfl : j = 2 * k + 1 := by clear w1 w2 w3 n1 n2; omega
          rw [ha] at hy; cases hy; exact SO.fl.irr _
        have hlst2 := least_any ys (some ⟨g, 0, none⟩) c wr.heap.size wr (Nat.le_refl _) (by rw [hyl.out]; omega) hrr.sl (2 * k + 1) k a x ha hx
        rw [hyl.out, show ((2 * k + 1 : Nat) : Int) = 2 * (k : Int) + 1 from by omega] at hlst2
        go_wp2_with fail
        refine hlst2.mono ?_
        rintro e wN ⟨rfl, hgN⟩
        clear hlst2
        replace hpr : Hid (∃ u, wN.heap[pb]? = some (.cells #[u] 104 (0, 0))) := by obtain ⟨u, h⟩ := hpr.out; exact ⟨u, hgN.blk h⟩
        replace hrr := hrr.g hgN
        replace hbr := hbr.g hgN
        replace hzr := Lib.hid (hgN.blk hzr.out)
        replace hrw := Lib.hid (hgN.blk hrw.out)
        cases hfl : fl a x with
        | false =>
          have hfin : HeapOk ys := hdr.out.stop hx ha hmin hfl
          clear w1 w2 w3 n1
          replace hfin := Lib.hid hfin
          obtain ⟨u, hu⟩ := hpr.out
          have t1 : wN.cell? ⟨pb, 0, none⟩ = some u := by rw [blk_cell hu]; rfl
          have t2 : wN.frozen? ⟨pb, 0, none⟩ = false := by simp [World.frozen?, hu]
          have t3 : ∀ o, wN.frozen? ⟨w.heap.size, o, none⟩ = false := fun o => by simp [World.frozen?, hzr.out]
          have z0 : wN.cell? ⟨w.heap.size, 0, none⟩ = some (.string ⟨#[]⟩) := by rw [blk_cell hzr.out]; rfl
          have z1 : wN.cell? ⟨w.heap.size, 1, none⟩ = some (.int .i64 0) := by rw [blk_cell hzr.out]; rfl
          have z2 : wN.cell? ⟨w.heap.size, 2, none⟩ = some (.string ⟨#[]⟩) := by rw [blk_cell hzr.out]; rfl
          have z3 : wN.cell? ⟨w.heap.size, 3, none⟩ = some (.int .i64 0) := by rw [blk_cell hzr.out]; rfl
          have z4 : wN.cell? ⟨w.heap.size, 4, none⟩ = some (.int .i64 0) := by rw [blk_cell hzr.out]; rfl
          have z5 : wN.cell? ⟨w.heap.size, 5, none⟩ = some (.int .i64 0) := by rw [blk_cell hzr.out]; rfl
          have z6 : wN.cell? ⟨w.heap.size, 6, none⟩ = some (.int .i64 0) := by rw [blk_cell hzr.out]; rfl
          have v0 : wN.cell? ⟨w.heap.size + 1, 0, none⟩ = some (.string r.stream) := by rw [blk_cell hrw.out]; rfl
          have v1 : wN.cell? ⟨w.heap.size + 1, 1, none⟩ = some (.int .i64 r.version) := by rw [blk_cell hrw.out]; rfl
          have v2 : wN.cell? ⟨w.heap.size + 1, 2, none⟩ = some (.string r.data) := by rw [blk_cell hrw.out]; rfl
          have v3 : wN.cell? ⟨w.heap.size + 1, 3, none⟩ = some (.int .i64 r.st.wall) := by rw [blk_cell hrw.out]; rfl
          have v4 : wN.cell? ⟨w.heap.size + 1, 4, none⟩ = some (.int .i64 r.st.logic) := by rw [blk_cell hrw.out]; rfl
          have v5 : wN.cell? ⟨w.heap.size + 1, 5, none⟩ = some (.int .i64 r.st.node) := by rw [blk_cell hrw.out]; rfl
          have v6 : wN.cell? ⟨w.heap.size + 1, 6, none⟩ = some (.int .i64 r.index) := by rw [blk_cell hrw.out]; rfl
          have x1 : ¬ pb = w.heap.size := by have := hpl.out; omega
          have x2 : ¬ w.heap.size = pb := by have := hpl.out; omega
          have x3 : ¬ pb = w.heap.size + 1 := by have := hpl.out; omega
          have x4 : ¬ w.heap.size + 1 = pb := by have := hpl.out; omega
          replace hu := Lib.hid hu
          go_wp2_with fail
          have e1 : (wN.setCell ⟨pb, 0, none⟩ (.slice (some ⟨g, 0, none⟩) n c)).heap[pb]? = some (.cells #[.slice (some ⟨g, 0, none⟩) n c] 104 (0, 0)) := blk_set hu.out 0 _
          have e2 : (wN.setCell ⟨pb, 0, none⟩ (.slice (some ⟨g, 0, none⟩) n c)).heap[w.heap.size]? = some (.cells #[.string ⟨#[]⟩, .int .i64 0, .string ⟨#[]⟩, .int .i64 0, .int .i64 0, .int .i64 0, .int .i64 0] 32 (0, 0)) := (Below.heap_setCell _ _ _ _ x2).trans hzr.out
          have e3 : Row (wN.setCell ⟨pb, 0, none⟩ (.slice (some ⟨g, 0, none⟩) n c)) g c ys := hrr.set_far hne.out _
          have e4 : But (fun k => k = pb ∨ k = g) w (wN.setCell ⟨pb, 0, none⟩ (.slice (some ⟨g, 0, none⟩) n c)) := hbr.set (.inr (.inl rfl)) _
          change bodyPost _ _ _ Exit.ret _ (st7 (wN.setCell ⟨pb, 0, none⟩ (.slice (some ⟨g, 0, none⟩) n c)) w.heap.size 0 r)
          have k0 := st7_but (wN.setCell ⟨pb, 0, none⟩ (.slice (some ⟨g, 0, none⟩) n c)) w.heap.size 0 r
          refine bodyPost_ret (results_cell_row rfl _ _ w.heap.size _ r.cells.toArray _ _ rfl (st7_blk e2 rfl r) Tryd.underlying32 rfl evSize) rfl ?_
          refine ⟨rfl, ys, ⟨?_, e3.but k0 fun e => ?_⟩, ?_, hmr.out, hfin.out, e4.over k0 fun k e => .inl (by omega)⟩
          · rw [hyl.out]
            exact k0.blk e1 x1
          · have := hgl.out; omega
          · rw [hyl.out, hn.out]
        | true =>
          go_wp2_with fail
          obtain ⟨a0, a1, a2, a3, a4, a5, a6⟩ := hrr.ev hx
          obtain ⟨b0, b1, b2, b3, b4, b5, b6⟩ := hrr.ev ha
          have hfz := hrr.frz
          have hdn2 : DnOk (swp ys k (2 * k + 1) x a) (2 * k + 1) := hdr.out.go hx ha (by omega) (by omega) hmin hfl
          have hm2 : ∀ t, t ∈ xs ↔ t = r ∨ t ∈ swp ys k (2 * k + 1) x a := fun t => (hmr.out t).trans (by rw [swp_mem hx ha])
          have hl2 : (swp ys k (2 * k + 1) x a).length = n := by rw [swp_length]; exact hyl.out
          have m1 : (0 : Int) ≤ ↑k := by clear w1 w2 w3; omega
          have m2 : (k : Int) < ↑n := by clear w1 w2 w3; omega
          have m3 : (0 : Int) ≤ 2 * (k : Int) + 1 := by clear w1 w2 w3; omega
          have m4 : 2 * (k : Int) + 1 < (n : Int) := by clear w1 w2 w3; omega
          have m5 : (2 * (k : Int) + 1).toNat = 2 * k + 1 := by clear w1 w2 w3; omega
          have m6 : k < 2 * k + 1 := by clear w1 w2 w3; omega
          have hr3 : Row (st7 (st7 wN g (k * 7) a) g ((2 * k + 1) * 7) x).drew g c (swp ys k (2 * k + 1) x a) := ((hrr.st7 (by rw [hyl.out]; omega) a).st7 (by rw [List.length_set, hyl.out]; omega) x).g (G.refl _).drew
          have hb3 : But (fun k => k = g) wN (st7 (st7 wN g (k * 7) a) g ((2 * k + 1) * 7) x).drew := ((st7_but _ _ _ _).trans (st7_but _ _ _ _)).drew
          replace hdn2 := Lib.hid hdn2
          replace hm2 := Lib.hid hm2
          replace hl2 := Lib.hid hl2
          replace hx := Lib.hid hx
          replace ha := Lib.hid ha
          replace hmin := Lib.hid hmin
          replace hrr := Lib.hid hrr
          replace hr3 := Lib.hid hr3
          replace hb3 := Lib.hid hb3
          go_region
          replace hr3 := hr3.out
          replace hb3 := hb3.out
          change Exit.then _ _ Exit.normal _ (st7 (st7 wN g (k * 7) a) g ((2 * k + 1) * 7) x).drew
          generalize (st7 (st7 wN g (k * 7) a) g ((2 * k + 1) * 7) x).drew = W4 at hr3 hb3 ⊢
          have hp3 : Hid (∃ u, W4.heap[pb]? = some (.cells #[u] 104 (0, 0))) := by obtain ⟨u, h⟩ := hpr.out; exact ⟨u, hb3.blk h fun e => hne.out e.symm⟩
          have hz4 := Lib.hid (hb3.blk hzr.out fun e => by have := hgl.out; omega)
          have hr4 := Lib.hid (hb3.blk hrw.out fun e => by have := hgl.out; omega)
          have hbw := hbr.over hb3 fun k e => .inr (.inr e)
          clear hb3 a0 a1 a2 a3 a4 a5 a6 b0 b1 b2 b3 b4 b5 b6 hfz
          go_wp2_with fail
          go_roundw
          case rel => exact ⟨2 * k + 1, swp ys k (2 * k + 1) x a, by clear w1 w2 w3 m5; omega, by rw [← show ((2 * k + 1 : Nat) : Int) = 2 * (k : Int) + 1 from by clear w1 w2 w3 m5; omega], hl2, hp3, hr3, hbw, hdn2, hm2, hz4, hr4⟩
          case measure => clear w1 w2 w3; simp [intOf]; omega
    · have hfin : HeapOk ys := hdr.out.leaf (by rw [hyl.out]; omega)
      have n1 : ¬ 2 * (k : Int) + 1 < ↑n := by omega
      have w1 : IntKind.i64.wrap (2 * ↑k) = 2 * ↑k := IntWalk.i64_in _ (by omega)
      have w2 : IntKind.i64.wrap (2 * ↑k + 1) = 2 * ↑k + 1 := IntWalk.i64_in _ (by omega)
      replace hfin := Lib.hid hfin
      obtain ⟨u, hu⟩ := hpr.out
      have t1 : wr.cell? ⟨pb, 0, none⟩ = some u := by rw [blk_cell hu]; rfl
      have t2 : wr.frozen? ⟨pb, 0, none⟩ = false := by simp [World.frozen?, hu]
      have t3 : ∀ o, wr.frozen? ⟨w.heap.size, o, none⟩ = false := fun o => by simp [World.frozen?, hzr.out]
      have z0 : wr.cell? ⟨w.heap.size, 0, none⟩ = some (.string ⟨#[]⟩) := by rw [blk_cell hzr.out]; rfl
      have z1 : wr.cell? ⟨w.heap.size, 1, none⟩ = some (.int .i64 0) := by rw [blk_cell hzr.out]; rfl
      have z2 : wr.cell? ⟨w.heap.size, 2, none⟩ = some (.string ⟨#[]⟩) := by rw [blk_cell hzr.out]; rfl
      have z3 : wr.cell? ⟨w.heap.size, 3, none⟩ = some (.int .i64 0) := by rw [blk_cell hzr.out]; rfl
      have z4 : wr.cell? ⟨w.heap.size, 4, none⟩ = some (.int .i64 0) := by rw [blk_cell hzr.out]; rfl
      have z5 : wr.cell? ⟨w.heap.size, 5, none⟩ = some (.int .i64 0) := by rw [blk_cell hzr.out]; rfl
      have z6 : wr.cell? ⟨w.heap.size, 6, none⟩ = some (.int .i64 0) := by rw [blk_cell hzr.out]; rfl
      have v0 : wr.cell? ⟨w.heap.size + 1, 0, none⟩ = some (.string r.stream) := by rw [blk_cell hrw.out]; rfl
      have v1 : wr.cell? ⟨w.heap.size + 1, 1, none⟩ = some (.int .i64 r.version) := by rw [blk_cell hrw.out]; rfl
      have v2 : wr.cell? ⟨w.heap.size + 1, 2, none⟩ = some (.string r.data) := by rw [blk_cell hrw.out]; rfl
      have v3 : wr.cell? ⟨w.heap.size + 1, 3, none⟩ = some (.int .i64 r.st.wall) := by rw [blk_cell hrw.out]; rfl
      have v4 : wr.cell? ⟨w.heap.size + 1, 4, none⟩ = some (.int .i64 r.st.logic) := by rw [blk_cell hrw.out]; rfl
      have v5 : wr.cell? ⟨w.heap.size + 1, 5, none⟩ = some (.int .i64 r.st.node) := by rw [blk_cell hrw.out]; rfl
      have v6 : wr.cell? ⟨w.heap.size + 1, 6, none⟩ = some (.int .i64 r.index) := by rw [blk_cell hrw.out]; rfl
      have x1 : ¬ pb = w.heap.size := by have := hpl.out; omega
      have x2 : ¬ w.heap.size = pb := by have := hpl.out; omega
      have x3 : ¬ pb = w.heap.size + 1 := by have := hpl.out; omega
      have x4 : ¬ w.heap.size + 1 = pb := by have := hpl.out; omega
      replace hu := Lib.hid hu
      go_wp2_with fail
      have e1 : (wr.setCell ⟨pb, 0, none⟩ (.slice (some ⟨g, 0, none⟩) n c)).heap[pb]? = some (.cells #[.slice (some ⟨g, 0, none⟩) n c] 104 (0, 0)) := blk_set hu.out 0 _
      have e2 : (wr.setCell ⟨pb, 0, none⟩ (.slice (some ⟨g, 0, none⟩) n c)).heap[w.heap.size]? = some (.cells #[.string ⟨#[]⟩, .int .i64 0, .string ⟨#[]⟩, .int .i64 0, .int .i64 0, .int .i64 0, .int .i64 0] 32 (0, 0)) := (Below.heap_setCell _ _ _ _ x2).trans hzr.out
      have e3 : Row (wr.setCell ⟨pb, 0, none⟩ (.slice (some ⟨g, 0, none⟩) n c)) g c ys := hrr.set_far hne.out _
      have e4 : But (fun k => k = pb ∨ k = g) w (wr.setCell ⟨pb, 0, none⟩ (.slice (some ⟨g, 0, none⟩) n c)) := hbr.set (.inr (.inl rfl)) _
      change bodyPost _ _ _ Exit.ret _ (st7 (wr.setCell ⟨pb, 0, none⟩ (.slice (some ⟨g, 0, none⟩) n c)) w.heap.size 0 r)
      have k0 := st7_but (wr.setCell ⟨pb, 0, none⟩ (.slice (some ⟨g, 0, none⟩) n c)) w.heap.size 0 r
      refine bodyPost_ret (results_cell_row rfl _ _ w.heap.size _ r.cells.toArray _ _ rfl (st7_blk e2 rfl r) Tryd.underlying32 rfl evSize) rfl ?_
      refine ⟨rfl, ys, ⟨?_, e3.but k0 fun e => ?_⟩, ?_, hmr.out, hfin.out, e4.over k0 fun k e => .inl (by omega)⟩
      · rw [hyl.out]
        exact k0.blk e1 x1
      · have := hgl.out; omega
      · rw [hyl.out, hn.out]
end Go.Proofs.YthhhobfdlgmjlaaDoor

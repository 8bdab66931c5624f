/- penstocklaw20.made: both tables, of these logs and marks. Conditions: at most four logs, at most 8000 events each. -/
import Derived.Test.YthhhobfdlgmjlaaDoorWatTake17QWholeRow
namespace Go.Proofs.YthhhobfdlgmjlaaDoor
open Go.RowKit

/-- What is told of a node's mark. -/
def mkOf (xs : List St) (i : Nat) : St := stMax ⟨0, 0, 0⟩ ((xs[i]?).getD ⟨0, 0, 0⟩)
/-- So many logs are taken in. -/
structure TabTo (ls : List LogM) (xs : List St) (off j : Nat) (ps : List PeerM) : Prop where
  len : ps.length = ls.length + off
  first : ∀ k, k < off → ps[k]? = some peer0
  told : ∀ i l, ls[i]? = some l → i < j → ∃ p, ps[i + off]? = some p ∧ p.es = l.es ∧ p.mark = mkOf xs i
  rest : ∀ i, j ≤ i → i < ls.length → ps[i + off]? = some peer0
theorem TabTo.start (ls : List LogM) (xs : List St) (off n : Nat) (hn : n = ls.length + off) : TabTo ls xs off 0 (List.replicate n peer0) :=
  ⟨by simp [hn], fun k hk => by rw [List.getElem?_replicate, if_pos (by omega)], fun i l _ h => by omega, fun i _ hi => by rw [List.getElem?_replicate, if_pos (by omega)]⟩
theorem TabTo.next {ls : List LogM} {xs : List St} {off j : Nat} {ps : List PeerM} (h : TabTo ls xs off j ps) {l : LogM} (hl : ls[j]? = some l) (A : Option Addr) (c : Nat) : TabTo ls xs off (j + 1) (ps.set (j + off) ⟨A, c, l.es, mkOf xs j⟩) := by
  have hj : j < ls.length := (List.getElem?_eq_some_iff.1 hl).1
  have hlen := h.len
  refine ⟨by simp [h.len], fun k hk => ?_, fun i l' hl' hi => ?_, fun i h1 h2 => ?_⟩
  · rw [List.getElem?_set_ne (by omega)]
    exact h.first k hk
  · rcases Nat.lt_or_ge i j with h1 | h1
    · rw [List.getElem?_set_ne (by omega)]
      exact h.told i l' hl' h1
    · obtain rfl : i = j := by omega
      rw [hl] at hl'
      cases hl'
      exact ⟨_, List.getElem?_set_self (by omega), rfl, rfl⟩
  · rw [List.getElem?_set_ne (by omega)]
    exact h.rest i (by omega) h2
/-- All are taken in: the events, the marks. -/
theorem TabTo.evs {ls : List LogM} {xs : List St} {off : Nat} {ps : List PeerM} (h : TabTo ls xs off ls.length ps) : (ps.drop off).map (·.es) = ls.map (·.es) := by
  apply List.ext_getElem?
  intro i
  rw [List.getElem?_map, List.getElem?_map, List.getElem?_drop, Nat.add_comm off i]
  rcases Nat.lt_or_ge i ls.length with h1 | h1
  · obtain ⟨l, hl⟩ : ∃ l, ls[i]? = some l := ⟨_, List.getElem?_eq_getElem h1⟩
    obtain ⟨p, hp, he, _⟩ := h.told i l hl h1
    rw [hp, hl]
    simp [he]
  · rw [List.getElem?_eq_none (by have := h.len; omega), List.getElem?_eq_none h1]
    rfl
theorem TabTo.marks {ls : List LogM} {xs : List St} {off : Nat} {ps : List PeerM} (h : TabTo ls xs off ls.length ps) : (ps.drop off).map (·.mark) = (List.range ls.length).map (mkOf xs) := by
  apply List.ext_getElem?
  intro i
  rw [List.getElem?_map, List.getElem?_map, List.getElem?_drop, Nat.add_comm off i]
  rcases Nat.lt_or_ge i ls.length with h1 | h1
  · obtain ⟨l, hl⟩ : ∃ l, ls[i]? = some l := ⟨_, List.getElem?_eq_getElem h1⟩
    obtain ⟨p, hp, _, he⟩ := h.told i l hl h1
    rw [hp, List.getElem?_range h1]
    simp [he]
  · rw [List.getElem?_eq_none (by have := h.len; omega), List.getElem?_eq_none (by simpa using h1)]
    rfl
/-- What New answers. -/
def NewPost (tT tP : TypeId) (n : Nat) (w : World) (e : Ending) (w' : World) : Prop := (∃ T g, e = .returned (.pointer (some ⟨T, 0, none⟩)) ∧ TabAt tT tP w' w.heap.size T g n (List.replicate n peer0)) ∧ G w w'
set_option maxHeartbeats 1000000 in
theorem watNew_any (n : Nat) (h1 : 1 ≤ n) (h5 : n ≤ 5) (w : World) :
    Calls Tryd.prog 26 #[.int .i64 1, .int .i64 n] w (NewPost 93 98 (n + 1) w) := by
  obtain ⟨w1, hmk, hown, hg⟩ := make_peers w (n + 1) (by omega)
  rw [show ((n + 1 : Nat) : Int) = (n : Int) + 1 by omega] at hmk
  have hw : IntKind.i64.wrap ((n : Int) + 1) = (n : Int) + 1 := by rw [IntKind.wrap_i64]; omega
  have n1 : ¬ (n : Int) < 1 := by omega
  have n2 : ¬ (5 : Int) < n := by omega
  replace hown := Lib.hid hown
  go_enter Tryd.func26, Tryd.ntmps26
  go_wp2_with fail
  go_ret
  exact ⟨⟨_, _, rfl, ⟨hg.size, Nat.le_refl _, by simpa using blk_new w1 _ _, hown.out.g (G.new _ _), fun p hp => by
    rw [List.eq_of_mem_replicate hp]
    exact OwnL.nil⟩⟩, hg.alloc _⟩
set_option maxHeartbeats 1000000 in
theorem new17_any (n : Nat) (h1 : 1 ≤ n) (h5 : n ≤ 5) (w : World) :
    Calls Tryd.prog 27 #[.int .i64 1, .int .i64 n] w (NewPost 77 79 n w) := by
  obtain ⟨w1, hmk, hown, hg⟩ := make_peers17 w n (by omega)
  have n1 : ¬ (n : Int) < 1 := by omega
  have n2 : ¬ (5 : Int) < n := by omega
  replace hown := Lib.hid hown
  go_enter Tryd.func27, Tryd.ntmps27
  go_wp2_with fail
  go_ret
  exact ⟨⟨_, _, rfl, ⟨hg.size, Nat.le_refl _, by simpa using blk_new w1 _ _, hown.out.g (G.new _ _), fun p hp => by
    rw [List.eq_of_mem_replicate hp]
    exact OwnL.nil⟩⟩, hg.alloc _⟩
/-- What made answers. -/
def MadePost (ls : List LogM) (xs : List St) (w : World) (e : Ending) (w' : World) : Prop :=
  ∃ T g c T2 g2 c2 ps ms, e = .returned (.tuple #[.pointer (some ⟨T, 0, none⟩), .pointer (some ⟨T2, 0, none⟩)]) ∧ TabAt 93 98 w' w.heap.size T g c ps ∧ TabAt 77 79 w' w.heap.size T2 g2 c2 ms ∧
    TabTo ls xs 2 ls.length ps ∧ TabTo ls xs 1 ls.length ms ∧ G w w'
set_option maxRecDepth 100000 in
set_option maxHeartbeats 2000000 in
theorem made_any (ls : List LogM) (A : Option Addr) (c B : Nat) (xs : List St) (A2 : Option Addr) (cx : Nat) (w : World) (hB : B ≤ w.heap.size) (hl : ls.length ≤ 4) (hel : ∀ l ∈ ls, l.es.length ≤ 8000) (hs : LogsIn w B A ls) (hx : xs.length ≤ 9223372036854775807) (hxs : Sl St.cells 3 w B A2 xs) :
    Calls Tryd.prog 11 #[.slice A ls.length c, .slice A2 xs.length cx] w (MadePost ls xs w) := by
  have hw1 : IntKind.i64.wrap ((ls.length : Int) + 1) = (ls.length : Int) + 1 := by rw [IntKind.wrap_i64]; omega
  have hn1 := fun w => watNew_any (ls.length + 1) (by omega) (by omega) w
  have hn2 := fun w => new17_any (ls.length + 1) (by omega) (by omega) w
  rw [show ((ls.length + 1 : Nat) : Int) = (ls.length : Int) + 1 by omega] at hn1 hn2
  replace hn1 := Lib.hid hn1
  replace hn2 := Lib.hid hn2
  go_enter Tryd.func11, Tryd.ntmps11
  go_wp2_with fail
  refine Calls.mono (hn1.out _) ?_
  rintro e w1 ⟨⟨T, g, rfl, ht1⟩, hg1⟩
  go_wp2_with fail
  refine Calls.mono (hn2.out _) ?_
  rintro e w2 ⟨⟨T2, g2, rfl, ht2⟩, hg2⟩
  replace ht1 := ht1.grow hg2
  replace ht2 := ht2.mono hg1.size
  have hg12 := hg1.trans hg2
  clear hg1 hg2 hn1 hn2
  replace ht1 := Lib.hid ht1
  replace ht2 := Lib.hid ht2
  go_wp2_with fail
  go_loopw [8] (fun i wr => ∃ (j : Nat) (g2 c2 : Nat) (ps ms : List PeerM), j ≤ ls.length ∧ i = .int .i64 j ∧ Hid (TabAt 93 98 wr w.heap.size T g (ls.length + 1 + 1) ps) ∧ Hid (TabAt 77 79 wr w.heap.size T2 g2 c2 ms) ∧ Hid (TabTo ls xs 2 j ps) ∧ Hid (TabTo ls xs 1 j ms) ∧ G w wr) (fun i _ => ls.length - (intOf i).toNat)
  case atStart => exact ⟨0, g2, _, _, _, Nat.zero_le _, rfl, ht1, ht2, TabTo.start _ _ _ _ (by omega), TabTo.start _ _ _ _ (by omega), hg12⟩
  case round =>
    obtain ⟨j, g2, c2, ps, ms, hj, rfl, ht1, ht2, hp1, hp2, hg⟩ := hrel
    by_cases hlt : j < ls.length
    · obtain ⟨⟨lA, lc, les⟩, hl1⟩ : ∃ l, ls[j]? = some l := ⟨_, List.getElem?_eq_getElem hlt⟩
      obtain ⟨b, o, rfl, hb, hcell, hok⟩ := hs.at_ hB hl1
      have hll := hel _ (List.mem_of_getElem? hl1)
      dsimp only at hcell hll
      have hcw := hcell wr hg
      have hlw : (les.length : Int) ≤ 8000 := by omega
      have hbw : b < wr.heap.size := Nat.lt_of_lt_of_le hb hg.size
      have n1 : (0 : Int) ≤ (j : Int) := by omega
      have n2 : (j : Int) < (ls.length : Int) := by omega
      have hwj : IntKind.i64.wrap ((j : Int) + 2) = (j : Int) + 2 := by rw [IntKind.wrap_i64]; omega
      obtain ⟨hls, _, _⟩ := hok w (G.refl _)
      dsimp only at hls
      have hmk : mkOf xs j = stMax ⟨0, 0, 0⟩ ((xs[j]?).getD ⟨0, 0, 0⟩) := rfl
      replace hl1 := Lib.hid hl1
      replace hls := Lib.hid hls
      replace hmk := Lib.hid hmk
      clear hs hcell hok
      go_wp2_with fail
      go_region
      all_goals
        have hF : (wr.alloc (.cells #[.int .i64 0, .int .i64 les.length, .slice lA les.length lc, .int .i64 0, .int .i64 0, .int .i64 0, .slice none 0 0] 63)).drew.heap[wr.heap.size]? = some (.cells #[.int .i64 0, .int .i64 les.length, .slice lA les.length lc, .int .i64 0, .int .i64 0, .int .i64 0, .slice none 0 0] 63 (0, 0)) := blk_new wr _ _
        have hgF : G wr (wr.alloc (.cells #[.int .i64 0, .int .i64 les.length, .slice lA les.length lc, .int .i64 0, .int .i64 0, .int .i64 0, .slice none 0 0] 63)).drew := (G.new wr _).drew
        generalize (wr.alloc (.cells #[.int .i64 0, .int .i64 les.length, .slice lA les.length lc, .int .i64 0, .int .i64 0, .int .i64 0, .slice none 0 0] 63)).drew = W1 at *
        by_cases hj2 : j < xs.length
        · obtain ⟨⟨x1, x2, x3⟩, hx1⟩ : ∃ x, xs[j]? = some x := ⟨_, List.getElem?_eq_getElem hj2⟩
          obtain ⟨b2, o2, rfl, hb2, c0, c1, c3⟩ := (hxs.g hB (hg.trans hgF)).st3 hx1
          dsimp only at c0 c1 c3
          have hmk2 : mkOf xs j = stMax ⟨0, 0, 0⟩ ⟨x1, x2, x3⟩ := by rw [hmk.out, hx1]; rfl
          replace hmk2 := Lib.hid hmk2
          replace hx1 := Lib.hid hx1
          have m2 : (j : Int) < (xs.length : Int) := by omega
          have f3 := (blk_cell hF 3).trans (show _ = some (Value.int .i64 0) from rfl)
          have f4 := (blk_cell hF 4).trans (show _ = some (Value.int .i64 0) from rfl)
          have f5 := (blk_cell hF 5).trans (show _ = some (Value.int .i64 0) from rfl)
          have z3 := own_free hF 3
          have z4 := own_free hF 4
          have z5 := own_free hF 5
          have s3 := (set_blk (set_blk (set_blk hF 3 (.int .i64 x1)) 4 (.int .i64 x2)) 5 (.int .i64 x3)).trans (show _ = some (Obj.cells #[.int .i64 0, .int .i64 les.length, .slice lA les.length lc, .int .i64 x1, .int .i64 x2, .int .i64 x3, .slice none 0 0] 63 (0, 0)) from rfl)
          have hgX := (((hgF.set (p := ⟨wr.heap.size, 3, none⟩) (Nat.le_refl _) (.int .i64 x1)).set (p := ⟨wr.heap.size, 4, none⟩) (Nat.le_refl _) (.int .i64 x2)).set (p := ⟨wr.heap.size, 5, none⟩) (Nat.le_refl _) (.int .i64 x3))
          replace s3 := Lib.hid s3
          replace hgX := Lib.hid hgX
          go_upto_region 11 with fail
          generalize (((W1.setCell ⟨wr.heap.size, 3, none⟩ (.int .i64 x1)).setCell ⟨wr.heap.size, 4, none⟩ (.int .i64 x2)).setCell ⟨wr.heap.size, 5, none⟩ (.int .i64 x3)) = WX at *
          clear f3 f4 f5 z3 z4 z5 c0 c1 c3
          clear hmk hF hgF hxs
          have f0 := (blk_cell s3.out 0).trans (show _ = some (Value.int .i64 0) from rfl)
          have f1 := (blk_cell s3.out 1).trans (show _ = some (Value.int .i64 les.length) from rfl)
          have f2 := (blk_cell s3.out 2).trans (show _ = some (Value.slice lA les.length lc) from rfl)
          have f3 := (blk_cell s3.out 3).trans (show _ = some (Value.int .i64 x1) from rfl)
          have f4 := (blk_cell s3.out 4).trans (show _ = some (Value.int .i64 x2) from rfl)
          have f5 := (blk_cell s3.out 5).trans (show _ = some (Value.int .i64 x3) from rfl)
          have f6 := (blk_cell s3.out 6).trans (show _ = some (Value.slice none 0 0) from rfl)
          have hgwX := hg.trans hgX.out
          have hBX : B ≤ WX.heap.size := Nat.le_trans hB hgwX.size
          have htk := watTake_any (ht1.out.grow hgX.out) (j + 2) (by omega) (by have := hp1.out.len; omega) (hp1.out.rest j (Nat.le_refl _) hlt) les lA lc B hBX hgwX.size (hls.out.g hB hgwX) hll x1 x2 x3
          rw [show (((j + 2 : Nat) : Int)) = (j : Int) + 2 by omega, ← hmk2.out] at htk
          replace htk := Lib.hid htk
          go_wp2_with fail
          refine Calls.mono htk.out ?_
          rintro e w3 ⟨rfl, ⟨A3, c3, ht3⟩, hb3⟩
          have hgl := blk_lt ht1.out.gblk.choose_spec
          have hF3 := hb3.blk s3.out (by omega)
          clear f0 f1 f2 f3 f4 f5 f6 htk
          have f1 := (blk_cell hF3 1).trans (show _ = some (Value.int .i64 les.length) from rfl)
          have f2 := (blk_cell hF3 2).trans (show _ = some (Value.slice lA les.length lc) from rfl)
          have f3 := (blk_cell hF3 3).trans (show _ = some (Value.int .i64 x1) from rfl)
          have f4 := (blk_cell hF3 4).trans (show _ = some (Value.int .i64 x2) from rfl)
          have f5 := (blk_cell hF3 5).trans (show _ = some (Value.int .i64 x3) from rfl)
          have hg3 : G w w3 := Below.trans hgwX (hb3.below hgwX.size fun k _ e => by rw [e]; exact ht1.out.hg)
          have h23 := (ht2.out.grow hgX.out).but hb3 fun i e => by
            subst e
            obtain ⟨cs, hcs⟩ := (ht1.out.grow hgX.out).gblk
            exact ⟨cs, _, hcs, by decide, by decide, by decide⟩
          have htk := take17_any h23 (j + 1) (by omega) (by have := hp2.out.len; omega) (hp2.out.rest j (Nat.le_refl _) hlt) les lA lc B (Nat.le_trans hB hg3.size) hg3.size (hls.out.g hB hg3) hll x1 x2 x3
          rw [show (((j + 1 : Nat) : Int)) + 1 = (j : Int) + 2 by omega, ← hmk2.out] at htk
          have hT2 := h23.t
          replace htk := Lib.hid htk
          replace hT2 := Lib.hid hT2
          replace ht3 := Lib.hid ht3
          have hle3 := hg3.size
          have hT2b := h23.hT
          clear hF3 s3 hb3 hgX h23
          go_wp2_with fail
          refine Calls.mono htk.out ?_
          rintro e w4 ⟨rfl, ⟨g4, c4, A4, cp, ht4⟩, hb4⟩
          have ht34 := ht3.out.but hb4 fun i e => by
            subst e
            exact ⟨_, _, hT2.out, by decide, by decide, by decide⟩
          have hg4 : G w w4 := Below.trans hg3 (hb4.below hle3 fun k _ e => by rw [e]; exact hT2b)
          have hq1 := hp1.out.next hl1.out A3 c3
          have hq2 := hp2.out.next hl1.out A4 cp
          replace ht34 := Lib.hid ht34
          replace ht4 := Lib.hid ht4
          replace hq1 := Lib.hid hq1
          replace hq2 := Lib.hid hq2
          clear htk ht3 hT2 hb4 f1 f2 f3 f4 f5
          go_wp2_with fail
          go_roundw
          case rel => exact ⟨j + 1, g4, c4, _, _, by omega, by go_num, ht34, ht4, hq1, hq2, hg4⟩
          case measure => simp [intOf]; omega
        · have hmk2 : mkOf xs j = stMax ⟨0, 0, 0⟩ ⟨0, 0, 0⟩ := by rw [hmk.out, List.getElem?_eq_none (by omega)]; rfl
          replace hmk2 := Lib.hid hmk2
          have s3 := Lib.hid hF
          have hgX := Lib.hid hgF
          go_upto_region 11 with fail
          generalize W1 = WX at *
          clear hmk hF hgF hxs
          have f0 := (blk_cell s3.out 0).trans (show _ = some (Value.int .i64 0) from rfl)
          have f1 := (blk_cell s3.out 1).trans (show _ = some (Value.int .i64 les.length) from rfl)
          have f2 := (blk_cell s3.out 2).trans (show _ = some (Value.slice lA les.length lc) from rfl)
          have f3 := (blk_cell s3.out 3).trans (show _ = some (Value.int .i64 0) from rfl)
          have f4 := (blk_cell s3.out 4).trans (show _ = some (Value.int .i64 0) from rfl)
          have f5 := (blk_cell s3.out 5).trans (show _ = some (Value.int .i64 0) from rfl)
          have f6 := (blk_cell s3.out 6).trans (show _ = some (Value.slice none 0 0) from rfl)
          have hgwX := hg.trans hgX.out
          have hBX : B ≤ WX.heap.size := Nat.le_trans hB hgwX.size
          have htk := watTake_any (ht1.out.grow hgX.out) (j + 2) (by omega) (by have := hp1.out.len; omega) (hp1.out.rest j (Nat.le_refl _) hlt) les lA lc B hBX hgwX.size (hls.out.g hB hgwX) hll 0 0 0
          rw [show (((j + 2 : Nat) : Int)) = (j : Int) + 2 by omega, ← hmk2.out] at htk
          replace htk := Lib.hid htk
          go_wp2_with fail
          refine Calls.mono htk.out ?_
          rintro e w3 ⟨rfl, ⟨A3, c3, ht3⟩, hb3⟩
          have hgl := blk_lt ht1.out.gblk.choose_spec
          have hF3 := hb3.blk s3.out (by omega)
          clear f0 f1 f2 f3 f4 f5 f6 htk
          have f1 := (blk_cell hF3 1).trans (show _ = some (Value.int .i64 les.length) from rfl)
          have f2 := (blk_cell hF3 2).trans (show _ = some (Value.slice lA les.length lc) from rfl)
          have f3 := (blk_cell hF3 3).trans (show _ = some (Value.int .i64 0) from rfl)
          have f4 := (blk_cell hF3 4).trans (show _ = some (Value.int .i64 0) from rfl)
          have f5 := (blk_cell hF3 5).trans (show _ = some (Value.int .i64 0) from rfl)
          have hg3 : G w w3 := Below.trans hgwX (hb3.below hgwX.size fun k _ e => by rw [e]; exact ht1.out.hg)
          have h23 := (ht2.out.grow hgX.out).but hb3 fun i e => by
            subst e
            obtain ⟨cs, hcs⟩ := (ht1.out.grow hgX.out).gblk
            exact ⟨cs, _, hcs, by decide, by decide, by decide⟩
          have htk := take17_any h23 (j + 1) (by omega) (by have := hp2.out.len; omega) (hp2.out.rest j (Nat.le_refl _) hlt) les lA lc B (Nat.le_trans hB hg3.size) hg3.size (hls.out.g hB hg3) hll 0 0 0
          rw [show (((j + 1 : Nat) : Int)) + 1 = (j : Int) + 2 by omega, ← hmk2.out] at htk
          have hT2 := h23.t
          replace htk := Lib.hid htk
          replace hT2 := Lib.hid hT2
          replace ht3 := Lib.hid ht3
          have hle3 := hg3.size
          have hT2b := h23.hT
          clear hF3 s3 hb3 hgX h23
          go_wp2_with fail
          refine Calls.mono htk.out ?_
          rintro e w4 ⟨rfl, ⟨g4, c4, A4, cp, ht4⟩, hb4⟩
          have ht34 := ht3.out.but hb4 fun i e => by
            subst e
            exact ⟨_, _, hT2.out, by decide, by decide, by decide⟩
          have hg4 : G w w4 := Below.trans hg3 (hb4.below hle3 fun k _ e => by rw [e]; exact hT2b)
          have hq1 := hp1.out.next hl1.out A3 c3
          have hq2 := hp2.out.next hl1.out A4 cp
          replace ht34 := Lib.hid ht34
          replace ht4 := Lib.hid ht4
          replace hq1 := Lib.hid hq1
          replace hq2 := Lib.hid hq2
          clear htk ht3 hT2 hb4 f1 f2 f3 f4 f5
          go_wp2_with fail
          go_roundw
          case rel => exact ⟨j + 1, g4, c4, _, _, by omega, by go_num, ht34, ht4, hq1, hq2, hg4⟩
          case measure => simp [intOf]; omega
    · obtain rfl : j = ls.length := by omega
      go_wp2_with fail
      refine bodyPost_ret (results_tmp2 rfl _ _ _) rfl ?_
      exact ⟨T, g, _, T2, g2, c2, ps, ms, rfl, ht1.out, ht2.out, hp1.out, hp2.out, hg⟩
end Go.Proofs.YthhhobfdlgmjlaaDoor

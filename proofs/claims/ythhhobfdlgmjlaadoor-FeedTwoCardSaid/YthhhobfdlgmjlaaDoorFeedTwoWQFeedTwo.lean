/- penstocklaw20.FeedTwo: the walk. Condition: the decoder's tables lie as the library lays them. -/
import Derived.Test.YthhhobfdlgmjlaaDoorM49FeedTwo
namespace Go.Proofs.YthhhobfdlgmjlaaDoor
open Go.RowKit

set_option maxRecDepth 100000 in
set_option maxHeartbeats 8000000 in
theorem two_walk (ls : List LogM) (A : Option Addr) (c : Nat) (xs : List St) (A2 : Option Addr) (cx : Nat) (own : List Ev) (A3 : Option Addr) (co : Nat) (ax ay az bx by' bz a b : Int) (w : World) (hl : ls.length ≤ 9223372036854775807) (hx : ∀ l ∈ ls, EvsOk l.es) (hs : LogsIn w w.heap.size A ls)
    (hxl : xs.length ≤ 9223372036854775807) (hxs : Sl St.cells 3 w w.heap.size A2 xs) (hoc : own.length ≤ co) (hoc2 : co ≤ 9223372036854775807) (hso : Sl Ev.cells 7 w w.heap.size A3 own) (hox : EvsOk own) (hT : Tabs w) :
    Calls Tryd.prog 6 #[.slice A ls.length c, .slice A2 xs.length cx, .slice A3 own.length co, .agg #[.int .i64 ax, .int .i64 ay, .int .i64 az], .agg #[.int .i64 bx, .int .i64 by', .int .i64 bz], .int .i64 a, .int .i64 b] w fun e w' => e = .returned (.bool true) ∧ G w w' := by
  replace hT := Lib.hid hT
  go_enter Tryd.func6, Tryd.ntmps6
  go_upto_region 1 with fail
  generalize hW0 : (w.alloc (.cells #[.int .i64 ax, .int .i64 ay, .int .i64 az] 26)).alloc (.cells #[.int .i64 bx, .int .i64 by', .int .i64 bz] 26) = W0
  have hz : w.heap.size + 1 < W0.heap.size := by rw [← hW0]; simp
  have hG0 : G w W0 := by rw [← hW0]; exact (G.new _ _).alloc _
  have r0 : W0.cell? ⟨w.heap.size, 0, none⟩ = some (.int .i64 ax) := by rw [← hW0]; simp
  have r1 : W0.cell? ⟨w.heap.size, 1, none⟩ = some (.int .i64 ay) := by rw [← hW0]; simp
  have r2 : W0.cell? ⟨w.heap.size, 2, none⟩ = some (.int .i64 az) := by rw [← hW0]; simp
  have r3 : W0.cell? ⟨w.heap.size + 1, 0, none⟩ = some (.int .i64 bx) := by rw [← hW0]; simp
  have r4 : W0.cell? ⟨w.heap.size + 1, 1, none⟩ = some (.int .i64 by') := by rw [← hW0]; simp
  have r5 : W0.cell? ⟨w.heap.size + 1, 2, none⟩ = some (.int .i64 bz) := by rw [← hW0]; simp
  clear hW0
  have q0 : ∀ w', G W0 w' → w'.cell? ⟨w.heap.size, 0, none⟩ = some (.int .i64 ax) := fun w' h => (h.cell (by omega)).trans r0
  have q1 : ∀ w', G W0 w' → w'.cell? ⟨w.heap.size, 1, none⟩ = some (.int .i64 ay) := fun w' h => (h.cell (by omega)).trans r1
  have q2 : ∀ w', G W0 w' → w'.cell? ⟨w.heap.size, 2, none⟩ = some (.int .i64 az) := fun w' h => (h.cell (by omega)).trans r2
  have q3 : ∀ w', G W0 w' → w'.cell? ⟨w.heap.size + 1, 0, none⟩ = some (.int .i64 bx) := fun w' h => (h.cell (by omega)).trans r3
  have q4 : ∀ w', G W0 w' → w'.cell? ⟨w.heap.size + 1, 1, none⟩ = some (.int .i64 by') := fun w' h => (h.cell (by omega)).trans r4
  have q5 : ∀ w', G W0 w' → w'.cell? ⟨w.heap.size + 1, 2, none⟩ = some (.int .i64 bz) := fun w' h => (h.cell (by omega)).trans r5
  clear r0 r1 r2 r3 r4 r5
  have hsm := small20_any ls A c w.heap.size W0 (by omega) hl hx (hs.g (Nat.le_refl _) hG0)
  replace hsm := Lib.hid hsm
  go_wp2_with fail
  refine Calls.mono hsm.out ?_
  rintro e w1 ⟨b1, rfl, hb1, hg1⟩
  clear hsm
  have hgw1 := hG0.trans hg1
  cases b1 with
  | false =>
    clear hb1
    have hawk := awake20_any w1 (hT.out.g (hgw1))
    replace hawk := Lib.hid hawk
    go_wp2_with fail
    refine Calls.mono hawk.out ?_
    rintro e w9 ⟨rfl, hg9⟩
    go_wp2_with fail
    go_ret
    exact ⟨rfl, (hgw1).trans hg9⟩
  | true =>
    obtain ⟨hl4, hl8⟩ := hb1 rfl
    clear hb1
    have hev := events_any 8000 own A3 co w.heap.size w1 hgw1.size (by omega) hox (hso.g (Nat.le_refl _) hgw1)
    replace hev := Lib.hid hev
    go_wp2_with fail
    refine Calls.mono hev.out ?_
    rintro e w2 ⟨rfl, hg2⟩
    clear hev
    have hgw2 := hgw1.trans hg2
    have hbulk : evBulk 8000 own ≤ 8000 → own.length ≤ 8000 ∧ ∀ x ∈ own, x.stream.size ≤ 8000 := fun h => by
      obtain ⟨h1, h2⟩ := evBulk_ge (by omega) h
      exact ⟨by omega, fun x hx => by have := h2 x hx; omega⟩
    generalize evBulk 8000 own = ob at *
    by_cases h1 : 8000 < ob
    · clear hbulk
      have hawk := awake20_any w2 (hT.out.g (hgw2))
      replace hawk := Lib.hid hawk
      go_wp2_with fail
      refine Calls.mono hawk.out ?_
      rintro e w9 ⟨rfl, hg9⟩
      go_wp2_with fail
      go_ret
      exact ⟨rfl, (hgw2).trans hg9⟩
    · obtain ⟨hol8, hos8⟩ := hbulk (by omega)
      clear hbulk
      by_cases h2 : a < 1
      · skip
        have hawk := awake20_any w2 (hT.out.g (hgw2))
        replace hawk := Lib.hid hawk
        go_wp2_with fail
        refine Calls.mono hawk.out ?_
        rintro e w9 ⟨rfl, hg9⟩
        go_wp2_with fail
        go_ret
        exact ⟨rfl, (hgw2).trans hg9⟩
      · by_cases h3 : 20 < a
        · skip
          have hawk := awake20_any w2 (hT.out.g (hgw2))
          replace hawk := Lib.hid hawk
          go_wp2_with fail
          refine Calls.mono hawk.out ?_
          rintro e w9 ⟨rfl, hg9⟩
          go_wp2_with fail
          go_ret
          exact ⟨rfl, (hgw2).trans hg9⟩
        · by_cases h4 : b < 1
          · skip
            have hawk := awake20_any w2 (hT.out.g (hgw2))
            replace hawk := Lib.hid hawk
            go_wp2_with fail
            refine Calls.mono hawk.out ?_
            rintro e w9 ⟨rfl, hg9⟩
            go_wp2_with fail
            go_ret
            exact ⟨rfl, (hgw2).trans hg9⟩
          · by_cases h5 : 20 < b
            · skip
              have hawk := awake20_any w2 (hT.out.g (hgw2))
              replace hawk := Lib.hid hawk
              go_wp2_with fail
              refine Calls.mono hawk.out ?_
              rintro e w9 ⟨rfl, hg9⟩
              go_wp2_with fail
              go_ret
              exact ⟨rfl, (hgw2).trans hg9⟩
            · have hgW2 := hg1.trans hg2
              have k0 := q0 _ hgW2
              have k1 := q1 _ hgW2
              have k2 := q2 _ hgW2
              have k3 := q3 _ hgW2
              have k4 := q4 _ hgW2
              have k5 := q5 _ hgW2
              replace hl8 := Lib.hid hl8
              replace hos8 := Lib.hid hos8
              go_wp2_with fail
              refine (refLess_any _ _ _ _ _ _ _).mono ?_
              rintro e w3 ⟨rfl, hg3⟩
              have hgw3 := hgw2.trans hg3
              clear k0 k1 k2 k3 k4 k5
              cases hlow : stLt ⟨bx, by', bz⟩ ⟨ax, ay, az⟩ with
              | true =>
                have hawk := awake20_any w3 (hT.out.g (hgw3))
                replace hawk := Lib.hid hawk
                go_wp2_with fail
                refine Calls.mono hawk.out ?_
                rintro e w9 ⟨rfl, hg9⟩
                go_wp2_with fail
                go_ret
                exact ⟨rfl, (hgw3).trans hg9⟩
              | false =>
                have hgW3 := hgW2.trans hg3
                clear hg1 hg2 hg3 hgw1 hgw2 hgW2
                replace hos8 := Lib.hid hos8
                have htl : evTally ls ≤ 32000 := by
                  have h6 := tally_le (ls := ls) (n := 8000) fun l hl => (hl8.out l hl).1
                  omega
                go_wp2_with fail
                go_loopw [15, 16] (fun t i wr => ∃ (j n : Nat), j ≤ ls.length ∧ i = .int .i64 j ∧ t = .int .i64 n ∧ n = own.length + evTally (ls.take j) ∧ Hid (∀ l ∈ ls.take j, ∀ x ∈ l.es, okE x) ∧ G W0 wr) (fun _ i _ => ls.length - (intOf i).toNat)
                case atStart => exact ⟨0, own.length, Nat.zero_le _, rfl, rfl, by simp [evTally], by simp [Hid], hgW3⟩
                case round =>
                  obtain ⟨j, n, hj, rfl, rfl, hn, hoks, hg⟩ := hrel
                  by_cases hlt : j < ls.length
                  · obtain ⟨⟨lA, lc, les⟩, hl1⟩ : ∃ l, ls[j]? = some l := ⟨_, List.getElem?_eq_getElem hlt⟩
                    obtain ⟨b0, o0, rfl, hb0, hcell, hok⟩ := hs.at_ (Nat.le_refl _) hl1
                    have hgw := hG0.trans hg
                    have hcw := hcell wr hgw
                    obtain ⟨hls, hlc, hlm⟩ := hok wr hgw
                    have hll := (hl8.out _ (List.mem_of_getElem? hl1)).1
                    have htk := evTally_take hl1
                    have htb := evTally_le ls (j + 1)
                    have hts := take_snoc hl1
                    dsimp only at hcw hls hlc hlm hcell hll htk
                    have hnb : n ≤ 40000 := by omega
                    have hn2 : n + les.length = own.length + evTally (ls.take (j + 1)) := by omega
                    have hnb2 : n + les.length ≤ 40000 := by omega
                    have hwr : IntKind.i64.wrap ((n : Int) + (les.length : Int)) = ((n + les.length : Nat) : Int) := by rw [IntKind.wrap_i64]; omega
                    replace hl1 := Lib.hid hl1
                    replace hts := Lib.hid hts
                    replace hn2 := Lib.hid hn2
                    clear hok hn htk htb
                    go_wp2_with fail
                    obtain ⟨wo, rfl⟩ : ∃ wo : World, wo = wr := ⟨_, rfl⟩
                    go_loopw [17] (fun i wr => ∃ (k : Nat), k ≤ les.length ∧ i = .int .i64 k ∧ Hid (∀ x ∈ les.take k, okE x) ∧ G wo wr) (fun i _ => les.length - (intOf i).toNat)
                    case atStart => exact ⟨0, Nat.zero_le _, rfl, by simp [Hid], G.refl _⟩
                    case round =>
                      obtain ⟨k, hk, rfl, hoke, hgo⟩ := hrel
                      have hcw2 := hcell wr (hgw.trans hgo)
                      by_cases hlk : k < les.length
                      · obtain ⟨⟨es, ev, ed, ⟨ex, ey, ez⟩, ei⟩, hx1⟩ : ∃ x, les[k]? = some x := ⟨_, List.getElem?_eq_getElem hlk⟩
                        have hxs1 := take_snoc hx1
                        obtain ⟨eb, eo, rfl, heb, c0, c1, c2, c3, c4, c5, c6⟩ := hls.evG hgw.size hx1
                        replace c3 := c3 _ hgo
                        replace c4 := c4 _ hgo
                        replace c5 := c5 _ hgo
                        replace hx1 := Lib.hid hx1
                        replace hxs1 := Lib.hid hxs1
                        have hsd := refSound_any ex ey ez wr
                        unfold stV at hsd
                        replace hsd := Lib.hid hsd
                        dsimp only at c0 c1 c2 c3 c4 c5 c6
                        have n1 : (0 : Int) ≤ (k : Int) := by omega
                        have n2 : (k : Int) < (les.length : Int) := by omega
                        have n3 : (0 : Int) ≤ (j : Int) := by omega
                        have n4 : (j : Int) < (ls.length : Int) := by omega
                        go_wp2_with fail
                        refine Calls.mono hsd.out ?_
                        rintro e w5 ⟨rfl, hg5⟩
                        have hgo5 := hgo.trans hg5
                        have hgw5 := hgw.trans hgo5
                        have hcw5 := hcell w5 hgw5
                        have c6' := c6 _ hgo5
                        clear hsd c0 c1 c2 c3 c4 c5 c6
                        cases hso5 : soundB ex ey ez with
                        | false =>
                          have hawk := awake20_any w5 (hT.out.g (hgw5))
                          replace hawk := Lib.hid hawk
                          go_wp2_with fail
                          refine Calls.mono hawk.out ?_
                          rintro e w9 ⟨rfl, hg9⟩
                          go_wp2_with fail
                          go_ret
                          exact ⟨rfl, (hgw5).trans hg9⟩
                        | true =>
                          by_cases hei : ei < 0
                          · skip
                            have hawk := awake20_any w5 (hT.out.g (hgw5))
                            replace hawk := Lib.hid hawk
                            go_wp2_with fail
                            refine Calls.mono hawk.out ?_
                            rintro e w9 ⟨rfl, hg9⟩
                            go_wp2_with fail
                            go_ret
                            exact ⟨rfl, (hgw5).trans hg9⟩
                          · have hok2 : ∀ x ∈ les.take (k + 1), okE x := by
                              rw [hxs1.out]
                              intro x hx
                              rcases List.mem_append.1 hx with h | h
                              · exact hoke.out x h
                              · rw [List.mem_singleton] at h; subst h; exact ⟨hso5, by dsimp only; omega⟩
                            replace hok2 := Lib.hid hok2
                            replace hso5 := Lib.hid hso5
                            go_wp2_with fail
                            go_roundw
                            case rel => exact ⟨k + 1, by omega, by go_num, hok2, hgo5⟩
                            case measure => simp [intOf]; omega
                      · rw [List.take_of_length_le (by omega)] at hoke
                        have hok2 : ∀ l ∈ ls.take (j + 1), ∀ x ∈ l.es, okE x := by
                          rw [hts.out]
                          intro l hl
                          rcases List.mem_append.1 hl with h | h
                          · exact hoks.out l h
                          · rw [List.mem_singleton] at h; subst h; exact hoke.out
                        replace hok2 := Lib.hid hok2
                        go_wp2_with fail
                        go_roundw
                        case rel => exact ⟨j + 1, n + les.length, by omega, by go_num, rfl, hn2.out, hok2, hg.trans hgo⟩
                        case measure => simp [intOf]; omega
                  · obtain rfl : j = ls.length := by omega
                    rw [List.take_length] at hoks hn
                    have hgw := hG0.trans hg
                    replace hn := Lib.hid hn
                    go_wp2_with fail
                    obtain ⟨wo, rfl⟩ : ∃ wo : World, wo = wr := ⟨_, rfl⟩
                    go_loopw [18] (fun i wr => ∃ (k : Nat), k ≤ own.length ∧ i = .int .i64 k ∧ Hid (∀ x ∈ own.take k, okE x) ∧ G wo wr) (fun i _ => own.length - (intOf i).toNat)
                    case atStart => exact ⟨0, Nat.zero_le _, rfl, by simp [Hid], G.refl _⟩
                    case round =>
                      obtain ⟨k, hk, rfl, hoke, hgo⟩ := hrel
                      by_cases hlk : k < own.length
                      · obtain ⟨⟨es, ev, ed, ⟨ex, ey, ez⟩, ei⟩, hx1⟩ : ∃ x, own[k]? = some x := ⟨_, List.getElem?_eq_getElem hlk⟩
                        have hxs1 := take_snoc hx1
                        obtain ⟨eb, eo, rfl, heb, c0, c1, c2, c3, c4, c5, c6⟩ := (hso.g (Nat.le_refl _) (hgw.trans hgo)).evG (hgw.trans hgo).size hx1
                        replace c3 := c3 _ (G.refl _)
                        replace c4 := c4 _ (G.refl _)
                        replace c5 := c5 _ (G.refl _)
                        replace hx1 := Lib.hid hx1
                        replace hxs1 := Lib.hid hxs1
                        have hsd := refSound_any ex ey ez wr
                        unfold stV at hsd
                        replace hsd := Lib.hid hsd
                        dsimp only at c0 c1 c2 c3 c4 c5 c6
                        have n1 : (0 : Int) ≤ (k : Int) := by omega
                        have n2 : (k : Int) < (own.length : Int) := by omega
                        go_wp2_with fail
                        refine Calls.mono hsd.out ?_
                        rintro e w5 ⟨rfl, hg5⟩
                        have hgo5 := hgo.trans hg5
                        have hgw5 := hgw.trans hgo5
                        have c6' := c6 _ hg5
                        clear hsd c0 c1 c2 c3 c4 c5 c6
                        cases hso5 : soundB ex ey ez with
                        | false =>
                          have hawk := awake20_any w5 (hT.out.g (hgw5))
                          replace hawk := Lib.hid hawk
                          go_wp2_with fail
                          refine Calls.mono hawk.out ?_
                          rintro e w9 ⟨rfl, hg9⟩
                          go_wp2_with fail
                          go_ret
                          exact ⟨rfl, (hgw5).trans hg9⟩
                        | true =>
                          by_cases hei : ei < 0
                          · skip
                            have hawk := awake20_any w5 (hT.out.g (hgw5))
                            replace hawk := Lib.hid hawk
                            go_wp2_with fail
                            refine Calls.mono hawk.out ?_
                            rintro e w9 ⟨rfl, hg9⟩
                            go_wp2_with fail
                            go_ret
                            exact ⟨rfl, (hgw5).trans hg9⟩
                          · have hok2 : ∀ x ∈ own.take (k + 1), okE x := by
                              rw [hxs1.out]
                              intro x hx
                              rcases List.mem_append.1 hx with h | h
                              · exact hoke.out x h
                              · rw [List.mem_singleton] at h; subst h; exact ⟨hso5, by dsimp only; omega⟩
                            replace hok2 := Lib.hid hok2
                            replace hso5 := Lib.hid hso5
                            go_wp2_with fail
                            go_roundw
                            case rel => exact ⟨k + 1, by omega, by go_num, hok2, hgo5⟩
                            case measure => simp [intOf]; omega
                      · rw [List.take_of_length_le (by omega)] at hoke
                        have hgo2 := hg.trans hgo
                        have hgw2 := hG0.trans hgo2
                        have hnb : n ≤ 40000 := by have := hn.out; omega
                        clear hg hgw hgo
                        by_cases hn100 : 100 < (n : Int)
                        · skip
                          have hawk := awake20_any wr (hT.out.g (hgw2))
                          replace hawk := Lib.hid hawk
                          go_wp2_with fail
                          refine Calls.mono hawk.out ?_
                          rintro e w9 ⟨rfl, hg9⟩
                          go_wp2_with fail
                          go_ret
                          exact ⟨rfl, (hgw2).trans hg9⟩
                        · have htw := twins_any ls A c w.heap.size own A3 co wr hgw2.size hl (by omega) (by omega) (hs.g (Nat.le_refl _) hgw2) (hso.g (Nat.le_refl _) hgw2)
                          replace htw := Lib.hid htw
                          go_wp2_with fail
                          refine Calls.mono htw.out ?_
                          rintro e w5 ⟨b5, rfl, hap, hg5⟩
                          clear htw
                          have hgw5 := hgw2.trans hg5
                          cases b5 with
                          | true =>
                            clear hap
                            have hawk := awake20_any w5 (hT.out.g (hgw5))
                            replace hawk := Lib.hid hawk
                            go_wp2_with fail
                            refine Calls.mono hawk.out ?_
                            rintro e w9 ⟨rfl, hg9⟩
                            go_wp2_with fail
                            go_ret
                            exact ⟨rfl, (hgw5).trans hg9⟩
                          | false =>
                            replace hap := hap rfl
                            have hmk := made_any ls A c w.heap.size xs A2 cx w5 hgw5.size hl4 (fun l hl => (hl8.out l hl).1) (hs.g (Nat.le_refl _) hgw5) hxl (hxs.g (Nat.le_refl _) hgw5)
                            have hgo5 := hgo2.trans hg5
                            replace hap := Lib.hid hap
                            replace hmk := Lib.hid hmk
                            go_wp2_with fail
                            refine Calls.mono hmk.out ?_
                            rintro e w6 ⟨T, g, ct, T2, g2, c2, ps, ms, rfl, ht, _, hp, _, hg6⟩
                            have hgo6 := hgo5.trans hg6
                            have hgw6 := hgw5.trans hg6
                            clear hmk hgo5 hg6 hgw5 hgo2 hg5 hgw2
                            have hall : ∀ y, inLogs (⟨A3, co, own⟩ :: ls) y → okE y := by
                              rintro y ⟨l, hl, hy⟩
                              rcases List.mem_cons.1 hl with rfl | hl
                              · exact hoke.out y hy
                              · exact hoks.out l hl y hy
                            have hL := made_L hp A3 co own
                            have hdi : Dist (inLogs (⟨A3, co, own⟩ :: ls)) := dist_of (by rw [allEvs_cons]; exact hap.out)
                            have hpl6 : ps.length ≤ 6 := by rw [hp.len]; omega
                            have hpe : ∀ p ∈ ps, p.es.length ≤ 8000 := hp.all (Q := fun es => es.length ≤ 8000) (by simp) fun l hl => (hl8.out l hl).1
                            have hpst : ∀ q ∈ ps, ∀ x ∈ q.es, x.stream.size ≤ 1073741824 := hp.all (Q := fun es => ∀ x ∈ es, x.stream.size ≤ 1073741824) (by simp) fun l hl x hx => by have := (hl8.out l hl).2 x hx; omega
                            have hos30 : ∀ x ∈ own, x.stream.size ≤ 1073741824 := fun x hx => by have := hos8.out.out x hx; omega
                            generalize hLg : ((⟨A3, co, own⟩ : LogM) :: ls) = L at *
                            replace hlow := Lib.hid hlow
                            clear hLg hap hoke hoks hn hl8 hos8 hp
                            obtain ⟨lo, hlo⟩ : ∃ lo, wmOf ⟨ax, ay, az⟩ ((ps.drop 2).map (·.mark)) = lo := ⟨_, rfl⟩
                            obtain ⟨hi, hhi⟩ : ∃ hi, wmOf ⟨bx, by', bz⟩ ((ps.drop 2).map (·.mark)) = hi := ⟨_, rfl⟩
                            have hmono : stLt hi lo = false := by rw [← hlo, ← hhi]; exact wmOf_mono _ hlow.out
                            have hpa : ∀ w', G w6 w' → ∀ (c1 c2 c3 c4 : Int) (c5 : ByteArray), pollOk st1 ⟨⟨c1, c2, c3⟩, c4, c5⟩ a = true → Calls Tryd.prog 12 #[.pointer (some ⟨T, 0, none⟩), .slice A3 own.length co, .agg #[.int .i64 ax, .int .i64 ay, .int .i64 az], .agg #[.int .i64 c1, .int .i64 c2, .int .i64 c3, .int .i64 c4, .string c5], .string st1, .int .i64 a] w' (PollPost (mergeF L lo ⟨⟨c1, c2, c3⟩, c4, c5⟩) st1 ⟨⟨c1, c2, c3⟩, c4, c5⟩ a w') := fun w' hg c1 c2 c3 c4 c5 hok => by
                              have := poll_any (ht.grow hg) hpl6 hpe hpst own A3 co w.heap.size (hgw6.trans hg).size (hso.g (Nat.le_refl _) (hgw6.trans hg)) hol8 hoc hoc2 hos30 ax ay az c1 c2 c3 c4 c5 st1 a (by decide) (hT.out.g (hgw6.trans hg)) hok L hL
                              rwa [hlo] at this
                            have hpb : ∀ w', G w6 w' → ∀ (c1 c2 c3 c4 : Int) (c5 : ByteArray), pollOk st1 ⟨⟨c1, c2, c3⟩, c4, c5⟩ b = true → Calls Tryd.prog 12 #[.pointer (some ⟨T, 0, none⟩), .slice A3 own.length co, .agg #[.int .i64 bx, .int .i64 by', .int .i64 bz], .agg #[.int .i64 c1, .int .i64 c2, .int .i64 c3, .int .i64 c4, .string c5], .string st1, .int .i64 b] w' (PollPost (mergeF L hi ⟨⟨c1, c2, c3⟩, c4, c5⟩) st1 ⟨⟨c1, c2, c3⟩, c4, c5⟩ b w') := fun w' hg c1 c2 c3 c4 c5 hok => by
                              have := poll_any (ht.grow hg) hpl6 hpe hpst own A3 co w.heap.size (hgw6.trans hg).size (hso.g (Nat.le_refl _) (hgw6.trans hg)) hol8 hoc hoc2 hos30 bx by' bz c1 c2 c3 c4 c5 st1 b (by decide) (hT.out.g (hgw6.trans hg)) hok L hL
                              rwa [hhi] at this
                            clear ht hL hpe hpst hos30 hlo hhi hlow hpl6 hs hxs hso hx hox hxl
                            replace hpa := Lib.hid hpa
                            replace hpb := Lib.hid hpb
                            replace hall := Lib.hid hall
                            replace hdi := Lib.hid hdi
                            go_upto_region 25 with fail
                            have hC : ((w6.alloc (.cells #[.int .i64 0, .int .i64 0, .int .i64 0, .int .i64 0, .string ⟨#[]⟩] 38)).alloc (.cells #[.int .i64 0, .int .i64 0, .int .i64 0, .int .i64 0, .string ⟨#[]⟩] 38)).heap[w6.heap.size]? = some (.cells (cuCs (curOf cu0 [])) 38 (0, 0)) := (G.new _ _).blk (blk_new w6 _ _)
                            have hD : ((w6.alloc (.cells #[.int .i64 0, .int .i64 0, .int .i64 0, .int .i64 0, .string ⟨#[]⟩] 38)).alloc (.cells #[.int .i64 0, .int .i64 0, .int .i64 0, .int .i64 0, .string ⟨#[]⟩] 38)).heap[w6.heap.size + 1]? = some (.cells (cuCs (curOf cu0 [])) 38 (0, 0)) := blk_new' _ _ _ _ (by simp)
                            have hg67 : G w6 ((w6.alloc (.cells #[.int .i64 0, .int .i64 0, .int .i64 0, .int .i64 0, .string ⟨#[]⟩] 38)).alloc (.cells #[.int .i64 0, .int .i64 0, .int .i64 0, .int .i64 0, .string ⟨#[]⟩] 38)) := (G.new _ _).alloc _
                            generalize ((w6.alloc (.cells #[.int .i64 0, .int .i64 0, .int .i64 0, .int .i64 0, .string ⟨#[]⟩] 38)).alloc (.cells #[.int .i64 0, .int .i64 0, .int .i64 0, .int .i64 0, .string ⟨#[]⟩] 38)) = w7 at *
                            replace hC := Lib.hid hC
                            replace hD := Lib.hid hD
                            go_wp2_with fail
                            go_loopw [21, 22, 25] (fun u v i wr => ∃ (j : Nat) (PA PB : List Ev), j ≤ 5 ∧ i = .int .i64 j ∧ Hid (Subs L lo w6 w6.heap.size PA u wr) ∧ Hid (Subs L hi w6 (w6.heap.size + 1) PB v wr) ∧ Hid (SepV u v) ∧ PA.length ≤ 100 * j ∧ PB.length ≤ 100 * j ∧ G w6 wr) (fun _ _ i _ => 5 - (intOf i).toNat)
                            case atStart => exact ⟨0, [], [], by omega, rfl, ⟨Ini.none _, OwnL.nil, hC.out⟩, ⟨Ini.none _, OwnL.nil, hD.out⟩, SepV.none _, by simp, by simp, hg67⟩
                            case round =>
                              clear hC hD hg67
                              obtain ⟨j, PA, PB, hj, rfl, hSA, hSB, hsep, hla, hlb, hg⟩ := hrel
                              have hgW := hgo6.trans hg
                              by_cases hlt : j < 5
                              · obtain ⟨⟨⟨c1, c2, c3⟩, c4, c5⟩, hcA⟩ : ∃ q, curOf cu0 PA = q := ⟨_, rfl⟩
                                obtain ⟨⟨⟨e1, e2, e3⟩, e4, e5⟩, hcB⟩ : ∃ q, curOf cu0 PB = q := ⟨_, rfl⟩
                                have hCw := hSA.out.cur
                                have hDw := hSB.out.cur
                                rw [hcA] at hCw
                                rw [hcB] at hDw
                                have okA := cur_ok hSA.out.ini hall.out hcA (show 1 ≤ a by omega) (by omega)
                                have okB := cur_ok hSB.out.ini hall.out hcB (show 1 ≤ b by omega) (by omega)
                                have hpo1 := hpa.out wr hg c1 c2 c3 c4 c5 okA
                                have k0 := (blk_cell hCw 0).trans (show _ = some (Value.int .i64 c1) from rfl)
                                have k1 := (blk_cell hCw 1).trans (show _ = some (Value.int .i64 c2) from rfl)
                                have k2 := (blk_cell hCw 2).trans (show _ = some (Value.int .i64 c3) from rfl)
                                have k3 := (blk_cell hCw 3).trans (show _ = some (Value.int .i64 c4) from rfl)
                                have k4 := (blk_cell hCw 4).trans (show _ = some (Value.string c5) from rfl)
                                have r0 := q0 _ hgW
                                have r1 := q1 _ hgW
                                have r2 := q2 _ hgW
                                replace hpo1 := Lib.hid hpo1
                                replace hCw := Lib.hid hCw
                                replace hDw := Lib.hid hDw
                                replace hcA := Lib.hid hcA
                                replace hcB := Lib.hid hcB
                                replace okB := Lib.hid okB
                                replace okA := Lib.hid okA
                                go_wp2_with fail
                                refine Calls.mono hpo1.out ?_
                                rintro e w8 ⟨o1, P1, m1, hf1, he1, hown1, hg8⟩
                                clear hpo1 k0 k1 k2 k3 k4 r0 r1 r2
                                obtain ⟨⟨⟨f1, f2, f3⟩, f4, f5⟩, hcA1⟩ : ∃ q, curOf ⟨⟨c1, c2, c3⟩, c4, c5⟩ o1 = q := ⟨_, rfl⟩
                                rw [hcA1] at he1
                                obtain ⟨z1, hz1⟩ : ∃ z, onlyL st1 o1 = z := ⟨_, rfl⟩
                                have hol1 : o1.length ≤ 100 := first_len hf1 (by omega)
                                have hzl1 : z1.length ≤ 100 := by rw [← hz1]; exact Nat.le_trans (onlyL_len _ _) hol1
                                rw [hz1] at he1 hown1
                                have he1' : e = .returned (.tuple #[.slice P1 z1.length m1, .agg #[.int .i64 f1, .int .i64 f2, .int .i64 f3, .int .i64 f4, .string f5], .int .i64 0]) := he1
                                subst he1'
                                clear he1
                                have hF9 := blk_new w8 #[.int .i64 f1, .int .i64 f2, .int .i64 f3, .int .i64 f4, .string f5] 38
                                have hg89 := G.new w8 (.cells #[.int .i64 f1, .int .i64 f2, .int .i64 f3, .int .i64 f4, .string f5] 38)
                                have hr9 := hg8.trans hg89
                                have hpo2 := hpb.out _ (hg.trans hr9) e1 e2 e3 e4 e5 okB.out
                                have hD9 := hr9.blk hDw.out
                                have k0 := (blk_cell hD9 0).trans (show _ = some (Value.int .i64 e1) from rfl)
                                have k1 := (blk_cell hD9 1).trans (show _ = some (Value.int .i64 e2) from rfl)
                                have k2 := (blk_cell hD9 2).trans (show _ = some (Value.int .i64 e3) from rfl)
                                have k3 := (blk_cell hD9 3).trans (show _ = some (Value.int .i64 e4) from rfl)
                                have k4 := (blk_cell hD9 4).trans (show _ = some (Value.string e5) from rfl)
                                have r3 := q3 _ (hgW.trans hr9)
                                have r4 := q4 _ (hgW.trans hr9)
                                have r5 := q5 _ (hgW.trans hr9)
                                have hF8 : w8.heap.size < (w8.alloc (.cells #[.int .i64 f1, .int .i64 f2, .int .i64 f3, .int .i64 f4, .string f5] 38)).heap.size := by simp
                                replace hpo2 := Lib.hid hpo2
                                replace hF9 := Lib.hid hF9
                                replace hcA1 := Lib.hid hcA1
                                replace hz1 := Lib.hid hz1
                                replace hf1 := Lib.hid hf1
                                clear hD9
                                go_upto_region 29 with fail
                                generalize (w8.alloc (.cells #[.int .i64 f1, .int .i64 f2, .int .i64 f3, .int .i64 f4, .string f5] 38)) = w9 at *
                                go_wp2_with fail
                                refine Calls.mono hpo2.out ?_
                                rintro e w10 ⟨o2, P2, m2, hf2, he2, hown2, hg10⟩
                                clear hpo2 k0 k1 k2 k3 k4 r3 r4 r5
                                obtain ⟨⟨⟨g1', g2', g3'⟩, g4', g5'⟩, hcB1⟩ : ∃ q, curOf ⟨⟨e1, e2, e3⟩, e4, e5⟩ o2 = q := ⟨_, rfl⟩
                                rw [hcB1] at he2
                                obtain ⟨z2, hz2⟩ : ∃ z, onlyL st1 o2 = z := ⟨_, rfl⟩
                                have hol2 : o2.length ≤ 100 := first_len hf2 (by omega)
                                have hzl2 : z2.length ≤ 100 := by rw [← hz2]; exact Nat.le_trans (onlyL_len _ _) hol2
                                rw [hz2] at he2 hown2
                                have he2' : e = .returned (.tuple #[.slice P2 z2.length m2, .agg #[.int .i64 g1', .int .i64 g2', .int .i64 g3', .int .i64 g4', .string g5'], .int .i64 0]) := he2
                                subst he2'
                                clear he2
                                have hG11 := blk_new w10 #[.int .i64 g1', .int .i64 g2', .int .i64 g3', .int .i64 g4', .string g5'] 38
                                have hg1011 := G.new w10 (.cells #[.int .i64 g1', .int .i64 g2', .int .i64 g3', .int .i64 g4', .string g5'] 38)
                                replace hG11 := Lib.hid hG11
                                replace hcB1 := Lib.hid hcB1
                                replace hz2 := Lib.hid hz2
                                replace hf2 := Lib.hid hf2
                                go_upto_region 32 with fail
                                generalize (w10.alloc (.cells #[.int .i64 g1', .int .i64 g2', .int .i64 g3', .int .i64 g4', .string g5'] 38)) = w11 at *
                                have hr11 := hr9.trans (hg10.trans hg1011)
                                have hRX := hSA.out.row.g hr11
                                have hRY := hSB.out.row.g hr11
                                have hZ1 := hown1.g (hg89.trans (hg10.trans hg1011))
                                have hZ2 := hown2.g hg1011
                                have hs1 := hZ1.self Ev.cells_len
                                have hn1 : P1 = none → z1 = [] := fun e => by subst e; exact hs1.of_none
                                have hla2 : (onlyL st1 PA).length ≤ 500 := Nat.le_trans (onlyL_len _ _) (by omega)
                                have hlb2 : (onlyL st1 PB).length ≤ 500 := Nat.le_trans (onlyL_len _ _) (by omega)
                                have hz611 := (hg.trans hr11).size
                                replace hRX := Lib.hid hRX
                                replace hRY := Lib.hid hRY
                                replace hZ1 := Lib.hid hZ1
                                replace hZ2 := Lib.hid hZ2
                                replace hn1 := Lib.hid hn1
                                replace hs1 := Lib.hid hs1
                                replace hown1 := Lib.hid hown1
                                replace hown2 := Lib.hid hown2
                                go_upto_region 33 with (at_builtin; refine wpList_append_w ev_elem _ rfl (.tmp 177) (.tmp 178) rfl w6.heap.size u21 (onlyL st1 PA) rfl hRX.out w11.heap.size P1 m1 z1 rfl hn1.out hs1.out (by omega) (by omega) hz611 ?_; intro u' w12 hRX' hk12 hb12 hw12)
                                have hRY12 := hRY.out.but' hb12 fun k hk e => hsep.out k e.symm hk
                                have hZ212 := hZ2.out.but' hb12 fun k hk e => by
                                  have h1 := (hZ2.out.blk hk).1
                                  have h2 := (hSA.out.row.blk e.symm).2.1
                                  have h3 := hr9.size
                                  omega
                                have hs2 := hZ212.self Ev.cells_len
                                have hn2 : P2 = none → z2 = [] := fun e => by subst e; exact hs2.of_none
                                have hC12 := hk12.2 _ _ _ _ (by decide) (hr11.blk hCw.out)
                                have hD12 := hk12.2 _ _ _ _ (by decide) (hr11.blk hDw.out)
                                have hF12 := hk12.2 _ _ _ _ (by decide) ((hg10.trans hg1011).blk hF9.out)
                                have hG12 := hk12.2 _ _ _ _ (by decide) hG11.out
                                have hg12 : G w6 w12 := hk12.g (hg.trans hr11)
                                have hz612 := hg12.size
                                replace hRX' := Lib.hid hRX'
                                replace hRY12 := Lib.hid hRY12
                                replace hs2 := Lib.hid hs2
                                replace hn2 := Lib.hid hn2
                                replace hC12 := Lib.hid hC12
                                replace hD12 := Lib.hid hD12
                                replace hF12 := Lib.hid hF12
                                replace hG12 := Lib.hid hG12
                                replace hb12 := Lib.hid hb12
                                replace hw12 := Lib.hid hw12
                                clear hk12 hZ212
                                go_upto_region 34 with (at_builtin; refine wpList_append_w ev_elem _ rfl (.tmp 180) (.tmp 181) rfl w6.heap.size u22 (onlyL st1 PB) rfl hRY12.out w12.heap.size P2 m2 z2 rfl hn2.out hs2.out (by omega) (by omega) hz612 ?_; intro v' w13 hRY' hk13 hb13 hw13; have hC13 := hk13.2 _ _ _ _ (by decide) hC12.out; have hD13 := hk13.2 _ _ _ _ (by decide) hD12.out; have hF13 := hk13.2 _ _ _ _ (by decide) hF12.out; have hG13 := hk13.2 _ _ _ _ (by decide) hG12.out; have hg13 : G w6 w13 := hk13.g hg12; obtain ⟨w14, SR14, C14, hb14, hG14⟩ := store_blk (P := Tryd.prog) (T := 38) (cs := #[.int .i64 f1, .int .i64 f2, .int .i64 f3, .int .i64 f4, .string f5]) hC13 rfl (by kernel_rfl) (by kernel_rfl); have hg14 := hG14 _ hg13 (Nat.le_refl _); have hD14 := hb14.blk hD13 (by omega); have hFne : ¬ w8.heap.size = w6.heap.size := (by have := (hg.trans hg8).size; have := blk_lt hC13; have := blk_lt hCw.out; have := hg8.size; omega); have hGne : ¬ w10.heap.size = w6.heap.size := (by have := blk_lt hCw.out; have := hr9.size; have := hg10.size; omega); have hGne2 : ¬ w10.heap.size = w6.heap.size + 1 := (by have := blk_lt hDw.out; have := hr9.size; have := hg10.size; omega); have hG14b := hb14.blk hG13 hGne; obtain ⟨w15, SR15, D15, hb15, hG15⟩ := store_blk (P := Tryd.prog) (T := 38) (cs := #[.int .i64 g1', .int .i64 g2', .int .i64 g3', .int .i64 g4', .string g5']) hD14 rfl (by kernel_rfl) (by kernel_rfl); have hg15 := hG15 _ hg14 (Nat.le_succ _); have C15 := hb15.blk C14 (by omega); have j0 := (blk_cell hF13 0).trans (show _ = some (Value.int .i64 f1) from rfl); have j1 := (blk_cell hF13 1).trans (show _ = some (Value.int .i64 f2) from rfl); have j2 := (blk_cell hF13 2).trans (show _ = some (Value.int .i64 f3) from rfl); have j3 := (blk_cell hF13 3).trans (show _ = some (Value.int .i64 f4) from rfl); have j4 := (blk_cell hF13 4).trans (show _ = some (Value.string f5) from rfl); have i0 := (blk_cell hG14b 0).trans (show _ = some (Value.int .i64 g1') from rfl); have i1 := (blk_cell hG14b 1).trans (show _ = some (Value.int .i64 g2') from rfl); have i2 := (blk_cell hG14b 2).trans (show _ = some (Value.int .i64 g3') from rfl); have i3 := (blk_cell hG14b 3).trans (show _ = some (Value.int .i64 g4') from rfl); have i4 := (blk_cell hG14b 4).trans (show _ = some (Value.string g5') from rfl); replace hC13 := Lib.hid hC13; replace hD13 := Lib.hid hD13; replace hD14 := Lib.hid hD14; replace hF13 := Lib.hid hF13; replace hG13 := Lib.hid hG13; replace hG14b := Lib.hid hG14b; replace C15 := Lib.hid C15; replace D15 := Lib.hid D15; replace C14 := Lib.hid C14; replace hRY' := Lib.hid hRY'; replace hb13 := Lib.hid hb13; replace hw13 := Lib.hid hw13; replace hb14 := Lib.hid hb14; replace hb15 := Lib.hid hb15; clear hk13)
                                have hsep13 : ∀ k, u'.ownBlock = some k → some k ≠ u22.ownBlock := by
                                  intro k hk e
                                  rcases hw12.out with h | h
                                  · exact hsep.out k (by rw [← h]; exact hk) e.symm
                                  · rw [h] at hk
                                    cases hk
                                    have h1 := (hSB.out.row.blk e.symm).2.1
                                    have h2 := hr11.size
                                    omega
                                have hRX13 := hRX'.out.but' hb13.out fun k hk e => hsep13 k hk e
                                have hsepN : SepV u' v' := by
                                  intro k hk hk2
                                  rcases hw13.out with h | h
                                  · exact hsep13 k hk (by rw [← h]; exact hk2.symm)
                                  · rw [h] at hk2
                                    cases hk2
                                    have h1 := (hRX'.out.blk hk).2.1
                                    omega
                                have hRX14 := hRX13.but' hb14.out fun k hk e => by subst e; exact row_type hRX13 hk hC13.out (by decide)
                                have hRX15 := hRX14.but' hb15.out fun k hk e => by subst e; exact row_type hRX14 hk hD14.out (by decide)
                                have hRY14 := hRY'.out.but' hb14.out fun k hk e => by subst e; exact row_type hRY'.out hk hC13.out (by decide)
                                have hRY15 := hRY14.but' hb15.out fun k hk e => by subst e; exact row_type hRY14 hk hD14.out (by decide)
                                have hf1' := hf1.out
                                rw [← hcA.out] at hf1'
                                have hf2' := hf2.out
                                rw [← hcB.out] at hf2'
                                have hNA : Subs L lo w6 w6.heap.size (PA ++ o1) u' w15 := ⟨hSA.out.ini.next hdi.out hf1', by rw [onlyL_app, hz1.out]; exact hRX15, by rw [curOf_append, hcA.out, hcA1.out]; exact C15.out⟩
                                have hNB : Subs L hi w6 (w6.heap.size + 1) (PB ++ o2) v' w15 := ⟨hSB.out.ini.next hdi.out hf2', by rw [onlyL_app, hz2.out]; exact hRY15, by rw [curOf_append, hcB.out, hcB1.out]; exact D15.out⟩
                                have hla3 : (PA ++ o1).length ≤ 100 * (j + 1) := by rw [List.length_append]; omega
                                have hlb3 : (PB ++ o2).length ≤ 100 * (j + 1) := by rw [List.length_append]; omega
                                replace hNA := Lib.hid hNA
                                replace hNB := Lib.hid hNB
                                replace hsepN := Lib.hid hsepN
                                replace hla3 := Lib.hid hla3
                                replace hlb3 := Lib.hid hlb3
                                clear hRX13 hRX14 hRX15 hRY14 hRY15 hf1' hf2' hsep13
                                go_upto_region 35 with (refine wpList_store_at (ty := 38) (x := .tmp 23) rfl (by kernel_rfl) (p := .pointer (some ⟨w6.heap.size, 0, none⟩)) (v := .agg #[.int .i64 f1, .int .i64 f2, .int .i64 f3, .int .i64 f4, .string f5]) rfl rfl SR14 ?_; clear SR14)
                                go_wp2_with (refine wpList_store_at (ty := 38) (x := .tmp 24) rfl (by kernel_rfl) (p := .pointer (some ⟨w6.heap.size + 1, 0, none⟩)) (v := .agg #[.int .i64 g1', .int .i64 g2', .int .i64 g3', .int .i64 g4', .string g5']) rfl rfl SR15 ?_; clear SR15)
                                go_roundw
                                case rel => exact ⟨j + 1, PA ++ o1, PB ++ o2, by omega, by go_num, hNA, hNB, hsepN, hla3.out, hlb3.out, hg15⟩
                                case measure => simp [intOf]; omega
                              · have hj5 : ¬ (j : Int) < 5 := by omega
                                obtain ⟨xA, mx, e, hlx, hmx, hsx⟩ := OwnL.sl Ev.cells_len hSA.out.row
                                subst e
                                obtain ⟨yA, my, e, hly, hmy, hsy⟩ := OwnL.sl Ev.cells_len hSB.out.row
                                subst e
                                have hsoA : sortedB (onlyL st1 PA) = true := hSA.out.ini.sorted (fun x => matchB st1 x.stream) hdi.out
                                have hsoB : sortedB (onlyL st1 PB) = true := hSB.out.ini.sorted (fun x => matchB st1 x.stream) hdi.out
                                have hboth : (onlyL st1 PA).take (min (onlyL st1 PA).length (onlyL st1 PB).length) = (onlyL st1 PB).take (min (onlyL st1 PA).length (onlyL st1 PB).length) := (hSA.out.ini.up hmono).both (fun x => matchB st1 x.stream) hSB.out.ini
                                have hlax : (onlyL st1 PA).length ≤ 500 := Nat.le_trans (onlyL_len _ _) (by omega)
                                have hlay : (onlyL st1 PB).length ≤ 500 := Nat.le_trans (onlyL_len _ _) (by omega)
                                clear hSA hSB hsep
                                generalize onlyL st1 PA = X at *
                                generalize onlyL st1 PB = Y at *
                                have hso1 := refSorted_any X xA mx wr.heap.size wr (Nat.le_refl _) (by omega) hsx
                                have hso2 := fun w' (hg : G wr w') => refSorted_any Y yA my wr.heap.size w' hg.size (by omega) (hsy.g (Nat.le_refl _) hg)
                                rw [hsoA] at hso1
                                rw [hsoB] at hso2
                                replace hso1 := Lib.hid hso1
                                replace hso2 := Lib.hid hso2
                                go_wp2_with fail
                                refine Calls.mono hso1.out ?_
                                rintro e w8 ⟨rfl, hg8⟩
                                go_wp2_with fail
                                refine Calls.mono (hso2.out _ hg8) ?_
                                rintro e w9 ⟨rfl, hg9⟩
                                clear hso1 hso2
                                have hg89 := hg8.trans hg9
                                go_upto_region 39 with fail
                                have hgr := hg89
                                obtain ⟨kn, hkn⟩ : ∃ kn, min X.length Y.length = kn := ⟨_, rfl⟩
                                have hk1 : kn ≤ X.length := by omega
                                have hk2 : kn ≤ Y.length := by omega
                                rw [hkn] at hboth
                                have hmi : min (X.length : Int) (Y.length : Int) = (kn : Int) := by omega
                                have htk : (X.take kn).length = kn := by rw [List.length_take]; omega
                                have n1 : (0 : Int) ≤ (kn : Int) := by omega
                                have n2 : (kn : Int) ≤ (mx : Int) := by omega
                                have n3 : (kn : Int) ≤ (my : Int) := by omega
                                have hse : ∀ w', G w9 w' → Calls Tryd.prog 19 #[.slice xA kn mx, .slice yA kn my] w' fun e w'' => e = .returned (.bool true) ∧ G w' w'' := fun w' hg' => by
                                  have h7 := (hgr.trans hg').size
                                  have h8 := sameEvents_self (X.take kn) xA yA mx my wr.heap.size w' h7 (by rw [htk]; omega) ((hsx.g (Nat.le_refl _) (hgr.trans hg')).take kn) (by rw [hboth]; exact (hsy.g (Nat.le_refl _) (hgr.trans hg')).take kn)
                                  rwa [htk] at h8
                                have hgw9 : G w w9 := hgw6.trans (hg.trans hgr)
                                have hawk : ∀ w', G w9 w' → Calls Tryd.prog 9 #[] w' fun e w'' => e = .returned (.bool true) ∧ G w' w'' := fun w' hg' => awake20_any w' (hT.out.g (hgw9.trans hg'))
                                replace hse := Lib.hid hse
                                replace hawk := Lib.hid hawk
                                replace htk := Lib.hid htk
                                replace hkn := Lib.hid hkn
                                clear hboth hsx hsy hsoA hsoB hlax hlay
                                rw [hmi]
                                go_region_held3 (fun w' => G w9 w') (first | exact (G.refl _).drew | exact hgm.keep (by assumption) | fail)
                                  (first
                                    | (go_at_call 19; (with_reducible refine Calls.mono (hse.out _ (by assumption)) ?_); rintro e wz ⟨rfl, hgm⟩)
                                    | (go_at_call 9; (with_reducible refine Calls.mono (hawk.out _ (by assumption)) ?_); rintro e wz ⟨rfl, hgm⟩))
                                all_goals
                                  go_wp2_with fail
                                  go_ret
                                  exact ⟨rfl, hgw9.trans (by assumption)⟩
end Go.Proofs.YthhhobfdlgmjlaaDoor

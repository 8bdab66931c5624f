/- penstocklaw20.FeedWhole: the walk. Condition: the decoder's tables lie as the library lays them. -/
import Derived.Test.YthhhobfdlgmjlaaDoorM46WholeRow
import Derived.Test.YthhhobfdlgmjlaaDoorWater17QWholeRow
import Derived.Test.YthhhobfdlgmjlaaDoorRefPatQWholeRow
import Derived.Deep.CutBlock
namespace Go.Proofs.YthhhobfdlgmjlaaDoor
open Go.RowKit

set_option maxRecDepth 100000 in
set_option maxHeartbeats 16000000 in
theorem whole_walk (ls : List LogM) (A : Option Addr) (c : Nat) (xs : List St) (A2 : Option Addr) (cx : Nat) (own : List Ev) (A3 : Option Addr) (co : Nat) (ax ay az : Int) (p : ByteArray) (mx : Int) (w : World) (hl : ls.length ≤ 9223372036854775807) (hx : ∀ l ∈ ls, EvsOk l.es) (hs : LogsIn w w.heap.size A ls)
    (hxl : xs.length ≤ 9223372036854775807) (hxs : Sl St.cells 3 w w.heap.size A2 xs) (hoc : own.length ≤ co) (hoc2 : co ≤ 9223372036854775807) (hso : Sl Ev.cells 7 w w.heap.size A3 own) (hox : EvsOk own) (_hp : p.size ≤ 9223372036854775807) (hT : Tabs w) :
    Calls Tryd.prog 3 #[.slice A ls.length c, .slice A2 xs.length cx, .slice A3 own.length co, .agg #[.int .i64 ax, .int .i64 ay, .int .i64 az], .string p, .int .i64 mx] w fun e w' => e = .returned (.bool true) ∧ G w w' := by
  replace hT := Lib.hid hT
  go_enter Tryd.func3, Tryd.ntmps3
  go_upto_region 1 with fail
  generalize hW0 : w.alloc (.cells #[.int .i64 ax, .int .i64 ay, .int .i64 az] 26) = W0
  have hz : w.heap.size + 0 < W0.heap.size := by rw [← hW0]; simp
  have hG0 : G w W0 := by rw [← hW0]; exact G.new _ _
  have r0 : W0.cell? ⟨w.heap.size, 0, none⟩ = some (.int .i64 ax) := by rw [← hW0]; simp
  have r1 : W0.cell? ⟨w.heap.size, 1, none⟩ = some (.int .i64 ay) := by rw [← hW0]; simp
  have r2 : W0.cell? ⟨w.heap.size, 2, none⟩ = some (.int .i64 az) := by rw [← hW0]; simp
  clear hW0
  have q0 : ∀ w', G W0 w' → w'.cell? ⟨w.heap.size, 0, none⟩ = some (.int .i64 ax) := fun w' h => (h.cell (by omega)).trans r0
  have q1 : ∀ w', G W0 w' → w'.cell? ⟨w.heap.size, 1, none⟩ = some (.int .i64 ay) := fun w' h => (h.cell (by omega)).trans r1
  have q2 : ∀ w', G W0 w' → w'.cell? ⟨w.heap.size, 2, none⟩ = some (.int .i64 az) := fun w' h => (h.cell (by omega)).trans r2
  clear r0 r1 r2
  have hsm := small20_any ls A c w.heap.size W0 (by omega) hl hx (hs.g (Nat.le_refl _) hG0)
  replace hsm := Lib.hid hsm
  go_wp2_with fail
  refine Calls.mono hsm.out ?_
  rintro e w1 ⟨b1, rfl, hb1, hg1⟩
  clear hsm
  have hgw1 := hG0.trans hg1
  cases b1 with
  | false =>
    clear hb1
    have hawk := awake20_any w1 (hT.out.g (hgw1))
    replace hawk := Lib.hid hawk
    go_wp2_with fail
    refine Calls.mono hawk.out ?_
    rintro e w9 ⟨rfl, hg9⟩
    go_wp2_with fail
    go_ret
    exact ⟨rfl, (hgw1).trans hg9⟩
  | true =>
    obtain ⟨hl4, hl8⟩ := hb1 rfl
    clear hb1
    have hev := events_any 8000 own A3 co w.heap.size w1 hgw1.size (by omega) hox (hso.g (Nat.le_refl _) hgw1)
    replace hev := Lib.hid hev
    go_wp2_with fail
    refine Calls.mono hev.out ?_
    rintro e w2 ⟨rfl, hg2⟩
    clear hev
    have hgw2 := hgw1.trans hg2
    have hbulk : evBulk 8000 own ≤ 8000 → own.length ≤ 8000 ∧ ∀ x ∈ own, x.stream.size ≤ 8000 := fun h => by
      obtain ⟨h1, h2⟩ := evBulk_ge (by omega) h
      exact ⟨by omega, fun x hx => by have := h2 x hx; omega⟩
    generalize evBulk 8000 own = ob at *
    by_cases h1 : 8000 < ob
    · clear hbulk
      have hawk := awake20_any w2 (hT.out.g (hgw2))
      replace hawk := Lib.hid hawk
      go_wp2_with fail
      refine Calls.mono hawk.out ?_
      rintro e w9 ⟨rfl, hg9⟩
      go_wp2_with fail
      go_ret
      exact ⟨rfl, (hgw2).trans hg9⟩
    · obtain ⟨hol8, hos8⟩ := hbulk (by omega)
      clear hbulk
      by_cases h2 : (300 : Int) < (p.size : Int)
      · skip
        have hawk := awake20_any w2 (hT.out.g (hgw2))
        replace hawk := Lib.hid hawk
        go_wp2_with fail
        refine Calls.mono hawk.out ?_
        rintro e w9 ⟨rfl, hg9⟩
        go_wp2_with fail
        go_ret
        exact ⟨rfl, (hgw2).trans hg9⟩
      · by_cases h3 : mx < 1
        · skip
          have hawk := awake20_any w2 (hT.out.g (hgw2))
          replace hawk := Lib.hid hawk
          go_wp2_with fail
          refine Calls.mono hawk.out ?_
          rintro e w9 ⟨rfl, hg9⟩
          go_wp2_with fail
          go_ret
          exact ⟨rfl, (hgw2).trans hg9⟩
        · by_cases h4 : 100 < mx
          · skip
            have hawk := awake20_any w2 (hT.out.g (hgw2))
            replace hawk := Lib.hid hawk
            go_wp2_with fail
            refine Calls.mono hawk.out ?_
            rintro e w9 ⟨rfl, hg9⟩
            go_wp2_with fail
            go_ret
            exact ⟨rfl, (hgw2).trans hg9⟩
          · have hgW2 := hg1.trans hg2
            have htl : evTally ls ≤ 32000 := by
              have h6 := tally_le (ls := ls) (n := 8000) fun l hl => (hl8 l hl).1
              omega
            replace hl8 := Lib.hid hl8
            replace hos8 := Lib.hid hos8
            have hno : A3 = none → own = [] := fun e => by subst e; exact hso.of_none
            replace hno := Lib.hid hno
            clear hg1 hg2 hgw1
            go_wp2_with fail
            go_loopw [13, 14] (fun v3 i wr => ∃ (j : Nat), j ≤ ls.length ∧ i = .int .i64 j ∧ OwnL 32 7 Ev.cells wr w2.heap.size v3 (allEvs (ls.take j)) ∧ G w2 wr) (fun _ i _ => ls.length - (intOf i).toNat)
            case atStart => exact ⟨0, Nat.zero_le _, rfl, OwnL.nil, G.refl _⟩
            case round =>
              obtain ⟨j, hj, rfl, hown, hg⟩ := hrel
              by_cases hlt : j < ls.length
              · obtain ⟨⟨lA, lc, les⟩, hl1⟩ : ∃ l, ls[j]? = some l := ⟨_, List.getElem?_eq_getElem hlt⟩
                obtain ⟨b, o, rfl, hb, hcell, hok⟩ := hs.at_ (Nat.le_refl _) hl1
                have hgw := hgw2.trans hg
                have hcw := hcell wr hgw
                obtain ⟨hls, hlc, hlm⟩ := hok wr hgw
                have htk := allEvs_take hl1
                have hle : (allEvs (ls.take j)).length + les.length ≤ 4294967295 := by
                  have := evTally_take hl1
                  have := evTally_le ls (j + 1)
                  rw [allEvs_length]
                  dsimp only at *
                  omega
                replace htk := Lib.hid htk
                clear hok hcell hl1
                dsimp only at hcw hls hlc hlm htk
                obtain ⟨XS, hXS⟩ : ∃ XS, allEvs (ls.take j) = XS := ⟨_, rfl⟩
                rw [hXS] at htk hle hown
                replace hXS := Lib.hid hXS
                have n3 : (0 : Int) ≤ (j : Int) := by omega
                have n4 : (j : Int) < (ls.length : Int) := by omega
                go_wp2_with (at_builtin; refine wpList_append_list ev_elem _ rfl (.tmp 63) (.tmp 67) rfl w2.heap.size _ XS rfl hown w.heap.size lA lc les rfl (fun h => by subst h; exact hls.of_none) hls (by omega) (by omega) hg.size ?_; intro v' w' hown' hkeep _; rw [← htk.out] at hown'; have hgk := hkeep.g hg; replace hown' := Lib.hid hown')
                go_roundw
                case rel => exact ⟨j + 1, by omega, by go_num, hown'.out, hgk⟩
                case measure => simp [intOf]; omega
              · have hje : j = ls.length := by omega
                rw [hje, List.take_length] at hown
                have hn4 : ¬ (j : Int) < (ls.length : Int) := by omega
                have hal := allEvs_length ls
                have hEL := inLogs_all A3 co own ls
                obtain ⟨XS, hXS⟩ : ∃ XS, allEvs ls = XS := ⟨_, rfl⟩
                have hXS2 := hXS
                rw [hXS] at hown hal hEL
                have hgw := hgw2.trans hg
                have hlen2 : (XS ++ own).length ≤ 40000 := by rw [List.length_append]; omega
                have hdi0 : Apart (XS ++ own) → Dist (inLogs ((⟨A3, co, own⟩ : LogM) :: ls)) := fun h => dist_all (by rw [hXS2]; exact h)
                replace hXS := Lib.hid hXS
                replace hXS2 := Lib.hid hXS2
                replace hje := Lib.hid hje
                replace hdi0 := Lib.hid hdi0
                replace hEL := Lib.hid hEL
                go_upto_region 9 with (at_builtin; refine wpList_append_list ev_elem _ rfl (.tmp 69) (.tmp 70) rfl w2.heap.size _ XS rfl hown w.heap.size A3 co own rfl hno.out (hso.g (Nat.le_refl _) hgw) (by omega) (by omega) hg.size ?_; intro v4 w4 hown4 hk4 _; have hg4 := hk4.g hg; clear hk4)
                obtain ⟨es, hes⟩ : ∃ es, XS ++ own = es := ⟨_, rfl⟩
                rw [hes] at hown4 hlen2 hdi0 hEL
                obtain ⟨A9, c9, e9, _, hc9, hsl⟩ := OwnL.sl Ev.cells_len hown4
                subst e9
                replace hes := Lib.hid hes
                have hgw4 := hgw2.trans hg4
                have hgW4 := hgW2.trans hg4
                clear hown4 hown hgw hg hgw2 hgW2 hal
                by_cases h200 : (200 : Int) < (es.length : Int)
                · skip
                  have hawk := awake20_any w4 (hT.out.g (hgw4))
                  replace hawk := Lib.hid hawk
                  go_wp2_with fail
                  refine Calls.mono hawk.out ?_
                  rintro e w9 ⟨rfl, hg9⟩
                  go_wp2_with fail
                  go_ret
                  exact ⟨rfl, (hgw4).trans hg9⟩
                · have heq := @st_eql
                  go_wp2_with fail
                  go_loopw [15] (fun i wr => ∃ (i5 : Nat), i5 ≤ es.length ∧ i = .int .i64 i5 ∧ Hid (∀ x ∈ es.take i5, okE x) ∧ Hid (∀ (i k : Nat) (a b : Ev), i < i5 → k < i → es[i]? = some a → es[k]? = some b → samePlace a b = false) ∧ G w4 wr) (fun i _ => es.length - (intOf i).toNat)
                  case atStart => exact ⟨0, Nat.zero_le _, rfl, by simp [Hid], by intro i k a b h; omega, G.refl _⟩
                  case round =>
                    obtain ⟨i5, hi5, rfl, hoke, hap, hg1⟩ := hrel
                    by_cases hlt5 : i5 < es.length
                    · obtain ⟨⟨s1, v1, d1, ⟨x1, y1, z1⟩, n1⟩, ha⟩ : ∃ a, es[i5]? = some a := ⟨_, List.getElem?_eq_getElem hlt5⟩
                      have hxs1 := take_snoc ha
                      obtain ⟨eb, eo, e8, heb, a0, _, _, a3, a4, a5, a6⟩ := hsl.evG (Nat.le_refl _) ha
                      subst e8
                      have m1 : (0 : Int) ≤ ↑i5 := by omega
                      have m2 : (i5 : Int) < ↑es.length := by omega
                      have b3 := a3 _ hg1
                      have b4 := a4 _ hg1
                      have b5 := a5 _ hg1
                      dsimp only at a0 a3 a4 a5 a6 b3 b4 b5
                      have hsd := refSound_any x1 y1 z1 wr
                      unfold stV at hsd
                      replace hsd := Lib.hid hsd
                      replace ha := Lib.hid ha
                      replace hxs1 := Lib.hid hxs1
                      replace a0 := Lib.hid a0
                      replace a3 := Lib.hid a3
                      replace a4 := Lib.hid a4
                      replace a5 := Lib.hid a5
                      replace a6 := Lib.hid a6
                      go_wp2_with fail
                      refine Calls.mono hsd.out ?_
                      rintro e w5 ⟨rfl, hg5⟩
                      have hg15 := hg1.trans hg5
                      have hgw5 := hgw4.trans hg15
                      have b6 := a6.out _ hg15
                      clear hsd b3 b4 b5
                      cases hso5 : soundB x1 y1 z1 with
                      | false =>
                        have hawk := awake20_any w5 (hT.out.g (hgw5))
                        replace hawk := Lib.hid hawk
                        go_wp2_with fail
                        refine Calls.mono hawk.out ?_
                        rintro e w9 ⟨rfl, hg9⟩
                        go_wp2_with fail
                        go_ret
                        exact ⟨rfl, (hgw5).trans hg9⟩
                      | true =>
                        by_cases hei : n1 < 0
                        · skip
                          have hawk := awake20_any w5 (hT.out.g (hgw5))
                          replace hawk := Lib.hid hawk
                          go_wp2_with fail
                          refine Calls.mono hawk.out ?_
                          rintro e w9 ⟨rfl, hg9⟩
                          go_wp2_with fail
                          go_ret
                          exact ⟨rfl, (hgw5).trans hg9⟩
                        · have hok2 : ∀ x ∈ es.take (i5 + 1), okE x := by
                            rw [hxs1.out]
                            intro x hx
                            rcases List.mem_append.1 hx with h | h
                            · exact hoke.out x h
                            · rw [List.mem_singleton] at h; subst h; exact ⟨hso5, by dsimp only; omega⟩
                          replace hok2 := Lib.hid hok2
                          replace hso5 := Lib.hid hso5
                          clear hxs1 hoke
                          go_wp2_with fail
                          obtain ⟨wq, rfl⟩ : ∃ wq : World, wq = w5 := ⟨_, rfl⟩
                          go_loopw [16] (fun i wr => ∃ (k6 : Nat), k6 ≤ i5 ∧ i = .int .i64 k6 ∧ Hid (∀ (k : Nat) (b : Ev), k < k6 → es[k]? = some b → samePlace ⟨s1, v1, d1, ⟨x1, y1, z1⟩, n1⟩ b = false) ∧ G w4 wr) (fun i _ => i5 - (intOf i).toNat)
                          case atStart => exact ⟨0, Nat.zero_le _, rfl, by intro k b h; omega, hg15⟩
                          case round =>
                            clear b6
                            obtain ⟨k6, hk6, rfl, hap2, hg2⟩ := hrel
                            by_cases hlt6 : k6 < i5
                            · obtain ⟨⟨s2, v2, d2, ⟨x2, y2, z2⟩, n2⟩, hb⟩ : ∃ b, es[k6]? = some b := ⟨_, List.getElem?_eq_getElem (by omega)⟩
                              obtain ⟨eb', eo', e', _, b0, _, _, b3, b4, b5, b6⟩ := hsl.evG (Nat.le_refl _) hb
                              cases e'
                              replace a0 := a0.out _ hg2
                              replace a3 := a3.out _ hg2
                              replace a4 := a4.out _ hg2
                              replace a5 := a5.out _ hg2
                              replace a6 := a6.out _ hg2
                              replace b0 := b0 _ hg2
                              replace b3 := b3 _ hg2
                              replace b4 := b4 _ hg2
                              replace b5 := b5 _ hg2
                              replace b6 := b6 _ hg2
                              replace hb := Lib.hid hb
                              have hgX := hgw4.trans hg2
                              have m3 : (0 : Int) ≤ ↑k6 := by omega
                              have m4 : (k6 : Int) < ↑es.length := by omega
                              have m5 : (k6 : Int) < ↑i5 := by omega
                              clear hsl
                              cases e1 : stB ⟨x1, y1, z1⟩ ⟨x2, y2, z2⟩ with
                              | false =>
                                have hsp : samePlace ⟨s1, v1, d1, ⟨x1, y1, z1⟩, n1⟩ ⟨s2, v2, d2, ⟨x2, y2, z2⟩, n2⟩ = false := by
                                  have := of_decide_eq_false e1
                                  simp [samePlace, this]
                                have hap3 : ∀ (k : Nat) (b : Ev), k < k6 + 1 → es[k]? = some b → samePlace ⟨s1, v1, d1, ⟨x1, y1, z1⟩, n1⟩ b = false := by
                                  intro k b hk h2
                                  rcases Nat.lt_or_ge k k6 with h3 | h3
                                  · exact hap2.out k b h3 h2
                                  · obtain rfl : k = k6 := by omega
                                    rw [hb.out] at h2
                                    cases h2
                                    exact hsp
                                replace hap3 := Lib.hid hap3
                                replace hsp := Lib.hid hsp
                                go_wp2_with fail
                                go_quiet (fail)
                                go_wp2_with fail
                                go_roundw
                                case rel => exact ⟨k6 + 1, by omega, by go_num, hap3, hg2.drewN _⟩
                                case measure => simp [intOf]; omega
                              | true =>
                                by_cases e2 : n1 = n2
                                · subst e2
                                  by_cases e3 : s1 = s2
                                  · have e3' : (s1.toList == s2.toList) = true := by rw [bytes_beq]; simpa using e3
                                    replace e3 := Lib.hid e3
                                    go_wp2_with fail
                                    go_quiet (fail)
                                    go_wp2_with fail
                                    refine (awake20_any _ (hT.out.g (hgX.drewN _))).mono ?_
                                    rintro e w9 ⟨rfl, hg9⟩
                                    go_wp2_with fail
                                    go_ret
                                    exact ⟨rfl, (hgX.drewN _).trans hg9⟩
                                  · have e3' : (s1.toList == s2.toList) = false := by rw [bytes_beq]; simpa using e3
                                    have hsp : samePlace ⟨s1, v1, d1, ⟨x1, y1, z1⟩, n1⟩ ⟨s2, v2, d2, ⟨x2, y2, z2⟩, n1⟩ = false := by simp [samePlace, e3]
                                    replace e3 := Lib.hid e3
                                    have hap3 : ∀ (k : Nat) (b : Ev), k < k6 + 1 → es[k]? = some b → samePlace ⟨s1, v1, d1, ⟨x1, y1, z1⟩, n1⟩ b = false := by
                                      intro k b hk h2
                                      rcases Nat.lt_or_ge k k6 with h3 | h3
                                      · exact hap2.out k b h3 h2
                                      · obtain rfl : k = k6 := by omega
                                        rw [hb.out] at h2
                                        cases h2
                                        exact hsp
                                    replace hap3 := Lib.hid hap3
                                    replace hsp := Lib.hid hsp
                                    go_wp2_with fail
                                    go_quiet (fail)
                                    go_wp2_with fail
                                    go_roundw
                                    case rel => exact ⟨k6 + 1, by omega, by go_num, hap3, hg2.drewN _⟩
                                    case measure => simp [intOf]; omega
                                · have e2' : (n1 == n2) = false := by simpa using e2
                                  have hsp : samePlace ⟨s1, v1, d1, ⟨x1, y1, z1⟩, n1⟩ ⟨s2, v2, d2, ⟨x2, y2, z2⟩, n2⟩ = false := by simp [samePlace, e2]
                                  have hap3 : ∀ (k : Nat) (b : Ev), k < k6 + 1 → es[k]? = some b → samePlace ⟨s1, v1, d1, ⟨x1, y1, z1⟩, n1⟩ b = false := by
                                    intro k b hk h2
                                    rcases Nat.lt_or_ge k k6 with h3 | h3
                                    · exact hap2.out k b h3 h2
                                    · obtain rfl : k = k6 := by omega
                                      rw [hb.out] at h2
                                      cases h2
                                      exact hsp
                                  replace hap3 := Lib.hid hap3
                                  replace hsp := Lib.hid hsp
                                  go_wp2_with fail
                                  go_quiet (fail)
                                  go_wp2_with fail
                                  go_roundw
                                  case rel => exact ⟨k6 + 1, by omega, by go_num, hap3, hg2.drewN _⟩
                                  case measure => simp [intOf]; omega
                            · have m5 : ¬ (k6 : Int) < ↑i5 := by omega
                              have hap3 : ∀ (i k : Nat) (a b : Ev), i < i5 + 1 → k < i → es[i]? = some a → es[k]? = some b → samePlace a b = false := by
                                intro i k a b hi hk h1 h2
                                rcases Nat.lt_or_ge i i5 with h3 | h3
                                · exact hap.out i k a b h3 hk h1 h2
                                · obtain rfl : i = i5 := by omega
                                  rw [ha.out] at h1
                                  cases h1
                                  exact hap2.out k b (by omega) h2
                              replace hap3 := Lib.hid hap3
                              go_wp2_with fail
                              go_roundw
                              case rel => exact ⟨i5 + 1, by omega, by go_num, hok2, hap3, hg2⟩
                              case measure => simp [intOf]; omega
                    · have hap3 : Apart es := fun i k a b hk h1 h2 => hap.out i k a b (by have := (List.getElem?_eq_some_iff.1 h1).1; omega) hk h1 h2
                      have hall : ∀ x ∈ es, okE x := by
                        have := hoke.out
                        rwa [List.take_of_length_le (by omega)] at this
                      have m5 : ¬ (i5 : Int) < ↑es.length := by omega
                      have hdi := hdi0.out hap3
                      replace hap3 := Lib.hid hap3
                      replace hall := Lib.hid hall
                      replace hdi := Lib.hid hdi
                      have hgw5 := hgw4.trans hg1
                      have hgW5 := hgW4.trans hg1
                      have hmk := made_any ls A c w.heap.size xs A2 cx wr hgw5.size hl4 (fun l hl => (hl8.out l hl).1) (hs.g (Nat.le_refl _) hgw5) hxl (hxs.g (Nat.le_refl _) hgw5)
                      replace hmk := Lib.hid hmk
                      clear heq hap hoke hdi0
                      go_wp2_with fail
                      refine Calls.mono hmk.out ?_
                      rintro e w6 ⟨T, g, ct, T2, g2, c2, ps, ms, rfl, ht, ht2, hp, hpm, hg6⟩
                      clear hmk
                      have hgo6 := hg1.trans hg6
                      have hgw6 := hgw5.trans hg6
                      have hgW6 := hgW5.trans hg6
                      have hL := made_L hp A3 co own
                      have hpl6 : ps.length ≤ 6 := by rw [hp.len]; omega
                      have hml6 : ms.length ≤ 6 := by rw [hpm.len]; omega
                      have hpe : ∀ p ∈ ps, p.es.length ≤ 8000 := hp.all (Q := fun es => es.length ≤ 8000) (by simp) fun l hl => (hl8.out l hl).1
                      have hpst : ∀ q ∈ ps, ∀ x ∈ q.es, x.stream.size ≤ 1073741824 := hp.all (Q := fun es => ∀ x ∈ es, x.stream.size ≤ 1073741824) (by simp) fun l hl x hx => by have := (hl8.out l hl).2 x hx; omega
                      have hos30 : ∀ x ∈ own, x.stream.size ≤ 1073741824 := fun x hx => by have := hos8.out x hx; omega
                      have hess : ∀ x ∈ es, x.stream.size ≤ 1048576 := fun x hx => by
                        obtain ⟨l, hl, hy⟩ := (hEL.out x).2 hx
                        rcases List.mem_cons.1 hl with rfl | hl
                        · have := hos8.out x hy; omega
                        · have := (hl8.out l hl).2 x hy; omega
                      have hmeq : (ms.drop 1).map (·.mark) = (ps.drop 2).map (·.mark) := by rw [hp.marks, hpm.marks]
                      obtain ⟨⟨l1, l2, l3⟩, hlo⟩ : ∃ lo, wmOf ⟨ax, ay, az⟩ ((ps.drop 2).map (·.mark)) = lo := ⟨_, rfl⟩
                      have hwt : ∀ w', G w6 w' → Calls Tryd.prog 14 #[.pointer (some ⟨T2, 0, none⟩), .agg #[.int .i64 ax, .int .i64 ay, .int .i64 az]] w' fun e w'' => e = .returned (.agg #[.int .i64 l1, .int .i64 l2, .int .i64 l3]) ∧ G w' w'' := fun w' hg' => by
                        have := water17_any (ht2.grow hg') hml6 ax ay az
                        rwa [hmeq, hlo] at this
                      generalize hLg : ((⟨A3, co, own⟩ : LogM) :: ls) = L at *
                      have hokL : ∀ y, inLogs L y → okE y := fun y hy => hall.out y ((hEL.out y).1 hy)
                      have hpa : ∀ q : ByteArray, q.size ≤ 1073741824 → ∀ w', G w6 w' → ∀ (c1 c2 c3 c4 : Int) (c5 : ByteArray), pollOk q ⟨⟨c1, c2, c3⟩, c4, c5⟩ mx = true → Calls Tryd.prog 12 #[.pointer (some ⟨T, 0, none⟩), .slice A3 own.length co, .agg #[.int .i64 ax, .int .i64 ay, .int .i64 az], .agg #[.int .i64 c1, .int .i64 c2, .int .i64 c3, .int .i64 c4, .string c5], .string q, .int .i64 mx] w' (PollPost (mergeF L ⟨l1, l2, l3⟩ ⟨⟨c1, c2, c3⟩, c4, c5⟩) q ⟨⟨c1, c2, c3⟩, c4, c5⟩ mx w') := fun q hq w' hg c1 c2 c3 c4 c5 hok => by
                        have := poll_any (ht.grow hg) hpl6 hpe hpst own A3 co w.heap.size (hgw6.trans hg).size (hso.g (Nat.le_refl _) (hgw6.trans hg)) hol8 hoc hoc2 hos30 ax ay az c1 c2 c3 c4 c5 q mx hq (hT.out.g (hgw6.trans hg)) hok L hL
                        rwa [hlo] at this
                      clear ht ht2 hL hpe hpst hos30 hlo hpl6 hml6 hs hxs hso hx hox hxl hp hpm hmeq hl8 hos8 hLg hall
                      replace hpa := Lib.hid hpa
                      replace hwt := Lib.hid hwt
                      replace hokL := Lib.hid hokL
                      replace hess := Lib.hid hess
                      clear hg6 hg1 hgw5 hgW5
                      go_upto_region 26 with fail
                      have hC : ((w6.alloc (.cells #[.int .i64 0, .int .i64 0, .int .i64 0, .int .i64 0, .string ⟨#[]⟩] 38)).alloc (.cells #[.int .i64 0, .int .i64 0, .int .i64 0, .int .i64 0, .string ⟨#[]⟩] 38)).heap[w6.heap.size]? = some (.cells (cuCs (curOf cu0 [])) 38 (0, 0)) := (G.new _ _).blk (blk_new w6 _ _)
                      have hD : ((w6.alloc (.cells #[.int .i64 0, .int .i64 0, .int .i64 0, .int .i64 0, .string ⟨#[]⟩] 38)).alloc (.cells #[.int .i64 0, .int .i64 0, .int .i64 0, .int .i64 0, .string ⟨#[]⟩] 38)).heap[w6.heap.size + 1]? = some (.cells (cuCs (curOf cu0 [])) 38 (0, 0)) := blk_new' _ _ _ _ (by simp)
                      have hg67 : G w6 ((w6.alloc (.cells #[.int .i64 0, .int .i64 0, .int .i64 0, .int .i64 0, .string ⟨#[]⟩] 38)).alloc (.cells #[.int .i64 0, .int .i64 0, .int .i64 0, .int .i64 0, .string ⟨#[]⟩] 38)) := (G.new _ _).alloc _
                      generalize ((w6.alloc (.cells #[.int .i64 0, .int .i64 0, .int .i64 0, .int .i64 0, .string ⟨#[]⟩] 38)).alloc (.cells #[.int .i64 0, .int .i64 0, .int .i64 0, .int .i64 0, .string ⟨#[]⟩] 38)) = w7 at *
                      replace hC := Lib.hid hC
                      replace hD := Lib.hid hD
                      go_upto_block 6 with fail
                      go_cut [19] (fun v wx => ∃ PA, Hid (patOk p = true) ∧ Hid (AllOf (mergeF L ⟨l1, l2, l3⟩ cu0) PA) ∧ Hid (ToldP p L ⟨l1, l2, l3⟩ w7 w6.heap.size PA v wx))
                      case first =>
                        go_wp2_with fail
                        go_loopw [19, 23] (fun v i wr => ∃ (j : Nat) (PA : List Ev), i = .int .i64 j ∧ j ≤ PA.length ∧ PA.length ≤ 200 ∧ Hid (ToldP p L ⟨l1, l2, l3⟩ w7 (w6.heap.size) PA v wr)) (fun _ i _ => 1000 - (intOf i).toNat)
                        case atStart => exact ⟨0, [], rfl, Nat.zero_le _, by simp, ⟨Ini.none _, OwnL.nil, hC.out, But.refl _ _⟩⟩
                        case round =>
                          obtain ⟨j, PA, rfl, hj, hPA, hTD⟩ := hrel
                          have hg := hTD.out.g6 hg67 (by omega)
                          have hj1 : (j : Int) < 1000 := by omega
                          obtain ⟨⟨⟨c1, c2, c3⟩, c4, c5⟩, hcA⟩ : ∃ q, curOf cu0 PA = q := ⟨_, rfl⟩
                          have hCw := hTD.out.cur
                          rw [hcA] at hCw
                          have k0 := (blk_cell hCw 0).trans (show _ = some (Value.int .i64 c1) from rfl)
                          have k1 := (blk_cell hCw 1).trans (show _ = some (Value.int .i64 c2) from rfl)
                          have k2 := (blk_cell hCw 2).trans (show _ = some (Value.int .i64 c3) from rfl)
                          have k3 := (blk_cell hCw 3).trans (show _ = some (Value.int .i64 c4) from rfl)
                          have k4 := (blk_cell hCw 4).trans (show _ = some (Value.string c5) from rfl)
                          have hgW := hgW6.trans hg
                          have r0 := q0 _ hgW
                          have r1 := q1 _ hgW
                          have r2 := q2 _ hgW
                          replace hCw := Lib.hid hCw
                          replace hcA := Lib.hid hcA
                          have hck := fun w' => checkGlob_any p w' (by omega)
                          cases hpp : patOk p with
                          | false =>
                            have hpo := poll_bad (.pointer (some ⟨T, 0, none⟩)) (.slice A3 own.length co) ax ay az c1 c2 c3 c4 c5 p mx wr (by omega) (hT.out.g (hgw6.trans hg)) (by unfold pollOk; rw [hpp]; rfl)
                            rw [hpp] at hck
                            replace hpo := Lib.hid hpo
                            replace hck := Lib.hid hck
                            replace hpp := Lib.hid hpp
                            go_wp2_with fail
                            refine Calls.mono hpo.out ?_
                            rintro e w8 ⟨rfl, hg8⟩
                            clear hpo k0 k1 k2 k3 k4 r0 r1 r2
                            have hg89 := G.new w8 (.cells #[.int .i64 0, .int .i64 0, .int .i64 0, .int .i64 0, .string ⟨#[]⟩] 38)
                            go_upto_region 30 with fail
                            generalize (w8.alloc (.cells #[.int .i64 0, .int .i64 0, .int .i64 0, .int .i64 0, .string ⟨#[]⟩] 38)) = w9 at *
                            go_wp2_with fail
                            refine Calls.mono (hck.out w9) ?_
                            rintro e w10 ⟨rfl, hg10⟩
                            have hgw10 := hgw6.trans (hg.trans (hg8.trans (hg89.trans hg10)))
                            clear hck
                            have hawk := awake20_any w10 (hT.out.g (hgw10))
                            replace hawk := Lib.hid hawk
                            go_wp2_with fail
                            refine Calls.mono hawk.out ?_
                            rintro e w9 ⟨rfl, hg9⟩
                            go_wp2_with fail
                            go_ret
                            exact ⟨rfl, (hgw10).trans hg9⟩
                          | true =>
                            have okA := cur_okP hpp hTD.out.ini hokL.out hcA.out (show 1 ≤ mx by omega) (show mx ≤ 100 by omega)
                            have hpo := hpa.out p (by omega) wr hg c1 c2 c3 c4 c5 okA
                            rw [hpp] at hck
                            replace hpp := Lib.hid hpp
                            replace hck := Lib.hid hck
                            replace hpo := Lib.hid hpo
                            replace okA := Lib.hid okA
                            go_wp2_with fail
                            refine Calls.mono hpo.out ?_
                            rintro e w8 ⟨o1, P1, m1, hf1, he1, hown1, hg8⟩
                            clear hpo k0 k1 k2 k3 k4 r0 r1 r2
                            obtain ⟨⟨⟨f1, f2, f3⟩, f4, f5⟩, hcA1⟩ : ∃ q, curOf ⟨⟨c1, c2, c3⟩, c4, c5⟩ o1 = q := ⟨_, rfl⟩
                            rw [hcA1] at he1
                            obtain ⟨z1, hz1⟩ : ∃ z, onlyL p o1 = z := ⟨_, rfl⟩
                            have hzl : (z1.length : Int) ≤ mx := by
                              have h1 := first_max hf1 (show 1 ≤ mx by omega)
                              have h2 := onlyL_len p o1
                              rw [hz1] at h2
                              omega
                            rw [hz1] at he1 hown1
                            have he1' : e = .returned (.tuple #[.slice P1 z1.length m1, .agg #[.int .i64 f1, .int .i64 f2, .int .i64 f3, .int .i64 f4, .string f5], .int .i64 0]) := he1
                            subst he1'
                            clear he1
                            have hF9 := blk_new w8 #[.int .i64 f1, .int .i64 f2, .int .i64 f3, .int .i64 f4, .string f5] 38
                            have hg89 := G.new w8 (.cells #[.int .i64 f1, .int .i64 f2, .int .i64 f3, .int .i64 f4, .string f5] 38)
                            replace hF9 := Lib.hid hF9
                            replace hcA1 := Lib.hid hcA1
                            replace hz1 := Lib.hid hz1
                            replace hf1 := Lib.hid hf1
                            go_upto_region 30 with fail
                            generalize (w8.alloc (.cells #[.int .i64 f1, .int .i64 f2, .int .i64 f3, .int .i64 f4, .string f5] 38)) = w9 at *
                            go_wp2_with fail
                            refine Calls.mono (hck.out w9) ?_
                            rintro e w10 ⟨rfl, hg10⟩
                            have hr10 := hg8.trans (hg89.trans hg10)
                            have hRX := hTD.out.row.g hr10
                            have hZ1 := hown1.g (hg89.trans hg10)
                            have hs1 := hZ1.self Ev.cells_len
                            have hn1 : P1 = none → z1 = [] := fun e => by subst e; exact hs1.of_none
                            have hla : (onlyL p PA).length ≤ 200 := Nat.le_trans (onlyL_len _ _) hPA
                            have hz710 : w7.heap.size ≤ w10.heap.size := Nat.le_trans hTD.out.but.size hr10.size
                            have hC10 := hr10.blk hCw.out
                            have hF10 := hg10.blk hF9.out
                            replace hRX := Lib.hid hRX
                            replace hs1 := Lib.hid hs1
                            replace hn1 := Lib.hid hn1
                            replace hC10 := Lib.hid hC10
                            replace hF10 := Lib.hid hF10
                            clear hZ1 hown1
                            have hnq := @cu_eql
                            go_upto_region 35 with (at_builtin; refine wpList_append_w ev_elem _ rfl (.tmp 180) (.tmp 181) rfl w7.heap.size u19 (onlyL p PA) rfl hRX.out w10.heap.size P1 m1 z1 rfl hn1.out hs1.out (by omega) (by omega) hz710 ?_; intro u' w12 hRX' hk12 hb12 hw12)
                            have hC12 := hk12.2 _ _ _ _ (by decide) hC10.out
                            have hF12 := hk12.2 _ _ _ _ (by decide) hF10.out
                            have k0 := (blk_cell hC12 0).trans (show _ = some (Value.int .i64 c1) from rfl)
                            have k1 := (blk_cell hC12 1).trans (show _ = some (Value.int .i64 c2) from rfl)
                            have k2 := (blk_cell hC12 2).trans (show _ = some (Value.int .i64 c3) from rfl)
                            have k3 := (blk_cell hC12 3).trans (show _ = some (Value.int .i64 c4) from rfl)
                            have k4 := (blk_cell hC12 4).trans (show _ = some (Value.string c5) from rfl)
                            have j0 := (blk_cell hF12 0).trans (show _ = some (Value.int .i64 f1) from rfl)
                            have j1 := (blk_cell hF12 1).trans (show _ = some (Value.int .i64 f2) from rfl)
                            have j2 := (blk_cell hF12 2).trans (show _ = some (Value.int .i64 f3) from rfl)
                            have j3 := (blk_cell hF12 3).trans (show _ = some (Value.int .i64 f4) from rfl)
                            have j4 := (blk_cell hF12 4).trans (show _ = some (Value.string f5) from rfl)
                            replace hRX' := Lib.hid hRX'
                            replace hb12 := Lib.hid hb12
                            replace hw12 := Lib.hid hw12
                            replace hC12 := Lib.hid hC12
                            replace hF12 := Lib.hid hF12
                            clear hk12
                            cases hcu : cuB ⟨⟨f1, f2, f3⟩, f4, f5⟩ ⟨⟨c1, c2, c3⟩, c4, c5⟩ with
                            | true =>
                              have hov := told_over hdi.out hTD.out.ini hcA.out (show 1 ≤ mx by omega) hf1.out (by rw [hcA1.out]; exact hcu)
                              have hz0 : z1 = [] := by rw [← hz1.out, hov.1]; rfl
                              have hfin := hTD.out.stay hcA.out hr10 hb12.out (by have h := hRX'.out; rw [hz0] at h; exact h) hC12.out
                              have hall9 := hov.2
                              replace hz0 := Lib.hid hz0
                              replace hfin := Lib.hid hfin
                              replace hall9 := Lib.hid hall9
                              replace hov := Lib.hid hov
                              go_wp2_with fail
                              go_meet
                              exact ⟨PA, hpp, hall9, hfin⟩
                            | false =>
                              have hmv := told_moves hf1.out (by rw [hcA1.out]; exact hcu)
                              obtain ⟨w14, SR14, C14, hb14, _⟩ := store_blk (P := Tryd.prog) (T := 38) (cs := #[.int .i64 f1, .int .i64 f2, .int .i64 f3, .int .i64 f4, .string f5]) hC12.out rfl (by kernel_rfl) (by kernel_rfl)
                              have hnx := hTD.out.next hdi.out hcA.out hf1.out hr10 hb12.out (by rw [hz1.out]; exact hRX'.out) hC12.out hb14 (by rw [hcA1.out]; exact C14)
                              have hln := told_len hnx.ini hEL.out
                              have hln2 : j + 1 ≤ (PA ++ o1).length := by rw [List.length_append]; omega
                              have hln3 : (PA ++ o1).length ≤ 200 := by omega
                              clear hln hmv
                              replace hnx := Lib.hid hnx
                              replace hln2 := Lib.hid hln2
                              replace hln3 := Lib.hid hln3
                              replace C14 := Lib.hid C14
                              replace hb14 := Lib.hid hb14
                              go_wp2_with (refine wpList_store_at (ty := 38) (x := .tmp 21) rfl (by kernel_rfl) (p := .pointer (some ⟨w6.heap.size, 0, none⟩)) (v := .agg #[.int .i64 f1, .int .i64 f2, .int .i64 f3, .int .i64 f4, .string f5]) rfl rfl SR14 ?_; clear SR14)
                              go_roundw
                              case rel => exact ⟨j + 1, PA ++ o1, by go_num, hln2.out, hln3.out, hnx⟩
                              case measure => (simp [intOf] <;> omega)
                      case rest =>
                        obtain ⟨PA, hpp, hAP, hTP⟩ := hcut
                        obtain ⟨wl, rfl⟩ : ∃ wl : World, wl = wc := ⟨_, rfl⟩
                        have hg6l := hTP.out.g6 hg67 (by omega)
                        have hDl := hTP.out.but.blk hD.out (by omega)
                        replace hDl := Lib.hid hDl
                        clear hC hD
                        go_upto_block 8 with fail
                        go_cut [20] (fun v wx => ∃ PB, Hid (AllOf (mergeF L ⟨l1, l2, l3⟩ cu0) PB) ∧ Hid (ToldP st1 L ⟨l1, l2, l3⟩ wl (w6.heap.size + 1) PB v wx))
                        case first =>
                          go_wp2_with fail
                          go_loopw [20, 27] (fun v i wr => ∃ (j : Nat) (PA : List Ev), i = .int .i64 j ∧ j ≤ PA.length ∧ PA.length ≤ 200 ∧ Hid (ToldP st1 L ⟨l1, l2, l3⟩ wl (w6.heap.size + 1) PA v wr)) (fun _ i _ => 1000 - (intOf i).toNat)
                          case atStart => exact ⟨0, [], rfl, Nat.zero_le _, by simp, ⟨Ini.none _, OwnL.nil, hDl.out, But.refl _ _⟩⟩
                          case round =>
                            obtain ⟨j, PA, rfl, hj, hPA, hTD⟩ := hrel
                            have hg := hTD.out.g6 hg6l (by omega)
                            have hj1 : (j : Int) < 1000 := by omega
                            obtain ⟨⟨⟨c1, c2, c3⟩, c4, c5⟩, hcA⟩ : ∃ q, curOf cu0 PA = q := ⟨_, rfl⟩
                            have hCw := hTD.out.cur
                            rw [hcA] at hCw
                            have k0 := (blk_cell hCw 0).trans (show _ = some (Value.int .i64 c1) from rfl)
                            have k1 := (blk_cell hCw 1).trans (show _ = some (Value.int .i64 c2) from rfl)
                            have k2 := (blk_cell hCw 2).trans (show _ = some (Value.int .i64 c3) from rfl)
                            have k3 := (blk_cell hCw 3).trans (show _ = some (Value.int .i64 c4) from rfl)
                            have k4 := (blk_cell hCw 4).trans (show _ = some (Value.string c5) from rfl)
                            have hgW := hgW6.trans hg
                            have r0 := q0 _ hgW
                            have r1 := q1 _ hgW
                            have r2 := q2 _ hgW
                            replace hCw := Lib.hid hCw
                            replace hcA := Lib.hid hcA
                            have okA := cur_okP st1_ok hTD.out.ini hokL.out hcA.out (show 1 ≤ mx by omega) (show mx ≤ 100 by omega)
                            have hpo := hpa.out st1 (by decide) wr hg c1 c2 c3 c4 c5 okA
                            replace hpo := Lib.hid hpo
                            replace okA := Lib.hid okA
                            go_wp2_with fail
                            refine Calls.mono hpo.out ?_
                            rintro e w8 ⟨o1, P1, m1, hf1, he1, hown1, hg8⟩
                            clear hpo k0 k1 k2 k3 k4 r0 r1 r2
                            obtain ⟨⟨⟨f1, f2, f3⟩, f4, f5⟩, hcA1⟩ : ∃ q, curOf ⟨⟨c1, c2, c3⟩, c4, c5⟩ o1 = q := ⟨_, rfl⟩
                            rw [hcA1] at he1
                            obtain ⟨z1, hz1⟩ : ∃ z, onlyL st1 o1 = z := ⟨_, rfl⟩
                            have hzl : (z1.length : Int) ≤ mx := by
                              have h1 := first_max hf1 (show 1 ≤ mx by omega)
                              have h2 := onlyL_len st1 o1
                              rw [hz1] at h2
                              omega
                            rw [hz1] at he1 hown1
                            have he1' : e = .returned (.tuple #[.slice P1 z1.length m1, .agg #[.int .i64 f1, .int .i64 f2, .int .i64 f3, .int .i64 f4, .string f5], .int .i64 0]) := he1
                            subst he1'
                            clear he1
                            have hF9 := blk_new w8 #[.int .i64 f1, .int .i64 f2, .int .i64 f3, .int .i64 f4, .string f5] 38
                            have hg89 := G.new w8 (.cells #[.int .i64 f1, .int .i64 f2, .int .i64 f3, .int .i64 f4, .string f5] 38)
                            replace hF9 := Lib.hid hF9
                            replace hcA1 := Lib.hid hcA1
                            replace hz1 := Lib.hid hz1
                            replace hf1 := Lib.hid hf1
                            go_upto_region 41 with fail
                            generalize (w8.alloc (.cells #[.int .i64 f1, .int .i64 f2, .int .i64 f3, .int .i64 f4, .string f5] 38)) = w9 at *
                            obtain ⟨w10, rfl⟩ : ∃ w10 : World, w10 = w9 := ⟨_, rfl⟩
                            have hg10 := G.refl w10
                            have hr10 := hg8.trans (hg89.trans hg10)
                            have hRX := hTD.out.row.g hr10
                            have hZ1 := hown1.g (hg89.trans hg10)
                            have hs1 := hZ1.self Ev.cells_len
                            have hn1 : P1 = none → z1 = [] := fun e => by subst e; exact hs1.of_none
                            have hla : (onlyL st1 PA).length ≤ 200 := Nat.le_trans (onlyL_len _ _) hPA
                            have hz710 : wl.heap.size ≤ w10.heap.size := Nat.le_trans hTD.out.but.size hr10.size
                            have hC10 := hr10.blk hCw.out
                            have hF10 := hg10.blk hF9.out
                            replace hRX := Lib.hid hRX
                            replace hs1 := Lib.hid hs1
                            replace hn1 := Lib.hid hn1
                            replace hC10 := Lib.hid hC10
                            replace hF10 := Lib.hid hF10
                            clear hZ1 hown1
                            have hnq := @cu_eql
                            go_upto_region 44 with (at_builtin; refine wpList_append_w ev_elem _ rfl (.tmp 203) (.tmp 204) rfl wl.heap.size u20 (onlyL st1 PA) rfl hRX.out w10.heap.size P1 m1 z1 rfl hn1.out hs1.out (by omega) (by omega) hz710 ?_; intro u' w12 hRX' hk12 hb12 hw12)
                            have hC12 := hk12.2 _ _ _ _ (by decide) hC10.out
                            have hF12 := hk12.2 _ _ _ _ (by decide) hF10.out
                            have k0 := (blk_cell hC12 0).trans (show _ = some (Value.int .i64 c1) from rfl)
                            have k1 := (blk_cell hC12 1).trans (show _ = some (Value.int .i64 c2) from rfl)
                            have k2 := (blk_cell hC12 2).trans (show _ = some (Value.int .i64 c3) from rfl)
                            have k3 := (blk_cell hC12 3).trans (show _ = some (Value.int .i64 c4) from rfl)
                            have k4 := (blk_cell hC12 4).trans (show _ = some (Value.string c5) from rfl)
                            have j0 := (blk_cell hF12 0).trans (show _ = some (Value.int .i64 f1) from rfl)
                            have j1 := (blk_cell hF12 1).trans (show _ = some (Value.int .i64 f2) from rfl)
                            have j2 := (blk_cell hF12 2).trans (show _ = some (Value.int .i64 f3) from rfl)
                            have j3 := (blk_cell hF12 3).trans (show _ = some (Value.int .i64 f4) from rfl)
                            have j4 := (blk_cell hF12 4).trans (show _ = some (Value.string f5) from rfl)
                            replace hRX' := Lib.hid hRX'
                            replace hb12 := Lib.hid hb12
                            replace hw12 := Lib.hid hw12
                            replace hC12 := Lib.hid hC12
                            replace hF12 := Lib.hid hF12
                            clear hk12
                            cases hcu : cuB ⟨⟨f1, f2, f3⟩, f4, f5⟩ ⟨⟨c1, c2, c3⟩, c4, c5⟩ with
                            | true =>
                              have hov := told_over hdi.out hTD.out.ini hcA.out (show 1 ≤ mx by omega) hf1.out (by rw [hcA1.out]; exact hcu)
                              have hz0 : z1 = [] := by rw [← hz1.out, hov.1]; rfl
                              have hfin := hTD.out.stay hcA.out hr10 hb12.out (by have h := hRX'.out; rw [hz0] at h; exact h) hC12.out
                              have hall9 := hov.2
                              replace hz0 := Lib.hid hz0
                              replace hfin := Lib.hid hfin
                              replace hall9 := Lib.hid hall9
                              replace hov := Lib.hid hov
                              go_wp2_with fail
                              go_meet
                              exact ⟨PA, hall9, hfin⟩
                            | false =>
                              have hmv := told_moves hf1.out (by rw [hcA1.out]; exact hcu)
                              obtain ⟨w14, SR14, C14, hb14, _⟩ := store_blk (P := Tryd.prog) (T := 38) (cs := #[.int .i64 f1, .int .i64 f2, .int .i64 f3, .int .i64 f4, .string f5]) hC12.out rfl (by kernel_rfl) (by kernel_rfl)
                              have hnx := hTD.out.next hdi.out hcA.out hf1.out hr10 hb12.out (by rw [hz1.out]; exact hRX'.out) hC12.out hb14 (by rw [hcA1.out]; exact C14)
                              have hln := told_len hnx.ini hEL.out
                              have hln2 : j + 1 ≤ (PA ++ o1).length := by rw [List.length_append]; omega
                              have hln3 : (PA ++ o1).length ≤ 200 := by omega
                              clear hln hmv
                              replace hnx := Lib.hid hnx
                              replace hln2 := Lib.hid hln2
                              replace hln3 := Lib.hid hln3
                              replace C14 := Lib.hid C14
                              replace hb14 := Lib.hid hb14
                              go_wp2_with (refine wpList_store_at (ty := 38) (x := .tmp 22) rfl (by kernel_rfl) (p := .pointer (some ⟨w6.heap.size + 1, 0, none⟩)) (v := .agg #[.int .i64 f1, .int .i64 f2, .int .i64 f3, .int .i64 f4, .string f5]) rfl rfl SR14 ?_; clear SR14)
                              go_roundw
                              case rel => exact ⟨j + 1, PA ++ o1, by go_num, hln2.out, hln3.out, hnx⟩
                              case measure => (simp [intOf] <;> omega)
                        case rest =>
                          obtain ⟨PB, hBP, hTQ⟩ := hcut
                          obtain rfl : PA = PB := AllOf.same hAP.out hBP.out
                          obtain ⟨wm, rfl⟩ : ∃ wm : World, wm = wc := ⟨_, rfl⟩
                          have hg6m := hTQ.out.g6 hg6l (by omega)
                          have hgot := hTP.out.row.but' hTQ.out.but (fun k hk e => by subst e; exact row_type hTP.out.row hk hDl.out (by decide))
                          have hpln := hTQ.out.row
                          have hson := sorted_told hAP.out hdi.out
                          have hlow := fun x => low_told (x := x) hAP.out
                          have hcnt := count_all hAP.out hap3.out hEL.out
                          have hon := only_star p PA
                          have hlX : (onlyL st1 PA).length ≤ 200 := Nat.le_trans (onlyL_len _ _) (Nat.le_trans (told_len hAP.out.ini hEL.out) (by omega))
                          have hesX : ∀ x ∈ onlyL st1 PA, x.stream.size ≤ 1048576 := fun x hx => hess.out x ((hEL.out x).1 ((hAP.out.2 x).2 (List.mem_filter.1 hx).1).1)
                          rw [← hon] at hgot
                          clear hTP hTQ hAP hBP hon
                          generalize onlyL st1 PA = X at *
                          obtain ⟨Y, hY⟩ : ∃ Y, onlyL p X = Y := ⟨_, rfl⟩
                          have hlY : Y.length ≤ X.length := by rw [← hY]; exact onlyL_len p X
                          rw [hY] at hgot
                          obtain ⟨gA, gm, e, _, _, hgs⟩ := OwnL.sl Ev.cells_len hgot
                          subst e
                          obtain ⟨xA, xm, e, _, _, hsX⟩ := OwnL.sl Ev.cells_len hpln
                          subst e
                          clear hgot hpln
                          have hwt2 := hwt.out wm hg6m
                          have hgWm := hgW6.trans hg6m
                          have r0 := q0 _ hgWm
                          have r1 := q1 _ hgWm
                          have r2 := q2 _ hgWm
                          replace hwt2 := Lib.hid hwt2
                          replace hson := Lib.hid hson
                          replace hlow := Lib.hid hlow
                          replace hcnt := Lib.hid hcnt
                          replace hesX := Lib.hid hesX
                          replace hY := Lib.hid hY
                          go_wp2_with fail
                          refine Calls.mono hwt2.out ?_
                          rintro e w11 ⟨rfl, hg11⟩
                          clear r0 r1 r2 hwt2 hwt hpa hg67 hg6l hDl
                          have hg14 := G.new w11 (.cells #[.int .i64 l1, .int .i64 l2, .int .i64 l3] 26)
                          have hB14 := blk_new w11 #[.int .i64 l1, .int .i64 l2, .int .i64 l3] 26
                          go_upto_region 47 with fail
                          generalize (w11.alloc (.cells #[.int .i64 l1, .int .i64 l2, .int .i64 l3] 26)) = w14 at *
                          have hgm14 : G wm w14 := hg11.trans hg14
                          have hg414 : G w4 w14 := hgo6.trans (hg6m.trans hgm14)
                          have hgw14 : G w w14 := hgw6.trans (hg6m.trans hgm14)
                          have hes14 := hsl.g (Nat.le_refl _) hg414
                          have hsX14 := hsX.g (Nat.le_refl _) hgm14
                          have hgs14 := hgs.g (Nat.le_refl _) hgm14
                          have y0 : ∀ w', G w14 w' → w'.cell? ⟨w11.heap.size, 0, none⟩ = some (.int .i64 l1) := fun w' h => (blk_cell (h.blk hB14) 0).trans rfl
                          have y1 : ∀ w', G w14 w' → w'.cell? ⟨w11.heap.size, 1, none⟩ = some (.int .i64 l2) := fun w' h => (blk_cell (h.blk hB14) 1).trans rfl
                          have y2 : ∀ w', G w14 w' → w'.cell? ⟨w11.heap.size, 2, none⟩ = some (.int .i64 l3) := fun w' h => (blk_cell (h.blk hB14) 2).trans rfl
                          have hB11 : w11.heap.size < w14.heap.size := blk_lt hB14
                          clear hB14 hsl hsX hgs hg11 hg14 hgW6 hgWm
                          have z4 := hg414.size
                          have z5 := hgm14.size
                          go_wp2_with fail
                          go_loopw [32] (fun i wr => ∃ i6 : Nat, i6 ≤ X.length ∧ i = .int .i64 i6 ∧ Hid (G w14 wr)) (fun i _ => X.length - (intOf i).toNat)
                          case atStart => exact ⟨0, Nat.zero_le _, rfl, G.refl _⟩
                          case round =>
                            obtain ⟨i6, hi6, rfl, hgr⟩ := hrel
                            by_cases hlt6 : i6 < X.length
                            · obtain ⟨⟨s1, v1, d1, ⟨x1, y1', z1⟩, n1⟩, ha⟩ : ∃ a, X[i6]? = some a := ⟨_, List.getElem?_eq_getElem hlt6⟩
                              have hls := hlow.out _ (List.mem_of_getElem? ha)
                              have hless := fun w' => refLess_any x1 y1' z1 l1 l2 l3 w'
                              dsimp only at hls
                              rw [hls] at hless
                              obtain ⟨b1, o1, e1, hb1, c0, c1, c2, c3, c4, c5, c6⟩ := hsX14.evG z5 ha
                              cases e1
                              dsimp only at c0 c1 c2 c3 c4 c5 c6
                              have m1 : (0 : Int) ≤ (i6 : Int) := by omega
                              have m2 : (i6 : Int) < (X.length : Int) := by omega
                              by_cases hi0 : i6 = 0
                              · have hkb : decide ((0 : Int) < (i6 : Int)) = false := decide_eq_false (by omega)
                                have n0 : ¬ 0 < i6 := by omega
                                replace hi0 := Lib.hid hi0
                                replace hls := Lib.hid hls
                                replace ha := Lib.hid ha
                                replace hless := Lib.hid hless
                                clear m1
                                have m1 : (0 : Int) ≤ (i6 : Int) := by omega
                                go_upto_region 50 with fail
                                refine wp_region_held_drew (S := fun w' => G w14 w') (by kernel_rfl) hgr.out.drew (fun hHeld => ?_)
                                refine lin_take 0 (some 219) (v := ?_) (by kernel_rfl) (by kernel_rfl) (by kernel_rfl) (by kernel_rfl) (fun _ _ _ h => h) (by kernel_rfl) ?_ (by assumption) ?_; rotate_left; focus (intro w hSw; (try dsimp only at hSw); simp only [List.getElem?_toArray, List.getElem?_cons_zero, Option.map_some, Option.some.injEq]; go_simp; (first | done | with_reducible rfl))
                                try simp only [Act.put, List.setIfInBounds_toArray, List.set_cons_zero, List.set_cons_succ]
                                refine lin_take 1 (some 220) (v := ?_) (by kernel_rfl) (by kernel_rfl) (by kernel_rfl) (by kernel_rfl) (fun _ _ _ h => h) (by kernel_rfl) ?_ (by assumption) ?_; rotate_left; focus (intro w hSw; (try dsimp only at hSw); simp only [List.getElem?_toArray, List.getElem?_cons_zero, List.getElem?_cons_succ, Option.map_some, Option.some.injEq]; go_simp; (first | done | with_reducible rfl))
                                try simp only [Act.put, List.setIfInBounds_toArray, List.set_cons_zero, List.set_cons_succ]
                                refine lin_take 2 (some 221) (v := ?_) (by kernel_rfl) (by kernel_rfl) (by kernel_rfl) (by kernel_rfl) (fun _ _ _ h => h) (by kernel_rfl) ?_ (by assumption) ?_; rotate_left; focus (intro w hSw; (try dsimp only at hSw); simp only [List.getElem?_toArray, List.getElem?_cons_zero, List.getElem?_cons_succ, Option.map_some, Option.some.injEq]; go_simp; (first | done | with_reducible rfl))
                                try simp only [Act.put, List.setIfInBounds_toArray, List.set_cons_zero, List.set_cons_succ]
                                refine lin_pass 3 (some 222) (by kernel_rfl) (by kernel_rfl) (by kernel_rfl) (by kernel_rfl) (fun _ _ _ h => h) (by kernel_rfl) (by assumption) ?_
                                try simp only [Act.put, List.setIfInBounds_toArray, List.set_cons_zero, List.set_cons_succ]
                                refine lin_pass 4 (some 223) (by kernel_rfl) (by kernel_rfl) (by kernel_rfl) (by kernel_rfl) (fun _ _ _ h => h) (by kernel_rfl) (by assumption) ?_
                                try simp only [Act.put, List.setIfInBounds_toArray, List.set_cons_zero, List.set_cons_succ]
                                refine lin_pass 5 (some 224) (by kernel_rfl) (by kernel_rfl) (by kernel_rfl) (by kernel_rfl) (fun _ _ _ h => h) (by kernel_rfl) (by assumption) ?_
                                try simp only [Act.put, List.setIfInBounds_toArray, List.set_cons_zero, List.set_cons_succ]
                                refine lin_pass 6 (some 225) (by kernel_rfl) (by kernel_rfl) (by kernel_rfl) (by kernel_rfl) (fun _ _ _ h => h) (by kernel_rfl) (by assumption) ?_
                                try simp only [Act.put, List.setIfInBounds_toArray, List.set_cons_zero, List.set_cons_succ]
                                refine lin_pass 7 (some 226) (by kernel_rfl) (by kernel_rfl) (by kernel_rfl) (by kernel_rfl) (fun _ _ _ h => h) (by kernel_rfl) (by assumption) ?_
                                try simp only [Act.put, List.setIfInBounds_toArray, List.set_cons_zero, List.set_cons_succ]
                                refine lin_pass 8 (some 227) (by kernel_rfl) (by kernel_rfl) (by kernel_rfl) (by kernel_rfl) (fun _ _ _ h => h) (by kernel_rfl) (by assumption) ?_
                                try simp only [Act.put, List.setIfInBounds_toArray, List.set_cons_zero, List.set_cons_succ]
                                refine lin_pass 9 (some 228) (by kernel_rfl) (by kernel_rfl) (by kernel_rfl) (by kernel_rfl) (fun _ _ _ h => h) (by kernel_rfl) (by assumption) ?_
                                try simp only [Act.put, List.setIfInBounds_toArray, List.set_cons_zero, List.set_cons_succ]
                                refine lin_pass 10 (some 229) (by kernel_rfl) (by kernel_rfl) (by kernel_rfl) (by kernel_rfl) (fun _ _ _ h => h) (by kernel_rfl) (by assumption) ?_
                                try simp only [Act.put, List.setIfInBounds_toArray, List.set_cons_zero, List.set_cons_succ]
                                refine lin_pass 11 (some 230) (by kernel_rfl) (by kernel_rfl) (by kernel_rfl) (by kernel_rfl) (fun _ _ _ h => h) (by kernel_rfl) (by assumption) ?_
                                try simp only [Act.put, List.setIfInBounds_toArray, List.set_cons_zero, List.set_cons_succ]
                                refine lin_pass 12 (some 231) (by kernel_rfl) (by kernel_rfl) (by kernel_rfl) (by kernel_rfl) (fun _ _ _ h => h) (by kernel_rfl) (by assumption) ?_
                                try simp only [Act.put, List.setIfInBounds_toArray, List.set_cons_zero, List.set_cons_succ]
                                refine lin_pass 13 (some 232) (by kernel_rfl) (by kernel_rfl) (by kernel_rfl) (by kernel_rfl) (fun _ _ _ h => h) (by kernel_rfl) (by assumption) ?_
                                try simp only [Act.put, List.setIfInBounds_toArray, List.set_cons_zero, List.set_cons_succ]
                                refine lin_take 14 (some 233) (v := ?_) (by kernel_rfl) (by kernel_rfl) (by kernel_rfl) (by kernel_rfl) (fun _ _ _ h => h) (by kernel_rfl) ?_ (by assumption) ?_; rotate_left; focus (intro w hSw; (try dsimp only at hSw); simp only [List.getElem?_toArray, List.getElem?_cons_zero, List.getElem?_cons_succ, Option.map_some, Option.some.injEq]; go_simp; (first | done | with_reducible rfl))
                                try simp only [Act.put, List.setIfInBounds_toArray, List.set_cons_zero, List.set_cons_succ]
                                refine lin_take 15 (some 234) (v := ?_) (by kernel_rfl) (by kernel_rfl) (by kernel_rfl) (by kernel_rfl) (fun _ _ _ h => h) (by kernel_rfl) ?_ (by assumption) ?_; rotate_left; focus (intro w hSw; (try dsimp only at hSw); simp only [List.getElem?_toArray, List.getElem?_cons_zero, List.getElem?_cons_succ, Option.map_some, Option.some.injEq]; go_simp; (first | done | with_reducible rfl))
                                try simp only [Act.put, List.setIfInBounds_toArray, List.set_cons_zero, List.set_cons_succ]
                                refine lin_take 16 (some 235) (v := ?_) (by kernel_rfl) (by kernel_rfl) (by kernel_rfl) (by kernel_rfl) (fun _ _ _ h => h) (by kernel_rfl) ?_ (by assumption) ?_; rotate_left; focus (intro w hSw; (try dsimp only at hSw); simp only [List.getElem?_toArray, List.getElem?_cons_zero, List.getElem?_cons_succ, Option.map_some, Option.some.injEq]; go_simp; (first | done | with_reducible rfl))
                                try simp only [Act.put, List.setIfInBounds_toArray, List.set_cons_zero, List.set_cons_succ]
                                refine lin_take 17 (some 236) (v := ?_) (by kernel_rfl) (by kernel_rfl) (by kernel_rfl) (by kernel_rfl) (fun _ _ _ h => h) (by kernel_rfl) ?_ (by assumption) ?_; rotate_left; focus (intro w hSw; (try dsimp only at hSw); simp only [List.getElem?_toArray, List.getElem?_cons_zero, List.getElem?_cons_succ, Option.map_some, Option.some.injEq]; go_simp; (first | done | with_reducible rfl))
                                try simp only [Act.put, List.setIfInBounds_toArray, List.set_cons_zero, List.set_cons_succ]
                                refine lin_take 18 (some 237) (v := ?_) (by kernel_rfl) (by kernel_rfl) (by kernel_rfl) (by kernel_rfl) (fun _ _ _ h => h) (by kernel_rfl) ?_ (by assumption) ?_; rotate_left; focus (intro w hSw; (try dsimp only at hSw); simp only [List.getElem?_toArray, List.getElem?_cons_zero, List.getElem?_cons_succ, Option.map_some, Option.some.injEq]; go_simp; (first | done | with_reducible rfl))
                                try simp only [Act.put, List.setIfInBounds_toArray, List.set_cons_zero, List.set_cons_succ]
                                refine lin_take 19 (some 238) (v := ?_) (by kernel_rfl) (by kernel_rfl) (by kernel_rfl) (by kernel_rfl) (fun _ _ _ h => h) (by kernel_rfl) ?_ (by assumption) ?_; rotate_left; focus (intro w hSw; (try dsimp only at hSw); simp only [List.getElem?_toArray, List.getElem?_cons_zero, List.getElem?_cons_succ, Option.map_some, Option.some.injEq]; go_simp; (first | done | with_reducible rfl))
                                try simp only [Act.put, List.setIfInBounds_toArray, List.set_cons_zero, List.set_cons_succ]
                                refine lin_take 20 (some 239) (v := ?_) (by kernel_rfl) (by kernel_rfl) (by kernel_rfl) (by kernel_rfl) (fun _ _ _ h => h) (by kernel_rfl) ?_ (by assumption) ?_; rotate_left; focus (intro w hSw; (try dsimp only at hSw); simp only [List.getElem?_toArray, List.getElem?_cons_zero, List.getElem?_cons_succ, Option.map_some, Option.some.injEq]; go_simp; (first | done | with_reducible rfl))
                                try simp only [Act.put, List.setIfInBounds_toArray, List.set_cons_zero, List.set_cons_succ]
                                refine lin_take 21 (some 240) (v := ?_) (by kernel_rfl) (by kernel_rfl) (by kernel_rfl) (by kernel_rfl) (fun _ _ _ h => h) (by kernel_rfl) ?_ (by assumption) ?_; rotate_left; focus (intro w hSw; (try dsimp only at hSw); simp only [List.getElem?_toArray, List.getElem?_cons_zero, List.getElem?_cons_succ, Option.map_some, Option.some.injEq]; go_simp; (first | done | with_reducible rfl))
                                try simp only [Act.put, List.setIfInBounds_toArray, List.set_cons_zero, List.set_cons_succ]
                                refine wpAnyH_ready (rs := [22]) (by kernel_rfl) (by simp) ?_
                                refine AllReadyH.cons (i := 22) rfl (fun K hK => ?_) AllReadyH.nil
                                go_simp
                                (with_reducible refine Calls.mono (hless.out _) ?_)
                                rintro e wm ⟨rfl, hgm⟩
                                go_wp2_with fail
                                refine hK.out _ _ (hgm.keep (by assumption)) (fun hHeld => ?_)
                                clear hK K
                                try simp only [Act.put, List.setIfInBounds_toArray, List.set_cons_zero, List.set_cons_succ]
                                refine lin_take 23 (some 242) (v := ?_) (by kernel_rfl) (by kernel_rfl) (by kernel_rfl) (by kernel_rfl) (fun _ _ _ h => h) (by kernel_rfl) ?_ (by assumption) ?_; rotate_left; focus (intro w hSw; (try dsimp only at hSw); simp only [List.getElem?_toArray, List.getElem?_cons_zero, List.getElem?_cons_succ, Option.map_some, Option.some.injEq]; go_simp; (first | done | with_reducible rfl))
                                try simp only [Act.put, List.setIfInBounds_toArray, List.set_cons_zero, List.set_cons_succ]
                                refine lin_take 24 (some 243) (v := ?_) (by kernel_rfl) (by kernel_rfl) (by kernel_rfl) (by kernel_rfl) (fun _ _ _ h => h) (by kernel_rfl) ?_ (by assumption) ?_; rotate_left; focus (intro w hSw; (try dsimp only at hSw); simp only [List.getElem?_toArray, List.getElem?_cons_zero, List.getElem?_cons_succ, Option.map_some, Option.some.injEq]; go_simp; (first | done | with_reducible rfl))
                                try simp only [Act.put, List.setIfInBounds_toArray, List.set_cons_zero, List.set_cons_succ]
                                refine wpAnyH_done (by kernel_rfl) ?_ _
                                all_goals
                                  have hgx : G w14 wm := by assumption
                                  replace hgx := Lib.hid hgx
                                  clear c0 c1 c2 c3 c4 c5 c6
                                  go_wp2_with fail
                                  go_roundw
                                  case rel => exact ⟨i6 + 1, by omega, by go_num, hgx⟩
                                  case measure => (simp [intOf] <;> omega)
                              · obtain ⟨m, him⟩ : ∃ m, i6 = m + 1 := ⟨i6 - 1, by omega⟩
                                obtain ⟨⟨s2, v2, d2, ⟨x2, y2', z2⟩, n2⟩, hb⟩ : ∃ b, X[m]? = some b := ⟨_, List.getElem?_eq_getElem (by omega)⟩
                                have hlt := (sortedB_iff X).1 hson.out m _ _ hb (by rw [← him]; exact ha)
                                have hlev := fun w' => lessEvent_any s2 d2 v2 x2 y2' z2 n2 s1 d1 v1 x1 y1' z1 n1 w'
                                rw [hlt] at hlev
                                obtain ⟨_, _, e2, _, t0, t1, t2, t3, t4, t5, t6⟩ := hsX14.evG z5 hb
                                cases e2
                                dsimp only at t0 t1 t2 t3 t4 t5 t6
                                have hkb : decide ((0 : Int) < (i6 : Int)) = true := decide_eq_true (by omega)
                                have n0 : 0 < i6 := by omega
                                have hwr : IntKind.i64.wrap ((i6 : Int) - 1) = (m : Int) := by rw [IntWalk.i64_in _ (by omega)]; omega
                                have m3 : (0 : Int) ≤ (m : Int) := by omega
                                have m4 : (m : Int) < (X.length : Int) := by omega
                                replace him := Lib.hid him
                                replace hlt := Lib.hid hlt
                                replace hlev := Lib.hid hlev
                                replace hls := Lib.hid hls
                                replace ha := Lib.hid ha
                                replace hb := Lib.hid hb
                                replace hless := Lib.hid hless
                                go_upto_region 50 with fail
                                refine wp_region_held_drew (S := fun w' => G w14 w') (by kernel_rfl) hgr.out.drew (fun hHeld => ?_)
                                refine lin_take 0 (some 219) (v := ?_) (by kernel_rfl) (by kernel_rfl) (by kernel_rfl) (by kernel_rfl) (fun _ _ _ h => h) (by kernel_rfl) ?_ (by assumption) ?_; rotate_left; focus (intro w hSw; (try dsimp only at hSw); simp only [List.getElem?_toArray, List.getElem?_cons_zero, Option.map_some, Option.some.injEq]; go_simp; (first | done | with_reducible rfl))
                                try simp only [Act.put, List.setIfInBounds_toArray, List.set_cons_zero, List.set_cons_succ]
                                refine lin_take 1 (some 220) (v := ?_) (by kernel_rfl) (by kernel_rfl) (by kernel_rfl) (by kernel_rfl) (fun _ _ _ h => h) (by kernel_rfl) ?_ (by assumption) ?_; rotate_left; focus (intro w hSw; (try dsimp only at hSw); simp only [List.getElem?_toArray, List.getElem?_cons_zero, List.getElem?_cons_succ, Option.map_some, Option.some.injEq]; go_simp; (first | done | with_reducible rfl))
                                try simp only [Act.put, List.setIfInBounds_toArray, List.set_cons_zero, List.set_cons_succ]
                                refine lin_take 2 (some 221) (v := ?_) (by kernel_rfl) (by kernel_rfl) (by kernel_rfl) (by kernel_rfl) (fun _ _ _ h => h) (by kernel_rfl) ?_ (by assumption) ?_; rotate_left; focus (intro w hSw; (try dsimp only at hSw); simp only [List.getElem?_toArray, List.getElem?_cons_zero, List.getElem?_cons_succ, Option.map_some, Option.some.injEq]; go_simp; (first | done | with_reducible rfl))
                                try simp only [Act.put, List.setIfInBounds_toArray, List.set_cons_zero, List.set_cons_succ]
                                refine lin_take 3 (some 222) (v := ?_) (by kernel_rfl) (by kernel_rfl) (by kernel_rfl) (by kernel_rfl) (fun _ _ _ h => h) (by kernel_rfl) ?_ (by assumption) ?_; rotate_left; focus (intro w hSw; (try dsimp only at hSw); simp only [List.getElem?_toArray, List.getElem?_cons_zero, List.getElem?_cons_succ, Option.map_some, Option.some.injEq]; go_simp; (first | done | with_reducible rfl))
                                try simp only [Act.put, List.setIfInBounds_toArray, List.set_cons_zero, List.set_cons_succ]
                                refine lin_take 4 (some 223) (v := ?_) (by kernel_rfl) (by kernel_rfl) (by kernel_rfl) (by kernel_rfl) (fun _ _ _ h => h) (by kernel_rfl) ?_ (by assumption) ?_; rotate_left; focus (intro w hSw; (try dsimp only at hSw); simp only [List.getElem?_toArray, List.getElem?_cons_zero, List.getElem?_cons_succ, Option.map_some, Option.some.injEq]; go_simp; (first | done | with_reducible rfl))
                                try simp only [Act.put, List.setIfInBounds_toArray, List.set_cons_zero, List.set_cons_succ]
                                refine lin_take 5 (some 224) (v := ?_) (by kernel_rfl) (by kernel_rfl) (by kernel_rfl) (by kernel_rfl) (fun _ _ _ h => h) (by kernel_rfl) ?_ (by assumption) ?_; rotate_left; focus (intro w hSw; (try dsimp only at hSw); simp only [List.getElem?_toArray, List.getElem?_cons_zero, List.getElem?_cons_succ, Option.map_some, Option.some.injEq]; go_simp; (first | done | with_reducible rfl))
                                try simp only [Act.put, List.setIfInBounds_toArray, List.set_cons_zero, List.set_cons_succ]
                                refine lin_take 6 (some 225) (v := ?_) (by kernel_rfl) (by kernel_rfl) (by kernel_rfl) (by kernel_rfl) (fun _ _ _ h => h) (by kernel_rfl) ?_ (by assumption) ?_; rotate_left; focus (intro w hSw; (try dsimp only at hSw); simp only [List.getElem?_toArray, List.getElem?_cons_zero, List.getElem?_cons_succ, Option.map_some, Option.some.injEq]; go_simp; (first | done | with_reducible rfl))
                                try simp only [Act.put, List.setIfInBounds_toArray, List.set_cons_zero, List.set_cons_succ]
                                refine lin_take 7 (some 226) (v := ?_) (by kernel_rfl) (by kernel_rfl) (by kernel_rfl) (by kernel_rfl) (fun _ _ _ h => h) (by kernel_rfl) ?_ (by assumption) ?_; rotate_left; focus (intro w hSw; (try dsimp only at hSw); simp only [List.getElem?_toArray, List.getElem?_cons_zero, List.getElem?_cons_succ, Option.map_some, Option.some.injEq]; go_simp; (first | done | with_reducible rfl))
                                try simp only [Act.put, List.setIfInBounds_toArray, List.set_cons_zero, List.set_cons_succ]
                                refine lin_take 8 (some 227) (v := ?_) (by kernel_rfl) (by kernel_rfl) (by kernel_rfl) (by kernel_rfl) (fun _ _ _ h => h) (by kernel_rfl) ?_ (by assumption) ?_; rotate_left; focus (intro w hSw; (try dsimp only at hSw); simp only [List.getElem?_toArray, List.getElem?_cons_zero, List.getElem?_cons_succ, Option.map_some, Option.some.injEq]; go_simp; (first | done | with_reducible rfl))
                                try simp only [Act.put, List.setIfInBounds_toArray, List.set_cons_zero, List.set_cons_succ]
                                refine lin_take 9 (some 228) (v := ?_) (by kernel_rfl) (by kernel_rfl) (by kernel_rfl) (by kernel_rfl) (fun _ _ _ h => h) (by kernel_rfl) ?_ (by assumption) ?_; rotate_left; focus (intro w hSw; (try dsimp only at hSw); simp only [List.getElem?_toArray, List.getElem?_cons_zero, List.getElem?_cons_succ, Option.map_some, Option.some.injEq]; go_simp; (first | done | with_reducible rfl))
                                try simp only [Act.put, List.setIfInBounds_toArray, List.set_cons_zero, List.set_cons_succ]
                                refine lin_take 10 (some 229) (v := ?_) (by kernel_rfl) (by kernel_rfl) (by kernel_rfl) (by kernel_rfl) (fun _ _ _ h => h) (by kernel_rfl) ?_ (by assumption) ?_; rotate_left; focus (intro w hSw; (try dsimp only at hSw); simp only [List.getElem?_toArray, List.getElem?_cons_zero, List.getElem?_cons_succ, Option.map_some, Option.some.injEq]; go_simp; (first | done | with_reducible rfl))
                                try simp only [Act.put, List.setIfInBounds_toArray, List.set_cons_zero, List.set_cons_succ]
                                refine lin_take 11 (some 230) (v := ?_) (by kernel_rfl) (by kernel_rfl) (by kernel_rfl) (by kernel_rfl) (fun _ _ _ h => h) (by kernel_rfl) ?_ (by assumption) ?_; rotate_left; focus (intro w hSw; (try dsimp only at hSw); simp only [List.getElem?_toArray, List.getElem?_cons_zero, List.getElem?_cons_succ, Option.map_some, Option.some.injEq]; go_simp; (first | done | with_reducible rfl))
                                try simp only [Act.put, List.setIfInBounds_toArray, List.set_cons_zero, List.set_cons_succ]
                                refine wpAnyH_ready (rs := [12]) (by kernel_rfl) (by simp) ?_
                                refine AllReadyH.cons (i := 12) rfl (fun K hK => ?_) AllReadyH.nil
                                go_simp
                                (with_reducible refine Calls.mono (hlev.out _) ?_)
                                rintro e wa ⟨rfl, hgm⟩
                                go_wp2_with fail
                                refine hK.out _ _ (hgm.keep (by assumption)) (fun hHeld => ?_)
                                clear hK K
                                try simp only [Act.put, List.setIfInBounds_toArray, List.set_cons_zero, List.set_cons_succ]
                                refine lin_take 13 (some 232) (v := ?_) (by kernel_rfl) (by kernel_rfl) (by kernel_rfl) (by kernel_rfl) (fun _ _ _ h => h) (by kernel_rfl) ?_ (by assumption) ?_; rotate_left; focus (intro w hSw; (try dsimp only at hSw); simp only [List.getElem?_toArray, List.getElem?_cons_zero, List.getElem?_cons_succ, Option.map_some, Option.some.injEq]; go_simp; (first | done | with_reducible rfl))
                                try simp only [Act.put, List.setIfInBounds_toArray, List.set_cons_zero, List.set_cons_succ]
                                refine lin_take 14 (some 233) (v := ?_) (by kernel_rfl) (by kernel_rfl) (by kernel_rfl) (by kernel_rfl) (fun _ _ _ h => h) (by kernel_rfl) ?_ (by assumption) ?_; rotate_left; focus (intro w hSw; (try dsimp only at hSw); simp only [List.getElem?_toArray, List.getElem?_cons_zero, List.getElem?_cons_succ, Option.map_some, Option.some.injEq]; go_simp; (first | done | with_reducible rfl))
                                try simp only [Act.put, List.setIfInBounds_toArray, List.set_cons_zero, List.set_cons_succ]
                                refine lin_take 15 (some 234) (v := ?_) (by kernel_rfl) (by kernel_rfl) (by kernel_rfl) (by kernel_rfl) (fun _ _ _ h => h) (by kernel_rfl) ?_ (by assumption) ?_; rotate_left; focus (intro w hSw; (try dsimp only at hSw); simp only [List.getElem?_toArray, List.getElem?_cons_zero, List.getElem?_cons_succ, Option.map_some, Option.some.injEq]; go_simp; (first | done | with_reducible rfl))
                                try simp only [Act.put, List.setIfInBounds_toArray, List.set_cons_zero, List.set_cons_succ]
                                refine lin_take 16 (some 235) (v := ?_) (by kernel_rfl) (by kernel_rfl) (by kernel_rfl) (by kernel_rfl) (fun _ _ _ h => h) (by kernel_rfl) ?_ (by assumption) ?_; rotate_left; focus (intro w hSw; (try dsimp only at hSw); simp only [List.getElem?_toArray, List.getElem?_cons_zero, List.getElem?_cons_succ, Option.map_some, Option.some.injEq]; go_simp; (first | done | with_reducible rfl))
                                try simp only [Act.put, List.setIfInBounds_toArray, List.set_cons_zero, List.set_cons_succ]
                                refine lin_take 17 (some 236) (v := ?_) (by kernel_rfl) (by kernel_rfl) (by kernel_rfl) (by kernel_rfl) (fun _ _ _ h => h) (by kernel_rfl) ?_ (by assumption) ?_; rotate_left; focus (intro w hSw; (try dsimp only at hSw); simp only [List.getElem?_toArray, List.getElem?_cons_zero, List.getElem?_cons_succ, Option.map_some, Option.some.injEq]; go_simp; (first | done | with_reducible rfl))
                                try simp only [Act.put, List.setIfInBounds_toArray, List.set_cons_zero, List.set_cons_succ]
                                refine lin_take 18 (some 237) (v := ?_) (by kernel_rfl) (by kernel_rfl) (by kernel_rfl) (by kernel_rfl) (fun _ _ _ h => h) (by kernel_rfl) ?_ (by assumption) ?_; rotate_left; focus (intro w hSw; (try dsimp only at hSw); simp only [List.getElem?_toArray, List.getElem?_cons_zero, List.getElem?_cons_succ, Option.map_some, Option.some.injEq]; go_simp; (first | done | with_reducible rfl))
                                try simp only [Act.put, List.setIfInBounds_toArray, List.set_cons_zero, List.set_cons_succ]
                                refine lin_take 19 (some 238) (v := ?_) (by kernel_rfl) (by kernel_rfl) (by kernel_rfl) (by kernel_rfl) (fun _ _ _ h => h) (by kernel_rfl) ?_ (by assumption) ?_; rotate_left; focus (intro w hSw; (try dsimp only at hSw); simp only [List.getElem?_toArray, List.getElem?_cons_zero, List.getElem?_cons_succ, Option.map_some, Option.some.injEq]; go_simp; (first | done | with_reducible rfl))
                                try simp only [Act.put, List.setIfInBounds_toArray, List.set_cons_zero, List.set_cons_succ]
                                refine lin_take 20 (some 239) (v := ?_) (by kernel_rfl) (by kernel_rfl) (by kernel_rfl) (by kernel_rfl) (fun _ _ _ h => h) (by kernel_rfl) ?_ (by assumption) ?_; rotate_left; focus (intro w hSw; (try dsimp only at hSw); simp only [List.getElem?_toArray, List.getElem?_cons_zero, List.getElem?_cons_succ, Option.map_some, Option.some.injEq]; go_simp; (first | done | with_reducible rfl))
                                try simp only [Act.put, List.setIfInBounds_toArray, List.set_cons_zero, List.set_cons_succ]
                                refine lin_take 21 (some 240) (v := ?_) (by kernel_rfl) (by kernel_rfl) (by kernel_rfl) (by kernel_rfl) (fun _ _ _ h => h) (by kernel_rfl) ?_ (by assumption) ?_; rotate_left; focus (intro w hSw; (try dsimp only at hSw); simp only [List.getElem?_toArray, List.getElem?_cons_zero, List.getElem?_cons_succ, Option.map_some, Option.some.injEq]; go_simp; (first | done | with_reducible rfl))
                                try simp only [Act.put, List.setIfInBounds_toArray, List.set_cons_zero, List.set_cons_succ]
                                refine wpAnyH_ready (rs := [22]) (by kernel_rfl) (by simp) ?_
                                refine AllReadyH.cons (i := 22) rfl (fun K hK => ?_) AllReadyH.nil
                                go_simp
                                (with_reducible refine Calls.mono (hless.out _) ?_)
                                rintro e wm ⟨rfl, hgm⟩
                                go_wp2_with fail
                                refine hK.out _ _ (hgm.keep (by assumption)) (fun hHeld => ?_)
                                clear hK K
                                try simp only [Act.put, List.setIfInBounds_toArray, List.set_cons_zero, List.set_cons_succ]
                                refine lin_take 23 (some 242) (v := ?_) (by kernel_rfl) (by kernel_rfl) (by kernel_rfl) (by kernel_rfl) (fun _ _ _ h => h) (by kernel_rfl) ?_ (by assumption) ?_; rotate_left; focus (intro w hSw; (try dsimp only at hSw); simp only [List.getElem?_toArray, List.getElem?_cons_zero, List.getElem?_cons_succ, Option.map_some, Option.some.injEq]; go_simp; (first | done | with_reducible rfl))
                                try simp only [Act.put, List.setIfInBounds_toArray, List.set_cons_zero, List.set_cons_succ]
                                refine lin_take 24 (some 243) (v := ?_) (by kernel_rfl) (by kernel_rfl) (by kernel_rfl) (by kernel_rfl) (fun _ _ _ h => h) (by kernel_rfl) ?_ (by assumption) ?_; rotate_left; focus (intro w hSw; (try dsimp only at hSw); simp only [List.getElem?_toArray, List.getElem?_cons_zero, List.getElem?_cons_succ, Option.map_some, Option.some.injEq]; go_simp; (first | done | with_reducible rfl))
                                try simp only [Act.put, List.setIfInBounds_toArray, List.set_cons_zero, List.set_cons_succ]
                                refine wpAnyH_done (by kernel_rfl) ?_ _
                                all_goals
                                  have hgx : G w14 wm := by assumption
                                  replace hgx := Lib.hid hgx
                                  clear c0 c1 c2 c3 c4 c5 c6 t0 t1 t2 t3 t4 t5 t6 hwr
                                  go_wp2_with fail
                                  go_roundw
                                  case rel => exact ⟨i6 + 1, by omega, by go_num, hgx⟩
                                  case measure => (simp [intOf] <;> omega)
                            · have n6 : ¬ (i6 : Int) < (X.length : Int) := by omega
                              go_wp2_with fail
                              go_loopw [33, 34] (fun n i wr => ∃ k7 n7 : Nat, k7 ≤ es.length ∧ n = .int .i64 n7 ∧ i = .int .i64 k7 ∧ n7 ≤ k7 ∧ Hid (n7 = ((es.take k7).filter (cntB ⟨l1, l2, l3⟩)).length) ∧ Hid (G w14 wr)) (fun _ i _ => es.length - (intOf i).toNat)
                              case atStart => exact ⟨0, 0, Nat.zero_le _, rfl, rfl, Nat.le_refl _, by simp [Hid], hgr⟩
                              case round =>
                                clear hgr n6
                                obtain ⟨k7, n7, hk7, rfl, rfl, hnk, hn7, hgr⟩ := hrel
                                by_cases hlt7 : k7 < es.length
                                · obtain ⟨⟨s1, v1, d1, ⟨x1, y1', z1⟩, n1⟩, ha⟩ : ∃ a, es[k7]? = some a := ⟨_, List.getElem?_eq_getElem hlt7⟩
                                  have hfs := filter_snoc (f := cntB ⟨l1, l2, l3⟩) ha
                                  rw [← hn7.out] at hfs
                                  have hce := cntB_eq ⟨l1, l2, l3⟩ ⟨s1, v1, d1, ⟨x1, y1', z1⟩, n1⟩
                                  have hsz := hess.out _ (List.mem_of_getElem? ha)
                                  dsimp only at hce hsz
                                  have hless := fun w' => refLess_any x1 y1' z1 l1 l2 l3 w'
                                  have hval := fun w' => refValid_any s1 w' (by omega)
                                  have hbeh := fun w' => refBehind_any s1 d1 v1 x1 y1' z1 n1 0 0 0 0 ⟨#[]⟩ w'
                                  obtain ⟨b1, o1, e1, hb1, c0, c1, c2, c3, c4, c5, c6⟩ := hes14.evG z4 ha
                                  cases e1
                                  dsimp only at c0 c1 c2 c3 c4 c5 c6
                                  have m1 : (0 : Int) ≤ (k7 : Int) := by omega
                                  have m2 : (k7 : Int) < (es.length : Int) := by omega
                                  have hcu : (⟨⟨0, 0, 0⟩, 0, ⟨#[]⟩⟩ : Cu) = cu0 := rfl
                                  rw [hcu] at hbeh
                                  replace ha := Lib.hid ha
                                  cases hq1 : stLt ⟨x1, y1', z1⟩ ⟨l1, l2, l3⟩ with
                                  | false =>
                                    rw [hq1] at hless hce
                                    rw [Bool.false_and] at hce
                                    replace hq1 := Lib.hid hq1
                                    have hfs2 : ((es.take (k7 + 1)).filter (cntB ⟨l1, l2, l3⟩)).length = n7 := by rw [hfs, hce]; rfl
                                    replace hfs2 := Lib.hid hfs2
                                    replace hfs := Lib.hid hfs
                                    replace hce := Lib.hid hce
                                    replace hless := Lib.hid hless
                                    replace hval := Lib.hid hval
                                    replace hbeh := Lib.hid hbeh
                                    go_upto_region 56 with fail
                                    refine wp_region_held_drew (S := fun w' => G w14 w') (by kernel_rfl) hgr.out.drew (fun hHeld => ?_)
                                    refine lin_take 0 (some 250) (v := ?_) (by kernel_rfl) (by kernel_rfl) (by kernel_rfl) (by kernel_rfl) (fun _ _ _ h => h) (by kernel_rfl) ?_ (by assumption) ?_; rotate_left; focus (intro w hSw; (try dsimp only at hSw); simp only [List.getElem?_toArray, List.getElem?_cons_zero, Option.map_some, Option.some.injEq]; go_simp; (first | done | with_reducible rfl))
                                    try simp only [Act.put, List.setIfInBounds_toArray, List.set_cons_zero, List.set_cons_succ]
                                    refine lin_take 1 (some 251) (v := ?_) (by kernel_rfl) (by kernel_rfl) (by kernel_rfl) (by kernel_rfl) (fun _ _ _ h => h) (by kernel_rfl) ?_ (by assumption) ?_; rotate_left; focus (intro w hSw; (try dsimp only at hSw); simp only [List.getElem?_toArray, List.getElem?_cons_zero, List.getElem?_cons_succ, Option.map_some, Option.some.injEq]; go_simp; (first | done | with_reducible rfl))
                                    try simp only [Act.put, List.setIfInBounds_toArray, List.set_cons_zero, List.set_cons_succ]
                                    refine lin_take 2 (some 252) (v := ?_) (by kernel_rfl) (by kernel_rfl) (by kernel_rfl) (by kernel_rfl) (fun _ _ _ h => h) (by kernel_rfl) ?_ (by assumption) ?_; rotate_left; focus (intro w hSw; (try dsimp only at hSw); simp only [List.getElem?_toArray, List.getElem?_cons_zero, List.getElem?_cons_succ, Option.map_some, Option.some.injEq]; go_simp; (first | done | with_reducible rfl))
                                    try simp only [Act.put, List.setIfInBounds_toArray, List.set_cons_zero, List.set_cons_succ]
                                    refine lin_take 3 (some 253) (v := ?_) (by kernel_rfl) (by kernel_rfl) (by kernel_rfl) (by kernel_rfl) (fun _ _ _ h => h) (by kernel_rfl) ?_ (by assumption) ?_; rotate_left; focus (intro w hSw; (try dsimp only at hSw); simp only [List.getElem?_toArray, List.getElem?_cons_zero, List.getElem?_cons_succ, Option.map_some, Option.some.injEq]; go_simp; (first | done | with_reducible rfl))
                                    try simp only [Act.put, List.setIfInBounds_toArray, List.set_cons_zero, List.set_cons_succ]
                                    refine lin_take 4 (some 254) (v := ?_) (by kernel_rfl) (by kernel_rfl) (by kernel_rfl) (by kernel_rfl) (fun _ _ _ h => h) (by kernel_rfl) ?_ (by assumption) ?_; rotate_left; focus (intro w hSw; (try dsimp only at hSw); simp only [List.getElem?_toArray, List.getElem?_cons_zero, List.getElem?_cons_succ, Option.map_some, Option.some.injEq]; go_simp; (first | done | with_reducible rfl))
                                    try simp only [Act.put, List.setIfInBounds_toArray, List.set_cons_zero, List.set_cons_succ]
                                    refine lin_take 5 (some 255) (v := ?_) (by kernel_rfl) (by kernel_rfl) (by kernel_rfl) (by kernel_rfl) (fun _ _ _ h => h) (by kernel_rfl) ?_ (by assumption) ?_; rotate_left; focus (intro w hSw; (try dsimp only at hSw); simp only [List.getElem?_toArray, List.getElem?_cons_zero, List.getElem?_cons_succ, Option.map_some, Option.some.injEq]; go_simp; (first | done | with_reducible rfl))
                                    try simp only [Act.put, List.setIfInBounds_toArray, List.set_cons_zero, List.set_cons_succ]
                                    refine wpAnyH_ready (rs := [6]) (by kernel_rfl) (by simp) ?_
                                    refine AllReadyH.cons (i := 6) rfl (fun K hK => ?_) AllReadyH.nil
                                    go_simp
                                    (with_reducible refine Calls.mono (hless.out _) ?_)
                                    rintro e wm ⟨rfl, hgm⟩
                                    go_wp2_with fail
                                    refine hK.out _ _ (hgm.keep (by assumption)) (fun hHeld => ?_)
                                    clear hK K
                                    try simp only [Act.put, List.setIfInBounds_toArray, List.set_cons_zero, List.set_cons_succ]
                                    refine lin_take 7 (some 257) (v := ?_) (by kernel_rfl) (by kernel_rfl) (by kernel_rfl) (by kernel_rfl) (fun _ _ _ h => h) (by kernel_rfl) ?_ (by assumption) ?_; rotate_left; focus (intro w hSw; (try dsimp only at hSw); simp only [List.getElem?_toArray, List.getElem?_cons_zero, List.getElem?_cons_succ, Option.map_some, Option.some.injEq]; go_simp; (first | done | with_reducible rfl))
                                    try simp only [Act.put, List.setIfInBounds_toArray, List.set_cons_zero, List.set_cons_succ]
                                    refine lin_pass 8 (some 258) (by kernel_rfl) (by kernel_rfl) (by kernel_rfl) (by kernel_rfl) (fun _ _ _ h => h) (by kernel_rfl) (by assumption) ?_
                                    try simp only [Act.put, List.setIfInBounds_toArray, List.set_cons_zero, List.set_cons_succ]
                                    refine lin_pass 9 (some 259) (by kernel_rfl) (by kernel_rfl) (by kernel_rfl) (by kernel_rfl) (fun _ _ _ h => h) (by kernel_rfl) (by assumption) ?_
                                    try simp only [Act.put, List.setIfInBounds_toArray, List.set_cons_zero, List.set_cons_succ]
                                    refine lin_pass 10 (some 260) (by kernel_rfl) (by kernel_rfl) (by kernel_rfl) (by kernel_rfl) (fun _ _ _ h => h) (by kernel_rfl) (by assumption) ?_
                                    try simp only [Act.put, List.setIfInBounds_toArray, List.set_cons_zero, List.set_cons_succ]
                                    refine lin_pass 11 (some 261) (by kernel_rfl) (by kernel_rfl) (by kernel_rfl) (by kernel_rfl) (fun _ _ _ h => h) (by kernel_rfl) (by assumption) ?_
                                    try simp only [Act.put, List.setIfInBounds_toArray, List.set_cons_zero, List.set_cons_succ]
                                    refine lin_pass 12 (some 262) (by kernel_rfl) (by kernel_rfl) (by kernel_rfl) (by kernel_rfl) (fun _ _ _ h => h) (by kernel_rfl) (by assumption) ?_
                                    try simp only [Act.put, List.setIfInBounds_toArray, List.set_cons_zero, List.set_cons_succ]
                                    refine lin_pass 13 (some 263) (by kernel_rfl) (by kernel_rfl) (by kernel_rfl) (by kernel_rfl) (fun _ _ _ h => h) (by kernel_rfl) (by assumption) ?_
                                    try simp only [Act.put, List.setIfInBounds_toArray, List.set_cons_zero, List.set_cons_succ]
                                    refine lin_take 14 (some 264) (v := ?_) (by kernel_rfl) (by kernel_rfl) (by kernel_rfl) (by kernel_rfl) (fun _ _ _ h => h) (by kernel_rfl) ?_ (by assumption) ?_; rotate_left; focus (intro w hSw; (try dsimp only at hSw); simp only [List.getElem?_toArray, List.getElem?_cons_zero, List.getElem?_cons_succ, Option.map_some, Option.some.injEq]; go_simp; (first | done | with_reducible rfl))
                                    try simp only [Act.put, List.setIfInBounds_toArray, List.set_cons_zero, List.set_cons_succ]
                                    refine lin_take 15 (some 265) (v := ?_) (by kernel_rfl) (by kernel_rfl) (by kernel_rfl) (by kernel_rfl) (fun _ _ _ h => h) (by kernel_rfl) ?_ (by assumption) ?_; rotate_left; focus (intro w hSw; (try dsimp only at hSw); simp only [List.getElem?_toArray, List.getElem?_cons_zero, List.getElem?_cons_succ, Option.map_some, Option.some.injEq]; go_simp; (first | done | with_reducible rfl))
                                    try simp only [Act.put, List.setIfInBounds_toArray, List.set_cons_zero, List.set_cons_succ]
                                    refine lin_pass 16 (some 266) (by kernel_rfl) (by kernel_rfl) (by kernel_rfl) (by kernel_rfl) (fun _ _ _ h => h) (by kernel_rfl) (by assumption) ?_
                                    try simp only [Act.put, List.setIfInBounds_toArray, List.set_cons_zero, List.set_cons_succ]
                                    refine lin_pass 17 (some 267) (by kernel_rfl) (by kernel_rfl) (by kernel_rfl) (by kernel_rfl) (fun _ _ _ h => h) (by kernel_rfl) (by assumption) ?_
                                    try simp only [Act.put, List.setIfInBounds_toArray, List.set_cons_zero, List.set_cons_succ]
                                    refine lin_pass 18 (some 268) (by kernel_rfl) (by kernel_rfl) (by kernel_rfl) (by kernel_rfl) (fun _ _ _ h => h) (by kernel_rfl) (by assumption) ?_
                                    try simp only [Act.put, List.setIfInBounds_toArray, List.set_cons_zero, List.set_cons_succ]
                                    refine lin_pass 19 (some 269) (by kernel_rfl) (by kernel_rfl) (by kernel_rfl) (by kernel_rfl) (fun _ _ _ h => h) (by kernel_rfl) (by assumption) ?_
                                    try simp only [Act.put, List.setIfInBounds_toArray, List.set_cons_zero, List.set_cons_succ]
                                    refine lin_pass 20 (some 270) (by kernel_rfl) (by kernel_rfl) (by kernel_rfl) (by kernel_rfl) (fun _ _ _ h => h) (by kernel_rfl) (by assumption) ?_
                                    try simp only [Act.put, List.setIfInBounds_toArray, List.set_cons_zero, List.set_cons_succ]
                                    refine lin_pass 21 (some 271) (by kernel_rfl) (by kernel_rfl) (by kernel_rfl) (by kernel_rfl) (fun _ _ _ h => h) (by kernel_rfl) (by assumption) ?_
                                    try simp only [Act.put, List.setIfInBounds_toArray, List.set_cons_zero, List.set_cons_succ]
                                    refine lin_take 22 (some 272) (v := ?_) (by kernel_rfl) (by kernel_rfl) (by kernel_rfl) (by kernel_rfl) (fun _ _ _ h => h) (by kernel_rfl) ?_ (by assumption) ?_; rotate_left; focus (intro w hSw; (try dsimp only at hSw); simp only [List.getElem?_toArray, List.getElem?_cons_zero, List.getElem?_cons_succ, Option.map_some, Option.some.injEq]; go_simp; (first | done | with_reducible rfl))
                                    try simp only [Act.put, List.setIfInBounds_toArray, List.set_cons_zero, List.set_cons_succ]
                                    refine wpAnyH_done (by kernel_rfl) ?_ _
                                    all_goals
                                      have hgx : G w14 wm := by assumption
                                      replace hgx := Lib.hid hgx
                                      clear c0 c1 c2 c3 c4 c5 c6
                                      go_wp2_with fail
                                      go_roundw
                                      case rel => exact ⟨k7 + 1, n7, by omega, rfl, by go_num, by omega, hfs2.out.symm, hgx⟩
                                      case measure => (simp [intOf] <;> omega)
                                  | true =>
                                    rw [hq1] at hless hce
                                    rw [Bool.true_and] at hce
                                    cases hq2 : validB s1 with
                                    | false =>
                                      rw [hq2] at hval hce
                                      rw [Bool.false_and] at hce
                                      replace hq1 := Lib.hid hq1
                                      replace hq2 := Lib.hid hq2
                                      have hfs2 : ((es.take (k7 + 1)).filter (cntB ⟨l1, l2, l3⟩)).length = n7 := by rw [hfs, hce]; rfl
                                      replace hfs2 := Lib.hid hfs2
                                      replace hfs := Lib.hid hfs
                                      replace hce := Lib.hid hce
                                      replace hless := Lib.hid hless
                                      replace hval := Lib.hid hval
                                      replace hbeh := Lib.hid hbeh
                                      go_upto_region 56 with fail
                                      refine wp_region_held_drew (S := fun w' => G w14 w') (by kernel_rfl) hgr.out.drew (fun hHeld => ?_)
                                      refine lin_take 0 (some 250) (v := ?_) (by kernel_rfl) (by kernel_rfl) (by kernel_rfl) (by kernel_rfl) (fun _ _ _ h => h) (by kernel_rfl) ?_ (by assumption) ?_; rotate_left; focus (intro w hSw; (try dsimp only at hSw); simp only [List.getElem?_toArray, List.getElem?_cons_zero, Option.map_some, Option.some.injEq]; go_simp; (first | done | with_reducible rfl))
                                      try simp only [Act.put, List.setIfInBounds_toArray, List.set_cons_zero, List.set_cons_succ]
                                      refine lin_take 1 (some 251) (v := ?_) (by kernel_rfl) (by kernel_rfl) (by kernel_rfl) (by kernel_rfl) (fun _ _ _ h => h) (by kernel_rfl) ?_ (by assumption) ?_; rotate_left; focus (intro w hSw; (try dsimp only at hSw); simp only [List.getElem?_toArray, List.getElem?_cons_zero, List.getElem?_cons_succ, Option.map_some, Option.some.injEq]; go_simp; (first | done | with_reducible rfl))
                                      try simp only [Act.put, List.setIfInBounds_toArray, List.set_cons_zero, List.set_cons_succ]
                                      refine lin_take 2 (some 252) (v := ?_) (by kernel_rfl) (by kernel_rfl) (by kernel_rfl) (by kernel_rfl) (fun _ _ _ h => h) (by kernel_rfl) ?_ (by assumption) ?_; rotate_left; focus (intro w hSw; (try dsimp only at hSw); simp only [List.getElem?_toArray, List.getElem?_cons_zero, List.getElem?_cons_succ, Option.map_some, Option.some.injEq]; go_simp; (first | done | with_reducible rfl))
                                      try simp only [Act.put, List.setIfInBounds_toArray, List.set_cons_zero, List.set_cons_succ]
                                      refine lin_take 3 (some 253) (v := ?_) (by kernel_rfl) (by kernel_rfl) (by kernel_rfl) (by kernel_rfl) (fun _ _ _ h => h) (by kernel_rfl) ?_ (by assumption) ?_; rotate_left; focus (intro w hSw; (try dsimp only at hSw); simp only [List.getElem?_toArray, List.getElem?_cons_zero, List.getElem?_cons_succ, Option.map_some, Option.some.injEq]; go_simp; (first | done | with_reducible rfl))
                                      try simp only [Act.put, List.setIfInBounds_toArray, List.set_cons_zero, List.set_cons_succ]
                                      refine lin_take 4 (some 254) (v := ?_) (by kernel_rfl) (by kernel_rfl) (by kernel_rfl) (by kernel_rfl) (fun _ _ _ h => h) (by kernel_rfl) ?_ (by assumption) ?_; rotate_left; focus (intro w hSw; (try dsimp only at hSw); simp only [List.getElem?_toArray, List.getElem?_cons_zero, List.getElem?_cons_succ, Option.map_some, Option.some.injEq]; go_simp; (first | done | with_reducible rfl))
                                      try simp only [Act.put, List.setIfInBounds_toArray, List.set_cons_zero, List.set_cons_succ]
                                      refine lin_take 5 (some 255) (v := ?_) (by kernel_rfl) (by kernel_rfl) (by kernel_rfl) (by kernel_rfl) (fun _ _ _ h => h) (by kernel_rfl) ?_ (by assumption) ?_; rotate_left; focus (intro w hSw; (try dsimp only at hSw); simp only [List.getElem?_toArray, List.getElem?_cons_zero, List.getElem?_cons_succ, Option.map_some, Option.some.injEq]; go_simp; (first | done | with_reducible rfl))
                                      try simp only [Act.put, List.setIfInBounds_toArray, List.set_cons_zero, List.set_cons_succ]
                                      refine wpAnyH_ready (rs := [6]) (by kernel_rfl) (by simp) ?_
                                      refine AllReadyH.cons (i := 6) rfl (fun K hK => ?_) AllReadyH.nil
                                      go_simp
                                      (with_reducible refine Calls.mono (hless.out _) ?_)
                                      rintro e wa ⟨rfl, hgm⟩
                                      go_wp2_with fail
                                      refine hK.out _ _ (hgm.keep (by assumption)) (fun hHeld => ?_)
                                      clear hK K
                                      try simp only [Act.put, List.setIfInBounds_toArray, List.set_cons_zero, List.set_cons_succ]
                                      refine lin_take 7 (some 257) (v := ?_) (by kernel_rfl) (by kernel_rfl) (by kernel_rfl) (by kernel_rfl) (fun _ _ _ h => h) (by kernel_rfl) ?_ (by assumption) ?_; rotate_left; focus (intro w hSw; (try dsimp only at hSw); simp only [List.getElem?_toArray, List.getElem?_cons_zero, List.getElem?_cons_succ, Option.map_some, Option.some.injEq]; go_simp; (first | done | with_reducible rfl))
                                      try simp only [Act.put, List.setIfInBounds_toArray, List.set_cons_zero, List.set_cons_succ]
                                      refine lin_take 8 (some 258) (v := ?_) (by kernel_rfl) (by kernel_rfl) (by kernel_rfl) (by kernel_rfl) (fun _ _ _ h => h) (by kernel_rfl) ?_ (by assumption) ?_; rotate_left; focus (intro w hSw; (try dsimp only at hSw); simp only [List.getElem?_toArray, List.getElem?_cons_zero, List.getElem?_cons_succ, Option.map_some, Option.some.injEq]; go_simp; (first | done | with_reducible rfl))
                                      try simp only [Act.put, List.setIfInBounds_toArray, List.set_cons_zero, List.set_cons_succ]
                                      refine lin_take 9 (some 259) (v := ?_) (by kernel_rfl) (by kernel_rfl) (by kernel_rfl) (by kernel_rfl) (fun _ _ _ h => h) (by kernel_rfl) ?_ (by assumption) ?_; rotate_left; focus (intro w hSw; (try dsimp only at hSw); simp only [List.getElem?_toArray, List.getElem?_cons_zero, List.getElem?_cons_succ, Option.map_some, Option.some.injEq]; go_simp; (first | done | with_reducible rfl))
                                      try simp only [Act.put, List.setIfInBounds_toArray, List.set_cons_zero, List.set_cons_succ]
                                      refine lin_take 10 (some 260) (v := ?_) (by kernel_rfl) (by kernel_rfl) (by kernel_rfl) (by kernel_rfl) (fun _ _ _ h => h) (by kernel_rfl) ?_ (by assumption) ?_; rotate_left; focus (intro w hSw; (try dsimp only at hSw); simp only [List.getElem?_toArray, List.getElem?_cons_zero, List.getElem?_cons_succ, Option.map_some, Option.some.injEq]; go_simp; (first | done | with_reducible rfl))
                                      try simp only [Act.put, List.setIfInBounds_toArray, List.set_cons_zero, List.set_cons_succ]
                                      refine lin_take 11 (some 261) (v := ?_) (by kernel_rfl) (by kernel_rfl) (by kernel_rfl) (by kernel_rfl) (fun _ _ _ h => h) (by kernel_rfl) ?_ (by assumption) ?_; rotate_left; focus (intro w hSw; (try dsimp only at hSw); simp only [List.getElem?_toArray, List.getElem?_cons_zero, List.getElem?_cons_succ, Option.map_some, Option.some.injEq]; go_simp; (first | done | with_reducible rfl))
                                      try simp only [Act.put, List.setIfInBounds_toArray, List.set_cons_zero, List.set_cons_succ]
                                      refine lin_take 12 (some 262) (v := ?_) (by kernel_rfl) (by kernel_rfl) (by kernel_rfl) (by kernel_rfl) (fun _ _ _ h => h) (by kernel_rfl) ?_ (by assumption) ?_; rotate_left; focus (intro w hSw; (try dsimp only at hSw); simp only [List.getElem?_toArray, List.getElem?_cons_zero, List.getElem?_cons_succ, Option.map_some, Option.some.injEq]; go_simp; (first | done | with_reducible rfl))
                                      try simp only [Act.put, List.setIfInBounds_toArray, List.set_cons_zero, List.set_cons_succ]
                                      refine wpAnyH_ready (rs := [13]) (by kernel_rfl) (by simp) ?_
                                      refine AllReadyH.cons (i := 13) rfl (fun K hK => ?_) AllReadyH.nil
                                      go_simp
                                      (with_reducible refine Calls.mono (hval.out _) ?_)
                                      rintro e wm ⟨rfl, hgm⟩
                                      go_wp2_with fail
                                      refine hK.out _ _ (hgm.keep (by assumption)) (fun hHeld => ?_)
                                      clear hK K
                                      try simp only [Act.put, List.setIfInBounds_toArray, List.set_cons_zero, List.set_cons_succ]
                                      refine lin_take 14 (some 264) (v := ?_) (by kernel_rfl) (by kernel_rfl) (by kernel_rfl) (by kernel_rfl) (fun _ _ _ h => h) (by kernel_rfl) ?_ (by assumption) ?_; rotate_left; focus (intro w hSw; (try dsimp only at hSw); simp only [List.getElem?_toArray, List.getElem?_cons_zero, List.getElem?_cons_succ, Option.map_some, Option.some.injEq]; go_simp; (first | done | with_reducible rfl))
                                      try simp only [Act.put, List.setIfInBounds_toArray, List.set_cons_zero, List.set_cons_succ]
                                      refine lin_take 15 (some 265) (v := ?_) (by kernel_rfl) (by kernel_rfl) (by kernel_rfl) (by kernel_rfl) (fun _ _ _ h => h) (by kernel_rfl) ?_ (by assumption) ?_; rotate_left; focus (intro w hSw; (try dsimp only at hSw); simp only [List.getElem?_toArray, List.getElem?_cons_zero, List.getElem?_cons_succ, Option.map_some, Option.some.injEq]; go_simp; (first | done | with_reducible rfl))
                                      try simp only [Act.put, List.setIfInBounds_toArray, List.set_cons_zero, List.set_cons_succ]
                                      refine lin_pass 16 (some 266) (by kernel_rfl) (by kernel_rfl) (by kernel_rfl) (by kernel_rfl) (fun _ _ _ h => h) (by kernel_rfl) (by assumption) ?_
                                      try simp only [Act.put, List.setIfInBounds_toArray, List.set_cons_zero, List.set_cons_succ]
                                      refine lin_pass 17 (some 267) (by kernel_rfl) (by kernel_rfl) (by kernel_rfl) (by kernel_rfl) (fun _ _ _ h => h) (by kernel_rfl) (by assumption) ?_
                                      try simp only [Act.put, List.setIfInBounds_toArray, List.set_cons_zero, List.set_cons_succ]
                                      refine lin_pass 18 (some 268) (by kernel_rfl) (by kernel_rfl) (by kernel_rfl) (by kernel_rfl) (fun _ _ _ h => h) (by kernel_rfl) (by assumption) ?_
                                      try simp only [Act.put, List.setIfInBounds_toArray, List.set_cons_zero, List.set_cons_succ]
                                      refine lin_pass 19 (some 269) (by kernel_rfl) (by kernel_rfl) (by kernel_rfl) (by kernel_rfl) (fun _ _ _ h => h) (by kernel_rfl) (by assumption) ?_
                                      try simp only [Act.put, List.setIfInBounds_toArray, List.set_cons_zero, List.set_cons_succ]
                                      refine lin_pass 20 (some 270) (by kernel_rfl) (by kernel_rfl) (by kernel_rfl) (by kernel_rfl) (fun _ _ _ h => h) (by kernel_rfl) (by assumption) ?_
                                      try simp only [Act.put, List.setIfInBounds_toArray, List.set_cons_zero, List.set_cons_succ]
                                      refine lin_pass 21 (some 271) (by kernel_rfl) (by kernel_rfl) (by kernel_rfl) (by kernel_rfl) (fun _ _ _ h => h) (by kernel_rfl) (by assumption) ?_
                                      try simp only [Act.put, List.setIfInBounds_toArray, List.set_cons_zero, List.set_cons_succ]
                                      refine lin_take 22 (some 272) (v := ?_) (by kernel_rfl) (by kernel_rfl) (by kernel_rfl) (by kernel_rfl) (fun _ _ _ h => h) (by kernel_rfl) ?_ (by assumption) ?_; rotate_left; focus (intro w hSw; (try dsimp only at hSw); simp only [List.getElem?_toArray, List.getElem?_cons_zero, List.getElem?_cons_succ, Option.map_some, Option.some.injEq]; go_simp; (first | done | with_reducible rfl))
                                      try simp only [Act.put, List.setIfInBounds_toArray, List.set_cons_zero, List.set_cons_succ]
                                      refine wpAnyH_done (by kernel_rfl) ?_ _
                                      all_goals
                                        have hgx : G w14 wm := by assumption
                                        replace hgx := Lib.hid hgx
                                        clear c0 c1 c2 c3 c4 c5 c6
                                        go_wp2_with fail
                                        go_roundw
                                        case rel => exact ⟨k7 + 1, n7, by omega, rfl, by go_num, by omega, hfs2.out.symm, hgx⟩
                                        case measure => (simp [intOf] <;> omega)
                                    | true =>
                                      rw [hq2] at hval hce
                                      rw [Bool.true_and] at hce
                                      cases hq3 : behind ⟨s1, v1, d1, ⟨x1, y1', z1⟩, n1⟩ cu0 with
                                      | false =>
                                        rw [hq3] at hbeh hce
                                        replace hq1 := Lib.hid hq1
                                        replace hq2 := Lib.hid hq2
                                        replace hq3 := Lib.hid hq3
                                        have hfs2 : ((es.take (k7 + 1)).filter (cntB ⟨l1, l2, l3⟩)).length = n7 := by rw [hfs, hce]; rfl
                                        replace hfs2 := Lib.hid hfs2
                                        replace hfs := Lib.hid hfs
                                        replace hce := Lib.hid hce
                                        replace hless := Lib.hid hless
                                        replace hval := Lib.hid hval
                                        replace hbeh := Lib.hid hbeh
                                        go_upto_region 56 with fail
                                        refine wp_region_held_drew (S := fun w' => G w14 w') (by kernel_rfl) hgr.out.drew (fun hHeld => ?_)
                                        refine lin_take 0 (some 250) (v := ?_) (by kernel_rfl) (by kernel_rfl) (by kernel_rfl) (by kernel_rfl) (fun _ _ _ h => h) (by kernel_rfl) ?_ (by assumption) ?_; rotate_left; focus (intro w hSw; (try dsimp only at hSw); simp only [List.getElem?_toArray, List.getElem?_cons_zero, Option.map_some, Option.some.injEq]; go_simp; (first | done | with_reducible rfl))
                                        try simp only [Act.put, List.setIfInBounds_toArray, List.set_cons_zero, List.set_cons_succ]
                                        refine lin_take 1 (some 251) (v := ?_) (by kernel_rfl) (by kernel_rfl) (by kernel_rfl) (by kernel_rfl) (fun _ _ _ h => h) (by kernel_rfl) ?_ (by assumption) ?_; rotate_left; focus (intro w hSw; (try dsimp only at hSw); simp only [List.getElem?_toArray, List.getElem?_cons_zero, List.getElem?_cons_succ, Option.map_some, Option.some.injEq]; go_simp; (first | done | with_reducible rfl))
                                        try simp only [Act.put, List.setIfInBounds_toArray, List.set_cons_zero, List.set_cons_succ]
                                        refine lin_take 2 (some 252) (v := ?_) (by kernel_rfl) (by kernel_rfl) (by kernel_rfl) (by kernel_rfl) (fun _ _ _ h => h) (by kernel_rfl) ?_ (by assumption) ?_; rotate_left; focus (intro w hSw; (try dsimp only at hSw); simp only [List.getElem?_toArray, List.getElem?_cons_zero, List.getElem?_cons_succ, Option.map_some, Option.some.injEq]; go_simp; (first | done | with_reducible rfl))
                                        try simp only [Act.put, List.setIfInBounds_toArray, List.set_cons_zero, List.set_cons_succ]
                                        refine lin_take 3 (some 253) (v := ?_) (by kernel_rfl) (by kernel_rfl) (by kernel_rfl) (by kernel_rfl) (fun _ _ _ h => h) (by kernel_rfl) ?_ (by assumption) ?_; rotate_left; focus (intro w hSw; (try dsimp only at hSw); simp only [List.getElem?_toArray, List.getElem?_cons_zero, List.getElem?_cons_succ, Option.map_some, Option.some.injEq]; go_simp; (first | done | with_reducible rfl))
                                        try simp only [Act.put, List.setIfInBounds_toArray, List.set_cons_zero, List.set_cons_succ]
                                        refine lin_take 4 (some 254) (v := ?_) (by kernel_rfl) (by kernel_rfl) (by kernel_rfl) (by kernel_rfl) (fun _ _ _ h => h) (by kernel_rfl) ?_ (by assumption) ?_; rotate_left; focus (intro w hSw; (try dsimp only at hSw); simp only [List.getElem?_toArray, List.getElem?_cons_zero, List.getElem?_cons_succ, Option.map_some, Option.some.injEq]; go_simp; (first | done | with_reducible rfl))
                                        try simp only [Act.put, List.setIfInBounds_toArray, List.set_cons_zero, List.set_cons_succ]
                                        refine lin_take 5 (some 255) (v := ?_) (by kernel_rfl) (by kernel_rfl) (by kernel_rfl) (by kernel_rfl) (fun _ _ _ h => h) (by kernel_rfl) ?_ (by assumption) ?_; rotate_left; focus (intro w hSw; (try dsimp only at hSw); simp only [List.getElem?_toArray, List.getElem?_cons_zero, List.getElem?_cons_succ, Option.map_some, Option.some.injEq]; go_simp; (first | done | with_reducible rfl))
                                        try simp only [Act.put, List.setIfInBounds_toArray, List.set_cons_zero, List.set_cons_succ]
                                        refine wpAnyH_ready (rs := [6]) (by kernel_rfl) (by simp) ?_
                                        refine AllReadyH.cons (i := 6) rfl (fun K hK => ?_) AllReadyH.nil
                                        go_simp
                                        (with_reducible refine Calls.mono (hless.out _) ?_)
                                        rintro e wa ⟨rfl, hgm⟩
                                        go_wp2_with fail
                                        refine hK.out _ _ (hgm.keep (by assumption)) (fun hHeld => ?_)
                                        clear hK K
                                        try simp only [Act.put, List.setIfInBounds_toArray, List.set_cons_zero, List.set_cons_succ]
                                        refine lin_take 7 (some 257) (v := ?_) (by kernel_rfl) (by kernel_rfl) (by kernel_rfl) (by kernel_rfl) (fun _ _ _ h => h) (by kernel_rfl) ?_ (by assumption) ?_; rotate_left; focus (intro w hSw; (try dsimp only at hSw); simp only [List.getElem?_toArray, List.getElem?_cons_zero, List.getElem?_cons_succ, Option.map_some, Option.some.injEq]; go_simp; (first | done | with_reducible rfl))
                                        try simp only [Act.put, List.setIfInBounds_toArray, List.set_cons_zero, List.set_cons_succ]
                                        refine lin_take 8 (some 258) (v := ?_) (by kernel_rfl) (by kernel_rfl) (by kernel_rfl) (by kernel_rfl) (fun _ _ _ h => h) (by kernel_rfl) ?_ (by assumption) ?_; rotate_left; focus (intro w hSw; (try dsimp only at hSw); simp only [List.getElem?_toArray, List.getElem?_cons_zero, List.getElem?_cons_succ, Option.map_some, Option.some.injEq]; go_simp; (first | done | with_reducible rfl))
                                        try simp only [Act.put, List.setIfInBounds_toArray, List.set_cons_zero, List.set_cons_succ]
                                        refine lin_take 9 (some 259) (v := ?_) (by kernel_rfl) (by kernel_rfl) (by kernel_rfl) (by kernel_rfl) (fun _ _ _ h => h) (by kernel_rfl) ?_ (by assumption) ?_; rotate_left; focus (intro w hSw; (try dsimp only at hSw); simp only [List.getElem?_toArray, List.getElem?_cons_zero, List.getElem?_cons_succ, Option.map_some, Option.some.injEq]; go_simp; (first | done | with_reducible rfl))
                                        try simp only [Act.put, List.setIfInBounds_toArray, List.set_cons_zero, List.set_cons_succ]
                                        refine lin_take 10 (some 260) (v := ?_) (by kernel_rfl) (by kernel_rfl) (by kernel_rfl) (by kernel_rfl) (fun _ _ _ h => h) (by kernel_rfl) ?_ (by assumption) ?_; rotate_left; focus (intro w hSw; (try dsimp only at hSw); simp only [List.getElem?_toArray, List.getElem?_cons_zero, List.getElem?_cons_succ, Option.map_some, Option.some.injEq]; go_simp; (first | done | with_reducible rfl))
                                        try simp only [Act.put, List.setIfInBounds_toArray, List.set_cons_zero, List.set_cons_succ]
                                        refine lin_take 11 (some 261) (v := ?_) (by kernel_rfl) (by kernel_rfl) (by kernel_rfl) (by kernel_rfl) (fun _ _ _ h => h) (by kernel_rfl) ?_ (by assumption) ?_; rotate_left; focus (intro w hSw; (try dsimp only at hSw); simp only [List.getElem?_toArray, List.getElem?_cons_zero, List.getElem?_cons_succ, Option.map_some, Option.some.injEq]; go_simp; (first | done | with_reducible rfl))
                                        try simp only [Act.put, List.setIfInBounds_toArray, List.set_cons_zero, List.set_cons_succ]
                                        refine lin_take 12 (some 262) (v := ?_) (by kernel_rfl) (by kernel_rfl) (by kernel_rfl) (by kernel_rfl) (fun _ _ _ h => h) (by kernel_rfl) ?_ (by assumption) ?_; rotate_left; focus (intro w hSw; (try dsimp only at hSw); simp only [List.getElem?_toArray, List.getElem?_cons_zero, List.getElem?_cons_succ, Option.map_some, Option.some.injEq]; go_simp; (first | done | with_reducible rfl))
                                        try simp only [Act.put, List.setIfInBounds_toArray, List.set_cons_zero, List.set_cons_succ]
                                        refine wpAnyH_ready (rs := [13]) (by kernel_rfl) (by simp) ?_
                                        refine AllReadyH.cons (i := 13) rfl (fun K hK => ?_) AllReadyH.nil
                                        go_simp
                                        (with_reducible refine Calls.mono (hval.out _) ?_)
                                        rintro e wb ⟨rfl, hgm⟩
                                        go_wp2_with fail
                                        refine hK.out _ _ (hgm.keep (by assumption)) (fun hHeld => ?_)
                                        clear hK K
                                        try simp only [Act.put, List.setIfInBounds_toArray, List.set_cons_zero, List.set_cons_succ]
                                        refine lin_take 14 (some 264) (v := ?_) (by kernel_rfl) (by kernel_rfl) (by kernel_rfl) (by kernel_rfl) (fun _ _ _ h => h) (by kernel_rfl) ?_ (by assumption) ?_; rotate_left; focus (intro w hSw; (try dsimp only at hSw); simp only [List.getElem?_toArray, List.getElem?_cons_zero, List.getElem?_cons_succ, Option.map_some, Option.some.injEq]; go_simp; (first | done | with_reducible rfl))
                                        try simp only [Act.put, List.setIfInBounds_toArray, List.set_cons_zero, List.set_cons_succ]
                                        refine lin_take 15 (some 265) (v := ?_) (by kernel_rfl) (by kernel_rfl) (by kernel_rfl) (by kernel_rfl) (fun _ _ _ h => h) (by kernel_rfl) ?_ (by assumption) ?_; rotate_left; focus (intro w hSw; (try dsimp only at hSw); simp only [List.getElem?_toArray, List.getElem?_cons_zero, List.getElem?_cons_succ, Option.map_some, Option.some.injEq]; go_simp; (first | done | with_reducible rfl))
                                        try simp only [Act.put, List.setIfInBounds_toArray, List.set_cons_zero, List.set_cons_succ]
                                        refine lin_take 16 (some 266) (v := ?_) (by kernel_rfl) (by kernel_rfl) (by kernel_rfl) (by kernel_rfl) (fun _ _ _ h => h) (by kernel_rfl) ?_ (by assumption) ?_; rotate_left; focus (intro w hSw; (try dsimp only at hSw); simp only [List.getElem?_toArray, List.getElem?_cons_zero, List.getElem?_cons_succ, Option.map_some, Option.some.injEq]; go_simp; (first | done | with_reducible rfl))
                                        try simp only [Act.put, List.setIfInBounds_toArray, List.set_cons_zero, List.set_cons_succ]
                                        refine lin_take 17 (some 267) (v := ?_) (by kernel_rfl) (by kernel_rfl) (by kernel_rfl) (by kernel_rfl) (fun _ _ _ h => h) (by kernel_rfl) ?_ (by assumption) ?_; rotate_left; focus (intro w hSw; (try dsimp only at hSw); simp only [List.getElem?_toArray, List.getElem?_cons_zero, List.getElem?_cons_succ, Option.map_some, Option.some.injEq]; go_simp; (first | done | with_reducible rfl))
                                        try simp only [Act.put, List.setIfInBounds_toArray, List.set_cons_zero, List.set_cons_succ]
                                        refine lin_take 18 (some 268) (v := ?_) (by kernel_rfl) (by kernel_rfl) (by kernel_rfl) (by kernel_rfl) (fun _ _ _ h => h) (by kernel_rfl) ?_ (by assumption) ?_; rotate_left; focus (intro w hSw; (try dsimp only at hSw); simp only [List.getElem?_toArray, List.getElem?_cons_zero, List.getElem?_cons_succ, Option.map_some, Option.some.injEq]; go_simp; (first | done | with_reducible rfl))
                                        try simp only [Act.put, List.setIfInBounds_toArray, List.set_cons_zero, List.set_cons_succ]
                                        refine lin_take 19 (some 269) (v := ?_) (by kernel_rfl) (by kernel_rfl) (by kernel_rfl) (by kernel_rfl) (fun _ _ _ h => h) (by kernel_rfl) ?_ (by assumption) ?_; rotate_left; focus (intro w hSw; (try dsimp only at hSw); simp only [List.getElem?_toArray, List.getElem?_cons_zero, List.getElem?_cons_succ, Option.map_some, Option.some.injEq]; go_simp; (first | done | with_reducible rfl))
                                        try simp only [Act.put, List.setIfInBounds_toArray, List.set_cons_zero, List.set_cons_succ]
                                        refine lin_take 20 (some 270) (v := ?_) (by kernel_rfl) (by kernel_rfl) (by kernel_rfl) (by kernel_rfl) (fun _ _ _ h => h) (by kernel_rfl) ?_ (by assumption) ?_; rotate_left; focus (intro w hSw; (try dsimp only at hSw); simp only [List.getElem?_toArray, List.getElem?_cons_zero, List.getElem?_cons_succ, Option.map_some, Option.some.injEq]; go_simp; (first | done | with_reducible rfl))
                                        try simp only [Act.put, List.setIfInBounds_toArray, List.set_cons_zero, List.set_cons_succ]
                                        refine wpAnyH_ready (rs := [21]) (by kernel_rfl) (by simp) ?_
                                        refine AllReadyH.cons (i := 21) rfl (fun K hK => ?_) AllReadyH.nil
                                        go_simp
                                        (with_reducible refine Calls.mono (hbeh.out _) ?_)
                                        rintro e wm ⟨rfl, hgm⟩
                                        go_wp2_with fail
                                        refine hK.out _ _ (hgm.keep (by assumption)) (fun hHeld => ?_)
                                        clear hK K
                                        try simp only [Act.put, List.setIfInBounds_toArray, List.set_cons_zero, List.set_cons_succ]
                                        refine lin_take 22 (some 272) (v := ?_) (by kernel_rfl) (by kernel_rfl) (by kernel_rfl) (by kernel_rfl) (fun _ _ _ h => h) (by kernel_rfl) ?_ (by assumption) ?_; rotate_left; focus (intro w hSw; (try dsimp only at hSw); simp only [List.getElem?_toArray, List.getElem?_cons_zero, List.getElem?_cons_succ, Option.map_some, Option.some.injEq]; go_simp; (first | done | with_reducible rfl))
                                        try simp only [Act.put, List.setIfInBounds_toArray, List.set_cons_zero, List.set_cons_succ]
                                        refine wpAnyH_done (by kernel_rfl) ?_ _
                                        all_goals
                                          have hgx : G w14 wm := by assumption
                                          replace hgx := Lib.hid hgx
                                          clear c0 c1 c2 c3 c4 c5 c6
                                          go_wp2_with fail
                                          go_roundw
                                          case rel => exact ⟨k7 + 1, n7, by omega, rfl, by go_num, by omega, hfs2.out.symm, hgx⟩
                                          case measure => (simp [intOf] <;> omega)
                                      | true =>
                                        rw [hq3] at hbeh hce
                                        replace hq1 := Lib.hid hq1
                                        replace hq2 := Lib.hid hq2
                                        replace hq3 := Lib.hid hq3
                                        have hfs2 : ((es.take (k7 + 1)).filter (cntB ⟨l1, l2, l3⟩)).length = n7 + 1 := by rw [hfs, hce]; rfl
                                        replace hfs2 := Lib.hid hfs2
                                        replace hfs := Lib.hid hfs
                                        replace hce := Lib.hid hce
                                        replace hless := Lib.hid hless
                                        replace hval := Lib.hid hval
                                        replace hbeh := Lib.hid hbeh
                                        go_upto_region 56 with fail
                                        refine wp_region_held_drew (S := fun w' => G w14 w') (by kernel_rfl) hgr.out.drew (fun hHeld => ?_)
                                        refine lin_take 0 (some 250) (v := ?_) (by kernel_rfl) (by kernel_rfl) (by kernel_rfl) (by kernel_rfl) (fun _ _ _ h => h) (by kernel_rfl) ?_ (by assumption) ?_; rotate_left; focus (intro w hSw; (try dsimp only at hSw); simp only [List.getElem?_toArray, List.getElem?_cons_zero, Option.map_some, Option.some.injEq]; go_simp; (first | done | with_reducible rfl))
                                        try simp only [Act.put, List.setIfInBounds_toArray, List.set_cons_zero, List.set_cons_succ]
                                        refine lin_take 1 (some 251) (v := ?_) (by kernel_rfl) (by kernel_rfl) (by kernel_rfl) (by kernel_rfl) (fun _ _ _ h => h) (by kernel_rfl) ?_ (by assumption) ?_; rotate_left; focus (intro w hSw; (try dsimp only at hSw); simp only [List.getElem?_toArray, List.getElem?_cons_zero, List.getElem?_cons_succ, Option.map_some, Option.some.injEq]; go_simp; (first | done | with_reducible rfl))
                                        try simp only [Act.put, List.setIfInBounds_toArray, List.set_cons_zero, List.set_cons_succ]
                                        refine lin_take 2 (some 252) (v := ?_) (by kernel_rfl) (by kernel_rfl) (by kernel_rfl) (by kernel_rfl) (fun _ _ _ h => h) (by kernel_rfl) ?_ (by assumption) ?_; rotate_left; focus (intro w hSw; (try dsimp only at hSw); simp only [List.getElem?_toArray, List.getElem?_cons_zero, List.getElem?_cons_succ, Option.map_some, Option.some.injEq]; go_simp; (first | done | with_reducible rfl))
                                        try simp only [Act.put, List.setIfInBounds_toArray, List.set_cons_zero, List.set_cons_succ]
                                        refine lin_take 3 (some 253) (v := ?_) (by kernel_rfl) (by kernel_rfl) (by kernel_rfl) (by kernel_rfl) (fun _ _ _ h => h) (by kernel_rfl) ?_ (by assumption) ?_; rotate_left; focus (intro w hSw; (try dsimp only at hSw); simp only [List.getElem?_toArray, List.getElem?_cons_zero, List.getElem?_cons_succ, Option.map_some, Option.some.injEq]; go_simp; (first | done | with_reducible rfl))
                                        try simp only [Act.put, List.setIfInBounds_toArray, List.set_cons_zero, List.set_cons_succ]
                                        refine lin_take 4 (some 254) (v := ?_) (by kernel_rfl) (by kernel_rfl) (by kernel_rfl) (by kernel_rfl) (fun _ _ _ h => h) (by kernel_rfl) ?_ (by assumption) ?_; rotate_left; focus (intro w hSw; (try dsimp only at hSw); simp only [List.getElem?_toArray, List.getElem?_cons_zero, List.getElem?_cons_succ, Option.map_some, Option.some.injEq]; go_simp; (first | done | with_reducible rfl))
                                        try simp only [Act.put, List.setIfInBounds_toArray, List.set_cons_zero, List.set_cons_succ]
                                        refine lin_take 5 (some 255) (v := ?_) (by kernel_rfl) (by kernel_rfl) (by kernel_rfl) (by kernel_rfl) (fun _ _ _ h => h) (by kernel_rfl) ?_ (by assumption) ?_; rotate_left; focus (intro w hSw; (try dsimp only at hSw); simp only [List.getElem?_toArray, List.getElem?_cons_zero, List.getElem?_cons_succ, Option.map_some, Option.some.injEq]; go_simp; (first | done | with_reducible rfl))
                                        try simp only [Act.put, List.setIfInBounds_toArray, List.set_cons_zero, List.set_cons_succ]
                                        refine wpAnyH_ready (rs := [6]) (by kernel_rfl) (by simp) ?_
                                        refine AllReadyH.cons (i := 6) rfl (fun K hK => ?_) AllReadyH.nil
                                        go_simp
                                        (with_reducible refine Calls.mono (hless.out _) ?_)
                                        rintro e wa ⟨rfl, hgm⟩
                                        go_wp2_with fail
                                        refine hK.out _ _ (hgm.keep (by assumption)) (fun hHeld => ?_)
                                        clear hK K
                                        try simp only [Act.put, List.setIfInBounds_toArray, List.set_cons_zero, List.set_cons_succ]
                                        refine lin_take 7 (some 257) (v := ?_) (by kernel_rfl) (by kernel_rfl) (by kernel_rfl) (by kernel_rfl) (fun _ _ _ h => h) (by kernel_rfl) ?_ (by assumption) ?_; rotate_left; focus (intro w hSw; (try dsimp only at hSw); simp only [List.getElem?_toArray, List.getElem?_cons_zero, List.getElem?_cons_succ, Option.map_some, Option.some.injEq]; go_simp; (first | done | with_reducible rfl))
                                        try simp only [Act.put, List.setIfInBounds_toArray, List.set_cons_zero, List.set_cons_succ]
                                        refine lin_take 8 (some 258) (v := ?_) (by kernel_rfl) (by kernel_rfl) (by kernel_rfl) (by kernel_rfl) (fun _ _ _ h => h) (by kernel_rfl) ?_ (by assumption) ?_; rotate_left; focus (intro w hSw; (try dsimp only at hSw); simp only [List.getElem?_toArray, List.getElem?_cons_zero, List.getElem?_cons_succ, Option.map_some, Option.some.injEq]; go_simp; (first | done | with_reducible rfl))
                                        try simp only [Act.put, List.setIfInBounds_toArray, List.set_cons_zero, List.set_cons_succ]
                                        refine lin_take 9 (some 259) (v := ?_) (by kernel_rfl) (by kernel_rfl) (by kernel_rfl) (by kernel_rfl) (fun _ _ _ h => h) (by kernel_rfl) ?_ (by assumption) ?_; rotate_left; focus (intro w hSw; (try dsimp only at hSw); simp only [List.getElem?_toArray, List.getElem?_cons_zero, List.getElem?_cons_succ, Option.map_some, Option.some.injEq]; go_simp; (first | done | with_reducible rfl))
                                        try simp only [Act.put, List.setIfInBounds_toArray, List.set_cons_zero, List.set_cons_succ]
                                        refine lin_take 10 (some 260) (v := ?_) (by kernel_rfl) (by kernel_rfl) (by kernel_rfl) (by kernel_rfl) (fun _ _ _ h => h) (by kernel_rfl) ?_ (by assumption) ?_; rotate_left; focus (intro w hSw; (try dsimp only at hSw); simp only [List.getElem?_toArray, List.getElem?_cons_zero, List.getElem?_cons_succ, Option.map_some, Option.some.injEq]; go_simp; (first | done | with_reducible rfl))
                                        try simp only [Act.put, List.setIfInBounds_toArray, List.set_cons_zero, List.set_cons_succ]
                                        refine lin_take 11 (some 261) (v := ?_) (by kernel_rfl) (by kernel_rfl) (by kernel_rfl) (by kernel_rfl) (fun _ _ _ h => h) (by kernel_rfl) ?_ (by assumption) ?_; rotate_left; focus (intro w hSw; (try dsimp only at hSw); simp only [List.getElem?_toArray, List.getElem?_cons_zero, List.getElem?_cons_succ, Option.map_some, Option.some.injEq]; go_simp; (first | done | with_reducible rfl))
                                        try simp only [Act.put, List.setIfInBounds_toArray, List.set_cons_zero, List.set_cons_succ]
                                        refine lin_take 12 (some 262) (v := ?_) (by kernel_rfl) (by kernel_rfl) (by kernel_rfl) (by kernel_rfl) (fun _ _ _ h => h) (by kernel_rfl) ?_ (by assumption) ?_; rotate_left; focus (intro w hSw; (try dsimp only at hSw); simp only [List.getElem?_toArray, List.getElem?_cons_zero, List.getElem?_cons_succ, Option.map_some, Option.some.injEq]; go_simp; (first | done | with_reducible rfl))
                                        try simp only [Act.put, List.setIfInBounds_toArray, List.set_cons_zero, List.set_cons_succ]
                                        refine wpAnyH_ready (rs := [13]) (by kernel_rfl) (by simp) ?_
                                        refine AllReadyH.cons (i := 13) rfl (fun K hK => ?_) AllReadyH.nil
                                        go_simp
                                        (with_reducible refine Calls.mono (hval.out _) ?_)
                                        rintro e wb ⟨rfl, hgm⟩
                                        go_wp2_with fail
                                        refine hK.out _ _ (hgm.keep (by assumption)) (fun hHeld => ?_)
                                        clear hK K
                                        try simp only [Act.put, List.setIfInBounds_toArray, List.set_cons_zero, List.set_cons_succ]
                                        refine lin_take 14 (some 264) (v := ?_) (by kernel_rfl) (by kernel_rfl) (by kernel_rfl) (by kernel_rfl) (fun _ _ _ h => h) (by kernel_rfl) ?_ (by assumption) ?_; rotate_left; focus (intro w hSw; (try dsimp only at hSw); simp only [List.getElem?_toArray, List.getElem?_cons_zero, List.getElem?_cons_succ, Option.map_some, Option.some.injEq]; go_simp; (first | done | with_reducible rfl))
                                        try simp only [Act.put, List.setIfInBounds_toArray, List.set_cons_zero, List.set_cons_succ]
                                        refine lin_take 15 (some 265) (v := ?_) (by kernel_rfl) (by kernel_rfl) (by kernel_rfl) (by kernel_rfl) (fun _ _ _ h => h) (by kernel_rfl) ?_ (by assumption) ?_; rotate_left; focus (intro w hSw; (try dsimp only at hSw); simp only [List.getElem?_toArray, List.getElem?_cons_zero, List.getElem?_cons_succ, Option.map_some, Option.some.injEq]; go_simp; (first | done | with_reducible rfl))
                                        try simp only [Act.put, List.setIfInBounds_toArray, List.set_cons_zero, List.set_cons_succ]
                                        refine lin_take 16 (some 266) (v := ?_) (by kernel_rfl) (by kernel_rfl) (by kernel_rfl) (by kernel_rfl) (fun _ _ _ h => h) (by kernel_rfl) ?_ (by assumption) ?_; rotate_left; focus (intro w hSw; (try dsimp only at hSw); simp only [List.getElem?_toArray, List.getElem?_cons_zero, List.getElem?_cons_succ, Option.map_some, Option.some.injEq]; go_simp; (first | done | with_reducible rfl))
                                        try simp only [Act.put, List.setIfInBounds_toArray, List.set_cons_zero, List.set_cons_succ]
                                        refine lin_take 17 (some 267) (v := ?_) (by kernel_rfl) (by kernel_rfl) (by kernel_rfl) (by kernel_rfl) (fun _ _ _ h => h) (by kernel_rfl) ?_ (by assumption) ?_; rotate_left; focus (intro w hSw; (try dsimp only at hSw); simp only [List.getElem?_toArray, List.getElem?_cons_zero, List.getElem?_cons_succ, Option.map_some, Option.some.injEq]; go_simp; (first | done | with_reducible rfl))
                                        try simp only [Act.put, List.setIfInBounds_toArray, List.set_cons_zero, List.set_cons_succ]
                                        refine lin_take 18 (some 268) (v := ?_) (by kernel_rfl) (by kernel_rfl) (by kernel_rfl) (by kernel_rfl) (fun _ _ _ h => h) (by kernel_rfl) ?_ (by assumption) ?_; rotate_left; focus (intro w hSw; (try dsimp only at hSw); simp only [List.getElem?_toArray, List.getElem?_cons_zero, List.getElem?_cons_succ, Option.map_some, Option.some.injEq]; go_simp; (first | done | with_reducible rfl))
                                        try simp only [Act.put, List.setIfInBounds_toArray, List.set_cons_zero, List.set_cons_succ]
                                        refine lin_take 19 (some 269) (v := ?_) (by kernel_rfl) (by kernel_rfl) (by kernel_rfl) (by kernel_rfl) (fun _ _ _ h => h) (by kernel_rfl) ?_ (by assumption) ?_; rotate_left; focus (intro w hSw; (try dsimp only at hSw); simp only [List.getElem?_toArray, List.getElem?_cons_zero, List.getElem?_cons_succ, Option.map_some, Option.some.injEq]; go_simp; (first | done | with_reducible rfl))
                                        try simp only [Act.put, List.setIfInBounds_toArray, List.set_cons_zero, List.set_cons_succ]
                                        refine lin_take 20 (some 270) (v := ?_) (by kernel_rfl) (by kernel_rfl) (by kernel_rfl) (by kernel_rfl) (fun _ _ _ h => h) (by kernel_rfl) ?_ (by assumption) ?_; rotate_left; focus (intro w hSw; (try dsimp only at hSw); simp only [List.getElem?_toArray, List.getElem?_cons_zero, List.getElem?_cons_succ, Option.map_some, Option.some.injEq]; go_simp; (first | done | with_reducible rfl))
                                        try simp only [Act.put, List.setIfInBounds_toArray, List.set_cons_zero, List.set_cons_succ]
                                        refine wpAnyH_ready (rs := [21]) (by kernel_rfl) (by simp) ?_
                                        refine AllReadyH.cons (i := 21) rfl (fun K hK => ?_) AllReadyH.nil
                                        go_simp
                                        (with_reducible refine Calls.mono (hbeh.out _) ?_)
                                        rintro e wm ⟨rfl, hgm⟩
                                        go_wp2_with fail
                                        refine hK.out _ _ (hgm.keep (by assumption)) (fun hHeld => ?_)
                                        clear hK K
                                        try simp only [Act.put, List.setIfInBounds_toArray, List.set_cons_zero, List.set_cons_succ]
                                        refine lin_take 22 (some 272) (v := ?_) (by kernel_rfl) (by kernel_rfl) (by kernel_rfl) (by kernel_rfl) (fun _ _ _ h => h) (by kernel_rfl) ?_ (by assumption) ?_; rotate_left; focus (intro w hSw; (try dsimp only at hSw); simp only [List.getElem?_toArray, List.getElem?_cons_zero, List.getElem?_cons_succ, Option.map_some, Option.some.injEq]; go_simp; (first | done | with_reducible rfl))
                                        try simp only [Act.put, List.setIfInBounds_toArray, List.set_cons_zero, List.set_cons_succ]
                                        refine wpAnyH_done (by kernel_rfl) ?_ _
                                        all_goals
                                          have hgx : G w14 wm := by assumption
                                          replace hgx := Lib.hid hgx
                                          clear c0 c1 c2 c3 c4 c5 c6
                                          go_wp2_with fail
                                          go_roundw
                                          case rel => exact ⟨k7 + 1, n7 + 1, by omega, by go_num, by go_num, by omega, hfs2.out.symm, hgx⟩
                                          case measure => (simp [intOf] <;> omega)
                                · have hke : k7 = es.length := by omega
                                  rw [hke, List.take_length] at hn7
                                  have hne : n7 = X.length := by rw [hn7.out, hcnt.out]
                                  have hbe : ((X.length : Int) == (n7 : Int)) = true := by rw [beq_iff_eq]; omega
                                  have m7 : ¬ (k7 : Int) < (es.length : Int) := by omega
                                  have hgwr := hgw14.trans hgr.out
                                  have hgmr := hgm14.trans hgr.out
                                  have hsXr := hsX14.g z5 hgr.out
                                  have hgsr := hgs14.g z5 hgr.out
                                  have hon := only_any X xA xm wm.heap.size p wr (by have := hgmr.size; omega) (by omega) hsXr (by omega) (fun x hx => by have := hesX.out x hx; omega) (hT.out.g hgwr)
                                  rw [hY.out] at hon
                                  replace hon := Lib.hid hon
                                  replace hke := Lib.hid hke
                                  replace hne := Lib.hid hne
                                  replace hn7 := Lib.hid hn7
                                  clear y0 y1 y2
                                  go_wp2_with fail
                                  refine Calls.mono hon.out ?_
                                  rintro e w21 ⟨v3, rfl, hown3, hg21⟩
                                  obtain ⟨A8, c8, rfl, _, _, hs8⟩ := OwnL.sl Ev.cells_len hown3
                                  clear hown3 hon
                                  have hgm21 := hgmr.trans hg21
                                  have hse := sameEvents_any Y Y gA A8 gm c8 w21.heap.size w21 (Nat.le_refl _) (by omega) (by omega) ((hgsr.g (by have := hgmr.size; omega) hg21).more (by have := hgm21.size; omega)) hs8
                                  rw [show evsB Y Y = true from decide_eq_true rfl] at hse
                                  replace hse := Lib.hid hse
                                  go_wp2_with fail
                                  refine Calls.mono hse.out ?_
                                  rintro e w22 ⟨rfl, hg22⟩
                                  have hgw22 := hgwr.trans (hg21.trans hg22)
                                  clear hse
                                  have hawk := awake20_any w22 (hT.out.g (hgw22))
                                  replace hawk := Lib.hid hawk
                                  go_wp2_with fail
                                  refine Calls.mono hawk.out ?_
                                  rintro e w9 ⟨rfl, hg9⟩
                                  go_wp2_with fail
                                  go_ret
                                  exact ⟨rfl, (hgw22).trans hg9⟩
end Go.Proofs.YthhhobfdlgmjlaaDoor

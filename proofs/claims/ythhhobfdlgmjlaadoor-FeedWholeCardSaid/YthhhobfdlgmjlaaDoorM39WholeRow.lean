/- Several texts in one: FeedBulk, FeedTwins. -/
import Derived.Test.YthhhobfdlgmjlaaDoorM27WholeRow
import Derived.Test.YthhhobfdlgmjlaaDoorFeedPollOkQWholeRow
/- What a bulk of at most so much says of a list of events. Plain mathematics. No condition. -/
namespace Go.Proofs.YthhhobfdlgmjlaaDoor
open Go.RowKit

theorem sumTo_ge2 (n a b : Int) (h : sumTo n [a, b] ≤ 1099511627775) : sumTo n [a, b] = n + a + b := by
  simp only [sumTo] at h ⊢
  split at h
  · rename_i h1
    rw [if_pos h1]
    split at h
    · rename_i h2
      rw [if_pos h2]
    · omega
  · omega
theorem evBulkTo_ge (top : Int) (ht : top ≤ 1099511627775) : ∀ (l : List Ev) (n : Int), 0 ≤ n → evBulkTo top n l ≤ top → n ≤ evBulkTo top n l ∧ ∀ e ∈ l, (e.stream.size : Int) ≤ evBulkTo top n l := by
  intro l
  induction l with
  | nil => intro n _ _; exact ⟨Int.le_refl _, by simp⟩
  | cons e l ih =>
    intro n h0 h
    simp only [evBulkTo] at h ⊢
    split at h
    · rename_i h1
      rw [if_pos h1]
      have hp : 0 ≤ sumTo n [(e.stream.size : Int), (e.data.size : Int)] := (sumTo_le2 n e.stream.size e.data.size h0 (by omega) (by omega) (by omega)).1
      obtain ⟨h2, h3⟩ := ih _ hp h
      have h4 := sumTo_ge2 n e.stream.size e.data.size (by omega)
      refine ⟨by omega, fun x hx => ?_⟩
      rcases List.mem_cons.1 hx with rfl | hx
      · omega
      · exact h3 x hx
    · omega
theorem sumTo_ge1 (n a : Int) (h : sumTo n [a] ≤ 1099511627775) : sumTo n [a] = n + a := by
  simp only [sumTo] at h ⊢
  split at h
  · rename_i h1
    rw [if_pos h1]
  · omega
theorem evBulk_ge {top : Int} (ht : top ≤ 1099511627775) {es : List Ev} (h : evBulk top es ≤ top) : (es.length : Int) ≤ top ∧ ∀ e ∈ es, (e.stream.size : Int) ≤ top := by
  have h1 := sumTo_le1 0 es.length (by omega) (by omega) (by omega)
  obtain ⟨h2, h3⟩ := evBulkTo_ge top ht es _ h1.1 h
  have h4 := sumTo_ge1 0 es.length (by unfold evBulk at h; omega)
  unfold evBulk at h
  exact ⟨by omega, fun e he => by have := h3 e he; omega⟩
end Go.Proofs.YthhhobfdlgmjlaaDoor
/- penstocklaw20's own: small, twins. Conditions: lengths fit an int. -/
namespace Go.Proofs.YthhhobfdlgmjlaaDoor
open Go.RowKit

/-- What small answers. -/
def SmallPost (ls : List LogM) (w : World) (e : Ending) (w' : World) : Prop := ∃ b, e = .returned (.bool b) ∧ (b = true → ls.length ≤ 4 ∧ ∀ l ∈ ls, l.es.length ≤ 8000 ∧ ∀ x ∈ l.es, x.stream.size ≤ 8000) ∧ G w w'
set_option maxHeartbeats 1000000 in
theorem small20_any (ls : List LogM) (A : Option Addr) (c B : Nat) (w : World) (hB : B ≤ w.heap.size) (hl : ls.length ≤ 9223372036854775807) (hx : ∀ l ∈ ls, EvsOk l.es) (hs : LogsIn w B A ls) :
    Calls Tryd.prog 7 #[.slice A ls.length c] w (SmallPost ls w) := by
  have HX := Lib.hid hx
  clear hx
  go_enter Tryd.func7, Tryd.ntmps7
  go_wp2_with fail
  go_loopw [3, 4] (fun t i wr => ∃ (j : Nat) (n : Int), j ≤ ls.length ∧ i = .int .i64 j ∧ t = .int .i64 n ∧ 0 ≤ n ∧ n ≤ 8000 ∧ Hid (∀ l ∈ ls.take j, evBulk 8000 l.es ≤ 8000) ∧ G w wr) (fun _ i _ => ls.length - (intOf i).toNat)
  case atStart => exact ⟨0, 0, Nat.zero_le _, rfl, rfl, by omega, by omega, by simp [Hid], G.refl _⟩
  case round =>
    obtain ⟨j, n, hj, rfl, rfl, hn0, hn1, hh, hg⟩ := hrel
    by_cases hlt : j < ls.length
    · obtain ⟨⟨lA, lc, les⟩, hl1⟩ : ∃ l, ls[j]? = some l := ⟨_, List.getElem?_eq_getElem hlt⟩
      have hev := HX.out _ (List.mem_of_getElem? hl1)
      have htk := take_snoc hl1
      obtain ⟨b, o, rfl, hb, hcell, hok⟩ := hs.at_ hB hl1
      replace hok : ∀ w', G w w' → Sl Ev.cells 7 w' B lA les := fun w' h => (hok w' h).1
      have hll : les.length ≤ 9223372036854775807 := by
        have := (hs.2 _ (List.mem_of_getElem? hl1)).2
        dsimp only at this
        omega
      replace hl1 := Lib.hid hl1
      replace htk := Lib.hid htk
      clear hs
      dsimp only at hev hcell
      obtain ⟨e0, e1⟩ := evBulk_le 8000 les
      have hB2 : ∀ w', G w w' → B ≤ w'.heap.size := fun w' h => by have := h.size; omega
      have hcw := hcell wr hg
      go_wp2_with fail
      refine (events_any 8000 les lA lc B wr (hB2 _ hg) hll hev (hok _ hg)).mono ?_
      rintro e w1 ⟨rfl, hg1⟩
      replace hg1 := hg.trans hg1
      have hge := sumTo_ge1 n (evBulk 8000 les)
      go_wp2_with fail
      refine (sum_1 n (evBulk 8000 les) _ _ (by omega) (by omega) (by omega) (by omega) (by simp)).mono ?_
      rintro e w2 ⟨rfl, rfl⟩
      have hq1 := sumTo_le1 n (evBulk 8000 les) (by omega) (by omega) e0
      generalize hn2 : sumTo n [evBulk 8000 les] = n2 at *
      by_cases hbig : 8000 < n2
      · clear hge
        go_wp2_with fail
        go_ret
        exact ⟨false, rfl, by simp, hg1.alloc _⟩
      · have hbl : evBulk 8000 les ≤ 8000 := by have := hge (by omega); omega
        have hh2 : ∀ l ∈ ls.take (j + 1), evBulk 8000 l.es ≤ 8000 := by
          rw [htk.out]
          intro l hl
          rcases List.mem_append.1 hl with h | h
          · exact hh.out l h
          · rw [List.mem_singleton] at h; subst h; exact hbl
        replace hh2 := Lib.hid hh2
        clear hge hn2
        go_wp2_with fail
        go_roundw
        case rel => exact ⟨j + 1, n2, by omega, by go_num, rfl, by omega, by omega, hh2, hg1.alloc _⟩
        case measure => simp [intOf]; omega
    · rw [List.take_of_length_le (by omega)] at hh
      clear hs
      go_wp2_with fail
      go_ret
      refine ⟨_, rfl, fun hb => ?_, hg⟩
      have h4 : (ls.length : Int) ≤ 4 := by simpa using hb
      refine ⟨by omega, fun l hl => ?_⟩
      obtain ⟨h1, h2⟩ := evBulk_ge (by omega) (hh.out l hl)
      exact ⟨by omega, fun x hx => by have := h2 x hx; omega⟩
/-- What twins answers. -/
def RetTw (w : World) (es : List Ev) (e : Ending) (w' : World) : Prop := ∃ b, e = .returned (.bool b) ∧ (b = false → Apart es) ∧ G w w'
set_option maxHeartbeats 2000000 in
theorem twins_any (ls : List LogM) (A : Option Addr) (c B : Nat) (own : List Ev) (A9 : Option Addr) (c9 : Nat) (w : World) (hB : B ≤ w.heap.size) (hl : ls.length ≤ 9223372036854775807) (hcnt : evTally ls ≤ 4294967295) (hol : own.length ≤ 8000) (hs : LogsIn w B A ls) (hso : Sl Ev.cells 7 w B A9 own) :
    Calls Tryd.prog 23 #[.slice A ls.length c, .slice A9 own.length c9] w (RetTw w (own ++ allEvs ls)) := by
  go_enter Tryd.func23, Tryd.ntmps23
  have hno : A9 = none → own = [] := fun e => by subst e; exact hso.of_none
  go_wp2_with (at_builtin; refine wpList_append_list ev_elem _ rfl (.tmp 9) (.tmp 10) rfl w.heap.size _ [] rfl (OwnL.empty w.heap.size (blk_new w _ _) (Nat.le_refl _)) B A9 c9 own rfl hno (hso.g hB (G.new _ _)) (by simp; omega) (by simp; omega) (by simp) ?_; intro v0 w0 hown0 hk0 _; rw [List.nil_append] at hown0; have hg0 : G w w0 := hk0.g (G.new w _); clear hk0)
  go_loopw [5, 6] (fun v3 i wr => ∃ (j : Nat), j ≤ ls.length ∧ i = .int .i64 j ∧ OwnL 32 7 Ev.cells wr w.heap.size v3 (own ++ allEvs (ls.take j)) ∧ G w wr) (fun _ i _ => ls.length - (intOf i).toNat)
  case atStart => exact ⟨0, Nat.zero_le _, rfl, by simpa [allEvs] using hown0, hg0⟩
  case round =>
    obtain ⟨j, hj, rfl, hown, hg⟩ := hrel
    by_cases hlt : j < ls.length
    · obtain ⟨⟨lA, lc, les⟩, hl1⟩ : ∃ l, ls[j]? = some l := ⟨_, List.getElem?_eq_getElem hlt⟩
      obtain ⟨b, o, rfl, hb, hcell, hok⟩ := hs.at_ hB hl1
      have hcw := hcell wr hg
      obtain ⟨hls, hlc, hlm⟩ := hok wr hg
      have htk := allEvs_take hl1
      have hle : (allEvs (ls.take j)).length + les.length ≤ 4294967295 := by
        have := evTally_take hl1
        have := evTally_le ls (j + 1)
        rw [allEvs_length]
        dsimp only at *
        omega
      replace htk := Lib.hid htk
      clear hs hok hcell hl1
      dsimp only at hcw hls hlc hlm htk
      go_wp2_with (at_builtin; refine wpList_append_list ev_elem _ rfl (.tmp 18) (.tmp 22) rfl w.heap.size _ (own ++ allEvs (ls.take j)) rfl hown B lA lc les rfl (fun h => by subst h; exact hls.of_none) hls (by rw [List.length_append]; omega) (by rw [List.length_append]; omega) hg.size ?_; intro v' w' hown' hkeep _)
      go_roundw
      case rel => exact ⟨j + 1, by omega, by go_num, by rw [htk.out, ← List.append_assoc]; exact hown', hkeep.g hg⟩
      case measure => simp [intOf]; omega
    · rw [List.take_of_length_le (by omega)] at hown
      obtain ⟨A3, c3, rfl, _, hc3, hsl⟩ := OwnL.sl Ev.cells_len hown
      have hle := allEvs_length ls
      have hle2 : (own ++ allEvs ls).length ≤ 4294975295 := by rw [List.length_append]; omega
      have hret : ∀ b, (b = false → Apart (own ++ allEvs ls)) → ∀ w', G wr w' → RetTw w (own ++ allEvs ls) (.returned (.bool b)) w' := fun b hb w' h => ⟨b, rfl, hb, hg.trans h⟩
      generalize own ++ allEvs ls = es at *
      replace hret := Lib.hid hret
      have heq := @st_eql
      clear hs hown hcnt hle
      go_wp2_with fail
      obtain ⟨wo, rfl⟩ : ∃ wo : World, wo = wr := ⟨_, rfl⟩
      go_loopw [4, 7] (fun v2 i wr => ∃ (i5 : Nat), v2 = .bool false ∧ i5 ≤ es.length ∧ i = .int .i64 i5 ∧ Hid (∀ (i k : Nat) (a b : Ev), i < i5 → k < i → es[i]? = some a → es[k]? = some b → samePlace a b = false) ∧ G wo wr) (fun _ i _ => es.length - (intOf i).toNat)
      case atStart => exact ⟨0, rfl, Nat.zero_le _, rfl, by intro i k a b h; omega, G.refl _⟩
      case round =>
        obtain ⟨i5, rfl, hi5, rfl, hap, hg1⟩ := hrel
        by_cases hlt5 : i5 < es.length
        · obtain ⟨⟨s1, v1, d1, ⟨x1, y1, z1⟩, n1⟩, ha⟩ : ∃ a, es[i5]? = some a := ⟨_, List.getElem?_eq_getElem hlt5⟩
          replace ha := Lib.hid ha
          go_wp2_with fail
          obtain ⟨wq, rfl⟩ : ∃ wq : World, wq = wr := ⟨_, rfl⟩
          go_loopw [4, 8] (fun v2 i wr => ∃ (k6 : Nat), v2 = .bool false ∧ k6 ≤ i5 ∧ i = .int .i64 k6 ∧ Hid (∀ (k : Nat) (b : Ev), k < k6 → es[k]? = some b → samePlace ⟨s1, v1, d1, ⟨x1, y1, z1⟩, n1⟩ b = false) ∧ G wo wr) (fun _ i _ => i5 - (intOf i).toNat)
          case atStart => exact ⟨0, rfl, Nat.zero_le _, rfl, by intro k b h; omega, hg1⟩
          case round =>
            obtain ⟨k6, rfl, hk6, rfl, hap2, hg2⟩ := hrel
            by_cases hlt6 : k6 < i5
            · obtain ⟨⟨s2, v2, d2, ⟨x2, y2, z2⟩, n2⟩, hb⟩ : ∃ b, es[k6]? = some b := ⟨_, List.getElem?_eq_getElem (by omega)⟩
              obtain ⟨eb, eo, rfl, heb, a0, _, _, a3, a4, a5, a6⟩ := hsl.evG (Nat.le_refl _) ha.out
              obtain ⟨eb', eo', e', _, b0, _, _, b3, b4, b5, b6⟩ := hsl.evG (Nat.le_refl _) hb
              cases e'
              replace a0 := a0 _ hg2
              replace a3 := a3 _ hg2
              replace a4 := a4 _ hg2
              replace a5 := a5 _ hg2
              replace a6 := a6 _ hg2
              replace b0 := b0 _ hg2
              replace b3 := b3 _ hg2
              replace b4 := b4 _ hg2
              replace b5 := b5 _ hg2
              replace b6 := b6 _ hg2
              replace hb := Lib.hid hb
              have m1 : (0 : Int) ≤ ↑i5 := by omega
              have m2 : (i5 : Int) < ↑es.length := by omega
              have m3 : (0 : Int) ≤ ↑k6 := by omega
              have m4 : (k6 : Int) < ↑es.length := by omega
              have m5 : (k6 : Int) < ↑i5 := by omega
              clear hsl
              cases e1 : stB ⟨x1, y1, z1⟩ ⟨x2, y2, z2⟩ with
              | false =>
                have hsp : samePlace ⟨s1, v1, d1, ⟨x1, y1, z1⟩, n1⟩ ⟨s2, v2, d2, ⟨x2, y2, z2⟩, n2⟩ = false := by
                  have := of_decide_eq_false e1
                  simp [samePlace, this]
                have hap3 : ∀ (k : Nat) (b : Ev), k < k6 + 1 → es[k]? = some b → samePlace ⟨s1, v1, d1, ⟨x1, y1, z1⟩, n1⟩ b = false := by
                  intro k b hk h2
                  rcases Nat.lt_or_ge k k6 with h3 | h3
                  · exact hap2.out k b h3 h2
                  · obtain rfl : k = k6 := by omega
                    rw [hb.out] at h2
                    cases h2
                    exact hsp
                replace hap3 := Lib.hid hap3
                replace hsp := Lib.hid hsp
                go_wp2_with fail
                go_quiet (fail)
                go_wp2_with fail
                go_roundw
                case rel => exact ⟨k6 + 1, rfl, by omega, by go_num, hap3, hg2.drewN _⟩
                case measure => simp [intOf]; omega
              | true =>
                by_cases e2 : n1 = n2
                · subst e2
                  by_cases e3 : s1 = s2
                  · have e3' : (s1.toList == s2.toList) = true := by rw [bytes_beq]; simpa using e3
                    have hpl : samePlace ⟨s1, v1, d1, ⟨x1, y1, z1⟩, n1⟩ ⟨s2, v2, d2, ⟨x2, y2, z2⟩, n1⟩ = true := by
                      have := of_decide_eq_true e1
                      simp [samePlace, this, e3]
                    replace e3 := Lib.hid e3
                    replace hpl := Lib.hid hpl
                    go_wp2_with fail
                    go_quiet (fail)
                    go_wp2_with fail
                    go_ret
                    exact hret.out true (by simp) _ (hg2.drewN _)
                  · have e3' : (s1.toList == s2.toList) = false := by rw [bytes_beq]; simpa using e3
                    have hsp : samePlace ⟨s1, v1, d1, ⟨x1, y1, z1⟩, n1⟩ ⟨s2, v2, d2, ⟨x2, y2, z2⟩, n1⟩ = false := by simp [samePlace, e3]
                    replace e3 := Lib.hid e3
                    have hap3 : ∀ (k : Nat) (b : Ev), k < k6 + 1 → es[k]? = some b → samePlace ⟨s1, v1, d1, ⟨x1, y1, z1⟩, n1⟩ b = false := by
                      intro k b hk h2
                      rcases Nat.lt_or_ge k k6 with h3 | h3
                      · exact hap2.out k b h3 h2
                      · obtain rfl : k = k6 := by omega
                        rw [hb.out] at h2
                        cases h2
                        exact hsp
                    replace hap3 := Lib.hid hap3
                    replace hsp := Lib.hid hsp
                    go_wp2_with fail
                    go_quiet (fail)
                    go_wp2_with fail
                    go_roundw
                    case rel => exact ⟨k6 + 1, rfl, by omega, by go_num, hap3, hg2.drewN _⟩
                    case measure => simp [intOf]; omega
                · have e2' : (n1 == n2) = false := by simpa using e2
                  have hsp : samePlace ⟨s1, v1, d1, ⟨x1, y1, z1⟩, n1⟩ ⟨s2, v2, d2, ⟨x2, y2, z2⟩, n2⟩ = false := by simp [samePlace, e2]
                  have hap3 : ∀ (k : Nat) (b : Ev), k < k6 + 1 → es[k]? = some b → samePlace ⟨s1, v1, d1, ⟨x1, y1, z1⟩, n1⟩ b = false := by
                    intro k b hk h2
                    rcases Nat.lt_or_ge k k6 with h3 | h3
                    · exact hap2.out k b h3 h2
                    · obtain rfl : k = k6 := by omega
                      rw [hb.out] at h2
                      cases h2
                      exact hsp
                  replace hap3 := Lib.hid hap3
                  replace hsp := Lib.hid hsp
                  go_wp2_with fail
                  go_quiet (fail)
                  go_wp2_with fail
                  go_roundw
                  case rel => exact ⟨k6 + 1, rfl, by omega, by go_num, hap3, hg2.drewN _⟩
                  case measure => simp [intOf]; omega
            · have hap3 : ∀ (i k : Nat) (a b : Ev), i < i5 + 1 → k < i → es[i]? = some a → es[k]? = some b → samePlace a b = false := by
                intro i k a b hi hk h1 h2
                rcases Nat.lt_or_ge i i5 with h3 | h3
                · exact hap.out i k a b h3 hk h1 h2
                · obtain rfl : i = i5 := by omega
                  rw [ha.out] at h1
                  cases h1
                  exact hap2.out k b (by omega) h2
              replace hap3 := Lib.hid hap3
              go_wp2_with fail
              go_roundw
              case rel => exact ⟨i5 + 1, rfl, by omega, by go_num, hap3, hg2⟩
              case measure => simp [intOf]; omega
        · have hap3 : Apart es := fun i k a b hk h1 h2 => hap.out i k a b (by have := (List.getElem?_eq_some_iff.1 h1).1; omega) hk h1 h2
          replace hap3 := Lib.hid hap3
          go_wp2_with fail
          go_ret
          exact hret.out false (fun _ => hap3.out) _ hg1
end Go.Proofs.YthhhobfdlgmjlaaDoor

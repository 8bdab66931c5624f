/- penstocklaw18.one: have no two events of all logs one place? Conditions: all logs together have at most 2^32 events. -/
import Derived.Test.YtnenabacbhepdaaHeapLaws
namespace Go.Proofs.Ytnenabacbhepdaa
open Go.RowKit

/-- Have two events one place? -/
def samePlace (a b : Ev) : Bool := decide (a.st = b.st) && decide (a.index = b.index) && decide (a.stream = b.stream)
/-- All events of all logs, one log behind the other. -/
def allEvs (ls : List LogM) : List Ev := ls.flatMap fun l => l.es
theorem allEvs_length (ls : List LogM) : (allEvs ls).length = evTally ls := by
  simp [allEvs, evTally, List.length_flatMap]
theorem allEvs_take {ls : List LogM} {j : Nat} {l : LogM} (h : ls[j]? = some l) : allEvs (ls.take (j + 1)) = allEvs (ls.take j) ++ l.es := by
  rw [take_snoc h]; simp [allEvs]
/-- No two have one place. -/
def Apart (es : List Ev) : Prop := ∀ (i k : Nat) (a b : Ev), k < i → es[i]? = some a → es[k]? = some b → samePlace a b = false
def RetOne (w : World) (ls : List LogM) (e : Ending) (w' : World) : Prop := ∃ b, e = .returned (.bool b) ∧ (b = true → Apart (allEvs ls)) ∧ G w w'

set_option maxHeartbeats 2000000 in
theorem one18_any (ls : List LogM) (A : Option Addr) (c B : Nat) (w : World) (hB : B ≤ w.heap.size) (hl : ls.length ≤ 9223372036854775807) (hcnt : evTally ls ≤ 4294967295) (hs : LogsIn w B A ls) :
    Calls Try.prog 25 #[.slice A ls.length c] w (RetOne w ls) := by
  go_enter Try.func25, Try.ntmps25
  go_wp2_with fail
  go_loopw [3, 4] (fun v3 i wr => ∃ (j : Nat), j ≤ ls.length ∧ i = .int .i64 j ∧ OwnL 44 7 Ev.cells wr w.heap.size v3 (allEvs (ls.take j)) ∧ G w wr) (fun _ i _ => ls.length - (intOf i).toNat)
  case atStart => exact ⟨0, Nat.zero_le _, rfl, OwnL.nil, G.refl _⟩
  case round =>
    obtain ⟨j, hj, rfl, hown, hg⟩ := hrel
    by_cases hlt : j < ls.length
    · obtain ⟨⟨lA, lc, les⟩, hl1⟩ : ∃ l, ls[j]? = some l := ⟨_, List.getElem?_eq_getElem hlt⟩
      obtain ⟨b, o, rfl, hb, hcell, hok⟩ := hs.at_ hB hl1
      have hcw := hcell wr hg
      obtain ⟨hls, hlc, hlm⟩ := hok wr hg
      have htk := allEvs_take hl1
      have hle : (allEvs (ls.take j)).length + les.length ≤ 4294967295 := by
        have := evTally_take hl1
        have := evTally_le ls (j + 1)
        rw [allEvs_length]
        dsimp only at *
        omega
      replace htk := Lib.hid htk
      clear hs hok hcell hl1
      dsimp only at hcw hls hlc hlm htk
      go_wp2_with (at_builtin; refine wpList_append_list ev_elem _ rfl (.tmp 13) (.tmp 17) rfl w.heap.size _ (allEvs (ls.take j)) rfl hown B lA lc les rfl (fun h => by subst h; exact hls.of_none) hls (by omega) (by omega) hg.size ?_; intro v' w' hown' hkeep _)
      go_roundw
      case rel => exact ⟨j + 1, by omega, by go_num, by rw [htk.out]; exact hown', hkeep.g hg⟩
      case measure => simp [intOf]; omega
    · rw [List.take_of_length_le (by omega)] at hown
      obtain ⟨A3, c3, rfl, _, hc3, hsl⟩ := OwnL.sl Ev.cells_len hown
      have hle := allEvs_length ls
      have hle2 : (allEvs ls).length ≤ 4294967295 := by omega
      have hret : ∀ b, (b = true → Apart (allEvs ls)) → ∀ w', G wr w' → RetOne w ls (.returned (.bool b)) w' := fun b hb w' h => ⟨b, rfl, hb, hg.trans h⟩
      generalize allEvs ls = es at *
      replace hret := Lib.hid hret
      have heq := @st_eql
      clear hs hown hcnt hle
      go_wp2_with fail
      obtain ⟨wo, rfl⟩ : ∃ wo : World, wo = wr := ⟨_, rfl⟩
      go_loopw [2, 5] (fun v2 i wr => ∃ (i5 : Nat), v2 = .bool false ∧ i5 ≤ es.length ∧ i = .int .i64 i5 ∧ Hid (∀ (i k : Nat) (a b : Ev), i < i5 → k < i → es[i]? = some a → es[k]? = some b → samePlace a b = false) ∧ G wo wr) (fun _ i _ => es.length - (intOf i).toNat)
      case atStart => exact ⟨0, rfl, Nat.zero_le _, rfl, by intro i k a b h; omega, G.refl _⟩
      case round =>
        obtain ⟨i5, rfl, hi5, rfl, hap, hg1⟩ := hrel
        by_cases hlt5 : i5 < es.length
        · obtain ⟨⟨s1, v1, d1, ⟨x1, y1, z1⟩, n1⟩, ha⟩ : ∃ a, es[i5]? = some a := ⟨_, List.getElem?_eq_getElem hlt5⟩
          replace ha := Lib.hid ha
          go_wp2_with fail
          obtain ⟨wq, rfl⟩ : ∃ wq : World, wq = wr := ⟨_, rfl⟩
          go_loopw [2, 6] (fun v2 i wr => ∃ (k6 : Nat), v2 = .bool false ∧ k6 ≤ i5 ∧ i = .int .i64 k6 ∧ Hid (∀ (k : Nat) (b : Ev), k < k6 → es[k]? = some b → samePlace ⟨s1, v1, d1, ⟨x1, y1, z1⟩, n1⟩ b = false) ∧ G wo wr) (fun _ i _ => i5 - (intOf i).toNat)
          case atStart => exact ⟨0, rfl, Nat.zero_le _, rfl, by intro k b h; omega, hg1⟩
          case round =>
            obtain ⟨k6, rfl, hk6, rfl, hap2, hg2⟩ := hrel
            by_cases hlt6 : k6 < i5
            · obtain ⟨⟨s2, v2, d2, ⟨x2, y2, z2⟩, n2⟩, hb⟩ : ∃ b, es[k6]? = some b := ⟨_, List.getElem?_eq_getElem (by omega)⟩
              obtain ⟨eb, eo, rfl, heb, a0, _, _, a3, a4, a5, a6⟩ := hsl.evG (Nat.le_refl _) ha.out
              obtain ⟨eb', eo', e', _, b0, _, _, b3, b4, b5, b6⟩ := hsl.evG (Nat.le_refl _) hb
              cases e'
              replace a0 := a0 _ hg2
              replace a3 := a3 _ hg2
              replace a4 := a4 _ hg2
              replace a5 := a5 _ hg2
              replace a6 := a6 _ hg2
              replace b0 := b0 _ hg2
              replace b3 := b3 _ hg2
              replace b4 := b4 _ hg2
              replace b5 := b5 _ hg2
              replace b6 := b6 _ hg2
              replace hb := Lib.hid hb
              have m1 : (0 : Int) ≤ ↑i5 := by omega
              have m2 : (i5 : Int) < ↑es.length := by omega
              have m3 : (0 : Int) ≤ ↑k6 := by omega
              have m4 : (k6 : Int) < ↑es.length := by omega
              have m5 : (k6 : Int) < ↑i5 := by omega
              clear hsl
              cases e1 : stB ⟨x1, y1, z1⟩ ⟨x2, y2, z2⟩ with
              | false =>
                have hsp : samePlace ⟨s1, v1, d1, ⟨x1, y1, z1⟩, n1⟩ ⟨s2, v2, d2, ⟨x2, y2, z2⟩, n2⟩ = false := by
                  have := of_decide_eq_false e1
                  simp [samePlace, this]
                have hap3 : ∀ (k : Nat) (b : Ev), k < k6 + 1 → es[k]? = some b → samePlace ⟨s1, v1, d1, ⟨x1, y1, z1⟩, n1⟩ b = false := by
                  intro k b hk h2
                  rcases Nat.lt_or_ge k k6 with h3 | h3
                  · exact hap2.out k b h3 h2
                  · obtain rfl : k = k6 := by omega
                    rw [hb.out] at h2
                    cases h2
                    exact hsp
                replace hap3 := Lib.hid hap3
                replace hsp := Lib.hid hsp
                go_wp2_with fail
                go_quiet (fail)
                go_wp2_with fail
                go_roundw
                case rel => exact ⟨k6 + 1, rfl, by omega, by go_num, hap3, hg2.drewN _⟩
                case measure => simp [intOf]; omega
              | true =>
                by_cases e2 : n1 = n2
                · subst e2
                  by_cases e3 : s1 = s2
                  · have e3' : (s1.toList == s2.toList) = true := by rw [bytes_beq]; simpa using e3
                    have hpl : samePlace ⟨s1, v1, d1, ⟨x1, y1, z1⟩, n1⟩ ⟨s2, v2, d2, ⟨x2, y2, z2⟩, n1⟩ = true := by
                      have := of_decide_eq_true e1
                      simp [samePlace, this, e3]
                    replace e3 := Lib.hid e3
                    replace hpl := Lib.hid hpl
                    go_wp2_with fail
                    go_quiet (fail)
                    go_wp2_with fail
                    go_ret
                    exact hret.out false (by simp) _ (hg2.drewN _)
                  · have e3' : (s1.toList == s2.toList) = false := by rw [bytes_beq]; simpa using e3
                    have hsp : samePlace ⟨s1, v1, d1, ⟨x1, y1, z1⟩, n1⟩ ⟨s2, v2, d2, ⟨x2, y2, z2⟩, n1⟩ = false := by simp [samePlace, e3]
                    replace e3 := Lib.hid e3
                    have hap3 : ∀ (k : Nat) (b : Ev), k < k6 + 1 → es[k]? = some b → samePlace ⟨s1, v1, d1, ⟨x1, y1, z1⟩, n1⟩ b = false := by
                      intro k b hk h2
                      rcases Nat.lt_or_ge k k6 with h3 | h3
                      · exact hap2.out k b h3 h2
                      · obtain rfl : k = k6 := by omega
                        rw [hb.out] at h2
                        cases h2
                        exact hsp
                    replace hap3 := Lib.hid hap3
                    replace hsp := Lib.hid hsp
                    go_wp2_with fail
                    go_quiet (fail)
                    go_wp2_with fail
                    go_roundw
                    case rel => exact ⟨k6 + 1, rfl, by omega, by go_num, hap3, hg2.drewN _⟩
                    case measure => simp [intOf]; omega
                · have e2' : (n1 == n2) = false := by simpa using e2
                  have hsp : samePlace ⟨s1, v1, d1, ⟨x1, y1, z1⟩, n1⟩ ⟨s2, v2, d2, ⟨x2, y2, z2⟩, n2⟩ = false := by simp [samePlace, e2]
                  have hap3 : ∀ (k : Nat) (b : Ev), k < k6 + 1 → es[k]? = some b → samePlace ⟨s1, v1, d1, ⟨x1, y1, z1⟩, n1⟩ b = false := by
                    intro k b hk h2
                    rcases Nat.lt_or_ge k k6 with h3 | h3
                    · exact hap2.out k b h3 h2
                    · obtain rfl : k = k6 := by omega
                      rw [hb.out] at h2
                      cases h2
                      exact hsp
                  replace hap3 := Lib.hid hap3
                  replace hsp := Lib.hid hsp
                  go_wp2_with fail
                  go_quiet (fail)
                  go_wp2_with fail
                  go_roundw
                  case rel => exact ⟨k6 + 1, rfl, by omega, by go_num, hap3, hg2.drewN _⟩
                  case measure => simp [intOf]; omega
            · have hap3 : ∀ (i k : Nat) (a b : Ev), i < i5 + 1 → k < i → es[i]? = some a → es[k]? = some b → samePlace a b = false := by
                intro i k a b hi hk h1 h2
                rcases Nat.lt_or_ge i i5 with h3 | h3
                · exact hap.out i k a b h3 hk h1 h2
                · obtain rfl : i = i5 := by omega
                  rw [ha.out] at h1
                  cases h1
                  exact hap2.out k b (by omega) h2
              replace hap3 := Lib.hid hap3
              go_wp2_with fail
              go_roundw
              case rel => exact ⟨i5 + 1, rfl, by omega, by go_num, hap3, hg2⟩
              case measure => simp [intOf]; omega
        · have hap3 : Apart es := fun i k a b hk h1 h2 => hap.out i k a b (by have := (List.getElem?_eq_some_iff.1 h1).1; omega) hk h1 h2
          replace hap3 := Lib.hid hap3
          go_wp2_with fail
          go_ret
          exact hret.out true (fun _ => hap3.out) _ hg1
end Go.Proofs.Ytnenabacbhepdaa

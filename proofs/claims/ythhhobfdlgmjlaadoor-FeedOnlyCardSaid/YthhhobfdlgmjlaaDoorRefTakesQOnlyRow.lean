/- penstockref1.takes: does a piece take a rune? Condition: a set's length fits an int. -/
import Derived.Test.YthhhobfdlgmjlaaDoorRefPatQOnlyRow
import Derived.Test.YthhhobfdlgmjlaaDoorM18OnlyRow
namespace Go.Proofs.YthhhobfdlgmjlaaDoor
open Go.RowKit

theorem inSet_app : ∀ (a b : List (Nat × Nat)) (c : Nat), inSet (a ++ b) c = (inSet a c || inSet b c)
  | [], _, _ => rfl
  | x :: a, b, c => by
    rw [List.cons_append, inSet, inSet, inSet_app a b c, Bool.or_assoc]
theorem inSet_take {S : List (Nat × Nat)} {k c x y : Nat} (h : S[k]? = some (x, y)) : inSet (S.take (k + 1)) c = (inSet (S.take k) c || (decide (x ≤ c) && decide (c ≤ y))) := by
  rw [List.take_add_one, h, inSet_app]
  simp [inSet]
set_option maxRecDepth 100000 in
set_option maxHeartbeats 4000000 in
theorem takes_any (p : Pr) (LA HA : Option Addr) (lc hc c : Nat) (w : World) (hst : p.set.length ≤ 9223372036854775807) (hL : Sl runeC 1 w w.heap.size LA (p.set.map (·.1))) (hH : Sl runeC 1 w w.heap.size HA (p.set.map (·.2))) :
    Calls Tryd.prog 40 #[.agg #[.bool p.star, .bool p.no, .slice LA p.set.length lc, .slice HA p.set.length hc], .int .i32 c] w fun e w' => e = .returned (.bool (p.takes c)) ∧ G w w' := by
  obtain ⟨star, no, S⟩ := p
  dsimp only at hst hL hH ⊢
  obtain ⟨n, hn⟩ : ∃ n, S.length = n := ⟨_, rfl⟩
  have hq : Hid (Pr.takes ⟨star, no, S⟩ c = (inSet S c != no)) := rfl
  generalize Pr.takes ⟨star, no, S⟩ c = q at *
  obtain ⟨W1, hW1⟩ : ∃ W1, w.alloc (.cells #[.bool star, .bool no, .slice LA S.length lc, .slice HA S.length hc] 88) = W1 := ⟨_, rfl⟩
  have hG1 : G w W1 := by rw [← hW1]; exact G.new _ _
  have hP := blk_new w #[.bool star, .bool no, .slice LA S.length lc, .slice HA S.length hc] 88
  have hzW : W1.heap.size = w.heap.size + 1 := by rw [← hW1]; simp
  replace hzW := Lib.hid hzW
  rw [hW1] at hP
  rw [hn] at hst
  replace hL := Lib.hid ((hL.g (Nat.le_refl _) hG1).more hG1.size)
  replace hH := Lib.hid ((hH.g (Nat.le_refl _) hG1).more hG1.size)
  rw [hn]
  rw [hn] at hP hW1
  replace hP := Lib.hid hP
  replace hW1 := Lib.hid hW1
  replace hn := Lib.hid hn
  go_enter Tryd.func40, Tryd.ntmps40
  go_wp2_with fail
  rw [hW1.out]
  go_loopw [5, 6] (fun v i wr => ∃ k : Nat, k ≤ n ∧ v = .bool (inSet (S.take k) c) ∧ i = .int .i64 k ∧ Hid (G W1 wr)) (fun _ i _ => n - (intOf i).toNat)
  case atStart => exact ⟨0, Nat.zero_le _, rfl, rfl, G.refl _⟩
  case round =>
    obtain ⟨k, hk, rfl, rfl, hg⟩ := hrel
    have hPr := hg.out.blk hP.out
    have p1 := (blk_cell hPr 1).trans (show _ = some (.bool no) from rfl)
    have p2 := (blk_cell hPr 2).trans (show _ = some (.slice LA n lc) from rfl)
    have p3 := (blk_cell hPr 3).trans (show _ = some (.slice HA n hc) from rfl)
    clear hPr
    by_cases hlt : k < n
    · obtain ⟨⟨x, y⟩, hx⟩ : ∃ s, S[k]? = some s := ⟨_, List.getElem?_eq_getElem (by rw [hn.out]; exact hlt)⟩
      obtain ⟨b, o, rfl, hb, c0⟩ := (hL.out.g (Nat.le_refl _) hg.out).rune (k := k) (x := x) (by rw [List.getElem?_map, hx]; rfl)
      obtain ⟨b', o', rfl, hb', d0⟩ := (hH.out.g (Nat.le_refl _) hg.out).rune (k := k) (x := y) (by rw [List.getElem?_map, hx]; rfl)
      have hin := inSet_take (c := c) hx
      have n1 : (0 : Int) ≤ (k : Int) := by omega
      have n2 : (k : Int) < (n : Int) := by omega
      have hk1 : k + 1 ≤ n := by omega
      replace hx := Lib.hid hx
      cases hpre : inSet (S.take k) c with
      | true =>
        rw [hpre, Bool.true_or] at hin
        replace hpre := Lib.hid hpre
        replace hin := Lib.hid hin
        replace hk1 := Lib.hid hk1
        go_wp2_with fail
        go_roundw
        case rel => exact ⟨k + 1, hk1.out, (by first | (rw [hin.out]; done) | rw [hin.out, e3]), by go_num, hg⟩
        case measure => (clear hk1; simp [intOf] <;> omega)
      | false =>
        rw [hpre, Bool.false_or] at hin
        replace hpre := Lib.hid hpre
        by_cases hxc : x ≤ c
        · rw [decide_eq_true hxc, Bool.true_and] at hin
          have e1 : decide ((x : Int) ≤ (c : Int)) = true := decide_eq_true (by omega)
          by_cases hcy : c ≤ y
          · rw [decide_eq_true hcy] at hin
            have e2 : decide ((c : Int) ≤ (y : Int)) = true := decide_eq_true (by omega)
            have e3 : decide (c ≤ y) = true := decide_eq_true hcy
            replace hxc := Lib.hid hxc
            replace hcy := Lib.hid hcy
            replace hin := Lib.hid hin
            replace hk1 := Lib.hid hk1
            go_wp2_with fail
            go_roundw
            case rel => exact ⟨k + 1, hk1.out, (by first | (rw [hin.out]; done) | rw [hin.out, e3]), by go_num, hg⟩
            case measure => (clear hk1; simp [intOf] <;> omega)
          · rw [decide_eq_false hcy] at hin
            have e2 : decide ((c : Int) ≤ (y : Int)) = false := decide_eq_false (by omega)
            have e3 : decide (c ≤ y) = false := decide_eq_false hcy
            replace hxc := Lib.hid hxc
            replace hcy := Lib.hid hcy
            replace hin := Lib.hid hin
            replace hk1 := Lib.hid hk1
            go_wp2_with fail
            go_roundw
            case rel => exact ⟨k + 1, hk1.out, (by first | (rw [hin.out]; done) | rw [hin.out, e3]), by go_num, hg⟩
            case measure => (clear hk1; simp [intOf] <;> omega)
        · rw [decide_eq_false hxc, Bool.false_and] at hin
          have e1 : decide ((x : Int) ≤ (c : Int)) = false := decide_eq_false (by omega)
          replace hxc := Lib.hid hxc
          replace hin := Lib.hid hin
          replace hk1 := Lib.hid hk1
          go_wp2_with fail
          go_roundw
          case rel => exact ⟨k + 1, hk1.out, (by first | (rw [hin.out]; done) | rw [hin.out, e3]), by go_num, hg⟩
          case measure => (clear hk1; simp [intOf] <;> omega)
    · obtain rfl : k = n := by omega
      have hfin : inSet (S.take k) c = inSet S c := by rw [← hn.out, List.take_length]
      rw [hfin]
      have hq2 := hq.out
      replace hfin := Lib.hid hfin
      cases hpre : inSet S c with
      | true =>
        rw [hpre] at hq2
        replace hpre := Lib.hid hpre
        cases hno : no with
        | true =>
          subst hno
          replace hq2 := Lib.hid hq2
          go_wp2_with fail
          go_ret
          exact ⟨by rw [hq2.out]; rfl, hG1.trans hg.out⟩
        | false =>
          subst hno
          replace hq2 := Lib.hid hq2
          go_wp2_with fail
          go_ret
          exact ⟨by rw [hq2.out]; rfl, hG1.trans hg.out⟩
      | false =>
        rw [hpre] at hq2
        replace hpre := Lib.hid hpre
        cases hno : no with
        | true =>
          subst hno
          replace hq2 := Lib.hid hq2
          go_wp2_with fail
          go_ret
          exact ⟨by rw [hq2.out]; rfl, hG1.trans hg.out⟩
        | false =>
          subst hno
          replace hq2 := Lib.hid hq2
          go_wp2_with fail
          go_ret
          exact ⟨by rw [hq2.out]; rfl, hG1.trans hg.out⟩
end Go.Proofs.YthhhobfdlgmjlaaDoor

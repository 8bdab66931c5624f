/- (glob.piece).fits: what it answers. Condition: a set's length fits an int. -/
import Derived.Test.YthhhobfdlgmjlaaDoorGlobCheckQWholeRow
namespace Go.Proofs.YthhhobfdlgmjlaaDoor
open Go.RowKit

theorem inSet_at : ∀ {l : List (Nat × Nat)} {k c : Nat} {s : Nat × Nat}, l[k]? = some s → s.1 ≤ c → c ≤ s.2 → inSet l c = true
  | [], _, _, _, h, _, _ => by simp at h
  | a :: l, 0, c, s, h, h1, h2 => by
    simp only [List.getElem?_cons_zero, Option.some.injEq] at h
    subst h
    simp [inSet, h1, h2]
  | a :: l, k + 1, c, s, h, h1, h2 => by
    rw [List.getElem?_cons_succ] at h
    rw [inSet, inSet_at h h1 h2, Bool.or_true]
theorem inSet_no : ∀ {l : List (Nat × Nat)} {c : Nat}, (∀ (k : Nat) (s : Nat × Nat), l[k]? = some s → ¬ (s.1 ≤ c ∧ c ≤ s.2)) → inSet l c = false
  | [], _, _ => rfl
  | a :: l, c, h => by
    have h0 := h 0 a rfl
    rw [inSet, inSet_no fun k s hk => h (k + 1) s (by rw [List.getElem?_cons_succ]; exact hk)]
    rw [Bool.or_false]
    cases h1 : (decide (a.1 ≤ c) && decide (c ≤ a.2)) with
    | false => rfl
    | true => simp at h1; exact absurd h1 h0
theorem Sl.span {w : World} {B : Nat} {A : Option Addr} {xs : List (Nat × Nat)} {k : Nat} {s : Nat × Nat} (h : Sl spanC 2 w B A xs) (hx : xs[k]? = some s) :
    ∃ b o, A = some ⟨b, o, none⟩ ∧ b < B ∧ w.cell? ⟨b, o + k * 2, none⟩ = some (.int .i32 s.1) ∧ w.cell? ⟨b, o + k * 2 + 1, none⟩ = some (.int .i32 s.2) := by
  obtain ⟨b, o, e, hb, h2⟩ := h.get hx
  exact ⟨b, o, e, hb, h2 0 _ rfl, h2 1 _ rfl⟩
theorem all_less {α : Type} {l : List α} {k : Nat} {c : α} {p : α → Prop} (h : ∀ (j : Nat) (c : α), j < k → l[j]? = some c → p c) (hc : l[k]? = some c) (hp : p c) : ∀ (j : Nat) (c : α), j < k + 1 → l[j]? = some c → p c := fun j c' hj h' => by
  rcases Nat.lt_or_ge j k with h1 | h1
  · exact h j c' h1 h'
  · obtain rfl : j = k := by omega
    rw [hc] at h'
    cases h'
    exact hp
set_option maxRecDepth 100000 in
set_option maxHeartbeats 2000000 in
theorem fits_any (k0 r0 : Nat) (st : List (Nat × Nat)) (no : Bool) (A : Option Addr) (cm : Nat) (c : Nat) (w : World) (hst : st.length ≤ 9223372036854775807) (hs : Sl spanC 2 w w.heap.size A st) :
    Calls Tryd.prog 57 #[.agg #[.int .i64 k0, .int .i32 r0, .slice A st.length cm, .bool no], .int .i32 c] w fun e w' => e = .returned (.bool (Pc.fits ⟨k0, r0, st, no⟩ c)) ∧ G w w' := by
  by_cases h2 : k0 = 2
  · have hf : Pc.fits ⟨k0, r0, st, no⟩ c = true := by unfold Pc.fits; rw [if_pos h2]
    rw [hf]
    have t1 : ((k0 : Int) == 2) = true := by rw [beq_iff_eq]; omega
    clear hf h2 hs
    go_enter Tryd.func57, Tryd.ntmps57
    go_wp2_with fail
    go_ret
    exact ⟨rfl, G.new _ _⟩
  have t1 : ((k0 : Int) == 2) = false := by rw [beq_eq_false_iff_ne]; omega
  by_cases h3 : k0 = 3
  · have hf : Pc.fits ⟨k0, r0, st, no⟩ c = if inSet st c = true then !no else no := by unfold Pc.fits; rw [if_neg h2, if_pos h3]
    rw [hf]
    have t2 : ((k0 : Int) == 3) = true := by rw [beq_iff_eq]; omega
    clear hf h2 h3
    obtain ⟨q, hq⟩ : ∃ q, inSet st c = q := ⟨_, rfl⟩
    rw [hq]
    replace hq := Lib.hid hq
    obtain ⟨W1, hW1⟩ : ∃ W1, w.alloc (.cells #[.int .i64 k0, .int .i32 r0, .slice A st.length cm, .bool no] 112) = W1 := ⟨_, rfl⟩
    have hG1 : G w W1 := by rw [← hW1]; exact G.new _ _
    have hP := blk_new w #[.int .i64 k0, .int .i32 r0, .slice A st.length cm, .bool no] 112
    have hzW : W1.heap.size = w.heap.size + 1 := by rw [← hW1]; simp
    replace hzW := Lib.hid hzW
    rw [hW1] at hP
    have p0 := (blk_cell hP 0).trans (show _ = some (.int .i64 k0) from rfl)
    have p2 := (blk_cell hP 2).trans (show _ = some (.slice A st.length cm) from rfl)
    have p3 := (blk_cell hP 3).trans (show _ = some (.bool no) from rfl)
    replace hP := Lib.hid hP
    replace hs := Lib.hid hs
    replace hW1 := Lib.hid hW1
    go_enter Tryd.func57, Tryd.ntmps57
    go_wp2_with fail
    rw [hW1.out]
    go_loopw [16] (fun i wr => ∃ k : Nat, k ≤ st.length ∧ i = .int .i64 k ∧ Hid (∀ j s, j < k → st[j]? = some s → ¬ (s.1 ≤ c ∧ c ≤ s.2)) ∧ Hid (G W1 wr)) (fun i _ => st.length - (intOf i).toNat)
    case atStart => exact ⟨0, Nat.zero_le _, rfl, (by intro j s h; omega), G.refl _⟩
    case round =>
      clear p0 p2 p3
      obtain ⟨k, hk, rfl, hh, hg⟩ := hrel
      have hPr := hg.out.blk hP.out
      have p3 := (blk_cell hPr 3).trans (show _ = some (.bool no) from rfl)
      by_cases hlt : k < st.length
      · obtain ⟨⟨x, y⟩, hx⟩ : ∃ s, st[k]? = some s := ⟨_, List.getElem?_eq_getElem hlt⟩
        obtain ⟨b, o, rfl, hb, c0, c1⟩ := ((hs.out.g (Nat.le_refl _) hG1).g (by rw [hzW.out]; omega) hg.out).span hx
        dsimp only at c0 c1
        have p3' : (wr.alloc (.cells #[.int .i32 x, .int .i32 y] 124)).cell? ⟨w.heap.size, 3, none⟩ = some (.bool no) := (blk_cell ((G.new wr _).blk hPr) 3).trans rfl
        have hg2 : Hid (G W1 (wr.alloc (.cells #[.int .i32 x, .int .i32 y] 124))) := hg.out.alloc _
        have hin : x ≤ c → c ≤ y → q = true := fun h1 h2 => by rw [← hq.out]; exact inSet_at hx h1 h2
        have hall : ¬ (x ≤ c ∧ c ≤ y) → _ := fun h1 => all_less (p := fun s => ¬ (s.1 ≤ c ∧ c ≤ s.2)) hh.out hx h1
        have n1 : (0 : Int) ≤ (k : Int) := by omega
        have n2 : (k : Int) < (st.length : Int) := by omega
        replace hall := Lib.hid hall
        replace hin := Lib.hid hin
        clear hx hPr
        by_cases hxc : x ≤ c
        · by_cases hcy : c ≤ y
          · have hqt := hin.out hxc hcy
            subst hqt
            have e1 : (x : Int) ≤ (c : Int) := by omega
            have e2 : (c : Int) ≤ (y : Int) := by omega
            clear hxc hcy
            go_wp2_with fail
            go_ret
            exact ⟨rfl, hG1.trans hg2.out⟩
          · have e1 : (x : Int) ≤ (c : Int) := by omega
            have e2 : ¬ (c : Int) ≤ (y : Int) := by omega
            have hh2 := hall.out (by omega)
            replace hh2 := Lib.hid hh2
            clear hxc hcy
            go_wp2_with fail
            go_roundw
            case rel => exact ⟨k + 1, by omega, by go_num, hh2, hg2⟩
            case measure => (simp [intOf] <;> omega)
        · have e1 : ¬ (x : Int) ≤ (c : Int) := by omega
          have hh2 := hall.out (by omega)
          replace hh2 := Lib.hid hh2
          clear hxc
          go_wp2_with fail
          go_roundw
          case rel => exact ⟨k + 1, by omega, by go_num, hh2, hg2⟩
          case measure => (simp [intOf] <;> omega)
      · have hqf : q = false := by
          rw [← hq.out]
          exact inSet_no fun j s h => hh.out j s (by have := (List.getElem?_eq_some_iff.1 h).1; omega) h
        subst hqf
        clear hPr
        go_wp2_with fail
        go_ret
        exact ⟨rfl, hG1.trans hg.out⟩
  · have t2 : ((k0 : Int) == 3) = false := by rw [beq_eq_false_iff_ne]; omega
    have hf : Pc.fits ⟨k0, r0, st, no⟩ c = (decide (k0 = 0) && decide (r0 = c)) := by unfold Pc.fits; rw [if_neg h2, if_neg h3]
    rw [hf]
    clear hf h2 h3 hs
    by_cases h0 : k0 = 0
    · have t3 : ((k0 : Int) == 0) = true := by rw [beq_iff_eq]; omega
      rw [decide_eq_true h0, Bool.true_and]
      replace h0 := Lib.hid h0
      go_enter Tryd.func57, Tryd.ntmps57
      go_wp2_with fail
      go_ret
      exact ⟨ret_bool (by rw [Bool.eq_iff_iff]; simp; omega), G.new _ _⟩
    · have t3 : ((k0 : Int) == 0) = false := by rw [beq_eq_false_iff_ne]; omega
      rw [decide_eq_false h0, Bool.false_and]
      replace h0 := Lib.hid h0
      go_enter Tryd.func57, Tryd.ntmps57
      go_wp2_with fail
      go_ret
      exact ⟨rfl, G.new _ _⟩
end Go.Proofs.YthhhobfdlgmjlaaDoor

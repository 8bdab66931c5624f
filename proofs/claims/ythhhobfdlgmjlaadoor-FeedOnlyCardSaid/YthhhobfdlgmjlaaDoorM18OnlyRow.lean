/- Several texts in one: RefMtLaw, GlobFits. -/
import Derived.Test.YthhhobfdlgmjlaaDoorM2OnlyRow
import Derived.Test.YthhhobfdlgmjlaaDoorGlobCheckQOnlyRow
/- The document's rows of a match, held against the program's. Plain mathematics. No condition. -/
namespace Go.Proofs.YthhhobfdlgmjlaaDoor

def anyAt (qs : List Pc) (i : Nat) : Bool := match qs[i]? with | some q => q.any | none => false
theorem anyAt_some {qs : List Pc} {i : Nat} {q : Pc} (h : qs[i]? = some q) : anyAt qs i = q.any := by unfold anyAt; rw [h]
theorem anyAt_none {qs : List Pc} {i : Nat} (h : qs[i]? = none) : anyAt qs i = false := by unfold anyAt; rw [h]
/-- What the document's row holds: ahead of a star, too, what the star took. -/
def canB (qs : List Pc) (u : List Nat) (i : Nat) : Bool := mrow qs u i || (anyAt qs i && mrow qs u (i + 1))
/-- What a piece lets on. -/
def transB (qs : List Pc) (f : Nat → Bool) (c k : Nat) : Bool := match qs[k]? with | some q => if q.any = true then f (k + 1) || f k else f k && q.fits c | none => false
/-- The next row, some pieces gone through. -/
def nextK (qs : List Pc) (f : Nat → Bool) (c i : Nat) : Nat → Bool
  | 0 => decide (0 < i) && (anyAt qs 0 && f 0)
  | k + 1 => (decide (k < i) && transB qs f c k) || (decide (k + 1 < i) && (anyAt qs (k + 1) && f (k + 1)))
theorem canB_all (qs : List Pc) (u : List Nat) : canB qs u qs.length = matchL qs u := by
  unfold canB
  rw [anyAt_none (List.getElem?_eq_none (Nat.le_refl _)), mrow_all]
  simp
theorem mrow_some {qs : List Pc} {u : List Nat} {i : Nat} (h : i < qs.length) (ha : anyAt qs i = true) (hm : mrow qs u i = true) : mrow qs u (i + 1) = true := by
  obtain ⟨q, hq⟩ : ∃ q, qs[i]? = some q := ⟨_, List.getElem?_eq_getElem h⟩
  rw [anyAt_some hq] at ha
  exact mrow_up hq ha hm
theorem canB_start (qs : List Pc) (i : Nat) (_h : i ≤ qs.length) : canB qs [] i = mrow qs [] i := by
  unfold canB
  rcases Nat.lt_or_ge i qs.length with h1 | h1
  · obtain ⟨q, hq⟩ : ∃ q, qs[i]? = some q := ⟨_, List.getElem?_eq_getElem h1⟩
    rw [anyAt_some hq, mrow_nil hq]
    cases q.any <;> cases mrow qs [] i <;> rfl
  · rw [anyAt_none (List.getElem?_eq_none h1)]
    simp
theorem anyAt_lt {qs : List Pc} {i : Nat} (h : anyAt qs i = true) : i < qs.length := by
  rcases Nat.lt_or_ge i qs.length with h1 | h1
  · exact h1
  · rw [anyAt_none (List.getElem?_eq_none h1)] at h; cases h
/-- ahead of a star the row holds what the star holds. -/
theorem canB_any {qs : List Pc} {u : List Nat} {i : Nat} (h : anyAt qs i = true) : canB qs u i = mrow qs u (i + 1) := by
  unfold canB
  rw [h]
  have := mrow_some (u := u) (anyAt_lt h) h
  cases h1 : mrow qs u i with
  | false => simp
  | true => rw [this h1]; rfl
theorem canB_one {qs : List Pc} {u : List Nat} {i : Nat} (h : anyAt qs i = false) : canB qs u i = mrow qs u i := by
  unfold canB
  rw [h]
  simp
theorem next_law (qs : List Pc) (u : List Nat) (c : Nat) : ∀ j, j ≤ qs.length → passB qs (nextK qs (canB qs u) c qs.length) j = canB qs (u ++ [c]) j
  | 0, h => by
    show nextK qs (canB qs u) c qs.length 0 = _
    simp only [nextK]
    cases ha : anyAt qs 0 with
    | false => rw [canB_one (u := u ++ [c]) ha, mrow_zero]; simp
    | true =>
      have hl := anyAt_lt ha
      obtain ⟨q, hq⟩ : ∃ q, qs[0]? = some q := ⟨_, List.getElem?_eq_getElem hl⟩
      have hqa : q.any = true := by rw [← anyAt_some hq, ha]
      rw [canB_any (u := u ++ [c]) ha, canB_any (u := u) ha, mrow_step hq, if_pos hqa, mrow_zero]
      simp [hl]
  | j + 1, h => by
    obtain ⟨q, hq⟩ : ∃ q, qs[j]? = some q := ⟨_, List.getElem?_eq_getElem (by omega)⟩
    rw [passB_succ hq, next_law qs u c j (by omega)]
    have hj : j < qs.length := by omega
    have hd : (decide (j + 1 < qs.length) && (anyAt qs (j + 1) && canB qs u (j + 1))) = (anyAt qs (j + 1) && mrow qs u (j + 1 + 1)) := by
      cases ha : anyAt qs (j + 1) with
      | false => simp
      | true =>
        have := anyAt_lt ha
        rw [canB_any ha]
        simp [this]
    simp only [nextK]
    rw [hd, decide_eq_true hj, Bool.true_and]
    unfold transB
    rw [hq]
    dsimp only
    have hM : anyAt qs (j + 1) = true → mrow qs (u ++ [c]) (j + 1 + 1) = (mrow qs u (j + 1 + 1) || mrow qs (u ++ [c]) (j + 1)) := by
      intro ha
      have hl := anyAt_lt ha
      obtain ⟨q', hq'⟩ : ∃ q, qs[j + 1]? = some q := ⟨_, List.getElem?_eq_getElem hl⟩
      rw [mrow_step hq', if_pos (by rw [← anyAt_some hq', ha])]
    have hR : canB qs (u ++ [c]) (j + 1) = (mrow qs (u ++ [c]) (j + 1) || (anyAt qs (j + 1) && mrow qs u (j + 1 + 1))) := by
      unfold canB
      cases ha : anyAt qs (j + 1) with
      | false => simp
      | true =>
        rw [hM ha]
        cases mrow qs (u ++ [c]) (j + 1) <;> cases mrow qs u (j + 1 + 1) <;> rfl
    rw [hR]
    cases hqa : q.any with
    | false =>
      have ha : anyAt qs j = false := by rw [anyAt_some hq, hqa]
      rw [canB_one (u := u) ha, mrow_step hq, hqa]
      cases mrow qs u j <;> cases q.fits c <;> simp
    | true =>
      have ha : anyAt qs j = true := by rw [anyAt_some hq, hqa]
      rw [if_pos rfl, canB_any (u := u ++ [c]) ha, canB_any (u := u) ha]
      have h1 : mrow qs (u ++ [c]) (j + 1) = (mrow qs u (j + 1) || mrow qs (u ++ [c]) j) := by rw [mrow_step hq, if_pos hqa]
      have h2 : canB qs u (j + 1) = (mrow qs u (j + 1) || (anyAt qs (j + 1) && mrow qs u (j + 1 + 1))) := rfl
      rw [h2]
      cases hx : mrow qs u (j + 1) with
      | true => rw [h1, hx]; simp
      | false => cases mrow qs (u ++ [c]) (j + 1) <;> cases anyAt qs (j + 1) <;> cases mrow qs u (j + 1 + 1) <;> rfl
end Go.Proofs.YthhhobfdlgmjlaaDoor
/- (glob.piece).fits: what it answers. Condition: a set's length fits an int. -/
namespace Go.Proofs.YthhhobfdlgmjlaaDoor
open Go.RowKit

theorem inSet_at : ∀ {l : List (Nat × Nat)} {k c : Nat} {s : Nat × Nat}, l[k]? = some s → s.1 ≤ c → c ≤ s.2 → inSet l c = true
  | [], _, _, _, h, _, _ => by simp at h
  | a :: l, 0, c, s, h, h1, h2 => by
    simp only [List.getElem?_cons_zero, Option.some.injEq] at h
    subst h
    simp [inSet, h1, h2]
  | a :: l, k + 1, c, s, h, h1, h2 => by
    rw [List.getElem?_cons_succ] at h
    rw [inSet, inSet_at h h1 h2, Bool.or_true]
theorem inSet_no : ∀ {l : List (Nat × Nat)} {c : Nat}, (∀ (k : Nat) (s : Nat × Nat), l[k]? = some s → ¬ (s.1 ≤ c ∧ c ≤ s.2)) → inSet l c = false
  | [], _, _ => rfl
  | a :: l, c, h => by
    have h0 := h 0 a rfl
    rw [inSet, inSet_no fun k s hk => h (k + 1) s (by rw [List.getElem?_cons_succ]; exact hk)]
    rw [Bool.or_false]
    cases h1 : (decide (a.1 ≤ c) && decide (c ≤ a.2)) with
    | false => rfl
    | true => simp at h1; exact absurd h1 h0
theorem Sl.span {w : World} {B : Nat} {A : Option Addr} {xs : List (Nat × Nat)} {k : Nat} {s : Nat × Nat} (h : Sl spanC 2 w B A xs) (hx : xs[k]? = some s) :
    ∃ b o, A = some ⟨b, o, none⟩ ∧ b < B ∧ w.cell? ⟨b, o + k * 2, none⟩ = some (.int .i32 s.1) ∧ w.cell? ⟨b, o + k * 2 + 1, none⟩ = some (.int .i32 s.2) := by
  obtain ⟨b, o, e, hb, h2⟩ := h.get hx
  exact ⟨b, o, e, hb, h2 0 _ rfl, h2 1 _ rfl⟩
theorem all_less {α : Type} {l : List α} {k : Nat} {c : α} {p : α → Prop} (h : ∀ (j : Nat) (c : α), j < k → l[j]? = some c → p c) (hc : l[k]? = some c) (hp : p c) : ∀ (j : Nat) (c : α), j < k + 1 → l[j]? = some c → p c := fun j c' hj h' => by
  rcases Nat.lt_or_ge j k with h1 | h1
  · exact h j c' h1 h'
  · obtain rfl : j = k := by omega
    rw [hc] at h'
    cases h'
    exact hp
set_option maxRecDepth 100000 in
set_option maxHeartbeats 2000000 in
theorem fits_any (k0 r0 : Nat) (st : List (Nat × Nat)) (no : Bool) (A : Option Addr) (cm : Nat) (c : Nat) (w : World) (hst : st.length ≤ 9223372036854775807) (hs : Sl spanC 2 w w.heap.size A st) :
    Calls Tryd.prog 57 #[.agg #[.int .i64 k0, .int .i32 r0, .slice A st.length cm, .bool no], .int .i32 c] w fun e w' => e = .returned (.bool (Pc.fits ⟨k0, r0, st, no⟩ c)) ∧ G w w' := by
  by_cases h2 : k0 = 2
  · have hf : Pc.fits ⟨k0, r0, st, no⟩ c = true := by unfold Pc.fits; rw [if_pos h2]
    rw [hf]
    have t1 : ((k0 : Int) == 2) = true := by rw [beq_iff_eq]; omega
    clear hf h2 hs
    go_enter Tryd.func57, Tryd.ntmps57
    go_wp2_with fail
    go_ret
    exact ⟨rfl, G.new _ _⟩
  have t1 : ((k0 : Int) == 2) = false := by rw [beq_eq_false_iff_ne]; omega
  by_cases h3 : k0 = 3
  · have hf : Pc.fits ⟨k0, r0, st, no⟩ c = if inSet st c = true then !no else no := by unfold Pc.fits; rw [if_neg h2, if_pos h3]
    rw [hf]
    have t2 : ((k0 : Int) == 3) = true := by rw [beq_iff_eq]; omega
    clear hf h2 h3
    obtain ⟨q, hq⟩ : ∃ q, inSet st c = q := ⟨_, rfl⟩
    rw [hq]
    replace hq := Lib.hid hq
    obtain ⟨W1, hW1⟩ : ∃ W1, w.alloc (.cells #[.int .i64 k0, .int .i32 r0, .slice A st.length cm, .bool no] 112) = W1 := ⟨_, rfl⟩
    have hG1 : G w W1 := by rw [← hW1]; exact G.new _ _
    have hP := blk_new w #[.int .i64 k0, .int .i32 r0, .slice A st.length cm, .bool no] 112
    have hzW : W1.heap.size = w.heap.size + 1 := by rw [← hW1]; simp
    replace hzW := Lib.hid hzW
    rw [hW1] at hP
    have p0 := (blk_cell hP 0).trans (show _ = some (.int .i64 k0) from rfl)
    have p2 := (blk_cell hP 2).trans (show _ = some (.slice A st.length cm) from rfl)
    have p3 := (blk_cell hP 3).trans (show _ = some (.bool no) from rfl)
    replace hP := Lib.hid hP
    replace hs := Lib.hid hs
    replace hW1 := Lib.hid hW1
    go_enter Tryd.func57, Tryd.ntmps57
    go_wp2_with fail
    rw [hW1.out]
    go_loopw [16] (fun i wr => ∃ k : Nat, k ≤ st.length ∧ i = .int .i64 k ∧ Hid (∀ j s, j < k → st[j]? = some s → ¬ (s.1 ≤ c ∧ c ≤ s.2)) ∧ Hid (G W1 wr)) (fun i _ => st.length - (intOf i).toNat)
    case atStart => exact ⟨0, Nat.zero_le _, rfl, (by intro j s h; omega), G.refl _⟩
    case round =>
      clear p0 p2 p3
      obtain ⟨k, hk, rfl, hh, hg⟩ := hrel
      have hPr := hg.out.blk hP.out
      have p3 := (blk_cell hPr 3).trans (show _ = some (.bool no) from rfl)
      by_cases hlt : k < st.length
      · obtain ⟨⟨x, y⟩, hx⟩ : ∃ s, st[k]? = some s := ⟨_, List.getElem?_eq_getElem hlt⟩
        obtain ⟨b, o, rfl, hb, c0, c1⟩ := ((hs.out.g (Nat.le_refl _) hG1).g (by rw [hzW.out]; omega) hg.out).span hx
        dsimp only at c0 c1
        have p3' : (wr.alloc (.cells #[.int .i32 x, .int .i32 y] 124)).cell? ⟨w.heap.size, 3, none⟩ = some (.bool no) := (blk_cell ((G.new wr _).blk hPr) 3).trans rfl
        have hg2 : Hid (G W1 (wr.alloc (.cells #[.int .i32 x, .int .i32 y] 124))) := hg.out.alloc _
        have hin : x ≤ c → c ≤ y → q = true := fun h1 h2 => by rw [← hq.out]; exact inSet_at hx h1 h2
        have hall : ¬ (x ≤ c ∧ c ≤ y) → _ := fun h1 => all_less (p := fun s => ¬ (s.1 ≤ c ∧ c ≤ s.2)) hh.out hx h1
        have n1 : (0 : Int) ≤ (k : Int) := by omega
        have n2 : (k : Int) < (st.length : Int) := by omega
        replace hall := Lib.hid hall
        replace hin := Lib.hid hin
        clear hx hPr
        by_cases hxc : x ≤ c
        · by_cases hcy : c ≤ y
          · have hqt := hin.out hxc hcy
            subst hqt
            have e1 : (x : Int) ≤ (c : Int) := by omega
            have e2 : (c : Int) ≤ (y : Int) := by omega
            clear hxc hcy
            go_wp2_with fail
            go_ret
            exact ⟨rfl, hG1.trans hg2.out⟩
          · have e1 : (x : Int) ≤ (c : Int) := by omega
            have e2 : ¬ (c : Int) ≤ (y : Int) := by omega
            have hh2 := hall.out (by omega)
            replace hh2 := Lib.hid hh2
            clear hxc hcy
            go_wp2_with fail
            go_roundw
            case rel => exact ⟨k + 1, by omega, by go_num, hh2, hg2⟩
            case measure => (simp [intOf] <;> omega)
        · have e1 : ¬ (x : Int) ≤ (c : Int) := by omega
          have hh2 := hall.out (by omega)
          replace hh2 := Lib.hid hh2
          clear hxc
          go_wp2_with fail
          go_roundw
          case rel => exact ⟨k + 1, by omega, by go_num, hh2, hg2⟩
          case measure => (simp [intOf] <;> omega)
      · have hqf : q = false := by
          rw [← hq.out]
          exact inSet_no fun j s h => hh.out j s (by have := (List.getElem?_eq_some_iff.1 h).1; omega) h
        subst hqf
        clear hPr
        go_wp2_with fail
        go_ret
        exact ⟨rfl, hG1.trans hg.out⟩
  · have t2 : ((k0 : Int) == 3) = false := by rw [beq_eq_false_iff_ne]; omega
    have hf : Pc.fits ⟨k0, r0, st, no⟩ c = (decide (k0 = 0) && decide (r0 = c)) := by unfold Pc.fits; rw [if_neg h2, if_neg h3]
    rw [hf]
    clear hf h2 h3 hs
    by_cases h0 : k0 = 0
    · have t3 : ((k0 : Int) == 0) = true := by rw [beq_iff_eq]; omega
      rw [decide_eq_true h0, Bool.true_and]
      replace h0 := Lib.hid h0
      go_enter Tryd.func57, Tryd.ntmps57
      go_wp2_with fail
      go_ret
      exact ⟨ret_bool (by rw [Bool.eq_iff_iff]; simp; omega), G.new _ _⟩
    · have t3 : ((k0 : Int) == 0) = false := by rw [beq_eq_false_iff_ne]; omega
      rw [decide_eq_false h0, Bool.false_and]
      replace h0 := Lib.hid h0
      go_enter Tryd.func57, Tryd.ntmps57
      go_wp2_with fail
      go_ret
      exact ⟨rfl, G.new _ _⟩
end Go.Proofs.YthhhobfdlgmjlaaDoor

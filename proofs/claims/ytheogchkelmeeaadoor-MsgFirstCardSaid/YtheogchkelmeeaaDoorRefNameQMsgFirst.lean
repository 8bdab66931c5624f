/- penstockref1.Name, Key: what they answer. Condition: the length is at most 2^30. -/
import Derived.Test.YtheogchkelmeeaaDoorM14MsgFirst
import Derived.Test.YtheogchkelmeeaaDoorNameQMsgFirst
namespace Go.Proofs.YtheogchkelmeeaaDoor
open Go.RowKit

/-- A piece that may not stand in a name. -/
theorem nameB_not {s : ByteArray} {k : Nat} {c : Ck} (h : (cks s.data.toList)[k]? = some c) (hb : c.bad = true ∨ namedB c.r = false) : nameB s = false := by
  unfold nameB
  rcases hb with hb | hb
  · have : everyB 40 namedB s = false := by
      unfold everyB
      rw [validB_not h hb, Bool.and_false]
    rw [this, Bool.and_false]
  · rw [everyB_not h hb, Bool.and_false]
theorem nameB_len {s : ByteArray} (h : (cks s.data.toList).length < 1 ∨ 40 < (cks s.data.toList).length) : nameB s = false := by
  unfold nameB
  rcases h with h | h
  · have : s.data.toList = [] := by
      rcases hl : s.data.toList with _ | ⟨b, l⟩
      · rfl
      · rw [hl, cks_step (by simp)] at h
        simp at h
    rw [ByteArray.toList_eq, this]
    rfl
  · have : everyB 40 namedB s = false := by
      unfold everyB
      rw [decide_eq_false (by omega)]; rfl
    rw [this, Bool.and_false]
theorem nameB_end {s : ByteArray} (h0 : 1 ≤ (cks s.data.toList).length) (h1 : (cks s.data.toList).length ≤ 40) (h : ∀ (j : Nat) (c : Ck), (cks s.data.toList)[j]? = some c → c.bad = false ∧ namedB c.r = true) : nameB s = true := by
  unfold nameB
  rw [everyB_end (by omega) fun j c hc => (h j c hc).2, validB_end fun j c hc => (h j c hc).1, ByteArray.toList_eq]
  rcases hl : s.data.toList with _ | ⟨b, l⟩
  · rw [hl, cks_nil] at h0
    simp at h0
  · rfl
theorem keyB_not {s : ByteArray} {k : Nat} {c : Ck} (h : (cks s.data.toList)[k]? = some c) (hb : c.bad = true ∨ showB c.r = false) : keyB s = false := by
  unfold keyB
  rcases hb with hb | hb
  · unfold everyB
    rw [validB_not h hb, Bool.and_false]
  · exact everyB_not h hb
theorem keyB_end {s : ByteArray} (h : ∀ (j : Nat) (c : Ck), (cks s.data.toList)[j]? = some c → c.bad = false ∧ showB c.r = true) : keyB s = decide (((cks s.data.toList).length : Int) ≤ 40) := by
  unfold keyB everyB
  have h1 : ((cks s.data.toList).all fun c => showB c.r) = true := by
    rw [List.all_eq_true]
    intro c hc
    obtain ⟨j, hj⟩ := List.getElem?_of_mem hc
    exact (h j c hj).2
  rw [h1, validB_end fun j c hc => (h j c hc).1, Bool.and_true, Bool.and_true]
set_option maxRecDepth 100000 in
set_option maxHeartbeats 4000000 in
theorem refName_any (s : ByteArray) (w : World) (hs : s.size ≤ 1073741824) :
    Calls Tryd.prog 72 #[.string s] w fun e w' => e = .returned (.bool (nameB s)) ∧ G w w' := by
  have hall := all_any s w hs
  have hl : (cks s.data.toList).length ≤ 1073741824 := Nat.le_trans (cks_length_le _) (by simpa using hs)
  by_cases hnn : (cks s.data.toList).length < 1 ∨ 40 < (cks s.data.toList).length
  · have hf := nameB_len hnn
    replace hf := Lib.hid hf
    have t1 : ((cks s.data.toList).length : Int) < 1 ∨ (40 : Int) < ((cks s.data.toList).length : Int) := by omega
    rcases t1 with t1 | t1
    · clear hnn
      go_enter Tryd.func72, Tryd.ntmps72
      go_wp2_with fail
      refine hall.mono ?_
      clear hall
      rintro e w1 ⟨A, c8, rfl, hsl, hg⟩
      clear hsl
      go_wp2_with fail
      go_ret
      exact ⟨by rw [hf.out]; rfl, hg⟩
    · have t2 : ¬ ((cks s.data.toList).length : Int) < 1 := by omega
      clear hnn
      go_enter Tryd.func72, Tryd.ntmps72
      go_wp2_with fail
      refine hall.mono ?_
      clear hall
      rintro e w1 ⟨A, c8, rfl, hsl, hg⟩
      clear hsl
      go_wp2_with fail
      go_ret
      exact ⟨by rw [hf.out]; rfl, hg⟩
  have t1 : ¬ ((cks s.data.toList).length : Int) < 1 := by omega
  have t2 : ((cks s.data.toList).length : Int) ≤ 40 := by omega
  go_enter Tryd.func72, Tryd.ntmps72
  go_wp2_with fail
  refine hall.mono ?_
  clear hall
  rintro e w1 ⟨A, c8, rfl, hsl, hg⟩
  replace hsl := Lib.hid hsl
  clear hnn
  go_wp2_with fail
  go_loop [4] (fun i => ∃ k : Nat, k ≤ (cks s.data.toList).length ∧ i = .int .i64 k ∧ Hid (∀ j c, j < k → (cks s.data.toList)[j]? = some c → c.bad = false ∧ namedB c.r = true)) (fun i => (cks s.data.toList).length - (intOf i).toNat)
  case atStart => exact ⟨0, Nat.zero_le _, rfl, by intro j c h; omega⟩
  case round =>
    obtain ⟨k, hk, rfl, hh⟩ := hrel
    by_cases hlt : k < (cks s.data.toList).length
    · obtain ⟨c, hc⟩ := piece_at hlt
      obtain ⟨b, o, rfl, hb, c0, c1, c2, c3⟩ := hsl.out.ruG (Nat.le_refl _) hc
      replace c0 := c0 _ (G.refl _)
      replace c3 := c3 _ (G.refl _)
      have n1 : (0 : Int) ≤ ↑k := by omega
      have n2 : (k : Int) < ↑(cks s.data.toList).length := by omega
      clear c1 c2 hsl
      have hn : Hid (c.bad = true ∨ namedB c.r = false → nameB s = false) := nameB_not hc
      have hy : Hid (c.bad = false → namedB c.r = true → ∀ j c', j < k + 1 → (cks s.data.toList)[j]? = some c' → c'.bad = false ∧ namedB c'.r = true) := fun h1 h2 => all_more (p := fun c => c.bad = false ∧ namedB c.r = true) hh.out hc ⟨h1, h2⟩
      clear hc hh
      generalize c.bad = bd at *
      obtain ⟨cb, r0⟩ := c
      dsimp only at c0 hn hy
      obtain ⟨r, hr⟩ : ∃ r : Int, (r0 : Int) = r := ⟨_, rfl⟩
      rw [hr] at c0 hn hy
      clear hr
      by_cases h1 : r = 45
      · subst h1
        cases bd with
        | true =>
          have hf := hn.out (.inl rfl)
          replace hf := Lib.hid hf
          go_wp2_with fail
          go_ret
          exact ⟨by rw [hf.out]; rfl, hg⟩
        | false =>
          have hh2 := hy.out rfl (rfl)
          replace hh2 := Lib.hid hh2
          go_wp2_with fail
          go_round
          case rel => exact ⟨k + 1, by omega, by go_num, hh2⟩
          case measure => (simp [intOf] <;> omega)
      by_cases h2 : r = 95
      · subst h2
        cases bd with
        | true =>
          have hf := hn.out (.inl rfl)
          replace hf := Lib.hid hf
          go_wp2_with fail
          go_ret
          exact ⟨by rw [hf.out]; rfl, hg⟩
        | false =>
          have hh2 := hy.out rfl (rfl)
          replace hh2 := Lib.hid hh2
          go_wp2_with fail
          go_round
          case rel => exact ⟨k + 1, by omega, by go_num, hh2⟩
          case measure => (simp [intOf] <;> omega)
      by_cases h3 : r = 46
      · subst h3
        cases bd with
        | true =>
          have hf := hn.out (.inl rfl)
          replace hf := Lib.hid hf
          go_wp2_with fail
          go_ret
          exact ⟨by rw [hf.out]; rfl, hg⟩
        | false =>
          have hh2 := hy.out rfl (rfl)
          replace hh2 := Lib.hid hh2
          go_wp2_with fail
          go_round
          case rel => exact ⟨k + 1, by omega, by go_num, hh2⟩
          case measure => (simp [intOf] <;> omega)
      by_cases h4 : r = 47
      · subst h4
        cases bd with
        | true =>
          have hf := hn.out (.inl rfl)
          replace hf := Lib.hid hf
          go_wp2_with fail
          go_ret
          exact ⟨by rw [hf.out]; rfl, hg⟩
        | false =>
          have hh2 := hy.out rfl (rfl)
          replace hh2 := Lib.hid hh2
          go_wp2_with fail
          go_round
          case rel => exact ⟨k + 1, by omega, by go_num, hh2⟩
          case measure => (simp [intOf] <;> omega)
      have b1 : (r == 45) = false := by rw [beq_eq_false_iff_ne]; exact h1
      have b2 : (r == 95) = false := by rw [beq_eq_false_iff_ne]; exact h2
      have b3 : (r == 46) = false := by rw [beq_eq_false_iff_ne]; exact h3
      have b4 : (r == 47) = false := by rw [beq_eq_false_iff_ne]; exact h4
      have hR : ((97 ≤ r ∧ r ≤ 122) ∨ (65 ≤ r ∧ r ≤ 90) ∨ (48 ≤ r ∧ r ≤ 57) ∨ 161 ≤ r) → namedB r = true := fun h => (namedB_t (by omega)).symm
      have hR2 : ¬ ((97 ≤ r ∧ r ≤ 122) ∨ (65 ≤ r ∧ r ≤ 90) ∨ (48 ≤ r ∧ r ≤ 57) ∨ 161 ≤ r) → namedB r = false := fun h => (namedB_f (by omega)).symm
      replace hR := Lib.hid hR
      replace hR2 := Lib.hid hR2
      clear h1 h2 h3 h4
      by_cases t1 : 97 ≤ r
      · by_cases t2 : r ≤ 122
        · cases bd with
          | true =>
            have hf := hn.out (.inl rfl)
            replace hf := Lib.hid hf
            go_wp2_with fail
            go_ret
            exact ⟨by rw [hf.out]; rfl, hg⟩
          | false =>
            have hh2 := hy.out rfl (hR.out (by omega))
            replace hh2 := Lib.hid hh2
            go_wp2_with fail
            go_round
            case rel => exact ⟨k + 1, by omega, by go_num, hh2⟩
            case measure => (simp [intOf] <;> omega)
        · have t3 : 65 ≤ r := by omega
          have t4 : ¬ r ≤ 90 := by omega
          have t5 : 48 ≤ r := by omega
          have t6 : ¬ r ≤ 57 := by omega
          by_cases t7 : 161 ≤ r
          · cases bd with
            | true =>
              have hf := hn.out (.inl rfl)
              replace hf := Lib.hid hf
              go_wp2_with fail
              go_ret
              exact ⟨by rw [hf.out]; rfl, hg⟩
            | false =>
              have hh2 := hy.out rfl (hR.out (by omega))
              replace hh2 := Lib.hid hh2
              go_wp2_with fail
              go_round
              case rel => exact ⟨k + 1, by omega, by go_num, hh2⟩
              case measure => (simp [intOf] <;> omega)
          · cases bd with
            | true =>
              have hf := hn.out (.inl rfl)
              replace hf := Lib.hid hf
              go_wp2_with fail
              go_ret
              exact ⟨by rw [hf.out]; rfl, hg⟩
            | false =>
              have hf := hn.out (.inr (hR2.out (by omega)))
              replace hf := Lib.hid hf
              go_wp2_with fail
              go_ret
              exact ⟨by rw [hf.out]; rfl, hg⟩
      · have t7 : ¬ 161 ≤ r := by omega
        by_cases t3 : 65 ≤ r
        · by_cases t4 : r ≤ 90
          · cases bd with
            | true =>
              have hf := hn.out (.inl rfl)
              replace hf := Lib.hid hf
              go_wp2_with fail
              go_ret
              exact ⟨by rw [hf.out]; rfl, hg⟩
            | false =>
              have hh2 := hy.out rfl (hR.out (by omega))
              replace hh2 := Lib.hid hh2
              go_wp2_with fail
              go_round
              case rel => exact ⟨k + 1, by omega, by go_num, hh2⟩
              case measure => (simp [intOf] <;> omega)
          · have t5 : 48 ≤ r := by omega
            have t6 : ¬ r ≤ 57 := by omega
            cases bd with
            | true =>
              have hf := hn.out (.inl rfl)
              replace hf := Lib.hid hf
              go_wp2_with fail
              go_ret
              exact ⟨by rw [hf.out]; rfl, hg⟩
            | false =>
              have hf := hn.out (.inr (hR2.out (by omega)))
              replace hf := Lib.hid hf
              go_wp2_with fail
              go_ret
              exact ⟨by rw [hf.out]; rfl, hg⟩
        · by_cases t5 : 48 ≤ r
          · have t4 : r ≤ 90 := by omega
            by_cases t6 : r ≤ 57
            · cases bd with
              | true =>
                have hf := hn.out (.inl rfl)
                replace hf := Lib.hid hf
                go_wp2_with fail
                go_ret
                exact ⟨by rw [hf.out]; rfl, hg⟩
              | false =>
                have hh2 := hy.out rfl (hR.out (by omega))
                replace hh2 := Lib.hid hh2
                go_wp2_with fail
                go_round
                case rel => exact ⟨k + 1, by omega, by go_num, hh2⟩
                case measure => (simp [intOf] <;> omega)
            · cases bd with
              | true =>
                have hf := hn.out (.inl rfl)
                replace hf := Lib.hid hf
                go_wp2_with fail
                go_ret
                exact ⟨by rw [hf.out]; rfl, hg⟩
              | false =>
                have hf := hn.out (.inr (hR2.out (by omega)))
                replace hf := Lib.hid hf
                go_wp2_with fail
                go_ret
                exact ⟨by rw [hf.out]; rfl, hg⟩
          · cases bd with
            | true =>
              have hf := hn.out (.inl rfl)
              replace hf := Lib.hid hf
              go_wp2_with fail
              go_ret
              exact ⟨by rw [hf.out]; rfl, hg⟩
            | false =>
              have hf := hn.out (.inr (hR2.out (by omega)))
              replace hf := Lib.hid hf
              go_wp2_with fail
              go_ret
              exact ⟨by rw [hf.out]; rfl, hg⟩
    · have hf : nameB s = true := nameB_end (by omega) (by omega) fun j c h => hh.out j c (by have := (List.getElem?_eq_some_iff.1 h).1; omega) h
      replace hf := Lib.hid hf
      clear hsl
      go_wp2_with fail
      go_ret
      exact ⟨by rw [hf.out]; rfl, hg⟩
set_option maxHeartbeats 2000000 in
theorem refKey_any (s : ByteArray) (w : World) (hs : s.size ≤ 1073741824) :
    Calls Tryd.prog 74 #[.string s] w fun e w' => e = .returned (.bool (keyB s)) ∧ G w w' := by
  have hall := all_any s w hs
  have hl : (cks s.data.toList).length ≤ 1073741824 := Nat.le_trans (cks_length_le _) (by simpa using hs)
  go_enter Tryd.func74, Tryd.ntmps74
  go_wp2_with fail
  refine hall.mono ?_
  clear hall
  rintro e w1 ⟨A, c8, rfl, hsl, hg⟩
  replace hsl := Lib.hid hsl
  go_wp2_with fail
  go_loop [4] (fun i => ∃ k : Nat, k ≤ (cks s.data.toList).length ∧ i = .int .i64 k ∧ Hid (∀ j c, j < k → (cks s.data.toList)[j]? = some c → c.bad = false ∧ showB c.r = true)) (fun i => (cks s.data.toList).length - (intOf i).toNat)
  case atStart => exact ⟨0, Nat.zero_le _, rfl, by intro j c h; omega⟩
  case round =>
    obtain ⟨k, hk, rfl, hh⟩ := hrel
    by_cases hlt : k < (cks s.data.toList).length
    · obtain ⟨c, hc⟩ := piece_at hlt
      obtain ⟨b, o, rfl, hb, c0, c1, c2, c3⟩ := hsl.out.ruG (Nat.le_refl _) hc
      replace c0 := c0 _ (G.refl _)
      replace c3 := c3 _ (G.refl _)
      have n1 : (0 : Int) ≤ ↑k := by omega
      have n2 : (k : Int) < ↑(cks s.data.toList).length := by omega
      clear c1 c2 hsl
      have hn : Hid (c.bad = true ∨ showB c.r = false → keyB s = false) := keyB_not hc
      have hy : Hid (c.bad = false → showB c.r = true → ∀ j c', j < k + 1 → (cks s.data.toList)[j]? = some c' → c'.bad = false ∧ showB c'.r = true) := fun h1 h2 => all_more (p := fun c => c.bad = false ∧ showB c.r = true) hh.out hc ⟨h1, h2⟩
      clear hc hh
      generalize c.bad = bd at *
      obtain ⟨cb, r0⟩ := c
      dsimp only at c0 hn hy
      obtain ⟨r, hr⟩ : ∃ r : Int, (r0 : Int) = r := ⟨_, rfl⟩
      rw [hr] at c0 hn hy
      clear hr
      have hS : Hid (showB r = (!(decide (r < 32) || decide (r = 127)))) := rfl
      by_cases h1 : r < 32
      · cases bd with
        | true =>
          have hf := hn.out (.inl rfl)
          replace hf := Lib.hid hf
          go_wp2_with fail
          go_ret
          exact ⟨by rw [hf.out]; rfl, hg⟩
        | false =>
          have hf := hn.out (.inr (by rw [hS.out, decide_eq_true h1]; rfl))
          replace hf := Lib.hid hf
          go_wp2_with fail
          go_ret
          exact ⟨by rw [hf.out]; rfl, hg⟩
      · by_cases h2 : r = 127
        · subst h2
          cases bd with
          | true =>
            have hf := hn.out (.inl rfl)
            replace hf := Lib.hid hf
            go_wp2_with fail
            go_ret
            exact ⟨by rw [hf.out]; rfl, hg⟩
          | false =>
            have hf := hn.out (.inr (rfl))
            replace hf := Lib.hid hf
            go_wp2_with fail
            go_ret
            exact ⟨by rw [hf.out]; rfl, hg⟩
        · have b1 : (r == 127) = false := by rw [beq_eq_false_iff_ne]; exact h2
          replace h2 := Lib.hid h2
          cases bd with
          | true =>
            have hf := hn.out (.inl rfl)
            replace hf := Lib.hid hf
            go_wp2_with fail
            go_ret
            exact ⟨by rw [hf.out]; rfl, hg⟩
          | false =>
            have hh2 := hy.out rfl (by rw [hS.out, decide_eq_false h1, decide_eq_false h2.out]; rfl)
            replace hh2 := Lib.hid hh2
            go_wp2_with fail
            go_round
            case rel => exact ⟨k + 1, by omega, by go_num, hh2⟩
            case measure => (simp [intOf] <;> omega)
    · have hf : keyB s = decide (((cks s.data.toList).length : Int) ≤ 40) := keyB_end fun j c h => hh.out j c (by have := (List.getElem?_eq_some_iff.1 h).1; omega) h
      replace hf := Lib.hid hf
      clear hsl
      go_wp2_with fail
      go_ret
      exact ⟨by rw [hf.out]; rfl, hg⟩
end Go.Proofs.YtheogchkelmeeaaDoor

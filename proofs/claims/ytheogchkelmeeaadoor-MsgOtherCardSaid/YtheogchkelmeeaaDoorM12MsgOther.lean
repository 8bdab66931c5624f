/- Several texts in one: Sound, Ctl. -/
import Derived.Test.YtheogchkelmeeaaDoorBase
import Derived.Test.YtheogchkelmeeaaDoorM5MsgOther
/- stamp.Sound, penstockref7.Sound: the stamps that may be. Conditions: none. -/
namespace Go.Proofs.YtheogchkelmeeaaDoor
open Go.RowKit

/-- A stamp's value. -/
def stV (a b c : Int) : Value := .agg #[.int .i64 a, .int .i64 b, .int .i64 c]
def soundB (a b c : Int) : Bool := decide (0 ≤ a ∧ a ≤ 1125899906842624 ∧ 0 ≤ b ∧ b < 65536 ∧ 0 ≤ c ∧ c ≤ 5)
theorem within_any (n m : Int) (w : World) :
    Calls Tryd.prog 117 #[.int .i64 n, .int .i64 m] w fun e w' => e = .returned (.bool (decide (0 ≤ n ∧ n ≤ m))) ∧ w = w' := by
  go_enter Tryd.func117, Tryd.ntmps117
  by_cases h : 0 ≤ n
  · by_cases h2 : n ≤ m
    · go_wp2_with fail
      go_ret
      exact ⟨by simp [h, h2], rfl⟩
    · go_wp2_with fail
      go_ret
      exact ⟨by simp [h2], rfl⟩
  · go_wp2_with fail
    go_ret
    exact ⟨by rw [show decide (0 ≤ n) = false from decide_eq_false (by omega)]; rfl, rfl⟩
theorem sound_any (a b c : Int) (w : World) :
    Calls Tryd.prog 104 #[stV a b c] w fun e w' => e = .returned (.bool (soundB a b c)) ∧ G w w' := by
  unfold stV
  go_enter Tryd.func104, Tryd.ntmps104
  have h1 := fun w => within_any a 1125899906842624 w
  have h2 := fun w => within_any b 65535 w
  have h3 := fun w => within_any c 5 w
  by_cases d1 : 0 ≤ a ∧ a ≤ 1125899906842624
  · have e1 : decide (0 ≤ a ∧ a ≤ 1125899906842624) = true := decide_eq_true d1
    by_cases d2 : 0 ≤ b ∧ b ≤ 65535
    · have e2 : decide (0 ≤ b ∧ b ≤ 65535) = true := decide_eq_true d2
      simp only [e1] at h1
      simp only [e2] at h2
      go_wp2_with fail
      refine (h1 _).mono ?_
      rintro e w1 ⟨rfl, rfl⟩
      go_wp2_with fail
      refine (h2 _).mono ?_
      rintro e w1 ⟨rfl, rfl⟩
      go_wp2_with fail
      refine (h3 _).mono ?_
      rintro e w1 ⟨rfl, rfl⟩
      go_wp2_with fail
      go_ret
      exact ⟨by rw [show soundB a b c = (decide (0 ≤ c) && decide (c ≤ 5)) by unfold soundB; rw [← Bool.decide_and]; exact decide_eq_decide.2 (by omega)]; rfl, G.alloc (G.refl _) _⟩
    · have e2 : decide (0 ≤ b ∧ b ≤ 65535) = false := decide_eq_false d2
      simp only [e1] at h1
      simp only [e2] at h2
      go_wp2_with fail
      refine (h1 _).mono ?_
      rintro e w1 ⟨rfl, rfl⟩
      go_wp2_with fail
      refine (h2 _).mono ?_
      rintro e w1 ⟨rfl, rfl⟩
      go_wp2_with fail
      go_ret
      exact ⟨by rw [show soundB a b c = false from decide_eq_false (by omega)]; rfl, G.alloc (G.refl _) _⟩
  · have e1 : decide (0 ≤ a ∧ a ≤ 1125899906842624) = false := decide_eq_false d1
    simp only [e1] at h1
    go_wp2_with fail
    refine (h1 _).mono ?_
    rintro e w1 ⟨rfl, rfl⟩
    go_wp2_with fail
    go_ret
    exact ⟨by rw [show soundB a b c = false from decide_eq_false (by omega)]; rfl, G.alloc (G.refl _) _⟩
theorem refSound_any (a b c : Int) (w : World) :
    Calls Tryd.prog 51 #[stV a b c] w fun e w' => e = .returned (.bool (soundB a b c)) ∧ G w w' := by
  unfold stV
  go_enter Tryd.func51, Tryd.ntmps51
  by_cases d0 : (0 : Int) ≤ a
  case neg =>
    have e0 : decide ((0 : Int) ≤ a) = false := decide_eq_false d0
    go_wp2_with fail
    go_ret
    exact ⟨by rw [show soundB a b c = false from decide_eq_false (by omega)]; rfl, G.alloc (G.refl _) _⟩
  by_cases d1 : a ≤ 1125899906842624
  case neg =>
    have e1 : decide (a ≤ 1125899906842624) = false := decide_eq_false d1
    go_wp2_with fail
    go_ret
    exact ⟨by rw [show soundB a b c = false from decide_eq_false (by omega)]; rfl, G.alloc (G.refl _) _⟩
  by_cases d2 : (0 : Int) ≤ b
  case neg =>
    have e2 : decide ((0 : Int) ≤ b) = false := decide_eq_false d2
    go_wp2_with fail
    go_ret
    exact ⟨by rw [show soundB a b c = false from decide_eq_false (by omega)]; rfl, G.alloc (G.refl _) _⟩
  by_cases d3 : b < 65536
  case neg =>
    have e3 : decide (b < 65536) = false := decide_eq_false d3
    go_wp2_with fail
    go_ret
    exact ⟨by rw [show soundB a b c = false from decide_eq_false (by omega)]; rfl, G.alloc (G.refl _) _⟩
  by_cases d4 : (0 : Int) ≤ c
  case neg =>
    have e4 : decide ((0 : Int) ≤ c) = false := decide_eq_false d4
    go_wp2_with fail
    go_ret
    exact ⟨by rw [show soundB a b c = false from decide_eq_false (by omega)]; rfl, G.alloc (G.refl _) _⟩
  by_cases d5 : c ≤ 5
  case neg =>
    have e5 : decide (c ≤ 5) = false := decide_eq_false d5
    go_wp2_with fail
    go_ret
    exact ⟨by rw [show soundB a b c = false from decide_eq_false (by omega)]; rfl, G.alloc (G.refl _) _⟩
  go_wp2_with fail
  go_ret
  exact ⟨by rw [show soundB a b c = true from decide_eq_true (by omega)]; rfl, G.alloc (G.refl _) _⟩
end Go.Proofs.YtheogchkelmeeaaDoor
/- runes.control: what it answers. No condition. -/
namespace Go.Proofs.YtheogchkelmeeaaDoor
open Go.RowKit Go.Lib

/-- A rune that is not shown. -/
def ctl (r : Int) : Bool := decide (r < 32) || decide (r = 127)
set_option maxHeartbeats 400000 in
theorem control_any (r : Int) (w : World) : Calls Tryd.prog 127 #[.int .i32 r] w fun e w' => e = .returned (.bool (ctl r)) ∧ w = w' := by
  by_cases h1 : r < 32
  · go_enter Tryd.func127, Tryd.ntmps127
    go_wp2
    go_ret
    exact ⟨ret_bool (by simp [ctl, h1]), rfl⟩
  · by_cases h2 : r = 127
    · subst h2
      go_enter Tryd.func127, Tryd.ntmps127
      go_wp2
      go_ret
      exact ⟨rfl, rfl⟩
    · have h3 : (r == 127) = false := by rw [beq_eq_false_iff_ne]; exact h2
      replace h2 := Lib.hid h2
      go_enter Tryd.func127, Tryd.ntmps127
      go_wp2
      go_ret
      exact ⟨ret_bool (by simp [ctl, h1, h2.out]), rfl⟩
end Go.Proofs.YtheogchkelmeeaaDoor

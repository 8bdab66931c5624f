/- The first events of what a predicate tells: one list alone. Plain Lean. No condition. -/
import Derived.Test.YtnenabacbhepdaaMerge
namespace Go.Proofs.Ytnenabacbhepdaa

/-- The beginning of what F tells, in order. -/
def Ini (F : Ev → Prop) (a : List Ev) : Prop := a.Pairwise (fun a b => fl a b = true) ∧ (∀ o ∈ a, F o) ∧ ∀ y, F y → y ∈ a ∨ ∀ o ∈ a, fl o y = true
theorem IsFirst.ini {F : Ev → Prop} {max : Int} {a : List Ev} (h : IsFirst F max a) : Ini F a := ⟨h.1, h.2.1, h.2.2.1⟩
theorem Ini.tail {F : Ev → Prop} {x : Ev} {a : List Ev} (h : Ini F (x :: a)) : Ini (fun z => F z ∧ z ≠ x) a := by
  obtain ⟨h1, h2, h3⟩ := h
  rw [List.pairwise_cons] at h1
  refine ⟨h1.2, fun o ho => ⟨h2 o (by simp [ho]), ?_⟩, fun y hy => ?_⟩
  · rintro rfl
    have := h1.1 o ho
    rw [SO.fl.irr] at this; cases this
  · rcases h3 y hy.1 with h | h
    · rcases List.mem_cons.1 h with h | h
      · exact absurd h hy.2
      · exact .inl h
    · exact .inr fun o ho => h o (by simp [ho])
/-- No element is less than the first one. -/
theorem Ini.head {F : Ev → Prop} {x : Ev} {a : List Ev} (h : Ini F (x :: a)) {y : Ev} (hy : F y) : fl y x = false := by
  obtain ⟨h1, _, h3⟩ := h
  rw [List.pairwise_cons] at h1
  rcases h3 y hy with h | h
  · rcases List.mem_cons.1 h with rfl | h
    · exact SO.fl.irr _
    · exact SO.fl.asymm (h1.1 y h)
  · exact SO.fl.asymm (h x (by simp))
/-- Of two beginnings the shorter one is the other one's beginning. -/
theorem Ini.prefix {a : List Ev} : ∀ {F : Ev → Prop} {b : List Ev}, Ini F a → Ini F b → a.length ≤ b.length → a <+: b := by
  induction a with
  | nil => intro F b _ _ _; exact List.nil_prefix
  | cons x a ih =>
    intro F b ha hb hl
    rcases b with _ | ⟨y, b⟩
    · simp at hl
    · have e : x = y := by
        have h1 := ha.head (hb.2.1 y (by simp))
        have h2 := hb.head (ha.2.1 x (by simp))
        rcases SO.fl.tri x y with h | h | h
        · rw [h2] at h; cases h
        · exact h
        · rw [h1] at h; cases h
      subst e
      rw [List.cons_prefix_cons]
      exact ⟨rfl, ih ha.tail hb.tail (by simpa using hl)⟩
theorem IsFirst.iff {F G : Ev → Prop} {max : Int} {a : List Ev} (h : IsFirst F max a) (hFG : ∀ y, F y ↔ G y) : IsFirst G max a := by
  have : F = G := funext fun y => propext (hFG y)
  rwa [this] at h
theorem pairwise_sub {a b : List Ev} (ha : a.Pairwise (fun a b => fl a b = true)) (hb : b.Pairwise (fun a b => fl a b = true)) (h : ∀ x ∈ a, x ∈ b) : a.length ≤ b.length := by
  induction a generalizing b with
  | nil => simp
  | cons x a ih =>
    rw [List.pairwise_cons] at ha
    have hx := h x (by simp)
    obtain ⟨p, q, rfl⟩ := List.append_of_mem hx
    have hb2 : (p ++ q).Pairwise (fun a b => fl a b = true) := by
      refine hb.sublist ?_
      simp
    have := ih ha.2 hb2 (fun y hy => by
      have h1 := h y (by simp [hy])
      rcases List.mem_append.1 h1 with h2 | h2
      · exact List.mem_append.2 (.inl h2)
      · rcases List.mem_cons.1 h2 with rfl | h2
        · have := ha.1 y hy; rw [SO.fl.irr] at this; cases this
        · exact List.mem_append.2 (.inr h2))
    simp at this ⊢
    omega
theorem IsFirst.le {F : Ev → Prop} {max : Int} {a b : List Ev} (ha : IsFirst F max a) (hb : IsFirst F max b) : a.length ≤ b.length := by
  rcases Nat.lt_or_ge b.length a.length with h | h
  · have hlt : (b.length : Int) < max := by
      rcases ha.2.2.2.1 with h1 | h1
      · omega
      · subst h1; simp at h
    exact pairwise_sub ha.1 hb.1 fun x hx => hb.2.2.2.2 hlt x (ha.2.1 x hx)
  · exact h
/-- What is told is one list alone. -/
theorem IsFirst.unique {F : Ev → Prop} {max : Int} {a b : List Ev} (ha : IsFirst F max a) (hb : IsFirst F max b) : a = b :=
  (ha.ini.prefix hb.ini (ha.le hb)).eq_of_length (Nat.le_antisymm (ha.le hb) (hb.le ha))
end Go.Proofs.Ytnenabacbhepdaa

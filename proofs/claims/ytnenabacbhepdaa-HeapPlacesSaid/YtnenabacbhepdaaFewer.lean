/- What is one sequence is so of any fewer lists and of first parts: lists of events alone, no program. No condition. -/
import Derived.Test.YtnenabacbhepdaaSmall
namespace Go.Proofs.Ytnenabacbhepdaa

theorem prefB_iff (es fs : List Ev) : prefB es fs = true ↔ es <+: fs := by
  unfold prefB
  rw [decide_eq_true_iff]
  constructor
  · intro h; rw [h]; exact List.take_prefix _ _
  · intro h; exact (List.prefix_iff_eq_take.1 h)
theorem longer_le (a b : LogM) : a.es.length ≤ (longer a b).es.length ∧ b.es.length ≤ (longer a b).es.length := by
  unfold longer
  split <;> omega
theorem longOf_max (ls : List LogM) : ∀ l ∈ ls, l.es.length ≤ (longOf ls).es.length := by
  unfold longOf
  suffices h : ∀ (ls : List LogM) (a : LogM), a.es.length ≤ (ls.foldl longer a).es.length ∧ ∀ l ∈ ls, l.es.length ≤ (ls.foldl longer a).es.length from (h ls _).2
  intro ls
  induction ls with
  | nil => intro a; simp
  | cons x l ih =>
    intro a
    rw [List.foldl_cons]
    obtain ⟨h1, h2⟩ := ih (longer a x)
    have h3 := longer_le a x
    refine ⟨by omega, fun y hy => ?_⟩
    rcases List.mem_cons.1 hy with rfl | hy
    · omega
    · exact h2 y hy
theorem sortedB_prefix {es fs : List Ev} (h : es <+: fs) (hs : sortedB fs = true) : sortedB es = true := by
  rw [sortedB_iff] at hs ⊢
  intro j a b ha hb
  obtain ⟨t, rfl⟩ := h
  have h1 := (List.getElem?_eq_some_iff.1 ha).1
  have h2 := (List.getElem?_eq_some_iff.1 hb).1
  exact hs j a b (by rw [List.getElem?_append_left h1]; exact ha) (by rw [List.getElem?_append_left h2]; exact hb)
theorem longOf_pre {ls : List LogM} {x : List Ev} (h : ∀ l ∈ ls, l.es <+: x) : (longOf ls).es <+: x := by
  rcases longOf_mem ls with h1 | h1
  · rw [h1]; exact List.nil_prefix
  · exact h _ h1
theorem one_of_pre {ls : List LogM} {x : List Ev} (h : ∀ l ∈ ls, l.es <+: x) (hs : sortedB x = true) : (allPre ls (longOf ls).es && sortedB (longOf ls).es) = true := by
  have hy := longOf_pre h
  rw [sortedB_prefix hy hs, Bool.and_true]
  unfold allPre
  rw [List.all_eq_true]
  intro l hl
  rw [prefB_iff]
  exact List.prefix_of_prefix_length_le (h l hl) hy (longOf_max ls l hl)
end Go.Proofs.Ytnenabacbhepdaa

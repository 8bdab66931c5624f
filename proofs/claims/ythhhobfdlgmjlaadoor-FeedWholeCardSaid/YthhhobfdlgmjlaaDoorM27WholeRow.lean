/- Several texts in one: MergeLaw, EvBulk. -/
import Derived.Test.YthhhobfdlgmjlaaDoorMergeQWholeRow
import Derived.Test.YthhhobfdlgmjlaaDoorM2WholeRow
import Derived.Test.YthhhobfdlgmjlaaDoorM3WholeRow
/- The first events of what a predicate tells: one list alone. Plain Lean. No condition. -/
namespace Go.Proofs.YthhhobfdlgmjlaaDoor

/-- The beginning of what F tells, in order. -/
def Ini (F : Ev → Prop) (a : List Ev) : Prop := a.Pairwise (fun a b => fl a b = true) ∧ (∀ o ∈ a, F o) ∧ ∀ y, F y → y ∈ a ∨ ∀ o ∈ a, fl o y = true
theorem IsFirst.ini {F : Ev → Prop} {max : Int} {a : List Ev} (h : IsFirst F max a) : Ini F a := ⟨h.1, h.2.1, h.2.2.1⟩
theorem Ini.tail {F : Ev → Prop} {x : Ev} {a : List Ev} (h : Ini F (x :: a)) : Ini (fun z => F z ∧ z ≠ x) a := by
  obtain ⟨h1, h2, h3⟩ := h
  rw [List.pairwise_cons] at h1
  refine ⟨h1.2, fun o ho => ⟨h2 o (by simp [ho]), ?_⟩, fun y hy => ?_⟩
  · rintro rfl
    have := h1.1 o ho
    rw [SO.fl.irr] at this; cases this
  · rcases h3 y hy.1 with h | h
    · rcases List.mem_cons.1 h with h | h
      · exact absurd h hy.2
      · exact .inl h
    · exact .inr fun o ho => h o (by simp [ho])
/-- No element is less than the first one. -/
theorem Ini.head {F : Ev → Prop} {x : Ev} {a : List Ev} (h : Ini F (x :: a)) {y : Ev} (hy : F y) : fl y x = false := by
  obtain ⟨h1, _, h3⟩ := h
  rw [List.pairwise_cons] at h1
  rcases h3 y hy with h | h
  · rcases List.mem_cons.1 h with rfl | h
    · exact SO.fl.irr _
    · exact SO.fl.asymm (h1.1 y h)
  · exact SO.fl.asymm (h x (by simp))
/-- Of two beginnings the shorter one is the other one's beginning. -/
theorem Ini.prefix {a : List Ev} : ∀ {F : Ev → Prop} {b : List Ev}, Ini F a → Ini F b → a.length ≤ b.length → a <+: b := by
  induction a with
  | nil => intro F b _ _ _; exact List.nil_prefix
  | cons x a ih =>
    intro F b ha hb hl
    rcases b with _ | ⟨y, b⟩
    · simp at hl
    · have e : x = y := by
        have h1 := ha.head (hb.2.1 y (by simp))
        have h2 := hb.head (ha.2.1 x (by simp))
        rcases SO.fl.tri x y with h | h | h
        · rw [h2] at h; cases h
        · exact h
        · rw [h1] at h; cases h
      subst e
      rw [List.cons_prefix_cons]
      exact ⟨rfl, ih ha.tail hb.tail (by simpa using hl)⟩
theorem IsFirst.iff {F G : Ev → Prop} {max : Int} {a : List Ev} (h : IsFirst F max a) (hFG : ∀ y, F y ↔ G y) : IsFirst G max a := by
  have : F = G := funext fun y => propext (hFG y)
  rwa [this] at h
theorem pairwise_sub {a b : List Ev} (ha : a.Pairwise (fun a b => fl a b = true)) (hb : b.Pairwise (fun a b => fl a b = true)) (h : ∀ x ∈ a, x ∈ b) : a.length ≤ b.length := by
  induction a generalizing b with
  | nil => simp
  | cons x a ih =>
    rw [List.pairwise_cons] at ha
    have hx := h x (by simp)
    obtain ⟨p, q, rfl⟩ := List.append_of_mem hx
    have hb2 : (p ++ q).Pairwise (fun a b => fl a b = true) := by
      refine hb.sublist ?_
      simp
    have := ih ha.2 hb2 (fun y hy => by
      have h1 := h y (by simp [hy])
      rcases List.mem_append.1 h1 with h2 | h2
      · exact List.mem_append.2 (.inl h2)
      · rcases List.mem_cons.1 h2 with rfl | h2
        · have := ha.1 y hy; rw [SO.fl.irr] at this; cases this
        · exact List.mem_append.2 (.inr h2))
    simp at this ⊢
    omega
theorem IsFirst.le {F : Ev → Prop} {max : Int} {a b : List Ev} (ha : IsFirst F max a) (hb : IsFirst F max b) : a.length ≤ b.length := by
  rcases Nat.lt_or_ge b.length a.length with h | h
  · have hlt : (b.length : Int) < max := by
      rcases ha.2.2.2.1 with h1 | h1
      · omega
      · subst h1; simp at h
    exact pairwise_sub ha.1 hb.1 fun x hx => hb.2.2.2.2 hlt x (ha.2.1 x hx)
  · exact h
/-- What is told is one list alone. -/
theorem IsFirst.unique {F : Ev → Prop} {max : Int} {a b : List Ev} (ha : IsFirst F max a) (hb : IsFirst F max b) : a = b :=
  (ha.ini.prefix hb.ini (ha.le hb)).eq_of_length (Nat.le_antisymm (ha.le hb) (hb.le ha))
end Go.Proofs.YthhhobfdlgmjlaaDoor
/- penstockalike.Events: what it answers. Condition: lengths fit an int. -/
namespace Go.Proofs.YthhhobfdlgmjlaaDoor
open Go.RowKit

/-- Events' loop. -/
def evBulkTo (top : Int) (n : Int) : List Ev → Int
  | [] => n
  | e :: l => if n ≤ top then evBulkTo top (sumTo n [(e.stream.size : Int), (e.data.size : Int)]) l else n
def evBulk (top : Int) (es : List Ev) : Int := evBulkTo top (sumTo 0 [(es.length : Int)]) es
theorem evBulkTo_drop (top n : Int) (xs : List Ev) (k : Nat) (x : Ev) (h : xs[k]? = some x) :
    evBulkTo top n (xs.drop k) = if n ≤ top then evBulkTo top (sumTo n [(x.stream.size : Int), (x.data.size : Int)]) (xs.drop (k + 1)) else n := by
  obtain ⟨hk, rfl⟩ := List.getElem?_eq_some_iff.1 h
  rw [List.drop_eq_getElem_cons hk]
  rfl
theorem evBulkTo_le (top n : Int) (h0 : 0 ≤ n) (h : n ≤ 1099511627776) : ∀ l : List Ev, 0 ≤ evBulkTo top n l ∧ evBulkTo top n l ≤ 1099511627776 := by
  intro l
  induction l generalizing n with
  | nil => exact ⟨h0, h⟩
  | cons m l ih =>
    have h3 := sumTo_le2 n m.stream.size m.data.size h0 h (by omega) (by omega)
    simp only [evBulkTo]
    split
    · exact ih _ h3.1 h3.2
    · omega
theorem evBulk_le (top : Int) (es : List Ev) : 0 ≤ evBulk top es ∧ evBulk top es ≤ 1099511627776 := by
  have h := sumTo_le1 0 es.length (by omega) (by omega) (by omega)
  exact evBulkTo_le top _ h.1 h.2 _
def EvsOk (es : List Ev) : Prop := ∀ e ∈ es, e.stream.size ≤ 9223372036854775807 ∧ e.data.size ≤ 9223372036854775807

set_option maxHeartbeats 1000000 in
theorem events_any (top : Int) (es : List Ev) (A : Option Addr) (c B : Nat) (w : World) (hB : B ≤ w.heap.size) (hl : es.length ≤ 9223372036854775807) (hx : EvsOk es)
    (hs : Sl Ev.cells 7 w B A es) :
    Calls Tryd.prog 8 #[.slice A es.length c, .int .i64 top] w fun e w' => e = .returned (.int .i64 (evBulk top es)) ∧ G w w' := by
  have HX := Lib.hid hx
  clear hx
  unfold evBulk
  go_enter Tryd.func8, Tryd.ntmps8
  go_wp2_with fail
  refine (sum_1 0 es.length _ _ (by omega) (by omega) (by omega) (by omega) (by simp)).mono ?_
  rintro e w1 ⟨rfl, rfl⟩
  have hq := sumTo_le1 0 es.length (by omega) (by omega) (by omega)
  generalize hn0 : sumTo 0 [(es.length : Int)] = n0 at *
  have HN := Lib.hid hn0
  clear hn0
  go_wp2_with fail
  go_loopw [5, 6] (fun t i wr => ∃ (k : Nat) (m : Int), k ≤ es.length ∧ i = .int .i64 k ∧ t = .int .i64 m ∧ 0 ≤ m ∧ m ≤ 1099511627776 ∧ Hid (evBulkTo top n0 es = evBulkTo top m (es.drop k)) ∧ G w wr) (fun _ i _ => es.length - (intOf i).toNat)
  case atStart => exact ⟨0, n0, Nat.zero_le _, rfl, rfl, hq.1, hq.2, by simp [Hid], G.new _ _⟩
  case round =>
    obtain ⟨k, m, hk, rfl, rfl, hm0, hm1, hh, hg⟩ := hrel
    by_cases hlt : k < es.length
    · obtain ⟨x, hx1⟩ : ∃ x, es[k]? = some x := ⟨_, List.getElem?_eq_getElem hlt⟩
      have hsd := Lib.hid (evBulkTo_drop top m es k x hx1)
      obtain ⟨hz0, hz2⟩ := HX.out x (List.mem_of_getElem? hx1)
      obtain ⟨xs, xv, xd, xt, xi⟩ := x
      obtain ⟨b, o, rfl, hb, c0, _, c2, _⟩ := hs.evG hB hx1
      replace hx1 := Lib.hid hx1
      clear hs
      dsimp only at hz0 hz2 c0 c2 hsd
      by_cases htop : m ≤ top
      · go_wp2_with fail
        go_region_held3 (fun w' => G w w') (first | exact hg.drew | exact G.alloc (by assumption) _ | assumption | fail) (first | (go_at_call 25; refine (sum_2 m xs.size xd.size _ _ (by omega) (by omega) (by omega) (by omega) (by omega) (by omega) (by simp) (by simp)).mono ?_; rintro e w2 ⟨rfl, rfl⟩))
        go_wp2_with fail
        go_roundw
        case rel =>
          have hq2 := sumTo_le2 m xs.size xd.size (by omega) (by omega) (by omega) (by omega)
          exact ⟨k + 1, _, by omega, by go_num, rfl, hq2.1, hq2.2, by unfold Hid; rw [hh.out, hsd.out, if_pos (by omega)], by assumption⟩
        case measure => simp [intOf]; omega
      · go_wp2_with fail
        go_ret
        exact ⟨ret_int (by rw [HN.out, hh.out, hsd.out, if_neg (by omega)]), hg⟩
    · go_wp2_with fail
      go_ret
      exact ⟨ret_int (by rw [HN.out, hh.out, List.drop_eq_nil_of_le (by omega)]; rfl), hg⟩
end Go.Proofs.YthhhobfdlgmjlaaDoor

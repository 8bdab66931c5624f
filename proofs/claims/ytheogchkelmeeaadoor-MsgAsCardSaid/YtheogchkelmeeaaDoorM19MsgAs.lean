/- Several texts in one: MsgMany, OwnSet, AllLaw. -/
import Derived.Test.YtheogchkelmeeaaDoorMsgWrQMsgAs
import Derived.Test.YtheogchkelmeeaaDoorM5MsgAs
import Derived.Test.YtheogchkelmeeaaDoorM2MsgAs
/- msg.writer.many. Conditions: lengths that an append bears. -/
namespace Go.Proofs.YtheogchkelmeeaaDoor
open Go.RowKit

set_option maxRecDepth 100000 in
set_option maxHeartbeats 1000000 in
theorem mMany_any (R base n k : Nat) (st : Option (List UInt8)) (w : World) (hw : WrS 98 R base n st w) (hR : base ≤ R) (hn : n + 10 ≤ 1099511627776) (hk : k ≤ 9223372036854775807) :
    Calls Tryd.prog 91 #[.pointer (some ⟨R, 0, none⟩), .int .i64 k] w (WrPost 98 R base (n + 10) (addMany 1099511627776 k st) w) := by
  have hc1 := hw.c1
  have hfr := hw.free 1
  have hRw := hw.lt
  obtain ⟨s1, hs1⟩ : ∃ s1, (if k ≤ 1000 then st else none) = s1 := ⟨_, rfl⟩
  have hfin : addMany 1099511627776 k st = addNs 1099511627776 [(k : Int)] s1 := by
    rw [← hs1]
    unfold addMany
    cases st with
    | none => split <;> rfl
    | some l => by_cases h : k ≤ 1000 <;> simp [h, addNs]
  obtain ⟨bb, hbb⟩ : ∃ bb, s1.isNone = bb := ⟨_, rfl⟩
  have hcond : (st.isNone = true ∧ bb = true) ∨ (st.isNone = false ∧ decide ((1000 : Int) < (k : Int)) = bb) := by
    cases st with
    | none => exact .inl ⟨rfl, by rw [← hbb, ← hs1]; split <;> rfl⟩
    | some m =>
      refine .inr ⟨rfl, ?_⟩
      rw [← hbb, ← hs1]
      by_cases h : k ≤ 1000
      · rw [if_pos h]; exact decide_eq_false (by omega)
      · rw [if_neg h]; exact decide_eq_true (by omega)
  have hws : WrS 98 R base n s1 (w.setCell ⟨R, 1, none⟩ (.bool bb)) := by
    rw [← hbb, ← hs1]
    split
    · exact hw.stay mwT
    · exact hw.turn mwT
  have hk1 := Kw.set (w := w) hR 1 (.bool bb)
  have hz := hws.lt
  have hse : (w.setCell ⟨R, 1, none⟩ (.bool bb)).heap.size = w.heap.size := by simp
  have hg1 := G.new (w.setCell ⟨R, 1, none⟩ (.bool bb)) (.cells #[.int .i64 k] 3)
  have hN := blk_new (w.setCell ⟨R, 1, none⟩ (.bool bb)) #[.int .i64 k] 3
  rw [hse] at hN hz
  have hnums : Calls Tryd.prog 61 #[.pointer (some ⟨R, 0, none⟩), .slice (some ⟨w.heap.size, 0, none⟩) 1 1] ((w.setCell ⟨R, 1, none⟩ (.bool bb)).alloc (.cells #[.int .i64 k] 3)) (WrPost 98 R base (n + 10) (addNs 1099511627776 [(k : Int)] s1) ((w.setCell ⟨R, 1, none⟩ (.bool bb)).alloc (.cells #[.int .i64 k] 3))) := mNums_any R base n s1 [(k : Int)] (some ⟨w.heap.size, 0, none⟩) 1 _ _ (hws.g hg1) hR (by simp; omega) (by simp; omega) (mkInts (base := base) (ns := [(k : Int)]) (by decide : 3 ≠ 5) hN (by omega))
  have hkg := hk1.trans (Kw.of_g (base := base) hg1 (by rw [hse]; omega))
  rw [hfin]
  clear hse
  replace hfin := Lib.hid hfin
  replace hnums := Lib.hid hnums
  replace hkg := Lib.hid hkg
  replace hs1 := Lib.hid hs1
  replace hbb := Lib.hid hbb
  replace hws := Lib.hid hws
  replace hw := Lib.hid hw
  clear hN hg1
  rcases hcond with ⟨hb1, rfl⟩ | ⟨hb1, hb2⟩
  all_goals
    rw [hb1] at hc1
    clear hb1
    go_enter Tryd.func91, Tryd.ntmps91
    go_wp2_with (go_at_call 61; refine Calls.mono hnums.out ?_; rintro e w3 ⟨rfl, hw3, hk3⟩; have hk3' := Lib.hid (hkg.out.trans hk3); replace hw3 := Lib.hid hw3; clear hk3)
    go_end0
    exact ⟨rfl, hw3.out, hk3'.out⟩
end Go.Proofs.YtheogchkelmeeaaDoor
/- A store into a row of the call's own. No condition. -/
namespace Go.Proofs.YtheogchkelmeeaaDoor
open Go.RowKit

section
variable {α : Type} {e : TypeId} {sz : Nat} {f : α → List Value} {w w' : World} {base : Nat} {xs : List α}
theorem flat_set (hf : ∀ x, (f x).length = sz) {j : Nat} (hj : j < sz) {u : Value} {y : α} : ∀ (xs : List α) (k : Nat) (x : α), xs[k]? = some x → f y = (f x).set j u → (xs.flatMap f).set (k * sz + j) u = (xs.set k y).flatMap f
  | [], k, x, h, _ => by simp at h
  | a :: xs, 0, x, h, hy => by
    simp only [List.getElem?_cons_zero, Option.some.injEq] at h
    subst h
    rw [List.set_cons_zero, List.flatMap_cons, List.flatMap_cons, hy, Nat.zero_mul, Nat.zero_add, List.set_append_left _ _ (by rw [hf]; exact hj)]
  | a :: xs, k + 1, x, h, hy => by
    rw [List.getElem?_cons_succ] at h
    have hm : (k + 1) * sz + j = sz + (k * sz + j) := by rw [Nat.succ_mul]; omega
    rw [List.set_cons_succ, List.flatMap_cons, List.flatMap_cons, List.set_append_right _ _ (by rw [hf, hm]; omega), hf, hm, Nat.add_sub_cancel_left, flat_set hf hj xs k x h hy]
theorem OwnL.put (hf : ∀ x, (f x).length = sz) {g c : Nat} (h : OwnL e sz f w base (.slice (some ⟨g, 0, none⟩) xs.length c) xs) {k j : Nat} {x y : α} {u : Value} (hx : xs[k]? = some x) (hj : j < sz) (hy : f y = (f x).set j u) :
    OwnL e sz f (w.setCell ⟨g, k * sz + j, none⟩ u) base (.slice (some ⟨g, 0, none⟩) xs.length c) (xs.set k y) := by
  have hl : (xs.set k y).length = xs.length := by simp
  have hfs := flat_set hf hj xs k x hx hy
  refine ⟨by rw [flat_length hf], ?_⟩
  rcases h.2 with ⟨h1, _⟩ | ⟨b, cap, cur, hv, hb, hh, hn, hc, hsz, hr⟩
  · cases h1
  · cases hv
    have e1 : (w.setCell ⟨g, k * sz + j, none⟩ u).heap[g]? = some (.cells (cur.setIfInBounds (k * sz + j) u) e (0, 0)) := by
      rw [setCell_eq_setRow w g (k * sz + j) cur e (0, 0) u hh]
      exact setRow_heap w g cur _ e _ hh
    refine .inr ⟨g, c, _, by rw [hl], hb, e1, by rw [hl]; exact hn, hc, by simpa using hsz, ?_⟩
    rw [Array.toList_setIfInBounds, hl, List.take_set, hr, hfs]
end
end Go.Proofs.YtheogchkelmeeaaDoor
/- What penstockref1.All lists: the runes of a text. No condition. -/
namespace Go.Proofs.YtheogchkelmeeaaDoor
open Go.RowKit

/-- One of a text's runes. -/
structure Ru where
  r : Nat
  beg : Nat
  en : Nat
  no : Bool
def Ru.cells (x : Ru) : List Value := [.int .i32 x.r, .int .i64 x.beg, .int .i64 x.en, .bool x.no]
theorem Ru.cells_len (x : Ru) : x.cells.length = 4 := rfl
theorem ru_elem : IsElem Tryd.prog 156 159 4 32 Ru.cells :=
  isElem_of (z := .agg #[.int .i32 0, .int .i64 0, .int .i64 0, .bool false]) Tryd.underlying156 (by kernel_rfl) rfl (by omega) (fun _ => rfl) (fun x u hu => by
    simp only [Ru.cells, List.mem_cons, List.not_mem_nil, or_false] at hu
    rcases hu with rfl | rfl | rfl | rfl <;> rfl)
def rAt (l : List UInt8) (i : Nat) : Nat := ((cks l)[i]?.map Ck.r).getD 0
def badAt (l : List UInt8) (i : Nat) : Bool := ((cks l)[i]?.map Ck.bad).getD false
theorem rAt_eq {l : List UInt8} {k : Nat} {c : Ck} (h : (cks l)[k]? = some c) : rAt l k = c.r := by simp [rAt, h]
theorem badAt_eq {l : List UInt8} {k : Nat} {c : Ck} (h : (cks l)[k]? = some c) : badAt l k = c.bad := by simp [badAt, h]
/-- The runes ahead of the k-th, whose ends are known. -/
def baseL (l : List UInt8) (k : Nat) : List Ru := (List.range k).map fun i => ⟨rAt l i, off l i, off l (i + 1), false⟩
/-- All's list behind k runes. -/
def preL (l : List UInt8) : Nat → List Ru
  | 0 => []
  | k + 1 => baseL l k ++ [⟨rAt l k, off l k, l.length, false⟩]
/-- All's list, with j runes told whether they begin nothing. -/
def allL (l : List UInt8) (j : Nat) : List Ru := (List.range (cks l).length).map fun i => ⟨rAt l i, off l i, off l (i + 1), if i < j then badAt l i else false⟩
theorem baseL_len (l : List UInt8) (k : Nat) : (baseL l k).length = k := by simp [baseL]
theorem preL_len (l : List UInt8) : ∀ k, (preL l k).length = k
  | 0 => rfl
  | k + 1 => by rw [preL, List.length_append, baseL_len]; rfl
theorem allL_len (l : List UInt8) (j : Nat) : (allL l j).length = (cks l).length := by simp [allL]
theorem baseL_succ (l : List UInt8) (k : Nat) : baseL l (k + 1) = baseL l k ++ [⟨rAt l k, off l k, off l (k + 1), false⟩] := by
  unfold baseL
  rw [List.range_succ, List.map_append]
  rfl
theorem preL_last (l : List UInt8) (k : Nat) : (preL l (k + 1))[k]? = some ⟨rAt l k, off l k, l.length, false⟩ := by
  rw [preL, List.getElem?_append_right (by rw [baseL_len]; omega), baseL_len, Nat.sub_self]
  rfl
theorem preL_put (l : List UInt8) (k : Nat) : (preL l (k + 1)).set k ⟨rAt l k, off l k, off l (k + 1), false⟩ ++ [⟨rAt l (k + 1), off l (k + 1), l.length, false⟩] = preL l (k + 2) := by
  rw [preL, preL, baseL_succ, List.set_append_right _ _ (by rw [baseL_len]; omega), baseL_len, Nat.sub_self]
  rfl
theorem preL_all (l : List UInt8) : preL l (cks l).length = allL l 0 := by
  have h0 : allL l 0 = baseL l (cks l).length := by
    unfold allL baseL
    refine List.map_congr_left fun i _ => ?_
    rw [if_neg (by omega)]
  rw [h0]
  rcases hn : (cks l).length with _ | n
  · rfl
  · rw [preL, baseL_succ, ← hn, off_end]
theorem allL_get (l : List UInt8) (j i : Nat) (h : i < (cks l).length) : (allL l j)[i]? = some ⟨rAt l i, off l i, off l (i + 1), if i < j then badAt l i else false⟩ := by
  unfold allL
  rw [List.getElem?_map, List.getElem?_range h]
  rfl
theorem allL_put (l : List UInt8) (j : Nat) (h : j < (cks l).length) : (allL l j).set j ⟨rAt l j, off l j, off l (j + 1), badAt l j⟩ = allL l (j + 1) := by
  refine List.ext_getElem? fun i => ?_
  rw [List.getElem?_set, allL_len]
  by_cases hi : j = i
  · subst hi
    rw [if_pos rfl, if_pos h, allL_get _ _ _ h, if_pos (by omega)]
  · rw [if_neg hi]
    rcases Nat.lt_or_ge i (cks l).length with h1 | h1
    · rw [allL_get _ _ _ h1, allL_get _ _ _ h1]
      by_cases h2 : i < j
      · rw [if_pos h2, if_pos (by omega)]
      · rw [if_neg h2, if_neg (by omega)]
    · rw [List.getElem?_eq_none (by rw [allL_len]; exact h1), List.getElem?_eq_none (by rw [allL_len]; exact h1)]
end Go.Proofs.YtheogchkelmeeaaDoor

/- penstocklaw18's own: small, awake, one. Conditions: lengths fit an int. -/
import Derived.Test.YtnenabacbhepdaaMergeLaw
import Derived.Test.YtnenabacbhepdaaSmall
namespace Go.Proofs.Ytnenabacbhepdaa
open Go.RowKit

set_option maxHeartbeats 1000000 in
theorem small18_any (ls : List LogM) (A : Option Addr) (c B : Nat) (w : World) (hB : B ≤ w.heap.size) (hl : ls.length ≤ 9223372036854775807) (hx : ∀ l ∈ ls, EvsOk l.es) (hs : LogsIn w B A ls) :
    Calls Try.prog 23 #[.slice A ls.length c] w fun e w' => e = .returned (.bool (smallB 150 10 ls)) ∧ G w w' := by
  have HX := Lib.hid hx
  clear hx
  unfold smallB
  go_enter Try.func23, Try.ntmps23
  go_wp2_with fail
  go_loopw [3, 4, 5] (fun t u i wr => ∃ (j : Nat) (n k : Int), j ≤ ls.length ∧ i = .int .i64 j ∧ t = .int .i64 n ∧ u = .int .i64 k ∧ 0 ≤ n ∧ n ≤ 10000 ∧ 0 ≤ k ∧ k ≤ 150 ∧ Hid (smallTo 150 0 0 ls = smallTo 150 n k (ls.drop j)) ∧ G w wr) (fun _ _ i _ => ls.length - (intOf i).toNat)
  case atStart => exact ⟨0, 0, 0, Nat.zero_le _, rfl, rfl, rfl, by omega, by omega, by omega, by omega, by simp [Hid], G.refl _⟩
  case round =>
    obtain ⟨j, n, k, hj, rfl, rfl, rfl, hn0, hn1, hk0, hk1, hh, hg⟩ := hrel
    by_cases hlt : j < ls.length
    · obtain ⟨⟨lA, lc, les⟩, hl1⟩ : ∃ l, ls[j]? = some l := ⟨_, List.getElem?_eq_getElem hlt⟩
      have hsd := Lib.hid (smallTo_drop 150 n k ls j _ hl1)
      have hev := HX.out _ (List.mem_of_getElem? hl1)
      obtain ⟨b, o, rfl, hb, hcell, hok⟩ := hs.at_ hB hl1
      replace hl1 := Lib.hid hl1
      replace hok : ∀ w', G w w' → Sl Ev.cells 7 w' B lA les := fun w' h => (hok w' h).1
      have hll : les.length ≤ 9223372036854775807 := by
        have := (hs.2 _ (List.mem_of_getElem? hl1.out)).2
        dsimp only at this
        omega
      clear hs
      dsimp only at hev hcell hsd
      obtain ⟨e0, e1⟩ := evBulk_le 10000 les
      have hB2 : ∀ w', G w w' → B ≤ w'.heap.size := fun w' h => by have := h.size; omega
      have hcw := hcell wr hg
      go_wp2_with fail
      refine (events_any 10000 les lA lc B wr (hB2 _ hg) hll hev (hok _ hg)).mono ?_
      rintro e w1 ⟨rfl, hg1⟩
      replace hg1 := hg.trans hg1
      go_wp2_with fail
      refine (sum_1 n (evBulk 10000 les) _ _ (by omega) (by omega) (by omega) (by omega) (by simp)).mono ?_
      rintro e w2 ⟨rfl, rfl⟩
      have hq1 := sumTo_le1 n (evBulk 10000 les) (by omega) (by omega) e0
      have hcw2 := hcell w1 hg1
      have hbw : b < w1.heap.size := by have := hg1.size; omega
      generalize hn2 : sumTo n [evBulk 10000 les] = n2 at *
      go_wp2_with fail
      refine (sum_1 k les.length _ _ (by omega) (by omega) (by omega) (by omega) (by simp)).mono ?_
      rintro e w3 ⟨rfl, rfl⟩
      have hq2 := sumTo_le1 k (les.length : Int) (by omega) (by omega) (by omega)
      generalize hk2 : sumTo k [(les.length : Int)] = k2 at *
      clear hn2 hk2
      by_cases hbig : 10000 < n2 ∨ 150 < k2
      · have hfin : smallTo 150 0 0 ls = false := by rw [hh.out, hsd.out, if_pos hbig]
        replace hfin := Lib.hid hfin
        clear hsd
        go_wp2_with fail
        all_goals (go_ret; exact ⟨ret_bool (by rw [hfin.out]; rfl), (hg1.alloc _).alloc _⟩)
      · go_wp2_with fail
        go_roundw
        case rel => exact ⟨j + 1, n2, k2, by omega, by go_num, rfl, rfl, by omega, by omega, by omega, by omega, by unfold Hid; rw [hh.out, hsd.out, if_neg hbig], (hg1.alloc _).alloc _⟩
        case measure => simp [intOf]; omega
    · go_wp2_with fail
      go_ret
      exact ⟨ret_bool (by rw [hh.out, List.drop_eq_nil_of_le (by omega)]; rfl), hg⟩

def evA18 : Ev := ⟨⟨#[97]⟩, 0, ⟨#[]⟩, ⟨5, 0, 1⟩, 0⟩
def evB18 : Ev := ⟨⟨#[98]⟩, 0, ⟨#[]⟩, ⟨4, 0, 2⟩, 0⟩
theorem first18 (l1 l2 : LogM) (h1 : l1.es = [evA18]) (h2 : l2.es = [evB18]) : IsFirst (mergeF [l1, l2] ⟨9, 0, 0⟩ ⟨⟨0, 0, 0⟩, 0, ⟨#[]⟩⟩) 9 [evB18, evA18] := by
  have hm : ∀ y, mergeF [l1, l2] ⟨9, 0, 0⟩ ⟨⟨0, 0, 0⟩, 0, ⟨#[]⟩⟩ y ↔ y ∈ [evB18, evA18] := by
    intro y
    simp only [mergeF, inLogs, List.mem_cons, List.not_mem_nil, or_false]
    constructor
    · rintro ⟨⟨l, rfl | rfl, h⟩, _⟩
      · rw [h1] at h; right; simpa using h
      · rw [h2] at h; left; simpa using h
    · rintro (rfl | rfl)
      · exact ⟨⟨l2, .inr rfl, by rw [h2]; simp⟩, by simp [picked, stLt, behind, evB18]⟩
      · exact ⟨⟨l1, .inl rfl, by rw [h1]; simp⟩, by simp [picked, stLt, behind, evA18]⟩
  refine ⟨?_, fun o ho => (hm o).2 ho, fun y hy => .inl ((hm y).1 hy), .inl (by simp), fun _ y hy => (hm y).1 hy⟩
  simp [fl, evA18, evB18, stLt]
set_option maxHeartbeats 1000000 in
theorem awake18_any (w : World) : Calls Try.prog 24 #[] w fun e w' => e = .returned (.bool true) ∧ G w w' := by
  go_enter Try.func24, Try.ntmps24
  go_wp2_with fail
  have hm := merge_any [⟨some ⟨w.heap.size, 0, none⟩, 1, [evA18]⟩, ⟨some ⟨w.heap.size + 1, 0, none⟩, 1, [evB18]⟩] (some ⟨w.heap.size + 1 + 1, 0, none⟩) 2 (w.heap.size + 3) 9 0 0 0 0 0 0 ⟨#[]⟩ 9
    (((w.alloc (.cells evA18.cells.toArray 44)).alloc (.cells evB18.cells.toArray 44)).alloc (.cells #[.slice (some ⟨w.heap.size, 0, none⟩) 1 1, .slice (some ⟨w.heap.size + 1, 0, none⟩) 1 1] 31))
    (by simp) (by simp) (by simp [evTally])
    ⟨Sl.of_blk LogM.cells_len _ (blk_new' _ _ _ _ (by simp)) rfl (by omega), fun l hl => by
      simp at hl
      rcases hl with rfl | rfl
      · exact ⟨Sl.of_blk Ev.cells_len _ ((G.new _ _).blk ((G.new _ _).blk (blk_new _ _ _))) rfl (by omega), by simp, by simp⟩
      · exact ⟨Sl.of_blk Ev.cells_len _ ((G.new _ _).blk (blk_new' _ _ _ _ (by simp))) rfl (by omega), by simp, by simp⟩⟩
  refine hm.mono ?_
  clear hm
  rintro e w1 ⟨out, hfirst, _, v, rfl, hown, hg⟩
  obtain rfl := hfirst.unique (first18 _ _ rfl rfl)
  clear hfirst
  obtain ⟨A, c, rfl, hsl⟩ := hown.sl
  obtain ⟨b, o, rfl, hb, c0, _⟩ := hsl.ev (k := 0) rfl
  obtain ⟨_, _, e1, _, d0, _⟩ := hsl.ev (k := 1) rfl
  cases e1
  simp only [evA18, evB18, Nat.zero_mul, Nat.add_zero, Nat.one_mul] at c0 d0
  clear hsl hown
  replace hg := (((G.new w _).alloc _).alloc _).trans hg
  go_wp2_with fail
  go_ret
  exact ⟨rfl, hg⟩
end Go.Proofs.Ytnenabacbhepdaa

/- penstocklaw29.small: what it answers. Condition: lengths fit an int. -/
import Derived.Test.YtgoodlbkjciloaaOne
import Derived.Test.YtgoodlbkjciloaaEvBulk
namespace Go.Proofs.Ytgoodlbkjciloaa
open Go.RowKit

/-- small's loop: are the lists, with so much ahead of them, looked at? -/
def smallTo (lim : Int) (n k : Int) : List LogM → Bool
  | [] => true
  | l :: r => if 10000 < sumTo n [evBulk 10000 l.es] ∨ lim < sumTo k [(l.es.length : Int)] then false else smallTo lim (sumTo n [evBulk 10000 l.es]) (sumTo k [(l.es.length : Int)]) r
def smallB (lim cnt : Int) (ls : List LogM) : Bool := smallTo lim 0 0 ls && decide ((ls.length : Int) ≤ cnt)
theorem smallTo_drop (lim n k : Int) (xs : List LogM) (j : Nat) (x : LogM) (h : xs[j]? = some x) :
    smallTo lim n k (xs.drop j) = if 10000 < sumTo n [evBulk 10000 x.es] ∨ lim < sumTo k [(x.es.length : Int)] then false else smallTo lim (sumTo n [evBulk 10000 x.es]) (sumTo k [(x.es.length : Int)]) (xs.drop (j + 1)) := by
  obtain ⟨hk, rfl⟩ := List.getElem?_eq_some_iff.1 h
  rw [List.drop_eq_getElem_cons hk]
  rfl
theorem smallTo_sum (lim : Int) (hlim : lim ≤ 1000) : ∀ (ls : List LogM) (n k : Int), 0 ≤ n → n ≤ 10000 → 0 ≤ k → k ≤ lim → smallTo lim n k ls = true → k + (ls.map fun l => (l.es.length : Int)).sum ≤ lim := by
  intro ls
  induction ls with
  | nil => intro n k _ _ _ h2 _; simpa using h2
  | cons l r ih =>
    intro n k h0 h1 h2 h3 h
    simp only [smallTo] at h
    split at h
    · cases h
    · rename_i hc
      obtain ⟨e0, e1⟩ := evBulk_le 10000 l.es
      have a1 := sumTo_le1 n (evBulk 10000 l.es) h0 (by omega) e0
      have a2 := sumTo_le1 k (l.es.length : Int) h2 (by omega) (by omega)
      have a3 := sumTo_one k (l.es.length : Int)
      have := ih _ _ a1.1 (by omega) a2.1 (by omega) h
      simp only [List.map_cons, List.sum_cons]
      split at a3 <;> omega
theorem small_len {lim cnt : Int} (hlim : lim ≤ 1000) (h0 : 0 ≤ lim) {ls : List LogM} (h : smallB lim cnt ls = true) : (ls.map fun l => (l.es.length : Int)).sum ≤ lim ∧ (ls.length : Int) ≤ cnt := by
  simp only [smallB, Bool.and_eq_true, decide_eq_true_eq] at h
  have := smallTo_sum lim hlim ls 0 0 (by omega) (by omega) (by omega) h0 h.1
  exact ⟨by omega, h.2⟩
theorem sum_mem {ls : List LogM} {l : LogM} (h : l ∈ ls) : (l.es.length : Int) ≤ (ls.map fun l => (l.es.length : Int)).sum := by
  induction ls with
  | nil => cases h
  | cons a r ih =>
    have hp : 0 ≤ (r.map fun l => (l.es.length : Int)).sum := by
      clear ih h
      induction r with
      | nil => simp
      | cons b r ih => simp only [List.map_cons, List.sum_cons]; omega
    simp only [List.map_cons, List.sum_cons]
    rcases List.mem_cons.1 h with rfl | h
    · omega
    · have := ih h; omega

set_option maxHeartbeats 1000000 in
theorem small29_any (ls : List LogM) (A : Option Addr) (c B : Nat) (w : World) (hB : B ≤ w.heap.size) (hl : ls.length ≤ 9223372036854775807) (hx : ∀ l ∈ ls, EvsOk l.es) (hs : LogsIn w B A ls) :
    Calls Try.prog 9 #[.slice A ls.length c] w fun e w' => e = .returned (.bool (smallB 300 20 ls)) ∧ G w w' := by
  have HX := Lib.hid hx
  clear hx
  unfold smallB
  go_enter Try.func9, Try.ntmps9
  go_wp2_with fail
  go_loopw [3, 4, 5] (fun t u i wr => ∃ (j : Nat) (n k : Int), j ≤ ls.length ∧ i = .int .i64 j ∧ t = .int .i64 n ∧ u = .int .i64 k ∧ 0 ≤ n ∧ n ≤ 10000 ∧ 0 ≤ k ∧ k ≤ 300 ∧ Hid (smallTo 300 0 0 ls = smallTo 300 n k (ls.drop j)) ∧ G w wr) (fun _ _ i _ => ls.length - (intOf i).toNat)
  case atStart => exact ⟨0, 0, 0, Nat.zero_le _, rfl, rfl, rfl, by omega, by omega, by omega, by omega, by simp [Hid], G.refl _⟩
  case round =>
    obtain ⟨j, n, k, hj, rfl, rfl, rfl, hn0, hn1, hk0, hk1, hh, hg⟩ := hrel
    by_cases hlt : j < ls.length
    · obtain ⟨⟨lA, lc, les⟩, hl1⟩ : ∃ l, ls[j]? = some l := ⟨_, List.getElem?_eq_getElem hlt⟩
      have hsd := Lib.hid (smallTo_drop 300 n k ls j _ hl1)
      have hev := HX.out _ (List.mem_of_getElem? hl1)
      obtain ⟨b, o, rfl, hb, hcell, hok⟩ := hs.at_ hB hl1
      replace hl1 := Lib.hid hl1
      replace hok : ∀ w', G w w' → Sl Ev.cells 7 w' B lA les := fun w' h => (hok w' h).1
      have hll : les.length ≤ 9223372036854775807 := by
        have := (hs.2 _ (List.mem_of_getElem? hl1.out)).2
        dsimp only at this
        omega
      clear hs
      dsimp only at hev hcell hsd
      obtain ⟨e0, e1⟩ := evBulk_le 10000 les
      have hB2 : ∀ w', G w w' → B ≤ w'.heap.size := fun w' h => by have := h.size; omega
      have hcw := hcell wr hg
      go_wp2_with fail
      refine (events_any 10000 les lA lc B wr (hB2 _ hg) hll hev (hok _ hg)).mono ?_
      rintro e w1 ⟨rfl, hg1⟩
      replace hg1 := hg.trans hg1
      go_wp2_with fail
      refine (sum_1 n (evBulk 10000 les) _ _ (by omega) (by omega) (by omega) (by omega) (by simp)).mono ?_
      rintro e w2 ⟨rfl, rfl⟩
      have hq1 := sumTo_le1 n (evBulk 10000 les) (by omega) (by omega) e0
      have hcw2 := hcell w1 hg1
      have hbw : b < w1.heap.size := by have := hg1.size; omega
      generalize hn2 : sumTo n [evBulk 10000 les] = n2 at *
      go_wp2_with fail
      refine (sum_1 k les.length _ _ (by omega) (by omega) (by omega) (by omega) (by simp)).mono ?_
      rintro e w3 ⟨rfl, rfl⟩
      have hq2 := sumTo_le1 k (les.length : Int) (by omega) (by omega) (by omega)
      generalize hk2 : sumTo k [(les.length : Int)] = k2 at *
      clear hn2 hk2
      by_cases hbig : 10000 < n2 ∨ 300 < k2
      · have hfin : smallTo 300 0 0 ls = false := by rw [hh.out, hsd.out, if_pos hbig]
        replace hfin := Lib.hid hfin
        clear hsd
        go_wp2_with fail
        all_goals (go_ret; exact ⟨ret_bool (by rw [hfin.out]; rfl), (hg1.alloc _).alloc _⟩)
      · go_wp2_with fail
        go_roundw
        case rel => exact ⟨j + 1, n2, k2, by omega, by go_num, rfl, rfl, by omega, by omega, by omega, by omega, by unfold Hid; rw [hh.out, hsd.out, if_neg hbig], (hg1.alloc _).alloc _⟩
        case measure => simp [intOf]; omega
    · go_wp2_with fail
      go_ret
      exact ⟨ret_bool (by rw [hh.out, List.drop_eq_nil_of_le (by omega)]; rfl), hg⟩
end Go.Proofs.Ytgoodlbkjciloaa

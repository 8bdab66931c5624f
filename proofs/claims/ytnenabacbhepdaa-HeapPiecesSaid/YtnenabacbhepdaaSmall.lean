/- penstockalike.Events, penstockalike.Round, penstocklaw29.small: what they answer. Conditions: lengths fit an int; Round's second number is above 0. -/
import Derived.Test.YtnenabacbhepdaaOne
import Derived.Test.YtnenabacbhepdaaTotal
namespace Go.Proofs.Ytnenabacbhepdaa
open Go.RowKit

/-- Events' loop. -/
def evBulkTo (top : Int) (n : Int) : List Ev → Int
  | [] => n
  | e :: l => if n ≤ top then evBulkTo top (sumTo n [(e.stream.size : Int), (e.data.size : Int)]) l else n
def evBulk (top : Int) (es : List Ev) : Int := evBulkTo top (sumTo 0 [(es.length : Int)]) es
theorem evBulkTo_drop (top n : Int) (xs : List Ev) (k : Nat) (x : Ev) (h : xs[k]? = some x) :
    evBulkTo top n (xs.drop k) = if n ≤ top then evBulkTo top (sumTo n [(x.stream.size : Int), (x.data.size : Int)]) (xs.drop (k + 1)) else n := by
  obtain ⟨hk, rfl⟩ := List.getElem?_eq_some_iff.1 h
  rw [List.drop_eq_getElem_cons hk]
  rfl
theorem evBulkTo_le (top n : Int) (h0 : 0 ≤ n) (h : n ≤ 1099511627776) : ∀ l : List Ev, 0 ≤ evBulkTo top n l ∧ evBulkTo top n l ≤ 1099511627776 := by
  intro l
  induction l generalizing n with
  | nil => exact ⟨h0, h⟩
  | cons m l ih =>
    have h3 := sumTo_le2 n m.stream.size m.data.size h0 h (by omega) (by omega)
    simp only [evBulkTo]
    split
    · exact ih _ h3.1 h3.2
    · omega
theorem evBulk_le (top : Int) (es : List Ev) : 0 ≤ evBulk top es ∧ evBulk top es ≤ 1099511627776 := by
  have h := sumTo_le1 0 es.length (by omega) (by omega) (by omega)
  exact evBulkTo_le top _ h.1 h.2 _
def EvsOk (es : List Ev) : Prop := ∀ e ∈ es, e.stream.size ≤ 9223372036854775807 ∧ e.data.size ≤ 9223372036854775807

set_option maxHeartbeats 1000000 in
theorem events_any (top : Int) (es : List Ev) (A : Option Addr) (c B : Nat) (w : World) (hB : B ≤ w.heap.size) (hl : es.length ≤ 9223372036854775807) (hx : EvsOk es)
    (hs : Sl Ev.cells 7 w B A es) :
    Calls Try.prog 40 #[.slice A es.length c, .int .i64 top] w fun e w' => e = .returned (.int .i64 (evBulk top es)) ∧ G w w' := by
  have HX := Lib.hid hx
  clear hx
  unfold evBulk
  go_enter Try.func40, Try.ntmps40
  go_wp2_with fail
  refine (sum_1 0 es.length _ _ (by omega) (by omega) (by omega) (by omega) (by simp)).mono ?_
  rintro e w1 ⟨rfl, rfl⟩
  have hq := sumTo_le1 0 es.length (by omega) (by omega) (by omega)
  generalize hn0 : sumTo 0 [(es.length : Int)] = n0 at *
  have HN := Lib.hid hn0
  clear hn0
  go_wp2_with fail
  go_loopw [5, 6] (fun t i wr => ∃ (k : Nat) (m : Int), k ≤ es.length ∧ i = .int .i64 k ∧ t = .int .i64 m ∧ 0 ≤ m ∧ m ≤ 1099511627776 ∧ Hid (evBulkTo top n0 es = evBulkTo top m (es.drop k)) ∧ G w wr) (fun _ i _ => es.length - (intOf i).toNat)
  case atStart => exact ⟨0, n0, Nat.zero_le _, rfl, rfl, hq.1, hq.2, by simp [Hid], G.new _ _⟩
  case round =>
    obtain ⟨k, m, hk, rfl, rfl, hm0, hm1, hh, hg⟩ := hrel
    by_cases hlt : k < es.length
    · obtain ⟨x, hx1⟩ : ∃ x, es[k]? = some x := ⟨_, List.getElem?_eq_getElem hlt⟩
      have hsd := Lib.hid (evBulkTo_drop top m es k x hx1)
      obtain ⟨hz0, hz2⟩ := HX.out x (List.mem_of_getElem? hx1)
      obtain ⟨xs, xv, xd, xt, xi⟩ := x
      obtain ⟨b, o, rfl, hb, c0, _, c2, _⟩ := hs.evG hB hx1
      replace hx1 := Lib.hid hx1
      clear hs
      dsimp only at hz0 hz2 c0 c2 hsd
      by_cases htop : m ≤ top
      · go_wp2_with fail
        go_region_held3 (fun w' => G w w') (first | exact hg.drew | exact G.alloc (by assumption) _ | assumption | fail) (first | (go_at_call 38; refine (sum_2 m xs.size xd.size _ _ (by omega) (by omega) (by omega) (by omega) (by omega) (by omega) (by simp) (by simp)).mono ?_; rintro e w2 ⟨rfl, rfl⟩))
        go_wp2_with fail
        go_roundw
        case rel =>
          have hq2 := sumTo_le2 m xs.size xd.size (by omega) (by omega) (by omega) (by omega)
          exact ⟨k + 1, _, by omega, by go_num, rfl, hq2.1, hq2.2, by unfold Hid; rw [hh.out, hsd.out, if_pos (by omega)], by assumption⟩
        case measure => simp [intOf]; omega
      · go_wp2_with fail
        go_ret
        exact ⟨ret_int (by rw [HN.out, hh.out, hsd.out, if_neg (by omega)]), hg⟩
    · go_wp2_with fail
      go_ret
      exact ⟨ret_int (by rw [HN.out, hh.out, List.drop_eq_nil_of_le (by omega)]; rfl), hg⟩

set_option maxHeartbeats 400000 in
theorem round_any (k n : Int) (w : World) (hn : 1 ≤ n) (hn2 : n ≤ 9223372036854775807) (_hk : -9223372036854775808 ≤ k) (_hk2 : k ≤ 9223372036854775807) :
    Calls Try.prog 20 #[.int .i64 k, .int .i64 n] w fun e w' => e = .returned (.int .i64 (k % n)) ∧ w = w' := by
  have h1 := Int.tmod_lt_of_pos k (show 0 < n by omega)
  have h2 : -n < k.tmod n := by
    have := Int.lt_tmod_of_pos k (show 0 < n by omega)
    omega
  have h3 : k % n = if k.tmod n < 0 then k.tmod n + n else k.tmod n := by
    rw [Int.tmod_eq_emod]
    have h4 := Int.emod_nonneg k (show n ≠ 0 by omega)
    have h5 := Int.emod_lt_of_pos k (show 0 < n by omega)
    split <;> (try split) <;> omega
  replace h3 := Lib.hid h3
  generalize hm : k.tmod n = m at *
  go_enter Try.func20, Try.ntmps20
  go_wp2
  all_goals (go_ret; exact ⟨ret_int (by rw [h3.out]; split <;> omega), rfl⟩)

/-- small's loop: are the lists, with so much ahead of them, looked at? -/
def smallTo (lim : Int) (n k : Int) : List LogM → Bool
  | [] => true
  | l :: r => if 10000 < sumTo n [evBulk 10000 l.es] ∨ lim < sumTo k [(l.es.length : Int)] then false else smallTo lim (sumTo n [evBulk 10000 l.es]) (sumTo k [(l.es.length : Int)]) r
def smallB (lim cnt : Int) (ls : List LogM) : Bool := smallTo lim 0 0 ls && decide ((ls.length : Int) ≤ cnt)
theorem smallTo_drop (lim n k : Int) (xs : List LogM) (j : Nat) (x : LogM) (h : xs[j]? = some x) :
    smallTo lim n k (xs.drop j) = if 10000 < sumTo n [evBulk 10000 x.es] ∨ lim < sumTo k [(x.es.length : Int)] then false else smallTo lim (sumTo n [evBulk 10000 x.es]) (sumTo k [(x.es.length : Int)]) (xs.drop (j + 1)) := by
  obtain ⟨hk, rfl⟩ := List.getElem?_eq_some_iff.1 h
  rw [List.drop_eq_getElem_cons hk]
  rfl
theorem smallTo_sum (lim : Int) (hlim : lim ≤ 1000) : ∀ (ls : List LogM) (n k : Int), 0 ≤ n → n ≤ 10000 → 0 ≤ k → k ≤ lim → smallTo lim n k ls = true → k + (ls.map fun l => (l.es.length : Int)).sum ≤ lim := by
  intro ls
  induction ls with
  | nil => intro n k _ _ _ h2 _; simpa using h2
  | cons l r ih =>
    intro n k h0 h1 h2 h3 h
    simp only [smallTo] at h
    split at h
    · cases h
    · rename_i hc
      obtain ⟨e0, e1⟩ := evBulk_le 10000 l.es
      have a1 := sumTo_le1 n (evBulk 10000 l.es) h0 (by omega) e0
      have a2 := sumTo_le1 k (l.es.length : Int) h2 (by omega) (by omega)
      have a3 := sumTo_one k (l.es.length : Int)
      have := ih _ _ a1.1 (by omega) a2.1 (by omega) h
      simp only [List.map_cons, List.sum_cons]
      split at a3 <;> omega
theorem small_len {lim cnt : Int} (hlim : lim ≤ 1000) (h0 : 0 ≤ lim) {ls : List LogM} (h : smallB lim cnt ls = true) : (ls.map fun l => (l.es.length : Int)).sum ≤ lim ∧ (ls.length : Int) ≤ cnt := by
  simp only [smallB, Bool.and_eq_true, decide_eq_true_eq] at h
  have := smallTo_sum lim hlim ls 0 0 (by omega) (by omega) (by omega) h0 h.1
  exact ⟨by omega, h.2⟩
theorem sum_mem {ls : List LogM} {l : LogM} (h : l ∈ ls) : (l.es.length : Int) ≤ (ls.map fun l => (l.es.length : Int)).sum := by
  induction ls with
  | nil => cases h
  | cons a r ih =>
    have hp : 0 ≤ (r.map fun l => (l.es.length : Int)).sum := by
      clear ih h
      induction r with
      | nil => simp
      | cons b r ih => simp only [List.map_cons, List.sum_cons]; omega
    simp only [List.map_cons, List.sum_cons]
    rcases List.mem_cons.1 h with rfl | h
    · omega
    · have := ih h; omega

set_option maxHeartbeats 1000000 in
theorem small29_any (ls : List LogM) (A : Option Addr) (c B : Nat) (w : World) (hB : B ≤ w.heap.size) (hl : ls.length ≤ 9223372036854775807) (hx : ∀ l ∈ ls, EvsOk l.es) (hs : LogsIn w B A ls) :
    Calls Try.prog 17 #[.slice A ls.length c] w fun e w' => e = .returned (.bool (smallB 300 20 ls)) ∧ G w w' := by
  have HX := Lib.hid hx
  clear hx
  unfold smallB
  go_enter Try.func17, Try.ntmps17
  go_wp2_with fail
  go_loopw [3, 4, 5] (fun t u i wr => ∃ (j : Nat) (n k : Int), j ≤ ls.length ∧ i = .int .i64 j ∧ t = .int .i64 n ∧ u = .int .i64 k ∧ 0 ≤ n ∧ n ≤ 10000 ∧ 0 ≤ k ∧ k ≤ 300 ∧ Hid (smallTo 300 0 0 ls = smallTo 300 n k (ls.drop j)) ∧ G w wr) (fun _ _ i _ => ls.length - (intOf i).toNat)
  case atStart => exact ⟨0, 0, 0, Nat.zero_le _, rfl, rfl, rfl, by omega, by omega, by omega, by omega, by simp [Hid], G.refl _⟩
  case round =>
    obtain ⟨j, n, k, hj, rfl, rfl, rfl, hn0, hn1, hk0, hk1, hh, hg⟩ := hrel
    by_cases hlt : j < ls.length
    · obtain ⟨⟨lA, lc, les⟩, hl1⟩ : ∃ l, ls[j]? = some l := ⟨_, List.getElem?_eq_getElem hlt⟩
      have hsd := Lib.hid (smallTo_drop 300 n k ls j _ hl1)
      have hev := HX.out _ (List.mem_of_getElem? hl1)
      obtain ⟨b, o, rfl, hb, hcell, hok⟩ := hs.at_ hB hl1
      replace hl1 := Lib.hid hl1
      replace hok : ∀ w', G w w' → Sl Ev.cells 7 w' B lA les := fun w' h => (hok w' h).1
      have hll : les.length ≤ 9223372036854775807 := by
        have := (hs.2 _ (List.mem_of_getElem? hl1.out)).2
        dsimp only at this
        omega
      clear hs
      dsimp only at hev hcell hsd
      obtain ⟨e0, e1⟩ := evBulk_le 10000 les
      have hB2 : ∀ w', G w w' → B ≤ w'.heap.size := fun w' h => by have := h.size; omega
      have hcw := hcell wr hg
      go_wp2_with fail
      refine (events_any 10000 les lA lc B wr (hB2 _ hg) hll hev (hok _ hg)).mono ?_
      rintro e w1 ⟨rfl, hg1⟩
      replace hg1 := hg.trans hg1
      go_wp2_with fail
      refine (sum_1 n (evBulk 10000 les) _ _ (by omega) (by omega) (by omega) (by omega) (by simp)).mono ?_
      rintro e w2 ⟨rfl, rfl⟩
      have hq1 := sumTo_le1 n (evBulk 10000 les) (by omega) (by omega) e0
      have hcw2 := hcell w1 hg1
      have hbw : b < w1.heap.size := by have := hg1.size; omega
      generalize hn2 : sumTo n [evBulk 10000 les] = n2 at *
      go_wp2_with fail
      refine (sum_1 k les.length _ _ (by omega) (by omega) (by omega) (by omega) (by simp)).mono ?_
      rintro e w3 ⟨rfl, rfl⟩
      have hq2 := sumTo_le1 k (les.length : Int) (by omega) (by omega) (by omega)
      generalize hk2 : sumTo k [(les.length : Int)] = k2 at *
      clear hn2 hk2
      by_cases hbig : 10000 < n2 ∨ 300 < k2
      · have hfin : smallTo 300 0 0 ls = false := by rw [hh.out, hsd.out, if_pos hbig]
        replace hfin := Lib.hid hfin
        clear hsd
        go_wp2_with fail
        all_goals (go_ret; exact ⟨ret_bool (by rw [hfin.out]; rfl), (hg1.alloc _).alloc _⟩)
      · go_wp2_with fail
        go_roundw
        case rel => exact ⟨j + 1, n2, k2, by omega, by go_num, rfl, rfl, by omega, by omega, by omega, by omega, by unfold Hid; rw [hh.out, hsd.out, if_neg hbig], (hg1.alloc _).alloc _⟩
        case measure => simp [intOf]; omega
    · go_wp2_with fail
      go_ret
      exact ⟨ret_bool (by rw [hh.out, List.drop_eq_nil_of_le (by omega)]; rfl), hg⟩
end Go.Proofs.Ytnenabacbhepdaa

/- Several texts in one: Sum, Total, Batch. -/
import Derived.Test.YtheogchkelmeeaaDoorM0MsgFirst
/- penstockalike.Sum: what it answers. Condition: the numbers are not below 0. -/
namespace Go.Proofs.YtheogchkelmeeaaDoor
open Go.RowKit

theorem sumTo_drop (n : Int) (xs : List Int) (k : Nat) (x : Int) (h : xs[k]? = some x) :
    sumTo n (xs.drop k) = if n + x ≤ 1099511627776 then sumTo (n + x) (xs.drop (k + 1)) else 1099511627776 := by
  obtain ⟨hk, rfl⟩ := List.getElem?_eq_some_iff.1 h
  rw [List.drop_eq_getElem_cons hk]
  rfl

set_option maxHeartbeats 400000 in
theorem sum_any (n : Int) (xs : List Int) (A : Option Addr) (c B : Nat) (w : World) (h0 : 0 ≤ n) (h1 : n ≤ 1099511627776) (hx : ∀ x ∈ xs, 0 ≤ x ∧ x ≤ 9223372036854775807) (hl : xs.length ≤ 9223372036854775807)
    (hs : Sl intC 1 w B A xs) :
    Calls Tryd.prog 28 #[.int .i64 n, .slice A xs.length c] w fun e w' => e = .returned (.int .i64 (sumTo n xs)) ∧ w = w' := by
  have HX := Lib.hid hx
  clear hx
  go_enter Tryd.func28, Tryd.ntmps28
  go_wp2
  go_loop [0, 5] (fun t i => ∃ (k : Nat) (m : Int), k ≤ xs.length ∧ i = .int .i64 k ∧ t = .int .i64 m ∧ 0 ≤ m ∧ m ≤ 1099511627776 ∧ Hid (sumTo n xs = sumTo m (xs.drop k))) (fun _ i => xs.length - (intOf i).toNat)
  case atStart => exact ⟨0, n, Nat.zero_le _, rfl, rfl, h0, h1, by simp [Hid]⟩
  case round =>
    obtain ⟨k, m, hk, rfl, rfl, hm0, hm1, hh⟩ := hrel
    by_cases hlt : k < xs.length
    · obtain ⟨x, hxk⟩ : ∃ x, xs[k]? = some x := ⟨_, List.getElem?_eq_getElem hlt⟩
      obtain ⟨b, o, rfl, hb, hcell⟩ := hs.int hxk
      have hsd := Lib.hid (sumTo_drop m xs k x hxk)
      obtain ⟨hx0, hx1⟩ := HX.out x (List.mem_of_getElem? hxk)
      clear hs hxk
      go_wp2
      · go_ret
        exact ⟨ret_int (by rw [hh.out, hsd.out, if_neg (by omega)]), rfl⟩
      · go_round
        case rel => exact ⟨k + 1, m + x, by omega, by go_num, rfl, by omega, by omega, by unfold Hid; rw [hh.out, hsd.out, if_pos (by omega)]⟩
        case measure => simp [intOf]; omega
    · go_wp2
      go_ret
      exact ⟨ret_int (by rw [hh.out, List.drop_eq_nil_of_le (by omega)]; rfl), rfl⟩

theorem sumTo_one (n m : Int) : sumTo n [m] = if n + m ≤ 1099511627776 then n + m else 1099511627776 := rfl
/-- A row of one, two, three cells reads as their list. -/
theorem sl_1 {w : World} {b : Nat} {m : Int} (hc : w.cell? ⟨b, 0, none⟩ = some (.int .i64 m)) : Sl intC 1 w (b + 1) (some ⟨b, 0, none⟩) [m] := fun _ =>
  ⟨b, 0, rfl, by omega, fun k x hx j u hu => by
    rcases j with _ | j
    · rcases k with _ | k
      · simp at hx; subst hx; simp [intC] at hu; subst hu; exact hc
      · simp at hx
    · simp [intC] at hu⟩
theorem sl_2 {w : World} {b : Nat} {m m2 : Int} (hc : w.cell? ⟨b, 0, none⟩ = some (.int .i64 m)) (hc2 : w.cell? ⟨b, 1, none⟩ = some (.int .i64 m2)) : Sl intC 1 w (b + 1) (some ⟨b, 0, none⟩) [m, m2] := fun _ =>
  ⟨b, 0, rfl, by omega, fun k x hx j u hu => by
    rcases j with _ | j
    · rcases k with _ | _ | k
      · simp at hx; subst hx; simp [intC] at hu; subst hu; exact hc
      · simp at hx; subst hx; simp [intC] at hu; subst hu; exact hc2
      · simp at hx
    · simp [intC] at hu⟩
theorem sl_3 {w : World} {b : Nat} {m m2 m3 : Int} (hc : w.cell? ⟨b, 0, none⟩ = some (.int .i64 m)) (hc2 : w.cell? ⟨b, 1, none⟩ = some (.int .i64 m2)) (hc3 : w.cell? ⟨b, 2, none⟩ = some (.int .i64 m3)) :
    Sl intC 1 w (b + 1) (some ⟨b, 0, none⟩) [m, m2, m3] := fun _ =>
  ⟨b, 0, rfl, by omega, fun k x hx j u hu => by
    rcases j with _ | j
    · rcases k with _ | _ | _ | k
      · simp at hx; subst hx; simp [intC] at hu; subst hu; exact hc
      · simp at hx; subst hx; simp [intC] at hu; subst hu; exact hc2
      · simp at hx; subst hx; simp [intC] at hu; subst hu; exact hc3
      · simp at hx
    · simp [intC] at hu⟩
/-- Sum of one number more, in a block of its own. -/
theorem sum_1 (n m : Int) (b : Nat) (w : World) (h0 : 0 ≤ n) (h1 : n ≤ 1099511627776) (hm : 0 ≤ m) (hm2 : m ≤ 9223372036854775807) (hc : w.cell? ⟨b, 0, none⟩ = some (.int .i64 m)) :
    Calls Tryd.prog 28 #[.int .i64 n, .slice (some ⟨b, 0, none⟩) 1 1] w fun e w' => e = .returned (.int .i64 (sumTo n [m])) ∧ w = w' :=
  sum_any n [m] _ 1 (b + 1) w h0 h1 (fun x hx => by simp at hx; omega) (by simp) (sl_1 hc)
/-- Sum of two numbers more, in a block of their own. -/
theorem sum_2 (n m m2 : Int) (b : Nat) (w : World) (h0 : 0 ≤ n) (h1 : n ≤ 1099511627776) (hm : 0 ≤ m) (hm2 : m ≤ 9223372036854775807) (hn : 0 ≤ m2) (hn2 : m2 ≤ 9223372036854775807)
    (hc : w.cell? ⟨b, 0, none⟩ = some (.int .i64 m)) (hc2 : w.cell? ⟨b, 1, none⟩ = some (.int .i64 m2)) :
    Calls Tryd.prog 28 #[.int .i64 n, .slice (some ⟨b, 0, none⟩) 2 2] w fun e w' => e = .returned (.int .i64 (sumTo n [m, m2])) ∧ w = w' :=
  sum_any n [m, m2] _ 2 (b + 1) w h0 h1 (fun x hx => by simp at hx; omega) (by simp) (sl_2 hc hc2)
/-- Sum of three numbers more, in a block of their own. -/
theorem sum_3 (n m m2 m3 : Int) (b : Nat) (w : World) (h0 : 0 ≤ n) (h1 : n ≤ 1099511627776) (hm : 0 ≤ m) (hm2 : m ≤ 9223372036854775807) (hn : 0 ≤ m2) (hn2 : m2 ≤ 9223372036854775807)
    (ho : 0 ≤ m3) (ho2 : m3 ≤ 9223372036854775807)
    (hc : w.cell? ⟨b, 0, none⟩ = some (.int .i64 m)) (hc2 : w.cell? ⟨b, 1, none⟩ = some (.int .i64 m2)) (hc3 : w.cell? ⟨b, 2, none⟩ = some (.int .i64 m3)) :
    Calls Tryd.prog 28 #[.int .i64 n, .slice (some ⟨b, 0, none⟩) 3 3] w fun e w' => e = .returned (.int .i64 (sumTo n [m, m2, m3])) ∧ w = w' :=
  sum_any n [m, m2, m3] _ 3 (b + 1) w h0 h1 (fun x hx => by simp at hx; omega) (by simp) (sl_3 hc hc2 hc3)
theorem sumTo_le (n : Int) (h0 : 0 ≤ n) (h : n ≤ 1099511627776) : ∀ l : List Int, (∀ m ∈ l, 0 ≤ m) → 0 ≤ sumTo n l ∧ sumTo n l ≤ 1099511627776 := by
  intro l
  induction l generalizing n with
  | nil => intro _; exact ⟨h0, h⟩
  | cons m l ih =>
    intro hl
    have h2 : 0 ≤ m := hl m (by simp)
    simp only [sumTo]
    split
    · exact ih (n + m) (by omega) (by omega) (fun k hk => hl k (by simp [hk]))
    · omega
theorem sumTo_le1 (n m : Int) (h0 : 0 ≤ n) (h : n ≤ 1099511627776) (hm : 0 ≤ m) : 0 ≤ sumTo n [m] ∧ sumTo n [m] ≤ 1099511627776 :=
  sumTo_le n h0 h [m] (fun k hk => by simp at hk; omega)
theorem sumTo_le2 (n m m2 : Int) (h0 : 0 ≤ n) (h : n ≤ 1099511627776) (hm : 0 ≤ m) (hm2 : 0 ≤ m2) : 0 ≤ sumTo n [m, m2] ∧ sumTo n [m, m2] ≤ 1099511627776 :=
  sumTo_le n h0 h [m, m2] (fun k hk => by simp at hk; omega)
end Go.Proofs.YtheogchkelmeeaaDoor
/- penstockalike.Total: what it answers. Condition: the lengths fit an int. -/
namespace Go.Proofs.YtheogchkelmeeaaDoor
open Go.RowKit

/-- Total's loop: the sum of numbers, one by one, as long as it is not above top. -/
def upTo (top : Int) (n : Int) : List Int → Int
  | [] => n
  | m :: l => if n ≤ top then upTo top (sumTo n [m]) l else n
theorem upTo_drop (top n : Int) (xs : List Int) (k : Nat) (x : Int) (h : xs[k]? = some x) :
    upTo top n (xs.drop k) = if n ≤ top then upTo top (sumTo n [x]) (xs.drop (k + 1)) else n := by
  obtain ⟨hk, rfl⟩ := List.getElem?_eq_some_iff.1 h
  rw [List.drop_eq_getElem_cons hk]
  rfl
/-- What Total answers of texts. -/
def totalOf (top : Int) (ss : List ByteArray) : Int := upTo top (sumTo 0 [(ss.length : Int)]) (ss.map fun s => (s.size : Int))
theorem upTo_le (top n : Int) (h0 : 0 ≤ n) (h : n ≤ 1099511627776) : ∀ l : List Int, (∀ m ∈ l, 0 ≤ m) → 0 ≤ upTo top n l ∧ upTo top n l ≤ 1099511627776 := by
  intro l
  induction l generalizing n with
  | nil => intro _; exact ⟨h0, h⟩
  | cons m l ih =>
    intro hl
    have h2 : 0 ≤ m := hl m (by simp)
    have h3 := sumTo_le1 n m h0 h h2
    simp only [upTo]
    split
    · exact ih _ h3.1 h3.2 (fun k hk => hl k (by simp [hk]))
    · omega
theorem totalOf_le (top : Int) (ss : List ByteArray) : 0 ≤ totalOf top ss ∧ totalOf top ss ≤ 1099511627776 := by
  have h := sumTo_le1 0 ss.length (by omega) (by omega) (by omega)
  exact upTo_le top _ h.1 h.2 _ (fun m hm => by simp at hm; obtain ⟨s, _, rfl⟩ := hm; omega)

set_option maxHeartbeats 400000 in
theorem total_any (top : Int) (ss : List ByteArray) (A : Option Addr) (c B : Nat) (w : World) (hB : B ≤ w.heap.size) (hl : ss.length ≤ 9223372036854775807) (hx : ∀ s ∈ ss, s.size ≤ 9223372036854775807)
    (hs : Sl strC 1 w B A ss) :
    Calls Tryd.prog 56 #[.slice A ss.length c, .int .i64 top] w fun e w' => e = .returned (.int .i64 (totalOf top ss)) ∧ G w w' := by
  have HX := Lib.hid hx
  clear hx
  unfold totalOf
  go_enter Tryd.func56, Tryd.ntmps56
  go_wp2_with fail
  refine (sum_1 0 ss.length _ _ (by omega) (by omega) (by omega) (by omega) (by simp)).mono ?_
  rintro e w1 ⟨rfl, rfl⟩
  have hq := sumTo_le1 0 ss.length (by omega) (by omega) (by omega)
  generalize hn0 : sumTo 0 [(ss.length : Int)] = n0 at *
  have HN := Lib.hid hn0
  clear hn0
  go_wp2_with fail
  go_loopw [5, 6] (fun t i wr => ∃ (k : Nat) (m : Int), k ≤ ss.length ∧ i = .int .i64 k ∧ t = .int .i64 m ∧ 0 ≤ m ∧ m ≤ 1099511627776 ∧ Hid (upTo top n0 (ss.map fun s => (s.size : Int)) = upTo top m ((ss.map fun s => (s.size : Int)).drop k)) ∧ G w wr) (fun _ i _ => ss.length - (intOf i).toNat)
  case atStart => exact ⟨0, n0, Nat.zero_le _, rfl, rfl, hq.1, hq.2, by simp [Hid], G.new _ _⟩
  case round =>
    obtain ⟨k, m, hk, rfl, rfl, hm0, hm1, hh, hbel⟩ := hrel
    by_cases hlt : k < ss.length
    · obtain ⟨s, hs1⟩ : ∃ s, ss[k]? = some s := ⟨_, List.getElem?_eq_getElem hlt⟩
      obtain ⟨b, o, rfl, hb, hcell0⟩ := hs.str hs1
      have hcell : wr.cell? ⟨b, o + k, none⟩ = some (.string s) := (hbel.cell (by omega)).trans hcell0
      have hsd := Lib.hid (upTo_drop top m (ss.map fun s => (s.size : Int)) k s.size (by simp [hs1]))
      have hx0 := HX.out s (List.mem_of_getElem? hs1)
      clear hs hs1 hcell0
      go_wp2_with (go_at_call 28; refine (sum_1 m s.size _ _ (by omega) (by omega) (by omega) (by omega) (by simp)).mono ?_; rintro e w1 ⟨rfl, rfl⟩)
      · go_roundw
        case rel =>
          have hq2 := sumTo_le1 m s.size (by omega) (by omega) (by omega)
          exact ⟨k + 1, _, by omega, by go_num, rfl, hq2.1, hq2.2, by unfold Hid; rw [hh.out, hsd.out, if_pos (by omega)], hbel.alloc _⟩
        case measure => simp [intOf]; omega
      · go_ret
        exact ⟨ret_int (by rw [HN.out, hh.out, hsd.out, if_neg (by omega)]), hbel⟩
    · go_wp2
      go_ret
      exact ⟨ret_int (by rw [HN.out, hh.out, List.drop_eq_nil_of_le (by simp; omega)]; rfl), hbel⟩
end Go.Proofs.YtheogchkelmeeaaDoor
/- penstockalike.Batch: what it answers. Condition: the lengths fit an int. -/
namespace Go.Proofs.YtheogchkelmeeaaDoor
open Go.RowKit

/-- Batch's loop over the Puts. -/
def bulkTo (top : Int) (n : Int) : List PutM → Int
  | [] => n
  | p :: l => if n ≤ top then bulkTo top (sumTo n [(p.stream.size : Int), totalOf top p.data]) l else n
def batchOf (top : Int) (key : ByteArray) (ps : List PutM) : Int := bulkTo top (sumTo 0 [(key.size : Int), (ps.length : Int)]) ps
theorem bulkTo_drop (top n : Int) (xs : List PutM) (k : Nat) (x : PutM) (h : xs[k]? = some x) :
    bulkTo top n (xs.drop k) = if n ≤ top then bulkTo top (sumTo n [(x.stream.size : Int), totalOf top x.data]) (xs.drop (k + 1)) else n := by
  obtain ⟨hk, rfl⟩ := List.getElem?_eq_some_iff.1 h
  rw [List.drop_eq_getElem_cons hk]
  rfl
/-- What is asked of a batch's lengths. -/
def PutsOk (ps : List PutM) : Prop := ps.length ≤ 9223372036854775807 ∧ ∀ p ∈ ps, p.stream.size ≤ 9223372036854775807 ∧ p.data.length ≤ 9223372036854775807 ∧ ∀ s ∈ p.data, s.size ≤ 9223372036854775807

set_option maxHeartbeats 400000 in
theorem batch_any (top : Int) (key : ByteArray) (ps : List PutM) (A : Option Addr) (c B : Nat) (w : World) (hB : B ≤ w.heap.size) (hk : key.size ≤ 9223372036854775807) (ho : PutsOk ps)
    (hs : PutsIn w B A ps) :
    Calls Tryd.prog 29 #[.agg #[.string key, .slice A ps.length c], .int .i64 top] w fun e w' => e = .returned (.int .i64 (batchOf top key ps)) ∧ G w w' := by
  obtain ⟨hl, HX⟩ := ho
  replace HX := Lib.hid HX
  unfold batchOf
  go_enter Tryd.func29, Tryd.ntmps29
  go_wp2_with fail
  refine (sum_2 0 key.size ps.length _ _ (by omega) (by omega) (by omega) (by omega) (by omega) (by omega) (by simp) (by simp)).mono ?_
  rintro e w1 ⟨rfl, rfl⟩
  have hq := sumTo_le2 0 key.size ps.length (by omega) (by omega) (by omega) (by omega)
  generalize hn0 : sumTo 0 [(key.size : Int), (ps.length : Int)] = n0 at *
  have HN := Lib.hid hn0
  clear hn0
  go_wp2_with fail
  generalize hW0 : w.alloc (.cells #[.string key, .slice A ps.length c] 26) = W0
  have hb2 : W0.cell? ⟨w.heap.size, 1, none⟩ = some (.slice A ps.length c) := by rw [← hW0]; simp
  have hz : w.heap.size < W0.heap.size := by rw [← hW0]; simp
  have hG0 : G w W0 := by rw [← hW0]; exact G.new _ _
  clear hW0
  replace hs := hs.g hB hG0
  go_loopw [5, 6] (fun t i wr => ∃ (k : Nat) (m : Int), k ≤ ps.length ∧ i = .int .i64 k ∧ t = .int .i64 m ∧ 0 ≤ m ∧ m ≤ 1099511627776 ∧ Hid (bulkTo top n0 ps = bulkTo top m (ps.drop k)) ∧ G W0 wr) (fun _ i _ => ps.length - (intOf i).toNat)
  case atStart => exact ⟨0, n0, Nat.zero_le _, rfl, rfl, hq.1, hq.2, by simp [Hid], G.new _ _⟩
  case round =>
    obtain ⟨k, m, hk, rfl, rfl, hm0, hm1, hh, hbel⟩ := hrel
    have hcb : ∀ w', G W0 w' → w'.cell? ⟨w.heap.size, 1, none⟩ = some (.slice A ps.length c) := fun w' h => (h.cell hz).trans hb2
    clear hb2
    by_cases hlt : k < ps.length
    · obtain ⟨p, hp⟩ : ∃ p, ps[k]? = some p := ⟨_, List.getElem?_eq_getElem hlt⟩
      obtain ⟨b, o, rfl, hbB, hcells⟩ := hs.1.get hp
      have hsd := Lib.hid (bulkTo_drop top m ps k p hp)
      have hpm := List.mem_of_getElem? hp
      obtain ⟨hx1, hx2, hx3⟩ := HX.out p hpm
      have hdat : ∀ w', G W0 w' → Sl strC 1 w' B p.A p.data := fun w' h => (hs.2 p hpm).g (by omega) h
      have hc0 : ∀ w', G W0 w' → w'.cell? ⟨b, o + k * 3, none⟩ = some (.string p.stream) := fun w' h => (h.cell (by omega)).trans (hcells 0 _ rfl)
      have hc2 : ∀ w', G W0 w' → w'.cell? ⟨b, o + k * 3 + 2, none⟩ = some (.slice p.A p.data.length p.c) := fun w' h => (h.cell (by omega)).trans (hcells 2 _ rfl)
      have hB2 : ∀ w', G W0 w' → B ≤ w'.heap.size := fun w' h => by have := h.size; omega
      clear hcells hs hp
      by_cases htop : m ≤ top
      · go_wp2_with fail
        obtain ⟨ht0, ht1⟩ := totalOf_le top p.data
        go_region_held3 (fun w' => G W0 w') (first | exact hbel.drew | exact G.keep hbw1 (by assumption) | exact G.alloc (by assumption) _ | assumption | fail) (first | (go_at_call 56; refine (total_any top p.data p.A p.c B _ (hB2 _ (by assumption)) hx2 hx3 (hdat _ (by assumption))).mono ?_; rintro e w1 ⟨rfl, hbw1⟩) | (go_at_call 28; refine (sum_2 m p.stream.size (totalOf top p.data) _ _ (by omega) (by omega) (by omega) (by omega) (by omega) (by omega) (by simp) (by simp)).mono ?_; rintro e w2 ⟨rfl, rfl⟩))
        go_wp2_with fail
        go_roundw
        case rel =>
          have hq2 := sumTo_le2 m p.stream.size (totalOf top p.data) (by omega) (by omega) (by omega) (by omega)
          exact ⟨k + 1, _, by omega, by go_num, rfl, hq2.1, hq2.2, by unfold Hid; rw [hh.out, hsd.out, if_pos (by omega)], by assumption⟩
        case measure => simp [intOf]; omega
      · go_wp2
        go_ret
        exact ⟨ret_int (by rw [HN.out, hh.out, hsd.out, if_neg (by omega)]), hG0.trans hbel⟩
    · go_wp2
      go_ret
      exact ⟨ret_int (by rw [HN.out, hh.out, List.drop_eq_nil_of_le (by omega)]; rfl), hG0.trans hbel⟩
end Go.Proofs.YtheogchkelmeeaaDoor

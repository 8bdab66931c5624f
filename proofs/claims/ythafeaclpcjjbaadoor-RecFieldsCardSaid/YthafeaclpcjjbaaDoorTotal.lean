/- penstockalike.Total: what it answers. Condition: the lengths fit an int. -/
import Derived.Test.YthafeaclpcjjbaaDoorSum
namespace Go.Proofs.YthafeaclpcjjbaaDoor
open Go.RowKit

/-- Total's loop: the sum of numbers, one by one, as long as it is not above top. -/
def upTo (top : Int) (n : Int) : List Int → Int
  | [] => n
  | m :: l => if n ≤ top then upTo top (sumTo n [m]) l else n
theorem upTo_drop (top n : Int) (xs : List Int) (k : Nat) (x : Int) (h : xs[k]? = some x) :
    upTo top n (xs.drop k) = if n ≤ top then upTo top (sumTo n [x]) (xs.drop (k + 1)) else n := by
  obtain ⟨hk, rfl⟩ := List.getElem?_eq_some_iff.1 h
  rw [List.drop_eq_getElem_cons hk]
  rfl
/-- What Total answers of texts. -/
def totalOf (top : Int) (ss : List ByteArray) : Int := upTo top (sumTo 0 [(ss.length : Int)]) (ss.map fun s => (s.size : Int))
theorem upTo_le (top n : Int) (h0 : 0 ≤ n) (h : n ≤ 1099511627776) : ∀ l : List Int, (∀ m ∈ l, 0 ≤ m) → 0 ≤ upTo top n l ∧ upTo top n l ≤ 1099511627776 := by
  intro l
  induction l generalizing n with
  | nil => intro _; exact ⟨h0, h⟩
  | cons m l ih =>
    intro hl
    have h2 : 0 ≤ m := hl m (by simp)
    have h3 := sumTo_le1 n m h0 h h2
    simp only [upTo]
    split
    · exact ih _ h3.1 h3.2 (fun k hk => hl k (by simp [hk]))
    · omega
theorem totalOf_le (top : Int) (ss : List ByteArray) : 0 ≤ totalOf top ss ∧ totalOf top ss ≤ 1099511627776 := by
  have h := sumTo_le1 0 ss.length (by omega) (by omega) (by omega)
  exact upTo_le top _ h.1 h.2 _ (fun m hm => by simp at hm; obtain ⟨s, _, rfl⟩ := hm; omega)

set_option maxHeartbeats 400000 in
theorem total_any (top : Int) (ss : List ByteArray) (A : Option Addr) (c B : Nat) (w : World) (hB : B ≤ w.heap.size) (hl : ss.length ≤ 9223372036854775807) (hx : ∀ s ∈ ss, s.size ≤ 9223372036854775807)
    (hs : Sl strC 1 w B A ss) :
    Calls Tryd.prog 43 #[.slice A ss.length c, .int .i64 top] w fun e w' => e = .returned (.int .i64 (totalOf top ss)) ∧ G w w' := by
  have HX := Lib.hid hx
  clear hx
  unfold totalOf
  go_enter Tryd.func43, Tryd.ntmps43
  go_wp2_with fail
  refine (sum_1 0 ss.length _ _ (by omega) (by omega) (by omega) (by omega) (by simp)).mono ?_
  rintro e w1 ⟨rfl, rfl⟩
  have hq := sumTo_le1 0 ss.length (by omega) (by omega) (by omega)
  generalize hn0 : sumTo 0 [(ss.length : Int)] = n0 at *
  have HN := Lib.hid hn0
  clear hn0
  go_wp2_with fail
  go_loopw [5, 6] (fun t i wr => ∃ (k : Nat) (m : Int), k ≤ ss.length ∧ i = .int .i64 k ∧ t = .int .i64 m ∧ 0 ≤ m ∧ m ≤ 1099511627776 ∧ Hid (upTo top n0 (ss.map fun s => (s.size : Int)) = upTo top m ((ss.map fun s => (s.size : Int)).drop k)) ∧ G w wr) (fun _ i _ => ss.length - (intOf i).toNat)
  case atStart => exact ⟨0, n0, Nat.zero_le _, rfl, rfl, hq.1, hq.2, by simp [Hid], G.new _ _⟩
  case round =>
    obtain ⟨k, m, hk, rfl, rfl, hm0, hm1, hh, hbel⟩ := hrel
    by_cases hlt : k < ss.length
    · obtain ⟨s, hs1⟩ : ∃ s, ss[k]? = some s := ⟨_, List.getElem?_eq_getElem hlt⟩
      obtain ⟨b, o, rfl, hb, hcell0⟩ := hs.str hs1
      have hcell : wr.cell? ⟨b, o + k, none⟩ = some (.string s) := (hbel.cell (by omega)).trans hcell0
      have hsd := Lib.hid (upTo_drop top m (ss.map fun s => (s.size : Int)) k s.size (by simp [hs1]))
      have hx0 := HX.out s (List.mem_of_getElem? hs1)
      clear hs hs1 hcell0
      go_wp2_with (go_at_call 19; refine (sum_1 m s.size _ _ (by omega) (by omega) (by omega) (by omega) (by simp)).mono ?_; rintro e w1 ⟨rfl, rfl⟩)
      · go_roundw
        case rel =>
          have hq2 := sumTo_le1 m s.size (by omega) (by omega) (by omega)
          exact ⟨k + 1, _, by omega, by go_num, rfl, hq2.1, hq2.2, by unfold Hid; rw [hh.out, hsd.out, if_pos (by omega)], hbel.alloc _⟩
        case measure => simp [intOf]; omega
      · go_ret
        exact ⟨ret_int (by rw [HN.out, hh.out, hsd.out, if_neg (by omega)]), hbel⟩
    · go_wp2
      go_ret
      exact ⟨ret_int (by rw [HN.out, hh.out, List.drop_eq_nil_of_le (by simp; omega)]; rfl), hbel⟩
end Go.Proofs.YthafeaclpcjjbaaDoor

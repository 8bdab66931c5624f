/- Several texts in one: Same, EvBulk. -/
import Derived.Test.YtheogchkelmeeaaDoorM8MsgAs
import Derived.Test.YtheogchkelmeeaaDoorM26MsgAs
/- penstockref7.SameEvents: whether two lists of events are one. Condition: the lengths fit an int. -/
namespace Go.Proofs.YtheogchkelmeeaaDoor
open Go.RowKit

def evsB (es fs : List Ev) : Bool := decide (es = fs)
theorem Sl.ev {w : World} {B : Nat} {A : Option Addr} {xs : List Ev} {k : Nat} {x : Ev} (h : Sl Ev.cells 7 w B A xs) (hx : xs[k]? = some x) :
    ∃ b o, A = some ⟨b, o, none⟩ ∧ b < B ∧ w.cell? ⟨b, o + k * 7, none⟩ = some (.string x.stream) ∧ w.cell? ⟨b, o + k * 7 + 1, none⟩ = some (.int .i64 x.version) ∧ w.cell? ⟨b, o + k * 7 + 2, none⟩ = some (.string x.data) ∧
      w.cell? ⟨b, o + k * 7 + 3, none⟩ = some (.int .i64 x.st.wall) ∧ w.cell? ⟨b, o + k * 7 + 4, none⟩ = some (.int .i64 x.st.logic) ∧ w.cell? ⟨b, o + k * 7 + 5, none⟩ = some (.int .i64 x.st.node) ∧ w.cell? ⟨b, o + k * 7 + 6, none⟩ = some (.int .i64 x.index) := by
  obtain ⟨b, o, e, hb, hc⟩ := h.get hx
  exact ⟨b, o, e, hb, hc 0 _ rfl, hc 1 _ rfl, hc 2 _ rfl, hc 3 _ rfl, hc 4 _ rfl, hc 5 _ rfl, hc 6 _ rfl⟩

/-- The cells of an event that is there, in every world that has grown from this one. -/
theorem Sl.evG {w : World} {B : Nat} {A : Option Addr} {xs : List Ev} {k : Nat} {x : Ev} (h : Sl Ev.cells 7 w B A xs) (hB : B ≤ w.heap.size) (hx : xs[k]? = some x) :
    ∃ b o, A = some ⟨b, o, none⟩ ∧ b < w.heap.size ∧ (∀ w', G w w' → w'.cell? ⟨b, o + k * 7, none⟩ = some (.string x.stream)) ∧ (∀ w', G w w' → w'.cell? ⟨b, o + k * 7 + 1, none⟩ = some (.int .i64 x.version)) ∧ (∀ w', G w w' → w'.cell? ⟨b, o + k * 7 + 2, none⟩ = some (.string x.data)) ∧
      (∀ w', G w w' → w'.cell? ⟨b, o + k * 7 + 3, none⟩ = some (.int .i64 x.st.wall)) ∧ (∀ w', G w w' → w'.cell? ⟨b, o + k * 7 + 4, none⟩ = some (.int .i64 x.st.logic)) ∧ (∀ w', G w w' → w'.cell? ⟨b, o + k * 7 + 5, none⟩ = some (.int .i64 x.st.node)) ∧ (∀ w', G w w' → w'.cell? ⟨b, o + k * 7 + 6, none⟩ = some (.int .i64 x.index)) := by
  obtain ⟨b, o, e, hb, c0, c1, c2, c3, c4, c5, c6⟩ := h.ev hx
  have hb' : b < w.heap.size := by omega
  exact ⟨b, o, e, hb', fun w' hg => (hg.cell hb').trans c0, fun w' hg => (hg.cell hb').trans c1, fun w' hg => (hg.cell hb').trans c2, fun w' hg => (hg.cell hb').trans c3, fun w' hg => (hg.cell hb').trans c4, fun w' hg => (hg.cell hb').trans c5, fun w' hg => (hg.cell hb').trans c6⟩

set_option maxHeartbeats 1000000 in
theorem sameEvents_any (es fs : List Ev) (A A2 : Option Addr) (c c2 B : Nat) (w : World) (hB : B ≤ w.heap.size) (_hl : es.length ≤ 9223372036854775807) (_hl2 : fs.length ≤ 9223372036854775807)
    (hs : Sl Ev.cells 7 w B A es) (hs2 : Sl Ev.cells 7 w B A2 fs) :
    Calls Tryd.prog 36 #[.slice A es.length c, .slice A2 fs.length c2] w fun e w' => e = .returned (.bool (evsB es fs)) ∧ G w w' := by
  by_cases hlen : es.length = fs.length
  · have hlb : ((es.length : Int) != (fs.length : Int)) = false := by rw [bne_eq_false_iff_eq]; omega
    go_enter Tryd.func36, Tryd.ntmps36
    have hle : es.length ≤ fs.length := by omega
    replace hlen := Lib.hid hlen
    go_wp2_with fail
    go_loopw [5] (fun i wr => ∃ (k : Nat), k ≤ es.length ∧ i = .int .i64 k ∧ G w wr ∧ Hid (es.take k = fs.take k)) (fun i _ => es.length - (intOf i).toNat)
    case atStart => exact ⟨0, Nat.zero_le _, rfl, G.refl _, by simp [Hid]⟩
    case round =>
      obtain ⟨k, hk, rfl, hg, hh⟩ := hrel
      by_cases hlt : k < es.length
      · obtain ⟨⟨s1, v1, d1, ⟨x1, y1, z1⟩, i1⟩, ha⟩ : ∃ a, es[k]? = some a := ⟨_, List.getElem?_eq_getElem hlt⟩
        obtain ⟨⟨s2, v2, d2, ⟨x2, y2, z2⟩, i2⟩, hb⟩ : ∃ b, fs[k]? = some b := ⟨_, List.getElem?_eq_getElem (by omega)⟩
        obtain ⟨b1, o1, rfl, hb1, _⟩ := hs.ev ha
        obtain ⟨b2, o2, rfl, hb2, _⟩ := hs2.ev hb
        obtain ⟨_, _, e1, _, c10, c11, c12, c13, c14, c15, c16⟩ := (hs.g hB hg).ev ha
        cases e1
        obtain ⟨_, _, e1, _, c20, c21, c22, c23, c24, c25, c26⟩ := (hs2.g hB hg).ev hb
        cases e1
        have hnq := @ev_neq
        replace ha := Lib.hid ha
        replace hb := Lib.hid hb
        clear hs hs2
        go_wp2_with fail
        go_quiet (fail)
        clear hnq
        go_wp2_with fail
        · go_ret
          rename_i hq
          refine ⟨ret_bool ?_, hg.drewN _⟩
          unfold evsB
          rw [decide_eq_false]
          rintro rfl
          have h3 := ha.out.symm.trans hb.out
          simp [evB] at hq
          simp at h3
          simp [h3] at hq
        · rename_i hq
          go_roundw
          case rel =>
            refine ⟨k + 1, by omega, by go_num, hg.drewN _, ?_⟩
            unfold Hid
            have he : es[k]? = fs[k]? := by
              rw [ha.out, hb.out]
              simp [evB] at hq
              simp [hq]
            rw [List.take_add_one, List.take_add_one, hh.out, he]
          case measure => simp [intOf]; omega
      · go_wp2_with fail
        go_ret
        exact ⟨ret_bool (by
          unfold evsB
          rw [decide_eq_true]
          have h1 : es.take k = es := List.take_of_length_le (by omega)
          have h2 : fs.take k = fs := List.take_of_length_le (by have := hlen.out; omega)
          rw [← h1, ← h2]; exact hh.out), hg⟩
  · have hlb : ((es.length : Int) != (fs.length : Int)) = true := by rw [bne_iff_ne]; omega
    go_enter Tryd.func36, Tryd.ntmps36
    go_wp2_with fail
    go_ret
    exact ⟨ret_bool (by unfold evsB; rw [decide_eq_false]; intro h; exact hlen (by rw [h])), G.refl _⟩

theorem sameEvents_self (es : List Ev) (A A2 : Option Addr) (c c2 B : Nat) (w : World) (hB : B ≤ w.heap.size) (hl : es.length ≤ 9223372036854775807)
    (hs : Sl Ev.cells 7 w B A es) (hs2 : Sl Ev.cells 7 w B A2 es) :
    Calls Tryd.prog 36 #[.slice A es.length c, .slice A2 es.length c2] w fun e w' => e = .returned (.bool true) ∧ G w w' :=
  (sameEvents_any es es A A2 c c2 B w hB hl hl hs hs2).mono fun _ _ ⟨he, hg⟩ => ⟨by rw [he]; unfold evsB; simp, hg⟩
end Go.Proofs.YtheogchkelmeeaaDoor
/- penstockalike.Events: what it answers. Condition: lengths fit an int. -/
namespace Go.Proofs.YtheogchkelmeeaaDoor
open Go.RowKit

/-- Events' loop. -/
def evBulkTo (top : Int) (n : Int) : List Ev → Int
  | [] => n
  | e :: l => if n ≤ top then evBulkTo top (sumTo n [(e.stream.size : Int), (e.data.size : Int)]) l else n
def evBulk (top : Int) (es : List Ev) : Int := evBulkTo top (sumTo 0 [(es.length : Int)]) es
theorem evBulkTo_drop (top n : Int) (xs : List Ev) (k : Nat) (x : Ev) (h : xs[k]? = some x) :
    evBulkTo top n (xs.drop k) = if n ≤ top then evBulkTo top (sumTo n [(x.stream.size : Int), (x.data.size : Int)]) (xs.drop (k + 1)) else n := by
  obtain ⟨hk, rfl⟩ := List.getElem?_eq_some_iff.1 h
  rw [List.drop_eq_getElem_cons hk]
  rfl
theorem evBulkTo_le (top n : Int) (h0 : 0 ≤ n) (h : n ≤ 1099511627776) : ∀ l : List Ev, 0 ≤ evBulkTo top n l ∧ evBulkTo top n l ≤ 1099511627776 := by
  intro l
  induction l generalizing n with
  | nil => exact ⟨h0, h⟩
  | cons m l ih =>
    have h3 := sumTo_le2 n m.stream.size m.data.size h0 h (by omega) (by omega)
    simp only [evBulkTo]
    split
    · exact ih _ h3.1 h3.2
    · omega
theorem evBulk_le (top : Int) (es : List Ev) : 0 ≤ evBulk top es ∧ evBulk top es ≤ 1099511627776 := by
  have h := sumTo_le1 0 es.length (by omega) (by omega) (by omega)
  exact evBulkTo_le top _ h.1 h.2 _
def EvsOk (es : List Ev) : Prop := ∀ e ∈ es, e.stream.size ≤ 9223372036854775807 ∧ e.data.size ≤ 9223372036854775807

set_option maxHeartbeats 1000000 in
theorem events_any (top : Int) (es : List Ev) (A : Option Addr) (c B : Nat) (w : World) (hB : B ≤ w.heap.size) (hl : es.length ≤ 9223372036854775807) (hx : EvsOk es)
    (hs : Sl Ev.cells 7 w B A es) :
    Calls Tryd.prog 31 #[.slice A es.length c, .int .i64 top] w fun e w' => e = .returned (.int .i64 (evBulk top es)) ∧ G w w' := by
  have HX := Lib.hid hx
  clear hx
  unfold evBulk
  go_enter Tryd.func31, Tryd.ntmps31
  go_wp2_with fail
  refine (sum_1 0 es.length _ _ (by omega) (by omega) (by omega) (by omega) (by simp)).mono ?_
  rintro e w1 ⟨rfl, rfl⟩
  have hq := sumTo_le1 0 es.length (by omega) (by omega) (by omega)
  generalize hn0 : sumTo 0 [(es.length : Int)] = n0 at *
  have HN := Lib.hid hn0
  clear hn0
  go_wp2_with fail
  go_loopw [5, 6] (fun t i wr => ∃ (k : Nat) (m : Int), k ≤ es.length ∧ i = .int .i64 k ∧ t = .int .i64 m ∧ 0 ≤ m ∧ m ≤ 1099511627776 ∧ Hid (evBulkTo top n0 es = evBulkTo top m (es.drop k)) ∧ G w wr) (fun _ i _ => es.length - (intOf i).toNat)
  case atStart => exact ⟨0, n0, Nat.zero_le _, rfl, rfl, hq.1, hq.2, by simp [Hid], G.new _ _⟩
  case round =>
    obtain ⟨k, m, hk, rfl, rfl, hm0, hm1, hh, hg⟩ := hrel
    by_cases hlt : k < es.length
    · obtain ⟨x, hx1⟩ : ∃ x, es[k]? = some x := ⟨_, List.getElem?_eq_getElem hlt⟩
      have hsd := Lib.hid (evBulkTo_drop top m es k x hx1)
      obtain ⟨hz0, hz2⟩ := HX.out x (List.mem_of_getElem? hx1)
      obtain ⟨xs, xv, xd, xt, xi⟩ := x
      obtain ⟨b, o, rfl, hb, c0, _, c2, _⟩ := hs.evG hB hx1
      replace hx1 := Lib.hid hx1
      clear hs
      dsimp only at hz0 hz2 c0 c2 hsd
      by_cases htop : m ≤ top
      · go_wp2_with fail
        go_region_held3 (fun w' => G w w') (first | exact hg.drew | exact G.alloc (by assumption) _ | assumption | fail) (first | (go_at_call 28; refine (sum_2 m xs.size xd.size _ _ (by omega) (by omega) (by omega) (by omega) (by omega) (by omega) (by simp) (by simp)).mono ?_; rintro e w2 ⟨rfl, rfl⟩))
        go_wp2_with fail
        go_roundw
        case rel =>
          have hq2 := sumTo_le2 m xs.size xd.size (by omega) (by omega) (by omega) (by omega)
          exact ⟨k + 1, _, by omega, by go_num, rfl, hq2.1, hq2.2, by unfold Hid; rw [hh.out, hsd.out, if_pos (by omega)], by assumption⟩
        case measure => simp [intOf]; omega
      · go_wp2_with fail
        go_ret
        exact ⟨ret_int (by rw [HN.out, hh.out, hsd.out, if_neg (by omega)]), hg⟩
    · go_wp2_with fail
      go_ret
      exact ⟨ret_int (by rw [HN.out, hh.out, List.drop_eq_nil_of_le (by omega)]; rfl), hg⟩
end Go.Proofs.YtheogchkelmeeaaDoor

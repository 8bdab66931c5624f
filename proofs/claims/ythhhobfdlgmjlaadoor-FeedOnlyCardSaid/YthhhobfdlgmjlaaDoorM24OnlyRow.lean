/- Several texts in one: Same, SlEqual, Sum. -/
import Derived.Test.YthhhobfdlgmjlaaDoorEv
import Derived.Test.YthhhobfdlgmjlaaDoorBase
/- penstockref7.SameEvents: whether two lists of events are one. Condition: the lengths fit an int. -/
namespace Go.Proofs.YthhhobfdlgmjlaaDoor
open Go.RowKit

def evsB (es fs : List Ev) : Bool := decide (es = fs)
theorem Sl.ev {w : World} {B : Nat} {A : Option Addr} {xs : List Ev} {k : Nat} {x : Ev} (h : Sl Ev.cells 7 w B A xs) (hx : xs[k]? = some x) :
    ∃ b o, A = some ⟨b, o, none⟩ ∧ b < B ∧ w.cell? ⟨b, o + k * 7, none⟩ = some (.string x.stream) ∧ w.cell? ⟨b, o + k * 7 + 1, none⟩ = some (.int .i64 x.version) ∧ w.cell? ⟨b, o + k * 7 + 2, none⟩ = some (.string x.data) ∧
      w.cell? ⟨b, o + k * 7 + 3, none⟩ = some (.int .i64 x.st.wall) ∧ w.cell? ⟨b, o + k * 7 + 4, none⟩ = some (.int .i64 x.st.logic) ∧ w.cell? ⟨b, o + k * 7 + 5, none⟩ = some (.int .i64 x.st.node) ∧ w.cell? ⟨b, o + k * 7 + 6, none⟩ = some (.int .i64 x.index) := by
  obtain ⟨b, o, e, hb, hc⟩ := h.get hx
  exact ⟨b, o, e, hb, hc 0 _ rfl, hc 1 _ rfl, hc 2 _ rfl, hc 3 _ rfl, hc 4 _ rfl, hc 5 _ rfl, hc 6 _ rfl⟩

/-- The cells of an event that is there, in every world that has grown from this one. -/
theorem Sl.evG {w : World} {B : Nat} {A : Option Addr} {xs : List Ev} {k : Nat} {x : Ev} (h : Sl Ev.cells 7 w B A xs) (hB : B ≤ w.heap.size) (hx : xs[k]? = some x) :
    ∃ b o, A = some ⟨b, o, none⟩ ∧ b < w.heap.size ∧ (∀ w', G w w' → w'.cell? ⟨b, o + k * 7, none⟩ = some (.string x.stream)) ∧ (∀ w', G w w' → w'.cell? ⟨b, o + k * 7 + 1, none⟩ = some (.int .i64 x.version)) ∧ (∀ w', G w w' → w'.cell? ⟨b, o + k * 7 + 2, none⟩ = some (.string x.data)) ∧
      (∀ w', G w w' → w'.cell? ⟨b, o + k * 7 + 3, none⟩ = some (.int .i64 x.st.wall)) ∧ (∀ w', G w w' → w'.cell? ⟨b, o + k * 7 + 4, none⟩ = some (.int .i64 x.st.logic)) ∧ (∀ w', G w w' → w'.cell? ⟨b, o + k * 7 + 5, none⟩ = some (.int .i64 x.st.node)) ∧ (∀ w', G w w' → w'.cell? ⟨b, o + k * 7 + 6, none⟩ = some (.int .i64 x.index)) := by
  obtain ⟨b, o, e, hb, c0, c1, c2, c3, c4, c5, c6⟩ := h.ev hx
  have hb' : b < w.heap.size := by omega
  exact ⟨b, o, e, hb', fun w' hg => (hg.cell hb').trans c0, fun w' hg => (hg.cell hb').trans c1, fun w' hg => (hg.cell hb').trans c2, fun w' hg => (hg.cell hb').trans c3, fun w' hg => (hg.cell hb').trans c4, fun w' hg => (hg.cell hb').trans c5, fun w' hg => (hg.cell hb').trans c6⟩

set_option maxHeartbeats 1000000 in
theorem sameEvents_any (es fs : List Ev) (A A2 : Option Addr) (c c2 B : Nat) (w : World) (hB : B ≤ w.heap.size) (_hl : es.length ≤ 9223372036854775807) (_hl2 : fs.length ≤ 9223372036854775807)
    (hs : Sl Ev.cells 7 w B A es) (hs2 : Sl Ev.cells 7 w B A2 fs) :
    Calls Tryd.prog 19 #[.slice A es.length c, .slice A2 fs.length c2] w fun e w' => e = .returned (.bool (evsB es fs)) ∧ G w w' := by
  by_cases hlen : es.length = fs.length
  · have hlb : ((es.length : Int) != (fs.length : Int)) = false := by rw [bne_eq_false_iff_eq]; omega
    go_enter Tryd.func19, Tryd.ntmps19
    have hle : es.length ≤ fs.length := by omega
    replace hlen := Lib.hid hlen
    go_wp2_with fail
    go_loopw [5] (fun i wr => ∃ (k : Nat), k ≤ es.length ∧ i = .int .i64 k ∧ G w wr ∧ Hid (es.take k = fs.take k)) (fun i _ => es.length - (intOf i).toNat)
    case atStart => exact ⟨0, Nat.zero_le _, rfl, G.refl _, by simp [Hid]⟩
    case round =>
      obtain ⟨k, hk, rfl, hg, hh⟩ := hrel
      by_cases hlt : k < es.length
      · obtain ⟨⟨s1, v1, d1, ⟨x1, y1, z1⟩, i1⟩, ha⟩ : ∃ a, es[k]? = some a := ⟨_, List.getElem?_eq_getElem hlt⟩
        obtain ⟨⟨s2, v2, d2, ⟨x2, y2, z2⟩, i2⟩, hb⟩ : ∃ b, fs[k]? = some b := ⟨_, List.getElem?_eq_getElem (by omega)⟩
        obtain ⟨b1, o1, rfl, hb1, _⟩ := hs.ev ha
        obtain ⟨b2, o2, rfl, hb2, _⟩ := hs2.ev hb
        obtain ⟨_, _, e1, _, c10, c11, c12, c13, c14, c15, c16⟩ := (hs.g hB hg).ev ha
        cases e1
        obtain ⟨_, _, e1, _, c20, c21, c22, c23, c24, c25, c26⟩ := (hs2.g hB hg).ev hb
        cases e1
        have hnq := @ev_neq
        replace ha := Lib.hid ha
        replace hb := Lib.hid hb
        clear hs hs2
        go_wp2_with fail
        go_quiet (fail)
        clear hnq
        go_wp2_with fail
        · go_ret
          rename_i hq
          refine ⟨ret_bool ?_, hg.drewN _⟩
          unfold evsB
          rw [decide_eq_false]
          rintro rfl
          have h3 := ha.out.symm.trans hb.out
          simp [evB] at hq
          simp at h3
          simp [h3] at hq
        · rename_i hq
          go_roundw
          case rel =>
            refine ⟨k + 1, by omega, by go_num, hg.drewN _, ?_⟩
            unfold Hid
            have he : es[k]? = fs[k]? := by
              rw [ha.out, hb.out]
              simp [evB] at hq
              simp [hq]
            rw [List.take_add_one, List.take_add_one, hh.out, he]
          case measure => simp [intOf]; omega
      · go_wp2_with fail
        go_ret
        exact ⟨ret_bool (by
          unfold evsB
          rw [decide_eq_true]
          have h1 : es.take k = es := List.take_of_length_le (by omega)
          have h2 : fs.take k = fs := List.take_of_length_le (by have := hlen.out; omega)
          rw [← h1, ← h2]; exact hh.out), hg⟩
  · have hlb : ((es.length : Int) != (fs.length : Int)) = true := by rw [bne_iff_ne]; omega
    go_enter Tryd.func19, Tryd.ntmps19
    go_wp2_with fail
    go_ret
    exact ⟨ret_bool (by unfold evsB; rw [decide_eq_false]; intro h; exact hlen (by rw [h])), G.refl _⟩

theorem sameEvents_self (es : List Ev) (A A2 : Option Addr) (c c2 B : Nat) (w : World) (hB : B ≤ w.heap.size) (hl : es.length ≤ 9223372036854775807)
    (hs : Sl Ev.cells 7 w B A es) (hs2 : Sl Ev.cells 7 w B A2 es) :
    Calls Tryd.prog 19 #[.slice A es.length c, .slice A2 es.length c2] w fun e w' => e = .returned (.bool true) ∧ G w w' :=
  (sameEvents_any es es A A2 c c2 B w hB hl hl hs hs2).mono fun _ _ ⟨he, hg⟩ => ⟨by rw [he]; unfold evsB; simp, hg⟩
end Go.Proofs.YthhhobfdlgmjlaaDoor
/- slices.Equal of two lists of events: what it answers. Condition: lengths that fit an int. -/
namespace Go.Proofs.YthhhobfdlgmjlaaDoor
open Go.RowKit

end Go.Proofs.YthhhobfdlgmjlaaDoor
/- penstockalike.Sum: what it answers. Condition: the numbers are not below 0. -/
namespace Go.Proofs.YthhhobfdlgmjlaaDoor
open Go.RowKit

theorem sumTo_drop (n : Int) (xs : List Int) (k : Nat) (x : Int) (h : xs[k]? = some x) :
    sumTo n (xs.drop k) = if n + x ≤ 1099511627776 then sumTo (n + x) (xs.drop (k + 1)) else 1099511627776 := by
  obtain ⟨hk, rfl⟩ := List.getElem?_eq_some_iff.1 h
  rw [List.drop_eq_getElem_cons hk]
  rfl

set_option maxHeartbeats 400000 in
theorem sum_any (n : Int) (xs : List Int) (A : Option Addr) (c B : Nat) (w : World) (h0 : 0 ≤ n) (h1 : n ≤ 1099511627776) (hx : ∀ x ∈ xs, 0 ≤ x ∧ x ≤ 9223372036854775807) (hl : xs.length ≤ 9223372036854775807)
    (hs : Sl intC 1 w B A xs) :
    Calls Tryd.prog 25 #[.int .i64 n, .slice A xs.length c] w fun e w' => e = .returned (.int .i64 (sumTo n xs)) ∧ w = w' := by
  have HX := Lib.hid hx
  clear hx
  go_enter Tryd.func25, Tryd.ntmps25
  go_wp2
  go_loop [0, 5] (fun t i => ∃ (k : Nat) (m : Int), k ≤ xs.length ∧ i = .int .i64 k ∧ t = .int .i64 m ∧ 0 ≤ m ∧ m ≤ 1099511627776 ∧ Hid (sumTo n xs = sumTo m (xs.drop k))) (fun _ i => xs.length - (intOf i).toNat)
  case atStart => exact ⟨0, n, Nat.zero_le _, rfl, rfl, h0, h1, by simp [Hid]⟩
  case round =>
    obtain ⟨k, m, hk, rfl, rfl, hm0, hm1, hh⟩ := hrel
    by_cases hlt : k < xs.length
    · obtain ⟨x, hxk⟩ : ∃ x, xs[k]? = some x := ⟨_, List.getElem?_eq_getElem hlt⟩
      obtain ⟨b, o, rfl, hb, hcell⟩ := hs.int hxk
      have hsd := Lib.hid (sumTo_drop m xs k x hxk)
      obtain ⟨hx0, hx1⟩ := HX.out x (List.mem_of_getElem? hxk)
      clear hs hxk
      go_wp2
      · go_ret
        exact ⟨ret_int (by rw [hh.out, hsd.out, if_neg (by omega)]), rfl⟩
      · go_round
        case rel => exact ⟨k + 1, m + x, by omega, by go_num, rfl, by omega, by omega, by unfold Hid; rw [hh.out, hsd.out, if_pos (by omega)]⟩
        case measure => simp [intOf]; omega
    · go_wp2
      go_ret
      exact ⟨ret_int (by rw [hh.out, List.drop_eq_nil_of_le (by omega)]; rfl), rfl⟩

theorem sumTo_one (n m : Int) : sumTo n [m] = if n + m ≤ 1099511627776 then n + m else 1099511627776 := rfl
/-- A row of one, two, three cells reads as their list. -/
theorem sl_1 {w : World} {b : Nat} {m : Int} (hc : w.cell? ⟨b, 0, none⟩ = some (.int .i64 m)) : Sl intC 1 w (b + 1) (some ⟨b, 0, none⟩) [m] := fun _ =>
  ⟨b, 0, rfl, by omega, fun k x hx j u hu => by
    rcases j with _ | j
    · rcases k with _ | k
      · simp at hx; subst hx; simp [intC] at hu; subst hu; exact hc
      · simp at hx
    · simp [intC] at hu⟩
theorem sl_2 {w : World} {b : Nat} {m m2 : Int} (hc : w.cell? ⟨b, 0, none⟩ = some (.int .i64 m)) (hc2 : w.cell? ⟨b, 1, none⟩ = some (.int .i64 m2)) : Sl intC 1 w (b + 1) (some ⟨b, 0, none⟩) [m, m2] := fun _ =>
  ⟨b, 0, rfl, by omega, fun k x hx j u hu => by
    rcases j with _ | j
    · rcases k with _ | _ | k
      · simp at hx; subst hx; simp [intC] at hu; subst hu; exact hc
      · simp at hx; subst hx; simp [intC] at hu; subst hu; exact hc2
      · simp at hx
    · simp [intC] at hu⟩
theorem sl_3 {w : World} {b : Nat} {m m2 m3 : Int} (hc : w.cell? ⟨b, 0, none⟩ = some (.int .i64 m)) (hc2 : w.cell? ⟨b, 1, none⟩ = some (.int .i64 m2)) (hc3 : w.cell? ⟨b, 2, none⟩ = some (.int .i64 m3)) :
    Sl intC 1 w (b + 1) (some ⟨b, 0, none⟩) [m, m2, m3] := fun _ =>
  ⟨b, 0, rfl, by omega, fun k x hx j u hu => by
    rcases j with _ | j
    · rcases k with _ | _ | _ | k
      · simp at hx; subst hx; simp [intC] at hu; subst hu; exact hc
      · simp at hx; subst hx; simp [intC] at hu; subst hu; exact hc2
      · simp at hx; subst hx; simp [intC] at hu; subst hu; exact hc3
      · simp at hx
    · simp [intC] at hu⟩
/-- Sum of one number more, in a block of its own. -/
theorem sum_1 (n m : Int) (b : Nat) (w : World) (h0 : 0 ≤ n) (h1 : n ≤ 1099511627776) (hm : 0 ≤ m) (hm2 : m ≤ 9223372036854775807) (hc : w.cell? ⟨b, 0, none⟩ = some (.int .i64 m)) :
    Calls Tryd.prog 25 #[.int .i64 n, .slice (some ⟨b, 0, none⟩) 1 1] w fun e w' => e = .returned (.int .i64 (sumTo n [m])) ∧ w = w' :=
  sum_any n [m] _ 1 (b + 1) w h0 h1 (fun x hx => by simp at hx; omega) (by simp) (sl_1 hc)
/-- Sum of two numbers more, in a block of their own. -/
theorem sum_2 (n m m2 : Int) (b : Nat) (w : World) (h0 : 0 ≤ n) (h1 : n ≤ 1099511627776) (hm : 0 ≤ m) (hm2 : m ≤ 9223372036854775807) (hn : 0 ≤ m2) (hn2 : m2 ≤ 9223372036854775807)
    (hc : w.cell? ⟨b, 0, none⟩ = some (.int .i64 m)) (hc2 : w.cell? ⟨b, 1, none⟩ = some (.int .i64 m2)) :
    Calls Tryd.prog 25 #[.int .i64 n, .slice (some ⟨b, 0, none⟩) 2 2] w fun e w' => e = .returned (.int .i64 (sumTo n [m, m2])) ∧ w = w' :=
  sum_any n [m, m2] _ 2 (b + 1) w h0 h1 (fun x hx => by simp at hx; omega) (by simp) (sl_2 hc hc2)
/-- Sum of three numbers more, in a block of their own. -/
theorem sum_3 (n m m2 m3 : Int) (b : Nat) (w : World) (h0 : 0 ≤ n) (h1 : n ≤ 1099511627776) (hm : 0 ≤ m) (hm2 : m ≤ 9223372036854775807) (hn : 0 ≤ m2) (hn2 : m2 ≤ 9223372036854775807)
    (ho : 0 ≤ m3) (ho2 : m3 ≤ 9223372036854775807)
    (hc : w.cell? ⟨b, 0, none⟩ = some (.int .i64 m)) (hc2 : w.cell? ⟨b, 1, none⟩ = some (.int .i64 m2)) (hc3 : w.cell? ⟨b, 2, none⟩ = some (.int .i64 m3)) :
    Calls Tryd.prog 25 #[.int .i64 n, .slice (some ⟨b, 0, none⟩) 3 3] w fun e w' => e = .returned (.int .i64 (sumTo n [m, m2, m3])) ∧ w = w' :=
  sum_any n [m, m2, m3] _ 3 (b + 1) w h0 h1 (fun x hx => by simp at hx; omega) (by simp) (sl_3 hc hc2 hc3)
theorem sumTo_le (n : Int) (h0 : 0 ≤ n) (h : n ≤ 1099511627776) : ∀ l : List Int, (∀ m ∈ l, 0 ≤ m) → 0 ≤ sumTo n l ∧ sumTo n l ≤ 1099511627776 := by
  intro l
  induction l generalizing n with
  | nil => intro _; exact ⟨h0, h⟩
  | cons m l ih =>
    intro hl
    have h2 : 0 ≤ m := hl m (by simp)
    simp only [sumTo]
    split
    · exact ih (n + m) (by omega) (by omega) (fun k hk => hl k (by simp [hk]))
    · omega
theorem sumTo_le1 (n m : Int) (h0 : 0 ≤ n) (h : n ≤ 1099511627776) (hm : 0 ≤ m) : 0 ≤ sumTo n [m] ∧ sumTo n [m] ≤ 1099511627776 :=
  sumTo_le n h0 h [m] (fun k hk => by simp at hk; omega)
theorem sumTo_le2 (n m m2 : Int) (h0 : 0 ≤ n) (h : n ≤ 1099511627776) (hm : 0 ≤ m) (hm2 : 0 ≤ m2) : 0 ≤ sumTo n [m, m2] ∧ sumTo n [m, m2] ≤ 1099511627776 :=
  sumTo_le n h0 h [m, m2] (fun k hk => by simp at hk; omega)
end Go.Proofs.YthhhobfdlgmjlaaDoor

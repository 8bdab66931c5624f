/- penstockalike.Sum: what it answers. Condition: the numbers are not below 0. -/
import Derived.Test.YtheogchkelmeeaaDoorBase
namespace Go.Proofs.YtheogchkelmeeaaDoor
open Go.RowKit

theorem sumTo_drop (n : Int) (xs : List Int) (k : Nat) (x : Int) (h : xs[k]? = some x) :
    sumTo n (xs.drop k) = if n + x ≤ 1099511627776 then sumTo (n + x) (xs.drop (k + 1)) else 1099511627776 := by
  obtain ⟨hk, rfl⟩ := List.getElem?_eq_some_iff.1 h
  rw [List.drop_eq_getElem_cons hk]
  rfl

set_option maxHeartbeats 400000 in
theorem sum_any (n : Int) (xs : List Int) (A : Option Addr) (c B : Nat) (w : World) (h0 : 0 ≤ n) (h1 : n ≤ 1099511627776) (hx : ∀ x ∈ xs, 0 ≤ x ∧ x ≤ 9223372036854775807) (hl : xs.length ≤ 9223372036854775807)
    (hs : Sl intC 1 w B A xs) :
    Calls Tryd.prog 28 #[.int .i64 n, .slice A xs.length c] w fun e w' => e = .returned (.int .i64 (sumTo n xs)) ∧ w = w' := by
  have HX := Lib.hid hx
  clear hx
  go_enter Tryd.func28, Tryd.ntmps28
  go_wp2
  go_loop [0, 5] (fun t i => ∃ (k : Nat) (m : Int), k ≤ xs.length ∧ i = .int .i64 k ∧ t = .int .i64 m ∧ 0 ≤ m ∧ m ≤ 1099511627776 ∧ Hid (sumTo n xs = sumTo m (xs.drop k))) (fun _ i => xs.length - (intOf i).toNat)
  case atStart => exact ⟨0, n, Nat.zero_le _, rfl, rfl, h0, h1, by simp [Hid]⟩
  case round =>
    obtain ⟨k, m, hk, rfl, rfl, hm0, hm1, hh⟩ := hrel
    by_cases hlt : k < xs.length
    · obtain ⟨x, hxk⟩ : ∃ x, xs[k]? = some x := ⟨_, List.getElem?_eq_getElem hlt⟩
      obtain ⟨b, o, rfl, hb, hcell⟩ := hs.int hxk
      have hsd := Lib.hid (sumTo_drop m xs k x hxk)
      obtain ⟨hx0, hx1⟩ := HX.out x (List.mem_of_getElem? hxk)
      clear hs hxk
      go_wp2
      · go_ret
        exact ⟨ret_int (by rw [hh.out, hsd.out, if_neg (by omega)]), rfl⟩
      · go_round
        case rel => exact ⟨k + 1, m + x, by omega, by go_num, rfl, by omega, by omega, by unfold Hid; rw [hh.out, hsd.out, if_pos (by omega)]⟩
        case measure => simp [intOf]; omega
    · go_wp2
      go_ret
      exact ⟨ret_int (by rw [hh.out, List.drop_eq_nil_of_le (by omega)]; rfl), rfl⟩

theorem sumTo_one (n m : Int) : sumTo n [m] = if n + m ≤ 1099511627776 then n + m else 1099511627776 := rfl
/-- A row of one, two, three cells reads as their list. -/
theorem sl_1 {w : World} {b : Nat} {m : Int} (hc : w.cell? ⟨b, 0, none⟩ = some (.int .i64 m)) : Sl intC 1 w (b + 1) (some ⟨b, 0, none⟩) [m] := fun _ =>
  ⟨b, 0, rfl, by omega, fun k x hx j u hu => by
    rcases j with _ | j
    · rcases k with _ | k
      · simp at hx; subst hx; simp [intC] at hu; subst hu; exact hc
      · simp at hx
    · simp [intC] at hu⟩
theorem sl_2 {w : World} {b : Nat} {m m2 : Int} (hc : w.cell? ⟨b, 0, none⟩ = some (.int .i64 m)) (hc2 : w.cell? ⟨b, 1, none⟩ = some (.int .i64 m2)) : Sl intC 1 w (b + 1) (some ⟨b, 0, none⟩) [m, m2] := fun _ =>
  ⟨b, 0, rfl, by omega, fun k x hx j u hu => by
    rcases j with _ | j
    · rcases k with _ | _ | k
      · simp at hx; subst hx; simp [intC] at hu; subst hu; exact hc
      · simp at hx; subst hx; simp [intC] at hu; subst hu; exact hc2
      · simp at hx
    · simp [intC] at hu⟩
theorem sl_3 {w : World} {b : Nat} {m m2 m3 : Int} (hc : w.cell? ⟨b, 0, none⟩ = some (.int .i64 m)) (hc2 : w.cell? ⟨b, 1, none⟩ = some (.int .i64 m2)) (hc3 : w.cell? ⟨b, 2, none⟩ = some (.int .i64 m3)) :
    Sl intC 1 w (b + 1) (some ⟨b, 0, none⟩) [m, m2, m3] := fun _ =>
  ⟨b, 0, rfl, by omega, fun k x hx j u hu => by
    rcases j with _ | j
    · rcases k with _ | _ | _ | k
      · simp at hx; subst hx; simp [intC] at hu; subst hu; exact hc
      · simp at hx; subst hx; simp [intC] at hu; subst hu; exact hc2
      · simp at hx; subst hx; simp [intC] at hu; subst hu; exact hc3
      · simp at hx
    · simp [intC] at hu⟩
/-- Sum of one number more, in a block of its own. -/
theorem sum_1 (n m : Int) (b : Nat) (w : World) (h0 : 0 ≤ n) (h1 : n ≤ 1099511627776) (hm : 0 ≤ m) (hm2 : m ≤ 9223372036854775807) (hc : w.cell? ⟨b, 0, none⟩ = some (.int .i64 m)) :
    Calls Tryd.prog 28 #[.int .i64 n, .slice (some ⟨b, 0, none⟩) 1 1] w fun e w' => e = .returned (.int .i64 (sumTo n [m])) ∧ w = w' :=
  sum_any n [m] _ 1 (b + 1) w h0 h1 (fun x hx => by simp at hx; omega) (by simp) (sl_1 hc)
/-- Sum of two numbers more, in a block of their own. -/
theorem sum_2 (n m m2 : Int) (b : Nat) (w : World) (h0 : 0 ≤ n) (h1 : n ≤ 1099511627776) (hm : 0 ≤ m) (hm2 : m ≤ 9223372036854775807) (hn : 0 ≤ m2) (hn2 : m2 ≤ 9223372036854775807)
    (hc : w.cell? ⟨b, 0, none⟩ = some (.int .i64 m)) (hc2 : w.cell? ⟨b, 1, none⟩ = some (.int .i64 m2)) :
    Calls Tryd.prog 28 #[.int .i64 n, .slice (some ⟨b, 0, none⟩) 2 2] w fun e w' => e = .returned (.int .i64 (sumTo n [m, m2])) ∧ w = w' :=
  sum_any n [m, m2] _ 2 (b + 1) w h0 h1 (fun x hx => by simp at hx; omega) (by simp) (sl_2 hc hc2)
/-- Sum of three numbers more, in a block of their own. -/
theorem sum_3 (n m m2 m3 : Int) (b : Nat) (w : World) (h0 : 0 ≤ n) (h1 : n ≤ 1099511627776) (hm : 0 ≤ m) (hm2 : m ≤ 9223372036854775807) (hn : 0 ≤ m2) (hn2 : m2 ≤ 9223372036854775807)
    (ho : 0 ≤ m3) (ho2 : m3 ≤ 9223372036854775807)
    (hc : w.cell? ⟨b, 0, none⟩ = some (.int .i64 m)) (hc2 : w.cell? ⟨b, 1, none⟩ = some (.int .i64 m2)) (hc3 : w.cell? ⟨b, 2, none⟩ = some (.int .i64 m3)) :
    Calls Tryd.prog 28 #[.int .i64 n, .slice (some ⟨b, 0, none⟩) 3 3] w fun e w' => e = .returned (.int .i64 (sumTo n [m, m2, m3])) ∧ w = w' :=
  sum_any n [m, m2, m3] _ 3 (b + 1) w h0 h1 (fun x hx => by simp at hx; omega) (by simp) (sl_3 hc hc2 hc3)
theorem sumTo_le (n : Int) (h0 : 0 ≤ n) (h : n ≤ 1099511627776) : ∀ l : List Int, (∀ m ∈ l, 0 ≤ m) → 0 ≤ sumTo n l ∧ sumTo n l ≤ 1099511627776 := by
  intro l
  induction l generalizing n with
  | nil => intro _; exact ⟨h0, h⟩
  | cons m l ih =>
    intro hl
    have h2 : 0 ≤ m := hl m (by simp)
    simp only [sumTo]
    split
    · exact ih (n + m) (by omega) (by omega) (fun k hk => hl k (by simp [hk]))
    · omega
theorem sumTo_le1 (n m : Int) (h0 : 0 ≤ n) (h : n ≤ 1099511627776) (hm : 0 ≤ m) : 0 ≤ sumTo n [m] ∧ sumTo n [m] ≤ 1099511627776 :=
  sumTo_le n h0 h [m] (fun k hk => by simp at hk; omega)
theorem sumTo_le2 (n m m2 : Int) (h0 : 0 ≤ n) (h : n ≤ 1099511627776) (hm : 0 ≤ m) (hm2 : 0 ≤ m2) : 0 ≤ sumTo n [m, m2] ∧ sumTo n [m, m2] ≤ 1099511627776 :=
  sumTo_le n h0 h [m, m2] (fun k hk => by simp at hk; omega)
end Go.Proofs.YtheogchkelmeeaaDoor

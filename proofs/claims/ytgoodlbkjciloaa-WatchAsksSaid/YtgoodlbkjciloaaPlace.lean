/- watch.place: where the first event stands that is like this one, but for its place. Condition: the length fits an int. -/
import Derived.Test.YtgoodlbkjciloaaHasLaw
import Derived.Test.YtgoodlbkjciloaaSame
namespace Go.Proofs.Ytgoodlbkjciloaa
open Go.RowKit

theorem evB_al (s d s' d' : ByteArray) (v x y z i v' x' y' z' i' : Int) : evB ⟨s, v, d, ⟨x, y, z⟩, i'⟩ ⟨s', v', d', ⟨x', y', z'⟩, i'⟩ = alB ⟨s, v, d, ⟨x, y, z⟩, i⟩ ⟨s', v', d', ⟨x', y', z'⟩, i'⟩ := by
  unfold evB alB
  simp only [Ev.mk.injEq, and_true]
set_option maxHeartbeats 1000000 in
theorem placeFn_any (s d s' d' : ByteArray) (v x y z i v' x' y' z' i' : Int) (P : Nat) (w : World) (hP : w.heap[P]? = some (.cells #[.string s', .int .i64 v', .string d', .int .i64 x', .int .i64 y', .int .i64 z', .int .i64 i'] 35 (0, 0))) :
    Calls Try.prog 33 #[.agg #[.string s, .int .i64 v, .string d, .int .i64 x, .int .i64 y, .int .i64 z, .int .i64 i], .pointer (some ⟨P, 0, none⟩)] w fun e w' => e = .returned (.bool (alB ⟨s, v, d, ⟨x, y, z⟩, i⟩ ⟨s', v', d', ⟨x', y', z'⟩, i'⟩)) ∧ G w w' := by
  have hg1 := G.new w (.cells #[.string s, .int .i64 v, .string d, .int .i64 x, .int .i64 y, .int .i64 z, .int .i64 i] 35)
  have hg2 := G.new w (.cells #[.string s, .int .i64 v, .string d, .int .i64 x, .int .i64 y, .int .i64 z, .int .i64 i'] 35)
  have hP2 := hg2.blk hP
  have p6 := (blk_cell (hg1.blk hP) 6).trans (show _ = some (.int .i64 i') from rfl)
  have v0 := (blk_cell hP2 0).trans (show _ = some (.string s') from rfl)
  have v1 := (blk_cell hP2 1).trans (show _ = some (.int .i64 v') from rfl)
  have v2 := (blk_cell hP2 2).trans (show _ = some (.string d') from rfl)
  have v3 := (blk_cell hP2 3).trans (show _ = some (.int .i64 x') from rfl)
  have v4 := (blk_cell hP2 4).trans (show _ = some (.int .i64 y') from rfl)
  have v5 := (blk_cell hP2 5).trans (show _ = some (.int .i64 z') from rfl)
  have v6 := (blk_cell hP2 6).trans (show _ = some (.int .i64 i') from rfl)
  have hq := @ev_eql
  have hev := evB_al s d s' d' v x y z i v' x' y' z' i'
  rw [← hev]
  replace hg2 := Lib.hid hg2
  replace hev := Lib.hid hev
  clear hP hP2 hg1
  go_enter Try.func33, Try.ntmps33
  go_wp2_with fail
  go_ret
  exact ⟨rfl, hg2.out⟩
set_option maxHeartbeats 1000000 in
theorem indexFn_any (es : List Ev) (e : Ev) (A : Option Addr) (c B P : Nat) (w : World) (hB : B ≤ w.heap.size) (hs : Sl Ev.cells 7 w B A es) (hl : es.length ≤ 9223372036854775807) (hP : w.heap[P]? = some (.cells e.cells.toArray 35 (0, 0))) :
    Calls Try.prog 32 #[.slice A es.length c, .func (.func 33) #[] #[.pointer (some ⟨P, 0, none⟩)]] w fun r w' => r = .returned (.int .i64 (placeI es e)) ∧ G w w' := by
  obtain ⟨s', v', d', ⟨x', y', z'⟩, i'⟩ := e
  unfold Ev.cells at hP
  simp only at hP
  replace hP := Lib.hid hP
  go_enter Try.func32, Try.ntmps32
  go_wp2_with fail
  go_loopw [8] (fun i wr => ∃ k : Nat, i = .int .i64 k ∧ k ≤ es.length ∧ Hid (∀ j y, j < k → es[j]? = some y → alB y ⟨s', v', d', ⟨x', y', z'⟩, i'⟩ = false) ∧ G w wr) (fun i _ => es.length - (intOf i).toNat)
  case atStart => exact ⟨0, rfl, Nat.zero_le _, fun j y h => absurd h (Nat.not_lt_zero _), G.refl _⟩
  case round =>
    obtain ⟨k, rfl, hk, hall, hg⟩ := hrel
    by_cases hlt : k < es.length
    · obtain ⟨⟨s, v, d, ⟨x, y, z⟩, i⟩, hx⟩ : ∃ x, es[k]? = some x := ⟨_, List.getElem?_eq_getElem hlt⟩
      obtain ⟨b, o, rfl, hb, c0, c1, c2, c3, c4, c5, c6⟩ := (hs.g hB hg).ev hx
      have hv := placeFn_any s d s' d' v x y z i v' x' y' z' i' P wr (hg.blk hP.out)
      have n1 : (0 : Int) ≤ (k : Int) := by omega
      have n2 : (k : Int) < (es.length : Int) := by omega
      dsimp only at c0 c1 c2 c3 c4 c5 c6
      cases hal : alB ⟨s, v, d, ⟨x, y, z⟩, i⟩ ⟨s', v', d', ⟨x', y', z'⟩, i'⟩ with
      | false =>
        have hall2 : ∀ j y, j < k + 1 → es[j]? = some y → alB y ⟨s', v', d', ⟨x', y', z'⟩, i'⟩ = false := fun j y hj hy => by
          rcases Nat.lt_or_ge j k with h | h
          · exact hall.out j y h hy
          · obtain rfl : j = k := by omega
            rw [hx] at hy
            cases hy
            exact hal
        rw [hal] at hv
        replace hall2 := Lib.hid hall2
        replace hal := Lib.hid hal
        clear hx hs hall
        go_wp2_with fail
        refine hv.mono ?_
        clear hv
        rintro e w1 ⟨rfl, hg1⟩
        go_wp2_with fail
        go_roundw
        case rel => exact ⟨k + 1, by go_num, by omega, hall2, hg.trans hg1⟩
        case measure => (simp [intOf] <;> omega)
      | true =>
        have hpl : placeI es ⟨s', v', d', ⟨x', y', z'⟩, i'⟩ = k := by
          unfold placeI
          rw [placeOf_some hx hal hall.out]
        rw [hal] at hv
        replace hpl := Lib.hid hpl
        replace hal := Lib.hid hal
        clear hx hs hall
        go_wp2_with fail
        refine hv.mono ?_
        clear hv
        rintro e w1 ⟨rfl, hg1⟩
        go_wp2_with fail
        go_ret
        exact ⟨by rw [hpl.out]; rfl, hg.trans hg1⟩
    · have hpl : placeI es ⟨s', v', d', ⟨x', y', z'⟩, i'⟩ = -1 := by
        unfold placeI
        rw [placeOf_none fun y hy => by
          obtain ⟨j, hj, rfl⟩ := List.getElem_of_mem hy
          exact hall.out j _ (by omega) (List.getElem?_eq_getElem hj)]
      replace hpl := Lib.hid hpl
      clear hs hall
      go_wp2_with fail
      go_ret
      exact ⟨by rw [hpl.out]; rfl, hg⟩
set_option maxHeartbeats 1000000 in
theorem place_any (es : List Ev) (e : Ev) (A : Option Addr) (c B : Nat) (w : World) (hB : B ≤ w.heap.size) (hs : Sl Ev.cells 7 w B A es) (hl : es.length ≤ 9223372036854775807) :
    Calls Try.prog 23 #[.slice A es.length c, .agg e.cells.toArray] w fun r w' => r = .returned (.int .i64 (placeI es e)) ∧ G w w' := by
  have hg := G.new w (.cells e.cells.toArray 35)
  have hi := indexFn_any es e A c B w.heap.size (w.alloc (.cells e.cells.toArray 35)) (Nat.le_trans hB hg.size) (hs.g hB hg) hl (blk_new _ _ _)
  have hmf : ∀ (fn : Fn) (first cap : Array Value) (w : World), (Instr.makeFunc fn first cap).run Try.prog w = .ok (.func fn first cap) w := fun _ _ _ _ => rfl
  obtain ⟨s, v, d, ⟨x, y, z⟩, i⟩ := e
  unfold Ev.cells at hi hg ⊢
  simp only at hi hg ⊢
  go_enter Try.func23, Try.ntmps23
  go_wp2_with fail
  refine hi.mono ?_
  clear hi
  rintro e w1 ⟨rfl, hg1⟩
  go_wp2_with fail
  go_ret
  exact ⟨rfl, hg.trans hg1⟩
end Go.Proofs.Ytgoodlbkjciloaa

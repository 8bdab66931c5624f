/- watch.Prefix, penstockref27.Prefix, slices.Clone at events. Condition: lengths fit an int. -/
import Derived.Test.YtgoodlbkjciloaaSlEqual
import Derived.Test.YtgoodlbkjciloaaMake
import Derived.Test.YtgoodlbkjciloaaOwn
namespace Go.Proofs.Ytgoodlbkjciloaa
open Go.RowKit

def prefB (es fs : List Ev) : Bool := decide (es = fs.take es.length)
theorem Sl.take {α : Type} {f : α → List Value} {sz : Nat} {w : World} {B : Nat} {A : Option Addr} {xs : List α} (h : Sl f sz w B A xs) (n : Nat) : Sl f sz w B A (xs.take n) := fun hne => by
  obtain ⟨b, o, e, hb, hc⟩ := h (by rintro rfl; simp at hne)
  refine ⟨b, o, e, hb, fun k x hx j u hu => hc k x ?_ j u hu⟩
  have hk : k < (xs.take n).length := (List.getElem?_eq_some_iff.1 hx).1
  rw [List.getElem?_take_of_lt (by simp at hk; omega)] at hx
  exact hx

set_option maxHeartbeats 1000000 in
theorem prefix_any (es fs : List Ev) (A A2 : Option Addr) (c c2 B : Nat) (w : World) (hB : B ≤ w.heap.size) (_hl : es.length ≤ 9223372036854775807) (hl2 : fs.length ≤ c2) (_hc2 : c2 ≤ 9223372036854775807)
    (hs : Sl Ev.cells 7 w B A es) (hs2 : Sl Ev.cells 7 w B A2 fs) :
    Calls Try.prog 15 #[.slice A es.length c, .slice A2 fs.length c2] w fun e w' => e = .returned (.bool (prefB es fs)) ∧ G w w' := by
  by_cases hlen : es.length ≤ fs.length
  · have hlt : (fs.take es.length).length = es.length := by rw [List.length_take]; omega
    replace hlt := Lib.hid hlt
    go_enter Try.func15, Try.ntmps15
    go_wp2_with fail
    have hcq := slEqual_any es (fs.take es.length) A A2 c c2 B w hB (by omega) (by have := hlt.out; omega) hs (hs2.take _)
    rw [hlt.out] at hcq
    refine hcq.mono ?_
    clear hcq
    rintro e w1 ⟨rfl, hg1⟩
    go_wp2_with fail
    go_ret
    exact ⟨rfl, hg1⟩
  · go_enter Try.func15, Try.ntmps15
    go_wp2_with fail
    go_ret
    exact ⟨ret_bool (by
      unfold prefB
      rw [decide_eq_false]
      intro h
      have := congrArg List.length h
      rw [List.length_take] at this
      omega), G.refl _⟩

set_option maxHeartbeats 1000000 in
theorem refPrefix_any (es fs : List Ev) (A A2 : Option Addr) (c c2 B : Nat) (w : World) (hB : B ≤ w.heap.size) (_hl : es.length ≤ 9223372036854775807) (hl2 : fs.length ≤ c2) (_hc2 : c2 ≤ 9223372036854775807)
    (hs : Sl Ev.cells 7 w B A es) (hs2 : Sl Ev.cells 7 w B A2 fs) :
    Calls Try.prog 16 #[.slice A es.length c, .slice A2 fs.length c2] w fun e w' => e = .returned (.bool (prefB es fs)) ∧ G w w' := by
  by_cases hlen : es.length ≤ fs.length
  · have hlt : (fs.take es.length).length = es.length := by rw [List.length_take]; omega
    replace hlt := Lib.hid hlt
    go_enter Try.func16, Try.ntmps16
    go_wp2_with fail
    have hcq := sameEvents_any es (fs.take es.length) A A2 c c2 B w hB (by omega) (by have := hlt.out; omega) hs (hs2.take _)
    rw [hlt.out] at hcq
    refine hcq.mono ?_
    clear hcq
    rintro e w1 ⟨rfl, hg1⟩
    go_wp2_with fail
    go_ret
    exact ⟨rfl, hg1⟩
  · go_enter Try.func16, Try.ntmps16
    go_wp2_with fail
    go_ret
    exact ⟨ret_bool (by
      unfold prefB
      rw [decide_eq_false]
      intro h
      have := congrArg List.length h
      rw [List.length_take] at this
      omega), G.refl _⟩

theorem ev_elem : IsElem Try.prog 33 35 7 72 Ev.cells :=
  isElem_of Try.underlying33 ev_info rfl (by omega) Ev.cells_len (by intro x u hu; simp [Ev.cells] at hu; rcases hu with rfl | rfl | rfl | rfl | rfl | rfl | rfl <;> rfl)
set_option maxHeartbeats 1000000 in
theorem clone_any (es : List Ev) (A : Option Addr) (c B : Nat) (w : World) (hB : B ≤ w.heap.size) (hl : es.length ≤ 1099511627776) (hs : Sl Ev.cells 7 w B A es) :
    Calls Try.prog 25 #[.slice A es.length c] w (RetEvs w es) := by
  have hq := fun W A n c => Lib.run_eql_slice_nil (P := Try.prog) W 33 35 A n c 0 0 Try.underlying33
  go_enter Try.func25, Try.ntmps25
  rcases A with _ | ad
  · obtain rfl := hs.of_none
    go_wp2_with fail
    go_ret
    exact ⟨_, rfl, Own.nil _ _, G.refl _⟩
  · go_wp2_with (at_builtin; refine wpList_append_list ev_elem _ rfl (.tmp 5) (.tmp 6) rfl w.heap.size _ [] rfl (OwnL.empty w.heap.size (blk_new _ _ _) (Nat.le_refl _)) B (some ad) c es rfl (by intro h; cases h) (hs.g hB (G.new _ _)) (by simp; omega) (by simp; omega) (by simp) ?_; intro v' w' hown' hkeep _)
    go_ret
    exact ⟨_, rfl, hown', hkeep.g (G.new _ _)⟩
end Go.Proofs.Ytgoodlbkjciloaa

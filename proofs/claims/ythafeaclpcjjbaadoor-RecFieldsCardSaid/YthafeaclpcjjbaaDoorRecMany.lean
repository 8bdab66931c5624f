/- rec.writer.many. Conditions: lengths that an append bears. -/
import Derived.Test.YthafeaclpcjjbaaDoorRecWr
namespace Go.Proofs.YthafeaclpcjjbaaDoor
open Go.RowKit

set_option maxRecDepth 100000 in
set_option maxHeartbeats 1000000 in
theorem wrMany_any (R base n k : Nat) (st : Option (List UInt8)) (w : World) (hw : WrS 67 R base n st w) (hR : base ≤ R) (hn : n + 10 ≤ 1099511627776) (hk : k ≤ 9223372036854775807) :
    Calls Tryd.prog 49 #[.pointer (some ⟨R, 0, none⟩), .int .i64 k] w (WrPost 67 R base (n + 10) (addMany 1125899906842624 k st) w) := by
  have hc1 := hw.c1
  have hfr := hw.free 1
  have hRw := hw.lt
  obtain ⟨s1, hs1⟩ : ∃ s1, (if k ≤ 1000 then st else none) = s1 := ⟨_, rfl⟩
  have hfin : addMany 1125899906842624 k st = addNs 1125899906842624 [(k : Int)] s1 := by
    rw [← hs1]
    unfold addMany
    cases st with
    | none => split <;> rfl
    | some l => by_cases h : k ≤ 1000 <;> simp [h, addNs]
  obtain ⟨bb, hbb⟩ : ∃ bb, s1.isNone = bb := ⟨_, rfl⟩
  have hcond : (st.isNone = true ∧ bb = true) ∨ (st.isNone = false ∧ decide ((1000 : Int) < (k : Int)) = bb) := by
    cases st with
    | none => exact .inl ⟨rfl, by rw [← hbb, ← hs1]; split <;> rfl⟩
    | some m =>
      refine .inr ⟨rfl, ?_⟩
      rw [← hbb, ← hs1]
      by_cases h : k ≤ 1000
      · rw [if_pos h]; exact decide_eq_false (by omega)
      · rw [if_neg h]; exact decide_eq_true (by omega)
  have hws : WrS 67 R base n s1 (w.setCell ⟨R, 1, none⟩ (.bool bb)) := by
    rw [← hbb, ← hs1]
    split
    · exact hw.stay wrT
    · exact hw.turn wrT
  have hk1 := Kw.set (w := w) hR 1 (.bool bb)
  have hz := hws.lt
  have hse : (w.setCell ⟨R, 1, none⟩ (.bool bb)).heap.size = w.heap.size := by simp
  have hg1 := G.new (w.setCell ⟨R, 1, none⟩ (.bool bb)) (.cells #[.int .i64 k] 3)
  have hN := blk_new (w.setCell ⟨R, 1, none⟩ (.bool bb)) #[.int .i64 k] 3
  rw [hse] at hN hz
  have hnums : Calls Tryd.prog 45 #[.pointer (some ⟨R, 0, none⟩), .slice (some ⟨w.heap.size, 0, none⟩) 1 1] ((w.setCell ⟨R, 1, none⟩ (.bool bb)).alloc (.cells #[.int .i64 k] 3)) (WrPost 67 R base (n + 10) (addNs 1125899906842624 [(k : Int)] s1) ((w.setCell ⟨R, 1, none⟩ (.bool bb)).alloc (.cells #[.int .i64 k] 3))) := wrNums_any R base n s1 [(k : Int)] (some ⟨w.heap.size, 0, none⟩) 1 _ _ (hws.g hg1) hR (by simp; omega) (by simp; omega) (kwInts (base := base) (ns := [(k : Int)]) (by decide : 3 ≠ 5) hN (by omega))
  have hkg := hk1.trans (Kw.of_g (base := base) hg1 (by rw [hse]; omega))
  rw [hfin]
  clear hse
  replace hfin := Lib.hid hfin
  replace hnums := Lib.hid hnums
  replace hkg := Lib.hid hkg
  replace hs1 := Lib.hid hs1
  replace hbb := Lib.hid hbb
  replace hws := Lib.hid hws
  replace hw := Lib.hid hw
  clear hN hg1
  rcases hcond with ⟨hb1, rfl⟩ | ⟨hb1, hb2⟩
  all_goals
    rw [hb1] at hc1
    clear hb1
    go_enter Tryd.func49, Tryd.ntmps49
    go_wp2_with (go_at_call 45; refine Calls.mono hnums.out ?_; rintro e w3 ⟨rfl, hw3, hk3⟩; have hk3' := Lib.hid (hkg.out.trans hk3); replace hw3 := Lib.hid hw3; clear hk3)
    go_end0
    exact ⟨rfl, hw3.out, hk3'.out⟩
end Go.Proofs.YthafeaclpcjjbaaDoor

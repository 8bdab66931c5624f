/- penstocklaw29.awake answers true. No condition. -/
import Derived.Test.YtgoodlbkjciloaaOne
namespace Go.Proofs.Ytgoodlbkjciloaa
open Go.RowKit

set_option maxHeartbeats 1000000 in
theorem awake29_any (w : World) : Calls Try.prog 6 #[] w fun e w' => e = .returned (.bool true) ∧ G w w' := by
  go_enter Try.func6, Try.ntmps6
  go_wp2_with fail
  have hm := one_any [⟨none, 0, []⟩, ⟨some ⟨w.heap.size + 1, 0, none⟩, 1, [⟨⟨#[97]⟩, 1, ByteArray.empty, ⟨5, 0, 1⟩, 0⟩]⟩] (some ⟨w.heap.size + 1 + 1, 0, none⟩) 2 (w.heap.size + 3)
    (((w.alloc (Obj.cells #[Value.string ⟨#[97]⟩, Value.int .i64 1, Value.string ByteArray.empty, Value.int .i64 5, Value.int .i64 0, Value.int .i64 1, Value.int .i64 0] 35)).alloc (Obj.cells #[Value.string ⟨#[97]⟩, Value.int .i64 1, Value.string ByteArray.empty, Value.int .i64 5, Value.int .i64 0, Value.int .i64 1, Value.int .i64 0] 35)).alloc (Obj.cells #[Value.slice none 0 0, Value.slice (some ⟨w.heap.size + 1, 0, none⟩) 1 1] 33))
    (by simp) (by simp) (by intro l hl; simp at hl; rcases hl with rfl | rfl <;> simp)
    ⟨Sl.of_blk LogM.cells_len _ (blk_new' _ _ _ _ (by simp)) rfl (by omega), fun l hl => by
      simp at hl
      rcases hl with rfl | rfl
      · exact ⟨Sl.nil, by simp, by simp⟩
      · exact ⟨Sl.of_blk Ev.cells_len _ ((G.new _ _).blk (blk_new' _ _ _ _ (by simp))) rfl (by omega), by simp, by simp⟩⟩
  refine hm.mono ?_
  clear hm
  rw [show (longOf [⟨none, 0, []⟩, ⟨some ⟨w.heap.size + 1, 0, none⟩, 1, [⟨⟨#[97]⟩, 1, ByteArray.empty, ⟨5, 0, 1⟩, 0⟩]⟩]).es = [⟨⟨#[97]⟩, 1, ByteArray.empty, ⟨5, 0, 1⟩, 0⟩] from rfl]
  rw [show (allPre [⟨none, 0, []⟩, ⟨some ⟨w.heap.size + 1, 0, none⟩, 1, [⟨⟨#[97]⟩, 1, ByteArray.empty, ⟨5, 0, 1⟩, 0⟩]⟩] [⟨⟨#[97]⟩, 1, ByteArray.empty, ⟨5, 0, 1⟩, 0⟩] && sortedB [⟨⟨#[97]⟩, 1, ByteArray.empty, ⟨5, 0, 1⟩, 0⟩]) = true from by simp [allPre, prefB, sortedB]]
  rintro e w1 ⟨v, rfl, hown, hg⟩
  obtain ⟨A, c, rfl, hsl⟩ := hown.sl
  obtain ⟨b, o, rfl, hb, c0, c1, c2, c3, c4, c5, c6⟩ := hsl.ev (k := 0) rfl
  simp only [Nat.zero_mul, Nat.add_zero] at c0 c1 c2 c3 c4 c5 c6
  have hbl := hg.blk (((G.new _ _).alloc _).blk (blk_new w #[Value.string ⟨#[97]⟩, Value.int .i64 1, Value.string ByteArray.empty, Value.int .i64 5, Value.int .i64 0, Value.int .i64 1, Value.int .i64 0] 35))
  have d0 := blk_cell hbl 0
  have d1 := blk_cell hbl 1
  have d2 := blk_cell hbl 2
  have d3 := blk_cell hbl 3
  have d4 := blk_cell hbl 4
  have d5 := blk_cell hbl 5
  have d6 := blk_cell hbl 6
  simp only [List.getElem?_toArray, List.getElem?_cons_zero, List.getElem?_cons_succ] at d0 d1 d2 d3 d4 d5 d6
  clear hsl hown hbl
  replace hg := (((G.new w _).alloc _).alloc _).trans hg
  have heq := @ev_eql
  have hev : evB ⟨⟨#[97]⟩, 1, ByteArray.empty, ⟨5, 0, 1⟩, 0⟩ ⟨⟨#[97]⟩, 1, ByteArray.empty, ⟨5, 0, 1⟩, 0⟩ = true := by simp [evB]
  go_wp2_with fail
  go_quiet (fail)
  go_wp2_with fail
  go_ret
  exact ⟨rfl, hg.drewN _⟩
end Go.Proofs.Ytgoodlbkjciloaa

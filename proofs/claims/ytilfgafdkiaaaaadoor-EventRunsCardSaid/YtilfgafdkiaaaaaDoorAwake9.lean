/- penstocklaw9.awake answers true. No condition. -/
import Derived.Test.YtilfgafdkiaaaaaDoorMake
import Derived.Test.YtilfgafdkiaaaaaDoorSame
namespace Go.Proofs.YtilfgafdkiaaaaaDoor
open Go.RowKit

set_option maxHeartbeats 1000000 in
theorem awake9_any (w : World) : Calls Tryd.prog 9 #[] w fun e w' => e = .returned (.bool true) ∧ G w w' := by
  go_enter Tryd.func9, Tryd.ntmps9
  go_wp2_with fail
  have hm := make_any ⟨#[107]⟩ [⟨⟨#[97]⟩, -1, some ⟨w.heap.size, 0, none⟩, 2, [⟨#[120]⟩, ⟨#[121]⟩]⟩] (some ⟨w.heap.size + 1, 0, none⟩) (some ⟨w.heap.size + 1 + 1, 0, none⟩) 1 1 (w.heap.size + 3) [3] ⟨5, 0, 1⟩ 0
    (((w.alloc (Obj.cells #[Value.string ⟨#[120]⟩, Value.string ⟨#[121]⟩] 9)).alloc (Obj.cells #[Value.string ⟨#[97]⟩, Value.int IntKind.i64 (-1), Value.slice (some ⟨w.heap.size, 0, none⟩) 2 2] 29)).alloc (Obj.cells #[Value.int IntKind.i64 3] 3))
    (by simp) (by simp) (by simp) (by simp [evCount]) (by simp) (by omega)
    ⟨Sl.of_blk PutM.cells_len _ ((G.new _ _).blk (blk_new' _ _ _ _ (by simp))) rfl (by omega), fun p hp => by
      simp at hp; subst hp
      exact Sl.of_blk strC_len _ (((G.new _ _).alloc _).blk (blk_new w _ _)) rfl (by omega)⟩
    (Sl.of_blk intC_len _ (blk_new' _ _ _ _ (by simp)) rfl (by omega))
  refine hm.mono ?_
  clear hm
  rw [show makeFrom [3] ⟨5, 0, 1⟩ 0 0 [⟨⟨#[97]⟩, -1, some ⟨w.heap.size, 0, none⟩, 2, [⟨#[120]⟩, ⟨#[121]⟩]⟩] = [⟨⟨#[97]⟩, 3, ⟨#[120]⟩, ⟨5, 0, 1⟩, 0⟩, ⟨⟨#[97]⟩, 4, ⟨#[121]⟩, ⟨5, 0, 1⟩, 1⟩] from rfl]
  rintro e w1 ⟨v, rfl, hown, hg⟩
  obtain ⟨A, c, rfl, hsl⟩ := hown.sl
  obtain ⟨b, o, rfl, hb, _, c1, _⟩ := hsl.ev (k := 0) rfl
  obtain ⟨_, _, e1, _, _, d1, d2, _, _, _, d6⟩ := hsl.ev (k := 1) rfl
  cases e1
  simp only [Nat.zero_mul, Nat.one_mul, Nat.add_zero] at c1 d1 d2 d6
  replace hg := (((G.new w _).alloc _).alloc _).trans hg
  clear hsl hown
  go_wp2_with fail
  go_ret
  exact ⟨ret_bool (by rfl), hg⟩
end Go.Proofs.YtilfgafdkiaaaaaDoor

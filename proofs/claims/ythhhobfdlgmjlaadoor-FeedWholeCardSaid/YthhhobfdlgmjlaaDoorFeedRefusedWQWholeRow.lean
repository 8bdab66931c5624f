/- penstocklaw20.FeedRefused: the walk. Condition: the decoder's tables lie as the library lays them. -/
import Derived.Test.YthhhobfdlgmjlaaDoorM43WholeRow
import Derived.Test.YthhhobfdlgmjlaaDoorM44WholeRow
namespace Go.Proofs.YthhhobfdlgmjlaaDoor
open Go.RowKit

def cuB (a b : Cu) : Bool := decide (a.st = b.st) && (decide (a.index = b.index) && decide (a.stream = b.stream))
theorem cu_equal (w : World) (a b : Cu) : (Op.equalIn 10000 38 (.agg a.cells.toArray) (.agg b.cells.toArray)).run Tryd.prog w = .ok (cuB a b) w := by
  obtain ⟨⟨a1, a2, a3⟩, a4, a5⟩ := a
  obtain ⟨⟨b1, b2, b3⟩, b4, b5⟩ := b
  by_cases h1 : a1 = b1 <;> by_cases h2 : a2 = b2 <;> by_cases h3 : a3 = b3 <;> by_cases h4 : a4 = b4 <;> by_cases h5 : a5 = b5 <;> simp [go_sem, Cu.cells, cuB, bytes_beq, h1, h2, h3, h4, h5]
theorem cu_eql (w : World) (x y z i x' y' z' i' : Int) (s s' : ByteArray) : (binOp .eql 38 (.agg #[.int .i64 x, .int .i64 y, .int .i64 z, .int .i64 i, .string s]) (.agg #[.int .i64 x', .int .i64 y', .int .i64 z', .int .i64 i', .string s'])).run Tryd.prog w = .ok (.bool (cuB ⟨⟨x, y, z⟩, i, s⟩ ⟨⟨x', y', z'⟩, i', s'⟩)) w := by
  have h := cu_equal w ⟨⟨x, y, z⟩, i, s⟩ ⟨⟨x', y', z'⟩, i', s'⟩
  unfold Cu.cells at h
  rw [run_eql_struct, h]
  rfl
theorem cu_zero : cuB ⟨⟨0, 0, 0⟩, 0, ⟨#[]⟩⟩ ⟨⟨0, 0, 0⟩, 0, ⟨#[]⟩⟩ = true := by decide +kernel
theorem ok_index (n : Int) : pollOk st1 ⟨⟨0, 0, 0⟩, n, ⟨#[]⟩⟩ 5 = decide (0 ≤ n) := by
  unfold pollOk
  rw [st1_ok]
  show (true && (soundB 0 0 0 && (decide (0 ≤ n) && decide ((1 : Int) ≤ 5 ∧ (5 : Int) ≤ 100)))) = _
  rw [show soundB 0 0 0 = true from rfl]
  simp
theorem ok_max (n : Int) : pollOk st1 ⟨⟨0, 0, 0⟩, 0, ⟨#[]⟩⟩ n = decide (1 ≤ n ∧ n ≤ 100) := by
  unfold pollOk
  rw [st1_ok]
  show (true && (soundB 0 0 0 && (decide ((0 : Int) ≤ 0) && decide (1 ≤ n ∧ n ≤ 100)))) = _
  rw [show soundB 0 0 0 = true from rfl]
  simp
theorem ok_node (n : Int) : pollOk st1 ⟨⟨0, 0, n⟩, 0, ⟨#[]⟩⟩ 5 = decide (0 ≤ n ∧ n ≤ 5) := by
  unfold pollOk
  rw [st1_ok]
  show (true && (soundB 0 0 n && (decide ((0 : Int) ≤ 0) && decide ((1 : Int) ≤ 5 ∧ (5 : Int) ≤ 100)))) = _
  rw [show soundB 0 0 n = decide (0 ≤ n ∧ n ≤ 5) from decide_eq_decide.2 (by omega)]
  simp
def pat9 : ByteArray := ⟨#[91, 122, 45, 97, 93]⟩
theorem ok_pat : pollOk pat9 ⟨⟨0, 0, 0⟩, 0, ⟨#[]⟩⟩ 5 = false := by
  unfold pollOk
  rw [show patOk pat9 = false by decide +kernel]
  rfl
set_option maxRecDepth 100000 in
set_option maxHeartbeats 4000000 in
theorem refused_walk (k n : Int) (w : World) (hk : -9223372036854775808 ≤ k ∧ k ≤ 9223372036854775807) (_hn : -9223372036854775808 ≤ n ∧ n ≤ 9223372036854775807) (hT : Tabs w) :
    Calls Tryd.prog 5 #[.int .i64 k, .int .i64 n] w fun e w' => e = .returned (.bool true) ∧ G w w' := by
  have hm := madeA w
  have hr := fun w => round_any k 4 w (by omega) (by omega) hk.1 hk.2
  have hr0 : 0 ≤ k % 4 ∧ k % 4 < 4 := by omega
  generalize k % 4 = r at *
  replace hr := Lib.hid hr
  replace hT := Lib.hid hT
  replace hm := Lib.hid hm
  go_enter Tryd.func5, Tryd.ntmps5
  go_wp2_with fail
  refine Calls.mono hm.out ?_
  rintro e w1 ⟨T, g, c, T2, g2, c2, ps, ms, rfl, ht, _, hp, _, hg1⟩
  have hg01 : G w w1 := (((G.new w _).alloc _).alloc _).trans hg1
  have hp : TabTo (lsA w.heap.size) xsA 2 1 ps := hp
  clear hm hg1
  replace ht := Lib.hid ht
  replace hp := Lib.hid hp
  go_wp2_with fail
  refine Calls.mono (hr.out _) ?_
  rintro e w2 ⟨rfl, rfl⟩
  have ht := ht.out
  have hp := hp.out
  clear hr
  have hr4 : r = 0 ∨ r = 1 ∨ r = 2 ∨ r = 3 := by omega
  clear hr0
  replace ht := Lib.hid ht
  replace hp := Lib.hid hp
  rcases hr4 with rfl | rfl | rfl | rfl
  · by_cases h1 : n < 0
    · skip
      go_upto_region 21 with fail
      have hC : (w1.alloc (.cells #[.int .i64 0, .int .i64 0, .int .i64 (0), .int .i64 (n), .string ⟨#[]⟩] 38)).heap[w1.heap.size]? = some (.cells #[.int .i64 0, .int .i64 0, .int .i64 (0), .int .i64 (n), .string ⟨#[]⟩] 38 (0, 0)) := blk_new _ _ _
      have hgX : G w1 (w1.alloc (.cells #[.int .i64 0, .int .i64 0, .int .i64 (0), .int .i64 (n), .string ⟨#[]⟩] 38)) := G.new _ _
      have ht := ht.out
      have hp := hp.out
      generalize (w1.alloc (.cells #[.int .i64 0, .int .i64 0, .int .i64 (0), .int .i64 (n), .string ⟨#[]⟩] 38)) = WX at *
      have hpo := poll_bad (.pointer (some ⟨T, 0, none⟩)) (.slice none 0 0) 9 0 0 0 0 (0) (n) ⟨#[]⟩ st1 (5) WX (by decide) (hT.out.g (hg01.trans hgX)) (by rw [ok_index]; exact decide_eq_false (by omega))
      have k0 := (blk_cell hC 0).trans (show _ = some (Value.int .i64 0) from rfl)
      have k1 := (blk_cell hC 1).trans (show _ = some (Value.int .i64 0) from rfl)
      have k2 := (blk_cell hC 2).trans (show _ = some (Value.int .i64 (0)) from rfl)
      have k3 := (blk_cell hC 3).trans (show _ = some (Value.int .i64 (n)) from rfl)
      have k4 := (blk_cell hC 4).trans (show _ = some (Value.string ⟨#[]⟩) from rfl)
      replace hpo := Lib.hid hpo
      replace hC := Lib.hid hC
      go_wp2_with fail
      refine Calls.mono hpo.out ?_
      rintro e w5 ⟨rfl, hg5⟩
      have hgw := (hg01.trans hgX).trans hg5
      have hnq := @cu_eql
      have hz := cu_zero
      have hawk := awake20_any (w5.alloc (.cells #[.int .i64 0, .int .i64 0, .int .i64 0, .int .i64 0, .string ⟨#[]⟩] 38)) (hT.out.g (hgw.alloc _))
      replace hawk := Lib.hid hawk
      clear hpo k0 k1 k2 k3 k4
      go_wp2_with fail
      refine Calls.mono hawk.out ?_
      rintro e w6 ⟨rfl, hg6⟩
      go_wp2_with fail
      go_ret
      exact ⟨rfl, (hgw.alloc _).trans hg6⟩
    · skip
      go_upto_region 21 with fail
      have hC : (w1.alloc (.cells #[.int .i64 0, .int .i64 0, .int .i64 (0), .int .i64 (n), .string ⟨#[]⟩] 38)).heap[w1.heap.size]? = some (.cells #[.int .i64 0, .int .i64 0, .int .i64 (0), .int .i64 (n), .string ⟨#[]⟩] 38 (0, 0)) := blk_new _ _ _
      have hgX : G w1 (w1.alloc (.cells #[.int .i64 0, .int .i64 0, .int .i64 (0), .int .i64 (n), .string ⟨#[]⟩] 38)) := G.new _ _
      have ht := ht.out
      have hp := hp.out
      generalize (w1.alloc (.cells #[.int .i64 0, .int .i64 0, .int .i64 (0), .int .i64 (n), .string ⟨#[]⟩] 38)) = WX at *
      have hpo := pollA (ht.grow hgX) hp 0 0 (0) (n) ⟨#[]⟩ st1 (5) (by decide) (hT.out.g (hg01.trans hgX)) (by rw [ok_index]; exact decide_eq_true (by omega))
      have k0 := (blk_cell hC 0).trans (show _ = some (Value.int .i64 0) from rfl)
      have k1 := (blk_cell hC 1).trans (show _ = some (Value.int .i64 0) from rfl)
      have k2 := (blk_cell hC 2).trans (show _ = some (Value.int .i64 (0)) from rfl)
      have k3 := (blk_cell hC 3).trans (show _ = some (Value.int .i64 (n)) from rfl)
      have k4 := (blk_cell hC 4).trans (show _ = some (Value.string ⟨#[]⟩) from rfl)
      replace hpo := Lib.hid hpo
      replace hC := Lib.hid hC
      clear ht hp
      go_wp2_with fail
      refine Calls.mono hpo.out ?_
      rintro e w5 ⟨out, A5, m5, hf, he, hown, hg5⟩
      clear hf hown
      generalize (onlyL st1 out).length = n5 at *
      generalize curOf ⟨⟨0, 0, 0⟩, n, ⟨#[]⟩⟩ out = q5 at *
      obtain ⟨⟨f1, f2, f3⟩, f4, f5⟩ := q5
      have he' : e = .returned (.tuple #[.slice A5 n5 m5, .agg #[.int .i64 f1, .int .i64 f2, .int .i64 f3, .int .i64 f4, .string f5], .int .i64 0]) := he
      subst he'
      clear he
      have hgw := (hg01.trans hgX).trans hg5
      have hawk := awake20_any (w5.alloc (.cells #[.int .i64 f1, .int .i64 f2, .int .i64 f3, .int .i64 f4, .string f5] 38)) (hT.out.g (hgw.alloc _))
      replace hawk := Lib.hid hawk
      clear hpo k0 k1 k2 k3 k4
      go_wp2_with fail
      refine Calls.mono hawk.out ?_
      rintro e w6 ⟨rfl, hg6⟩
      go_wp2_with fail
      go_ret
      exact ⟨rfl, (hgw.alloc _).trans hg6⟩
  · by_cases h1 : n < 1
    · skip
      go_upto_region 21 with fail
      have hC : (w1.alloc (.cells #[.int .i64 0, .int .i64 0, .int .i64 (0), .int .i64 (0), .string ⟨#[]⟩] 38)).heap[w1.heap.size]? = some (.cells #[.int .i64 0, .int .i64 0, .int .i64 (0), .int .i64 (0), .string ⟨#[]⟩] 38 (0, 0)) := blk_new _ _ _
      have hgX : G w1 (w1.alloc (.cells #[.int .i64 0, .int .i64 0, .int .i64 (0), .int .i64 (0), .string ⟨#[]⟩] 38)) := G.new _ _
      have ht := ht.out
      have hp := hp.out
      generalize (w1.alloc (.cells #[.int .i64 0, .int .i64 0, .int .i64 (0), .int .i64 (0), .string ⟨#[]⟩] 38)) = WX at *
      have hpo := poll_bad (.pointer (some ⟨T, 0, none⟩)) (.slice none 0 0) 9 0 0 0 0 (0) (0) ⟨#[]⟩ st1 (n) WX (by decide) (hT.out.g (hg01.trans hgX)) (by rw [ok_max]; exact decide_eq_false (by omega))
      have k0 := (blk_cell hC 0).trans (show _ = some (Value.int .i64 0) from rfl)
      have k1 := (blk_cell hC 1).trans (show _ = some (Value.int .i64 0) from rfl)
      have k2 := (blk_cell hC 2).trans (show _ = some (Value.int .i64 (0)) from rfl)
      have k3 := (blk_cell hC 3).trans (show _ = some (Value.int .i64 (0)) from rfl)
      have k4 := (blk_cell hC 4).trans (show _ = some (Value.string ⟨#[]⟩) from rfl)
      replace hpo := Lib.hid hpo
      replace hC := Lib.hid hC
      go_wp2_with fail
      refine Calls.mono hpo.out ?_
      rintro e w5 ⟨rfl, hg5⟩
      have hgw := (hg01.trans hgX).trans hg5
      have hnq := @cu_eql
      have hz := cu_zero
      have hawk := awake20_any (w5.alloc (.cells #[.int .i64 0, .int .i64 0, .int .i64 0, .int .i64 0, .string ⟨#[]⟩] 38)) (hT.out.g (hgw.alloc _))
      replace hawk := Lib.hid hawk
      clear hpo k0 k1 k2 k3 k4
      go_wp2_with fail
      refine Calls.mono hawk.out ?_
      rintro e w6 ⟨rfl, hg6⟩
      go_wp2_with fail
      go_ret
      exact ⟨rfl, (hgw.alloc _).trans hg6⟩
    · by_cases h2 : 100 < n
      · skip
        go_upto_region 21 with fail
        have hC : (w1.alloc (.cells #[.int .i64 0, .int .i64 0, .int .i64 (0), .int .i64 (0), .string ⟨#[]⟩] 38)).heap[w1.heap.size]? = some (.cells #[.int .i64 0, .int .i64 0, .int .i64 (0), .int .i64 (0), .string ⟨#[]⟩] 38 (0, 0)) := blk_new _ _ _
        have hgX : G w1 (w1.alloc (.cells #[.int .i64 0, .int .i64 0, .int .i64 (0), .int .i64 (0), .string ⟨#[]⟩] 38)) := G.new _ _
        have ht := ht.out
        have hp := hp.out
        generalize (w1.alloc (.cells #[.int .i64 0, .int .i64 0, .int .i64 (0), .int .i64 (0), .string ⟨#[]⟩] 38)) = WX at *
        have hpo := poll_bad (.pointer (some ⟨T, 0, none⟩)) (.slice none 0 0) 9 0 0 0 0 (0) (0) ⟨#[]⟩ st1 (n) WX (by decide) (hT.out.g (hg01.trans hgX)) (by rw [ok_max]; exact decide_eq_false (by omega))
        have k0 := (blk_cell hC 0).trans (show _ = some (Value.int .i64 0) from rfl)
        have k1 := (blk_cell hC 1).trans (show _ = some (Value.int .i64 0) from rfl)
        have k2 := (blk_cell hC 2).trans (show _ = some (Value.int .i64 (0)) from rfl)
        have k3 := (blk_cell hC 3).trans (show _ = some (Value.int .i64 (0)) from rfl)
        have k4 := (blk_cell hC 4).trans (show _ = some (Value.string ⟨#[]⟩) from rfl)
        replace hpo := Lib.hid hpo
        replace hC := Lib.hid hC
        go_wp2_with fail
        refine Calls.mono hpo.out ?_
        rintro e w5 ⟨rfl, hg5⟩
        have hgw := (hg01.trans hgX).trans hg5
        have hnq := @cu_eql
        have hz := cu_zero
        have hawk := awake20_any (w5.alloc (.cells #[.int .i64 0, .int .i64 0, .int .i64 0, .int .i64 0, .string ⟨#[]⟩] 38)) (hT.out.g (hgw.alloc _))
        replace hawk := Lib.hid hawk
        clear hpo k0 k1 k2 k3 k4
        go_wp2_with fail
        refine Calls.mono hawk.out ?_
        rintro e w6 ⟨rfl, hg6⟩
        go_wp2_with fail
        go_ret
        exact ⟨rfl, (hgw.alloc _).trans hg6⟩
      · skip
        go_upto_region 21 with fail
        have hC : (w1.alloc (.cells #[.int .i64 0, .int .i64 0, .int .i64 (0), .int .i64 (0), .string ⟨#[]⟩] 38)).heap[w1.heap.size]? = some (.cells #[.int .i64 0, .int .i64 0, .int .i64 (0), .int .i64 (0), .string ⟨#[]⟩] 38 (0, 0)) := blk_new _ _ _
        have hgX : G w1 (w1.alloc (.cells #[.int .i64 0, .int .i64 0, .int .i64 (0), .int .i64 (0), .string ⟨#[]⟩] 38)) := G.new _ _
        have ht := ht.out
        have hp := hp.out
        generalize (w1.alloc (.cells #[.int .i64 0, .int .i64 0, .int .i64 (0), .int .i64 (0), .string ⟨#[]⟩] 38)) = WX at *
        have hpo := pollA (ht.grow hgX) hp 0 0 (0) (0) ⟨#[]⟩ st1 (n) (by decide) (hT.out.g (hg01.trans hgX)) (by rw [ok_max]; exact decide_eq_true (by omega))
        have k0 := (blk_cell hC 0).trans (show _ = some (Value.int .i64 0) from rfl)
        have k1 := (blk_cell hC 1).trans (show _ = some (Value.int .i64 0) from rfl)
        have k2 := (blk_cell hC 2).trans (show _ = some (Value.int .i64 (0)) from rfl)
        have k3 := (blk_cell hC 3).trans (show _ = some (Value.int .i64 (0)) from rfl)
        have k4 := (blk_cell hC 4).trans (show _ = some (Value.string ⟨#[]⟩) from rfl)
        replace hpo := Lib.hid hpo
        replace hC := Lib.hid hC
        clear ht hp
        go_wp2_with fail
        refine Calls.mono hpo.out ?_
        rintro e w5 ⟨out, A5, m5, hf, he, hown, hg5⟩
        clear hf hown
        generalize (onlyL st1 out).length = n5 at *
        generalize curOf ⟨⟨0, 0, 0⟩, 0, ⟨#[]⟩⟩ out = q5 at *
        obtain ⟨⟨f1, f2, f3⟩, f4, f5⟩ := q5
        have he' : e = .returned (.tuple #[.slice A5 n5 m5, .agg #[.int .i64 f1, .int .i64 f2, .int .i64 f3, .int .i64 f4, .string f5], .int .i64 0]) := he
        subst he'
        clear he
        have hgw := (hg01.trans hgX).trans hg5
        have hawk := awake20_any (w5.alloc (.cells #[.int .i64 f1, .int .i64 f2, .int .i64 f3, .int .i64 f4, .string f5] 38)) (hT.out.g (hgw.alloc _))
        replace hawk := Lib.hid hawk
        clear hpo k0 k1 k2 k3 k4
        go_wp2_with fail
        refine Calls.mono hawk.out ?_
        rintro e w6 ⟨rfl, hg6⟩
        go_wp2_with fail
        go_ret
        exact ⟨rfl, (hgw.alloc _).trans hg6⟩
  · by_cases h1 : n < 0
    · skip
      go_upto_region 21 with fail
      have hC : (w1.alloc (.cells #[.int .i64 0, .int .i64 0, .int .i64 (n), .int .i64 (0), .string ⟨#[]⟩] 38)).heap[w1.heap.size]? = some (.cells #[.int .i64 0, .int .i64 0, .int .i64 (n), .int .i64 (0), .string ⟨#[]⟩] 38 (0, 0)) := blk_new _ _ _
      have hgX : G w1 (w1.alloc (.cells #[.int .i64 0, .int .i64 0, .int .i64 (n), .int .i64 (0), .string ⟨#[]⟩] 38)) := G.new _ _
      have ht := ht.out
      have hp := hp.out
      generalize (w1.alloc (.cells #[.int .i64 0, .int .i64 0, .int .i64 (n), .int .i64 (0), .string ⟨#[]⟩] 38)) = WX at *
      have hpo := poll_bad (.pointer (some ⟨T, 0, none⟩)) (.slice none 0 0) 9 0 0 0 0 (n) (0) ⟨#[]⟩ st1 (5) WX (by decide) (hT.out.g (hg01.trans hgX)) (by rw [ok_node]; exact decide_eq_false (by omega))
      have k0 := (blk_cell hC 0).trans (show _ = some (Value.int .i64 0) from rfl)
      have k1 := (blk_cell hC 1).trans (show _ = some (Value.int .i64 0) from rfl)
      have k2 := (blk_cell hC 2).trans (show _ = some (Value.int .i64 (n)) from rfl)
      have k3 := (blk_cell hC 3).trans (show _ = some (Value.int .i64 (0)) from rfl)
      have k4 := (blk_cell hC 4).trans (show _ = some (Value.string ⟨#[]⟩) from rfl)
      replace hpo := Lib.hid hpo
      replace hC := Lib.hid hC
      go_wp2_with fail
      refine Calls.mono hpo.out ?_
      rintro e w5 ⟨rfl, hg5⟩
      have hgw := (hg01.trans hgX).trans hg5
      have hnq := @cu_eql
      have hz := cu_zero
      have hawk := awake20_any (w5.alloc (.cells #[.int .i64 0, .int .i64 0, .int .i64 0, .int .i64 0, .string ⟨#[]⟩] 38)) (hT.out.g (hgw.alloc _))
      replace hawk := Lib.hid hawk
      clear hpo k0 k1 k2 k3 k4
      go_wp2_with fail
      refine Calls.mono hawk.out ?_
      rintro e w6 ⟨rfl, hg6⟩
      go_wp2_with fail
      go_ret
      exact ⟨rfl, (hgw.alloc _).trans hg6⟩
    · by_cases h2 : 5 < n
      · skip
        go_upto_region 21 with fail
        have hC : (w1.alloc (.cells #[.int .i64 0, .int .i64 0, .int .i64 (n), .int .i64 (0), .string ⟨#[]⟩] 38)).heap[w1.heap.size]? = some (.cells #[.int .i64 0, .int .i64 0, .int .i64 (n), .int .i64 (0), .string ⟨#[]⟩] 38 (0, 0)) := blk_new _ _ _
        have hgX : G w1 (w1.alloc (.cells #[.int .i64 0, .int .i64 0, .int .i64 (n), .int .i64 (0), .string ⟨#[]⟩] 38)) := G.new _ _
        have ht := ht.out
        have hp := hp.out
        generalize (w1.alloc (.cells #[.int .i64 0, .int .i64 0, .int .i64 (n), .int .i64 (0), .string ⟨#[]⟩] 38)) = WX at *
        have hpo := poll_bad (.pointer (some ⟨T, 0, none⟩)) (.slice none 0 0) 9 0 0 0 0 (n) (0) ⟨#[]⟩ st1 (5) WX (by decide) (hT.out.g (hg01.trans hgX)) (by rw [ok_node]; exact decide_eq_false (by omega))
        have k0 := (blk_cell hC 0).trans (show _ = some (Value.int .i64 0) from rfl)
        have k1 := (blk_cell hC 1).trans (show _ = some (Value.int .i64 0) from rfl)
        have k2 := (blk_cell hC 2).trans (show _ = some (Value.int .i64 (n)) from rfl)
        have k3 := (blk_cell hC 3).trans (show _ = some (Value.int .i64 (0)) from rfl)
        have k4 := (blk_cell hC 4).trans (show _ = some (Value.string ⟨#[]⟩) from rfl)
        replace hpo := Lib.hid hpo
        replace hC := Lib.hid hC
        go_wp2_with fail
        refine Calls.mono hpo.out ?_
        rintro e w5 ⟨rfl, hg5⟩
        have hgw := (hg01.trans hgX).trans hg5
        have hnq := @cu_eql
        have hz := cu_zero
        have hawk := awake20_any (w5.alloc (.cells #[.int .i64 0, .int .i64 0, .int .i64 0, .int .i64 0, .string ⟨#[]⟩] 38)) (hT.out.g (hgw.alloc _))
        replace hawk := Lib.hid hawk
        clear hpo k0 k1 k2 k3 k4
        go_wp2_with fail
        refine Calls.mono hawk.out ?_
        rintro e w6 ⟨rfl, hg6⟩
        go_wp2_with fail
        go_ret
        exact ⟨rfl, (hgw.alloc _).trans hg6⟩
      · skip
        go_upto_region 21 with fail
        have hC : (w1.alloc (.cells #[.int .i64 0, .int .i64 0, .int .i64 (n), .int .i64 (0), .string ⟨#[]⟩] 38)).heap[w1.heap.size]? = some (.cells #[.int .i64 0, .int .i64 0, .int .i64 (n), .int .i64 (0), .string ⟨#[]⟩] 38 (0, 0)) := blk_new _ _ _
        have hgX : G w1 (w1.alloc (.cells #[.int .i64 0, .int .i64 0, .int .i64 (n), .int .i64 (0), .string ⟨#[]⟩] 38)) := G.new _ _
        have ht := ht.out
        have hp := hp.out
        generalize (w1.alloc (.cells #[.int .i64 0, .int .i64 0, .int .i64 (n), .int .i64 (0), .string ⟨#[]⟩] 38)) = WX at *
        have hpo := pollA (ht.grow hgX) hp 0 0 (n) (0) ⟨#[]⟩ st1 (5) (by decide) (hT.out.g (hg01.trans hgX)) (by rw [ok_node]; exact decide_eq_true (by omega))
        have k0 := (blk_cell hC 0).trans (show _ = some (Value.int .i64 0) from rfl)
        have k1 := (blk_cell hC 1).trans (show _ = some (Value.int .i64 0) from rfl)
        have k2 := (blk_cell hC 2).trans (show _ = some (Value.int .i64 (n)) from rfl)
        have k3 := (blk_cell hC 3).trans (show _ = some (Value.int .i64 (0)) from rfl)
        have k4 := (blk_cell hC 4).trans (show _ = some (Value.string ⟨#[]⟩) from rfl)
        replace hpo := Lib.hid hpo
        replace hC := Lib.hid hC
        clear ht hp
        go_wp2_with fail
        refine Calls.mono hpo.out ?_
        rintro e w5 ⟨out, A5, m5, hf, he, hown, hg5⟩
        clear hf hown
        generalize (onlyL st1 out).length = n5 at *
        generalize curOf ⟨⟨0, 0, n⟩, 0, ⟨#[]⟩⟩ out = q5 at *
        obtain ⟨⟨f1, f2, f3⟩, f4, f5⟩ := q5
        have he' : e = .returned (.tuple #[.slice A5 n5 m5, .agg #[.int .i64 f1, .int .i64 f2, .int .i64 f3, .int .i64 f4, .string f5], .int .i64 0]) := he
        subst he'
        clear he
        have hgw := (hg01.trans hgX).trans hg5
        have hawk := awake20_any (w5.alloc (.cells #[.int .i64 f1, .int .i64 f2, .int .i64 f3, .int .i64 f4, .string f5] 38)) (hT.out.g (hgw.alloc _))
        replace hawk := Lib.hid hawk
        clear hpo k0 k1 k2 k3 k4
        go_wp2_with fail
        refine Calls.mono hawk.out ?_
        rintro e w6 ⟨rfl, hg6⟩
        go_wp2_with fail
        go_ret
        exact ⟨rfl, (hgw.alloc _).trans hg6⟩
  · skip
    go_upto_region 21 with fail
    have hC : (w1.alloc (.cells #[.int .i64 0, .int .i64 0, .int .i64 (0), .int .i64 (0), .string ⟨#[]⟩] 38)).heap[w1.heap.size]? = some (.cells #[.int .i64 0, .int .i64 0, .int .i64 (0), .int .i64 (0), .string ⟨#[]⟩] 38 (0, 0)) := blk_new _ _ _
    have hgX : G w1 (w1.alloc (.cells #[.int .i64 0, .int .i64 0, .int .i64 (0), .int .i64 (0), .string ⟨#[]⟩] 38)) := G.new _ _
    have ht := ht.out
    have hp := hp.out
    generalize (w1.alloc (.cells #[.int .i64 0, .int .i64 0, .int .i64 (0), .int .i64 (0), .string ⟨#[]⟩] 38)) = WX at *
    have hpo := poll_bad (.pointer (some ⟨T, 0, none⟩)) (.slice none 0 0) 9 0 0 0 0 (0) (0) ⟨#[]⟩ pat9 (5) WX (by decide) (hT.out.g (hg01.trans hgX)) (ok_pat)
    have k0 := (blk_cell hC 0).trans (show _ = some (Value.int .i64 0) from rfl)
    have k1 := (blk_cell hC 1).trans (show _ = some (Value.int .i64 0) from rfl)
    have k2 := (blk_cell hC 2).trans (show _ = some (Value.int .i64 (0)) from rfl)
    have k3 := (blk_cell hC 3).trans (show _ = some (Value.int .i64 (0)) from rfl)
    have k4 := (blk_cell hC 4).trans (show _ = some (Value.string ⟨#[]⟩) from rfl)
    replace hpo := Lib.hid hpo
    replace hC := Lib.hid hC
    go_wp2_with fail
    refine Calls.mono hpo.out ?_
    rintro e w5 ⟨rfl, hg5⟩
    have hgw := (hg01.trans hgX).trans hg5
    have hnq := @cu_eql
    have hz := cu_zero
    have hawk := awake20_any (w5.alloc (.cells #[.int .i64 0, .int .i64 0, .int .i64 0, .int .i64 0, .string ⟨#[]⟩] 38)) (hT.out.g (hgw.alloc _))
    replace hawk := Lib.hid hawk
    clear hpo k0 k1 k2 k3 k4
    go_wp2_with fail
    refine Calls.mono hawk.out ?_
    rintro e w6 ⟨rfl, hg6⟩
    go_wp2_with fail
    go_ret
    exact ⟨rfl, (hgw.alloc _).trans hg6⟩
end Go.Proofs.YthhhobfdlgmjlaaDoor

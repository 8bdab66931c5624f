/- stamp.Min, stamp.Max: what they answer. Condition: lengths fit an int. -/
import Derived.Test.YthhhobfdlgmjlaaDoorM29WholeRow
namespace Go.Proofs.YthhhobfdlgmjlaaDoor
open Go.RowKit

/-- The outermost of some stamps. -/
def mostTo (f : St → St → St) (xs : List St) (k : Nat) : St := match xs.take k with | [] => ⟨0, 0, 0⟩ | x :: l => l.foldl f x
theorem mostTo_one {f : St → St → St} {xs : List St} {x : St} (h : xs[0]? = some x) : mostTo f xs 1 = x := by
  rcases xs with _ | ⟨y, l⟩
  · simp at h
  · simp at h; subst h; rfl
theorem mostTo_succ {f : St → St → St} {xs : List St} {k : Nat} {x : St} (hk : 0 < k) (h : xs[k]? = some x) : mostTo f xs (k + 1) = f (mostTo f xs k) x := by
  obtain ⟨m, rfl⟩ : ∃ m, k = m + 1 := ⟨k - 1, by omega⟩
  rcases xs with _ | ⟨y, l⟩
  · simp at h
  · rw [List.getElem?_cons_succ] at h
    unfold mostTo
    rw [List.take_succ_cons, List.take_succ_cons]
    dsimp only
    rw [take_snoc h, List.foldl_append]
    rfl
theorem stCmp_pos (s x : St) : 0 < stCmp x s ↔ stLt s x = true := by
  have h1 := stCmp_lt x s
  have h2 := stCmp_zero x s
  rcases stLt_tri s x with h | h | h
  · have h3 := stLt_asymm _ _ h
    rw [h3] at h1
    have h4 : ¬ stCmp x s < 0 := of_decide_eq_false h1
    have h5 : ¬ stCmp x s = 0 := fun e => by
      have := h2.1 e
      subst this
      rw [stLt_irrefl] at h; cases h
    exact ⟨fun _ => h, fun _ => by omega⟩
  · subst h
    have := h2.2 rfl
    rw [stLt_irrefl]
    exact ⟨fun h => by omega, fun h => by cases h⟩
  · rw [h] at h1
    have h4 : stCmp x s < 0 := of_decide_eq_true h1
    rw [stLt_asymm _ _ h]
    exact ⟨fun h => by omega, fun h => by cases h⟩
theorem stCmp_neg (s x : St) : stCmp x s < 0 ↔ stLt x s = true := by rw [← stCmp_lt]; simp
theorem stMax_if (s x : St) : stMax s x = if 0 < stCmp x s then x else s := by
  unfold stMax
  by_cases h : 0 < stCmp x s
  · rw [if_pos h, if_pos ((stCmp_pos s x).1 h)]
  · rw [if_neg h, if_neg (fun e => h ((stCmp_pos s x).2 e))]
theorem stMin_if (s x : St) : stMin s x = if stCmp x s < 0 then x else s := by
  unfold stMin
  by_cases h : stCmp x s < 0
  · rw [if_pos h, if_pos ((stCmp_neg s x).1 h)]
  · rw [if_neg h, if_neg (fun e => h ((stCmp_neg s x).2 e))]
theorem stCmp_b (x s : St) : -1 ≤ stCmp x s ∧ stCmp x s ≤ 1 := by
  have : ∀ l : List Int, (∀ y ∈ l, -1 ≤ y ∧ y ≤ 1) → -1 ≤ orOf l ∧ orOf l ≤ 1 := by
    intro l
    induction l with
    | nil => intro _; simp [orOf]
    | cons y l ih =>
      intro h
      have h1 := h y (by simp)
      have h2 := ih fun z hz => h z (by simp [hz])
      simp only [orOf]
      split <;> omega
  exact this _ fun y hy => by
    simp only [List.mem_cons, List.not_mem_nil, or_false] at hy
    rcases hy with rfl | rfl | rfl <;> exact cmpI_b _ _
theorem St.cells_len (s : St) : s.cells.length = 3 := rfl
theorem Sl.st3 {w : World} {B : Nat} {A : Option Addr} {xs : List St} {k : Nat} {x : St} (h : Sl St.cells 3 w B A xs) (hx : xs[k]? = some x) :
    ∃ b o, A = some ⟨b, o, none⟩ ∧ b < B ∧ w.cell? ⟨b, o + k * 3, none⟩ = some (.int .i64 x.wall) ∧ w.cell? ⟨b, o + k * 3 + 1, none⟩ = some (.int .i64 x.logic) ∧ w.cell? ⟨b, o + k * 3 + 2, none⟩ = some (.int .i64 x.node) := by
  obtain ⟨b, o, e, hb, hc⟩ := h.get hx
  exact ⟨b, o, e, hb, hc 0 _ rfl, hc 1 _ rfl, hc 2 _ rfl⟩

set_option maxHeartbeats 1000000 in
set_option maxRecDepth 100000 in
theorem mostMax_any (xs : List St) (A : Option Addr) (c B : Nat) (w : World) (hB : B ≤ w.heap.size) (hl : xs.length ≤ 1000) (hs : Sl St.cells 3 w B A xs) :
    Calls Tryd.prog 58 #[.slice A xs.length c, .int .i64 1] w fun e w' => e = .returned (.agg #[.int .i64 (mostTo stMax xs xs.length).wall, .int .i64 (mostTo stMax xs xs.length).logic, .int .i64 (mostTo stMax xs xs.length).node]) ∧ G w w' := by
  go_enter Tryd.func58, Tryd.ntmps58
  go_wp2_with fail
  go_loopw [9] (fun i wr => ∃ (k : Nat) (s : St), k ≤ xs.length ∧ i = .int .i64 k ∧ Hid (s = mostTo stMax xs k) ∧ Hid (wr.heap[w.heap.size]? = some (.cells #[.int .i64 s.wall, .int .i64 s.logic, .int .i64 s.node] 26 (0, 0))) ∧ G w wr) (fun i _ => xs.length - (intOf i).toNat)
  case atStart => exact ⟨0, ⟨0, 0, 0⟩, Nat.zero_le _, rfl, rfl, blk_new _ _ _, G.new _ _⟩
  case round =>
    obtain ⟨k, ⟨s1, s2, s3⟩, hk, rfl, hsm, hblk, hg⟩ := hrel
    have hsz := blk_lt hblk.out
    have z0 := (blk_cell hblk.out 0).trans rfl
    have z1 := (blk_cell hblk.out 1).trans rfl
    have z2 := (blk_cell hblk.out 2).trans rfl
    dsimp only at z0 z1 z2
    by_cases hlt : k < xs.length
    · obtain ⟨⟨x1, x2, x3⟩, hx⟩ : ∃ x, xs[k]? = some x := ⟨_, List.getElem?_eq_getElem hlt⟩
      obtain ⟨b, o, rfl, hb, c0, c1, c2⟩ := (hs.g hB hg).st3 hx
      replace hx := Lib.hid hx
      dsimp only at c0 c1 c2
      have hcb := stCmp_b ⟨x1, x2, x3⟩ ⟨s1, s2, s3⟩
      by_cases hk0 : k = 0
      · have hnew : (⟨x1, x2, x3⟩ : St) = mostTo stMax xs (k + 1) := by
          have h := hx.out
          rw [hk0] at h
          rw [hk0]
          exact (mostTo_one h).symm
        replace hnew := Lib.hid hnew
        have hkb : ((k : Int) == 0) = true := by simp; omega
        replace hk0 := Lib.hid hk0
        obtain ⟨W2, SR, C2, hb2, hG2⟩ := store_blk (P := Tryd.prog) (T := 26) (cs := #[.int .i64 x1, .int .i64 x2, .int .i64 x3]) ((G.new wr (.cells #[.int .i64 x1, .int .i64 x2, .int .i64 x3] 26)).blk hblk.out) rfl (by kernel_rfl) (by kernel_rfl)
        replace hG2 := hG2 _ (hg.alloc _) (Nat.le_refl _)
        replace C2 := Lib.hid C2
        clear hb2 hblk hs hsm
        go_wp2_with (refine wpList_store_at (ty := 26) (x := .tmp 4) rfl (by kernel_rfl) (p := .pointer (some ⟨w.heap.size, 0, none⟩)) (v := .agg #[.int .i64 x1, .int .i64 x2, .int .i64 x3]) rfl rfl SR ?_; clear SR)
        go_roundw
        case rel => exact ⟨k + 1, ⟨x1, x2, x3⟩, by omega, by go_num, hnew, C2, hG2⟩
        case measure => simp [intOf]; omega
      · have hk1 : 0 < k := by omega
        have hkb : ((k : Int) == 0) = false := by simp; omega
        have hms := mostTo_succ (f := stMax) hk1 hx.out
        rw [← hsm.out, stMax_if] at hms
        replace hms := Lib.hid hms
        go_wp2_with fail
        refine (stOrder_any _ _ _ _ _ _ _).mono ?_
        rintro e w2 ⟨rfl, hg2⟩
        have hgw := (hg.alloc _).trans hg2
        have d0 : w2.cell? ⟨wr.heap.size, 0, none⟩ = some (.int .i64 x1) := (hg2.cell (by simp)).trans (by simp)
        have d1 : w2.cell? ⟨wr.heap.size, 1, none⟩ = some (.int .i64 x2) := (hg2.cell (by simp)).trans (by simp)
        have d2 : w2.cell? ⟨wr.heap.size, 2, none⟩ = some (.int .i64 x3) := (hg2.cell (by simp)).trans (by simp)
        have hbl2 := ((G.new wr _).trans hg2).blk hblk.out
        replace hbl2 := Lib.hid hbl2
        clear hg2 hs hblk c0 c1 c2 z0 z1 z2
        generalize hp : stCmp ⟨x1, x2, x3⟩ ⟨s1, s2, s3⟩ = p at *
        by_cases hpo : 0 < p
        · have hnew : (⟨x1, x2, x3⟩ : St) = mostTo stMax xs (k + 1) := by rw [hms.out, if_pos hpo]
          replace hnew := Lib.hid hnew
          obtain ⟨W2, SR, C2, hb2, hG2⟩ := store_blk (P := Tryd.prog) (T := 26) (cs := #[.int .i64 x1, .int .i64 x2, .int .i64 x3]) hbl2.out rfl (by kernel_rfl) (by kernel_rfl)
          replace hG2 := hG2 _ hgw (Nat.le_refl _)
          replace C2 := Lib.hid C2
          clear hb2 hbl2 hsm
          go_wp2_with (refine wpList_store_at (ty := 26) (x := .tmp 4) rfl (by kernel_rfl) (p := .pointer (some ⟨w.heap.size, 0, none⟩)) (v := .agg #[.int .i64 x1, .int .i64 x2, .int .i64 x3]) rfl rfl SR ?_; clear SR)
          go_roundw
          case rel => exact ⟨k + 1, ⟨x1, x2, x3⟩, by omega, by go_num, hnew, C2, hG2⟩
          case measure => simp [intOf]; omega
        · have hnew : (⟨s1, s2, s3⟩ : St) = mostTo stMax xs (k + 1) := by rw [hms.out, if_neg hpo]
          replace hnew := Lib.hid hnew
          clear hsm
          go_wp2_with fail
          go_roundw
          case rel => exact ⟨k + 1, ⟨s1, s2, s3⟩, by omega, by go_num, hnew, hbl2, hgw⟩
          case measure => simp [intOf]; omega
    · obtain rfl : k = xs.length := by omega
      obtain ⟨W2, SR, C2, hb2, hG2⟩ := store_blk (P := Tryd.prog) (T := 26) (cs := #[.int .i64 s1, .int .i64 s2, .int .i64 s3]) hblk.out rfl (by kernel_rfl) (by kernel_rfl)
      replace hG2 := hG2 _ hg (Nat.le_refl _)
      replace C2 := Lib.hid C2
      clear hb2 hblk hs
      go_wp2_with (refine wpList_store_at (ty := 26) (x := .tmp 4) rfl (by kernel_rfl) (p := .pointer (some ⟨w.heap.size, 0, none⟩)) (v := .agg #[.int .i64 s1, .int .i64 s2, .int .i64 s3]) rfl rfl SR ?_; clear SR)
      refine bodyPost_ret (v := .agg #[.int .i64 s1, .int .i64 s2, .int .i64 s3]) (results_cell (i := 4) rfl rfl C2.out Tryd.underlying26 rfl (by kernel_rfl)) rfl ?_
      exact ⟨by rw [← hsm.out], hG2⟩
set_option maxHeartbeats 1000000 in
set_option maxRecDepth 100000 in
theorem mostMin_any (xs : List St) (A : Option Addr) (c B : Nat) (w : World) (hB : B ≤ w.heap.size) (hl : xs.length ≤ 1000) (hs : Sl St.cells 3 w B A xs) :
    Calls Tryd.prog 58 #[.slice A xs.length c, .int .i64 (-1)] w fun e w' => e = .returned (.agg #[.int .i64 (mostTo stMin xs xs.length).wall, .int .i64 (mostTo stMin xs xs.length).logic, .int .i64 (mostTo stMin xs xs.length).node]) ∧ G w w' := by
  go_enter Tryd.func58, Tryd.ntmps58
  go_wp2_with fail
  go_loopw [9] (fun i wr => ∃ (k : Nat) (s : St), k ≤ xs.length ∧ i = .int .i64 k ∧ Hid (s = mostTo stMin xs k) ∧ Hid (wr.heap[w.heap.size]? = some (.cells #[.int .i64 s.wall, .int .i64 s.logic, .int .i64 s.node] 26 (0, 0))) ∧ G w wr) (fun i _ => xs.length - (intOf i).toNat)
  case atStart => exact ⟨0, ⟨0, 0, 0⟩, Nat.zero_le _, rfl, rfl, blk_new _ _ _, G.new _ _⟩
  case round =>
    obtain ⟨k, ⟨s1, s2, s3⟩, hk, rfl, hsm, hblk, hg⟩ := hrel
    have hsz := blk_lt hblk.out
    have z0 := (blk_cell hblk.out 0).trans rfl
    have z1 := (blk_cell hblk.out 1).trans rfl
    have z2 := (blk_cell hblk.out 2).trans rfl
    dsimp only at z0 z1 z2
    by_cases hlt : k < xs.length
    · obtain ⟨⟨x1, x2, x3⟩, hx⟩ : ∃ x, xs[k]? = some x := ⟨_, List.getElem?_eq_getElem hlt⟩
      obtain ⟨b, o, rfl, hb, c0, c1, c2⟩ := (hs.g hB hg).st3 hx
      replace hx := Lib.hid hx
      dsimp only at c0 c1 c2
      have hcb := stCmp_b ⟨x1, x2, x3⟩ ⟨s1, s2, s3⟩
      by_cases hk0 : k = 0
      · have hnew : (⟨x1, x2, x3⟩ : St) = mostTo stMin xs (k + 1) := by
          have h := hx.out
          rw [hk0] at h
          rw [hk0]
          exact (mostTo_one h).symm
        replace hnew := Lib.hid hnew
        have hkb : ((k : Int) == 0) = true := by simp; omega
        replace hk0 := Lib.hid hk0
        obtain ⟨W2, SR, C2, hb2, hG2⟩ := store_blk (P := Tryd.prog) (T := 26) (cs := #[.int .i64 x1, .int .i64 x2, .int .i64 x3]) ((G.new wr (.cells #[.int .i64 x1, .int .i64 x2, .int .i64 x3] 26)).blk hblk.out) rfl (by kernel_rfl) (by kernel_rfl)
        replace hG2 := hG2 _ (hg.alloc _) (Nat.le_refl _)
        replace C2 := Lib.hid C2
        clear hb2 hblk hs hsm
        go_wp2_with (refine wpList_store_at (ty := 26) (x := .tmp 4) rfl (by kernel_rfl) (p := .pointer (some ⟨w.heap.size, 0, none⟩)) (v := .agg #[.int .i64 x1, .int .i64 x2, .int .i64 x3]) rfl rfl SR ?_; clear SR)
        go_roundw
        case rel => exact ⟨k + 1, ⟨x1, x2, x3⟩, by omega, by go_num, hnew, C2, hG2⟩
        case measure => simp [intOf]; omega
      · have hk1 : 0 < k := by omega
        have hkb : ((k : Int) == 0) = false := by simp; omega
        have hms := mostTo_succ (f := stMin) hk1 hx.out
        rw [← hsm.out, stMin_if] at hms
        replace hms := Lib.hid hms
        go_wp2_with fail
        refine (stOrder_any _ _ _ _ _ _ _).mono ?_
        rintro e w2 ⟨rfl, hg2⟩
        have hgw := (hg.alloc _).trans hg2
        have d0 : w2.cell? ⟨wr.heap.size, 0, none⟩ = some (.int .i64 x1) := (hg2.cell (by simp)).trans (by simp)
        have d1 : w2.cell? ⟨wr.heap.size, 1, none⟩ = some (.int .i64 x2) := (hg2.cell (by simp)).trans (by simp)
        have d2 : w2.cell? ⟨wr.heap.size, 2, none⟩ = some (.int .i64 x3) := (hg2.cell (by simp)).trans (by simp)
        have hbl2 := ((G.new wr _).trans hg2).blk hblk.out
        replace hbl2 := Lib.hid hbl2
        clear hg2 hs hblk c0 c1 c2 z0 z1 z2
        generalize hp : stCmp ⟨x1, x2, x3⟩ ⟨s1, s2, s3⟩ = p at *
        by_cases hpo : p < 0
        · have hnew : (⟨x1, x2, x3⟩ : St) = mostTo stMin xs (k + 1) := by rw [hms.out, if_pos hpo]
          replace hnew := Lib.hid hnew
          obtain ⟨W2, SR, C2, hb2, hG2⟩ := store_blk (P := Tryd.prog) (T := 26) (cs := #[.int .i64 x1, .int .i64 x2, .int .i64 x3]) hbl2.out rfl (by kernel_rfl) (by kernel_rfl)
          replace hG2 := hG2 _ hgw (Nat.le_refl _)
          replace C2 := Lib.hid C2
          clear hb2 hbl2 hsm
          go_wp2_with (refine wpList_store_at (ty := 26) (x := .tmp 4) rfl (by kernel_rfl) (p := .pointer (some ⟨w.heap.size, 0, none⟩)) (v := .agg #[.int .i64 x1, .int .i64 x2, .int .i64 x3]) rfl rfl SR ?_; clear SR)
          go_roundw
          case rel => exact ⟨k + 1, ⟨x1, x2, x3⟩, by omega, by go_num, hnew, C2, hG2⟩
          case measure => simp [intOf]; omega
        · have hnew : (⟨s1, s2, s3⟩ : St) = mostTo stMin xs (k + 1) := by rw [hms.out, if_neg hpo]
          replace hnew := Lib.hid hnew
          clear hsm
          go_wp2_with fail
          go_roundw
          case rel => exact ⟨k + 1, ⟨s1, s2, s3⟩, by omega, by go_num, hnew, hbl2, hgw⟩
          case measure => simp [intOf]; omega
    · obtain rfl : k = xs.length := by omega
      obtain ⟨W2, SR, C2, hb2, hG2⟩ := store_blk (P := Tryd.prog) (T := 26) (cs := #[.int .i64 s1, .int .i64 s2, .int .i64 s3]) hblk.out rfl (by kernel_rfl) (by kernel_rfl)
      replace hG2 := hG2 _ hg (Nat.le_refl _)
      replace C2 := Lib.hid C2
      clear hb2 hblk hs
      go_wp2_with (refine wpList_store_at (ty := 26) (x := .tmp 4) rfl (by kernel_rfl) (p := .pointer (some ⟨w.heap.size, 0, none⟩)) (v := .agg #[.int .i64 s1, .int .i64 s2, .int .i64 s3]) rfl rfl SR ?_; clear SR)
      refine bodyPost_ret (v := .agg #[.int .i64 s1, .int .i64 s2, .int .i64 s3]) (results_cell (i := 4) rfl rfl C2.out Tryd.underlying26 rfl (by kernel_rfl)) rfl ?_
      exact ⟨by rw [← hsm.out], hG2⟩

set_option maxHeartbeats 1000000 in
theorem max2_any (a b : St) (A : Option Addr) (c B : Nat) (w : World) (hB : B ≤ w.heap.size) (hs : Sl St.cells 3 w B A [a, b]) :
    Calls Tryd.prog 43 #[.slice A 2 c] w fun e w' => e = .returned (.agg #[.int .i64 (stMax a b).wall, .int .i64 (stMax a b).logic, .int .i64 (stMax a b).node]) ∧ G w w' := by
  go_enter Tryd.func43, Tryd.ntmps43
  have hm := mostMax_any [a, b] A c B (w.alloc (.cells #[.int .i64 0, .int .i64 0, .int .i64 0] 26)) (by simp; omega) (by simp) (hs.g hB (G.new _ _))
  rw [show mostTo stMax [a, b] [a, b].length = stMax a b from rfl, show ([a, b] : List St).length = 2 from rfl] at hm
  generalize stMax a b = r at *
  obtain ⟨r1, r2, r3⟩ := r
  go_wp2_with fail
  refine hm.mono ?_
  clear hm
  rintro e w2 ⟨rfl, hg2⟩
  obtain ⟨W2, SR, C2, hb2, hG2⟩ := store_blk (P := Tryd.prog) (T := 26) (cs := #[.int .i64 r1, .int .i64 r2, .int .i64 r3]) (hg2.blk (blk_new w _ _)) rfl (by kernel_rfl) (by kernel_rfl)
  replace hG2 := hG2 _ ((G.new w _).trans hg2) (Nat.le_refl _)
  replace C2 := Lib.hid C2
  clear hb2 hg2
  go_wp2_with (refine wpList_store_at (ty := 26) (x := .tmp 2) rfl (by kernel_rfl) (p := .pointer (some ⟨w.heap.size, 0, none⟩)) (v := .agg #[.int .i64 r1, .int .i64 r2, .int .i64 r3]) rfl rfl SR ?_; clear SR)
  refine bodyPost_ret (v := .agg #[.int .i64 r1, .int .i64 r2, .int .i64 r3]) (results_cell (i := 2) rfl rfl C2.out Tryd.underlying26 rfl (by kernel_rfl)) rfl ?_
  exact ⟨rfl, hG2⟩
set_option maxHeartbeats 1000000 in
theorem min2_any (a b : St) (A : Option Addr) (c B : Nat) (w : World) (hB : B ≤ w.heap.size) (hs : Sl St.cells 3 w B A [a, b]) :
    Calls Tryd.prog 53 #[.slice A 2 c] w fun e w' => e = .returned (.agg #[.int .i64 (stMin a b).wall, .int .i64 (stMin a b).logic, .int .i64 (stMin a b).node]) ∧ G w w' := by
  go_enter Tryd.func53, Tryd.ntmps53
  have hm := mostMin_any [a, b] A c B (w.alloc (.cells #[.int .i64 0, .int .i64 0, .int .i64 0] 26)) (by simp; omega) (by simp) (hs.g hB (G.new _ _))
  rw [show mostTo stMin [a, b] [a, b].length = stMin a b from rfl, show ([a, b] : List St).length = 2 from rfl] at hm
  generalize stMin a b = r at *
  obtain ⟨r1, r2, r3⟩ := r
  go_wp2_with fail
  refine hm.mono ?_
  clear hm
  rintro e w2 ⟨rfl, hg2⟩
  obtain ⟨W2, SR, C2, hb2, hG2⟩ := store_blk (P := Tryd.prog) (T := 26) (cs := #[.int .i64 r1, .int .i64 r2, .int .i64 r3]) (hg2.blk (blk_new w _ _)) rfl (by kernel_rfl) (by kernel_rfl)
  replace hG2 := hG2 _ ((G.new w _).trans hg2) (Nat.le_refl _)
  replace C2 := Lib.hid C2
  clear hb2 hg2
  go_wp2_with (refine wpList_store_at (ty := 26) (x := .tmp 2) rfl (by kernel_rfl) (p := .pointer (some ⟨w.heap.size, 0, none⟩)) (v := .agg #[.int .i64 r1, .int .i64 r2, .int .i64 r3]) rfl rfl SR ?_; clear SR)
  refine bodyPost_ret (v := .agg #[.int .i64 r1, .int .i64 r2, .int .i64 r3]) (results_cell (i := 2) rfl rfl C2.out Tryd.underlying26 rfl (by kernel_rfl)) rfl ?_
  exact ⟨rfl, hG2⟩
end Go.Proofs.YthhhobfdlgmjlaaDoor

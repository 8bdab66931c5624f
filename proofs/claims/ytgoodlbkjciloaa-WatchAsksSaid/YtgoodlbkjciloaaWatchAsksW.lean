/- penstocklaw29.WatchAsks: the walk. Conditions: lengths fit an int. -/
import Derived.Test.YtgoodlbkjciloaaRefHas
import Derived.Test.YtgoodlbkjciloaaCauses
import Derived.Test.YtgoodlbkjciloaaAwake29
import Derived.Test.YtgoodlbkjciloaaBulkGe
import Derived.Test.YtgoodlbkjciloaaSmall
namespace Go.Proofs.Ytgoodlbkjciloaa
open Go.RowKit

theorem putsMore2 {w : World} {B B' : Nat} {A : Option Addr} {ps : List PutM} (h : PutsIn w B A ps) (hB : B ≤ B') : PutsIn w B' A ps := ⟨h.1.more hB, fun p hp => (h.2 p hp).more hB⟩
theorem longOf_len {ls : List LogM} {n : Nat} (h : ∀ l ∈ ls, l.es.length ≤ n) : (longOf ls).es.length ≤ n := by
  rcases longOf_mem ls with h1 | h1
  · rw [h1]; exact Nat.zero_le _
  · exact h _ h1
theorem longOf_ok {ls : List LogM} {w : World} {B : Nat} (h : ∀ l ∈ ls, l.ok w B) : Sl Ev.cells 7 w B (longOf ls).A (longOf ls).es := by
  rcases longOf_mem ls with h1 | h1
  · rw [h1]; exact Sl.nil
  · exact (h _ h1).1
set_option maxRecDepth 100000 in
set_option maxHeartbeats 8000000 in
theorem watchAsks_walk (ls : List LogM) (Al : Option Addr) (cl : Nat) (key : ByteArray) (ps : List PutM) (A Af : Option Addr) (c cf : Nat) (fs : List Int) (x y z rc k0 k1 k2 k3 rn x2 y2 z2 x3 y3 z3 : Int) (k4 : ByteArray) (ve vr : Value) (w : World)
    (hl : ls.length ≤ 9223372036854775807) (hx : ∀ l ∈ ls, EvsOk l.es) (hs : LogsIn w w.heap.size Al ls) (hk : key.size ≤ 9223372036854775807) (ho : PutsOk ps) (hin : PutsIn w w.heap.size A ps) (hfi : Sl intC 1 w w.heap.size Af fs) (hfl : fs.length ≤ 9223372036854775807) :
    Calls Try.prog 4 #[.slice Al ls.length cl, .agg #[.string key, .slice A ps.length c], .agg #[.int .i64 rc, .int .i64 x, .int .i64 y, .int .i64 z, .slice Af fs.length cf, ve, .int .i64 k0, .int .i64 k1, .int .i64 k2, .int .i64 k3, .string k4, vr, .int .i64 rn], .agg #[.int .i64 x2, .int .i64 y2, .int .i64 z2], .agg #[.int .i64 x3, .int .i64 y3, .int .i64 z3]] w fun e w' => e = .returned (.bool true) ∧ G w w' := by
  go_enter Try.func4, Try.ntmps4
  go_upto_region 1 with fail
  generalize hW0 : (((w.alloc (.cells #[.string key, .slice A ps.length c] 24)).alloc (.cells #[.int .i64 rc, .int .i64 x, .int .i64 y, .int .i64 z, .slice Af fs.length cf, ve, .int .i64 k0, .int .i64 k1, .int .i64 k2, .int .i64 k3, .string k4, vr, .int .i64 rn] 42)).alloc (.cells #[.int .i64 x2, .int .i64 y2, .int .i64 z2] 32)).alloc (.cells #[.int .i64 x3, .int .i64 y3, .int .i64 z3] 32) = W0
  have hz : w.heap.size + 3 < W0.heap.size := by rw [← hW0]; simp
  have hG0 : G w W0 := by rw [← hW0]; exact (((G.new _ _).alloc _).alloc _).alloc _
  have r0 : W0.cell? ⟨w.heap.size, 0, none⟩ = some (.string key) := by rw [← hW0, blk_cell ((((G.new _ _).alloc _).alloc _).blk (blk_new' _ _ _ _ (by simp)))]; rfl
  have r1 : W0.cell? ⟨w.heap.size, 1, none⟩ = some (.slice A ps.length c) := by rw [← hW0, blk_cell ((((G.new _ _).alloc _).alloc _).blk (blk_new' _ _ _ _ (by simp)))]; rfl
  have r2 : W0.cell? ⟨w.heap.size + 1, 0, none⟩ = some (.int .i64 rc) := by rw [← hW0, blk_cell (((G.new _ _).alloc _).blk (blk_new' _ _ _ _ (by simp)))]; rfl
  have r3 : W0.cell? ⟨w.heap.size + 1, 1, none⟩ = some (.int .i64 x) := by rw [← hW0, blk_cell (((G.new _ _).alloc _).blk (blk_new' _ _ _ _ (by simp)))]; rfl
  have r4 : W0.cell? ⟨w.heap.size + 1, 2, none⟩ = some (.int .i64 y) := by rw [← hW0, blk_cell (((G.new _ _).alloc _).blk (blk_new' _ _ _ _ (by simp)))]; rfl
  have r5 : W0.cell? ⟨w.heap.size + 1, 3, none⟩ = some (.int .i64 z) := by rw [← hW0, blk_cell (((G.new _ _).alloc _).blk (blk_new' _ _ _ _ (by simp)))]; rfl
  have r6 : W0.cell? ⟨w.heap.size + 1, 4, none⟩ = some (.slice Af fs.length cf) := by rw [← hW0, blk_cell (((G.new _ _).alloc _).blk (blk_new' _ _ _ _ (by simp)))]; rfl
  have r7 : W0.cell? ⟨w.heap.size + 1, 5, none⟩ = some (ve) := by rw [← hW0, blk_cell (((G.new _ _).alloc _).blk (blk_new' _ _ _ _ (by simp)))]; rfl
  have r8 : W0.cell? ⟨w.heap.size + 1, 6, none⟩ = some (.int .i64 k0) := by rw [← hW0, blk_cell (((G.new _ _).alloc _).blk (blk_new' _ _ _ _ (by simp)))]; rfl
  have r9 : W0.cell? ⟨w.heap.size + 1, 7, none⟩ = some (.int .i64 k1) := by rw [← hW0, blk_cell (((G.new _ _).alloc _).blk (blk_new' _ _ _ _ (by simp)))]; rfl
  have r10 : W0.cell? ⟨w.heap.size + 1, 8, none⟩ = some (.int .i64 k2) := by rw [← hW0, blk_cell (((G.new _ _).alloc _).blk (blk_new' _ _ _ _ (by simp)))]; rfl
  have r11 : W0.cell? ⟨w.heap.size + 1, 9, none⟩ = some (.int .i64 k3) := by rw [← hW0, blk_cell (((G.new _ _).alloc _).blk (blk_new' _ _ _ _ (by simp)))]; rfl
  have r12 : W0.cell? ⟨w.heap.size + 1, 10, none⟩ = some (.string k4) := by rw [← hW0, blk_cell (((G.new _ _).alloc _).blk (blk_new' _ _ _ _ (by simp)))]; rfl
  have r13 : W0.cell? ⟨w.heap.size + 1, 11, none⟩ = some (vr) := by rw [← hW0, blk_cell (((G.new _ _).alloc _).blk (blk_new' _ _ _ _ (by simp)))]; rfl
  have r14 : W0.cell? ⟨w.heap.size + 1, 12, none⟩ = some (.int .i64 rn) := by rw [← hW0, blk_cell (((G.new _ _).alloc _).blk (blk_new' _ _ _ _ (by simp)))]; rfl
  have r15 : W0.cell? ⟨w.heap.size + 1 + 1, 0, none⟩ = some (.int .i64 x2) := by rw [← hW0, blk_cell ((G.new _ _).blk (blk_new' _ _ _ _ (by simp)))]; rfl
  have r16 : W0.cell? ⟨w.heap.size + 1 + 1, 1, none⟩ = some (.int .i64 y2) := by rw [← hW0, blk_cell ((G.new _ _).blk (blk_new' _ _ _ _ (by simp)))]; rfl
  have r17 : W0.cell? ⟨w.heap.size + 1 + 1, 2, none⟩ = some (.int .i64 z2) := by rw [← hW0, blk_cell ((G.new _ _).blk (blk_new' _ _ _ _ (by simp)))]; rfl
  have r18 : W0.cell? ⟨w.heap.size + 1 + 1 + 1, 0, none⟩ = some (.int .i64 x3) := by rw [← hW0, blk_cell (blk_new' _ _ _ _ (by simp))]; rfl
  have r19 : W0.cell? ⟨w.heap.size + 1 + 1 + 1, 1, none⟩ = some (.int .i64 y3) := by rw [← hW0, blk_cell (blk_new' _ _ _ _ (by simp))]; rfl
  have r20 : W0.cell? ⟨w.heap.size + 1 + 1 + 1, 2, none⟩ = some (.int .i64 z3) := by rw [← hW0, blk_cell (blk_new' _ _ _ _ (by simp))]; rfl
  clear hW0
  have q0 : ∀ w', G W0 w' → w'.cell? ⟨w.heap.size, 0, none⟩ = some (.string key) := fun w' h => (h.cell (by omega)).trans r0
  have q1 : ∀ w', G W0 w' → w'.cell? ⟨w.heap.size, 1, none⟩ = some (.slice A ps.length c) := fun w' h => (h.cell (by omega)).trans r1
  have q2 : ∀ w', G W0 w' → w'.cell? ⟨w.heap.size + 1, 0, none⟩ = some (.int .i64 rc) := fun w' h => (h.cell (by omega)).trans r2
  have q3 : ∀ w', G W0 w' → w'.cell? ⟨w.heap.size + 1, 1, none⟩ = some (.int .i64 x) := fun w' h => (h.cell (by omega)).trans r3
  have q4 : ∀ w', G W0 w' → w'.cell? ⟨w.heap.size + 1, 2, none⟩ = some (.int .i64 y) := fun w' h => (h.cell (by omega)).trans r4
  have q5 : ∀ w', G W0 w' → w'.cell? ⟨w.heap.size + 1, 3, none⟩ = some (.int .i64 z) := fun w' h => (h.cell (by omega)).trans r5
  have q6 : ∀ w', G W0 w' → w'.cell? ⟨w.heap.size + 1, 4, none⟩ = some (.slice Af fs.length cf) := fun w' h => (h.cell (by omega)).trans r6
  have q7 : ∀ w', G W0 w' → w'.cell? ⟨w.heap.size + 1, 5, none⟩ = some (ve) := fun w' h => (h.cell (by omega)).trans r7
  have q8 : ∀ w', G W0 w' → w'.cell? ⟨w.heap.size + 1, 6, none⟩ = some (.int .i64 k0) := fun w' h => (h.cell (by omega)).trans r8
  have q9 : ∀ w', G W0 w' → w'.cell? ⟨w.heap.size + 1, 7, none⟩ = some (.int .i64 k1) := fun w' h => (h.cell (by omega)).trans r9
  have q10 : ∀ w', G W0 w' → w'.cell? ⟨w.heap.size + 1, 8, none⟩ = some (.int .i64 k2) := fun w' h => (h.cell (by omega)).trans r10
  have q11 : ∀ w', G W0 w' → w'.cell? ⟨w.heap.size + 1, 9, none⟩ = some (.int .i64 k3) := fun w' h => (h.cell (by omega)).trans r11
  have q12 : ∀ w', G W0 w' → w'.cell? ⟨w.heap.size + 1, 10, none⟩ = some (.string k4) := fun w' h => (h.cell (by omega)).trans r12
  have q13 : ∀ w', G W0 w' → w'.cell? ⟨w.heap.size + 1, 11, none⟩ = some (vr) := fun w' h => (h.cell (by omega)).trans r13
  have q14 : ∀ w', G W0 w' → w'.cell? ⟨w.heap.size + 1, 12, none⟩ = some (.int .i64 rn) := fun w' h => (h.cell (by omega)).trans r14
  have q15 : ∀ w', G W0 w' → w'.cell? ⟨w.heap.size + 1 + 1, 0, none⟩ = some (.int .i64 x2) := fun w' h => (h.cell (by omega)).trans r15
  have q16 : ∀ w', G W0 w' → w'.cell? ⟨w.heap.size + 1 + 1, 1, none⟩ = some (.int .i64 y2) := fun w' h => (h.cell (by omega)).trans r16
  have q17 : ∀ w', G W0 w' → w'.cell? ⟨w.heap.size + 1 + 1, 2, none⟩ = some (.int .i64 z2) := fun w' h => (h.cell (by omega)).trans r17
  have q18 : ∀ w', G W0 w' → w'.cell? ⟨w.heap.size + 1 + 1 + 1, 0, none⟩ = some (.int .i64 x3) := fun w' h => (h.cell (by omega)).trans r18
  have q19 : ∀ w', G W0 w' → w'.cell? ⟨w.heap.size + 1 + 1 + 1, 1, none⟩ = some (.int .i64 y3) := fun w' h => (h.cell (by omega)).trans r19
  have q20 : ∀ w', G W0 w' → w'.cell? ⟨w.heap.size + 1 + 1 + 1, 2, none⟩ = some (.int .i64 z3) := fun w' h => (h.cell (by omega)).trans r20
  clear r0 r1 r2 r3 r4 r5 r6 r7 r8 r9 r10 r11 r12 r13 r14 r15 r16 r17 r18 r19 r20
  have hsm := small29_any ls Al cl w.heap.size W0 hG0.size hl hx (hs.g (Nat.le_refl _) hG0)
  have hba := fun (w' : World) (h : G W0 w') => batch_any 5000 key ps A c w.heap.size w' (hG0.trans h).size hk ho (hin.g (Nat.le_refl _) (hG0.trans h))
  obtain ⟨T, hTo⟩ : ∃ T, batchOf 5000 key ps = T := ⟨_, rfl⟩
  rw [hTo] at hba
  replace hTo := Lib.hid hTo
  replace hba := Lib.hid hba
  by_cases hsmall : smallB 300 20 ls = true
  case neg =>
    have hsb : smallB 300 20 ls = false := by simpa using hsmall
    rw [hsb] at hsm
    replace hsm := Lib.hid hsm
    clear hsb hsmall
    go_wp2_with (first
      | (go_at_call 9; refine hsm.out.mono ?_; rintro e w1 ⟨rfl, hg1⟩; have g0 := q0 _ hg1; have g1 := q1 _ hg1)
      | (go_at_call 5; refine (hba.out _ hg1).mono ?_; rintro e w2 ⟨rfl, hg2⟩; have g6 := q6 _ (hg1.trans hg2))
      | (go_at_call 6; refine (awake29_any _).mono ?_; rintro e w9 ⟨rfl, hg9⟩))
    go_ret
    exact ⟨rfl, hG0.trans (hg1.trans hg9)⟩
  obtain ⟨hsum, hcnt20⟩ := small_len (by omega) (by omega) hsmall
  have hlnA : ∀ l ∈ ls, l.es.length ≤ 1099511627776 := fun l h => by have := sum_mem h; omega
  rw [hsmall] at hsm
  replace hsm := Lib.hid hsm
  replace hlnA := Lib.hid hlnA
  clear hsum hsmall
  by_cases h1 : T ≤ 5000
  case neg =>
    have t1 : decide (5000 < T) = true := decide_eq_true (by omega)
    have t1' : 5000 < T := by omega
    clear h1
    go_wp2_with (first
      | (go_at_call 9; refine hsm.out.mono ?_; rintro e w1 ⟨rfl, hg1⟩; have g0 := q0 _ hg1; have g1 := q1 _ hg1)
      | (go_at_call 5; refine (hba.out _ hg1).mono ?_; rintro e w2 ⟨rfl, hg2⟩; have g6 := q6 _ (hg1.trans hg2))
      | (go_at_call 6; refine (awake29_any _).mono ?_; rintro e w9 ⟨rfl, hg9⟩))
    go_ret
    exact ⟨rfl, hG0.trans ((hg1.trans hg2).trans hg9)⟩
  have t1 : decide (5000 < T) = false := decide_eq_false (by omega)
  by_cases h2 : fs.length ≤ 100
  case neg =>
    have t2 : decide ((100 : Int) < (fs.length : Int)) = true := decide_eq_true (by omega)
    have t2' : (100 : Int) < (fs.length : Int) := by omega
    clear h2
    go_wp2_with (first
      | (go_at_call 9; refine hsm.out.mono ?_; rintro e w1 ⟨rfl, hg1⟩; have g0 := q0 _ hg1; have g1 := q1 _ hg1)
      | (go_at_call 5; refine (hba.out _ hg1).mono ?_; rintro e w2 ⟨rfl, hg2⟩; have g6 := q6 _ (hg1.trans hg2))
      | (go_at_call 6; refine (awake29_any _).mono ?_; rintro e w9 ⟨rfl, hg9⟩))
    go_ret
    exact ⟨rfl, hG0.trans ((hg1.trans hg2).trans hg9)⟩
  have t2 : decide ((100 : Int) < (fs.length : Int)) = false := decide_eq_false (by omega)
  have hcnt : evCount ps ≤ 1099511627776 := by
    have := batch_ge 5000 (by omega) key ps (by rw [hTo.out]; exact h1)
    omega
  have hpl9 : ps.length ≤ 9223372036854775807 := ho.1
  have hst9 : ∀ p ∈ ps, p.stream.size ≤ 9223372036854775807 := fun p hp => (ho.2 p hp).1
  replace hst9 := Lib.hid hst9
  replace ho := Lib.hid ho
  replace hx := Lib.hid hx
  go_wp2_with (first
    | (go_at_call 9; refine hsm.out.mono ?_; rintro e w1 ⟨rfl, hg1⟩; have g0 := q0 _ hg1; have g1 := q1 _ hg1)
    | (go_at_call 5; refine (hba.out _ hg1).mono ?_; rintro e w2 ⟨rfl, hg2⟩; have g6 := q6 _ (hg1.trans hg2)))
  have hg02 := hg1.trans hg2
  clear g0 g1 g6 hg1 hg2 t1 t2 h1
  go_loopw [11] (fun i wr => ∃ k : Nat, i = .int .i64 k ∧ k ≤ fs.length ∧ Hid (∀ (j : Nat) f, j < k → fs[j]? = some f → -1099511627776 ≤ f ∧ f ≤ 1099511627776) ∧ G W0 wr) (fun i _ => fs.length - (intOf i).toNat)
  case atStart => exact ⟨0, rfl, Nat.zero_le _, fun j f h => absurd h (Nat.not_lt_zero _), hg02⟩
  case round =>
    clear hg02
    obtain ⟨k, rfl, hkl, hall, hgr⟩ := hrel
    have hg := hG0.trans hgr
    have g6 := q6 _ hgr
    by_cases hlt : k < fs.length
    · obtain ⟨f, hf⟩ : ∃ f, fs[k]? = some f := ⟨_, List.getElem?_eq_getElem hlt⟩
      obtain ⟨b2, o2, rfl, hb2, cf2⟩ := (hfi.g (Nat.le_refl _) hg).int hf
      have n1 : (0 : Int) ≤ (k : Int) := by omega
      have n2 : (k : Int) < (fs.length : Int) := by omega
      by_cases hf1 : -1099511627776 ≤ f
      case neg =>
        have t1 : decide (f < -1099511627776) = true := decide_eq_true (by omega)
        have t1' : f < -1099511627776 := by omega
        replace hf := Lib.hid hf
        go_wp2_with (go_at_call 6; refine (awake29_any _).mono ?_; rintro e w9 ⟨rfl, hg9⟩)
        go_ret
        exact ⟨rfl, hg.trans hg9⟩
      have t1 : decide (f < -1099511627776) = false := decide_eq_false (by omega)
      by_cases hf2 : f ≤ 1099511627776
      case neg =>
        have t2 : decide (1099511627776 < f) = true := decide_eq_true (by omega)
        have t2' : 1099511627776 < f := by omega
        replace hf := Lib.hid hf
        go_wp2_with (go_at_call 6; refine (awake29_any _).mono ?_; rintro e w9 ⟨rfl, hg9⟩)
        go_ret
        exact ⟨rfl, hg.trans hg9⟩
      have t2 : decide (1099511627776 < f) = false := decide_eq_false (by omega)
      have hall2 : ∀ (j : Nat) f', j < k + 1 → fs[j]? = some f' → -1099511627776 ≤ f' ∧ f' ≤ 1099511627776 := fun j f' h1 h2 => by
        rcases Nat.lt_or_ge j k with h | h
        · exact hall.out j f' h h2
        · obtain rfl : j = k := by omega
          rw [hf] at h2
          cases h2
          exact ⟨hf1, hf2⟩
      replace hall2 := Lib.hid hall2
      replace hf := Lib.hid hf
      clear hall
      go_wp2_with fail
      go_roundw
      case rel => exact ⟨k + 1, by go_num, by omega, hall2, hgr⟩
      case measure => (simp [intOf] <;> omega)
    · have hfA : ∀ f ∈ fs, -1099511627776 ≤ f ∧ f ≤ 1099511627776 := fun f hf => by
        obtain ⟨j, hj, rfl⟩ := List.getElem_of_mem hf
        exact hall.out j _ (by omega) (List.getElem?_eq_getElem hj)
      replace hfA := Lib.hid hfA
      clear hall
      have ho1 := one_any ls Al cl w.heap.size wr hg.size hl hlnA.out (hs.g (Nat.le_refl _) hg)
      have ho2 := fun (w' : World) (h : G wr w') => refOne_any ls Al cl w.heap.size w' (hg.trans h).size (by omega) hlnA.out (hs.g (Nat.le_refl _) (hg.trans h))
      have hlo := longOf_ok hs.2
      have hll := longOf_len hlnA.out
      generalize longOf ls = X at *
      obtain ⟨XA, Xc, xes⟩ := X
      obtain ⟨okv, hokv⟩ : ∃ okv, (allPre ls xes && sortedB xes) = okv := ⟨_, rfl⟩
      dsimp only at ho1 ho2 hlo hll
      rw [hokv] at ho1 ho2
      clear hokv
      have hbb : (okv != okv) = false := by cases okv <;> rfl
      go_wp2_with fail
      refine ho1.mono ?_
      clear ho1
      rintro e w3 ⟨v, rfl, hown, hg3⟩
      obtain ⟨xA, xc, rfl, hxc, hxm, hxs⟩ := OwnL.sl Ev.cells_len (show OwnL 35 7 Ev.cells w3 _ _ _ from hown)
      clear hown
      go_wp2_with fail
      refine (ho2 _ hg3).mono ?_
      clear ho2
      rintro e w4 ⟨rfl, hg4⟩
      have hgw4 := hg3.trans hg4
      have hs4 := sameEvents_self xes xA XA xc Xc w4.heap.size w4 (Nat.le_refl _) (by omega) ((hxs.g (Nat.le_refl _) hg4).more hg4.size) ((hlo.g (Nat.le_refl _) (hg.trans hgw4)).more (hg.trans hgw4).size)
      clear g6
      go_wp2_with fail
      refine hs4.mono ?_
      clear hs4
      rintro e W3 ⟨rfl, hg5⟩
      have hW3 : G W0 W3 := hgr.trans (hgw4.trans hg5)
      have hxs' : ∀ w', G W3 w' → Sl Ev.cells 7 w' w'.heap.size xA xes := fun w' h => (hxs.g (Nat.le_refl _) ((hg4.trans hg5).trans h)).more ((hg4.trans hg5).trans h).size
      have hw0 : ∀ w', G W3 w' → G w w' := fun w' h => hG0.trans (hW3.trans h)
      clear hg3 hg4 hgw4 hg5 hgr hg hxs hlo
      go_wp2_with fail
      clear hbb
      go_loopw [16] (fun i wr => ∃ k : Nat, i = .int .i64 k ∧ k ≤ ls.length ∧ G W3 wr) (fun i _ => ls.length - (intOf i).toNat)
      case atStart => exact ⟨0, rfl, Nat.zero_le _, G.refl _⟩
      case round =>
        obtain ⟨k, rfl, hkl, hgr3⟩ := hrel
        by_cases hlt : k < ls.length
        case neg =>
          have hgw := hw0 _ hgr3
          go_wp2_with (go_at_call 6; refine (awake29_any _).mono ?_; rintro e w9 ⟨rfl, hg9⟩)
          go_ret
          exact ⟨rfl, hgw.trans hg9⟩
        obtain ⟨⟨lA, lc, les⟩, hl1⟩ : ∃ l, ls[k]? = some l := ⟨_, List.getElem?_eq_getElem hlt⟩
        obtain ⟨b, o, rfl, hb, hcell, hok⟩ := hs.at_ (Nat.le_refl _) hl1
        have hln := hlnA.out _ (List.mem_of_getElem? hl1)
        have hlx : ∀ e ∈ les, e.stream.size ≤ 9223372036854775807 := fun e he => (hx.out _ (List.mem_of_getElem? hl1) e he).1
        have hls' : ∀ w', G W3 w' → Sl Ev.cells 7 w' w.heap.size lA les := fun w' h => (hok w' (hw0 w' h)).1
        have hcl : ∀ w', G W3 w' → w'.cell? ⟨b, o + k, none⟩ = some (.slice lA les.length lc) := fun w' h => hcell w' (hw0 w' h)
        have n1 : (0 : Int) ≤ (k : Int) := by omega
        have n2 : (k : Int) < (ls.length : Int) := by omega
        dsimp only at hln
        clear hcell hok
        replace hlx := Lib.hid hlx
        replace hl1 := Lib.hid hl1
        have yq0 : ∀ w', G W3 w' → w'.cell? ⟨w.heap.size, 0, none⟩ = some (.string key) := fun w' h => q0 _ (hW3.trans h)
        have yq1 : ∀ w', G W3 w' → w'.cell? ⟨w.heap.size, 1, none⟩ = some (.slice A ps.length c) := fun w' h => q1 _ (hW3.trans h)
        have yq2 : ∀ w', G W3 w' → w'.cell? ⟨w.heap.size + 1, 0, none⟩ = some (.int .i64 rc) := fun w' h => q2 _ (hW3.trans h)
        have yq3 : ∀ w', G W3 w' → w'.cell? ⟨w.heap.size + 1, 1, none⟩ = some (.int .i64 x) := fun w' h => q3 _ (hW3.trans h)
        have yq4 : ∀ w', G W3 w' → w'.cell? ⟨w.heap.size + 1, 2, none⟩ = some (.int .i64 y) := fun w' h => q4 _ (hW3.trans h)
        have yq5 : ∀ w', G W3 w' → w'.cell? ⟨w.heap.size + 1, 3, none⟩ = some (.int .i64 z) := fun w' h => q5 _ (hW3.trans h)
        have yq6 : ∀ w', G W3 w' → w'.cell? ⟨w.heap.size + 1, 4, none⟩ = some (.slice Af fs.length cf) := fun w' h => q6 _ (hW3.trans h)
        have yq7 : ∀ w', G W3 w' → w'.cell? ⟨w.heap.size + 1, 5, none⟩ = some (ve) := fun w' h => q7 _ (hW3.trans h)
        have yq8 : ∀ w', G W3 w' → w'.cell? ⟨w.heap.size + 1, 6, none⟩ = some (.int .i64 k0) := fun w' h => q8 _ (hW3.trans h)
        have yq9 : ∀ w', G W3 w' → w'.cell? ⟨w.heap.size + 1, 7, none⟩ = some (.int .i64 k1) := fun w' h => q9 _ (hW3.trans h)
        have yq10 : ∀ w', G W3 w' → w'.cell? ⟨w.heap.size + 1, 8, none⟩ = some (.int .i64 k2) := fun w' h => q10 _ (hW3.trans h)
        have yq11 : ∀ w', G W3 w' → w'.cell? ⟨w.heap.size + 1, 9, none⟩ = some (.int .i64 k3) := fun w' h => q11 _ (hW3.trans h)
        have yq12 : ∀ w', G W3 w' → w'.cell? ⟨w.heap.size + 1, 10, none⟩ = some (.string k4) := fun w' h => q12 _ (hW3.trans h)
        have yq13 : ∀ w', G W3 w' → w'.cell? ⟨w.heap.size + 1, 11, none⟩ = some (vr) := fun w' h => q13 _ (hW3.trans h)
        have yq14 : ∀ w', G W3 w' → w'.cell? ⟨w.heap.size + 1, 12, none⟩ = some (.int .i64 rn) := fun w' h => q14 _ (hW3.trans h)
        have yq15 : ∀ w', G W3 w' → w'.cell? ⟨w.heap.size + 1 + 1, 0, none⟩ = some (.int .i64 x2) := fun w' h => q15 _ (hW3.trans h)
        have yq16 : ∀ w', G W3 w' → w'.cell? ⟨w.heap.size + 1 + 1, 1, none⟩ = some (.int .i64 y2) := fun w' h => q16 _ (hW3.trans h)
        have yq17 : ∀ w', G W3 w' → w'.cell? ⟨w.heap.size + 1 + 1, 2, none⟩ = some (.int .i64 z2) := fun w' h => q17 _ (hW3.trans h)
        have yq18 : ∀ w', G W3 w' → w'.cell? ⟨w.heap.size + 1 + 1 + 1, 0, none⟩ = some (.int .i64 x3) := fun w' h => q18 _ (hW3.trans h)
        have yq19 : ∀ w', G W3 w' → w'.cell? ⟨w.heap.size + 1 + 1 + 1, 1, none⟩ = some (.int .i64 y3) := fun w' h => q19 _ (hW3.trans h)
        have yq20 : ∀ w', G W3 w' → w'.cell? ⟨w.heap.size + 1 + 1 + 1, 2, none⟩ = some (.int .i64 z3) := fun w' h => q20 _ (hW3.trans h)
        obtain ⟨b1, hb1⟩ : ∃ b1, streamsB les = b1 := ⟨_, rfl⟩
        obtain ⟨b2, hb2⟩ : ∃ b2, prefB les xes = b2 := ⟨_, rfl⟩
        obtain ⟨b3, hb3⟩ : ∃ b3, hasB les (makeFrom fs ⟨x, y, z⟩ 0 0 ps) ⟨x, y, z⟩ = b3 := ⟨_, rfl⟩
        obtain ⟨b4, hb4⟩ : ∃ b4, causesB les ⟨x2, y2, z2⟩ ⟨x3, y3, z3⟩ = b4 := ⟨_, rfl⟩
        replace hb1 := Lib.hid hb1
        replace hb2 := Lib.hid hb2
        replace hb3 := Lib.hid hb3
        replace hb4 := Lib.hid hb4
        have c1 : ∀ w', G W3 w' → Calls Try.prog 13 #[.slice lA les.length lc] w' fun e w'' => e = .returned (.bool b1) ∧ G w' w'' := fun w' h => by
          rw [← hb1.out]
          exact streams_any les lA lc w.heap.size w' (hw0 w' h).size (by omega) hlx.out (hls' w' h)
        replace c1 := Lib.hid c1
        have c2 : ∀ w', G W3 w' → Calls Try.prog 14 #[.slice lA les.length lc] w' fun e w'' => e = .returned (.bool b1) ∧ G w' w'' := fun w' h => by
          rw [← hb1.out]
          exact refStreams_any les lA lc w.heap.size w' (hw0 w' h).size (by omega) (hls' w' h)
        replace c2 := Lib.hid c2
        have c3 : ∀ w', G W3 w' → Calls Try.prog 15 #[.slice lA les.length lc, .slice xA xes.length xc] w' fun e w'' => e = .returned (.bool b2) ∧ G w' w'' := fun w' h => by
          rw [← hb2.out]
          exact prefix_any les xes lA xA lc xc w'.heap.size w' (Nat.le_refl _) (by omega) hxc hxm ((hls' w' h).more (hw0 w' h).size) (hxs' w' h)
        replace c3 := Lib.hid c3
        have c4 : ∀ w', G W3 w' → Calls Try.prog 16 #[.slice lA les.length lc, .slice xA xes.length xc] w' fun e w'' => e = .returned (.bool b2) ∧ G w' w'' := fun w' h => by
          rw [← hb2.out]
          exact refPrefix_any les xes lA xA lc xc w'.heap.size w' (Nat.le_refl _) (by omega) hxc hxm ((hls' w' h).more (hw0 w' h).size) (hxs' w' h)
        replace c4 := Lib.hid c4
        have c5 : ∀ w', G W3 w' → Calls Try.prog 8 #[.slice lA les.length lc, .agg #[.string key, .slice A ps.length c], .agg #[.int .i64 rc, .int .i64 x, .int .i64 y, .int .i64 z, .slice Af fs.length cf, ve, .int .i64 k0, .int .i64 k1, .int .i64 k2, .int .i64 k3, .string k4, vr, .int .i64 rn]] w' fun e w'' => e = .returned (.bool b3) ∧ G w' w'' := fun w' h => by
          rw [← hb3.out]
          exact has_any les lA lc key ps A Af c cf fs x y z rc k0 k1 k2 k3 rn k4 ve vr w' ((hls' w' h).more (hw0 w' h).size) hln hpl9 hfl hcnt hst9.out hfA.out (putsMore2 (hin.g (Nat.le_refl _) (hw0 w' h)) (hw0 w' h).size) ((hfi.g (Nat.le_refl _) (hw0 w' h)).more (hw0 w' h).size)
        replace c5 := Lib.hid c5
        have c6 : ∀ w', G W3 w' → Calls Try.prog 17 #[.slice lA les.length lc, .agg #[.string key, .slice A ps.length c], .agg #[.int .i64 rc, .int .i64 x, .int .i64 y, .int .i64 z, .slice Af fs.length cf, ve, .int .i64 k0, .int .i64 k1, .int .i64 k2, .int .i64 k3, .string k4, vr, .int .i64 rn]] w' fun e w'' => e = .returned (.bool b3) ∧ G w' w'' := fun w' h => by
          rw [← hb3.out]
          exact refHas_any les lA lc key ps A Af c cf fs x y z rc k0 k1 k2 k3 rn k4 ve vr w' ((hls' w' h).more (hw0 w' h).size) hln hpl9 hfl hcnt hfA.out (putsMore2 (hin.g (Nat.le_refl _) (hw0 w' h)) (hw0 w' h).size) ((hfi.g (Nat.le_refl _) (hw0 w' h)).more (hw0 w' h).size)
        replace c6 := Lib.hid c6
        have c7 : ∀ w', G W3 w' → Calls Try.prog 18 #[.slice lA les.length lc, .agg #[.int .i64 x2, .int .i64 y2, .int .i64 z2], .agg #[.int .i64 x3, .int .i64 y3, .int .i64 z3]] w' fun e w'' => e = .returned (.bool b4) ∧ G w' w'' := fun w' h => by
          rw [← hb4.out]
          exact causes_any les lA lc w.heap.size x2 y2 z2 x3 y3 z3 w' (hw0 w' h).size (by omega) (hls' w' h)
        replace c7 := Lib.hid c7
        have c8 : ∀ w', G W3 w' → Calls Try.prog 19 #[.slice lA les.length lc, .agg #[.int .i64 x2, .int .i64 y2, .int .i64 z2], .agg #[.int .i64 x3, .int .i64 y3, .int .i64 z3]] w' fun e w'' => e = .returned (.bool b4) ∧ G w' w'' := fun w' h => by
          rw [← hb4.out]
          exact refCauses_any les lA lc w.heap.size x2 y2 z2 x3 y3 z3 w' (hw0 w' h).size (by omega) (hls' w' h)
        replace c8 := Lib.hid c8
        have d1 : (b1 != b1) = false := by cases b1 <;> rfl
        have d2 : (b2 != b2) = false := by cases b2 <;> rfl
        have d3 : (b3 != b3) = false := by cases b3 <;> rfl
        have d4 : (b4 != b4) = false := by cases b4 <;> rfl
        replace hfA := Lib.hid hfA
        clear q0 q1 q2 q3 q4 q5 q6 q7 q8 q9 q10 q11 q12 q13 q14 q15 q16 q17 q18 q19 q20 hxs' hls' hs hin hfi hsm hba
        go_wp2_with fail
        go_region_held3 (fun w' => G W3 w') (first | exact hgr3.drew | exact hk1.keep (by assumption) | exact hk2.keep (by assumption) | exact hk3.keep (by assumption) | exact hk4.keep (by assumption) | exact hk5.keep (by assumption) | exact hk6.keep (by assumption) | exact hk7.keep (by assumption) | exact hk8.keep (by assumption) | fail) (first
          | (go_at_call 13; (with_reducible refine Calls.mono (c1.out _ (by assumption)) ?_); rintro e u1 ⟨rfl, hk1⟩)
          | (go_at_call 14; (with_reducible refine Calls.mono (c2.out _ (by assumption)) ?_); rintro e u2 ⟨rfl, hk2⟩)
          | (go_at_call 15; (with_reducible refine Calls.mono (c3.out _ (by assumption)) ?_); rintro e u3 ⟨rfl, hk3⟩)
          | (go_at_call 16; (with_reducible refine Calls.mono (c4.out _ (by assumption)) ?_); rintro e u4 ⟨rfl, hk4⟩)
          | (go_at_call 8; (with_reducible refine Calls.mono (c5.out _ (by assumption)) ?_); rintro e u5 ⟨rfl, hk5⟩)
          | (go_at_call 17; (with_reducible refine Calls.mono (c6.out _ (by assumption)) ?_); rintro e u6 ⟨rfl, hk6⟩)
          | (go_at_call 18; (with_reducible refine Calls.mono (c7.out _ (by assumption)) ?_); rintro e u7 ⟨rfl, hk7⟩)
          | (go_at_call 19; (with_reducible refine Calls.mono (c8.out _ (by assumption)) ?_); rintro e u8 ⟨rfl, hk8⟩))
        all_goals
          have hGe : G W3 u8 := by assumption
          go_wp2_with fail
          go_roundw
          case rel => exact ⟨k + 1, by go_num, by omega, by assumption⟩
          case measure => (simp [intOf] <;> omega)
end Go.Proofs.Ytgoodlbkjciloaa

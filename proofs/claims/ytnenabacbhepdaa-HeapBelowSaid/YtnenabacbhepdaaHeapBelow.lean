/- penstocklaw18.HeapBelow returns true for every input and leaves its arguments as they were. No condition. -/
import Derived.Test.YtnenabacbhepdaaHeapOne
import Derived.Test.YtnenabacbhepdaaReadLogs
import Derived.Test.YtnenabacbhepdaaRows
namespace Go.Proofs.Ytnenabacbhepdaa.heapBelow
open Go.RowKit

theorem fl_of_st {a b : Ev} (h : stLt a.st b.st = true) : fl a b = true := by
  unfold fl
  rw [if_neg (by intro e; rw [e, stLt_irrefl] at h; cases h)]
  exact h
/-- Below a lower mark stands a beginning of what stands below a higher one. -/
theorem below_law {ls : List LogM} {a b : St} {c : Cu} {max : Int} {x y : List Ev} (hx : IsFirst (mergeF ls a c) max x) (hy : IsFirst (mergeF ls b c) max y) (hab : stLt b a = false) (hl : (y.length : Int) < max) : x <+: y := by
  have hF : ∀ z, mergeF ls a c z → mergeF ls b c z := by
    rintro z ⟨h1, h2⟩
    simp only [picked, Bool.and_eq_true] at h2
    exact ⟨h1, by simp only [picked, Bool.and_eq_true]; exact ⟨SO.st.lt_le h2.1 hab, h2.2⟩⟩
  have hi : Ini (mergeF ls b c) x := by
    refine ⟨hx.1, fun o ho => hF o (hx.2.1 o ho), fun z hz => ?_⟩
    by_cases hza : mergeF ls a c z
    · exact hx.2.2.1 z hza
    · refine .inr fun o ho => fl_of_st ?_
      have h1 := (hx.2.1 o ho).2
      have h2 := hz.2
      simp only [picked, Bool.and_eq_true] at h1 h2
      refine SO.st.lt_le h1.1 ?_
      cases h3 : stLt z.st a with
      | false => rfl
      | true => exact absurd ⟨hz.1, by simp only [picked, h3, h2.2]; rfl⟩ hza
  exact hi.prefix hy.ini (pairwise_sub hx.1 hy.1 fun z hz => hy.2.2.2.2 hl z (hF z (hx.2.1 z hz)))

theorem tally_int {ls : List LogM} {n : Nat} : evTally ls ≤ n ↔ (ls.map fun l => (l.es.length : Int)).sum ≤ n := by
  have : ((evTally ls : Nat) : Int) = (ls.map fun l => (l.es.length : Int)).sum := by
    unfold evTally
    induction ls with
    | nil => rfl
    | cons a l ih => simp only [List.map_cons, List.sum_cons]; omega
  omega
set_option maxHeartbeats 2000000 in
theorem walk (ls : List LogM) (A : Option Addr) (c : Nat) (ax ay az bx by_ bz cx cy cz ci : Int) (cs : ByteArray) (w : World) (hl : ls.length ≤ 9223372036854775807) (hx : ∀ l ∈ ls, EvsOk l.es) (hs : LogsIn w w.heap.size A ls) (hcs : cs.size ≤ 9223372036854775807) :
    Calls Try.prog 6 #[.slice A ls.length c, .agg #[.int .i64 ax, .int .i64 ay, .int .i64 az], .agg #[.int .i64 bx, .int .i64 by_, .int .i64 bz], .agg #[.int .i64 cx, .int .i64 cy, .int .i64 cz, .int .i64 ci, .string cs]] w fun e w' => e = .returned (.bool true) ∧ G w w' := by
  go_enter Try.func6, Try.ntmps6
  go_wp2_with fail
  generalize hW0 : ((w.alloc (.cells #[.int .i64 ax, .int .i64 ay, .int .i64 az] 27)).alloc (.cells #[.int .i64 bx, .int .i64 by_, .int .i64 bz] 27)).alloc (.cells #[.int .i64 cx, .int .i64 cy, .int .i64 cz, .int .i64 ci, .string cs] 42) = W0
  have hz : w.heap.size + 2 < W0.heap.size := by rw [← hW0]; simp
  have hG0 : G w W0 := by rw [← hW0]; exact ((G.new _ _).alloc _).alloc _
  have r0 : W0.cell? ⟨w.heap.size, 0, none⟩ = some (.int .i64 ax) := by rw [← hW0, blk_cell (((G.new _ _).alloc _).blk (blk_new' _ _ _ _ (by simp)))]; rfl
  have r1 : W0.cell? ⟨w.heap.size, 1, none⟩ = some (.int .i64 ay) := by rw [← hW0, blk_cell (((G.new _ _).alloc _).blk (blk_new' _ _ _ _ (by simp)))]; rfl
  have r2 : W0.cell? ⟨w.heap.size, 2, none⟩ = some (.int .i64 az) := by rw [← hW0, blk_cell (((G.new _ _).alloc _).blk (blk_new' _ _ _ _ (by simp)))]; rfl
  have r3 : W0.cell? ⟨w.heap.size + 1, 0, none⟩ = some (.int .i64 bx) := by rw [← hW0, blk_cell ((G.new _ _).blk (blk_new' _ _ _ _ (by simp)))]; rfl
  have r4 : W0.cell? ⟨w.heap.size + 1, 1, none⟩ = some (.int .i64 by_) := by rw [← hW0, blk_cell ((G.new _ _).blk (blk_new' _ _ _ _ (by simp)))]; rfl
  have r5 : W0.cell? ⟨w.heap.size + 1, 2, none⟩ = some (.int .i64 bz) := by rw [← hW0, blk_cell ((G.new _ _).blk (blk_new' _ _ _ _ (by simp)))]; rfl
  have r6 : W0.cell? ⟨w.heap.size + 1 + 1, 0, none⟩ = some (.int .i64 cx) := by rw [← hW0, blk_cell (blk_new' _ _ _ _ (by simp))]; rfl
  have r7 : W0.cell? ⟨w.heap.size + 1 + 1, 1, none⟩ = some (.int .i64 cy) := by rw [← hW0, blk_cell (blk_new' _ _ _ _ (by simp))]; rfl
  have r8 : W0.cell? ⟨w.heap.size + 1 + 1, 2, none⟩ = some (.int .i64 cz) := by rw [← hW0, blk_cell (blk_new' _ _ _ _ (by simp))]; rfl
  have r9 : W0.cell? ⟨w.heap.size + 1 + 1, 3, none⟩ = some (.int .i64 ci) := by rw [← hW0, blk_cell (blk_new' _ _ _ _ (by simp))]; rfl
  have r10 : W0.cell? ⟨w.heap.size + 1 + 1, 4, none⟩ = some (.string cs) := by rw [← hW0, blk_cell (blk_new' _ _ _ _ (by simp))]; rfl
  clear hW0
  have q0 : ∀ w', G W0 w' → w'.cell? ⟨w.heap.size, 0, none⟩ = some (.int .i64 ax) := fun w' h => (h.cell (by omega)).trans r0
  have q1 : ∀ w', G W0 w' → w'.cell? ⟨w.heap.size, 1, none⟩ = some (.int .i64 ay) := fun w' h => (h.cell (by omega)).trans r1
  have q2 : ∀ w', G W0 w' → w'.cell? ⟨w.heap.size, 2, none⟩ = some (.int .i64 az) := fun w' h => (h.cell (by omega)).trans r2
  have q3 : ∀ w', G W0 w' → w'.cell? ⟨w.heap.size + 1, 0, none⟩ = some (.int .i64 bx) := fun w' h => (h.cell (by omega)).trans r3
  have q4 : ∀ w', G W0 w' → w'.cell? ⟨w.heap.size + 1, 1, none⟩ = some (.int .i64 by_) := fun w' h => (h.cell (by omega)).trans r4
  have q5 : ∀ w', G W0 w' → w'.cell? ⟨w.heap.size + 1, 2, none⟩ = some (.int .i64 bz) := fun w' h => (h.cell (by omega)).trans r5
  have q6 : ∀ w', G W0 w' → w'.cell? ⟨w.heap.size + 1 + 1, 0, none⟩ = some (.int .i64 cx) := fun w' h => (h.cell (by omega)).trans r6
  have q7 : ∀ w', G W0 w' → w'.cell? ⟨w.heap.size + 1 + 1, 1, none⟩ = some (.int .i64 cy) := fun w' h => (h.cell (by omega)).trans r7
  have q8 : ∀ w', G W0 w' → w'.cell? ⟨w.heap.size + 1 + 1, 2, none⟩ = some (.int .i64 cz) := fun w' h => (h.cell (by omega)).trans r8
  have q9 : ∀ w', G W0 w' → w'.cell? ⟨w.heap.size + 1 + 1, 3, none⟩ = some (.int .i64 ci) := fun w' h => (h.cell (by omega)).trans r9
  have q10 : ∀ w', G W0 w' → w'.cell? ⟨w.heap.size + 1 + 1, 4, none⟩ = some (.string cs) := fun w' h => (h.cell (by omega)).trans r10
  clear r0 r1 r2 r3 r4 r5 r6 r7 r8 r9 r10
  refine (small18_any ls A c w.heap.size W0 (by omega) (by omega) hx (hs.g (Nat.le_refl _) hG0)).mono ?_
  rintro e w1 ⟨rfl, hg1⟩
  have hlen : smallB 150 10 ls = true → evTally ls ≤ 150 := fun h => by
    have := (small_len (by omega) (by omega) h).1
    rw [tally_int]; omega
  replace hlen := Lib.hid hlen
  cases hsm : smallB 150 10 ls with
  | false =>
    go_wp2_with fail
    refine (awake18_any _).mono ?_
    rintro e w9 ⟨rfl, hg9⟩
    go_wp2_with fail
    go_ret
    exact ⟨rfl, hG0.trans (hg1.trans hg9)⟩
  | true =>
    have htl := hlen.out hsm
    by_cases h300 : (300 : Int) < cs.size
    · go_wp2_with fail
      refine (awake18_any _).mono ?_
      rintro e w9 ⟨rfl, hg9⟩
      go_wp2_with fail
      go_ret
      exact ⟨rfl, hG0.trans (hg1.trans hg9)⟩
    · go_wp2_with fail
      refine (refLess_any _ _ _ _ _ _ _).mono ?_
      rintro e w2 ⟨rfl, hg2⟩
      replace hg2 := hg1.trans hg2
      cases hba : stLt ⟨bx, by_, bz⟩ ⟨ax, ay, az⟩ with
      | true =>
        go_wp2_with fail
        refine (awake18_any _).mono ?_
        rintro e w9 ⟨rfl, hg9⟩
        go_wp2_with fail
        go_ret
        exact ⟨rfl, hG0.trans (hg2.trans hg9)⟩
      | false =>
        go_wp2_with fail
        refine (one18_any ls A c w.heap.size w2 (hG0.trans hg2).size hl (by omega) (hs.g (Nat.le_refl _) (hG0.trans hg2))).mono ?_
        rintro e w3 ⟨b1, rfl, _, hg3⟩
        replace hg3 := hg2.trans hg3
        cases b1 with
        | false =>
          go_wp2_with fail
          refine (awake18_any _).mono ?_
          rintro e w9 ⟨rfl, hg9⟩
          go_wp2_with fail
          go_ret
          exact ⟨rfl, hG0.trans (hg3.trans hg9)⟩
        | true =>
          go_wp2_with fail
          refine (merge_any ls A c w.heap.size ax ay az cx cy cz ci cs 1073741824 w3 (hG0.trans hg3).size hl (by omega) (hs.g (Nat.le_refl _) (hG0.trans hg3))).mono ?_
          rintro e w4 ⟨xs, hfx, hxl, vx, rfl, hox, hg4⟩
          replace hox := hox.mono (hG0.trans hg3).size
          replace hg4 := hg3.trans hg4
          obtain ⟨xA, xc, rfl, hxc, hxm, hsx⟩ := OwnL.sl Ev.cells_len hox
          go_wp2_with fail
          refine (merge_any ls A c w.heap.size bx by_ bz cx cy cz ci cs 1073741824 w4 (hG0.trans hg4).size hl (by omega) (hs.g (Nat.le_refl _) (hG0.trans hg4))).mono ?_
          rintro e w5 ⟨ys, hfy, hyl, vy, rfl, hoy, hg45⟩
          have hg5 := hg4.trans hg45
          obtain ⟨yA, yc, rfl, hyc, hym, hsy⟩ := OwnL.sl Ev.cells_len hoy
          have hpre := below_law hfx hfy hba (by omega)
          have hlen := hpre.length_le
          replace hsx := hsx.g (Nat.le_refl _) hg45
          replace hsx := hsx.more hg45.size
          replace hpre := Lib.hid hpre
          replace hfx := Lib.hid hfx
          clear hox hoy hs hfy hg45 hg4 hg3 hg2 hg1
          go_wp2_with fail
          obtain ⟨wo, rfl⟩ : ∃ wo : World, wo = w5 := ⟨_, rfl⟩
          have t0 : ∀ w', G wo w' → w'.cell? ⟨w.heap.size, 0, none⟩ = some (.int .i64 ax) := fun w' h => q0 w' (hg5.trans h)
          have t1 : ∀ w', G wo w' → w'.cell? ⟨w.heap.size, 1, none⟩ = some (.int .i64 ay) := fun w' h => q1 w' (hg5.trans h)
          have t2 : ∀ w', G wo w' → w'.cell? ⟨w.heap.size, 2, none⟩ = some (.int .i64 az) := fun w' h => q2 w' (hg5.trans h)
          have t6 : ∀ w', G wo w' → w'.cell? ⟨w.heap.size + 1 + 1, 0, none⟩ = some (.int .i64 cx) := fun w' h => q6 w' (hg5.trans h)
          have t7 : ∀ w', G wo w' → w'.cell? ⟨w.heap.size + 1 + 1, 1, none⟩ = some (.int .i64 cy) := fun w' h => q7 w' (hg5.trans h)
          have t8 : ∀ w', G wo w' → w'.cell? ⟨w.heap.size + 1 + 1, 2, none⟩ = some (.int .i64 cz) := fun w' h => q8 w' (hg5.trans h)
          have t9 : ∀ w', G wo w' → w'.cell? ⟨w.heap.size + 1 + 1, 3, none⟩ = some (.int .i64 ci) := fun w' h => q9 w' (hg5.trans h)
          have t10 : ∀ w', G wo w' → w'.cell? ⟨w.heap.size + 1 + 1, 4, none⟩ = some (.string cs) := fun w' h => q10 w' (hg5.trans h)
          go_loopw [8, 11] (fun v8 i wr => ∃ (k : Nat), v8 = .bool false ∧ k ≤ xs.length ∧ i = .int .i64 k ∧ G wo wr) (fun _ i _ => xs.length - (intOf i).toNat)
          case atStart => exact ⟨0, rfl, Nat.zero_le _, rfl, G.refl _⟩
          case round =>
            obtain ⟨k, rfl, hk, rfl, hg⟩ := hrel
            by_cases hlt : k < xs.length
            · obtain ⟨⟨es, ev, ed, ⟨ex, ey, ez⟩, ei⟩, hx1⟩ : ∃ x, xs[k]? = some x := ⟨_, List.getElem?_eq_getElem hlt⟩
              have hpk := (hfx.out.2.1 _ (List.mem_of_getElem? hx1)).2
              simp only [picked, Bool.and_eq_true] at hpk
              obtain ⟨hp1, hp2⟩ := hpk
              obtain ⟨eb, eo, rfl, heb, c0, c1, c2, c3, c4, c5, c6⟩ := hsx.evG (Nat.le_refl _) hx1
              clear hx1
              have n1 : (0 : Int) ≤ ↑k := by omega
              have n2 : (k : Int) < ↑xs.length := by omega
              have hg0 := hg5.trans hg
              clear q0 q1 q2 q3 q4 q5 q6 q7 q8 q9 q10
              go_wp2_with fail
              go_region_held3 (fun w' => G wo w') (first | exact hg.drew | exact hgm.keep (by assumption) | assumption | fail) (first | (go_at_call 27; refine (refLess_any _ _ _ _ _ _ _).mono ?_; rintro e wm ⟨rfl, hgm⟩) | (go_at_call 28; refine (refBehind_any _ _ _ _ _ _ _ _ _ _ _ _ _).mono ?_; rintro e wm ⟨rfl, hgm⟩))
              go_wp2_with fail
              go_roundw
              case rel => exact ⟨k + 1, rfl, by omega, by go_num, by assumption⟩
              case measure => simp [intOf]; omega
            · have hyt : ys.take xs.length = xs := (List.prefix_iff_eq_take.1 hpre.out).symm
              have hsy2 := hsy.take xs.length
              rw [hyt] at hsy2
              have hse := sameEvents_self xs xA yA xc yc wo.heap.size wr hg.size (by omega) (hsx.g (Nat.le_refl _) hg) (hsy2.g (Nat.le_refl _) hg)
              clear hyt hsy2
              go_wp2_with fail
              refine hse.mono ?_
              rintro e w6 ⟨rfl, hg6⟩
              go_wp2_with fail
              refine (awake18_any _).mono ?_
              rintro e w7 ⟨rfl, hg7⟩
              go_wp2_with fail
              go_ret
              exact ⟨rfl, hG0.trans (hg5.trans (hg.trans (hg6.trans hg7)))⟩

/-! The row's step, by the guide's shell. -/
open Go.ChangeShapes Go.WideShapes Go.ChangeAt
theorem own : ownKnob Try.prog.godebug = none := by kernel_rfl
theorem laidOut : laidOutB Try.prog = true := by kernel_rfl
set_option maxRecDepth 100000 in
theorem lifted (os : Os) (started : os.Started) (H : Type) (enc : TypeId × Value → H) :
    ReturnsInHanded {} Try.checked os 6 .any (Rows.heapBelowSpec.pre6 enc Try.prog Try.f6 Rows.heapBelowRow.domain false) (Rows.heapBelowSpec.post enc Try.prog Try.f6 false true false false) := by
  refine returnsInHanded_of_change (C := Try.checked) own started (by kernel_rfl) Try.func6
    (ChangeSpec.witness6 (enc := enc) (C := Try.checked) false ⟨#[], #[.slice none 0 0, .agg #[.int .i64 0, .int .i64 0, .int .i64 0], .agg #[.int .i64 0, .int .i64 0, .int .i64 0], .agg #[.int .i64 0, .int .i64 0, .int .i64 0, .int .i64 0, .string ByteArray.empty]], []⟩ 8 (by kernel_rfl) (by kernel_rfl) (by kernel_rfl) (by kernel_rfl)) ?_
  intro W base args ds gs before hval0 hW hcnd _
  have hval : ∀ (j : Nat) t v, Try.f6.params[j]? = some t → args[j]? = some v → Value.okWide Try.prog W .any base t v := hval0
  have hW' := hW
  obtain ⟨p, q, hA0, hV, rfl, hfz, hnd⟩ := hW
  have hA : DataW.TrodAll enc Try.prog W 0 (fun _ => true) true Try.f6.params.toList args.toList ds p := hA0
  rw [Try.params6] at hA hval
  obtain ⟨v0, vs0, d0, ds0, p0, q0, hargs, rfl, rfl, h0, r0⟩ := trodAll_cons hA
  obtain ⟨v1, vs1, d1, ds1, p1, q1, rfl, rfl, rfl, h1, r1⟩ := trodAll_cons r0
  obtain ⟨v2, vs2, d2, ds2, p2, q2, rfl, rfl, rfl, h2, r2⟩ := trodAll_cons r1
  obtain ⟨v3, vs3, d3, ds3, p3, q3, rfl, rfl, rfl, h3, r3⟩ := trodAll_cons r2
  obtain ⟨rfl, rfl, rfl⟩ := trodAll_nil r3
  obtain rfl : args = #[v0, v1, v2, v3] := by cases args; simp_all
  obtain ⟨rfl, rfl⟩ := trodVars_none hV
  have lt0 : ∀ x ∈ p0, x.block < W.heap.size := by obtain ⟨m, hm⟩ := h0; exact DataW.trod_lt m _ _ _ hm
  have lt1 : ∀ x ∈ p1, x.block < W.heap.size := by obtain ⟨m, hm⟩ := h1; exact DataW.trod_lt m _ _ _ hm
  have lt2 : ∀ x ∈ p2, x.block < W.heap.size := by obtain ⟨m, hm⟩ := h2; exact DataW.trod_lt m _ _ _ hm
  have lt3 : ∀ x ∈ p3, x.block < W.heap.size := by obtain ⟨m, hm⟩ := h3; exact DataW.trod_lt m _ _ _ hm
  obtain ⟨A, c, ls, rfl, hs, hx, hl1, hl2⟩ := in_logs (hval 0 _ _ rfl rfl) h0
  obtain ⟨a, rfl, ha⟩ := in_st (hval 1 _ _ rfl rfl) h1
  obtain ⟨b, rfl, hb⟩ := in_st (hval 2 _ _ rfl rfl) h2
  obtain ⟨cu, rfl, hcu⟩ := in_cu (hval 3 _ _ rfl rfl) h3
  clear hA0 hval0
  refine (walk ls A c _ _ _ _ _ _ _ _ _ _ _ W (by omega) (fun l hl => evsOk_of (hx l hl)) hs hcu.2.2).mono fun e W' ⟨he, hg⟩ => ?_
  have bel : Below W.heap.size W W' := hg
  subst he
  exact ⟨_, rfl, _, _, _, [], _, [], hW', trodAll_mk1 (shut_bool Try.underlying4 _), (trodAll_cons_mk (Below.trod laidOut (by kernel_rfl) (of_decide_eq_true (by kernel_rfl)) h0 bel lt0) (trodAll_cons_mk (Below.trod laidOut (by kernel_rfl) (of_decide_eq_true (by kernel_rfl)) h1 bel lt1) (trodAll_cons_mk (Below.trod laidOut (by kernel_rfl) (of_decide_eq_true (by kernel_rfl)) h2 bel lt2) (trodAll_cons_mk (Below.trod laidOut (by kernel_rfl) (of_decide_eq_true (by kernel_rfl)) h3 bel lt3) (trodAll_mk0))))), rfl, bel.frame _, fun h => by cases h⟩

theorem over : Rows.heapBelowRow.holds Try.pinned (OpenSpec.ofChange Rows.heapBelowSpec) :=
  OpenClaim.holds_of_wide 6 Try.f6 rfl rfl rfl rfl rfl rfl rfl ⟨rfl, rfl, rfl, rfl, rfl⟩ rfl rfl rfl rfl rfl (by kernel_rfl) Try.func6 (by kernel_rfl)
    (of_decide_eq_true (by kernel_rfl)) (by unfold Func.isWrapper; first | (rw [if_pos (by decide +kernel)]; kernel_rfl) | (rw [if_neg (by decide +kernel)]; exact ⟨rfl, rfl⟩))
    (fun os started H enc _ => lifted os started H enc)

theorem proved : Rows.HeapBelowSaid := over
#print axioms proved
end Go.Proofs.Ytnenabacbhepdaa.heapBelow

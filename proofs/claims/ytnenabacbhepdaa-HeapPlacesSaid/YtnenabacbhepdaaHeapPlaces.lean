/- penstocklaw18.HeapPlaces returns true for every input and leaves its arguments as they were. No condition. -/
import Derived.Test.YtnenabacbhepdaaPlaces
import Derived.Test.YtnenabacbhepdaaTorn
import Derived.Test.YtnenabacbhepdaaReadLogs
import Derived.Test.YtnenabacbhepdaaRows
namespace Go.Proofs.Ytnenabacbhepdaa.heapPlaces
open Go.RowKit

/-- One of a single list, in a block of its own. -/
theorem one_single (es : List Ev) (A : Option Addr) (c B : Nat) (w : World) (hB : B ≤ w.heap.size) (hs : Sl Ev.cells 7 w B A es) (hl : es.length ≤ 1099511627776) (hc : es.length ≤ c) (hcm : c ≤ 9223372036854775807) :
    Calls Try.prog 19 #[.slice (some ⟨w.heap.size, 0, none⟩) 1 1] (w.alloc (.cells #[.slice A es.length c] 31))
      (RetEvsB (w.alloc (.cells #[.slice A es.length c] 31)) (longOf [⟨A, c, es⟩]).es (allPre [⟨A, c, es⟩] (longOf [⟨A, c, es⟩]).es && sortedB (longOf [⟨A, c, es⟩]).es)) :=
  one_any [⟨A, c, es⟩] (some ⟨w.heap.size, 0, none⟩) 1 (w.heap.size + 1) _ (by simp) (by simp) (by intro l hl; simp at hl; subst hl; assumption)
    ⟨Sl.of_blk LogM.cells_len _ (blk_new w _ _) rfl (by omega), fun l hl => by simp at hl; subst hl; exact ⟨(hs.g hB (G.new _ _)).more (by omega), hc, hcm⟩⟩
/-- The slice from k on. -/
theorem sl_from {w : World} {B : Nat} {b o : Nat} {es : List Ev} (h : Sl Ev.cells 7 w B (some ⟨b, o, none⟩) es) (k : Nat) : Sl Ev.cells 7 w B (some ⟨b, o + k * 7, none⟩) (es.drop k) := fun hne => by
  obtain ⟨b', o', e, hb, hc⟩ := h (by rintro rfl; simp at hne)
  cases e
  refine ⟨b, o + k * 7, rfl, hb, fun j x hx i u hu => ?_⟩
  rw [List.getElem?_drop] at hx
  have := hc (k + j) x hx i u hu
  rw [Nat.add_mul] at this
  rw [show o + k * 7 + j * 7 + i = o + (k * 7 + j * 7) + i from by omega]
  exact this
theorem evsB_eq {es fs : List Ev} (h : es = fs) : evsB es fs = true := by unfold evsB; exact decide_eq_true h
set_option maxHeartbeats 2000000 in
theorem walk (ls : List LogM) (A : Option Addr) (c : Nat) (ax ay az k : Int) (w : World) (hl : ls.length ≤ 9223372036854775807) (hx : ∀ l ∈ ls, EvsOk l.es) (hs : LogsIn w w.heap.size A ls) (hk : I64 k) :
    Calls Try.prog 7 #[.slice A ls.length c, .agg #[.int .i64 ax, .int .i64 ay, .int .i64 az], .int .i64 k] w fun e w' => e = .returned (.bool true) ∧ G w w' := by
  obtain ⟨hk1, hk2⟩ := hk
  go_enter Try.func7, Try.ntmps7
  go_wp2_with fail
  generalize hW0 : w.alloc (.cells #[.int .i64 ax, .int .i64 ay, .int .i64 az] 27) = W0
  have hz : w.heap.size + 0 < W0.heap.size := by rw [← hW0]; simp
  have hG0 : G w W0 := by rw [← hW0]; exact G.new _ _
  have r0 : W0.cell? ⟨w.heap.size, 0, none⟩ = some (.int .i64 ax) := by rw [← hW0]; simp
  have r1 : W0.cell? ⟨w.heap.size, 1, none⟩ = some (.int .i64 ay) := by rw [← hW0]; simp
  have r2 : W0.cell? ⟨w.heap.size, 2, none⟩ = some (.int .i64 az) := by rw [← hW0]; simp
  clear hW0
  have q0 : ∀ w', G W0 w' → w'.cell? ⟨w.heap.size, 0, none⟩ = some (.int .i64 ax) := fun w' h => (h.cell (by omega)).trans r0
  have q1 : ∀ w', G W0 w' → w'.cell? ⟨w.heap.size, 1, none⟩ = some (.int .i64 ay) := fun w' h => (h.cell (by omega)).trans r1
  have q2 : ∀ w', G W0 w' → w'.cell? ⟨w.heap.size, 2, none⟩ = some (.int .i64 az) := fun w' h => (h.cell (by omega)).trans r2
  clear r0 r1 r2
  refine (small18_any ls A c w.heap.size W0 (by omega) (by omega) hx (hs.g (Nat.le_refl _) hG0)).mono ?_
  rintro e w1 ⟨rfl, hg1⟩
  have hlen : smallB 150 10 ls = true → evTally ls ≤ 150 := fun h => by
    have := (small_len (by omega) (by omega) h).1
    rw [tally_int]; omega
  replace hlen := Lib.hid hlen
  cases hsm : smallB 150 10 ls with
  | false =>
    go_wp2_with fail
    refine (awake18_any _).mono ?_
    rintro e w9 ⟨rfl, hg9⟩
    go_wp2_with fail
    go_ret
    exact ⟨rfl, hG0.trans (hg1.trans hg9)⟩
  | true =>
    have htl := hlen.out hsm
    go_wp2_with fail
    refine (one18_any ls A c w.heap.size w1 (hG0.trans hg1).size hl (by omega) (hs.g (Nat.le_refl _) (hG0.trans hg1))).mono ?_
    rintro e w2 ⟨b1, rfl, hap, hg2⟩
    replace hg2 := hg1.trans hg2
    cases b1 with
    | false =>
      go_wp2_with fail
      refine (awake18_any _).mono ?_
      rintro e w9 ⟨rfl, hg9⟩
      go_wp2_with fail
      go_ret
      exact ⟨rfl, hG0.trans (hg2.trans hg9)⟩
    | true =>
      replace hap := hap rfl
      go_wp2_with fail
      refine (merge_any ls A c w.heap.size ax ay az 0 0 0 0 _ 1073741824 w2 (hG0.trans hg2).size hl (by omega) (hs.g (Nat.le_refl _) (hG0.trans hg2))).mono ?_
      rintro e w3 ⟨xs, hfx, hxl, vx, rfl, hox, hg3⟩
      replace hg3 := hg2.trans hg3
      obtain ⟨xA, xc, rfl, hxc, hxm, hsx⟩ := OwnL.sl Ev.cells_len hox
      have hall := hfx.all (by omega)
      clear hox
      by_cases hx0 : xs.length = 0
      · rw [hx0]
        go_wp2_with fail
        refine (awake18_any _).mono ?_
        rintro e w9 ⟨rfl, hg9⟩
        go_wp2_with fail
        go_ret
        exact ⟨rfl, hG0.trans (hg3.trans hg9)⟩
      · have hx1 : ((xs.length : Int) == 0) = false := by rw [beq_eq_false_iff_ne]; omega
        have hx2 : 1 ≤ xs.length := by omega
        replace hx0 := Lib.hid hx0
        go_wp2_with fail
        refine (round_any k xs.length w3 (by omega) (by omega) hk1 hk2).mono ?_
        have e1 := Int.emod_nonneg k (show (xs.length : Int) ≠ 0 by omega)
        have e2 := Int.emod_lt_of_pos k (show 0 < (xs.length : Int) by omega)
        rintro e w4 ⟨rfl, rfl⟩
        obtain ⟨r, hr⟩ := Int.eq_ofNat_of_zero_le e1
        rw [hr] at e1 e2
        rw [hr]
        clear hr e1
        have hrl : r < xs.length := by omega
        obtain ⟨⟨es, ev, ed, ⟨ex, ey, ez⟩, ei⟩, hxr⟩ : ∃ x, xs[r]? = some x := ⟨_, List.getElem?_eq_getElem hrl⟩
        have hbeh := hall.behind hap hxr
        obtain ⟨b, o, rfl, heb, c0, c1, c2, c3, c4, c5, c6⟩ := hsx.evG (Nat.le_refl _) hxr
        replace c0 := c0 _ (G.refl _)
        replace c1 := c1 _ (G.refl _)
        replace c2 := c2 _ (G.refl _)
        replace c3 := c3 _ (G.refl _)
        replace c4 := c4 _ (G.refl _)
        replace c5 := c5 _ (G.refl _)
        replace c6 := c6 _ (G.refl _)
        dsimp only at c0 c1 c2 c3 c4 c5 c6
        replace hxr := Lib.hid hxr
        replace hbeh := Lib.hid hbeh
        replace hall := Lib.hid hall
        replace hfx := Lib.hid hfx
        replace hap := Lib.hid hap
        have hga : ∀ o, G W0 (w3.alloc o) := fun o => hg3.alloc o
        go_wp2_with fail
        clear hga
        generalize hW4 : w3.alloc _ = W4
        have hg34 : G w3 W4 := by rw [← hW4]; exact G.new _ _
        clear hW4
        refine (merge_any ls A c w.heap.size ax ay az ex ey ez ei es 1073741824 W4 (hG0.trans (hg3.trans hg34)).size hl (by omega) (hs.g (Nat.le_refl _) (hG0.trans (hg3.trans hg34)))).mono ?_
        rintro e w5 ⟨ys, hfy, hyl, vy, rfl, hoy, hg5⟩
        replace hg5 := hg34.trans hg5
        have hg05 := hg3.trans hg5
        have hys : ys = xs.drop (r + 1) := by
          have := hbeh.out.told 1073741824 rfl hfy
          rwa [List.take_of_length_le (by rw [List.length_drop]; omega)] at this
        replace hys := Lib.hid hys
        obtain ⟨yA, yc, rfl, hyc, hym, hsy⟩ := OwnL.sl Ev.cells_len hoy
        clear hoy hfy
        go_wp2_with fail
        have hm2 := merge_any ls A c w.heap.size ax ay az 0 0 0 0 ⟨#[]⟩ ((r : Int) + 1) w5 (hG0.trans hg05).size hl (by omega) (hs.g (Nat.le_refl _) (hG0.trans hg05))
        refine hm2.mono ?_
        clear hm2
        rintro e w7 ⟨zs, hfz, hzl, vz, rfl, hoz, hg6⟩
        have hzs : zs = xs.take (r + 1) := hall.out.told (r + 1) (by omega) hfz
        replace hzs := Lib.hid hzs
        have hg7 := hg05.trans hg6
        obtain ⟨zA, zc, rfl, hzc, hzm, hsz⟩ := OwnL.sl Ev.cells_len hoz
        have hsx7 := (hsx.g (Nat.le_refl _) (hg5.trans hg6)).more (hg5.trans hg6).size
        replace hsy := (hsy.g (Nat.le_refl _) hg6).more hg6.size
        clear hoz hfz hs hx hg1 hg2 hg5 hg05 hg34
        by_cases hne : xc = r + 1
        · subst hne
          have hdr : xs.drop (r + 1) = [] := List.drop_eq_nil_of_le hxc
          rw [hdr] at hys
          clear hdr
          have hs1 := sameEvents_any ys [] yA (some ⟨b, o, none⟩) yc 0 w7.heap.size w7 (Nat.le_refl _) (by omega) (by simp) hsy Sl.nil
          rw [evsB_eq hys.out] at hs1
          have hs2 : ∀ w', G w7 w' → _ := fun w' h => sameEvents_any zs (xs.take (r + 1)) zA (some ⟨b, o, none⟩) zc (r + 1) w'.heap.size w' (Nat.le_refl _) (by omega) (by rw [List.length_take]; omega) ((hsz.g (Nat.le_refl _) h).more h.size) ((hsx7.take (r + 1)).g (Nat.le_refl _) h |>.more h.size)
          rw [List.length_take, Nat.min_eq_left (by omega), evsB_eq hzs.out] at hs2
          replace hs2 := Lib.hid hs2
          clear hsx hsy hsz hsx7
          go_wp2_with fail
          refine hs1.mono ?_
          rintro e w8 ⟨rfl, hg8⟩
          go_wp2_with fail
          refine (hs2.out w8 hg8).mono ?_
          rintro e w9 ⟨rfl, hg9⟩
          go_wp2_with fail
          refine (awake18_any _).mono ?_
          rintro e w10 ⟨rfl, hg10⟩
          go_wp2_with fail
          go_ret
          exact ⟨rfl, hG0.trans (hg7.trans (hg8.trans (hg9.trans hg10)))⟩
        · have hdo := sl_from hsx7 (r + 1)
          have hs1 := sameEvents_any ys (xs.drop (r + 1)) yA (some ⟨b, o + (r + 1) * 7, none⟩) yc (xc - (r + 1)) w7.heap.size w7 (Nat.le_refl _) (by omega) (by rw [List.length_drop]; omega) hsy hdo
          rw [List.length_drop, evsB_eq hys.out] at hs1
          have hs2 : ∀ w', G w7 w' → _ := fun w' h => sameEvents_any zs (xs.take (r + 1)) zA (some ⟨b, o, none⟩) zc xc w'.heap.size w' (Nat.le_refl _) (by omega) (by rw [List.length_take]; omega) ((hsz.g (Nat.le_refl _) h).more h.size) ((hsx7.take (r + 1)).g (Nat.le_refl _) h |>.more h.size)
          rw [List.length_take, Nat.min_eq_left (by omega), evsB_eq hzs.out] at hs2
          replace hs2 := Lib.hid hs2
          clear hsx hsy hsz hsx7
          go_wp2_with fail
          refine hs1.mono ?_
          rintro e w8 ⟨rfl, hg8⟩
          go_wp2_with fail
          refine (hs2.out w8 hg8).mono ?_
          rintro e w9 ⟨rfl, hg9⟩
          go_wp2_with fail
          refine (awake18_any _).mono ?_
          rintro e w10 ⟨rfl, hg10⟩
          go_wp2_with fail
          go_ret
          exact ⟨rfl, hG0.trans (hg7.trans (hg8.trans (hg9.trans hg10)))⟩

/-! The row's step, by the guide's shell. -/
open Go.ChangeShapes Go.WideShapes Go.ChangeAt
theorem own : ownKnob Try.prog.godebug = none := by kernel_rfl
theorem laidOut : laidOutB Try.prog = true := by kernel_rfl
set_option maxRecDepth 100000 in
theorem lifted (os : Os) (started : os.Started) (H : Type) (enc : TypeId × Value → H) :
    ReturnsInHanded {} Try.checked os 7 .any (Rows.heapPlacesSpec.pre6 enc Try.prog Try.f7 Rows.heapPlacesRow.domain false) (Rows.heapPlacesSpec.post enc Try.prog Try.f7 false true false false) := by
  refine returnsInHanded_of_change (C := Try.checked) own started (by kernel_rfl) Try.func7
    (ChangeSpec.witness6 (enc := enc) (C := Try.checked) false ⟨#[], #[.slice none 0 0, .agg #[.int .i64 0, .int .i64 0, .int .i64 0], .int .i64 0], []⟩ 8 (by kernel_rfl) (by kernel_rfl) (by kernel_rfl) (by kernel_rfl)) ?_
  intro W base args ds gs before hval0 hW hcnd _
  have hval : ∀ (j : Nat) t v, Try.f7.params[j]? = some t → args[j]? = some v → Value.okWide Try.prog W .any base t v := hval0
  have hW' := hW
  obtain ⟨p, q, hA0, hV, rfl, hfz, hnd⟩ := hW
  have hA : DataW.TrodAll enc Try.prog W 0 (fun _ => true) true Try.f7.params.toList args.toList ds p := hA0
  rw [Try.params7] at hA hval
  obtain ⟨v0, vs0, d0, ds0, p0, q0, hargs, rfl, rfl, h0, r0⟩ := trodAll_cons hA
  obtain ⟨v1, vs1, d1, ds1, p1, q1, rfl, rfl, rfl, h1, r1⟩ := trodAll_cons r0
  obtain ⟨v2, vs2, d2, ds2, p2, q2, rfl, rfl, rfl, h2, r2⟩ := trodAll_cons r1
  obtain ⟨rfl, rfl, rfl⟩ := trodAll_nil r2
  obtain rfl : args = #[v0, v1, v2] := by cases args; simp_all
  obtain ⟨rfl, rfl⟩ := trodVars_none hV
  have lt0 : ∀ x ∈ p0, x.block < W.heap.size := by obtain ⟨m, hm⟩ := h0; exact DataW.trod_lt m _ _ _ hm
  have lt1 : ∀ x ∈ p1, x.block < W.heap.size := by obtain ⟨m, hm⟩ := h1; exact DataW.trod_lt m _ _ _ hm
  have lt2 : ∀ x ∈ p2, x.block < W.heap.size := by obtain ⟨m, hm⟩ := h2; exact DataW.trod_lt m _ _ _ hm
  obtain ⟨A, c, ls, rfl, hs, hx, hl1, hl2⟩ := in_logs (hval 0 _ _ rfl rfl) h0
  obtain ⟨a, rfl, ha⟩ := in_st (hval 1 _ _ rfl rfl) h1
  obtain ⟨k, rfl, hk⟩ := in_int (hval 2 _ _ rfl rfl) h2
  clear hA0 hval0
  refine (walk ls A c _ _ _ k W (by omega) (fun l hl => evsOk_of (hx l hl)) hs hk).mono fun e W' ⟨he, hg⟩ => ?_
  have bel : Below W.heap.size W W' := hg
  subst he
  exact ⟨_, rfl, _, _, _, [], _, [], hW', trodAll_mk1 (shut_bool Try.underlying4 _), (trodAll_cons_mk (Below.trod laidOut (by kernel_rfl) (of_decide_eq_true (by kernel_rfl)) h0 bel lt0) (trodAll_cons_mk (Below.trod laidOut (by kernel_rfl) (of_decide_eq_true (by kernel_rfl)) h1 bel lt1) (trodAll_cons_mk (Below.trod laidOut (by kernel_rfl) (of_decide_eq_true (by kernel_rfl)) h2 bel lt2) (trodAll_mk0)))), rfl, bel.frame _, fun h => by cases h⟩

theorem over : Rows.heapPlacesRow.holds Try.pinned (OpenSpec.ofChange Rows.heapPlacesSpec) :=
  OpenClaim.holds_of_wide 7 Try.f7 rfl rfl rfl rfl rfl rfl rfl ⟨rfl, rfl, rfl, rfl, rfl⟩ rfl rfl rfl rfl rfl (by kernel_rfl) Try.func7 (by kernel_rfl)
    (of_decide_eq_true (by kernel_rfl)) (by unfold Func.isWrapper; first | (rw [if_pos (by decide +kernel)]; kernel_rfl) | (rw [if_neg (by decide +kernel)]; exact ⟨rfl, rfl⟩))
    (fun os started H enc _ => lifted os started H enc)

theorem proved : Rows.HeapPlacesSaid := over
#print axioms proved
end Go.Proofs.Ytnenabacbhepdaa.heapPlaces

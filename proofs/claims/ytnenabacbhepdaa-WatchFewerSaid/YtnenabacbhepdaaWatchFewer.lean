/- penstocklaw29.WatchFewer returns true for every input and leaves its arguments as they were. No condition. -/
import Derived.Test.YtnenabacbhepdaaFewer
import Derived.Test.YtnenabacbhepdaaAwake29
import Derived.Test.YtnenabacbhepdaaReadLogs
import Derived.Test.YtnenabacbhepdaaRows
namespace Go.Proofs.Ytnenabacbhepdaa.watchFewer
open Go.RowKit

theorem log_elem : IsElem Try.prog 34 31 1 24 LogM.cells :=
  isElem_of (z := .slice none 0 0) Try.underlying34 (by kernel_rfl) rfl (by omega) LogM.cells_len (by intro x u hu; simp [LogM.cells] at hu; subst hu; rfl)

set_option maxHeartbeats 2000000 in
theorem walk (ls : List LogM) (A A2 : Option Addr) (c c2 : Nat) (drop : Int) (cuts : List Int) (w : World) (hl : ls.length ≤ 9223372036854775807) (hx : ∀ l ∈ ls, EvsOk l.es) (hs : LogsIn w w.heap.size A ls)
    (hd : I64 drop) (hcl : cuts.length ≤ 9223372036854775807) (hci : ∀ k ∈ cuts, I64 k) (hs2 : Sl intC 1 w w.heap.size A2 cuts) :
    Calls Try.prog 4 #[.slice A ls.length c, .int .i64 drop, .slice A2 cuts.length c2] w fun e w' => e = .returned (.bool true) ∧ G w w' := by
  go_enter Try.func4, Try.ntmps4
  go_wp2_with fail
  refine (small29_any ls A c w.heap.size w (Nat.le_refl _) hl hx hs).mono ?_
  rintro e w1 ⟨rfl, hg1⟩
  by_cases hsm : smallB 300 20 ls = true
  · by_cases hc30 : ¬ cuts.length ≤ 30
    · go_wp2_with (go_at_call 18; refine (awake29_any _).mono ?_; rintro e w3 ⟨rfl, hg3⟩)
      go_ret
      exact ⟨rfl, hg1.trans hg3⟩
    rw [Classical.not_not] at hc30
    obtain ⟨hsum, hcnt⟩ := small_len (by omega) (by omega) hsm
    have hln : ∀ l ∈ ls, l.es.length ≤ 1099511627776 := fun l h => by have := sum_mem h; omega
    clear hsum
    go_wp2_with fail
    refine (one_any ls A c w.heap.size w1 hg1.size hl hln (hs.g (Nat.le_refl _) hg1)).mono ?_
    rintro e w2 ⟨v, rfl, hown, hg2⟩
    by_cases hok : (allPre ls (longOf ls).es && sortedB (longOf ls).es) = true
    · rw [hok]
      simp only [Bool.and_eq_true] at hok
      obtain ⟨hpre, hsorted⟩ := hok
      have hpre' : ∀ l ∈ ls, l.es <+: (longOf ls).es := fun l h => by
        unfold allPre at hpre
        rw [List.all_eq_true] at hpre
        exact (prefB_iff _ _).1 (hpre l h)
      have hxlen : (longOf ls).es.length ≤ 1099511627776 := by
        rcases longOf_mem ls with h1 | h1
        · rw [h1]; simp
        · exact hln _ h1
      generalize (longOf ls).es = x at *
      clear hpre
      replace hpre' := Lib.hid hpre'
      replace hsorted := Lib.hid hsorted
      obtain ⟨xA, xc, rfl, hxc, hxm, hxs⟩ := OwnL.sl Ev.cells_len (show OwnL 44 7 Ev.cells w2 _ _ _ from hown)
      have hg02 := hg1.trans hg2
      have hz2 := hg02.size
      clear hown
      replace hln := Lib.hid hln
      replace hx := Lib.hid hx
      replace hci := Lib.hid hci
      go_wp2_with fail
      go_loopw [9, 10, 11] (fun v i _f wr => ∃ (j : Nat) (less : List LogM), j ≤ ls.length ∧ i = .int .i64 j ∧ OwnL 31 1 LogM.cells wr w2.heap.size v less ∧ G w2 wr ∧ less.length ≤ j ∧ Hid (∀ m ∈ less, m.ok w w.heap.size ∧ m.es <+: x)) (fun _ i _ _ => ls.length - (intOf i).toNat)
      case atStart => exact ⟨0, [], Nat.zero_le _, rfl, OwnL.nil, G.refl _, by simp, by simp [Hid]⟩
      case round =>
        obtain ⟨j, less, hj, rfl, hol, hg, hle, hh⟩ := hrel
        by_cases hlt : j < ls.length
        · obtain ⟨⟨lA, lc, les⟩, hl1⟩ : ∃ l, ls[j]? = some l := ⟨_, List.getElem?_eq_getElem hlt⟩
          obtain ⟨b, o, rfl, hb, hcell, hok⟩ := hs.at_ (Nat.le_refl _) hl1
          have hcw := hcell wr (hg02.trans hg)
          obtain ⟨hls, hlc, hlm⟩ := hok w (G.refl _)
          have hlx := hpre'.out _ (List.mem_of_getElem? hl1)
          have hll := hln.out _ (List.mem_of_getElem? hl1)
          replace hl1 := Lib.hid hl1
          clear hs hcell hok
          dsimp only at hcw hls hlc hlm hlx hll
          by_cases hjd : drop = j
          · subst hjd
            have hjd2 : ((j : Int) == (j : Int)) = true := by simp
            go_wp2_with fail
            go_roundw
            case rel => exact ⟨j + 1, less, by omega, by go_num, hol, hg, by omega, hh⟩
            case measure => simp [intOf]; omega
          · have hjd2 : ((j : Int) == drop) = false := by simp; omega
            replace hjd := Lib.hid hjd
            by_cases hjc : j < cuts.length
            · obtain ⟨q, hq1⟩ : ∃ q, cuts[j]? = some q := ⟨_, List.getElem?_eq_getElem hjc⟩
              obtain ⟨bq, oq, rfl, hbq, hcq⟩ := hs2.int hq1
              replace hcq := ((hg02.trans hg).cell hbq).trans hcq
              obtain ⟨hq2, hq3⟩ := hci.out q (List.mem_of_getElem? hq1)
              clear hs2 hq1
              go_wp2_with fail
              refine (round_any q (les.length + 1) wr (by omega) (by omega) hq2 hq3).mono ?_
              have e1 := Int.emod_nonneg q (show ((les.length : Int) + 1) ≠ 0 by omega)
              have e2 := Int.emod_lt_of_pos q (show 0 < (les.length : Int) + 1 by omega)
              rintro e w3 ⟨rfl, rfl⟩
              obtain ⟨r, hr⟩ := Int.eq_ofNat_of_zero_le e1
              rw [hr] at e1 e2
              rw [hr]
              clear hr e1
              have hrl : r ≤ les.length := by omega
              go_wp2_with (at_builtin; refine wpList_append_list log_elem _ rfl (.tmp 58) (.tmp 60) rfl w2.heap.size _ less rfl (hol.g (G.new _ _)) (wr.heap.size + 1) (some ⟨wr.heap.size, 0, none⟩) 1 [⟨lA, lc, les.take r⟩] rfl (by intro h; cases h) (Sl.of_blk LogM.cells_len _ (blk_new _ _ _) (by simp [LogM.cells]; omega) (by omega)) (by simp; omega) (by simp; omega) (by have := hg.size; simp; omega) ?_; intro v' w' hown' hkeep _)
              go_roundw
              case rel =>
                refine ⟨j + 1, _, by omega, by go_num, hown', hkeep.g (hg.alloc _), by simp; omega, ?_⟩
                intro m hm
                rcases List.mem_append.1 hm with hm | hm
                · exact hh.out m hm
                · rw [List.mem_singleton] at hm
                  subst hm
                  exact ⟨⟨hls.take r, by simp; omega, hlm⟩, (List.take_prefix r les).trans hlx⟩
              case measure => simp [intOf]; omega
            · go_wp2_with (at_builtin; refine wpList_append_list log_elem _ rfl (.tmp 58) (.tmp 60) rfl w2.heap.size _ less rfl (hol.g (G.new _ _)) (wr.heap.size + 1) (some ⟨wr.heap.size, 0, none⟩) 1 [⟨lA, lc, les⟩] rfl (by intro h; cases h) (Sl.of_blk LogM.cells_len _ (blk_new _ _ _) (rfl) (by omega)) (by simp; omega) (by simp; omega) (by have := hg.size; simp; omega) ?_; intro v' w' hown' hkeep _)
              go_roundw
              case rel =>
                refine ⟨j + 1, _, by omega, by go_num, hown', hkeep.g (hg.alloc _), by simp; omega, ?_⟩
                intro m hm
                rcases List.mem_append.1 hm with hm | hm
                · exact hh.out m hm
                · rw [List.mem_singleton] at hm
                  subst hm
                  exact ⟨⟨hls, hlc, hlm⟩, hlx⟩
              case measure => simp [intOf]; omega
        · have hfin : (allPre less (longOf less).es && sortedB (longOf less).es) = true := one_of_pre (fun m hm => (hh.out m hm).2) hsorted.out
          have hpy : prefB (longOf less).es x = true := (prefB_iff _ _).2 (longOf_pre (fun m hm => (hh.out m hm).2))
          replace hfin := Lib.hid hfin
          replace hpy := Lib.hid hpy
          have hll : ∀ m ∈ less, m.es.length ≤ 1099511627776 := fun m hm => by have := (hh.out m hm).2.length_le; omega
          obtain ⟨lA, lc, rfl, hlc, hlm, hls⟩ := OwnL.sl LogM.cells_len hol
          have hG := hg02.trans hg
          have hlogs : LogsIn wr wr.heap.size lA less := ⟨hls, fun m hm => by
            obtain ⟨h1, h2, h3⟩ := (hh.out m hm).1
            exact ⟨(h1.g (Nat.le_refl _) hG).more hG.size, h2, h3⟩⟩
          have hone := one_any less lA lc wr.heap.size wr (Nat.le_refl _) (by omega) hll hlogs
          have hylen : (longOf less).es.length ≤ 1099511627776 := by
            rcases longOf_mem less with h1 | h1
            · rw [h1]; simp
            · exact hll _ h1
          rw [hfin.out] at hone
          generalize (longOf less).es = y at *
          clear hs hs2 hlogs hls
          go_wp2_with fail
          refine hone.mono ?_
          clear hone
          rintro e w3 ⟨v2, rfl, hown2, hg3⟩
          obtain ⟨yA, yc, rfl, hyc, hym, hys⟩ := OwnL.sl Ev.cells_len (show OwnL 44 7 Ev.cells w3 _ _ _ from hown2)
          have hxs3 := ((hxs.g (Nat.le_refl _) (hg.trans hg3)).more (hg.trans hg3).size)
          go_wp2_with fail
          have hpc := prefix_any y x yA xA yc xc w3.heap.size w3 (Nat.le_refl _) (by omega) hxc hxm hys hxs3
          rw [hpy.out] at hpc
          refine hpc.mono ?_
          clear hpc
          rintro e w4 ⟨rfl, hg4⟩
          have hsc := refSorted_any x xA xc w3.heap.size w4 hg4.size (by omega) (hxs3.g (Nat.le_refl _) hg4)
          rw [hsorted.out] at hsc
          go_wp2_with fail
          refine hsc.mono ?_
          clear hsc
          rintro e w5 ⟨rfl, hg5⟩
          go_wp2_with (go_at_call 18; refine (awake29_any _).mono ?_; rintro e w6 ⟨rfl, hg6⟩)
          go_ret
          exact ⟨rfl, hG.trans (hg3.trans (hg4.trans (hg5.trans hg6)))⟩
    · rw [Bool.not_eq_true] at hok
      rw [hok]
      go_wp2_with (go_at_call 18; refine (awake29_any _).mono ?_; rintro e w3 ⟨rfl, hg3⟩)
      go_ret
      exact ⟨rfl, hg1.trans (hg2.trans hg3)⟩
  · go_wp2_with (go_at_call 18; refine (awake29_any _).mono ?_; rintro e w3 ⟨rfl, hg3⟩)
    go_ret
    exact ⟨rfl, hg1.trans hg3⟩

/-! The row's step, by the guide's shell. -/
open Go.ChangeShapes Go.WideShapes Go.ChangeAt
theorem own : ownKnob Try.prog.godebug = none := by kernel_rfl
theorem laidOut : laidOutB Try.prog = true := by kernel_rfl
set_option maxRecDepth 100000 in
theorem lifted (os : Os) (started : os.Started) (H : Type) (enc : TypeId × Value → H) :
    ReturnsInHanded {} Try.checked os 4 .any (Rows.watchFewerSpec.pre6 enc Try.prog Try.f4 Rows.watchFewerRow.domain false) (Rows.watchFewerSpec.post enc Try.prog Try.f4 false true false false) := by
  refine returnsInHanded_of_change (C := Try.checked) own started (by kernel_rfl) Try.func4
    (ChangeSpec.witness6 (enc := enc) (C := Try.checked) false ⟨#[], #[.slice none 0 0, .int .i64 0, .slice none 0 0], []⟩ 8 (by kernel_rfl) (by kernel_rfl) (by kernel_rfl) (by kernel_rfl)) ?_
  intro W base args ds gs before hval0 hW hcnd _
  have hval : ∀ (j : Nat) t v, Try.f4.params[j]? = some t → args[j]? = some v → Value.okWide Try.prog W .any base t v := hval0
  have hW' := hW
  obtain ⟨p, q, hA0, hV, rfl, hfz, hnd⟩ := hW
  have hA : DataW.TrodAll enc Try.prog W 0 (fun _ => true) true Try.f4.params.toList args.toList ds p := hA0
  rw [Try.params4] at hA hval
  obtain ⟨v0, vs0, d0, ds0, p0, q0, hargs, rfl, rfl, h0, r0⟩ := trodAll_cons hA
  obtain ⟨v1, vs1, d1, ds1, p1, q1, rfl, rfl, rfl, h1, r1⟩ := trodAll_cons r0
  obtain ⟨v2, vs2, d2, ds2, p2, q2, rfl, rfl, rfl, h2, r2⟩ := trodAll_cons r1
  obtain ⟨rfl, rfl, rfl⟩ := trodAll_nil r2
  obtain rfl : args = #[v0, v1, v2] := by cases args; simp_all
  obtain ⟨rfl, rfl⟩ := trodVars_none hV
  have lt0 : ∀ x ∈ p0, x.block < W.heap.size := by obtain ⟨m, hm⟩ := h0; exact DataW.trod_lt m _ _ _ hm
  have lt1 : ∀ x ∈ p1, x.block < W.heap.size := by obtain ⟨m, hm⟩ := h1; exact DataW.trod_lt m _ _ _ hm
  have lt2 : ∀ x ∈ p2, x.block < W.heap.size := by obtain ⟨m, hm⟩ := h2; exact DataW.trod_lt m _ _ _ hm
  obtain ⟨A, c, ls, rfl, hs, hx, hl1, hl2⟩ := in_logs (hval 0 _ _ rfl rfl) h0
  obtain ⟨drop, rfl, hd⟩ := in_int (hval 1 _ _ rfl rfl) h1
  obtain ⟨A2, c2, cuts, rfl, hs2, hci, hc1, hc2⟩ := in_ints (hval 2 _ _ rfl rfl) h2
  clear hA0 hval0
  refine (walk ls A A2 c c2 drop cuts W (by omega) (fun l hl => evsOk_of (hx l hl)) hs hd (by omega) hci hs2).mono fun e W' ⟨he, hg⟩ => ?_
  have bel : Below W.heap.size W W' := hg
  subst he
  exact ⟨_, rfl, _, _, _, [], _, [], hW', trodAll_mk1 (shut_bool Try.underlying4 _), (trodAll_cons_mk (Below.trod laidOut (by kernel_rfl) (of_decide_eq_true (by kernel_rfl)) h0 bel lt0) (trodAll_cons_mk (Below.trod laidOut (by kernel_rfl) (of_decide_eq_true (by kernel_rfl)) h1 bel lt1) (trodAll_cons_mk (Below.trod laidOut (by kernel_rfl) (of_decide_eq_true (by kernel_rfl)) h2 bel lt2) (trodAll_mk0)))), rfl, bel.frame _, fun h => by cases h⟩

theorem over : Rows.watchFewerRow.holds Try.pinned (OpenSpec.ofChange Rows.watchFewerSpec) :=
  OpenClaim.holds_of_wide 4 Try.f4 rfl rfl rfl rfl rfl rfl rfl ⟨rfl, rfl, rfl, rfl, rfl⟩ rfl rfl rfl rfl rfl (by kernel_rfl) Try.func4 (by kernel_rfl)
    (of_decide_eq_true (by kernel_rfl)) (by unfold Func.isWrapper; first | (rw [if_pos (by decide +kernel)]; kernel_rfl) | (rw [if_neg (by decide +kernel)]; exact ⟨rfl, rfl⟩))
    (fun os started H enc _ => lifted os started H enc)

theorem proved : Rows.WatchFewerSaid := over
#print axioms proved
end Go.Proofs.Ytnenabacbhepdaa.watchFewer

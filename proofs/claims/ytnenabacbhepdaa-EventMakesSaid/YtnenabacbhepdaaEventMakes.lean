/- penstocklaw9.EventMakes returns true for every input and leaves its arguments as they were. No condition. -/
import Derived.Test.YtnenabacbhepdaaRead
import Derived.Test.YtnenabacbhepdaaRefMake
import Derived.Test.YtnenabacbhepdaaSame
import Derived.Test.YtnenabacbhepdaaAwake9
import Derived.Test.YtnenabacbhepdaaRows
namespace Go.Proofs.Ytnenabacbhepdaa.eventMakes
open Go.RowKit

theorem sumTo_ge (n : Int) : ∀ l : List Int, (∀ m ∈ l, 0 ≤ m) → sumTo n l ≤ 1099511627775 → n ≤ 1099511627776 → sumTo n l = n + l.sum := by
  intro l
  induction l generalizing n with
  | nil => intro _ _ _; simp [sumTo]
  | cons m l ih =>
    intro h h1 h2
    simp only [sumTo] at h1 ⊢
    split at h1
    · rename_i h3
      rw [if_pos h3, ih (n + m) (fun k hk => h k (by simp [hk])) h1 h3]
      simp; omega
    · omega
/-- What bulk at most top says of a list's texts. -/
theorem upTo_ge (top n : Int) (ht : top ≤ 1099511627775) : ∀ l : List Int, (∀ m ∈ l, 0 ≤ m) → upTo top n l ≤ top → n ≤ upTo top n l := by
  intro l
  induction l generalizing n with
  | nil => intro _ _; exact Int.le_refl _
  | cons m l ih =>
    intro h h1
    simp only [upTo] at h1 ⊢
    split
    · rename_i h3
      rw [if_pos h3] at h1
      have h4 := ih (sumTo n [m]) (fun k hk => h k (by simp [hk])) h1
      have h5 : 0 ≤ m := h m (by simp)
      have h6 := sumTo_one n m
      split at h6 <;> omega
    · rename_i h3
      rw [if_neg h3] at h1
      exact Int.le_refl _
theorem total_ge (top : Int) (ht : top ≤ 1099511627775) (ss : List ByteArray) (h : totalOf top ss ≤ top) : (ss.length : Int) ≤ totalOf top ss := by
  have h1 := upTo_ge top (sumTo 0 [(ss.length : Int)]) ht _ (fun m hm => by simp at hm; obtain ⟨s, _, rfl⟩ := hm; omega) h
  have h2 := sumTo_one 0 (ss.length : Int)
  unfold totalOf at h ⊢
  split at h2 <;> omega
theorem bulk_ge (top : Int) (ht : top ≤ 1099511627775) : ∀ (ps : List PutM) (n : Int), 0 ≤ n → bulkTo top n ps ≤ top → n + evCount ps ≤ bulkTo top n ps := by
  intro ps
  induction ps with
  | nil => intro n _ _; simp [evCount, bulkTo]
  | cons p l ih =>
    intro n h0 h
    simp only [bulkTo] at h ⊢
    obtain ⟨t0, t1⟩ := totalOf_le top p.data
    split
    · rename_i h3
      rw [if_pos h3] at h
      have hs := sumTo_le2 n p.stream.size (totalOf top p.data) h0 (by omega) (by omega) t0
      have h4 := ih _ hs.1 h
      have h5 := sumTo_ge n [(p.stream.size : Int), totalOf top p.data] (fun k hk => by simp at hk; omega) (by omega) (by omega)
      have h6 := total_ge top ht p.data (by simp at h5; omega)
      have h7 : evCount (p :: l) = p.data.length + evCount l := by simp [evCount]
      simp at h5
      omega
    · rename_i h3
      rw [if_neg h3] at h
      omega
theorem batch_ge (top : Int) (ht : top ≤ 1099511627775) (key : ByteArray) (ps : List PutM) (h : batchOf top key ps ≤ top) : (evCount ps : Int) ≤ top := by
  have hs := sumTo_le2 0 key.size ps.length (by omega) (by omega) (by omega) (by omega)
  have := bulk_ge top ht ps _ hs.1 h
  unfold batchOf at h
  omega
theorem makeFrom_length (firsts : List Int) (st : St) : ∀ (ps : List PutM) (i : Nat) (ix : Int), (makeFrom firsts st i ix ps).length = evCount ps := by
  intro ps
  induction ps with
  | nil => intro i ix; rfl
  | cons p l ih => intro i ix; simp only [makeFrom, List.length_append, makePut_length, ih]; simp [evCount]

set_option maxHeartbeats 1000000 in
theorem walk (key : ByteArray) (ps : List PutM) (A A2 : Option Addr) (c c2 : Nat) (firsts : List Int) (st : St) (ix : Int) (w : World) (hk : key.size ≤ 9223372036854775807)
    (hi : I64 ix) (hp : PutsOk ps) (hl2 : firsts.length ≤ 9223372036854775807) (hs : PutsIn w w.heap.size A ps) (hs2 : Sl intC 1 w w.heap.size A2 firsts) :
    Calls Try.prog 3 #[.agg #[.string key, .slice A ps.length c], .slice A2 firsts.length c2, .agg #[.int .i64 st.wall, .int .i64 st.logic, .int .i64 st.node], .int .i64 ix] w
      fun e w' => e = .returned (.bool true) ∧ G w w' := by
  obtain ⟨hi1, hi2⟩ := hi
  go_enter Try.func3, Try.ntmps3
  go_wp2_with fail
  generalize hW0 : (w.alloc (.cells #[.string key, .slice A ps.length c] 24)).alloc (.cells #[.int .i64 st.wall, .int .i64 st.logic, .int .i64 st.node] 27) = W0
  have hz : w.heap.size + 1 < W0.heap.size := by rw [← hW0]; simp
  have hS0 : W0.cell? ⟨w.heap.size + 1, 0, none⟩ = some (.int .i64 st.wall) := by rw [← hW0]; simp
  have hS1 : W0.cell? ⟨w.heap.size + 1, 1, none⟩ = some (.int .i64 st.logic) := by rw [← hW0]; simp
  have hS2 : W0.cell? ⟨w.heap.size + 1, 2, none⟩ = some (.int .i64 st.node) := by rw [← hW0]; simp
  have hS3 : W0.cell? ⟨w.heap.size, 1, none⟩ = some (.slice A ps.length c) := by rw [← hW0]; simp
  have hS4 : W0.cell? ⟨w.heap.size, 0, none⟩ = some (.string key) := by rw [← hW0]; simp
  have hG0 : G w W0 := by rw [← hW0]; exact (G.new _ _).alloc _
  clear hW0
  have q0 : ∀ w', G W0 w' → w'.cell? ⟨w.heap.size + 1, 0, none⟩ = some (.int .i64 st.wall) := fun w' h => (h.cell (by omega)).trans hS0
  have q1 : ∀ w', G W0 w' → w'.cell? ⟨w.heap.size + 1, 1, none⟩ = some (.int .i64 st.logic) := fun w' h => (h.cell (by omega)).trans hS1
  have q2 : ∀ w', G W0 w' → w'.cell? ⟨w.heap.size + 1, 2, none⟩ = some (.int .i64 st.node) := fun w' h => (h.cell (by omega)).trans hS2
  have q3 : ∀ w', G W0 w' → w'.cell? ⟨w.heap.size, 1, none⟩ = some (.slice A ps.length c) := fun w' h => (h.cell (by omega)).trans hS3
  have q4 : ∀ w', G W0 w' → w'.cell? ⟨w.heap.size, 0, none⟩ = some (.string key) := fun w' h => (h.cell (by omega)).trans hS4
  clear hS0 hS1 hS2 hS3 hS4
  replace hs := hs.g (Nat.le_refl _) hG0
  replace hs2 := hs2.g (Nat.le_refl _) hG0
  have hzB : w.heap.size ≤ W0.heap.size := by omega
  refine (batch_any 6000 key ps A c w.heap.size W0 hzB hk hp hs).mono ?_
  rintro e w1 ⟨rfl, hg1⟩
  have hge := batch_ge 6000 (by omega) key ps
  generalize hbb : batchOf 6000 key ps = bb at *
  clear hbb
  by_cases hbig : bb ≤ 6000 ∧ firsts.length ≤ 100 ∧ -1099511627776 ≤ ix ∧ ix ≤ 1099511627776
  · obtain ⟨hb1, hb2, hb3, hb4⟩ := hbig
    have hcnt := hge hb1
    clear hge
    go_wp2_with fail
    replace hg1 : G W0 w1 := hg1
    go_loopw [9] (fun i wr => ∃ k : Nat, k ≤ firsts.length ∧ i = .int .i64 k ∧ G W0 wr ∧ Hid (∀ f ∈ firsts.take k, -1099511627776 ≤ f ∧ f ≤ 1099511627776)) (fun i _ => firsts.length - (intOf i).toNat)
    case atStart => exact ⟨0, Nat.zero_le _, rfl, hg1, by simp [Hid]⟩
    case round =>
      obtain ⟨k, hkl, rfl, hg, hh⟩ := hrel
      by_cases hlt : k < firsts.length
      · obtain ⟨f, hf1⟩ : ∃ f, firsts[k]? = some f := ⟨_, List.getElem?_eq_getElem hlt⟩
        obtain ⟨b2, o2, rfl, hb2, hcf⟩ := hs2.int hf1
        replace hcf := (hg.cell (by omega)).trans hcf
        replace hf1 := Lib.hid hf1
        clear hs2
        go_wp2_with (go_at_call 13; refine (awake9_any _).mono ?_; rintro e w2 ⟨rfl, hg2⟩)
        · go_ret
          exact ⟨rfl, hG0.trans (hg.trans hg2)⟩
        · rename_i _ hq
          go_roundw
          case rel =>
            refine ⟨k + 1, by omega, by go_num, hg, ?_⟩
            intro x hx
            rw [List.take_add_one, hf1.out] at hx
            simp at hx
            rcases hx with hx | rfl
            · exact hh.out x hx
            · exact hq
          case measure => simp [intOf]; omega
        · go_ret
          exact ⟨rfl, hG0.trans (hg.trans hg2)⟩
      · have hfi : ∀ f ∈ firsts, -1099511627776 ≤ f ∧ f ≤ 1099511627776 := by
          have := hh.out
          rwa [List.take_of_length_le (by omega)] at this
        replace hfi := Lib.hid hfi
        have hml : (makeFrom firsts st 0 ix ps).length ≤ 9223372036854775807 := by rw [makeFrom_length]; omega
        have hzb : ∀ w', G W0 w' → w.heap.size ≤ w'.heap.size := fun w' h => by have := h.size; omega
        have hps : ∀ w', G W0 w' → PutsIn w' w.heap.size A ps := fun w' h => hs.g hzB h
        have hfs : ∀ w', G W0 w' → Sl intC 1 w' w.heap.size A2 firsts := fun w' h => hs2.g hzB h
        clear hs hs2
        obtain ⟨hp1, hp2⟩ := hp
        replace hp2 := Lib.hid hp2
        go_wp2_with fail
        go_region_held3 (fun w' => G W0 w') (first | exact hg.drew | exact hgm.keep (by assumption) | exact hgn.keep (by assumption) | exact hgs.keep (by assumption) | exact hga.keep (by assumption) | fail)
          (first | (go_at_call 15; refine (make_any key ps A A2 c c2 w.heap.size firsts st ix _ (hzb _ (by assumption)) hp1 (by omega) (by omega) hfi.out ⟨hb3, hb4⟩ (hps _ (by assumption)) (hfs _ (by assumption))).mono ?_; rintro e wm ⟨v1, rfl, hown1, hgm⟩; obtain ⟨A1, c1, rfl, hsl1⟩ := hown1.sl) | (go_at_call 16; refine (refMake_any key ps A A2 c c2 w.heap.size firsts st ix _ (hzb _ (by assumption)) hp1 (by omega) (by omega) hfi.out ⟨hb3, hb4⟩ (hps _ (by assumption)) (hfs _ (by assumption))).mono ?_; rintro e wn ⟨v1, rfl, hown2, hgn⟩; obtain ⟨A3, c3, rfl, hsl2⟩ := hown2.sl) | (go_at_call 14; refine (sameEvents_self _ A1 A3 c1 c3 _ wn (Nat.le_refl _) hml ((hsl1.g (Nat.le_refl _) hgn).more hgn.size) hsl2).mono ?_; rintro e ws ⟨rfl, hgs⟩) | (go_at_call 14; refine (sameEvents_self _ A1 A3 c1 c3 _ wm (Nat.le_refl _) hml hsl1 ((hsl2.g (Nat.le_refl _) hgm).more hgm.size)).mono ?_; rintro e ws ⟨rfl, hgs⟩) | (go_at_call 13; refine (awake9_any _).mono ?_; rintro e wa ⟨rfl, hga⟩))
        all_goals (go_wp2_with fail; go_ret; exact ⟨rfl, hG0.trans (by assumption)⟩)
  · clear hge
    go_wp2_with (go_at_call 13; refine (awake9_any _).mono ?_; rintro e w2 ⟨rfl, hg2⟩)
    all_goals (go_ret; exact ⟨rfl, hG0.trans (hg1.trans hg2)⟩)

/-! The row's step, by the guide's shell. -/
open Go.ChangeShapes Go.WideShapes Go.ChangeAt
theorem own : ownKnob Try.prog.godebug = none := by kernel_rfl
theorem laidOut : laidOutB Try.prog = true := by kernel_rfl
set_option maxRecDepth 100000 in
theorem lifted (os : Os) (started : os.Started) (H : Type) (enc : TypeId × Value → H) :
    ReturnsInHanded {} Try.checked os 3 .any (Rows.eventMakesSpec.pre6 enc Try.prog Try.f3 Rows.eventMakesRow.domain false) (Rows.eventMakesSpec.post enc Try.prog Try.f3 false true false false) := by
  refine returnsInHanded_of_change (C := Try.checked) own started (by kernel_rfl) Try.func3
    (ChangeSpec.witness6 (enc := enc) (C := Try.checked) false ⟨#[], #[.agg #[.string ByteArray.empty, .slice none 0 0], .slice none 0 0, .agg #[.int .i64 0, .int .i64 0, .int .i64 0], .int .i64 0], []⟩ 8 (by kernel_rfl) (by kernel_rfl) (by kernel_rfl) (by kernel_rfl)) ?_
  intro W base args ds gs before hval0 hW hcnd _
  have hval : ∀ (j : Nat) t v, Try.f3.params[j]? = some t → args[j]? = some v → Value.okWide Try.prog W .any base t v := hval0
  have hW' := hW
  obtain ⟨p, q, hA0, hV, rfl, hfz, hnd⟩ := hW
  have hA : DataW.TrodAll enc Try.prog W 0 (fun _ => true) true Try.f3.params.toList args.toList ds p := hA0
  rw [Try.params3] at hA hval
  obtain ⟨v0, vs0, d0, ds0, p0, q0, hargs, rfl, rfl, h0, r0⟩ := trodAll_cons hA
  obtain ⟨v1, vs1, d1, ds1, p1, q1, rfl, rfl, rfl, h1, r1⟩ := trodAll_cons r0
  obtain ⟨v2, vs2, d2, ds2, p2, q2, rfl, rfl, rfl, h2, r2⟩ := trodAll_cons r1
  obtain ⟨v3, vs3, d3, ds3, p3, q3, rfl, rfl, rfl, h3, r3⟩ := trodAll_cons r2
  obtain ⟨rfl, rfl, rfl⟩ := trodAll_nil r3
  obtain rfl : args = #[v0, v1, v2, v3] := by cases args; simp_all
  obtain ⟨rfl, rfl⟩ := trodVars_none hV
  have lt0 : ∀ x ∈ p0, x.block < W.heap.size := by obtain ⟨m, hm⟩ := h0; exact DataW.trod_lt m _ _ _ hm
  have lt1 : ∀ x ∈ p1, x.block < W.heap.size := by obtain ⟨m, hm⟩ := h1; exact DataW.trod_lt m _ _ _ hm
  have lt2 : ∀ x ∈ p2, x.block < W.heap.size := by obtain ⟨m, hm⟩ := h2; exact DataW.trod_lt m _ _ _ hm
  have lt3 : ∀ x ∈ p3, x.block < W.heap.size := by obtain ⟨m, hm⟩ := h3; exact DataW.trod_lt m _ _ _ hm
  obtain ⟨key, A, c, ps, rfl, hk, hs, hp, _⟩ := in_batch (hval 0 _ _ rfl rfl) h0
  obtain ⟨A2, c2, firsts, rfl, hs2, _, hl1, hl2⟩ := in_ints (hval 1 _ _ rfl rfl) h1
  obtain ⟨st, rfl, _⟩ := in_st (hval 2 _ _ rfl rfl) h2
  obtain ⟨ix, rfl, hi⟩ := in_int (hval 3 _ _ rfl rfl) h3
  clear hA0 hval0
  refine (walk key ps A A2 c c2 firsts st ix W hk hi hp (by omega) hs hs2).mono fun e W' ⟨he, hg⟩ => ?_
  have bel : Below W.heap.size W W' := hg
  subst he
  exact ⟨_, rfl, _, _, _, [], _, [], hW', trodAll_mk1 (shut_bool Try.underlying4 _), (trodAll_cons_mk (Below.trod laidOut (by kernel_rfl) (of_decide_eq_true (by kernel_rfl)) h0 bel lt0)
    (trodAll_cons_mk (Below.trod laidOut (by kernel_rfl) (of_decide_eq_true (by kernel_rfl)) h1 bel lt1) (trodAll_cons_mk (Below.trod laidOut (by kernel_rfl) (of_decide_eq_true (by kernel_rfl)) h2 bel lt2)
    (trodAll_cons_mk (Below.trod laidOut (by kernel_rfl) (of_decide_eq_true (by kernel_rfl)) h3 bel lt3) trodAll_mk0)))), rfl, bel.frame _, fun h => by cases h⟩

theorem over : Rows.eventMakesRow.holds Try.pinned (OpenSpec.ofChange Rows.eventMakesSpec) :=
  OpenClaim.holds_of_wide 3 Try.f3 rfl rfl rfl rfl rfl rfl rfl ⟨rfl, rfl, rfl, rfl, rfl⟩ rfl rfl rfl rfl rfl (by kernel_rfl) Try.func3 (by kernel_rfl)
    (of_decide_eq_true (by kernel_rfl)) (by unfold Func.isWrapper; first | (rw [if_pos (by decide +kernel)]; kernel_rfl) | (rw [if_neg (by decide +kernel)]; exact ⟨rfl, rfl⟩))
    (fun os started H enc _ => lifted os started H enc)

theorem proved : Rows.EventMakesSaid := over
#print axioms proved
end Go.Proofs.Ytnenabacbhepdaa.eventMakes

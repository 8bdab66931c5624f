/- penstocklaw9.EventRuns: the walk. Condition: the decoder's tables lie as the library lays them. -/
import Derived.Test.YtilfgafdkiaaaaaDoorCheck
import Derived.Test.YtilfgafdkiaaaaaDoorBatEnc
import Derived.Test.YtilfgafdkiaaaaaDoorBatSmall
import Derived.Test.YtilfgafdkiaaaaaDoorRunsLaw
import Derived.Test.YtilfgafdkiaaaaaDoorAwake9
namespace Go.Proofs.YtilfgafdkiaaaaaDoor
open Go.RowKit

theorem int_elem : IsElem Tryd.prog 37 3 1 8 intC :=
  isElem_of (z := .int .i64 0) Tryd.underlying37 (by kernel_rfl) rfl (by omega) intC_len (by intro x u hu; simp [intC] at hu; subst hu; rfl)
set_option maxRecDepth 100000 in
set_option maxHeartbeats 8000000 in
theorem eventRuns_walk (key : ByteArray) (ps : List PutM) (A : Option Addr) (c : Nat) (f : Int) (st : St) (w : World) (hk : key.size ≤ 9223372036854775807) (hin : PutsIn w w.heap.size A ps) (ho : PutsOk ps) (hx : ∀ p ∈ ps, -9223372036854775808 ≤ p.expect ∧ p.expect ≤ 9223372036854775807) (hf : -9223372036854775808 ≤ f ∧ f ≤ 9223372036854775807) (hT : Tabs w) :
    Calls Tryd.prog 4 #[.agg #[.string key, .slice A ps.length c], .int .i64 f, .agg #[.int .i64 st.wall, .int .i64 st.logic, .int .i64 st.node]] w fun e w' => e = .returned (.bool true) ∧ G w w' := by
  obtain ⟨sx, sy, sz⟩ := st
  simp only
  have hgn0 := (G.new w (.cells #[.string key, .slice A ps.length c] 25)).alloc (.cells #[.int .i64 sx, .int .i64 sy, .int .i64 sz] 35)
  have hba := batch_any 6000 key ps A c w.heap.size _ hgn0.size hk ho (hin.g (Nat.le_refl _) hgn0)
  obtain ⟨T, hTo⟩ : ∃ T, batchOf 6000 key ps = T := ⟨_, rfl⟩
  rw [hTo] at hba
  replace hTo := Lib.hid hTo
  by_cases h1 : T ≤ 6000
  case neg =>
    have t1 : decide (6000 < T) = true := decide_eq_true (by omega)
    have t1' : 6000 < T := by omega
    go_enter Tryd.func4, Tryd.ntmps4
    go_wp2_with fail
    refine hba.mono ?_
    rintro e w1 ⟨rfl, hg1⟩
    go_wp2_with (go_at_call 9; refine (awake9_any _).mono ?_; rintro e w5 ⟨rfl, hg5⟩)
    go_ret
    exact ⟨rfl, (hgn0.trans hg1).trans hg5⟩
  have t1 : ¬ 6000 < T := by omega
  have t1' : decide (6000 < T) = false := decide_eq_false t1
  obtain ⟨hks, hsm⟩ := bat_small_at (top := 6000) (by omega) (key := key) (ps := ps) (by rw [hTo.out]; exact h1) hx
  have hinn : ∀ w', G w w' → PutsIn w' w'.heap.size A ps := fun w' hg => PutsIn.more (hin.g (Nat.le_refl _) hg) hg.size
  have hch1 : ∀ w', G w w' → Calls Tryd.prog 11 #[.agg #[.string key, .slice A ps.length c]] w' fun e w'' => e = .returned (.int .i64 (chkN key (ps.map PutM.p))) ∧ G w' w'' := fun w' hg => check_any key ps A c w' (hinn w' hg) (by omega) hsm (hT.g hg)
  by_cases hc0 : chkN key (ps.map PutM.p) = 0
  case neg =>
    have t2 : (((chkN key (ps.map PutM.p) : Nat) : Int) != 0) = true := by rw [bne_iff_ne]; omega
    generalize chkN key (ps.map PutM.p) = cn at *
    replace hch1 := Lib.hid hch1
    replace hc0 := Lib.hid hc0
    clear hinn
    go_enter Tryd.func4, Tryd.ntmps4
    go_wp2_with fail
    refine hba.mono ?_
    rintro e w1 ⟨rfl, hg1⟩
    have hG1 := hgn0.trans hg1
    have hB := ((G.new _ _).trans hg1).blk (blk_new w #[.string key, .slice A ps.length c] 25)
    have g0 := (blk_cell hB 0).trans (show _ = some (.string key) from rfl)
    have g1 := (blk_cell hB 1).trans (show _ = some (.slice A ps.length c) from rfl)
    go_wp2_with fail
    refine (hch1.out _ hG1).mono ?_
    rintro e w2 ⟨rfl, hg2⟩
    have hG2 := hG1.trans hg2
    clear g0 g1
    go_wp2_with (go_at_call 9; refine (awake9_any _).mono ?_; rintro e w5 ⟨rfl, hg5⟩)
    go_ret
    exact ⟨rfl, hG2.trans hg5⟩
  have hsmall := chk_small hc0
  rw [hc0] at hch1
  replace hch1 := Lib.hid hch1
  have t2 : (((0 : Nat) : Int) != 0) = false := rfl
  by_cases h3 : 1 ≤ f
  case neg =>
    have t3 : decide (f < 1) = true := decide_eq_true (by omega)
    have t3' : f < 1 := by omega
    replace hc0 := Lib.hid hc0
    clear hinn hsmall h3
    go_enter Tryd.func4, Tryd.ntmps4
    go_wp2_with fail
    refine hba.mono ?_
    rintro e w1 ⟨rfl, hg1⟩
    have hG1 := hgn0.trans hg1
    have hB := ((G.new _ _).trans hg1).blk (blk_new w #[.string key, .slice A ps.length c] 25)
    have g0 := (blk_cell hB 0).trans (show _ = some (.string key) from rfl)
    have g1 := (blk_cell hB 1).trans (show _ = some (.slice A ps.length c) from rfl)
    go_wp2_with fail
    refine (hch1.out _ hG1).mono ?_
    rintro e w2 ⟨rfl, hg2⟩
    have hG2 := hG1.trans hg2
    clear g0 g1
    go_wp2_with (go_at_call 9; refine (awake9_any _).mono ?_; rintro e w5 ⟨rfl, hg5⟩)
    go_ret
    exact ⟨rfl, hG2.trans hg5⟩
  have t3 : decide (f < 1) = false := decide_eq_false (by omega)
  by_cases h4 : f ≤ 1073741824
  case neg =>
    have t4 : decide (1073741824 < f) = true := decide_eq_true (by omega)
    have t4' : 1073741824 < f := by omega
    replace hc0 := Lib.hid hc0
    clear hinn hsmall h4
    go_enter Tryd.func4, Tryd.ntmps4
    go_wp2_with fail
    refine hba.mono ?_
    rintro e w1 ⟨rfl, hg1⟩
    have hG1 := hgn0.trans hg1
    have hB := ((G.new _ _).trans hg1).blk (blk_new w #[.string key, .slice A ps.length c] 25)
    have g0 := (blk_cell hB 0).trans (show _ = some (.string key) from rfl)
    have g1 := (blk_cell hB 1).trans (show _ = some (.slice A ps.length c) from rfl)
    go_wp2_with fail
    refine (hch1.out _ hG1).mono ?_
    rintro e w2 ⟨rfl, hg2⟩
    have hG2 := hG1.trans hg2
    clear g0 g1
    go_wp2_with (go_at_call 9; refine (awake9_any _).mono ?_; rintro e w5 ⟨rfl, hg5⟩)
    go_ret
    exact ⟨rfl, hG2.trans hg5⟩
  have t4 : decide (1073741824 < f) = false := decide_eq_false (by omega)
  obtain ⟨hl8, hd20⟩ := hsmall
  rw [List.length_map] at hl8
  have hd20 : ∀ p ∈ ps, p.data.length ≤ 20 := fun p hp => (hd20 p.p (List.mem_map.2 ⟨p, hp, rfl⟩)).1
  have hcnt := evCount_le ps hd20
  have hnq := @ev_neq
  replace hc0 := Lib.hid hc0
  replace hinn := Lib.hid hinn
  replace hd20 := Lib.hid hd20
  replace hnq := Lib.hid hnq
  go_enter Tryd.func4, Tryd.ntmps4
  go_wp2_with fail
  refine hba.mono ?_
  rintro e w1 ⟨rfl, hg1⟩
  have hG1 := hgn0.trans hg1
  have hB := ((G.new _ _).trans hg1).blk (blk_new w #[.string key, .slice A ps.length c] 25)
  have hS := hg1.blk (blk_new' (w.alloc (.cells #[.string key, .slice A ps.length c] 25)) #[.int .i64 sx, .int .i64 sy, .int .i64 sz] 35 (w.heap.size + 1) (by simp))
  have g0 := (blk_cell hB 0).trans (show _ = some (.string key) from rfl)
  have g1 := (blk_cell hB 1).trans (show _ = some (.slice A ps.length c) from rfl)
  go_wp2_with fail
  refine (hch1.out _ hG1).mono ?_
  rintro e w2 ⟨rfl, hg2⟩
  have hG2 := hG1.trans hg2
  replace hB := hg2.blk hB
  replace hS := hg2.blk hS
  clear g0 g1 hba hch1
  have x0 : ∀ w', G w2 w' → w'.cell? ⟨w.heap.size, 0, none⟩ = some (.string key) := fun w' h => (blk_cell (h.blk hB) 0).trans rfl
  have x1 : ∀ w', G w2 w' → w'.cell? ⟨w.heap.size, 1, none⟩ = some (.slice A ps.length c) := fun w' h => (blk_cell (h.blk hB) 1).trans rfl
  have s0 : ∀ w', G w2 w' → w'.cell? ⟨w.heap.size + 1, 0, none⟩ = some (.int .i64 sx) := fun w' h => (blk_cell (h.blk hS) 0).trans rfl
  have s1 : ∀ w', G w2 w' → w'.cell? ⟨w.heap.size + 1, 1, none⟩ = some (.int .i64 sy) := fun w' h => (blk_cell (h.blk hS) 1).trans rfl
  have s2 : ∀ w', G w2 w' → w'.cell? ⟨w.heap.size + 1, 2, none⟩ = some (.int .i64 sz) := fun w' h => (blk_cell (h.blk hS) 2).trans rfl
  clear hB hS
  go_wp2_with fail
  go_loopw [7, 8] (fun v i wr => ∃ (k : Nat) (A7 : Option Addr) (c7 : Nat), v = .slice A7 (fsOf f k).length c7 ∧ i = .int .i64 k ∧ k ≤ ps.length ∧ Hid (OwnL 3 1 intC wr w2.heap.size (.slice A7 (fsOf f k).length c7) (fsOf f k)) ∧ G w2 wr) (fun _ i _ => ps.length - (intOf i).toNat)
  case atStart => exact ⟨0, none, 0, rfl, rfl, Nat.zero_le _, OwnL.nil, G.refl _⟩
  case round =>
    obtain ⟨wo, rfl⟩ : ∃ wo : World, wo = wr := ⟨_, rfl⟩
    obtain ⟨k, A7, c7, rfl, rfl, hkl, hown, hgr⟩ := hrel
    have g1 := x1 _ hgr
    have hz := hgr.size
    by_cases hlt : k < ps.length
    · have hw1 : IntKind.i64.wrap (10 * (k : Int)) = 10 * (k : Int) := IntWalk.i64_in _ (by omega)
      have hw2 : IntKind.i64.wrap (f + 10 * (k : Int)) = f + 10 * (k : Int) := IntWalk.i64_in _ (by omega)
      have hfl := fsOf_len f k
      have hfs : fsOf f k ++ [f + 10 * (k : Int)] = fsOf f (k + 1) := (fsOf_succ f k).symm
      generalize fsOf f k = fk at *
      generalize hfk1 : fsOf f (k + 1) = fk1 at *
      replace hfk1 := Lib.hid hfk1
      replace hfs := Lib.hid hfs
      go_wp2_with (at_builtin; refine wpList_append_but int_elem _ rfl (.tmp 37) (.tmp 42) rfl w2.heap.size _ fk rfl (hown.out.g (G.new _ _)) (wo.heap.size + 1) (some ⟨wo.heap.size, 0, none⟩) 1 [f + 10 * (k : Int)] rfl (by intro h; cases h) (Sl.of_blk intC_len _ (blk_new _ _ _) rfl (by omega)) (by simp; omega) (by simp; omega) (by simp; omega) ?_; intro v6 w6 hown6 hk6 hbut; rw [hfs.out] at hown6; obtain ⟨A6, c6, e6, _, _, _⟩ := OwnL.sl intC_len hown6; subst e6; clear hbut; replace hown6 := Lib.hid hown6; have hg6 := KeepT.g hk6 (hgr.trans (G.new _ _)))
      go_roundw
      case rel => exact ⟨k + 1, A6, c6, by rw [hfk1.out], by go_num, by omega, by rw [hfk1.out]; exact hown6, hg6⟩
      case measure => (simp [intOf] <;> omega)
    · obtain rfl : k = ps.length := by omega
      have hgg := hG2.trans hgr
      have hmk := make_any key ps A A7 c c7 wo.heap.size (fsOf f ps.length) ⟨sx, sy, sz⟩ 0 wo (Nat.le_refl _) (by omega) (by rw [fsOf_len]; omega) (by omega) (fun q hq => by
        unfold fsOf at hq
        obtain ⟨i, hi, rfl⟩ := List.mem_map.1 hq
        have := List.mem_range.1 hi
        omega) (by omega) (hinn.out _ hgg) (OwnL.self intC_len hown.out)
      have hat := RunsAt.start f ps.length ⟨sx, sy, sz⟩ ps
      obtain ⟨es, hes⟩ : ∃ es, makeFrom (fsOf f ps.length) ⟨sx, sy, sz⟩ 0 0 ps = es := ⟨_, rfl⟩
      rw [hes] at hmk hat
      generalize hfsn : fsOf f ps.length = fs at *
      replace hat := Lib.hid hat
      replace hes := Lib.hid hes
      replace hfsn := Lib.hid hfsn
      have g0 := x0 _ hgr
      have u0 := s0 _ hgr
      have u1 := s1 _ hgr
      have u2 := s2 _ hgr
      clear hown
      go_wp2_with fail
      refine hmk.mono ?_
      clear hmk
      rintro e w3 ⟨v3, rfl, hown3, hg3⟩
      obtain ⟨A3, c3, rfl, hsl3⟩ := Own.sl hown3
      have hgr3 := hgr.trans hg3
      replace hsl3 := Lib.hid hsl3
      clear hown3 g0 g1 u0 u1 u2 hgg
      go_wp2_with fail
      go_loopw [10, 11] (fun t i wr => ∃ (i' k : Nat), t = .int .i64 k ∧ i = .int .i64 i' ∧ i' ≤ ps.length ∧ k ≤ i' * 20 ∧ Hid (RunsAt es f ps.length ⟨sx, sy, sz⟩ i' k ps) ∧ G w3 wr) (fun _ i _ => ps.length - (intOf i).toNat)
      case atStart => exact ⟨0, 0, rfl, rfl, Nat.zero_le _, by omega, hat, G.refl _⟩
      case round =>
        obtain ⟨wp, rfl⟩ : ∃ wp : World, wp = wr := ⟨_, rfl⟩
        clear hat
        obtain ⟨i, k, rfl, rfl, hil, hk20, hat, hgp⟩ := hrel
        have hg2p := hgr3.trans hgp
        have g1 := x1 _ hg2p
        by_cases hlt2 : i < ps.length
        · obtain ⟨p, hp⟩ : ∃ p, ps[i]? = some p := ⟨_, List.getElem?_eq_getElem hlt2⟩
          have hpm := List.mem_of_getElem? hp
          have hpd := hd20.out p hpm
          have hnext := hat.out.step hp
          have hget := fun j d => hat.out.get (j := j) (d := d) hlt2 hp
          obtain ⟨pst, pex, pA, pc, pd⟩ := p
          simp only at hpd hnext hget
          replace hp := Lib.hid hp
          replace hnext := Lib.hid hnext
          replace hget := Lib.hid hget
          have n1 : (0 : Int) ≤ (i : Int) := by omega
          have n2 : (i : Int) < (ps.length : Int) := by omega
          clear g1 hat
          go_wp2_with fail
          go_loopw [10, 12] (fun t j wr => ∃ (j' q : Nat), t = .int .i64 q ∧ j = .int .i64 j' ∧ j' ≤ pd.length ∧ Hid (q = k + j') ∧ G w3 wr) (fun _ j _ => pd.length - (intOf j).toNat)
          case atStart => exact ⟨0, k, rfl, rfl, Nat.zero_le _, rfl, hgp⟩
          case round =>
            clear hgp hg2p
            obtain ⟨j, q, rfl, rfl, hjl, hq, hgq⟩ := hrel
            have hqb : q ≤ i * 20 + 20 := by have := hq.out; omega
            have hg2q := hgr3.trans hgq
            have hgwq := hG2.trans hg2q
            have g1 := x1 _ hg2q
            have u0 := s0 _ hg2q
            have u1 := s1 _ hg2q
            have u2 := s2 _ hg2q
            obtain ⟨b, o, rfl, hb, hc⟩ := (hinn.out _ hgwq).1.get hp.out
            have d0 := hc 0 _ rfl
            have d2 := hc 2 _ rfl
            simp only [Nat.add_zero] at d0
            clear hc
            by_cases hjt : j < pd.length
            · obtain ⟨s, hs⟩ : ∃ s, pd[j]? = some s := ⟨_, List.getElem?_eq_getElem hjt⟩
              have hev := hget.out j s hs
              rw [← hq.out] at hev
              have hkl2 := (List.getElem?_eq_some_iff.1 hev).1
              obtain ⟨b3, o3, rfl, _, e0⟩ := ((hinn.out _ hgwq).2 _ (List.mem_of_getElem? hp.out)).str hs
              obtain ⟨b4, o4, rfl, _, f0, f1, f2, f3, f4, f5, f6⟩ := (hsl3.out.g (Nat.le_refl _) hgq).ev hev
              have m1 : (0 : Int) ≤ (j : Int) := by omega
              have m2 : (j : Int) < (pd.length : Int) := by omega
              have m3 : (0 : Int) ≤ (q : Int) := by omega
              have m4 : (q : Int) < (es.length : Int) := by omega
              have t5 : decide ((es.length : Int) ≤ (q : Int)) = false := decide_eq_false (by omega)
              have hw1 : IntKind.i64.wrap (10 * (i : Int)) = 10 * (i : Int) := IntWalk.i64_in _ (by omega)
              have hw2 : IntKind.i64.wrap (f + 10 * (i : Int)) = f + 10 * (i : Int) := IntWalk.i64_in _ (by omega)
              have hw3 : IntKind.i64.wrap (f + 10 * (i : Int) + (j : Int)) = f + 10 * (i : Int) + (j : Int) := IntWalk.i64_in _ (by omega)
              have hnq := hnq.out
              have hev2 : evB ⟨pst, f + 10 * (i : Int) + (j : Int), s, ⟨sx, sy, sz⟩, (q : Int)⟩ ⟨pst, f + 10 * (i : Int) + (j : Int), s, ⟨sx, sy, sz⟩, (q : Int)⟩ = true := by simp [evB]
              clear hs hev
              go_upto_region 16 with fail
              go_quiet (fail)
              clear hnq
              go_wp2_with fail
              go_roundw
              case rel => exact ⟨j + 1, q + 1, by go_num, by go_num, by omega, Lib.hid (by have := hq.out; omega), by first | exact hgq | exact hgq.drew | exact hgq.drewN _⟩
              case measure => (simp [intOf] <;> omega)
            · obtain rfl : j = pd.length := by omega
              go_wp2_with fail
              go_roundw
              case rel => exact ⟨i + 1, q, rfl, by go_num, by omega, by omega, by rw [hq.out]; exact hnext, hgq⟩
              case measure => (simp [intOf] <;> omega)
        · have hend := hat.out.end (by omega)
          have t6 : ((k : Int) == (es.length : Int)) = true := by rw [hend]; simp
          have t7 : (k : Int) = (es.length : Int) := by omega
          clear hat
          go_wp2_with (go_at_call 9; refine (awake9_any _).mono ?_; rintro e w5 ⟨rfl, hg5⟩)
          go_ret
          exact ⟨rfl, (hG2.trans hg2p).trans hg5⟩
end Go.Proofs.YtilfgafdkiaaaaaDoor

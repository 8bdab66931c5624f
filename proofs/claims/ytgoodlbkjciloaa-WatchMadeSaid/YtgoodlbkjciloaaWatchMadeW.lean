/- penstocklaw29.WatchMade: the walk. Conditions: lengths fit an int. -/
import Derived.Test.YtgoodlbkjciloaaHas
import Derived.Test.YtgoodlbkjciloaaRefMake
import Derived.Test.YtgoodlbkjciloaaAwake29
import Derived.Test.YtgoodlbkjciloaaOwnBut
import Derived.Test.YtgoodlbkjciloaaBulkGe
import Derived.Test.YtgoodlbkjciloaaPrefix
namespace Go.Proofs.Ytgoodlbkjciloaa
open Go.RowKit

/-- The events ahead. -/
def preL (a : Int) (n : Nat) : List Ev := (List.range n).map fun i : Nat => ⟨⟨#[111, 116, 104, 101, 114]⟩, (i : Int) + 1, ⟨#[]⟩, ⟨a - 1, 0, 0⟩, 0⟩
theorem preL_len (a : Int) (n : Nat) : (preL a n).length = n := by simp [preL]
theorem preL_succ (a : Int) (n : Nat) : preL a n ++ [⟨⟨#[111, 116, 104, 101, 114]⟩, (n : Int) + 1, ⟨#[]⟩, ⟨a - 1, 0, 0⟩, 0⟩] = preL a (n + 1) := by
  unfold preL
  rw [List.range_succ, List.map_append]
  rfl
theorem preL_st {a : Int} {n : Nat} {e : Ev} (h : e ∈ preL a n) : e.st = ⟨a - 1, 0, 0⟩ := by
  unfold preL at h
  obtain ⟨i, _, rfl⟩ := List.mem_map.1 h
  rfl
theorem Sl.first {α : Type} {f : α → List Value} {sz : Nat} {w : World} {B : Nat} {A : Option Addr} {xs : List α} (h : Sl f sz w B A xs) (k : Nat) : Sl f sz w B A (xs.take k) := fun hn => by
  obtain ⟨b, o, e, hb, hc⟩ := h (by rintro rfl; simp at hn)
  refine ⟨b, o, e, hb, fun i x hx => hc i x ?_⟩
  have hi : i < k := by
    have := (List.getElem?_eq_some_iff.1 hx).1
    rw [List.length_take] at this
    omega
  rwa [List.getElem?_take_of_lt hi] at hx
theorem evs_front {w0 : World} {B : Nat} {A : Option Addr} {l : List Ev} (hs : Sl Ev.cells 7 w0 B A l) (hl : l ≠ []) (n c k : Nat) (hk : k ≤ c) (w : World) : (Instr.sliceAt 33 (.slice A n c) none (some (.int .i64 k)) none).run Try.prog w = .ok (.slice A k c) w := by
  have ht : Try.prog.underlying 33 = some (.slice (Try.prog.elem 33)) := by kernel_rfl
  have hsz : ∀ w, (Go.sizeOf (Try.prog.elem 33)).run Try.prog w = .ok 7 w := fun w => by kernel_rfl
  obtain ⟨b, o, rfl, _⟩ := hs hl
  rw [run_sliceAt_slice _ _ _ _ _ _ ht, run_slice_h w 33 _ _ c ht .i64 k (by omega) (by omega), hsz]
  simp [Result.andThen, sliced, Addr.add_lit]
theorem putsMore {w : World} {B B' : Nat} {A : Option Addr} {ps : List PutM} (h : PutsIn w B A ps) (hB : B ≤ B') : PutsIn w B' A ps := ⟨h.1.more hB, fun p hp => (h.2 p hp).more hB⟩
set_option maxRecDepth 100000 in
set_option maxHeartbeats 8000000 in
theorem watchMade_walk (key : ByteArray) (ps : List PutM) (A Af : Option Addr) (c cf : Nat) (fs : List Int) (at' ah : Int) (w : World) (hk : key.size ≤ 9223372036854775807) (ho : PutsOk ps) (hin : PutsIn w w.heap.size A ps) (hfi : Sl intC 1 w w.heap.size Af fs) (hfl : fs.length ≤ 9223372036854775807)
    (hf64 : ∀ f ∈ fs, -9223372036854775808 ≤ f ∧ f ≤ 9223372036854775807) (hat : -9223372036854775808 ≤ at' ∧ at' ≤ 9223372036854775807) (hah : -9223372036854775808 ≤ ah ∧ ah ≤ 9223372036854775807) :
    Calls Try.prog 3 #[.agg #[.string key, .slice A ps.length c], .slice Af fs.length cf, .int .i64 at', .int .i64 ah] w fun e w' => e = .returned (.bool true) ∧ G w w' := by
  go_enter Try.func3, Try.ntmps3
  go_upto_region 1 with fail
  generalize hW0 : w.alloc (.cells #[.string key, .slice A ps.length c] 24) = W0
  have hz : w.heap.size + 0 < W0.heap.size := by rw [← hW0]; simp
  have hG0 : G w W0 := by rw [← hW0]; exact G.new _ _
  have r0 : W0.cell? ⟨w.heap.size, 0, none⟩ = some (.string key) := by rw [← hW0]; simp
  have r1 : W0.cell? ⟨w.heap.size, 1, none⟩ = some (.slice A ps.length c) := by rw [← hW0]; simp
  clear hW0
  have q0 : ∀ w', G W0 w' → w'.cell? ⟨w.heap.size, 0, none⟩ = some (.string key) := fun w' h => (h.cell (by omega)).trans r0
  have q1 : ∀ w', G W0 w' → w'.cell? ⟨w.heap.size, 1, none⟩ = some (.slice A ps.length c) := fun w' h => (h.cell (by omega)).trans r1
  clear r0 r1
  have hba := batch_any 3000 key ps A c w.heap.size W0 hG0.size hk ho (hin.g (Nat.le_refl _) hG0)
  obtain ⟨T, hTo⟩ : ∃ T, batchOf 3000 key ps = T := ⟨_, rfl⟩
  rw [hTo] at hba
  replace hTo := Lib.hid hTo
  have g0 := q0 _ (G.refl W0)
  have g1 := q1 _ (G.refl W0)
  by_cases h1 : T ≤ 3000
  case neg =>
    have t1 : decide (3000 < T) = true := decide_eq_true (by omega)
    have t1' : 3000 < T := by omega
    go_wp2_with fail
    refine hba.mono ?_
    rintro e w1 ⟨rfl, hg1⟩
    have g1 := q1 _ hg1
    go_wp2_with (go_at_call 6; refine (awake29_any _).mono ?_; rintro e w9 ⟨rfl, hg9⟩)
    go_ret
    exact ⟨rfl, (hG0.trans hg1).trans hg9⟩
  have t1 : ¬ 3000 < T := by omega
  have t1' : decide (3000 < T) = false := decide_eq_false t1
  by_cases h2 : fs.length = ps.length
  case neg =>
    have t2 : ((fs.length : Int) != (ps.length : Int)) = true := by rw [bne_iff_ne]; omega
    go_wp2_with fail
    refine hba.mono ?_
    rintro e w1 ⟨rfl, hg1⟩
    have g1 := q1 _ hg1
    go_wp2_with (go_at_call 6; refine (awake29_any _).mono ?_; rintro e w9 ⟨rfl, hg9⟩)
    go_ret
    exact ⟨rfl, (hG0.trans hg1).trans hg9⟩
  have t2 : ((fs.length : Int) != (ps.length : Int)) = false := by rw [bne_eq_false_iff_eq]; omega
  replace h2 := Lib.hid h2
  by_cases h3 : 0 ≤ ah
  case neg =>
    have t3 : decide (ah < 0) = true := decide_eq_true (by omega)
    have t3' : ah < 0 := by omega
    clear h3
    go_wp2_with fail
    refine hba.mono ?_
    rintro e w1 ⟨rfl, hg1⟩
    have g1 := q1 _ hg1
    go_wp2_with (go_at_call 6; refine (awake29_any _).mono ?_; rintro e w9 ⟨rfl, hg9⟩)
    go_ret
    exact ⟨rfl, (hG0.trans hg1).trans hg9⟩
  have t3 : decide (ah < 0) = false := decide_eq_false (by omega)
  by_cases h4 : ah ≤ 20
  case neg =>
    have t4 : decide (20 < ah) = true := decide_eq_true (by omega)
    have t4' : 20 < ah := by omega
    clear h4
    go_wp2_with fail
    refine hba.mono ?_
    rintro e w1 ⟨rfl, hg1⟩
    have g1 := q1 _ hg1
    go_wp2_with (go_at_call 6; refine (awake29_any _).mono ?_; rintro e w9 ⟨rfl, hg9⟩)
    go_ret
    exact ⟨rfl, (hG0.trans hg1).trans hg9⟩
  have t4 : decide (20 < ah) = false := decide_eq_false (by omega)
  by_cases h5 : 1 ≤ at'
  case neg =>
    have t5 : decide (at' < 1) = true := decide_eq_true (by omega)
    have t5' : at' < 1 := by omega
    clear h5
    go_wp2_with fail
    refine hba.mono ?_
    rintro e w1 ⟨rfl, hg1⟩
    have g1 := q1 _ hg1
    go_wp2_with (go_at_call 6; refine (awake29_any _).mono ?_; rintro e w9 ⟨rfl, hg9⟩)
    go_ret
    exact ⟨rfl, (hG0.trans hg1).trans hg9⟩
  have t5 : decide (at' < 1) = false := decide_eq_false (by omega)
  by_cases h6 : at' ≤ 1099511627776
  case neg =>
    have t6 : decide (1099511627776 < at') = true := decide_eq_true (by omega)
    have t6' : 1099511627776 < at' := by omega
    clear h6
    go_wp2_with fail
    refine hba.mono ?_
    rintro e w1 ⟨rfl, hg1⟩
    have g1 := q1 _ hg1
    go_wp2_with (go_at_call 6; refine (awake29_any _).mono ?_; rintro e w9 ⟨rfl, hg9⟩)
    go_ret
    exact ⟨rfl, (hG0.trans hg1).trans hg9⟩
  have t6 : decide (1099511627776 < at') = false := decide_eq_false (by omega)
  by_cases h7 : ps.length = 0
  case pos =>
    have t7 : ((ps.length : Int) == 0) = true := by rw [h7]; rfl
    replace h7 := Lib.hid h7
    go_wp2_with fail
    refine hba.mono ?_
    rintro e w1 ⟨rfl, hg1⟩
    have g1 := q1 _ hg1
    go_wp2_with (go_at_call 6; refine (awake29_any _).mono ?_; rintro e w9 ⟨rfl, hg9⟩)
    go_ret
    exact ⟨rfl, (hG0.trans hg1).trans hg9⟩
  have t7 : ((ps.length : Int) == 0) = false := by rw [beq_eq_false_iff_ne]; omega
  obtain ⟨a, rfl⟩ : ∃ a : Nat, ah = a := ⟨ah.toNat, by omega⟩
  replace h7 := Lib.hid h7
  replace ho := Lib.hid ho
  replace hf64 := Lib.hid hf64
  go_wp2_with fail
  refine hba.mono ?_
  rintro e w1 ⟨rfl, hg1⟩
  have g1 := q1 _ hg1
  clear hba g0
  go_wp2_with fail
  clear t1 t1' t2 t3 t4 t5 t6 t7 g1
  go_loopw [9] (fun i wr => ∃ k : Nat, i = .int .i64 k ∧ k ≤ ps.length ∧ Hid (∀ (j : Nat) f, j < k → fs[j]? = some f → 1 ≤ f ∧ f ≤ 1099511627776) ∧ Hid (∀ p ∈ ps.take k, p.data ≠ []) ∧ Hid ((ps.take k).Pairwise fun p q => p.stream ≠ q.stream) ∧ G W0 wr) (fun i _ => ps.length - (intOf i).toNat)
  case atStart => exact ⟨0, rfl, Nat.zero_le _, fun j f h => absurd h (Nat.not_lt_zero _), (by simp [Hid]), (by simp [Hid]), hg1⟩
  case round =>
    obtain ⟨wo, rfl⟩ : ∃ wo : World, wo = wr := ⟨_, rfl⟩
    clear hg1
    obtain ⟨k, rfl, hkl, hall, hdat, hap, hgr⟩ := hrel
    have hg := hG0.trans hgr
    have g1 := q1 _ hgr
    by_cases hlt : k < ps.length
    · obtain ⟨p, hp⟩ : ∃ p, ps[k]? = some p := ⟨_, List.getElem?_eq_getElem hlt⟩
      obtain ⟨f, hf⟩ : ∃ f, fs[k]? = some f := ⟨_, List.getElem?_eq_getElem (by have := h2.out; omega)⟩
      have hklf : (k : Int) < (fs.length : Int) := by have := h2.out; omega
      have hf6 := hf64.out f (List.mem_of_getElem? hf)
      have hsl := (hin.g (Nat.le_refl _) hg).1.get hp
      obtain ⟨pst, pex, pA, pc, pd⟩ := p
      obtain ⟨b, o, rfl, hb, hc⟩ := hsl
      obtain ⟨b2, o2, rfl, hb2, cf2⟩ := (hfi.g (Nat.le_refl _) hg).int hf
      have c0 := hc 0 _ rfl
      have c2 := hc 2 _ rfl
      simp only [Nat.add_zero] at c0
      have n1 : (0 : Int) ≤ (k : Int) := by omega
      have n2 : (k : Int) < (ps.length : Int) := by omega
      clear hc
      by_cases hf1 : 1 ≤ f
      case neg =>
        have t1 : decide (f < 1) = true := decide_eq_true (by omega)
        have t1' : f < 1 := by omega
        replace hf := Lib.hid hf
        replace hp := Lib.hid hp
        go_wp2_with (go_at_call 6; refine (awake29_any _).mono ?_; rintro e w9 ⟨rfl, hg9⟩)
        go_ret
        exact ⟨rfl, hg.trans hg9⟩
      have t1 : decide (f < 1) = false := decide_eq_false (by omega)
      by_cases hf2 : f ≤ 1099511627776
      case neg =>
        have t2 : decide (1099511627776 < f) = true := decide_eq_true (by omega)
        have t2' : 1099511627776 < f := by omega
        replace hf := Lib.hid hf
        replace hp := Lib.hid hp
        go_wp2_with (go_at_call 6; refine (awake29_any _).mono ?_; rintro e w9 ⟨rfl, hg9⟩)
        go_ret
        exact ⟨rfl, hg.trans hg9⟩
      have t2 : decide (1099511627776 < f) = false := decide_eq_false (by omega)
      by_cases hd0 : pd = []
      case pos =>
        have t3 : ((pd.length : Int) == 0) = true := by rw [hd0]; rfl
        replace hd0 := Lib.hid hd0
        replace hf := Lib.hid hf
        replace hp := Lib.hid hp
        go_wp2_with (go_at_call 6; refine (awake29_any _).mono ?_; rintro e w9 ⟨rfl, hg9⟩)
        go_ret
        exact ⟨rfl, hg.trans hg9⟩
      have t3 : ((pd.length : Int) == 0) = false := by
        rw [beq_eq_false_iff_ne]
        have := List.length_pos_iff.2 hd0
        omega
      have hall2 : ∀ (j : Nat) f', j < k + 1 → fs[j]? = some f' → 1 ≤ f' ∧ f' ≤ 1099511627776 := fun j f' h1 h2 => by
        rcases Nat.lt_or_ge j k with h | h
        · exact hall.out j f' h h2
        · obtain rfl : j = k := by omega
          rw [hf] at h2
          cases h2
          exact ⟨hf1, hf2⟩
      have htk : ps.take (k + 1) = ps.take k ++ [⟨pst, pex, pA, pc, pd⟩] := by rw [List.take_add_one, hp]; rfl
      have hdat2 : ∀ p ∈ ps.take (k + 1), p.data ≠ [] := fun p hm => by
        rw [htk, List.mem_append, List.mem_singleton] at hm
        rcases hm with hm | rfl
        · exact hdat.out p hm
        · exact hd0
      replace hall2 := Lib.hid hall2
      replace hdat2 := Lib.hid hdat2
      replace htk := Lib.hid htk
      replace hf := Lib.hid hf
      replace hp := Lib.hid hp
      replace hd0 := Lib.hid hd0
      clear hall hdat
      go_wp2_with fail
      go_loopw [10] (fun i wr => ∃ j : Nat, i = .int .i64 j ∧ j ≤ k ∧ Hid (∀ (i : Nat) q, i < j → ps[i]? = some q → q.stream ≠ pst) ∧ G wo wr) (fun i _ => k - (intOf i).toNat)
      case atStart => exact ⟨0, rfl, Nat.zero_le _, fun i q h => absurd h (Nat.not_lt_zero _), G.refl _⟩
      case round =>
        obtain ⟨j, rfl, hjk, hne, hgw⟩ := hrel
        have hgt := hg.trans hgw
        have g1w := q1 _ (hgr.trans hgw)
        by_cases hjl : j < k
        · obtain ⟨q, hq⟩ : ∃ q, ps[j]? = some q := ⟨_, List.getElem?_eq_getElem (by omega)⟩
          obtain ⟨_, _, ee, hb3, hc3⟩ := (hin.g (Nat.le_refl _) hgt).1.get hq
          cases ee
          obtain ⟨_, _, ee, hb4, hc4⟩ := (hin.g (Nat.le_refl _) hgt).1.get hp.out
          cases ee
          obtain ⟨qst, qex, qA, qc, qd⟩ := q
          have e0 := hc3 0 _ rfl
          have f0 := hc4 0 _ rfl
          simp only [Nat.add_zero] at e0 f0
          have m1 : (0 : Int) ≤ (j : Int) := by omega
          have m2 : (j : Int) < (ps.length : Int) := by omega
          have m3 : (j : Int) < (k : Int) := by omega
          clear hc3 hc4
          by_cases hs : qst = pst
          · have t4 : (qst.toList == pst.toList) = true := by rw [bytes_beq]; exact decide_eq_true hs
            replace hq := Lib.hid hq
            replace hs := Lib.hid hs
            go_upto_region 11 with fail
            go_quiet (fail)
            have hgq : ∀ n, G w (wr.drewN n) := fun n => hgt.drewN n
            go_wp2_with (go_at_call 6; refine (awake29_any _).mono ?_; rintro e w9 ⟨rfl, hg9⟩)
            go_ret
            exact ⟨rfl, (hgq _).trans hg9⟩
          · have t4 : (qst.toList == pst.toList) = false := by rw [bytes_beq]; exact decide_eq_false hs
            have hne2 : ∀ (i : Nat) q, i < j + 1 → ps[i]? = some q → q.stream ≠ pst := fun i q h1 h3 => by
              rcases Nat.lt_or_ge i j with h | h
              · exact hne.out i q h h3
              · obtain rfl : i = j := by omega
                rw [hq] at h3
                cases h3
                exact hs
            replace hne2 := Lib.hid hne2
            replace hq := Lib.hid hq
            replace hs := Lib.hid hs
            clear hne
            go_upto_region 11 with fail
            go_quiet (fail)
            go_wp2_with fail
            go_roundw
            case rel => exact ⟨j + 1, by go_num, by omega, hne2, by first | exact hgw | exact hgw.drew | exact hgw.drewN _⟩
            case measure => (simp [intOf] <;> omega)
        · have hap2 : (ps.take (k + 1)).Pairwise fun p q => p.stream ≠ q.stream := by
            rw [htk.out, List.pairwise_append]
            refine ⟨hap.out, List.pairwise_singleton _ _, fun a ha b hb => ?_⟩
            rw [List.mem_singleton] at hb
            subst hb
            obtain ⟨i, hi, rfl⟩ := List.getElem_of_mem ha
            rw [List.length_take] at hi
            rw [List.getElem_take]
            exact hne.out i _ (by omega) (List.getElem?_eq_getElem (by omega))
          replace hap2 := Lib.hid hap2
          clear hne hap
          go_wp2_with fail
          go_roundw
          case rel => exact ⟨k + 1, by go_num, by omega, hall2, hdat2, hap2, hgr.trans hgw⟩
          case measure => (simp [intOf] <;> omega)
    · have htake : ps.take k = ps := List.take_of_length_le (by omega)
      have hapA := hap.out
      have hdatA := hdat.out
      rw [htake] at hapA hdatA
      have hfA : ∀ f ∈ fs, -1099511627776 ≤ f ∧ f ≤ 1099511627776 := fun f hf => by
        obtain ⟨j, hj, rfl⟩ := List.getElem_of_mem hf
        have := hall.out j _ (by have := h2.out; omega) (List.getElem?_eq_getElem hj)
        omega
      have hps0 : ps ≠ [] := by
        rintro rfl
        exact h7.out rfl
      have hcnt : evCount ps ≤ 1099511627776 := by
        have := batch_ge 3000 (by omega) key ps (by rw [hTo.out]; exact h1)
        omega
      have hc3 : evCount ps ≤ 3000 := by
        have := batch_ge 3000 (by omega) key ps (by rw [hTo.out]; exact h1)
        omega
      have hpl9 : ps.length ≤ 9223372036854775807 := ho.out.1
      have hst9 : ∀ p ∈ ps, p.stream.size ≤ 9223372036854775807 := fun p hp => (ho.out.2 p hp).1
      have hm0 := makeFrom_pos (firsts := fs) (st := ⟨at', 0, 1⟩) (i := 0) (ix := 0) hps0 hdatA
      have hm0' := makeFrom_pos (firsts := fs) (st := ⟨at', 0, 2⟩) (i := 0) (ix := 0) hps0 hdatA
      have hmap := makeFrom_apart (firsts := fs) (st := ⟨at', 0, 1⟩) (i := 0) (ix := 0) (by have := h2.out; omega) hapA
      have hmst : ∀ e ∈ makeFrom fs ⟨at', 0, 1⟩ 0 0 ps, e.st = ⟨at', 0, 1⟩ := fun e he => (makeFrom_mem he).2
      have hmst' : ∀ e ∈ makeFrom fs ⟨at', 0, 2⟩ 0 0 ps, e.st = ⟨at', 0, 2⟩ := fun e he => (makeFrom_mem he).2
      have hpr1 : ∀ e ∈ preL at' a, e.st ≠ ⟨at', 0, 1⟩ := fun e he h => by rw [preL_st he] at h; injection h with _ _ h3; omega
      have hpr2 : ∀ e ∈ preL at' a, e.st ≠ ⟨at', 0, 2⟩ := fun e he h => by rw [preL_st he] at h; injection h with _ _ h3; omega
      have f1 := has_made hmap hmst hpr1
      have f2 := has_pre hm0 hmst hpr1
      have f3 := has_less hm0 hmap hmst hpr1
      have f4 := has_other (pre := preL at' a) (m := makeFrom fs ⟨at', 0, 1⟩ 0 0 ps) (m' := makeFrom fs ⟨at', 0, 2⟩ 0 0 ps) (st := ⟨at', 0, 1⟩) (st' := ⟨at', 0, 2⟩) hm0' (by intro h; injection h with _ _ h3; omega) hmst hmst' hpr2
      have hmlen := makeFrom_len fs ⟨at', 0, 1⟩ ps 0 0
      have hmk := refMake_any key ps A Af c cf w.heap.size fs ⟨at', 0, 1⟩ 0
      have hha := fun (es : List Ev) (A4 : Option Addr) (c4 : Nat) (n : Int) (w' : World) (h : G w w') (hs : Sl Ev.cells 7 w' w'.heap.size A4 es) (hl : es.length ≤ 1099511627776) => has_any es A4 c4 key ps A Af c cf fs at' 0 n 0 0 0 0 0 0 ⟨#[]⟩ (.slice none 0 0) (.slice none 0 0) w' hs hl hpl9 hfl hcnt hst9 hfA (putsMore (hin.g (Nat.le_refl _) h) h.size) ((hfi.g (Nat.le_refl _) h).more h.size)
      have hh1 := fun es A4 c4 => hha es A4 c4 1
      have hh2 := fun es A4 c4 => hha es A4 c4 2
      clear hha
      generalize makeFrom fs ⟨at', 0, 1⟩ 0 0 ps = m at *
      generalize makeFrom fs ⟨at', 0, 2⟩ 0 0 ps = m' at *
      have hne : preL at' a ++ m ≠ [] := by simp [hm0]
      replace f1 := Lib.hid f1
      replace f2 := Lib.hid f2
      replace f3 := Lib.hid f3
      replace f4 := Lib.hid f4
      replace hh1 := Lib.hid hh1
      replace hh2 := Lib.hid hh2
      replace hmk := Lib.hid hmk
      replace hne := Lib.hid hne
      replace hm0 := Lib.hid hm0
      replace hmlen := Lib.hid hmlen
      have hklf : ¬ (k : Int) < (fs.length : Int) := by have := h2.out; omega
      clear hap hdat hall hapA hdatA hmap hmst hmst' hpr1 hpr2 hm0' htake hst9
      go_wp2_with fail
      clear g1
      have hS := blk_new wo #[.int .i64 at', .int .i64 0, .int .i64 1] 32
      have hgs := G.new wo (.cells #[.int .i64 at', .int .i64 0, .int .i64 1] 32)
      generalize wo.alloc (.cells #[.int .i64 at', .int .i64 0, .int .i64 1] 32) = ws at *
      generalize hX : wo.heap.size = X at *
      replace hX := Lib.hid hX
      have hgws := hgr.trans hgs
      go_loopw [12, 13] (fun v i wr => ∃ (n : Nat) (A5 : Option Addr) (c5 : Nat), v = .slice A5 (preL at' n).length c5 ∧ i = .int .i64 n ∧ n ≤ a ∧ Hid (OwnL 35 7 Ev.cells wr ws.heap.size (.slice A5 (preL at' n).length c5) (preL at' n)) ∧ G ws wr) (fun _ i _ => a - (intOf i).toNat)
      case atStart => exact ⟨0, none, 0, rfl, rfl, Nat.zero_le _, OwnL.nil, G.refl _⟩
      case round =>
        obtain ⟨wp, rfl⟩ : ∃ wp : World, wp = wr := ⟨_, rfl⟩
        obtain ⟨n, A5, c5, rfl, rfl, hna, hown, hgp⟩ := hrel
        have hz := hgp.size
        by_cases hnl : n < a
        · have hnl' : (n : Int) < (a : Int) := by omega
          have hfl5 := preL_len at' n
          have hfs := preL_succ at' n
          generalize preL at' n = pn at *
          generalize hfk1 : preL at' (n + 1) = pn1 at *
          replace hfk1 := Lib.hid hfk1
          replace hfs := Lib.hid hfs
          replace hfl5 := Lib.hid hfl5
          go_wp2_with (at_builtin; refine wpList_append_but ev_elem _ rfl (.tmp 105) (.tmp 112) rfl ws.heap.size _ pn rfl (hown.out.g (G.new _ _)) (wp.heap.size + 1) (some ⟨wp.heap.size, 0, none⟩) 1 [⟨⟨#[111, 116, 104, 101, 114]⟩, (n : Int) + 1, ⟨#[]⟩, ⟨at' - 1, 0, 0⟩, 0⟩] rfl (by intro h; cases h) (Sl.of_blk Ev.cells_len _ (blk_new _ _ _) rfl (by omega)) (by have := hfl5.out; simp; omega) (by have := hfl5.out; simp; omega) (by simp; omega) ?_; intro v6 w6 hown6 hk6 hbut; rw [hfs.out] at hown6; obtain ⟨A6, c6, e6, _, _, _⟩ := OwnL.sl Ev.cells_len hown6; subst e6; clear hbut; replace hown6 := Lib.hid hown6; have hg6 := KeepT.g hk6 (hgp.trans (G.new _ _)))
          go_roundw
          case rel => exact ⟨n + 1, A6, c6, by rw [hfk1.out], by go_num, by omega, by rw [hfk1.out]; exact hown6, hg6⟩
          case measure => (simp [intOf] <;> omega)
        · obtain rfl : n = a := by omega
          have hgt := hgws.trans hgp
          have hgg := hG0.trans hgt
          have hcl := hmk.out wp hgg.size hpl9 hfl hcnt hfA (by omega) (hin.g (Nat.le_refl _) hgg) (hfi.g (Nat.le_refl _) hgg)
          have g0 := q0 _ hgt
          have g1 := q1 _ hgt
          have hS2 := hgp.blk hS
          have s0 := (blk_cell hS2 0).trans (show _ = some (.int .i64 at') from rfl)
          have s1 := (blk_cell hS2 1).trans (show _ = some (.int .i64 0) from rfl)
          have s2 := (blk_cell hS2 2).trans (show _ = some (.int .i64 1) from rfl)
          have hpl5 := preL_len at' n
          have hmle := hmlen.out
          obtain ⟨L, hL⟩ : ∃ L, preL at' n ++ m = L := ⟨_, rfl⟩
          have hLl : L.length = n + m.length := by rw [← hL, List.length_append, hpl5]
          rw [hL] at f1 f3 f4 hne
          replace hL := Lib.hid hL
          replace hLl := Lib.hid hLl
          replace hpl5 := Lib.hid hpl5
          replace hmle := Lib.hid hmle
          replace hS := Lib.hid hS
          clear hS2
          go_wp2_with fail
          refine hcl.mono ?_
          clear hcl
          rintro e w3 ⟨v3, rfl, hown3, hg3⟩
          obtain ⟨A3, c3, rfl, hsl3⟩ := Own.sl hown3
          have hA3 : A3 = none → m = [] := fun h => (h ▸ hsl3).of_none
          have hz3 := (hgp.trans hg3).size
          have hown2 := Lib.hid (hown.out.g hg3)
          clear hown hown3 g0 g1 s0 s1 s2
          go_wp2_with (at_builtin; refine wpList_append_but ev_elem _ rfl (.tmp 118) (.tmp 119) rfl ws.heap.size _ (preL at' n) rfl hown2.out w3.heap.size A3 c3 m rfl hA3 hsl3 (by have := hpl5.out; have := hmle.out; omega) (by have := hpl5.out; have := hmle.out; omega) hz3 ?_; intro v6 w6 hown6 hk6 hbut; rw [hL.out] at hown6; obtain ⟨A6, c6, e6, hc6, _, hsl6⟩ := OwnL.sl Ev.cells_len hown6; subst e6; have hg6 := KeepT.g hk6 (hgp.trans hg3); clear hbut hown6; have hS6 := hg6.blk hS.out; have s0 := (blk_cell hS6 0).trans (show _ = some (.int .i64 at') from rfl); have s1 := (blk_cell hS6 1).trans (show _ = some (.int .i64 0) from rfl); have s2 := (blk_cell hS6 2).trans (show _ = some (.int .i64 1) from rfl))
          have hgn := G.new w6 (.cells #[.int .i64 0, .int .i64 at', .int .i64 0, .int .i64 1, .slice Af fs.length cf, .slice none 0 0, .int .i64 0, .int .i64 0, .int .i64 0, .int .i64 0, .string ⟨#[]⟩, .slice none 0 0, .int .i64 0] 42)
          have hR := blk_new w6 #[.int .i64 0, .int .i64 at', .int .i64 0, .int .i64 1, .slice Af fs.length cf, .slice none 0 0, .int .i64 0, .int .i64 0, .int .i64 0, .int .i64 0, .string ⟨#[]⟩, .slice none 0 0, .int .i64 0] 42
          have hG6 := hgws.trans hg6
          have hG7 := hG6.trans hgn
          have hsl7 := (hsl6.g (Nat.le_refl _) hgn).more hgn.size
          have hS7 := hgn.blk (hg6.blk hS.out)
          generalize w6.alloc (.cells #[.int .i64 0, .int .i64 at', .int .i64 0, .int .i64 1, .slice Af fs.length cf, .slice none 0 0, .int .i64 0, .int .i64 0, .int .i64 0, .int .i64 0, .string ⟨#[]⟩, .slice none 0 0, .int .i64 0] 42) = W7 at *
          generalize w6.heap.size = Y at *
          have hLp : 0 < L.length := List.length_pos_iff.2 hne.out
          have hLn := hLl.out
          have hLe : L.length ≤ 1099511627776 := by have := hmle.out; omega
          obtain ⟨q, hq⟩ : ∃ q, L.length - 1 = q := ⟨_, rfl⟩
          have hwq : IntKind.i64.wrap ((L.length : Int) - 1) = (q : Int) := by rw [IntWalk.i64_in _ (by omega)]; omega
          have e2 := evs_front hsl6 hne.out L.length c6 n (by omega)
          have e3 := evs_front hsl6 hne.out L.length c6 q (by omega)
          have htk2 : L.take n = preL at' n := by rw [← hL.out]; exact List.take_left' hpl5.out
          have hl2 : (L.take n).length = n := by rw [List.length_take]; omega
          have hl3 : (L.take q).length = q := by rw [List.length_take]; omega
          have hw7 : ∀ w', G W7 w' → G w w' := fun w' h => hG0.trans (hG7.trans h)
          have hsw : ∀ w', G W7 w' → Sl Ev.cells 7 w' w'.heap.size A6 L := fun w' h => (hsl7.g (Nat.le_refl _) h).more h.size
          have k1 : ∀ w', G W7 w' → Calls Try.prog 8 #[.slice A6 L.length c6, .agg #[.string key, .slice A ps.length c], .agg #[.int .i64 0, .int .i64 at', .int .i64 0, .int .i64 1, .slice Af fs.length cf, .slice none 0 0, .int .i64 0, .int .i64 0, .int .i64 0, .int .i64 0, .string ⟨#[]⟩, .slice none 0 0, .int .i64 0]] w' fun e w'' => e = .returned (.bool true) ∧ G w' w'' := fun w' h => by
            have := hh1.out L A6 c6 w' (hw7 w' h) (hsw w' h) hLe
            rwa [f1.out] at this
          have k2 : ∀ w', G W7 w' → Calls Try.prog 8 #[.slice A6 n c6, .agg #[.string key, .slice A ps.length c], .agg #[.int .i64 0, .int .i64 at', .int .i64 0, .int .i64 1, .slice Af fs.length cf, .slice none 0 0, .int .i64 0, .int .i64 0, .int .i64 0, .int .i64 0, .string ⟨#[]⟩, .slice none 0 0, .int .i64 0]] w' fun e w'' => e = .returned (.bool false) ∧ G w' w'' := fun w' h => by
            have := hh1.out (L.take n) A6 c6 w' (hw7 w' h) ((hsw w' h).first n) (by omega)
            rwa [hl2, htk2, f2.out] at this
          have k3 : ∀ w', G W7 w' → Calls Try.prog 8 #[.slice A6 q c6, .agg #[.string key, .slice A ps.length c], .agg #[.int .i64 0, .int .i64 at', .int .i64 0, .int .i64 1, .slice Af fs.length cf, .slice none 0 0, .int .i64 0, .int .i64 0, .int .i64 0, .int .i64 0, .string ⟨#[]⟩, .slice none 0 0, .int .i64 0]] w' fun e w'' => e = .returned (.bool false) ∧ G w' w'' := fun w' h => by
            have := hh1.out (L.take q) A6 c6 w' (hw7 w' h) ((hsw w' h).first q) (by omega)
            have h3 := f3.out
            rw [hq] at h3
            rwa [hl3, h3] at this
          have k4 : ∀ w', G W7 w' → Calls Try.prog 8 #[.slice A6 L.length c6, .agg #[.string key, .slice A ps.length c], .agg #[.int .i64 0, .int .i64 at', .int .i64 0, .int .i64 2, .slice Af fs.length cf, .slice none 0 0, .int .i64 0, .int .i64 0, .int .i64 0, .int .i64 0, .string ⟨#[]⟩, .slice none 0 0, .int .i64 0]] w' fun e w'' => e = .returned (.bool false) ∧ G w' w'' := fun w' h => by
            have := hh2.out L A6 c6 w' (hw7 w' h) (hsw w' h) hLe
            rwa [f4.out] at this
          have x0 : ∀ w', G W7 w' → w'.cell? ⟨w.heap.size, 0, none⟩ = some (.string key) := fun w' h => q0 _ (hG7.trans h)
          have x1 : ∀ w', G W7 w' → w'.cell? ⟨w.heap.size, 1, none⟩ = some (.slice A ps.length c) := fun w' h => q1 _ (hG7.trans h)
          have r0 : ∀ w', G W7 w' → w'.cell? ⟨Y, 0, none⟩ = some (.int .i64 0) := fun w' h => (blk_cell (h.blk hR) 0).trans rfl
          have r1 : ∀ w', G W7 w' → w'.cell? ⟨Y, 1, none⟩ = some (.int .i64 at') := fun w' h => (blk_cell (h.blk hR) 1).trans rfl
          have r2 : ∀ w', G W7 w' → w'.cell? ⟨Y, 2, none⟩ = some (.int .i64 0) := fun w' h => (blk_cell (h.blk hR) 2).trans rfl
          have r3 : ∀ w', G W7 w' → w'.cell? ⟨Y, 3, none⟩ = some (.int .i64 1) := fun w' h => (blk_cell (h.blk hR) 3).trans rfl
          have r4 : ∀ w', G W7 w' → w'.cell? ⟨Y, 4, none⟩ = some (.slice Af fs.length cf) := fun w' h => (blk_cell (h.blk hR) 4).trans rfl
          have r5 : ∀ w', G W7 w' → w'.cell? ⟨Y, 5, none⟩ = some (.slice none 0 0) := fun w' h => (blk_cell (h.blk hR) 5).trans rfl
          have r6 : ∀ w', G W7 w' → w'.cell? ⟨Y, 6, none⟩ = some (.int .i64 0) := fun w' h => (blk_cell (h.blk hR) 6).trans rfl
          have r7 : ∀ w', G W7 w' → w'.cell? ⟨Y, 7, none⟩ = some (.int .i64 0) := fun w' h => (blk_cell (h.blk hR) 7).trans rfl
          have r8 : ∀ w', G W7 w' → w'.cell? ⟨Y, 8, none⟩ = some (.int .i64 0) := fun w' h => (blk_cell (h.blk hR) 8).trans rfl
          have r9 : ∀ w', G W7 w' → w'.cell? ⟨Y, 9, none⟩ = some (.int .i64 0) := fun w' h => (blk_cell (h.blk hR) 9).trans rfl
          have r10 : ∀ w', G W7 w' → w'.cell? ⟨Y, 10, none⟩ = some (.string ⟨#[]⟩) := fun w' h => (blk_cell (h.blk hR) 10).trans rfl
          have r11 : ∀ w', G W7 w' → w'.cell? ⟨Y, 11, none⟩ = some (.slice none 0 0) := fun w' h => (blk_cell (h.blk hR) 11).trans rfl
          have r12 : ∀ w', G W7 w' → w'.cell? ⟨Y, 12, none⟩ = some (.int .i64 0) := fun w' h => (blk_cell (h.blk hR) 12).trans rfl
          have z0 : ∀ w', G W7 w' → w'.cell? ⟨X, 0, none⟩ = some (.int .i64 at') := fun w' h => (blk_cell (h.blk hS7) 0).trans rfl
          have z1 : ∀ w', G W7 w' → w'.cell? ⟨X, 1, none⟩ = some (.int .i64 0) := fun w' h => (blk_cell (h.blk hS7) 1).trans rfl
          have z2 : ∀ w', G W7 w' → w'.cell? ⟨X, 2, none⟩ = some (.int .i64 1) := fun w' h => (blk_cell (h.blk hS7) 2).trans rfl
          have haw := fun w' => awake29_any w'
          replace hw7 := Lib.hid hw7
          replace k1 := Lib.hid k1
          replace k2 := Lib.hid k2
          replace k3 := Lib.hid k3
          replace k4 := Lib.hid k4
          replace hq := Lib.hid hq
          replace htk2 := Lib.hid htk2
          replace hl2 := Lib.hid hl2
          replace hl3 := Lib.hid hl3
          replace hLn := Lib.hid hLn
          clear hR hsw hsl7 hsl6 hS7 hS6 s0 s1 s2 f1 f2 f3 f4 hh1 hh2 hG6 q0 q1 hgn
          go_region_held3 (fun w' => G W7 w') (first | exact (G.refl _).drew | exact hga.keep (by assumption) | exact hgb.keep (by assumption) | exact hgc.keep (by assumption) | exact hgd.keep (by assumption) | exact hge.keep (by assumption) | fail) (first
            | (go_at_call 8; (with_reducible refine Calls.mono (k1.out _ (by assumption)) ?_); rintro e u1 ⟨rfl, hga⟩)
            | (go_at_call 8; (with_reducible refine Calls.mono (k2.out _ (by assumption)) ?_); rintro e u2 ⟨rfl, hgb⟩)
            | (go_at_call 8; (with_reducible refine Calls.mono (k3.out _ (by assumption)) ?_); rintro e u3 ⟨rfl, hgc⟩)
            | (go_at_call 8; (with_reducible refine Calls.mono (k4.out _ (by assumption)) ?_); rintro e u4 ⟨rfl, hgd⟩)
            | (go_at_call 6; (with_reducible refine Calls.mono (haw _) ?_); rintro e u5 ⟨rfl, hge⟩))
          all_goals
            have hGe : G W7 u5 := by assumption
            go_wp2_with fail
            go_ret
            exact ⟨rfl, hw7.out _ hGe⟩
end Go.Proofs.Ytgoodlbkjciloaa

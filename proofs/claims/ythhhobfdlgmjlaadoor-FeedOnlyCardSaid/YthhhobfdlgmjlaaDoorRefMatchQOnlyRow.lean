/- penstockref1.Match: what it answers: as the program's. Condition: texts of at most 2^20 bytes. -/
import Derived.Test.YthhhobfdlgmjlaaDoorRefTakesQOnlyRow
import Derived.Test.YthhhobfdlgmjlaaDoorGlobMatchQOnlyRow
import Derived.Deep.CutBlock
namespace Go.Proofs.YthhhobfdlgmjlaaDoor
open Go.RowKit

theorem nextK_new (qs : List Pc) (f : Nat → Bool) (c i : Nat) : nextK qs f c i (i + 1) = false := by
  simp only [nextK]
  rw [decide_eq_false (p := i < i) (by omega), decide_eq_false (p := i + 1 < i) (by omega)]
  rfl
theorem nextK_zero (qs : List Pc) (f : Nat → Bool) (c j : Nat) : nextK qs f c 0 j = false := by cases j <;> simp [nextK]
theorem nextK_far (qs : List Pc) (f : Nat → Bool) (c i j : Nat) (h1 : j ≠ i) (h2 : j ≠ i + 1) : nextK qs f c i j = nextK qs f c (i + 1) j := by
  cases j with
  | zero =>
    simp only [nextK]
    rw [decide_eq_true (p := 0 < i) (by omega), decide_eq_true (p := 0 < i + 1) (by omega)]
  | succ k =>
    simp only [nextK]
    rw [show decide (k < i + 1) = decide (k < i) from decide_eq_decide.2 (by omega), show decide (k + 1 < i + 1) = decide (k + 1 < i) from decide_eq_decide.2 (by omega)]
theorem nextK_here {qs : List Pc} {i : Nat} {q : Pc} (f : Nat → Bool) (c : Nat) (h : qs[i]? = some q) : nextK qs f c (i + 1) i = (nextK qs f c i i || (q.any && f i)) := by
  cases i with
  | zero =>
    simp only [nextK]
    rw [anyAt_some h]
    simp
  | succ k =>
    simp only [nextK]
    rw [anyAt_some h, decide_eq_true (p := k < k + 1 + 1) (by omega), decide_eq_true (p := k < k + 1) (by omega), decide_eq_true (p := k + 1 < k + 1 + 1) (by omega), decide_eq_false (p := k + 1 < k + 1) (by omega)]
    simp
theorem nextK_next {qs : List Pc} {i : Nat} {q : Pc} (f : Nat → Bool) (c : Nat) (h : qs[i]? = some q) : nextK qs f c (i + 1) (i + 1) = if q.any = true then f (i + 1) || f i else f i && q.fits c := by
  simp only [nextK]
  unfold transB
  rw [h]
  simp
theorem nextK_star {qs : List Pc} {i : Nat} {q : Pc} {f : Nat → Bool} {c : Nat} {V1 V2 : Bool} (h : qs[i]? = some q) (ha : q.any = true) (h1 : V1 = (f (i + 1) || f i)) (h2 : V2 = (nextK qs f c i i || f i)) (j : Nat) :
    upd (upd (nextK qs f c i) (i + 1) V1) i V2 j = nextK qs f c (i + 1) j := by
  unfold upd
  by_cases hj : j = i
  · subst hj
    rw [if_pos rfl, nextK_here f c h, ha, Bool.true_and, h2]
  · rw [if_neg hj]
    by_cases hj2 : j = i + 1
    · subst hj2
      rw [if_pos rfl, nextK_next f c h, if_pos ha, h1]
    · rw [if_neg hj2, nextK_far qs f c i j hj hj2]
theorem nextK_fit {qs : List Pc} {i : Nat} {q : Pc} {f : Nat → Bool} {c : Nat} {V : Bool} (h : qs[i]? = some q) (ha : q.any = false) (h1 : V = (f i && q.fits c)) (j : Nat) :
    upd (nextK qs f c i) (i + 1) V j = nextK qs f c (i + 1) j := by
  unfold upd
  by_cases hj2 : j = i + 1
  · subst hj2
    rw [if_pos rfl, nextK_next f c h, ha, h1]
    rfl
  · rw [if_neg hj2]
    by_cases hj : j = i
    · subst hj
      rw [nextK_here f c h, ha, Bool.false_and, Bool.or_false]
    · exact nextK_far qs f c i j hj hj2
theorem start_row {qs : List Pc} {i : Nat} (h : ∀ j, j < i → anyAt qs j = true) (he : anyAt qs i = false) : ∀ j, j ≤ qs.length → decide (j ≤ i) = canB qs [] j := by
  intro j hj
  rw [canB_start qs j hj]
  induction j with
  | zero => rw [mrow_zero_nil]; simp
  | succ k ih =>
    have hk : k < qs.length := by omega
    obtain ⟨q, hq⟩ : ∃ q, qs[k]? = some q := ⟨_, List.getElem?_eq_getElem hk⟩
    rw [mrow_nil hq, ← ih (by omega), ← anyAt_some hq]
    by_cases h1 : k < i
    · rw [h k h1, Bool.true_and, decide_eq_true (p := k ≤ i) (by omega), decide_eq_true (p := k + 1 ≤ i) (by omega)]
    · rw [decide_eq_false (p := k + 1 ≤ i) (by omega)]
      by_cases h2 : k = i
      · subst h2
        rw [he, Bool.false_and]
      · rw [decide_eq_false (p := k ≤ i) (by omega), Bool.and_false]
/-- What the walk reads of the pieces. -/
def PcsR (W : World) (A : Option Addr) (ms : List PrM) (qs : List Pc) : Prop := ∀ w', G W w' → ∀ (i : Nat) (m : PrM), ms[i]? = some m → ∃ (b o : Nat) (q : Pc), A = some ⟨b, o, none⟩ ∧ qs[i]? = some q ∧ m.pr.star = q.any ∧
  w'.cell? ⟨b, o + i * 4, none⟩ = some (.bool m.pr.star) ∧ w'.cell? ⟨b, o + i * 4 + 1, none⟩ = some (.bool m.pr.no) ∧ w'.cell? ⟨b, o + i * 4 + 2, none⟩ = some (.slice m.LA m.pr.set.length m.lc) ∧ w'.cell? ⟨b, o + i * 4 + 3, none⟩ = some (.slice m.HA m.pr.set.length m.hc) ∧
  (q.any = false → ∀ c : Nat, Calls Tryd.prog 40 #[.agg #[.bool m.pr.star, .bool m.pr.no, .slice m.LA m.pr.set.length m.lc, .slice m.HA m.pr.set.length m.hc], .int .i32 c] w' fun e w'' => e = .returned (.bool (q.fits c)) ∧ G w' w'')
theorem pcsR {W : World} {base c8 : Nat} {A : Option Addr} {ms : List PrM} {qs : List Pc} (h1 : OwnL 88 4 PrM.cells W base (.slice A ms.length c8) ms) (h2 : PrsOwn W base ms) (h3 : PrsIs (ms.map (·.pr)) qs) : PcsR W A ms qs := by
  intro w' hg i m hm
  have hlen := h3.1
  rw [List.length_map] at hlen
  have hil : i < ms.length := (List.getElem?_eq_some_iff.1 hm).1
  obtain ⟨q, hq⟩ : ∃ q, qs[i]? = some q := ⟨_, List.getElem?_eq_getElem (by omega)⟩
  obtain ⟨b, o, e, _, h4⟩ := ((OwnL.self PrM.cells_len h1).g (Nat.le_refl _) hg).get hm
  have his := h3.2 i m.pr q (by rw [List.getElem?_map, hm]; rfl) hq
  obtain ⟨hL, hH⟩ := h2 m (List.mem_of_getElem? hm)
  obtain ⟨_, cL, eL, hc1, hc2, sL⟩ := OwnL.sl runeC_len hL
  obtain ⟨_, cH, eH, _, _, sH⟩ := OwnL.sl runeC_len hH
  simp only [Value.slice.injEq] at eL eH
  obtain ⟨rfl, _, _⟩ := eL
  obtain ⟨rfl, _, _⟩ := eH
  refine ⟨b, o, q, e, hq, his.1, h4 0 _ rfl, h4 1 _ rfl, h4 2 _ rfl, h4 3 _ rfl, fun ha c => ?_⟩
  rw [← his.2 ha c]
  rw [List.length_map] at hc1
  exact takes_any m.pr m.LA m.HA m.lc m.hc c w' (by omega) ((sL.g (Nat.le_refl _) hg).more hg.size) ((sH.g (Nat.le_refl _) hg).more hg.size)
set_option maxRecDepth 100000 in
set_option maxHeartbeats 8000000 in
theorem refMatch_any (p s : ByteArray) (w : World) (hp : p.size ≤ 1048576) (hs : s.size ≤ 1048576) :
    Calls Tryd.prog 21 #[.string p, .string s] w fun e w' => e = .returned (.bool (matchB p s)) ∧ G w w' := by
  have hpa := pattern_any p w hp
  have hvs : Hid (∀ w', Calls Tryd.prog 17 #[.string s] w' fun e w'' => e = .returned (.bool (validB s)) ∧ G w' w'') := fun w' => refValid_any s w' (by omega)
  have hl : (cks s.data.toList).length ≤ 1048576 := Nat.le_trans (cks_length_le _) (by simpa using hs)
  go_enter Tryd.func21, Tryd.ntmps21
  go_wp2_with fail
  refine hpa.mono ?_
  clear hpa
  rintro e w1 ⟨A, n0, c0, rfl, hms, hg1⟩
  cases hok : patOk p with
  | false =>
    have hm : matchB p s = false := by unfold matchB; rw [hok]; rfl
    replace hm := Lib.hid hm
    replace hok := Lib.hid hok
    clear hms
    go_wp2_with fail
    go_ret
    exact ⟨by rw [hm.out]; rfl, hg1⟩
  | true =>
    obtain ⟨ms, rfl, hown, hmo, his⟩ := hms hok
    clear hms
    have hv2 := hvs.out w1
    have hn40 : ms.length ≤ 40 := by
      have h1 := his.1
      rw [List.length_map] at h1
      have h2 := parseF_len ((runesL p).length + 1) (runesL p) false
      have h3 : ((cks p.data.toList).length : Int) ≤ 40 := by
        unfold patOk at hok
        rw [Bool.and_eq_true, Bool.and_eq_true] at hok
        exact of_decide_eq_true hok.1.2
      have h4 := runesL_len p
      unfold patP parseL at h1
      rw [h1]
      omega
    cases hv : validB s with
    | false =>
      rw [hv] at hv2
      have hm : matchB p s = false := by unfold matchB; rw [hv, Bool.and_false]; rfl
      replace hm := Lib.hid hm
      replace hok := Lib.hid hok
      replace his := Lib.hid his
      replace hown := Lib.hid hown
      replace hmo := Lib.hid hmo
      replace hn40 := Lib.hid hn40
      go_wp2_with fail
      refine hv2.mono ?_
      clear hv2
      rintro e w2 ⟨rfl, hg2⟩
      go_wp2_with fail
      go_ret
      exact ⟨by rw [hm.out]; rfl, hg1.trans hg2⟩
    | true =>
      rw [hv] at hv2
      have hm : matchB p s = matchL (patP p) (runesL s) := by unfold matchB; rw [hok, hv]; rfl
      generalize patP p = qs at *
      have hnq : qs.length = ms.length := by have := his.1; rw [List.length_map] at this; exact this.symm
      replace hm := Lib.hid hm
      replace hok := Lib.hid hok
      replace hv := Lib.hid hv
      have hpc : Hid (∀ w2, G w1 w2 → PcsR w2 A ms qs) := fun w2 hg2 => pcsR (hown.g hg2) (hmo.g hg2) his
      clear hown hmo his
      generalize hnm : ms.length = n at *
      replace hnm := Lib.hid hnm
      replace hnq := Lib.hid hnq
      go_wp2_with fail
      refine hv2.mono ?_
      clear hv2
      rintro e w2 ⟨rfl, hg2⟩
      have hgw2 := hg1.trans hg2
      replace hpc := Lib.hid (hpc.out w2 hg2)
      clear hg2 hg1
      obtain ⟨w3, hmk, hb3, hg3⟩ := make_bools w2 n (by omega)
      have hB2 : w2.heap.size ≤ w2.heap.size := Nat.le_refl _
      obtain ⟨B0, hB0⟩ : ∃ B0, w2.heap.size = B0 := ⟨_, rfl⟩
      rw [hB0] at hmk hb3
      have hBB : w2.heap.size ≤ B0 := by omega
      clear hB2
      replace hB0 := Lib.hid hB0
      have b0 := hb3.cell (Nat.zero_le n)
      have bf := hb3.free 0
      have hb4 := (hb3.set 0 true).congr (g' := fun j => decide (j ≤ 0)) (fun i _ => by unfold upd; by_cases h : i = 0 <;> simp [h])
      have hg4 := hg3.set (p := ⟨B0, 0, none⟩) hBB (.bool true)
      replace hb4 := Lib.hid hb4
      replace hg4 := Lib.hid hg4
      replace hBB := Lib.hid hBB
      replace hb3 := Lib.hid hb3
      replace hgw2 := Lib.hid hgw2
      clear hg3
      go_upto_block 0 with fail
      go_cut [7] (fun v wx => v = .slice (some ⟨B0, 0, none⟩) (n + 1) (n + 1) ∧ Hid (BoolsAt wx B0 n (canB qs [])) ∧ Hid (G w2 wx))
      case first =>
        go_wp2_with fail
        go_loopw [8] (fun v wr => ∃ i : Nat, i ≤ n ∧ v = .int .i64 i ∧ Hid (∀ j, j < i → anyAt qs j = true) ∧ Hid (BoolsAt wr B0 n (fun j => decide (j ≤ i))) ∧ Hid (G w2 wr)) (fun v _ => n - (intOf v).toNat)
        case atStart => exact ⟨0, Nat.zero_le _, rfl, (fun j h => absurd h (Nat.not_lt_zero _)), hb4.out, hg4.out⟩
        case round =>
          clear hb4 hg4 b0 bf hb3
          obtain ⟨i, hi, rfl, hall, hbB, hg⟩ := hrel
          by_cases hin : i < n
          · obtain ⟨m, hm2⟩ : ∃ m, ms[i]? = some m := ⟨_, List.getElem?_eq_getElem (by rw [hnm.out]; exact hin)⟩
            obtain ⟨b, o, q, rfl, hq, hsq, x0, _, _, _, _⟩ := hpc.out wr hg.out i m hm2
            have n1 : (0 : Int) ≤ (i : Int) := by omega
            have n2 : (i : Int) < (n : Int) := by omega
            have n3 : (0 : Int) ≤ (i : Int) + 1 := by omega
            have n5 : (i : Int) + 1 < (n : Int) + 1 := by omega
            have n6 : ((i : Int) + 1).toNat = i + 1 := by omega
            cases hqa : q.any with
            | true =>
              rw [hsq, hqa] at x0
              have bf := hbB.out.free (i + 1)
              have b1 := hbB.out.cell (i := i + 1) (by omega)
              have hall2 : ∀ j, j < i + 1 → anyAt qs j = true := fun j hj => by
                rcases Nat.lt_or_ge j i with h | h
                · exact hall.out j h
                · obtain rfl : j = i := by omega
                  rw [anyAt_some hq, hqa]
              have hb2 := (hbB.out.set (i + 1) true).congr (g' := fun j => decide (j ≤ i + 1)) (fun j _ => by
                unfold upd
                by_cases h : j = i + 1
                · rw [if_pos h, decide_eq_true (by omega)]
                · rw [if_neg h]
                  exact decide_eq_decide.2 (by omega))
              have hgx := hg.out.set (p := ⟨B0, i + 1, none⟩) hBB.out (.bool true)
              replace hall2 := Lib.hid hall2
              replace hb2 := Lib.hid hb2
              replace hgx := Lib.hid hgx
              replace hq := Lib.hid hq
              replace hqa := Lib.hid hqa
              replace hsq := Lib.hid hsq
              clear hall hbB hg
              go_wp2_with fail
              go_roundw
              case rel => exact ⟨i + 1, by omega, by go_num, hall2, hb2, hgx⟩
              case measure => (simp [intOf] <;> omega)
            | false =>
              rw [hsq, hqa] at x0
              have hb2 := hbB.out.congr (fun j hj => start_row hall.out (by rw [anyAt_some hq, hqa]) j (by rw [hnq.out]; exact hj))
              replace hb2 := Lib.hid hb2
              replace hq := Lib.hid hq
              replace hqa := Lib.hid hqa
              replace hsq := Lib.hid hsq
              go_wp2_with fail
              go_meet
              exact ⟨rfl, hb2, hg⟩
          · have n2 : ¬ (i : Int) < (n : Int) := by omega
            have hb2 := hbB.out.congr (fun j hj => start_row hall.out (anyAt_none (List.getElem?_eq_none (by rw [hnq.out]; omega))) j (by rw [hnq.out]; exact hj))
            replace hb2 := Lib.hid hb2
            go_wp2_with fail
            go_meet
            exact ⟨rfl, hb2, hg⟩
      case rest =>
        obtain ⟨rfl, hb5, hg5⟩ := hcut
        clear hmk b0 bf hb3 hb4 hg4
        obtain ⟨wi, rfl⟩ : ∃ wi : World, wi = wc := ⟨_, rfl⟩
        have hIw : Hid (w2.heap.size ≤ wi.heap.size) := hg5.out.size
        go_wp2_with fail
        go_loopw [7] (fun v wr => ∃ k B : Nat, k ≤ (cks s.data.toList).length ∧ v = .slice (some ⟨B, 0, none⟩) (n + 1) (n + 1) ∧ Hid (w2.heap.size ≤ B) ∧ Hid (IterAt wr wi.heap.size s k) ∧ Hid (BoolsAt wr B n (canB qs ((runesL s).take k))) ∧ Hid (G w2 wr)) (fun _ wr => s.size - wr.iterPos wi.heap.size)
        case atStart => exact ⟨0, B0, Nat.zero_le _, rfl, hBB, IterAt.start wi s, hb5.out.grow (G.iter _ _ _), hg5.out.trans (G.iter _ _ _)⟩
        case round =>
          clear hb5 hg5
          obtain ⟨k, B, hk, rfl, hB2, hit, hbB, hg⟩ := hrel
          by_cases hlt : k < (cks s.data.toList).length
          · obtain ⟨pc, hpk⟩ := piece_at hlt
            have hrk : (runesL s)[k]? = some pc.r := by unfold runesL; rw [List.getElem?_map, hpk]; rfl
            have htk := take_snoc' hrk
            have hpos := hit.out.pos
            have hless := off_less hpk
            obtain ⟨w6, hnx, hit6, hbt6, hsz6⟩ := run_next_piece (P := Tryd.prog) hit.out hpk
            have hI0 : wr.heap[wi.heap.size]? = some (.stringIter s _) := hit.out
            have hIB : wi.heap.size ≠ B := by
              rintro e
              obtain ⟨cs, h1, _⟩ := hbB.out
              rw [← e, hI0] at h1
              cases h1
            have hb6 := hbB.out.but hbt6 (fun e => hIB e.symm)
            have hg6 := hg.out.next hbt6 hIw.out
            obtain ⟨cb, cr⟩ := pc
            dsimp only at hnx htk
            generalize hf : canB qs ((runesL s).take k) = f at *
            obtain ⟨w7, hmk, hbC0, hg67⟩ := make_bools w6 n (by omega)
            have hit7 := hit6.g hg67
            have hb7 := hb6.grow hg67
            have hg7 := hg6.trans hg67
            obtain ⟨C, hC⟩ : ∃ C, w6.heap.size = C := ⟨_, rfl⟩
            have hC2 : w2.heap.size ≤ C := by rw [← hC]; exact hg6.size
            have hBC : B ≠ C := by have := hb6.lt; omega
            have hIC : wi.heap.size ≠ C := by have := hit6.lt; omega
            rw [hC] at hmk hbC0
            replace hf := Lib.hid hf
            replace htk := Lib.hid htk
            replace hpos := Lib.hid hpos
            replace hless := Lib.hid hless
            replace hit7 := Lib.hid hit7
            replace hb7 := Lib.hid hb7
            replace hg7 := Lib.hid hg7
            replace hC := Lib.hid hC
            replace hC2 := Lib.hid hC2
            replace hIC := Lib.hid hIC
            replace hbC0 := Lib.hid hbC0
            clear hit hbB hg hbt6 hsz6 hrk hpk hI0 hit6 hb6 hg6 hg67 hIB
            go_wp2_with fail
            obtain ⟨wo, rfl⟩ : ∃ wo : World, wo = w7 := ⟨_, rfl⟩
            go_loopw [12] (fun v wr => ∃ i : Nat, i ≤ n ∧ v = .int .i64 i ∧ Hid (BoolsAt wr B n f) ∧ Hid (BoolsAt wr C n (nextK qs f cr i)) ∧ Hid (IterAt wr wi.heap.size s (k + 1)) ∧ Hid (G w2 wr)) (fun v _ => n - (intOf v).toNat)
            case atStart => exact ⟨0, Nat.zero_le _, rfl, hb7.out, hbC0.out.congr (fun j _ => (nextK_zero _ _ _ _).symm), hit7.out, hg7.out⟩
            case round =>
              clear hb7 hbC0 hit7 hg7 hmk hnx
              obtain ⟨i, hi, rfl, hbB, hbC, hit, hg⟩ := hrel
              by_cases hin : i < n
              · obtain ⟨m, hm2⟩ : ∃ m, ms[i]? = some m := ⟨_, List.getElem?_eq_getElem (by rw [hnm.out]; exact hin)⟩
                obtain ⟨b, o, q, rfl, hq, hsq, x0, x1, x2, x3, htakes⟩ := hpc.out wr hg.out i m hm2
                have b1 := hbC.out.cell (i := i + 1) (by omega)
                rw [nextK_new] at b1
                have bf1 := hbC.out.free (i + 1)
                have d0 := hbB.out.cell (i := i) (by omega)
                have d1 := hbB.out.cell (i := i + 1) (by omega)
                have n1 : (0 : Int) ≤ (i : Int) := by omega
                have n2 : (i : Int) < (n : Int) := by omega
                have n3 : (0 : Int) ≤ (i : Int) + 1 := by omega
                have n4 : (i : Int) < (n : Int) + 1 := by omega
                have n5 : (i : Int) + 1 < (n : Int) + 1 := by omega
                have n6 : ((i : Int) + 1).toNat = i + 1 := by omega
                replace hm2 := Lib.hid hm2
                replace htakes := Lib.hid htakes
                cases hqa : q.any with
                | true =>
                  rw [hsq, hqa] at x0
                  replace hsq := Lib.hid hsq
                  cases hf1 : f (i + 1) with
                  | true =>
                    cases hf0 : f i with
                    | true =>
                      cases hg0 : nextK qs f cr i i with
                      | true =>
                        have hb1 := hbC.out.set (i + 1) (true)
                        have e0 := hb1.cell (i := i) (by omega)
                        rw [show upd _ (i + 1) (true) i = (true) from (if_neg (by omega)).trans hg0] at e0
                        have ef0 := hb1.free i
                        have d2 := (hbB.out.but (but_set wr C (i + 1) (.bool (true))) hBC).cell (i := i) (by omega)
                        rw [hf0] at d2 d0
                        rw [hf1] at d1
                        have hb2 := (hb1.set i (true)).congr (fun j _ => nextK_star (c := cr) hq hqa (by rw [hf0, hf1]; rfl) (by rw [hf0, hg0]; rfl) j)
                        have hgx := (hg.out.set (p := ⟨C, i + 1, none⟩) hC2.out (.bool (true))).set (p := ⟨C, i, none⟩) hC2.out (.bool (true))
                        have hbx := (hbB.out.but (but_set wr C (i + 1) (.bool (true))) hBC).but (but_set _ C i (.bool (true))) hBC
                        have hix := (hit.out.but (but_set wr C (i + 1) (.bool (true))) hIC.out).but (but_set _ C i (.bool (true))) hIC.out
                        replace hb2 := Lib.hid hb2
                        replace hgx := Lib.hid hgx
                        replace hbx := Lib.hid hbx
                        replace hix := Lib.hid hix
                        replace hf0 := Lib.hid hf0
                        replace hf1 := Lib.hid hf1
                        replace hg0 := Lib.hid hg0
                        replace hq := Lib.hid hq
                        replace hqa := Lib.hid hqa
                        clear hb1 hg hit hbB hbC
                        go_wp2_with fail
                        go_roundw
                        case rel => exact ⟨i + 1, by omega, by go_num, hbx, hb2, hix, hgx⟩
                        case measure => (simp [intOf] <;> omega)
                      | false =>
                        have hb1 := hbC.out.set (i + 1) (true)
                        have e0 := hb1.cell (i := i) (by omega)
                        rw [show upd _ (i + 1) (true) i = (false) from (if_neg (by omega)).trans hg0] at e0
                        have ef0 := hb1.free i
                        have d2 := (hbB.out.but (but_set wr C (i + 1) (.bool (true))) hBC).cell (i := i) (by omega)
                        rw [hf0] at d2 d0
                        rw [hf1] at d1
                        have hb2 := (hb1.set i (true)).congr (fun j _ => nextK_star (c := cr) hq hqa (by rw [hf0, hf1]; rfl) (by rw [hf0, hg0]; rfl) j)
                        have hgx := (hg.out.set (p := ⟨C, i + 1, none⟩) hC2.out (.bool (true))).set (p := ⟨C, i, none⟩) hC2.out (.bool (true))
                        have hbx := (hbB.out.but (but_set wr C (i + 1) (.bool (true))) hBC).but (but_set _ C i (.bool (true))) hBC
                        have hix := (hit.out.but (but_set wr C (i + 1) (.bool (true))) hIC.out).but (but_set _ C i (.bool (true))) hIC.out
                        replace hb2 := Lib.hid hb2
                        replace hgx := Lib.hid hgx
                        replace hbx := Lib.hid hbx
                        replace hix := Lib.hid hix
                        replace hf0 := Lib.hid hf0
                        replace hf1 := Lib.hid hf1
                        replace hg0 := Lib.hid hg0
                        replace hq := Lib.hid hq
                        replace hqa := Lib.hid hqa
                        clear hb1 hg hit hbB hbC
                        go_wp2_with fail
                        go_roundw
                        case rel => exact ⟨i + 1, by omega, by go_num, hbx, hb2, hix, hgx⟩
                        case measure => (simp [intOf] <;> omega)
                    | false =>
                      cases hg0 : nextK qs f cr i i with
                      | true =>
                        have hb1 := hbC.out.set (i + 1) (true)
                        have e0 := hb1.cell (i := i) (by omega)
                        rw [show upd _ (i + 1) (true) i = (true) from (if_neg (by omega)).trans hg0] at e0
                        have ef0 := hb1.free i
                        have d2 := (hbB.out.but (but_set wr C (i + 1) (.bool (true))) hBC).cell (i := i) (by omega)
                        rw [hf0] at d2 d0
                        rw [hf1] at d1
                        have hb2 := (hb1.set i (true)).congr (fun j _ => nextK_star (c := cr) hq hqa (by rw [hf0, hf1]; rfl) (by rw [hf0, hg0]; rfl) j)
                        have hgx := (hg.out.set (p := ⟨C, i + 1, none⟩) hC2.out (.bool (true))).set (p := ⟨C, i, none⟩) hC2.out (.bool (true))
                        have hbx := (hbB.out.but (but_set wr C (i + 1) (.bool (true))) hBC).but (but_set _ C i (.bool (true))) hBC
                        have hix := (hit.out.but (but_set wr C (i + 1) (.bool (true))) hIC.out).but (but_set _ C i (.bool (true))) hIC.out
                        replace hb2 := Lib.hid hb2
                        replace hgx := Lib.hid hgx
                        replace hbx := Lib.hid hbx
                        replace hix := Lib.hid hix
                        replace hf0 := Lib.hid hf0
                        replace hf1 := Lib.hid hf1
                        replace hg0 := Lib.hid hg0
                        replace hq := Lib.hid hq
                        replace hqa := Lib.hid hqa
                        clear hb1 hg hit hbB hbC
                        go_wp2_with fail
                        go_roundw
                        case rel => exact ⟨i + 1, by omega, by go_num, hbx, hb2, hix, hgx⟩
                        case measure => (simp [intOf] <;> omega)
                      | false =>
                        have hb1 := hbC.out.set (i + 1) (true)
                        have e0 := hb1.cell (i := i) (by omega)
                        rw [show upd _ (i + 1) (true) i = (false) from (if_neg (by omega)).trans hg0] at e0
                        have ef0 := hb1.free i
                        have d2 := (hbB.out.but (but_set wr C (i + 1) (.bool (true))) hBC).cell (i := i) (by omega)
                        rw [hf0] at d2 d0
                        rw [hf1] at d1
                        have hb2 := (hb1.set i (false)).congr (fun j _ => nextK_star (c := cr) hq hqa (by rw [hf0, hf1]; rfl) (by rw [hf0, hg0]; rfl) j)
                        have hgx := (hg.out.set (p := ⟨C, i + 1, none⟩) hC2.out (.bool (true))).set (p := ⟨C, i, none⟩) hC2.out (.bool (false))
                        have hbx := (hbB.out.but (but_set wr C (i + 1) (.bool (true))) hBC).but (but_set _ C i (.bool (false))) hBC
                        have hix := (hit.out.but (but_set wr C (i + 1) (.bool (true))) hIC.out).but (but_set _ C i (.bool (false))) hIC.out
                        replace hb2 := Lib.hid hb2
                        replace hgx := Lib.hid hgx
                        replace hbx := Lib.hid hbx
                        replace hix := Lib.hid hix
                        replace hf0 := Lib.hid hf0
                        replace hf1 := Lib.hid hf1
                        replace hg0 := Lib.hid hg0
                        replace hq := Lib.hid hq
                        replace hqa := Lib.hid hqa
                        clear hb1 hg hit hbB hbC
                        go_wp2_with fail
                        go_roundw
                        case rel => exact ⟨i + 1, by omega, by go_num, hbx, hb2, hix, hgx⟩
                        case measure => (simp [intOf] <;> omega)
                  | false =>
                    cases hf0 : f i with
                    | true =>
                      cases hg0 : nextK qs f cr i i with
                      | true =>
                        have hb1 := hbC.out.set (i + 1) (true)
                        have e0 := hb1.cell (i := i) (by omega)
                        rw [show upd _ (i + 1) (true) i = (true) from (if_neg (by omega)).trans hg0] at e0
                        have ef0 := hb1.free i
                        have d2 := (hbB.out.but (but_set wr C (i + 1) (.bool (true))) hBC).cell (i := i) (by omega)
                        rw [hf0] at d2 d0
                        rw [hf1] at d1
                        have hb2 := (hb1.set i (true)).congr (fun j _ => nextK_star (c := cr) hq hqa (by rw [hf0, hf1]; rfl) (by rw [hf0, hg0]; rfl) j)
                        have hgx := (hg.out.set (p := ⟨C, i + 1, none⟩) hC2.out (.bool (true))).set (p := ⟨C, i, none⟩) hC2.out (.bool (true))
                        have hbx := (hbB.out.but (but_set wr C (i + 1) (.bool (true))) hBC).but (but_set _ C i (.bool (true))) hBC
                        have hix := (hit.out.but (but_set wr C (i + 1) (.bool (true))) hIC.out).but (but_set _ C i (.bool (true))) hIC.out
                        replace hb2 := Lib.hid hb2
                        replace hgx := Lib.hid hgx
                        replace hbx := Lib.hid hbx
                        replace hix := Lib.hid hix
                        replace hf0 := Lib.hid hf0
                        replace hf1 := Lib.hid hf1
                        replace hg0 := Lib.hid hg0
                        replace hq := Lib.hid hq
                        replace hqa := Lib.hid hqa
                        clear hb1 hg hit hbB hbC
                        go_wp2_with fail
                        go_roundw
                        case rel => exact ⟨i + 1, by omega, by go_num, hbx, hb2, hix, hgx⟩
                        case measure => (simp [intOf] <;> omega)
                      | false =>
                        have hb1 := hbC.out.set (i + 1) (true)
                        have e0 := hb1.cell (i := i) (by omega)
                        rw [show upd _ (i + 1) (true) i = (false) from (if_neg (by omega)).trans hg0] at e0
                        have ef0 := hb1.free i
                        have d2 := (hbB.out.but (but_set wr C (i + 1) (.bool (true))) hBC).cell (i := i) (by omega)
                        rw [hf0] at d2 d0
                        rw [hf1] at d1
                        have hb2 := (hb1.set i (true)).congr (fun j _ => nextK_star (c := cr) hq hqa (by rw [hf0, hf1]; rfl) (by rw [hf0, hg0]; rfl) j)
                        have hgx := (hg.out.set (p := ⟨C, i + 1, none⟩) hC2.out (.bool (true))).set (p := ⟨C, i, none⟩) hC2.out (.bool (true))
                        have hbx := (hbB.out.but (but_set wr C (i + 1) (.bool (true))) hBC).but (but_set _ C i (.bool (true))) hBC
                        have hix := (hit.out.but (but_set wr C (i + 1) (.bool (true))) hIC.out).but (but_set _ C i (.bool (true))) hIC.out
                        replace hb2 := Lib.hid hb2
                        replace hgx := Lib.hid hgx
                        replace hbx := Lib.hid hbx
                        replace hix := Lib.hid hix
                        replace hf0 := Lib.hid hf0
                        replace hf1 := Lib.hid hf1
                        replace hg0 := Lib.hid hg0
                        replace hq := Lib.hid hq
                        replace hqa := Lib.hid hqa
                        clear hb1 hg hit hbB hbC
                        go_wp2_with fail
                        go_roundw
                        case rel => exact ⟨i + 1, by omega, by go_num, hbx, hb2, hix, hgx⟩
                        case measure => (simp [intOf] <;> omega)
                    | false =>
                      cases hg0 : nextK qs f cr i i with
                      | true =>
                        have hb1 := hbC.out.set (i + 1) (false)
                        have e0 := hb1.cell (i := i) (by omega)
                        rw [show upd _ (i + 1) (false) i = (true) from (if_neg (by omega)).trans hg0] at e0
                        have ef0 := hb1.free i
                        have d2 := (hbB.out.but (but_set wr C (i + 1) (.bool (false))) hBC).cell (i := i) (by omega)
                        rw [hf0] at d2 d0
                        rw [hf1] at d1
                        have hb2 := (hb1.set i (true)).congr (fun j _ => nextK_star (c := cr) hq hqa (by rw [hf0, hf1]; rfl) (by rw [hf0, hg0]; rfl) j)
                        have hgx := (hg.out.set (p := ⟨C, i + 1, none⟩) hC2.out (.bool (false))).set (p := ⟨C, i, none⟩) hC2.out (.bool (true))
                        have hbx := (hbB.out.but (but_set wr C (i + 1) (.bool (false))) hBC).but (but_set _ C i (.bool (true))) hBC
                        have hix := (hit.out.but (but_set wr C (i + 1) (.bool (false))) hIC.out).but (but_set _ C i (.bool (true))) hIC.out
                        replace hb2 := Lib.hid hb2
                        replace hgx := Lib.hid hgx
                        replace hbx := Lib.hid hbx
                        replace hix := Lib.hid hix
                        replace hf0 := Lib.hid hf0
                        replace hf1 := Lib.hid hf1
                        replace hg0 := Lib.hid hg0
                        replace hq := Lib.hid hq
                        replace hqa := Lib.hid hqa
                        clear hb1 hg hit hbB hbC
                        go_wp2_with fail
                        go_roundw
                        case rel => exact ⟨i + 1, by omega, by go_num, hbx, hb2, hix, hgx⟩
                        case measure => (simp [intOf] <;> omega)
                      | false =>
                        have hb1 := hbC.out.set (i + 1) (false)
                        have e0 := hb1.cell (i := i) (by omega)
                        rw [show upd _ (i + 1) (false) i = (false) from (if_neg (by omega)).trans hg0] at e0
                        have ef0 := hb1.free i
                        have d2 := (hbB.out.but (but_set wr C (i + 1) (.bool (false))) hBC).cell (i := i) (by omega)
                        rw [hf0] at d2 d0
                        rw [hf1] at d1
                        have hb2 := (hb1.set i (false)).congr (fun j _ => nextK_star (c := cr) hq hqa (by rw [hf0, hf1]; rfl) (by rw [hf0, hg0]; rfl) j)
                        have hgx := (hg.out.set (p := ⟨C, i + 1, none⟩) hC2.out (.bool (false))).set (p := ⟨C, i, none⟩) hC2.out (.bool (false))
                        have hbx := (hbB.out.but (but_set wr C (i + 1) (.bool (false))) hBC).but (but_set _ C i (.bool (false))) hBC
                        have hix := (hit.out.but (but_set wr C (i + 1) (.bool (false))) hIC.out).but (but_set _ C i (.bool (false))) hIC.out
                        replace hb2 := Lib.hid hb2
                        replace hgx := Lib.hid hgx
                        replace hbx := Lib.hid hbx
                        replace hix := Lib.hid hix
                        replace hf0 := Lib.hid hf0
                        replace hf1 := Lib.hid hf1
                        replace hg0 := Lib.hid hg0
                        replace hq := Lib.hid hq
                        replace hqa := Lib.hid hqa
                        clear hb1 hg hit hbB hbC
                        go_wp2_with fail
                        go_roundw
                        case rel => exact ⟨i + 1, by omega, by go_num, hbx, hb2, hix, hgx⟩
                        case measure => (simp [intOf] <;> omega)
                | false =>
                  have hsq2 := hsq
                  rw [hqa] at hsq2
                  rw [hsq2] at x0
                  have hcall := htakes.out hqa cr
                  rw [hsq2] at hcall
                  replace hcall := Lib.hid hcall
                  replace hsq := Lib.hid hsq
                  replace hsq2 := Lib.hid hsq2
                  cases hf0 : f i with
                  | false =>
                    rw [hf0] at d0
                    have hb2 := (hbC.out.set (i + 1) false).congr (fun j _ => nextK_fit (c := cr) hq hqa (by rw [hf0]; rfl) j)
                    have hgx := hg.out.set (p := ⟨C, i + 1, none⟩) hC2.out (.bool false)
                    have hbx := hbB.out.but (but_set wr C (i + 1) (.bool false)) hBC
                    have hix := hit.out.but (but_set wr C (i + 1) (.bool false)) hIC.out
                    replace hb2 := Lib.hid hb2
                    replace hgx := Lib.hid hgx
                    replace hbx := Lib.hid hbx
                    replace hix := Lib.hid hix
                    replace hf0 := Lib.hid hf0
                    replace hq := Lib.hid hq
                    replace hqa := Lib.hid hqa
                    clear hg hit hbB hbC d1
                    go_wp2_with fail
                    go_roundw
                    case rel => exact ⟨i + 1, by omega, by go_num, hbx, hb2, hix, hgx⟩
                    case measure => (simp [intOf] <;> omega)
                  | true =>
                    rw [hf0] at d0
                    clear d1
                    obtain ⟨u, hu⟩ : ∃ u, q.fits cr = u := ⟨_, rfl⟩
                    rw [hu] at hcall
                    have hb2 := fun wm (hgm : G wr wm) => ((hbC.out.grow hgm).set (i + 1) u).congr (fun j _ => nextK_fit (c := cr) hq hqa (by rw [hf0, hu]; rfl) j)
                    replace hb2 := Lib.hid hb2
                    replace hf0 := Lib.hid hf0
                    replace hu := Lib.hid hu
                    replace hq := Lib.hid hq
                    replace hqa := Lib.hid hqa
                    go_wp2_with fail
                    refine Calls.mono hcall.out ?_
                    rintro e wm ⟨rfl, hgm⟩
                    have b2 := (hbC.out.grow hgm).cell (i := i + 1) (by omega)
                    have bf2 := (hbC.out.grow hgm).free (i + 1)
                    have hb3 := hb2.out wm hgm
                    have hgx := (hg.out.trans hgm).set (p := ⟨C, i + 1, none⟩) hC2.out (.bool u)
                    have hbx := (hbB.out.grow hgm).but (but_set wm C (i + 1) (.bool u)) hBC
                    have hix := (hit.out.g hgm).but (but_set wm C (i + 1) (.bool u)) hIC.out
                    replace hb3 := Lib.hid hb3
                    replace hgx := Lib.hid hgx
                    replace hbx := Lib.hid hbx
                    replace hix := Lib.hid hix
                    clear hg hit hbB hbC b1 bf1 hb2 hcall x0 x1 x2 x3 d0
                    go_wp2_with fail
                    go_roundw
                    case rel => exact ⟨i + 1, by omega, by go_num, hbx, hb3, hix, hgx⟩
                    case measure => (simp [intOf] <;> omega)
              · have n2 : ¬ (i : Int) < (n : Int) := by omega
                have hie : i = n := by omega
                obtain ⟨g, hgd⟩ : ∃ g, nextK qs f cr n = g := ⟨_, rfl⟩
                rw [hie, hgd] at hbC
                replace hgd := Lib.hid hgd
                replace hie := Lib.hid hie
                clear hbB
                go_wp2_with fail
                obtain ⟨wq, rfl⟩ : ∃ wq : World, wq = wr := ⟨_, rfl⟩
                go_loopw [13] (fun v wr => ∃ i : Nat, i ≤ n ∧ v = .int .i64 i ∧ Hid (BoolsAt wr C n (passK qs g i)) ∧ Hid (IterAt wr wi.heap.size s (k + 1)) ∧ Hid (G w2 wr)) (fun v _ => n - (intOf v).toNat)
                case atStart => exact ⟨0, Nat.zero_le _, rfl, hbC.out.congr (fun j _ => (passK_zero _ _ _).symm), hit, hg⟩
                case round =>
                  clear hbC hit hg hi hie hin n2
                  obtain ⟨i, hi, rfl, hbC, hit, hg⟩ := hrel
                  by_cases hin : i < n
                  · obtain ⟨m, hm2⟩ : ∃ m, ms[i]? = some m := ⟨_, List.getElem?_eq_getElem (by rw [hnm.out]; exact hin)⟩
                    obtain ⟨b, o, q, rfl, hq, hsq, x0, _, _, _, _⟩ := hpc.out wr hg.out i m hm2
                    have b0 := hbC.out.cell (i := i) (by omega)
                    rw [show passK qs g i i = passB qs g i from passK_all _ _ (Nat.le_refl _)] at b0
                    have n1 : (0 : Int) ≤ (i : Int) := by omega
                    have n2 : (i : Int) < (n : Int) := by omega
                    have n3 : (0 : Int) ≤ (i : Int) + 1 := by omega
                    have n4 : (i : Int) < (n : Int) + 1 := by omega
                    have n5 : (i : Int) + 1 < (n : Int) + 1 := by omega
                    have n6 : ((i : Int) + 1).toNat = i + 1 := by omega
                    replace hm2 := Lib.hid hm2
                    have hps := passB_succ (f := g) hq
                    cases hqa : q.any with
                    | true =>
                      rw [hsq, hqa] at x0
                      rw [hqa, Bool.true_and] at hps
                      replace hsq := Lib.hid hsq
                      replace hqa := Lib.hid hqa
                      replace hq := Lib.hid hq
                      cases hg0 : passB qs g i with
                      | true =>
                        rw [hg0] at b0 hps
                        rw [Bool.or_true] at hps
                        have b1 := hbC.out.cell (i := i + 1) (by omega)
                        have bf1 := hbC.out.free (i + 1)
                        have hbx := (hbC.out.set (i + 1) true).congr (fun j _ => passK_set hps j)
                        have hgx := hg.out.set (p := ⟨C, i + 1, none⟩) hC2.out (.bool true)
                        have hix := hit.out.but (but_set wr C (i + 1) (.bool true)) hIC.out
                        replace hps := Lib.hid hps
                        replace hbx := Lib.hid hbx
                        replace hgx := Lib.hid hgx
                        replace hix := Lib.hid hix
                        replace hg0 := Lib.hid hg0
                        clear hg hit hbC
                        go_wp2_with fail
                        go_roundw
                        case rel => exact ⟨i + 1, by omega, by go_num, hbx, hix, hgx⟩
                        case measure => (simp [intOf] <;> omega)
                      | false =>
                        rw [hg0] at b0 hps
                        rw [Bool.or_false] at hps
                        have hbx := hbC.out.congr (fun j _ => passK_keep hps j)
                        replace hps := Lib.hid hps
                        replace hbx := Lib.hid hbx
                        replace hg0 := Lib.hid hg0
                        clear hbC
                        go_wp2_with fail
                        go_roundw
                        case rel => exact ⟨i + 1, by omega, by go_num, hbx, hit, hg⟩
                        case measure => (simp [intOf] <;> omega)
                    | false =>
                      rw [hsq, hqa] at x0
                      rw [hqa, Bool.false_and, Bool.or_false] at hps
                      replace hsq := Lib.hid hsq
                      replace hqa := Lib.hid hqa
                      replace hq := Lib.hid hq
                      have hbx := hbC.out.congr (fun j _ => passK_keep hps j)
                      obtain ⟨vv, hg0⟩ : ∃ vv, passB qs g i = vv := ⟨_, rfl⟩
                      rw [hg0] at b0
                      replace hps := Lib.hid hps
                      replace hbx := Lib.hid hbx
                      replace hg0 := Lib.hid hg0
                      clear hbC
                      go_wp2_with fail
                      go_roundw
                      case rel => exact ⟨i + 1, by omega, by go_num, hbx, hit, hg⟩
                      case measure => (simp [intOf] <;> omega)
                  · have n2 : ¬ (i : Int) < (n : Int) := by omega
                    have hie : i = n := by omega
                    have hbx := hbC.out.congr (g' := canB qs ((runesL s).take (k + 1))) (fun j hj => by
                      rw [hie, passK_all _ _ hj, ← hgd.out, ← hf.out, htk.out, ← next_law qs _ _ j (by rw [hnq.out]; exact hj), hnq.out])
                    replace hbx := Lib.hid hbx
                    replace hie := Lib.hid hie
                    clear hbC
                    go_wp2_with fail
                    go_roundw
                    case rel => exact ⟨k + 1, C, by omega, rfl, hC2, hit, hbx, hg⟩
                    case measure => rw [hpos.out, hit.out.pos]; exact hless.out
          · have hkn : k = (cks s.data.toList).length := by omega
            have hnx := fun ty => run_next_over (P := Tryd.prog) ty hit.out (by omega)
            have bn := hbB.out.cell (i := n) (Nat.le_refl _)
            rw [List.take_of_length_le (by rw [runesL_len]; omega), ← hnq.out, canB_all, hnq.out] at bn
            generalize hq : matchL qs (runesL s) = Q at *
            replace hq := Lib.hid hq
            replace hkn := Lib.hid hkn
            have n1 : (0 : Int) ≤ (n : Int) := by omega
            have n2 : (n : Int) < (n : Int) + 1 := by omega
            clear hbB
            go_wp2_with fail
            go_ret
            exact ⟨by rw [hm.out]; rfl, hgw2.out.trans hg.out⟩
end Go.Proofs.YthhhobfdlgmjlaaDoor

/- glob.Match: what it answers. Condition: at most 2^30 bytes; the decoder's tables lie as the library lays them. -/
import Derived.Test.YthhhobfdlgmjlaaDoorGlobPassQWholeRow
import Derived.BigRegion
namespace Go.Proofs.YthhhobfdlgmjlaaDoor
open Go.RowKit

/-- Does a pattern stand for a text? -/
def matchB (p s : ByteArray) : Bool := patOk p && validB s && matchL (patP p) (runesL s)
theorem parseF_len : ∀ (n : Nat) (l : List Nat) (b : Bool), (parseF n l b).1.length ≤ l.length
  | 0, _, _ => Nat.zero_le _
  | n + 1, l, b => by
    rw [parseF]
    split
    · exact Nat.zero_le _
    · rename_i h
      rw [not_or] at h
      have hb : b = false := by simpa using h.2
      subst hb
      have h1 := oneS_le l h.1
      have h2 := parseF_len n (oneS l false).2.1 (oneS l false).2.2
      simp only [List.length_cons]
      omega
/-- The bools behind some rounds over the pieces, from the last one on. -/
def stepK (ps : List Pc) (f : Nat → Bool) (c i j : Nat) : Bool := if i < j then stepB ps f c j else f j
theorem stepK_set (ps : List Pc) (f : Nat → Bool) (c q j : Nat) : upd (stepK ps f c (q + 1)) (q + 1) (stepB ps f c (q + 1)) j = stepK ps f c q j := by
  unfold upd stepK
  by_cases h : j = q + 1
  · subst h
    rw [if_pos rfl, if_pos (by omega)]
  · rw [if_neg h]
    by_cases h2 : q + 1 < j
    · rw [if_pos h2, if_pos (by omega)]
    · rw [if_neg h2, if_neg (by omega)]
theorem stepK_zero (ps : List Pc) (f : Nat → Bool) (c j : Nat) : upd (stepK ps f c 0) 0 false j = stepB ps f c j := by
  unfold upd stepK
  by_cases h : j = 0
  · subst h
    rw [if_pos rfl]; rfl
  · rw [if_neg h, if_pos (by omega)]
theorem stepB_at {ps : List Pc} {f : Nat → Bool} {c q : Nat} {p : Pc} (h : ps[q]? = some p) : stepB ps f c (q + 1) = if p.any = true then f (q + 1) || f q else p.fits c && f q := by rw [stepB, h]
def cellD (w : World) (a : Addr) : Value := (w.cell? a).getD undef
/-- The world in a region that reads a row's bool and stores the next one. -/
def SB (W : World) (B q : Nat) (w' : World) : Prop := True → (But (fun k => k = B) W w' ∧ w'.frozen? ⟨B, q + 1, none⟩ = false ∧ w'.cell? ⟨B, q, none⟩ = W.cell? ⟨B, q, none⟩ ∧ ∃ u, w'.cell? ⟨B, q + 1, none⟩ = some u)
theorem SB.start {W : World} {B n q : Nat} {g : Nat → Bool} (h : BoolsAt W B n g) (hq : q + 1 ≤ n) : SB W B q W.drew := fun _ => ⟨(But.refl _ _).drew, h.free _, rfl, _, h.cell hq⟩
theorem SB.grow {W w w' : World} {B q : Nat} (h : SB W B q w) (hB : B < W.heap.size) (hg : G w w') : SB W B q w' := fun _ => by
  obtain ⟨h1, h2, h3, u, h4⟩ := h trivial
  have hlt : B < w.heap.size := Nat.lt_of_lt_of_le hB h1.size
  exact ⟨h1.g hg, (hg.frozen hlt).trans h2, (hg.cell hlt).trans h3, u, (hg.cell hlt).trans h4⟩
theorem SB.keep {W w w' : World} {B q : Nat} (hB : B < W.heap.size) (hg : G w w') (h : SB W B q w) : SB W B q w' := h.grow hB hg
theorem SB.set {W w : World} {B q : Nat} (h : SB W B q w) (v : Value) : SB W B q (w.setCell ⟨B, q + 1, none⟩ v) := fun _ => by
  obtain ⟨h1, h2, h3, u, h4⟩ := h trivial
  refine ⟨h1.trans (but_set _ B _ v), ?_, ?_, ?_⟩
  · rw [World.frozen?_setCell]; exact h2
  · rw [← h3]
    exact World.cell?_setCell_other w _ _ v (by intro e; have := congrArg Addr.off e; simp at this)
  · exact ⟨v, World.cell?_setCell_same w _ v h4⟩
theorem SB.other {W w : World} {B q b o : Nat} (h : SB W B q w) (hb : b < W.heap.size) (hne : b ≠ B) : w.cell? ⟨b, o, none⟩ = W.cell? ⟨b, o, none⟩ := (h trivial).1.cell hb hne
theorem SB.prev {W w : World} {B q : Nat} (h : SB W B q w) : w.cell? ⟨B, q, none⟩ = W.cell? ⟨B, q, none⟩ := (h trivial).2.2.1
theorem SB.free {W w : World} {B q : Nat} (h : SB W B q w) : w.frozen? ⟨B, q + 1, none⟩ = false := (h trivial).2.1
theorem SB.here {W w : World} {B q : Nat} (h : SB W B q w) : w.cell? ⟨B, q + 1, none⟩ = some (cellD w ⟨B, q + 1, none⟩) := by
  obtain ⟨_, _, _, u, h4⟩ := h trivial
  unfold cellD
  rw [h4]; rfl
set_option maxRecDepth 100000 in
set_option maxHeartbeats 4000000 in
theorem match_any (p s : ByteArray) (w : World) (hp : p.size ≤ 1073741824) (hs : s.size ≤ 1073741824) (hT : Tabs w) :
    Calls Tryd.prog 39 #[.string p, .string s] w fun e w' => e = .returned (.bool (matchB p s)) ∧ G w w' := by
  have hpa := parse_any p w hp hT
  have hvs : ∀ w', G w w' → _ := fun w' h => valid_any s w' (by omega) (hT.g h)
  have hl : (cks s.data.toList).length ≤ 1073741824 := Nat.le_trans (cks_length_le _) (by simpa using hs)
  replace hvs := Lib.hid hvs
  go_enter Tryd.func39, Tryd.ntmps39
  go_wp2_with fail
  refine hpa.mono ?_
  clear hpa
  rintro e w1 ⟨A, n, c, rfl, hms, hg1⟩
  cases hok : patOk p with
  | false =>
    have hm : matchB p s = false := by unfold matchB; rw [hok]; rfl
    replace hm := Lib.hid hm
    replace hok := Lib.hid hok
    clear hms
    go_wp2_with fail
    go_ret
    exact ⟨by rw [hm.out]; rfl, hg1.alloc _⟩
  | true =>
    obtain ⟨ms, hmp, hps⟩ := hms hok
    have hnn : n ≤ 40 := by
      have h1 := congrArg List.length hmp
      rw [List.length_map] at h1
      have h2 := parseF_len ((runesL p).length + 1) (runesL p) false
      have h3 : ((cks p.data.toList).length : Int) ≤ 40 := by
        unfold patOk at hok
        rw [Bool.and_eq_true, Bool.and_eq_true] at hok
        exact of_decide_eq_true hok.1.2
      have h4 := runesL_len p
      unfold patP parseL at h1
      rw [hps.1]
      omega
    have hv2 := hvs.out _ (hg1.alloc (.cells #[.slice A n c] 100))
    cases hv : validB s with
    | false =>
      rw [hv] at hv2
      have hm : matchB p s = false := by unfold matchB; rw [hv, Bool.and_false]; rfl
      replace hm := Lib.hid hm
      replace hok := Lib.hid hok
      replace hps := Lib.hid hps
      replace hmp := Lib.hid hmp
      clear hms
      go_wp2_with fail
      refine hv2.mono ?_
      clear hv2
      rintro e w2 ⟨rfl, hg2⟩
      go_wp2_with fail
      go_ret
      exact ⟨by rw [hm.out]; rfl, (hg1.alloc _).trans hg2⟩
    | true =>
      rw [hv] at hv2
      have hm : matchB p s = matchL (ms.map PcM.p) (runesL s) := by unfold matchB; rw [hok, hv, hmp]; rfl
      replace hm := Lib.hid hm
      replace hok := Lib.hid hok
      replace hps := Lib.hid hps
      replace hmp := Lib.hid hmp
      clear hms
      go_wp2_with fail
      refine hv2.mono ?_
      clear hv2
      rintro e w2 ⟨rfl, hg2⟩
      have hL2 : w2.heap[w1.heap.size]? = some (.cells #[.slice A n c] 100 (0, 0)) := hg2.blk (blk_new _ _ _)
      have l2 := (blk_cell hL2 0).trans (show _ = some (.slice A n c) from rfl)
      obtain ⟨w3, hmk, hb3, hg3⟩ := make_bools w2 n (by omega)
      have hps4 : PcsAt (w3.alloc (.cells #[.slice (some ⟨w2.heap.size, 0, none⟩) (n + 1) (n + 1)] 85)) w.heap.size A n c ms := by
        have hgg := ((G.new w1 (.cells #[.slice A n c] 100)).trans (hg2.trans hg3)).trans (G.new w3 (.cells #[.slice (some ⟨w2.heap.size, 0, none⟩) (n + 1) (n + 1)] 85))
        exact ⟨hps.out.1, hps.out.2.1.g hgg, fun m hm => (hps.out.2.2 m hm).g hgg⟩
      have hst4 : MatchSt w.heap.size w1.heap.size w3.heap.size w2.heap.size A n c ms (fun _ => false) (w3.alloc (.cells #[.slice (some ⟨w2.heap.size, 0, none⟩) (n + 1) (n + 1)] 85)) :=
        ⟨(G.new _ _).blk (hg3.blk hL2), blk_new _ _ _, hb3.grow (G.new _ _), hps4⟩
      have hst5 := (hst4.set 0 true).congr (g' := fun i => decide (i = 0)) (fun i _ => by unfold upd; by_cases h : i = 0 <;> simp [h])
      have f0 := hst4.b.free 0
      have c0 := hst4.b.cell (Nat.zero_le _)
      have hg5 : G w ((w3.alloc (.cells #[.slice (some ⟨w2.heap.size, 0, none⟩) (n + 1) (n + 1)] 85)).setCell ⟨w2.heap.size, 0, none⟩ (.bool true)) :=
        ((((hg1.alloc _).trans hg2).trans hg3).alloc _).set (p := ⟨w2.heap.size, 0, none⟩) (by have := ((hg1.alloc (.cells #[.slice A n c] 100)).trans hg2).size; exact this) _
      have hpass := pass_any _ _ _ _ A n c ms _ _ (by omega) hst5
      have hBw : w.heap.size ≤ w2.heap.size := ((hg1.alloc (.cells #[.slice A n c] 100)).trans hg2).size
      replace hst5 := Lib.hid hst5
      replace hg5 := Lib.hid hg5
      replace hBw := Lib.hid hBw
      have hz3 : w3.heap.size + 1 = w3.heap.size + 1 := rfl
      clear hst4 hps4 hb3 hL2 hg3
      go_wp2_with fail
      refine hpass.mono ?_
      clear hpass
      rintro e w5 ⟨rfl, hb5, hbt5⟩
      have hst6 := hst5.out.butB hbt5 (hb5.congr (g' := mrow (ms.map PcM.p) []) (fun i hi => pass_start _ i (by rw [List.length_map, ← hps.out.1]; exact hi)))
      have hg6 := hg5.out.next hbt5 hBw.out
      replace hst6 := Lib.hid hst6
      replace hg6 := Lib.hid hg6
      clear hb5 hbt5 hst5 hg5 f0 c0 l2 hmk hg2 hg1 hz3
      generalize w1.heap.size = L at *
      generalize w3.heap.size = M at *
      generalize w2.heap.size = B at *
      have hIw : Hid (w.heap.size ≤ w5.heap.size) := hg6.out.size
      go_wp2_with fail
      go_loopw [10] (fun _ wr => ∃ k : Nat, k ≤ (cks s.data.toList).length ∧ Hid (IterAt wr w5.heap.size s k) ∧ Hid (MatchSt w.heap.size L M B A n c ms (mrow (ms.map PcM.p) ((runesL s).take k)) wr) ∧ Hid (G w wr)) (fun _ wr => s.size - wr.iterPos w5.heap.size)
      case atStart => exact ⟨0, Nat.zero_le _, IterAt.start w5 s, hst6.out.grow (G.iter _ _ _), hg6.out.trans (G.iter _ _ _)⟩
      case round =>
        clear hst6 hg6
        obtain ⟨k, hk, hit, hst, hg⟩ := hrel
        by_cases hlt : k < (cks s.data.toList).length
        · obtain ⟨pc, hpc⟩ := piece_at hlt
          have hrk : (runesL s)[k]? = some pc.r := by unfold runesL; rw [List.getElem?_map, hpc]; rfl
          have htk := take_snoc' hrk
          have hpos := hit.out.pos
          have hless := off_less hpc
          obtain ⟨w6, hnx, hit6, hbt6, hsz6⟩ := run_next_piece (P := Tryd.prog) hit.out hpc
          have hI0 : wr.heap[w5.heap.size]? = some (.stringIter s _) := hit.out
          have hst7 := hst.out.but hbt6 (fun k cs t h e => by rw [e, hI0] at h; cases h)
          have hIB : w5.heap.size ≠ B := by
            rintro e
            obtain ⟨cs, h1, _⟩ := hst.out.b
            rw [← e, hI0] at h1
            cases h1
          have hg7 := hg.out.next hbt6 hIw.out
          obtain ⟨cb, cr⟩ := pc
          dsimp only at hnx htk
          generalize hf : mrow (ms.map PcM.p) ((runesL s).take k) = f at *
          have lc := hst7.lc
          replace hf := Lib.hid hf
          replace htk := Lib.hid htk
          replace hpos := Lib.hid hpos
          replace hless := Lib.hid hless
          replace hit6 := Lib.hid hit6
          replace hst7 := Lib.hid hst7
          replace hg7 := Lib.hid hg7
          replace hIB := Lib.hid hIB
          clear hit hst hg hbt6 hsz6 hrk hpc hI0
          go_wp2_with fail
          obtain ⟨wo, rfl⟩ : ∃ wo : World, wo = w6 := ⟨_, rfl⟩
          go_loopw [11] (fun v wr => ∃ i : Nat, i ≤ n ∧ v = .int .i64 i ∧ Hid (MatchSt w.heap.size L M B A n c ms (stepK (ms.map PcM.p) f cr i) wr) ∧ Hid (IterAt wr w5.heap.size s (k + 1)) ∧ Hid (G w wr)) (fun v _ => (intOf v).toNat)
          case atStart =>
            refine ⟨n, Nat.le_refl _, rfl, hst7.out.congr (fun i hi => ?_), hit6, hg7⟩
            unfold stepK
            rw [if_neg (by omega)]
          case round =>
            clear hst7 hit6 hg7 lc
            obtain ⟨i, hin, rfl, hst, hit, hg⟩ := hrel
            rcases i with _ | q
            · have hst1 := (hst.out.set 0 false).congr (fun j _ => stepK_zero _ _ _ j)
              have hg1 := hg.out.set (p := ⟨B, 0, none⟩) hBw.out (.bool false)
              have hit1 := hit.out.but (but_set _ B 0 (.bool false)) hIB.out
              have m0 := hst.out.mc
              have b0 := hst.out.b.cell (Nat.zero_le _)
              have bf := hst.out.b.free 0
              have hpass := pass_any _ _ _ _ A n c ms _ _ (by omega) hst1
              replace hst1 := Lib.hid hst1
              replace hg1 := Lib.hid hg1
              replace hit1 := Lib.hid hit1
              clear hst hit hg
              go_wp2_with fail
              refine hpass.mono ?_
              clear hpass
              rintro e w8 ⟨rfl, hb8, hbt8⟩
              have hst9 := hst1.out.butB hbt8 (hb8.congr (g' := mrow (ms.map PcM.p) ((runesL s).take (k + 1))) (fun i hi => by
                rw [htk.out, ← hf.out]
                exact pass_step _ _ _ i (by rw [List.length_map, ← hps.out.1]; exact hi)))
              have hit9 := hit1.out.but hbt8 hIB.out
              have hg9 := hg1.out.next hbt8 hBw.out
              replace hst9 := Lib.hid hst9
              replace hit9 := Lib.hid hit9
              replace hg9 := Lib.hid hg9
              clear hb8 hbt8 m0 b0 bf
              go_wp2_with fail
              go_roundw
              case rel => exact ⟨k + 1, by omega, hit9, hst9, hg9⟩
              case measure => rw [hpos.out, hit9.out.pos]; exact hless.out
            · obtain ⟨m, hm⟩ : ∃ m, ms[q]? = some m := ⟨_, List.getElem?_eq_getElem (by rw [← hps.out.1]; omega)⟩
              have lc := hst.out.lc
              obtain ⟨b, o, rfl, c0, c1, c2, c3⟩ := hst.out.pc hm
              have hpk : (ms.map PcM.p)[q]? = some m.p := by rw [List.getElem?_map, hm]; rfl
              have hsv0 := stepB_at (f := f) (c := cr) hpk
              have hmem : m ∈ ms := List.mem_of_getElem? hm
              obtain ⟨⟨k0, r0, st, no⟩, Am, cm⟩ := m
              dsimp only at c0 c1 c2 c3 hsv0
              have hst1 := hst.out.grow (G.new wr (.cells #[.int .i64 k0, .int .i32 r0, .slice Am st.length cm, .bool no] 112))
              have hg1 := hg.out.alloc (.cells #[.int .i64 k0, .int .i32 r0, .slice Am st.length cm, .bool no] 112)
              have hit1 := hit.out.g (G.new wr (.cells #[.int .i64 k0, .int .i32 r0, .slice Am st.length cm, .bool no] 112))
              have m0 := hst1.mc
              have b0 := hst1.b.cell (i := q) (by omega)
              have b1 := hst1.b.cell (i := q + 1) (by omega)
              have bf := hst1.b.free (q + 1)
              rw [show stepK (ms.map PcM.p) f cr (q + 1) q = f q from if_neg (by omega)] at b0
              rw [show stepK (ms.map PcM.p) f cr (q + 1) (q + 1) = f (q + 1) from if_neg (by omega)] at b1
              have n1 : (0 : Int) ≤ (q : Int) := by omega
              have n3 : (q : Int) < (n : Int) := by omega
              have n4 : (q : Int) < (n : Int) + 1 := by omega
              have n5 : (q : Int) + 1 < (n : Int) + 1 := by omega
              have n6 : ((q : Int) + 1).toNat = q + 1 := by omega
              have n2 : IntKind.i64.wrap (((q + 1 : Nat) : Int) - 1) = (q : Int) := by rw [IntWalk.i64_in _ (by omega)]; omega
              replace hst1 := Lib.hid hst1
              replace hg1 := Lib.hid hg1
              replace hit1 := Lib.hid hit1
              clear hm hpk hst hg hit
              by_cases h1 : k0 = 1
              · have hany : Pc.any ⟨k0, r0, st, no⟩ = true := decide_eq_true h1
                rw [hany, if_pos rfl] at hsv0
                have t1 : ((k0 : Int) == 1) = true := by rw [beq_iff_eq]; omega
                replace h1 := Lib.hid h1
                cases hv1 : f (q + 1) with
                | true =>
                  have hsv : Hid (stepB (ms.map PcM.p) f cr (q + 1) = true) := by rw [hv1] at hsv0; exact hsv0
                  rw [hv1] at b1
                  replace hv1 := Lib.hid hv1
                  clear hsv0
                  have hst9 := (hst1.out.set (q + 1) true).congr (g' := stepK (ms.map PcM.p) f cr q) (fun j _ => by rw [← hsv.out]; exact stepK_set _ _ _ _ _)
                  have hg9 := hg1.out.set (p := ⟨B, q + 1, none⟩) hBw.out (.bool true)
                  have hit9 := hit1.out.but (but_set _ B (q + 1) (.bool true)) hIB.out
                  replace hst9 := Lib.hid hst9
                  replace hg9 := Lib.hid hg9
                  replace hit9 := Lib.hid hit9
                  go_wp2_with fail
                  go_region
                  all_goals
                    clear m0 b0 b1 bf n2 n6
                    go_wp2_with fail
                    go_roundw
                    case rel => exact ⟨q, by omega, by go_num, hst9.out.grow ((G.refl _).drew), hit9.out.g ((G.refl _).drew), hg9.out.drew⟩
                    case measure => (simp [intOf] <;> omega)
                | false =>
                  rw [hv1] at b1 hsv0
                  rw [Bool.false_or] at hsv0
                  replace hv1 := Lib.hid hv1
                  cases hv0 : f q with
                  | true =>
                    have hsv : Hid (stepB (ms.map PcM.p) f cr (q + 1) = true) := by rw [hv0] at hsv0; exact hsv0
                    rw [hv0] at b0
                    replace hv0 := Lib.hid hv0
                    clear hsv0
                    have hst9 := (hst1.out.set (q + 1) true).congr (g' := stepK (ms.map PcM.p) f cr q) (fun j _ => by rw [← hsv.out]; exact stepK_set _ _ _ _ _)
                    have hg9 := hg1.out.set (p := ⟨B, q + 1, none⟩) hBw.out (.bool true)
                    have hit9 := hit1.out.but (but_set _ B (q + 1) (.bool true)) hIB.out
                    replace hst9 := Lib.hid hst9
                    replace hg9 := Lib.hid hg9
                    replace hit9 := Lib.hid hit9
                    go_wp2_with fail
                    go_region
                    all_goals
                      clear m0 b0 b1 bf n2 n6
                      go_wp2_with fail
                      go_roundw
                      case rel => exact ⟨q, by omega, by go_num, hst9.out.grow ((G.refl _).drew), hit9.out.g ((G.refl _).drew), hg9.out.drew⟩
                      case measure => (simp [intOf] <;> omega)
                  | false =>
                    have hsv : Hid (stepB (ms.map PcM.p) f cr (q + 1) = false) := by rw [hv0] at hsv0; exact hsv0
                    rw [hv0] at b0
                    replace hv0 := Lib.hid hv0
                    clear hsv0
                    have hst9 := (hst1.out.set (q + 1) false).congr (g' := stepK (ms.map PcM.p) f cr q) (fun j _ => by rw [← hsv.out]; exact stepK_set _ _ _ _ _)
                    have hg9 := hg1.out.set (p := ⟨B, q + 1, none⟩) hBw.out (.bool false)
                    have hit9 := hit1.out.but (but_set _ B (q + 1) (.bool false)) hIB.out
                    replace hst9 := Lib.hid hst9
                    replace hg9 := Lib.hid hg9
                    replace hit9 := Lib.hid hit9
                    go_wp2_with fail
                    go_region
                    all_goals
                      clear m0 b0 b1 bf n2 n6
                      go_wp2_with fail
                      go_roundw
                      case rel => exact ⟨q, by omega, by go_num, hst9.out.grow ((G.refl _).drew), hit9.out.g ((G.refl _).drew), hg9.out.drew⟩
                      case measure => (simp [intOf] <;> omega)
              · have hany : Pc.any ⟨k0, r0, st, no⟩ = false := decide_eq_false h1
                rw [hany, if_neg (by simp)] at hsv0
                have t1 : ((k0 : Int) == 1) = false := by rw [beq_eq_false_iff_ne]; omega
                replace h1 := Lib.hid h1
                cases hv0 : f q with
                | false =>
                  have hsv : Hid (stepB (ms.map PcM.p) f cr (q + 1) = false) := by rw [hv0, Bool.and_false] at hsv0; exact hsv0
                  rw [hv0] at b0
                  replace hv0 := Lib.hid hv0
                  clear hsv0
                  have hst9 := (hst1.out.set (q + 1) false).congr (g' := stepK (ms.map PcM.p) f cr q) (fun j _ => by rw [← hsv.out]; exact stepK_set _ _ _ _ _)
                  have hg9 := hg1.out.set (p := ⟨B, q + 1, none⟩) hBw.out (.bool false)
                  have hit9 := hit1.out.but (but_set _ B (q + 1) (.bool false)) hIB.out
                  replace hst9 := Lib.hid hst9
                  replace hg9 := Lib.hid hg9
                  replace hit9 := Lib.hid hit9
                  go_wp2_with fail
                  go_region
                  all_goals
                    clear m0 b0 b1 bf n2 n6
                    go_wp2_with fail
                    go_roundw
                    case rel => exact ⟨q, by omega, by go_num, hst9.out.grow ((G.refl _).drew), hit9.out.g ((G.refl _).drew), hg9.out.drew⟩
                    case measure => (simp [intOf] <;> omega)
                | true =>
                  rw [hv0, Bool.and_true] at hsv0
                  rw [hv0] at b0
                  obtain ⟨u, hu⟩ : ∃ u, Pc.fits ⟨k0, r0, st, no⟩ cr = u := ⟨_, rfl⟩
                  have hsv : Hid (stepB (ms.map PcM.p) f cr (q + 1) = u) := by rw [hu] at hsv0; exact hsv0
                  replace hv0 := Lib.hid hv0
                  have hX := blk_new wr #[.int .i64 k0, .int .i32 r0, .slice Am st.length cm, .bool no] 112
                  have hown1 := hst1.out.ps.2.2 _ hmem
                  clear hsv0 hmem
                  replace hX := Lib.hid hX
                  replace hown1 := Lib.hid hown1
                  replace m0 := Lib.hid m0
                  replace b0 := Lib.hid b0
                  replace b1 := Lib.hid b1
                  replace bf := Lib.hid bf
                  go_wp2_with fail
                  generalize wr.alloc (.cells #[.int .i64 k0, .int .i32 r0, .slice Am st.length cm, .bool no] 112) = W7 at *
                  obtain ⟨bs, hB7, _⟩ := hst1.out.b
                  have hBl := blk_lt hB7
                  have hMl := blk_lt hst1.out.m
                  have hXl := blk_lt hX.out
                  have hne : ∀ (j : Nat) (cs : Array Value) (t : TypeId), W7.heap[j]? = some (.cells cs t (0, 0)) → t ≠ 4 → j ≠ B := fun j cs t h1 h2 e => by
                    rw [e, hB7] at h1
                    cases h1
                    exact h2 rfl
                  have fM : ∀ w', SB W7 B q w' → w'.cell? ⟨M, 0, none⟩ = _ := fun w' h => (h.other hMl (hne _ _ _ hst1.out.m (by decide))).trans m0.out
                  have fX : ∀ o w', SB W7 B q w' → w'.cell? ⟨wr.heap.size, o, none⟩ = _ := fun o w' h => (h.other hXl (hne _ _ _ hX.out (by decide))).trans (blk_cell hX.out o)
                  have x0 : ∀ w', SB W7 B q w' → w'.cell? ⟨wr.heap.size, 0, none⟩ = some (.int .i64 k0) := fX 0
                  have x1 : ∀ w', SB W7 B q w' → w'.cell? ⟨wr.heap.size, 1, none⟩ = some (.int .i32 r0) := fX 1
                  have x2 : ∀ w', SB W7 B q w' → w'.cell? ⟨wr.heap.size, 2, none⟩ = some (.slice Am st.length cm) := fX 2
                  have x3 : ∀ w', SB W7 B q w' → w'.cell? ⟨wr.heap.size, 3, none⟩ = some (.bool no) := fX 3
                  have fq : ∀ w', SB W7 B q w' → w'.cell? ⟨B, q, none⟩ = some (.bool true) := fun w' h => h.prev.trans b0.out
                  have fh : ∀ w', SB W7 B q w' → w'.cell? ⟨B, q + 1, none⟩ = some (cellD w' ⟨B, q + 1, none⟩) := fun w' h => h.here
                  have ff : ∀ w', SB W7 B q w' → w'.frozen? ⟨B, q + 1, none⟩ = false := fun w' h => h.free
                  have hfit : ∀ w', SB W7 B q w' → Calls Tryd.prog 57 #[.agg #[.int .i64 k0, .int .i32 r0, .slice Am st.length cm, .bool no], .int .i32 cr] w' fun e w'' => e = .returned (.bool u) ∧ G w' w'' := fun w' h => by
                    have h1 : OwnL 124 2 spanC w' w.heap.size (.slice Am st.length cm) st := hown1.out.but' (h trivial).1 (fun j hj e => by
                      obtain ⟨_, _, cs, h2⟩ := hown1.out.blk hj
                      exact hne _ _ _ h2 (by decide) e)
                    obtain ⟨A2, c2, e2, h3, h4, h5⟩ := OwnL.sl spanC_len h1
                    cases e2
                    rw [← hu]
                    exact fits_any k0 r0 st no Am cm cr w' (by omega) h5
                  have n7 : IntKind.i64.wrap ((q : Int) + 1 - 1) = (q : Int) := by rw [IntWalk.i64_in _ (by clear n2 n6; omega)]; clear n2 n6; omega
                  have n8 : ((n + 1 : Nat) : Int) = (n : Int) + 1 := by clear n2 n6 n7; omega
                  have n9 : IntKind.i64.wrap (q : Int) = (q : Int) := IntWalk.i64_in _ (by clear n2 n6 n7 n8; omega)
                  have n10 : q < n := by clear n2 n6 n7 n8 n9; omega
                  have n11 : (0 : Int) ≤ (q : Int) + 1 := by clear n2 n6 n7 n8 n9; omega
                  replace hfit := Lib.hid hfit
                  replace hne := Lib.hid hne
                  replace hB7 := Lib.hid hB7
                  replace hu := Lib.hid hu
                  clear fX
                  go_region_held3 (fun w' => SB W7 B q w') (first | assumption | exact SB.start hst1.out.b (by clear n2 n6 n7 n8 n9; omega) | exact SB.set (by assumption) _ | exact SB.keep hBl hgm (by assumption) | fail) (first | (go_at_call 57; refine (hfit.out _ (by assumption)).mono ?_; rintro e wm ⟨rfl, hgm⟩) | fail)
                  all_goals
                    clear n2 n6 n7 n8 n9 fM x0 x1 x2 x3 fq fh ff
                    have hgw : G W7 wm := ((G.refl W7).drew).trans hgm
                    have hst9 := ((hst1.out.grow hgw).set (q + 1) u).congr (g' := stepK (ms.map PcM.p) f cr q) (fun j _ => by rw [← hsv.out]; exact stepK_set _ _ _ _ _)
                    have hg9 := (hg1.out.trans hgw).set (p := ⟨B, q + 1, none⟩) hBw.out (.bool u)
                    have hit9 := (hit1.out.g hgw).but (but_set _ B (q + 1) (.bool u)) hIB.out
                    replace hst9 := Lib.hid hst9
                    replace hg9 := Lib.hid hg9
                    replace hit9 := Lib.hid hit9
                    clear hgw hgm
                    go_wp2_with fail
                    go_roundw
                    case rel => exact ⟨q, by omega, by go_num, hst9, hit9, hg9⟩
                    case measure => (simp [intOf] <;> omega)
        · have hkn : k = (cks s.data.toList).length := by omega
          have hnx := fun ty => run_next_over (P := Tryd.prog) ty hit.out (by omega)
          have hstz := hst.out
          rw [List.take_of_length_le (by rw [runesL_len]; omega)] at hstz
          have m0 := hstz.mc
          have l0 := hstz.lc
          have bn := hstz.b.cell (Nat.le_refl _)
          have hfin : mrow (ms.map PcM.p) (runesL s) n = matchL (ms.map PcM.p) (runesL s) := by
            rw [← mrow_all, List.length_map, ← hps.out.1]
          rw [hfin] at bn
          replace hfin := Lib.hid hfin
          replace hkn := Lib.hid hkn
          generalize hq : matchL (ms.map PcM.p) (runesL s) = Q at *
          replace hq := Lib.hid hq
          clear hst hstz
          go_wp2_with fail
          go_ret
          exact ⟨by rw [hm.out]; rfl, hg.out⟩
end Go.Proofs.YthhhobfdlgmjlaaDoor

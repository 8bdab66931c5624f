/- penstockref1.Quote: what it answers. Condition: the length is at most 2^30. -/
import Derived.Test.YtjielocmjfmadaaDoorRefAll
import Derived.Test.YtjielocmjfmadaaDoorOwnStr
import Derived.Test.YtjielocmjfmadaaDoorUnqLaw
namespace Go.Proofs.YtjielocmjfmadaaDoor
open Go.RowKit Go.Lib

theorem b0_eq {c : Ck} (h : c.ok) (hs : c.b0 < 128 ∨ c.r < 128) : c.b0 = c.r := by
  have hl := h.len
  rcases hb : c.bs with _ | ⟨b, bs⟩
  · rw [hb] at hl; simp at hl
  · have h1 : c.b0 = b.toNat := by unfold Ck.b0; rw [hb]; rfl
    rcases h.byte (b := b) (by rw [hb]; simp) with ⟨h2, _⟩ | h2
    · omega
    · rcases hs with hs | hs
      · omega
      · have h3 := h.small hs
        rw [hb] at h3
        cases h3
        rw [UInt8.toNat_ofNat'] at h1
        omega
theorem esc_eq {c : Ck} (h : c.ok) : c.esc = (c.bad || (decide (c.b0 < 32) || decide (c.b0 = 127))) := by
  unfold Ck.esc
  rw [Bool.or_comm]
  congr 1
  unfold ctl
  by_cases hs : c.b0 < 128 ∨ c.r < 128
  · rw [b0_eq h hs]
    congr 1
    · rw [decide_eq_decide]; omega
    · rw [decide_eq_decide]; omega
  · rw [decide_eq_false (by omega), decide_eq_false (by omega), decide_eq_false (by omega), decide_eq_false (by omega)]
/-- How a piece is quoted, by its first byte. -/
theorem qPiece_b {c : Ck} (h : c.ok) : qPiece c = if c.b0 = 34 then [92, 34] else if c.b0 = 92 then [92, 92] else if c.b0 = 10 then [92, 110] else if (c.bad || (decide (c.b0 < 32) || decide (c.b0 = 127))) = true then [92, 120, hexC (c.b0 / 16), hexC (c.b0 % 16)] else c.bs := by
  unfold qPiece
  rw [esc_eq h]
  by_cases hs : c.b0 < 128 ∨ c.r < 128
  · rw [b0_eq h hs]
  · rw [if_neg (by omega), if_neg (by omega), if_neg (by omega), if_neg (show ¬ c.b0 = 34 by omega), if_neg (show ¬ c.b0 = 92 by omega), if_neg (show ¬ c.b0 = 10 by omega)]
theorem extract_list (s : ByteArray) (p q : Nat) : (s.extract p q).data.toList = (s.data.toList.drop p).take (q - p) := by
  simp [ByteArray.data_extract, Array.toList_extract, List.extract_eq_take_drop]
/-- A fact that no tactic takes apart. -/
def Kp (p : Prop) : Prop := True → p
theorem Kp.of {p : Prop} (h : p) : Kp p := fun _ => h
theorem OwnL.ruG {w : World} {base : Nat} {A : Option Addr} {l : List UInt8} {k c8 : Nat} {c : Ck} (h : OwnL 38 4 Ru.cells w base (.slice A (cks l).length c8) (allL l (cks l).length)) (hc : (cks l)[k]? = some c) :
    ∃ b o, A = some ⟨b, o, none⟩ ∧ (∀ w', Kp (OwnL 38 4 Ru.cells w' base (.slice (some ⟨b, o, none⟩) (cks l).length c8) (allL l (cks l).length)) → w'.cell? ⟨b, o + k * 4 + 1, none⟩ = some (.int .i64 (off l k)))
      ∧ (∀ w', Kp (OwnL 38 4 Ru.cells w' base (.slice (some ⟨b, o, none⟩) (cks l).length c8) (allL l (cks l).length)) → w'.cell? ⟨b, o + k * 4 + 2, none⟩ = some (.int .i64 (off l (k + 1))))
      ∧ ∀ w', Kp (OwnL 38 4 Ru.cells w' base (.slice (some ⟨b, o, none⟩) (cks l).length c8) (allL l (cks l).length)) → w'.cell? ⟨b, o + k * 4 + 3, none⟩ = some (.bool c.bad) := by
  have key : ∀ w A, OwnL 38 4 Ru.cells w base (.slice A (cks l).length c8) (allL l (cks l).length) → Sl Ru.cells 4 w w.heap.size A (allL l (cks l).length) := fun w A h => by
    obtain ⟨A2, c2, e2, _, _, h2⟩ := OwnL.sl Ru.cells_len h
    rw [allL_len] at e2
    cases e2
    exact h2
  obtain ⟨b, o, rfl, _⟩ := (key w A h).ruG (Nat.le_refl _) hc
  refine ⟨b, o, rfl, fun w' h' => ?_, fun w' h' => ?_, fun w' h' => ?_⟩
  all_goals
    obtain ⟨b2, o2, e2, _, c0, c1, c2, c3⟩ := (key w' _ (h' trivial)).ruG (Nat.le_refl _) hc
    cases e2
  · exact c1 _ (G.refl _)
  · exact c2 _ (G.refl _)
  · exact c3 _ (G.refl _)
theorem piece_bytes {s : ByteArray} {k : Nat} {c : Ck} (hc : (cks s.data.toList)[k]? = some c) : (s.extract (off s.data.toList k) (off s.data.toList (k + 1))).data.toList = c.bs := by
  have hk : k < (cks s.data.toList).length := (List.getElem?_eq_some_iff.1 hc).1
  have h1 := off_drop s.data.toList k
  rw [List.drop_eq_getElem_cons hk] at h1
  have h2 : (cks s.data.toList)[k] = c := by
    have := List.getElem?_eq_getElem hk
    rw [hc] at this
    exact (Option.some.inj this).symm
  rw [h2, flat_cons] at h1
  have h3 := off_succ hc
  rw [extract_list, h1, h3, Nat.add_sub_cancel_left, List.take_left]
set_option maxRecDepth 100000 in
set_option maxHeartbeats 4000000 in
theorem refQuote_any (s : ByteArray) (w : World) (hs : s.size ≤ 1073741824) :
    Calls Tryd.prog 21 #[.string s] w fun e w' => e = .returned (.string (strOf (quoteL s.data.toList))) ∧ G w w' := by
  have hl : (cks s.data.toList).length ≤ 1073741824 := Nat.le_trans (cks_length_le _) (by simpa using hs)
  have hall : ∀ w', _ := fun w' => all_own s w' hs
  replace hall := Lib.hid hall
  go_enter Tryd.func21, Tryd.ntmps21
  go_wp2_with (at_builtin; refine wpList_append_but byte_elem _ rfl (.tmp 7) (.tmp 8) rfl w.heap.size _ [] rfl (OwnL.nil) (w.heap.size + 1) (some ⟨w.heap.size, 0, none⟩) 1 [34] rfl (by intro h; cases h) (Sl.of_blk byteC_len _ (blk_new _ _ _) rfl (by omega)) (by simp) (by simp) (by simp) ?_; intro v' w1 hown1 hkeep hbut; have hg1 : G w w1 := hkeep.g (G.new _ _); clear hkeep hbut; replace hown1 : OwnL 5 1 byteC w1 w.heap.size v' [34] := hown1; obtain ⟨A1, c1, e1, _, _, _⟩ := OwnL.sl byteC_len hown1; subst e1; replace hown1 := Lib.hid hown1)
  refine (hall.out w1).mono ?_
  rintro e w2 ⟨A, c7, rfl, hls, hg2⟩
  have hown2 := hown1.out.g hg2
  replace hown2 := Lib.hid hown2
  have hls2 := hls.mono hg1.size
  replace hls2 := Lib.hid hls2
  replace hg2 := hg1.trans hg2
  clear hls hown1 hg1 hall
  go_wp2_with fail
  go_loopw [3, 5] (fun v i wr => ∃ (k : Nat) (A8 : Option Addr) (n8 c8 : Nat), v = .slice A8 n8 c8 ∧ i = .int .i64 k ∧ k ≤ (cks s.data.toList).length ∧ Hid (OwnL 5 1 byteC wr w.heap.size (.slice A8 n8 c8) (34 :: ((cks s.data.toList).take k).flatMap qPiece)) ∧ Hid (OwnL 38 4 Ru.cells wr w.heap.size (.slice A (cks s.data.toList).length c7) (allL s.data.toList (cks s.data.toList).length)) ∧ G w wr) (fun _ i _ => (cks s.data.toList).length - (Go.RowKit.intOf i).toNat)
  case atStart => exact ⟨0, _, _, _, rfl, rfl, Nat.zero_le _, hown2, hls2, hg2⟩
  case round =>
    clear hown2 hls2 hg2
    obtain ⟨k, A8, n8, c8, rfl, rfl, hk, hown, hls, hg⟩ := hrel
    by_cases hlt : k < (cks s.data.toList).length
    · obtain ⟨c, hc⟩ := piece_at hlt
      have hok := cks_ok _ c (List.mem_of_getElem? hc)
      have hpb := piece_bytes hc
      have hby := piece_byte hc
      have hp1 := off_succ hc
      have hp2 := off_le s.data.toList (k + 1)
      rw [show s.data.toList.length = s.size by simp] at hp2
      have htk := take_snoc' hc
      have hpl := hok.len.2
      have hle := qPieces_le (cs := (cks s.data.toList).take k) fun x hx => cks_ok _ x (List.mem_of_mem_take hx)
      have hle2 : (((cks s.data.toList).take k).flatMap qPiece).length ≤ 17179869184 := by rw [List.length_take] at hle; omega
      obtain ⟨b, o, rfl, c1, c2, c3⟩ := hls.out.ruG hc
      have hq := qPiece_b hok
      obtain ⟨cb, cr⟩ := c
      have hb1 : ∀ w', (Instr.index 9 (.string s) (.int .i64 (off s.data.toList k))).run Tryd.prog w' = .ok (.int .u8 (⟨cb, cr⟩ : Ck).b0) w' := fun w' => run_byte w' s _ _ hby
      have hqs : ((cks s.data.toList).take (k + 1)).flatMap qPiece = ((cks s.data.toList).take k).flatMap qPiece ++ qPiece ⟨cb, cr⟩ := by rw [htk, List.flatMap_append]; simp
      have hx1 : (⟨cb, cr⟩ : Ck).b0 < 256 := by unfold Ck.b0; exact UInt8.toNat_lt _
      have n1 : (0 : Int) ≤ ↑k := by omega
      have n2 : (k : Int) < ↑(cks s.data.toList).length := by omega
      generalize ((cks s.data.toList).take k).flatMap qPiece = qs at *
      dsimp only at hq hpb hpl hp1
      generalize (⟨cb, cr⟩ : Ck).b0 = x at *
      generalize off s.data.toList (k + 1) = p1 at *
      generalize off s.data.toList k = p at *
      have n3 : (0 : Int) ≤ (p : Int) := by omega
      have n4 : (p : Int) ≤ (p1 : Int) := by omega
      have n5 : (p1 : Int) ≤ (s.size : Int) := by omega
      have n6 : (p : Int) < (s.size : Int) := by have := hok.len.1; dsimp only at this; omega
      have hown1 := hown.out
      replace hq := Lib.hid hq
      replace hqs := Lib.hid hqs
      replace hpb := Lib.hid hpb
      replace hown := hown1
      clear hown1 hle htk hc hok hby hp1
      replace c1 := c1
      by_cases h34 : x = 34
      · subst h34
        have c1 := c1 _ (Kp.of hls.out)
        clear c2 c3
        go_wp2_with (at_builtin; refine wpList_append_but byte_elem _ rfl (.tmp 42) (.tmp 43) rfl w.heap.size _ (34 :: qs) rfl (hown.g (G.new _ _)) (wr.heap.size + 1) (some ⟨wr.heap.size, 0, none⟩) 2 [92, 34] rfl (by intro h; cases h) (Sl.of_blk byteC_len _ (blk_new _ _ _) rfl (by omega)) (by simp; omega) (by simp; omega) (by have := hg.size; simp; omega) ?_; intro v' w2 hown2 hkeep hbut)
        have hg2 : G w w2 := hkeep.g (hg.alloc _)
        have hown3 : OwnL 5 1 byteC w2 w.heap.size v' (34 :: ((cks s.data.toList).take (k + 1)).flatMap qPiece) := by
          rw [hqs.out, hq.out, if_pos rfl]
          exact hown2
        have hls2 : OwnL 38 4 Ru.cells w2 w.heap.size (.slice (some ⟨b, o, none⟩) (cks s.data.toList).length c7) (allL s.data.toList (cks s.data.toList).length) := (hls.out.g (G.new _ _)).keepT hkeep (by decide)
        replace hls2 := Lib.hid hls2
        replace hown3 := Lib.hid hown3
        clear hown2 hkeep hbut
        obtain ⟨A2, c2, e2, _, _, _⟩ := OwnL.sl byteC_len hown3.out
        subst e2
        skip
        go_roundw
        case rel => exact ⟨k + 1, A2, _, c2, rfl, by go_num, by omega, hown3, hls2, hg2⟩
        case measure => (simp [Go.RowKit.intOf] <;> omega)
      · by_cases h92 : x = 92
        · subst h92
          have c1 := c1 _ (Kp.of hls.out)
          clear c2 c3
          go_wp2_with (at_builtin; refine wpList_append_but byte_elem _ rfl (.tmp 48) (.tmp 49) rfl w.heap.size _ (34 :: qs) rfl (hown.g (G.new _ _)) (wr.heap.size + 1) (some ⟨wr.heap.size, 0, none⟩) 2 [92, 92] rfl (by intro h; cases h) (Sl.of_blk byteC_len _ (blk_new _ _ _) rfl (by omega)) (by simp; omega) (by simp; omega) (by have := hg.size; simp; omega) ?_; intro v' w2 hown2 hkeep hbut)
          have hg2 : G w w2 := hkeep.g (hg.alloc _)
          have hown3 : OwnL 5 1 byteC w2 w.heap.size v' (34 :: ((cks s.data.toList).take (k + 1)).flatMap qPiece) := by
            rw [hqs.out, hq.out, if_neg (by omega), if_pos rfl]
            exact hown2
          have hls2 : OwnL 38 4 Ru.cells w2 w.heap.size (.slice (some ⟨b, o, none⟩) (cks s.data.toList).length c7) (allL s.data.toList (cks s.data.toList).length) := (hls.out.g (G.new _ _)).keepT hkeep (by decide)
          replace hls2 := Lib.hid hls2
          replace hown3 := Lib.hid hown3
          clear hown2 hkeep hbut
          obtain ⟨A2, c2, e2, _, _, _⟩ := OwnL.sl byteC_len hown3.out
          subst e2
          skip
          go_roundw
          case rel => exact ⟨k + 1, A2, _, c2, rfl, by go_num, by omega, hown3, hls2, hg2⟩
          case measure => (simp [Go.RowKit.intOf] <;> omega)
        · by_cases h10 : x = 10
          · subst h10
            have c1 := c1 _ (Kp.of hls.out)
            clear c2 c3
            go_wp2_with (at_builtin; refine wpList_append_but byte_elem _ rfl (.tmp 54) (.tmp 55) rfl w.heap.size _ (34 :: qs) rfl (hown.g (G.new _ _)) (wr.heap.size + 1) (some ⟨wr.heap.size, 0, none⟩) 2 [92, 110] rfl (by intro h; cases h) (Sl.of_blk byteC_len _ (blk_new _ _ _) rfl (by omega)) (by simp; omega) (by simp; omega) (by have := hg.size; simp; omega) ?_; intro v' w2 hown2 hkeep hbut)
            have hg2 : G w w2 := hkeep.g (hg.alloc _)
            have hown3 : OwnL 5 1 byteC w2 w.heap.size v' (34 :: ((cks s.data.toList).take (k + 1)).flatMap qPiece) := by
              rw [hqs.out, hq.out, if_neg (by omega), if_neg (by omega), if_pos rfl]
              exact hown2
            have hls2 : OwnL 38 4 Ru.cells w2 w.heap.size (.slice (some ⟨b, o, none⟩) (cks s.data.toList).length c7) (allL s.data.toList (cks s.data.toList).length) := (hls.out.g (G.new _ _)).keepT hkeep (by decide)
            replace hls2 := Lib.hid hls2
            replace hown3 := Lib.hid hown3
            clear hown2 hkeep hbut
            obtain ⟨A2, c2, e2, _, _, _⟩ := OwnL.sl byteC_len hown3.out
            subst e2
            skip
            go_roundw
            case rel => exact ⟨k + 1, A2, _, c2, rfl, by go_num, by omega, hown3, hls2, hg2⟩
            case measure => (simp [Go.RowKit.intOf] <;> omega)
          · have b34 : ((x : Int) == 34) = false := by rw [beq_eq_false_iff_ne]; omega
            have b92 : ((x : Int) == 92) = false := by rw [beq_eq_false_iff_ne]; omega
            have b10 : ((x : Int) == 10) = false := by rw [beq_eq_false_iff_ne]; omega
            replace h34 := Lib.hid h34
            replace h92 := Lib.hid h92
            replace h10 := Lib.hid h10
            have d1 := c1 _ (Kp.of hls.out)
            have d3 := c3 _ (Kp.of hls.out)
            by_cases hesc : (⟨cb, cr⟩ : Ck).bad = true ∨ x < 32 ∨ x = 127
            · clear c1 c2 c3
              have HE : Hid (((⟨cb, cr⟩ : Ck).bad || (decide (x < 32) || decide (x = 127))) = true) := by
                show _ = true
                simp only [Bool.or_eq_true, decide_eq_true_eq]
                exact hesc
              have HD : Hid ((⟨cb, cr⟩ : Ck).bad = true ∨ x < 32 ∨ x = 127) := hesc
              clear hesc
              obtain ⟨hi, hhi⟩ : ∃ hi, x / 16 = hi := ⟨_, rfl⟩
              obtain ⟨lo, hlo⟩ : ∃ lo, x % 16 = lo := ⟨_, rfl⟩
              have ha15 := and15 ⟨x, hx1⟩
              dsimp only at ha15
              rw [hlo] at ha15
              have hh1 := fun w' => run_hexes w' hi (by omega)
              have hh2 := fun w' => run_hexes w' lo (by omega)
              have hq2 := hq.out
              rw [hhi, hlo] at hq2
              replace hq := Lib.hid hq2
              have hsh0 : Hid ((x : Int) / 16 = (hi : Int)) := by show (x : Int) / 16 = (hi : Int); omega
              clear hq2 hhi hlo hx1
              generalize (⟨cb, cr⟩ : Ck).bad = bd at *
              cases bd with
              | true =>
                clear HD
                go_wp2_with fail
                have hsh := hsh0.out
                skip
                have hqq : qPiece ⟨cb, cr⟩ = [92, 120, hexC hi, hexC lo] := by
                  rw [hq.out, if_neg h34.out, if_neg h92.out, if_neg h10.out, if_pos (HE.out)]
                replace hqq := Lib.hid hqq
                go_region_held3 (fun w' => G w w') (first | exact hg.drew | exact G.alloc (by assumption) _ | exact hkeep.g ((hg.alloc _).drew) | fail) (first | (refine step_append_but byte_elem _ rfl (.tmp 71) (.tmp 78) rfl w.heap.size (.slice A8 n8 c8) (34 :: qs) rfl (hown.g (G.new wr _).drew) (wr.heap.size + 1) (some ⟨wr.heap.size, 0, none⟩) 4 [92, 120, hexC hi, hexC lo] rfl (by intro h; cases h) (Sl.of_blk byteC_len _ (blk_new wr _ _) rfl (by omega)) (by clear hsh ha15; simp; omega) (by clear hsh ha15; simp; omega) (by clear hsh ha15; have := hg.size; simp; omega) ?_; intro v' w2 hown2 hkeep hbut) | fail)
                all_goals
                  clear hsh ha15 hb1 hh1 hh2
                  go_wp2_with fail
                  have hg2 : G w w2 := hkeep.g ((hg.alloc _).drew)
                  have hown3 : OwnL 5 1 byteC w2 w.heap.size v' (34 :: ((cks s.data.toList).take (k + 1)).flatMap qPiece) := by
                    rw [hqs.out, hqq.out]
                    exact hown2
                  have hls2 : OwnL 38 4 Ru.cells w2 w.heap.size (.slice (some ⟨b, o, none⟩) (cks s.data.toList).length c7) (allL s.data.toList (cks s.data.toList).length) := (hls.out.g (G.new wr _).drew).keepT hkeep (by decide)
                  replace hls2 := Lib.hid hls2
                  replace hown3 := Lib.hid hown3
                  clear hown2 hkeep hbut
                  obtain ⟨A2, c2, e2, _, _, _⟩ := OwnL.sl byteC_len hown3.out
                  subst e2
                  skip
                  go_roundw
                  case rel => exact ⟨k + 1, A2, _, c2, rfl, by go_num, by omega, hown3, hls2, hg2⟩
                  case measure => (simp [Go.RowKit.intOf] <;> omega)
              | false =>
                by_cases h32 : x < 32
                · have t32 : (x : Int) < 32 := by omega
                  clear HD h32
                  go_wp2_with fail
                  have hsh := hsh0.out
                  skip
                  have hqq : qPiece ⟨cb, cr⟩ = [92, 120, hexC hi, hexC lo] := by
                    rw [hq.out, if_neg h34.out, if_neg h92.out, if_neg h10.out, if_pos (HE.out)]
                  replace hqq := Lib.hid hqq
                  go_region_held3 (fun w' => G w w') (first | exact hg.drew | exact G.alloc (by assumption) _ | exact hkeep.g ((hg.alloc _).drew) | fail) (first | (refine step_append_but byte_elem _ rfl (.tmp 71) (.tmp 78) rfl w.heap.size (.slice A8 n8 c8) (34 :: qs) rfl (hown.g (G.new wr _).drew) (wr.heap.size + 1) (some ⟨wr.heap.size, 0, none⟩) 4 [92, 120, hexC hi, hexC lo] rfl (by intro h; cases h) (Sl.of_blk byteC_len _ (blk_new wr _ _) rfl (by omega)) (by clear hsh ha15; simp; omega) (by clear hsh ha15; simp; omega) (by clear hsh ha15; have := hg.size; simp; omega) ?_; intro v' w2 hown2 hkeep hbut) | fail)
                  all_goals
                    clear hsh ha15 hb1 hh1 hh2
                    go_wp2_with fail
                    have hg2 : G w w2 := hkeep.g ((hg.alloc _).drew)
                    have hown3 : OwnL 5 1 byteC w2 w.heap.size v' (34 :: ((cks s.data.toList).take (k + 1)).flatMap qPiece) := by
                      rw [hqs.out, hqq.out]
                      exact hown2
                    have hls2 : OwnL 38 4 Ru.cells w2 w.heap.size (.slice (some ⟨b, o, none⟩) (cks s.data.toList).length c7) (allL s.data.toList (cks s.data.toList).length) := (hls.out.g (G.new wr _).drew).keepT hkeep (by decide)
                    replace hls2 := Lib.hid hls2
                    replace hown3 := Lib.hid hown3
                    clear hown2 hkeep hbut
                    obtain ⟨A2, c2, e2, _, _, _⟩ := OwnL.sl byteC_len hown3.out
                    subst e2
                    skip
                    go_roundw
                    case rel => exact ⟨k + 1, A2, _, c2, rfl, by go_num, by omega, hown3, hls2, hg2⟩
                    case measure => (simp [Go.RowKit.intOf] <;> omega)
                · have h127 : x = 127 := by have := HD.out; simp at this; omega
                  have t32 : ¬ (x : Int) < 32 := by omega
                  have t127 : ((x : Int) == 127) = true := by rw [beq_iff_eq]; omega
                  replace h127 := Lib.hid h127
                  clear HD h32
                  go_wp2_with fail
                  have hsh := hsh0.out
                  skip
                  have hqq : qPiece ⟨cb, cr⟩ = [92, 120, hexC hi, hexC lo] := by
                    rw [hq.out, if_neg h34.out, if_neg h92.out, if_neg h10.out, if_pos (HE.out)]
                  replace hqq := Lib.hid hqq
                  go_region_held3 (fun w' => G w w') (first | exact hg.drew | exact G.alloc (by assumption) _ | exact hkeep.g ((hg.alloc _).drew) | fail) (first | (refine step_append_but byte_elem _ rfl (.tmp 71) (.tmp 78) rfl w.heap.size (.slice A8 n8 c8) (34 :: qs) rfl (hown.g (G.new wr _).drew) (wr.heap.size + 1) (some ⟨wr.heap.size, 0, none⟩) 4 [92, 120, hexC hi, hexC lo] rfl (by intro h; cases h) (Sl.of_blk byteC_len _ (blk_new wr _ _) rfl (by omega)) (by clear hsh ha15; simp; omega) (by clear hsh ha15; simp; omega) (by clear hsh ha15; have := hg.size; simp; omega) ?_; intro v' w2 hown2 hkeep hbut) | fail)
                  all_goals
                    clear hsh ha15 hb1 hh1 hh2
                    go_wp2_with fail
                    have hg2 : G w w2 := hkeep.g ((hg.alloc _).drew)
                    have hown3 : OwnL 5 1 byteC w2 w.heap.size v' (34 :: ((cks s.data.toList).take (k + 1)).flatMap qPiece) := by
                      rw [hqs.out, hqq.out]
                      exact hown2
                    have hls2 : OwnL 38 4 Ru.cells w2 w.heap.size (.slice (some ⟨b, o, none⟩) (cks s.data.toList).length c7) (allL s.data.toList (cks s.data.toList).length) := (hls.out.g (G.new wr _).drew).keepT hkeep (by decide)
                    replace hls2 := Lib.hid hls2
                    replace hown3 := Lib.hid hown3
                    clear hown2 hkeep hbut
                    obtain ⟨A2, c2, e2, _, _, _⟩ := OwnL.sl byteC_len hown3.out
                    subst e2
                    skip
                    go_roundw
                    case rel => exact ⟨k + 1, A2, _, c2, rfl, by go_num, by omega, hown3, hls2, hg2⟩
                    case measure => (simp [Go.RowKit.intOf] <;> omega)
            · have HE : Hid (¬ ((⟨cb, cr⟩ : Ck).bad || (decide (x < 32) || decide (x = 127))) = true) := by
                show ¬ _ = true
                simp only [Bool.or_eq_true, decide_eq_true_eq]
                exact hesc
              have t32 : ¬ (x : Int) < 32 := by omega
              have t127 : ((x : Int) == 127) = false := by rw [beq_eq_false_iff_ne]; omega
              have hbd : (⟨cb, cr⟩ : Ck).bad = false := by
                cases hb2 : (⟨cb, cr⟩ : Ck).bad with
                | true => exact absurd (.inl hb2) hesc
                | false => rfl
              generalize (⟨cb, cr⟩ : Ck).bad = bd at *
              subst hbd
              clear hesc c3
              go_wp2_with fail
              have hsz : (s.extract p p1).size ≤ 4 := by
                have : (s.extract p p1).data.toList.length = cb.length := by rw [hpb.out]
                rw [show (s.extract p p1).data.toList.length = (s.extract p p1).size by rw [Array.length_toList]; rfl] at this
                omega
              have hl0 := trivial
              go_region_held3 (fun w' => G w w' ∧ Kp (OwnL 38 4 Ru.cells w' w.heap.size (.slice (some ⟨b, o, none⟩) (cks s.data.toList).length c7) (allL s.data.toList (cks s.data.toList).length))) (first | exact ⟨hg.drew, Kp.of (hls.out.g (G.refl _).drew)⟩ | exact ⟨hkeep.g hg.drew, Kp.of ((hls.out.g (G.refl _).drew).keepT hkeep (by decide))⟩ | fail) (first | (refine step_append_text _ rfl (.tmp 25) (.tmp 37) rfl w.heap.size (.slice A8 n8 c8) (34 :: qs) rfl (hown.g (G.refl _).drew) (s.extract p p1) rfl (by rw [List.length_cons]; omega) (by have := hg.size; simp; omega) ?_; intro v' w2 hown2 hkeep hbut) | fail)
              all_goals
                rw [hpb.out] at hown2
                clear c1 c2 hl0
                go_wp2_with fail
                have hg2 : G w w2 := hkeep.g hg.drew
                have hown3 : OwnL 5 1 byteC w2 w.heap.size v' (34 :: ((cks s.data.toList).take (k + 1)).flatMap qPiece) := by
                  rw [hqs.out, hq.out, if_neg h34.out, if_neg h92.out, if_neg h10.out, if_neg HE.out]
                  exact hown2
                have hls2 : OwnL 38 4 Ru.cells w2 w.heap.size (.slice (some ⟨b, o, none⟩) (cks s.data.toList).length c7) (allL s.data.toList (cks s.data.toList).length) := (hls.out.g (G.refl _).drew).keepT hkeep (by decide)
                replace hls2 := Lib.hid hls2
                replace hown3 := Lib.hid hown3
                clear hown2 hkeep hbut
                obtain ⟨A2, c2, e2, _, _, _⟩ := OwnL.sl byteC_len hown3.out
                subst e2
                skip
                go_roundw
                case rel => exact ⟨k + 1, A2, _, c2, rfl, by go_num, by omega, hown3, hls2, hg2⟩
                case measure => (simp [Go.RowKit.intOf] <;> omega)
    · have hkl : k = (cks s.data.toList).length := by omega
      have hall := qPieces_le (cks_ok s.data.toList)
      have hown1 : OwnL 5 1 byteC wr w.heap.size (.slice A8 n8 c8) (34 :: (cks s.data.toList).flatMap qPiece) := by
        have := hown.out
        rwa [hkl, List.take_length] at this
      have hfin : ∀ A c w', OwnL 5 1 byteC w' w.heap.size (.slice A (34 :: (cks s.data.toList).flatMap qPiece ++ [34]).length c) (34 :: (cks s.data.toList).flatMap qPiece ++ [34]) → (convert 39 9 (.slice A (34 :: (cks s.data.toList).flatMap qPiece ++ [34]).length c)).run Tryd.prog w' = .ok (.string (strOf (quoteL s.data.toList))) w' := fun A c w' h => conv_back (OwnL.self byteC_len h)
      generalize hqs : (cks s.data.toList).flatMap qPiece = qs at *
      replace hqs := Lib.hid hqs
      replace hfin := Lib.hid hfin
      clear hown hkl hls
      go_wp2_with (at_builtin; refine wpList_append_but byte_elem _ rfl (.tmp 80) (.tmp 81) rfl w.heap.size _ (34 :: qs) rfl (hown1.g (G.new _ _)) (wr.heap.size + 1) (some ⟨wr.heap.size, 0, none⟩) 1 [34] rfl (by intro h; cases h) (Sl.of_blk byteC_len _ (blk_new _ _ _) rfl (by omega)) (by simp; omega) (by simp; omega) (by have := hg.size; simp; omega) ?_; intro v' w2 hown2 hkeep hbut; obtain ⟨A2, c2, e2, _, _, _⟩ := OwnL.sl byteC_len hown2; subst e2; have hcv := hfin.out A2 c2 w2 hown2; generalize hn2 : (34 :: qs ++ [34]).length = n2 at hcv ⊢; replace hn2 := Lib.hid hn2; have hg2 : G w w2 := hkeep.g (hg.alloc _))
      go_ret
      exact ⟨rfl, hg2⟩
end Go.Proofs.YtjielocmjfmadaaDoor

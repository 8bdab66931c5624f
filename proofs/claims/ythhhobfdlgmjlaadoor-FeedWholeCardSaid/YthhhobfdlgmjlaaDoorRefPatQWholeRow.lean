/- penstockref1.Pattern, CheckGlob: what they answer. Condition: texts of at most 2^20 bytes. -/
import Derived.Test.YthhhobfdlgmjlaaDoorRefSetQWholeRow
import Derived.Test.YthhhobfdlgmjlaaDoorM43WholeRow
import Derived.Test.YthhhobfdlgmjlaaDoorGlobCheckQWholeRow
namespace Go.Proofs.YthhhobfdlgmjlaaDoor
open Go.RowKit

/-- A piece as the document lays it. -/
structure PrM where
  pr : Pr
  LA : Option Addr
  lc : Nat
  HA : Option Addr
  hc : Nat
def PrM.cells (m : PrM) : List Value := [.bool m.pr.star, .bool m.pr.no, .slice m.LA m.pr.set.length m.lc, .slice m.HA m.pr.set.length m.hc]
theorem PrM.cells_len (m : PrM) : m.cells.length = 4 := rfl
theorem pr_elem : IsElem Tryd.prog 72 88 4 56 PrM.cells :=
  isElem_of (z := .agg #[.bool false, .bool false, .slice none 0 0, .slice none 0 0]) Tryd.underlying72 (by kernel_rfl) rfl (by omega) PrM.cells_len (by intro x u hu; simp [PrM.cells] at hu; rcases hu with rfl | rfl | rfl | rfl <;> rfl)
/-- The runes of pieces are the call's own. -/
def PrsOwn (w : World) (base : Nat) (ms : List PrM) : Prop := ∀ m ∈ ms, OwnL 21 1 runeC w base (.slice m.LA m.pr.set.length m.lc) (m.pr.set.map (·.1)) ∧ OwnL 21 1 runeC w base (.slice m.HA m.pr.set.length m.hc) (m.pr.set.map (·.2))
theorem PrsOwn.g {w w' : World} {base : Nat} {ms : List PrM} (h : PrsOwn w base ms) (hg : G w w') : PrsOwn w' base ms := fun m hm => ⟨(h m hm).1.g hg, (h m hm).2.g hg⟩
theorem PrsOwn.keep {w w' : World} {base base' : Nat} {ms : List PrM} (h : PrsOwn w base ms) (hk : KeepT 88 base' w w') : PrsOwn w' base ms := fun m hm => ⟨(h m hm).1.keepT hk (by decide), (h m hm).2.keepT hk (by decide)⟩
theorem PrsOwn.snoc {w : World} {base : Nat} {ms : List PrM} {m : PrM} (h : PrsOwn w base ms) (h1 : OwnL 21 1 runeC w base (.slice m.LA m.pr.set.length m.lc) (m.pr.set.map (·.1))) (h2 : OwnL 21 1 runeC w base (.slice m.HA m.pr.set.length m.hc) (m.pr.set.map (·.2))) : PrsOwn w base (ms ++ [m]) := fun x hx => by
  rcases List.mem_append.1 hx with h3 | h3
  · exact h x h3
  · rw [List.mem_singleton] at h3; subst h3; exact ⟨h1, h2⟩
theorem ru_at {w : World} {B : Nat} {A : Option Addr} {l : List UInt8} (hB : B ≤ w.heap.size) (h : Sl Ru.cells 4 w B A (allL l (cks l).length)) : RuAt w B A ((cks l).map Ck.r) := fun hn => by
  obtain ⟨c, hc⟩ : ∃ c, (cks l)[0]? = some c := ⟨_, List.getElem?_eq_getElem (by rcases hq : cks l with _ | ⟨a, t⟩; rw [hq] at hn; exact absurd rfl hn; simp)⟩
  obtain ⟨b, o, rfl, hb, _⟩ := h.ruG hB hc
  refine ⟨b, o, rfl, hb, fun k r hr => ?_⟩
  rw [List.getElem?_map] at hr
  rcases hck : (cks l)[k]? with _ | d
  · rw [hck] at hr; cases hr
  · rw [hck] at hr
    cases hr
    obtain ⟨b', o', e, _, c0, _⟩ := h.ruG hB hck
    cases e
    exact c0 w (G.refl w)
theorem RuAt.drop {w : World} {B b o : Nat} {rs : List Nat} (h : RuAt w B (some ⟨b, o, none⟩) rs) (n : Nat) : RuAt w B (some ⟨b, o + n * 4, none⟩) (rs.drop n) := fun hn => by
  obtain ⟨b', o', e, hb, hc⟩ := h (by rintro rfl; simp at hn)
  cases e
  refine ⟨b, o + n * 4, rfl, hb, fun k r hr => ?_⟩
  rw [List.getElem?_drop] at hr
  have := hc (n + k) r hr
  rwa [show o + n * 4 + k * 4 = o + (n + k) * 4 by rw [Nat.add_mul]; omega]
/-- What Pattern answers. -/
def PatRPost (s : ByteArray) (w : World) (e : Ending) (w' : World) : Prop :=
  ∃ A n c, e = .returned (.tuple #[.slice A n c, .bool (patOk s)]) ∧ (patOk s = true → ∃ ms : List PrM, n = ms.length ∧ OwnL 88 4 PrM.cells w' w.heap.size (.slice A ms.length c) ms ∧ PrsOwn w' w.heap.size ms ∧ PrsIs (ms.map (·.pr)) (patP s)) ∧ G w w'
theorem patOk_eq {s : ByteArray} (hv : validB s = true) (h40 : (cks s.data.toList).length ≤ 40) : patOk s = !(parseL (runesL s)).2 := by
  unfold patOk
  rw [hv, decide_eq_true (by omega)]
  simp
theorem PatRPost.no {s : ByteArray} {w w' : World} (h : patOk s = false) (hg : G w w') : PatRPost s w (.returned (.tuple #[.slice none 0 0, .bool false])) w' := ⟨none, 0, 0, by rw [h], fun h' => (by rw [h] at h'; cases h'), hg⟩
theorem PrsOwn.mono {w : World} {base base' : Nat} {ms : List PrM} (h : PrsOwn w base ms) (hb : base' ≤ base) : PrsOwn w base' ms := fun m hm => ⟨(h m hm).1.mono hb, (h m hm).2.mono hb⟩
theorem PatRPost.yes {s : ByteArray} {w w' : World} {base : Nat} {A : Option Addr} {c : Nat} {ms : List PrM} (h : patOk s = true) (hb : w.heap.size ≤ base) (h1 : OwnL 88 4 PrM.cells w' base (.slice A ms.length c) ms) (h2 : PrsOwn w' base ms) (h3 : PrsIs (ms.map (·.pr)) (patP s)) (hg : G w w') : PatRPost s w (.returned (.tuple #[.slice A ms.length c, .bool true])) w' :=
  ⟨A, _, c, by rw [h], fun _ => ⟨ms, rfl, h1.mono hb, h2.mono hb, h3⟩, hg⟩
set_option maxRecDepth 100000 in
set_option maxHeartbeats 16000000 in
theorem pattern_any (s : ByteArray) (w : World) (hs : s.size ≤ 1048576) : Calls Tryd.prog 36 #[.string s] w (PatRPost s w) := by
  have hall := all_own s w (by omega)
  have hl : (cks s.data.toList).length ≤ 1048576 := Nat.le_trans (cks_length_le _) (by simpa using hs)
  have hrl := runesL_len s
  go_enter Tryd.func36, Tryd.ntmps36
  go_wp2_with fail
  refine hall.mono ?_
  clear hall
  rintro e w1 ⟨A, c8, rfl, hown0, hg1⟩
  obtain ⟨A', c', e8, hc8, _, hsl⟩ := OwnL.sl Ru.cells_len hown0
  rw [allL_len] at e8 hc8
  cases e8
  clear hown0
  have hru := ru_at (Nat.le_refl _) hsl
  have hval := refValid_any s w1 (by omega)
  replace hval := Lib.hid hval
  replace hru := Lib.hid (show RuAt w1 w1.heap.size A (runesL s) from hru)
  clear hsl
  go_wp2_with fail
  refine Calls.mono hval.out ?_
  rintro e w2 ⟨rfl, hg2⟩
  clear hval
  have hgw2 := hg1.trans hg2
  rw [← hrl] at hl hc8
  rw [← hrl]
  replace hru := Lib.hid (fun w' (hg : G w2 w') => hru.out.g (Nat.le_refl _) (hg2.trans hg))
  have hB2 : w1.heap.size ≤ w2.heap.size := hg2.size
  cases hv : validB s with
  | false =>
    have hbad : patOk s = false := by unfold patOk; rw [hv]; rfl
    replace hbad := Lib.hid hbad
    replace hv := Lib.hid hv
    replace hrl := Lib.hid hrl
    go_wp2_with fail
    refine bodyPost_ret (results_tmp2 rfl _ _ _) rfl ?_
    exact PatRPost.no hbad.out (hgw2)
  | true =>
    by_cases h40 : 40 < (runesL s).length
    · have hbad : patOk s = false := by
        unfold patOk
        rw [decide_eq_false (by rw [← hrl]; omega)]
        simp
      have n40 : (40 : Int) < ((runesL s).length : Int) := by omega
      replace hbad := Lib.hid hbad
      replace hv := Lib.hid hv
      replace hrl := Lib.hid hrl
      go_wp2_with fail
      refine bodyPost_ret (results_tmp2 rfl _ _ _) rfl ?_
      exact PatRPost.no hbad.out (hgw2)
    · have n40 : ¬ (40 : Int) < ((runesL s).length : Int) := by omega
      have hpk := patOk_eq hv (by rw [← hrl]; omega)
      have hpp : patP s = (parseL (runesL s)).1 := rfl
      have hl40 : (runesL s).length ≤ 40 := by omega
      replace hv := Lib.hid hv
      replace hrl := Lib.hid hrl
      generalize runesL s = rs at *
      replace hpk := Lib.hid hpk
      replace hpp := Lib.hid hpp
      go_wp2_with fail
      go_loopw [5, 6] (fun v i wr => ∃ (k : Nat) (ms : List PrM) (qs : List Pc), k ≤ rs.length ∧ i = .int .i64 k ∧ OwnL 88 4 PrM.cells wr w2.heap.size v ms ∧ Hid (PrsOwn wr w2.heap.size ms) ∧ Hid (PrsIs (ms.map (·.pr)) qs) ∧ Hid (PatTo rs qs (rs.drop k)) ∧ ms.length ≤ k ∧ G w2 wr) (fun _ i _ => rs.length - (intOf i).toNat)
      case atStart => exact ⟨0, [], [], Nat.zero_le _, rfl, OwnL.nil, by simp [Hid, PrsOwn], PrsIs.nil, PatTo.start _, Nat.le_refl _, G.refl _⟩
      case round =>
        obtain ⟨k, ms, qs, hk, rfl, hown, hmo, his, hto, hmk, hg⟩ := hrel
        have hgw := hgw2.trans hg
        by_cases hlt : k < rs.length
        · obtain ⟨r, hr⟩ : ∃ r, rs[k]? = some r := ⟨_, List.getElem?_eq_getElem hlt⟩
          obtain ⟨b, o, hA, hb, c0⟩ := (hru.out _ hg).at_ hr
          subst hA
          have hdr := drop_one hr
          have n1 : (0 : Int) ≤ (k : Int) := by omega
          have n2 : (k : Int) < (rs.length : Int) := by omega
          have v1 : IntKind.i64.wrap ((k : Int) + 1) = (k : Int) + 1 := by rw [IntKind.wrap_i64]; omega
          have v2 : IntKind.i64.wrap ((k : Int) + 1 + 1) = (k : Int) + 1 + 1 := by rw [IntKind.wrap_i64]; omega
          have hsz := hg.size
          replace hr := Lib.hid hr
          replace hdr := Lib.hid hdr
          by_cases h42 : r = 42
          · have t42 : ((r : Int) == 42) = true := by simp; omega
            have hone : oneS (r :: rs.drop (k + 1)) false = (star, rs.drop (k + 1), false) := by rw [h42]; exact one_star _
            replace hone := Lib.hid hone
            replace h42 := Lib.hid h42
            have hto2 : PatTo rs (qs ++ [(star : Pc)]) (rs.drop (k + 1)) := PatTo.step (by rw [← hdr.out]; exact hto.out) hone.out
            have his2 : PrsIs ((ms ++ [(⟨⟨true, false, []⟩, none, 0, none, 0⟩ : PrM)]).map (·.pr)) (qs ++ [(star : Pc)]) := by rw [List.map_append]; exact his.out.snoc (Pr.starIs)
            replace hto2 := Lib.hid hto2
            replace his2 := Lib.hid his2
            go_wp2_with (at_builtin; refine wpList_append_list pr_elem _ rfl (.tmp 55) (.tmp 57) rfl w2.heap.size _ ms rfl (hown.g (G.new _ _)) (wr.heap.size + 1) (some ⟨wr.heap.size, 0, none⟩) 1 [(⟨⟨true, false, []⟩, none, 0, none, 0⟩ : PrM)] rfl (by intro h; cases h) (Sl.of_blk PrM.cells_len _ (blk_new _ _ _) rfl (by omega)) (by simp; omega) (by simp; omega) (by simp; omega) ?_; intro v4 w4 hown4 hk4 _; have hmo4 := ((hmo.out.g (G.new _ _)).keep hk4).snoc (m := (⟨⟨true, false, []⟩, none, 0, none, 0⟩ : PrM)) (OwnL.nil) (OwnL.nil); have hg4 : G w2 w4 := hk4.g (hg.alloc _); replace hmo4 := Lib.hid hmo4)
            go_roundw
            case rel => exact ⟨k + 1, ms ++ [(⟨⟨true, false, []⟩, none, 0, none, 0⟩ : PrM)], _, by omega, by go_num, hown4, hmo4, his2, hto2, by simp; omega, hg4⟩
            case measure => (simp [intOf] <;> omega)
          · have t42 : ((r : Int) == 42) = false := by rw [beq_eq_false_iff_ne]; omega
            by_cases h63 : r = 63
            · have t63 : ((r : Int) == 63) = true := by simp; omega
              have hone : oneS (r :: rs.drop (k + 1)) false = (quest, rs.drop (k + 1), false) := by rw [h63]; exact one_quest _
              replace hone := Lib.hid hone
              replace h63 := Lib.hid h63
              replace h42 := Lib.hid h42
              have hto2 : PatTo rs (qs ++ [(quest : Pc)]) (rs.drop (k + 1)) := PatTo.step (by rw [← hdr.out]; exact hto.out) hone.out
              have his2 : PrsIs ((ms ++ [(⟨⟨false, true, []⟩, none, 0, none, 0⟩ : PrM)]).map (·.pr)) (qs ++ [(quest : Pc)]) := by rw [List.map_append]; exact his.out.snoc (Pr.quest)
              replace hto2 := Lib.hid hto2
              replace his2 := Lib.hid his2
              go_wp2_with (at_builtin; refine wpList_append_list pr_elem _ rfl (.tmp 61) (.tmp 63) rfl w2.heap.size _ ms rfl (hown.g (G.new _ _)) (wr.heap.size + 1) (some ⟨wr.heap.size, 0, none⟩) 1 [(⟨⟨false, true, []⟩, none, 0, none, 0⟩ : PrM)] rfl (by intro h; cases h) (Sl.of_blk PrM.cells_len _ (blk_new _ _ _) rfl (by omega)) (by simp; omega) (by simp; omega) (by simp; omega) ?_; intro v4 w4 hown4 hk4 _; have hmo4 := ((hmo.out.g (G.new _ _)).keep hk4).snoc (m := (⟨⟨false, true, []⟩, none, 0, none, 0⟩ : PrM)) (OwnL.nil) (OwnL.nil); have hg4 : G w2 w4 := hk4.g (hg.alloc _); replace hmo4 := Lib.hid hmo4)
              go_roundw
              case rel => exact ⟨k + 1, ms ++ [(⟨⟨false, true, []⟩, none, 0, none, 0⟩ : PrM)], _, by omega, by go_num, hown4, hmo4, his2, hto2, by simp; omega, hg4⟩
              case measure => (simp [intOf] <;> omega)
            · have t63 : ((r : Int) == 63) = false := by rw [beq_eq_false_iff_ne]; omega
              by_cases h91 : r = 91
              · have t91 : ((r : Int) == 91) = true := by simp; omega
                have hdl : (rs.drop (k + 1)).length = rs.length - (k + 1) := List.length_drop
                have hset : ∀ w', G w2 w' → ∀ (AA : Option Addr) (cc : Nat), RuAt w' w1.heap.size AA (rs.drop (k + 1)) → Calls Tryd.prog 54 #[.slice AA (rs.length - (k + 1)) cc] w' (SetRPost (rs.drop (k + 1)) w') := fun w' hg' AA cc hru' => by
                  have := refSet_any (rs.drop (k + 1)) AA cc w1.heap.size w' (by have := hg'.size; omega) (by rw [hdl]; omega) hru'
                  rwa [hdl] at this
                replace hset := Lib.hid hset
                replace h91 := Lib.hid h91
                replace h42 := Lib.hid h42
                replace h63 := Lib.hid h63
                by_cases hck : c8 = k + 1
                · have hcall := hset.out wr hg (some ⟨b, o, none⟩) 0 (fun hn => absurd (List.drop_of_length_le (by omega)) hn)
                  replace hcall := Lib.hid hcall
                  replace hdl := Lib.hid hdl
                  go_wp2_with fail
                  (with_reducible refine Calls.mono hcall.out ?_)
                  rintro e w5 ⟨no, S, LA, lc, HA, hc, n, rfl, hor, hLo, hHi, hg5⟩
                  have hg25 := hg.trans hg5
                  have hgw5 := hgw2.trans hg25
                  have hown5 := hown.g hg5
                  have hmo5 := hmo.out.g hg5
                  have hLo2 := hLo.mono hg.size
                  have hHi2 := hHi.mono hg.size
                  replace hmo5 := Lib.hid hmo5
                  replace hLo2 := Lib.hid hLo2
                  replace hHi2 := Lib.hid hHi2
                  clear hset hLo hHi hcall
                  rcases hor with ⟨m, rfl, hm0, hml, hsS⟩ | ⟨rfl, hsS⟩
                  · exfalso
                    rw [hdl.out] at hml
                    omega
                  · have hbad : patOk s = false := by
                      have h := hto.out
                      rw [hdr.out] at h
                      have h8 := h.bad (by rw [h91.out, one_set]; exact hsS)
                      rw [hpk.out, h8]
                      rfl
                    replace hbad := Lib.hid hbad
                    replace hsS := Lib.hid hsS
                    go_wp2_with fail
                    refine bodyPost_ret (results_tmp2 rfl _ _ _) rfl ?_
                    exact PatRPost.no hbad.out (hgw5.alloc _)
                · have hcall := hset.out wr hg (some ⟨b, o + (k + 1) * 4, none⟩) (c8 - (k + 1)) ((hru.out _ hg).drop (k + 1))
                  replace hcall := Lib.hid hcall
                  replace hdl := Lib.hid hdl
                  go_wp2_with fail
                  (with_reducible refine Calls.mono hcall.out ?_)
                  rintro e w5 ⟨no, S, LA, lc, HA, hc, n, rfl, hor, hLo, hHi, hg5⟩
                  have hg25 := hg.trans hg5
                  have hgw5 := hgw2.trans hg25
                  have hown5 := hown.g hg5
                  have hmo5 := hmo.out.g hg5
                  have hLo2 := hLo.mono hg.size
                  have hHi2 := hHi.mono hg.size
                  replace hmo5 := Lib.hid hmo5
                  replace hLo2 := Lib.hid hLo2
                  replace hHi2 := Lib.hid hHi2
                  clear hset hLo hHi hcall
                  rcases hor with ⟨m, rfl, hm0, hml, hsS⟩ | ⟨rfl, hsS⟩
                  · have hone : oneS (r :: rs.drop (k + 1)) false = (⟨3, 0, S, no⟩, rs.drop (k + m + 1), false) := by
                      rw [h91.out, one_set, hsS, List.drop_drop, show k + 1 + m = k + m + 1 by omega]
                    have hmk2 : k + m + 1 ≤ rs.length := by rw [hdl.out] at hml; omega
                    have u1 : ¬ (m : Int) < 0 := by omega
                    have x1 : IntKind.i64.wrap ((k : Int) + (m : Int)) = (k : Int) + (m : Int) := by rw [IntKind.wrap_i64]; omega
                    have x2 : IntKind.i64.wrap ((k : Int) + (m : Int) + 1) = (k : Int) + (m : Int) + 1 := by rw [IntKind.wrap_i64]; omega
                    have hto2 : PatTo rs (qs ++ [(⟨3, 0, S, no⟩ : Pc)]) (rs.drop (k + m + 1)) := PatTo.step (by rw [← hdr.out]; exact hto.out) hone
                    have his2 : PrsIs ((ms ++ [(⟨⟨false, no, S⟩, LA, lc, HA, hc⟩ : PrM)]).map (·.pr)) (qs ++ [(⟨3, 0, S, no⟩ : Pc)]) := by rw [List.map_append]; exact his.out.snoc (Pr.setIs S no)
                    replace hto2 := Lib.hid hto2
                    replace his2 := Lib.hid his2
                    replace hone := Lib.hid hone
                    replace hsS := Lib.hid hsS
                    replace hml := Lib.hid hml
                    have hsz5 := hg25.size
                    go_wp2_with (at_builtin; refine wpList_append_list pr_elem _ rfl (.tmp 77) (.tmp 79) rfl w2.heap.size _ ms rfl (hown5.g ((G.new _ _).alloc _)) (w5.heap.size + 2) (some ⟨w5.heap.size + 1, 0, none⟩) 1 [(⟨⟨false, no, S⟩, LA, lc, HA, hc⟩ : PrM)] rfl (by intro h; cases h) (Sl.of_blk PrM.cells_len _ (blk_new' _ _ _ _ (by simp)) rfl (by omega)) (by simp; omega) (by simp; omega) (by simp; omega) ?_; intro v4 w4 hown4 hk4 _; have hmo4 := ((hmo5.out.g ((G.new _ _).alloc _)).keep hk4).snoc (m := (⟨⟨false, no, S⟩, LA, lc, HA, hc⟩ : PrM)) ((hLo2.out.g ((G.new _ _).alloc _)).keepT hk4 (by decide)) ((hHi2.out.g ((G.new _ _).alloc _)).keepT hk4 (by decide)); have hg4 : G w2 w4 := hk4.g ((hg25.alloc _).alloc _); replace hmo4 := Lib.hid hmo4)
                    go_roundw
                    case rel => exact ⟨k + m + 1, ms ++ [(⟨⟨false, no, S⟩, LA, lc, HA, hc⟩ : PrM)], _, by omega, by go_num, hown4, hmo4, his2, hto2, by simp; omega, hg4⟩
                    case measure => (simp [intOf] <;> omega)
                  · have hbad : patOk s = false := by
                      have h := hto.out
                      rw [hdr.out] at h
                      have h8 := h.bad (by rw [h91.out, one_set]; exact hsS)
                      rw [hpk.out, h8]
                      rfl
                    replace hbad := Lib.hid hbad
                    replace hsS := Lib.hid hsS
                    go_wp2_with fail
                    refine bodyPost_ret (results_tmp2 rfl _ _ _) rfl ?_
                    exact PatRPost.no hbad.out (hgw5.alloc _)
              · have t91 : ((r : Int) == 91) = false := by rw [beq_eq_false_iff_ne]; omega
                by_cases h92 : r = 92
                · have t92 : ((r : Int) == 92) = true := by simp; omega
                  by_cases hk1 : k + 1 < rs.length
                  · obtain ⟨r2, hr2⟩ : ∃ q, rs[k + 1]? = some q := ⟨_, List.getElem?_eq_getElem hk1⟩
                    obtain ⟨b', o', e', _, d1⟩ := (hru.out _ hg).at_ hr2
                    cases e'
                    have n3 : ((k : Int) + 1 == (rs.length : Int)) = false := by rw [beq_eq_false_iff_ne]; omega
                    have n7 : (k : Int) + 1 < (rs.length : Int) := by omega
                    have n6 : (0 : Int) ≤ (k : Int) + 1 := by omega
                    have hone : oneS (r :: rs.drop (k + 1)) false = (lit r2, rs.drop (k + 1 + 1), false) := by rw [h92, drop_one hr2]; exact one_back _ _
                    replace hone := Lib.hid hone
                    replace hr2 := Lib.hid hr2
                    replace h92 := Lib.hid h92
                    replace h91 := Lib.hid h91
                    replace h42 := Lib.hid h42
                    replace h63 := Lib.hid h63
                    have hto2 : PatTo rs (qs ++ [lit r2]) (rs.drop (k + 1 + 1)) := PatTo.step (by rw [← hdr.out]; exact hto.out) hone.out
                    have his2 : PrsIs ((ms ++ [(⟨⟨false, false, [(r2, r2)]⟩, some ⟨wr.heap.size, 0, none⟩, 1, some ⟨wr.heap.size + 1, 0, none⟩, 1⟩ : PrM)]).map (·.pr)) (qs ++ [lit r2]) := by rw [List.map_append]; exact his.out.snoc (Pr.lit r2)
                    replace hto2 := Lib.hid hto2
                    replace his2 := Lib.hid his2
                    go_wp2_with (at_builtin; refine wpList_append_list pr_elem _ rfl (.tmp 45) (.tmp 51) rfl w2.heap.size _ ms rfl (hown.g (((G.new _ _).alloc _).alloc _)) (wr.heap.size + 3) (some ⟨wr.heap.size + 1 + 1, 0, none⟩) 1 [(⟨⟨false, false, [(r2, r2)]⟩, some ⟨wr.heap.size, 0, none⟩, 1, some ⟨wr.heap.size + 1, 0, none⟩, 1⟩ : PrM)] rfl (by intro h; cases h) (Sl.of_blk PrM.cells_len _ (blk_new' _ _ _ _ (by simp)) rfl (by omega)) (by simp; omega) (by simp; omega) (by simp; omega) ?_; intro v4 w4 hown4 hk4 _; have hmo4 := ((hmo.out.g (((G.new _ _).alloc _).alloc _)).keep hk4).snoc (m := (⟨⟨false, false, [(r2, r2)]⟩, some ⟨wr.heap.size, 0, none⟩, 1, some ⟨wr.heap.size + 1, 0, none⟩, 1⟩ : PrM)) ((OwnL.made (base := w2.heap.size) runeC_len [r2] (((G.new _ _).alloc _).blk (blk_new wr _ _)) rfl hsz (by simp)).keepT hk4 (by decide)) ((OwnL.made (base := w2.heap.size) runeC_len [r2] ((G.new _ _).blk (blk_new' _ _ _ _ (by simp))) rfl (by omega) (by simp)).keepT hk4 (by decide)); have hg4 : G w2 w4 := hk4.g (((hg.alloc _).alloc _).alloc _); replace hmo4 := Lib.hid hmo4)
                    go_roundw
                    case rel => exact ⟨k + 1 + 1, ms ++ [(⟨⟨false, false, [(r2, r2)]⟩, some ⟨wr.heap.size, 0, none⟩, 1, some ⟨wr.heap.size + 1, 0, none⟩, 1⟩ : PrM)], _, by omega, by go_num, hown4, hmo4, his2, hto2, by simp; omega, hg4⟩
                    case measure => (simp [intOf] <;> omega)
                  · have n3 : ((k : Int) + 1 == (rs.length : Int)) = true := by rw [beq_iff_eq]; omega
                    have hbad : patOk s = false := by
                      have h := hto.out
                      rw [hdr.out] at h
                      have h8 := h.bad (by rw [h92, List.drop_of_length_le (by omega)]; exact one_back_nil)
                      rw [hpk.out, h8]
                      rfl
                    replace hbad := Lib.hid hbad
                    replace h92 := Lib.hid h92
                    replace h91 := Lib.hid h91
                    replace h42 := Lib.hid h42
                    replace h63 := Lib.hid h63
                    go_wp2_with fail
                    refine bodyPost_ret (results_tmp2 rfl _ _ _) rfl ?_
                    exact PatRPost.no hbad.out (hgw)
                · have t92 : ((r : Int) == 92) = false := by rw [beq_eq_false_iff_ne]; omega
                  have hone : oneS (r :: rs.drop (k + 1)) false = (lit r, rs.drop (k + 1), false) := one_lit _ ⟨h42, h63, h91, h92⟩
                  replace hone := Lib.hid hone
                  replace h92 := Lib.hid h92
                  replace h91 := Lib.hid h91
                  replace h42 := Lib.hid h42
                  replace h63 := Lib.hid h63
                  have hto2 : PatTo rs (qs ++ [lit r]) (rs.drop (k + 1)) := PatTo.step (by rw [← hdr.out]; exact hto.out) hone.out
                  have his2 : PrsIs ((ms ++ [(⟨⟨false, false, [(r, r)]⟩, some ⟨wr.heap.size, 0, none⟩, 1, some ⟨wr.heap.size + 1, 0, none⟩, 1⟩ : PrM)]).map (·.pr)) (qs ++ [lit r]) := by rw [List.map_append]; exact his.out.snoc (Pr.lit r)
                  replace hto2 := Lib.hid hto2
                  replace his2 := Lib.hid his2
                  go_wp2_with (at_builtin; refine wpList_append_list pr_elem _ rfl (.tmp 45) (.tmp 51) rfl w2.heap.size _ ms rfl (hown.g (((G.new _ _).alloc _).alloc _)) (wr.heap.size + 3) (some ⟨wr.heap.size + 1 + 1, 0, none⟩) 1 [(⟨⟨false, false, [(r, r)]⟩, some ⟨wr.heap.size, 0, none⟩, 1, some ⟨wr.heap.size + 1, 0, none⟩, 1⟩ : PrM)] rfl (by intro h; cases h) (Sl.of_blk PrM.cells_len _ (blk_new' _ _ _ _ (by simp)) rfl (by omega)) (by simp; omega) (by simp; omega) (by simp; omega) ?_; intro v4 w4 hown4 hk4 _; have hmo4 := ((hmo.out.g (((G.new _ _).alloc _).alloc _)).keep hk4).snoc (m := (⟨⟨false, false, [(r, r)]⟩, some ⟨wr.heap.size, 0, none⟩, 1, some ⟨wr.heap.size + 1, 0, none⟩, 1⟩ : PrM)) ((OwnL.made (base := w2.heap.size) runeC_len [r] (((G.new _ _).alloc _).blk (blk_new wr _ _)) rfl hsz (by simp)).keepT hk4 (by decide)) ((OwnL.made (base := w2.heap.size) runeC_len [r] ((G.new _ _).blk (blk_new' _ _ _ _ (by simp))) rfl (by omega) (by simp)).keepT hk4 (by decide)); have hg4 : G w2 w4 := hk4.g (((hg.alloc _).alloc _).alloc _); replace hmo4 := Lib.hid hmo4)
                  go_roundw
                  case rel => exact ⟨k + 1, ms ++ [(⟨⟨false, false, [(r, r)]⟩, some ⟨wr.heap.size, 0, none⟩, 1, some ⟨wr.heap.size + 1, 0, none⟩, 1⟩ : PrM)], _, by omega, by go_num, hown4, hmo4, his2, hto2, by simp; omega, hg4⟩
                  case measure => (simp [intOf] <;> omega)
        · obtain rfl : k = rs.length := by omega
          have hdone : parseL rs = (qs, false) := by
            have := hto.out
            rw [List.drop_length] at this
            exact this.done
          obtain ⟨A9, c9, rfl, _, _, _⟩ := OwnL.sl PrM.cells_len hown
          have hok : patOk s = true := by rw [hpk.out, hdone]; rfl
          replace hok := Lib.hid hok
          replace hdone := Lib.hid hdone
          replace hown := Lib.hid hown
          go_wp2_with fail
          refine bodyPost_ret (results_tmp2 rfl _ _ _) rfl ?_
          exact PatRPost.yes hok.out hgw2.size hown.out hmo.out (by rw [hpp.out, hdone.out]; exact his.out) hgw
theorem checkGlob_any (s : ByteArray) (w : World) (hs : s.size ≤ 1048576) : Calls Tryd.prog 13 #[.string s] w fun e w' => e = .returned (.int .i64 (chkI (patOk s))) ∧ G w w' := by
  have hp := pattern_any s w hs
  go_enter Tryd.func13, Tryd.ntmps13
  go_wp2_with fail
  refine hp.mono ?_
  clear hp
  rintro e w1 ⟨A, n, c, rfl, hok, hg⟩
  clear hok
  cases h : patOk s with
  | false =>
    replace h := Lib.hid h
    go_wp2_with fail
    go_ret
    exact ⟨by rw [h.out]; rfl, hg⟩
  | true =>
    replace h := Lib.hid h
    go_wp2_with fail
    go_ret
    exact ⟨by rw [h.out]; rfl, hg⟩
end Go.Proofs.YthhhobfdlgmjlaaDoor

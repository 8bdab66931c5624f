/- Several texts in one: SmEnc, DecSm, RefSmEnc, RefDecSm, Same, EvBulk, AlikeSm, SameSm, Bytes, Make, Awake9, EventStreamsW, ReadStr, ReadD, EventStreams. -/
import Derived.Test.YtilfgafdkiaaaaaDoorKnown
import Derived.Test.YtilfgafdkiaaaaaDoorEvEnc
import Derived.Test.YtilfgafdkiaaaaaDoorSmLaw
import Derived.Test.YtilfgafdkiaaaaaDoorSmSt
import Derived.Deep.RegionLaw
import Derived.BigRegion
import Derived.Test.YtilfgafdkiaaaaaDoorEv
import Derived.Test.YtilfgafdkiaaaaaDoorTotal
import Derived.Test.YtilfgafdkiaaaaaDoorLin
import Derived.Test.YtilfgafdkiaaaaaDoorStr
import Derived.Test.YtilfgafdkiaaaaaDoorBatch
import Derived.Test.YtilfgafdkiaaaaaDoorTabs
import Derived.Test.YtilfgafdkiaaaaaDoorRows
import Derived.ProofKit
import Derived.OpenShut
import Derived.PinnedBridge
import Derived.Lib.LaidU8T
import Derived.Lay
import Derived.SevenTiedAt
import Derived.LaidMore
import Derived.Test.YtilfgafdkiaaaaaDoorBatLaw
import Derived.Deep.Slices
import Derived.Test.YtilfgafdkiaaaaaDoorTie
import Derived.Test.YtilfgafdkiaaaaaDoorCards
/- event.EncodeStream, penstockref7.EncodeStream: what they answer. Conditions: a stream that is not too great (SmSmall); the decoder's tables lie as the library lays them. -/
namespace Go.Proofs.YtilfgafdkiaaaaaDoor
open Go.RowKit

set_option maxRecDepth 100000 in
set_option maxHeartbeats 8000000 in
theorem smEnc_any (n : ByteArray) (es : List Ev) (ks : List Kn) (A A2 : Option Addr) (c c2 : Nat) (w : World) (hin : SmIn w w.heap.size A A2 es ks) (hz : SmSmall n es ks) (hT : Tabs w) :
    Calls Tryd.prog 23 #[.agg #[.string n, .slice A es.length c, .slice A2 ks.length c2]] w (RetBytesN w (smL ⟨n, es, ks⟩)) := by
  obtain ⟨hz0, ⟨hz1, hz2⟩, hz3, hz4⟩ := hz
  have hn : ∀ w', G w w' → Calls Tryd.prog 37 #[.string n] w' fun e w'' => e = .returned (.bool (nameB n)) ∧ G w' w'' := fun w' hg => name_any n w' (by omega) (hT.g hg)
  have hev : ∀ w', G w w' → ∀ (s d : ByteArray) (v x y z i : Int), s.size ≤ 524288 → d.size ≤ 524288 → Calls Tryd.prog 18 #[.agg (Ev.cells ⟨s, v, d, ⟨x, y, z⟩, i⟩).toArray] w' (RetBytesN w' (evL ⟨s, v, d, ⟨x, y, z⟩, i⟩)) := fun w' hg s d v x y z i h1 h2 => evEnc_any s d v x y z i w' (by omega) (by omega) (hT.g hg)
  have hkn : ∀ w', G w w' → ∀ (key : ByteArray) (v x y z : Int), key.size ≤ 524288 → Calls Tryd.prog 55 #[.agg #[.string key, .int .i64 v, .int .i64 x, .int .i64 y, .int .i64 z]] w' fun e w'' => e = .returned (.bool (knOk ⟨key, v, ⟨x, y, z⟩⟩)) ∧ G w' w'' := fun w' hg key v x y z h1 => known_any key v x y z w' (by omega) (hT.g hg)
  have hq := fun W A n c => Lib.run_eql_slice_nil (P := Tryd.prog) W 26 5 A n c 0 0 Tryd.underlying26
  replace hin := Lib.hid hin
  replace hz2 := Lib.hid hz2
  replace hz4 := Lib.hid hz4
  replace hev := Lib.hid hev
  replace hkn := Lib.hid hkn
  clear hT
  cases hnb : nameB n with
  | false =>
    have hno := Lib.hid (smL_bad (n := n) (es := es) (ks := ks) (.inl hnb))
    rw [hnb] at hn
    replace hnb := Lib.hid hnb
    go_enter Tryd.func23, Tryd.ntmps23
    go_wp2_with fail
    refine (hn _ (G.new _ _)).mono ?_
    rintro e w1 ⟨rfl, hg1⟩
    go_wp2_with fail
    go_ret
    exact ⟨none, 0, by rw [hno.out]; rfl, by rw [hno.out]; exact OwnL.nil, (G.new _ _).trans hg1, fun _ => rfl⟩
  | true =>
    rw [hnb] at hn
    replace hnb := Lib.hid hnb
    obtain ⟨m1, hm1⟩ : ∃ m, textL n.data.toList = m := ⟨_, rfl⟩
    obtain ⟨m2, hm2⟩ : ∃ m, m1 ++ vL es.length = m := ⟨_, rfl⟩
    have b1 : m1.length ≤ n.size + 10 := by rw [← hm1]; exact textL_len n
    have b2 : m2.length ≤ n.size + 20 := by rw [← hm2, List.length_append]; have := vL_len es.length; omega
    have hhd : smHead n es.length = m2 := by unfold smHead; rw [hm1, hm2]
    have hw1 : IntKind.u64.wrap (es.length : Int) = (es.length : Int) := by rw [IntKind.wrap_u64]; omega
    have hw2 : IntKind.u64.wrap (ks.length : Int) = (ks.length : Int) := by rw [IntKind.wrap_u64]; omega
    replace hm1 := Lib.hid hm1
    replace hm2 := Lib.hid hm2
    replace hhd := Lib.hid hhd
    go_enter Tryd.func23, Tryd.ntmps23
    go_upto_region 1 with fail
    generalize hW0 : w.alloc (.cells #[.string n, .slice A es.length c, .slice A2 ks.length c2] 53) = W0
    have hz : w.heap.size + 0 < W0.heap.size := by rw [← hW0]; simp
    have hG0 : G w W0 := by rw [← hW0]; exact G.new _ _
    have r0 : W0.cell? ⟨w.heap.size, 0, none⟩ = some (.string n) := by rw [← hW0]; simp
    have r1 : W0.cell? ⟨w.heap.size, 1, none⟩ = some (.slice A es.length c) := by rw [← hW0]; simp
    have r2 : W0.cell? ⟨w.heap.size, 2, none⟩ = some (.slice A2 ks.length c2) := by rw [← hW0]; simp
    clear hW0
    have q0 : ∀ w', G W0 w' → w'.cell? ⟨w.heap.size, 0, none⟩ = some (.string n) := fun w' h => (h.cell (by omega)).trans r0
    have q1 : ∀ w', G W0 w' → w'.cell? ⟨w.heap.size, 1, none⟩ = some (.slice A es.length c) := fun w' h => (h.cell (by omega)).trans r1
    have q2 : ∀ w', G W0 w' → w'.cell? ⟨w.heap.size, 2, none⟩ = some (.slice A2 ks.length c2) := fun w' h => (h.cell (by omega)).trans r2
    clear r0 r1 r2
    have hgr : G W0 W0 := G.refl _
    go_upto_region 3 with (go_at_call 37; refine (hn _ hG0).mono ?_; rintro e w1 ⟨rfl, hg1⟩)
    clear hn hgr
    go_cut [3] (fun v3 wx => OwnAt W0.heap.size m2 v3 wx ∧ G W0 wx)
    case first =>
      go_region_held3 (fun w' => G W0 w') (first | exact hg1.drew | exact hgm.keep (by assumption) | exact G.alloc (by assumption) _ | exact KeepT.g hk2 (by assumption) | fail) (first
        | (go_at_call 40; (with_reducible refine Calls.mono (text_nil hm1 (by omega)) ?_); rintro e u1 ⟨A1, d1, rfl, hown1, hgm⟩; replace hown1 := OwnL.mono hown1 (show W0.heap.size ≤ _ from G.size (by assumption)))
        | (go_at_call 41; (with_reducible refine Calls.mono (nums_own (t := 86) (base := W0.heap.size) hm2 (by omega) (by omega) (by decide) (hown1.g (G.new _ _)) (blk_new _ _ _) (G.size (by assumption))) ?_); rintro e u2 ⟨A2, d2, rfl, hown2, hk2⟩)
        | (go_at_call 41; (with_reducible refine Calls.mono (nums_own (t := 86) (base := W0.heap.size) hm2 (by omega) (by omega) (by decide) hown1 (hgm.blk (blk_new _ _ _)) (G.size (by assumption))) ?_); rintro e u2 ⟨A2, d2, rfl, hown2, hk2⟩))
      all_goals
        have hGe : G W0 u2 := by assumption
        go_wp2_with fail
        go_meet
        exact ⟨⟨_, _, rfl, hown2⟩, hGe⟩
    case rest =>
      obtain ⟨⟨A3, d3, rfl, hown3⟩, hgc⟩ := hcut
      replace hown3 := Lib.hid hown3
      have g1 := q1 _ hgc
      clear hg1
      go_wp2_with fail
      clear g1
      go_loopw [3, 25] (fun v i wr => ∃ (k : Nat) (m : List UInt8) (A8 : Option Addr) (c8 : Nat), v = .slice A8 m.length c8 ∧ i = .int .i64 k ∧ k ≤ es.length ∧ m.length ≤ 530000 + k * 1048700 ∧ Hid (m = m2 ++ (es.take k).flatMap evL) ∧ Hid (∀ e ∈ es.take k, smEv n e = true) ∧ Hid (OwnL 5 1 byteC wr W0.heap.size (.slice A8 m.length c8) m) ∧ G W0 wr) (fun _ i _ => es.length - (intOf i).toNat)
      case atStart => exact ⟨0, m2, A3, d3, rfl, rfl, Nat.zero_le _, by omega, by simp [Hid], by simp [Hid], hown3, hgc⟩
      case round =>
        obtain ⟨wo, rfl⟩ : ∃ wo : World, wo = wr := ⟨_, rfl⟩
        clear hown3 hgc
        obtain ⟨k, m, A8, c8, rfl, rfl, hkl, hml, hm, hall, hown, hgr⟩ := hrel
        have hg := hG0.trans hgr
        by_cases hlt : k < es.length
        · obtain ⟨x, hx⟩ : ∃ x, es[k]? = some x := ⟨_, List.getElem?_eq_getElem hlt⟩
          have hxm := List.mem_of_getElem? hx
          obtain ⟨z1, z2⟩ := hz2.out x hxm
          have hsl := (hin.out.1.g (Nat.le_refl _) hg).get hx
          have hfl := flat_take_succ evL hx
          have hel := evL_len x
          have hbad : smEv n x = false → smL ⟨n, es, ks⟩ = [] := fun h => smL_bad (.inr (.inl ⟨x, hxm, h⟩))
          have hext : smEv n x = true → (∀ e ∈ es.take k, smEv n e = true) → ∀ e ∈ es.take (k + 1), smEv n e = true := fun h1 h2 e he => by
            rw [List.take_add_one, hx, List.mem_append] at he
            rcases he with he | he
            · exact h2 e he
            · simp at he; rw [he]; exact h1
          replace hbad := Lib.hid hbad
          replace hext := Lib.hid hext
          obtain ⟨xs, xv, xd, ⟨xa, xb, xc⟩, xi⟩ := x
          obtain ⟨b, o, rfl, hb, hc⟩ := hsl
          simp only at z1 z2 hel
          have c0 := hc 0 _ rfl
          have c1 := hc 1 _ rfl
          have c2 := hc 2 _ rfl
          have c3 := hc 3 _ rfl
          have c4 := hc 4 _ rfl
          have c5 := hc 5 _ rfl
          have c6 := hc 6 _ rfl
          simp only [Nat.add_zero] at c0
          have n1 : (0 : Int) ≤ (k : Int) := by omega
          have n2 : (k : Int) < (es.length : Int) := by omega
          have hen := hev.out (wo.alloc (.cells #[.string xs, .int .i64 xv, .string xd, .int .i64 xa, .int .i64 xb, .int .i64 xc, .int .i64 xi] 41)) (hg.trans (G.new _ _)) xs xd xv xa xb xc xi z1 z2
          unfold Ev.cells at hen
          replace hen := Lib.hid hen
          replace hel := Lib.hid hel
          replace hfl := Lib.hid hfl
          clear hx hc
          go_upto_region 7 with fail
          have hbx := blk_new wo #[.string xs, .int .i64 xv, .string xd, .int .i64 xa, .int .i64 xb, .int .i64 xc, .int .i64 xi] 41
          have hgn := G.new wo (.cells #[.string xs, .int .i64 xv, .string xd, .int .i64 xa, .int .i64 xb, .int .i64 xc, .int .i64 xi] 41)
          generalize wo.alloc (.cells #[.string xs, .int .i64 xv, .string xd, .int .i64 xa, .int .i64 xb, .int .i64 xc, .int .i64 xi] 41) = wx at *
          generalize hX : wo.heap.size = X at *
          replace hX := Lib.hid hX
          have x0 := (blk_cell hbx 0).trans (show _ = some (.string xs) from rfl)
          have x1 := (blk_cell hbx 1).trans (show _ = some (.int .i64 xv) from rfl)
          have x2 := (blk_cell hbx 2).trans (show _ = some (.string xd) from rfl)
          have x3 := (blk_cell hbx 3).trans (show _ = some (.int .i64 xa) from rfl)
          have x4 := (blk_cell hbx 4).trans (show _ = some (.int .i64 xb) from rfl)
          have x5 := (blk_cell hbx 5).trans (show _ = some (.int .i64 xc) from rfl)
          have x6 := (blk_cell hbx 6).trans (show _ = some (.int .i64 xi) from rfl)
          have hgx : G W0 wx := hgr.trans hgn
          replace hown := Lib.hid (hown.out.g hgn)
          replace hbx := Lib.hid hbx
          clear hgn c0 c1 c2 c3 c4 c5 c6 hg hgr
          have hen := hen.out
          cases hok : evOk ⟨xs, xv, xd, ⟨xa, xb, xc⟩, xi⟩ with
          | false =>
            have hno := Lib.hid (hbad.out (by unfold smEv; rw [hok]; rfl))
            rw [evL_none hok] at hen
            replace hok := Lib.hid hok
            clear hext hfl hel
            go_wp2_with fail
            refine hen.mono ?_
            rintro e u ⟨Ae, ce, rfl, _, hgu, hnil⟩
            obtain rfl := hnil rfl
            clear hnil hen x0 x1 x2 x3 x4 x5 x6
            go_wp2_with fail
            go_ret
            exact ⟨none, 0, by rw [hno.out]; rfl, by rw [hno.out]; exact OwnL.nil, hG0.trans (hgx.trans hgu), fun _ => rfl⟩
          | true =>
            have hne : evL ⟨xs, xv, xd, ⟨xa, xb, xc⟩, xi⟩ ≠ [] := by rw [Ne, evL_nil, hok]; simp
            by_cases hxn : xs = n
            case neg =>
              have hno := Lib.hid (hbad.out (by unfold smEv; simp only; rw [decide_eq_false hxn, Bool.and_false]))
              generalize evL ⟨xs, xv, xd, ⟨xa, xb, xc⟩, xi⟩ = el at *
              replace hne := Lib.hid hne
              replace hok := Lib.hid hok
              have t1 : (xs.toList == n.toList) = false := by rw [bytes_beq]; exact decide_eq_false hxn
              have t2 : (xs.toList != n.toList) = true := by rw [bne, t1]; rfl
              clear hext hfl hel
              go_wp2_with fail
              refine hen.mono ?_
              rintro e u ⟨Ae, ce, rfl, hownE, hgu, _⟩
              obtain ⟨ad, rfl⟩ : ∃ a, Ae = some a := by
                rcases Ae with _ | a
                · exact absurd ((OwnL.self byteC_len hownE).of_none) hne.out
                · exact ⟨a, rfl⟩
              clear hen hownE x0 x1 x2 x3 x4 x5 x6
              have x0 := (blk_cell (hgu.blk hbx.out) 0).trans (show _ = some (.string xs) from rfl)
              have g0 := q0 _ (hgx.trans hgu)
              go_wp2_with fail
              go_ret
              exact ⟨none, 0, by rw [hno.out]; rfl, by rw [hno.out]; exact OwnL.nil, hG0.trans (hgx.trans hgu), fun _ => rfl⟩
            subst hxn
            have hsm := hext.out (by unfold smEv; rw [hok, decide_eq_true rfl]; rfl) hall.out
            generalize evL ⟨xs, xv, xd, ⟨xa, xb, xc⟩, xi⟩ = el at *
            obtain ⟨mE, hmE⟩ : ∃ m', m ++ el = m' := ⟨_, rfl⟩
            have hmEe : mE = m2 ++ (es.take (k + 1)).flatMap evL := by rw [hfl.out, ← List.append_assoc, ← hm.out, hmE]
            have hmEl : mE.length = m.length + el.length := by rw [← hmE, List.length_append]
            have t1 : (xs.toList == xs.toList) = true := by simp
            have t2 : (xs.toList != xs.toList) = false := by simp
            have hel := hel.out
            replace hne := Lib.hid hne
            replace hok := Lib.hid hok
            replace hsm := Lib.hid hsm
            replace hmE := Lib.hid hmE
            replace hmEe := Lib.hid hmEe
            replace hmEl := Lib.hid hmEl
            clear hext hfl hm hall
            go_wp2_with fail
            refine hen.mono ?_
            rintro e u ⟨Ae, ce, rfl, hownE, hgu, _⟩
            have hslE := OwnL.self byteC_len hownE
            obtain ⟨ad, rfl⟩ : ∃ a, Ae = some a := by
              rcases Ae with _ | a
              · exact absurd hslE.of_none hne.out
              · exact ⟨a, rfl⟩
            clear hen hownE x0 x1 x2 x3 x4 x5 x6
            have x0 := (blk_cell (hgu.blk hbx.out) 0).trans (show _ = some (.string xs) from rfl)
            have g0 := q0 _ (hgx.trans hgu)
            have hgu2 := hgx.trans hgu
            replace hown := Lib.hid (hown.out.g hgu)
            have hzu := hgu2.size
            go_wp2_with (at_builtin; refine wpList_append_but byte_elem _ rfl (.tmp 40) (.tmp 41) rfl W0.heap.size _ m rfl hown.out u.heap.size (some ad) ce el rfl (by intro h; cases h) hslE (by omega) (by omega) hzu ?_; intro v6 u6 hown6 hk6 hbut; rw [hmE.out] at hown6; obtain ⟨A6, c6, e6, _, _, _⟩ := OwnL.sl byteC_len hown6; subst e6; clear hbut; replace hown6 := Lib.hid hown6; have hg6 := KeepT.g hk6 hgu2)
            go_roundw
            case rel => exact ⟨k + 1, mE, A6, c6, rfl, by go_num, by omega, by have := hmEl.out; omega, hmEe, hsm, hown6, hg6⟩
            case measure => (simp [intOf] <;> omega)
        · have hm3 : m = m2 ++ es.flatMap evL := by rw [hm.out, List.take_of_length_le (by omega)]
          have hall2 : ∀ e ∈ es, smEv n e = true := by
            have h := hall.out
            rwa [List.take_of_length_le (by omega)] at h
          obtain ⟨mK, hmK⟩ : ∃ m', m ++ vL ks.length = m' := ⟨_, rfl⟩
          have lK : mK.length ≤ m.length + 10 := by rw [← hmK, List.length_append]; have := vL_len ks.length; omega
          have hkl2 : k * 1048700 ≤ 524289 * 1048700 := by omega
          have g2 := q2 _ hgr
          have hzr := hgr.size
          replace hm3 := Lib.hid hm3
          replace hall2 := Lib.hid hall2
          replace hmK := Lib.hid hmK
          clear hm hall
          go_wp2_with fail
          refine (nums_own (t := 86) (base := W0.heap.size) hmK (by omega) (by omega) (by decide) (hown.out.g (G.new _ _)) (blk_new _ _ _) (by simp; omega)).mono ?_
          rintro e u5 ⟨A5, d5, rfl, hown5, hk5⟩
          have hg5 : G W0 u5 := KeepT.g hk5 (hgr.trans (G.new _ _))
          have hg := hG0.trans hg5
          have g2 := q2 _ hg5
          replace hown5 := Lib.hid hown5
          clear hown hk5 hzr
          go_wp2_with fail
          clear g2
          go_loopw [3, 54] (fun v i wr => ∃ (j : Nat) (m' : List UInt8) (A9 : Option Addr) (c9 : Nat), v = .slice A9 m'.length c9 ∧ i = .int .i64 j ∧ j ≤ ks.length ∧ m'.length ≤ mK.length + j * 524400 ∧ Hid (m' = mK ++ (ks.take j).flatMap knBytes) ∧ Hid (∀ y ∈ ks.take j, knOk y = true) ∧ Hid (OwnL 5 1 byteC wr W0.heap.size (.slice A9 m'.length c9) m') ∧ G W0 wr) (fun _ i _ => ks.length - (intOf i).toNat)
          case atStart => exact ⟨0, mK, A5, d5, rfl, rfl, Nat.zero_le _, by omega, by simp [Hid], by simp [Hid], hown5, hg5⟩
          case round =>
            obtain ⟨wo, rfl⟩ : ∃ wo : World, wo = wr := ⟨_, rfl⟩
            clear hown5 hg5 hg hgr
            obtain ⟨j, m', A9, c9, rfl, rfl, hjl, hml', hm', hall', hown, hgr⟩ := hrel
            have hg := hG0.trans hgr
            by_cases hjt : j < ks.length
            · obtain ⟨y, hy⟩ : ∃ y, ks[j]? = some y := ⟨_, List.getElem?_eq_getElem hjt⟩
              have hym := List.mem_of_getElem? hy
              have z1 := hz4.out y hym
              have hsl := (hin.out.2.g (Nat.le_refl _) hg).get hy
              have hfl := flat_take_succ knBytes hy
              have hbad : knOk y = false → smL ⟨n, es, ks⟩ = [] := fun h => smL_bad (.inr (.inr ⟨y, hym, h⟩))
              have hext : knOk y = true → (∀ e ∈ ks.take j, knOk e = true) → ∀ e ∈ ks.take (j + 1), knOk e = true := fun h1 h2 e he => by
                rw [List.take_add_one, hy, List.mem_append] at he
                rcases he with he | he
                · exact h2 e he
                · simp at he; rw [he]; exact h1
              replace hbad := Lib.hid hbad
              replace hext := Lib.hid hext
              obtain ⟨yk, yv, ⟨ya, yb, yc⟩⟩ := y
              obtain ⟨b, o, rfl, hb, hc⟩ := hsl
              simp only at z1
              have c0 := hc 0 _ rfl
              have c1 := hc 1 _ rfl
              have c2 := hc 2 _ rfl
              have c3 := hc 3 _ rfl
              have c4 := hc 4 _ rfl
              simp only [Nat.add_zero] at c0
              have n1 : (0 : Int) ≤ (j : Int) := by omega
              have n2 : (j : Int) < (ks.length : Int) := by omega
              replace hfl := Lib.hid hfl
              clear hy hc
              go_upto_region 16 with fail
              have hbx := blk_new wo #[.string yk, .int .i64 yv, .int .i64 ya, .int .i64 yb, .int .i64 yc] 91
              have hgn := G.new wo (.cells #[.string yk, .int .i64 yv, .int .i64 ya, .int .i64 yb, .int .i64 yc] 91)
              generalize wo.alloc (.cells #[.string yk, .int .i64 yv, .int .i64 ya, .int .i64 yb, .int .i64 yc] 91) = wx at *
              generalize hX : wo.heap.size = X at *
              replace hX := Lib.hid hX
              have x0 := (blk_cell hbx 0).trans (show _ = some (.string yk) from rfl)
              have x1 := (blk_cell hbx 1).trans (show _ = some (.int .i64 yv) from rfl)
              have x2 := (blk_cell hbx 2).trans (show _ = some (.int .i64 ya) from rfl)
              have x3 := (blk_cell hbx 3).trans (show _ = some (.int .i64 yb) from rfl)
              have x4 := (blk_cell hbx 4).trans (show _ = some (.int .i64 yc) from rfl)
              have hgx : G W0 wx := hgr.trans hgn
              have hkc := hkn.out wx (hG0.trans hgx) yk yv ya yb yc z1
              replace hown := Lib.hid (hown.out.g hgn)
              clear hgn c0 c1 c2 c3 c4 hg hgr
              cases hok : knOk ⟨yk, yv, ⟨ya, yb, yc⟩⟩ with
              | false =>
                have hno := Lib.hid (hbad.out hok)
                rw [hok] at hkc
                replace hok := Lib.hid hok
                clear hext hfl
                go_wp2_with fail
                refine hkc.mono ?_
                rintro e u ⟨rfl, hgu⟩
                clear hkc x0 x1 x2 x3 x4
                go_wp2_with fail
                go_ret
                exact ⟨none, 0, by rw [hno.out]; rfl, by rw [hno.out]; exact OwnL.nil, hG0.trans (hgx.trans hgu), fun _ => rfl⟩
              | true =>
                rw [hok] at hkc
                have hsm := hext.out hok hall'.out
                have hk2 := (knOk_iff _).1 hok
                simp only at hk2
                obtain ⟨_, _, ⟨hv1, hv2⟩, hst⟩ := hk2
                obtain ⟨vn, rfl⟩ : ∃ q : Nat, yv = q := ⟨yv.toNat, by omega⟩
                obtain ⟨mT, hmT⟩ : ∃ q, m' ++ textL yk.data.toList = q := ⟨_, rfl⟩
                obtain ⟨mV, hmV⟩ : ∃ q, mT ++ vL vn = q := ⟨_, rfl⟩
                obtain ⟨mS, hmS⟩ : ∃ q, mV ++ stE ⟨ya, yb, yc⟩ = q := ⟨_, rfl⟩
                have hmSe : mS = mK ++ (ks.take (j + 1)).flatMap knBytes := by
                  rw [hfl.out, ← List.append_assoc, ← hm'.out, ← hmS, ← hmV, ← hmT, stE_ok hst]
                  unfold knBytes
                  simp only [List.append_assoc]
                  rfl
                have lT : mT.length ≤ m'.length + yk.size + 10 := by rw [← hmT, List.length_append]; have := textL_len yk; omega
                have lV : mV.length ≤ mT.length + 10 := by rw [← hmV, List.length_append]; have := vL_len vn; omega
                have lS : mS.length ≤ mV.length + 30 := by rw [← hmS, List.length_append]; have := stE_len ⟨ya, yb, yc⟩; omega
                have hen : ∀ w', Calls Tryd.prog 42 #[.agg #[.int .i64 ya, .int .i64 yb, .int .i64 yc]] w' (RetBytes w' (stE ⟨ya, yb, yc⟩)) := fun w' => stEnc_any ⟨ya, yb, yc⟩ w'
                have hel := stE_len ⟨ya, yb, yc⟩
                have hwv : IntKind.u64.wrap (vn : Int) = (vn : Int) := by rw [IntKind.wrap_u64]; omega
                generalize stE ⟨ya, yb, yc⟩ = ste at *
                replace hok := Lib.hid hok
                replace hsm := Lib.hid hsm
                replace hmT := Lib.hid hmT
                replace hmV := Lib.hid hmV
                replace hmS := Lib.hid hmS
                replace hmSe := Lib.hid hmSe
                replace hen := Lib.hid hen
                clear hext hfl hm' hall' hst
                go_upto_region 18 with (go_at_call 55; refine hkc.mono ?_; rintro e u ⟨rfl, hgu⟩)
                clear hkc x0 x1 x2 x3 x4
                have x0 : ∀ w', G u w' → w'.cell? ⟨X, 0, none⟩ = some (.string yk) := fun w' h => (blk_cell ((hgu.trans h).blk hbx) 0).trans rfl
                have x1 : ∀ w', G u w' → w'.cell? ⟨X, 1, none⟩ = some (.int .i64 vn) := fun w' h => (blk_cell ((hgu.trans h).blk hbx) 1).trans rfl
                have x2 : ∀ w', G u w' → w'.cell? ⟨X, 2, none⟩ = some (.int .i64 ya) := fun w' h => (blk_cell ((hgu.trans h).blk hbx) 2).trans rfl
                have x3 : ∀ w', G u w' → w'.cell? ⟨X, 3, none⟩ = some (.int .i64 yb) := fun w' h => (blk_cell ((hgu.trans h).blk hbx) 3).trans rfl
                have x4 : ∀ w', G u w' → w'.cell? ⟨X, 4, none⟩ = some (.int .i64 yc) := fun w' h => (blk_cell ((hgu.trans h).blk hbx) 4).trans rfl
                have hownx : ∀ w', G u w' → OwnL 5 1 byteC w' W0.heap.size (.slice A9 m'.length c9) m' := fun w' h => hown.out.g (hgu.trans h)
                have hgz := hgx.trans hgu
                have hzu := hgz.size
                replace hbx := Lib.hid hbx
                replace hownx := Lib.hid hownx
                clear hown hgu hgx
                go_region_held3 (fun w' => G u w') (first | exact (G.refl _).drew | exact hgm.keep (by assumption) | exact hgE.keep (by assumption) | assumption | exact G.alloc (by assumption) _ | exact KeepT.g hk2 (by assumption) | exact KeepT.g hk3 (by assumption) | fail) (first
                  | (go_at_call 40; (with_reducible refine Calls.mono (textOf_own hmT (by omega) (by omega) (hownx.out _ (by assumption))) ?_); rintro e u1 ⟨A1, d1, rfl, hown1, hgm⟩; replace hown1 := OwnL.mono hown1 (show u.heap.size ≤ _ from G.size (by assumption)))
                  | (go_at_call 41; (with_reducible refine Calls.mono (nums_own (t := 86) (base := u.heap.size) hmV (by omega) (by omega) (by decide) (hown1.g (G.new _ _)) (blk_new _ _ _) (G.size (by assumption))) ?_); rintro e u2 ⟨A2, d2, rfl, hown2, hk2⟩)
                  | (go_at_call 41; (with_reducible refine Calls.mono (nums_own (t := 86) (base := u.heap.size) hmV (by omega) (by omega) (by decide) hown1 (hgm.blk (blk_new _ _ _)) (G.size (by assumption))) ?_); rintro e u2 ⟨A2, d2, rfl, hown2, hk2⟩)
                  | (go_at_call 42; (with_reducible refine Calls.mono (hen.out _) ?_); rintro e uE ⟨AE, dE, rfl, hownE, hgE⟩; have hslE := OwnL.self byteC_len hownE; have hAE : AE = none → ste = [] := fun h => (h ▸ hslE).of_none; clear hownE)
                  | (refine step_append_but byte_elem _ rfl (.tmp 69) (.tmp 72) rfl u.heap.size (.slice A2 mV.length d2) mV rfl (hown2.g hgE) uE.heap.size AE dE ste rfl hAE hslE (by omega) (by omega) (G.size (by assumption)) ?_; intro v3 u3 hown3 hk3 hbut; rw [hmS.out] at hown3; obtain ⟨A3, d3, e3, _, _, _⟩ := OwnL.sl byteC_len hown3; subst e3; clear hbut))
                all_goals
                  have hGe := hgz.trans (by assumption)
                  have hown4 := Lib.hid (OwnL.mono hown3 hzu)
                  go_wp2_with fail
                  go_roundw
                  case rel => exact ⟨j + 1, mS, A3, d3, rfl, by go_num, by omega, by omega, hmSe, hsm, hown4, hGe⟩
                  case measure => (simp [intOf] <;> omega)
            · have hall3 : ∀ y ∈ ks, knOk y = true := by
                have h := hall'.out
                rwa [List.take_of_length_le (by omega)] at h
              obtain ⟨he, hne⟩ := smL_all hnb.out hall2.out hall3
              have he2 : smL ⟨n, es, ks⟩ = m' := by rw [he, hhd.out, ← hm3.out, hmK.out, hm'.out, List.take_of_length_le (by omega)]
              rw [he2] at hne
              replace he2 := Lib.hid he2
              replace hne := Lib.hid hne
              clear he hm' hall' hall3
              go_wp2_with fail
              go_ret
              rw [he2.out]
              exact ⟨A9, c9, rfl, OwnL.mono hown.out hG0.size, hg, fun h => absurd h hne.out⟩
end Go.Proofs.YtilfgafdkiaaaaaDoor
/- event.DecodeStream: what it answers. Conditions: at most 2^19 bytes; the decoder's tables lie as the library lays them. -/
namespace Go.Proofs.YtilfgafdkiaaaaaDoor
open Go.RowKit

theorem G.set3' {a w : World} (h : G a w) {g : Nat} (hg : a.heap.size ≤ g) (x y z : Value) : G a (((w.setCell ⟨g, 0, none⟩ x).setCell ⟨g, 1, none⟩ y).setCell ⟨g, 2, none⟩ z) := ((h.set hg x).set hg y).set hg z
theorem wrap_less {j : Nat} (h : j < 2 ^ 64) : IntKind.u64.wrap (((j + 1 : Nat) : Int) - 1) = (j : Int) := by rw [IntKind.wrap_u64]; omega
set_option maxRecDepth 100000 in
set_option maxHeartbeats 16000000 in
theorem decStream_any (l : List UInt8) (A : Option Addr) (c8 : Nat) (w : World) (hs : Sl byteC 1 w w.heap.size A l) (hl : l.length ≤ 524288) (hcap : l.length ≤ c8) (hT : Tabs w) :
    Calls Tryd.prog 21 #[.slice A l.length c8] w (RetSm w l) := by
  have hl2 : l.length ≤ 1073741824 := by omega
  have hZ0 := blk_new w #[.string ByteArray.empty, .slice none 0 0, .slice none 0 0] 53
  have hg0 := G.new w (.cells #[.string ByteArray.empty, .slice none 0 0, .slice none 0 0] 53)
  have hz0 : (w.alloc (.cells #[.string ByteArray.empty, .slice none 0 0, .slice none 0 0] 53)).heap.size = w.heap.size + 1 := by simp
  generalize hW0 : w.alloc (.cells #[.string ByteArray.empty, .slice none 0 0, .slice none 0 0] 53) = W0 at hZ0 hg0 hz0
  have hr := RdS.start (T := 77) (c8 := c8) ((hs.g (Nat.le_refl _) hg0).more hg0.size)
  have hgn := G.new W0 (.cells #[.slice A l.length c8, .int .i64 0, .bool false] 77)
  rw [hz0] at hr
  have hd : SmSt 77 (w.heap.size + 1) w.heap.size w.heap.size A c8 l w ByteArray.empty none 0 [] none 0 [] (some l) (W0.alloc (.cells #[.slice A l.length c8, .int .i64 0, .bool false] 77)) :=
    ⟨hr, hs.g (Nat.le_refl _) (hg0.trans hgn), hgn.blk hZ0, ⟨OwnL.nil, OwnL.nil⟩, .of_g (hg0.trans hgn), by omega, Nat.le_refl _, Nat.le_refl _, by decide⟩
  have hc := text_any (w.heap.size + 1) A c8 l (some l) _ hr hl2 hcap
  obtain ⟨s, st1, h1⟩ : ∃ s t, gv [] dText (some l) = (s, t) := ⟨_, _, rfl⟩
  rw [h1] at hc
  have g1 := gv_gives h1
  replace g1 := Lib.hid g1
  replace hd := Lib.hid hd
  replace hz0 := Lib.hid hz0
  replace hT := Lib.hid hT
  clear hr hZ0 hg0 hs h1 hgn
  subst hW0
  go_enter Tryd.func21, Tryd.ntmps21
  go_wp2_with fail
  refine hc.mono ?_
  clear hc
  rintro e w1 ⟨rfl, hr1, hb1⟩
  replace hd := hd.out.call hr1 hb1
  have z0 := hd.c0
  have zf := hd.free 0
  replace hd := hd.name0 (strOf s)
  have hc := num_any (w.heap.size + 1) A c8 l st1 _ hd.rd hl2 hcap
  obtain ⟨N, st2, h2⟩ : ∃ v t, gv 0 dNum st1 = (v, t) := ⟨_, _, rfl⟩
  rw [h2] at hc
  have g2 := gv_gives h2
  have hN : N < 2 ^ 64 := gv_bound (P := (· < 2 ^ 64)) h2 (by decide) (fun _ _ _ => dNum_bd)
  replace g2 := Lib.hid g2
  replace hd := Lib.hid hd
  clear hr1 hb1 h2
  go_wp2_with fail
  refine hc.mono ?_
  clear hc
  rintro e w2 ⟨rfl, hr2, hb2⟩
  replace hd := hd.out.call hr2 hb2
  have hlf : Left l 0 st2 := Left.start (fun l' e => by subst e; exact RdS.len hd.rd)
  replace hd := Lib.hid hd
  replace hlf := Lib.hid hlf
  clear hr2 hb2 z0 zf
  go_wp2_with fail
  go_loopw [6] (fun i wr => ∃ (k : Nat) (Ae : Option Addr) (ce : Nat) (es : List Ev) (st : Option (List UInt8)), i = .int .u64 k ∧ k < 2 ^ 64 ∧ Hid (Left l es.length st) ∧ Hid (SmSt 77 (w.heap.size + 1) w.heap.size w.heap.size A c8 l w (strOf s) Ae ce es none 0 [] st wr) ∧ Hid (More dEvent N k st2 st es)) (fun i _ => (intOf i).toNat)
  case atStart => exact ⟨N, none, 0, [], st2, rfl, hN, hlf, hd, More.start _ _ _⟩
  case round =>
    obtain ⟨wo, rfl⟩ : ∃ wo : World, wo = wr := ⟨_, rfl⟩
    clear hd hlf
    obtain ⟨k, Ae, ce, es, st, rfl, hk64, hlf, hd, hmo⟩ := hrel
    have q2 := hd.out.rd.c2
    cases st with
    | none =>
      unfold Option.isNone at q2
      by_cases hk : k = 0
      · subst hk
        have g3 := hmo.out.end (.inr rfl)
        replace g3 := Lib.hid g3
        clear hmo hlf
        have hc := num_any (w.heap.size + 1) A c8 l none wo hd.out.rd hl2 hcap
        obtain ⟨M, st4, h4⟩ : ∃ v t, gv 0 dNum (none) = (v, t) := ⟨_, _, rfl⟩
        rw [h4] at hc
        have g4 := gv_gives h4
        have hM : M < 2 ^ 64 := gv_bound (P := (· < 2 ^ 64)) h4 (by decide) (fun _ _ _ => dNum_bd)
        replace g4 := Lib.hid g4
        clear h4
        go_wp2_with fail
        refine hc.mono ?_
        clear hc
        rintro e wb ⟨rfl, hr4, hb4⟩
        replace hd := hd.out.call hr4 hb4
        have hlf : Left l 0 st4 := Left.start (fun l' e => by subst e; exact RdS.len hd.rd)
        replace hd := Lib.hid hd
        replace hlf := Lib.hid hlf
        clear hr4 hb4 q2
        go_wp2_with fail
        go_loopw [7] (fun i wr => ∃ (k : Nat) (Ak : Option Addr) (ck : Nat) (ks : List Kn) (st : Option (List UInt8)), i = .int .u64 k ∧ k < 2 ^ 64 ∧ Hid (Left l ks.length st) ∧ Hid (SmSt 77 (w.heap.size + 1) w.heap.size w.heap.size A c8 l w (strOf s) Ae ce es Ak ck ks st wr) ∧ Hid (More dKnown M k st4 st ks)) (fun i _ => (intOf i).toNat)
        case atStart => exact ⟨M, none, 0, [], st4, rfl, hM, hlf, hd, More.start _ _ _⟩
        case round =>
          obtain ⟨wo, rfl⟩ : ∃ wo : World, wo = wr := ⟨_, rfl⟩
          clear hd hlf
          obtain ⟨k, Ak, ck, ks, st, rfl, hk64, hlf, hd, hmo⟩ := hrel
          have q2 := hd.out.rd.c2
          cases st with
          | none =>
            unfold Option.isNone at q2
            have hno := (stream_gives hl g1.out g2.out g3.out g4.out (hmo.out.end (.inr rfl))).1 rfl
            clear hmo hlf
            by_cases hk : k = 0
            · subst hk
              replace hno := Lib.hid hno
              have hg := (G.refl w).gOf' hd.out.but (fun k e => by rw [e]; omega)
              have hZ := hd.out.res
              have q0 := hd.out.c0
              have q1 := hd.out.c1
              have q2' := hd.out.c2
              have f0 := hd.out.free 0
              have f1 := hd.out.free 1
              have f2 := hd.out.free 2
              have hE := blk3 hZ (.string ⟨#[]⟩) (.slice none 0 0) (.slice none 0 0)
              have hgs := hg.set3' (Nat.le_refl _) (.string ⟨#[]⟩) (.slice none 0 0) (.slice none 0 0)
              have e0 := (blk_cell hE 0).trans (show _ = some (.string ⟨#[]⟩) from rfl)
              have e1 := (blk_cell hE 1).trans (show _ = some (.slice none 0 0) from rfl)
              have e2 := (blk_cell hE 2).trans (show _ = some (.slice none 0 0) from rfl)
              replace e0 := Lib.hid e0
              replace e1 := Lib.hid e1
              replace e2 := Lib.hid e2
              replace hgs := Lib.hid hgs
              clear hE hg hZ
              go_wp2_with fail
              have e0 := e0.out
              have e1 := e1.out
              have e2 := e2.out
              refine bodyPost_ret (v := .tuple #[.agg #[.string ⟨#[]⟩, .slice none 0 0, .slice none 0 0], .int .i64 0, .int .i64 10]) (by simp [results, Tryd.results21, go_sem, e0, e1, e2]) rfl ?_
              exact ⟨⟨#[]⟩, none, none, 0, 0, [], [], 0, 10, rfl, by rw [hno.out]; rfl, ⟨by decide, ⟨by simp, fun _ h => by cases h⟩, by simp, fun _ h => by cases h⟩, ⟨OwnL.nil, OwnL.nil⟩, hgs.out⟩
            · have hk' : 0 < (k : Int) := by omega
              replace hno := Lib.hid hno
              have hg := (G.refl w).gOf' hd.out.but (fun k e => by rw [e]; omega)
              have hZ := hd.out.res
              have q0 := hd.out.c0
              have q1 := hd.out.c1
              have q2' := hd.out.c2
              have f0 := hd.out.free 0
              have f1 := hd.out.free 1
              have f2 := hd.out.free 2
              have hE := blk3 hZ (.string ⟨#[]⟩) (.slice none 0 0) (.slice none 0 0)
              have hgs := hg.set3' (Nat.le_refl _) (.string ⟨#[]⟩) (.slice none 0 0) (.slice none 0 0)
              have e0 := (blk_cell hE 0).trans (show _ = some (.string ⟨#[]⟩) from rfl)
              have e1 := (blk_cell hE 1).trans (show _ = some (.slice none 0 0) from rfl)
              have e2 := (blk_cell hE 2).trans (show _ = some (.slice none 0 0) from rfl)
              replace e0 := Lib.hid e0
              replace e1 := Lib.hid e1
              replace e2 := Lib.hid e2
              replace hgs := Lib.hid hgs
              clear hE hg hZ
              go_wp2_with fail
              have e0 := e0.out
              have e1 := e1.out
              have e2 := e2.out
              refine bodyPost_ret (v := .tuple #[.agg #[.string ⟨#[]⟩, .slice none 0 0, .slice none 0 0], .int .i64 0, .int .i64 10]) (by simp [results, Tryd.results21, go_sem, e0, e1, e2]) rfl ?_
              exact ⟨⟨#[]⟩, none, none, 0, 0, [], [], 0, 10, rfl, by rw [hno.out]; rfl, ⟨by decide, ⟨by simp, fun _ h => by cases h⟩, by simp, fun _ h => by cases h⟩, ⟨OwnL.nil, OwnL.nil⟩, hgs.out⟩
          | some lx =>
            unfold Option.isNone at q2
            by_cases hk : k = 0
            · subst hk
              clear hlf
              obtain ⟨hsm, hgv⟩ := (stream_gives hl g1.out g2.out g3.out g4.out (hmo.out.end (.inl rfl))).2 lx rfl
              have hg := (G.refl w).gOf' hd.out.but (fun k e => by rw [e]; omega)
              have hck := smEnc_any (strOf s) es ks Ae Ak ce ck wo hd.out.own.ins hsm (hT.out.g hg)
              have q0 := hd.out.c0
              have q1 := hd.out.c1
              have q2' := hd.out.c2
              have hq := fun W A n c => Lib.run_eql_slice_nil (P := Tryd.prog) W 26 5 A n c 0 0 Tryd.underlying26
              cases hok : smOk ⟨strOf s, es, ks⟩ with
              | false =>
                have hno : dStream l = none := by rw [hgv, if_neg (by rw [hok]; simp)]
                rw [smL_no hok] at hck
                replace hok := Lib.hid hok
                clear hgv hg hmo hsm
                go_wp2_with fail
                refine hck.mono ?_
                clear hck
                rintro e w5 ⟨Ax, cx, rfl, _, hg5, hnil⟩
                obtain rfl := hnil rfl
                replace hd := Lib.hid (hd.out.g hg5)
                clear q0 q1 q2 q2' hg5 hnil
                replace hno := Lib.hid hno
                have hg := (G.refl w).gOf' hd.out.but (fun k e => by rw [e]; omega)
                have hZ := hd.out.res
                have q0 := hd.out.c0
                have q1 := hd.out.c1
                have q2' := hd.out.c2
                have f0 := hd.out.free 0
                have f1 := hd.out.free 1
                have f2 := hd.out.free 2
                have hE := blk3 hZ (.string ⟨#[]⟩) (.slice none 0 0) (.slice none 0 0)
                have hgs := hg.set3' (Nat.le_refl _) (.string ⟨#[]⟩) (.slice none 0 0) (.slice none 0 0)
                have e0 := (blk_cell hE 0).trans (show _ = some (.string ⟨#[]⟩) from rfl)
                have e1 := (blk_cell hE 1).trans (show _ = some (.slice none 0 0) from rfl)
                have e2 := (blk_cell hE 2).trans (show _ = some (.slice none 0 0) from rfl)
                replace e0 := Lib.hid e0
                replace e1 := Lib.hid e1
                replace e2 := Lib.hid e2
                replace hgs := Lib.hid hgs
                clear hE hg hZ
                go_wp2_with fail
                have e0 := e0.out
                have e1 := e1.out
                have e2 := e2.out
                refine bodyPost_ret (v := .tuple #[.agg #[.string ⟨#[]⟩, .slice none 0 0, .slice none 0 0], .int .i64 0, .int .i64 10]) (by simp [results, Tryd.results21, go_sem, e0, e1, e2]) rfl ?_
                exact ⟨⟨#[]⟩, none, none, 0, 0, [], [], 0, 10, rfl, by rw [hno.out]; rfl, ⟨by decide, ⟨by simp, fun _ h => by cases h⟩, by simp, fun _ h => by cases h⟩, ⟨OwnL.nil, OwnL.nil⟩, hgs.out⟩
              | true =>
                have hne : smL ⟨strOf s, es, ks⟩ ≠ [] := by
                  rw [smL_ok hok]
                  intro h
                  have := smBytes_pos ⟨strOf s, es, ks⟩
                  rw [h] at this
                  simp at this
                rw [if_pos hok] at hgv
                generalize smL ⟨strOf s, es, ks⟩ = sl at *
                replace hne := Lib.hid hne
                replace hok := Lib.hid hok
                replace hgv := Lib.hid hgv
                replace hsm := Lib.hid hsm
                clear hmo
                go_wp2_with fail
                refine hck.mono ?_
                clear hck
                rintro e w5 ⟨Ax, cx, rfl, hownx, hg5, _⟩
                obtain ⟨ad, rfl⟩ : ∃ a, Ax = some a := by
                  rcases Ax with _ | a
                  · exact absurd ((OwnL.self byteC_len hownx).of_none) hne.out
                  · exact ⟨a, rfl⟩
                replace hd := hd.out.g hg5
                clear q0 q1 q2 q2' hownx
                have hZ := hd.res
                have q0 := hd.c0
                have q1 := hd.c1
                have q3 := hd.c2
                have q2 := hd.rd.c2
                have f0 := hd.free 0
                have f1 := hd.free 1
                have f2 := hd.free 2
                have k1 := hd.rd.end
                unfold Option.isNone at q2
                have hE := blk3 hZ (.string (strOf s)) (.slice Ae es.length ce) (.slice Ak ks.length ck)
                have hgs := (hg.trans hg5).set3' (Nat.le_refl _) (.string (strOf s)) (.slice Ae es.length ce) (.slice Ak ks.length ck)
                have e0 := (blk_cell hE 0).trans (show _ = some (.string (strOf s)) from rfl)
                have e1 := (blk_cell hE 1).trans (show _ = some (.slice Ae es.length ce) from rfl)
                have e2 := (blk_cell hE 2).trans (show _ = some (.slice Ak ks.length ck) from rfl)
                have hps := hd.own.but (but_set3 w5 w.heap.size (.string (strOf s)) (.slice Ae es.length ce) (.slice Ak ks.length ck)) (fun k cs t e h1 => by
                  subst e
                  rw [hZ] at h1
                  cases h1
                  decide)
                have hne2 : w.heap.size + 1 ≠ w.heap.size := by omega
                replace e0 := Lib.hid e0
                replace e1 := Lib.hid e1
                replace e2 := Lib.hid e2
                replace hgs := Lib.hid hgs
                replace hps := Lib.hid hps
                clear hE hg hg5 hZ hd
                generalize hnn : l.length - lx.length = nn at *
                replace hnn := Lib.hid hnn
                go_wp2_with fail
                go_region
                go_wp2_with fail
                have e0 := e0.out
                have e1 := e1.out
                have e2 := e2.out
                refine bodyPost_ret (v := .tuple #[.agg #[.string (strOf s), .slice Ae es.length ce, .slice Ak ks.length ck], .int .i64 nn, .int .i64 0]) (by simp [results, Tryd.results21, go_sem, e0, e1, e2]) rfl ?_
                exact ⟨strOf s, Ae, Ak, ce, ck, es, ks, nn, 0, rfl, by rw [hgv.out, ← hnn.out]; rfl, hsm.out, hps.out.g (G.refl _).drew, hgs.out.drew⟩
            · obtain ⟨j, rfl⟩ : ∃ j, k = j + 1 := ⟨k - 1, by omega⟩
              have hwk := wrap_less (j := j) (by omega)
              have hc := text_any (w.heap.size + 1) A c8 l (some lx) wo hd.out.rd hl2 hcap
              obtain ⟨sk, st5, h5⟩ : ∃ v t, gv [] dText (some lx) = (v, t) := ⟨_, _, rfl⟩
              rw [h5] at hc
              have g5 := gv_gives h5
              have hj1 : 0 < ((j + 1 : Nat) : Int) := by omega
              replace g5 := Lib.hid g5
              clear h5 hk
              go_wp2_with fail
              refine hc.mono ?_
              clear hc
              rintro e wa ⟨rfl, hr5, hb5⟩
              replace hd := Lib.hid (hd.out.call hr5 hb5)
              have hi := KnSt.begin (s := strOf sk) hr5
              have hc := count_any' (w.heap.size + 1) A c8 l st5 _ hi.rd hl2 hcap 1099511627776 1099511627776 rfl (by omega)
              obtain ⟨v, st6, h6⟩ : ∃ v t, gv 0 (dCount 1099511627776) st5 = (v, t) := ⟨_, _, rfl⟩
              rw [h6] at hc
              have g6 := gv_gives h6
              replace g6 := Lib.hid g6
              replace hi := Lib.hid hi
              clear h6 hr5 hb5 q2
              go_wp2_with fail
              refine hc.mono ?_
              clear hc
              rintro e w6 ⟨rfl, hr6, hb6⟩
              replace hi := hi.out.call hr6 hb6
              have x1 := (hi.cell 1).trans (show _ = some (.int .i64 0) from rfl)
              have x1f := hi.free 1
              replace hi := (hi.put 1 (.int .i64 v)).as (show _ = #[.string (strOf sk), .int .i64 v, .int .i64 0, .int .i64 0, .int .i64 0] from rfl)
              have hc := rstamp_any (w.heap.size + 1) A c8 l st6 _ hi.rd hl2 hcap
              obtain ⟨⟨ta, tb, tc⟩, st7, h7⟩ : ∃ v t, gv zSt dStamp st6 = (v, t) := ⟨_, _, rfl⟩
              rw [h7] at hc
              unfold stVal stV at hc
              dsimp only at hc
              have g7 := gv_gives h7
              replace g7 := Lib.hid g7
              replace hi := Lib.hid hi
              clear h7 hr6 hb6
              go_wp2_with fail
              refine hc.mono ?_
              clear hc
              rintro e w7 ⟨rfl, hr7, hb7⟩
              replace hi := hi.out.call hr7 hb7
              have y2 := (hi.cell 2).trans (show _ = some (.int .i64 0) from rfl)
              have y3 := (hi.cell 3).trans (show _ = some (.int .i64 0) from rfl)
              have y4 := (hi.cell 4).trans (show _ = some (.int .i64 0) from rfl)
              have y2f := hi.free 2
              have y3f := hi.free 3
              have y4f := hi.free 4
              replace hi := (((hi.put 2 (.int .i64 ta)).put 3 (.int .i64 tb)).put 4 (.int .i64 tc)).as (show _ = #[.string (strOf sk), .int .i64 v, .int .i64 ta, .int .i64 tb, .int .i64 tc] from rfl)
              have z0 := (hi.cell 0).trans (show _ = some (.string (strOf sk)) from rfl)
              have z1 := (hi.cell 1).trans (show _ = some (.int .i64 v) from rfl)
              have z2 := (hi.cell 2).trans (show _ = some (.int .i64 ta) from rfl)
              have z3 := (hi.cell 3).trans (show _ = some (.int .i64 tb) from rfl)
              have z4 := (hi.cell 4).trans (show _ = some (.int .i64 tc) from rfl)
              have hgk := known_gives g5.out g6.out g7.out
              have hlf2 := Left.step hlf.out hl eats_known hgk
              have hmo2 := hmo.out.step hgk
              have hb := hi.but
              have hws := hd.out.but.size
              replace hd := hd.out.call hi.rd hb
              have c2 := hd.c2
              obtain ⟨y, hy⟩ : ∃ y : Kn, y = ⟨strOf sk, v, ⟨ta, tb, tc⟩⟩ := ⟨_, rfl⟩
              obtain ⟨ks', hks⟩ : ∃ ks', ks ++ [y] = ks' := ⟨_, rfl⟩
              rw [← hy, hks] at hmo2
              have hkl : ks'.length = ks.length + 1 := by rw [← hks]; simp
              have hkb := hlf.out.1
              rw [← hkl] at hlf2
              replace hd := Lib.hid hd
              replace hmo2 := Lib.hid hmo2
              replace hlf2 := Lib.hid hlf2
              replace hkl := Lib.hid hkl
              replace hks := Lib.hid hks
              replace hy := Lib.hid hy
              clear hgk hmo hlf hb hr7 hb7 hi
              go_upto_region 13 with fail
              generalize ((w7.setCell ⟨wa.heap.size, 2, none⟩ (.int .i64 ta)).setCell ⟨wa.heap.size, 3, none⟩ (.int .i64 tb)).setCell ⟨wa.heap.size, 4, none⟩ (.int .i64 tc) = wz at *
              clear y2 y3 y4 y2f y3f y4f x1 x1f
              go_wp2_with (at_builtin; refine wpList_append_but kns_elem _ rfl (.tmp 58) (.tmp 60) rfl w.heap.size _ ks rfl (hd.out.own.kns.g (G.new _ _)) (wz.heap.size + 1) (some ⟨wz.heap.size, 0, none⟩) 1 [y] rfl (by intro h; cases h) (Sl.of_blk Kn.cells_len _ (blk_new _ _ _) (by rw [hy.out]; rfl) (by omega)) (by simp; omega) (by simp; omega) (by have := hd.out.but.size; simp; omega) ?_; intro v8 w8 hown8 hk8 hb8; rw [hks.out] at hown8; obtain ⟨A8, c8', e8, _, _, _⟩ := OwnL.sl Kn.cells_len hown8; subst e8; obtain ⟨zf, ⟨u, zc⟩, hd8⟩ := (hd.out.g (G.new _ _)).pushK hown8 hk8 hb8; replace hd8 := Lib.hid hd8)
              go_roundw
              case rel => exact ⟨j, A8, c8', ks', st7, by first | go_num | rfl, by omega, hlf2, hd8, hmo2⟩
              case measure => (simp [intOf] <;> omega)
      · have hk' : 0 < (k : Int) := by omega
        have g3 := hmo.out.end (.inr rfl)
        replace g3 := Lib.hid g3
        clear hmo hlf
        have hc := num_any (w.heap.size + 1) A c8 l none wo hd.out.rd hl2 hcap
        obtain ⟨M, st4, h4⟩ : ∃ v t, gv 0 dNum (none) = (v, t) := ⟨_, _, rfl⟩
        rw [h4] at hc
        have g4 := gv_gives h4
        have hM : M < 2 ^ 64 := gv_bound (P := (· < 2 ^ 64)) h4 (by decide) (fun _ _ _ => dNum_bd)
        replace g4 := Lib.hid g4
        clear h4
        go_wp2_with fail
        refine hc.mono ?_
        clear hc
        rintro e wb ⟨rfl, hr4, hb4⟩
        replace hd := hd.out.call hr4 hb4
        have hlf : Left l 0 st4 := Left.start (fun l' e => by subst e; exact RdS.len hd.rd)
        replace hd := Lib.hid hd
        replace hlf := Lib.hid hlf
        clear hr4 hb4 q2
        go_wp2_with fail
        go_loopw [7] (fun i wr => ∃ (k : Nat) (Ak : Option Addr) (ck : Nat) (ks : List Kn) (st : Option (List UInt8)), i = .int .u64 k ∧ k < 2 ^ 64 ∧ Hid (Left l ks.length st) ∧ Hid (SmSt 77 (w.heap.size + 1) w.heap.size w.heap.size A c8 l w (strOf s) Ae ce es Ak ck ks st wr) ∧ Hid (More dKnown M k st4 st ks)) (fun i _ => (intOf i).toNat)
        case atStart => exact ⟨M, none, 0, [], st4, rfl, hM, hlf, hd, More.start _ _ _⟩
        case round =>
          obtain ⟨wo, rfl⟩ : ∃ wo : World, wo = wr := ⟨_, rfl⟩
          clear hd hlf
          obtain ⟨k, Ak, ck, ks, st, rfl, hk64, hlf, hd, hmo⟩ := hrel
          have q2 := hd.out.rd.c2
          cases st with
          | none =>
            unfold Option.isNone at q2
            have hno := (stream_gives hl g1.out g2.out g3.out g4.out (hmo.out.end (.inr rfl))).1 rfl
            clear hmo hlf
            by_cases hk : k = 0
            · subst hk
              replace hno := Lib.hid hno
              have hg := (G.refl w).gOf' hd.out.but (fun k e => by rw [e]; omega)
              have hZ := hd.out.res
              have q0 := hd.out.c0
              have q1 := hd.out.c1
              have q2' := hd.out.c2
              have f0 := hd.out.free 0
              have f1 := hd.out.free 1
              have f2 := hd.out.free 2
              have hE := blk3 hZ (.string ⟨#[]⟩) (.slice none 0 0) (.slice none 0 0)
              have hgs := hg.set3' (Nat.le_refl _) (.string ⟨#[]⟩) (.slice none 0 0) (.slice none 0 0)
              have e0 := (blk_cell hE 0).trans (show _ = some (.string ⟨#[]⟩) from rfl)
              have e1 := (blk_cell hE 1).trans (show _ = some (.slice none 0 0) from rfl)
              have e2 := (blk_cell hE 2).trans (show _ = some (.slice none 0 0) from rfl)
              replace e0 := Lib.hid e0
              replace e1 := Lib.hid e1
              replace e2 := Lib.hid e2
              replace hgs := Lib.hid hgs
              clear hE hg hZ
              go_wp2_with fail
              have e0 := e0.out
              have e1 := e1.out
              have e2 := e2.out
              refine bodyPost_ret (v := .tuple #[.agg #[.string ⟨#[]⟩, .slice none 0 0, .slice none 0 0], .int .i64 0, .int .i64 10]) (by simp [results, Tryd.results21, go_sem, e0, e1, e2]) rfl ?_
              exact ⟨⟨#[]⟩, none, none, 0, 0, [], [], 0, 10, rfl, by rw [hno.out]; rfl, ⟨by decide, ⟨by simp, fun _ h => by cases h⟩, by simp, fun _ h => by cases h⟩, ⟨OwnL.nil, OwnL.nil⟩, hgs.out⟩
            · have hk' : 0 < (k : Int) := by omega
              replace hno := Lib.hid hno
              have hg := (G.refl w).gOf' hd.out.but (fun k e => by rw [e]; omega)
              have hZ := hd.out.res
              have q0 := hd.out.c0
              have q1 := hd.out.c1
              have q2' := hd.out.c2
              have f0 := hd.out.free 0
              have f1 := hd.out.free 1
              have f2 := hd.out.free 2
              have hE := blk3 hZ (.string ⟨#[]⟩) (.slice none 0 0) (.slice none 0 0)
              have hgs := hg.set3' (Nat.le_refl _) (.string ⟨#[]⟩) (.slice none 0 0) (.slice none 0 0)
              have e0 := (blk_cell hE 0).trans (show _ = some (.string ⟨#[]⟩) from rfl)
              have e1 := (blk_cell hE 1).trans (show _ = some (.slice none 0 0) from rfl)
              have e2 := (blk_cell hE 2).trans (show _ = some (.slice none 0 0) from rfl)
              replace e0 := Lib.hid e0
              replace e1 := Lib.hid e1
              replace e2 := Lib.hid e2
              replace hgs := Lib.hid hgs
              clear hE hg hZ
              go_wp2_with fail
              have e0 := e0.out
              have e1 := e1.out
              have e2 := e2.out
              refine bodyPost_ret (v := .tuple #[.agg #[.string ⟨#[]⟩, .slice none 0 0, .slice none 0 0], .int .i64 0, .int .i64 10]) (by simp [results, Tryd.results21, go_sem, e0, e1, e2]) rfl ?_
              exact ⟨⟨#[]⟩, none, none, 0, 0, [], [], 0, 10, rfl, by rw [hno.out]; rfl, ⟨by decide, ⟨by simp, fun _ h => by cases h⟩, by simp, fun _ h => by cases h⟩, ⟨OwnL.nil, OwnL.nil⟩, hgs.out⟩
          | some lx =>
            unfold Option.isNone at q2
            by_cases hk : k = 0
            · subst hk
              clear hlf
              obtain ⟨hsm, hgv⟩ := (stream_gives hl g1.out g2.out g3.out g4.out (hmo.out.end (.inl rfl))).2 lx rfl
              have hg := (G.refl w).gOf' hd.out.but (fun k e => by rw [e]; omega)
              have hck := smEnc_any (strOf s) es ks Ae Ak ce ck wo hd.out.own.ins hsm (hT.out.g hg)
              have q0 := hd.out.c0
              have q1 := hd.out.c1
              have q2' := hd.out.c2
              have hq := fun W A n c => Lib.run_eql_slice_nil (P := Tryd.prog) W 26 5 A n c 0 0 Tryd.underlying26
              cases hok : smOk ⟨strOf s, es, ks⟩ with
              | false =>
                have hno : dStream l = none := by rw [hgv, if_neg (by rw [hok]; simp)]
                rw [smL_no hok] at hck
                replace hok := Lib.hid hok
                clear hgv hg hmo hsm
                go_wp2_with fail
                refine hck.mono ?_
                clear hck
                rintro e w5 ⟨Ax, cx, rfl, _, hg5, hnil⟩
                obtain rfl := hnil rfl
                replace hd := Lib.hid (hd.out.g hg5)
                clear q0 q1 q2 q2' hg5 hnil
                replace hno := Lib.hid hno
                have hg := (G.refl w).gOf' hd.out.but (fun k e => by rw [e]; omega)
                have hZ := hd.out.res
                have q0 := hd.out.c0
                have q1 := hd.out.c1
                have q2' := hd.out.c2
                have f0 := hd.out.free 0
                have f1 := hd.out.free 1
                have f2 := hd.out.free 2
                have hE := blk3 hZ (.string ⟨#[]⟩) (.slice none 0 0) (.slice none 0 0)
                have hgs := hg.set3' (Nat.le_refl _) (.string ⟨#[]⟩) (.slice none 0 0) (.slice none 0 0)
                have e0 := (blk_cell hE 0).trans (show _ = some (.string ⟨#[]⟩) from rfl)
                have e1 := (blk_cell hE 1).trans (show _ = some (.slice none 0 0) from rfl)
                have e2 := (blk_cell hE 2).trans (show _ = some (.slice none 0 0) from rfl)
                replace e0 := Lib.hid e0
                replace e1 := Lib.hid e1
                replace e2 := Lib.hid e2
                replace hgs := Lib.hid hgs
                clear hE hg hZ
                go_wp2_with fail
                have e0 := e0.out
                have e1 := e1.out
                have e2 := e2.out
                refine bodyPost_ret (v := .tuple #[.agg #[.string ⟨#[]⟩, .slice none 0 0, .slice none 0 0], .int .i64 0, .int .i64 10]) (by simp [results, Tryd.results21, go_sem, e0, e1, e2]) rfl ?_
                exact ⟨⟨#[]⟩, none, none, 0, 0, [], [], 0, 10, rfl, by rw [hno.out]; rfl, ⟨by decide, ⟨by simp, fun _ h => by cases h⟩, by simp, fun _ h => by cases h⟩, ⟨OwnL.nil, OwnL.nil⟩, hgs.out⟩
              | true =>
                have hne : smL ⟨strOf s, es, ks⟩ ≠ [] := by
                  rw [smL_ok hok]
                  intro h
                  have := smBytes_pos ⟨strOf s, es, ks⟩
                  rw [h] at this
                  simp at this
                rw [if_pos hok] at hgv
                generalize smL ⟨strOf s, es, ks⟩ = sl at *
                replace hne := Lib.hid hne
                replace hok := Lib.hid hok
                replace hgv := Lib.hid hgv
                replace hsm := Lib.hid hsm
                clear hmo
                go_wp2_with fail
                refine hck.mono ?_
                clear hck
                rintro e w5 ⟨Ax, cx, rfl, hownx, hg5, _⟩
                obtain ⟨ad, rfl⟩ : ∃ a, Ax = some a := by
                  rcases Ax with _ | a
                  · exact absurd ((OwnL.self byteC_len hownx).of_none) hne.out
                  · exact ⟨a, rfl⟩
                replace hd := hd.out.g hg5
                clear q0 q1 q2 q2' hownx
                have hZ := hd.res
                have q0 := hd.c0
                have q1 := hd.c1
                have q3 := hd.c2
                have q2 := hd.rd.c2
                have f0 := hd.free 0
                have f1 := hd.free 1
                have f2 := hd.free 2
                have k1 := hd.rd.end
                unfold Option.isNone at q2
                have hE := blk3 hZ (.string (strOf s)) (.slice Ae es.length ce) (.slice Ak ks.length ck)
                have hgs := (hg.trans hg5).set3' (Nat.le_refl _) (.string (strOf s)) (.slice Ae es.length ce) (.slice Ak ks.length ck)
                have e0 := (blk_cell hE 0).trans (show _ = some (.string (strOf s)) from rfl)
                have e1 := (blk_cell hE 1).trans (show _ = some (.slice Ae es.length ce) from rfl)
                have e2 := (blk_cell hE 2).trans (show _ = some (.slice Ak ks.length ck) from rfl)
                have hps := hd.own.but (but_set3 w5 w.heap.size (.string (strOf s)) (.slice Ae es.length ce) (.slice Ak ks.length ck)) (fun k cs t e h1 => by
                  subst e
                  rw [hZ] at h1
                  cases h1
                  decide)
                have hne2 : w.heap.size + 1 ≠ w.heap.size := by omega
                replace e0 := Lib.hid e0
                replace e1 := Lib.hid e1
                replace e2 := Lib.hid e2
                replace hgs := Lib.hid hgs
                replace hps := Lib.hid hps
                clear hE hg hg5 hZ hd
                generalize hnn : l.length - lx.length = nn at *
                replace hnn := Lib.hid hnn
                go_wp2_with fail
                go_region
                go_wp2_with fail
                have e0 := e0.out
                have e1 := e1.out
                have e2 := e2.out
                refine bodyPost_ret (v := .tuple #[.agg #[.string (strOf s), .slice Ae es.length ce, .slice Ak ks.length ck], .int .i64 nn, .int .i64 0]) (by simp [results, Tryd.results21, go_sem, e0, e1, e2]) rfl ?_
                exact ⟨strOf s, Ae, Ak, ce, ck, es, ks, nn, 0, rfl, by rw [hgv.out, ← hnn.out]; rfl, hsm.out, hps.out.g (G.refl _).drew, hgs.out.drew⟩
            · obtain ⟨j, rfl⟩ : ∃ j, k = j + 1 := ⟨k - 1, by omega⟩
              have hwk := wrap_less (j := j) (by omega)
              have hc := text_any (w.heap.size + 1) A c8 l (some lx) wo hd.out.rd hl2 hcap
              obtain ⟨sk, st5, h5⟩ : ∃ v t, gv [] dText (some lx) = (v, t) := ⟨_, _, rfl⟩
              rw [h5] at hc
              have g5 := gv_gives h5
              have hj1 : 0 < ((j + 1 : Nat) : Int) := by omega
              replace g5 := Lib.hid g5
              clear h5 hk
              go_wp2_with fail
              refine hc.mono ?_
              clear hc
              rintro e wa ⟨rfl, hr5, hb5⟩
              replace hd := Lib.hid (hd.out.call hr5 hb5)
              have hi := KnSt.begin (s := strOf sk) hr5
              have hc := count_any' (w.heap.size + 1) A c8 l st5 _ hi.rd hl2 hcap 1099511627776 1099511627776 rfl (by omega)
              obtain ⟨v, st6, h6⟩ : ∃ v t, gv 0 (dCount 1099511627776) st5 = (v, t) := ⟨_, _, rfl⟩
              rw [h6] at hc
              have g6 := gv_gives h6
              replace g6 := Lib.hid g6
              replace hi := Lib.hid hi
              clear h6 hr5 hb5 q2
              go_wp2_with fail
              refine hc.mono ?_
              clear hc
              rintro e w6 ⟨rfl, hr6, hb6⟩
              replace hi := hi.out.call hr6 hb6
              have x1 := (hi.cell 1).trans (show _ = some (.int .i64 0) from rfl)
              have x1f := hi.free 1
              replace hi := (hi.put 1 (.int .i64 v)).as (show _ = #[.string (strOf sk), .int .i64 v, .int .i64 0, .int .i64 0, .int .i64 0] from rfl)
              have hc := rstamp_any (w.heap.size + 1) A c8 l st6 _ hi.rd hl2 hcap
              obtain ⟨⟨ta, tb, tc⟩, st7, h7⟩ : ∃ v t, gv zSt dStamp st6 = (v, t) := ⟨_, _, rfl⟩
              rw [h7] at hc
              unfold stVal stV at hc
              dsimp only at hc
              have g7 := gv_gives h7
              replace g7 := Lib.hid g7
              replace hi := Lib.hid hi
              clear h7 hr6 hb6
              go_wp2_with fail
              refine hc.mono ?_
              clear hc
              rintro e w7 ⟨rfl, hr7, hb7⟩
              replace hi := hi.out.call hr7 hb7
              have y2 := (hi.cell 2).trans (show _ = some (.int .i64 0) from rfl)
              have y3 := (hi.cell 3).trans (show _ = some (.int .i64 0) from rfl)
              have y4 := (hi.cell 4).trans (show _ = some (.int .i64 0) from rfl)
              have y2f := hi.free 2
              have y3f := hi.free 3
              have y4f := hi.free 4
              replace hi := (((hi.put 2 (.int .i64 ta)).put 3 (.int .i64 tb)).put 4 (.int .i64 tc)).as (show _ = #[.string (strOf sk), .int .i64 v, .int .i64 ta, .int .i64 tb, .int .i64 tc] from rfl)
              have z0 := (hi.cell 0).trans (show _ = some (.string (strOf sk)) from rfl)
              have z1 := (hi.cell 1).trans (show _ = some (.int .i64 v) from rfl)
              have z2 := (hi.cell 2).trans (show _ = some (.int .i64 ta) from rfl)
              have z3 := (hi.cell 3).trans (show _ = some (.int .i64 tb) from rfl)
              have z4 := (hi.cell 4).trans (show _ = some (.int .i64 tc) from rfl)
              have hgk := known_gives g5.out g6.out g7.out
              have hlf2 := Left.step hlf.out hl eats_known hgk
              have hmo2 := hmo.out.step hgk
              have hb := hi.but
              have hws := hd.out.but.size
              replace hd := hd.out.call hi.rd hb
              have c2 := hd.c2
              obtain ⟨y, hy⟩ : ∃ y : Kn, y = ⟨strOf sk, v, ⟨ta, tb, tc⟩⟩ := ⟨_, rfl⟩
              obtain ⟨ks', hks⟩ : ∃ ks', ks ++ [y] = ks' := ⟨_, rfl⟩
              rw [← hy, hks] at hmo2
              have hkl : ks'.length = ks.length + 1 := by rw [← hks]; simp
              have hkb := hlf.out.1
              rw [← hkl] at hlf2
              replace hd := Lib.hid hd
              replace hmo2 := Lib.hid hmo2
              replace hlf2 := Lib.hid hlf2
              replace hkl := Lib.hid hkl
              replace hks := Lib.hid hks
              replace hy := Lib.hid hy
              clear hgk hmo hlf hb hr7 hb7 hi
              go_upto_region 13 with fail
              generalize ((w7.setCell ⟨wa.heap.size, 2, none⟩ (.int .i64 ta)).setCell ⟨wa.heap.size, 3, none⟩ (.int .i64 tb)).setCell ⟨wa.heap.size, 4, none⟩ (.int .i64 tc) = wz at *
              clear y2 y3 y4 y2f y3f y4f x1 x1f
              go_wp2_with (at_builtin; refine wpList_append_but kns_elem _ rfl (.tmp 58) (.tmp 60) rfl w.heap.size _ ks rfl (hd.out.own.kns.g (G.new _ _)) (wz.heap.size + 1) (some ⟨wz.heap.size, 0, none⟩) 1 [y] rfl (by intro h; cases h) (Sl.of_blk Kn.cells_len _ (blk_new _ _ _) (by rw [hy.out]; rfl) (by omega)) (by simp; omega) (by simp; omega) (by have := hd.out.but.size; simp; omega) ?_; intro v8 w8 hown8 hk8 hb8; rw [hks.out] at hown8; obtain ⟨A8, c8', e8, _, _, _⟩ := OwnL.sl Kn.cells_len hown8; subst e8; obtain ⟨zf, ⟨u, zc⟩, hd8⟩ := (hd.out.g (G.new _ _)).pushK hown8 hk8 hb8; replace hd8 := Lib.hid hd8)
              go_roundw
              case rel => exact ⟨j, A8, c8', ks', st7, by first | go_num | rfl, by omega, hlf2, hd8, hmo2⟩
              case measure => (simp [intOf] <;> omega)
    | some lx =>
      unfold Option.isNone at q2
      by_cases hk : k = 0
      · subst hk
        have g3 := hmo.out.end (.inl rfl)
        replace g3 := Lib.hid g3
        clear hmo hlf
        have hc := num_any (w.heap.size + 1) A c8 l (some lx) wo hd.out.rd hl2 hcap
        obtain ⟨M, st4, h4⟩ : ∃ v t, gv 0 dNum ((some lx)) = (v, t) := ⟨_, _, rfl⟩
        rw [h4] at hc
        have g4 := gv_gives h4
        have hM : M < 2 ^ 64 := gv_bound (P := (· < 2 ^ 64)) h4 (by decide) (fun _ _ _ => dNum_bd)
        replace g4 := Lib.hid g4
        clear h4
        go_wp2_with fail
        refine hc.mono ?_
        clear hc
        rintro e wb ⟨rfl, hr4, hb4⟩
        replace hd := hd.out.call hr4 hb4
        have hlf : Left l 0 st4 := Left.start (fun l' e => by subst e; exact RdS.len hd.rd)
        replace hd := Lib.hid hd
        replace hlf := Lib.hid hlf
        clear hr4 hb4 q2
        go_wp2_with fail
        go_loopw [7] (fun i wr => ∃ (k : Nat) (Ak : Option Addr) (ck : Nat) (ks : List Kn) (st : Option (List UInt8)), i = .int .u64 k ∧ k < 2 ^ 64 ∧ Hid (Left l ks.length st) ∧ Hid (SmSt 77 (w.heap.size + 1) w.heap.size w.heap.size A c8 l w (strOf s) Ae ce es Ak ck ks st wr) ∧ Hid (More dKnown M k st4 st ks)) (fun i _ => (intOf i).toNat)
        case atStart => exact ⟨M, none, 0, [], st4, rfl, hM, hlf, hd, More.start _ _ _⟩
        case round =>
          obtain ⟨wo, rfl⟩ : ∃ wo : World, wo = wr := ⟨_, rfl⟩
          clear hd hlf
          obtain ⟨k, Ak, ck, ks, st, rfl, hk64, hlf, hd, hmo⟩ := hrel
          have q2 := hd.out.rd.c2
          cases st with
          | none =>
            unfold Option.isNone at q2
            have hno := (stream_gives hl g1.out g2.out g3.out g4.out (hmo.out.end (.inr rfl))).1 rfl
            clear hmo hlf
            by_cases hk : k = 0
            · subst hk
              replace hno := Lib.hid hno
              have hg := (G.refl w).gOf' hd.out.but (fun k e => by rw [e]; omega)
              have hZ := hd.out.res
              have q0 := hd.out.c0
              have q1 := hd.out.c1
              have q2' := hd.out.c2
              have f0 := hd.out.free 0
              have f1 := hd.out.free 1
              have f2 := hd.out.free 2
              have hE := blk3 hZ (.string ⟨#[]⟩) (.slice none 0 0) (.slice none 0 0)
              have hgs := hg.set3' (Nat.le_refl _) (.string ⟨#[]⟩) (.slice none 0 0) (.slice none 0 0)
              have e0 := (blk_cell hE 0).trans (show _ = some (.string ⟨#[]⟩) from rfl)
              have e1 := (blk_cell hE 1).trans (show _ = some (.slice none 0 0) from rfl)
              have e2 := (blk_cell hE 2).trans (show _ = some (.slice none 0 0) from rfl)
              replace e0 := Lib.hid e0
              replace e1 := Lib.hid e1
              replace e2 := Lib.hid e2
              replace hgs := Lib.hid hgs
              clear hE hg hZ
              go_wp2_with fail
              have e0 := e0.out
              have e1 := e1.out
              have e2 := e2.out
              refine bodyPost_ret (v := .tuple #[.agg #[.string ⟨#[]⟩, .slice none 0 0, .slice none 0 0], .int .i64 0, .int .i64 10]) (by simp [results, Tryd.results21, go_sem, e0, e1, e2]) rfl ?_
              exact ⟨⟨#[]⟩, none, none, 0, 0, [], [], 0, 10, rfl, by rw [hno.out]; rfl, ⟨by decide, ⟨by simp, fun _ h => by cases h⟩, by simp, fun _ h => by cases h⟩, ⟨OwnL.nil, OwnL.nil⟩, hgs.out⟩
            · have hk' : 0 < (k : Int) := by omega
              replace hno := Lib.hid hno
              have hg := (G.refl w).gOf' hd.out.but (fun k e => by rw [e]; omega)
              have hZ := hd.out.res
              have q0 := hd.out.c0
              have q1 := hd.out.c1
              have q2' := hd.out.c2
              have f0 := hd.out.free 0
              have f1 := hd.out.free 1
              have f2 := hd.out.free 2
              have hE := blk3 hZ (.string ⟨#[]⟩) (.slice none 0 0) (.slice none 0 0)
              have hgs := hg.set3' (Nat.le_refl _) (.string ⟨#[]⟩) (.slice none 0 0) (.slice none 0 0)
              have e0 := (blk_cell hE 0).trans (show _ = some (.string ⟨#[]⟩) from rfl)
              have e1 := (blk_cell hE 1).trans (show _ = some (.slice none 0 0) from rfl)
              have e2 := (blk_cell hE 2).trans (show _ = some (.slice none 0 0) from rfl)
              replace e0 := Lib.hid e0
              replace e1 := Lib.hid e1
              replace e2 := Lib.hid e2
              replace hgs := Lib.hid hgs
              clear hE hg hZ
              go_wp2_with fail
              have e0 := e0.out
              have e1 := e1.out
              have e2 := e2.out
              refine bodyPost_ret (v := .tuple #[.agg #[.string ⟨#[]⟩, .slice none 0 0, .slice none 0 0], .int .i64 0, .int .i64 10]) (by simp [results, Tryd.results21, go_sem, e0, e1, e2]) rfl ?_
              exact ⟨⟨#[]⟩, none, none, 0, 0, [], [], 0, 10, rfl, by rw [hno.out]; rfl, ⟨by decide, ⟨by simp, fun _ h => by cases h⟩, by simp, fun _ h => by cases h⟩, ⟨OwnL.nil, OwnL.nil⟩, hgs.out⟩
          | some lx =>
            unfold Option.isNone at q2
            by_cases hk : k = 0
            · subst hk
              clear hlf
              obtain ⟨hsm, hgv⟩ := (stream_gives hl g1.out g2.out g3.out g4.out (hmo.out.end (.inl rfl))).2 lx rfl
              have hg := (G.refl w).gOf' hd.out.but (fun k e => by rw [e]; omega)
              have hck := smEnc_any (strOf s) es ks Ae Ak ce ck wo hd.out.own.ins hsm (hT.out.g hg)
              have q0 := hd.out.c0
              have q1 := hd.out.c1
              have q2' := hd.out.c2
              have hq := fun W A n c => Lib.run_eql_slice_nil (P := Tryd.prog) W 26 5 A n c 0 0 Tryd.underlying26
              cases hok : smOk ⟨strOf s, es, ks⟩ with
              | false =>
                have hno : dStream l = none := by rw [hgv, if_neg (by rw [hok]; simp)]
                rw [smL_no hok] at hck
                replace hok := Lib.hid hok
                clear hgv hg hmo hsm
                go_wp2_with fail
                refine hck.mono ?_
                clear hck
                rintro e w5 ⟨Ax, cx, rfl, _, hg5, hnil⟩
                obtain rfl := hnil rfl
                replace hd := Lib.hid (hd.out.g hg5)
                clear q0 q1 q2 q2' hg5 hnil
                replace hno := Lib.hid hno
                have hg := (G.refl w).gOf' hd.out.but (fun k e => by rw [e]; omega)
                have hZ := hd.out.res
                have q0 := hd.out.c0
                have q1 := hd.out.c1
                have q2' := hd.out.c2
                have f0 := hd.out.free 0
                have f1 := hd.out.free 1
                have f2 := hd.out.free 2
                have hE := blk3 hZ (.string ⟨#[]⟩) (.slice none 0 0) (.slice none 0 0)
                have hgs := hg.set3' (Nat.le_refl _) (.string ⟨#[]⟩) (.slice none 0 0) (.slice none 0 0)
                have e0 := (blk_cell hE 0).trans (show _ = some (.string ⟨#[]⟩) from rfl)
                have e1 := (blk_cell hE 1).trans (show _ = some (.slice none 0 0) from rfl)
                have e2 := (blk_cell hE 2).trans (show _ = some (.slice none 0 0) from rfl)
                replace e0 := Lib.hid e0
                replace e1 := Lib.hid e1
                replace e2 := Lib.hid e2
                replace hgs := Lib.hid hgs
                clear hE hg hZ
                go_wp2_with fail
                have e0 := e0.out
                have e1 := e1.out
                have e2 := e2.out
                refine bodyPost_ret (v := .tuple #[.agg #[.string ⟨#[]⟩, .slice none 0 0, .slice none 0 0], .int .i64 0, .int .i64 10]) (by simp [results, Tryd.results21, go_sem, e0, e1, e2]) rfl ?_
                exact ⟨⟨#[]⟩, none, none, 0, 0, [], [], 0, 10, rfl, by rw [hno.out]; rfl, ⟨by decide, ⟨by simp, fun _ h => by cases h⟩, by simp, fun _ h => by cases h⟩, ⟨OwnL.nil, OwnL.nil⟩, hgs.out⟩
              | true =>
                have hne : smL ⟨strOf s, es, ks⟩ ≠ [] := by
                  rw [smL_ok hok]
                  intro h
                  have := smBytes_pos ⟨strOf s, es, ks⟩
                  rw [h] at this
                  simp at this
                rw [if_pos hok] at hgv
                generalize smL ⟨strOf s, es, ks⟩ = sl at *
                replace hne := Lib.hid hne
                replace hok := Lib.hid hok
                replace hgv := Lib.hid hgv
                replace hsm := Lib.hid hsm
                clear hmo
                go_wp2_with fail
                refine hck.mono ?_
                clear hck
                rintro e w5 ⟨Ax, cx, rfl, hownx, hg5, _⟩
                obtain ⟨ad, rfl⟩ : ∃ a, Ax = some a := by
                  rcases Ax with _ | a
                  · exact absurd ((OwnL.self byteC_len hownx).of_none) hne.out
                  · exact ⟨a, rfl⟩
                replace hd := hd.out.g hg5
                clear q0 q1 q2 q2' hownx
                have hZ := hd.res
                have q0 := hd.c0
                have q1 := hd.c1
                have q3 := hd.c2
                have q2 := hd.rd.c2
                have f0 := hd.free 0
                have f1 := hd.free 1
                have f2 := hd.free 2
                have k1 := hd.rd.end
                unfold Option.isNone at q2
                have hE := blk3 hZ (.string (strOf s)) (.slice Ae es.length ce) (.slice Ak ks.length ck)
                have hgs := (hg.trans hg5).set3' (Nat.le_refl _) (.string (strOf s)) (.slice Ae es.length ce) (.slice Ak ks.length ck)
                have e0 := (blk_cell hE 0).trans (show _ = some (.string (strOf s)) from rfl)
                have e1 := (blk_cell hE 1).trans (show _ = some (.slice Ae es.length ce) from rfl)
                have e2 := (blk_cell hE 2).trans (show _ = some (.slice Ak ks.length ck) from rfl)
                have hps := hd.own.but (but_set3 w5 w.heap.size (.string (strOf s)) (.slice Ae es.length ce) (.slice Ak ks.length ck)) (fun k cs t e h1 => by
                  subst e
                  rw [hZ] at h1
                  cases h1
                  decide)
                have hne2 : w.heap.size + 1 ≠ w.heap.size := by omega
                replace e0 := Lib.hid e0
                replace e1 := Lib.hid e1
                replace e2 := Lib.hid e2
                replace hgs := Lib.hid hgs
                replace hps := Lib.hid hps
                clear hE hg hg5 hZ hd
                generalize hnn : l.length - lx.length = nn at *
                replace hnn := Lib.hid hnn
                go_wp2_with fail
                go_region
                go_wp2_with fail
                have e0 := e0.out
                have e1 := e1.out
                have e2 := e2.out
                refine bodyPost_ret (v := .tuple #[.agg #[.string (strOf s), .slice Ae es.length ce, .slice Ak ks.length ck], .int .i64 nn, .int .i64 0]) (by simp [results, Tryd.results21, go_sem, e0, e1, e2]) rfl ?_
                exact ⟨strOf s, Ae, Ak, ce, ck, es, ks, nn, 0, rfl, by rw [hgv.out, ← hnn.out]; rfl, hsm.out, hps.out.g (G.refl _).drew, hgs.out.drew⟩
            · obtain ⟨j, rfl⟩ : ∃ j, k = j + 1 := ⟨k - 1, by omega⟩
              have hwk := wrap_less (j := j) (by omega)
              have hc := text_any (w.heap.size + 1) A c8 l (some lx) wo hd.out.rd hl2 hcap
              obtain ⟨sk, st5, h5⟩ : ∃ v t, gv [] dText (some lx) = (v, t) := ⟨_, _, rfl⟩
              rw [h5] at hc
              have g5 := gv_gives h5
              have hj1 : 0 < ((j + 1 : Nat) : Int) := by omega
              replace g5 := Lib.hid g5
              clear h5 hk
              go_wp2_with fail
              refine hc.mono ?_
              clear hc
              rintro e wa ⟨rfl, hr5, hb5⟩
              replace hd := Lib.hid (hd.out.call hr5 hb5)
              have hi := KnSt.begin (s := strOf sk) hr5
              have hc := count_any' (w.heap.size + 1) A c8 l st5 _ hi.rd hl2 hcap 1099511627776 1099511627776 rfl (by omega)
              obtain ⟨v, st6, h6⟩ : ∃ v t, gv 0 (dCount 1099511627776) st5 = (v, t) := ⟨_, _, rfl⟩
              rw [h6] at hc
              have g6 := gv_gives h6
              replace g6 := Lib.hid g6
              replace hi := Lib.hid hi
              clear h6 hr5 hb5 q2
              go_wp2_with fail
              refine hc.mono ?_
              clear hc
              rintro e w6 ⟨rfl, hr6, hb6⟩
              replace hi := hi.out.call hr6 hb6
              have x1 := (hi.cell 1).trans (show _ = some (.int .i64 0) from rfl)
              have x1f := hi.free 1
              replace hi := (hi.put 1 (.int .i64 v)).as (show _ = #[.string (strOf sk), .int .i64 v, .int .i64 0, .int .i64 0, .int .i64 0] from rfl)
              have hc := rstamp_any (w.heap.size + 1) A c8 l st6 _ hi.rd hl2 hcap
              obtain ⟨⟨ta, tb, tc⟩, st7, h7⟩ : ∃ v t, gv zSt dStamp st6 = (v, t) := ⟨_, _, rfl⟩
              rw [h7] at hc
              unfold stVal stV at hc
              dsimp only at hc
              have g7 := gv_gives h7
              replace g7 := Lib.hid g7
              replace hi := Lib.hid hi
              clear h7 hr6 hb6
              go_wp2_with fail
              refine hc.mono ?_
              clear hc
              rintro e w7 ⟨rfl, hr7, hb7⟩
              replace hi := hi.out.call hr7 hb7
              have y2 := (hi.cell 2).trans (show _ = some (.int .i64 0) from rfl)
              have y3 := (hi.cell 3).trans (show _ = some (.int .i64 0) from rfl)
              have y4 := (hi.cell 4).trans (show _ = some (.int .i64 0) from rfl)
              have y2f := hi.free 2
              have y3f := hi.free 3
              have y4f := hi.free 4
              replace hi := (((hi.put 2 (.int .i64 ta)).put 3 (.int .i64 tb)).put 4 (.int .i64 tc)).as (show _ = #[.string (strOf sk), .int .i64 v, .int .i64 ta, .int .i64 tb, .int .i64 tc] from rfl)
              have z0 := (hi.cell 0).trans (show _ = some (.string (strOf sk)) from rfl)
              have z1 := (hi.cell 1).trans (show _ = some (.int .i64 v) from rfl)
              have z2 := (hi.cell 2).trans (show _ = some (.int .i64 ta) from rfl)
              have z3 := (hi.cell 3).trans (show _ = some (.int .i64 tb) from rfl)
              have z4 := (hi.cell 4).trans (show _ = some (.int .i64 tc) from rfl)
              have hgk := known_gives g5.out g6.out g7.out
              have hlf2 := Left.step hlf.out hl eats_known hgk
              have hmo2 := hmo.out.step hgk
              have hb := hi.but
              have hws := hd.out.but.size
              replace hd := hd.out.call hi.rd hb
              have c2 := hd.c2
              obtain ⟨y, hy⟩ : ∃ y : Kn, y = ⟨strOf sk, v, ⟨ta, tb, tc⟩⟩ := ⟨_, rfl⟩
              obtain ⟨ks', hks⟩ : ∃ ks', ks ++ [y] = ks' := ⟨_, rfl⟩
              rw [← hy, hks] at hmo2
              have hkl : ks'.length = ks.length + 1 := by rw [← hks]; simp
              have hkb := hlf.out.1
              rw [← hkl] at hlf2
              replace hd := Lib.hid hd
              replace hmo2 := Lib.hid hmo2
              replace hlf2 := Lib.hid hlf2
              replace hkl := Lib.hid hkl
              replace hks := Lib.hid hks
              replace hy := Lib.hid hy
              clear hgk hmo hlf hb hr7 hb7 hi
              go_upto_region 13 with fail
              generalize ((w7.setCell ⟨wa.heap.size, 2, none⟩ (.int .i64 ta)).setCell ⟨wa.heap.size, 3, none⟩ (.int .i64 tb)).setCell ⟨wa.heap.size, 4, none⟩ (.int .i64 tc) = wz at *
              clear y2 y3 y4 y2f y3f y4f x1 x1f
              go_wp2_with (at_builtin; refine wpList_append_but kns_elem _ rfl (.tmp 58) (.tmp 60) rfl w.heap.size _ ks rfl (hd.out.own.kns.g (G.new _ _)) (wz.heap.size + 1) (some ⟨wz.heap.size, 0, none⟩) 1 [y] rfl (by intro h; cases h) (Sl.of_blk Kn.cells_len _ (blk_new _ _ _) (by rw [hy.out]; rfl) (by omega)) (by simp; omega) (by simp; omega) (by have := hd.out.but.size; simp; omega) ?_; intro v8 w8 hown8 hk8 hb8; rw [hks.out] at hown8; obtain ⟨A8, c8', e8, _, _, _⟩ := OwnL.sl Kn.cells_len hown8; subst e8; obtain ⟨zf, ⟨u, zc⟩, hd8⟩ := (hd.out.g (G.new _ _)).pushK hown8 hk8 hb8; replace hd8 := Lib.hid hd8)
              go_roundw
              case rel => exact ⟨j, A8, c8', ks', st7, by first | go_num | rfl, by omega, hlf2, hd8, hmo2⟩
              case measure => (simp [intOf] <;> omega)
      · obtain ⟨j, rfl⟩ : ∃ j, k = j + 1 := ⟨k - 1, by omega⟩
        have hwk := wrap_less (j := j) (by omega)
        have hid := hd.out.g (G.refl wo).drew
        have x1 := hid.c1
        have x1w := hd.out.c1
        have hg := (G.refl w).gOf' hid.but (fun k e => by rw [e]; omega)
        have hc := revent_any (w.heap.size + 1) A c8 l (some lx) _ hid.rd hl2 hcap (hT.out.g hg)
        have hj1 : 0 < ((j + 1 : Nat) : Int) := by omega
        have hkb := hlf.out.1
        replace hid := Lib.hid hid
        clear hk hd hg
        go_upto_region 6 with fail
        go_region_law (first
          | (refine step_append_but evs_elem _ (by kernel_rfl) (.tmp 29) (.tmp 32) rfl w.heap.size _ es rfl (hi5.out.own.evs.g (G.new _ _)) (w5.heap.size + 1) (some ⟨w5.heap.size, 0, none⟩) 1 [x] rfl (by intro h; cases h) (Sl.of_blk Ev.cells_len _ (blk_new _ _ _) (by rw [hx.out]; rfl) (by omega)) (by simp; omega) (by simp; omega) (by have := hi5.out.but.size; simp; omega) ?_; intro v6 w6 hown6 hk6 hb6; rw [hes.out] at hown6; obtain ⟨A6, c6, e6, _, _, _⟩ := OwnL.sl Ev.cells_len hown6; subst e6; obtain ⟨zf, ⟨u, zc⟩, hd6⟩ := (hi5.out.g (G.new _ _)).pushE hown6 hk6 hb6; replace hd6 := Lib.hid hd6)
          | (go_simp; go_at_call 35; refine Calls.mono hc ?_; rintro e w5 ⟨⟨xs, xv, xd, ⟨xa, xb, xc⟩, xi⟩, st6, he5, hr5, hb5, g5⟩; simp only [evVal, Ev.cells] at he5; subst he5; have hi5 := hid.out.call hr5 hb5; have x5 := hi5.c1; have x5b := (hi5.g (G.new w5 (.cells #[.string xs, .int .i64 xv, .string xd, .int .i64 xa, .int .i64 xb, .int .i64 xc, .int .i64 xi] 41))).c1; obtain ⟨x, hx⟩ : ∃ x : Ev, x = ⟨xs, xv, xd, ⟨xa, xb, xc⟩, xi⟩ := ⟨_, rfl⟩; rw [← hx] at g5; obtain ⟨es', hes⟩ : ∃ es', es ++ [x] = es' := ⟨_, rfl⟩; have hmo2 := hmo.out.step g5; rw [hes] at hmo2; have hlf2 := Left.step hlf.out hl eats_event g5; have hel : es'.length = es.length + 1 := (by rw [← hes]; simp); rw [← hel] at hlf2; replace hi5 := Lib.hid hi5; replace hx := Lib.hid hx; replace hes := Lib.hid hes; replace hmo2 := Lib.hid hmo2; replace hlf2 := Lib.hid hlf2; clear g5 hel hr5 hb5))
        all_goals
          go_wp2_with fail
          go_roundw
          case rel => exact ⟨j, A6, c6, es', st6, by first | go_num | rfl, by omega, hlf2, hd6, hmo2⟩
          case measure => (simp [intOf] <;> omega)
end Go.Proofs.YtilfgafdkiaaaaaDoor
/- penstockref7.EncodeStream: what it answers. Conditions: a stream that is not too great (SmSmall). -/
namespace Go.Proofs.YtilfgafdkiaaaaaDoor
open Go.RowKit

set_option maxRecDepth 100000 in
set_option maxHeartbeats 8000000 in
theorem refSmEnc_any (n : ByteArray) (es : List Ev) (ks : List Kn) (A A2 : Option Addr) (c c2 : Nat) (w : World) (hin : SmIn w w.heap.size A A2 es ks) (hz : SmSmall n es ks) (hT : Tabs w) :
    Calls Tryd.prog 24 #[.agg #[.string n, .slice A es.length c, .slice A2 ks.length c2]] w (RetBytesN w (smL ⟨n, es, ks⟩)) := by
  obtain ⟨hz0, ⟨hz1, hz2⟩, hz3, hz4⟩ := hz
  have hn : ∀ w', G w w' → Calls Tryd.prog 43 #[.string n] w' fun e w'' => e = .returned (.bool (nameB n)) ∧ G w' w'' := fun w' hg => refName_any n w' (by omega)
  have hev : ∀ w', G w w' → ∀ (s d : ByteArray) (v x y z i : Int), s.size ≤ 524288 → d.size ≤ 524288 → Calls Tryd.prog 19 #[.agg (Ev.cells ⟨s, v, d, ⟨x, y, z⟩, i⟩).toArray] w' (RetBytesN w' (evL ⟨s, v, d, ⟨x, y, z⟩, i⟩)) := fun w' hg s d v x y z i h1 h2 => refEvEnc_any s d v x y z i w' (by omega) (by omega) (hT.g hg)
  replace hin := Lib.hid hin
  replace hz2 := Lib.hid hz2
  replace hz4 := Lib.hid hz4
  replace hev := Lib.hid hev
  clear hT
  cases hnb : nameB n with
  | false =>
    have hno := Lib.hid (smL_bad (n := n) (es := es) (ks := ks) (.inl hnb))
    rw [hnb] at hn
    replace hnb := Lib.hid hnb
    go_enter Tryd.func24, Tryd.ntmps24
    go_wp2_with fail
    refine (hn _ (G.new _ _)).mono ?_
    rintro e w1 ⟨rfl, hg1⟩
    go_wp2_with fail
    go_ret
    exact ⟨none, 0, by rw [hno.out]; rfl, by rw [hno.out]; exact OwnL.nil, (G.new _ _).trans hg1, fun _ => rfl⟩
  | true =>
    rw [hnb] at hn
    replace hnb := Lib.hid hnb
    obtain ⟨m1, hm1⟩ : ∃ m, textL n.data.toList = m := ⟨_, rfl⟩
    obtain ⟨m2, hm2⟩ : ∃ m, m1 ++ vL es.length = m := ⟨_, rfl⟩
    have b1 : m1.length ≤ n.size + 10 := by rw [← hm1]; exact textL_len n
    have b2 : m2.length ≤ n.size + 20 := by rw [← hm2, List.length_append]; have := vL_len es.length; omega
    have hhd : smHead n es.length = m2 := by unfold smHead; rw [hm1, hm2]
    replace hm1 := Lib.hid hm1
    replace hm2 := Lib.hid hm2
    replace hhd := Lib.hid hhd
    go_enter Tryd.func24, Tryd.ntmps24
    go_upto_region 1 with fail
    generalize hW0 : w.alloc (.cells #[.string n, .slice A es.length c, .slice A2 ks.length c2] 53) = W0
    have hz : w.heap.size + 0 < W0.heap.size := by rw [← hW0]; simp
    have hG0 : G w W0 := by rw [← hW0]; exact G.new _ _
    have r0 : W0.cell? ⟨w.heap.size, 0, none⟩ = some (.string n) := by rw [← hW0]; simp
    have r1 : W0.cell? ⟨w.heap.size, 1, none⟩ = some (.slice A es.length c) := by rw [← hW0]; simp
    have r2 : W0.cell? ⟨w.heap.size, 2, none⟩ = some (.slice A2 ks.length c2) := by rw [← hW0]; simp
    clear hW0
    have q0 : ∀ w', G W0 w' → w'.cell? ⟨w.heap.size, 0, none⟩ = some (.string n) := fun w' h => (h.cell (by omega)).trans r0
    have q1 : ∀ w', G W0 w' → w'.cell? ⟨w.heap.size, 1, none⟩ = some (.slice A es.length c) := fun w' h => (h.cell (by omega)).trans r1
    have q2 : ∀ w', G W0 w' → w'.cell? ⟨w.heap.size, 2, none⟩ = some (.slice A2 ks.length c2) := fun w' h => (h.cell (by omega)).trans r2
    clear r0 r1 r2
    have hgr : G W0 W0 := G.refl _
    go_upto_region 3 with (go_at_call 43; refine (hn _ hG0).mono ?_; rintro e w1 ⟨rfl, hg1⟩)
    clear hn hgr
    go_cut [3] (fun v3 wx => OwnAt W0.heap.size m2 v3 wx ∧ G W0 wx)
    case first =>
      go_region_held3 (fun w' => G W0 w') (first | exact hg1.drew | exact hgm.keep (by assumption) | exact KeepT.g hk2 (by assumption) | fail) (first
        | (go_at_call 46; (with_reducible refine Calls.mono (refText_nil hm1 (by omega)) ?_); rintro e u1 ⟨A1, d1, rfl, hown1, hgm⟩; replace hown1 := OwnL.mono hown1 (show W0.heap.size ≤ _ from G.size (by assumption)))
        | (go_at_call 47; (with_reducible refine Calls.mono (num7_own (base := W0.heap.size) hown1 (G.size (by assumption)) (by omega) (by omega) hm2) ?_); rintro e u2 ⟨A2', d2, rfl, hown2, hk2⟩))
      all_goals
        have hGe : G W0 u2 := by assumption
        go_wp2_with fail
        go_meet
        exact ⟨⟨_, _, rfl, hown2⟩, hGe⟩
    case rest =>
      obtain ⟨⟨A3, d3, rfl, hown3⟩, hgc⟩ := hcut
      replace hown3 := Lib.hid hown3
      clear hg1
      go_wp2_with fail
      go_loopw [3, 4] (fun v i wr => ∃ (k : Nat) (m : List UInt8) (A8 : Option Addr) (c8 : Nat), v = .slice A8 m.length c8 ∧ i = .int .i64 k ∧ k ≤ es.length ∧ m.length ≤ 530000 + k * 1048700 ∧ Hid (m = m2 ++ (es.take k).flatMap evL) ∧ Hid (∀ e ∈ es.take k, smEv n e = true) ∧ Hid (OwnL 5 1 byteC wr W0.heap.size (.slice A8 m.length c8) m) ∧ G W0 wr) (fun _ i _ => es.length - (intOf i).toNat)
      case atStart => exact ⟨0, m2, A3, d3, rfl, rfl, Nat.zero_le _, by omega, by simp [Hid], by simp [Hid], hown3, hgc⟩
      case round =>
        obtain ⟨wo, rfl⟩ : ∃ wo : World, wo = wr := ⟨_, rfl⟩
        clear hown3 hgc
        obtain ⟨k, m, A8, c8, rfl, rfl, hkl, hml, hm, hall, hown, hgr⟩ := hrel
        have hg := hG0.trans hgr
        have g1 := q1 _ hgr
        by_cases hlt : k < es.length
        · obtain ⟨x, hx⟩ : ∃ x, es[k]? = some x := ⟨_, List.getElem?_eq_getElem hlt⟩
          have hxm := List.mem_of_getElem? hx
          obtain ⟨z1, z2⟩ := hz2.out x hxm
          have hsl := (hin.out.1.g (Nat.le_refl _) hg).get hx
          have hfl := flat_take_succ evL hx
          have hel := evL_len x
          have hbad : smEv n x = false → smL ⟨n, es, ks⟩ = [] := fun h => smL_bad (.inr (.inl ⟨x, hxm, h⟩))
          have hext : smEv n x = true → (∀ e ∈ es.take k, smEv n e = true) → ∀ e ∈ es.take (k + 1), smEv n e = true := fun h1 h2 e he => by
            rw [List.take_add_one, hx, List.mem_append] at he
            rcases he with he | he
            · exact h2 e he
            · simp at he; rw [he]; exact h1
          replace hbad := Lib.hid hbad
          replace hext := Lib.hid hext
          obtain ⟨xs, xv, xd, ⟨xa, xb, xc⟩, xi⟩ := x
          obtain ⟨b, o, rfl, hb, hc⟩ := hsl
          simp only at z1 z2 hel
          have c0 := hc 0 _ rfl
          have c1 := hc 1 _ rfl
          have c2 := hc 2 _ rfl
          have c3 := hc 3 _ rfl
          have c4 := hc 4 _ rfl
          have c5 := hc 5 _ rfl
          have c6 := hc 6 _ rfl
          simp only [Nat.add_zero] at c0
          have n1 : (0 : Int) ≤ (k : Int) := by omega
          have n2 : (k : Int) < (es.length : Int) := by omega
          have hen := hev.out (wo.alloc (.cells #[.string xs, .int .i64 xv, .string xd, .int .i64 xa, .int .i64 xb, .int .i64 xc, .int .i64 xi] 41)) (hg.trans (G.new _ _)) xs xd xv xa xb xc xi z1 z2
          unfold Ev.cells at hen
          replace hen := Lib.hid hen
          replace hel := Lib.hid hel
          replace hfl := Lib.hid hfl
          clear hx hen hc
          have hen := hev.out wo hg xs xd xv xa xb xc xi z1 z2
          unfold Ev.cells at hen
          have hbo : b < wo.heap.size := by have := hg.size; omega
          clear hg
          cases hok : evOk ⟨xs, xv, xd, ⟨xa, xb, xc⟩, xi⟩ with
          | false =>
            have hno := Lib.hid (hbad.out (by unfold smEv; rw [hok]; rfl))
            rw [evL_none hok] at hen
            replace hok := Lib.hid hok
            clear hext hfl hel
            go_upto_region 8 with (go_at_call 19; refine hen.mono ?_; rintro e u ⟨Ae, ce, rfl, _, hgu, hnil⟩)
            have t0 : ((([] : List UInt8).length : Int) == 0) = true := rfl
            clear hnil hen c0 c1 c2 c3 c4 c5 c6 g1
            go_quiet (fail)
            have hgd := hG0.trans (hgr.trans hgu)
            go_wp2_with fail
            go_ret
            exact ⟨none, 0, by rw [hno.out]; rfl, by rw [hno.out]; exact OwnL.nil, by first | exact hgd | exact hgd.drew | exact hgd.drewN _, fun _ => rfl⟩
          | true =>
            have hne : evL ⟨xs, xv, xd, ⟨xa, xb, xc⟩, xi⟩ ≠ [] := by rw [Ne, evL_nil, hok]; simp
            by_cases hxn : xs = n
            case neg =>
              have hno := Lib.hid (hbad.out (by unfold smEv; simp only; rw [decide_eq_false hxn, Bool.and_false]))
              generalize evL ⟨xs, xv, xd, ⟨xa, xb, xc⟩, xi⟩ = el at *
              have t0 : ((el.length : Int) == 0) = false := by
                rw [beq_eq_false_iff_ne]
                have := List.length_pos_iff.2 hne
                omega
              replace hne := Lib.hid hne
              replace hok := Lib.hid hok
              have t1 : (xs.toList == n.toList) = false := by rw [bytes_beq]; exact decide_eq_false hxn
              have t2 : (xs.toList != n.toList) = true := by rw [bne, t1]; rfl
              clear hext hfl hel
              go_upto_region 8 with (go_at_call 19; refine hen.mono ?_; rintro e u ⟨Ae, ce, rfl, _, hgu, _⟩)
              have d0 := (hgu.cell (o := o + k * 7) hbo).trans c0
              have g0 := q0 _ (hgr.trans hgu)
              have g1 := q1 _ (hgr.trans hgu)
              clear hen c0 c1 c2 c3 c4 c5 c6
              go_quiet (fail)
              have hgd := hG0.trans (hgr.trans hgu)
              go_wp2_with fail
              go_ret
              exact ⟨none, 0, by rw [hno.out]; rfl, by rw [hno.out]; exact OwnL.nil, by first | exact hgd | exact hgd.drew | exact hgd.drewN _, fun _ => rfl⟩
            subst hxn
            have hsm := hext.out (by unfold smEv; rw [hok, decide_eq_true rfl]; rfl) hall.out
            generalize evL ⟨xs, xv, xd, ⟨xa, xb, xc⟩, xi⟩ = el at *
            obtain ⟨mE, hmE⟩ : ∃ m', m ++ el = m' := ⟨_, rfl⟩
            have hmEe : mE = m2 ++ (es.take (k + 1)).flatMap evL := by rw [hfl.out, ← List.append_assoc, ← hm.out, hmE]
            have hmEl : mE.length = m.length + el.length := by rw [← hmE, List.length_append]
            have t0 : ((el.length : Int) == 0) = false := by
              rw [beq_eq_false_iff_ne]
              have := List.length_pos_iff.2 hne
              omega
            have t1 : (xs.toList == xs.toList) = true := by simp
            have t2 : (xs.toList != xs.toList) = false := by simp
            have hel := hel.out
            replace hne := Lib.hid hne
            replace hok := Lib.hid hok
            replace hsm := Lib.hid hsm
            replace hmE := Lib.hid hmE
            replace hmEe := Lib.hid hmEe
            replace hmEl := Lib.hid hmEl
            clear hext hfl hm hall
            go_upto_region 8 with (go_at_call 19; refine hen.mono ?_; rintro e u ⟨Ae, ce, rfl, hownE, hgu, _⟩)
            have hslE := OwnL.self byteC_len hownE
            have d0 := (hgu.cell (o := o + k * 7) hbo).trans c0
            have g0 := q0 _ (hgr.trans hgu)
            have g1 := q1 _ (hgr.trans hgu)
            clear hen c0 c1 c2 c3 c4 c5 c6 hownE
            go_quiet (fail)
            generalize hwd : u.drewN _ = wd
            have hgd : G u wd := by rw [← hwd]; exact (G.refl _).drewN _
            clear hwd
            have hgu2 := hgr.trans (hgu.trans hgd)
            replace hslE := (hslE.g (Nat.le_refl _) hgd).more hgd.size
            replace hown := Lib.hid (hown.out.g (hgu.trans hgd))
            have hzu := hgu2.size
            have hAE : Ae = none → el = [] := fun h => (h ▸ hslE).of_none
            go_wp2_with (at_builtin; refine wpList_append_but byte_elem _ rfl (.tmp 46) (.tmp 47) rfl W0.heap.size _ m rfl hown.out wd.heap.size Ae ce el rfl hAE hslE (by omega) (by omega) hzu ?_; intro v6 u6 hown6 hk6 hbut; rw [hmE.out] at hown6; obtain ⟨A6, c6', e6, _, _, _⟩ := OwnL.sl byteC_len hown6; subst e6; clear hbut; replace hown6 := Lib.hid hown6; have hg6 := KeepT.g hk6 hgu2)
            go_roundw
            case rel => exact ⟨k + 1, mE, A6, c6', rfl, by go_num, by omega, by have := hmEl.out; omega, hmEe, hsm, hown6, hg6⟩
            case measure => (simp [intOf] <;> omega)
        · have hm3 : m = m2 ++ es.flatMap evL := by rw [hm.out, List.take_of_length_le (by omega)]
          have hall2 : ∀ e ∈ es, smEv n e = true := by
            have h := hall.out
            rwa [List.take_of_length_le (by omega)] at h
          obtain ⟨mK, hmK⟩ : ∃ m', m ++ vL ks.length = m' := ⟨_, rfl⟩
          have lK : mK.length ≤ m.length + 10 := by rw [← hmK, List.length_append]; have := vL_len ks.length; omega
          have hkl2 : k * 1048700 ≤ 524289 * 1048700 := by omega
          have g2 := q2 _ hgr
          have hzr := hgr.size
          replace hm3 := Lib.hid hm3
          replace hall2 := Lib.hid hall2
          replace hmK := Lib.hid hmK
          clear hm hall
          go_wp2_with fail
          refine (num7_own (base := W0.heap.size) hown.out hzr (by omega) (by omega) hmK).mono ?_
          rintro e u5 ⟨A5, d5, rfl, hown5, hk5⟩
          have hg5 : G W0 u5 := KeepT.g hk5 hgr
          replace hown5 := Lib.hid hown5
          clear hown hk5 hzr g2
          go_wp2_with fail
          go_loopw [3, 6] (fun v i wr => ∃ (j : Nat) (m' : List UInt8) (A9 : Option Addr) (c9 : Nat), v = .slice A9 m'.length c9 ∧ i = .int .i64 j ∧ j ≤ ks.length ∧ m'.length ≤ mK.length + j * 524400 ∧ Hid (m' = mK ++ (ks.take j).flatMap knBytes) ∧ Hid (∀ y ∈ ks.take j, knOk y = true) ∧ Hid (OwnL 5 1 byteC wr W0.heap.size (.slice A9 m'.length c9) m') ∧ G W0 wr) (fun _ i _ => ks.length - (intOf i).toNat)
          case atStart => exact ⟨0, mK, A5, d5, rfl, rfl, Nat.zero_le _, by omega, by simp [Hid], by simp [Hid], hown5, hg5⟩
          case round =>
            obtain ⟨wo, rfl⟩ : ∃ wo : World, wo = wr := ⟨_, rfl⟩
            clear hown5 hg5 hg hgr g1
            obtain ⟨j, m', A9, c9, rfl, rfl, hjl, hml', hm', hall', hown, hgr⟩ := hrel
            have hg := hG0.trans hgr
            have g2 := q2 _ hgr
            by_cases hjt : j < ks.length
            · obtain ⟨y, hy⟩ : ∃ y, ks[j]? = some y := ⟨_, List.getElem?_eq_getElem hjt⟩
              have hym := List.mem_of_getElem? hy
              have z1 := hz4.out y hym
              have hsl := (hin.out.2.g (Nat.le_refl _) hg).get hy
              have hfl := flat_take_succ knBytes hy
              have hbad : knOk y = false → smL ⟨n, es, ks⟩ = [] := fun h => smL_bad (.inr (.inr ⟨y, hym, h⟩))
              have hext : knOk y = true → (∀ e ∈ ks.take j, knOk e = true) → ∀ e ∈ ks.take (j + 1), knOk e = true := fun h1 h2 e he => by
                rw [List.take_add_one, hy, List.mem_append] at he
                rcases he with he | he
                · exact h2 e he
                · simp at he; rw [he]; exact h1
              replace hbad := Lib.hid hbad
              replace hext := Lib.hid hext
              obtain ⟨yk, yv, ⟨ya, yb, yc⟩⟩ := y
              obtain ⟨b, o, rfl, hb, hc⟩ := hsl
              simp only at z1
              have c0 := hc 0 _ rfl
              have c1 := hc 1 _ rfl
              have c2 := hc 2 _ rfl
              have c3 := hc 3 _ rfl
              have c4 := hc 4 _ rfl
              simp only [Nat.add_zero] at c0
              have n1 : (0 : Int) ≤ (j : Int) := by omega
              have n2 : (j : Int) < (ks.length : Int) := by omega
              replace hfl := Lib.hid hfl
              clear hy hc
              go_upto_region 16 with fail
              have hbx := blk_new wo #[.string yk, .int .i64 yv, .int .i64 ya, .int .i64 yb, .int .i64 yc] 91
              have hgn := G.new wo (.cells #[.string yk, .int .i64 yv, .int .i64 ya, .int .i64 yb, .int .i64 yc] 91)
              generalize wo.alloc (.cells #[.string yk, .int .i64 yv, .int .i64 ya, .int .i64 yb, .int .i64 yc] 91) = wx at *
              generalize hX : wo.heap.size = X at *
              replace hX := Lib.hid hX
              have x0 := (blk_cell hbx 0).trans (show _ = some (.string yk) from rfl)
              have x1 := (blk_cell hbx 1).trans (show _ = some (.int .i64 yv) from rfl)
              have x2 := (blk_cell hbx 2).trans (show _ = some (.int .i64 ya) from rfl)
              have x3 := (blk_cell hbx 3).trans (show _ = some (.int .i64 yb) from rfl)
              have x4 := (blk_cell hbx 4).trans (show _ = some (.int .i64 yc) from rfl)
              have hgx : G W0 wx := hgr.trans hgn
              replace hown := Lib.hid (hown.out.g hgn)
              have hkc : ∀ w', Calls Tryd.prog 56 #[.string yk] w' fun e w'' => e = .returned (.bool (keyB yk)) ∧ G w' w'' := fun w' => refKey_any yk w' (by omega)
              have hso : ∀ w', Calls Tryd.prog 45 #[.agg #[.int .i64 ya, .int .i64 yb, .int .i64 yc]] w' fun e w'' => e = .returned (.bool (stOk ⟨ya, yb, yc⟩)) ∧ G w' w'' := fun w' => refSound_any ya yb yc w'
              have hfalse : ¬ (yk.toList.isEmpty = false ∧ keyB yk = true ∧ (1 ≤ yv ∧ yv ≤ 1099511627776) ∧ stOk ⟨ya, yb, yc⟩ = true) → smL ⟨n, es, ks⟩ = [] := fun h => hbad.out (by
                cases hk : knOk ⟨yk, yv, ⟨ya, yb, yc⟩⟩ with
                | false => rfl
                | true => exact absurd ((knOk_iff _).1 hk) h)
              replace hfalse := Lib.hid hfalse
              clear hgn c0 c1 c2 c3 c4 hg hgr g2 hbad
              cases h1 : yk.toList.isEmpty with
              | true =>
                have hno := Lib.hid (hfalse.out (by rw [h1]; simp))
                clear hext hfl hkc hso
                go_wp2_with fail
                go_ret
                exact ⟨none, 0, by rw [hno.out]; rfl, by rw [hno.out]; exact OwnL.nil, hG0.trans hgx, fun _ => rfl⟩
              | false =>
                cases h2 : keyB yk with
                | false =>
                  have hno := Lib.hid (hfalse.out (by rw [h2]; simp))
                  rw [h2] at hkc
                  replace h2 := Lib.hid h2
                  clear hext hfl hso
                  go_wp2_with fail
                  refine (hkc _).mono ?_
                  rintro e u ⟨rfl, hgu⟩
                  clear hkc x0 x1 x2 x3 x4
                  go_wp2_with fail
                  go_ret
                  exact ⟨none, 0, by rw [hno.out]; rfl, by rw [hno.out]; exact OwnL.nil, hG0.trans (hgx.trans hgu), fun _ => rfl⟩
                | true =>
                  rw [h2] at hkc
                  by_cases h3 : 1 ≤ yv
                  case neg =>
                    have hno := Lib.hid (hfalse.out (by omega))
                    have t3 : decide (yv < 1) = true := decide_eq_true (by omega)
                    have t3' : yv < 1 := by omega
                    replace h2 := Lib.hid h2
                    clear hext hfl hso h3
                    go_wp2_with fail
                    refine (hkc _).mono ?_
                    rintro e u ⟨rfl, hgu⟩
                    have x0 := (blk_cell (hgu.blk hbx) 0).trans (show _ = some (.string yk) from rfl)
                    have x1 := (blk_cell (hgu.blk hbx) 1).trans (show _ = some (.int .i64 yv) from rfl)
                    have x2 := (blk_cell (hgu.blk hbx) 2).trans (show _ = some (.int .i64 ya) from rfl)
                    have x3 := (blk_cell (hgu.blk hbx) 3).trans (show _ = some (.int .i64 yb) from rfl)
                    have x4 := (blk_cell (hgu.blk hbx) 4).trans (show _ = some (.int .i64 yc) from rfl)
                    go_wp2_with fail
                    go_ret
                    exact ⟨none, 0, by rw [hno.out]; rfl, by rw [hno.out]; exact OwnL.nil, hG0.trans (hgx.trans hgu), fun _ => rfl⟩
                  have t3 : decide (yv < 1) = false := decide_eq_false (by omega)
                  by_cases h4 : yv ≤ 1099511627776
                  case neg =>
                    have hno := Lib.hid (hfalse.out (by omega))
                    have t4 : decide (1099511627776 < yv) = true := decide_eq_true (by omega)
                    have t4' : 1099511627776 < yv := by omega
                    replace h2 := Lib.hid h2
                    clear hext hfl hso h4
                    go_wp2_with fail
                    refine (hkc _).mono ?_
                    rintro e u ⟨rfl, hgu⟩
                    have x0 := (blk_cell (hgu.blk hbx) 0).trans (show _ = some (.string yk) from rfl)
                    have x1 := (blk_cell (hgu.blk hbx) 1).trans (show _ = some (.int .i64 yv) from rfl)
                    have x2 := (blk_cell (hgu.blk hbx) 2).trans (show _ = some (.int .i64 ya) from rfl)
                    have x3 := (blk_cell (hgu.blk hbx) 3).trans (show _ = some (.int .i64 yb) from rfl)
                    have x4 := (blk_cell (hgu.blk hbx) 4).trans (show _ = some (.int .i64 yc) from rfl)
                    go_wp2_with fail
                    go_ret
                    exact ⟨none, 0, by rw [hno.out]; rfl, by rw [hno.out]; exact OwnL.nil, hG0.trans (hgx.trans hgu), fun _ => rfl⟩
                  have t4 : decide (1099511627776 < yv) = false := decide_eq_false (by omega)
                  cases h5 : stOk ⟨ya, yb, yc⟩ with
                  | false =>
                    have hno := Lib.hid (hfalse.out (by rw [h5]; simp))
                    rw [h5] at hso
                    replace h2 := Lib.hid h2
                    replace h5 := Lib.hid h5
                    clear hext hfl
                    go_wp2_with fail
                    refine (hkc _).mono ?_
                    rintro e u ⟨rfl, hgu⟩
                    have x0 := (blk_cell (hgu.blk hbx) 0).trans (show _ = some (.string yk) from rfl)
                    have x1 := (blk_cell (hgu.blk hbx) 1).trans (show _ = some (.int .i64 yv) from rfl)
                    have x2 := (blk_cell (hgu.blk hbx) 2).trans (show _ = some (.int .i64 ya) from rfl)
                    have x3 := (blk_cell (hgu.blk hbx) 3).trans (show _ = some (.int .i64 yb) from rfl)
                    have x4 := (blk_cell (hgu.blk hbx) 4).trans (show _ = some (.int .i64 yc) from rfl)
                    go_wp2_with fail
                    refine (hso _).mono ?_
                    rintro e u' ⟨rfl, hgu'⟩
                    go_wp2_with fail
                    go_ret
                    exact ⟨none, 0, by rw [hno.out]; rfl, by rw [hno.out]; exact OwnL.nil, hG0.trans (hgx.trans (hgu.trans hgu')), fun _ => rfl⟩
                  | true =>
                    rw [h5] at hso
                    have hsm := hext.out ((knOk_iff _).2 ⟨h1, h2, ⟨h3, h4⟩, h5⟩) hall'.out
                    obtain ⟨vn, rfl⟩ : ∃ q : Nat, yv = q := ⟨yv.toNat, by omega⟩
                    obtain ⟨mT, hmT⟩ : ∃ q, m' ++ textL yk.data.toList = q := ⟨_, rfl⟩
                    obtain ⟨mV, hmV⟩ : ∃ q, mT ++ vL vn = q := ⟨_, rfl⟩
                    obtain ⟨mS, hmS⟩ : ∃ q, mV ++ stE ⟨ya, yb, yc⟩ = q := ⟨_, rfl⟩
                    have hmSe : mS = mK ++ (ks.take (j + 1)).flatMap knBytes := by
                      rw [hfl.out, ← List.append_assoc, ← hm'.out, ← hmS, ← hmV, ← hmT, stE_ok h5]
                      unfold knBytes
                      simp only [List.append_assoc]
                      rfl
                    have lT : mT.length ≤ m'.length + yk.size + 10 := by rw [← hmT, List.length_append]; have := textL_len yk; omega
                    have lV : mV.length ≤ mT.length + 10 := by rw [← hmV, List.length_append]; have := vL_len vn; omega
                    have lS : mS.length ≤ mV.length + 30 := by rw [← hmS, List.length_append]; have := stE_len ⟨ya, yb, yc⟩; omega
                    have hen : ∀ w', Calls Tryd.prog 48 #[.agg #[.int .i64 ya, .int .i64 yb, .int .i64 yc]] w' (RetBytes w' (stE ⟨ya, yb, yc⟩)) := fun w' => refStEnc_any ⟨ya, yb, yc⟩ w'
                    have hel := stE_len ⟨ya, yb, yc⟩
                    generalize stE ⟨ya, yb, yc⟩ = ste at *
                    replace h2 := Lib.hid h2
                    replace h5 := Lib.hid h5
                    replace hsm := Lib.hid hsm
                    replace hmT := Lib.hid hmT
                    replace hmV := Lib.hid hmV
                    replace hmS := Lib.hid hmS
                    replace hmSe := Lib.hid hmSe
                    replace hen := Lib.hid hen
                    clear hext hfl hm' hall' hfalse
                    go_wp2_with fail
                    refine (hkc _).mono ?_
                    rintro e u ⟨rfl, hgu⟩
                    have x0 := (blk_cell (hgu.blk hbx) 0).trans (show _ = some (.string yk) from rfl)
                    have x1 := (blk_cell (hgu.blk hbx) 1).trans (show _ = some (.int .i64 vn) from rfl)
                    have x2 := (blk_cell (hgu.blk hbx) 2).trans (show _ = some (.int .i64 ya) from rfl)
                    have x3 := (blk_cell (hgu.blk hbx) 3).trans (show _ = some (.int .i64 yb) from rfl)
                    have x4 := (blk_cell (hgu.blk hbx) 4).trans (show _ = some (.int .i64 yc) from rfl)
                    go_upto_region 18 with (go_at_call 45; refine (hso _).mono ?_; rintro e u' ⟨rfl, hgu'⟩)
                    replace hgu := hgu.trans hgu'
                    clear hkc hso x0 x1 x2 x3 x4
                    have x0 : ∀ w', G u' w' → w'.cell? ⟨X, 0, none⟩ = some (.string yk) := fun w' h => (blk_cell ((hgu.trans h).blk hbx) 0).trans rfl
                    have x1 : ∀ w', G u' w' → w'.cell? ⟨X, 1, none⟩ = some (.int .i64 vn) := fun w' h => (blk_cell ((hgu.trans h).blk hbx) 1).trans rfl
                    have x2 : ∀ w', G u' w' → w'.cell? ⟨X, 2, none⟩ = some (.int .i64 ya) := fun w' h => (blk_cell ((hgu.trans h).blk hbx) 2).trans rfl
                    have x3 : ∀ w', G u' w' → w'.cell? ⟨X, 3, none⟩ = some (.int .i64 yb) := fun w' h => (blk_cell ((hgu.trans h).blk hbx) 3).trans rfl
                    have x4 : ∀ w', G u' w' → w'.cell? ⟨X, 4, none⟩ = some (.int .i64 yc) := fun w' h => (blk_cell ((hgu.trans h).blk hbx) 4).trans rfl
                    have hownx : ∀ w', G u' w' → OwnL 5 1 byteC w' W0.heap.size (.slice A9 m'.length c9) m' := fun w' h => hown.out.g (hgu.trans h)
                    have hgz := hgx.trans hgu
                    have hzu := hgz.size
                    replace hbx := Lib.hid hbx
                    replace hownx := Lib.hid hownx
                    clear hown hgu hgu' hgx
                    go_region_held3 (fun w' => G u' w') (first | exact (G.refl _).drew | exact hgm.keep (by assumption) | exact hgE.keep (by assumption) | assumption | exact KeepT.g hk2 (by assumption) | exact KeepT.g hk3 (by assumption) | fail) (first
                      | (go_at_call 46; (with_reducible refine Calls.mono (refTextOf_own hmT (by omega) (by omega) (hownx.out _ (by assumption))) ?_); rintro e u1 ⟨A1, d1, rfl, hown1, hgm⟩; replace hown1 := OwnL.mono hown1 (show u'.heap.size ≤ _ from G.size (by assumption)))
                      | (go_at_call 47; (with_reducible refine Calls.mono (num7_own (base := u'.heap.size) hown1 (G.size (by assumption)) (by omega) (by omega) hmV) ?_); rintro e u2 ⟨A2, d2, rfl, hown2, hk2⟩)
                      | (go_at_call 48; (with_reducible refine Calls.mono (hen.out _) ?_); rintro e uE ⟨AE, dE, rfl, hownE, hgE⟩; have hslE := OwnL.self byteC_len hownE; have hAE : AE = none → ste = [] := fun h => (h ▸ hslE).of_none; clear hownE)
                      | (refine step_append_but byte_elem _ rfl (.tmp 97) (.tmp 100) rfl u'.heap.size (.slice A2 mV.length d2) mV rfl (hown2.g hgE) uE.heap.size AE dE ste rfl hAE hslE (by omega) (by omega) (G.size (by assumption)) ?_; intro v3 u3 hown3 hk3 hbut; rw [hmS.out] at hown3; obtain ⟨A3, d3, e3, _, _, _⟩ := OwnL.sl byteC_len hown3; subst e3; clear hbut))
                    all_goals
                      have hGe := hgz.trans (by assumption)
                      have hown4 := Lib.hid (OwnL.mono hown3 hzu)
                      go_wp2_with fail
                      go_roundw
                      case rel => exact ⟨j + 1, mS, A3, d3, rfl, by go_num, by omega, by omega, hmSe, hsm, hown4, hGe⟩
                      case measure => (simp [intOf] <;> omega)
            · have hall3 : ∀ y ∈ ks, knOk y = true := by
                have h := hall'.out
                rwa [List.take_of_length_le (by omega)] at h
              obtain ⟨he, hne⟩ := smL_all hnb.out hall2.out hall3
              have he2 : smL ⟨n, es, ks⟩ = m' := by rw [he, hhd.out, ← hm3.out, hmK.out, hm'.out, List.take_of_length_le (by omega)]
              rw [he2] at hne
              replace he2 := Lib.hid he2
              replace hne := Lib.hid hne
              clear he hm' hall' hall3
              go_wp2_with fail
              go_ret
              rw [he2.out]
              exact ⟨A9, c9, rfl, OwnL.mono hown.out hG0.size, hg, fun h => absurd h hne.out⟩
end Go.Proofs.YtilfgafdkiaaaaaDoor
/- The reader's Stream of penstockref7, penstockref7.DecodeStream: what they answer. Conditions: at most 2^19 bytes; the decoder's tables lie as the library lays them. -/
namespace Go.Proofs.YtilfgafdkiaaaaaDoor
open Go.RowKit

/-- The reader's Stream answers so. -/
def RdSm (T : TypeId) (R : Nat) (A : Option Addr) (c8 : Nat) (l0 : List UInt8) (w : World) (st : Option (List UInt8)) (e : Ending) (w' : World) : Prop :=
  ∃ (nm : ByteArray) (Ae Ak : Option Addr) (ce ck : Nat) (es : List Ev) (ks : List Kn) (st' : Option (List UInt8)), e = .returned (.agg #[.string nm, .slice Ae es.length ce, .slice Ak ks.length ck]) ∧ RdS T R A c8 l0 st' w' ∧ But (fun k => k = R) w w' ∧ Gives dStreamR st st' ⟨nm, es, ks⟩ ∧ SmSmall nm es ks ∧ SmOwn w.heap.size Ae ce es Ak ck ks w'
theorem SmOwn.mono {base base' : Nat} {Ae Ak : Option Addr} {ce ck : Nat} {es : List Ev} {ks : List Kn} {w : World} (h : SmOwn base Ae ce es Ak ck ks w) (hb : base' ≤ base) : SmOwn base' Ae ce es Ak ck ks w := ⟨h.evs.mono hb, h.kns.mono hb⟩
theorem SmOwn.z {base Z : Nat} {Ae Ak : Option Addr} {ce ck : Nat} {es : List Ev} {ks : List Kn} {w : World} {cs : Array Value} (h : SmOwn base Ae ce es Ak ck ks w) (hZ : w.heap[Z]? = some (.cells cs 53 (0, 0))) (y0 y1 y2 : Value) : SmOwn base Ae ce es Ak ck ks (((w.setCell ⟨Z, 0, none⟩ y0).setCell ⟨Z, 1, none⟩ y1).setCell ⟨Z, 2, none⟩ y2) := h.but (but_set3 w Z y0 y1 y2) (fun k cs t e h1 => by
  subst e
  rw [hZ] at h1
  cases h1
  decide)
theorem smSmall_zero : SmSmall ⟨#[]⟩ [] [] := ⟨by decide, ⟨by simp, fun _ h => by cases h⟩, by simp, fun _ h => by cases h⟩
set_option maxRecDepth 100000 in
set_option maxHeartbeats 16000000 in
theorem eyeStream_any (R : Nat) (A : Option Addr) (c8 : Nat) (l : List UInt8) (st : Option (List UInt8)) (w : World) (h : RdS 81 R A c8 l st w) (hl : l.length ≤ 524288) (hcap : l.length ≤ c8) (hT : Tabs w) :
    Calls Tryd.prog 54 #[.pointer (some ⟨R, 0, none⟩)] w (RdSm 81 R A c8 l w st) := by
  have hl2 : l.length ≤ 1073741824 := by omega
  have hRw := h.lt
  have hl0 : ∀ l', st = some l' → l'.length ≤ 524288 := fun l' e => Nat.le_trans (RdS.len (e ▸ h)) hl
  have hZ0 := blk_new w #[.string ByteArray.empty, .slice none 0 0, .slice none 0 0] 53
  have hg0 := G.new w (.cells #[.string ByteArray.empty, .slice none 0 0, .slice none 0 0] 53)
  have hz0 : (w.alloc (.cells #[.string ByteArray.empty, .slice none 0 0, .slice none 0 0] 53)).heap.size = w.heap.size + 1 := by simp
  obtain ⟨W0, hW0⟩ : ∃ W0, w.alloc (.cells #[.string ByteArray.empty, .slice none 0 0, .slice none 0 0] 53) = W0 := ⟨_, rfl⟩
  rw [hW0] at hZ0 hg0 hz0
  have hr := h.g hg0
  have hc := eyeText_any R A c8 l st _ hr hl2 hcap
  obtain ⟨s, st1, h1⟩ : ∃ s t, gv [] dText st = (s, t) := ⟨_, _, rfl⟩
  rw [h1] at hc
  have g1 := gv_gives h1
  replace g1 := Lib.hid g1
  replace hg0 := Lib.hid hg0
  replace hZ0 := Lib.hid hZ0
  replace hl0 := Lib.hid hl0
  replace hT := Lib.hid hT
  replace h := Lib.hid h
  clear h1
  subst hW0
  have hRz : R < (w.alloc (.cells #[.string ByteArray.empty, .slice none 0 0, .slice none 0 0] 53)).heap.size := by omega
  replace hz0 := Lib.hid hz0
  go_enter Tryd.func54, Tryd.ntmps54
  go_wp2_with fail
  refine hc.mono ?_
  clear hc hr
  rintro e w1 ⟨rfl, hr1, hb1⟩
  generalize w.alloc (.cells #[.string ByteArray.empty, .slice none 0 0, .slice none 0 0] 53) = W0 at *
  have hgn := G.new w1 (.cells #[.string (strOf s), .slice none 0 0, .slice none 0 0] 53)
  have hd : SmSt 81 R w1.heap.size R A c8 l W0 (strOf s) none 0 [] none 0 [] st1 (w1.alloc (.cells #[.string (strOf s), .slice none 0 0, .slice none 0 0] 53)) :=
    ⟨hr1.g hgn, (hr1.g hgn).sl, blk_new _ _ _, ⟨OwnL.nil, OwnL.nil⟩, hb1.g hgn, Nat.le_refl _, by omega, hb1.size, by decide⟩
  have hc := eyeNum_any R A c8 l st1 _ hd.rd hl2 hcap 1073741824 1073741824 rfl (by omega)
  obtain ⟨N, st2, h2⟩ : ∃ v t, gv 0 (dCount 1073741824) st1 = (v, t) := ⟨_, _, rfl⟩
  rw [h2] at hc
  have g2 := gv_gives h2
  have hN : N ≤ 1073741824 := gv_bound (P := (· ≤ 1073741824)) h2 (by omega) (fun _ _ _ h => (dCount_num h).2)
  replace g2 := Lib.hid g2
  replace hd := Lib.hid hd
  clear hr1 hb1 h2 hgn
  go_wp2_with fail
  refine hc.mono ?_
  clear hc
  rintro e w2 ⟨rfl, hr2, hb2⟩
  replace hd := hd.out.call hr2 hb2
  have hlf : Left l 0 st2 := Left.start (fun l' e => by subst e; exact RdS.len hd.rd)
  replace hd := Lib.hid hd
  replace hlf := Lib.hid hlf
  clear hr2 hb2
  go_wp2_with fail
  go_loopw [5] (fun i wr => ∃ (jj k : Nat) (Ae : Option Addr) (ce : Nat) (es : List Ev) (st : Option (List UInt8)), i = .int .i64 jj ∧ Hid (jj + k = N) ∧ Hid (Left l es.length st) ∧ Hid (SmSt 81 R w1.heap.size R A c8 l W0 (strOf s) Ae ce es none 0 [] st wr) ∧ Hid (More dEvent N k st2 st es)) (fun i _ => N - (intOf i).toNat)
  case atStart => exact ⟨0, N, none, 0, [], st2, rfl, Lib.hid (by omega), hlf, hd, More.start _ _ _⟩
  case round =>
    obtain ⟨wo, rfl⟩ : ∃ wo : World, wo = wr := ⟨_, rfl⟩
    clear hd hlf
    obtain ⟨jj, k, Ae, ce, es, st, rfl, hjk, hlf, hd, hmo⟩ := hrel
    have q2 := hd.out.rd.c2
    cases st with
    | none =>
      unfold Option.isNone at q2
      by_cases hk : k = 0
      · subst hk
        obtain rfl : jj = N := hjk.out
        clear hjk
        have g3 := hmo.out.end (.inr rfl)
        replace g3 := Lib.hid g3
        clear hmo hlf
        have hc := eyeNum_any R A c8 l none wo hd.out.rd hl2 hcap 1073741824 1073741824 rfl (by omega)
        obtain ⟨M, st4, h4⟩ : ∃ v t, gv 0 (dCount 1073741824) (none) = (v, t) := ⟨_, _, rfl⟩
        rw [h4] at hc
        have g4 := gv_gives h4
        have hM : M ≤ 1073741824 := gv_bound (P := (· ≤ 1073741824)) h4 (by decide) (fun _ _ _ h => (dCount_num h).2)
        replace g4 := Lib.hid g4
        clear h4
        go_wp2_with fail
        refine hc.mono ?_
        clear hc
        rintro e wb ⟨rfl, hr4, hb4⟩
        replace hd := hd.out.call hr4 hb4
        have hlf : Left l 0 st4 := Left.start (fun l' e => by subst e; exact RdS.len hd.rd)
        replace hd := Lib.hid hd
        replace hlf := Lib.hid hlf
        clear hr4 hb4 q2
        go_wp2_with fail
        go_loopw [7] (fun i wr => ∃ (jj k : Nat) (Ak : Option Addr) (ck : Nat) (ks : List Kn) (st : Option (List UInt8)), i = .int .i64 jj ∧ Hid (jj + k = M) ∧ Hid (Left l ks.length st) ∧ Hid (SmSt 81 R w1.heap.size R A c8 l W0 (strOf s) Ae ce es Ak ck ks st wr) ∧ Hid (More dKnown M k st4 st ks)) (fun i _ => M - (intOf i).toNat)
        case atStart => exact ⟨0, M, none, 0, [], st4, rfl, Lib.hid (by omega), hlf, hd, More.start _ _ _⟩
        case round =>
          obtain ⟨wo, rfl⟩ : ∃ wo : World, wo = wr := ⟨_, rfl⟩
          clear hd hlf
          obtain ⟨jj, k, Ak, ck, ks, st, rfl, hjk, hlf, hd, hmo⟩ := hrel
          have q2 := hd.out.rd.c2
          cases st with
          | none =>
            unfold Option.isNone at q2
            have hbad := (stream_givesR g1.out g2.out g3.out g4.out (hmo.out.end (.inr rfl))).1 (.inl rfl)
            clear hmo hlf
            by_cases hk : k = 0
            · subst hk
              obtain rfl : jj = M := hjk.out
              replace hbad := Lib.hid hbad
              have hZ := hd.out.but.blk hZ0.out (by omega)
              have r2 := hd.out.rd.c2
              have rf := hd.out.rd.free 2
              have hr := hd.out.rd.fail
              have hbw := ((But.of_g (S := fun k => k = R) hg0.out).trans hd.out.but).set (p := ⟨R, 2, none⟩) (.inr rfl) (.bool true)
              have hZ2 := (but_set wo R 2 (.bool true)).blk hZ (by omega)
              have q0 := (blk_cell hZ2 0).trans (show _ = some (.string ByteArray.empty) from rfl)
              have q1 := (blk_cell hZ2 1).trans (show _ = some (.slice none 0 0) from rfl)
              have q3 := (blk_cell hZ2 2).trans (show _ = some (.slice none 0 0) from rfl)
              have fq : ∀ o, (wo.setCell ⟨R, 2, none⟩ (.bool true)).frozen? ⟨w.heap.size, o, none⟩ = false := fun o => by simp [World.frozen?, hZ2]
              have f0 := fq 0
              have f1 := fq 1
              have f2 := fq 2
              have hE := blk3 hZ2 (.string ⟨#[]⟩) (.slice none 0 0) (.slice none 0 0)
              have hr' := hr.but (but_set3 _ w.heap.size (.string ⟨#[]⟩) (.slice none 0 0) (.slice none 0 0)) (fun k e => by omega)
              have hbs := hbw.set3 (Nat.le_refl _) (.string ⟨#[]⟩) (.slice none 0 0) (.slice none 0 0)
              have e0 := (blk_cell hE 0).trans (show _ = some (.string ⟨#[]⟩) from rfl)
              have e1 := (blk_cell hE 1).trans (show _ = some (.slice none 0 0) from rfl)
              have e2 := (blk_cell hE 2).trans (show _ = some (.slice none 0 0) from rfl)
              have hneR : w.heap.size ≠ R := by omega
              have hneR' : R ≠ w.heap.size := by omega
              replace e0 := Lib.hid e0
              replace e1 := Lib.hid e1
              replace e2 := Lib.hid e2
              replace hr' := Lib.hid hr'
              replace hbs := Lib.hid hbs
              replace hd := Lib.hid hd
              clear hE hZ hZ2 hbw hr fq
              go_wp2_with fail
              have e0 := e0.out
              have e1 := e1.out
              have e2 := e2.out
              refine bodyPost_ret (v := .agg #[.string ⟨#[]⟩, .slice none 0 0, .slice none 0 0]) (by simp [results, Tryd.results54, go_sem, e0, e1, e2]) rfl ?_
              exact ⟨⟨#[]⟩, none, none, 0, 0, [], [], none, rfl, hr'.out, hbs.out, hbad.out, smSmall_zero, ⟨OwnL.nil, OwnL.nil⟩⟩
            · have hk' : (jj : Int) < (M : Int) := by have := hjk.out; omega
              replace hbad := Lib.hid hbad
              have hZ := hd.out.but.blk hZ0.out (by omega)
              have r2 := hd.out.rd.c2
              have rf := hd.out.rd.free 2
              have hr := hd.out.rd.fail
              have hbw := ((But.of_g (S := fun k => k = R) hg0.out).trans hd.out.but).set (p := ⟨R, 2, none⟩) (.inr rfl) (.bool true)
              have hZ2 := (but_set wo R 2 (.bool true)).blk hZ (by omega)
              have q0 := (blk_cell hZ2 0).trans (show _ = some (.string ByteArray.empty) from rfl)
              have q1 := (blk_cell hZ2 1).trans (show _ = some (.slice none 0 0) from rfl)
              have q3 := (blk_cell hZ2 2).trans (show _ = some (.slice none 0 0) from rfl)
              have fq : ∀ o, (wo.setCell ⟨R, 2, none⟩ (.bool true)).frozen? ⟨w.heap.size, o, none⟩ = false := fun o => by simp [World.frozen?, hZ2]
              have f0 := fq 0
              have f1 := fq 1
              have f2 := fq 2
              have hE := blk3 hZ2 (.string ⟨#[]⟩) (.slice none 0 0) (.slice none 0 0)
              have hr' := hr.but (but_set3 _ w.heap.size (.string ⟨#[]⟩) (.slice none 0 0) (.slice none 0 0)) (fun k e => by omega)
              have hbs := hbw.set3 (Nat.le_refl _) (.string ⟨#[]⟩) (.slice none 0 0) (.slice none 0 0)
              have e0 := (blk_cell hE 0).trans (show _ = some (.string ⟨#[]⟩) from rfl)
              have e1 := (blk_cell hE 1).trans (show _ = some (.slice none 0 0) from rfl)
              have e2 := (blk_cell hE 2).trans (show _ = some (.slice none 0 0) from rfl)
              have hneR : w.heap.size ≠ R := by omega
              have hneR' : R ≠ w.heap.size := by omega
              replace e0 := Lib.hid e0
              replace e1 := Lib.hid e1
              replace e2 := Lib.hid e2
              replace hr' := Lib.hid hr'
              replace hbs := Lib.hid hbs
              replace hd := Lib.hid hd
              clear hE hZ hZ2 hbw hr fq
              go_wp2_with fail
              have e0 := e0.out
              have e1 := e1.out
              have e2 := e2.out
              refine bodyPost_ret (v := .agg #[.string ⟨#[]⟩, .slice none 0 0, .slice none 0 0]) (by simp [results, Tryd.results54, go_sem, e0, e1, e2]) rfl ?_
              exact ⟨⟨#[]⟩, none, none, 0, 0, [], [], none, rfl, hr'.out, hbs.out, hbad.out, smSmall_zero, ⟨OwnL.nil, OwnL.nil⟩⟩
          | some lx =>
            unfold Option.isNone at q2
            by_cases hk : k = 0
            · subst hk
              obtain rfl : jj = M := hjk.out
              clear hlf
              have hgv := stream_givesR g1.out g2.out g3.out g4.out (hmo.out.end (.inl rfl))
              have hsm := small_gives hl0.out (eats_count _) (eats_count _) g1.out g2.out g3.out g4.out (hmo.out.end (.inl rfl))
              have hck := refSmEnc_any (strOf s) es ks Ae Ak ce ck wo hd.out.own.ins hsm (hT.out.rd h.out ((But.of_g (S := fun k => k = R) hg0.out).trans hd.out.but))
              have q0 := hd.out.c0
              have q1 := hd.out.c1
              have q3 := hd.out.c2
              cases hok : smOk ⟨strOf s, es, ks⟩ with
              | false =>
                have hbad := hgv.1 (.inr hok)
                rw [smL_no hok] at hck
                have t1 : ((([] : List UInt8).length : Int) == 0) = true := rfl
                replace hok := Lib.hid hok
                replace hbad := Lib.hid hbad
                clear hgv hmo hsm
                go_wp2_with fail
                refine hck.mono ?_
                clear hck
                rintro e w5 ⟨Ax, cx, rfl, _, hg5, _⟩
                replace hd := Lib.hid (hd.out.g hg5)
                have hbad := hbad.out
                clear q0 q1 q2 q3 hg5
                replace hbad := Lib.hid hbad
                have hZ := hd.out.but.blk hZ0.out (by omega)
                have r2 := hd.out.rd.c2
                have rf := hd.out.rd.free 2
                have hr := hd.out.rd.fail
                have hbw := ((But.of_g (S := fun k => k = R) hg0.out).trans hd.out.but).set (p := ⟨R, 2, none⟩) (.inr rfl) (.bool true)
                have hZ2 := (but_set w5 R 2 (.bool true)).blk hZ (by omega)
                have q0 := (blk_cell hZ2 0).trans (show _ = some (.string ByteArray.empty) from rfl)
                have q1 := (blk_cell hZ2 1).trans (show _ = some (.slice none 0 0) from rfl)
                have q3 := (blk_cell hZ2 2).trans (show _ = some (.slice none 0 0) from rfl)
                have fq : ∀ o, (w5.setCell ⟨R, 2, none⟩ (.bool true)).frozen? ⟨w.heap.size, o, none⟩ = false := fun o => by simp [World.frozen?, hZ2]
                have f0 := fq 0
                have f1 := fq 1
                have f2 := fq 2
                have hE := blk3 hZ2 (.string ⟨#[]⟩) (.slice none 0 0) (.slice none 0 0)
                have hr' := hr.but (but_set3 _ w.heap.size (.string ⟨#[]⟩) (.slice none 0 0) (.slice none 0 0)) (fun k e => by omega)
                have hbs := hbw.set3 (Nat.le_refl _) (.string ⟨#[]⟩) (.slice none 0 0) (.slice none 0 0)
                have e0 := (blk_cell hE 0).trans (show _ = some (.string ⟨#[]⟩) from rfl)
                have e1 := (blk_cell hE 1).trans (show _ = some (.slice none 0 0) from rfl)
                have e2 := (blk_cell hE 2).trans (show _ = some (.slice none 0 0) from rfl)
                have hneR : w.heap.size ≠ R := by omega
                have hneR' : R ≠ w.heap.size := by omega
                replace e0 := Lib.hid e0
                replace e1 := Lib.hid e1
                replace e2 := Lib.hid e2
                replace hr' := Lib.hid hr'
                replace hbs := Lib.hid hbs
                replace hd := Lib.hid hd
                clear hE hZ hZ2 hbw hr fq
                go_wp2_with fail
                have e0 := e0.out
                have e1 := e1.out
                have e2 := e2.out
                refine bodyPost_ret (v := .agg #[.string ⟨#[]⟩, .slice none 0 0, .slice none 0 0]) (by simp [results, Tryd.results54, go_sem, e0, e1, e2]) rfl ?_
                exact ⟨⟨#[]⟩, none, none, 0, 0, [], [], none, rfl, hr'.out, hbs.out, hbad.out, smSmall_zero, ⟨OwnL.nil, OwnL.nil⟩⟩
              | true =>
                have hne : smL ⟨strOf s, es, ks⟩ ≠ [] := by
                  rw [smL_ok hok]
                  intro h
                  have := smBytes_pos ⟨strOf s, es, ks⟩
                  rw [h] at this
                  simp at this
                have t1 : (((smL ⟨strOf s, es, ks⟩).length : Int) == 0) = false := by
                  rw [beq_eq_false_iff_ne]
                  have := List.length_pos_iff.2 hne
                  omega
                generalize smL ⟨strOf s, es, ks⟩ = sl at *
                replace hgv := hgv.2 hok
                replace hne := Lib.hid hne
                replace hok := Lib.hid hok
                replace hgv := Lib.hid hgv
                replace hsm := Lib.hid hsm
                clear hmo
                go_wp2_with fail
                refine hck.mono ?_
                clear hck
                rintro e w5 ⟨Ax, cx, rfl, _, hg5, _⟩
                replace hd := hd.out.g hg5
                clear q0 q1 q2 q3
                have hZ := hd.but.blk hZ0.out (by omega)
                have q0 := hd.c0
                have q1 := hd.c1
                have q3 := hd.c2
                have z0 := (blk_cell hZ 0).trans (show _ = some (.string ByteArray.empty) from rfl)
                have z1 := (blk_cell hZ 1).trans (show _ = some (.slice none 0 0) from rfl)
                have z2 := (blk_cell hZ 2).trans (show _ = some (.slice none 0 0) from rfl)
                have fq : ∀ o, w5.frozen? ⟨w.heap.size, o, none⟩ = false := fun o => by simp [World.frozen?, hZ]
                have f0 := fq 0
                have f1 := fq 1
                have f2 := fq 2
                have hE := blk3 hZ (.string (strOf s)) (.slice Ae es.length ce) (.slice Ak ks.length ck)
                have e0 := (blk_cell hE 0).trans (show _ = some (.string (strOf s)) from rfl)
                have e1 := (blk_cell hE 1).trans (show _ = some (.slice Ae es.length ce) from rfl)
                have e2 := (blk_cell hE 2).trans (show _ = some (.slice Ak ks.length ck) from rfl)
                have hps := (hd.own.z hZ (.string (strOf s)) (.slice Ae es.length ce) (.slice Ak ks.length ck)).mono hg0.out.size
                have hr' := hd.rd.but (but_set3 _ w.heap.size (.string (strOf s)) (.slice Ae es.length ce) (.slice Ak ks.length ck)) (fun k e => by omega)
                have hbs := ((But.of_g (S := fun k => k = R) hg0.out).trans hd.but).set3 (Nat.le_refl _) (.string (strOf s)) (.slice Ae es.length ce) (.slice Ak ks.length ck)
                replace e0 := Lib.hid e0
                replace e1 := Lib.hid e1
                replace e2 := Lib.hid e2
                replace hps := Lib.hid hps
                replace hr' := Lib.hid hr'
                replace hbs := Lib.hid hbs
                clear hE hg5 hZ hd fq
                go_wp2_with fail
                have e0 := e0.out
                have e1 := e1.out
                have e2 := e2.out
                refine bodyPost_ret (v := .agg #[.string (strOf s), .slice Ae es.length ce, .slice Ak ks.length ck]) (by simp [results, Tryd.results54, go_sem, e0, e1, e2]) rfl ?_
                exact ⟨strOf s, Ae, Ak, ce, ck, es, ks, _, rfl, hr'.out, hbs.out, hgv.out, hsm.out, hps.out⟩
            · obtain ⟨j, rfl⟩ : ∃ j, k = j + 1 := ⟨k - 1, by omega⟩
              have hc := eyeText_any R A c8 l (some lx) wo hd.out.rd hl2 hcap
              obtain ⟨sk, st5, h5⟩ : ∃ v t, gv [] dText (some lx) = (v, t) := ⟨_, _, rfl⟩
              rw [h5] at hc
              have g5 := gv_gives h5
              have hj1 : (jj : Int) < (M : Int) := by have := hjk.out; omega
              replace g5 := Lib.hid g5
              clear h5 hk
              go_wp2_with fail
              refine hc.mono ?_
              clear hc
              rintro e wa ⟨rfl, hr5, hb5⟩
              replace hd := Lib.hid (hd.out.call hr5 hb5)
              have hi := KnSt.begin (s := strOf sk) hr5
              have hc := eyeNum_any R A c8 l st5 _ hi.rd hl2 hcap 1099511627776 1099511627776 rfl (by omega)
              obtain ⟨v, st6, h6⟩ : ∃ v t, gv 0 (dCount 1099511627776) st5 = (v, t) := ⟨_, _, rfl⟩
              rw [h6] at hc
              have g6 := gv_gives h6
              replace g6 := Lib.hid g6
              replace hi := Lib.hid hi
              clear h6 hr5 hb5 q2
              go_wp2_with fail
              refine hc.mono ?_
              clear hc
              rintro e w6 ⟨rfl, hr6, hb6⟩
              replace hi := hi.out.call hr6 hb6
              have x1 := (hi.cell 1).trans (show _ = some (.int .i64 0) from rfl)
              have x1f := hi.free 1
              replace hi := (hi.put 1 (.int .i64 v)).as (show _ = #[.string (strOf sk), .int .i64 v, .int .i64 0, .int .i64 0, .int .i64 0] from rfl)
              have hc := eyeStamp_any R A c8 l st6 _ hi.rd hl2 hcap
              replace hi := Lib.hid hi
              clear hr6 hb6
              go_wp2_with fail
              refine hc.mono ?_
              clear hc
              rintro e w7 ⟨⟨ta, tb, tc⟩, st7, he7, hr7, hb7, g7⟩
              simp only [stVal, stV] at he7
              subst he7
              replace hi := hi.out.call hr7 hb7
              have y2 := (hi.cell 2).trans (show _ = some (.int .i64 0) from rfl)
              have y3 := (hi.cell 3).trans (show _ = some (.int .i64 0) from rfl)
              have y4 := (hi.cell 4).trans (show _ = some (.int .i64 0) from rfl)
              have y2f := hi.free 2
              have y3f := hi.free 3
              have y4f := hi.free 4
              replace hi := (((hi.put 2 (.int .i64 ta)).put 3 (.int .i64 tb)).put 4 (.int .i64 tc)).as (show _ = #[.string (strOf sk), .int .i64 v, .int .i64 ta, .int .i64 tb, .int .i64 tc] from rfl)
              have z0 := (hi.cell 0).trans (show _ = some (.string (strOf sk)) from rfl)
              have z1 := (hi.cell 1).trans (show _ = some (.int .i64 v) from rfl)
              have z2 := (hi.cell 2).trans (show _ = some (.int .i64 ta) from rfl)
              have z3 := (hi.cell 3).trans (show _ = some (.int .i64 tb) from rfl)
              have z4 := (hi.cell 4).trans (show _ = some (.int .i64 tc) from rfl)
              have hgk := known_gives g5.out g6.out g7
              have hlf2 := Left.step hlf.out hl eats_known hgk
              have hmo2 := hmo.out.step hgk
              have hb := hi.but
              have hws := hd.out.but.size
              replace hd := hd.out.call hi.rd hb
              have c2 := hd.c2
              obtain ⟨y, hy⟩ : ∃ y : Kn, y = ⟨strOf sk, v, ⟨ta, tb, tc⟩⟩ := ⟨_, rfl⟩
              obtain ⟨ks', hks⟩ : ∃ ks', ks ++ [y] = ks' := ⟨_, rfl⟩
              rw [← hy, hks] at hmo2
              have hkl : ks'.length = ks.length + 1 := by rw [← hks]; simp
              have hkb := hlf.out.1
              rw [← hkl] at hlf2
              replace hd := Lib.hid hd
              replace hmo2 := Lib.hid hmo2
              replace hlf2 := Lib.hid hlf2
              replace hkl := Lib.hid hkl
              replace hks := Lib.hid hks
              replace hy := Lib.hid hy
              clear hgk hmo hlf hb hr7 hb7 hi g7
              go_upto_region 14 with fail
              generalize ((w7.setCell ⟨wa.heap.size, 2, none⟩ (.int .i64 ta)).setCell ⟨wa.heap.size, 3, none⟩ (.int .i64 tb)).setCell ⟨wa.heap.size, 4, none⟩ (.int .i64 tc) = wz at *
              clear y2 y3 y4 y2f y3f y4f x1 x1f
              go_wp2_with (at_builtin; refine wpList_append_but kns_elem _ rfl (.tmp 57) (.tmp 59) rfl W0.heap.size _ ks rfl (hd.out.own.kns.g (G.new _ _)) (wz.heap.size + 1) (some ⟨wz.heap.size, 0, none⟩) 1 [y] rfl (by intro h; cases h) (Sl.of_blk Kn.cells_len _ (blk_new _ _ _) (by rw [hy.out]; rfl) (by omega)) (by simp; omega) (by simp; omega) (by have := hd.out.but.size; simp; omega) ?_; intro v8 w8 hown8 hk8 hb8; rw [hks.out] at hown8; obtain ⟨A8, c8', e8, _, _, _⟩ := OwnL.sl Kn.cells_len hown8; subst e8; obtain ⟨zf, ⟨u, zc⟩, hd8⟩ := (hd.out.g (G.new _ _)).pushK hown8 hk8 hb8; replace hd8 := Lib.hid hd8)
              go_roundw
              case rel => exact ⟨jj + 1, j, A8, c8', ks', st7, by go_num, Lib.hid (by have := hjk.out; omega), hlf2, hd8, hmo2⟩
              case measure => (simp [intOf] <;> omega)
      · have hk' : (jj : Int) < (N : Int) := by have := hjk.out; omega
        have g3 := hmo.out.end (.inr rfl)
        replace g3 := Lib.hid g3
        clear hmo hlf
        have hc := eyeNum_any R A c8 l none wo hd.out.rd hl2 hcap 1073741824 1073741824 rfl (by omega)
        obtain ⟨M, st4, h4⟩ : ∃ v t, gv 0 (dCount 1073741824) (none) = (v, t) := ⟨_, _, rfl⟩
        rw [h4] at hc
        have g4 := gv_gives h4
        have hM : M ≤ 1073741824 := gv_bound (P := (· ≤ 1073741824)) h4 (by decide) (fun _ _ _ h => (dCount_num h).2)
        replace g4 := Lib.hid g4
        clear h4
        go_wp2_with fail
        refine hc.mono ?_
        clear hc
        rintro e wb ⟨rfl, hr4, hb4⟩
        replace hd := hd.out.call hr4 hb4
        have hlf : Left l 0 st4 := Left.start (fun l' e => by subst e; exact RdS.len hd.rd)
        replace hd := Lib.hid hd
        replace hlf := Lib.hid hlf
        clear hr4 hb4 q2
        go_wp2_with fail
        go_loopw [7] (fun i wr => ∃ (jj k : Nat) (Ak : Option Addr) (ck : Nat) (ks : List Kn) (st : Option (List UInt8)), i = .int .i64 jj ∧ Hid (jj + k = M) ∧ Hid (Left l ks.length st) ∧ Hid (SmSt 81 R w1.heap.size R A c8 l W0 (strOf s) Ae ce es Ak ck ks st wr) ∧ Hid (More dKnown M k st4 st ks)) (fun i _ => M - (intOf i).toNat)
        case atStart => exact ⟨0, M, none, 0, [], st4, rfl, Lib.hid (by omega), hlf, hd, More.start _ _ _⟩
        case round =>
          obtain ⟨wo, rfl⟩ : ∃ wo : World, wo = wr := ⟨_, rfl⟩
          clear hd hlf
          obtain ⟨jj, k, Ak, ck, ks, st, rfl, hjk, hlf, hd, hmo⟩ := hrel
          have q2 := hd.out.rd.c2
          cases st with
          | none =>
            unfold Option.isNone at q2
            have hbad := (stream_givesR g1.out g2.out g3.out g4.out (hmo.out.end (.inr rfl))).1 (.inl rfl)
            clear hmo hlf
            by_cases hk : k = 0
            · subst hk
              obtain rfl : jj = M := hjk.out
              replace hbad := Lib.hid hbad
              have hZ := hd.out.but.blk hZ0.out (by omega)
              have r2 := hd.out.rd.c2
              have rf := hd.out.rd.free 2
              have hr := hd.out.rd.fail
              have hbw := ((But.of_g (S := fun k => k = R) hg0.out).trans hd.out.but).set (p := ⟨R, 2, none⟩) (.inr rfl) (.bool true)
              have hZ2 := (but_set wo R 2 (.bool true)).blk hZ (by omega)
              have q0 := (blk_cell hZ2 0).trans (show _ = some (.string ByteArray.empty) from rfl)
              have q1 := (blk_cell hZ2 1).trans (show _ = some (.slice none 0 0) from rfl)
              have q3 := (blk_cell hZ2 2).trans (show _ = some (.slice none 0 0) from rfl)
              have fq : ∀ o, (wo.setCell ⟨R, 2, none⟩ (.bool true)).frozen? ⟨w.heap.size, o, none⟩ = false := fun o => by simp [World.frozen?, hZ2]
              have f0 := fq 0
              have f1 := fq 1
              have f2 := fq 2
              have hE := blk3 hZ2 (.string ⟨#[]⟩) (.slice none 0 0) (.slice none 0 0)
              have hr' := hr.but (but_set3 _ w.heap.size (.string ⟨#[]⟩) (.slice none 0 0) (.slice none 0 0)) (fun k e => by omega)
              have hbs := hbw.set3 (Nat.le_refl _) (.string ⟨#[]⟩) (.slice none 0 0) (.slice none 0 0)
              have e0 := (blk_cell hE 0).trans (show _ = some (.string ⟨#[]⟩) from rfl)
              have e1 := (blk_cell hE 1).trans (show _ = some (.slice none 0 0) from rfl)
              have e2 := (blk_cell hE 2).trans (show _ = some (.slice none 0 0) from rfl)
              have hneR : w.heap.size ≠ R := by omega
              have hneR' : R ≠ w.heap.size := by omega
              replace e0 := Lib.hid e0
              replace e1 := Lib.hid e1
              replace e2 := Lib.hid e2
              replace hr' := Lib.hid hr'
              replace hbs := Lib.hid hbs
              replace hd := Lib.hid hd
              clear hE hZ hZ2 hbw hr fq
              go_wp2_with fail
              have e0 := e0.out
              have e1 := e1.out
              have e2 := e2.out
              refine bodyPost_ret (v := .agg #[.string ⟨#[]⟩, .slice none 0 0, .slice none 0 0]) (by simp [results, Tryd.results54, go_sem, e0, e1, e2]) rfl ?_
              exact ⟨⟨#[]⟩, none, none, 0, 0, [], [], none, rfl, hr'.out, hbs.out, hbad.out, smSmall_zero, ⟨OwnL.nil, OwnL.nil⟩⟩
            · have hk' : (jj : Int) < (M : Int) := by have := hjk.out; omega
              replace hbad := Lib.hid hbad
              have hZ := hd.out.but.blk hZ0.out (by omega)
              have r2 := hd.out.rd.c2
              have rf := hd.out.rd.free 2
              have hr := hd.out.rd.fail
              have hbw := ((But.of_g (S := fun k => k = R) hg0.out).trans hd.out.but).set (p := ⟨R, 2, none⟩) (.inr rfl) (.bool true)
              have hZ2 := (but_set wo R 2 (.bool true)).blk hZ (by omega)
              have q0 := (blk_cell hZ2 0).trans (show _ = some (.string ByteArray.empty) from rfl)
              have q1 := (blk_cell hZ2 1).trans (show _ = some (.slice none 0 0) from rfl)
              have q3 := (blk_cell hZ2 2).trans (show _ = some (.slice none 0 0) from rfl)
              have fq : ∀ o, (wo.setCell ⟨R, 2, none⟩ (.bool true)).frozen? ⟨w.heap.size, o, none⟩ = false := fun o => by simp [World.frozen?, hZ2]
              have f0 := fq 0
              have f1 := fq 1
              have f2 := fq 2
              have hE := blk3 hZ2 (.string ⟨#[]⟩) (.slice none 0 0) (.slice none 0 0)
              have hr' := hr.but (but_set3 _ w.heap.size (.string ⟨#[]⟩) (.slice none 0 0) (.slice none 0 0)) (fun k e => by omega)
              have hbs := hbw.set3 (Nat.le_refl _) (.string ⟨#[]⟩) (.slice none 0 0) (.slice none 0 0)
              have e0 := (blk_cell hE 0).trans (show _ = some (.string ⟨#[]⟩) from rfl)
              have e1 := (blk_cell hE 1).trans (show _ = some (.slice none 0 0) from rfl)
              have e2 := (blk_cell hE 2).trans (show _ = some (.slice none 0 0) from rfl)
              have hneR : w.heap.size ≠ R := by omega
              have hneR' : R ≠ w.heap.size := by omega
              replace e0 := Lib.hid e0
              replace e1 := Lib.hid e1
              replace e2 := Lib.hid e2
              replace hr' := Lib.hid hr'
              replace hbs := Lib.hid hbs
              replace hd := Lib.hid hd
              clear hE hZ hZ2 hbw hr fq
              go_wp2_with fail
              have e0 := e0.out
              have e1 := e1.out
              have e2 := e2.out
              refine bodyPost_ret (v := .agg #[.string ⟨#[]⟩, .slice none 0 0, .slice none 0 0]) (by simp [results, Tryd.results54, go_sem, e0, e1, e2]) rfl ?_
              exact ⟨⟨#[]⟩, none, none, 0, 0, [], [], none, rfl, hr'.out, hbs.out, hbad.out, smSmall_zero, ⟨OwnL.nil, OwnL.nil⟩⟩
          | some lx =>
            unfold Option.isNone at q2
            by_cases hk : k = 0
            · subst hk
              obtain rfl : jj = M := hjk.out
              clear hlf
              have hgv := stream_givesR g1.out g2.out g3.out g4.out (hmo.out.end (.inl rfl))
              have hsm := small_gives hl0.out (eats_count _) (eats_count _) g1.out g2.out g3.out g4.out (hmo.out.end (.inl rfl))
              have hck := refSmEnc_any (strOf s) es ks Ae Ak ce ck wo hd.out.own.ins hsm (hT.out.rd h.out ((But.of_g (S := fun k => k = R) hg0.out).trans hd.out.but))
              have q0 := hd.out.c0
              have q1 := hd.out.c1
              have q3 := hd.out.c2
              cases hok : smOk ⟨strOf s, es, ks⟩ with
              | false =>
                have hbad := hgv.1 (.inr hok)
                rw [smL_no hok] at hck
                have t1 : ((([] : List UInt8).length : Int) == 0) = true := rfl
                replace hok := Lib.hid hok
                replace hbad := Lib.hid hbad
                clear hgv hmo hsm
                go_wp2_with fail
                refine hck.mono ?_
                clear hck
                rintro e w5 ⟨Ax, cx, rfl, _, hg5, _⟩
                replace hd := Lib.hid (hd.out.g hg5)
                have hbad := hbad.out
                clear q0 q1 q2 q3 hg5
                replace hbad := Lib.hid hbad
                have hZ := hd.out.but.blk hZ0.out (by omega)
                have r2 := hd.out.rd.c2
                have rf := hd.out.rd.free 2
                have hr := hd.out.rd.fail
                have hbw := ((But.of_g (S := fun k => k = R) hg0.out).trans hd.out.but).set (p := ⟨R, 2, none⟩) (.inr rfl) (.bool true)
                have hZ2 := (but_set w5 R 2 (.bool true)).blk hZ (by omega)
                have q0 := (blk_cell hZ2 0).trans (show _ = some (.string ByteArray.empty) from rfl)
                have q1 := (blk_cell hZ2 1).trans (show _ = some (.slice none 0 0) from rfl)
                have q3 := (blk_cell hZ2 2).trans (show _ = some (.slice none 0 0) from rfl)
                have fq : ∀ o, (w5.setCell ⟨R, 2, none⟩ (.bool true)).frozen? ⟨w.heap.size, o, none⟩ = false := fun o => by simp [World.frozen?, hZ2]
                have f0 := fq 0
                have f1 := fq 1
                have f2 := fq 2
                have hE := blk3 hZ2 (.string ⟨#[]⟩) (.slice none 0 0) (.slice none 0 0)
                have hr' := hr.but (but_set3 _ w.heap.size (.string ⟨#[]⟩) (.slice none 0 0) (.slice none 0 0)) (fun k e => by omega)
                have hbs := hbw.set3 (Nat.le_refl _) (.string ⟨#[]⟩) (.slice none 0 0) (.slice none 0 0)
                have e0 := (blk_cell hE 0).trans (show _ = some (.string ⟨#[]⟩) from rfl)
                have e1 := (blk_cell hE 1).trans (show _ = some (.slice none 0 0) from rfl)
                have e2 := (blk_cell hE 2).trans (show _ = some (.slice none 0 0) from rfl)
                have hneR : w.heap.size ≠ R := by omega
                have hneR' : R ≠ w.heap.size := by omega
                replace e0 := Lib.hid e0
                replace e1 := Lib.hid e1
                replace e2 := Lib.hid e2
                replace hr' := Lib.hid hr'
                replace hbs := Lib.hid hbs
                replace hd := Lib.hid hd
                clear hE hZ hZ2 hbw hr fq
                go_wp2_with fail
                have e0 := e0.out
                have e1 := e1.out
                have e2 := e2.out
                refine bodyPost_ret (v := .agg #[.string ⟨#[]⟩, .slice none 0 0, .slice none 0 0]) (by simp [results, Tryd.results54, go_sem, e0, e1, e2]) rfl ?_
                exact ⟨⟨#[]⟩, none, none, 0, 0, [], [], none, rfl, hr'.out, hbs.out, hbad.out, smSmall_zero, ⟨OwnL.nil, OwnL.nil⟩⟩
              | true =>
                have hne : smL ⟨strOf s, es, ks⟩ ≠ [] := by
                  rw [smL_ok hok]
                  intro h
                  have := smBytes_pos ⟨strOf s, es, ks⟩
                  rw [h] at this
                  simp at this
                have t1 : (((smL ⟨strOf s, es, ks⟩).length : Int) == 0) = false := by
                  rw [beq_eq_false_iff_ne]
                  have := List.length_pos_iff.2 hne
                  omega
                generalize smL ⟨strOf s, es, ks⟩ = sl at *
                replace hgv := hgv.2 hok
                replace hne := Lib.hid hne
                replace hok := Lib.hid hok
                replace hgv := Lib.hid hgv
                replace hsm := Lib.hid hsm
                clear hmo
                go_wp2_with fail
                refine hck.mono ?_
                clear hck
                rintro e w5 ⟨Ax, cx, rfl, _, hg5, _⟩
                replace hd := hd.out.g hg5
                clear q0 q1 q2 q3
                have hZ := hd.but.blk hZ0.out (by omega)
                have q0 := hd.c0
                have q1 := hd.c1
                have q3 := hd.c2
                have z0 := (blk_cell hZ 0).trans (show _ = some (.string ByteArray.empty) from rfl)
                have z1 := (blk_cell hZ 1).trans (show _ = some (.slice none 0 0) from rfl)
                have z2 := (blk_cell hZ 2).trans (show _ = some (.slice none 0 0) from rfl)
                have fq : ∀ o, w5.frozen? ⟨w.heap.size, o, none⟩ = false := fun o => by simp [World.frozen?, hZ]
                have f0 := fq 0
                have f1 := fq 1
                have f2 := fq 2
                have hE := blk3 hZ (.string (strOf s)) (.slice Ae es.length ce) (.slice Ak ks.length ck)
                have e0 := (blk_cell hE 0).trans (show _ = some (.string (strOf s)) from rfl)
                have e1 := (blk_cell hE 1).trans (show _ = some (.slice Ae es.length ce) from rfl)
                have e2 := (blk_cell hE 2).trans (show _ = some (.slice Ak ks.length ck) from rfl)
                have hps := (hd.own.z hZ (.string (strOf s)) (.slice Ae es.length ce) (.slice Ak ks.length ck)).mono hg0.out.size
                have hr' := hd.rd.but (but_set3 _ w.heap.size (.string (strOf s)) (.slice Ae es.length ce) (.slice Ak ks.length ck)) (fun k e => by omega)
                have hbs := ((But.of_g (S := fun k => k = R) hg0.out).trans hd.but).set3 (Nat.le_refl _) (.string (strOf s)) (.slice Ae es.length ce) (.slice Ak ks.length ck)
                replace e0 := Lib.hid e0
                replace e1 := Lib.hid e1
                replace e2 := Lib.hid e2
                replace hps := Lib.hid hps
                replace hr' := Lib.hid hr'
                replace hbs := Lib.hid hbs
                clear hE hg5 hZ hd fq
                go_wp2_with fail
                have e0 := e0.out
                have e1 := e1.out
                have e2 := e2.out
                refine bodyPost_ret (v := .agg #[.string (strOf s), .slice Ae es.length ce, .slice Ak ks.length ck]) (by simp [results, Tryd.results54, go_sem, e0, e1, e2]) rfl ?_
                exact ⟨strOf s, Ae, Ak, ce, ck, es, ks, _, rfl, hr'.out, hbs.out, hgv.out, hsm.out, hps.out⟩
            · obtain ⟨j, rfl⟩ : ∃ j, k = j + 1 := ⟨k - 1, by omega⟩
              have hc := eyeText_any R A c8 l (some lx) wo hd.out.rd hl2 hcap
              obtain ⟨sk, st5, h5⟩ : ∃ v t, gv [] dText (some lx) = (v, t) := ⟨_, _, rfl⟩
              rw [h5] at hc
              have g5 := gv_gives h5
              have hj1 : (jj : Int) < (M : Int) := by have := hjk.out; omega
              replace g5 := Lib.hid g5
              clear h5 hk
              go_wp2_with fail
              refine hc.mono ?_
              clear hc
              rintro e wa ⟨rfl, hr5, hb5⟩
              replace hd := Lib.hid (hd.out.call hr5 hb5)
              have hi := KnSt.begin (s := strOf sk) hr5
              have hc := eyeNum_any R A c8 l st5 _ hi.rd hl2 hcap 1099511627776 1099511627776 rfl (by omega)
              obtain ⟨v, st6, h6⟩ : ∃ v t, gv 0 (dCount 1099511627776) st5 = (v, t) := ⟨_, _, rfl⟩
              rw [h6] at hc
              have g6 := gv_gives h6
              replace g6 := Lib.hid g6
              replace hi := Lib.hid hi
              clear h6 hr5 hb5 q2
              go_wp2_with fail
              refine hc.mono ?_
              clear hc
              rintro e w6 ⟨rfl, hr6, hb6⟩
              replace hi := hi.out.call hr6 hb6
              have x1 := (hi.cell 1).trans (show _ = some (.int .i64 0) from rfl)
              have x1f := hi.free 1
              replace hi := (hi.put 1 (.int .i64 v)).as (show _ = #[.string (strOf sk), .int .i64 v, .int .i64 0, .int .i64 0, .int .i64 0] from rfl)
              have hc := eyeStamp_any R A c8 l st6 _ hi.rd hl2 hcap
              replace hi := Lib.hid hi
              clear hr6 hb6
              go_wp2_with fail
              refine hc.mono ?_
              clear hc
              rintro e w7 ⟨⟨ta, tb, tc⟩, st7, he7, hr7, hb7, g7⟩
              simp only [stVal, stV] at he7
              subst he7
              replace hi := hi.out.call hr7 hb7
              have y2 := (hi.cell 2).trans (show _ = some (.int .i64 0) from rfl)
              have y3 := (hi.cell 3).trans (show _ = some (.int .i64 0) from rfl)
              have y4 := (hi.cell 4).trans (show _ = some (.int .i64 0) from rfl)
              have y2f := hi.free 2
              have y3f := hi.free 3
              have y4f := hi.free 4
              replace hi := (((hi.put 2 (.int .i64 ta)).put 3 (.int .i64 tb)).put 4 (.int .i64 tc)).as (show _ = #[.string (strOf sk), .int .i64 v, .int .i64 ta, .int .i64 tb, .int .i64 tc] from rfl)
              have z0 := (hi.cell 0).trans (show _ = some (.string (strOf sk)) from rfl)
              have z1 := (hi.cell 1).trans (show _ = some (.int .i64 v) from rfl)
              have z2 := (hi.cell 2).trans (show _ = some (.int .i64 ta) from rfl)
              have z3 := (hi.cell 3).trans (show _ = some (.int .i64 tb) from rfl)
              have z4 := (hi.cell 4).trans (show _ = some (.int .i64 tc) from rfl)
              have hgk := known_gives g5.out g6.out g7
              have hlf2 := Left.step hlf.out hl eats_known hgk
              have hmo2 := hmo.out.step hgk
              have hb := hi.but
              have hws := hd.out.but.size
              replace hd := hd.out.call hi.rd hb
              have c2 := hd.c2
              obtain ⟨y, hy⟩ : ∃ y : Kn, y = ⟨strOf sk, v, ⟨ta, tb, tc⟩⟩ := ⟨_, rfl⟩
              obtain ⟨ks', hks⟩ : ∃ ks', ks ++ [y] = ks' := ⟨_, rfl⟩
              rw [← hy, hks] at hmo2
              have hkl : ks'.length = ks.length + 1 := by rw [← hks]; simp
              have hkb := hlf.out.1
              rw [← hkl] at hlf2
              replace hd := Lib.hid hd
              replace hmo2 := Lib.hid hmo2
              replace hlf2 := Lib.hid hlf2
              replace hkl := Lib.hid hkl
              replace hks := Lib.hid hks
              replace hy := Lib.hid hy
              clear hgk hmo hlf hb hr7 hb7 hi g7
              go_upto_region 14 with fail
              generalize ((w7.setCell ⟨wa.heap.size, 2, none⟩ (.int .i64 ta)).setCell ⟨wa.heap.size, 3, none⟩ (.int .i64 tb)).setCell ⟨wa.heap.size, 4, none⟩ (.int .i64 tc) = wz at *
              clear y2 y3 y4 y2f y3f y4f x1 x1f
              go_wp2_with (at_builtin; refine wpList_append_but kns_elem _ rfl (.tmp 57) (.tmp 59) rfl W0.heap.size _ ks rfl (hd.out.own.kns.g (G.new _ _)) (wz.heap.size + 1) (some ⟨wz.heap.size, 0, none⟩) 1 [y] rfl (by intro h; cases h) (Sl.of_blk Kn.cells_len _ (blk_new _ _ _) (by rw [hy.out]; rfl) (by omega)) (by simp; omega) (by simp; omega) (by have := hd.out.but.size; simp; omega) ?_; intro v8 w8 hown8 hk8 hb8; rw [hks.out] at hown8; obtain ⟨A8, c8', e8, _, _, _⟩ := OwnL.sl Kn.cells_len hown8; subst e8; obtain ⟨zf, ⟨u, zc⟩, hd8⟩ := (hd.out.g (G.new _ _)).pushK hown8 hk8 hb8; replace hd8 := Lib.hid hd8)
              go_roundw
              case rel => exact ⟨jj + 1, j, A8, c8', ks', st7, by go_num, Lib.hid (by have := hjk.out; omega), hlf2, hd8, hmo2⟩
              case measure => (simp [intOf] <;> omega)
    | some lx =>
      unfold Option.isNone at q2
      by_cases hk : k = 0
      · subst hk
        obtain rfl : jj = N := hjk.out
        clear hjk
        have g3 := hmo.out.end (.inl rfl)
        replace g3 := Lib.hid g3
        clear hmo hlf
        have hc := eyeNum_any R A c8 l (some lx) wo hd.out.rd hl2 hcap 1073741824 1073741824 rfl (by omega)
        obtain ⟨M, st4, h4⟩ : ∃ v t, gv 0 (dCount 1073741824) ((some lx)) = (v, t) := ⟨_, _, rfl⟩
        rw [h4] at hc
        have g4 := gv_gives h4
        have hM : M ≤ 1073741824 := gv_bound (P := (· ≤ 1073741824)) h4 (by decide) (fun _ _ _ h => (dCount_num h).2)
        replace g4 := Lib.hid g4
        clear h4
        go_wp2_with fail
        refine hc.mono ?_
        clear hc
        rintro e wb ⟨rfl, hr4, hb4⟩
        replace hd := hd.out.call hr4 hb4
        have hlf : Left l 0 st4 := Left.start (fun l' e => by subst e; exact RdS.len hd.rd)
        replace hd := Lib.hid hd
        replace hlf := Lib.hid hlf
        clear hr4 hb4 q2
        go_wp2_with fail
        go_loopw [7] (fun i wr => ∃ (jj k : Nat) (Ak : Option Addr) (ck : Nat) (ks : List Kn) (st : Option (List UInt8)), i = .int .i64 jj ∧ Hid (jj + k = M) ∧ Hid (Left l ks.length st) ∧ Hid (SmSt 81 R w1.heap.size R A c8 l W0 (strOf s) Ae ce es Ak ck ks st wr) ∧ Hid (More dKnown M k st4 st ks)) (fun i _ => M - (intOf i).toNat)
        case atStart => exact ⟨0, M, none, 0, [], st4, rfl, Lib.hid (by omega), hlf, hd, More.start _ _ _⟩
        case round =>
          obtain ⟨wo, rfl⟩ : ∃ wo : World, wo = wr := ⟨_, rfl⟩
          clear hd hlf
          obtain ⟨jj, k, Ak, ck, ks, st, rfl, hjk, hlf, hd, hmo⟩ := hrel
          have q2 := hd.out.rd.c2
          cases st with
          | none =>
            unfold Option.isNone at q2
            have hbad := (stream_givesR g1.out g2.out g3.out g4.out (hmo.out.end (.inr rfl))).1 (.inl rfl)
            clear hmo hlf
            by_cases hk : k = 0
            · subst hk
              obtain rfl : jj = M := hjk.out
              replace hbad := Lib.hid hbad
              have hZ := hd.out.but.blk hZ0.out (by omega)
              have r2 := hd.out.rd.c2
              have rf := hd.out.rd.free 2
              have hr := hd.out.rd.fail
              have hbw := ((But.of_g (S := fun k => k = R) hg0.out).trans hd.out.but).set (p := ⟨R, 2, none⟩) (.inr rfl) (.bool true)
              have hZ2 := (but_set wo R 2 (.bool true)).blk hZ (by omega)
              have q0 := (blk_cell hZ2 0).trans (show _ = some (.string ByteArray.empty) from rfl)
              have q1 := (blk_cell hZ2 1).trans (show _ = some (.slice none 0 0) from rfl)
              have q3 := (blk_cell hZ2 2).trans (show _ = some (.slice none 0 0) from rfl)
              have fq : ∀ o, (wo.setCell ⟨R, 2, none⟩ (.bool true)).frozen? ⟨w.heap.size, o, none⟩ = false := fun o => by simp [World.frozen?, hZ2]
              have f0 := fq 0
              have f1 := fq 1
              have f2 := fq 2
              have hE := blk3 hZ2 (.string ⟨#[]⟩) (.slice none 0 0) (.slice none 0 0)
              have hr' := hr.but (but_set3 _ w.heap.size (.string ⟨#[]⟩) (.slice none 0 0) (.slice none 0 0)) (fun k e => by omega)
              have hbs := hbw.set3 (Nat.le_refl _) (.string ⟨#[]⟩) (.slice none 0 0) (.slice none 0 0)
              have e0 := (blk_cell hE 0).trans (show _ = some (.string ⟨#[]⟩) from rfl)
              have e1 := (blk_cell hE 1).trans (show _ = some (.slice none 0 0) from rfl)
              have e2 := (blk_cell hE 2).trans (show _ = some (.slice none 0 0) from rfl)
              have hneR : w.heap.size ≠ R := by omega
              have hneR' : R ≠ w.heap.size := by omega
              replace e0 := Lib.hid e0
              replace e1 := Lib.hid e1
              replace e2 := Lib.hid e2
              replace hr' := Lib.hid hr'
              replace hbs := Lib.hid hbs
              replace hd := Lib.hid hd
              clear hE hZ hZ2 hbw hr fq
              go_wp2_with fail
              have e0 := e0.out
              have e1 := e1.out
              have e2 := e2.out
              refine bodyPost_ret (v := .agg #[.string ⟨#[]⟩, .slice none 0 0, .slice none 0 0]) (by simp [results, Tryd.results54, go_sem, e0, e1, e2]) rfl ?_
              exact ⟨⟨#[]⟩, none, none, 0, 0, [], [], none, rfl, hr'.out, hbs.out, hbad.out, smSmall_zero, ⟨OwnL.nil, OwnL.nil⟩⟩
            · have hk' : (jj : Int) < (M : Int) := by have := hjk.out; omega
              replace hbad := Lib.hid hbad
              have hZ := hd.out.but.blk hZ0.out (by omega)
              have r2 := hd.out.rd.c2
              have rf := hd.out.rd.free 2
              have hr := hd.out.rd.fail
              have hbw := ((But.of_g (S := fun k => k = R) hg0.out).trans hd.out.but).set (p := ⟨R, 2, none⟩) (.inr rfl) (.bool true)
              have hZ2 := (but_set wo R 2 (.bool true)).blk hZ (by omega)
              have q0 := (blk_cell hZ2 0).trans (show _ = some (.string ByteArray.empty) from rfl)
              have q1 := (blk_cell hZ2 1).trans (show _ = some (.slice none 0 0) from rfl)
              have q3 := (blk_cell hZ2 2).trans (show _ = some (.slice none 0 0) from rfl)
              have fq : ∀ o, (wo.setCell ⟨R, 2, none⟩ (.bool true)).frozen? ⟨w.heap.size, o, none⟩ = false := fun o => by simp [World.frozen?, hZ2]
              have f0 := fq 0
              have f1 := fq 1
              have f2 := fq 2
              have hE := blk3 hZ2 (.string ⟨#[]⟩) (.slice none 0 0) (.slice none 0 0)
              have hr' := hr.but (but_set3 _ w.heap.size (.string ⟨#[]⟩) (.slice none 0 0) (.slice none 0 0)) (fun k e => by omega)
              have hbs := hbw.set3 (Nat.le_refl _) (.string ⟨#[]⟩) (.slice none 0 0) (.slice none 0 0)
              have e0 := (blk_cell hE 0).trans (show _ = some (.string ⟨#[]⟩) from rfl)
              have e1 := (blk_cell hE 1).trans (show _ = some (.slice none 0 0) from rfl)
              have e2 := (blk_cell hE 2).trans (show _ = some (.slice none 0 0) from rfl)
              have hneR : w.heap.size ≠ R := by omega
              have hneR' : R ≠ w.heap.size := by omega
              replace e0 := Lib.hid e0
              replace e1 := Lib.hid e1
              replace e2 := Lib.hid e2
              replace hr' := Lib.hid hr'
              replace hbs := Lib.hid hbs
              replace hd := Lib.hid hd
              clear hE hZ hZ2 hbw hr fq
              go_wp2_with fail
              have e0 := e0.out
              have e1 := e1.out
              have e2 := e2.out
              refine bodyPost_ret (v := .agg #[.string ⟨#[]⟩, .slice none 0 0, .slice none 0 0]) (by simp [results, Tryd.results54, go_sem, e0, e1, e2]) rfl ?_
              exact ⟨⟨#[]⟩, none, none, 0, 0, [], [], none, rfl, hr'.out, hbs.out, hbad.out, smSmall_zero, ⟨OwnL.nil, OwnL.nil⟩⟩
          | some lx =>
            unfold Option.isNone at q2
            by_cases hk : k = 0
            · subst hk
              obtain rfl : jj = M := hjk.out
              clear hlf
              have hgv := stream_givesR g1.out g2.out g3.out g4.out (hmo.out.end (.inl rfl))
              have hsm := small_gives hl0.out (eats_count _) (eats_count _) g1.out g2.out g3.out g4.out (hmo.out.end (.inl rfl))
              have hck := refSmEnc_any (strOf s) es ks Ae Ak ce ck wo hd.out.own.ins hsm (hT.out.rd h.out ((But.of_g (S := fun k => k = R) hg0.out).trans hd.out.but))
              have q0 := hd.out.c0
              have q1 := hd.out.c1
              have q3 := hd.out.c2
              cases hok : smOk ⟨strOf s, es, ks⟩ with
              | false =>
                have hbad := hgv.1 (.inr hok)
                rw [smL_no hok] at hck
                have t1 : ((([] : List UInt8).length : Int) == 0) = true := rfl
                replace hok := Lib.hid hok
                replace hbad := Lib.hid hbad
                clear hgv hmo hsm
                go_wp2_with fail
                refine hck.mono ?_
                clear hck
                rintro e w5 ⟨Ax, cx, rfl, _, hg5, _⟩
                replace hd := Lib.hid (hd.out.g hg5)
                have hbad := hbad.out
                clear q0 q1 q2 q3 hg5
                replace hbad := Lib.hid hbad
                have hZ := hd.out.but.blk hZ0.out (by omega)
                have r2 := hd.out.rd.c2
                have rf := hd.out.rd.free 2
                have hr := hd.out.rd.fail
                have hbw := ((But.of_g (S := fun k => k = R) hg0.out).trans hd.out.but).set (p := ⟨R, 2, none⟩) (.inr rfl) (.bool true)
                have hZ2 := (but_set w5 R 2 (.bool true)).blk hZ (by omega)
                have q0 := (blk_cell hZ2 0).trans (show _ = some (.string ByteArray.empty) from rfl)
                have q1 := (blk_cell hZ2 1).trans (show _ = some (.slice none 0 0) from rfl)
                have q3 := (blk_cell hZ2 2).trans (show _ = some (.slice none 0 0) from rfl)
                have fq : ∀ o, (w5.setCell ⟨R, 2, none⟩ (.bool true)).frozen? ⟨w.heap.size, o, none⟩ = false := fun o => by simp [World.frozen?, hZ2]
                have f0 := fq 0
                have f1 := fq 1
                have f2 := fq 2
                have hE := blk3 hZ2 (.string ⟨#[]⟩) (.slice none 0 0) (.slice none 0 0)
                have hr' := hr.but (but_set3 _ w.heap.size (.string ⟨#[]⟩) (.slice none 0 0) (.slice none 0 0)) (fun k e => by omega)
                have hbs := hbw.set3 (Nat.le_refl _) (.string ⟨#[]⟩) (.slice none 0 0) (.slice none 0 0)
                have e0 := (blk_cell hE 0).trans (show _ = some (.string ⟨#[]⟩) from rfl)
                have e1 := (blk_cell hE 1).trans (show _ = some (.slice none 0 0) from rfl)
                have e2 := (blk_cell hE 2).trans (show _ = some (.slice none 0 0) from rfl)
                have hneR : w.heap.size ≠ R := by omega
                have hneR' : R ≠ w.heap.size := by omega
                replace e0 := Lib.hid e0
                replace e1 := Lib.hid e1
                replace e2 := Lib.hid e2
                replace hr' := Lib.hid hr'
                replace hbs := Lib.hid hbs
                replace hd := Lib.hid hd
                clear hE hZ hZ2 hbw hr fq
                go_wp2_with fail
                have e0 := e0.out
                have e1 := e1.out
                have e2 := e2.out
                refine bodyPost_ret (v := .agg #[.string ⟨#[]⟩, .slice none 0 0, .slice none 0 0]) (by simp [results, Tryd.results54, go_sem, e0, e1, e2]) rfl ?_
                exact ⟨⟨#[]⟩, none, none, 0, 0, [], [], none, rfl, hr'.out, hbs.out, hbad.out, smSmall_zero, ⟨OwnL.nil, OwnL.nil⟩⟩
              | true =>
                have hne : smL ⟨strOf s, es, ks⟩ ≠ [] := by
                  rw [smL_ok hok]
                  intro h
                  have := smBytes_pos ⟨strOf s, es, ks⟩
                  rw [h] at this
                  simp at this
                have t1 : (((smL ⟨strOf s, es, ks⟩).length : Int) == 0) = false := by
                  rw [beq_eq_false_iff_ne]
                  have := List.length_pos_iff.2 hne
                  omega
                generalize smL ⟨strOf s, es, ks⟩ = sl at *
                replace hgv := hgv.2 hok
                replace hne := Lib.hid hne
                replace hok := Lib.hid hok
                replace hgv := Lib.hid hgv
                replace hsm := Lib.hid hsm
                clear hmo
                go_wp2_with fail
                refine hck.mono ?_
                clear hck
                rintro e w5 ⟨Ax, cx, rfl, _, hg5, _⟩
                replace hd := hd.out.g hg5
                clear q0 q1 q2 q3
                have hZ := hd.but.blk hZ0.out (by omega)
                have q0 := hd.c0
                have q1 := hd.c1
                have q3 := hd.c2
                have z0 := (blk_cell hZ 0).trans (show _ = some (.string ByteArray.empty) from rfl)
                have z1 := (blk_cell hZ 1).trans (show _ = some (.slice none 0 0) from rfl)
                have z2 := (blk_cell hZ 2).trans (show _ = some (.slice none 0 0) from rfl)
                have fq : ∀ o, w5.frozen? ⟨w.heap.size, o, none⟩ = false := fun o => by simp [World.frozen?, hZ]
                have f0 := fq 0
                have f1 := fq 1
                have f2 := fq 2
                have hE := blk3 hZ (.string (strOf s)) (.slice Ae es.length ce) (.slice Ak ks.length ck)
                have e0 := (blk_cell hE 0).trans (show _ = some (.string (strOf s)) from rfl)
                have e1 := (blk_cell hE 1).trans (show _ = some (.slice Ae es.length ce) from rfl)
                have e2 := (blk_cell hE 2).trans (show _ = some (.slice Ak ks.length ck) from rfl)
                have hps := (hd.own.z hZ (.string (strOf s)) (.slice Ae es.length ce) (.slice Ak ks.length ck)).mono hg0.out.size
                have hr' := hd.rd.but (but_set3 _ w.heap.size (.string (strOf s)) (.slice Ae es.length ce) (.slice Ak ks.length ck)) (fun k e => by omega)
                have hbs := ((But.of_g (S := fun k => k = R) hg0.out).trans hd.but).set3 (Nat.le_refl _) (.string (strOf s)) (.slice Ae es.length ce) (.slice Ak ks.length ck)
                replace e0 := Lib.hid e0
                replace e1 := Lib.hid e1
                replace e2 := Lib.hid e2
                replace hps := Lib.hid hps
                replace hr' := Lib.hid hr'
                replace hbs := Lib.hid hbs
                clear hE hg5 hZ hd fq
                go_wp2_with fail
                have e0 := e0.out
                have e1 := e1.out
                have e2 := e2.out
                refine bodyPost_ret (v := .agg #[.string (strOf s), .slice Ae es.length ce, .slice Ak ks.length ck]) (by simp [results, Tryd.results54, go_sem, e0, e1, e2]) rfl ?_
                exact ⟨strOf s, Ae, Ak, ce, ck, es, ks, _, rfl, hr'.out, hbs.out, hgv.out, hsm.out, hps.out⟩
            · obtain ⟨j, rfl⟩ : ∃ j, k = j + 1 := ⟨k - 1, by omega⟩
              have hc := eyeText_any R A c8 l (some lx) wo hd.out.rd hl2 hcap
              obtain ⟨sk, st5, h5⟩ : ∃ v t, gv [] dText (some lx) = (v, t) := ⟨_, _, rfl⟩
              rw [h5] at hc
              have g5 := gv_gives h5
              have hj1 : (jj : Int) < (M : Int) := by have := hjk.out; omega
              replace g5 := Lib.hid g5
              clear h5 hk
              go_wp2_with fail
              refine hc.mono ?_
              clear hc
              rintro e wa ⟨rfl, hr5, hb5⟩
              replace hd := Lib.hid (hd.out.call hr5 hb5)
              have hi := KnSt.begin (s := strOf sk) hr5
              have hc := eyeNum_any R A c8 l st5 _ hi.rd hl2 hcap 1099511627776 1099511627776 rfl (by omega)
              obtain ⟨v, st6, h6⟩ : ∃ v t, gv 0 (dCount 1099511627776) st5 = (v, t) := ⟨_, _, rfl⟩
              rw [h6] at hc
              have g6 := gv_gives h6
              replace g6 := Lib.hid g6
              replace hi := Lib.hid hi
              clear h6 hr5 hb5 q2
              go_wp2_with fail
              refine hc.mono ?_
              clear hc
              rintro e w6 ⟨rfl, hr6, hb6⟩
              replace hi := hi.out.call hr6 hb6
              have x1 := (hi.cell 1).trans (show _ = some (.int .i64 0) from rfl)
              have x1f := hi.free 1
              replace hi := (hi.put 1 (.int .i64 v)).as (show _ = #[.string (strOf sk), .int .i64 v, .int .i64 0, .int .i64 0, .int .i64 0] from rfl)
              have hc := eyeStamp_any R A c8 l st6 _ hi.rd hl2 hcap
              replace hi := Lib.hid hi
              clear hr6 hb6
              go_wp2_with fail
              refine hc.mono ?_
              clear hc
              rintro e w7 ⟨⟨ta, tb, tc⟩, st7, he7, hr7, hb7, g7⟩
              simp only [stVal, stV] at he7
              subst he7
              replace hi := hi.out.call hr7 hb7
              have y2 := (hi.cell 2).trans (show _ = some (.int .i64 0) from rfl)
              have y3 := (hi.cell 3).trans (show _ = some (.int .i64 0) from rfl)
              have y4 := (hi.cell 4).trans (show _ = some (.int .i64 0) from rfl)
              have y2f := hi.free 2
              have y3f := hi.free 3
              have y4f := hi.free 4
              replace hi := (((hi.put 2 (.int .i64 ta)).put 3 (.int .i64 tb)).put 4 (.int .i64 tc)).as (show _ = #[.string (strOf sk), .int .i64 v, .int .i64 ta, .int .i64 tb, .int .i64 tc] from rfl)
              have z0 := (hi.cell 0).trans (show _ = some (.string (strOf sk)) from rfl)
              have z1 := (hi.cell 1).trans (show _ = some (.int .i64 v) from rfl)
              have z2 := (hi.cell 2).trans (show _ = some (.int .i64 ta) from rfl)
              have z3 := (hi.cell 3).trans (show _ = some (.int .i64 tb) from rfl)
              have z4 := (hi.cell 4).trans (show _ = some (.int .i64 tc) from rfl)
              have hgk := known_gives g5.out g6.out g7
              have hlf2 := Left.step hlf.out hl eats_known hgk
              have hmo2 := hmo.out.step hgk
              have hb := hi.but
              have hws := hd.out.but.size
              replace hd := hd.out.call hi.rd hb
              have c2 := hd.c2
              obtain ⟨y, hy⟩ : ∃ y : Kn, y = ⟨strOf sk, v, ⟨ta, tb, tc⟩⟩ := ⟨_, rfl⟩
              obtain ⟨ks', hks⟩ : ∃ ks', ks ++ [y] = ks' := ⟨_, rfl⟩
              rw [← hy, hks] at hmo2
              have hkl : ks'.length = ks.length + 1 := by rw [← hks]; simp
              have hkb := hlf.out.1
              rw [← hkl] at hlf2
              replace hd := Lib.hid hd
              replace hmo2 := Lib.hid hmo2
              replace hlf2 := Lib.hid hlf2
              replace hkl := Lib.hid hkl
              replace hks := Lib.hid hks
              replace hy := Lib.hid hy
              clear hgk hmo hlf hb hr7 hb7 hi g7
              go_upto_region 14 with fail
              generalize ((w7.setCell ⟨wa.heap.size, 2, none⟩ (.int .i64 ta)).setCell ⟨wa.heap.size, 3, none⟩ (.int .i64 tb)).setCell ⟨wa.heap.size, 4, none⟩ (.int .i64 tc) = wz at *
              clear y2 y3 y4 y2f y3f y4f x1 x1f
              go_wp2_with (at_builtin; refine wpList_append_but kns_elem _ rfl (.tmp 57) (.tmp 59) rfl W0.heap.size _ ks rfl (hd.out.own.kns.g (G.new _ _)) (wz.heap.size + 1) (some ⟨wz.heap.size, 0, none⟩) 1 [y] rfl (by intro h; cases h) (Sl.of_blk Kn.cells_len _ (blk_new _ _ _) (by rw [hy.out]; rfl) (by omega)) (by simp; omega) (by simp; omega) (by have := hd.out.but.size; simp; omega) ?_; intro v8 w8 hown8 hk8 hb8; rw [hks.out] at hown8; obtain ⟨A8, c8', e8, _, _, _⟩ := OwnL.sl Kn.cells_len hown8; subst e8; obtain ⟨zf, ⟨u, zc⟩, hd8⟩ := (hd.out.g (G.new _ _)).pushK hown8 hk8 hb8; replace hd8 := Lib.hid hd8)
              go_roundw
              case rel => exact ⟨jj + 1, j, A8, c8', ks', st7, by go_num, Lib.hid (by have := hjk.out; omega), hlf2, hd8, hmo2⟩
              case measure => (simp [intOf] <;> omega)
      · obtain ⟨j, rfl⟩ : ∃ j, k = j + 1 := ⟨k - 1, by omega⟩
        have hid := hd.out.g (G.refl wo).drew
        have x1 := hid.c1
        have x1w := hd.out.c1
        have hc := eyeEvent_any R A c8 l (some lx) _ hid.rd hl2 hcap (hT.out.rd h.out ((But.of_g (S := fun k => k = R) hg0.out).trans hid.but))
        have hj1 : (jj : Int) < (N : Int) := by have := hjk.out; omega
        have hkb := hlf.out.1
        replace hid := Lib.hid hid
        clear hk hd
        go_upto_region 6 with fail
        go_region_law (first
          | (refine step_append_but evs_elem _ (by kernel_rfl) (.tmp 27) (.tmp 30) rfl W0.heap.size _ es rfl (hi5.out.own.evs.g (G.new _ _)) (w5.heap.size + 1) (some ⟨w5.heap.size, 0, none⟩) 1 [x] rfl (by intro h; cases h) (Sl.of_blk Ev.cells_len _ (blk_new _ _ _) (by rw [hx.out]; rfl) (by omega)) (by simp; omega) (by simp; omega) (by have := hi5.out.but.size; simp; omega) ?_; intro v6 w6 hown6 hk6 hb6; rw [hes.out] at hown6; obtain ⟨A6, c6, e6, _, _, _⟩ := OwnL.sl Ev.cells_len hown6; subst e6; obtain ⟨zf, ⟨u, zc⟩, hd6⟩ := (hi5.out.g (G.new _ _)).pushE hown6 hk6 hb6; replace hd6 := Lib.hid hd6)
          | (go_simp; go_at_call 36; refine Calls.mono hc ?_; rintro e w5 ⟨⟨xs, xv, xd, ⟨xa, xb, xc⟩, xi⟩, st6, he5, hr5, hb5, g5⟩; simp only [evVal, Ev.cells] at he5; subst he5; have hi5 := hid.out.call hr5 hb5; have x5 := hi5.c1; have x5b := (hi5.g (G.new w5 (.cells #[.string xs, .int .i64 xv, .string xd, .int .i64 xa, .int .i64 xb, .int .i64 xc, .int .i64 xi] 41))).c1; obtain ⟨x, hx⟩ : ∃ x : Ev, x = ⟨xs, xv, xd, ⟨xa, xb, xc⟩, xi⟩ := ⟨_, rfl⟩; rw [← hx] at g5; obtain ⟨es', hes⟩ : ∃ es', es ++ [x] = es' := ⟨_, rfl⟩; have hmo2 := hmo.out.step g5; rw [hes] at hmo2; have hlf2 := Left.step hlf.out hl eats_event g5; have hel : es'.length = es.length + 1 := (by rw [← hes]; simp); rw [← hel] at hlf2; replace hi5 := Lib.hid hi5; replace hx := Lib.hid hx; replace hes := Lib.hid hes; replace hmo2 := Lib.hid hmo2; replace hlf2 := Lib.hid hlf2; clear g5 hel hr5 hb5))
        all_goals
          go_wp2_with fail
          go_roundw
          case rel => exact ⟨jj + 1, j, A6, c6, es', st6, by go_num, Lib.hid (by have := hjk.out; omega), hlf2, hd6, hmo2⟩
          case measure => (simp [intOf] <;> omega)
set_option maxRecDepth 100000 in
set_option maxHeartbeats 4000000 in
theorem refDecStream_any (l : List UInt8) (A : Option Addr) (c8 : Nat) (w : World) (hs : Sl byteC 1 w w.heap.size A l) (hl : l.length ≤ 524288) (hcap : l.length ≤ c8) (hT : Tabs w) :
    Calls Tryd.prog 22 #[.slice A l.length c8] w (RetSm w l) := by
  have hZ0 := blk_new w #[.string ByteArray.empty, .slice none 0 0, .slice none 0 0] 53
  have hg0 := G.new w (.cells #[.string ByteArray.empty, .slice none 0 0, .slice none 0 0] 53)
  have hz0 : (w.alloc (.cells #[.string ByteArray.empty, .slice none 0 0, .slice none 0 0] 53)).heap.size = w.heap.size + 1 := by simp
  generalize hW0 : w.alloc (.cells #[.string ByteArray.empty, .slice none 0 0, .slice none 0 0] 53) = W0 at hZ0 hg0 hz0
  have hr := RdS.start (T := 81) (c8 := c8) ((hs.g (Nat.le_refl _) hg0).more hg0.size)
  have hZ1 := (G.new W0 (.cells #[.slice A l.length c8, .int .i64 0, .bool false] 81)).blk hZ0
  have hg1 := hg0.trans (G.new W0 (.cells #[.slice A l.length c8, .int .i64 0, .bool false] 81))
  have hc := eyeStream_any W0.heap.size A c8 l (some l) _ hr hl hcap (hT.g hg1)
  rw [hz0] at hc
  replace hz0 := Lib.hid hz0
  replace hZ1 := Lib.hid hZ1
  replace hg1 := Lib.hid hg1
  clear hr hZ0 hg0 hs
  subst hW0
  go_enter Tryd.func22, Tryd.ntmps22
  go_wp2_with fail
  refine hc.mono ?_
  clear hc
  rintro e w1 ⟨nm, Ae, Ak, ce, ck, es, ks, st', rfl, hr, hb, hgv, hsm, hps⟩
  have hgn := G.new w1 (.cells #[.string nm, .slice Ae es.length ce, .slice Ak ks.length ck] 53)
  have hZ := hgn.blk (hb.blk hZ1.out (by omega))
  have hg := (hg1.out.gOf' hb (fun k e => by rw [e]; omega)).trans hgn
  have hX := blk_new w1 #[.string nm, .slice Ae es.length ce, .slice Ak ks.length ck] 53
  replace hr := hr.g hgn
  have hpz : SmOwn w.heap.size Ae ce es Ak ck ks (w1.alloc (.cells #[.string nm, .slice Ae es.length ce, .slice Ak ks.length ck] 53)) := (hps.mono hg1.out.size).g hgn
  have hzl : w.heap.size + 1 < w1.heap.size := by have := hb.size; have := hz0.out; simp at *; omega
  replace hgv := hgv.as (d2 := dStream) (fun l' e => by cases e; exact (dStream_both l (by omega)).symm)
  replace hgv := Lib.hid hgv
  replace hsm := Lib.hid hsm
  replace hpz := Lib.hid hpz
  clear hZ1 hg1 hb hgn hz0 hps
  have k2 := hr.c2
  cases st' with
  | none =>
    have hno := hgv.out.miss
    unfold Option.isNone at k2
    have q0 := (blk_cell hZ 0).trans (show _ = some (.string ByteArray.empty) from rfl)
    have q1 := (blk_cell hZ 1).trans (show _ = some (.slice none 0 0) from rfl)
    have q2 := (blk_cell hZ 2).trans (show _ = some (.slice none 0 0) from rfl)
    have fq : ∀ o, (w1.alloc (.cells #[.string nm, .slice Ae es.length ce, .slice Ak ks.length ck] 53)).frozen? ⟨w.heap.size, o, none⟩ = false := fun o => by simp [World.frozen?, hZ]
    have f0 := fq 0
    have f1 := fq 1
    have f2 := fq 2
    have hE := blk3 hZ (.string ⟨#[]⟩) (.slice none 0 0) (.slice none 0 0)
    have hgs := hg.set3 (Nat.le_refl _) (.string ⟨#[]⟩) (.slice none 0 0) (.slice none 0 0)
    have e0 := (blk_cell hE 0).trans (show _ = some (.string ⟨#[]⟩) from rfl)
    have e1 := (blk_cell hE 1).trans (show _ = some (.slice none 0 0) from rfl)
    have e2 := (blk_cell hE 2).trans (show _ = some (.slice none 0 0) from rfl)
    replace e0 := Lib.hid e0
    replace e1 := Lib.hid e1
    replace e2 := Lib.hid e2
    replace hgs := Lib.hid hgs
    replace hno := Lib.hid hno
    replace hX := Lib.hid hX
    replace hr := Lib.hid hr
    clear hE hg hZ fq
    go_wp2_with fail
    have e0 := e0.out
    have e1 := e1.out
    have e2 := e2.out
    refine bodyPost_ret (v := .tuple #[.agg #[.string ⟨#[]⟩, .slice none 0 0, .slice none 0 0], .int .i64 0, .int .i64 10]) (by simp [results, Tryd.results22, go_sem, e0, e1, e2]) rfl ?_
    exact ⟨⟨#[]⟩, none, none, 0, 0, [], [], 0, 10, rfl, by rw [hno.out]; rfl, smSmall_zero, ⟨OwnL.nil, OwnL.nil⟩, hgs.out⟩
  | some r =>
    have k1 := hr.end
    unfold Option.isNone at k2
    have hyes := hgv.out.hit
    replace hZ := Lib.hid hZ
    replace hX := Lib.hid hX
    replace hr := Lib.hid hr
    replace hyes := Lib.hid hyes
    replace hg := Lib.hid hg
    generalize hnn : l.length - r.length = nn at *
    replace hnn := Lib.hid hnn
    go_wp2_with fail
    generalize w1.alloc (.cells #[.string nm, .slice Ae es.length ce, .slice Ak ks.length ck] 53) = w2 at *
    generalize w1.heap.size = X at *
    replace hX := hX.out
    replace hZ := hZ.out
    have q0 := (blk_cell hX 0).trans (show _ = some (.string nm) from rfl)
    have q1 := (blk_cell hX 1).trans (show _ = some (.slice Ae es.length ce) from rfl)
    have q2 := (blk_cell hX 2).trans (show _ = some (.slice Ak ks.length ck) from rfl)
    have z0 := (blk_cell hZ 0).trans (show _ = some (.string ByteArray.empty) from rfl)
    have z1 := (blk_cell hZ 1).trans (show _ = some (.slice none 0 0) from rfl)
    have z2 := (blk_cell hZ 2).trans (show _ = some (.slice none 0 0) from rfl)
    have fq : ∀ o, w2.frozen? ⟨w.heap.size, o, none⟩ = false := fun o => by simp [World.frozen?, hZ]
    have f0 := fq 0
    have f1 := fq 1
    have f2 := fq 2
    have hE := blk3 hZ (.string nm) (.slice Ae es.length ce) (.slice Ak ks.length ck)
    have hgs := hg.out.set3 (Nat.le_refl _) (.string nm) (.slice Ae es.length ce) (.slice Ak ks.length ck)
    have e0 := (blk_cell hE 0).trans (show _ = some (.string nm) from rfl)
    have e1 := (blk_cell hE 1).trans (show _ = some (.slice Ae es.length ce) from rfl)
    have e2 := (blk_cell hE 2).trans (show _ = some (.slice Ak ks.length ck) from rfl)
    have hps := hpz.out.z hZ (.string nm) (.slice Ae es.length ce) (.slice Ak ks.length ck)
    replace e0 := Lib.hid e0
    replace e1 := Lib.hid e1
    replace e2 := Lib.hid e2
    replace hgs := Lib.hid hgs
    replace hps := Lib.hid hps
    clear hE hX hZ hpz
    have hne : X ≠ w.heap.size := by omega
    go_region
    go_wp2_with fail
    have e0 := e0.out
    have e1 := e1.out
    have e2 := e2.out
    refine bodyPost_ret (v := .tuple #[.agg #[.string nm, .slice Ae es.length ce, .slice Ak ks.length ck], .int .i64 nn, .int .i64 0]) (by simp [results, Tryd.results22, go_sem, e0, e1, e2]) rfl ?_
    exact ⟨nm, Ae, Ak, ce, ck, es, ks, nn, 0, rfl, by rw [hyes.out, ← hnn.out]; rfl, hsm.out, hps.out.g (G.refl _).drew, hgs.out.drew⟩
end Go.Proofs.YtilfgafdkiaaaaaDoor
/- penstockref7.SameEvents: whether two lists of events are one. Condition: the lengths fit an int. -/
namespace Go.Proofs.YtilfgafdkiaaaaaDoor
open Go.RowKit

def evsB (es fs : List Ev) : Bool := decide (es = fs)
theorem Sl.ev {w : World} {B : Nat} {A : Option Addr} {xs : List Ev} {k : Nat} {x : Ev} (h : Sl Ev.cells 7 w B A xs) (hx : xs[k]? = some x) :
    ∃ b o, A = some ⟨b, o, none⟩ ∧ b < B ∧ w.cell? ⟨b, o + k * 7, none⟩ = some (.string x.stream) ∧ w.cell? ⟨b, o + k * 7 + 1, none⟩ = some (.int .i64 x.version) ∧ w.cell? ⟨b, o + k * 7 + 2, none⟩ = some (.string x.data) ∧
      w.cell? ⟨b, o + k * 7 + 3, none⟩ = some (.int .i64 x.st.wall) ∧ w.cell? ⟨b, o + k * 7 + 4, none⟩ = some (.int .i64 x.st.logic) ∧ w.cell? ⟨b, o + k * 7 + 5, none⟩ = some (.int .i64 x.st.node) ∧ w.cell? ⟨b, o + k * 7 + 6, none⟩ = some (.int .i64 x.index) := by
  obtain ⟨b, o, e, hb, hc⟩ := h.get hx
  exact ⟨b, o, e, hb, hc 0 _ rfl, hc 1 _ rfl, hc 2 _ rfl, hc 3 _ rfl, hc 4 _ rfl, hc 5 _ rfl, hc 6 _ rfl⟩

/-- The cells of an event that is there, in every world that has grown from this one. -/
theorem Sl.evG {w : World} {B : Nat} {A : Option Addr} {xs : List Ev} {k : Nat} {x : Ev} (h : Sl Ev.cells 7 w B A xs) (hB : B ≤ w.heap.size) (hx : xs[k]? = some x) :
    ∃ b o, A = some ⟨b, o, none⟩ ∧ b < w.heap.size ∧ (∀ w', G w w' → w'.cell? ⟨b, o + k * 7, none⟩ = some (.string x.stream)) ∧ (∀ w', G w w' → w'.cell? ⟨b, o + k * 7 + 1, none⟩ = some (.int .i64 x.version)) ∧ (∀ w', G w w' → w'.cell? ⟨b, o + k * 7 + 2, none⟩ = some (.string x.data)) ∧
      (∀ w', G w w' → w'.cell? ⟨b, o + k * 7 + 3, none⟩ = some (.int .i64 x.st.wall)) ∧ (∀ w', G w w' → w'.cell? ⟨b, o + k * 7 + 4, none⟩ = some (.int .i64 x.st.logic)) ∧ (∀ w', G w w' → w'.cell? ⟨b, o + k * 7 + 5, none⟩ = some (.int .i64 x.st.node)) ∧ (∀ w', G w w' → w'.cell? ⟨b, o + k * 7 + 6, none⟩ = some (.int .i64 x.index)) := by
  obtain ⟨b, o, e, hb, c0, c1, c2, c3, c4, c5, c6⟩ := h.ev hx
  have hb' : b < w.heap.size := by omega
  exact ⟨b, o, e, hb', fun w' hg => (hg.cell hb').trans c0, fun w' hg => (hg.cell hb').trans c1, fun w' hg => (hg.cell hb').trans c2, fun w' hg => (hg.cell hb').trans c3, fun w' hg => (hg.cell hb').trans c4, fun w' hg => (hg.cell hb').trans c5, fun w' hg => (hg.cell hb').trans c6⟩

set_option maxHeartbeats 1000000 in
theorem sameEvents_any (es fs : List Ev) (A A2 : Option Addr) (c c2 B : Nat) (w : World) (hB : B ≤ w.heap.size) (_hl : es.length ≤ 9223372036854775807) (_hl2 : fs.length ≤ 9223372036854775807)
    (hs : Sl Ev.cells 7 w B A es) (hs2 : Sl Ev.cells 7 w B A2 fs) :
    Calls Tryd.prog 57 #[.slice A es.length c, .slice A2 fs.length c2] w fun e w' => e = .returned (.bool (evsB es fs)) ∧ G w w' := by
  by_cases hlen : es.length = fs.length
  · have hlb : ((es.length : Int) != (fs.length : Int)) = false := by rw [bne_eq_false_iff_eq]; omega
    go_enter Tryd.func57, Tryd.ntmps57
    have hle : es.length ≤ fs.length := by omega
    replace hlen := Lib.hid hlen
    go_wp2_with fail
    go_loopw [5] (fun i wr => ∃ (k : Nat), k ≤ es.length ∧ i = .int .i64 k ∧ G w wr ∧ Hid (es.take k = fs.take k)) (fun i _ => es.length - (intOf i).toNat)
    case atStart => exact ⟨0, Nat.zero_le _, rfl, G.refl _, by simp [Hid]⟩
    case round =>
      obtain ⟨k, hk, rfl, hg, hh⟩ := hrel
      by_cases hlt : k < es.length
      · obtain ⟨⟨s1, v1, d1, ⟨x1, y1, z1⟩, i1⟩, ha⟩ : ∃ a, es[k]? = some a := ⟨_, List.getElem?_eq_getElem hlt⟩
        obtain ⟨⟨s2, v2, d2, ⟨x2, y2, z2⟩, i2⟩, hb⟩ : ∃ b, fs[k]? = some b := ⟨_, List.getElem?_eq_getElem (by omega)⟩
        obtain ⟨b1, o1, rfl, hb1, _⟩ := hs.ev ha
        obtain ⟨b2, o2, rfl, hb2, _⟩ := hs2.ev hb
        obtain ⟨_, _, e1, _, c10, c11, c12, c13, c14, c15, c16⟩ := (hs.g hB hg).ev ha
        cases e1
        obtain ⟨_, _, e1, _, c20, c21, c22, c23, c24, c25, c26⟩ := (hs2.g hB hg).ev hb
        cases e1
        have hnq := @ev_neq
        replace ha := Lib.hid ha
        replace hb := Lib.hid hb
        clear hs hs2
        go_wp2_with fail
        go_quiet (fail)
        clear hnq
        go_wp2_with fail
        · go_ret
          rename_i hq
          refine ⟨ret_bool ?_, hg.drewN _⟩
          unfold evsB
          rw [decide_eq_false]
          rintro rfl
          have h3 := ha.out.symm.trans hb.out
          simp [evB] at hq
          simp at h3
          simp [h3] at hq
        · rename_i hq
          go_roundw
          case rel =>
            refine ⟨k + 1, by omega, by go_num, hg.drewN _, ?_⟩
            unfold Hid
            have he : es[k]? = fs[k]? := by
              rw [ha.out, hb.out]
              simp [evB] at hq
              simp [hq]
            rw [List.take_add_one, List.take_add_one, hh.out, he]
          case measure => simp [intOf]; omega
      · go_wp2_with fail
        go_ret
        exact ⟨ret_bool (by
          unfold evsB
          rw [decide_eq_true]
          have h1 : es.take k = es := List.take_of_length_le (by omega)
          have h2 : fs.take k = fs := List.take_of_length_le (by have := hlen.out; omega)
          rw [← h1, ← h2]; exact hh.out), hg⟩
  · have hlb : ((es.length : Int) != (fs.length : Int)) = true := by rw [bne_iff_ne]; omega
    go_enter Tryd.func57, Tryd.ntmps57
    go_wp2_with fail
    go_ret
    exact ⟨ret_bool (by unfold evsB; rw [decide_eq_false]; intro h; exact hlen (by rw [h])), G.refl _⟩

theorem sameEvents_self (es : List Ev) (A A2 : Option Addr) (c c2 B : Nat) (w : World) (hB : B ≤ w.heap.size) (hl : es.length ≤ 9223372036854775807)
    (hs : Sl Ev.cells 7 w B A es) (hs2 : Sl Ev.cells 7 w B A2 es) :
    Calls Tryd.prog 57 #[.slice A es.length c, .slice A2 es.length c2] w fun e w' => e = .returned (.bool true) ∧ G w w' :=
  (sameEvents_any es es A A2 c c2 B w hB hl hl hs hs2).mono fun _ _ ⟨he, hg⟩ => ⟨by rw [he]; unfold evsB; simp, hg⟩
end Go.Proofs.YtilfgafdkiaaaaaDoor
/- penstockalike.Events: what it answers. Condition: lengths fit an int. -/
namespace Go.Proofs.YtilfgafdkiaaaaaDoor
open Go.RowKit

/-- Events' loop. -/
def evBulkTo (top : Int) (n : Int) : List Ev → Int
  | [] => n
  | e :: l => if n ≤ top then evBulkTo top (sumTo n [(e.stream.size : Int), (e.data.size : Int)]) l else n
def evBulk (top : Int) (es : List Ev) : Int := evBulkTo top (sumTo 0 [(es.length : Int)]) es
theorem evBulkTo_drop (top n : Int) (xs : List Ev) (k : Nat) (x : Ev) (h : xs[k]? = some x) :
    evBulkTo top n (xs.drop k) = if n ≤ top then evBulkTo top (sumTo n [(x.stream.size : Int), (x.data.size : Int)]) (xs.drop (k + 1)) else n := by
  obtain ⟨hk, rfl⟩ := List.getElem?_eq_some_iff.1 h
  rw [List.drop_eq_getElem_cons hk]
  rfl
theorem evBulkTo_le (top n : Int) (h0 : 0 ≤ n) (h : n ≤ 1099511627776) : ∀ l : List Ev, 0 ≤ evBulkTo top n l ∧ evBulkTo top n l ≤ 1099511627776 := by
  intro l
  induction l generalizing n with
  | nil => exact ⟨h0, h⟩
  | cons m l ih =>
    have h3 := sumTo_le2 n m.stream.size m.data.size h0 h (by omega) (by omega)
    simp only [evBulkTo]
    split
    · exact ih _ h3.1 h3.2
    · omega
theorem evBulk_le (top : Int) (es : List Ev) : 0 ≤ evBulk top es ∧ evBulk top es ≤ 1099511627776 := by
  have h := sumTo_le1 0 es.length (by omega) (by omega) (by omega)
  exact evBulkTo_le top _ h.1 h.2 _
def EvsOk (es : List Ev) : Prop := ∀ e ∈ es, e.stream.size ≤ 9223372036854775807 ∧ e.data.size ≤ 9223372036854775807

set_option maxHeartbeats 1000000 in
theorem events_any (top : Int) (es : List Ev) (A : Option Addr) (c B : Nat) (w : World) (hB : B ≤ w.heap.size) (hl : es.length ≤ 9223372036854775807) (hx : EvsOk es)
    (hs : Sl Ev.cells 7 w B A es) :
    Calls Tryd.prog 49 #[.slice A es.length c, .int .i64 top] w fun e w' => e = .returned (.int .i64 (evBulk top es)) ∧ G w w' := by
  have HX := Lib.hid hx
  clear hx
  unfold evBulk
  go_enter Tryd.func49, Tryd.ntmps49
  go_wp2_with fail
  refine (sum_1 0 es.length _ _ (by omega) (by omega) (by omega) (by omega) (by simp)).mono ?_
  rintro e w1 ⟨rfl, rfl⟩
  have hq := sumTo_le1 0 es.length (by omega) (by omega) (by omega)
  generalize hn0 : sumTo 0 [(es.length : Int)] = n0 at *
  have HN := Lib.hid hn0
  clear hn0
  go_wp2_with fail
  go_loopw [5, 6] (fun t i wr => ∃ (k : Nat) (m : Int), k ≤ es.length ∧ i = .int .i64 k ∧ t = .int .i64 m ∧ 0 ≤ m ∧ m ≤ 1099511627776 ∧ Hid (evBulkTo top n0 es = evBulkTo top m (es.drop k)) ∧ G w wr) (fun _ i _ => es.length - (intOf i).toNat)
  case atStart => exact ⟨0, n0, Nat.zero_le _, rfl, rfl, hq.1, hq.2, by simp [Hid], G.new _ _⟩
  case round =>
    obtain ⟨k, m, hk, rfl, rfl, hm0, hm1, hh, hg⟩ := hrel
    by_cases hlt : k < es.length
    · obtain ⟨x, hx1⟩ : ∃ x, es[k]? = some x := ⟨_, List.getElem?_eq_getElem hlt⟩
      have hsd := Lib.hid (evBulkTo_drop top m es k x hx1)
      obtain ⟨hz0, hz2⟩ := HX.out x (List.mem_of_getElem? hx1)
      obtain ⟨xs, xv, xd, xt, xi⟩ := x
      obtain ⟨b, o, rfl, hb, c0, _, c2, _⟩ := hs.evG hB hx1
      replace hx1 := Lib.hid hx1
      clear hs
      dsimp only at hz0 hz2 c0 c2 hsd
      by_cases htop : m ≤ top
      · go_wp2_with fail
        go_region_held3 (fun w' => G w w') (first | exact hg.drew | exact G.alloc (by assumption) _ | assumption | fail) (first | (go_at_call 14; refine (sum_2 m xs.size xd.size _ _ (by omega) (by omega) (by omega) (by omega) (by omega) (by omega) (by simp) (by simp)).mono ?_; rintro e w2 ⟨rfl, rfl⟩))
        go_wp2_with fail
        go_roundw
        case rel =>
          have hq2 := sumTo_le2 m xs.size xd.size (by omega) (by omega) (by omega) (by omega)
          exact ⟨k + 1, _, by omega, by go_num, rfl, hq2.1, hq2.2, by unfold Hid; rw [hh.out, hsd.out, if_pos (by omega)], by assumption⟩
        case measure => simp [intOf]; omega
      · go_wp2_with fail
        go_ret
        exact ⟨ret_int (by rw [HN.out, hh.out, hsd.out, if_neg (by omega)]), hg⟩
    · go_wp2_with fail
      go_ret
      exact ⟨ret_int (by rw [HN.out, hh.out, List.drop_eq_nil_of_le (by omega)]; rfl), hg⟩
end Go.Proofs.YtilfgafdkiaaaaaDoor
/- penstockalike.Streams: what it answers; what a small bulk says. Condition: lengths fit an int. -/
namespace Go.Proofs.YtilfgafdkiaaaaaDoor
open Go.RowKit

/-- A stream as it lies. -/
structure SmM where
  name : ByteArray
  Ae : Option Addr
  ce : Nat
  es : List Ev
  Ak : Option Addr
  ck : Nat
  ks : List Kn
def SmM.cells (s : SmM) : List Value := [.string s.name, .slice s.Ae s.es.length s.ce, .slice s.Ak s.ks.length s.ck]
theorem SmM.cells_len (s : SmM) : s.cells.length = 3 := rfl
def SmM.sm (s : SmM) : Sm := ⟨s.name, s.es, s.ks⟩
/-- Streams as they lie. -/
def SmsIn (w : World) (B : Nat) (A : Option Addr) (ss : List SmM) : Prop := Sl SmM.cells 3 w B A ss ∧ ∀ s ∈ ss, SmIn w B s.Ae s.Ak s.es s.ks
theorem SmsIn.g {w w' : World} {B : Nat} {A : Option Addr} {ss : List SmM} (h : SmsIn w B A ss) (hB : B ≤ w.heap.size) (hg : G w w') : SmsIn w' B A ss := ⟨h.1.g hB hg, fun s hs => (h.2 s hs).g hB hg⟩
/-- Streams' loop. -/
def smsTo (top : Int) (n : Int) : List SmM → Int
  | [] => n
  | s :: l => if n ≤ top then smsTo top (upTo top (sumTo n [(s.name.size : Int), evBulk top s.es, (s.ks.length : Int)]) (s.ks.map fun k => (k.key.size : Int))) l else n
def smsBulk (top : Int) (ss : List SmM) : Int := smsTo top (sumTo 0 [(ss.length : Int)]) ss
theorem smsTo_drop (top n : Int) (xs : List SmM) (k : Nat) (x : SmM) (h : xs[k]? = some x) :
    smsTo top n (xs.drop k) = if n ≤ top then smsTo top (upTo top (sumTo n [(x.name.size : Int), evBulk top x.es, (x.ks.length : Int)]) (x.ks.map fun k => (k.key.size : Int))) (xs.drop (k + 1)) else n := by
  obtain ⟨hk, rfl⟩ := List.getElem?_eq_some_iff.1 h
  rw [List.drop_eq_getElem_cons hk]
  rfl
theorem sumTo_le3 (n m m2 m3 : Int) (h0 : 0 ≤ n) (h : n ≤ 1099511627776) (hm : 0 ≤ m) (hm2 : 0 ≤ m2) (hm3 : 0 ≤ m3) : 0 ≤ sumTo n [m, m2, m3] ∧ sumTo n [m, m2, m3] ≤ 1099511627776 :=
  sumTo_le n h0 h [m, m2, m3] (fun k hk => by simp at hk; omega)
theorem smsTo_le (top n : Int) (h0 : 0 ≤ n) (h : n ≤ 1099511627776) : ∀ l : List SmM, 0 ≤ smsTo top n l ∧ smsTo top n l ≤ 1099511627776 := by
  intro l
  induction l generalizing n with
  | nil => exact ⟨h0, h⟩
  | cons s l ih =>
    simp only [smsTo]
    split
    · have h1 := sumTo_le3 n s.name.size (evBulk top s.es) s.ks.length h0 h (by omega) (evBulk_le top s.es).1 (by omega)
      have h2 := upTo_le top _ h1.1 h1.2 (s.ks.map fun k => (k.key.size : Int)) (fun m hm => by simp at hm; obtain ⟨k, _, rfl⟩ := hm; omega)
      exact ih _ h2.1 h2.2
    · exact ⟨h0, h⟩
theorem smsBulk_le (top : Int) (ss : List SmM) : 0 ≤ smsBulk top ss ∧ smsBulk top ss ≤ 1099511627776 := by
  have h := sumTo_le1 0 ss.length (by omega) (by omega) (by omega)
  exact smsTo_le top _ h.1 h.2 _
def KnsOk (ks : List Kn) : Prop := ks.length ≤ 9223372036854775807 ∧ ∀ k ∈ ks, k.key.size ≤ 9223372036854775807
def SmsOk (ss : List SmM) : Prop := ss.length ≤ 9223372036854775807 ∧ ∀ s ∈ ss, s.name.size ≤ 9223372036854775807 ∧ s.es.length ≤ 9223372036854775807 ∧ EvsOk s.es ∧ KnsOk s.ks

set_option maxHeartbeats 4000000 in
theorem streams_any (top : Int) (ss : List SmM) (A : Option Addr) (c B : Nat) (w : World) (hB : B ≤ w.heap.size) (ho : SmsOk ss) (hs : SmsIn w B A ss) :
    Calls Tryd.prog 20 #[.slice A ss.length c, .int .i64 top] w fun e w' => e = .returned (.int .i64 (smsBulk top ss)) ∧ G w w' := by
  obtain ⟨hl, HX⟩ := ho
  replace HX := Lib.hid HX
  unfold smsBulk
  go_enter Tryd.func20, Tryd.ntmps20
  go_wp2_with fail
  refine (sum_1 0 ss.length _ _ (by omega) (by omega) (by omega) (by omega) (by simp)).mono ?_
  rintro e w1 ⟨rfl, rfl⟩
  have hq := sumTo_le1 0 ss.length (by omega) (by omega) (by omega)
  generalize hn0 : sumTo 0 [(ss.length : Int)] = n0 at *
  have HN := Lib.hid hn0
  clear hn0
  go_wp2_with fail
  go_loopw [5, 6] (fun t i wr => ∃ (k : Nat) (m : Int), k ≤ ss.length ∧ i = .int .i64 k ∧ t = .int .i64 m ∧ 0 ≤ m ∧ m ≤ 1099511627776 ∧ Hid (smsTo top n0 ss = smsTo top m (ss.drop k)) ∧ G w wr) (fun _ i _ => ss.length - (intOf i).toNat)
  case atStart => exact ⟨0, n0, Nat.zero_le _, rfl, rfl, hq.1, hq.2, by simp [Hid], G.new _ _⟩
  case round =>
    obtain ⟨wo, rfl⟩ : ∃ wo : World, wo = wr := ⟨_, rfl⟩
    obtain ⟨k, m, hk, rfl, rfl, hm0, hm1, hh, hbel⟩ := hrel
    by_cases hlt : k < ss.length
    · obtain ⟨⟨sn, sA, sc, se, sA2, sc2, sk⟩, hp⟩ : ∃ p, ss[k]? = some p := ⟨_, List.getElem?_eq_getElem hlt⟩
      obtain ⟨b, o, rfl, hbB, hcells⟩ := hs.1.get hp
      have hsd := Lib.hid (smsTo_drop top m ss k _ hp)
      have hpm := List.mem_of_getElem? hp
      obtain ⟨hx1, hx2, hx3, hx4, hx5⟩ := HX.out _ hpm
      have hsi := hs.2 _ hpm
      simp only at hx1 hx2 hx3 hx4 hx5 hsi hsd
      have hes : ∀ w', G w w' → Sl Ev.cells 7 w' B sA se := fun w' h => hsi.1.g hB h
      have hks : ∀ w', G w w' → Sl Kn.cells 5 w' B sA2 sk := fun w' h => hsi.2.g hB h
      have c0 : ∀ w', G w w' → w'.cell? ⟨b, o + k * 3, none⟩ = some (.string sn) := fun w' h => (h.cell (by omega)).trans (hcells 0 _ rfl)
      have c1 : ∀ w', G w w' → w'.cell? ⟨b, o + k * 3 + 1, none⟩ = some (.slice sA se.length sc) := fun w' h => (h.cell (by omega)).trans (hcells 1 _ rfl)
      have c2 : ∀ w', G w w' → w'.cell? ⟨b, o + k * 3 + 2, none⟩ = some (.slice sA2 sk.length sc2) := fun w' h => (h.cell (by omega)).trans (hcells 2 _ rfl)
      have hB2 : ∀ w', G w w' → B ≤ w'.heap.size := fun w' h => by have := h.size; omega
      have n1 : (0 : Int) ≤ (k : Int) := by omega
      have n2 : (k : Int) < (ss.length : Int) := by omega
      replace hes := Lib.hid hes
      replace hks := Lib.hid hks
      replace hx5 := Lib.hid hx5
      clear hcells hs hp hsi
      by_cases htop : m ≤ top
      · go_upto_region 5 with fail
        obtain ⟨ht0, ht1⟩ := evBulk_le top se
        have hbd := hbel.drew
        go_region_held3 (fun w' => G w w') (first | exact hbel.drew | exact G.keep hbw1 (by assumption) | exact G.alloc (by assumption) _ | assumption | fail) (first | (go_at_call 49; refine (events_any top se sA sc B _ (hB2 _ (by assumption)) hx2 hx3 (hes.out _ (by assumption))).mono ?_; rintro e w1 ⟨rfl, hbw1⟩) | (go_at_call 14; refine (sum_3 m sn.size (evBulk top se) sk.length _ _ (by omega) (by omega) (by omega) (by omega) (by omega) (by omega) (by omega) (by omega) (by simp) (by simp) (by simp)).mono ?_; rintro e w2 ⟨rfl, rfl⟩))
        have hq2 := sumTo_le3 m sn.size (evBulk top se) sk.length (by omega) (by omega) (by omega) (by omega) (by omega)
        generalize hm3 : sumTo m [(sn.size : Int), evBulk top se, (sk.length : Int)] = m3 at *
        clear hm3
        go_wp2_with fail
        go_loopw [5, 7] (fun t i wr => ∃ (j : Nat) (q : Int), j ≤ sk.length ∧ i = .int .i64 j ∧ t = .int .i64 q ∧ 0 ≤ q ∧ q ≤ 1099511627776 ∧ Hid (upTo top m3 (sk.map fun k => (k.key.size : Int)) = upTo top q ((sk.map fun k => (k.key.size : Int)).drop j)) ∧ G w wr) (fun _ i _ => sk.length - (intOf i).toNat)
        case atStart => exact ⟨0, m3, Nat.zero_le _, rfl, rfl, hq2.1, hq2.2, by simp [Hid], by assumption⟩
        case round =>
          obtain ⟨j, q, hj, rfl, rfl, hq0, hq1, hjj, hgj⟩ := hrel
          have c2w := c2 _ hgj
          by_cases hjl : j < sk.length
          · obtain ⟨⟨yk, yv, ys⟩, hy⟩ : ∃ y, sk[j]? = some y := ⟨_, List.getElem?_eq_getElem hjl⟩
            obtain ⟨b3, o3, rfl, hb3, hc3⟩ := (hks.out _ hgj).get hy
            have d0 := hc3 0 _ rfl
            simp only [Nat.add_zero] at d0
            have hud := Lib.hid (upTo_drop top q (sk.map fun k => (k.key.size : Int)) j yk.size (by simp [hy]))
            have hyz := hx5.out _ (List.mem_of_getElem? hy)
            simp only at hyz
            have m1 : (0 : Int) ≤ (j : Int) := by omega
            have m2 : (j : Int) < (sk.length : Int) := by omega
            replace hy := Lib.hid hy
            clear hc3
            by_cases hqt : q ≤ top
            · go_wp2_with (go_at_call 14; refine (sum_1 q yk.size _ _ (by omega) (by omega) (by omega) (by omega) (by simp)).mono ?_; rintro e w5 ⟨rfl, rfl⟩)
              go_roundw
              case rel =>
                have hq3 := sumTo_le1 q yk.size (by omega) (by omega) (by omega)
                exact ⟨j + 1, _, by omega, by go_num, rfl, hq3.1, hq3.2, by unfold Hid; rw [hjj.out, hud.out, if_pos (by omega)], hgj.alloc _⟩
              case measure => (simp [intOf] <;> omega)
            · go_wp2_with fail
              go_roundw
              case rel => exact ⟨k + 1, q, by omega, by go_num, rfl, hq0, hq1, by unfold Hid; rw [hh.out, hsd.out, if_pos (by omega), hjj.out, hud.out, if_neg (by omega)], hgj⟩
              case measure => (simp [intOf] <;> omega)
          · go_wp2_with fail
            go_roundw
            case rel => exact ⟨k + 1, q, by omega, by go_num, rfl, hq0, hq1, by unfold Hid; rw [hh.out, hsd.out, if_pos (by omega), hjj.out, List.drop_eq_nil_of_le (by simp; omega)]; rfl, hgj⟩
            case measure => (simp [intOf] <;> omega)
      · go_wp2_with fail
        go_ret
        exact ⟨ret_int (by rw [HN.out, hh.out, hsd.out, if_neg (by omega)]), hbel⟩
    · go_wp2_with fail
      go_ret
      exact ⟨ret_int (by rw [HN.out, hh.out, List.drop_eq_nil_of_le (by omega)]; rfl), hbel⟩

/-! What a small bulk says. -/
theorem sumTo_up {top : Int} (ht : top < 1099511627776) : ∀ {l : List Int} {n : Int}, (∀ m ∈ l, 0 ≤ m) → sumTo n l ≤ top → n + l.sum ≤ top
  | [], n, _, h => by simpa [sumTo] using h
  | m :: l, n, hl, h => by
    unfold sumTo at h
    split at h
    · have := sumTo_up ht (fun k hk => hl k (by simp [hk])) h
      rw [List.sum_cons]
      omega
    · omega
theorem upTo_up {top : Int} (ht : top < 1099511627776) : ∀ (l : List Int) (n : Int), (∀ m ∈ l, 0 ≤ m) → upTo top n l ≤ top → n ≤ top ∧ (0 ≤ n → ∀ m ∈ l, m ≤ top)
  | [], n, _, h => ⟨h, fun _ _ h => by cases h⟩
  | m :: l, n, hl, h => by
    have hm := hl m (by simp)
    unfold upTo at h
    split at h
    · have h1 := upTo_up ht l (sumTo n [m]) (fun k hk => hl k (by simp [hk])) h
      have h2 := sumTo_up (n := n) ht (l := [m]) (by simpa using hm) h1.1
      simp only [List.sum_cons, List.sum_nil, Int.add_zero] at h2
      refine ⟨by omega, fun hn k hk => ?_⟩
      rcases List.mem_cons.1 hk with rfl | hk
      · omega
      · refine h1.2 ?_ k hk
        unfold sumTo
        split
        · unfold sumTo; omega
        · omega
    · omega
theorem evBulkTo_up {top : Int} (ht : top < 1099511627776) : ∀ (l : List Ev) (n : Int), evBulkTo top n l ≤ top → n ≤ top ∧ (0 ≤ n → ∀ e ∈ l, (e.stream.size : Int) ≤ top ∧ (e.data.size : Int) ≤ top)
  | [], n, h => ⟨h, fun _ _ h => by cases h⟩
  | m :: l, n, h => by
    unfold evBulkTo at h
    split at h
    · have h1 := evBulkTo_up ht l _ h
      have h2 := sumTo_up (n := n) ht (l := [(m.stream.size : Int), (m.data.size : Int)]) (by simp) h1.1
      simp only [List.sum_cons, List.sum_nil, Int.add_zero] at h2
      refine ⟨by omega, fun hn k hk => ?_⟩
      rcases List.mem_cons.1 hk with rfl | hk
      · omega
      · refine h1.2 ?_ k hk
        unfold sumTo
        split
        · unfold sumTo
          split
          · unfold sumTo; omega
          · omega
        · omega
    · omega
theorem evBulk_up {top : Int} (ht : top < 1099511627776) {es : List Ev} (h : evBulk top es ≤ top) : (es.length : Int) ≤ top ∧ ∀ e ∈ es, (e.stream.size : Int) ≤ top ∧ (e.data.size : Int) ≤ top := by
  have h1 := evBulkTo_up ht _ _ h
  have h2 := sumTo_up (n := 0) ht (l := [(es.length : Int)]) (by simp) h1.1
  simp only [List.sum_cons, List.sum_nil, Int.add_zero] at h2
  refine ⟨by omega, h1.2 ?_⟩
  unfold sumTo
  split
  · unfold sumTo; omega
  · omega
theorem sumTo_pos : ∀ {l : List Int}, (∀ m ∈ l, 0 ≤ m) → ∀ {n : Int}, 0 ≤ n → 0 ≤ sumTo n l
  | [], _, n, h => by simpa [sumTo] using h
  | m :: l, hl, n, h => by
    have := hl m (by simp)
    unfold sumTo
    split
    · exact sumTo_pos (fun k hk => hl k (by simp [hk])) (by omega)
    · omega
theorem upTo_pos {top : Int} : ∀ {l : List Int} {n : Int}, (∀ m ∈ l, 0 ≤ m) → 0 ≤ n → 0 ≤ upTo top n l
  | [], n, _, h => by simpa [upTo] using h
  | m :: l, n, hl, h => by
    unfold upTo
    split
    · exact upTo_pos (fun k hk => hl k (by simp [hk])) (sumTo_pos (fun k hk => by simp at hk; rw [hk]; exact hl m (by simp)) h)
    · exact h
theorem smsTo_up {top : Int} (ht : top ≤ 524288) : ∀ (ss : List SmM) (n : Int), smsTo top n ss ≤ top → n ≤ top ∧ (0 ≤ n → ∀ s ∈ ss, SmSmall s.name s.es s.ks)
  | [], n, h => ⟨h, fun _ _ h => by cases h⟩
  | s :: l, n, h => by
    unfold smsTo at h
    split at h
    · have h1 := smsTo_up ht l _ h
      have hks : ∀ m ∈ s.ks.map fun k => (k.key.size : Int), (0 : Int) ≤ m := fun m hm => by simp at hm; obtain ⟨k, _, rfl⟩ := hm; omega
      have h2 := upTo_up (by omega) _ _ hks h1.1
      have he := (evBulk_le top s.es).1
      have hl3 : ∀ m ∈ [(s.name.size : Int), evBulk top s.es, (s.ks.length : Int)], 0 ≤ m := by simp; omega
      have h3 := sumTo_up (n := n) (by omega) hl3 h2.1
      simp only [List.sum_cons, List.sum_nil, Int.add_zero] at h3
      refine ⟨by omega, fun hn t ht2 => ?_⟩
      have hp := sumTo_pos hl3 hn
      rcases List.mem_cons.1 ht2 with rfl | ht2
      · have h4 := evBulk_up (top := top) (by omega) (es := t.es) (by omega)
        have h5 := h2.2 hp
        exact ⟨by omega, ⟨by omega, fun e hm => by have := h4.2 e hm; omega⟩, by omega, fun k hm => by have := h5 (k.key.size : Int) (List.mem_map.2 ⟨k, hm, rfl⟩); omega⟩
      · refine h1.2 ?_ t ht2
        exact (upTo_pos hks hp)
    · omega
theorem sms_small {top : Int} (ht : top ≤ 524288) {ss : List SmM} (h : smsBulk top ss ≤ top) : (ss.length : Int) ≤ top ∧ ∀ s ∈ ss, SmSmall s.name s.es s.ks := by
  have h1 := smsTo_up ht _ _ h
  have h2 := sumTo_up (n := 0) (by omega) (l := [(ss.length : Int)]) (by simp) h1.1
  simp only [List.sum_cons, List.sum_nil, Int.add_zero] at h2
  exact ⟨by omega, h1.2 (sumTo_pos (l := [(ss.length : Int)]) (by simp) (by omega))⟩
end Go.Proofs.YtilfgafdkiaaaaaDoor
/- penstockref7.SameStreams: yes to two lists of streams that hold the same. Condition: lengths fit an int. -/
namespace Go.Proofs.YtilfgafdkiaaaaaDoor
open Go.RowKit

set_option maxRecDepth 100000 in
set_option maxHeartbeats 8000000 in
theorem sameSms_yes (ss ts : List SmM) (A A' : Option Addr) (c c' : Nat) (w : World) (hin : SmsIn w w.heap.size A ss) (hin' : SmsIn w w.heap.size A' ts) (he : ss.map SmM.sm = ts.map SmM.sm) (hl : ss.length ≤ 9223372036854775807) (hll : ∀ s ∈ ss, s.es.length ≤ 9223372036854775807 ∧ s.ks.length ≤ 9223372036854775807) :
    Calls Tryd.prog 25 #[.slice A ss.length c, .slice A' ts.length c'] w fun e w' => e = .returned (.bool true) ∧ G w w' := by
  have hlen : ts.length = ss.length := by have := congrArg List.length he; simpa using this.symm
  rw [hlen]
  replace hin := Lib.hid hin
  replace hin' := Lib.hid hin'
  replace he := Lib.hid he
  replace hlen := Lib.hid hlen
  replace hll := Lib.hid hll
  go_enter Tryd.func25, Tryd.ntmps25
  go_wp2_with fail
  go_loopw [5] (fun i wr => ∃ k : Nat, i = .int .i64 k ∧ k ≤ ss.length ∧ G w wr) (fun i _ => ss.length - (intOf i).toNat)
  case atStart => exact ⟨0, rfl, Nat.zero_le _, G.refl _⟩
  case round =>
    obtain ⟨wo, rfl⟩ : ∃ wo : World, wo = wr := ⟨_, rfl⟩
    obtain ⟨k, rfl, hkl, hg⟩ := hrel
    by_cases hlt : k < ss.length
    · obtain ⟨p, hp⟩ : ∃ p, ss[k]? = some p := ⟨_, List.getElem?_eq_getElem hlt⟩
      obtain ⟨p', hp'⟩ : ∃ p', ts[k]? = some p' := ⟨_, List.getElem?_eq_getElem (by rw [hlen.out]; exact hlt)⟩
      have hpp : p.sm = p'.sm := by
        have h1 : (ss.map SmM.sm)[k]? = some p.sm := by rw [List.getElem?_map, hp]; rfl
        have h2 : (ts.map SmM.sm)[k]? = some p'.sm := by rw [List.getElem?_map, hp']; rfl
        rw [he.out, h2] at h1
        exact (Option.some.inj h1).symm
      obtain ⟨z1, z2⟩ := hll.out p (List.mem_of_getElem? hp)
      have hsl := (hin.out.g (Nat.le_refl _) hg).1.get hp
      have hsl' := (hin'.out.g (Nat.le_refl _) hg).1.get hp'
      have hdat := hin.out.2 p (List.mem_of_getElem? hp)
      have hdat' := hin'.out.2 p' (List.mem_of_getElem? hp')
      obtain ⟨pn, pA, pc, pe, pA2, pc2, pk⟩ := p
      obtain ⟨pn', pA', pc', pe', pA2', pc2', pk'⟩ := p'
      unfold SmM.sm at hpp
      simp only [Sm.mk.injEq] at hpp
      obtain ⟨rfl, rfl, rfl⟩ := hpp
      simp only at z1 z2 hdat hdat'
      obtain ⟨b, o, rfl, hb, hc⟩ := hsl
      obtain ⟨b', o', rfl, hb', hc'⟩ := hsl'
      have hgb : b < wo.heap.size := by have := hg.size; omega
      have hgb' : b' < wo.heap.size := by have := hg.size; omega
      have c0 := hc 0 _ rfl
      have c1 := hc 1 _ rfl
      have c2 := hc 2 _ rfl
      simp only [Nat.add_zero] at c0
      have d0 := hc' 0 _ rfl
      have d1 := hc' 1 _ rfl
      have d2 := hc' 2 _ rfl
      simp only [Nat.add_zero] at d0
      have n1 : (0 : Int) ≤ (k : Int) := by omega
      have n2 : (k : Int) < (ss.length : Int) := by omega
      have t1 : (pn.toList == pn.toList) = true := by simp
      have t2 : (pn.toList != pn.toList) = false := by simp
      have hse : ∀ w', G wo w' → Calls Tryd.prog 57 #[.slice pA pe.length pc, .slice pA' pe.length pc'] w' fun e w'' => e = .returned (.bool true) ∧ G w' w'' := fun w' h => by
        have := sameEvents_any pe pe pA pA' pc pc' w.heap.size w' (hg.trans h).size z1 z1 (hdat.1.g (Nat.le_refl _) (hg.trans h)) (hdat'.1.g (Nat.le_refl _) (hg.trans h))
        unfold evsB at this
        simpa using this
      have x0 : ∀ w', G wo w' → w'.cell? ⟨b, o + k * 3, none⟩ = some (.string pn) := fun w' h => (h.cell hgb).trans c0
      have y0 : ∀ w', G wo w' → w'.cell? ⟨b', o' + k * 3, none⟩ = some (.string pn) := fun w' h => (h.cell hgb').trans d0
      have x1 : ∀ w', G wo w' → w'.cell? ⟨b, o + k * 3 + 1, none⟩ = some (.slice pA pe.length pc) := fun w' h => (h.cell hgb).trans c1
      have x2 : ∀ w', G wo w' → w'.cell? ⟨b, o + k * 3 + 2, none⟩ = some (.slice pA2 pk.length pc2) := fun w' h => (h.cell hgb).trans c2
      have y1 : ∀ w', G wo w' → w'.cell? ⟨b', o' + k * 3 + 1, none⟩ = some (.slice pA' pe.length pc') := fun w' h => (h.cell hgb').trans d1
      have y2 : ∀ w', G wo w' → w'.cell? ⟨b', o' + k * 3 + 2, none⟩ = some (.slice pA2' pk.length pc2') := fun w' h => (h.cell hgb').trans d2
      replace hdat := Lib.hid hdat
      replace hdat' := Lib.hid hdat'
      clear hp hp' hc hc'
      go_upto_region 6 with fail
      refine wp_region_held_drew (S := fun w' => G wo w') (by kernel_rfl) ((G.refl _).drew) (fun hHeld => ?_)
      refine lin_take 0 (some 18) (v := ?_) (by kernel_rfl) (by kernel_rfl) (by kernel_rfl) (by kernel_rfl) (fun _ _ _ h => h) (by kernel_rfl) ?_ (by assumption) ?_; rotate_left; focus (intro w hSw; (try dsimp only at hSw); simp only [List.getElem?_toArray, List.getElem?_cons_zero, Option.map_some, Option.some.injEq]; go_simp; (first | done | with_reducible rfl))
      try simp only [Act.put, List.setIfInBounds_toArray, List.set_cons_zero, List.set_cons_succ]
      refine lin_take 1 (some 19) (v := ?_) (by kernel_rfl) (by kernel_rfl) (by kernel_rfl) (by kernel_rfl) (fun _ _ _ h => h) (by kernel_rfl) ?_ (by assumption) ?_; rotate_left; focus (intro w hSw; (try dsimp only at hSw); simp only [List.getElem?_toArray, List.getElem?_cons_zero, List.getElem?_cons_succ, Option.map_some, Option.some.injEq]; go_simp; (first | done | with_reducible rfl))
      try simp only [Act.put, List.setIfInBounds_toArray, List.set_cons_zero, List.set_cons_succ]
      refine lin_take 2 (some 20) (v := ?_) (by kernel_rfl) (by kernel_rfl) (by kernel_rfl) (by kernel_rfl) (fun _ _ _ h => h) (by kernel_rfl) ?_ (by assumption) ?_; rotate_left; focus (intro w hSw; (try dsimp only at hSw); simp only [List.getElem?_toArray, List.getElem?_cons_zero, List.getElem?_cons_succ, Option.map_some, Option.some.injEq]; go_simp; (first | done | with_reducible rfl))
      try simp only [Act.put, List.setIfInBounds_toArray, List.set_cons_zero, List.set_cons_succ]
      refine lin_take 3 (some 21) (v := ?_) (by kernel_rfl) (by kernel_rfl) (by kernel_rfl) (by kernel_rfl) (fun _ _ _ h => h) (by kernel_rfl) ?_ (by assumption) ?_; rotate_left; focus (intro w hSw; (try dsimp only at hSw); simp only [List.getElem?_toArray, List.getElem?_cons_zero, List.getElem?_cons_succ, Option.map_some, Option.some.injEq]; go_simp; (first | done | with_reducible rfl))
      try simp only [Act.put, List.setIfInBounds_toArray, List.set_cons_zero, List.set_cons_succ]
      refine lin_take 4 (some 22) (v := ?_) (by kernel_rfl) (by kernel_rfl) (by kernel_rfl) (by kernel_rfl) (fun _ _ _ h => h) (by kernel_rfl) ?_ (by assumption) ?_; rotate_left; focus (intro w hSw; (try dsimp only at hSw); simp only [List.getElem?_toArray, List.getElem?_cons_zero, List.getElem?_cons_succ, Option.map_some, Option.some.injEq]; go_simp; (first | done | with_reducible rfl))
      try simp only [Act.put, List.setIfInBounds_toArray, List.set_cons_zero, List.set_cons_succ]
      refine lin_take 5 (some 23) (v := ?_) (by kernel_rfl) (by kernel_rfl) (by kernel_rfl) (by kernel_rfl) (fun _ _ _ h => h) (by kernel_rfl) ?_ (by assumption) ?_; rotate_left; focus (intro w hSw; (try dsimp only at hSw); simp only [List.getElem?_toArray, List.getElem?_cons_zero, List.getElem?_cons_succ, Option.map_some, Option.some.injEq]; go_simp; (first | done | with_reducible rfl))
      try simp only [Act.put, List.setIfInBounds_toArray, List.set_cons_zero, List.set_cons_succ]
      refine lin_take 6 (some 24) (v := ?_) (by kernel_rfl) (by kernel_rfl) (by kernel_rfl) (by kernel_rfl) (fun _ _ _ h => h) (by kernel_rfl) ?_ (by assumption) ?_; rotate_left; focus (intro w hSw; (try dsimp only at hSw); simp only [List.getElem?_toArray, List.getElem?_cons_zero, List.getElem?_cons_succ, Option.map_some, Option.some.injEq]; go_simp; (first | done | with_reducible rfl))
      try simp only [Act.put, List.setIfInBounds_toArray, List.set_cons_zero, List.set_cons_succ]
      refine lin_take 7 (some 25) (v := ?_) (by kernel_rfl) (by kernel_rfl) (by kernel_rfl) (by kernel_rfl) (fun _ _ _ h => h) (by kernel_rfl) ?_ (by assumption) ?_; rotate_left; focus (intro w hSw; (try dsimp only at hSw); simp only [List.getElem?_toArray, List.getElem?_cons_zero, List.getElem?_cons_succ, Option.map_some, Option.some.injEq]; go_simp; (first | done | with_reducible rfl))
      try simp only [Act.put, List.setIfInBounds_toArray, List.set_cons_zero, List.set_cons_succ]
      refine lin_take 8 (some 26) (v := ?_) (by kernel_rfl) (by kernel_rfl) (by kernel_rfl) (by kernel_rfl) (fun _ _ _ h => h) (by kernel_rfl) ?_ (by assumption) ?_; rotate_left; focus (intro w hSw; (try dsimp only at hSw); simp only [List.getElem?_toArray, List.getElem?_cons_zero, List.getElem?_cons_succ, Option.map_some, Option.some.injEq]; go_simp; (first | done | with_reducible rfl))
      try simp only [Act.put, List.setIfInBounds_toArray, List.set_cons_zero, List.set_cons_succ]
      refine lin_take 9 (some 27) (v := ?_) (by kernel_rfl) (by kernel_rfl) (by kernel_rfl) (by kernel_rfl) (fun _ _ _ h => h) (by kernel_rfl) ?_ (by assumption) ?_; rotate_left; focus (intro w hSw; (try dsimp only at hSw); simp only [List.getElem?_toArray, List.getElem?_cons_zero, List.getElem?_cons_succ, Option.map_some, Option.some.injEq]; go_simp; (first | done | with_reducible rfl))
      try simp only [Act.put, List.setIfInBounds_toArray, List.set_cons_zero, List.set_cons_succ]
      refine lin_take 10 (some 28) (v := ?_) (by kernel_rfl) (by kernel_rfl) (by kernel_rfl) (by kernel_rfl) (fun _ _ _ h => h) (by kernel_rfl) ?_ (by assumption) ?_; rotate_left; focus (intro w hSw; (try dsimp only at hSw); simp only [List.getElem?_toArray, List.getElem?_cons_zero, List.getElem?_cons_succ, Option.map_some, Option.some.injEq]; go_simp; (first | done | with_reducible rfl))
      try simp only [Act.put, List.setIfInBounds_toArray, List.set_cons_zero, List.set_cons_succ]
      refine lin_take 11 (some 29) (v := ?_) (by kernel_rfl) (by kernel_rfl) (by kernel_rfl) (by kernel_rfl) (fun _ _ _ h => h) (by kernel_rfl) ?_ (by assumption) ?_; rotate_left; focus (intro w hSw; (try dsimp only at hSw); simp only [List.getElem?_toArray, List.getElem?_cons_zero, List.getElem?_cons_succ, Option.map_some, Option.some.injEq]; go_simp; (first | done | with_reducible rfl))
      try simp only [Act.put, List.setIfInBounds_toArray, List.set_cons_zero, List.set_cons_succ]
      refine lin_take 12 (some 30) (v := ?_) (by kernel_rfl) (by kernel_rfl) (by kernel_rfl) (by kernel_rfl) (fun _ _ _ h => h) (by kernel_rfl) ?_ (by assumption) ?_; rotate_left; focus (intro w hSw; (try dsimp only at hSw); simp only [List.getElem?_toArray, List.getElem?_cons_zero, List.getElem?_cons_succ, Option.map_some, Option.some.injEq]; go_simp; (first | done | with_reducible rfl))
      try simp only [Act.put, List.setIfInBounds_toArray, List.set_cons_zero, List.set_cons_succ]
      refine lin_take 13 (some 31) (v := ?_) (by kernel_rfl) (by kernel_rfl) (by kernel_rfl) (by kernel_rfl) (fun _ _ _ h => h) (by kernel_rfl) ?_ (by assumption) ?_; rotate_left; focus (intro w hSw; (try dsimp only at hSw); simp only [List.getElem?_toArray, List.getElem?_cons_zero, List.getElem?_cons_succ, Option.map_some, Option.some.injEq]; go_simp; (first | done | with_reducible rfl))
      try simp only [Act.put, List.setIfInBounds_toArray, List.set_cons_zero, List.set_cons_succ]
      refine lin_take 14 (some 32) (v := ?_) (by kernel_rfl) (by kernel_rfl) (by kernel_rfl) (by kernel_rfl) (fun _ _ _ h => h) (by kernel_rfl) ?_ (by assumption) ?_; rotate_left; focus (intro w hSw; (try dsimp only at hSw); simp only [List.getElem?_toArray, List.getElem?_cons_zero, List.getElem?_cons_succ, Option.map_some, Option.some.injEq]; go_simp; (first | done | with_reducible rfl))
      try simp only [Act.put, List.setIfInBounds_toArray, List.set_cons_zero, List.set_cons_succ]
      refine lin_take 15 (some 33) (v := ?_) (by kernel_rfl) (by kernel_rfl) (by kernel_rfl) (by kernel_rfl) (fun _ _ _ h => h) (by kernel_rfl) ?_ (by assumption) ?_; rotate_left; focus (intro w hSw; (try dsimp only at hSw); simp only [List.getElem?_toArray, List.getElem?_cons_zero, List.getElem?_cons_succ, Option.map_some, Option.some.injEq]; go_simp; (first | done | with_reducible rfl))
      try simp only [Act.put, List.setIfInBounds_toArray, List.set_cons_zero, List.set_cons_succ]
      refine lin_take 16 (some 34) (v := ?_) (by kernel_rfl) (by kernel_rfl) (by kernel_rfl) (by kernel_rfl) (fun _ _ _ h => h) (by kernel_rfl) ?_ (by assumption) ?_; rotate_left; focus (intro w hSw; (try dsimp only at hSw); simp only [List.getElem?_toArray, List.getElem?_cons_zero, List.getElem?_cons_succ, Option.map_some, Option.some.injEq]; go_simp; (first | done | with_reducible rfl))
      try simp only [Act.put, List.setIfInBounds_toArray, List.set_cons_zero, List.set_cons_succ]
      refine lin_take 17 (some 35) (v := ?_) (by kernel_rfl) (by kernel_rfl) (by kernel_rfl) (by kernel_rfl) (fun _ _ _ h => h) (by kernel_rfl) ?_ (by assumption) ?_; rotate_left; focus (intro w hSw; (try dsimp only at hSw); simp only [List.getElem?_toArray, List.getElem?_cons_zero, List.getElem?_cons_succ, Option.map_some, Option.some.injEq]; go_simp; (first | done | with_reducible rfl))
      try simp only [Act.put, List.setIfInBounds_toArray, List.set_cons_zero, List.set_cons_succ]
      refine lin_take 18 (some 36) (v := ?_) (by kernel_rfl) (by kernel_rfl) (by kernel_rfl) (by kernel_rfl) (fun _ _ _ h => h) (by kernel_rfl) ?_ (by assumption) ?_; rotate_left; focus (intro w hSw; (try dsimp only at hSw); simp only [List.getElem?_toArray, List.getElem?_cons_zero, List.getElem?_cons_succ, Option.map_some, Option.some.injEq]; go_simp; (first | done | with_reducible rfl))
      try simp only [Act.put, List.setIfInBounds_toArray, List.set_cons_zero, List.set_cons_succ]
      refine lin_take 19 (some 37) (v := ?_) (by kernel_rfl) (by kernel_rfl) (by kernel_rfl) (by kernel_rfl) (fun _ _ _ h => h) (by kernel_rfl) ?_ (by assumption) ?_; rotate_left; focus (intro w hSw; (try dsimp only at hSw); simp only [List.getElem?_toArray, List.getElem?_cons_zero, List.getElem?_cons_succ, Option.map_some, Option.some.injEq]; go_simp; (first | done | with_reducible rfl))
      try simp only [Act.put, List.setIfInBounds_toArray, List.set_cons_zero, List.set_cons_succ]
      refine lin_take 20 (some 38) (v := ?_) (by kernel_rfl) (by kernel_rfl) (by kernel_rfl) (by kernel_rfl) (fun _ _ _ h => h) (by kernel_rfl) ?_ (by assumption) ?_; rotate_left; focus (intro w hSw; (try dsimp only at hSw); simp only [List.getElem?_toArray, List.getElem?_cons_zero, List.getElem?_cons_succ, Option.map_some, Option.some.injEq]; go_simp; (first | done | with_reducible rfl))
      try simp only [Act.put, List.setIfInBounds_toArray, List.set_cons_zero, List.set_cons_succ]
      refine lin_take 21 (some 39) (v := ?_) (by kernel_rfl) (by kernel_rfl) (by kernel_rfl) (by kernel_rfl) (fun _ _ _ h => h) (by kernel_rfl) ?_ (by assumption) ?_; rotate_left; focus (intro w hSw; (try dsimp only at hSw); simp only [List.getElem?_toArray, List.getElem?_cons_zero, List.getElem?_cons_succ, Option.map_some, Option.some.injEq]; go_simp; (first | done | with_reducible rfl))
      try simp only [Act.put, List.setIfInBounds_toArray, List.set_cons_zero, List.set_cons_succ]
      refine wpAnyH_ready (rs := [22]) (by kernel_rfl) (by simp) ?_
      refine AllReadyH.cons (i := 22) rfl (fun K hK => ?_) AllReadyH.nil
      go_simp
      refine Calls.mono (hse _ (by assumption)) ?_
      rintro e u1 ⟨rfl, hgm⟩
      go_wp2_with fail
      refine hK.out _ _ (hgm.keep (by assumption)) (fun hHeld => ?_)
      clear hK K
      try simp only [Act.put, List.setIfInBounds_toArray, List.set_cons_zero, List.set_cons_succ]
      refine lin_take 23 (some 41) (v := ?_) (by kernel_rfl) (by kernel_rfl) (by kernel_rfl) (by kernel_rfl) (fun _ _ _ h => h) (by kernel_rfl) ?_ (by assumption) ?_; rotate_left; focus (intro w hSw; (try dsimp only at hSw); simp only [List.getElem?_toArray, List.getElem?_cons_zero, List.getElem?_cons_succ, Option.map_some, Option.some.injEq]; go_simp; (first | done | with_reducible rfl))
      try simp only [Act.put, List.setIfInBounds_toArray, List.set_cons_zero, List.set_cons_succ]
      refine lin_take 24 (some 42) (v := ?_) (by kernel_rfl) (by kernel_rfl) (by kernel_rfl) (by kernel_rfl) (fun _ _ _ h => h) (by kernel_rfl) ?_ (by assumption) ?_; rotate_left; focus (intro w hSw; (try dsimp only at hSw); simp only [List.getElem?_toArray, List.getElem?_cons_zero, List.getElem?_cons_succ, Option.map_some, Option.some.injEq]; go_simp; (first | done | with_reducible rfl))
      try simp only [Act.put, List.setIfInBounds_toArray, List.set_cons_zero, List.set_cons_succ]
      refine lin_take 25 (some 43) (v := ?_) (by kernel_rfl) (by kernel_rfl) (by kernel_rfl) (by kernel_rfl) (fun _ _ _ h => h) (by kernel_rfl) ?_ (by assumption) ?_; rotate_left; focus (intro w hSw; (try dsimp only at hSw); simp only [List.getElem?_toArray, List.getElem?_cons_zero, List.getElem?_cons_succ, Option.map_some, Option.some.injEq]; go_simp; (first | done | with_reducible rfl))
      try simp only [Act.put, List.setIfInBounds_toArray, List.set_cons_zero, List.set_cons_succ]
      refine lin_take 26 (some 44) (v := ?_) (by kernel_rfl) (by kernel_rfl) (by kernel_rfl) (by kernel_rfl) (fun _ _ _ h => h) (by kernel_rfl) ?_ (by assumption) ?_; rotate_left; focus (intro w hSw; (try dsimp only at hSw); simp only [List.getElem?_toArray, List.getElem?_cons_zero, List.getElem?_cons_succ, Option.map_some, Option.some.injEq]; go_simp; (first | done | with_reducible rfl))
      try simp only [Act.put, List.setIfInBounds_toArray, List.set_cons_zero, List.set_cons_succ]
      refine lin_take 27 (some 45) (v := ?_) (by kernel_rfl) (by kernel_rfl) (by kernel_rfl) (by kernel_rfl) (fun _ _ _ h => h) (by kernel_rfl) ?_ (by assumption) ?_; rotate_left; focus (intro w hSw; (try dsimp only at hSw); simp only [List.getElem?_toArray, List.getElem?_cons_zero, List.getElem?_cons_succ, Option.map_some, Option.some.injEq]; go_simp; (first | done | with_reducible rfl))
      try simp only [Act.put, List.setIfInBounds_toArray, List.set_cons_zero, List.set_cons_succ]
      refine lin_take 28 (some 46) (v := ?_) (by kernel_rfl) (by kernel_rfl) (by kernel_rfl) (by kernel_rfl) (fun _ _ _ h => h) (by kernel_rfl) ?_ (by assumption) ?_; rotate_left; focus (intro w hSw; (try dsimp only at hSw); simp only [List.getElem?_toArray, List.getElem?_cons_zero, List.getElem?_cons_succ, Option.map_some, Option.some.injEq]; go_simp; (first | done | with_reducible rfl))
      try simp only [Act.put, List.setIfInBounds_toArray, List.set_cons_zero, List.set_cons_succ]
      refine lin_take 29 (some 47) (v := ?_) (by kernel_rfl) (by kernel_rfl) (by kernel_rfl) (by kernel_rfl) (fun _ _ _ h => h) (by kernel_rfl) ?_ (by assumption) ?_; rotate_left; focus (intro w hSw; (try dsimp only at hSw); simp only [List.getElem?_toArray, List.getElem?_cons_zero, List.getElem?_cons_succ, Option.map_some, Option.some.injEq]; go_simp; (first | done | with_reducible rfl))
      try simp only [Act.put, List.setIfInBounds_toArray, List.set_cons_zero, List.set_cons_succ]
      refine lin_take 30 (some 48) (v := ?_) (by kernel_rfl) (by kernel_rfl) (by kernel_rfl) (by kernel_rfl) (fun _ _ _ h => h) (by kernel_rfl) ?_ (by assumption) ?_; rotate_left; focus (intro w hSw; (try dsimp only at hSw); simp only [List.getElem?_toArray, List.getElem?_cons_zero, List.getElem?_cons_succ, Option.map_some, Option.some.injEq]; go_simp; (first | done | with_reducible rfl))
      try simp only [Act.put, List.setIfInBounds_toArray, List.set_cons_zero, List.set_cons_succ]
      refine lin_take 31 (some 49) (v := ?_) (by kernel_rfl) (by kernel_rfl) (by kernel_rfl) (by kernel_rfl) (fun _ _ _ h => h) (by kernel_rfl) ?_ (by assumption) ?_; rotate_left; focus (intro w hSw; (try dsimp only at hSw); simp only [List.getElem?_toArray, List.getElem?_cons_zero, List.getElem?_cons_succ, Option.map_some, Option.some.injEq]; go_simp; (first | done | with_reducible rfl))
      try simp only [Act.put, List.setIfInBounds_toArray, List.set_cons_zero, List.set_cons_succ]
      refine lin_take 32 (some 50) (v := ?_) (by kernel_rfl) (by kernel_rfl) (by kernel_rfl) (by kernel_rfl) (fun _ _ _ h => h) (by kernel_rfl) ?_ (by assumption) ?_; rotate_left; focus (intro w hSw; (try dsimp only at hSw); simp only [List.getElem?_toArray, List.getElem?_cons_zero, List.getElem?_cons_succ, Option.map_some, Option.some.injEq]; go_simp; (first | done | with_reducible rfl))
      try simp only [Act.put, List.setIfInBounds_toArray, List.set_cons_zero, List.set_cons_succ]
      refine lin_take 33 (some 51) (v := ?_) (by kernel_rfl) (by kernel_rfl) (by kernel_rfl) (by kernel_rfl) (fun _ _ _ h => h) (by kernel_rfl) ?_ (by assumption) ?_; rotate_left; focus (intro w hSw; (try dsimp only at hSw); simp only [List.getElem?_toArray, List.getElem?_cons_zero, List.getElem?_cons_succ, Option.map_some, Option.some.injEq]; go_simp; (first | done | with_reducible rfl))
      try simp only [Act.put, List.setIfInBounds_toArray, List.set_cons_zero, List.set_cons_succ]
      refine lin_take 34 (some 52) (v := ?_) (by kernel_rfl) (by kernel_rfl) (by kernel_rfl) (by kernel_rfl) (fun _ _ _ h => h) (by kernel_rfl) ?_ (by assumption) ?_; rotate_left; focus (intro w hSw; (try dsimp only at hSw); simp only [List.getElem?_toArray, List.getElem?_cons_zero, List.getElem?_cons_succ, Option.map_some, Option.some.injEq]; go_simp; (first | done | with_reducible rfl))
      try simp only [Act.put, List.setIfInBounds_toArray, List.set_cons_zero, List.set_cons_succ]
      refine lin_take 35 (some 53) (v := ?_) (by kernel_rfl) (by kernel_rfl) (by kernel_rfl) (by kernel_rfl) (fun _ _ _ h => h) (by kernel_rfl) ?_ (by assumption) ?_; rotate_left; focus (intro w hSw; (try dsimp only at hSw); simp only [List.getElem?_toArray, List.getElem?_cons_zero, List.getElem?_cons_succ, Option.map_some, Option.some.injEq]; go_simp; (first | done | with_reducible rfl))
      try simp only [Act.put, List.setIfInBounds_toArray, List.set_cons_zero, List.set_cons_succ]
      refine lin_take 36 (some 54) (v := ?_) (by kernel_rfl) (by kernel_rfl) (by kernel_rfl) (by kernel_rfl) (fun _ _ _ h => h) (by kernel_rfl) ?_ (by assumption) ?_; rotate_left; focus (intro w hSw; (try dsimp only at hSw); simp only [List.getElem?_toArray, List.getElem?_cons_zero, List.getElem?_cons_succ, Option.map_some, Option.some.injEq]; go_simp; (first | done | with_reducible rfl))
      try simp only [Act.put, List.setIfInBounds_toArray, List.set_cons_zero, List.set_cons_succ]
      refine lin_take 37 (some 55) (v := ?_) (by kernel_rfl) (by kernel_rfl) (by kernel_rfl) (by kernel_rfl) (fun _ _ _ h => h) (by kernel_rfl) ?_ (by assumption) ?_; rotate_left; focus (intro w hSw; (try dsimp only at hSw); simp only [List.getElem?_toArray, List.getElem?_cons_zero, List.getElem?_cons_succ, Option.map_some, Option.some.injEq]; go_simp; (first | done | with_reducible rfl))
      try simp only [Act.put, List.setIfInBounds_toArray, List.set_cons_zero, List.set_cons_succ]
      refine lin_take 38 (some 56) (v := ?_) (by kernel_rfl) (by kernel_rfl) (by kernel_rfl) (by kernel_rfl) (fun _ _ _ h => h) (by kernel_rfl) ?_ (by assumption) ?_; rotate_left; focus (intro w hSw; (try dsimp only at hSw); simp only [List.getElem?_toArray, List.getElem?_cons_zero, List.getElem?_cons_succ, Option.map_some, Option.some.injEq]; go_simp; (first | done | with_reducible rfl))
      try simp only [Act.put, List.setIfInBounds_toArray, List.set_cons_zero, List.set_cons_succ]
      refine lin_take 39 (some 57) (v := ?_) (by kernel_rfl) (by kernel_rfl) (by kernel_rfl) (by kernel_rfl) (fun _ _ _ h => h) (by kernel_rfl) ?_ (by assumption) ?_; rotate_left; focus (intro w hSw; (try dsimp only at hSw); simp only [List.getElem?_toArray, List.getElem?_cons_zero, List.getElem?_cons_succ, Option.map_some, Option.some.injEq]; go_simp; (first | done | with_reducible rfl))
      try simp only [Act.put, List.setIfInBounds_toArray, List.set_cons_zero, List.set_cons_succ]
      refine wpAnyH_done (by kernel_rfl) ?_ _
      have hge : G wo u1 := by assumption
      go_wp2_with fail
      go_loopw [6] (fun i wr => ∃ j : Nat, i = .int .i64 j ∧ j ≤ pk.length ∧ G wo wr) (fun i _ => pk.length - (intOf i).toNat)
      case atStart => exact ⟨0, rfl, Nat.zero_le _, by assumption⟩
      case round =>
        obtain ⟨j, rfl, hjl, hgw⟩ := hrel
        have hgt := hg.trans hgw
        have x2w := x2 _ hgw
        have y2w := y2 _ hgw
        by_cases hjt : j < pk.length
        · obtain ⟨⟨yk, yv, ⟨ya, yb, yc⟩⟩, ht⟩ : ∃ t, pk[j]? = some t := ⟨_, List.getElem?_eq_getElem hjt⟩
          obtain ⟨b3, o3, rfl, _, f⟩ := (hdat.out.2.g (Nat.le_refl _) hgt).get ht
          obtain ⟨b4, o4, rfl, _, f'⟩ := (hdat'.out.2.g (Nat.le_refl _) hgt).get ht
          have f0 := f 0 _ rfl
          have f1 := f 1 _ rfl
          have f2 := f 2 _ rfl
          have f3 := f 3 _ rfl
          have f4 := f 4 _ rfl
          simp only [Nat.add_zero] at f0
          have e0 := f' 0 _ rfl
          have e1 := f' 1 _ rfl
          have e2 := f' 2 _ rfl
          have e3 := f' 3 _ rfl
          have e4 := f' 4 _ rfl
          simp only [Nat.add_zero] at e0
          have m1 : (0 : Int) ≤ (j : Int) := by omega
          have m2 : (j : Int) < (pk.length : Int) := by omega
          clear ht f f' hse
          go_upto_region 11 with fail
          go_quiet (fail)
          go_wp2_with fail
          go_roundw
          case rel => exact ⟨j + 1, by go_num, by omega, by first | exact hgw | exact hgw.drew | exact hgw.drewN _⟩
          case measure => (simp [intOf] <;> omega)
        · go_wp2_with fail
          go_roundw
          case rel => exact ⟨k + 1, by go_num, by omega, hg.trans hgw⟩
          case measure => (simp [intOf] <;> omega)
    · go_wp2_with fail
      go_ret
      exact ⟨rfl, hg⟩
end Go.Proofs.YtilfgafdkiaaaaaDoor
/- penstockalike.Bytes of two rows alike: true. Condition: lengths that fit an int. -/
namespace Go.Proofs.YtilfgafdkiaaaaaDoor
open Go.RowKit

set_option maxRecDepth 100000 in
set_option maxHeartbeats 1000000 in
theorem bytesSelf_any (l : List UInt8) (A A2 : Option Addr) (c c2 B : Nat) (w : World) (hB : B ≤ w.heap.size) (hs : Sl byteC 1 w B A l) (hs2 : Sl byteC 1 w B A2 l) (hl : l.length ≤ 9223372036854775806) :
    Calls Tryd.prog 17 #[.slice A l.length c, .slice A2 l.length c2] w fun e w' => e = .returned (.bool true) ∧ G w w' := by
  go_enter Tryd.func17, Tryd.ntmps17
  go_wp2_with fail
  go_loopw [5] (fun i wr => ∃ (k : Nat), k ≤ l.length ∧ i = .int .i64 k ∧ G w wr) (fun i _ => l.length - (intOf i).toNat)
  case atStart => exact ⟨0, Nat.zero_le _, rfl, G.refl _⟩
  case round =>
    obtain ⟨k, hk, rfl, hg⟩ := hrel
    by_cases hlt : k < l.length
    · obtain ⟨x, hx⟩ : ∃ x, l[k]? = some x := ⟨_, List.getElem?_eq_getElem hlt⟩
      obtain ⟨b, o, rfl, hb, hc⟩ := (hs.g hB hg).byte hx
      obtain ⟨b2, o2, rfl, hb2, hc2⟩ := (hs2.g hB hg).byte hx
      have n1 : (0 : Int) ≤ (k : Int) := by omega
      have n2 : (k : Int) < (l.length : Int) := by omega
      clear hx hs hs2
      go_wp2_with fail
      go_quiet (fail)
      go_wp2_with fail
      go_roundw
      case rel => exact ⟨k + 1, by omega, by go_num, hg.drewN _⟩
      case measure => (simp [intOf] <;> omega)
    · have n2 : ¬ (k : Int) < (l.length : Int) := by omega
      clear hs hs2
      go_wp2_with fail
      go_ret
      exact ⟨rfl, hg⟩
end Go.Proofs.YtilfgafdkiaaaaaDoor
/- event.Make: what it answers. Conditions: lengths and numbers so small that nothing wraps. -/
namespace Go.Proofs.YtilfgafdkiaaaaaDoor
open Go.RowKit

/-- The events of one Put. -/
def makePut (p : PutM) (first step : Int) (st : St) (ix : Int) : List Ev := p.data.mapIdx fun k d => ⟨p.stream, first + step * k, d, st, ix + k⟩
/-- The events of the Puts from number i on. -/
def makeFrom (firsts : List Int) (st : St) : Nat → Int → List PutM → List Ev
  | _, _, [] => []
  | i, ix, p :: l => makePut p (firsts.getD i 0) (if i < firsts.length then 1 else 0) st ix ++ makeFrom firsts st (i + 1) (ix + p.data.length) l
/-- How many events. -/
def evCount (ps : List PutM) : Nat := (ps.map fun p => p.data.length).sum

/-- A call answers a list of events of its own, and turns nothing that was there. -/
def RetEvs (w : World) (es : List Ev) (e : Ending) (w' : World) : Prop := ∃ v, e = .returned v ∧ Own w' w.heap.size v es ∧ G w w'

theorem makePut_length (p : PutM) (first step : Int) (st : St) (ix : Int) : (makePut p first step st ix).length = p.data.length := by simp [makePut]
theorem makePut_succ (p : PutM) (first step : Int) (st : St) (ix : Int) (j : Nat) (d : ByteArray) (h : p.data[j]? = some d) :
    (makePut p first step st ix).take (j + 1) = (makePut p first step st ix).take j ++ [⟨p.stream, first + step * j, d, st, ix + j⟩] := by
  obtain ⟨hk, rfl⟩ := List.getElem?_eq_some_iff.1 h
  rw [List.take_succ_eq_append_getElem (by simpa [makePut] using hk)]
  simp [makePut]
theorem makeFrom_drop (firsts : List Int) (st : St) (ix : Int) (ps : List PutM) (k : Nat) (p : PutM) (h : ps[k]? = some p) :
    makeFrom firsts st k ix (ps.drop k) = makePut p (firsts.getD k 0) (if k < firsts.length then 1 else 0) st ix ++ makeFrom firsts st (k + 1) (ix + p.data.length) (ps.drop (k + 1)) := by
  obtain ⟨hk, rfl⟩ := List.getElem?_eq_some_iff.1 h
  rw [List.drop_eq_getElem_cons hk]
  rfl
theorem evCount_drop (ps : List PutM) (k : Nat) (p : PutM) (h : ps[k]? = some p) : evCount (ps.drop k) = p.data.length + evCount (ps.drop (k + 1)) := by
  obtain ⟨hk, rfl⟩ := List.getElem?_eq_some_iff.1 h
  unfold evCount
  rw [List.drop_eq_getElem_cons hk, List.map_cons, List.sum_cons]

set_option maxHeartbeats 1000000 in
theorem make_any (key : ByteArray) (ps : List PutM) (A A2 : Option Addr) (c c2 B : Nat) (firsts : List Int) (st : St) (ix : Int) (w : World) (hB : B ≤ w.heap.size)
    (hl : ps.length ≤ 9223372036854775807) (_hl2 : firsts.length ≤ 9223372036854775807) (hn : evCount ps ≤ 1099511627776)
    (hf : ∀ f ∈ firsts, -1099511627776 ≤ f ∧ f ≤ 1099511627776) (hix : -1099511627776 ≤ ix ∧ ix ≤ 1099511627776)
    (hs : PutsIn w B A ps) (hs2 : Sl intC 1 w B A2 firsts) :
    Calls Tryd.prog 13 #[.agg #[.string key, .slice A ps.length c], .slice A2 firsts.length c2, .agg #[.int .i64 st.wall, .int .i64 st.logic, .int .i64 st.node], .int .i64 ix] w
      (RetEvs w (makeFrom firsts st 0 ix ps)) := by
  go_enter Tryd.func13, Tryd.ntmps13
  go_wp2_with fail
  generalize hW0 : (w.alloc (.cells #[.string key, .slice A ps.length c] 25)).alloc (.cells #[.int .i64 st.wall, .int .i64 st.logic, .int .i64 st.node] 35) = W0
  have hz : w.heap.size + 1 < W0.heap.size := by rw [← hW0]; simp
  have hS0 : W0.cell? ⟨w.heap.size + 1, 0, none⟩ = some (.int .i64 st.wall) := by rw [← hW0]; simp
  have hS1 : W0.cell? ⟨w.heap.size + 1, 1, none⟩ = some (.int .i64 st.logic) := by rw [← hW0]; simp
  have hS2 : W0.cell? ⟨w.heap.size + 1, 2, none⟩ = some (.int .i64 st.node) := by rw [← hW0]; simp
  have hG0 : G w W0 := by rw [← hW0]; exact (G.new _ _).alloc _
  clear hW0
  have q0 : ∀ w', G W0 w' → w'.cell? ⟨w.heap.size + 1, 0, none⟩ = some (.int .i64 st.wall) := fun w' h => (h.cell (by omega)).trans hS0
  have q1 : ∀ w', G W0 w' → w'.cell? ⟨w.heap.size + 1, 1, none⟩ = some (.int .i64 st.logic) := fun w' h => (h.cell (by omega)).trans hS1
  have q2 : ∀ w', G W0 w' → w'.cell? ⟨w.heap.size + 1, 2, none⟩ = some (.int .i64 st.node) := fun w' h => (h.cell (by omega)).trans hS2
  clear hS0 hS1 hS2
  replace hs := hs.g hB hG0
  replace hs2 := hs2.g hB hG0
  go_loopw [8, 18] (fun v i wr => ∃ (k : Nat) (out : List Ev), k ≤ ps.length ∧ i = .int .i64 k ∧ Own wr W0.heap.size v out ∧ G W0 wr ∧ out.length + evCount (ps.drop k) ≤ 1099511627776 ∧ Hid (makeFrom firsts st 0 ix ps = out ++ makeFrom firsts st k (ix + out.length) (ps.drop k))) (fun _ i _ => ps.length - (intOf i).toNat)
  case atStart => exact ⟨0, [], Nat.zero_le _, rfl, Own.nil _ _, G.refl _, by simpa using hn, by simp [Hid]⟩
  case round =>
    obtain ⟨k, out, hk, rfl, hown, hg, hcnt, hh⟩ := hrel
    by_cases hlt : k < ps.length
    · obtain ⟨p, hp⟩ : ∃ p, ps[k]? = some p := ⟨_, List.getElem?_eq_getElem hlt⟩
      obtain ⟨sm, pe, pA, pc, dat⟩ := p
      obtain ⟨b, o, rfl, hbB, hcells⟩ := hs.1.get hp
      have hpm := List.mem_of_getElem? hp
      have hcp : out.length + dat.length + evCount (ps.drop (k + 1)) ≤ 1099511627776 := by rw [evCount_drop ps k _ hp] at hcnt; simpa [Nat.add_assoc] using hcnt
      have hfd := Lib.hid (makeFrom_drop firsts st (ix + out.length) ps k _ hp)
      clear hcnt
      have hdat : ∀ w', G W0 w' → Sl strC 1 w' B pA dat := fun w' h => (hs.2 _ hpm).g (by have := hG0.size; omega) h
      have hc0 : wr.cell? ⟨b, o + k * 3, none⟩ = some (.string sm) := (hg.cell (by have := hG0.size; omega)).trans (hcells 0 _ rfl)
      have hc1 : wr.cell? ⟨b, o + k * 3 + 1, none⟩ = some (.int .i64 pe) := (hg.cell (by have := hG0.size; omega)).trans (hcells 1 _ rfl)
      have hc2 : wr.cell? ⟨b, o + k * 3 + 2, none⟩ = some (.slice pA dat.length pc) := (hg.cell (by have := hG0.size; omega)).trans (hcells 2 _ rfl)
      clear hcells hs
      by_cases hkf : k < firsts.length
      · obtain ⟨f, hf1⟩ : ∃ f, firsts[k]? = some f := ⟨_, List.getElem?_eq_getElem hkf⟩
        obtain ⟨b2, o2, rfl, hb2, hcf⟩ := hs2.int hf1
        replace hcf := (hg.cell (by have := hG0.size; omega)).trans hcf
        have hb2w : b2 < wr.heap.size := by have := hG0.size; have := hg.size; omega
        obtain ⟨hf2, hf3⟩ := hf f (List.mem_of_getElem? hf1)
        replace hf1 := Lib.hid hf1
        clear hf
        go_wp2_with fail
        obtain ⟨wo, rfl⟩ : ∃ wo : World, wo = wr := ⟨_, rfl⟩
        have hbx : (wo.alloc (.cells #[.string sm, .int .i64 pe, .slice pA dat.length pc] 29)).heap[wo.heap.size]? = some (.cells #[.string sm, .int .i64 pe, .slice pA dat.length pc] 29 (0, 0)) := blk_new _ _ _
        have hGW : G wo (wo.alloc (.cells #[.string sm, .int .i64 pe, .slice pA dat.length pc] 29)) := G.new _ _
        generalize hW1 : wo.alloc (.cells #[.string sm, .int .i64 pe, .slice pA dat.length pc] 29) = W1 at *
        generalize hbn : wo.heap.size = bx at *
        clear hbn
        go_loopw [8, 34] (fun v i wr => ∃ (j : Nat) (o2 : List Ev), j ≤ dat.length ∧ i = .int .i64 j ∧ Own wr W0.heap.size v o2 ∧ G W0 wr ∧ wr.heap[bx]? = some (.cells #[.string sm, .int .i64 pe, .slice pA dat.length pc] 29 (0, 0)) ∧ o2.length = out.length + j ∧ Hid (o2 = out ++ (makePut ⟨sm, pe, pA, pc, dat⟩ f 1 st (ix + out.length)).take j)) (fun _ i _ => dat.length - (intOf i).toNat)
        case atStart => exact ⟨0, out, Nat.zero_le _, rfl, hown.g hGW, hg.trans hGW, hbx, rfl, by simp [Hid]⟩
        case round =>
          obtain ⟨j, o2, hj, rfl, hown2, hg2, hbx2, hlen2, hh2⟩ := hrel
          obtain ⟨Ao, co, rfl, _⟩ := hown2.sl
          have hle2 : o2.length ≤ out.length + dat.length := by omega
          replace hlen2 := Lib.hid hlen2
          by_cases hjl : j < dat.length
          · obtain ⟨d, hd⟩ : ∃ d, dat[j]? = some d := ⟨_, List.getElem?_eq_getElem hjl⟩
            obtain ⟨bd, od, rfl, hbd, hcd⟩ := (hdat wr hg2).str hd
            have hb0 : wr.cell? ⟨bx, 0, none⟩ = some (.string sm) := blk_cell hbx2 0
            replace hd := Lib.hid hd
            clear hdat
            go_wp2_with (at_builtin; refine wpList_append_ev _ rfl (.tmp 39) (.tmp 54) rfl W0.heap.size _ o2 rfl (hown2.g (G.new _ _)) ⟨sm, f + j, d, st, ix + o2.length⟩ wr.heap.size 1 rfl (blk_new _ _ _) (by omega) (by have := hg2.size; simp; omega) ?_; intro v' w' hown' hkeep)
            go_roundw
            case rel =>
              refine ⟨j + 1, _, by omega, by go_num, hown', hkeep.g (hg2.alloc _), hkeep.2 _ _ _ _ (by decide) (((G.new wr _).block bx (by
                rcases Nat.lt_or_ge bx wr.heap.size with h1 | h1
                · exact h1
                · rw [Array.getElem?_eq_none h1] at hbx2; cases hbx2)).trans hbx2), by simp [hlen2.out]; omega, ?_⟩
              unfold Hid
              rw [makePut_succ _ _ _ _ _ j d hd.out, ← List.append_assoc, ← hh2.out, hlen2.out]
              congr 3
              simp
              try omega
            case measure => simp [intOf]; omega
          · go_wp2_with fail
            go_roundw
            case rel =>
              have hj2 : j = dat.length := by omega
              have ho2 : o2 = out ++ makePut ⟨sm, pe, pA, pc, dat⟩ f 1 st (ix + out.length) := by
                rw [hh2.out, List.take_of_length_le (by rw [makePut_length]; simp; omega)]
              refine ⟨k + 1, o2, by omega, by go_num, hown2, hg2, by rw [hlen2.out]; omega, ?_⟩
              unfold Hid
              rw [hh.out, hfd.out, ho2, List.append_assoc, List.length_append, makePut_length]
              rw [List.getD_eq_getElem?_getD, hf1.out, Option.getD_some, if_pos hkf]
              congr 3
              simp; omega
            case measure => simp [intOf]; omega
      · go_wp2_with fail
        obtain ⟨wo, rfl⟩ : ∃ wo : World, wo = wr := ⟨_, rfl⟩
        have hbx : (wo.alloc (.cells #[.string sm, .int .i64 pe, .slice pA dat.length pc] 29)).heap[wo.heap.size]? = some (.cells #[.string sm, .int .i64 pe, .slice pA dat.length pc] 29 (0, 0)) := blk_new _ _ _
        have hGW : G wo (wo.alloc (.cells #[.string sm, .int .i64 pe, .slice pA dat.length pc] 29)) := G.new _ _
        generalize hW1 : wo.alloc (.cells #[.string sm, .int .i64 pe, .slice pA dat.length pc] 29) = W1 at *
        generalize hbn : wo.heap.size = bx at *
        clear hbn
        go_loopw [8, 34] (fun v i wr => ∃ (j : Nat) (o2 : List Ev), j ≤ dat.length ∧ i = .int .i64 j ∧ Own wr W0.heap.size v o2 ∧ G W0 wr ∧ wr.heap[bx]? = some (.cells #[.string sm, .int .i64 pe, .slice pA dat.length pc] 29 (0, 0)) ∧ o2.length = out.length + j ∧ Hid (o2 = out ++ (makePut ⟨sm, pe, pA, pc, dat⟩ 0 0 st (ix + out.length)).take j)) (fun _ i _ => dat.length - (intOf i).toNat)
        case atStart => exact ⟨0, out, Nat.zero_le _, rfl, hown.g hGW, hg.trans hGW, hbx, rfl, by simp [Hid]⟩
        case round =>
          obtain ⟨j, o2, hj, rfl, hown2, hg2, hbx2, hlen2, hh2⟩ := hrel
          obtain ⟨Ao, co, rfl, _⟩ := hown2.sl
          have hle2 : o2.length ≤ out.length + dat.length := by omega
          replace hlen2 := Lib.hid hlen2
          by_cases hjl : j < dat.length
          · obtain ⟨d, hd⟩ : ∃ d, dat[j]? = some d := ⟨_, List.getElem?_eq_getElem hjl⟩
            obtain ⟨bd, od, rfl, hbd, hcd⟩ := (hdat wr hg2).str hd
            have hb0 : wr.cell? ⟨bx, 0, none⟩ = some (.string sm) := blk_cell hbx2 0
            replace hd := Lib.hid hd
            clear hdat
            go_wp2_with (at_builtin; refine wpList_append_ev _ rfl (.tmp 39) (.tmp 54) rfl W0.heap.size _ o2 rfl (hown2.g (G.new _ _)) ⟨sm, 0, d, st, ix + o2.length⟩ wr.heap.size 1 rfl (blk_new _ _ _) (by omega) (by have := hg2.size; simp; omega) ?_; intro v' w' hown' hkeep)
            go_roundw
            case rel =>
              refine ⟨j + 1, _, by omega, by go_num, hown', hkeep.g (hg2.alloc _), hkeep.2 _ _ _ _ (by decide) (((G.new wr _).block bx (by
                rcases Nat.lt_or_ge bx wr.heap.size with h1 | h1
                · exact h1
                · rw [Array.getElem?_eq_none h1] at hbx2; cases hbx2)).trans hbx2), by simp [hlen2.out]; omega, ?_⟩
              unfold Hid
              rw [makePut_succ _ _ _ _ _ j d hd.out, ← List.append_assoc, ← hh2.out, hlen2.out]
              congr 3
              simp
              try omega
            case measure => simp [intOf]; omega
          · go_wp2_with fail
            go_roundw
            case rel =>
              have hj2 : j = dat.length := by omega
              have ho2 : o2 = out ++ makePut ⟨sm, pe, pA, pc, dat⟩ 0 0 st (ix + out.length) := by
                rw [hh2.out, List.take_of_length_le (by rw [makePut_length]; simp; omega)]
              refine ⟨k + 1, o2, by omega, by go_num, hown2, hg2, by rw [hlen2.out]; omega, ?_⟩
              unfold Hid
              rw [hh.out, hfd.out, ho2, List.append_assoc, List.length_append, makePut_length]
              rw [List.getD_eq_getElem?_getD, List.getElem?_eq_none (by omega), Option.getD_none, if_neg hkf]
              congr 3
              simp; omega
            case measure => simp [intOf]; omega
    · go_wp2_with fail
      go_ret
      have he : makeFrom firsts st 0 ix ps = out := by rw [hh.out, List.drop_eq_nil_of_le (by omega)]; simp [makeFrom]
      exact ⟨u8, rfl, he ▸ hown.mono hG0.size, hG0.trans hg⟩
end Go.Proofs.YtilfgafdkiaaaaaDoor
/- penstocklaw9.awake answers true. No condition. -/
namespace Go.Proofs.YtilfgafdkiaaaaaDoor
open Go.RowKit

set_option maxHeartbeats 1000000 in
theorem awake9_any (w : World) : Calls Tryd.prog 9 #[] w fun e w' => e = .returned (.bool true) ∧ G w w' := by
  go_enter Tryd.func9, Tryd.ntmps9
  go_wp2_with fail
  have hm := make_any ⟨#[107]⟩ [⟨⟨#[97]⟩, -1, some ⟨w.heap.size, 0, none⟩, 2, [⟨#[120]⟩, ⟨#[121]⟩]⟩] (some ⟨w.heap.size + 1, 0, none⟩) (some ⟨w.heap.size + 1 + 1, 0, none⟩) 1 1 (w.heap.size + 3) [3] ⟨5, 0, 1⟩ 0
    (((w.alloc (Obj.cells #[Value.string ⟨#[120]⟩, Value.string ⟨#[121]⟩] 9)).alloc (Obj.cells #[Value.string ⟨#[97]⟩, Value.int IntKind.i64 (-1), Value.slice (some ⟨w.heap.size, 0, none⟩) 2 2] 29)).alloc (Obj.cells #[Value.int IntKind.i64 3] 3))
    (by simp) (by simp) (by simp) (by simp [evCount]) (by simp) (by omega)
    ⟨Sl.of_blk PutM.cells_len _ ((G.new _ _).blk (blk_new' _ _ _ _ (by simp))) rfl (by omega), fun p hp => by
      simp at hp; subst hp
      exact Sl.of_blk strC_len _ (((G.new _ _).alloc _).blk (blk_new w _ _)) rfl (by omega)⟩
    (Sl.of_blk intC_len _ (blk_new' _ _ _ _ (by simp)) rfl (by omega))
  refine hm.mono ?_
  clear hm
  rw [show makeFrom [3] ⟨5, 0, 1⟩ 0 0 [⟨⟨#[97]⟩, -1, some ⟨w.heap.size, 0, none⟩, 2, [⟨#[120]⟩, ⟨#[121]⟩]⟩] = [⟨⟨#[97]⟩, 3, ⟨#[120]⟩, ⟨5, 0, 1⟩, 0⟩, ⟨⟨#[97]⟩, 4, ⟨#[121]⟩, ⟨5, 0, 1⟩, 1⟩] from rfl]
  rintro e w1 ⟨v, rfl, hown, hg⟩
  obtain ⟨A, c, rfl, hsl⟩ := hown.sl
  obtain ⟨b, o, rfl, hb, _, c1, _⟩ := hsl.ev (k := 0) rfl
  obtain ⟨_, _, e1, _, _, d1, d2, _, _, _, d6⟩ := hsl.ev (k := 1) rfl
  cases e1
  simp only [Nat.zero_mul, Nat.one_mul, Nat.add_zero] at c1 d1 d2 d6
  replace hg := (((G.new w _).alloc _).alloc _).trans hg
  clear hsl hown
  go_wp2_with fail
  go_ret
  exact ⟨ret_bool (by rfl), hg⟩
end Go.Proofs.YtilfgafdkiaaaaaDoor
/- penstocklaw9.EventStreams: the walk. Condition: the decoder's tables lie as the library lays them. -/
namespace Go.Proofs.YtilfgafdkiaaaaaDoor
open Go.RowKit

/-- One stream in a block of its own. -/
theorem sms_one {w : World} {b : Nat} {n : ByteArray} {Ae Ak : Option Addr} {ce ck : Nat} {es : List Ev} {ks : List Kn} {t : TypeId} (h : w.heap[b]? = some (.cells #[.string n, .slice Ae es.length ce, .slice Ak ks.length ck] t (0, 0))) (hs : SmIn w w.heap.size Ae Ak es ks) : SmsIn w w.heap.size (some ⟨b, 0, none⟩) [⟨n, Ae, ce, es, Ak, ck, ks⟩] :=
  ⟨Sl.of_blk SmM.cells_len _ h rfl (blk_lt h), fun s hm => by rw [List.mem_singleton] at hm; subst hm; exact hs⟩
set_option maxRecDepth 100000 in
set_option maxHeartbeats 8000000 in
theorem eventStreams_walk (n : ByteArray) (es : List Ev) (ks : List Kn) (A A2 : Option Addr) (c c2 : Nat) (l : List UInt8) (Al : Option Addr) (c8 : Nat) (w : World) (hn : n.size ≤ 9223372036854775807) (hin : SmIn w w.heap.size A A2 es ks) (he1 : es.length ≤ 9223372036854775807) (he2 : EvsOk es) (hk1 : KnsOk ks)
    (hsl : Sl byteC 1 w w.heap.size Al l) (hcap : l.length ≤ c8) (_hc8 : c8 ≤ 9223372036854775807) (hT : Tabs w) :
    Calls Tryd.prog 6 #[.agg #[.string n, .slice A es.length c, .slice A2 ks.length c2], .slice Al l.length c8] w fun e w' => e = .returned (.bool true) ∧ G w w' := by
  have hgn0 := G.new w (.cells #[.string n, .slice A es.length c, .slice A2 ks.length c2] 53)
  have hgn1 := hgn0.trans (G.new _ (.cells #[.string n, .slice A es.length c, .slice A2 ks.length c2] 53))
  have hst := streams_any 6000 [⟨n, A, c, es, A2, c2, ks⟩] (some ⟨w.heap.size + 1, 0, none⟩) 1 _ ((w.alloc (.cells #[.string n, .slice A es.length c, .slice A2 ks.length c2] 53)).alloc (.cells #[.string n, .slice A es.length c, .slice A2 ks.length c2] 53)) (Nat.le_refl _) ⟨by simp, fun s hm => by rw [List.mem_singleton] at hm; subst hm; exact ⟨hn, he1, he2, hk1⟩⟩ (sms_one (blk_new' _ _ _ _ (by simp)) (SmIn.more (hin.g (Nat.le_refl _) hgn1) hgn1.size))
  obtain ⟨T, hTo⟩ : ∃ T, smsBulk 6000 [⟨n, A, c, es, A2, c2, ks⟩] = T := ⟨_, rfl⟩
  rw [hTo] at hst
  simp only [List.length_singleton] at hst
  replace hTo := Lib.hid hTo
  by_cases hbig : T ≤ 6000 ∧ l.length ≤ 6000
  · obtain ⟨hb1, hb2⟩ := hbig
    have hsm : SmSmall n es ks := (sms_small (top := 6000) (by omega) (by rw [hTo.out]; exact hb1)).2 _ (List.mem_singleton.2 rfl)
    have t1 : ¬ 6000 < T := by omega
    have t1' : decide (6000 < T) = false := decide_eq_false t1
    have t2 : ¬ 6000 < (l.length : Int) := by omega
    have hinn : ∀ w', G w w' → SmIn w' w'.heap.size A A2 es ks := fun w' hg => SmIn.more (hin.g (Nat.le_refl _) hg) hg.size
    have hen1 : ∀ w', G w w' → Calls Tryd.prog 23 #[.agg #[.string n, .slice A es.length c, .slice A2 ks.length c2]] w' (RetBytesN w' (smL ⟨n, es, ks⟩)) := fun w' hg => smEnc_any n es ks A A2 c c2 w' (hinn w' hg) hsm (hT.g hg)
    have hen2 : ∀ w', G w w' → Calls Tryd.prog 24 #[.agg #[.string n, .slice A es.length c, .slice A2 ks.length c2]] w' (RetBytesN w' (smL ⟨n, es, ks⟩)) := fun w' hg => refSmEnc_any n es ks A A2 c c2 w' (hinn w' hg) hsm (hT.g hg)
    have hd1 : ∀ w', G w w' → Calls Tryd.prog 21 #[.slice Al l.length c8] w' (RetSm w' l) := fun w' hg => decStream_any l Al c8 w' ((hsl.g (Nat.le_refl _) hg).more hg.size) (by omega) hcap (hT.g hg)
    have hd2 : ∀ w', G w w' → Calls Tryd.prog 22 #[.slice Al l.length c8] w' (RetSm w' l) := fun w' hg => refDecStream_any l Al c8 w' ((hsl.g (Nat.le_refl _) hg).more hg.size) (by omega) hcap (hT.g hg)
    have hel := smL_small hsm
    generalize smL ⟨n, es, ks⟩ = el at *
    clear hsl hin hinn hsm
    replace hT := Lib.hid hT
    replace he2 := Lib.hid he2
    replace hk1 := Lib.hid hk1
    replace hen1 := Lib.hid hen1
    replace hen2 := Lib.hid hen2
    replace hd1 := Lib.hid hd1
    replace hd2 := Lib.hid hd2
    go_enter Tryd.func6, Tryd.ntmps6
    go_wp2_with fail
    refine hst.mono ?_
    clear hst
    rintro e w1 ⟨rfl, hg1⟩
    have hG1 := hgn1.trans hg1
    have hB := ((G.new _ _).trans hg1).blk (blk_new w #[.string n, .slice A es.length c, .slice A2 ks.length c2] 53)
    go_wp2_with fail
    refine (hd1.out _ hG1).mono ?_
    clear hd1
    rintro e w2 ⟨k1, Ae1, Ak1, ce1, ck1, es1, ks1, n1, e1, rfl, hb1, hs1, hp1, hg2⟩
    replace hp1 := Lib.hid hp1
    replace hs1 := Lib.hid hs1
    go_wp2_with fail
    have hgn2 := G.new w2 (.cells #[.string k1, .slice Ae1 es1.length ce1, .slice Ak1 ks1.length ck1] 53)
    refine (hd2.out _ ((hG1.trans hg2).trans hgn2)).mono ?_
    clear hd2
    rintro e w3 ⟨k2, Ae2, Ak2, ce2, ck2, es2, ks2, n2, e2, rfl, hb2, hs2, hp2, hg3⟩
    have hbb := hb1.symm.trans hb2
    simp only [Prod.mk.injEq, Sm.mk.injEq] at hbb
    obtain ⟨⟨rfl, rfl, rfl⟩, rfl, rfl⟩ := hbb
    replace hs2 := Lib.hid hs2
    clear hb1 hb2
    go_upto_region 5 with fail
    have hgn3 := G.new w3 (.cells #[.string k1, .slice Ae2 es1.length ce2, .slice Ak2 ks1.length ck2] 53)
    have hG5 : G w (w3.alloc (.cells #[.string k1, .slice Ae2 es1.length ce2, .slice Ak2 ks1.length ck2] 53)) := (((hG1.trans hg2).trans hgn2).trans hg3).trans hgn3
    have hX := (((hg2.trans hgn2).trans hg3).trans hgn3).blk hB
    have hY := (hg3.trans hgn3).blk (blk_new w2 #[.string k1, .slice Ae1 es1.length ce1, .slice Ak1 ks1.length ck1] 53)
    have hZ := blk_new w3 #[.string k1, .slice Ae2 es1.length ce2, .slice Ak2 ks1.length ck2] 53
    have hin1 := hp1.out.ins
    have hin1' := SmIn.more (hin1.g (Nat.le_refl _) ((hgn2.trans hg3).trans hgn3)) ((hgn2.trans hg3).trans hgn3).size
    have hin2' := SmIn.more (hp2.ins.g (Nat.le_refl _) hgn3) hgn3.size
    generalize w3.alloc (.cells #[.string k1, .slice Ae2 es1.length ce2, .slice Ak2 ks1.length ck2] 53) = W5 at *
    generalize w2.heap.size = b1 at *
    generalize w3.heap.size = b2 at *
    have hsa : ∀ (w' : World) (g1 g2 : Nat), G W5 w' → w'.heap[g1]? = some (.cells #[.string k1, .slice Ae1 es1.length ce1, .slice Ak1 ks1.length ck1] 53 (0, 0)) → w'.heap[g2]? = some (.cells #[.string k1, .slice Ae2 es1.length ce2, .slice Ak2 ks1.length ck2] 53 (0, 0)) → Calls Tryd.prog 25 #[.slice (some ⟨g1, 0, none⟩) 1 1, .slice (some ⟨g2, 0, none⟩) 1 1] w' fun e w'' => e = .returned (.bool true) ∧ G w' w'' := fun w' g1 g2 hg h1 h2 =>
      sameSms_yes [⟨k1, Ae1, ce1, es1, Ak1, ck1, ks1⟩] [⟨k1, Ae2, ce2, es1, Ak2, ck2, ks1⟩] _ _ 1 1 w' (sms_one h1 (SmIn.more (hin1'.g (Nat.le_refl _) hg) hg.size)) (sms_one h2 (SmIn.more (hin2'.g (Nat.le_refl _) hg) hg.size)) rfl (by simp) (fun s hm => by rw [List.mem_singleton] at hm; subst hm; have := hs1.out.2.1.1; have := hs1.out.2.2.1; simp only; omega)
    have x0 : ∀ w', G W5 w' → w'.cell? ⟨w.heap.size, 0, none⟩ = some (.string n) := fun w' h => (blk_cell (h.blk hX) 0).trans rfl
    have x1 : ∀ w', G W5 w' → w'.cell? ⟨w.heap.size, 1, none⟩ = some (.slice A es.length c) := fun w' h => (blk_cell (h.blk hX) 1).trans rfl
    have x2 : ∀ w', G W5 w' → w'.cell? ⟨w.heap.size, 2, none⟩ = some (.slice A2 ks.length c2) := fun w' h => (blk_cell (h.blk hX) 2).trans rfl
    have y0 : ∀ w', G W5 w' → w'.cell? ⟨b1, 0, none⟩ = some (.string k1) := fun w' h => (blk_cell (h.blk hY) 0).trans rfl
    have y1 : ∀ w', G W5 w' → w'.cell? ⟨b1, 1, none⟩ = some (.slice Ae1 es1.length ce1) := fun w' h => (blk_cell (h.blk hY) 1).trans rfl
    have y2 : ∀ w', G W5 w' → w'.cell? ⟨b1, 2, none⟩ = some (.slice Ak1 ks1.length ck1) := fun w' h => (blk_cell (h.blk hY) 2).trans rfl
    have z0 : ∀ w', G W5 w' → w'.cell? ⟨b2, 0, none⟩ = some (.string k1) := fun w' h => (blk_cell (h.blk hZ) 0).trans rfl
    have z1 : ∀ w', G W5 w' → w'.cell? ⟨b2, 1, none⟩ = some (.slice Ae2 es1.length ce2) := fun w' h => (blk_cell (h.blk hZ) 1).trans rfl
    have z2 : ∀ w', G W5 w' → w'.cell? ⟨b2, 2, none⟩ = some (.slice Ak2 ks1.length ck2) := fun w' h => (blk_cell (h.blk hZ) 2).trans rfl
    have hGw : ∀ w', G W5 w' → G w w' := fun w' h => hG5.trans h
    replace hGw := Lib.hid hGw
    replace hsa := Lib.hid hsa
    clear hX hY hZ hin1 hin1' hin2' hp1 hp2 hg2 hg3 hgn2 hgn3 hG1 hB hgn0 hgn1 hG5 hg1 hs2
    have haw := fun w' => awake9_any w'
    go_region_held3 (fun w' => G W5 w') (first | exact (G.refl _).drew | exact hgm.keep (by assumption) | exact hgn.keep (by assumption) | exact hgb.keep (by assumption) | exact hgs.keep (by assumption) | exact hga.keep (by assumption) | exact G.alloc (by assumption) _ | fail) (first
      | (go_at_call 23; (with_reducible refine Calls.mono (hen1.out _ (hGw.out _ (by assumption))) ?_); rintro e u1 ⟨A4, d1, rfl, hown1, hgm, _⟩; replace hown1 := OwnL.self byteC_len hown1)
      | (go_at_call 24; (with_reducible refine Calls.mono (hen2.out _ (hGw.out _ (by assumption))) ?_); rintro e u2 ⟨A5, d2, rfl, hown2, hgn, _⟩; replace hown2 := OwnL.self byteC_len hown2)
      | (go_at_call 17; (with_reducible refine Calls.mono (bytesSelf_any el A4 A5 d1 d2 _ u2 (Nat.le_refl _) ((hown1.g (Nat.le_refl _) hgn).more hgn.size) hown2 (by omega)) ?_); rintro e u3 ⟨rfl, hgb⟩)
      | (go_at_call 25; (with_reducible refine Calls.mono (hsa.out _ _ _ (by assumption) ((G.new _ _).blk (blk_new _ _ _)) (blk_new' _ _ _ _ (by simp))) ?_); rintro e u5 ⟨rfl, hgs⟩)
      | (go_at_call 25; (with_reducible refine Calls.mono (hsa.out _ _ _ (by assumption) (blk_new' _ _ _ _ (by simp)) ((G.new _ _).blk (blk_new _ _ _))) ?_); rintro e u5 ⟨rfl, hgs⟩)
      | (go_at_call 9; (with_reducible refine Calls.mono (haw _) ?_); rintro e u4 ⟨rfl, hga⟩))
    all_goals
      have hGe : G W5 u4 := by assumption
      go_wp2_with fail
      go_ret
      exact ⟨rfl, hGw.out _ hGe⟩
  · by_cases h1 : 6000 < T
    · have t1 : decide (6000 < T) = true := decide_eq_true h1
      clear hbig
      go_enter Tryd.func6, Tryd.ntmps6
      go_wp2_with fail
      refine hst.mono ?_
      rintro e w1 ⟨rfl, hg1⟩
      go_wp2_with (go_at_call 9; refine (awake9_any _).mono ?_; rintro e w2 ⟨rfl, hg2⟩)
      go_ret
      exact ⟨rfl, (hgn1.trans hg1).trans hg2⟩
    · have t1 : ¬ 6000 < T := h1
      have t1' : decide (6000 < T) = false := decide_eq_false h1
      have t2 : 6000 < (l.length : Int) := by omega
      clear hbig
      go_enter Tryd.func6, Tryd.ntmps6
      go_wp2_with fail
      refine hst.mono ?_
      rintro e w1 ⟨rfl, hg1⟩
      go_wp2_with (go_at_call 9; refine (awake9_any _).mono ?_; rintro e w2 ⟨rfl, hg2⟩)
      go_ret
      exact ⟨rfl, (hgn1.trans hg1).trans hg2⟩
end Go.Proofs.YtilfgafdkiaaaaaDoor
/- How texts, numbers and bools read as the laws' arguments; what the listed tables give. No condition. -/
namespace Go.Proofs.YtilfgafdkiaaaaaDoor
open Go.RowKit Go.ChangeShapes Go.WideShapes Go.Lib

/-- An int of 64 bits. -/
def I64 (n : Int) : Prop := -9223372036854775808 ≤ n ∧ n ≤ 9223372036854775807
section
variable {H : Type} {enc : TypeId × Value → H} {w : World} {base b0 : Nat} {spare : Nat → Bool} {held : Bool} {fuel : Nat} {cs : List Value} {x : DataW H × List MemPlace} {r : Reach} {v : Value} {d : DataW H} {p : List MemPlace}
theorem i64_of_wf {n : Int} (h : (Lit.int .i64 n).wf = true) : I64 n := by
  have := bounds_i64 h
  exact ⟨by omega, by omega⟩
set_option maxRecDepth 100000 in
theorem in_int (hv : Value.okWide Tryd.prog w r b0 3 v) (h : DataW.Trod enc Tryd.prog w base spare held 3 v d p) : ∃ n, v = .int .i64 n ∧ I64 n := by
  obtain ⟨n, rfl⟩ := okWide_int Tryd.underlying3 hv
  obtain ⟨fuel, hf⟩ := h
  obtain ⟨n', e, _, hn⟩ := DataW.trod_int Tryd.underlying3 hf
  simp [Value.cells] at e
  subst e
  exact ⟨n, rfl, i64_of_wf hn⟩
set_option maxRecDepth 100000 in
theorem in_str (hv : Value.okWide Tryd.prog w r b0 9 v) (h : DataW.Trod enc Tryd.prog w base spare held 9 v d p) : ∃ s, v = .string s ∧ s.size ≤ 9223372036854775807 := by
  obtain ⟨s, rfl⟩ := okWide_string Tryd.underlying9 hv
  obtain ⟨fuel, hf⟩ := h
  obtain ⟨s', e, _, hn⟩ := DataW.trod_string Tryd.underlying9 hf
  simp [Value.cells] at e
  subst e
  exact ⟨s, rfl, by simpa [maxLen] using hn⟩
set_option maxRecDepth 100000 in
theorem in_bool (hv : Value.okWide Tryd.prog w r b0 4 v) (_h : DataW.Trod enc Tryd.prog w base spare held 4 v d p) : ∃ b, v = .bool b ∧ b = b := by
  obtain ⟨b, rfl⟩ := okWide_bool Tryd.underlying4 hv
  exact ⟨b, rfl, rfl⟩
end
theorem u8Extra : U8Extra Tryd.prog Tryd.lays196_ren := ⟨by kernel_rfl, by kernel_rfl, by kernel_rfl, by kernel_rfl, by kernel_rfl, by kernel_rfl, by kernel_rfl⟩
theorem accept_eq : (Rows.laid_unicode_utf8_acceptRanges : DataW Unit) = acceptData := by kernel_rfl
/-- Where the two tables are listed they lie so. -/
theorem tabs_of_laid {w : World} (h : laidMet Tryd.prog [("unicode/utf8.acceptRanges", Rows.laid_unicode_utf8_acceptRanges), ("unicode/utf8.first", Rows.laid_unicode_utf8_first)] w) : Tabs w :=
  utf8Tabs_of_readsT (U8Types.of196 Tryd.lays196) u8Extra (Pinned.utf8First_eq ▸ Lib.laidMet.reads h (.tail _ (.head _))) (accept_eq ▸ Lib.laidMet.reads h (.head _))
end Go.Proofs.YtilfgafdkiaaaaaDoor
/- Door seats: how the arguments of the laws read: texts, numbers, stamps, events, puts, batches, lists of these. No condition. -/
namespace Go.Proofs.YtilfgafdkiaaaaaDoor
open Go.RowKit Go.ChangeShapes Go.WideShapes Go.Deep

instance : Inhabited St := ⟨⟨0, 0, 0⟩⟩
instance : Inhabited Ev := ⟨⟨ByteArray.empty, 0, ByteArray.empty, default, 0⟩⟩
instance : Inhabited PutM := ⟨⟨ByteArray.empty, 0, none, 0, []⟩⟩
def St.ok (s : St) : Prop := I64 s.wall ∧ I64 s.logic ∧ I64 s.node
def Ev.ok (e : Ev) : Prop := e.stream.size ≤ 9223372036854775807 ∧ I64 e.version ∧ e.data.size ≤ 9223372036854775807 ∧ e.st.ok ∧ I64 e.index

section
variable {H : Type} {enc : TypeId × Value → H} {w : World} {base : Nat} {spare : Nat → Bool} {held : Bool} {fuel : Nat} {cs : List Value} {x : DataW H × List MemPlace}

set_option maxRecDepth 100000 in
theorem rdv_int (h : DataW.trod enc Tryd.prog w base spare held fuel 3 cs = some x) : ∃ n, cs = intC n ∧ I64 n := by
  obtain ⟨n, rfl, _, hw⟩ := DataW.trod_int Tryd.underlying3 h
  exact ⟨n, rfl, i64_of_wf hw⟩
set_option maxRecDepth 100000 in
theorem rdv_str (h : DataW.trod enc Tryd.prog w base spare held fuel 9 cs = some x) : ∃ s, cs = strC s ∧ s.size ≤ 9223372036854775807 := by
  obtain ⟨s, rfl, _, hs⟩ := DataW.trod_string Tryd.underlying9 h
  exact ⟨s, rfl, by simpa [maxLen] using hs⟩
set_option maxRecDepth 100000 in
/-- Three cells. -/
theorem list3 {l : List Value} (h : l.length = 3) : ∃ a b c, l = [a, b, c] := by
  match l, h with
  | [a, b, c], _ => exact ⟨a, b, c, rfl⟩
set_option maxRecDepth 100000 in
theorem list2 {l : List Value} (h : l.length = 2) : ∃ a b, l = [a, b] := by
  match l, h with
  | [a, b], _ => exact ⟨a, b, rfl⟩
set_option maxRecDepth 100000 in
theorem list7 {l : List Value} (h : l.length = 7) : ∃ a b c d e f g, l = [a, b, c, d, e, f, g] := by
  match l, h with
  | [a, b, c, d, e, f, g], _ => exact ⟨a, b, c, d, e, f, g, rfl⟩
set_option maxRecDepth 100000 in
/-- A field that is read: of type T, at offset off, of k cells. -/
theorem rdv_field {t : TypeId} {fs : Array Field} (ht : Tryd.prog.underlying t = some (.struct fs)) (h : DataW.trod enc Tryd.prog w base spare held fuel t cs = some x) :
    cs.length = Tryd.prog.cellsOf t ∧ ∃ n, ∀ (i : Nat) (T : TypeId) (off k : Nat), (fs[i]?).map (fun f => (f.type, f.offset)) = some (T, off) → Tryd.prog.cellsOf T = k → ∃ y, DataW.trod enc Tryd.prog w base spare held n T ((cs.drop off).take k) = some y := by
  obtain ⟨xs, n, _, _, hl, hx, hf⟩ := DataW.trod_struct ht h
  refine ⟨hl, n, fun i T off k hi0 hk => ?_⟩
  obtain ⟨f, hi, e⟩ := Option.map_eq_some_iff.1 hi0
  simp only [Prod.mk.injEq] at e
  obtain ⟨rfl, rfl⟩ := e
  subst hk
  have hi' : i < fs.size := (Array.getElem?_eq_some_iff.1 hi).1
  exact ⟨xs[i]'(by omega), (hf i f hi).trans (List.getElem?_eq_getElem (by omega))⟩
set_option maxRecDepth 100000 in
theorem cells_stamp : Tryd.prog.cellsOf 35 = 3 := by kernel_rfl
set_option maxRecDepth 100000 in
theorem cells_event : Tryd.prog.cellsOf 41 = 7 := by kernel_rfl
set_option maxRecDepth 100000 in
theorem cells_int : Tryd.prog.cellsOf 3 = 1 := by kernel_rfl
set_option maxRecDepth 100000 in
theorem cells_string : Tryd.prog.cellsOf 9 = 1 := by kernel_rfl
set_option maxRecDepth 100000 in
theorem rdv_st (h : DataW.trod enc Tryd.prog w base spare held fuel 35 cs = some x) : ∃ s : St, cs = s.cells ∧ s.ok := by
  obtain ⟨hl, n, hf⟩ := rdv_field Tryd.underlying35 h
  obtain ⟨a, b, c, rfl⟩ := list3 (hl.trans cells_stamp)
  obtain ⟨y0, h0⟩ := hf 0 3 0 1 rfl cells_int
  obtain ⟨y1, h1⟩ := hf 1 3 1 1 rfl cells_int
  obtain ⟨y2, h2⟩ := hf 2 3 2 1 rfl cells_int
  obtain ⟨n0, e0, w0⟩ := rdv_int h0
  obtain ⟨n1, e1, w1⟩ := rdv_int h1
  obtain ⟨n2, e2, w2⟩ := rdv_int h2
  simp [intC] at e0 e1 e2
  subst e0 e1 e2
  exact ⟨⟨n0, n1, n2⟩, rfl, w0, w1, w2⟩
set_option maxRecDepth 100000 in
theorem rdv_ev (h : DataW.trod enc Tryd.prog w base spare held fuel 41 cs = some x) : ∃ e : Ev, cs = e.cells ∧ e.ok := by
  obtain ⟨hl, n, hf⟩ := rdv_field Tryd.underlying41 h
  obtain ⟨a, b, c, d, e, f, g, rfl⟩ := list7 (hl.trans cells_event)
  obtain ⟨y0, h0⟩ := hf 0 9 0 1 rfl cells_string
  obtain ⟨y1, h1⟩ := hf 1 3 1 1 rfl cells_int
  obtain ⟨y2, h2⟩ := hf 2 9 2 1 rfl cells_string
  obtain ⟨y3, h3⟩ := hf 3 35 3 3 rfl cells_stamp
  obtain ⟨y4, h4⟩ := hf 4 3 6 1 rfl cells_int
  obtain ⟨n0, e0, w0⟩ := rdv_str h0
  obtain ⟨n1, e1, w1⟩ := rdv_int h1
  obtain ⟨n2, e2, w2⟩ := rdv_str h2
  obtain ⟨⟨s1, s2, s3⟩, e3, w3⟩ := rdv_st h3
  obtain ⟨n4, e4, w4⟩ := rdv_int h4
  simp [intC, strC, St.cells] at e0 e1 e2 e3 e4
  obtain ⟨e3, e5, e6⟩ := e3
  subst e0 e1 e2 e3 e4 e5 e6
  exact ⟨⟨n0, n1, n2, ⟨s1, s2, s3⟩, n4⟩, rfl, w0, w1, w2, w3, w4⟩

set_option maxRecDepth 100000 in
/-- A slice is read as the list of what its elements read as. -/
theorem rdv_slice {α : Type} [Inhabited α] {f : α → List Value} {sz : Nat} {ok : α → Prop} {t e : TypeId} (ht : Tryd.prog.underlying t = some (.slice e)) (hc : Tryd.prog.cellsOf e = sz) (hsz : 0 < sz) (hf : ∀ x, (f x).length = sz)
    (hrd : ∀ (n : Nat) (cs : List Value) (y : DataW H × List MemPlace), DataW.trod enc Tryd.prog w base spare held n e cs = some y → ∃ a, cs = f a ∧ ok a)
    (h : DataW.trod enc Tryd.prog w base spare held fuel t cs = some x) :
    ∃ (A : Option Addr) (c : Nat) (xs : List α), cs = [.slice A xs.length c] ∧ Sl f sz w w.heap.size A xs ∧ (∀ a ∈ xs, ok a) ∧ xs.length ≤ c ∧ c ≤ 9223372036854775807 := by
  rcases open_slice ht h with ⟨rfl, _⟩ | ⟨a, len, cap, m, n, D, Pl, rfl, _, hl, hm, hmm, _, hi⟩
  · exact ⟨none, 0, [], rfl, Sl.nil, by simp, by simp, by simp⟩
  have hlm : len ≤ m := by rw [hmm]; split <;> omega
  rw [hc] at hi
  obtain ⟨F, hF⟩ := choose_lt (α := α) (p := fun i y => w.cells? base (a.add (i * sz)) sz = some (f y) ∧ ok y) (n := len) (fun i hil => by
    obtain ⟨cs', h1, h2⟩ := hi i (by omega)
    obtain ⟨y, rfl, hy⟩ := hrd _ _ _ h2
    exact ⟨y, h1, hy⟩)
  refine ⟨some a, cap, (List.range len).map F, by simp, fun hne => ?_, fun y hy => ?_, by simpa using hl, by simpa [maxLen] using hm⟩
  · have hpos : 0 < len := by
      rcases Nat.eq_zero_or_pos len with h0 | h0
      · subst h0; simp at hne
      · exact h0
    obtain ⟨_, _, hcell0⟩ := World.cells?_some (hF 0 hpos).1
    have h00 := hcell0 0 hsz
    rw [List.getElem?_eq_getElem (by rw [hf]; exact hsz)] at h00
    rw [Nat.zero_mul, add_add] at h00
    have hspot : a.spot = none := by
      obtain ⟨b, o, spot⟩ := a
      simpa [Addr.add] using World.cell?_spot h00
    obtain ⟨b, o, spot⟩ := a
    simp only at hspot
    subst hspot
    refine ⟨b, o, rfl, ?_, fun k y hk j u hu => ?_⟩
    · simp only [Addr.add_lit, World.cell?] at h00
      rcases Nat.lt_or_ge b w.heap.size with h1 | h1
      · exact h1
      · rw [Array.getElem?_eq_none h1] at h00; simp at h00
    · obtain ⟨hkl, rfl⟩ := List.getElem?_eq_some_iff.1 hk
      simp only [List.length_map, List.length_range] at hkl
      simp only [List.getElem_map, List.getElem_range] at hu
      have hj : j < sz := by rw [← hf (F k)]; exact (List.getElem?_eq_some_iff.1 hu).1
      obtain ⟨_, _, hcell⟩ := World.cells?_some (hF k hkl).1
      have := hcell j hj
      rw [add_add, Addr.add_lit, ← Nat.add_assoc] at this
      rw [this, hu]
  · simp only [List.mem_map, List.mem_range] at hy
    obtain ⟨i, hil, rfl⟩ := hy
    exact (hF i hil).2
set_option maxRecDepth 100000 in
theorem cells_strs : Tryd.prog.cellsOf 27 = 1 := by kernel_rfl
set_option maxRecDepth 100000 in
theorem cells_puts : Tryd.prog.cellsOf 23 = 1 := by kernel_rfl
set_option maxRecDepth 100000 in
theorem cells_put : Tryd.prog.cellsOf 29 = 3 := by kernel_rfl
set_option maxRecDepth 100000 in
theorem cells_batch : Tryd.prog.cellsOf 25 = 2 := by kernel_rfl
set_option maxRecDepth 100000 in
theorem rdv_ints (h : DataW.trod enc Tryd.prog w base spare held fuel 37 cs = some x) :
    ∃ (A : Option Addr) (c : Nat) (xs : List Int), cs = [.slice A xs.length c] ∧ Sl intC 1 w w.heap.size A xs ∧ (∀ a ∈ xs, I64 a) ∧ xs.length ≤ c ∧ c ≤ 9223372036854775807 :=
  rdv_slice Tryd.underlying37 cells_int (by omega) intC_len (fun _ _ _ h => rdv_int h) h
set_option maxRecDepth 100000 in
theorem rdv_strs (h : DataW.trod enc Tryd.prog w base spare held fuel 27 cs = some x) :
    ∃ (A : Option Addr) (c : Nat) (xs : List ByteArray), cs = [.slice A xs.length c] ∧ Sl strC 1 w w.heap.size A xs ∧ (∀ a ∈ xs, a.size ≤ 9223372036854775807) ∧ xs.length ≤ c ∧ c ≤ 9223372036854775807 :=
  rdv_slice (ok := fun s : ByteArray => s.size ≤ 9223372036854775807) Tryd.underlying27 cells_string (by omega) strC_len (fun _ _ _ h => rdv_str h) h
set_option maxRecDepth 100000 in
theorem rdv_evs (h : DataW.trod enc Tryd.prog w base spare held fuel 38 cs = some x) :
    ∃ (A : Option Addr) (c : Nat) (xs : List Ev), cs = [.slice A xs.length c] ∧ Sl Ev.cells 7 w w.heap.size A xs ∧ (∀ a ∈ xs, a.ok) ∧ xs.length ≤ c ∧ c ≤ 9223372036854775807 :=
  rdv_slice Tryd.underlying38 cells_event (by omega) Ev.cells_len (fun _ _ _ h => rdv_ev h) h
def PutM.ok (w : World) (p : PutM) : Prop := p.stream.size ≤ 9223372036854775807 ∧ I64 p.expect ∧ Sl strC 1 w w.heap.size p.A p.data ∧ (∀ a ∈ p.data, a.size ≤ 9223372036854775807) ∧ p.data.length ≤ 9223372036854775807
set_option maxRecDepth 100000 in
theorem rdv_put (h : DataW.trod enc Tryd.prog w base spare held fuel 29 cs = some x) : ∃ p : PutM, cs = p.cells ∧ p.ok w := by
  obtain ⟨hl, n, hf⟩ := rdv_field Tryd.underlying29 h
  obtain ⟨a, b, c, rfl⟩ := list3 (hl.trans cells_put)
  obtain ⟨y0, h0⟩ := hf 0 9 0 1 rfl cells_string
  obtain ⟨y1, h1⟩ := hf 1 3 1 1 rfl cells_int
  obtain ⟨y2, h2⟩ := hf 2 27 2 1 rfl cells_strs
  obtain ⟨n0, e0, w0⟩ := rdv_str h0
  obtain ⟨n1, e1, w1⟩ := rdv_int h1
  obtain ⟨A, cc, xs, e2, w2, w3, w4, w5⟩ := rdv_strs h2
  simp [intC, strC] at e0 e1 e2
  subst e0 e1 e2
  exact ⟨⟨n0, n1, A, cc, xs⟩, rfl, w0, w1, w2, w3, by show xs.length ≤ _; omega⟩
set_option maxRecDepth 100000 in
theorem rdv_puts (h : DataW.trod enc Tryd.prog w base spare held fuel 23 cs = some x) :
    ∃ (A : Option Addr) (c : Nat) (ps : List PutM), cs = [.slice A ps.length c] ∧ PutsIn w w.heap.size A ps ∧ PutsOk ps ∧ (∀ p ∈ ps, I64 p.expect) := by
  obtain ⟨A, c, ps, rfl, h1, h2, h3, h4⟩ := rdv_slice (f := PutM.cells) (ok := PutM.ok w) Tryd.underlying23 cells_put (by omega) PutM.cells_len (fun _ _ _ h => rdv_put h) h
  exact ⟨A, c, ps, rfl, ⟨h1, fun p hp => (h2 p hp).2.2.1⟩, ⟨by omega, fun p hp => ⟨(h2 p hp).1, (h2 p hp).2.2.2.2, (h2 p hp).2.2.2.1⟩⟩, fun p hp => (h2 p hp).2.1⟩
set_option maxRecDepth 100000 in
theorem rdv_batch (h : DataW.trod enc Tryd.prog w base spare held fuel 25 cs = some x) :
    ∃ (key : ByteArray) (A : Option Addr) (c : Nat) (ps : List PutM), cs = [.string key, .slice A ps.length c] ∧ key.size ≤ 9223372036854775807 ∧ PutsIn w w.heap.size A ps ∧ PutsOk ps ∧ (∀ p ∈ ps, I64 p.expect) := by
  obtain ⟨hl, n, hf⟩ := rdv_field Tryd.underlying25 h
  obtain ⟨a, b, rfl⟩ := list2 (hl.trans cells_batch)
  obtain ⟨y0, h0⟩ := hf 0 9 0 1 rfl cells_string
  obtain ⟨y1, h1⟩ := hf 1 23 1 1 rfl cells_puts
  obtain ⟨n0, e0, w0⟩ := rdv_str h0
  obtain ⟨A, c, ps, e1, w1, w2, w3⟩ := rdv_puts h1
  simp [strC] at e0 e1
  subst e0 e1
  exact ⟨n0, A, c, ps, rfl, w0, w1, w2, w3⟩
set_option maxRecDepth 100000 in
theorem cells_u8 : Tryd.prog.cellsOf 5 = 1 := by kernel_rfl
set_option maxRecDepth 100000 in
theorem cells_evs : Tryd.prog.cellsOf 38 = 1 := by kernel_rfl
set_option maxRecDepth 100000 in
theorem cells_kns : Tryd.prog.cellsOf 51 = 1 := by kernel_rfl
set_option maxRecDepth 100000 in
theorem cells_kn : Tryd.prog.cellsOf 91 = 5 := by kernel_rfl
set_option maxRecDepth 100000 in
theorem cells_sm : Tryd.prog.cellsOf 53 = 3 := by kernel_rfl
set_option maxRecDepth 100000 in
theorem list5 {l : List Value} (h : l.length = 5) : ∃ a b c d e, l = [a, b, c, d, e] := by
  match l, h with
  | [a, b, c, d, e], _ => exact ⟨a, b, c, d, e, rfl⟩
instance : Inhabited Kn := ⟨⟨ByteArray.empty, 0, default⟩⟩
set_option maxRecDepth 100000 in
theorem rdv_u8 (h : DataW.trod enc Tryd.prog w base spare held fuel 5 cs = some x) : ∃ b : UInt8, cs = byteC b ∧ True := by
  obtain ⟨n, rfl, _, hw⟩ := DataW.trod_int Tryd.underlying5 h
  have h1 := bounds_u8 hw
  refine ⟨UInt8.ofNat n.toNat, ?_, trivial⟩
  unfold byteC
  rw [nat_u8 (by omega)]
  congr 2
  omega
set_option maxRecDepth 100000 in
theorem rdv_bytes (h : DataW.trod enc Tryd.prog w base spare held fuel 26 cs = some x) :
    ∃ (A : Option Addr) (c : Nat) (xs : List UInt8), cs = [.slice A xs.length c] ∧ Sl byteC 1 w w.heap.size A xs ∧ xs.length ≤ c ∧ c ≤ 9223372036854775807 := by
  obtain ⟨A, c, xs, e, h1, _, h2, h3⟩ := rdv_slice (ok := fun _ : UInt8 => True) Tryd.underlying26 cells_u8 (by omega) byteC_len (fun _ _ _ h => rdv_u8 h) h
  exact ⟨A, c, xs, e, h1, h2, h3⟩
def Kn.ok (k : Kn) : Prop := k.key.size ≤ 9223372036854775807 ∧ I64 k.first ∧ k.st.ok
set_option maxRecDepth 100000 in
theorem rdv_kn (h : DataW.trod enc Tryd.prog w base spare held fuel 91 cs = some x) : ∃ k : Kn, cs = k.cells ∧ k.ok := by
  obtain ⟨hl, n, hf⟩ := rdv_field Tryd.underlying91 h
  obtain ⟨a, b, c, d, e, rfl⟩ := list5 (hl.trans cells_kn)
  obtain ⟨y0, h0⟩ := hf 0 9 0 1 rfl cells_string
  obtain ⟨y1, h1⟩ := hf 1 3 1 1 rfl cells_int
  obtain ⟨y2, h2⟩ := hf 2 35 2 3 rfl cells_stamp
  obtain ⟨n0, e0, w0⟩ := rdv_str h0
  obtain ⟨n1, e1, w1⟩ := rdv_int h1
  obtain ⟨⟨s1, s2, s3⟩, e2, w2⟩ := rdv_st h2
  simp [intC, strC, St.cells] at e0 e1 e2
  obtain ⟨e2, e3, e4⟩ := e2
  subst e0 e1 e2 e3 e4
  exact ⟨⟨n0, n1, ⟨s1, s2, s3⟩⟩, rfl, w0, w1, w2⟩
set_option maxRecDepth 100000 in
theorem rdv_kns (h : DataW.trod enc Tryd.prog w base spare held fuel 51 cs = some x) :
    ∃ (A : Option Addr) (c : Nat) (xs : List Kn), cs = [.slice A xs.length c] ∧ Sl Kn.cells 5 w w.heap.size A xs ∧ (∀ a ∈ xs, a.ok) ∧ xs.length ≤ c ∧ c ≤ 9223372036854775807 :=
  rdv_slice Tryd.underlying51 cells_kn (by omega) Kn.cells_len (fun _ _ _ h => rdv_kn h) h
set_option maxRecDepth 100000 in
/-- A stream that is read. -/
theorem rdv_sm (h : DataW.trod enc Tryd.prog w base spare held fuel 53 cs = some x) :
    ∃ (n : ByteArray) (A A2 : Option Addr) (c c2 : Nat) (es : List Ev) (ks : List Kn), cs = [.string n, .slice A es.length c, .slice A2 ks.length c2] ∧ n.size ≤ 9223372036854775807 ∧ Sl Ev.cells 7 w w.heap.size A es ∧ (∀ e ∈ es, e.ok) ∧ es.length ≤ c ∧ c ≤ 9223372036854775807 ∧
      Sl Kn.cells 5 w w.heap.size A2 ks ∧ (∀ k ∈ ks, k.ok) ∧ ks.length ≤ c2 ∧ c2 ≤ 9223372036854775807 := by
  obtain ⟨hl, n, hf⟩ := rdv_field Tryd.underlying53 h
  obtain ⟨a, b, c, rfl⟩ := list3 (hl.trans cells_sm)
  obtain ⟨y0, h0⟩ := hf 0 9 0 1 rfl cells_string
  obtain ⟨y1, h1⟩ := hf 1 38 1 1 rfl cells_evs
  obtain ⟨y2, h2⟩ := hf 2 51 2 1 rfl cells_kns
  obtain ⟨n0, e0, w0⟩ := rdv_str h0
  obtain ⟨A, cc, es, e1, w1⟩ := rdv_evs h1
  obtain ⟨A2, c2, ks, e2, w2⟩ := rdv_kns h2
  simp [strC] at e0 e1 e2
  subst e0 e1 e2
  exact ⟨n0, A, A2, cc, c2, es, ks, rfl, w0, w1.1, w1.2.1, w1.2.2.1, w1.2.2.2, w2.1, w2.2.1, w2.2.2.1, w2.2.2.2⟩
end

/-! The values of the parameters themselves. -/
section
variable {H : Type} {enc : TypeId × Value → H} {w : World} {base b0 : Nat} {spare : Nat → Bool} {held : Bool} {r : Reach} {v : Value} {d : DataW H} {p : List MemPlace}
set_option maxRecDepth 100000 in
theorem in_ints (hv : Value.okWide Tryd.prog w r b0 37 v) (h : DataW.Trod enc Tryd.prog w base spare held 37 v d p) :
    ∃ (A : Option Addr) (c : Nat) (xs : List Int), v = .slice A xs.length c ∧ Sl intC 1 w w.heap.size A xs ∧ (∀ a ∈ xs, I64 a) ∧ xs.length ≤ c ∧ c ≤ 9223372036854775807 := by
  obtain ⟨A, n, c, rfl⟩ := okWide_slice Tryd.underlying37 hv
  obtain ⟨fuel, hf⟩ := h
  obtain ⟨A', c', xs, e, hr⟩ := rdv_ints hf
  simp [Value.cells] at e
  obtain ⟨rfl, rfl, rfl⟩ := e
  exact ⟨_, _, xs, rfl, hr⟩
set_option maxRecDepth 100000 in
theorem in_st (hv : Value.okWide Tryd.prog w r b0 35 v) (h : DataW.Trod enc Tryd.prog w base spare held 35 v d p) : ∃ s : St, v = .agg #[.int .i64 s.wall, .int .i64 s.logic, .int .i64 s.node] ∧ s.ok := by
  obtain ⟨cs, rfl, hsz⟩ := okWide_struct Tryd.underlying35 hv
  obtain ⟨fuel, hf⟩ := h
  obtain ⟨s, e, hs⟩ := rdv_st hf
  obtain ⟨l⟩ := cs
  simp [Value.cells] at e
  subst e
  exact ⟨s, rfl, hs⟩
set_option maxRecDepth 100000 in
theorem in_batch (hv : Value.okWide Tryd.prog w r b0 25 v) (h : DataW.Trod enc Tryd.prog w base spare held 25 v d p) :
    ∃ (key : ByteArray) (A : Option Addr) (c : Nat) (ps : List PutM), v = .agg #[.string key, .slice A ps.length c] ∧ key.size ≤ 9223372036854775807 ∧ PutsIn w w.heap.size A ps ∧ PutsOk ps ∧ (∀ p ∈ ps, I64 p.expect) := by
  obtain ⟨cs, rfl, hsz⟩ := okWide_struct Tryd.underlying25 hv
  obtain ⟨fuel, hf⟩ := h
  obtain ⟨key, A, c, ps, e, hs⟩ := rdv_batch hf
  obtain ⟨l⟩ := cs
  simp [Value.cells] at e
  subst e
  exact ⟨key, A, c, ps, rfl, hs⟩
set_option maxRecDepth 100000 in
theorem in_bytes (hv : Value.okWide Tryd.prog w r b0 26 v) (h : DataW.Trod enc Tryd.prog w base spare held 26 v d p) :
    ∃ (A : Option Addr) (c : Nat) (xs : List UInt8), v = .slice A xs.length c ∧ Sl byteC 1 w w.heap.size A xs ∧ xs.length ≤ c ∧ c ≤ 9223372036854775807 := by
  obtain ⟨A, n, c, rfl⟩ := okWide_slice Tryd.underlying26 hv
  obtain ⟨fuel, hf⟩ := h
  obtain ⟨A', c', xs, e, hr⟩ := rdv_bytes hf
  simp [Value.cells] at e
  obtain ⟨rfl, rfl, rfl⟩ := e
  exact ⟨_, _, xs, rfl, hr⟩
set_option maxRecDepth 100000 in
theorem in_ev (hv : Value.okWide Tryd.prog w r b0 41 v) (h : DataW.Trod enc Tryd.prog w base spare held 41 v d p) : ∃ x : Ev, v = .agg x.cells.toArray ∧ x.ok := by
  obtain ⟨cs, rfl, hsz⟩ := okWide_struct Tryd.underlying41 hv
  obtain ⟨fuel, hf⟩ := h
  obtain ⟨x, e, hx⟩ := rdv_ev hf
  obtain ⟨l⟩ := cs
  simp [Value.cells] at e
  subst e
  exact ⟨x, rfl, hx⟩
set_option maxRecDepth 100000 in
theorem in_sm (hv : Value.okWide Tryd.prog w r b0 53 v) (h : DataW.Trod enc Tryd.prog w base spare held 53 v d p) :
    ∃ (n : ByteArray) (A A2 : Option Addr) (c c2 : Nat) (es : List Ev) (ks : List Kn), v = .agg #[.string n, .slice A es.length c, .slice A2 ks.length c2] ∧ n.size ≤ 9223372036854775807 ∧ Sl Ev.cells 7 w w.heap.size A es ∧ (∀ e ∈ es, e.ok) ∧ es.length ≤ c ∧ c ≤ 9223372036854775807 ∧
      Sl Kn.cells 5 w w.heap.size A2 ks ∧ (∀ k ∈ ks, k.ok) ∧ ks.length ≤ c2 ∧ c2 ≤ 9223372036854775807 := by
  obtain ⟨cs, rfl, hsz⟩ := okWide_struct Tryd.underlying53 hv
  obtain ⟨fuel, hf⟩ := h
  obtain ⟨n, A, A2, c, c2, es, ks, e, hr⟩ := rdv_sm hf
  obtain ⟨l⟩ := cs
  simp [Value.cells] at e
  subst e
  exact ⟨n, A, A2, c, c2, es, ks, rfl, hr⟩
end
end Go.Proofs.YtilfgafdkiaaaaaDoor
/- penstocklaw9.EventStreams returns true for every input and leaves it as it was; the card is tied to the program's text. No condition beyond the card's own: utf8's two tables lie as the library lays them. -/
namespace Go.Proofs.YtilfgafdkiaaaaaDoor.eventStreams
open Go.RowKit


/-! The row's step, by the guide's shell. -/
open Go.ChangeShapes Go.WideShapes Go.ChangeAt
theorem own : ownKnob Tryd.prog.godebug = none := by kernel_rfl
theorem laidOut : laidOutB Tryd.prog = true := by kernel_rfl
set_option maxRecDepth 100000 in
theorem lifted (os : Os) (started : os.Started) (H : Type) (enc : TypeId × Value → H) :
    ReturnsInHanded {} Tryd.checked os 6 .any (fun w args => (Rows.eventStreamsSpec.pre enc Tryd.prog Tryd.f6 [] false w args ∧ laidMetH Tryd.prog Rows.eventStreamsRow.laid w) ∧ sizedMet enc Tryd.prog Tryd.f6 (OpenSpec.ofChange Rows.eventStreamsSpec) false w args) (Rows.eventStreamsSpec.post enc Tryd.prog Tryd.f6 false true false false) := by
  refine returnsInHanded_of_change_and (C := Tryd.checked) (X := fun w _ => laidMetH Tryd.prog Rows.eventStreamsRow.laid w) (fun _ _ _ hh h => h.of_heap hh) own started (by kernel_rfl) Tryd.func6
    (ChangeSpec.witness_shaped (enc := enc) (C := Tryd.checked) (os := os) (X := fun w _ => laidMetH Tryd.prog Rows.eventStreamsRow.laid w) false (World.laidAll Tryd.prog os Rows.eventStreamsRow.laid) #[.agg #[.string ByteArray.empty, .slice none 0 0, .slice none 0 0], .slice none 0 0] 8 (World.laidAll_os _ _ _)
      (World.shaped_of_ZipB (by kernel_rfl) (by kernel_rfl)) (by kernel_rfl) (by kernel_rfl) (by kernel_rfl)
      (by rw [MakeChecks.laidMetH_plain _ _ _ (by kernel_rfl)]; exact laidMet_laidAll _ (by kernel_rfl) (by kernel_rfl))) ?_
  intro W base args ds gs before hval0 hW _ _ hL _
  have hval : ∀ (j : Nat) t v, Tryd.f6.params[j]? = some t → args[j]? = some v → Value.okWide Tryd.prog W .any base t v := hval0
  have hW' := hW
  obtain ⟨p, q, hA0, hV, rfl, hfz, hnd⟩ := hW
  have hA : DataW.TrodAll enc Tryd.prog W 0 (fun _ => true) true Tryd.f6.params.toList args.toList ds p := hA0
  rw [Tryd.params6] at hA hval
  obtain ⟨v0, vs0, d0, ds0, p0, q0, hargs, rfl, rfl, h0, r0⟩ := trodAll_cons hA
  obtain ⟨v1, vs1, d1, ds1, p1, q1, rfl, rfl, rfl, h1, r1⟩ := trodAll_cons r0
  obtain ⟨rfl, rfl, rfl⟩ := trodAll_nil r1
  obtain rfl : args = #[v0, v1] := by cases args; simp_all
  obtain ⟨rfl, rfl⟩ := trodVars_none hV
  have lt0 : ∀ x ∈ p0, x.block < W.heap.size := by obtain ⟨m, hm⟩ := h0; exact DataW.trod_lt m _ _ _ hm
  have lt1 : ∀ x ∈ p1, x.block < W.heap.size := by obtain ⟨m, hm⟩ := h1; exact DataW.trod_lt m _ _ _ hm
  obtain ⟨n, A, A2, c, c2, es, ks, rfl, hn, he0, he2, hec, hec8, hk0, hk2, hkc, hkc8⟩ := in_sm (hval 0 _ _ rfl rfl) h0
  obtain ⟨Al, c8, l, rfl, hsl, hcap, hc8⟩ := in_bytes (hval 1 _ _ rfl rfl) h1
  have hT : Tabs W := tabs_of_laid (by rw [MakeChecks.laidMetH_plain _ _ _ (by kernel_rfl)] at hL; exact hL)
  clear hA0 hval0
  refine (eventStreams_walk n es ks A A2 c c2 l Al c8 W hn ⟨he0, hk0⟩ (by omega) (fun e he => ⟨(he2 e he).1, (he2 e he).2.2.1⟩) ⟨by omega, fun k hk => (hk2 k hk).1⟩ hsl hcap hc8 hT).mono fun e W' ⟨he, hg⟩ => ?_
  have bel : Below W.heap.size W W' := hg
  subst he
  exact ⟨_, rfl, _, _, _, [], _, [], hW', trodAll_mk1 (shut_bool Tryd.underlying4 _), (trodAll_cons_mk (Below.trod laidOut (by kernel_rfl) (of_decide_eq_true (by kernel_rfl)) h0 bel lt0) (trodAll_cons_mk (Below.trod laidOut (by kernel_rfl) (of_decide_eq_true (by kernel_rfl)) h1 bel lt1) (trodAll_mk0))), rfl, bel.frame _, fun h => by cases h⟩

theorem over : Rows.eventStreamsRow.holds Tryd.pinned (OpenSpec.ofChange Rows.eventStreamsSpec) :=
  OpenClaim.holds_of_wide 6 Tryd.f6 rfl rfl rfl rfl rfl rfl rfl ⟨rfl, rfl, rfl, rfl, rfl⟩ rfl rfl rfl rfl rfl (by kernel_rfl) Tryd.func6 (by kernel_rfl)
    (of_decide_eq_true (by kernel_rfl)) (by unfold Func.isWrapper; first | (rw [if_pos (by decide +kernel)]; kernel_rfl) | (rw [if_neg (by decide +kernel)]; exact ⟨rfl, rfl⟩))
    (fun os started H enc _ => lifted os started H enc)

/-- The card. -/
theorem proved : Rows.EventStreamsCardSaid :=
  Claim7.holds_tied_plain_at .later [] _ _ _ _ over (fun _ h => by cases h) (by kernel_rfl) (fun _ h => by cases h) eventStreams_row_tie rfl ⟨rfl, rfl⟩ (by kernel_rfl) rfl
    (fun f fn hf hfn => by
      obtain rfl : f = 6 := Option.some.inj ((show Tryd.prog.funcNamed "penstock/penstocklaw9.EventStreams" = some 6 by kernel_rfl).symm.trans hf) |>.symm
      obtain rfl : fn = Tryd.f6 := (Option.some.inj (Tryd.func6.symm.trans hfn)).symm
      exact ⟨by kernel_rfl, fun j t ht => by
        have hall : (Tryd.f6.params.toList.all fun u => !Tryd.prog.wantsStandIn u) = true := by kernel_rfl
        have hm : t ∈ Tryd.f6.params.toList := by simpa using Array.mem_of_getElem? ht
        exact (show Tryd.prog.wantsStandIn t = false by simpa using List.all_eq_true.1 hall t hm)⟩)
    (by kernel_rfl)
#print axioms proved
end Go.Proofs.YtilfgafdkiaaaaaDoor.eventStreams

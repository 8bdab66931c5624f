/- Several texts in one: SameRg, SameInts, SameBatch, SameSm. -/
import Derived.Test.YtheogchkelmeeaaDoorM38MsgBack
import Derived.Test.YtheogchkelmeeaaDoorM44MsgBack
import Derived.Test.YtheogchkelmeeaaDoorM0MsgBack
import Derived.BigQuiet
import Derived.Test.YtheogchkelmeeaaDoorMayQMsgBack
import Derived.Test.YtheogchkelmeeaaDoorM28MsgBack
import Derived.Test.YtheogchkelmeeaaDoorM27MsgBack
import Derived.Test.YtheogchkelmeeaaDoorM19MsgBack
/- penstockref7.SameRanges of two lists alike: true. Condition: the length fits an int. -/
namespace Go.Proofs.YtheogchkelmeeaaDoor
open Go.RowKit

theorem Sl.rg {w : World} {B : Nat} {A : Option Addr} {xs : List Rg} {k : Nat} {x : Rg} (h : Sl Rg.cells 4 w B A xs) (hx : xs[k]? = some x) :
    ∃ b o, A = some ⟨b, o, none⟩ ∧ b < B ∧ w.cell? ⟨b, o + k * 4, none⟩ = some (.int .i64 x.a) ∧ w.cell? ⟨b, o + k * 4 + 1, none⟩ = some (.int .i64 x.b) ∧ w.cell? ⟨b, o + k * 4 + 2, none⟩ = some (.int .i64 x.c) ∧ w.cell? ⟨b, o + k * 4 + 3, none⟩ = some (.int .i64 x.d) := by
  obtain ⟨b, o, e, hb, hc⟩ := h.get hx
  exact ⟨b, o, e, hb, hc 0 _ rfl, hc 1 _ rfl, hc 2 _ rfl, hc 3 _ rfl⟩
theorem rgB_self (a b c d : Int) : rgB a b c d a b c d = true := by simp [rgB]
set_option maxHeartbeats 1000000 in
theorem sameRgs_yes (xs : List Rg) (A A2 : Option Addr) (c c2 B B2 : Nat) (w : World) (hB : B ≤ w.heap.size) (hB2 : B2 ≤ w.heap.size) (hl : xs.length ≤ 9223372036854775806) (hs : Sl Rg.cells 4 w B A xs) (hs2 : Sl Rg.cells 4 w B2 A2 xs) :
    Calls Tryd.prog 37 #[.slice A xs.length c, .slice A2 xs.length c2] w fun e w' => e = .returned (.bool true) ∧ G w w' := by
  go_enter Tryd.func37, Tryd.ntmps37
  go_wp2_with fail
  go_loopw [5] (fun i wr => ∃ k : Nat, i = .int .i64 k ∧ k ≤ xs.length ∧ G w wr) (fun i _ => xs.length - (intOf i).toNat)
  case atStart => exact ⟨0, rfl, Nat.zero_le _, G.refl _⟩
  case round =>
    obtain ⟨k, rfl, hk, hg⟩ := hrel
    by_cases hlt : k < xs.length
    · obtain ⟨x, hx⟩ : ∃ x, xs[k]? = some x := ⟨_, List.getElem?_eq_getElem hlt⟩
      obtain ⟨b, o, rfl, hb, c0, c1, c2, c3⟩ := (hs.g hB hg).rg hx
      obtain ⟨b2, o2, rfl, hb2, d0, d1, d2, d3⟩ := (hs2.g hB2 hg).rg hx
      obtain ⟨xa, xb, xc, xd⟩ := x
      dsimp only at c0 c1 c2 c3 d0 d1 d2 d3
      have n1 : (0 : Int) ≤ (k : Int) := by omega
      have n2 : (k : Int) < (xs.length : Int) := by omega
      have hq := @rg_neq
      have hs0 := rgB_self xa xb xc xd
      replace hx := Lib.hid hx
      clear hs hs2
      go_upto_region 6 with fail
      go_quiet (fail)
      go_wp2_with fail
      go_roundw
      case rel => exact ⟨k + 1, by go_num, by omega, by first | exact hg | exact hg.drew | exact hg.drewN _⟩
      case measure => (simp [intOf] <;> omega)
    · clear hs hs2
      go_wp2_with fail
      go_ret
      exact ⟨rfl, hg⟩
end Go.Proofs.YtheogchkelmeeaaDoor
/- penstockref7.SameInts: whether two lists of numbers are one. Condition: lengths fit an int. -/
namespace Go.Proofs.YtheogchkelmeeaaDoor
open Go.RowKit

set_option maxRecDepth 100000 in
set_option maxHeartbeats 1000000 in
theorem sameInts_any (xs ys : List Int) (A A2 : Option Addr) (c c2 B B2 : Nat) (w : World) (hB : B ≤ w.heap.size) (hB2 : B2 ≤ w.heap.size) (hl : xs.length ≤ 9223372036854775806) (hl2 : ys.length ≤ 9223372036854775806) (hs : Sl intC 1 w B A xs) (hs2 : Sl intC 1 w B2 A2 ys) :
    Calls Tryd.prog 34 #[.slice A xs.length c, .slice A2 ys.length c2] w fun e w' => e = .returned (.bool (decide (xs = ys))) ∧ G w w' := by
  by_cases hlen : xs.length = ys.length
  case neg =>
    have hne : decide (xs = ys) = false := decide_eq_false fun h => hlen (by rw [h])
    have t1 : ((xs.length : Int) != (ys.length : Int)) = true := by rw [bne_iff_ne]; omega
    rw [hne]
    clear hne hlen hs hs2
    go_enter Tryd.func34, Tryd.ntmps34
    go_wp2_with fail
    go_ret
    exact ⟨rfl, G.refl _⟩
  have t1 : ((xs.length : Int) != (ys.length : Int)) = false := by rw [bne_eq_false_iff_eq]; omega
  have hle : ys.length ≤ xs.length := by omega
  replace hlen := Lib.hid hlen
  go_enter Tryd.func34, Tryd.ntmps34
  go_wp2_with fail
  clear t1
  go_loopw [5] (fun i wr => ∃ k : Nat, i = .int .i64 k ∧ k ≤ xs.length ∧ G w wr ∧ Hid (xs.take k = ys.take k)) (fun i _ => xs.length - (intOf i).toNat)
  case atStart => exact ⟨0, rfl, Nat.zero_le _, G.refl _, rfl⟩
  case round =>
    obtain ⟨k, rfl, hk, hg, hh⟩ := hrel
    by_cases hlt : k < xs.length
    · obtain ⟨x, hx⟩ : ∃ x, xs[k]? = some x := ⟨_, List.getElem?_eq_getElem hlt⟩
      obtain ⟨y, hy⟩ : ∃ y, ys[k]? = some y := ⟨_, List.getElem?_eq_getElem (by have := hlen.out; omega)⟩
      obtain ⟨b, o, rfl, hb, hc⟩ := (hs.g hB hg).int hx
      obtain ⟨b2, o2, rfl, hb2, hc2⟩ := (hs2.g hB2 hg).int hy
      have n1 : (0 : Int) ≤ (k : Int) := by omega
      have n2 : (k : Int) < (xs.length : Int) := by omega
      have n3 : (k : Int) < (ys.length : Int) := by have := hlen.out; omega
      by_cases hxy : x = y
      · have t1 : (x != y) = false := by rw [bne_eq_false_iff_eq]; exact hxy
        have hh2 : xs.take (k + 1) = ys.take (k + 1) := by rw [List.take_add_one, List.take_add_one, hx, hy, hh.out, hxy]
        replace hh2 := Lib.hid hh2
        replace hx := Lib.hid hx
        replace hy := Lib.hid hy
        replace hxy := Lib.hid hxy
        clear hh hs hs2
        go_upto_region 6 with fail
        go_quiet (fail)
        go_wp2_with fail
        go_roundw
        case rel => exact ⟨k + 1, by go_num, by omega, by first | exact hg | exact hg.drew | exact hg.drewN _, hh2⟩
        case measure => (simp [intOf] <;> omega)
      · have t1 : (x != y) = true := by rw [bne_iff_ne]; exact hxy
        have hfin : decide (xs = ys) = false := decide_eq_false fun h => by
          subst h
          rw [hx] at hy
          cases hy
          exact hxy rfl
        replace hfin := Lib.hid hfin
        replace hx := Lib.hid hx
        replace hy := Lib.hid hy
        clear hxy hh hs hs2
        go_upto_region 6 with fail
        go_quiet (fail)
        go_wp2_with fail
        go_ret
        exact ⟨by rw [hfin.out]; rfl, by first | exact hg | exact hg.drew | exact hg.drewN _⟩
    · have hfin : decide (xs = ys) = true := decide_eq_true (by
        have := hh.out
        rwa [List.take_of_length_le (by omega), List.take_of_length_le (by have := hlen.out; omega)] at this)
      replace hfin := Lib.hid hfin
      clear hh hs hs2
      go_wp2_with fail
      go_ret
      exact ⟨by rw [hfin.out]; rfl, hg⟩
end Go.Proofs.YtheogchkelmeeaaDoor
/- penstockref7.SameBatch: yes to two batches that hold the same. Condition: lengths of at most 2^30. -/
namespace Go.Proofs.YtheogchkelmeeaaDoor
open Go.RowKit

set_option maxRecDepth 100000 in
set_option maxHeartbeats 8000000 in
theorem sameBatch_yes (key : ByteArray) (ms ms' : List PutM) (A A' : Option Addr) (c c' : Nat) (w : World) (hin : PutsIn w w.heap.size A ms) (hin' : PutsIn w w.heap.size A' ms') (he : ms.map PutM.p = ms'.map PutM.p) (hsm : PutsSmall ms) :
    Calls Tryd.prog 33 #[.agg #[.string key, .slice A ms.length c], .agg #[.string key, .slice A' ms'.length c']] w fun e w' => e = .returned (.bool true) ∧ G w w' := by
  have hl : ms'.length = ms.length := by have := congrArg List.length he; simpa using this.symm
  rw [hl]
  obtain ⟨hs1, hs2⟩ := hsm
  replace hin := Lib.hid hin
  replace hin' := Lib.hid hin'
  replace hs2 := Lib.hid hs2
  replace he := Lib.hid he
  replace hl := Lib.hid hl
  go_enter Tryd.func33, Tryd.ntmps33
  go_upto_region 1 with fail
  generalize hW0 : (w.alloc (.cells #[.string key, .slice A ms.length c] 26)).alloc (.cells #[.string key, .slice A' ms.length c'] 26) = W0
  have hz : w.heap.size + 1 < W0.heap.size := by rw [← hW0]; simp
  have hG0 : G w W0 := by rw [← hW0]; exact (G.new _ _).alloc _
  have r0 : W0.cell? ⟨w.heap.size, 0, none⟩ = some (.string key) := by rw [← hW0]; simp
  have r1 : W0.cell? ⟨w.heap.size, 1, none⟩ = some (.slice A ms.length c) := by rw [← hW0]; simp
  have r2 : W0.cell? ⟨w.heap.size + 1, 0, none⟩ = some (.string key) := by rw [← hW0]; simp
  have r3 : W0.cell? ⟨w.heap.size + 1, 1, none⟩ = some (.slice A' ms.length c') := by rw [← hW0]; simp
  clear hW0
  have q0 : ∀ w', G W0 w' → w'.cell? ⟨w.heap.size, 0, none⟩ = some (.string key) := fun w' h => (h.cell (by omega)).trans r0
  have q1 : ∀ w', G W0 w' → w'.cell? ⟨w.heap.size, 1, none⟩ = some (.slice A ms.length c) := fun w' h => (h.cell (by omega)).trans r1
  have q2 : ∀ w', G W0 w' → w'.cell? ⟨w.heap.size + 1, 0, none⟩ = some (.string key) := fun w' h => (h.cell (by omega)).trans r2
  have q3 : ∀ w', G W0 w' → w'.cell? ⟨w.heap.size + 1, 1, none⟩ = some (.slice A' ms.length c') := fun w' h => (h.cell (by omega)).trans r3
  clear r0 r1 r2 r3
  have g0 := q0 W0 (G.refl _)
  have g1 := q1 W0 (G.refl _)
  have g2 := q2 W0 (G.refl _)
  have g3 := q3 W0 (G.refl _)
  go_wp2_with fail
  clear g0 g1 g2 g3
  go_loopw [5] (fun i wr => ∃ k : Nat, i = .int .i64 k ∧ k ≤ ms.length ∧ G W0 wr) (fun i _ => ms.length - (intOf i).toNat)
  case atStart => exact ⟨0, rfl, Nat.zero_le _, G.refl _⟩
  case round =>
    obtain ⟨wo, rfl⟩ : ∃ wo : World, wo = wr := ⟨_, rfl⟩
    obtain ⟨k, rfl, hkl, hgr⟩ := hrel
    have hg := hG0.trans hgr
    have g1 := q1 wo hgr
    have g3 := q3 wo hgr
    by_cases hlt : k < ms.length
    · obtain ⟨p, hp⟩ : ∃ p, ms[k]? = some p := ⟨_, List.getElem?_eq_getElem hlt⟩
      obtain ⟨p', hp'⟩ : ∃ p', ms'[k]? = some p' := ⟨_, List.getElem?_eq_getElem (by rw [hl.out]; exact hlt)⟩
      have hpp : p.p = p'.p := by
        have h1 := puts_take hp
        have h2 := puts_take hp'
        rw [he.out, h2] at h1
        exact (Option.some.inj h1).symm
      obtain ⟨z1, zE, z2, z3⟩ := hs2.out p (List.mem_of_getElem? hp)
      have hsl := (hin.out.g (Nat.le_refl _) hg).1.get hp
      have hsl' := (hin'.out.g (Nat.le_refl _) hg).1.get hp'
      have hdat := hin.out.2 p (List.mem_of_getElem? hp)
      have hdat' := hin'.out.2 p' (List.mem_of_getElem? hp')
      obtain ⟨pst, pex, pA, pc, pd⟩ := p
      obtain ⟨pst', pex', pA', pc', pd'⟩ := p'
      unfold PutM.p at hpp
      simp only [PutP.mk.injEq] at hpp
      obtain ⟨rfl, rfl, rfl⟩ := hpp
      simp only at z1 zE z2 z3 hdat hdat'
      obtain ⟨b, o, rfl, hb, hc⟩ := hsl
      obtain ⟨b', o', rfl, hb', hc'⟩ := hsl'
      have c0 := hc 0 _ rfl
      have c1 := hc 1 _ rfl
      have c2 := hc 2 _ rfl
      simp only [Nat.add_zero] at c0
      have d0 := hc' 0 _ rfl
      have d1 := hc' 1 _ rfl
      have d2 := hc' 2 _ rfl
      simp only [Nat.add_zero] at d0
      have n1 : (0 : Int) ≤ (k : Int) := by omega
      have n2 : (k : Int) < (ms.length : Int) := by omega
      have hbx := blk_new wo #[.string pst, .int .i64 pex, .slice pA pd.length pc] 124
      have hgn := G.new wo (.cells #[.string pst, .int .i64 pex, .slice pA pd.length pc] 124)
      have b0 := (hgn.cell (b := b') (o := o' + k * 3) (by have := hg.size; omega)).trans d0
      have b1 := (hgn.cell (b := b') (o := o' + k * 3 + 1) (by have := hg.size; omega)).trans d1
      have b2 := (hgn.cell (b := b') (o := o' + k * 3 + 2) (by have := hg.size; omega)).trans d2
      have b3 := q3 _ (hgr.trans hgn)
      replace hbx := Lib.hid hbx
      replace hgn := Lib.hid hgn
      replace hdat := Lib.hid hdat
      replace hdat' := Lib.hid hdat'
      clear hp hp' hc hc'
      go_upto_region 8 with fail
      generalize hwx : (wo.alloc (.cells #[.string pst, .int .i64 pex, .slice pA pd.length pc] 124)).alloc (.cells #[.string pst, .int .i64 pex, .slice pA' pd.length pc'] 124) = wx
      have hgx : G wo wx := by rw [← hwx]; exact hgn.out.trans (G.new _ _)
      have hX : wx.heap[wo.heap.size]? = some (.cells #[.string pst, .int .i64 pex, .slice pA pd.length pc] 124 (0, 0)) := by rw [← hwx]; exact (G.new _ _).blk hbx.out
      have hY : wx.heap[wo.heap.size + 1]? = some (.cells #[.string pst, .int .i64 pex, .slice pA' pd.length pc'] 124 (0, 0)) := by rw [← hwx]; exact blk_new' _ _ _ _ (by simp)
      clear hwx b0 b1 b2 b3 c0 c1 c2 d0 d1 d2 g1 g3
      have x0 := (blk_cell hX 0).trans (show _ = some (.string pst) from rfl)
      have x1 := (blk_cell hX 1).trans (show _ = some (.int .i64 pex) from rfl)
      have x2 := (blk_cell hX 2).trans (show _ = some (.slice pA pd.length pc) from rfl)
      have y0 := (blk_cell hY 0).trans (show _ = some (.string pst) from rfl)
      have y1 := (blk_cell hY 1).trans (show _ = some (.int .i64 pex) from rfl)
      have y2 := (blk_cell hY 2).trans (show _ = some (.slice pA' pd.length pc') from rfl)
      replace hX := Lib.hid hX
      replace hY := Lib.hid hY
      go_wp2_with fail
      clear x0 x1 x2 y0 y1 y2
      go_loopw [8] (fun i wr => ∃ j : Nat, i = .int .i64 j ∧ j ≤ pd.length ∧ G wx wr) (fun i _ => pd.length - (intOf i).toNat)
      case atStart => exact ⟨0, rfl, Nat.zero_le _, G.refl _⟩
      case round =>
        obtain ⟨j, rfl, hjl, hgw⟩ := hrel
        have hgt := (hg.trans hgx).trans hgw
        have x2 := (blk_cell (hgw.blk hX.out) 2).trans (show _ = some (.slice pA pd.length pc) from rfl)
        have y2 := (blk_cell (hgw.blk hY.out) 2).trans (show _ = some (.slice pA' pd.length pc') from rfl)
        by_cases hjt : j < pd.length
        · obtain ⟨t, ht⟩ : ∃ t, pd[j]? = some t := ⟨_, List.getElem?_eq_getElem hjt⟩
          obtain ⟨b3, o3, rfl, _, t1⟩ := (hdat.out.g (Nat.le_refl _) hgt).str ht
          obtain ⟨b4, o4, rfl, _, t2⟩ := (hdat'.out.g (Nat.le_refl _) hgt).str ht
          have m1 : (0 : Int) ≤ (j : Int) := by omega
          have m2 : (j : Int) < (pd.length : Int) := by omega
          clear ht
          go_upto_region 13 with fail
          go_quiet (fail)
          go_wp2_with fail
          go_roundw
          case rel => exact ⟨j + 1, by go_num, by omega, by first | exact hgw | exact hgw.drew | exact hgw.drewN _⟩
          case measure => (simp [intOf] <;> omega)
        · go_wp2_with fail
          go_roundw
          case rel => exact ⟨k + 1, by go_num, by omega, (hgr.trans hgx).trans hgw⟩
          case measure => (simp [intOf] <;> omega)
    · go_wp2_with fail
      go_ret
      exact ⟨rfl, hg⟩
end Go.Proofs.YtheogchkelmeeaaDoor
/- penstockref7.SameStreams: yes to two lists of streams that hold the same. Condition: lengths fit an int. -/
namespace Go.Proofs.YtheogchkelmeeaaDoor
open Go.RowKit

set_option maxRecDepth 100000 in
set_option maxHeartbeats 8000000 in
theorem sameSms_yes (ss ts : List SmM) (A A' : Option Addr) (c c' : Nat) (w : World) (hin : SmsIn w w.heap.size A ss) (hin' : SmsIn w w.heap.size A' ts) (he : ss.map SmM.sm = ts.map SmM.sm) (hl : ss.length ≤ 9223372036854775807) (hll : ∀ s ∈ ss, s.es.length ≤ 9223372036854775807 ∧ s.ks.length ≤ 9223372036854775807) :
    Calls Tryd.prog 35 #[.slice A ss.length c, .slice A' ts.length c'] w fun e w' => e = .returned (.bool true) ∧ G w w' := by
  have hlen : ts.length = ss.length := by have := congrArg List.length he; simpa using this.symm
  rw [hlen]
  replace hin := Lib.hid hin
  replace hin' := Lib.hid hin'
  replace he := Lib.hid he
  replace hlen := Lib.hid hlen
  replace hll := Lib.hid hll
  go_enter Tryd.func35, Tryd.ntmps35
  go_wp2_with fail
  go_loopw [5] (fun i wr => ∃ k : Nat, i = .int .i64 k ∧ k ≤ ss.length ∧ G w wr) (fun i _ => ss.length - (intOf i).toNat)
  case atStart => exact ⟨0, rfl, Nat.zero_le _, G.refl _⟩
  case round =>
    obtain ⟨wo, rfl⟩ : ∃ wo : World, wo = wr := ⟨_, rfl⟩
    obtain ⟨k, rfl, hkl, hg⟩ := hrel
    by_cases hlt : k < ss.length
    · obtain ⟨p, hp⟩ : ∃ p, ss[k]? = some p := ⟨_, List.getElem?_eq_getElem hlt⟩
      obtain ⟨p', hp'⟩ : ∃ p', ts[k]? = some p' := ⟨_, List.getElem?_eq_getElem (by rw [hlen.out]; exact hlt)⟩
      have hpp : p.sm = p'.sm := by
        have h1 : (ss.map SmM.sm)[k]? = some p.sm := by rw [List.getElem?_map, hp]; rfl
        have h2 : (ts.map SmM.sm)[k]? = some p'.sm := by rw [List.getElem?_map, hp']; rfl
        rw [he.out, h2] at h1
        exact (Option.some.inj h1).symm
      obtain ⟨z1, z2⟩ := hll.out p (List.mem_of_getElem? hp)
      have hsl := (hin.out.g (Nat.le_refl _) hg).1.get hp
      have hsl' := (hin'.out.g (Nat.le_refl _) hg).1.get hp'
      have hdat := hin.out.2 p (List.mem_of_getElem? hp)
      have hdat' := hin'.out.2 p' (List.mem_of_getElem? hp')
      obtain ⟨pn, pA, pc, pe, pA2, pc2, pk⟩ := p
      obtain ⟨pn', pA', pc', pe', pA2', pc2', pk'⟩ := p'
      unfold SmM.sm at hpp
      simp only [Sm.mk.injEq] at hpp
      obtain ⟨rfl, rfl, rfl⟩ := hpp
      simp only at z1 z2 hdat hdat'
      obtain ⟨b, o, rfl, hb, hc⟩ := hsl
      obtain ⟨b', o', rfl, hb', hc'⟩ := hsl'
      have hgb : b < wo.heap.size := by have := hg.size; omega
      have hgb' : b' < wo.heap.size := by have := hg.size; omega
      have c0 := hc 0 _ rfl
      have c1 := hc 1 _ rfl
      have c2 := hc 2 _ rfl
      simp only [Nat.add_zero] at c0
      have d0 := hc' 0 _ rfl
      have d1 := hc' 1 _ rfl
      have d2 := hc' 2 _ rfl
      simp only [Nat.add_zero] at d0
      have n1 : (0 : Int) ≤ (k : Int) := by omega
      have n2 : (k : Int) < (ss.length : Int) := by omega
      have t1 : (pn.toList == pn.toList) = true := by simp
      have t2 : (pn.toList != pn.toList) = false := by simp
      have hse : ∀ w', G wo w' → Calls Tryd.prog 36 #[.slice pA pe.length pc, .slice pA' pe.length pc'] w' fun e w'' => e = .returned (.bool true) ∧ G w' w'' := fun w' h => by
        have := sameEvents_any pe pe pA pA' pc pc' w.heap.size w' (hg.trans h).size z1 z1 (hdat.1.g (Nat.le_refl _) (hg.trans h)) (hdat'.1.g (Nat.le_refl _) (hg.trans h))
        unfold evsB at this
        simpa using this
      have x0 : ∀ w', G wo w' → w'.cell? ⟨b, o + k * 3, none⟩ = some (.string pn) := fun w' h => (h.cell hgb).trans c0
      have y0 : ∀ w', G wo w' → w'.cell? ⟨b', o' + k * 3, none⟩ = some (.string pn) := fun w' h => (h.cell hgb').trans d0
      have x1 : ∀ w', G wo w' → w'.cell? ⟨b, o + k * 3 + 1, none⟩ = some (.slice pA pe.length pc) := fun w' h => (h.cell hgb).trans c1
      have x2 : ∀ w', G wo w' → w'.cell? ⟨b, o + k * 3 + 2, none⟩ = some (.slice pA2 pk.length pc2) := fun w' h => (h.cell hgb).trans c2
      have y1 : ∀ w', G wo w' → w'.cell? ⟨b', o' + k * 3 + 1, none⟩ = some (.slice pA' pe.length pc') := fun w' h => (h.cell hgb').trans d1
      have y2 : ∀ w', G wo w' → w'.cell? ⟨b', o' + k * 3 + 2, none⟩ = some (.slice pA2' pk.length pc2') := fun w' h => (h.cell hgb').trans d2
      replace hdat := Lib.hid hdat
      replace hdat' := Lib.hid hdat'
      clear hp hp' hc hc'
      go_upto_region 6 with fail
      refine wp_region_held_drew (S := fun w' => G wo w') (by kernel_rfl) ((G.refl _).drew) (fun hHeld => ?_)
      iterate 22 (refine lin_n (by rfl) (v := ?_) (by kernel_rfl) (by exact fun _ _ _ h => h) (by kernel_rfl) ?_ (by assumption) ?_; rotate_left; (focus (intro w hSw; (try dsimp only at hSw); simp only [List.getElem?_toArray, List.getElem?_cons_zero, List.getElem?_cons_succ, Option.map_some, Option.some.injEq]; go_simp; (first | done | with_reducible rfl))); (try simp only [Act.put, List.setIfInBounds_toArray, List.set_cons_zero, List.set_cons_succ]))
      refine wpAnyH_ready (rs := [22]) (by kernel_rfl) (by simp) ?_
      refine AllReadyH.cons (i := 22) rfl (fun K hK => ?_) AllReadyH.nil
      go_simp
      refine Calls.mono (hse _ (by assumption)) ?_
      rintro e u1 ⟨rfl, hgm⟩
      go_wp2_with fail
      refine hK.out _ _ (hgm.keep (by assumption)) (fun hHeld => ?_)
      clear hK K
      try simp only [Act.put, List.setIfInBounds_toArray, List.set_cons_zero, List.set_cons_succ]
      iterate 17 (refine lin_n (by rfl) (v := ?_) (by kernel_rfl) (by exact fun _ _ _ h => h) (by kernel_rfl) ?_ (by assumption) ?_; rotate_left; (focus (intro w hSw; (try dsimp only at hSw); simp only [List.getElem?_toArray, List.getElem?_cons_zero, List.getElem?_cons_succ, Option.map_some, Option.some.injEq]; go_simp; (first | done | with_reducible rfl))); (try simp only [Act.put, List.setIfInBounds_toArray, List.set_cons_zero, List.set_cons_succ]))
      refine wpAnyH_done (by kernel_rfl) ?_ _
      have hge : G wo u1 := by assumption
      go_wp2_with fail
      go_loopw [6] (fun i wr => ∃ j : Nat, i = .int .i64 j ∧ j ≤ pk.length ∧ G wo wr) (fun i _ => pk.length - (intOf i).toNat)
      case atStart => exact ⟨0, rfl, Nat.zero_le _, by assumption⟩
      case round =>
        obtain ⟨j, rfl, hjl, hgw⟩ := hrel
        have hgt := hg.trans hgw
        have x2w := x2 _ hgw
        have y2w := y2 _ hgw
        by_cases hjt : j < pk.length
        · obtain ⟨⟨yk, yv, ⟨ya, yb, yc⟩⟩, ht⟩ : ∃ t, pk[j]? = some t := ⟨_, List.getElem?_eq_getElem hjt⟩
          obtain ⟨b3, o3, rfl, _, f⟩ := (hdat.out.2.g (Nat.le_refl _) hgt).get ht
          obtain ⟨b4, o4, rfl, _, f'⟩ := (hdat'.out.2.g (Nat.le_refl _) hgt).get ht
          have f0 := f 0 _ rfl
          have f1 := f 1 _ rfl
          have f2 := f 2 _ rfl
          have f3 := f 3 _ rfl
          have f4 := f 4 _ rfl
          simp only [Nat.add_zero] at f0
          have e0 := f' 0 _ rfl
          have e1 := f' 1 _ rfl
          have e2 := f' 2 _ rfl
          have e3 := f' 3 _ rfl
          have e4 := f' 4 _ rfl
          simp only [Nat.add_zero] at e0
          have m1 : (0 : Int) ≤ (j : Int) := by omega
          have m2 : (j : Int) < (pk.length : Int) := by omega
          clear ht f f' hse
          go_upto_region 11 with fail
          go_quiet (fail)
          go_wp2_with fail
          go_roundw
          case rel => exact ⟨j + 1, by go_num, by omega, by first | exact hgw | exact hgw.drew | exact hgw.drewN _⟩
          case measure => (simp [intOf] <;> omega)
        · go_wp2_with fail
          go_roundw
          case rel => exact ⟨k + 1, by go_num, by omega, hg.trans hgw⟩
          case measure => (simp [intOf] <;> omega)
    · go_wp2_with fail
      go_ret
      exact ⟨rfl, hg⟩
end Go.Proofs.YtheogchkelmeeaaDoor

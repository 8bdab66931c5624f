/- Several texts in one: RefCheck, BatEnc, DecSt, Make, Same, Awake9, EventLimitsW, ReadStr, EventLimits. -/
import Derived.Test.YtilfgafdkiaaaaaDoorCheck
import Derived.Test.YtilfgafdkiaaaaaDoorRefName
import Derived.Test.YtilfgafdkiaaaaaDoorEvEnc
import Derived.Test.YtilfgafdkiaaaaaDoorZig
import Derived.Test.YtilfgafdkiaaaaaDoorDecEvent
import Derived.Test.YtilfgafdkiaaaaaDoorBatch
import Derived.Test.YtilfgafdkiaaaaaDoorEv
import Derived.Test.YtilfgafdkiaaaaaDoorLimLaw
import Derived.Deep.RegionLaw
import Derived.BigRegion
import Derived.Test.YtilfgafdkiaaaaaDoorTabs
import Derived.Test.YtilfgafdkiaaaaaDoorRows
import Derived.ProofKit
import Derived.OpenShut
import Derived.PinnedBridge
import Derived.Lib.LaidU8T
import Derived.Lay
import Derived.SevenTiedAt
import Derived.LaidMore
import Derived.Test.YtilfgafdkiaaaaaDoorTie
import Derived.Test.YtilfgafdkiaaaaaDoorCards
/- penstockref7.Check: what it answers. Conditions: lengths of at most 2^30; the decoder's tables lie as the library lays them. -/
namespace Go.Proofs.YtilfgafdkiaaaaaDoor
open Go.RowKit

/-- How the count stands ahead of put k. -/
structure RefSt (ps : List PutP) (k : Nat) (bg : Bool) (al : Nat) : Prop where
  ok : ∀ p ∈ ps.take k, putOk p = true
  ap : apart ((ps.take k).map PutP.stream) = true
  big : bg = (decide (8 < ps.length) || (ps.take k).any putBig)
  all : al = min (sumP (ps.take k)) 1099511627776
/-- .. and within put k, ahead of text i. -/
structure RefIn (ps : List PutP) (k : Nat) (ds : List ByteArray) (i : Nat) (bg : Bool) (al : Nat) : Prop where
  big : bg = (decide (8 < ps.length) || (ps.take k).any putBig || decide (20 < ds.length) || (ds.take i).any fun d => decide (1000 < d.size))
  all : al = min (sumP (ps.take k) + sizes (ds.take i)) 1099511627776
  val : (ds.take i).all validB = true
theorem RefSt.begin {ps : List PutP} {k : Nat} {bg : Bool} {al : Nat} (h : RefSt ps k bg al) (ds : List ByteArray) : RefIn ps k ds 0 (bg || decide (20 < ds.length)) al :=
  ⟨by rw [h.big]; simp, by rw [h.all]; simp [sizes], rfl⟩
theorem RefIn.step {ps : List PutP} {k : Nat} {ds : List ByteArray} {i : Nat} {bg : Bool} {al : Nat} {s : ByteArray} (h : RefIn ps k ds i bg al) (hs : ds[i]? = some s) (hv : validB s = true) : RefIn ps k ds (i + 1) (bg || decide (1000 < s.size)) (min (al + s.size) 1099511627776) :=
  ⟨by rw [h.big, take_snocP hs, List.any_append]; simp [Bool.or_assoc], by rw [h.all, sizes_snoc hs]; omega, all_take_snoc hs h.val hv⟩
theorem RefIn.done {ps : List PutP} {k : Nat} {p : PutP} {i : Nat} {bg : Bool} {al : Nat} {bg0 : Bool} {al0 : Nat} (h : RefIn ps k p.data i bg al) (h0 : RefSt ps k bg0 al0) (hp : ps[k]? = some p) (hi : p.data.length ≤ i) (h1 : nameB p.stream = true) (h2 : -1 ≤ p.expect ∧ p.expect ≤ 1099511627776) (h3 : p.data ≠ [])
    (h4 : (((ps.take k).map PutP.stream).any fun t => decide (t = p.stream)) = false) : RefSt ps (k + 1) bg al := by
  have ht := List.take_of_length_le hi
  have hb := h.big
  have ha := h.all
  have hv := h.val
  rw [ht] at hb ha hv
  refine ⟨fun q hq => ?_, ?_, ?_, ?_⟩
  · rw [take_snocP hp] at hq
    rcases List.mem_append.1 hq with h5 | h5
    · exact h0.ok q h5
    · rw [List.mem_singleton] at h5
      subst h5
      exact (putOk_iff _).2 ⟨h1, h2, h3, hv⟩
  · rw [take_snocP hp, List.map_append, List.map_cons, List.map_nil, apart_snoc, h0.ap, h4]
    rfl
  · rw [hb, take_snocP hp, List.any_append, List.any_cons, List.any_nil, Bool.or_false]
    unfold putBig
    simp only [Bool.or_assoc]
  · rw [ha, sumP_snoc hp]
theorem RefSt.end {key : ByteArray} {ps : List PutP} {bg : Bool} {al : Nat} (h : RefSt ps ps.length bg al) (hk : keyB key = true) (hne : ps ≠ []) : chkN key ps = if (bg || decide (30000 < (al : Int))) = true then 2 else 0 := by
  have h1 := h.ok
  have h2 := h.ap
  have h3 := h.big
  have h4 := h.all
  rw [List.take_length] at h1 h2 h3 h4
  have ha : argB key ps = true := by rw [argB_end h1 h2, hk, decide_eq_true hne]; rfl
  have hb : bigB ps = (bg || decide (30000 < (al : Int))) := by
    unfold bigB
    rw [h3]
    congr 1
    rw [decide_eq_decide]
    unfold sumP at h4
    omega
  unfold chkN
  rw [ha, hb]
  rfl
theorem any_not {l : List ByteArray} {s : ByteArray} (h : ∀ (j : Nat) (t : ByteArray), l[j]? = some t → t ≠ s) : (l.any fun t => decide (t = s)) = false := by
  rw [List.any_eq_false]
  intro t ht
  obtain ⟨j, hj, rfl⟩ := List.getElem_of_mem ht
  have := h j _ (List.getElem?_eq_getElem hj)
  simpa using this
theorem toList_eqb (a b : ByteArray) : (a.toList == b.toList) = decide (a = b) := bytes_beq a b
theorem cell_lt2 {w : World} {k o : Nat} {v : Value} (h : w.cell? ⟨k, o, none⟩ = some v) : k < w.heap.size := by
  rcases Nat.lt_or_ge k w.heap.size with h1 | h1
  · exact h1
  · simp [World.cell?, Array.getElem?_eq_none h1] at h
set_option maxRecDepth 100000 in
set_option maxHeartbeats 8000000 in
theorem refCheck_any (key : ByteArray) (ps : List PutM) (A : Option Addr) (c : Nat) (w : World) (hin : PutsIn w w.heap.size A ps) (hk : key.size ≤ 1073741824) (hsm : PutsSmall ps) :
    Calls Tryd.prog 28 #[.agg #[.string key, .slice A ps.length c]] w fun e w' => e = .returned (.int .i64 (chkN key (ps.map PutM.p))) ∧ G w w' := by
  have hke : ∀ w', Calls Tryd.prog 56 #[.string key] w' fun e w'' => e = .returned (.bool (keyB key)) ∧ G w' w'' := fun w' => refKey_any key w' hk
  obtain ⟨hs1, hs2⟩ := hsm
  replace hin := Lib.hid hin
  replace hs2 := Lib.hid hs2
  cases hkb : keyB key with
  | false =>
    have hno := Lib.hid (show chkN key (ps.map PutM.p) = 1 by unfold chkN argB; rw [hkb]; rfl)
    rw [hkb] at hke
    clear hkb
    go_enter Tryd.func28, Tryd.ntmps28
    go_wp2_with fail
    refine (hke _).mono ?_
    rintro e w1 ⟨rfl, hg⟩
    go_wp2_with fail
    go_ret
    exact ⟨by rw [hno.out]; rfl, (G.new _ _).trans hg⟩
  | true =>
  rw [hkb] at hke
  by_cases hnil : ps = []
  · have hno := Lib.hid (show chkN key (ps.map PutM.p) = 1 by rw [hnil]; unfold chkN argB; simp)
    have hl0 : ((ps.length : Int) == 0) = true := by rw [hnil]; rfl
    replace hnil := Lib.hid hnil
    clear hkb
    go_enter Tryd.func28, Tryd.ntmps28
    go_wp2_with fail
    generalize hW0 : w.alloc (.cells #[.string key, .slice A ps.length c] 25) = W0
    have hz : w.heap.size + 0 < W0.heap.size := by rw [← hW0]; simp
    have hG0 : G w W0 := by rw [← hW0]; exact G.new _ _
    have r0 : W0.cell? ⟨w.heap.size, 0, none⟩ = some (.string key) := by rw [← hW0]; simp
    have r1 : W0.cell? ⟨w.heap.size, 1, none⟩ = some (.slice A ps.length c) := by rw [← hW0]; simp
    clear hW0
    have q0 : ∀ w', G W0 w' → w'.cell? ⟨w.heap.size, 0, none⟩ = some (.string key) := fun w' h => (h.cell (by omega)).trans r0
    have q1 : ∀ w', G W0 w' → w'.cell? ⟨w.heap.size, 1, none⟩ = some (.slice A ps.length c) := fun w' h => (h.cell (by omega)).trans r1
    clear r0 r1
    refine (hke _).mono ?_
    rintro e w1 ⟨rfl, hg⟩
    go_wp2_with fail
    go_ret
    exact ⟨by rw [hno.out]; rfl, hG0.trans hg⟩
  have hl0 : ((ps.length : Int) == 0) = false := by
    rw [beq_eq_false_iff_ne]
    intro h
    exact hnil (List.eq_nil_of_length_eq_zero (by omega))
  have hne : ps.map PutM.p ≠ [] := by simpa using hnil
  replace hne := Lib.hid hne
  replace hkb := Lib.hid hkb
  clear hnil
  go_enter Tryd.func28, Tryd.ntmps28
  go_wp2_with fail
  generalize hW0 : w.alloc (.cells #[.string key, .slice A ps.length c] 25) = W0
  have hz : w.heap.size + 0 < W0.heap.size := by rw [← hW0]; simp
  have hG0 : G w W0 := by rw [← hW0]; exact G.new _ _
  have r0 : W0.cell? ⟨w.heap.size, 0, none⟩ = some (.string key) := by rw [← hW0]; simp
  have r1 : W0.cell? ⟨w.heap.size, 1, none⟩ = some (.slice A ps.length c) := by rw [← hW0]; simp
  clear hW0
  have q0 : ∀ w', G W0 w' → w'.cell? ⟨w.heap.size, 0, none⟩ = some (.string key) := fun w' h => (h.cell (by omega)).trans r0
  have q1 : ∀ w', G W0 w' → w'.cell? ⟨w.heap.size, 1, none⟩ = some (.slice A ps.length c) := fun w' h => (h.cell (by omega)).trans r1
  clear r0 r1
  refine (hke _).mono ?_
  clear hke
  rintro e w1 ⟨rfl, hg⟩
  obtain ⟨bg0, hbg0⟩ : ∃ b, decide (8 < (ps.length : Int)) = b := ⟨_, rfl⟩
  have hst0 : RefSt (ps.map PutM.p) 0 bg0 0 := ⟨by simp, rfl, by rw [← hbg0, List.length_map]; simp only [List.take_zero, List.any_nil, Bool.or_false]; exact decide_eq_decide.2 (by omega), by simp [sumP]⟩
  replace hst0 := Lib.hid hst0
  go_wp2_with fail
  clear hbg0 hl0
  go_loopw [3, 4, 5] (fun v a i wr => ∃ (k al : Nat) (bg : Bool), v = .bool bg ∧ a = .int .i64 al ∧ i = .int .i64 k ∧ k ≤ ps.length ∧ Hid (RefSt (ps.map PutM.p) k bg al) ∧ G W0 wr) (fun _ _ i _ => ps.length - (intOf i).toNat)
  case atStart => exact ⟨0, 0, bg0, rfl, rfl, rfl, Nat.zero_le _, hst0, hg⟩
  case round =>
    clear hst0 hg
    obtain ⟨k, al, bg, rfl, rfl, rfl, hkl, hst, hgr⟩ := hrel
    obtain ⟨wo, rfl⟩ : ∃ wo : World, wo = wr := ⟨_, rfl⟩
    have hg := hG0.trans hgr
    by_cases hlt : k < ps.length
    · obtain ⟨p, hp⟩ : ∃ p, ps[k]? = some p := ⟨_, List.getElem?_eq_getElem hlt⟩
      have hpm := List.mem_of_getElem? hp
      obtain ⟨z1, zE, z2, z3⟩ := hs2.out p hpm
      have hsl := (hin.out.g (Nat.le_refl _) hg).1.get hp
      have hdat := hin.out.2 p hpm
      obtain ⟨pst, pex, pA, pc, pd⟩ := p
      simp only at z1 zE z2 z3 hdat
      obtain ⟨b, o, rfl, hb, hc⟩ := hsl
      have c0 := hc 0 _ rfl
      have c1 := hc 1 _ rfl
      have c2 := hc 2 _ rfl
      simp only [Nat.add_zero] at c0
      have n1 : (0 : Int) ≤ (k : Int) := by omega
      have n2 : (k : Int) < (ps.length : Int) := by omega
      have hbx := blk_new wo #[.string pst, .int .i64 pex, .slice pA pd.length pc] 29
      have hgn := G.new wo (.cells #[.string pst, .int .i64 pex, .slice pA pd.length pc] 29)
      have hgx := hgr.trans hgn
      have hn : ∀ w', Calls Tryd.prog 43 #[.string pst] w' fun e w'' => e = .returned (.bool (nameB pst)) ∧ G w' w'' := fun w' => refName_any pst w' z1
      have hno1 : putOk (PutM.p ⟨pst, pex, pA, pc, pd⟩) = false → chkN key (ps.map PutM.p) = 1 := fun h => by unfold chkN; rw [argNo_put (puts_take hp) h]; rfl
      have hput : ¬ (nameB pst = true ∧ (-1 ≤ pex ∧ pex ≤ 1099511627776) ∧ pd ≠ [] ∧ pd.all validB = true) → chkN key (ps.map PutM.p) = 1 := fun h => hno1 (by
        cases hk : putOk (PutM.p ⟨pst, pex, pA, pc, pd⟩) with
        | false => rfl
        | true => exact absurd ((putOk_iff _).1 hk) h)
      replace hput := Lib.hid hput
      replace hp := Lib.hid hp
      replace hdat := Lib.hid hdat
      clear hno1 hc
      have hxb : ∀ w', G (wo.alloc (.cells #[.string pst, .int .i64 pex, .slice pA pd.length pc] 29)) w' → w'.heap[wo.heap.size]? = some (.cells #[.string pst, .int .i64 pex, .slice pA pd.length pc] 29 (0, 0)) := fun w' h => h.blk hbx
      replace hxb := Lib.hid hxb
      have hgd := q1 wo hgr
      clear hbx
      cases h1 : nameB pst with
      | false =>
        have hno := Lib.hid (hput.out (by rw [h1]; simp))
        rw [h1] at hn
        clear h1
        go_wp2_with fail
        refine (hn _).mono ?_
        rintro e w2 ⟨rfl, hg2⟩
        go_wp2_with fail
        go_ret
        exact ⟨by rw [hno.out]; rfl, (hg.trans hgn).trans hg2⟩
      | true =>
      rw [h1] at hn
      replace h1 := Lib.hid h1
      by_cases h2 : -1 ≤ pex
      case neg =>
        have hno := Lib.hid (hput.out (by omega))
        have t2 : decide (pex < -1) = true := decide_eq_true (by omega)
        have t2' : pex < -1 := by omega
        clear h2
        go_wp2_with fail
        refine (hn _).mono ?_
        rintro e w2 ⟨rfl, hg2⟩
        have hx := hxb.out _ hg2
        have x1 := (blk_cell hx 1).trans (show _ = some (.int .i64 pex) from rfl)
        clear hx
        go_wp2_with fail
        go_ret
        exact ⟨by rw [hno.out]; rfl, (hg.trans hgn).trans hg2⟩
      have t2 : ¬ pex < -1 := by omega
      by_cases h3 : pex ≤ 1099511627776
      case neg =>
        have hno := Lib.hid (hput.out (by omega))
        have t3 : 1099511627776 < pex := by omega
        clear h2 h3
        go_wp2_with fail
        refine (hn _).mono ?_
        rintro e w2 ⟨rfl, hg2⟩
        have hx := hxb.out _ hg2
        have x1 := (blk_cell hx 1).trans (show _ = some (.int .i64 pex) from rfl)
        clear hx
        go_wp2_with fail
        go_ret
        exact ⟨by rw [hno.out]; rfl, (hg.trans hgn).trans hg2⟩
      have t3 : ¬ 1099511627776 < pex := by omega
      by_cases h4 : pd = []
      · have hno := Lib.hid (hput.out (by rw [h4]; simp))
        have t4 : ((pd.length : Int) == 0) = true := by rw [h4]; rfl
        replace h4 := Lib.hid h4
        clear h2 h3
        go_wp2_with fail
        refine (hn _).mono ?_
        rintro e w2 ⟨rfl, hg2⟩
        have hx := hxb.out _ hg2
        have x1 := (blk_cell hx 1).trans (show _ = some (.int .i64 pex) from rfl)
        have x2 := (blk_cell hx 2).trans (show _ = some (.slice pA pd.length pc) from rfl)
        clear hx
        go_wp2_with fail
        go_ret
        exact ⟨by rw [hno.out]; rfl, (hg.trans hgn).trans hg2⟩
      have t4 : ((pd.length : Int) == 0) = false := by
        rw [beq_eq_false_iff_ne]
        intro h
        exact h4 (List.eq_nil_of_length_eq_zero (by omega))
      have h23 := Lib.hid (show -1 ≤ pex ∧ pex ≤ 1099511627776 from ⟨h2, h3⟩)
      replace h4 := Lib.hid h4
      clear h2 h3
      go_wp2_with fail
      refine (hn _).mono ?_
      clear hn
      rintro e w2 ⟨rfl, hg2⟩
      have hx := hxb.out _ hg2
      have x1 := (blk_cell hx 1).trans (show _ = some (.int .i64 pex) from rfl)
      have x2 := (blk_cell hx 2).trans (show _ = some (.slice pA pd.length pc) from rfl)
      replace hgx := hgx.trans hg2
      replace hx := Lib.hid hx
      clear hgn hg2 hxb c0 c1 c2
      go_wp2_with fail
      clear x1 x2 t2 t3 t4
      go_loopw [7] (fun i wr => ∃ q : Nat, i = .int .i64 q ∧ q ≤ k ∧ Hid (∀ (j : Nat) (t : ByteArray), j < q → ((ps.map PutM.p).map PutP.stream)[j]? = some t → t ≠ pst) ∧ G w2 wr) (fun i _ => k - (intOf i).toNat)
      case atStart => exact ⟨0, rfl, Nat.zero_le _, (fun j t h => by omega), G.refl _⟩
      case round =>
        obtain ⟨q, rfl, hq, hun, hgi⟩ := hrel
        have hxi := hgi.blk hx.out
        have hg0i := hgx.trans hgi
        have k1 := q1 _ hg0i
        by_cases hql : q < k
        · obtain ⟨r, hr⟩ : ∃ r, ps[q]? = some r := ⟨_, List.getElem?_eq_getElem (by omega)⟩
          obtain ⟨b2, o2, eA, _, hc2⟩ := (hin.out.g (Nat.le_refl _) (hG0.trans hg0i)).1.get hr
          cases eA
          have d0 := hc2 0 _ rfl
          simp only [Nat.add_zero] at d0
          have x0 := (blk_cell hxi 0).trans (show _ = some (.string pst) from rfl)
          have hrs : ((ps.map PutM.p).map PutP.stream)[q]? = some r.stream := by rw [strs_same, List.getElem?_map, hr]; rfl
          have m1 : (0 : Int) ≤ (q : Int) := by omega
          have m2 : (q : Int) < (ps.length : Int) := by omega
          have m3 : (q : Int) < (k : Int) := by omega
          obtain ⟨rst, rex, rA, rc, rd⟩ := r
          simp only at hrs
          clear hc2 hr hxi
          by_cases heq : rst = pst
          · have hno := Lib.hid (show chkN key (ps.map PutM.p) = 1 by
              unfold chkN
              rw [argNo_twice (puts_take hp.out) (by
                rw [List.any_eq_true]
                refine ⟨rst, List.mem_of_getElem? (i := q) ?_, by rw [heq]; simp [PutM.p]⟩
                rw [List.map_take, List.getElem?_take_of_lt hql]
                exact hrs)]
              rfl)
            have hts : (rst.toList == pst.toList) = true := by rw [bytes_beq, heq]; simp
            replace heq := Lib.hid heq
            clear hrs
            go_wp2_with fail
            go_quiet (fail)
            go_wp2_with fail
            go_ret
            exact ⟨by rw [hno.out]; rfl, (hG0.trans hg0i).drewN _⟩
          · have hts : (rst.toList == pst.toList) = false := by rw [bytes_beq]; exact decide_eq_false heq
            have hun2 : ∀ (j : Nat) (t : ByteArray), j < q + 1 → ((ps.map PutM.p).map PutP.stream)[j]? = some t → t ≠ pst := fun j t hj ht => by
              rcases Nat.lt_or_ge j q with h | h
              · exact hun.out j t h ht
              · obtain rfl : j = q := by omega
                rw [hrs] at ht
                cases ht
                exact heq
            replace hun2 := Lib.hid hun2
            replace heq := Lib.hid heq
            clear hrs
            go_wp2_with fail
            go_quiet (fail)
            go_wp2_with fail
            go_roundw
            case rel => exact ⟨q + 1, by go_num, by omega, hun2, hgi.drewN _⟩
            case measure => (simp [intOf] <;> omega)
        · have hany : (((ps.map PutM.p).take k).map PutP.stream).any (fun t => decide (t = pst)) = false := any_not fun j t ht => by
            rw [List.map_take] at ht
            have hjk : j < k := by
              have := (List.getElem?_eq_some_iff.1 ht).1
              rw [List.length_take] at this
              omega
            rw [List.getElem?_take_of_lt hjk] at ht
            exact hun.out j t (by omega) ht
          have m3 : ¬ (q : Int) < (k : Int) := by omega
          have hdi := hdat.out.g (Nat.le_refl _) (hG0.trans hg0i)
          have x2 : ∀ w', G wr w' → w'.cell? ⟨wo.heap.size, 2, none⟩ = some (.slice pA pd.length pc) := fun w' h => (blk_cell (h.blk hxi) 2).trans rfl
          have x2i := x2 _ (G.refl _)
          have hri0 := hst.out.begin pd
          rw [show decide (20 < pd.length) = decide (20 < (pd.length : Int)) from decide_eq_decide.2 (by omega)] at hri0
          replace hany := Lib.hid hany
          replace hdi := Lib.hid hdi
          clear hun hxi k1
          cases bg with
          | true =>
            rw [Bool.true_or] at hri0
            have hri := Lib.hid hri0
            clear hri0
            go_wp2_with fail
            obtain ⟨wi, rfl⟩ : ∃ wi : World, wi = wr := ⟨_, rfl⟩
            go_loopw [3, 4, 8] (fun v a i wr => ∃ (r am : Nat) (bm : Bool), v = .bool bm ∧ a = .int .i64 am ∧ i = .int .i64 r ∧ r ≤ pd.length ∧ Hid (RefIn (ps.map PutM.p) k pd r bm am) ∧ G wi wr) (fun _ _ i _ => pd.length - (intOf i).toNat)
            case atStart => exact ⟨0, al, true, rfl, rfl, rfl, Nat.zero_le _, hri, G.refl _⟩
            case round =>
              clear hri
              obtain ⟨r, am, bm, rfl, rfl, rfl, hr, hrn, hgw⟩ := hrel
              have x2r := x2 _ hgw
              by_cases hrl : r < pd.length
              · obtain ⟨s, hs⟩ : ∃ s, pd[r]? = some s := ⟨_, List.getElem?_eq_getElem hrl⟩
                have hsm := List.mem_of_getElem? hs
                have hzs := z3 s hsm
                obtain ⟨b3, o3, rfl, _, d3⟩ := (hdi.out.g (Nat.le_trans (hG0.trans hg0i).size (Nat.le_refl _)) hgw).str hs
                have hv := refValid_any s wr hzs
                have m1 : (0 : Int) ≤ (r : Int) := by omega
                have m2 : (r : Int) < (pd.length : Int) := by omega
                cases hvs : validB s with
                | false =>
                  have hno := Lib.hid (hput.out (fun h => by
                    have := all_not hs hvs
                    rw [h.2.2.2] at this
                    cases this))
                  rw [hvs] at hv
                  clear hs hvs hrn
                  go_wp2_with fail
                  refine hv.mono ?_
                  rintro e w5 ⟨rfl, hg5⟩
                  go_wp2_with fail
                  go_ret
                  exact ⟨by rw [hno.out]; rfl, (hG0.trans (hg0i.trans hgw)).trans hg5⟩
                | true =>
                  rw [hvs] at hv
                  have hnx := hrn.out.step hs hvs
                  rw [show decide (1000 < s.size) = decide (1000 < (s.size : Int)) from decide_eq_decide.2 (by omega)] at hnx
                  have ham : am ≤ 1099511627776 := by have := hrn.out.all; omega
                  obtain ⟨M, hM⟩ : ∃ M, min (am + s.size) 1099511627776 = M := ⟨_, rfl⟩
                  rw [hM] at hnx
                  have hmin : min ((am : Int) + (s.size : Int)) 1099511627776 = (M : Int) := by omega
                  have x3 : ∀ w', G wr w' → w'.cell? ⟨wo.heap.size, 2, none⟩ = some (.slice (some ⟨b3, o3, none⟩) pd.length pc) := fun w' h => x2 _ (hgw.trans h)
                  have d4 : ∀ w', G wr w' → w'.cell? ⟨b3, o3 + r, none⟩ = some (.string s) := fun w' h => (h.cell (cell_lt2 d3)).trans d3
                  replace hM := Lib.hid hM
                  replace hvs := Lib.hid hvs
                  clear hs hrn
                  cases bm with
                  | true =>
                    rw [Bool.true_or] at hnx
                    replace hnx := Lib.hid hnx
                    go_wp2_with fail
                    refine hv.mono ?_
                    clear hv
                    rintro e w5 ⟨rfl, hg5⟩
                    go_wp2_with fail
                    go_roundw
                    case rel => exact ⟨r + 1, M, true, rfl, rfl, by go_num, by omega, hnx, hgw.trans hg5⟩
                    case measure => (simp [intOf] <;> omega)
                  | false =>
                    rw [Bool.false_or] at hnx
                    generalize hb2 : decide (1000 < (s.size : Int)) = bb at hnx
                    replace hnx := Lib.hid hnx
                    go_wp2_with fail
                    refine hv.mono ?_
                    clear hv
                    rintro e w5 ⟨rfl, hg5⟩
                    go_wp2_with fail
                    go_roundw
                    case rel => exact ⟨r + 1, M, bb, rfl, rfl, by go_num, by omega, hnx, hgw.trans hg5⟩
                    case measure => (simp [intOf] <;> omega)
              · have hdn := hrn.out.done hst.out (puts_take hp.out) (by show pd.length ≤ r; omega) h1.out h23.out h4.out hany.out
                replace hdn := Lib.hid hdn
                clear hrn
                go_wp2_with fail
                go_roundw
                case rel => exact ⟨k + 1, am, bm, rfl, rfl, by go_num, by omega, hdn, hg0i.trans hgw⟩
                case measure => (simp [intOf] <;> omega)
          | false =>
            rw [Bool.false_or] at hri0
            generalize hbg1 : decide (20 < (pd.length : Int)) = bg1 at hri0
            have hri := Lib.hid hri0
            clear hri0
            go_wp2_with fail
            replace hbg1 := Lib.hid hbg1
            obtain ⟨wi, rfl⟩ : ∃ wi : World, wi = wr := ⟨_, rfl⟩
            go_loopw [3, 4, 8] (fun v a i wr => ∃ (r am : Nat) (bm : Bool), v = .bool bm ∧ a = .int .i64 am ∧ i = .int .i64 r ∧ r ≤ pd.length ∧ Hid (RefIn (ps.map PutM.p) k pd r bm am) ∧ G wi wr) (fun _ _ i _ => pd.length - (intOf i).toNat)
            case atStart => exact ⟨0, al, bg1, rfl, rfl, rfl, Nat.zero_le _, hri, G.refl _⟩
            case round =>
              clear hri
              obtain ⟨r, am, bm, rfl, rfl, rfl, hr, hrn, hgw⟩ := hrel
              have x2r := x2 _ hgw
              by_cases hrl : r < pd.length
              · obtain ⟨s, hs⟩ : ∃ s, pd[r]? = some s := ⟨_, List.getElem?_eq_getElem hrl⟩
                have hsm := List.mem_of_getElem? hs
                have hzs := z3 s hsm
                obtain ⟨b3, o3, rfl, _, d3⟩ := (hdi.out.g (Nat.le_trans (hG0.trans hg0i).size (Nat.le_refl _)) hgw).str hs
                have hv := refValid_any s wr hzs
                have m1 : (0 : Int) ≤ (r : Int) := by omega
                have m2 : (r : Int) < (pd.length : Int) := by omega
                cases hvs : validB s with
                | false =>
                  have hno := Lib.hid (hput.out (fun h => by
                    have := all_not hs hvs
                    rw [h.2.2.2] at this
                    cases this))
                  rw [hvs] at hv
                  clear hs hvs hrn
                  go_wp2_with fail
                  refine hv.mono ?_
                  rintro e w5 ⟨rfl, hg5⟩
                  go_wp2_with fail
                  go_ret
                  exact ⟨by rw [hno.out]; rfl, (hG0.trans (hg0i.trans hgw)).trans hg5⟩
                | true =>
                  rw [hvs] at hv
                  have hnx := hrn.out.step hs hvs
                  rw [show decide (1000 < s.size) = decide (1000 < (s.size : Int)) from decide_eq_decide.2 (by omega)] at hnx
                  have ham : am ≤ 1099511627776 := by have := hrn.out.all; omega
                  obtain ⟨M, hM⟩ : ∃ M, min (am + s.size) 1099511627776 = M := ⟨_, rfl⟩
                  rw [hM] at hnx
                  have hmin : min ((am : Int) + (s.size : Int)) 1099511627776 = (M : Int) := by omega
                  have x3 : ∀ w', G wr w' → w'.cell? ⟨wo.heap.size, 2, none⟩ = some (.slice (some ⟨b3, o3, none⟩) pd.length pc) := fun w' h => x2 _ (hgw.trans h)
                  have d4 : ∀ w', G wr w' → w'.cell? ⟨b3, o3 + r, none⟩ = some (.string s) := fun w' h => (h.cell (cell_lt2 d3)).trans d3
                  replace hM := Lib.hid hM
                  replace hvs := Lib.hid hvs
                  clear hs hrn
                  cases bm with
                  | true =>
                    rw [Bool.true_or] at hnx
                    replace hnx := Lib.hid hnx
                    go_wp2_with fail
                    refine hv.mono ?_
                    clear hv
                    rintro e w5 ⟨rfl, hg5⟩
                    go_wp2_with fail
                    go_roundw
                    case rel => exact ⟨r + 1, M, true, rfl, rfl, by go_num, by omega, hnx, hgw.trans hg5⟩
                    case measure => (simp [intOf] <;> omega)
                  | false =>
                    rw [Bool.false_or] at hnx
                    generalize hb2 : decide (1000 < (s.size : Int)) = bb at hnx
                    replace hnx := Lib.hid hnx
                    go_wp2_with fail
                    refine hv.mono ?_
                    clear hv
                    rintro e w5 ⟨rfl, hg5⟩
                    go_wp2_with fail
                    go_roundw
                    case rel => exact ⟨r + 1, M, bb, rfl, rfl, by go_num, by omega, hnx, hgw.trans hg5⟩
                    case measure => (simp [intOf] <;> omega)
              · have hdn := hrn.out.done hst.out (puts_take hp.out) (by show pd.length ≤ r; omega) h1.out h23.out h4.out hany.out
                replace hdn := Lib.hid hdn
                clear hrn
                go_wp2_with fail
                go_roundw
                case rel => exact ⟨k + 1, am, bm, rfl, rfl, by go_num, by omega, hdn, hg0i.trans hgw⟩
                case measure => (simp [intOf] <;> omega)
    · obtain rfl : k = ps.length := by omega
      have hfin := RefSt.end (key := key) (by rw [List.length_map]; exact hst.out) hkb.out hne.out
      have hgd := q1 wo hgr
      clear hst
      cases bg with
      | true =>
        rw [Bool.true_or] at hfin
        replace hfin := Lib.hid hfin
        go_wp2_with fail
        go_ret
        exact ⟨by rw [hfin.out]; rfl, hg⟩
      | false =>
        rw [Bool.false_or] at hfin
        by_cases hal : 30000 < (al : Int)
        · rw [decide_eq_true hal] at hfin
          replace hfin := Lib.hid hfin
          go_wp2_with fail
          go_ret
          exact ⟨by rw [hfin.out]; rfl, hg⟩
        · rw [decide_eq_false hal] at hfin
          replace hfin := Lib.hid hfin
          go_wp2_with fail
          go_ret
          exact ⟨by rw [hfin.out]; rfl, hg⟩
end Go.Proofs.YtilfgafdkiaaaaaDoor
/- event.Encode, penstockref7.EncodeBatch: what they answer. Conditions: lengths of at most 2^30; the decoder's tables lie as the library lays them. -/
namespace Go.Proofs.YtilfgafdkiaaaaaDoor
open Go.RowKit

theorem nums_two {v0 : Value} {l m : List UInt8} {base n n2 b : Nat} {w : World} {t : TypeId} (hm : Hid (l ++ (vL n ++ vL n2) = m)) (hl : l.length ≤ 1099511627776) (hn : n < 2 ^ 64) (hn2 : n2 ≤ 4611686018427387904) (ht : t ≠ 5) (hown : OwnL 5 1 byteC w base v0 l) (hb : w.heap[b]? = some (.cells #[.int .u64 n, .int .u64 n2] t (0, 0))) (hbase : base ≤ w.heap.size) :
    Calls Tryd.prog 41 #[v0, .slice (some ⟨b, 0, none⟩) 2 2] w (GrownBytes w base m) := by
  have := nums_any v0 l (some ⟨b, 0, none⟩) 0 2 w.heap.size base [n, n2] w hown hbase hl (Sl.of_blk u64C_len [n, n2] hb rfl (blk_lt hb)) (Nat.le_refl _) (by simp) (by simp; omega) (fun b' o e => by cases e; exact ⟨_, _, _, hb, ht⟩)
  rw [← hm.out]
  simpa using this
/-- A Put's head, its stream ahead. -/
def putHead (p : PutP) : List UInt8 := textL p.stream.data.toList ++ (vL (zigN p.expect) ++ vL p.data.length)
theorem putBytes_head (p : PutP) : putBytes p = putHead p ++ p.data.flatMap fun d => textL d.data.toList := by
  unfold putBytes putHead
  simp only [List.append_assoc]
theorem texts_len : ∀ (l : List ByteArray) (M : Nat), (∀ s ∈ l, s.size ≤ M) → (l.flatMap fun d => textL d.data.toList).length ≤ l.length * (M + 10)
  | [], _, _ => by simp
  | s :: l, M, h => by
    rw [List.flatMap_cons, List.length_append, List.length_cons, Nat.succ_mul]
    have h1 := texts_len l M fun t ht => h t (by simp [ht])
    have h2 := textL_len s
    have h3 := h s (by simp)
    omega
theorem chk_small {key : ByteArray} {ps : List PutP} (h : chkN key ps = 0) : ps.length ≤ 8 ∧ ∀ p ∈ ps, p.data.length ≤ 20 ∧ (∀ s ∈ p.data, s.size ≤ 1000) ∧ -1 ≤ p.expect ∧ p.expect ≤ 1099511627776 := by
  have h2 := (chkN_ok _ _).1 h
  have h3 := h2.2
  unfold bigB at h3
  simp only [Bool.or_eq_false_iff, decide_eq_false_iff_not] at h3
  refine ⟨by omega, fun p hp => ?_⟩
  have h4 := (List.any_eq_false.1 h3.1.2) p hp
  have h5 := (putOk_iff p).1 (argB_put h2.1 hp)
  unfold putBig at h4
  simp only [Bool.or_eq_true, decide_eq_true_iff, not_or, List.any_eq_true, not_exists, not_and] at h4
  exact ⟨by omega, fun s hs => by have := h4.2 s hs; omega, h5.2.1⟩
set_option maxRecDepth 100000 in
set_option maxHeartbeats 8000000 in
theorem batEnc_any (key : ByteArray) (ps : List PutM) (A : Option Addr) (c : Nat) (w : World) (hin : PutsIn w w.heap.size A ps) (hk : key.size ≤ 1073741824) (hsm : PutsSmall ps) (hT : Tabs w) :
    Calls Tryd.prog 29 #[.agg #[.string key, .slice A ps.length c]] w (RetBytesN w (batL key (ps.map PutM.p))) := by
  have hch : ∀ w', G w w' → Calls Tryd.prog 11 #[.agg #[.string key, .slice A ps.length c]] w' fun e w'' => e = .returned (.int .i64 (chkN key (ps.map PutM.p))) ∧ G w' w'' := fun w' hg => check_any key ps A c w' (PutsIn.more (hin.g (Nat.le_refl _) hg) hg.size) hk hsm (hT.g hg)
  obtain ⟨hs1, hs2⟩ := hsm
  replace hin := Lib.hid hin
  replace hs2 := Lib.hid hs2
  clear hT
  by_cases hok : chkN key (ps.map PutM.p) = 0
  case neg =>
    have hno := Lib.hid (batL_no hok)
    have t1 : (((chkN key (ps.map PutM.p) : Nat) : Int) != 0) = true := by rw [bne_iff_ne]; omega
    generalize chkN key (ps.map PutM.p) = cn at *
    replace hok := Lib.hid hok
    go_enter Tryd.func29, Tryd.ntmps29
    go_wp2_with fail
    refine (hch _ (G.new _ _)).mono ?_
    clear hch
    rintro e w1 ⟨rfl, hg⟩
    go_wp2_with fail
    go_ret
    exact ⟨none, 0, by rw [hno.out]; rfl, by rw [hno.out]; exact OwnL.nil, (G.new _ _).trans hg, fun _ => rfl⟩
  have hsmall := chk_small hok
  rw [List.length_map] at hsmall
  have hl8 := hsmall.1
  simp only [hok] at hch
  obtain ⟨m1, hm1⟩ : ∃ m, textL key.data.toList = m := ⟨_, rfl⟩
  obtain ⟨m2, hm2⟩ : ∃ m, m1 ++ vL ps.length = m := ⟨_, rfl⟩
  have b1 : m1.length ≤ key.size + 10 := by rw [← hm1]; exact textL_len key
  have b2 : m2.length ≤ key.size + 20 := by rw [← hm2, List.length_append]; have := vL_len ps.length; omega
  have hyes : batL key (ps.map PutM.p) = m2 ++ (ps.map PutM.p).flatMap putBytes := by
    rw [batL_ok hok, ← hm2, ← hm1]
    unfold batBytes
    rw [List.length_map, List.append_assoc]
  have hpos : batL key (ps.map PutM.p) ≠ [] := by
    rw [batL_ok hok]
    intro h
    have := batBytes_pos key (ps.map PutM.p)
    rw [h] at this
    simp at this
  have hw1 : IntKind.u64.wrap (ps.length : Int) = (ps.length : Int) := by rw [IntKind.wrap_u64]; omega
  replace hm1 := Lib.hid hm1
  replace hm2 := Lib.hid hm2
  replace hyes := Lib.hid hyes
  replace hpos := Lib.hid hpos
  replace hsmall := Lib.hid hsmall
  clear hok
  go_enter Tryd.func29, Tryd.ntmps29
  go_upto_region 1 with fail
  generalize hW0 : w.alloc (.cells #[.string key, .slice A ps.length c] 25) = W0
  have hz : w.heap.size + 0 < W0.heap.size := by rw [← hW0]; simp
  have hG0 : G w W0 := by rw [← hW0]; exact G.new _ _
  have r0 : W0.cell? ⟨w.heap.size, 0, none⟩ = some (.string key) := by rw [← hW0]; simp
  have r1 : W0.cell? ⟨w.heap.size, 1, none⟩ = some (.slice A ps.length c) := by rw [← hW0]; simp
  clear hW0
  have q0 : ∀ w', G W0 w' → w'.cell? ⟨w.heap.size, 0, none⟩ = some (.string key) := fun w' h => (h.cell (by omega)).trans r0
  have q1 : ∀ w', G W0 w' → w'.cell? ⟨w.heap.size, 1, none⟩ = some (.slice A ps.length c) := fun w' h => (h.cell (by omega)).trans r1
  clear r0 r1
  have hgr : G W0 W0 := G.refl _
  go_upto_region 3 with (go_at_call 11; refine (hch _ hG0).mono ?_; rintro e w1 ⟨rfl, hg1⟩)
  clear hch hgr
  go_cut [3] (fun v3 wx => OwnAt W0.heap.size m2 v3 wx ∧ G W0 wx)
  case first =>
    go_region_held3 (fun w' => G W0 w') (first | exact hg1.drew | exact hgm.keep (by assumption) | exact G.alloc (by assumption) _ | exact KeepT.g hk2 (by assumption) | fail) (first
      | (go_at_call 40; (with_reducible refine Calls.mono (text_nil hm1 (by omega)) ?_); rintro e u1 ⟨A1, d1, rfl, hown1, hgm⟩; replace hown1 := OwnL.mono hown1 (show W0.heap.size ≤ _ from G.size (by assumption)))
      | (go_at_call 41; (with_reducible refine Calls.mono (nums_own (t := 86) (base := W0.heap.size) hm2 (by omega) (by omega) (by decide) (hown1.g (G.new _ _)) (blk_new _ _ _) (G.size (by assumption))) ?_); rintro e u2 ⟨A2, d2, rfl, hown2, hk2⟩)
      | (go_at_call 41; (with_reducible refine Calls.mono (nums_own (t := 86) (base := W0.heap.size) hm2 (by omega) (by omega) (by decide) hown1 (hgm.blk (blk_new _ _ _)) (G.size (by assumption))) ?_); rintro e u2 ⟨A2, d2, rfl, hown2, hk2⟩))
    all_goals
      have hGe : G W0 u2 := by assumption
      go_wp2_with fail
      go_meet
      exact ⟨⟨_, _, rfl, hown2⟩, hGe⟩
  case rest =>
    obtain ⟨⟨A3, d3, rfl, hown3⟩, hgc⟩ := hcut
    replace hown3 := Lib.hid hown3
    clear hg1
    go_wp2_with fail
    go_loopw [3, 23] (fun v i wr => ∃ (k : Nat) (m : List UInt8) (A8 : Option Addr) (c8 : Nat), v = .slice A8 m.length c8 ∧ i = .int .i64 k ∧ k ≤ ps.length ∧ m.length ≤ 1073741850 + k * 1073762100 ∧ Hid (m = m2 ++ ((ps.map PutM.p).take k).flatMap putBytes) ∧ Hid (OwnL 5 1 byteC wr W0.heap.size (.slice A8 m.length c8) m) ∧ G W0 wr) (fun _ i _ => ps.length - (intOf i).toNat)
    case atStart => exact ⟨0, m2, A3, d3, rfl, rfl, Nat.zero_le _, by omega, by simp [Hid], hown3, hgc⟩
    case round =>
      obtain ⟨wo, rfl⟩ : ∃ wo : World, wo = wr := ⟨_, rfl⟩
      clear hown3 hgc
      obtain ⟨k, m, A8, c8, rfl, rfl, hkl, hml, hm, hown, hgr⟩ := hrel
      have hg := hG0.trans hgr
      by_cases hlt : k < ps.length
      · obtain ⟨p, hp⟩ : ∃ p, ps[k]? = some p := ⟨_, List.getElem?_eq_getElem hlt⟩
        have hpm := List.mem_of_getElem? hp
        obtain ⟨z1, zE, z2, z3⟩ := hs2.out p hpm
        have hsl := (hin.out.g (Nat.le_refl _) hg).1.get hp
        have hdat := hin.out.2 p hpm
        have hsy := hsmall.out.2 p.p (List.mem_map.2 ⟨p, hpm, rfl⟩)
        obtain ⟨pst, pex, pA, pc, pd⟩ := p
        obtain ⟨y1, y2, y3, y4⟩ : pd.length ≤ 20 ∧ (∀ s ∈ pd, s.size ≤ 1000) ∧ -1 ≤ pex ∧ pex ≤ 1099511627776 := hsy
        have hfl : ((ps.map PutM.p).take (k + 1)).flatMap putBytes = ((ps.map PutM.p).take k).flatMap putBytes ++ putBytes ⟨pst, pex, pd⟩ := flat_take_succ putBytes (puts_take hp)
        simp only at z1 zE z2 z3 hdat
        obtain ⟨b, o, rfl, hb, hc⟩ := hsl
        have c0 := hc 0 _ rfl
        have c1 := hc 1 _ rfl
        have c2 := hc 2 _ rfl
        simp only [Nat.add_zero] at c0
        have n1 : (0 : Int) ≤ (k : Int) := by omega
        have n2 : (k : Int) < (ps.length : Int) := by omega
        obtain ⟨mT, hmT⟩ : ∃ m', m ++ textL pst.data.toList = m' := ⟨_, rfl⟩
        obtain ⟨mH, hmH⟩ : ∃ m', mT ++ (vL (zigN pex) ++ vL pd.length) = m' := ⟨_, rfl⟩
        have hH : mH = m ++ putHead ⟨pst, pex, pd⟩ := by
          rw [← hmH, ← hmT]
          unfold putHead
          simp only [List.append_assoc]
        have lT : mT.length ≤ m.length + pst.size + 10 := by rw [← hmT, List.length_append]; have := textL_len pst; omega
        have lH : mH.length ≤ mT.length + 20 := by
          rw [← hmH, List.length_append, List.length_append]
          have := vL_len (zigN pex)
          have := vL_len pd.length
          omega
        replace hH := Lib.hid hH
        replace hmT := Lib.hid hmT
        replace hmH := Lib.hid hmH
        replace hfl := Lib.hid hfl
        have hzg := fun w' => zig_any pex w' y3 y4
        have hzb := zig_lt y3 y4
        have hwz : IntKind.u64.wrap (pd.length : Int) = (pd.length : Int) := by rw [IntKind.wrap_u64]; omega
        clear hp hc
        go_upto_region 7 with fail
        have hbx := blk_new wo #[.string pst, .int .i64 pex, .slice pA pd.length pc] 29
        have hgn := G.new wo (.cells #[.string pst, .int .i64 pex, .slice pA pd.length pc] 29)
        generalize wo.alloc (.cells #[.string pst, .int .i64 pex, .slice pA pd.length pc] 29) = wx at *
        generalize hX : wo.heap.size = X at *
        replace hX := Lib.hid hX
        have x0 : ∀ w', G wx w' → w'.cell? ⟨X, 0, none⟩ = some (.string pst) := fun w' h => (blk_cell (h.blk hbx) 0).trans rfl
        have x1 : ∀ w', G wx w' → w'.cell? ⟨X, 1, none⟩ = some (.int .i64 pex) := fun w' h => (blk_cell (h.blk hbx) 1).trans rfl
        have x2 : ∀ w', G wx w' → w'.cell? ⟨X, 2, none⟩ = some (.slice pA pd.length pc) := fun w' h => (blk_cell (h.blk hbx) 2).trans rfl
        have hownx : ∀ w', G wx w' → OwnL 5 1 byteC w' W0.heap.size (.slice A8 m.length c8) m := fun w' h => hown.out.g (hgn.trans h)
        have hdatx : ∀ w', G wx w' → Sl strC 1 w' w.heap.size pA pd := fun w' h => hdat.g (Nat.le_refl _) (hg.trans (hgn.trans h))
        have hgx : G W0 wx := hgr.trans hgn
        replace hownx := Lib.hid hownx
        replace hdatx := Lib.hid hdatx
        replace hbx := Lib.hid hbx
        clear hgn hown hdat c0 c1 c2 hg
        go_cut [3] (fun v3 wy => OwnAt wx.heap.size mH v3 wy ∧ G wx wy)
        case first =>
          go_region_held3 (fun w' => G wx w') (first | exact (G.refl _).drew | exact hgm.keep (by assumption) | assumption | exact G.alloc (by assumption) _ | exact KeepT.g hk2 (by assumption) | fail) (first
            | (go_at_call 40; (with_reducible refine Calls.mono (textOf_own hmT (by omega) (by omega) (hownx.out _ (by assumption))) ?_); rintro e u1 ⟨A1, d1, rfl, hown1, hgm⟩; replace hown1 := OwnL.mono hown1 (show wx.heap.size ≤ _ from G.size (by assumption)))
            | (go_at_call 60; (with_reducible refine Calls.mono (hzg _) ?_); rintro e u3 ⟨rfl, rfl⟩)
            | (go_at_call 41; (with_reducible refine Calls.mono (nums_two (t := 86) (base := wx.heap.size) hmH (by omega) hzb (by omega) (by decide) (hown1.g (G.new _ _)) (blk_new _ _ _) (G.size (by assumption))) ?_); rintro e u2 ⟨A2, d2, rfl, hown2, hk2⟩)
            | (go_at_call 41; (with_reducible refine Calls.mono (nums_two (t := 86) (base := wx.heap.size) hmH (by omega) hzb (by omega) (by decide) hown1 (hgm.blk (blk_new _ _ _)) (G.size (by assumption))) ?_); rintro e u2 ⟨A2, d2, rfl, hown2, hk2⟩))
          all_goals
            have hGe : G wx u2 := by assumption
            go_wp2_with fail
            go_meet
            exact ⟨⟨_, _, rfl, hown2⟩, hGe⟩
        case rest =>
          obtain ⟨⟨A4, d4, rfl, hown4⟩, hgy⟩ := hcut
          have x2c := x2 _ hgy
          replace hown4 := Lib.hid hown4
          go_wp2_with fail
          go_loopw [3, 43] (fun v j wr => ∃ (i : Nat) (n : List UInt8) (A9 : Option Addr) (c9 : Nat), v = .slice A9 n.length c9 ∧ j = .int .i64 i ∧ i ≤ pd.length ∧ n.length ≤ mH.length + i * 1010 ∧ Hid (n = mH ++ (pd.take i).flatMap fun d => textL d.data.toList) ∧ Hid (OwnL 5 1 byteC wr wx.heap.size (.slice A9 n.length c9) n) ∧ G wx wr) (fun _ j _ => pd.length - (intOf j).toNat)
          case atStart => exact ⟨0, mH, A4, d4, rfl, rfl, Nat.zero_le _, by omega, by simp [Hid], hown4, hgy⟩
          case round =>
            clear hown4 hgy x2c
            obtain ⟨i, n, A9, c9, rfl, rfl, hi, hnl, hn, hown, hgw⟩ := hrel
            by_cases hil : i < pd.length
            · obtain ⟨s, hs⟩ : ∃ s, pd[i]? = some s := ⟨_, List.getElem?_eq_getElem hil⟩
              have hzs := y2 s (List.mem_of_getElem? hs)
              obtain ⟨b3, o3, rfl, _, d3⟩ := (hdatx.out _ hgw).str hs
              have hfs := flat_take_succ (fun d : ByteArray => textL d.data.toList) hs
              have htl := textL_len s
              obtain ⟨n2, hn2⟩ : ∃ n2, n ++ textL s.data.toList = n2 := ⟨_, rfl⟩
              have hn2l : n2.length = n.length + (textL s.data.toList).length := by rw [← hn2, List.length_append]
              have hn2e : n2 = mH ++ (pd.take (i + 1)).flatMap fun d => textL d.data.toList := by rw [hfs, ← List.append_assoc, ← hn.out, hn2]
              have hcl := textOf_own (Lib.hid hn2) (by omega) (by omega : s.size ≤ 1099511627776) hown.out
              have m1' : (0 : Int) ≤ (i : Int) := by omega
              have m2' : (i : Int) < (pd.length : Int) := by omega
              replace hn2 := Lib.hid hn2
              replace hn2e := Lib.hid hn2e
              replace hn2l := Lib.hid hn2l
              replace hfs := Lib.hid hfs
              clear hs hn hown
              go_wp2_with fail
              refine hcl.mono ?_
              clear hcl
              rintro e w5 ⟨A5, d5, rfl, hown5, hg5⟩
              replace hown5 := Lib.hid (OwnL.mono hown5 hgw.size)
              go_wp2_with fail
              go_roundw
              case rel => exact ⟨i + 1, n2, A5, d5, rfl, by go_num, by omega, by have := hn2l.out; omega, hn2e, hown5, hgw.trans hg5⟩
              case measure => (simp [intOf] <;> omega)
            · have he : n = m2 ++ ((ps.map PutM.p).take (k + 1)).flatMap putBytes := by
                rw [hn.out, List.take_of_length_le (by omega), hfl.out, ← List.append_assoc, ← hm.out, hH.out, putBytes_head, ← List.append_assoc]
              replace he := Lib.hid he
              have hownf := Lib.hid (OwnL.mono hown.out hgx.size)
              clear hn hown
              go_wp2_with fail
              go_roundw
              case rel => exact ⟨k + 1, n, A9, c9, rfl, by go_num, by omega, by omega, he, hownf, hgx.trans hgw⟩
              case measure => (simp [intOf] <;> omega)
      · have he : batL key (ps.map PutM.p) = m := by rw [hyes.out, hm.out, List.take_of_length_le (by rw [List.length_map]; omega)]
        have hne := hpos.out
        rw [he] at hne
        replace he := Lib.hid he
        replace hne := Lib.hid hne
        clear hm
        go_wp2_with fail
        go_ret
        rw [he.out]
        exact ⟨A8, c8, rfl, OwnL.mono hown.out hG0.size, hg, fun h => absurd h hne.out⟩
set_option maxRecDepth 100000 in
set_option maxHeartbeats 8000000 in
theorem refBatEnc_any (key : ByteArray) (ps : List PutM) (A : Option Addr) (c : Nat) (w : World) (hin : PutsIn w w.heap.size A ps) (hk : key.size ≤ 1073741824) (hsm : PutsSmall ps) :
    Calls Tryd.prog 30 #[.agg #[.string key, .slice A ps.length c]] w (RetBytesN w (batL key (ps.map PutM.p))) := by
  have hch : ∀ w', G w w' → Calls Tryd.prog 28 #[.agg #[.string key, .slice A ps.length c]] w' fun e w'' => e = .returned (.int .i64 (chkN key (ps.map PutM.p))) ∧ G w' w'' := fun w' hg => refCheck_any key ps A c w' (PutsIn.more (hin.g (Nat.le_refl _) hg) hg.size) hk hsm
  obtain ⟨hs1, hs2⟩ := hsm
  replace hin := Lib.hid hin
  replace hs2 := Lib.hid hs2
  by_cases hok : chkN key (ps.map PutM.p) = 0
  case neg =>
    have hno := Lib.hid (batL_no hok)
    have t1 : (((chkN key (ps.map PutM.p) : Nat) : Int) != 0) = true := by rw [bne_iff_ne]; omega
    generalize chkN key (ps.map PutM.p) = cn at *
    replace hok := Lib.hid hok
    go_enter Tryd.func30, Tryd.ntmps30
    go_wp2_with fail
    refine (hch _ (G.new _ _)).mono ?_
    clear hch
    rintro e w1 ⟨rfl, hg⟩
    go_wp2_with fail
    go_ret
    exact ⟨none, 0, by rw [hno.out]; rfl, by rw [hno.out]; exact OwnL.nil, (G.new _ _).trans hg, fun _ => rfl⟩
  have hsmall := chk_small hok
  rw [List.length_map] at hsmall
  have hl8 := hsmall.1
  simp only [hok] at hch
  obtain ⟨m1, hm1⟩ : ∃ m, textL key.data.toList = m := ⟨_, rfl⟩
  obtain ⟨m2, hm2⟩ : ∃ m, m1 ++ vL ps.length = m := ⟨_, rfl⟩
  have b1 : m1.length ≤ key.size + 10 := by rw [← hm1]; exact textL_len key
  have b2 : m2.length ≤ key.size + 20 := by rw [← hm2, List.length_append]; have := vL_len ps.length; omega
  have hyes : batL key (ps.map PutM.p) = m2 ++ (ps.map PutM.p).flatMap putBytes := by
    rw [batL_ok hok, ← hm2, ← hm1]
    unfold batBytes
    rw [List.length_map, List.append_assoc]
  have hpos : batL key (ps.map PutM.p) ≠ [] := by
    rw [batL_ok hok]
    intro h
    have := batBytes_pos key (ps.map PutM.p)
    rw [h] at this
    simp at this
  replace hm1 := Lib.hid hm1
  replace hm2 := Lib.hid hm2
  replace hyes := Lib.hid hyes
  replace hpos := Lib.hid hpos
  replace hsmall := Lib.hid hsmall
  clear hok
  go_enter Tryd.func30, Tryd.ntmps30
  go_upto_region 1 with fail
  generalize hW0 : w.alloc (.cells #[.string key, .slice A ps.length c] 25) = W0
  have hz : w.heap.size + 0 < W0.heap.size := by rw [← hW0]; simp
  have hG0 : G w W0 := by rw [← hW0]; exact G.new _ _
  have r0 : W0.cell? ⟨w.heap.size, 0, none⟩ = some (.string key) := by rw [← hW0]; simp
  have r1 : W0.cell? ⟨w.heap.size, 1, none⟩ = some (.slice A ps.length c) := by rw [← hW0]; simp
  clear hW0
  have q0 : ∀ w', G W0 w' → w'.cell? ⟨w.heap.size, 0, none⟩ = some (.string key) := fun w' h => (h.cell (by omega)).trans r0
  have q1 : ∀ w', G W0 w' → w'.cell? ⟨w.heap.size, 1, none⟩ = some (.slice A ps.length c) := fun w' h => (h.cell (by omega)).trans r1
  clear r0 r1
  have hgr : G W0 W0 := G.refl _
  go_upto_region 3 with (go_at_call 28; refine (hch _ hG0).mono ?_; rintro e w1 ⟨rfl, hg1⟩)
  clear hch hgr
  go_cut [3] (fun v3 wx => OwnAt W0.heap.size m2 v3 wx ∧ G W0 wx)
  case first =>
    go_region_held3 (fun w' => G W0 w') (first | exact hg1.drew | exact hgm.keep (by assumption) | exact KeepT.g hk2 (by assumption) | fail) (first
      | (go_at_call 46; (with_reducible refine Calls.mono (refText_nil hm1 (by omega)) ?_); rintro e u1 ⟨A1, d1, rfl, hown1, hgm⟩; replace hown1 := OwnL.mono hown1 (show W0.heap.size ≤ _ from G.size (by assumption)))
      | (go_at_call 47; (with_reducible refine Calls.mono (num7_own (base := W0.heap.size) hown1 (G.size (by assumption)) (by omega) (by omega) hm2) ?_); rintro e u2 ⟨A2, d2, rfl, hown2, hk2⟩))
    all_goals
      have hGe : G W0 u2 := by assumption
      go_wp2_with fail
      go_meet
      exact ⟨⟨_, _, rfl, hown2⟩, hGe⟩
  case rest =>
    obtain ⟨⟨A3, d3, rfl, hown3⟩, hgc⟩ := hcut
    replace hown3 := Lib.hid hown3
    clear hg1
    go_wp2_with fail
    go_loopw [3, 4] (fun v i wr => ∃ (k : Nat) (m : List UInt8) (A8 : Option Addr) (c8 : Nat), v = .slice A8 m.length c8 ∧ i = .int .i64 k ∧ k ≤ ps.length ∧ m.length ≤ 1073741850 + k * 1073762100 ∧ Hid (m = m2 ++ ((ps.map PutM.p).take k).flatMap putBytes) ∧ Hid (OwnL 5 1 byteC wr W0.heap.size (.slice A8 m.length c8) m) ∧ G W0 wr) (fun _ i _ => ps.length - (intOf i).toNat)
    case atStart => exact ⟨0, m2, A3, d3, rfl, rfl, Nat.zero_le _, by omega, by simp [Hid], hown3, hgc⟩
    case round =>
      obtain ⟨wo, rfl⟩ : ∃ wo : World, wo = wr := ⟨_, rfl⟩
      clear hown3 hgc
      obtain ⟨k, m, A8, c8, rfl, rfl, hkl, hml, hm, hown, hgr⟩ := hrel
      have hg := hG0.trans hgr
      have g1 := q1 wo hgr
      by_cases hlt : k < ps.length
      · obtain ⟨p, hp⟩ : ∃ p, ps[k]? = some p := ⟨_, List.getElem?_eq_getElem hlt⟩
        have hpm := List.mem_of_getElem? hp
        obtain ⟨z1, zE, z2, z3⟩ := hs2.out p hpm
        have hsl := (hin.out.g (Nat.le_refl _) hg).1.get hp
        have hdat := hin.out.2 p hpm
        have hsy := hsmall.out.2 p.p (List.mem_map.2 ⟨p, hpm, rfl⟩)
        obtain ⟨pst, pex, pA, pc, pd⟩ := p
        obtain ⟨y1, y2, y3, y4⟩ : pd.length ≤ 20 ∧ (∀ s ∈ pd, s.size ≤ 1000) ∧ -1 ≤ pex ∧ pex ≤ 1099511627776 := hsy
        have hfl : ((ps.map PutM.p).take (k + 1)).flatMap putBytes = ((ps.map PutM.p).take k).flatMap putBytes ++ putBytes ⟨pst, pex, pd⟩ := flat_take_succ putBytes (puts_take hp)
        simp only at z1 zE z2 z3 hdat
        obtain ⟨b, o, rfl, hb, hc⟩ := hsl
        have c0 := hc 0 _ rfl
        have c1 := hc 1 _ rfl
        have c2 := hc 2 _ rfl
        simp only [Nat.add_zero] at c0
        have n1 : (0 : Int) ≤ (k : Int) := by omega
        have n2 : (k : Int) < (ps.length : Int) := by omega
        obtain ⟨mT, hmT⟩ : ∃ m', m ++ textL pst.data.toList = m' := ⟨_, rfl⟩
        obtain ⟨mZ, hmZ⟩ : ∃ m', mT ++ vL (zigN pex) = m' := ⟨_, rfl⟩
        obtain ⟨mH, hmH⟩ : ∃ m', mZ ++ vL pd.length = m' := ⟨_, rfl⟩
        have hH : mH = m ++ putHead ⟨pst, pex, pd⟩ := by
          rw [← hmH, ← hmZ, ← hmT]
          unfold putHead
          simp only [List.append_assoc]
        have lT : mT.length ≤ m.length + pst.size + 10 := by rw [← hmT, List.length_append]; have := textL_len pst; omega
        have lV := vL_len (zigN pex)
        have lZ : mZ.length ≤ mT.length + 10 := by rw [← hmZ, List.length_append]; omega
        have lH : mH.length ≤ mZ.length + 10 := by rw [← hmH, List.length_append]; have := vL_len pd.length; omega
        replace hH := Lib.hid hH
        replace hmT := Lib.hid hmT
        replace hmZ := Lib.hid hmZ
        replace hmH := Lib.hid hmH
        replace hfl := Lib.hid hfl
        have hzg := fun w' => refZig_any pex w' y3 y4
        have hzb := zig_lt y3 y4
        have hzv := fun w' => refVarint_any (zigN pex) w' hzb
        clear hp hc
        go_wp2_with fail
        have hbx := blk_new wo #[.string pst, .int .i64 pex, .slice pA pd.length pc] 29
        have hgn := G.new wo (.cells #[.string pst, .int .i64 pex, .slice pA pd.length pc] 29)
        generalize wo.alloc (.cells #[.string pst, .int .i64 pex, .slice pA pd.length pc] 29) = wx at *
        generalize hX : wo.heap.size = X at *
        replace hX := Lib.hid hX
        have x1 : ∀ w', G wx w' → w'.cell? ⟨X, 1, none⟩ = some (.int .i64 pex) := fun w' h => (blk_cell (h.blk hbx) 1).trans rfl
        have x2 : ∀ w', G wx w' → w'.cell? ⟨X, 2, none⟩ = some (.slice pA pd.length pc) := fun w' h => (blk_cell (h.blk hbx) 2).trans rfl
        have hgx : G W0 wx := hgr.trans hgn
        have hdatx : ∀ w', G wx w' → Sl strC 1 w' w.heap.size pA pd := fun w' h => hdat.g (Nat.le_refl _) (hg.trans (hgn.trans h))
        have hct := refTextOf_own hmT (by omega) (by omega : pst.size ≤ 1099511627776) (hown.out.g hgn)
        replace hdatx := Lib.hid hdatx
        replace hbx := Lib.hid hbx
        clear hgn hown hdat c0 c1 c2 hg
        refine hct.mono ?_
        clear hct
        rintro e u1 ⟨A1, d1, rfl, hown1, hg1⟩
        have x1u := x1 _ hg1
        replace hown1 := Lib.hid hown1
        go_wp2_with fail
        refine (hzg _).mono ?_
        clear hzg
        rintro e u2 ⟨rfl, rfl⟩
        go_wp2_with fail
        refine (hzv _).mono ?_
        clear hzv
        rintro e u3 ⟨A2, d2, rfl, hown2, hg2⟩
        have hsl2 := OwnL.self byteC_len hown2
        have hown3 := hown1.out.g hg2
        have hz2 := hg2.size
        have hA2 : A2 = none → vL (zigN pex) = [] := fun h => (h ▸ hsl2).of_none
        have hg3 := hg1.trans hg2
        have hz3 := hg3.size
        replace hown3 := Lib.hid hown3
        clear hown2 hown1 hg2 x1u
        go_wp2_with (at_builtin; refine wpList_append_but byte_elem _ rfl (.tmp 33) (.tmp 37) rfl wx.heap.size _ mT rfl hown3.out u3.heap.size A2 d2 (vL (zigN pex)) rfl hA2 hsl2 (by omega) (by omega) (by omega) ?_; intro v4 u4 hown4 hk4 hbut; clear hbut hA2 hsl2 hown3; rw [hmZ.out] at hown4; obtain ⟨A4, d4, e4, _, _, _⟩ := OwnL.sl byteC_len hown4; subst e4; replace hown4 := Lib.hid hown4; replace hk4 := hk4.g hg3; have x2u := x2 _ hk4)
        refine (num7_own (base := wx.heap.size) hown4.out hk4.size (by omega) (by omega) hmH).mono ?_
        rintro e u5 ⟨A5, d5, rfl, hown5, hk5⟩
        have hgy : G wx u5 := KeepT.g hk5 hk4
        replace hown5 := Lib.hid hown5
        clear hown4 hk5 x2u hg3 hg1
        go_wp2_with fail
        go_loopw [3, 6] (fun v j wr => ∃ (i : Nat) (n : List UInt8) (A9 : Option Addr) (c9 : Nat), v = .slice A9 n.length c9 ∧ j = .int .i64 i ∧ i ≤ pd.length ∧ n.length ≤ mH.length + i * 1010 ∧ Hid (n = mH ++ (pd.take i).flatMap fun d => textL d.data.toList) ∧ Hid (OwnL 5 1 byteC wr wx.heap.size (.slice A9 n.length c9) n) ∧ G wx wr) (fun _ j _ => pd.length - (intOf j).toNat)
        case atStart => exact ⟨0, mH, A5, d5, rfl, rfl, Nat.zero_le _, by omega, by simp [Hid], hown5, hgy⟩
        case round =>
          clear hown5 hgy hk4
          obtain ⟨i, n, A9, c9, rfl, rfl, hi, hnl, hn, hown, hgw⟩ := hrel
          have x2w := x2 _ hgw
          by_cases hil : i < pd.length
          · obtain ⟨s, hs⟩ : ∃ s, pd[i]? = some s := ⟨_, List.getElem?_eq_getElem hil⟩
            have hzs := y2 s (List.mem_of_getElem? hs)
            obtain ⟨b3, o3, rfl, _, d3⟩ := (hdatx.out _ hgw).str hs
            have hfs := flat_take_succ (fun d : ByteArray => textL d.data.toList) hs
            have htl := textL_len s
            obtain ⟨n2, hn2⟩ : ∃ n2, n ++ textL s.data.toList = n2 := ⟨_, rfl⟩
            have hn2l : n2.length = n.length + (textL s.data.toList).length := by rw [← hn2, List.length_append]
            have hn2e : n2 = mH ++ (pd.take (i + 1)).flatMap fun d => textL d.data.toList := by rw [hfs, ← List.append_assoc, ← hn.out, hn2]
            have hcl := refTextOf_own (Lib.hid hn2) (by omega) (by omega : s.size ≤ 1099511627776) hown.out
            have m1' : (0 : Int) ≤ (i : Int) := by omega
            have m2' : (i : Int) < (pd.length : Int) := by omega
            replace hn2 := Lib.hid hn2
            replace hn2e := Lib.hid hn2e
            replace hn2l := Lib.hid hn2l
            replace hfs := Lib.hid hfs
            clear hs hn hown
            go_wp2_with fail
            refine hcl.mono ?_
            clear hcl
            rintro e w5 ⟨A5, d5, rfl, hown5, hg5⟩
            replace hown5 := Lib.hid (OwnL.mono hown5 hgw.size)
            go_wp2_with fail
            go_roundw
            case rel => exact ⟨i + 1, n2, A5, d5, rfl, by go_num, by omega, by have := hn2l.out; omega, hn2e, hown5, hgw.trans hg5⟩
            case measure => (simp [intOf] <;> omega)
          · have he : n = m2 ++ ((ps.map PutM.p).take (k + 1)).flatMap putBytes := by
              rw [hn.out, List.take_of_length_le (by omega), hfl.out, ← List.append_assoc, ← hm.out, hH.out, putBytes_head, ← List.append_assoc]
            replace he := Lib.hid he
            have hownf := Lib.hid (OwnL.mono hown.out hgx.size)
            clear hn hown
            go_wp2_with fail
            go_roundw
            case rel => exact ⟨k + 1, n, A9, c9, rfl, by go_num, by omega, by omega, he, hownf, hgx.trans hgw⟩
            case measure => (simp [intOf] <;> omega)
      · have he : batL key (ps.map PutM.p) = m := by rw [hyes.out, hm.out, List.take_of_length_le (by rw [List.length_map]; omega)]
        have hne := hpos.out
        rw [he] at hne
        replace he := Lib.hid he
        replace hne := Lib.hid hne
        clear hm
        go_wp2_with fail
        go_ret
        rw [he.out]
        exact ⟨A8, c8, rfl, OwnL.mono hown.out hG0.size, hg, fun h => absurd h hne.out⟩
end Go.Proofs.YtilfgafdkiaaaaaDoor
/- How a reader of batches stands. No condition. -/
namespace Go.Proofs.YtilfgafdkiaaaaaDoor
open Go.RowKit

theorem put_elem : IsElem Tryd.prog 23 29 3 48 PutM.cells :=
  isElem_of (z := .agg #[.string ByteArray.empty, .int .i64 0, .slice none 0 0]) Tryd.underlying23 (by kernel_rfl) rfl (by omega) PutM.cells_len (by intro x u hu; simp [PutM.cells] at hu; rcases hu with rfl | rfl | rfl <;> rfl)
/-- The bytes lie where no reader turns. -/
theorem Sl.rd {D R : Nat} {w w' : World} {A : Option Addr} {l : List UInt8} (h : Sl byteC 1 w D A l) (hb : But (fun k => k = R) w w') (hD : D ≤ w.heap.size) (hR : D ≤ R) : Sl byteC 1 w' D A l := h.keep fun k o hk => hb.cell (by omega) (by omega)
/-- A block of the call's own turns, that lies above the bytes. -/
theorem RdS.own {T : TypeId} {R D : Nat} {A : Option Addr} {c8 : Nat} {l0 : List UInt8} {st : Option (List UInt8)} {w w' : World} {S : Nat → Prop} (h : RdS T R A c8 l0 st w) (hs : Sl byteC 1 w' D A l0) (hD : D ≤ R) (hb : But S w w') (hR : ¬ S R) : RdS T R A c8 l0 st w' := by
  obtain ⟨p, h1, h2, h3⟩ := h
  exact ⟨p, h1, h2, hb.blk h3.1 hR, hs.more hD⟩
/-- The puts of a batch, that the call made from base on. -/
structure PutsOwn (base : Nat) (Ap : Option Addr) (cp : Nat) (ms : List PutM) (w : World) : Prop where
  row : OwnL 29 3 PutM.cells w base (.slice Ap ms.length cp) ms
  data : ∀ m ∈ ms, OwnL 9 1 strC w base (.slice m.A m.data.length m.c) m.data
/-- How the reading of a batch stands: the reader lies at R, the batch at Z, the bytes below D. -/
structure DecSt (T : TypeId) (R Z D : Nat) (A : Option Addr) (c8 : Nat) (l0 : List UInt8) (w : World) (key : ByteArray) (Ap : Option Addr) (cp : Nat) (ms : List PutM) (st : Option (List UInt8)) (wx : World) : Prop where
  rd : RdS T R A c8 l0 st wx
  sl : Sl byteC 1 wx D A l0
  res : wx.heap[Z]? = some (.cells #[.string key, .slice Ap ms.length cp] 25 (0, 0))
  puts : PutsOwn w.heap.size Ap cp ms wx
  but : But (fun k => k = R) w wx
  dr : D ≤ R
  dw : D ≤ w.heap.size
  zw : w.heap.size ≤ Z
  ty : T ≠ 29 ∧ T ≠ 9 ∧ T ≠ 25
/-- .. and within a put, whose block lies at X. -/
structure InSt (T : TypeId) (R X : Nat) (A : Option Addr) (c8 : Nat) (l0 : List UInt8) (wa : World) (s : ByteArray) (e : Int) (Ad : Option Addr) (cd : Nat) (ds : List ByteArray) (st : Option (List UInt8)) (wx : World) : Prop where
  rd : RdS T R A c8 l0 st wx
  blk : wx.heap[X]? = some (.cells #[.string s, .int .i64 e, .slice Ad ds.length cd] 29 (0, 0))
  row : OwnL 9 1 strC wx X (.slice Ad ds.length cd) ds
  but : But (fun k => k = R) wa wx
  pl : X = wa.heap.size
  lt : R < X
  ty : T ≠ 9
section
variable {T : TypeId} {R Z X D base : Nat} {A : Option Addr} {c8 : Nat} {l0 : List UInt8} {w wa wx wy wz : World} {key s : ByteArray} {e : Int} {Ap Ad : Option Addr} {cp cd : Nat} {ms : List PutM} {ds : List ByteArray} {st st1 : Option (List UInt8)}
theorem PutsOwn.but {S : Nat → Prop} (h : PutsOwn base Ap cp ms wx) (hb : But S wx wy) (hS : ∀ (k : Nat) (cs : Array Value) (t : TypeId), S k → wx.heap[k]? = some (.cells cs t (0, 0)) → t ≠ 29 ∧ t ≠ 9) : PutsOwn base Ap cp ms wy :=
  ⟨h.row.but' hb (fun k hk hs => by obtain ⟨_, _, cs, h1⟩ := h.row.blk hk; exact (hS k cs _ hs h1).1 rfl), fun m hm => (h.data m hm).but' hb (fun k hk hs => by obtain ⟨_, _, cs, h1⟩ := (h.data m hm).blk hk; exact (hS k cs _ hs h1).2 rfl)⟩
theorem PutsOwn.ins (h : PutsOwn base Ap cp ms wx) : PutsIn wx wx.heap.size Ap ms := ⟨OwnL.self PutM.cells_len h.row, fun m hm => OwnL.self strC_len (h.data m hm)⟩
/-- A block above what a other world held turns too. -/
theorem But.up {S S' : Nat → Prop} {a b c : World} (h : But S a b) (k : But S' b c) (hS : ∀ k, S' k → a.heap.size ≤ k) : But S a c :=
  ⟨k.os.trans h.os, k.tape.trans h.tape, k.output.trans h.output, Nat.le_trans h.size k.size, fun i hi hn => (k.block i (Nat.lt_of_lt_of_le hi h.size) (fun e => by have := hS i e; omega)).trans (h.block i hi hn)⟩
theorem RdS.tyAt (h : RdS T R A c8 l0 st wx) {cs : Array Value} {t : TypeId} (h1 : wx.heap[R]? = some (.cells cs t (0, 0))) : t = T := by
  obtain ⟨cs', h2⟩ := h.blk
  rw [h1] at h2
  cases h2
  rfl
theorem RdS.sl (h : RdS T R A c8 l0 st wx) : Sl byteC 1 wx R A l0 := by
  obtain ⟨p, h1, h2, h3⟩ := h
  exact h3.2
theorem DecSt.sizes (h : DecSt T R Z D A c8 l0 w key Ap cp ms st wx) : w.heap.size ≤ wx.heap.size := h.but.size
theorem DecSt.rz (h : DecSt T R Z D A c8 l0 w key Ap cp ms st wx) : R ≠ Z := by
  rintro rfl
  exact h.ty.2.2 (h.rd.tyAt h.res).symm
theorem DecSt.call (h : DecSt T R Z D A c8 l0 w key Ap cp ms st wx) (hr : RdS T R A c8 l0 st1 wy) (hb : But (fun k => k = R) wx wy) : DecSt T R Z D A c8 l0 w key Ap cp ms st1 wy :=
  ⟨hr, h.sl.keep fun k o hk => hb.cell (by have := h.but.size; have := h.dw; omega) (by have := h.dr; omega), hb.blk h.res (fun e => h.rz e.symm), h.puts.but hb (fun k cs t e h1 => by
    subst e
    rw [h.rd.tyAt h1]
    exact ⟨h.ty.1, h.ty.2.1⟩), h.but.trans hb, h.dr, h.dw, h.zw, h.ty⟩
theorem DecSt.g (h : DecSt T R Z D A c8 l0 w key Ap cp ms st wx) (hg : G wx wy) : DecSt T R Z D A c8 l0 w key Ap cp ms st wy := h.call (h.rd.g hg) (.of_g hg)
/-- The batch's own block turns. -/
theorem DecSt.z (h : DecSt T R Z D A c8 l0 w key Ap cp ms st wx) {S : Nat → Prop} (hb : But S wx wy) (hS : ∀ k, S k → w.heap.size ≤ k ∧ k ≠ R) {key' : ByteArray} {Ap' : Option Addr} {cp' : Nat} {ms' : List PutM} (hres : wy.heap[Z]? = some (.cells #[.string key', .slice Ap' ms'.length cp'] 25 (0, 0))) (hp : PutsOwn w.heap.size Ap' cp' ms' wy) : DecSt T R Z D A c8 l0 w key' Ap' cp' ms' st wy := by
  have hsl : Sl byteC 1 wy D A l0 := h.sl.keep fun k o hk => hb.cell (by have := h.but.size; have := h.dw; omega) (fun e => by have := (hS k e).1; have := h.dw; omega)
  exact ⟨h.rd.own hsl h.dr hb (fun e => (hS R e).2 rfl), hsl, hres, hp, h.but.up hb (fun k e => (hS k e).1), h.dr, h.dw, h.zw, h.ty⟩
theorem DecSt.key0 (h : DecSt T R Z D A c8 l0 w key Ap cp ms st wx) (key' : ByteArray) : DecSt T R Z D A c8 l0 w key' Ap cp ms st (wx.setCell ⟨Z, 0, none⟩ (.string key')) :=
  h.z (but_set wx Z 0 _) (fun k e => by subst e; exact ⟨h.zw, fun e => h.rz e.symm⟩) (by rw [blk_put h.res]; rfl) (h.puts.but (but_set wx Z 0 _) (fun k cs t e h1 => by
    subst e
    rw [h.res] at h1
    cases h1
    decide))
theorem InSt.call (h : InSt T R X A c8 l0 wa s e Ad cd ds st wx) (hr : RdS T R A c8 l0 st1 wy) (hb : But (fun k => k = R) wx wy) : InSt T R X A c8 l0 wa s e Ad cd ds st1 wy :=
  ⟨hr, hb.blk h.blk (fun e => by have := h.lt; omega), h.row.but' hb (fun k hk e => by have := (h.row.blk hk).1; have := h.lt; omega), h.but.trans hb, h.pl, h.lt, h.ty⟩
theorem InSt.g (h : InSt T R X A c8 l0 wa s e Ad cd ds st wx) (hg : G wx wy) : InSt T R X A c8 l0 wa s e Ad cd ds st wy := h.call (h.rd.g hg) (.of_g hg)
theorem InSt.cell (h : InSt T R X A c8 l0 wa s e Ad cd ds st wx) : wx.cell? ⟨X, 2, none⟩ = some (.slice Ad ds.length cd) := by rw [blk_cell h.blk]; rfl
theorem InSt.free (h : InSt T R X A c8 l0 wa s e Ad cd ds st wx) (o : Nat) : wx.frozen? ⟨X, o, none⟩ = false := by simp [World.frozen?, h.blk]
theorem InSt.begin {st : Option (List UInt8)} (hr : RdS T R A c8 l0 st wa) (hT : T ≠ 9) : InSt T R wa.heap.size A c8 l0 wa s 0 none 0 [] st (wa.alloc (.cells #[.string s, .int .i64 0, .slice none 0 0] 29)) :=
  ⟨hr.g (G.new _ _), blk_new _ _ _, OwnL.nil, .of_g (G.new _ _), rfl, hr.lt, hT⟩
theorem InSt.expect (h : InSt T R X A c8 l0 wa s e Ad cd ds st wx) (e' : Int) : InSt T R X A c8 l0 wa s e' Ad cd ds st (wx.setCell ⟨X, 1, none⟩ (.int .i64 e')) :=
  ⟨h.rd.but (but_set wx X 1 _) (fun k e => by have := h.lt; omega), by rw [blk_put h.blk]; rfl, h.row.but' (but_set wx X 1 _) (fun k hk e => by
    subst e
    obtain ⟨_, _, cs, h1⟩ := h.row.blk hk
    rw [h.blk] at h1
    cases h1), h.but.set (p := ⟨X, 1, none⟩) (.inl (show wa.heap.size ≤ X from Nat.le_of_eq h.pl.symm)) _, h.pl, h.lt, h.ty⟩
theorem DecSt.free (h : DecSt T R Z D A c8 l0 w key Ap cp ms st wx) (o : Nat) : wx.frozen? ⟨Z, o, none⟩ = false := by simp [World.frozen?, h.res]
theorem DecSt.c0 (h : DecSt T R Z D A c8 l0 w key Ap cp ms st wx) : wx.cell? ⟨Z, 0, none⟩ = some (.string key) := by rw [blk_cell h.res]; rfl
theorem DecSt.c1 (h : DecSt T R Z D A c8 l0 w key Ap cp ms st wx) : wx.cell? ⟨Z, 1, none⟩ = some (.slice Ap ms.length cp) := by rw [blk_cell h.res]; rfl
theorem InSt.c0 (h : InSt T R X A c8 l0 wa s e Ad cd ds st wx) : wx.cell? ⟨X, 0, none⟩ = some (.string s) := by rw [blk_cell h.blk]; rfl
theorem InSt.c1 (h : InSt T R X A c8 l0 wa s e Ad cd ds st wx) : wx.cell? ⟨X, 1, none⟩ = some (.int .i64 e) := by rw [blk_cell h.blk]; rfl
/-- One more text behind the row of texts, and into the put's block. -/
theorem InSt.push (h : InSt T R X A c8 l0 wa s e Ad cd ds st wx) {ds' : List ByteArray} {A' : Option Addr} {c' : Nat} (hown : OwnL 9 1 strC wz X (.slice A' ds'.length c') ds') (hk : KeepT 9 X wx wz) : 
    wz.cell? ⟨X, 2, none⟩ = some (.slice Ad ds.length cd) ∧ wz.frozen? ⟨X, 2, none⟩ = false ∧ InSt T R X A c8 l0 wa s e A' c' ds' st (wz.setCell ⟨X, 2, none⟩ (.slice A' ds'.length c')) := by
  have hX := hk.blk (by decide) h.blk
  have hbt : But (fun k => X ≤ k) wx wz := ⟨hk.1.os, hk.1.tape, hk.1.output, hk.1.size, fun k hk1 hk2 => hk.1.block k (by omega)⟩
  refine ⟨by rw [blk_cell hX]; rfl, by simp [World.frozen?, hX], (h.rd.but hbt (fun k e => by have := h.lt; omega)).but (but_set wz X 2 _) (fun k e => by have := h.lt; omega), by rw [blk_put hX]; rfl, hown.but' (but_set wz X 2 _) (fun k hk2 e => ?_), (h.but.up hbt (fun k e => by have := h.pl; omega)).set (p := ⟨X, 2, none⟩) (.inl (show wa.heap.size ≤ X from Nat.le_of_eq h.pl.symm)) _, h.pl, h.lt, h.ty⟩
  subst e
  obtain ⟨_, _, cs, h1⟩ := hown.blk hk2
  rw [hX] at h1
  cases h1
/-- One more put. -/
theorem DecSt.push (h : DecSt T R Z D A c8 l0 w key Ap cp ms st wx) {m : PutM} {ms' : List PutM} {A' : Option Addr} {c' : Nat} (hms : Hid (ms ++ [m] = ms')) (hd : OwnL 9 1 strC wx w.heap.size (.slice m.A m.data.length m.c) m.data) (hown : OwnL 29 3 PutM.cells wz w.heap.size (.slice A' ms'.length c') ms') (hk : KeepT 29 w.heap.size wx wz) (hb : But (fun k => some k = (Value.slice Ap ms.length cp).ownBlock) wx wz) :
    wz.frozen? ⟨Z, 1, none⟩ = false ∧ (∃ u, wz.cell? ⟨Z, 1, none⟩ = some u) ∧ DecSt T R Z D A c8 l0 w key A' c' ms' st (wz.setCell ⟨Z, 1, none⟩ (.slice A' ms'.length c')) := by
  have hZ := hk.blk (by decide) h.res
  have hS : ∀ k, some k = (Value.slice Ap ms.length cp).ownBlock → w.heap.size ≤ k ∧ k ≠ R := fun k e => by
    obtain ⟨h1, _, cs, h2⟩ := h.puts.row.blk e.symm
    refine ⟨h1, ?_⟩
    rintro rfl
    exact h.ty.1 (h.rd.tyAt h2).symm
  have hne : ∀ k cs t, k = Z → wz.heap[k]? = some (.cells cs t (0, 0)) → t ≠ 29 ∧ t ≠ 9 := fun k cs t e h1 => by
    subst e
    rw [hZ] at h1
    cases h1
    decide
  have hps : PutsOwn w.heap.size A' c' ms' wz := ⟨hown, fun x hx => by
    rw [← hms.out, List.mem_append, List.mem_singleton] at hx
    rcases hx with hx | rfl
    · exact (h.puts.data x hx).keepT hk (by decide)
    · exact hd.keepT hk (by decide)⟩
  refine ⟨by simp [World.frozen?, hZ], ⟨_, blk_cell hZ 1⟩, ?_⟩
  exact h.z (S := fun k => some k = (Value.slice Ap ms.length cp).ownBlock ∨ k = Z) ((hb.mono fun _ _ => .inl).set (p := ⟨Z, 1, none⟩) (.inr (.inr rfl)) _) (fun k e => by
    rcases e with e | rfl
    · exact hS k e
    · exact ⟨h.zw, fun e => h.rz e.symm⟩) (by rw [blk_put hZ]; rfl) (hps.but (but_set wz Z 1 _) hne)
end
/-- The rest of a list read behind what was read. -/
def More {α : Type} (d : Reader α) (n k : Nat) (st0 st : Option (List UInt8)) (xs : List α) : Prop := ∀ (st' : Option (List UInt8)) (ys : List α), Gives (dMany d k) st st' ys → Gives (dMany d n) st0 st' (xs ++ ys)
theorem More.start {α : Type} (d : Reader α) (n : Nat) (st : Option (List UInt8)) : More d n n st st [] := fun _ _ h => h
theorem More.step {α : Type} {d : Reader α} {n k : Nat} {st0 st st1 : Option (List UInt8)} {xs : List α} {x : α} (h : More d n (k + 1) st0 st xs) (hx : Gives d st st1 x) : More d n k st0 st1 (xs ++ [x]) := fun st' ys hy => by
  rw [List.append_assoc]
  exact h st' ([x] ++ ys) (hx.many hy)
theorem More.end {α : Type} {d : Reader α} {n k : Nat} {st0 st : Option (List UInt8)} {xs : List α} (h : More d n k st0 st xs) (hk : k = 0 ∨ st = none) : Gives (dMany d n) st0 st xs := by
  rcases hk with rfl | rfl
  · have := h st [] Gives.many0
    rwa [List.append_nil] at this
  · have := h none [] (Gives.bad _)
    rwa [List.append_nil] at this
theorem gv_bound {α : Type} {z x : α} {d : Reader α} {P : α → Prop} {st st1 : Option (List UInt8)} (h : gv z d st = (x, st1)) (hz : P z) (hd : ∀ l y r, d l = some (y, r) → P y) : P x := by
  cases st with
  | none => cases h; exact hz
  | some l =>
    cases hc : d l with
    | none => rw [gv_none hc] at h; cases h; exact hz
    | some p =>
      obtain ⟨a, r⟩ := p
      rw [gv_some hc] at h
      cases h
      exact hd _ _ _ hc
theorem dNum_bd {l r : List UInt8} {v : Nat} (h : dNum l = some (v, r)) : v < 2 ^ 64 := by
  unfold dNum at h
  cases hu : uL l with
  | none => rw [hu] at h; cases h
  | some y =>
    obtain ⟨v', n⟩ := y
    rw [hu] at h
    simp only [Option.some.injEq, Prod.mk.injEq] at h
    rw [← h.1]
    exact (uL_bd hu).2.2.2
end Go.Proofs.YtilfgafdkiaaaaaDoor
/- event.Make: what it answers. Conditions: lengths and numbers so small that nothing wraps. -/
namespace Go.Proofs.YtilfgafdkiaaaaaDoor
open Go.RowKit

/-- The events of one Put. -/
def makePut (p : PutM) (first step : Int) (st : St) (ix : Int) : List Ev := p.data.mapIdx fun k d => ⟨p.stream, first + step * k, d, st, ix + k⟩
/-- The events of the Puts from number i on. -/
def makeFrom (firsts : List Int) (st : St) : Nat → Int → List PutM → List Ev
  | _, _, [] => []
  | i, ix, p :: l => makePut p (firsts.getD i 0) (if i < firsts.length then 1 else 0) st ix ++ makeFrom firsts st (i + 1) (ix + p.data.length) l
/-- How many events. -/
def evCount (ps : List PutM) : Nat := (ps.map fun p => p.data.length).sum

/-- A call answers a list of events of its own, and turns nothing that was there. -/
def RetEvs (w : World) (es : List Ev) (e : Ending) (w' : World) : Prop := ∃ v, e = .returned v ∧ Own w' w.heap.size v es ∧ G w w'

theorem makePut_length (p : PutM) (first step : Int) (st : St) (ix : Int) : (makePut p first step st ix).length = p.data.length := by simp [makePut]
theorem makePut_succ (p : PutM) (first step : Int) (st : St) (ix : Int) (j : Nat) (d : ByteArray) (h : p.data[j]? = some d) :
    (makePut p first step st ix).take (j + 1) = (makePut p first step st ix).take j ++ [⟨p.stream, first + step * j, d, st, ix + j⟩] := by
  obtain ⟨hk, rfl⟩ := List.getElem?_eq_some_iff.1 h
  rw [List.take_succ_eq_append_getElem (by simpa [makePut] using hk)]
  simp [makePut]
theorem makeFrom_drop (firsts : List Int) (st : St) (ix : Int) (ps : List PutM) (k : Nat) (p : PutM) (h : ps[k]? = some p) :
    makeFrom firsts st k ix (ps.drop k) = makePut p (firsts.getD k 0) (if k < firsts.length then 1 else 0) st ix ++ makeFrom firsts st (k + 1) (ix + p.data.length) (ps.drop (k + 1)) := by
  obtain ⟨hk, rfl⟩ := List.getElem?_eq_some_iff.1 h
  rw [List.drop_eq_getElem_cons hk]
  rfl
theorem evCount_drop (ps : List PutM) (k : Nat) (p : PutM) (h : ps[k]? = some p) : evCount (ps.drop k) = p.data.length + evCount (ps.drop (k + 1)) := by
  obtain ⟨hk, rfl⟩ := List.getElem?_eq_some_iff.1 h
  unfold evCount
  rw [List.drop_eq_getElem_cons hk, List.map_cons, List.sum_cons]

set_option maxHeartbeats 1000000 in
theorem make_any (key : ByteArray) (ps : List PutM) (A A2 : Option Addr) (c c2 B : Nat) (firsts : List Int) (st : St) (ix : Int) (w : World) (hB : B ≤ w.heap.size)
    (hl : ps.length ≤ 9223372036854775807) (_hl2 : firsts.length ≤ 9223372036854775807) (hn : evCount ps ≤ 1099511627776)
    (hf : ∀ f ∈ firsts, -1099511627776 ≤ f ∧ f ≤ 1099511627776) (hix : -1099511627776 ≤ ix ∧ ix ≤ 1099511627776)
    (hs : PutsIn w B A ps) (hs2 : Sl intC 1 w B A2 firsts) :
    Calls Tryd.prog 13 #[.agg #[.string key, .slice A ps.length c], .slice A2 firsts.length c2, .agg #[.int .i64 st.wall, .int .i64 st.logic, .int .i64 st.node], .int .i64 ix] w
      (RetEvs w (makeFrom firsts st 0 ix ps)) := by
  go_enter Tryd.func13, Tryd.ntmps13
  go_wp2_with fail
  generalize hW0 : (w.alloc (.cells #[.string key, .slice A ps.length c] 25)).alloc (.cells #[.int .i64 st.wall, .int .i64 st.logic, .int .i64 st.node] 35) = W0
  have hz : w.heap.size + 1 < W0.heap.size := by rw [← hW0]; simp
  have hS0 : W0.cell? ⟨w.heap.size + 1, 0, none⟩ = some (.int .i64 st.wall) := by rw [← hW0]; simp
  have hS1 : W0.cell? ⟨w.heap.size + 1, 1, none⟩ = some (.int .i64 st.logic) := by rw [← hW0]; simp
  have hS2 : W0.cell? ⟨w.heap.size + 1, 2, none⟩ = some (.int .i64 st.node) := by rw [← hW0]; simp
  have hG0 : G w W0 := by rw [← hW0]; exact (G.new _ _).alloc _
  clear hW0
  have q0 : ∀ w', G W0 w' → w'.cell? ⟨w.heap.size + 1, 0, none⟩ = some (.int .i64 st.wall) := fun w' h => (h.cell (by omega)).trans hS0
  have q1 : ∀ w', G W0 w' → w'.cell? ⟨w.heap.size + 1, 1, none⟩ = some (.int .i64 st.logic) := fun w' h => (h.cell (by omega)).trans hS1
  have q2 : ∀ w', G W0 w' → w'.cell? ⟨w.heap.size + 1, 2, none⟩ = some (.int .i64 st.node) := fun w' h => (h.cell (by omega)).trans hS2
  clear hS0 hS1 hS2
  replace hs := hs.g hB hG0
  replace hs2 := hs2.g hB hG0
  go_loopw [8, 18] (fun v i wr => ∃ (k : Nat) (out : List Ev), k ≤ ps.length ∧ i = .int .i64 k ∧ Own wr W0.heap.size v out ∧ G W0 wr ∧ out.length + evCount (ps.drop k) ≤ 1099511627776 ∧ Hid (makeFrom firsts st 0 ix ps = out ++ makeFrom firsts st k (ix + out.length) (ps.drop k))) (fun _ i _ => ps.length - (intOf i).toNat)
  case atStart => exact ⟨0, [], Nat.zero_le _, rfl, Own.nil _ _, G.refl _, by simpa using hn, by simp [Hid]⟩
  case round =>
    obtain ⟨k, out, hk, rfl, hown, hg, hcnt, hh⟩ := hrel
    by_cases hlt : k < ps.length
    · obtain ⟨p, hp⟩ : ∃ p, ps[k]? = some p := ⟨_, List.getElem?_eq_getElem hlt⟩
      obtain ⟨sm, pe, pA, pc, dat⟩ := p
      obtain ⟨b, o, rfl, hbB, hcells⟩ := hs.1.get hp
      have hpm := List.mem_of_getElem? hp
      have hcp : out.length + dat.length + evCount (ps.drop (k + 1)) ≤ 1099511627776 := by rw [evCount_drop ps k _ hp] at hcnt; simpa [Nat.add_assoc] using hcnt
      have hfd := Lib.hid (makeFrom_drop firsts st (ix + out.length) ps k _ hp)
      clear hcnt
      have hdat : ∀ w', G W0 w' → Sl strC 1 w' B pA dat := fun w' h => (hs.2 _ hpm).g (by have := hG0.size; omega) h
      have hc0 : wr.cell? ⟨b, o + k * 3, none⟩ = some (.string sm) := (hg.cell (by have := hG0.size; omega)).trans (hcells 0 _ rfl)
      have hc1 : wr.cell? ⟨b, o + k * 3 + 1, none⟩ = some (.int .i64 pe) := (hg.cell (by have := hG0.size; omega)).trans (hcells 1 _ rfl)
      have hc2 : wr.cell? ⟨b, o + k * 3 + 2, none⟩ = some (.slice pA dat.length pc) := (hg.cell (by have := hG0.size; omega)).trans (hcells 2 _ rfl)
      clear hcells hs
      by_cases hkf : k < firsts.length
      · obtain ⟨f, hf1⟩ : ∃ f, firsts[k]? = some f := ⟨_, List.getElem?_eq_getElem hkf⟩
        obtain ⟨b2, o2, rfl, hb2, hcf⟩ := hs2.int hf1
        replace hcf := (hg.cell (by have := hG0.size; omega)).trans hcf
        have hb2w : b2 < wr.heap.size := by have := hG0.size; have := hg.size; omega
        obtain ⟨hf2, hf3⟩ := hf f (List.mem_of_getElem? hf1)
        replace hf1 := Lib.hid hf1
        clear hf
        go_wp2_with fail
        obtain ⟨wo, rfl⟩ : ∃ wo : World, wo = wr := ⟨_, rfl⟩
        have hbx : (wo.alloc (.cells #[.string sm, .int .i64 pe, .slice pA dat.length pc] 29)).heap[wo.heap.size]? = some (.cells #[.string sm, .int .i64 pe, .slice pA dat.length pc] 29 (0, 0)) := blk_new _ _ _
        have hGW : G wo (wo.alloc (.cells #[.string sm, .int .i64 pe, .slice pA dat.length pc] 29)) := G.new _ _
        generalize hW1 : wo.alloc (.cells #[.string sm, .int .i64 pe, .slice pA dat.length pc] 29) = W1 at *
        generalize hbn : wo.heap.size = bx at *
        clear hbn
        go_loopw [8, 34] (fun v i wr => ∃ (j : Nat) (o2 : List Ev), j ≤ dat.length ∧ i = .int .i64 j ∧ Own wr W0.heap.size v o2 ∧ G W0 wr ∧ wr.heap[bx]? = some (.cells #[.string sm, .int .i64 pe, .slice pA dat.length pc] 29 (0, 0)) ∧ o2.length = out.length + j ∧ Hid (o2 = out ++ (makePut ⟨sm, pe, pA, pc, dat⟩ f 1 st (ix + out.length)).take j)) (fun _ i _ => dat.length - (intOf i).toNat)
        case atStart => exact ⟨0, out, Nat.zero_le _, rfl, hown.g hGW, hg.trans hGW, hbx, rfl, by simp [Hid]⟩
        case round =>
          obtain ⟨j, o2, hj, rfl, hown2, hg2, hbx2, hlen2, hh2⟩ := hrel
          obtain ⟨Ao, co, rfl, _⟩ := hown2.sl
          have hle2 : o2.length ≤ out.length + dat.length := by omega
          replace hlen2 := Lib.hid hlen2
          by_cases hjl : j < dat.length
          · obtain ⟨d, hd⟩ : ∃ d, dat[j]? = some d := ⟨_, List.getElem?_eq_getElem hjl⟩
            obtain ⟨bd, od, rfl, hbd, hcd⟩ := (hdat wr hg2).str hd
            have hb0 : wr.cell? ⟨bx, 0, none⟩ = some (.string sm) := blk_cell hbx2 0
            replace hd := Lib.hid hd
            clear hdat
            go_wp2_with (at_builtin; refine wpList_append_ev _ rfl (.tmp 39) (.tmp 54) rfl W0.heap.size _ o2 rfl (hown2.g (G.new _ _)) ⟨sm, f + j, d, st, ix + o2.length⟩ wr.heap.size 1 rfl (blk_new _ _ _) (by omega) (by have := hg2.size; simp; omega) ?_; intro v' w' hown' hkeep)
            go_roundw
            case rel =>
              refine ⟨j + 1, _, by omega, by go_num, hown', hkeep.g (hg2.alloc _), hkeep.2 _ _ _ _ (by decide) (((G.new wr _).block bx (by
                rcases Nat.lt_or_ge bx wr.heap.size with h1 | h1
                · exact h1
                · rw [Array.getElem?_eq_none h1] at hbx2; cases hbx2)).trans hbx2), by simp [hlen2.out]; omega, ?_⟩
              unfold Hid
              rw [makePut_succ _ _ _ _ _ j d hd.out, ← List.append_assoc, ← hh2.out, hlen2.out]
              congr 3
              simp
              try omega
            case measure => simp [intOf]; omega
          · go_wp2_with fail
            go_roundw
            case rel =>
              have hj2 : j = dat.length := by omega
              have ho2 : o2 = out ++ makePut ⟨sm, pe, pA, pc, dat⟩ f 1 st (ix + out.length) := by
                rw [hh2.out, List.take_of_length_le (by rw [makePut_length]; simp; omega)]
              refine ⟨k + 1, o2, by omega, by go_num, hown2, hg2, by rw [hlen2.out]; omega, ?_⟩
              unfold Hid
              rw [hh.out, hfd.out, ho2, List.append_assoc, List.length_append, makePut_length]
              rw [List.getD_eq_getElem?_getD, hf1.out, Option.getD_some, if_pos hkf]
              congr 3
              simp; omega
            case measure => simp [intOf]; omega
      · go_wp2_with fail
        obtain ⟨wo, rfl⟩ : ∃ wo : World, wo = wr := ⟨_, rfl⟩
        have hbx : (wo.alloc (.cells #[.string sm, .int .i64 pe, .slice pA dat.length pc] 29)).heap[wo.heap.size]? = some (.cells #[.string sm, .int .i64 pe, .slice pA dat.length pc] 29 (0, 0)) := blk_new _ _ _
        have hGW : G wo (wo.alloc (.cells #[.string sm, .int .i64 pe, .slice pA dat.length pc] 29)) := G.new _ _
        generalize hW1 : wo.alloc (.cells #[.string sm, .int .i64 pe, .slice pA dat.length pc] 29) = W1 at *
        generalize hbn : wo.heap.size = bx at *
        clear hbn
        go_loopw [8, 34] (fun v i wr => ∃ (j : Nat) (o2 : List Ev), j ≤ dat.length ∧ i = .int .i64 j ∧ Own wr W0.heap.size v o2 ∧ G W0 wr ∧ wr.heap[bx]? = some (.cells #[.string sm, .int .i64 pe, .slice pA dat.length pc] 29 (0, 0)) ∧ o2.length = out.length + j ∧ Hid (o2 = out ++ (makePut ⟨sm, pe, pA, pc, dat⟩ 0 0 st (ix + out.length)).take j)) (fun _ i _ => dat.length - (intOf i).toNat)
        case atStart => exact ⟨0, out, Nat.zero_le _, rfl, hown.g hGW, hg.trans hGW, hbx, rfl, by simp [Hid]⟩
        case round =>
          obtain ⟨j, o2, hj, rfl, hown2, hg2, hbx2, hlen2, hh2⟩ := hrel
          obtain ⟨Ao, co, rfl, _⟩ := hown2.sl
          have hle2 : o2.length ≤ out.length + dat.length := by omega
          replace hlen2 := Lib.hid hlen2
          by_cases hjl : j < dat.length
          · obtain ⟨d, hd⟩ : ∃ d, dat[j]? = some d := ⟨_, List.getElem?_eq_getElem hjl⟩
            obtain ⟨bd, od, rfl, hbd, hcd⟩ := (hdat wr hg2).str hd
            have hb0 : wr.cell? ⟨bx, 0, none⟩ = some (.string sm) := blk_cell hbx2 0
            replace hd := Lib.hid hd
            clear hdat
            go_wp2_with (at_builtin; refine wpList_append_ev _ rfl (.tmp 39) (.tmp 54) rfl W0.heap.size _ o2 rfl (hown2.g (G.new _ _)) ⟨sm, 0, d, st, ix + o2.length⟩ wr.heap.size 1 rfl (blk_new _ _ _) (by omega) (by have := hg2.size; simp; omega) ?_; intro v' w' hown' hkeep)
            go_roundw
            case rel =>
              refine ⟨j + 1, _, by omega, by go_num, hown', hkeep.g (hg2.alloc _), hkeep.2 _ _ _ _ (by decide) (((G.new wr _).block bx (by
                rcases Nat.lt_or_ge bx wr.heap.size with h1 | h1
                · exact h1
                · rw [Array.getElem?_eq_none h1] at hbx2; cases hbx2)).trans hbx2), by simp [hlen2.out]; omega, ?_⟩
              unfold Hid
              rw [makePut_succ _ _ _ _ _ j d hd.out, ← List.append_assoc, ← hh2.out, hlen2.out]
              congr 3
              simp
              try omega
            case measure => simp [intOf]; omega
          · go_wp2_with fail
            go_roundw
            case rel =>
              have hj2 : j = dat.length := by omega
              have ho2 : o2 = out ++ makePut ⟨sm, pe, pA, pc, dat⟩ 0 0 st (ix + out.length) := by
                rw [hh2.out, List.take_of_length_le (by rw [makePut_length]; simp; omega)]
              refine ⟨k + 1, o2, by omega, by go_num, hown2, hg2, by rw [hlen2.out]; omega, ?_⟩
              unfold Hid
              rw [hh.out, hfd.out, ho2, List.append_assoc, List.length_append, makePut_length]
              rw [List.getD_eq_getElem?_getD, List.getElem?_eq_none (by omega), Option.getD_none, if_neg hkf]
              congr 3
              simp; omega
            case measure => simp [intOf]; omega
    · go_wp2_with fail
      go_ret
      have he : makeFrom firsts st 0 ix ps = out := by rw [hh.out, List.drop_eq_nil_of_le (by omega)]; simp [makeFrom]
      exact ⟨u8, rfl, he ▸ hown.mono hG0.size, hG0.trans hg⟩
end Go.Proofs.YtilfgafdkiaaaaaDoor
/- penstockref7.SameEvents: whether two lists of events are one. Condition: the lengths fit an int. -/
namespace Go.Proofs.YtilfgafdkiaaaaaDoor
open Go.RowKit

def evsB (es fs : List Ev) : Bool := decide (es = fs)
theorem Sl.ev {w : World} {B : Nat} {A : Option Addr} {xs : List Ev} {k : Nat} {x : Ev} (h : Sl Ev.cells 7 w B A xs) (hx : xs[k]? = some x) :
    ∃ b o, A = some ⟨b, o, none⟩ ∧ b < B ∧ w.cell? ⟨b, o + k * 7, none⟩ = some (.string x.stream) ∧ w.cell? ⟨b, o + k * 7 + 1, none⟩ = some (.int .i64 x.version) ∧ w.cell? ⟨b, o + k * 7 + 2, none⟩ = some (.string x.data) ∧
      w.cell? ⟨b, o + k * 7 + 3, none⟩ = some (.int .i64 x.st.wall) ∧ w.cell? ⟨b, o + k * 7 + 4, none⟩ = some (.int .i64 x.st.logic) ∧ w.cell? ⟨b, o + k * 7 + 5, none⟩ = some (.int .i64 x.st.node) ∧ w.cell? ⟨b, o + k * 7 + 6, none⟩ = some (.int .i64 x.index) := by
  obtain ⟨b, o, e, hb, hc⟩ := h.get hx
  exact ⟨b, o, e, hb, hc 0 _ rfl, hc 1 _ rfl, hc 2 _ rfl, hc 3 _ rfl, hc 4 _ rfl, hc 5 _ rfl, hc 6 _ rfl⟩

/-- The cells of an event that is there, in every world that has grown from this one. -/
theorem Sl.evG {w : World} {B : Nat} {A : Option Addr} {xs : List Ev} {k : Nat} {x : Ev} (h : Sl Ev.cells 7 w B A xs) (hB : B ≤ w.heap.size) (hx : xs[k]? = some x) :
    ∃ b o, A = some ⟨b, o, none⟩ ∧ b < w.heap.size ∧ (∀ w', G w w' → w'.cell? ⟨b, o + k * 7, none⟩ = some (.string x.stream)) ∧ (∀ w', G w w' → w'.cell? ⟨b, o + k * 7 + 1, none⟩ = some (.int .i64 x.version)) ∧ (∀ w', G w w' → w'.cell? ⟨b, o + k * 7 + 2, none⟩ = some (.string x.data)) ∧
      (∀ w', G w w' → w'.cell? ⟨b, o + k * 7 + 3, none⟩ = some (.int .i64 x.st.wall)) ∧ (∀ w', G w w' → w'.cell? ⟨b, o + k * 7 + 4, none⟩ = some (.int .i64 x.st.logic)) ∧ (∀ w', G w w' → w'.cell? ⟨b, o + k * 7 + 5, none⟩ = some (.int .i64 x.st.node)) ∧ (∀ w', G w w' → w'.cell? ⟨b, o + k * 7 + 6, none⟩ = some (.int .i64 x.index)) := by
  obtain ⟨b, o, e, hb, c0, c1, c2, c3, c4, c5, c6⟩ := h.ev hx
  have hb' : b < w.heap.size := by omega
  exact ⟨b, o, e, hb', fun w' hg => (hg.cell hb').trans c0, fun w' hg => (hg.cell hb').trans c1, fun w' hg => (hg.cell hb').trans c2, fun w' hg => (hg.cell hb').trans c3, fun w' hg => (hg.cell hb').trans c4, fun w' hg => (hg.cell hb').trans c5, fun w' hg => (hg.cell hb').trans c6⟩

set_option maxHeartbeats 1000000 in
theorem sameEvents_any (es fs : List Ev) (A A2 : Option Addr) (c c2 B : Nat) (w : World) (hB : B ≤ w.heap.size) (_hl : es.length ≤ 9223372036854775807) (_hl2 : fs.length ≤ 9223372036854775807)
    (hs : Sl Ev.cells 7 w B A es) (hs2 : Sl Ev.cells 7 w B A2 fs) :
    Calls Tryd.prog 57 #[.slice A es.length c, .slice A2 fs.length c2] w fun e w' => e = .returned (.bool (evsB es fs)) ∧ G w w' := by
  by_cases hlen : es.length = fs.length
  · have hlb : ((es.length : Int) != (fs.length : Int)) = false := by rw [bne_eq_false_iff_eq]; omega
    go_enter Tryd.func57, Tryd.ntmps57
    have hle : es.length ≤ fs.length := by omega
    replace hlen := Lib.hid hlen
    go_wp2_with fail
    go_loopw [5] (fun i wr => ∃ (k : Nat), k ≤ es.length ∧ i = .int .i64 k ∧ G w wr ∧ Hid (es.take k = fs.take k)) (fun i _ => es.length - (intOf i).toNat)
    case atStart => exact ⟨0, Nat.zero_le _, rfl, G.refl _, by simp [Hid]⟩
    case round =>
      obtain ⟨k, hk, rfl, hg, hh⟩ := hrel
      by_cases hlt : k < es.length
      · obtain ⟨⟨s1, v1, d1, ⟨x1, y1, z1⟩, i1⟩, ha⟩ : ∃ a, es[k]? = some a := ⟨_, List.getElem?_eq_getElem hlt⟩
        obtain ⟨⟨s2, v2, d2, ⟨x2, y2, z2⟩, i2⟩, hb⟩ : ∃ b, fs[k]? = some b := ⟨_, List.getElem?_eq_getElem (by omega)⟩
        obtain ⟨b1, o1, rfl, hb1, _⟩ := hs.ev ha
        obtain ⟨b2, o2, rfl, hb2, _⟩ := hs2.ev hb
        obtain ⟨_, _, e1, _, c10, c11, c12, c13, c14, c15, c16⟩ := (hs.g hB hg).ev ha
        cases e1
        obtain ⟨_, _, e1, _, c20, c21, c22, c23, c24, c25, c26⟩ := (hs2.g hB hg).ev hb
        cases e1
        have hnq := @ev_neq
        replace ha := Lib.hid ha
        replace hb := Lib.hid hb
        clear hs hs2
        go_wp2_with fail
        go_quiet (fail)
        clear hnq
        go_wp2_with fail
        · go_ret
          rename_i hq
          refine ⟨ret_bool ?_, hg.drewN _⟩
          unfold evsB
          rw [decide_eq_false]
          rintro rfl
          have h3 := ha.out.symm.trans hb.out
          simp [evB] at hq
          simp at h3
          simp [h3] at hq
        · rename_i hq
          go_roundw
          case rel =>
            refine ⟨k + 1, by omega, by go_num, hg.drewN _, ?_⟩
            unfold Hid
            have he : es[k]? = fs[k]? := by
              rw [ha.out, hb.out]
              simp [evB] at hq
              simp [hq]
            rw [List.take_add_one, List.take_add_one, hh.out, he]
          case measure => simp [intOf]; omega
      · go_wp2_with fail
        go_ret
        exact ⟨ret_bool (by
          unfold evsB
          rw [decide_eq_true]
          have h1 : es.take k = es := List.take_of_length_le (by omega)
          have h2 : fs.take k = fs := List.take_of_length_le (by have := hlen.out; omega)
          rw [← h1, ← h2]; exact hh.out), hg⟩
  · have hlb : ((es.length : Int) != (fs.length : Int)) = true := by rw [bne_iff_ne]; omega
    go_enter Tryd.func57, Tryd.ntmps57
    go_wp2_with fail
    go_ret
    exact ⟨ret_bool (by unfold evsB; rw [decide_eq_false]; intro h; exact hlen (by rw [h])), G.refl _⟩

theorem sameEvents_self (es : List Ev) (A A2 : Option Addr) (c c2 B : Nat) (w : World) (hB : B ≤ w.heap.size) (hl : es.length ≤ 9223372036854775807)
    (hs : Sl Ev.cells 7 w B A es) (hs2 : Sl Ev.cells 7 w B A2 es) :
    Calls Tryd.prog 57 #[.slice A es.length c, .slice A2 es.length c2] w fun e w' => e = .returned (.bool true) ∧ G w w' :=
  (sameEvents_any es es A A2 c c2 B w hB hl hl hs hs2).mono fun _ _ ⟨he, hg⟩ => ⟨by rw [he]; unfold evsB; simp, hg⟩
end Go.Proofs.YtilfgafdkiaaaaaDoor
/- penstocklaw9.awake answers true. No condition. -/
namespace Go.Proofs.YtilfgafdkiaaaaaDoor
open Go.RowKit

set_option maxHeartbeats 1000000 in
theorem awake9_any (w : World) : Calls Tryd.prog 9 #[] w fun e w' => e = .returned (.bool true) ∧ G w w' := by
  go_enter Tryd.func9, Tryd.ntmps9
  go_wp2_with fail
  have hm := make_any ⟨#[107]⟩ [⟨⟨#[97]⟩, -1, some ⟨w.heap.size, 0, none⟩, 2, [⟨#[120]⟩, ⟨#[121]⟩]⟩] (some ⟨w.heap.size + 1, 0, none⟩) (some ⟨w.heap.size + 1 + 1, 0, none⟩) 1 1 (w.heap.size + 3) [3] ⟨5, 0, 1⟩ 0
    (((w.alloc (Obj.cells #[Value.string ⟨#[120]⟩, Value.string ⟨#[121]⟩] 9)).alloc (Obj.cells #[Value.string ⟨#[97]⟩, Value.int IntKind.i64 (-1), Value.slice (some ⟨w.heap.size, 0, none⟩) 2 2] 29)).alloc (Obj.cells #[Value.int IntKind.i64 3] 3))
    (by simp) (by simp) (by simp) (by simp [evCount]) (by simp) (by omega)
    ⟨Sl.of_blk PutM.cells_len _ ((G.new _ _).blk (blk_new' _ _ _ _ (by simp))) rfl (by omega), fun p hp => by
      simp at hp; subst hp
      exact Sl.of_blk strC_len _ (((G.new _ _).alloc _).blk (blk_new w _ _)) rfl (by omega)⟩
    (Sl.of_blk intC_len _ (blk_new' _ _ _ _ (by simp)) rfl (by omega))
  refine hm.mono ?_
  clear hm
  rw [show makeFrom [3] ⟨5, 0, 1⟩ 0 0 [⟨⟨#[97]⟩, -1, some ⟨w.heap.size, 0, none⟩, 2, [⟨#[120]⟩, ⟨#[121]⟩]⟩] = [⟨⟨#[97]⟩, 3, ⟨#[120]⟩, ⟨5, 0, 1⟩, 0⟩, ⟨⟨#[97]⟩, 4, ⟨#[121]⟩, ⟨5, 0, 1⟩, 1⟩] from rfl]
  rintro e w1 ⟨v, rfl, hown, hg⟩
  obtain ⟨A, c, rfl, hsl⟩ := hown.sl
  obtain ⟨b, o, rfl, hb, _, c1, _⟩ := hsl.ev (k := 0) rfl
  obtain ⟨_, _, e1, _, _, d1, d2, _, _, _, d6⟩ := hsl.ev (k := 1) rfl
  cases e1
  simp only [Nat.zero_mul, Nat.one_mul, Nat.add_zero] at c1 d1 d2 d6
  replace hg := (((G.new w _).alloc _).alloc _).trans hg
  clear hsl hown
  go_wp2_with fail
  go_ret
  exact ⟨ret_bool (by rfl), hg⟩
end Go.Proofs.YtilfgafdkiaaaaaDoor
/- penstocklaw9.EventLimits: the walk. Condition: the decoder's tables lie as the library lays them. -/
namespace Go.Proofs.YtilfgafdkiaaaaaDoor
open Go.RowKit

theorem cat_s (k : Nat) : (⟨#[115]⟩ : ByteArray) ++ strOf [UInt8.ofNat (97 + k)] = strm k := by
  unfold strOf strm
  rfl
/-- The batch under way: its block lies at Z. -/
structure LimSt (Z : Nat) (w : World) (Ap : Option Addr) (cp : Nat) (ms : List PutM) (wx : World) : Prop where
  res : wx.heap[Z]? = some (.cells #[.string ByteArray.empty, .slice Ap ms.length cp] 25 (0, 0))
  puts : PutsOwn w.heap.size Ap cp ms wx
  g : G w wx
  zw : w.heap.size ≤ Z
/-- A put under way: its block lies at X. -/
structure LimIn (X : Nat) (wa : World) (s : ByteArray) (Ad : Option Addr) (cd : Nat) (ds : List ByteArray) (wx : World) : Prop where
  blk : wx.heap[X]? = some (.cells #[.string s, .int .i64 (-1), .slice Ad ds.length cd] 29 (0, 0))
  row : OwnL 9 1 strC wx X (.slice Ad ds.length cd) ds
  g : G wa wx
  pl : X = wa.heap.size
section
variable {Z X : Nat} {w wa wx wy wz : World} {s : ByteArray} {Ap Ad : Option Addr} {cp cd : Nat} {ms : List PutM} {ds : List ByteArray}
theorem LimSt.go (h : LimSt Z w Ap cp ms wx) (hg : G wx wy) : LimSt Z w Ap cp ms wy :=
  ⟨hg.blk h.res, h.puts.but (S := fun _ => False) (.of_g hg) (fun _ _ _ e => e.elim), h.g.trans hg, h.zw⟩
theorem LimIn.go (h : LimIn X wa s Ad cd ds wx) (hg : G wx wy) : LimIn X wa s Ad cd ds wy := ⟨hg.blk h.blk, h.row.g hg, h.g.trans hg, h.pl⟩
theorem LimIn.cell (h : LimIn X wa s Ad cd ds wx) : wx.cell? ⟨X, 2, none⟩ = some (.slice Ad ds.length cd) := by rw [blk_cell h.blk]; rfl
theorem LimIn.begin : LimIn wa.heap.size wa s none 0 [] (wa.alloc (.cells #[.string s, .int .i64 (-1), .slice none 0 0] 29)) := ⟨blk_new _ _ _, OwnL.nil, G.new _ _, rfl⟩
theorem LimIn.push (h : LimIn X wa s Ad cd ds wx) {ds' : List ByteArray} {A' : Option Addr} {c' : Nat} (hown : OwnL 9 1 strC wz X (.slice A' ds'.length c') ds') (hk : KeepT 9 X wx wz) :
    wz.cell? ⟨X, 2, none⟩ = some (.slice Ad ds.length cd) ∧ wz.frozen? ⟨X, 2, none⟩ = false ∧ LimIn X wa s A' c' ds' (wz.setCell ⟨X, 2, none⟩ (.slice A' ds'.length c')) := by
  have hX := hk.blk (by decide) h.blk
  have hgz : G wa wz := by
    have h1 : Below X wx wz := hk.1
    rw [h.pl] at h1
    exact (Below.trans h.g h1 : Below wa.heap.size wa wz)
  refine ⟨by rw [blk_cell hX]; rfl, by simp [World.frozen?, hX], by rw [blk_put hX]; rfl, hown.but' (but_set wz X 2 _) (fun k hk2 e => ?_), hgz.set (p := ⟨X, 2, none⟩) (Nat.le_of_eq h.pl.symm) _, h.pl⟩
  subst e
  obtain ⟨_, _, cs, h1⟩ := hown.blk hk2
  rw [hX] at h1
  cases h1
theorem LimSt.push (h : LimSt Z w Ap cp ms wx) {m : PutM} {ms' : List PutM} {A' : Option Addr} {c' : Nat} (hms : Hid (ms ++ [m] = ms')) (hd : OwnL 9 1 strC wx w.heap.size (.slice m.A m.data.length m.c) m.data) (hown : OwnL 29 3 PutM.cells wz w.heap.size (.slice A' ms'.length c') ms') (hk : KeepT 29 w.heap.size wx wz) :
    wz.frozen? ⟨Z, 1, none⟩ = false ∧ (∃ u, wz.cell? ⟨Z, 1, none⟩ = some u) ∧ LimSt Z w A' c' ms' (wz.setCell ⟨Z, 1, none⟩ (.slice A' ms'.length c')) := by
  have hZ := hk.blk (by decide) h.res
  have hne : ∀ k cs t, k = Z → wz.heap[k]? = some (.cells cs t (0, 0)) → t ≠ 29 ∧ t ≠ 9 := fun k cs t e h1 => by
    subst e
    rw [hZ] at h1
    cases h1
    decide
  have hps : PutsOwn w.heap.size A' c' ms' wz := ⟨hown, fun x hx => by
    rw [← hms.out, List.mem_append, List.mem_singleton] at hx
    rcases hx with hx | rfl
    · exact (h.puts.data x hx).keepT hk (by decide)
    · exact hd.keepT hk (by decide)⟩
  exact ⟨by simp [World.frozen?, hZ], ⟨_, blk_cell hZ 1⟩, by rw [blk_put hZ]; rfl, hps.but (but_set wz Z 1 _) hne, (KeepT.g hk h.g).set (p := ⟨Z, 1, none⟩) h.zw _, h.zw⟩
theorem LimSt.c1 (h : LimSt Z w Ap cp ms wx) : wx.cell? ⟨Z, 1, none⟩ = some (.slice Ap ms.length cp) := by rw [blk_cell h.res]; rfl
theorem LimSt.c0 (h : LimSt Z w Ap cp ms wx) : wx.cell? ⟨Z, 0, none⟩ = some (.string ByteArray.empty) := by rw [blk_cell h.res]; rfl
theorem LimIn.c0 (h : LimIn X wa s Ad cd ds wx) : wx.cell? ⟨X, 0, none⟩ = some (.string s) := by rw [blk_cell h.blk]; rfl
theorem LimIn.c1 (h : LimIn X wa s Ad cd ds wx) : wx.cell? ⟨X, 1, none⟩ = some (.int .i64 (-1)) := by rw [blk_cell h.blk]; rfl
end
theorem lim_small {ms : List PutM} {z n m : Nat} (hm : m ≤ 10) (hn : n ≤ 25) (hz : z ≤ 1100) (h : ms.map PutM.p = putsL z n m) : PutsSmall ms := by
  have hl := congrArg List.length h
  rw [List.length_map, putsL_len] at hl
  refine ⟨by omega, fun p hp => ?_⟩
  have h1 : p.p ∈ putsL z n m := by rw [← h]; exact List.mem_map.2 ⟨p, hp, rfl⟩
  obtain ⟨i, _, h2⟩ := List.mem_map.1 h1
  obtain ⟨ps, pe, pA, pc, pd⟩ := p
  simp only [PutM.p, putL, PutP.mk.injEq] at h2
  obtain ⟨rfl, rfl, rfl⟩ := h2
  refine ⟨by show (strm i).size ≤ _; simp [strm, ByteArray.size], by simp, by show (dataL z n).length ≤ _; rw [dataL_len]; omega, fun d hd => ?_⟩
  have := (dataL_mem (z := z) (n := n) hd).1
  omega
set_option maxRecDepth 100000 in
set_option maxHeartbeats 8000000 in
theorem eventLimits_walk (pu da si : Int) (w : World) (hp : -9223372036854775808 ≤ pu ∧ pu ≤ 9223372036854775807) (hd : -9223372036854775808 ≤ da ∧ da ≤ 9223372036854775807) (hs : -9223372036854775808 ≤ si ∧ si ≤ 9223372036854775807) (hT : Tabs w) :
    Calls Tryd.prog 3 #[.int .i64 pu, .int .i64 da, .int .i64 si] w fun e w' => e = .returned (.bool true) ∧ G w w' := by
  by_cases h1 : 0 ≤ pu
  case neg =>
    have t1 : decide (pu < 0) = true := decide_eq_true (by omega)
    have t1' : pu < 0 := by omega
    clear h1
    go_enter Tryd.func3, Tryd.ntmps3
    go_wp2_with (go_at_call 9; refine (awake9_any _).mono ?_; rintro e w5 ⟨rfl, hg5⟩)
    go_ret
    exact ⟨rfl, hg5⟩
  have t1 : decide (pu < 0) = false := decide_eq_false (by omega)
  by_cases h2 : pu ≤ 10
  case neg =>
    have t2 : decide (10 < pu) = true := decide_eq_true (by omega)
    have t2' : 10 < pu := by omega
    clear h2
    go_enter Tryd.func3, Tryd.ntmps3
    go_wp2_with (go_at_call 9; refine (awake9_any _).mono ?_; rintro e w5 ⟨rfl, hg5⟩)
    go_ret
    exact ⟨rfl, hg5⟩
  have t2 : decide (10 < pu) = false := decide_eq_false (by omega)
  by_cases h3 : 0 ≤ da
  case neg =>
    have t3 : decide (da < 0) = true := decide_eq_true (by omega)
    have t3' : da < 0 := by omega
    clear h3
    go_enter Tryd.func3, Tryd.ntmps3
    go_wp2_with (go_at_call 9; refine (awake9_any _).mono ?_; rintro e w5 ⟨rfl, hg5⟩)
    go_ret
    exact ⟨rfl, hg5⟩
  have t3 : decide (da < 0) = false := decide_eq_false (by omega)
  by_cases h4 : da ≤ 25
  case neg =>
    have t4 : decide (25 < da) = true := decide_eq_true (by omega)
    have t4' : 25 < da := by omega
    clear h4
    go_enter Tryd.func3, Tryd.ntmps3
    go_wp2_with (go_at_call 9; refine (awake9_any _).mono ?_; rintro e w5 ⟨rfl, hg5⟩)
    go_ret
    exact ⟨rfl, hg5⟩
  have t4 : decide (25 < da) = false := decide_eq_false (by omega)
  by_cases h5 : 0 ≤ si
  case neg =>
    have t5 : decide (si < 0) = true := decide_eq_true (by omega)
    have t5' : si < 0 := by omega
    clear h5
    go_enter Tryd.func3, Tryd.ntmps3
    go_wp2_with (go_at_call 9; refine (awake9_any _).mono ?_; rintro e w5 ⟨rfl, hg5⟩)
    go_ret
    exact ⟨rfl, hg5⟩
  have t5 : decide (si < 0) = false := decide_eq_false (by omega)
  by_cases h6 : si ≤ 1100
  case neg =>
    have t6 : decide (1100 < si) = true := decide_eq_true (by omega)
    have t6' : 1100 < si := by omega
    clear h6
    go_enter Tryd.func3, Tryd.ntmps3
    go_wp2_with (go_at_call 9; refine (awake9_any _).mono ?_; rintro e w5 ⟨rfl, hg5⟩)
    go_ret
    exact ⟨rfl, hg5⟩
  have t6 : decide (1100 < si) = false := decide_eq_false (by omega)
  obtain ⟨m, rfl⟩ : ∃ n : Nat, pu = n := ⟨pu.toNat, by omega⟩
  obtain ⟨n, rfl⟩ : ∃ n : Nat, da = n := ⟨da.toNat, by omega⟩
  obtain ⟨z, rfl⟩ : ∃ n : Nat, si = n := ⟨si.toNat, by omega⟩
  have hst : LimSt w.heap.size w none 0 [] (w.alloc (.cells #[.string ByteArray.empty, .slice none 0 0] 25)) := ⟨blk_new _ _ _, ⟨OwnL.nil, fun _ h => by cases h⟩, G.new _ _, Nat.le_refl _⟩
  replace hst := Lib.hid hst
  replace hT := Lib.hid hT
  go_enter Tryd.func3, Tryd.ntmps3
  go_wp2_with fail
  clear t1 t2 t3 t4 t5 t6
  go_loopw [8] (fun i wr => ∃ (k : Nat) (Ap : Option Addr) (cp : Nat) (ms : List PutM), i = .int .i64 k ∧ k ≤ m ∧ Hid (ms.map PutM.p = putsL z n k) ∧ Hid (LimSt w.heap.size w Ap cp ms wr)) (fun i _ => m - (intOf i).toNat)
  case atStart => exact ⟨0, none, 0, [], rfl, Nat.zero_le _, rfl, hst⟩
  case round =>
    obtain ⟨wo, rfl⟩ : ∃ wo : World, wo = wr := ⟨_, rfl⟩
    clear hst
    obtain ⟨k, Ap, cp, ms, rfl, hkm, hms, hst⟩ := hrel
    by_cases hlt : k < m
    · have hlt' : (k : Int) < (m : Int) := by omega
      have hw1 : IntKind.i64.wrap (97 + (k : Int)) = 97 + (k : Int) := IntWalk.i64_in _ (by omega)
      have hcat := cat_s k
      have hb97 : ((UInt8.ofNat (97 + k)).toNat : Int) = 97 + (k : Int) := by
        rw [UInt8.toNat_ofNat']
        omega
      obtain ⟨b, hb⟩ : ∃ b, UInt8.ofNat (97 + k) = b := ⟨_, rfl⟩
      rw [hb] at hcat hb97
      have hw2 : IntKind.u8.wrap (97 + (k : Int)) = 97 + (k : Int) := by rw [IntKind.wrap_u8]; omega
      have hcv := conv_back (w := wo.alloc (.cells #[.int .u8 (97 + (k : Int))] 5)) (c := 1) (Sl.of_blk byteC_len [b] (blk_new _ _ _) (by simp only [List.flatMap_cons, List.flatMap_nil, List.append_nil, byteC, hb97]) (Nat.lt_succ_self _))
      replace hb97 := Lib.hid hb97
      replace hb := Lib.hid hb
      have hms10 : ms.length = k := by
        have := congrArg List.length hms.out
        rwa [List.length_map, putsL_len] at this
      replace hms10 := Lib.hid hms10
      simp only [List.length_singleton] at hcv
      go_upto_region 8 with fail
      clear hcv hw2 hcat hb97 hb
      generalize hwa : wo.alloc (.cells #[.int .u8 (97 + (k : Int))] 5) = wa
      have hga : G wo wa := by rw [← hwa]; exact G.new _ _
      have hza : wo.heap.size + 1 = wa.heap.size := by rw [← hwa]; simp
      clear hwa
      have hst1 := hst.out.go hga
      have hi : LimIn wa.heap.size wa (strm k) none 0 [] (wa.alloc (.cells #[.string (strm k), .int .i64 (-1), .slice none 0 0] 29)) := LimIn.begin
      replace hi := Lib.hid hi
      replace hst1 := Lib.hid hst1
      rw [hza]
      clear hst hza
      go_wp2_with fail
      go_loopw [10] (fun j wr => ∃ (j' : Nat) (Ad : Option Addr) (cd : Nat) (ds : List ByteArray), j = .int .i64 j' ∧ j' ≤ n ∧ Hid (ds = dataL z j') ∧ Hid (LimIn wa.heap.size wa (strm k) Ad cd ds wr)) (fun j _ => n - (intOf j).toNat)
      case atStart => exact ⟨0, none, 0, [], rfl, Nat.zero_le _, rfl, hi⟩
      case round =>
        clear hi
        obtain ⟨j, Ad, cd, ds, rfl, hjn, hds, hi⟩ := hrel
        have hdl : ds.length = j := by rw [hds.out, dataL_len]
        by_cases hjl : j < n
        · have hjl' : (j : Int) < (n : Int) := by omega
          have hid := hi.out.go (G.refl wr).drew
          have x2 := hid.cell
          have x2w := hi.out.cell
          have hc : Calls Tryd.prog 10 #[.int .i64 z, .int .i64 j] wr.drew fun e w' => e = .returned (.string (datum z j)) ∧ G wr.drew w' := letters_any z j wr.drew (by omega) (by omega)
          obtain ⟨ds', hds'⟩ : ∃ ds', ds ++ [datum z j] = ds' := ⟨_, rfl⟩
          have hdx : ds' = dataL z (j + 1) := by rw [← hds', hds.out, dataL_succ]
          replace hds' := Lib.hid hds'
          replace hdx := Lib.hid hdx
          replace hid := Lib.hid hid
          replace hdl := Lib.hid hdl
          go_upto_region 11 with fail
          go_region_law (first
            | (refine step_append_but str_elem _ (by kernel_rfl) (.tmp 54) (.tmp 58) rfl wa.heap.size _ ds rfl (hi5.out.row.g (G.new _ _)) (w5.heap.size + 1) (some ⟨w5.heap.size, 0, none⟩) 1 [datum z j] rfl (by intro h; cases h) (Sl.of_blk strC_len _ (blk_new _ _ _) rfl (by omega)) (by have := hdl.out; simp; omega) (by have := hdl.out; simp; omega) (by have := hi5.out.g.size; simp; omega) ?_; intro v6 w6 hown6 hk6 hb6; rw [hds'.out] at hown6; obtain ⟨A6, c6, e6, _, _, _⟩ := OwnL.sl strC_len hown6; subst e6; obtain ⟨xc, xf, hi6⟩ := (hi5.out.go (G.new _ _)).push hown6 hk6; replace hi6 := Lib.hid hi6)
            | (go_simp; go_at_call 10; refine Calls.mono hc ?_; rintro e w5 ⟨rfl, hg5⟩; have hi5 := hid.out.go hg5; have x5 := hi5.cell; have x5b := (hi5.go (G.new w5 (.cells #[.string (datum z j)] 9))).cell; replace hi5 := Lib.hid hi5))
          all_goals
            go_wp2_with fail
            go_roundw
            case rel => exact ⟨j + 1, A6, c6, ds', by go_num, by omega, hdx, hi6⟩
            case measure => (simp [intOf] <;> omega)
        · obtain rfl : j = n := by omega
          have hstw := hst1.out.go hi.out.g
          have c1 := hstw.c1
          have x0 := hi.out.c0
          have x1 := hi.out.c1
          have x2 := hi.out.cell
          obtain ⟨mm, hmm⟩ : ∃ mm : PutM, mm = ⟨strm k, -1, Ad, cd, ds⟩ := ⟨_, rfl⟩
          obtain ⟨ms', hms'⟩ : ∃ ms', ms ++ [mm] = ms' := ⟨_, rfl⟩
          have hmp : ms'.map PutM.p = putsL z j (k + 1) := by
            rw [← hms', List.map_append, hms.out, hmm, ← putsL_succ]
            unfold putL
            rw [← hds.out]
            rfl
          have hrow : OwnL 9 1 strC wr w.heap.size (.slice mm.A mm.data.length mm.c) mm.data := by
            rw [hmm]
            exact hi.out.row.mono hst1.out.g.size
          replace hmp := Lib.hid hmp
          replace hms' := Lib.hid hms'
          replace hmm := Lib.hid hmm
          replace hstw := Lib.hid hstw
          replace hrow := Lib.hid hrow
          replace hdl := Lib.hid hdl
          go_wp2_with (at_builtin; refine wpList_append_but put_elem _ rfl (.tmp 62) (.tmp 64) rfl w.heap.size _ ms rfl (hstw.out.puts.row.g (G.new _ _)) (wr.heap.size + 1) (some ⟨wr.heap.size, 0, none⟩) 1 [mm] rfl (by intro h; cases h) (Sl.of_blk PutM.cells_len _ (blk_new _ _ _) (by rw [hmm.out]; rfl) (by omega)) (by have := hms10.out; simp; omega) (by have := hms10.out; simp; omega) (by have := hstw.out.g.size; simp; omega) ?_; intro v6 w6 hown6 hk6 hb6; rw [hms'.out] at hown6; obtain ⟨A6, c6, e6, _, _, _⟩ := OwnL.sl PutM.cells_len hown6; subst e6; obtain ⟨zf, ⟨u, zc⟩, hs6⟩ := (hstw.out.go (G.new _ _)).push hms' (hrow.out.g (G.new _ _)) hown6 hk6; replace hs6 := Lib.hid hs6)
          go_roundw
          case rel => exact ⟨k + 1, A6, c6, ms', by go_num, by omega, hmp, hs6⟩
          case measure => (simp [intOf] <;> omega)
    · obtain rfl : k = m := by omega
      have hgf := hst.out.g
      have hsm := lim_small (z := z) (n := n) (m := k) (by omega) (by omega) (by omega) hms.out
      have hch : chkN ByteArray.empty (ms.map PutM.p) = wantN k n z := by rw [hms.out]; exact chk_want (by omega)
      have hck : ∀ w', G wo w' → Calls Tryd.prog 11 #[.agg #[.string ByteArray.empty, .slice Ap ms.length cp]] w' fun e w'' => e = .returned (.int .i64 (wantN k n z)) ∧ G w' w'' := fun w' h => by
        rw [← hch]
        exact check_any ByteArray.empty ms Ap cp w' (PutsIn.more (hst.out.puts.ins.g (Nat.le_refl _) h) h.size) (by decide) hsm (hT.out.g (hgf.trans h))
      have c0 := hst.out.c0
      have c1 := hst.out.c1
      obtain ⟨q, hq⟩ : ∃ q, k * n = q := ⟨_, rfl⟩
      obtain ⟨p, hp2⟩ : ∃ p, q * z = p := ⟨_, rfl⟩
      have hqb : q ≤ 250 := by rw [← hq]; exact Nat.le_trans (Nat.mul_le_mul (by omega : k ≤ 10) (by omega : n ≤ 25)) (by omega)
      have hpb : p ≤ 275000 := by rw [← hp2]; exact Nat.le_trans (Nat.mul_le_mul hqb (by omega : z ≤ 1100)) (by omega)
      have hw1 : IntKind.i64.wrap ((k : Int) * (n : Int)) = (q : Int) := by rw [← Int.natCast_mul, hq]; exact IntWalk.i64_in _ (by omega)
      have hw2 : IntKind.i64.wrap ((q : Int) * (z : Int)) = (p : Int) := by rw [← Int.natCast_mul, hp2]; exact IntWalk.i64_in _ (by omega)
      have hwn : wantN k n z = if k = 0 ∨ n = 0 then 1 else if 8 < k ∨ 20 < n ∨ 1000 < z ∨ 30000 < p then 2 else 0 := by unfold wantN; rw [hq, hp2]
      replace hck := Lib.hid hck
      replace hwn := Lib.hid hwn
      replace hsm := Lib.hid hsm
      replace hst := Lib.hid hst
      clear hq hp2 hch
      by_cases a1 : k = 0
      · have hv : wantN k n z = 1 := by rw [hwn.out, if_pos (.inl a1)]
        have t1 : ((k : Int) == 0) = true := by rw [a1]; rfl
        have hck := hck.out
        rw [hv] at hck
        replace hck := Lib.hid hck
        clear a1 hv
        go_wp2_with fail
        refine (hck.out _ (G.refl _)).mono ?_
        rintro e w5 ⟨rfl, hg5⟩
        go_wp2_with (go_at_call 9; refine (awake9_any _).mono ?_; rintro e w6 ⟨rfl, hg6⟩)
        go_ret
        exact ⟨rfl, (hgf.trans hg5).trans hg6⟩
      have t1 : ((k : Int) == 0) = false := by rw [beq_eq_false_iff_ne]; omega
      by_cases a2 : n = 0
      · have hv : wantN k n z = 1 := by rw [hwn.out, if_pos (.inr a2)]
        have t2 : ((n : Int) == 0) = true := by rw [a2]; rfl
        have hck := hck.out
        rw [hv] at hck
        replace hck := Lib.hid hck
        clear a2 hv
        go_wp2_with fail
        refine (hck.out _ (G.refl _)).mono ?_
        rintro e w5 ⟨rfl, hg5⟩
        go_wp2_with (go_at_call 9; refine (awake9_any _).mono ?_; rintro e w6 ⟨rfl, hg6⟩)
        go_ret
        exact ⟨rfl, (hgf.trans hg5).trans hg6⟩
      have t2 : ((n : Int) == 0) = false := by rw [beq_eq_false_iff_ne]; omega
      have hwn2 : wantN k n z = if 8 < k ∨ 20 < n ∨ 1000 < z ∨ 30000 < p then 2 else 0 := by rw [hwn.out, if_neg (by omega)]
      replace hwn2 := Lib.hid hwn2
      by_cases a3 : 8 < k
      · have hv : wantN k n z = 2 := by rw [hwn2.out, if_pos (.inl a3)]
        have t3 : decide (8 < (k : Int)) = true := decide_eq_true (by omega)
        have t3' : 8 < (k : Int) := by omega
        have hck := hck.out
        rw [hv] at hck
        replace hck := Lib.hid hck
        clear a3 hv
        go_wp2_with fail
        refine (hck.out _ (G.refl _)).mono ?_
        rintro e w5 ⟨rfl, hg5⟩
        go_wp2_with (go_at_call 9; refine (awake9_any _).mono ?_; rintro e w6 ⟨rfl, hg6⟩)
        go_ret
        exact ⟨rfl, (hgf.trans hg5).trans hg6⟩
      have t3 : decide (8 < (k : Int)) = false := decide_eq_false (by omega)
      by_cases a4 : 20 < n
      · have hv : wantN k n z = 2 := by rw [hwn2.out, if_pos (.inr (.inl a4))]
        have t4 : decide (20 < (n : Int)) = true := decide_eq_true (by omega)
        have t4' : 20 < (n : Int) := by omega
        have hck := hck.out
        rw [hv] at hck
        replace hck := Lib.hid hck
        clear a4 hv
        go_wp2_with fail
        refine (hck.out _ (G.refl _)).mono ?_
        rintro e w5 ⟨rfl, hg5⟩
        go_wp2_with (go_at_call 9; refine (awake9_any _).mono ?_; rintro e w6 ⟨rfl, hg6⟩)
        go_ret
        exact ⟨rfl, (hgf.trans hg5).trans hg6⟩
      have t4 : decide (20 < (n : Int)) = false := decide_eq_false (by omega)
      by_cases a5 : 1000 < z
      · have hv : wantN k n z = 2 := by rw [hwn2.out, if_pos (.inr (.inr (.inl a5)))]
        have t5 : decide (1000 < (z : Int)) = true := decide_eq_true (by omega)
        have t5' : 1000 < (z : Int) := by omega
        have hck := hck.out
        rw [hv] at hck
        replace hck := Lib.hid hck
        clear a5 hv
        go_wp2_with fail
        refine (hck.out _ (G.refl _)).mono ?_
        rintro e w5 ⟨rfl, hg5⟩
        go_wp2_with (go_at_call 9; refine (awake9_any _).mono ?_; rintro e w6 ⟨rfl, hg6⟩)
        go_ret
        exact ⟨rfl, (hgf.trans hg5).trans hg6⟩
      have t5 : decide (1000 < (z : Int)) = false := decide_eq_false (by omega)
      by_cases a6 : 30000 < p
      · have hv : wantN k n z = 2 := by rw [hwn2.out, if_pos (.inr (.inr (.inr a6)))]
        have t6 : decide (30000 < (p : Int)) = true := decide_eq_true (by omega)
        have t6' : 30000 < (p : Int) := by omega
        have hck := hck.out
        rw [hv] at hck
        replace hck := Lib.hid hck
        clear a6 hv
        go_wp2_with fail
        refine (hck.out _ (G.refl _)).mono ?_
        rintro e w5 ⟨rfl, hg5⟩
        go_wp2_with (go_at_call 9; refine (awake9_any _).mono ?_; rintro e w6 ⟨rfl, hg6⟩)
        go_ret
        exact ⟨rfl, (hgf.trans hg5).trans hg6⟩
      · have hv : wantN k n z = 0 := by rw [hwn2.out, if_neg (by omega)]
        have t6 : decide (30000 < (p : Int)) = false := decide_eq_false (by omega)
        have hck := hck.out
        rw [hv] at hck
        replace hck := Lib.hid hck
        clear hv
        go_wp2_with fail
        refine (hck.out _ (G.refl _)).mono ?_
        rintro e w5 ⟨rfl, hg5⟩
        go_wp2_with (go_at_call 9; refine (awake9_any _).mono ?_; rintro e w6 ⟨rfl, hg6⟩)
        go_ret
        exact ⟨rfl, (hgf.trans hg5).trans hg6⟩
end Go.Proofs.YtilfgafdkiaaaaaDoor
/- How texts, numbers and bools read as the laws' arguments; what the listed tables give. No condition. -/
namespace Go.Proofs.YtilfgafdkiaaaaaDoor
open Go.RowKit Go.ChangeShapes Go.WideShapes Go.Lib

/-- An int of 64 bits. -/
def I64 (n : Int) : Prop := -9223372036854775808 ≤ n ∧ n ≤ 9223372036854775807
section
variable {H : Type} {enc : TypeId × Value → H} {w : World} {base b0 : Nat} {spare : Nat → Bool} {held : Bool} {fuel : Nat} {cs : List Value} {x : DataW H × List MemPlace} {r : Reach} {v : Value} {d : DataW H} {p : List MemPlace}
theorem i64_of_wf {n : Int} (h : (Lit.int .i64 n).wf = true) : I64 n := by
  have := bounds_i64 h
  exact ⟨by omega, by omega⟩
set_option maxRecDepth 100000 in
theorem in_int (hv : Value.okWide Tryd.prog w r b0 3 v) (h : DataW.Trod enc Tryd.prog w base spare held 3 v d p) : ∃ n, v = .int .i64 n ∧ I64 n := by
  obtain ⟨n, rfl⟩ := okWide_int Tryd.underlying3 hv
  obtain ⟨fuel, hf⟩ := h
  obtain ⟨n', e, _, hn⟩ := DataW.trod_int Tryd.underlying3 hf
  simp [Value.cells] at e
  subst e
  exact ⟨n, rfl, i64_of_wf hn⟩
set_option maxRecDepth 100000 in
theorem in_str (hv : Value.okWide Tryd.prog w r b0 9 v) (h : DataW.Trod enc Tryd.prog w base spare held 9 v d p) : ∃ s, v = .string s ∧ s.size ≤ 9223372036854775807 := by
  obtain ⟨s, rfl⟩ := okWide_string Tryd.underlying9 hv
  obtain ⟨fuel, hf⟩ := h
  obtain ⟨s', e, _, hn⟩ := DataW.trod_string Tryd.underlying9 hf
  simp [Value.cells] at e
  subst e
  exact ⟨s, rfl, by simpa [maxLen] using hn⟩
set_option maxRecDepth 100000 in
theorem in_bool (hv : Value.okWide Tryd.prog w r b0 4 v) (_h : DataW.Trod enc Tryd.prog w base spare held 4 v d p) : ∃ b, v = .bool b ∧ b = b := by
  obtain ⟨b, rfl⟩ := okWide_bool Tryd.underlying4 hv
  exact ⟨b, rfl, rfl⟩
end
theorem u8Extra : U8Extra Tryd.prog Tryd.lays196_ren := ⟨by kernel_rfl, by kernel_rfl, by kernel_rfl, by kernel_rfl, by kernel_rfl, by kernel_rfl, by kernel_rfl⟩
theorem accept_eq : (Rows.laid_unicode_utf8_acceptRanges : DataW Unit) = acceptData := by kernel_rfl
/-- Where the two tables are listed they lie so. -/
theorem tabs_of_laid {w : World} (h : laidMet Tryd.prog [("unicode/utf8.acceptRanges", Rows.laid_unicode_utf8_acceptRanges), ("unicode/utf8.first", Rows.laid_unicode_utf8_first)] w) : Tabs w :=
  utf8Tabs_of_readsT (U8Types.of196 Tryd.lays196) u8Extra (Pinned.utf8First_eq ▸ Lib.laidMet.reads h (.tail _ (.head _))) (accept_eq ▸ Lib.laidMet.reads h (.head _))
end Go.Proofs.YtilfgafdkiaaaaaDoor
/- penstocklaw9.EventLimits returns true for every input and leaves it as it was; the card is tied to the program's text. No condition beyond the card's own: utf8's two tables lie as the library lays them. -/
namespace Go.Proofs.YtilfgafdkiaaaaaDoor.eventLimits
open Go.RowKit


/-! The row's step, by the guide's shell. -/
open Go.ChangeShapes Go.WideShapes Go.ChangeAt
theorem own : ownKnob Tryd.prog.godebug = none := by kernel_rfl
theorem laidOut : laidOutB Tryd.prog = true := by kernel_rfl
set_option maxRecDepth 100000 in
theorem lifted (os : Os) (started : os.Started) (H : Type) (enc : TypeId × Value → H) :
    ReturnsInHanded {} Tryd.checked os 3 .any (fun w args => (Rows.eventLimitsSpec.pre enc Tryd.prog Tryd.f3 [] false w args ∧ laidMetH Tryd.prog Rows.eventLimitsRow.laid w) ∧ sizedMet enc Tryd.prog Tryd.f3 (OpenSpec.ofChange Rows.eventLimitsSpec) false w args) (Rows.eventLimitsSpec.post enc Tryd.prog Tryd.f3 false true false false) := by
  refine returnsInHanded_of_change_and (C := Tryd.checked) (X := fun w _ => laidMetH Tryd.prog Rows.eventLimitsRow.laid w) (fun _ _ _ hh h => h.of_heap hh) own started (by kernel_rfl) Tryd.func3
    (ChangeSpec.witness_shaped (enc := enc) (C := Tryd.checked) (os := os) (X := fun w _ => laidMetH Tryd.prog Rows.eventLimitsRow.laid w) false (World.laidAll Tryd.prog os Rows.eventLimitsRow.laid) #[.int .i64 0, .int .i64 0, .int .i64 0] 8 (World.laidAll_os _ _ _)
      (World.shaped_of_ZipB (by kernel_rfl) (by kernel_rfl)) (by kernel_rfl) (by kernel_rfl) (by kernel_rfl)
      (by rw [MakeChecks.laidMetH_plain _ _ _ (by kernel_rfl)]; exact laidMet_laidAll _ (by kernel_rfl) (by kernel_rfl))) ?_
  intro W base args ds gs before hval0 hW _ _ hL _
  have hval : ∀ (j : Nat) t v, Tryd.f3.params[j]? = some t → args[j]? = some v → Value.okWide Tryd.prog W .any base t v := hval0
  have hW' := hW
  obtain ⟨p, q, hA0, hV, rfl, hfz, hnd⟩ := hW
  have hA : DataW.TrodAll enc Tryd.prog W 0 (fun _ => true) true Tryd.f3.params.toList args.toList ds p := hA0
  rw [Tryd.params3] at hA hval
  obtain ⟨v0, vs0, d0, ds0, p0, q0, hargs, rfl, rfl, h0, r0⟩ := trodAll_cons hA
  obtain ⟨v1, vs1, d1, ds1, p1, q1, rfl, rfl, rfl, h1, r1⟩ := trodAll_cons r0
  obtain ⟨v2, vs2, d2, ds2, p2, q2, rfl, rfl, rfl, h2, r2⟩ := trodAll_cons r1
  obtain ⟨rfl, rfl, rfl⟩ := trodAll_nil r2
  obtain rfl : args = #[v0, v1, v2] := by cases args; simp_all
  obtain ⟨rfl, rfl⟩ := trodVars_none hV
  have lt0 : ∀ x ∈ p0, x.block < W.heap.size := by obtain ⟨m, hm⟩ := h0; exact DataW.trod_lt m _ _ _ hm
  have lt1 : ∀ x ∈ p1, x.block < W.heap.size := by obtain ⟨m, hm⟩ := h1; exact DataW.trod_lt m _ _ _ hm
  have lt2 : ∀ x ∈ p2, x.block < W.heap.size := by obtain ⟨m, hm⟩ := h2; exact DataW.trod_lt m _ _ _ hm
  obtain ⟨pu, rfl, hp⟩ := in_int (hval 0 _ _ rfl rfl) h0
  obtain ⟨da, rfl, hd⟩ := in_int (hval 1 _ _ rfl rfl) h1
  obtain ⟨si, rfl, hs⟩ := in_int (hval 2 _ _ rfl rfl) h2
  have hT : Tabs W := tabs_of_laid (by rw [MakeChecks.laidMetH_plain _ _ _ (by kernel_rfl)] at hL; exact hL)
  clear hA0 hval0
  refine (eventLimits_walk pu da si W hp hd hs hT).mono fun e W' ⟨he, hg⟩ => ?_
  have bel : Below W.heap.size W W' := hg
  subst he
  exact ⟨_, rfl, _, _, _, [], _, [], hW', trodAll_mk1 (shut_bool Tryd.underlying4 _), (trodAll_cons_mk (Below.trod laidOut (by kernel_rfl) (of_decide_eq_true (by kernel_rfl)) h0 bel lt0) (trodAll_cons_mk (Below.trod laidOut (by kernel_rfl) (of_decide_eq_true (by kernel_rfl)) h1 bel lt1) (trodAll_cons_mk (Below.trod laidOut (by kernel_rfl) (of_decide_eq_true (by kernel_rfl)) h2 bel lt2) (trodAll_mk0)))), rfl, bel.frame _, fun h => by cases h⟩

theorem over : Rows.eventLimitsRow.holds Tryd.pinned (OpenSpec.ofChange Rows.eventLimitsSpec) :=
  OpenClaim.holds_of_wide 3 Tryd.f3 rfl rfl rfl rfl rfl rfl rfl ⟨rfl, rfl, rfl, rfl, rfl⟩ rfl rfl rfl rfl rfl (by kernel_rfl) Tryd.func3 (by kernel_rfl)
    (of_decide_eq_true (by kernel_rfl)) (by unfold Func.isWrapper; first | (rw [if_pos (by decide +kernel)]; kernel_rfl) | (rw [if_neg (by decide +kernel)]; exact ⟨rfl, rfl⟩))
    (fun os started H enc _ => lifted os started H enc)

/-- The card. -/
theorem proved : Rows.EventLimitsCardSaid :=
  Claim7.holds_tied_plain_at .later [] _ _ _ _ over (fun _ h => by cases h) (by kernel_rfl) (fun _ h => by cases h) eventLimits_row_tie rfl ⟨rfl, rfl⟩ (by kernel_rfl) rfl
    (fun f fn hf hfn => by
      obtain rfl : f = 3 := Option.some.inj ((show Tryd.prog.funcNamed "penstock/penstocklaw9.EventLimits" = some 3 by kernel_rfl).symm.trans hf) |>.symm
      obtain rfl : fn = Tryd.f3 := (Option.some.inj (Tryd.func3.symm.trans hfn)).symm
      exact ⟨by kernel_rfl, fun j t ht => by
        have hall : (Tryd.f3.params.toList.all fun u => !Tryd.prog.wantsStandIn u) = true := by kernel_rfl
        have hm : t ∈ Tryd.f3.params.toList := by simpa using Array.mem_of_getElem? ht
        exact (show Tryd.prog.wantsStandIn t = false by simpa using List.all_eq_true.1 hall t hm)⟩)
    (by kernel_rfl)
#print axioms proved
end Go.Proofs.YtilfgafdkiaaaaaDoor.eventLimits

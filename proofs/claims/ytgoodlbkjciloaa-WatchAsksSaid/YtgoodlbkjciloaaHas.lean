/- watch.Has: whether a list has a batch. Conditions: lengths and numbers so small that nothing wraps. -/
import Derived.Test.YtgoodlbkjciloaaPlace
import Derived.Test.YtgoodlbkjciloaaBut
namespace Go.Proofs.Ytgoodlbkjciloaa
open Go.RowKit

theorem hasGo_drop {l want : List Ev} {f : ByteArray → Int} {lo hi : Int} {k : Nat} {e : Ev} (h : want[k]? = some e) : hasGo l (want.drop k) f lo hi = match placeOf l e with
    | none => none
    | some p => if (p : Int) < f e.stream then none else hasGo l (want.drop (k + 1)) (upd f e.stream ((p : Int) + 1)) (min lo p) (max hi p) := by
  obtain ⟨hk, rfl⟩ := List.getElem?_eq_some_iff.1 h
  rw [List.drop_eq_getElem_cons hk]
  rfl
/-- The events that are wanted, where a map turns beside them. -/
theorem evKeep {w2 wr : World} {mb : Nat} {A : Option Addr} {want : List Ev} (hs : Sl Ev.cells 7 w2 w2.heap.size A want) (hm : w2.heap[mb]? = some (.map #[] 0)) (hb : But (fun k => k = mb) w2 wr) : Sl Ev.cells 7 wr w2.heap.size A want := fun hn => by
  obtain ⟨b, o, e, hlt, hc⟩ := hs hn
  refine ⟨b, o, e, hlt, fun k x hx j u hu => ?_⟩
  have h1 := hc k x hx j u hu
  have hne : b ≠ mb := by
    rintro rfl
    simp [World.cell?, hm] at h1
  exact (hb.cell hlt hne).trans h1
theorem makeFrom_len (firsts : List Int) (st : St) : ∀ (ps : List PutM) (i : Nat) (ix : Int), (makeFrom firsts st i ix ps).length = evCount ps
  | [], _, _ => rfl
  | p :: l, i, ix => by
    unfold makeFrom evCount
    rw [List.length_append, makePut_length, makeFrom_len, List.map_cons, List.sum_cons]
    rfl
theorem spanB_false {l : List Ev} {lo hi : Int} {st : St} {k : Nat} {e : Ev} (hk : l[k]? = some e) (h1 : lo ≤ k) (h2 : (k : Int) ≤ hi) (hne : e.st ≠ st) : spanB l lo hi st = false := by
  unfold spanB
  rw [List.all_eq_false]
  refine ⟨k, List.mem_range.2 (List.getElem?_eq_some_iff.1 hk).1, ?_⟩
  rw [if_pos ⟨h1, h2⟩, hk]
  simpa using hne
theorem spanB_true {l : List Ev} {lo hi : Int} {st : St} (h : ∀ (k : Nat) e, lo ≤ k → (k : Int) ≤ hi → l[k]? = some e → e.st = st) : spanB l lo hi st = true := by
  unfold spanB
  rw [List.all_eq_true]
  intro k hk
  have hk := List.mem_range.1 hk
  split
  · rename_i hr
    rw [List.getElem?_eq_getElem hk]
    simp only
    exact decide_eq_true (h k _ hr.1 hr.2 (List.getElem?_eq_getElem hk))
  · rfl
set_option maxHeartbeats 4000000 in
theorem has_any (es : List Ev) (Ae : Option Addr) (ce : Nat) (key : ByteArray) (ps : List PutM) (A Af : Option Addr) (c cf : Nat) (fs : List Int) (x y z rc k0 k1 k2 k3 rn : Int) (k4 : ByteArray) (ve vr : Value) (w : World)
    (hse : Sl Ev.cells 7 w w.heap.size Ae es) (hle : es.length ≤ 1099511627776) (hl : ps.length ≤ 9223372036854775807) (hl2 : fs.length ≤ 9223372036854775807) (hn : evCount ps ≤ 1099511627776) (hst : ∀ p ∈ ps, p.stream.size ≤ 9223372036854775807)
    (hf : ∀ f ∈ fs, -1099511627776 ≤ f ∧ f ≤ 1099511627776) (hs : PutsIn w w.heap.size A ps) (hs2 : Sl intC 1 w w.heap.size Af fs) :
    Calls Try.prog 8 #[.slice Ae es.length ce, .agg #[.string key, .slice A ps.length c], .agg #[.int .i64 rc, .int .i64 x, .int .i64 y, .int .i64 z, .slice Af fs.length cf, ve, .int .i64 k0, .int .i64 k1, .int .i64 k2, .int .i64 k3, .string k4, vr, .int .i64 rn]] w
      fun e w' => e = .returned (.bool (hasB es (makeFrom fs ⟨x, y, z⟩ 0 0 ps) ⟨x, y, z⟩)) ∧ G w w' := by
  have hmm := @run_makeMap Try.prog
  have hnq := @st_neq
  obtain ⟨want, hwant⟩ : ∃ want, makeFrom fs ⟨x, y, z⟩ 0 0 ps = want := ⟨_, rfl⟩
  rw [hwant]
  go_enter Try.func8, Try.ntmps8
  go_upto_region 1 with fail
  generalize hW0 : (w.alloc (.cells #[.string key, .slice A ps.length c] 24)).alloc (.cells #[.int .i64 rc, .int .i64 x, .int .i64 y, .int .i64 z, .slice Af fs.length cf, ve, .int .i64 k0, .int .i64 k1, .int .i64 k2, .int .i64 k3, .string k4, vr, .int .i64 rn] 42) = W0
  have hz : w.heap.size + 1 < W0.heap.size := by rw [← hW0]; simp
  have hG0 : G w W0 := by rw [← hW0]; exact (G.new _ _).alloc _
  have r0 : W0.cell? ⟨w.heap.size, 0, none⟩ = some (.string key) := by rw [← hW0]; simp
  have r1 : W0.cell? ⟨w.heap.size, 1, none⟩ = some (.slice A ps.length c) := by rw [← hW0]; simp
  have r2 : W0.cell? ⟨w.heap.size + 1, 0, none⟩ = some (.int .i64 rc) := by rw [← hW0]; simp
  have r3 : W0.cell? ⟨w.heap.size + 1, 1, none⟩ = some (.int .i64 x) := by rw [← hW0]; simp
  have r4 : W0.cell? ⟨w.heap.size + 1, 2, none⟩ = some (.int .i64 y) := by rw [← hW0]; simp
  have r5 : W0.cell? ⟨w.heap.size + 1, 3, none⟩ = some (.int .i64 z) := by rw [← hW0]; simp
  have r6 : W0.cell? ⟨w.heap.size + 1, 4, none⟩ = some (.slice Af fs.length cf) := by rw [← hW0]; simp
  have r7 : W0.cell? ⟨w.heap.size + 1, 5, none⟩ = some (ve) := by rw [← hW0]; simp
  have r8 : W0.cell? ⟨w.heap.size + 1, 6, none⟩ = some (.int .i64 k0) := by rw [← hW0]; simp
  have r9 : W0.cell? ⟨w.heap.size + 1, 7, none⟩ = some (.int .i64 k1) := by rw [← hW0]; simp
  have r10 : W0.cell? ⟨w.heap.size + 1, 8, none⟩ = some (.int .i64 k2) := by rw [← hW0]; simp
  have r11 : W0.cell? ⟨w.heap.size + 1, 9, none⟩ = some (.int .i64 k3) := by rw [← hW0]; simp
  have r12 : W0.cell? ⟨w.heap.size + 1, 10, none⟩ = some (.string k4) := by rw [← hW0]; simp
  have r13 : W0.cell? ⟨w.heap.size + 1, 11, none⟩ = some (vr) := by rw [← hW0]; simp
  have r14 : W0.cell? ⟨w.heap.size + 1, 12, none⟩ = some (.int .i64 rn) := by rw [← hW0]; simp
  clear hW0
  have q0 : ∀ w', G W0 w' → w'.cell? ⟨w.heap.size, 0, none⟩ = some (.string key) := fun w' h => (h.cell (by omega)).trans r0
  have q1 : ∀ w', G W0 w' → w'.cell? ⟨w.heap.size, 1, none⟩ = some (.slice A ps.length c) := fun w' h => (h.cell (by omega)).trans r1
  have q2 : ∀ w', G W0 w' → w'.cell? ⟨w.heap.size + 1, 0, none⟩ = some (.int .i64 rc) := fun w' h => (h.cell (by omega)).trans r2
  have q3 : ∀ w', G W0 w' → w'.cell? ⟨w.heap.size + 1, 1, none⟩ = some (.int .i64 x) := fun w' h => (h.cell (by omega)).trans r3
  have q4 : ∀ w', G W0 w' → w'.cell? ⟨w.heap.size + 1, 2, none⟩ = some (.int .i64 y) := fun w' h => (h.cell (by omega)).trans r4
  have q5 : ∀ w', G W0 w' → w'.cell? ⟨w.heap.size + 1, 3, none⟩ = some (.int .i64 z) := fun w' h => (h.cell (by omega)).trans r5
  have q6 : ∀ w', G W0 w' → w'.cell? ⟨w.heap.size + 1, 4, none⟩ = some (.slice Af fs.length cf) := fun w' h => (h.cell (by omega)).trans r6
  have q7 : ∀ w', G W0 w' → w'.cell? ⟨w.heap.size + 1, 5, none⟩ = some (ve) := fun w' h => (h.cell (by omega)).trans r7
  have q8 : ∀ w', G W0 w' → w'.cell? ⟨w.heap.size + 1, 6, none⟩ = some (.int .i64 k0) := fun w' h => (h.cell (by omega)).trans r8
  have q9 : ∀ w', G W0 w' → w'.cell? ⟨w.heap.size + 1, 7, none⟩ = some (.int .i64 k1) := fun w' h => (h.cell (by omega)).trans r9
  have q10 : ∀ w', G W0 w' → w'.cell? ⟨w.heap.size + 1, 8, none⟩ = some (.int .i64 k2) := fun w' h => (h.cell (by omega)).trans r10
  have q11 : ∀ w', G W0 w' → w'.cell? ⟨w.heap.size + 1, 9, none⟩ = some (.int .i64 k3) := fun w' h => (h.cell (by omega)).trans r11
  have q12 : ∀ w', G W0 w' → w'.cell? ⟨w.heap.size + 1, 10, none⟩ = some (.string k4) := fun w' h => (h.cell (by omega)).trans r12
  have q13 : ∀ w', G W0 w' → w'.cell? ⟨w.heap.size + 1, 11, none⟩ = some (vr) := fun w' h => (h.cell (by omega)).trans r13
  have q14 : ∀ w', G W0 w' → w'.cell? ⟨w.heap.size + 1, 12, none⟩ = some (.int .i64 rn) := fun w' h => (h.cell (by omega)).trans r14
  clear r0 r1 r2 r3 r4 r5 r6 r7 r8 r9 r10 r11 r12 r13 r14
  have hmap := MapIs.made W0
  have hg1 := G.new W0 (.map #[] 0)
  have hG1 := hG0.trans hg1
  have hmk := make_any key ps A Af c cf w.heap.size fs ⟨x, y, z⟩ 0 (W0.alloc (.map #[] 0)) hG1.size hl hl2 hn hf (by omega) (hs.g (Nat.le_refl _) hG1) (hs2.g (Nat.le_refl _) hG1)
  have g0 := q0 _ hg1
  have g1 := q1 _ hg1
  have g3 := q3 _ hg1
  have g4 := q4 _ hg1
  have g5 := q5 _ hg1
  have g6 := q6 _ hg1
  have hws : ∀ e ∈ want, e.stream.size ≤ 9223372036854775807 := fun e he => by
    rw [← hwant] at he
    obtain ⟨p, hp, h1⟩ := (makeFrom_mem he).1
    rw [h1]
    exact hst p hp
  rw [hwant] at hmk
  replace hwant := Lib.hid hwant
  replace hws := Lib.hid hws
  replace hnq := Lib.hid hnq
  go_wp2_with fail
  refine hmk.mono ?_
  clear hmk
  rintro e w2 ⟨v3, rfl, hown3, hg3⟩
  obtain ⟨A3, c3, rfl, hsl3⟩ := Own.sl hown3
  have hmap2 := hmap.g hg3
  have hmb := hg3.blk (heap_alloc_new W0 (.map #[] 0))
  have hg02 := hg1.trans hg3
  have hlw : want.length ≤ 1099511627776 := by
    have h := hwant.out
    rw [← h]
    exact Nat.le_trans (Nat.le_of_eq (makeFrom_len _ _ _ _ _)) hn
  replace hsl3 := Lib.hid hsl3
  clear hown3 g0 g1 g3 g4 g5 g6 hmm hmap
  go_wp2_with fail
  go_loopw [8, 9, 24] (fun lo hi i wr => ∃ (k : Nat) (lov hiv : Int) (g : ByteArray → Int), lo = .int .i64 lov ∧ hi = .int .i64 hiv ∧ i = .int .i64 k ∧ k ≤ want.length ∧ (0 ≤ lov ∧ lov ≤ es.length ∧ -1 ≤ hiv ∧ hiv < es.length ∨ es.length = lov ∧ hiv = -1) ∧ Hid (hasGo es want (fun _ => 0) es.length (-1) = hasGo es (want.drop k) g lov hiv) ∧ Hid (MapIs wr W0.heap.size k g) ∧ Hid (∀ s, 0 ≤ g s ∧ g s ≤ es.length) ∧ Hid (But (fun k => k = W0.heap.size) w2 wr)) (fun _ _ i _ => want.length - (intOf i).toNat)
  case atStart => exact ⟨0, es.length, -1, _, rfl, rfl, rfl, Nat.zero_le _, .inr ⟨rfl, rfl⟩, by simp [Hid], hmap2, fun s => ⟨by omega, by omega⟩, But.refl _ _⟩
  case round =>
    obtain ⟨wo, rfl⟩ : ∃ wo : World, wo = wr := ⟨_, rfl⟩
    obtain ⟨k, lov, hiv, g, rfl, rfl, rfl, hkl, hlh, hh, hm, hgb, hbt⟩ := hrel
    have hgr : G W0 wo := ((But.of_g (S := fun k => k = W0.heap.size) hg02).trans hbt.out).below (Nat.le_refl _) (fun k _ hk => by omega)
    have hg := hG0.trans hgr
    by_cases hlt : k < want.length
    · obtain ⟨⟨s1, v1, d1, ⟨a1, b1, c1⟩, i1⟩, hx⟩ : ∃ x, want[k]? = some x := ⟨_, List.getElem?_eq_getElem hlt⟩
      have hsz := hws.out _ (List.mem_of_getElem? hx)
      obtain ⟨b, o, rfl, hb, e0, e1, e2, e3, e4, e5, e6⟩ := (evKeep hsl3.out hmb hbt.out).ev hx
      have hgo := hasGo_drop (l := es) (f := g) (lo := lov) (hi := hiv) hx
      have hbx := blk_new wo #[.string s1, .int .i64 v1, .string d1, .int .i64 a1, .int .i64 b1, .int .i64 c1, .int .i64 i1] 35
      have hgn := G.new wo (.cells #[.string s1, .int .i64 v1, .string d1, .int .i64 a1, .int .i64 b1, .int .i64 c1, .int .i64 i1] 35)
      have hgx := hg.trans hgn
      have hpl := place_any es ⟨s1, v1, d1, ⟨a1, b1, c1⟩, i1⟩ Ae ce w.heap.size (wo.alloc (.cells #[.string s1, .int .i64 v1, .string d1, .int .i64 a1, .int .i64 b1, .int .i64 c1, .int .i64 i1] 35)) hgx.size (hse.g (Nat.le_refl _) hgx) (by omega)
      unfold Ev.cells at hpl
      have hmu := hm.out.g hgn
      have n1 : (0 : Int) ≤ (k : Int) := by omega
      have n2 : (k : Int) < (want.length : Int) := by omega
      dsimp only at hsz e0 e1 e2 e3 e4 e5 e6
      cases hp : placeOf es ⟨s1, v1, d1, ⟨a1, b1, c1⟩, i1⟩ with
      | none =>
        have hpi : placeI es ⟨s1, v1, d1, ⟨a1, b1, c1⟩, i1⟩ = -1 := by unfold placeI; rw [hp]
        have hfin : hasB es want ⟨x, y, z⟩ = false := by unfold hasB; rw [hh.out, hgo, hp]
        rw [hpi] at hpl
        replace hfin := Lib.hid hfin
        replace hx := Lib.hid hx
        replace hmu := Lib.hid hmu
        replace hbx := Lib.hid hbx
        clear hgo hp hpi
        go_wp2_with fail
        refine hpl.mono ?_
        clear hpl
        rintro e u ⟨rfl, hgu⟩
        go_wp2_with fail
        go_ret
        exact ⟨by rw [hfin.out]; rfl, hgx.trans hgu⟩
      | some p =>
        have hpi : placeI es ⟨s1, v1, d1, ⟨a1, b1, c1⟩, i1⟩ = p := by unfold placeI; rw [hp]
        have hplt := placeOf_lt hp
        rw [hpi] at hpl
        rw [hp] at hgo
        simp only at hgo
        have t1 : decide ((p : Int) < 0) = false := decide_eq_false (by omega)
        have t1' : ¬ (p : Int) < 0 := by omega
        obtain ⟨hg0', hg1'⟩ := hgb.out s1
        clear hp hpi
        by_cases hlow : (p : Int) < g s1
        · have hfin : hasB es want ⟨x, y, z⟩ = false := by unfold hasB; rw [hh.out, hgo, if_pos hlow]
          have t2 : decide ((p : Int) < g s1) = true := decide_eq_true hlow
          replace hfin := Lib.hid hfin
          replace hx := Lib.hid hx
          replace hmu := Lib.hid hmu
          replace hbx := Lib.hid hbx
          clear hgo
          go_wp2_with fail
          refine hpl.mono ?_
          clear hpl
          rintro e u ⟨rfl, hgu⟩
          have hlk := (hmu.out.g hgu).look s1 hsz
          have x0 := (blk_cell (hgu.blk hbx.out) 0).trans (show _ = some (.string s1) from rfl)
          go_wp2_with fail
          go_ret
          exact ⟨by rw [hfin.out]; rfl, hgx.trans hgu⟩
        · rw [if_neg hlow] at hgo
          have t2 : decide ((p : Int) < g s1) = false := decide_eq_false hlow
          replace hx := Lib.hid hx
          replace hmu := Lib.hid hmu
          replace hbx := Lib.hid hbx
          replace hgo := Lib.hid hgo
          go_wp2_with fail
          refine hpl.mono ?_
          clear hpl
          rintro e u ⟨rfl, hgu⟩
          have hlk := (hmu.out.g hgu).look s1 hsz
          have hmu2 := Lib.hid (hmu.out.g hgu)
          have x0 := (blk_cell (hgu.blk hbx.out) 0).trans (show _ = some (.string s1) from rfl)
          go_wp2_with (at_mapUpdate; refine wpList_map_put _ rfl (.tmp 41) (.tmp 43) (.tmp 45) rfl W0.heap.size k g rfl hmu2.out (by omega) s1 rfl hsz ((p : Int) + 1) rfl (wf_i64 (by omega) (by omega)) ?_; intro u2 hm2 hgr2; replace hm2 := Lib.hid hm2; have hbt2 := Lib.hid ((hbt.out.trans (.of_g (hgn.trans hgu))).trans (But.of_grown hgr2 (fun k hk => by cases hk; rfl))))
          go_roundw
          case rel => exact ⟨k + 1, min lov p, max hiv p, upd g s1 ((p : Int) + 1), by go_num, by go_num, by go_num, by omega, by omega, by unfold Hid; rw [hh.out, hgo.out], hm2, fun s => by
            obtain ⟨h1, h2⟩ := hgb.out s
            by_cases ht : s = s1
            · rw [ht, upd_same]; omega
            · rw [upd_other _ _ ht]; omega, hbt2⟩
          case measure => (simp [intOf] <;> omega)
    · have hfin : hasB es want ⟨x, y, z⟩ = spanB es lov hiv ⟨x, y, z⟩ := by unfold hasB; rw [hh.out, List.drop_eq_nil_of_le (by omega)]; rfl
      replace hfin := Lib.hid hfin
      clear hh hm hgb
      go_wp2_with fail
      go_loopw [13] (fun i wr => ∃ q : Int, i = .int .i64 q ∧ lov ≤ q ∧ (q ≤ hiv + 1 ∨ q = lov) ∧ Hid (∀ (j : Nat) e, lov ≤ j → (j : Int) < q → es[j]? = some e → e.st = ⟨x, y, z⟩) ∧ G wo wr) (fun i _ => (hiv + 1 - intOf i).toNat)
      case atStart => exact ⟨lov, rfl, Int.le_refl _, .inr rfl, fun j e h1 h2 => by omega, G.refl _⟩
      case round =>
        obtain ⟨q, rfl, hq1, hq2, hall, hgw⟩ := hrel
        have hgt := hg.trans hgw
        have hgw0 := hgr.trans hgw
        by_cases hq : q ≤ hiv
        · obtain ⟨j, rfl⟩ : ∃ j : Nat, q = j := ⟨q.toNat, by omega⟩
          have hj : j < es.length := by omega
          obtain ⟨⟨s1, v1, d1, ⟨a1, b1, c1⟩, i1⟩, hx⟩ : ∃ x, es[j]? = some x := ⟨_, List.getElem?_eq_getElem hj⟩
          obtain ⟨b, o, rfl, hb, _, _, _, e3, e4, e5, _⟩ := (hse.g (Nat.le_refl _) hgt).ev hx
          have g3 := q3 _ hgw0
          have g4 := q4 _ hgw0
          have g5 := q5 _ hgw0
          have n1 : (0 : Int) ≤ (j : Int) := by omega
          have n2 : (j : Int) < (es.length : Int) := by omega
          have hnq := hnq.out
          dsimp only at e3 e4 e5
          by_cases hs : (⟨a1, b1, c1⟩ : St) = ⟨x, y, z⟩
          · have t1 : stB ⟨a1, b1, c1⟩ ⟨x, y, z⟩ = true := decide_eq_true hs
            have hall2 : ∀ (i : Nat) e, lov ≤ i → (i : Int) < ((j : Int) + 1) → es[i]? = some e → e.st = ⟨x, y, z⟩ := fun i e h1 h2 h3 => by
              rcases Nat.lt_or_ge i j with h | h
              · exact hall.out i e h1 (by omega) h3
              · obtain rfl : i = j := by omega
                rw [hx] at h3
                cases h3
                exact hs
            replace hall2 := Lib.hid hall2
            replace hx := Lib.hid hx
            clear hs hall
            go_upto_region 15 with fail
            go_quiet (fail)
            clear hnq
            go_wp2_with fail
            go_roundw
            case rel => exact ⟨(j : Int) + 1, by go_num, by omega, by omega, hall2, by first | exact hgw | exact hgw.drew | exact hgw.drewN _⟩
            case measure => (simp [intOf] <;> omega)
          · have t1 : stB ⟨a1, b1, c1⟩ ⟨x, y, z⟩ = false := decide_eq_false hs
            have hsp : spanB es lov hiv ⟨x, y, z⟩ = false := spanB_false hx hq1 hq hs
            replace hsp := Lib.hid hsp
            replace hx := Lib.hid hx
            clear hs hall
            go_upto_region 15 with fail
            go_quiet (fail)
            clear hnq
            go_wp2_with fail
            go_ret
            exact ⟨by rw [hfin.out, hsp.out]; rfl, by first | exact hgt | exact hgt.drew | exact hgt.drewN _⟩
        · have hsp : spanB es lov hiv ⟨x, y, z⟩ = true := spanB_true fun k e h1 h2 h3 => hall.out k e h1 (by omega) h3
          replace hsp := Lib.hid hsp
          clear hall
          go_wp2_with fail
          go_ret
          exact ⟨by rw [hfin.out, hsp.out]; rfl, hgt⟩
end Go.Proofs.Ytgoodlbkjciloaa

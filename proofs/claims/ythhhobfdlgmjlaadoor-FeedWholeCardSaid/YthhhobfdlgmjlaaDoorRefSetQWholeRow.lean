/- penstockref1.set: a pattern's set, behind its bracket. Condition: at most 2^20 runes. -/
import Derived.Test.YthhhobfdlgmjlaaDoorPatLaw
import Derived.Test.YthhhobfdlgmjlaaDoorGlobReadQWholeRow
import Derived.Test.YthhhobfdlgmjlaaDoorM44WholeRow
import Derived.Test.YthhhobfdlgmjlaaDoorM29WholeRow
namespace Go.Proofs.YthhhobfdlgmjlaaDoor
open Go.RowKit

theorem results_ctp {P : Program} {fn : Func} {tmps : Array Value} {W : World} {i j b : Nat} {cs : Array Value} {v : Value} {t T : TypeId} {fz : Nat × Nat} {d : TypeDesc} (hr : fn.results = #[.cell i T, .tmp j]) (hp : tmps.getD i undef = .pointer (some ⟨b, 0, none⟩)) (hv : tmps.getD j undef = v) (h : W.heap[b]? = some (.cells cs t fz)) (hu : P.underlying T = some d) (hd : d.isRow = true) (hi : (P.info? T).map (·.size) = some cs.size) :
    (results fn tmps).run P W = .ok (.tuple #[.agg cs, v]) W := by
  have h2 := run_loadVar_mid (P := P) W b 0 T cs.toList d (fun j v hv => by rw [Nat.zero_add, blk_cell h]; simpa using hv) hu hd (by simpa using hi)
  have h3 : (asAddr (tmps.getD i undef)).run P W = .ok ⟨b, 0, none⟩ W := by rw [hp]; rfl
  unfold results
  rw [hr]
  simp only [List.mapM_toArray, List.mapM_cons, List.mapM_nil, Sem.run_bind, Sem.run_pure, Functor.map, hv]
  have h5 : ∀ (m : Sem (List Value)) (w1 : World), (m.bind (Sem.pure ∘ List.toArray)).run P w1 = (m.run P w1).andThen fun a w' => .ok a.toArray w' := fun m w1 => by
    show (m >>= fun a => pure a.toArray).run P w1 = _
    simp only [Sem.run_bind, Sem.run_pure]
  rw [h5]
  simp only [Sem.run_bind, Sem.run_pure, Result.andThen_ok, h3, h2]
  rfl
theorem blkSet {w : World} {g : Nat} {cur : Array Value} {t : TypeId} (h : w.heap[g]? = some (.cells cur t (0, 0))) (i : Nat) (u : Value) : (w.setCell ⟨g, i, none⟩ u).heap[g]? = some (.cells (cur.setIfInBounds i u) t (0, 0)) := by
  rw [setCell_eq_setRow w g i cur t (0, 0) u h]
  exact setRow_heap w g cur _ t _ h
theorem blkFree {w : World} {g : Nat} {cs : Array Value} {t : TypeId} (h : w.heap[g]? = some (.cells cs t (0, 0))) (i : Nat) : w.frozen? ⟨g, i, none⟩ = false := by simp [World.frozen?, h]
/-- Runes as the document lays them: the first cell of each. -/
def RuAt (w : World) (B : Nat) (A : Option Addr) (rs : List Nat) : Prop := rs ≠ [] → ∃ b o, A = some ⟨b, o, none⟩ ∧ b < B ∧ ∀ (k r : Nat), rs[k]? = some r → w.cell? ⟨b, o + k * 4, none⟩ = some (.int .i32 (r : Int))
theorem RuAt.g {w w' : World} {B : Nat} {A : Option Addr} {rs : List Nat} (h : RuAt w B A rs) (hB : B ≤ w.heap.size) (hg : G w w') : RuAt w' B A rs := fun hn => by
  obtain ⟨b, o, e, hb, hc⟩ := h hn
  exact ⟨b, o, e, hb, fun k r hr => (hg.cell (by omega)).trans (hc k r hr)⟩
theorem RuAt.at_ {w : World} {B : Nat} {A : Option Addr} {rs : List Nat} {k r : Nat} (h : RuAt w B A rs) (hr : rs[k]? = some r) : ∃ b o, A = some ⟨b, o, none⟩ ∧ b < B ∧ w.cell? ⟨b, o + k * 4, none⟩ = some (.int .i32 r) := by
  obtain ⟨b, o, e, hb, hc⟩ := h (by rintro rfl; simp at hr)
  exact ⟨b, o, e, hb, hc k r hr⟩
/-- What set answers. -/
def SetRPost (rs : List Nat) (w : World) (e : Ending) (w' : World) : Prop :=
  ∃ (no : Bool) (S : List (Nat × Nat)) (LA : Option Addr) (lc : Nat) (HA : Option Addr) (hc : Nat) (n : Int), e = .returned (.tuple #[.agg #[.bool false, .bool no, .slice LA S.length lc, .slice HA S.length hc], .int .i64 n]) ∧
    ((∃ m : Nat, n = m ∧ 0 < m ∧ m ≤ rs.length ∧ setS rs false = (⟨3, 0, S, no⟩, rs.drop m, false)) ∨ (n = -1 ∧ (setS rs false).2.2 = true)) ∧
    OwnL 21 1 runeC w' w.heap.size (.slice LA S.length lc) (S.map (·.1)) ∧ OwnL 21 1 runeC w' w.heap.size (.slice HA S.length hc) (S.map (·.2)) ∧ G w w'
theorem drop_one {rs : List Nat} {k r : Nat} (h : rs[k]? = some r) : rs.drop k = r :: rs.drop (k + 1) := by
  obtain ⟨hk, rfl⟩ := List.getElem?_eq_some_iff.1 h
  exact List.drop_eq_getElem_cons hk
theorem isC_drop (c on : Nat) (rs : List Nat) (k : Nat) : isC c on (rs.drop k) = isC c (k + on) rs := by unfold isC; rw [List.getElem?_drop]
theorem isC_at {c k r : Nat} {rs : List Nat} (h : rs[k]? = some r) : isC c k rs = decide (r = c) := by
  unfold isC
  rw [h]
  simp
theorem isC_over {c k : Nat} {rs : List Nat} (h : rs.length ≤ k) : isC c k rs = false := by
  unfold isC
  rw [List.getElem?_eq_none h]
  simp
/-- How the round over a set stands: on its way, or at a dash that ends it badly. -/
def SetAt (rs : List Nat) (S : List (Nat × Nat)) (k : Nat) : Prop := setG [] (setTl rs) = setG S (rs.drop k) ∨ ((setG [] (setTl rs)).2.2 = true ∧ rs.length = k + 1 ∧ rs[k]? = some 45 ∧ S ≠ [])
theorem isEmpty_ne {S : List (Nat × Nat)} (h : S ≠ []) : S.isEmpty = false := by cases S with | nil => exact absurd rfl h | cons a b => rfl
/-- One span more. -/
theorem SetAt.step {rs : List Nat} {S : List (Nat × Nat)} {k m : Nat} {s : Nat × Nat} (h : setG [] (setTl rs) = setG S (rs.drop k)) (h93 : isC 93 k rs = false) (hs : spanS S.isEmpty (rs.drop k) false = (s, rs.drop m, false)) : SetAt rs (S ++ [s]) m :=
  .inl (by rw [h]; exact setG_step (by rw [isC_drop]; exact h93) hs)
theorem SetAt.bad {rs : List Nat} {S : List (Nat × Nat)} {k : Nat} (h : setG [] (setTl rs) = setG S (rs.drop k)) (h93 : isC 93 k rs = false) (hs : (spanS S.isEmpty (rs.drop k) false).2.2 = true) : (setS rs false).2.2 = true := by
  refine setS_bad ?_
  rw [h]
  exact setG_bad (by rw [isC_drop]; exact h93) hs
theorem SetAt.over {rs : List Nat} {S : List (Nat × Nat)} {k : Nat} (h : setG [] (setTl rs) = setG S (rs.drop k)) (hk : rs.length ≤ k) : (setS rs false).2.2 = true := by
  refine setS_bad ?_
  rw [h, List.drop_of_length_le hk]
  exact setG_nil _
theorem SetAt.empty {rs : List Nat} {k : Nat} (h : setG [] (setTl rs) = setG [] (rs.drop k)) (hr : rs[k]? = some 93) : (setS rs false).2.2 = true := by
  rw [drop_one hr, setG_end] at h
  exact setS_none h
theorem SetAt.done {rs : List Nat} {S : List (Nat × Nat)} {k : Nat} (h : setG [] (setTl rs) = setG S (rs.drop k)) (hr : rs[k]? = some 93) (hS : S ≠ []) : setS rs false = (⟨3, 0, S, isC 94 0 rs⟩, rs.drop (k + 1), false) := by
  rw [drop_one hr, setG_end] at h
  exact setS_ok h hS
theorem SetAt.badG {rs : List Nat} {S : List (Nat × Nat)} {k : Nat} (h : setG [] (setTl rs) = setG S (rs.drop k)) (h93 : isC 93 k rs = false) (hs : (spanS S.isEmpty (rs.drop k) false).2.2 = true) : (setG [] (setTl rs)).2.2 = true := by
  rw [h]
  exact setG_bad (by rw [isC_drop]; exact h93) hs
/-- The unit at a place: itself, or behind a backslash; a dash. -/
theorem unit_plain {rs : List Nat} {k r : Nat} {e : Bool} (hr : rs[k]? = some r) (h92 : r ≠ 92) (h45 : r = 45 → e = true ∨ isC 93 (k + 1) rs = true) : unitS e (rs.drop k) false = (r, rs.drop (k + 1), false) := by
  rw [drop_one hr, unitS_one e _ h92]
  have : (decide (r = 45) && (!e && !isC 93 0 (rs.drop (k + 1)))) = false := by
    by_cases h : r = 45
    · rw [isC_drop]
      rcases h45 h with h1 | h1
      · rw [h1]; simp
      · rw [Nat.add_zero, h1]; simp
    · simp [h]
  rw [this]
theorem unit_dash {rs : List Nat} {k : Nat} {e : Bool} (hr : rs[k]? = some 45) (he : e = false) (hn : isC 93 (k + 1) rs = false) : (unitS e (rs.drop k) false).2.2 = true := by
  rw [drop_one hr, unitS_one e _ (by omega), isC_drop, Nat.add_zero, hn, he]
  rfl
theorem unit_back {rs : List Nat} {k r : Nat} {e : Bool} (hr : rs[k]? = some 92) (hr2 : rs[k + 1]? = some r) : unitS e (rs.drop k) false = (r, rs.drop (k + 1 + 1), false) := by
  rw [drop_one hr, drop_one hr2]
  exact unitS_back e r _
theorem unit_back_nil {rs : List Nat} {k : Nat} {e : Bool} (hr : rs[k]? = some 92) (hk : rs.length ≤ k + 1) : (unitS e (rs.drop k) false).2.2 = true := by
  rw [drop_one hr, List.drop_of_length_le hk]
  exact unitS_back_nil e
/-- One rune alone. -/
theorem span_plain {rs : List Nat} {k m r : Nat} {e : Bool} (hu : unitS e (rs.drop k) false = (r, rs.drop m, false)) (hn : ¬ (isC 45 m rs = true ∧ isC 93 (m + 1) rs = false)) : spanS e (rs.drop k) false = ((r, r), rs.drop m, false) :=
  spanS_one hu (by rw [isC_drop, isC_drop]; exact hn)
/-- From one to another. -/
theorem span_pair {rs : List Nat} {k m n r h : Nat} {e : Bool} (hu : unitS e (rs.drop k) false = (r, rs.drop m, false)) (hd : rs[m]? = some 45) (h93 : isC 93 (m + 1) rs = false) (hf : unitS true (rs.drop (m + 1)) false = (h, rs.drop n, false)) : spanS e (rs.drop k) false = ((r, h), rs.drop n, decide (h < r)) := by
  rw [drop_one hd] at hu
  exact spanS_two hu (by rw [← drop_one hd, isC_drop]; exact h93) hf
theorem span_pair_bad {rs : List Nat} {k m r : Nat} {e : Bool} (hu : unitS e (rs.drop k) false = (r, rs.drop m, false)) (hd : rs[m]? = some 45) (h93 : isC 93 (m + 1) rs = false) (hf : (unitS true (rs.drop (m + 1)) false).2.2 = true) : (spanS e (rs.drop k) false).2.2 = true := by
  rw [drop_one hd] at hu
  exact spanS_bad2 hu (by rw [← drop_one hd, isC_drop]; exact h93) hf
theorem sepN {u : Value} : ∀ k, (Value.slice none 0 0).ownBlock = some k → u.ownBlock ≠ some k := fun _ h => by cases h
theorem own_ne {w : World} {base k : Nat} {v : Value} {xs : List Nat} {cs : Array Value} {t : TypeId} (h : OwnL 21 1 runeC w base v xs) (hk : v.ownBlock = some k) (hC : w.heap[k]? = some (.cells cs t (0, 0))) (hne : 21 ≠ t) : False := by
  obtain ⟨_, _, cs', h3⟩ := h.blk hk
  rw [hC] at h3
  simp only [Option.some.injEq, Obj.cells.injEq] at h3
  exact hne h3.2.1.symm
set_option maxRecDepth 100000 in
set_option maxHeartbeats 16000000 in
theorem refSet_any (rs : List Nat) (A : Option Addr) (c B : Nat) (w : World) (hB : B ≤ w.heap.size) (hl : rs.length ≤ 1048576) (hs : RuAt w B A rs) :
    Calls Tryd.prog 54 #[.slice A rs.length c] w (SetRPost rs w) := by
  have hs' := fun w' (hg : G w w') => hs.g hB hg
  go_enter Tryd.func54, Tryd.ntmps54
  go_upto_region 3 with fail
  have hR : ((w.alloc (.cells #[.bool false, .bool false, .slice none 0 0, .slice none 0 0] 88)).alloc (.cells #[.bool false, .bool false, .slice none 0 0, .slice none 0 0] 88)).heap[w.heap.size]? = some (.cells #[.bool false, .bool false, .slice none 0 0, .slice none 0 0] 88 (0, 0)) := (G.new _ _).blk (blk_new w _ _)
  have hP : ((w.alloc (.cells #[.bool false, .bool false, .slice none 0 0, .slice none 0 0] 88)).alloc (.cells #[.bool false, .bool false, .slice none 0 0, .slice none 0 0] 88)).heap[w.heap.size + 1]? = some (.cells #[.bool false, .bool false, .slice none 0 0, .slice none 0 0] 88 (0, 0)) := blk_new' _ _ _ _ (by simp)
  have hg : G w ((w.alloc (.cells #[.bool false, .bool false, .slice none 0 0, .slice none 0 0] 88)).alloc (.cells #[.bool false, .bool false, .slice none 0 0, .slice none 0 0] 88)) := (G.new _ _).alloc _
  generalize ((w.alloc (.cells #[.bool false, .bool false, .slice none 0 0, .slice none 0 0] 88)).alloc (.cells #[.bool false, .bool false, .slice none 0 0, .slice none 0 0] 88)) = W0 at *
  replace hs' := Lib.hid hs'
  replace hP := Lib.hid hP
  replace hR := Lib.hid hR
  go_cut [20] (fun v wx => v = .bool (isC 94 0 rs) ∧ wx = W0)
  case first =>
    by_cases h0 : 0 < rs.length
    · obtain ⟨r, hr⟩ : ∃ r, rs[0]? = some r := ⟨_, List.getElem?_eq_getElem h0⟩
      obtain ⟨b, o, hA, hb, c0⟩ := (hs'.out _ hg).at_ hr
      subst hA
      have n2 : (0 : Int) < (rs.length : Int) := by omega
      have hic : isC 94 0 rs = decide (r = 94) := isC_at hr
      simp only [Nat.zero_mul, Nat.add_zero] at c0
      by_cases h94 : r = 94
      · have t94 : ((r : Int) == 94) = true := by simp; omega
        have e1 : true = isC 94 0 rs := by rw [hic, h94]; rfl
        replace hr := Lib.hid hr
        replace hic := Lib.hid hic
        replace e1 := Lib.hid e1
        go_wp2_with fail
        go_meet
        exact ⟨by rw [← e1.out], rfl⟩
      · have t94 : ((r : Int) == 94) = false := by rw [beq_eq_false_iff_ne]; omega
        have e1 : false = isC 94 0 rs := by rw [hic, decide_eq_false h94]
        replace hr := Lib.hid hr
        replace hic := Lib.hid hic
        replace e1 := Lib.hid e1
        go_wp2_with fail
        go_meet
        exact ⟨by rw [← e1.out], rfl⟩
    · have n2 : ¬ (0 : Int) < (rs.length : Int) := by omega
      have e1 : false = isC 94 0 rs := (isC_over (by omega)).symm
      replace e1 := Lib.hid e1
      go_wp2_with fail
      go_meet
      exact ⟨by rw [← e1.out], rfl⟩
  case rest =>
  obtain ⟨rfl, rfl⟩ := hcut
  have hk01 : isC 94 0 rs = true → 1 ≤ rs.length := fun h => by
    rcases Nat.lt_or_ge 0 rs.length with h1 | h1
    · exact h1
    · rw [isC_over h1] at h; cases h
  have htl1 : setTl rs = if isC 94 0 rs = true then rs.drop 1 else rs.drop 0 := by
    unfold setTl
    split
    · cases rs <;> rfl
    · rfl
  generalize hno : isC 94 0 rs = no at *
  go_upto_if 20 with fail
  go_cut [5] (fun v wx => ∃ (k0 : Nat), v = .int .i64 k0 ∧ Hid (setTl rs = rs.drop k0) ∧ k0 ≤ rs.length ∧ Hid (wx.heap[w.heap.size + 1]? = some (.cells #[.bool false, .bool no, .slice none 0 0, .slice none 0 0] 88 (0, 0))) ∧ Hid (wx.heap[w.heap.size]? = some (.cells #[.bool false, .bool false, .slice none 0 0, .slice none 0 0] 88 (0, 0))) ∧ G w wx)
  case first =>
    have hgz := hg.size
    cases no with
    | true =>
      have z1 := blkFree hP.out 1
      have y1 := (blk_cell hP.out 1).trans (show _ = some (Value.bool false) from rfl)
      have hP2 := (blkSet hP.out 1 (.bool true)).trans (show _ = some (Obj.cells #[.bool false, .bool true, .slice none 0 0, .slice none 0 0] 88 (0, 0)) from rfl)
      have hR2 := ((But.refl (fun j => j = w.heap.size + 1) wc).set (p := ⟨w.heap.size + 1, 1, none⟩) (.inr rfl) (.bool true)).blk hR.out (by omega)
      have hg2 := hg.set (p := ⟨w.heap.size + 1, 1, none⟩) (Nat.le_succ _) (.bool true)
      have hk1 := hk01 rfl
      rw [if_pos rfl] at htl1
      replace htl1 := Lib.hid htl1
      replace hno := Lib.hid hno
      replace hP2 := Lib.hid hP2
      replace hR2 := Lib.hid hR2
      clear hk01
      go_wp2_with fail
      go_meet
      exact ⟨1, rfl, htl1, hk1, hP2, hR2, hg2⟩
    | false =>
      rw [if_neg (by simp)] at htl1
      replace htl1 := Lib.hid htl1
      replace hno := Lib.hid hno
      clear hk01
      go_wp2_with fail
      go_meet
      exact ⟨0, rfl, htl1, Nat.zero_le _, hP, hR, hg⟩
  case rest =>
    clear hP hR hg htl1 hk01
    obtain ⟨k0, rfl, htl, hk0, hP, hR, hg⟩ := hcut
    replace hno := Lib.hid hno.symm
    go_wp2_with fail
    go_loopw [5, 6] (fun i f wr => ∃ (k : Nat) (S : List (Nat × Nat)) (LA : Option Addr) (lc : Nat) (HA : Option Addr) (hc : Nat), k ≤ rs.length ∧ i = .int .i64 k ∧ f = .bool S.isEmpty ∧ Hid (SetAt rs S k) ∧ Hid (wr.heap[w.heap.size + 1]? = some (.cells #[.bool false, .bool no, .slice LA S.length lc, .slice HA S.length hc] 88 (0, 0))) ∧ Hid (wr.heap[w.heap.size]? = some (.cells #[.bool false, .bool false, .slice none 0 0, .slice none 0 0] 88 (0, 0))) ∧ Hid (OwnL 21 1 runeC wr w.heap.size (.slice LA S.length lc) (S.map (·.1))) ∧ Hid (OwnL 21 1 runeC wr w.heap.size (.slice HA S.length hc) (S.map (·.2))) ∧ Hid (∀ k, (Value.slice LA S.length lc).ownBlock = some k → (Value.slice HA S.length hc).ownBlock ≠ some k) ∧ S.length ≤ k ∧ G w wr) (fun i _ _ => rs.length - (intOf i).toNat)
    case atStart => exact ⟨k0, [], none, 0, none, 0, hk0, rfl, rfl, .inl (by rw [htl.out]), hP, hR, OwnL.nil, OwnL.nil, sepN, Nat.zero_le _, hg⟩
    case round =>
      clear hP hR hg hk0 htl
      obtain ⟨k, S, LA, lc, HA, hc, hk, rfl, rfl, hst, hP, hR, hL, hH, hsep, hSl, hg⟩ := hrel
      have p0 := (blk_cell hP.out 0).trans (show _ = some (Value.bool false) from rfl)
      have p1 := (blk_cell hP.out 1).trans (show _ = some (Value.bool no) from rfl)
      have p2 := (blk_cell hP.out 2).trans (show _ = some (Value.slice LA S.length lc) from rfl)
      have p3 := (blk_cell hP.out 3).trans (show _ = some (Value.slice HA S.length hc) from rfl)
      have p2o : ∀ o, (wr.alloc o).cell? ⟨w.heap.size + 1, 2, none⟩ = some (.slice LA S.length lc) := fun o => (blk_cell ((G.new wr o).blk hP.out) 2).trans rfl
      have hsz := hg.size
      by_cases hlt : k < rs.length
      · obtain ⟨r, hr⟩ : ∃ r, rs[k]? = some r := ⟨_, List.getElem?_eq_getElem hlt⟩
        obtain ⟨b, o, hA, hb, c0⟩ := (hs'.out _ hg).at_ hr
        subst hA
        have n1 : (0 : Int) ≤ (k : Int) := by omega
        have n2 : (k : Int) < (rs.length : Int) := by omega
        have v1 : IntKind.i64.wrap ((k : Int) + 1) = (k : Int) + 1 := by rw [IntKind.wrap_i64]; omega
        have v2 : IntKind.i64.wrap ((k : Int) + 2) = (k : Int) + 2 := by rw [IntKind.wrap_i64]; omega
        rcases hst.out with hst1 | ⟨hbadG, hlen, h45, hSne⟩
        · by_cases h93 : r = 93
          · have t93 : ((r : Int) == 93) = true := by simp; omega
            subst h93
            cases hE : S.isEmpty with
            | true =>
              have hS0 : S = [] := by cases S with | nil => rfl | cons a b => cases hE
              rw [hS0] at hst1
              have hfin := SetAt.empty hst1 hr
              replace hS0 := Lib.hid hS0
              replace hfin := Lib.hid hfin
              replace hr := Lib.hid hr
              clear hst hst1
              obtain ⟨W9, SR, C9, hb9, hG9⟩ := store_blk (P := Tryd.prog) (T := 88) (cs := #[.bool false, .bool no, .slice LA S.length lc, .slice HA S.length hc]) hR.out rfl (by kernel_rfl) (by kernel_rfl)
              replace hG9 := hG9 _ hg (Nat.le_refl _)
              replace C9 := Lib.hid C9
              have hL9 := hL.out.but' hb9 fun k hk e => by
                subst e
                obtain ⟨_, _, cs', h3⟩ := hL.out.blk hk
                rw [hR.out] at h3
                simp only [Option.some.injEq, Obj.cells.injEq] at h3
                exact absurd h3.2.1 (by decide)
              have hH9 := hH.out.but' hb9 fun k hk e => by
                subst e
                obtain ⟨_, _, cs', h3⟩ := hH.out.blk hk
                rw [hR.out] at h3
                simp only [Option.some.injEq, Obj.cells.injEq] at h3
                exact absurd h3.2.1 (by decide)
              replace hL9 := Lib.hid hL9
              replace hH9 := Lib.hid hH9
              clear hb9
              go_wp2_with (refine wpList_store_at (ty := 88) (x := .tmp 2) rfl (by kernel_rfl) (p := .pointer (some ⟨w.heap.size, 0, none⟩)) (v := .agg #[.bool false, .bool no, .slice LA S.length lc, .slice HA S.length hc]) rfl rfl SR ?_; clear SR)
              refine bodyPost_ret (v := .tuple #[.agg #[.bool false, .bool no, .slice LA S.length lc, .slice HA S.length hc], .int .i64 (-1)]) (results_ctp (i := 2) (j := 3) rfl rfl rfl C9.out Tryd.underlying88 rfl (by kernel_rfl)) rfl ?_
              exact ⟨no, S, LA, lc, HA, hc, _, rfl, .inr ⟨rfl, hfin.out⟩, hL9.out, hH9.out, hG9⟩
            | false =>
              have hfin := SetAt.done hst1 hr (by rintro rfl; cases hE)
              rw [← hno.out] at hfin
              replace hfin := Lib.hid hfin
              replace hr := Lib.hid hr
              clear hst hst1
              obtain ⟨W9, SR, C9, hb9, hG9⟩ := store_blk (P := Tryd.prog) (T := 88) (cs := #[.bool false, .bool no, .slice LA S.length lc, .slice HA S.length hc]) hR.out rfl (by kernel_rfl) (by kernel_rfl)
              replace hG9 := hG9 _ hg (Nat.le_refl _)
              replace C9 := Lib.hid C9
              have hL9 := hL.out.but' hb9 fun k hk e => by
                subst e
                obtain ⟨_, _, cs', h3⟩ := hL.out.blk hk
                rw [hR.out] at h3
                simp only [Option.some.injEq, Obj.cells.injEq] at h3
                exact absurd h3.2.1 (by decide)
              have hH9 := hH.out.but' hb9 fun k hk e => by
                subst e
                obtain ⟨_, _, cs', h3⟩ := hH.out.blk hk
                rw [hR.out] at h3
                simp only [Option.some.injEq, Obj.cells.injEq] at h3
                exact absurd h3.2.1 (by decide)
              replace hL9 := Lib.hid hL9
              replace hH9 := Lib.hid hH9
              clear hb9
              go_wp2_with (refine wpList_store_at (ty := 88) (x := .tmp 2) rfl (by kernel_rfl) (p := .pointer (some ⟨w.heap.size, 0, none⟩)) (v := .agg #[.bool false, .bool no, .slice LA S.length lc, .slice HA S.length hc]) rfl rfl SR ?_; clear SR)
              refine bodyPost_ret (v := .tuple #[.agg #[.bool false, .bool no, .slice LA S.length lc, .slice HA S.length hc], .int .i64 ((k : Int) + 1)]) (results_ctp (i := 2) (j := 3) rfl rfl rfl C9.out Tryd.underlying88 rfl (by kernel_rfl)) rfl ?_
              exact ⟨no, S, LA, lc, HA, hc, _, rfl, .inl ⟨k + 1, by omega, by omega, by omega, hfin.out⟩, hL9.out, hH9.out, hG9⟩
          · have t93 : ((r : Int) == 93) = false := by rw [beq_eq_false_iff_ne]; omega
            have hi93 : isC 93 k rs = false := by rw [isC_at hr]; exact decide_eq_false h93
            replace hr := Lib.hid hr
            replace hst1 := Lib.hid hst1
            replace hi93 := Lib.hid hi93
            clear hst
            obtain ⟨E, hE⟩ : ∃ E, S.isEmpty = E := ⟨_, rfl⟩
            rw [hE]
            replace hE := Lib.hid hE
            go_upto_region 14 with fail
            go_cut [62] (fun v wx => v = .bool (decide (r = 45) && (!E && !isC 93 (k + 1) rs)) ∧ wx = wr)
            case first =>
              by_cases h45 : r = 45
              · have t45 : ((r : Int) == 45) = true := by simp; omega
                cases E with
                | true =>
                  replace h45 := Lib.hid h45
                  go_wp2_with fail
                  go_meet
                  exact ⟨by rw [decide_eq_true h45.out]; rfl, rfl⟩
                | false =>
                  by_cases hk1 : k + 1 < rs.length
                  · obtain ⟨q0, hq0⟩ : ∃ q, rs[k + 1]? = some q := ⟨_, List.getElem?_eq_getElem hk1⟩
                    obtain ⟨b', o', e', _, d1⟩ := (hs'.out _ hg).at_ hq0
                    cases e'
                    have n3 : (k : Int) + 1 < (rs.length : Int) := by omega
                    have n5 : ¬ (rs.length : Int) ≤ (k : Int) + 1 := by omega
                    have n6 : (0 : Int) ≤ (k : Int) + 1 := by omega
                    have hiq : isC 93 (k + 1) rs = decide (q0 = 93) := isC_at hq0
                    replace hq0 := Lib.hid hq0
                    by_cases hq93 : q0 = 93
                    · have tq : ((q0 : Int) == 93) = true := by simp; omega
                      have tq' : ((q0 : Int) != 93) = false := by rw [bne, tq]; rfl
                      have hfin : (decide (r = 45) && (!false && !isC 93 (k + 1) rs)) = false := by rw [hiq, decide_eq_true hq93]; simp
                      replace hfin := Lib.hid hfin
                      replace h45 := Lib.hid h45
                      replace hiq := Lib.hid hiq
                      replace hq93 := Lib.hid hq93
                      go_wp2_with fail
                      go_meet
                      exact ⟨by rw [hfin.out], rfl⟩
                    · have tq : ((q0 : Int) == 93) = false := by rw [beq_eq_false_iff_ne]; omega
                      have tq' : ((q0 : Int) != 93) = true := by rw [bne, tq]; rfl
                      have hfin : (decide (r = 45) && (!false && !isC 93 (k + 1) rs)) = true := by rw [hiq, decide_eq_false hq93, decide_eq_true h45]; rfl
                      replace hfin := Lib.hid hfin
                      replace h45 := Lib.hid h45
                      replace hiq := Lib.hid hiq
                      replace hq93 := Lib.hid hq93
                      go_wp2_with fail
                      go_meet
                      exact ⟨by rw [hfin.out], rfl⟩
                  · have n3 : ¬ (k : Int) + 1 < (rs.length : Int) := by omega
                    have n5 : (rs.length : Int) ≤ (k : Int) + 1 := by omega
                    have hfin : (decide (r = 45) && (!false && !isC 93 (k + 1) rs)) = true := by rw [isC_over (by omega), decide_eq_true h45]; rfl
                    replace hfin := Lib.hid hfin
                    replace h45 := Lib.hid h45
                    go_wp2_with fail
                    go_meet
                    exact ⟨by rw [hfin.out], rfl⟩
              · have t45 : ((r : Int) == 45) = false := by rw [beq_eq_false_iff_ne]; omega
                have hfin : (decide (r = 45) && (!E && !isC 93 (k + 1) rs)) = false := by rw [decide_eq_false h45]; rfl
                replace hfin := Lib.hid hfin
                replace h45 := Lib.hid h45
                go_wp2_with fail
                go_meet
                exact ⟨by rw [hfin.out], rfl⟩
            case rest =>
            obtain ⟨rfl, rfl⟩ := hcut
            cases hD : (decide (r = 45) && (!E && !isC 93 (k + 1) rs)) with
            | true =>
              rw [Bool.and_eq_true, Bool.and_eq_true] at hD
              have hfin := SetAt.bad hst1.out hi93.out (spanS_bad1 (unit_dash (by rw [hr.out, of_decide_eq_true hD.1]) (by rw [hE.out]; simpa using hD.2.1) (by simpa using hD.2.2)))
              replace hfin := Lib.hid hfin
              replace hD := Lib.hid hD
              obtain ⟨W9, SR, C9, hb9, hG9⟩ := store_blk (P := Tryd.prog) (T := 88) (cs := #[.bool false, .bool no, .slice LA S.length lc, .slice HA S.length hc]) hR.out rfl (by kernel_rfl) (by kernel_rfl)
              replace hG9 := hG9 _ hg (Nat.le_refl _)
              replace C9 := Lib.hid C9
              have hL9 := hL.out.but' hb9 fun k hk e => by
                subst e
                obtain ⟨_, _, cs', h3⟩ := hL.out.blk hk
                rw [hR.out] at h3
                simp only [Option.some.injEq, Obj.cells.injEq] at h3
                exact absurd h3.2.1 (by decide)
              have hH9 := hH.out.but' hb9 fun k hk e => by
                subst e
                obtain ⟨_, _, cs', h3⟩ := hH.out.blk hk
                rw [hR.out] at h3
                simp only [Option.some.injEq, Obj.cells.injEq] at h3
                exact absurd h3.2.1 (by decide)
              replace hL9 := Lib.hid hL9
              replace hH9 := Lib.hid hH9
              clear hb9
              go_wp2_with (refine wpList_store_at (ty := 88) (x := .tmp 2) rfl (by kernel_rfl) (p := .pointer (some ⟨w.heap.size, 0, none⟩)) (v := .agg #[.bool false, .bool no, .slice LA S.length lc, .slice HA S.length hc]) rfl rfl SR ?_; clear SR)
              refine bodyPost_ret (v := .tuple #[.agg #[.bool false, .bool no, .slice LA S.length lc, .slice HA S.length hc], .int .i64 (-1)]) (results_ctp (i := 2) (j := 3) rfl rfl rfl C9.out Tryd.underlying88 rfl (by kernel_rfl)) rfl ?_
              exact ⟨no, S, LA, lc, HA, hc, _, rfl, .inr ⟨rfl, hfin.out⟩, hL9.out, hH9.out, hG9⟩
            | false =>
              have hd45 : r = 45 → E = true ∨ isC 93 (k + 1) rs = true := fun h => by
                rw [decide_eq_true h, Bool.true_and] at hD
                cases E with
                | true => exact .inl rfl
                | false => exact .inr (by simpa using hD)
              replace hd45 := Lib.hid hd45
              replace hD := Lib.hid hD
              go_upto_if 65 with fail
              go_cut [5, 7] (fun i v wx => ∃ (m R : Nat), i = .int .i64 m ∧ v = .int .i32 R ∧ m < rs.length ∧ k ≤ m ∧ Hid (unitS S.isEmpty (rs.drop k) false = (R, rs.drop (m + 1), false)) ∧ wx = wc)
              case first =>
                by_cases h92 : r = 92
                · have t92 : ((r : Int) == 92) = true := by simp; omega
                  by_cases hk1 : k + 1 < rs.length
                  · obtain ⟨r2, hr2⟩ : ∃ q, rs[k + 1]? = some q := ⟨_, List.getElem?_eq_getElem hk1⟩
                    obtain ⟨b', o', e', _, d1⟩ := (hs'.out _ hg).at_ hr2
                    cases e'
                    have n5 : ¬ (rs.length : Int) ≤ (k : Int) + 1 := by omega
                    have n7 : (k : Int) + 1 < (rs.length : Int) := by omega
                    have n6 : (0 : Int) ≤ (k : Int) + 1 := by omega
                    have hu : unitS S.isEmpty (rs.drop k) false = (r2, rs.drop (k + 1 + 1), false) := unit_back (by rw [hr.out, h92]) hr2
                    replace hu := Lib.hid hu
                    replace hr2 := Lib.hid hr2
                    replace h92 := Lib.hid h92
                    go_wp2_with fail
                    go_meet
                    exact ⟨k + 1, r2, by go_num, rfl, hk1, by omega, hu, rfl⟩
                  · have n5 : (rs.length : Int) ≤ (k : Int) + 1 := by omega
                    have hfin := SetAt.bad hst1.out hi93.out (spanS_bad1 (unit_back_nil (by rw [hr.out, h92]) (by omega)))
                    replace hfin := Lib.hid hfin
                    replace h92 := Lib.hid h92
                    obtain ⟨W9, SR, C9, hb9, hG9⟩ := store_blk (P := Tryd.prog) (T := 88) (cs := #[.bool false, .bool no, .slice LA S.length lc, .slice HA S.length hc]) hR.out rfl (by kernel_rfl) (by kernel_rfl)
                    replace hG9 := hG9 _ hg (Nat.le_refl _)
                    replace C9 := Lib.hid C9
                    have hL9 := hL.out.but' hb9 fun k hk e => by
                      subst e
                      obtain ⟨_, _, cs', h3⟩ := hL.out.blk hk
                      rw [hR.out] at h3
                      simp only [Option.some.injEq, Obj.cells.injEq] at h3
                      exact absurd h3.2.1 (by decide)
                    have hH9 := hH.out.but' hb9 fun k hk e => by
                      subst e
                      obtain ⟨_, _, cs', h3⟩ := hH.out.blk hk
                      rw [hR.out] at h3
                      simp only [Option.some.injEq, Obj.cells.injEq] at h3
                      exact absurd h3.2.1 (by decide)
                    replace hL9 := Lib.hid hL9
                    replace hH9 := Lib.hid hH9
                    clear hb9
                    go_wp2_with (refine wpList_store_at (ty := 88) (x := .tmp 2) rfl (by kernel_rfl) (p := .pointer (some ⟨w.heap.size, 0, none⟩)) (v := .agg #[.bool false, .bool no, .slice LA S.length lc, .slice HA S.length hc]) rfl rfl SR ?_; clear SR)
                    refine bodyPost_ret (v := .tuple #[.agg #[.bool false, .bool no, .slice LA S.length lc, .slice HA S.length hc], .int .i64 (-1)]) (results_ctp (i := 2) (j := 3) rfl rfl rfl C9.out Tryd.underlying88 rfl (by kernel_rfl)) rfl ?_
                    exact ⟨no, S, LA, lc, HA, hc, _, rfl, .inr ⟨rfl, hfin.out⟩, hL9.out, hH9.out, hG9⟩
                · have t92 : ((r : Int) == 92) = false := by rw [beq_eq_false_iff_ne]; omega
                  have hu : unitS S.isEmpty (rs.drop k) false = (r, rs.drop (k + 1), false) := unit_plain hr.out h92 fun h => by rw [hE.out]; exact hd45.out h
                  replace hu := Lib.hid hu
                  replace h92 := Lib.hid h92
                  go_wp2_with fail
                  go_meet
                  exact ⟨k, r, rfl, rfl, hlt, Nat.le_refl _, hu, rfl⟩
              case rest =>
              obtain ⟨m, R, rfl, rfl, hml, hkm, hu, rfl⟩ := hcut
              have w1 : IntKind.i64.wrap ((m : Int) + 1) = (m : Int) + 1 := by rw [IntKind.wrap_i64]; omega
              have w2' : IntKind.i64.wrap ((m : Int) + 1 + 1) = (m : Int) + 1 + 1 := by rw [IntKind.wrap_i64]; omega
              have w3' : IntKind.i64.wrap ((m : Int) + 1 + 2) = (m : Int) + 1 + 2 := by rw [IntKind.wrap_i64]; omega
              have w4' : IntKind.i64.wrap ((m : Int) + 1 + 2 + 1) = (m : Int) + 1 + 2 + 1 := by rw [IntKind.wrap_i64]; omega
              have m4 : (0 : Int) ≤ (m : Int) + 1 := by omega
              have m2 : (0 : Int) ≤ (m : Int) + 1 + 1 := by omega
              have m7 : (0 : Int) ≤ (m : Int) + 1 + 2 := by omega
              go_upto_region 24 with fail
              obtain ⟨ws, rfl⟩ : ∃ ws : World, ws = wc := ⟨_, rfl⟩
              go_cut [102] (fun v wx => v = .bool (decide (m + 1 + 1 < rs.length) && (isC 45 (m + 1) rs && !isC 93 (m + 1 + 1) rs)) ∧ wx = ws)
              case first =>
                by_cases hm1 : m + 1 + 1 < rs.length
                · obtain ⟨q, hq⟩ : ∃ q, rs[m + 1]? = some q := ⟨_, List.getElem?_eq_getElem (by omega)⟩
                  obtain ⟨b2, o2, e2, _, cq⟩ := (hs'.out _ hg).at_ hq
                  cases e2
                  obtain ⟨q2, hq2⟩ : ∃ q, rs[m + 1 + 1]? = some q := ⟨_, List.getElem?_eq_getElem hm1⟩
                  obtain ⟨b2, o2, e2, _, cq2⟩ := (hs'.out _ hg).at_ hq2
                  cases e2
                  have m1 : (m : Int) + 1 + 1 < (rs.length : Int) := by omega
                  have m3 : (m : Int) + 1 < (rs.length : Int) := by omega
                  have hiq0 : isC 45 (m + 1) rs = decide (q = 45) := isC_at hq
                  have hiq2 : isC 93 (m + 1 + 1) rs = decide (q2 = 93) := isC_at hq2
                  have hd1 : decide (m + 1 + 1 < rs.length) = true := decide_eq_true hm1
                  replace hq := Lib.hid hq
                  replace hq2 := Lib.hid hq2
                  by_cases hqd : q = 45
                  · have tq45 : ((q : Int) == 45) = true := by simp; omega
                    by_cases hq293 : q2 = 93
                    · have tq2 : ((q2 : Int) == 93) = true := by simp; omega
                      have tq2' : ((q2 : Int) != 93) = false := by rw [bne, tq2]; rfl
                      have hfin : (decide (m + 1 + 1 < rs.length) && (isC 45 (m + 1) rs && !isC 93 (m + 1 + 1) rs)) = false := by rw [hiq2, decide_eq_true hq293]; simp
                      replace hfin := Lib.hid hfin
                      replace hiq0 := Lib.hid hiq0
                      replace hiq2 := Lib.hid hiq2
                      replace hqd := Lib.hid hqd
                      replace hq293 := Lib.hid hq293
                      replace hd1 := Lib.hid hd1
                      go_wp2_with fail
                      go_meet
                      exact ⟨by rw [hfin.out], rfl⟩
                    · have tq2 : ((q2 : Int) == 93) = false := by rw [beq_eq_false_iff_ne]; omega
                      have tq2' : ((q2 : Int) != 93) = true := by rw [bne, tq2]; rfl
                      have hfin : (decide (m + 1 + 1 < rs.length) && (isC 45 (m + 1) rs && !isC 93 (m + 1 + 1) rs)) = true := by rw [hiq2, decide_eq_false hq293, hiq0, decide_eq_true hqd, hd1]; rfl
                      replace hfin := Lib.hid hfin
                      replace hiq0 := Lib.hid hiq0
                      replace hiq2 := Lib.hid hiq2
                      replace hqd := Lib.hid hqd
                      replace hq293 := Lib.hid hq293
                      replace hd1 := Lib.hid hd1
                      go_wp2_with fail
                      go_meet
                      exact ⟨by rw [hfin.out], rfl⟩
                  · have tq45 : ((q : Int) == 45) = false := by rw [beq_eq_false_iff_ne]; omega
                    have hfin : (decide (m + 1 + 1 < rs.length) && (isC 45 (m + 1) rs && !isC 93 (m + 1 + 1) rs)) = false := by rw [hiq0, decide_eq_false hqd]; simp
                    replace hfin := Lib.hid hfin
                    replace hiq0 := Lib.hid hiq0
                    replace hiq2 := Lib.hid hiq2
                    replace hqd := Lib.hid hqd
                    replace hd1 := Lib.hid hd1
                    go_wp2_with fail
                    go_meet
                    exact ⟨by rw [hfin.out], rfl⟩
                · have m1 : ¬ (m : Int) + 1 + 1 < (rs.length : Int) := by omega
                  have hfin : (decide (m + 1 + 1 < rs.length) && (isC 45 (m + 1) rs && !isC 93 (m + 1 + 1) rs)) = false := by rw [decide_eq_false hm1]; rfl
                  replace hfin := Lib.hid hfin
                  go_wp2_with fail
                  go_meet
                  exact ⟨by rw [hfin.out], rfl⟩
              case rest =>
              obtain ⟨rfl, rfl⟩ := hcut
              generalize hD2 : (decide (m + 1 + 1 < rs.length) && (isC 45 (m + 1) rs && !isC 93 (m + 1 + 1) rs)) = D2
              replace hD2 := Lib.hid hD2
              obtain ⟨ws, rfl⟩ : ∃ ws : World, ws = wc := ⟨_, rfl⟩
              go_upto_if 102 with fail
              go_cut [5, 8] (fun i v wx => ∃ (n h : Nat), i = .int .i64 n ∧ v = .int .i32 h ∧ n ≤ rs.length ∧ k < n ∧ Hid ((h < R → (setS rs false).2.2 = true) ∧ (¬ h < R → SetAt rs (S ++ [(R, h)]) n)) ∧ wx = ws)
              case first =>
                cases D2 with
                | false =>
                  have hfin : (R < R → (setS rs false).2.2 = true) ∧ (¬ R < R → SetAt rs (S ++ [(R, R)]) (m + 1)) := by
                    refine ⟨fun h => absurd h (Nat.lt_irrefl _), fun _ => ?_⟩
                    cases hd : isC 45 (m + 1) rs with
                    | false => exact SetAt.step hst1.out hi93.out (span_plain hu.out (by rw [hd]; simp))
                    | true =>
                      have hd2 : rs[m + 1]? = some 45 := by unfold isC at hd; exact of_decide_eq_true hd
                      have hlen2 : m + 1 < rs.length := (List.getElem?_eq_some_iff.1 hd2).1
                      have hD := hD2.out
                      rw [hd, Bool.true_and] at hD
                      by_cases hm1 : m + 1 + 1 < rs.length
                      · rw [decide_eq_true hm1, Bool.true_and] at hD
                        exact SetAt.step hst1.out hi93.out (span_plain hu.out (by rw [show isC 93 (m + 1 + 1) rs = true by simpa using hD]; simp))
                      · refine .inr ⟨SetAt.badG hst1.out hi93.out (span_pair_bad hu.out hd2 (isC_over (by omega)) ?_), by omega, hd2, by simp⟩
                        rw [List.drop_of_length_le (by omega)]
                        exact unitS_nil _
                  replace hfin := Lib.hid hfin
                  go_wp2_with fail
                  go_meet
                  exact ⟨m + 1, R, by go_num, rfl, by omega, by omega, hfin, rfl⟩
                | true =>
                  have hD := hD2.out
                  rw [Bool.and_eq_true, Bool.and_eq_true] at hD
                  have hm1 : m + 1 + 1 < rs.length := of_decide_eq_true hD.1
                  have hq45 : rs[m + 1]? = some 45 := by
                    have := hD.2.1
                    unfold isC at this
                    exact of_decide_eq_true this
                  have hi2 : isC 93 (m + 1 + 1) rs = false := by simpa using hD.2.2
                  obtain ⟨q2, hq2⟩ : ∃ q, rs[m + 1 + 1]? = some q := ⟨_, List.getElem?_eq_getElem hm1⟩
                  obtain ⟨b2, o2, e2, _, cq2⟩ := (hs'.out _ hg).at_ hq2
                  cases e2
                  have m1 : (m : Int) + 1 + 1 < (rs.length : Int) := by omega
                  replace hD := Lib.hid hD
                  replace hq45 := Lib.hid hq45
                  replace hi2 := Lib.hid hi2
                  replace hq2 := Lib.hid hq2
                  have hcmp : ∀ (n h : Nat), unitS true (rs.drop (m + 1 + 1)) false = (h, rs.drop n, false) → (h < R → (setS rs false).2.2 = true) ∧ (¬ h < R → SetAt rs (S ++ [(R, h)]) n) := fun n h hf =>
                    ⟨fun hlt => SetAt.bad hst1.out hi93.out (by rw [span_pair hu.out hq45.out hi2.out hf]; exact decide_eq_true hlt), fun hlt => SetAt.step hst1.out hi93.out (by rw [span_pair hu.out hq45.out hi2.out hf, decide_eq_false hlt])⟩
                  replace hcmp := Lib.hid hcmp
                  by_cases hq292 : q2 = 92
                  · have tq29 : ((q2 : Int) == 92) = true := by simp; omega
                    by_cases hm2 : m + 1 + 2 < rs.length
                    · obtain ⟨h9, hh9⟩ : ∃ q, rs[m + 1 + 2]? = some q := ⟨_, List.getElem?_eq_getElem hm2⟩
                      obtain ⟨b2, o2, e2, _, cq3⟩ := (hs'.out _ hg).at_ hh9
                      cases e2
                      have m5 : ¬ (rs.length : Int) ≤ (m : Int) + 1 + 2 := by omega
                      have m6 : (m : Int) + 1 + 2 < (rs.length : Int) := by omega
                      have hfin := hcmp.out (m + 1 + 2 + 1) h9 (unit_back (by rw [hq2.out, hq292]) hh9)
                      replace hfin := Lib.hid hfin
                      replace hh9 := Lib.hid hh9
                      replace hq292 := Lib.hid hq292
                      go_wp2_with fail
                      go_meet
                      exact ⟨m + 1 + 2 + 1, h9, by go_num, rfl, by omega, by omega, hfin, rfl⟩
                    · have m5 : (rs.length : Int) ≤ (m : Int) + 1 + 2 := by omega
                      have hfin := SetAt.bad hst1.out hi93.out (span_pair_bad hu.out hq45.out hi2.out (unit_back_nil (by rw [hq2.out, hq292]) (by omega)))
                      replace hfin := Lib.hid hfin
                      replace hq292 := Lib.hid hq292
                      obtain ⟨W9, SR, C9, hb9, hG9⟩ := store_blk (P := Tryd.prog) (T := 88) (cs := #[.bool false, .bool no, .slice LA S.length lc, .slice HA S.length hc]) hR.out rfl (by kernel_rfl) (by kernel_rfl)
                      replace hG9 := hG9 _ hg (Nat.le_refl _)
                      replace C9 := Lib.hid C9
                      have hL9 := hL.out.but' hb9 fun k hk e => by
                        subst e
                        obtain ⟨_, _, cs', h3⟩ := hL.out.blk hk
                        rw [hR.out] at h3
                        simp only [Option.some.injEq, Obj.cells.injEq] at h3
                        exact absurd h3.2.1 (by decide)
                      have hH9 := hH.out.but' hb9 fun k hk e => by
                        subst e
                        obtain ⟨_, _, cs', h3⟩ := hH.out.blk hk
                        rw [hR.out] at h3
                        simp only [Option.some.injEq, Obj.cells.injEq] at h3
                        exact absurd h3.2.1 (by decide)
                      replace hL9 := Lib.hid hL9
                      replace hH9 := Lib.hid hH9
                      clear hb9
                      go_wp2_with (refine wpList_store_at (ty := 88) (x := .tmp 2) rfl (by kernel_rfl) (p := .pointer (some ⟨w.heap.size, 0, none⟩)) (v := .agg #[.bool false, .bool no, .slice LA S.length lc, .slice HA S.length hc]) rfl rfl SR ?_; clear SR)
                      refine bodyPost_ret (v := .tuple #[.agg #[.bool false, .bool no, .slice LA S.length lc, .slice HA S.length hc], .int .i64 (-1)]) (results_ctp (i := 2) (j := 3) rfl rfl rfl C9.out Tryd.underlying88 rfl (by kernel_rfl)) rfl ?_
                      exact ⟨no, S, LA, lc, HA, hc, _, rfl, .inr ⟨rfl, hfin.out⟩, hL9.out, hH9.out, hG9⟩
                  · have tq29 : ((q2 : Int) == 92) = false := by rw [beq_eq_false_iff_ne]; omega
                    have hfin := hcmp.out (m + 1 + 2) q2 (unit_plain hq2.out hq292 fun _ => .inl rfl)
                    replace hfin := Lib.hid hfin
                    replace hq292 := Lib.hid hq292
                    go_wp2_with fail
                    go_meet
                    exact ⟨m + 1 + 2, q2, by go_num, rfl, by omega, by omega, hfin, rfl⟩
              case rest =>
              obtain ⟨n, h9, rfl, rfl, hnl, hkn, hnx, rfl⟩ := hcut
              by_cases hlt2 : h9 < R
              · have nlt : ((h9 : Nat) : Int) < ((R : Nat) : Int) := by omega
                have hfin := hnx.out.1 hlt2
                replace hfin := Lib.hid hfin
                replace hlt2 := Lib.hid hlt2
                obtain ⟨W9, SR, C9, hb9, hG9⟩ := store_blk (P := Tryd.prog) (T := 88) (cs := #[.bool false, .bool no, .slice LA S.length lc, .slice HA S.length hc]) hR.out rfl (by kernel_rfl) (by kernel_rfl)
                replace hG9 := hG9 _ hg (Nat.le_refl _)
                replace C9 := Lib.hid C9
                have hL9 := hL.out.but' hb9 fun k hk e => by
                  subst e
                  obtain ⟨_, _, cs', h3⟩ := hL.out.blk hk
                  rw [hR.out] at h3
                  simp only [Option.some.injEq, Obj.cells.injEq] at h3
                  exact absurd h3.2.1 (by decide)
                have hH9 := hH.out.but' hb9 fun k hk e => by
                  subst e
                  obtain ⟨_, _, cs', h3⟩ := hH.out.blk hk
                  rw [hR.out] at h3
                  simp only [Option.some.injEq, Obj.cells.injEq] at h3
                  exact absurd h3.2.1 (by decide)
                replace hL9 := Lib.hid hL9
                replace hH9 := Lib.hid hH9
                clear hb9
                go_wp2_with (refine wpList_store_at (ty := 88) (x := .tmp 2) rfl (by kernel_rfl) (p := .pointer (some ⟨w.heap.size, 0, none⟩)) (v := .agg #[.bool false, .bool no, .slice LA S.length lc, .slice HA S.length hc]) rfl rfl SR ?_; clear SR)
                refine bodyPost_ret (v := .tuple #[.agg #[.bool false, .bool no, .slice LA S.length lc, .slice HA S.length hc], .int .i64 (-1)]) (results_ctp (i := 2) (j := 3) rfl rfl rfl C9.out Tryd.underlying88 rfl (by kernel_rfl)) rfl ?_
                exact ⟨no, S, LA, lc, HA, hc, _, rfl, .inr ⟨rfl, hfin.out⟩, hL9.out, hH9.out, hG9⟩
              · have nlt : ¬ ((h9 : Nat) : Int) < ((R : Nat) : Int) := by omega
                have hfin := hnx.out.2 hlt2
                replace hfin := Lib.hid hfin
                replace hlt2 := Lib.hid hlt2
                obtain ⟨wr, rfl⟩ : ∃ wr : World, wr = wc := ⟨_, rfl⟩
                obtain ⟨S9, hS9⟩ : ∃ S9, S ++ [((R : Nat), (h9 : Nat))] = S9 := ⟨_, rfl⟩
                have hsp2 : SetAt rs S9 (n) := by rw [← hS9]; exact hfin.out
                replace hsp2 := Lib.hid hsp2
                replace hS9 := Lib.hid hS9
                go_upto_region 35 with (at_builtin; refine wpList_append_w rune_elem _ rfl (.tmp 130) (.tmp 132) rfl w.heap.size (.slice LA S.length lc) (S.map (·.1)) rfl (hL.out.g (G.new _ _)) (wr.heap.size + 1) (some ⟨wr.heap.size, 0, none⟩) 1 [R] rfl (by intro h; cases h) (Sl.of_blk runeC_len _ (blk_new _ _ _) rfl (by omega)) (by simp; omega) (by simp; omega) (by have := hg.size; simp; omega) ?_; intro v1 w1 hL1 hk1 hb1 hw1; have hg0 := G.new wr (.cells #[.int .i32 (R : Nat)] 21); have hP1 := hk1.2 _ _ _ _ (by decide) (hg0.blk hP.out); have hR1 := hk1.2 _ _ _ _ (by decide) (hg0.blk hR.out); obtain ⟨LA1, lc1, e1, _, _, _⟩ := OwnL.sl runeC_len hL1; rw [show (S.map (·.1) ++ [R]).length = S9.length by rw [← hS9.out]; simp] at e1; subst e1; have z2 := blkFree hP1 2; have y2 := (blk_cell hP1 2).trans (show _ = some (Value.slice LA S.length lc) from rfl); have hH1 := (hH.out.g hg0).but' hb1 (fun k hk e => hsep.out k e.symm hk); have hg1 : G w w1 := hk1.g (hg.trans hg0); have hsep1 : ∀ k, (Value.slice LA1 S9.length lc1).ownBlock = some k → (Value.slice HA S.length hc).ownBlock ≠ some k := (fun k hk hk2 => hw1.elim (fun h => hsep.out k (by rw [← h]; exact hk) hk2) (fun h => by rw [h] at hk; cases hk; have h8 := (hH.out.blk hk2).2.1; simp at h8; omega)); replace hP1 := Lib.hid hP1; replace hR1 := Lib.hid hR1; replace hL1 := Lib.hid hL1; replace hH1 := Lib.hid hH1; replace hsep1 := Lib.hid hsep1; clear hk1 hb1 hw1 hg0)
                have hP2 := (blkSet hP1.out 2 (.slice LA1 S9.length lc1)).trans (show _ = some (Obj.cells #[.bool false, .bool no, .slice LA1 S9.length lc1, .slice HA S.length hc] 88 (0, 0)) from rfl)
                have hb2 := (But.refl (fun j => j = w.heap.size + 1) w1).set (p := ⟨w.heap.size + 1, 2, none⟩) (.inr rfl) (.slice LA1 S9.length lc1)
                have hR2 := hb2.blk hR1.out (by omega)
                have hL2 := hL1.out.but' hb2 fun k hk e => by
                  subst e
                  exact own_ne hL1.out hk hP1.out (by decide)
                have hH2 := hH1.out.but' hb2 fun k hk e => by
                  subst e
                  exact own_ne hH1.out hk hP1.out (by decide)
                have hg2 : G w (w1.setCell ⟨w.heap.size + 1, 2, none⟩ (.slice LA1 S9.length lc1)) := hg1.set (p := ⟨w.heap.size + 1, 2, none⟩) (Nat.le_succ _) _
                generalize w1.setCell ⟨w.heap.size + 1, 2, none⟩ (.slice LA1 S9.length lc1) = w2 at *
                have y3 : ∀ o, (w2.alloc o).cell? ⟨w.heap.size + 1, 3, none⟩ = some (.slice HA S.length hc) := fun o => (blk_cell ((G.new w2 o).blk hP2) 3).trans rfl
                have y3b := (blk_cell hP2 3).trans (show _ = some (Value.slice HA S.length hc) from rfl)
                have hsz2 := hg2.size
                replace hP2 := Lib.hid hP2
                replace hR2 := Lib.hid hR2
                replace hL2 := Lib.hid hL2
                replace hH2 := Lib.hid hH2
                clear hb2 z2 y2 hP1 hR1 hL1 hH1
                go_wp2_with (at_builtin; refine wpList_append_w rune_elem _ rfl (.tmp 136) (.tmp 138) rfl w.heap.size (.slice HA S.length hc) (S.map (·.2)) rfl (hH2.out.g (G.new _ _)) (w2.heap.size + 1) (some ⟨w2.heap.size, 0, none⟩) 1 [h9] rfl (by intro h; cases h) (Sl.of_blk runeC_len _ (blk_new _ _ _) rfl (by omega)) (by simp; omega) (by simp; omega) (by simp; omega) ?_; intro v3 w3 hH3 hk3 hb3 hw3; have hg0 := G.new w2 (.cells #[.int .i32 (h9 : Nat)] 21); have hP3 := hk3.2 _ _ _ _ (by decide) (hg0.blk hP2.out); have hR3 := hk3.2 _ _ _ _ (by decide) (hg0.blk hR2.out); obtain ⟨HA3, hc3, e3, _, _, _⟩ := OwnL.sl runeC_len hH3; rw [show (S.map (·.2) ++ [h9]).length = S9.length by rw [← hS9.out]; simp] at e3; subst e3; have z3 := blkFree hP3 3; have x3 := (blk_cell hP3 3).trans (show _ = some (Value.slice HA S.length hc) from rfl); have hL3 := (hL2.out.g hg0).but' hb3 (fun k hk e => hsep1.out k hk e.symm); have hg3 : G w w3 := hk3.g (hg2.trans hg0); have hsep3 : ∀ k, (Value.slice LA1 S9.length lc1).ownBlock = some k → (Value.slice HA3 S9.length hc3).ownBlock ≠ some k := (fun k hk hk2 => hw3.elim (fun h => hsep1.out k hk (by rw [← h]; exact hk2)) (fun h => by rw [h] at hk2; cases hk2; have h8 := (hL2.out.blk hk).2.1; simp at h8; omega)); replace hP3 := Lib.hid hP3; replace hR3 := Lib.hid hR3; replace hL3 := Lib.hid hL3; replace hH3 := Lib.hid hH3; replace hsep3 := Lib.hid hsep3; clear hk3 hb3 hw3 hg0)
                have hP4 := (blkSet hP3.out 3 (.slice HA3 S9.length hc3)).trans (show _ = some (Obj.cells #[.bool false, .bool no, .slice LA1 S9.length lc1, .slice HA3 S9.length hc3] 88 (0, 0)) from rfl)
                have hb4 := (But.refl (fun j => j = w.heap.size + 1) w3).set (p := ⟨w.heap.size + 1, 3, none⟩) (.inr rfl) (.slice HA3 S9.length hc3)
                have hR4 := hb4.blk hR3.out (by omega)
                have hL4 := hL3.out.but' hb4 fun k hk e => by
                  subst e
                  exact own_ne hL3.out hk hP3.out (by decide)
                have hH4 := hH3.out.but' hb4 fun k hk e => by
                  subst e
                  exact own_ne hH3.out hk hP3.out (by decide)
                have hL5 : OwnL 21 1 runeC (w3.setCell ⟨w.heap.size + 1, 3, none⟩ (.slice HA3 S9.length hc3)) w.heap.size (.slice LA1 S9.length lc1) (S9.map (·.1)) := by rw [show S9.map (·.1) = S.map (·.1) ++ [R] by rw [← hS9.out, List.map_append]; rfl]; exact hL4
                have hH5 : OwnL 21 1 runeC (w3.setCell ⟨w.heap.size + 1, 3, none⟩ (.slice HA3 S9.length hc3)) w.heap.size (.slice HA3 S9.length hc3) (S9.map (·.2)) := by rw [show S9.map (·.2) = S.map (·.2) ++ [h9] by rw [← hS9.out, List.map_append]; rfl]; exact hH4
                have hE5 : S9.isEmpty = false := by rw [← hS9.out]; simp
                have hg5 := hg3.set (p := ⟨w.heap.size + 1, 3, none⟩) (Nat.le_succ _) (.slice HA3 S9.length hc3)
                replace hP4 := Lib.hid hP4
                replace hR4 := Lib.hid hR4
                replace hL5 := Lib.hid hL5
                replace hH5 := Lib.hid hH5
                have hlen5 : S9.length ≤ (n) := by rw [← hS9.out]; simp; omega
                replace hlen5 := Lib.hid hlen5
                clear hb4 hL4 hH4
                go_roundw
                case rel => exact ⟨n, S9, LA1, lc1, HA3, hc3, by omega, by go_num, by rw [hE5], hsp2, hP4, hR4, hL5, hH5, hsep3, hlen5.out, hg5⟩
                case measure => (simp [intOf] <;> omega)
        · have hr2 := hr
          rw [h45] at hr2
          cases hr2
          have hE : S.isEmpty = false := isEmpty_ne hSne
          have hfin := setS_bad hbadG
          have t93 : ((45 : Nat) : Int) = 45 := rfl
          have n3 : ¬ (k : Int) + 1 < (rs.length : Int) := by omega
          have n4 : (rs.length : Int) ≤ (k : Int) + 1 := by omega
          replace hfin := Lib.hid hfin
          replace hr := Lib.hid hr
          replace h45 := Lib.hid h45
          clear hst hbadG hSne hlen
          rw [hE]
          obtain ⟨W9, SR, C9, hb9, hG9⟩ := store_blk (P := Tryd.prog) (T := 88) (cs := #[.bool false, .bool no, .slice LA S.length lc, .slice HA S.length hc]) hR.out rfl (by kernel_rfl) (by kernel_rfl)
          replace hG9 := hG9 _ hg (Nat.le_refl _)
          replace C9 := Lib.hid C9
          have hL9 := hL.out.but' hb9 fun k hk e => by
            subst e
            obtain ⟨_, _, cs', h3⟩ := hL.out.blk hk
            rw [hR.out] at h3
            simp only [Option.some.injEq, Obj.cells.injEq] at h3
            exact absurd h3.2.1 (by decide)
          have hH9 := hH.out.but' hb9 fun k hk e => by
            subst e
            obtain ⟨_, _, cs', h3⟩ := hH.out.blk hk
            rw [hR.out] at h3
            simp only [Option.some.injEq, Obj.cells.injEq] at h3
            exact absurd h3.2.1 (by decide)
          replace hL9 := Lib.hid hL9
          replace hH9 := Lib.hid hH9
          clear hb9
          go_wp2_with (refine wpList_store_at (ty := 88) (x := .tmp 2) rfl (by kernel_rfl) (p := .pointer (some ⟨w.heap.size, 0, none⟩)) (v := .agg #[.bool false, .bool no, .slice LA S.length lc, .slice HA S.length hc]) rfl rfl SR ?_; clear SR)
          refine bodyPost_ret (v := .tuple #[.agg #[.bool false, .bool no, .slice LA S.length lc, .slice HA S.length hc], .int .i64 (-1)]) (results_ctp (i := 2) (j := 3) rfl rfl rfl C9.out Tryd.underlying88 rfl (by kernel_rfl)) rfl ?_
          exact ⟨no, S, LA, lc, HA, hc, _, rfl, .inr ⟨rfl, hfin.out⟩, hL9.out, hH9.out, hG9⟩
      · have hfin : (setS rs false).2.2 = true := by
          rcases hst.out with h1 | ⟨_, h1, _, _⟩
          · exact SetAt.over h1 (by omega)
          · omega
        replace hfin := Lib.hid hfin
        clear hst
        obtain ⟨W9, SR, C9, hb9, hG9⟩ := store_blk (P := Tryd.prog) (T := 88) (cs := #[.bool false, .bool no, .slice LA S.length lc, .slice HA S.length hc]) hR.out rfl (by kernel_rfl) (by kernel_rfl)
        replace hG9 := hG9 _ hg (Nat.le_refl _)
        replace C9 := Lib.hid C9
        have hL9 := hL.out.but' hb9 fun k hk e => by
          subst e
          obtain ⟨_, _, cs', h3⟩ := hL.out.blk hk
          rw [hR.out] at h3
          simp only [Option.some.injEq, Obj.cells.injEq] at h3
          exact absurd h3.2.1 (by decide)
        have hH9 := hH.out.but' hb9 fun k hk e => by
          subst e
          obtain ⟨_, _, cs', h3⟩ := hH.out.blk hk
          rw [hR.out] at h3
          simp only [Option.some.injEq, Obj.cells.injEq] at h3
          exact absurd h3.2.1 (by decide)
        replace hL9 := Lib.hid hL9
        replace hH9 := Lib.hid hH9
        clear hb9
        go_wp2_with (refine wpList_store_at (ty := 88) (x := .tmp 2) rfl (by kernel_rfl) (p := .pointer (some ⟨w.heap.size, 0, none⟩)) (v := .agg #[.bool false, .bool no, .slice LA S.length lc, .slice HA S.length hc]) rfl rfl SR ?_; clear SR)
        refine bodyPost_ret (v := .tuple #[.agg #[.bool false, .bool no, .slice LA S.length lc, .slice HA S.length hc], .int .i64 (-1)]) (results_ctp (i := 2) (j := 3) rfl rfl rfl C9.out Tryd.underlying88 rfl (by kernel_rfl)) rfl ?_
        exact ⟨no, S, LA, lc, HA, hc, _, rfl, .inr ⟨rfl, hfin.out⟩, hL9.out, hH9.out, hG9⟩
end Go.Proofs.YthhhobfdlgmjlaaDoor

/- glob.Match's pass: what it leaves. Condition: at most 2^30 pieces. -/
import Derived.Test.YthhhobfdlgmjlaaDoorGlobFitsQWholeRow
import Derived.Laws.MakeOwn
namespace Go.Proofs.YthhhobfdlgmjlaaDoor
open Go.RowKit

def boolC (b : Bool) : List Value := [.bool b]
theorem bool_elem : IsElem Tryd.prog 85 4 1 1 boolC :=
  isElem_of (z := .bool false) Tryd.underlying85 (by kernel_rfl) rfl (by omega) (fun _ => rfl) (by intro x u hu; simp [boolC] at hu; subst hu; rfl)
/-- Block B is a row of n + 1 bools. -/
def BoolsAt (w : World) (B n : Nat) (g : Nat → Bool) : Prop := ∃ cs : Array Value, w.heap[B]? = some (.cells cs 4 (0, 0)) ∧ cs.size = n + 1 ∧ ∀ i, i ≤ n → cs[i]? = some (.bool (g i))
def upd (g : Nat → Bool) (j : Nat) (v : Bool) (i : Nat) : Bool := if i = j then v else g i
section
variable {w w' : World} {B n : Nat} {g : Nat → Bool}
theorem BoolsAt.cell (h : BoolsAt w B n g) {i : Nat} (hi : i ≤ n) : w.cell? ⟨B, i, none⟩ = some (.bool (g i)) := by
  obtain ⟨cs, h1, _, h3⟩ := h
  rw [blk_cell h1]
  exact h3 i hi
theorem BoolsAt.free (h : BoolsAt w B n g) (i : Nat) : w.frozen? ⟨B, i, none⟩ = false := by
  obtain ⟨cs, h1, _, _⟩ := h
  simp [World.frozen?, h1]
theorem BoolsAt.lt (h : BoolsAt w B n g) : B < w.heap.size := by obtain ⟨_, h1, _⟩ := h; exact blk_lt h1
theorem BoolsAt.but {S : Nat → Prop} (h : BoolsAt w B n g) (hb : But S w w') (hS : ¬ S B) : BoolsAt w' B n g := by
  obtain ⟨cs, h1, h2, h3⟩ := h
  exact ⟨cs, hb.blk h1 hS, h2, h3⟩
theorem BoolsAt.grow (h : BoolsAt w B n g) (hg : G w w') : BoolsAt w' B n g := h.but (S := fun _ => False) (.of_g hg) (fun e => e)
theorem BoolsAt.set (h : BoolsAt w B n g) (j : Nat) (v : Bool) : BoolsAt (w.setCell ⟨B, j, none⟩ (.bool v)) B n (upd g j v) := by
  obtain ⟨cs, h1, h2, h3⟩ := h
  refine ⟨_, blk_put h1 j _, by simpa using h2, fun i hi => ?_⟩
  unfold upd
  by_cases hij : i = j
  · subst hij
    rw [if_pos rfl, Array.getElem?_setIfInBounds_self_of_lt (by omega)]
  · rw [if_neg hij, Array.getElem?_setIfInBounds_ne (fun e => hij e.symm)]
    exact h3 i hi
theorem BoolsAt.congr {g' : Nat → Bool} (h : BoolsAt w B n g) (hg : ∀ i, i ≤ n → g i = g' i) : BoolsAt w B n g' := by
  obtain ⟨cs, h1, h2, h3⟩ := h
  exact ⟨cs, h1, h2, fun i hi => by rw [← hg i hi]; exact h3 i hi⟩
end
theorem make_bools (w : World) (n : Nat) (hn : n ≤ 1048576) : ∃ w', (Instr.makeSlice 85 (.int .i64 ((n : Int) + 1)) (.int .i64 ((n : Int) + 1))).run Tryd.prog w = .ok (.slice (some ⟨w.heap.size, 0, none⟩) (n + 1) (n + 1)) w' ∧ BoolsAt w' w.heap.size n (fun _ => false) ∧ G w w' := by
  obtain ⟨i, z, h1, h2, h3, h4, _⟩ := bool_elem.info
  have hr := run_make (P := Tryd.prog) w 85 4 i z bool_elem.under h1 h2 .i64 .i64 ((n + 1 : Nat) : Int) ((n + 1 : Nat) : Int) (by omega) (by omega) (by rw [h4]; omega) (by omega)
  simp only [Int.toNat_natCast, h3, Nat.mul_one] at hr
  rw [show ((n + 1 : Nat) : Int) = (n : Int) + 1 by omega] at hr
  have hz : z.cells = #[.bool false] := by
    have h5 : (Tryd.prog.info? 4).bind (·.zero) = some (.bool false) := by kernel_rfl
    rw [h1] at h5
    simp only [Option.bind_some, h2] at h5
    cases h5
    rfl
  refine ⟨_, hr, ⟨_, heap_alloc_new w _, by simp [size_madeCells], fun j hj => ?_⟩, (G.refl w).alloc _⟩
  have hj2 : j < n + 1 := by omega
  simp [madeCells, hz, hj2, Nat.mod_one]
/-- How Match's memory stands: its pieces' slice, its bools' slice, its bools, its pieces. -/
structure MatchSt (base L M B : Nat) (A : Option Addr) (n c : Nat) (ms : List PcM) (g : Nat → Bool) (wr : World) : Prop where
  l : wr.heap[L]? = some (.cells #[.slice A n c] 100 (0, 0))
  m : wr.heap[M]? = some (.cells #[.slice (some ⟨B, 0, none⟩) (n + 1) (n + 1)] 85 (0, 0))
  b : BoolsAt wr B n g
  ps : PcsAt wr base A n c ms
section
variable {base L M B n c : Nat} {A : Option Addr} {ms : List PcM} {g g' : Nat → Bool} {w w' : World}
theorem MatchSt.but {S : Nat → Prop} (h : MatchSt base L M B A n c ms g w) (hb : But S w w') (hS : ∀ (k : Nat) (cs : Array Value) (t : TypeId), w.heap[k]? = some (.cells cs t (0, 0)) → ¬ S k) : MatchSt base L M B A n c ms g w' := by
  refine ⟨hb.blk h.l (hS _ _ _ h.l), hb.blk h.m (hS _ _ _ h.m), ?_, h.ps.1, h.ps.2.1.but' hb fun k hk => ?_, fun m hm => (h.ps.2.2 m hm).but' hb fun k hk => ?_⟩
  · have h1 := h.b
    obtain ⟨cs, h2, _⟩ := h1
    exact h.b.but hb (hS _ _ _ h2)
  · obtain ⟨_, _, cs, h1⟩ := h.ps.2.1.blk hk
    exact hS _ _ _ h1
  · obtain ⟨_, _, cs, h1⟩ := (h.ps.2.2 m hm).blk hk
    exact hS _ _ _ h1
theorem MatchSt.grow (h : MatchSt base L M B A n c ms g w) (hg : G w w') : MatchSt base L M B A n c ms g w' := h.but (S := fun _ => False) (.of_g hg) (fun _ _ _ _ e => e)
theorem MatchSt.butB (h : MatchSt base L M B A n c ms g w) (hb : But (fun k => k = B) w w') (h2 : BoolsAt w' B n g') : MatchSt base L M B A n c ms g' w' := by
  obtain ⟨bs, hB, _⟩ := h.b
  have key : ∀ (k : Nat) (cs : Array Value) (t : TypeId), w.heap[k]? = some (.cells cs t (0, 0)) → t ≠ 4 → k ≠ B := fun k cs t h1 ht e => by
    rw [e, hB] at h1
    cases h1
    exact ht rfl
  refine ⟨hb.blk h.l (key _ _ _ h.l (by decide)), hb.blk h.m (key _ _ _ h.m (by decide)), h2, h.ps.1, h.ps.2.1.but' hb fun k hk => ?_, fun m hm => (h.ps.2.2 m hm).but' hb fun k hk => ?_⟩
  · obtain ⟨_, _, cs, h1⟩ := h.ps.2.1.blk hk
    exact key _ _ _ h1 (by decide)
  · obtain ⟨_, _, cs, h1⟩ := (h.ps.2.2 m hm).blk hk
    exact key _ _ _ h1 (by decide)
theorem MatchSt.set (h : MatchSt base L M B A n c ms g w) (j : Nat) (v : Bool) : MatchSt base L M B A n c ms (upd g j v) (w.setCell ⟨B, j, none⟩ (.bool v)) := h.butB (but_set w B j _) (h.b.set j v)
theorem MatchSt.lc (h : MatchSt base L M B A n c ms g w) : w.cell? ⟨L, 0, none⟩ = some (.slice A n c) := (blk_cell h.l 0).trans rfl
theorem MatchSt.mc (h : MatchSt base L M B A n c ms g w) : w.cell? ⟨M, 0, none⟩ = some (.slice (some ⟨B, 0, none⟩) (n + 1) (n + 1)) := (blk_cell h.m 0).trans rfl
theorem MatchSt.pc (h : MatchSt base L M B A n c ms g w) {k : Nat} {m : PcM} (hm : ms[k]? = some m) :
    ∃ b o, A = some ⟨b, o, none⟩ ∧ w.cell? ⟨b, o + k * 4, none⟩ = some (.int .i64 m.p.kind) ∧ w.cell? ⟨b, o + k * 4 + 1, none⟩ = some (.int .i32 m.p.r) ∧ w.cell? ⟨b, o + k * 4 + 2, none⟩ = some (.slice m.A m.p.set.length m.c) ∧ w.cell? ⟨b, o + k * 4 + 3, none⟩ = some (.bool m.p.none) := by
  have h1 := h.ps.2.1
  rw [h.ps.1] at h1
  obtain ⟨b, o, e, _, h2⟩ := (OwnL.self PcM.cells_len h1).get hm
  exact ⟨b, o, e, h2 0 _ rfl, h2 1 _ rfl, h2 2 _ rfl, h2 3 _ rfl⟩
theorem MatchSt.congr (h : MatchSt base L M B A n c ms g w) (hg : ∀ i, i ≤ n → g i = g' i) : MatchSt base L M B A n c ms g' w := ⟨h.l, h.m, h.b.congr hg, h.ps⟩
end
/-- The bools behind k rounds of pass. -/
def passK (ps : List Pc) (f : Nat → Bool) (k : Nat) (j : Nat) : Bool := if j ≤ k then passB ps f j else f j
theorem passK_keep {ps : List Pc} {f : Nat → Bool} {k : Nat} (h : passB ps f (k + 1) = f (k + 1)) (j : Nat) : passK ps f k j = passK ps f (k + 1) j := by
  unfold passK
  by_cases h1 : j ≤ k
  · rw [if_pos h1, if_pos (by omega)]
  · rw [if_neg h1]
    by_cases h2 : j ≤ k + 1
    · obtain rfl : j = k + 1 := by omega
      rw [if_pos h2, h]
    · rw [if_neg h2]
theorem passK_set {ps : List Pc} {f : Nat → Bool} {k : Nat} (h : passB ps f (k + 1) = true) (j : Nat) : upd (passK ps f k) (k + 1) true j = passK ps f (k + 1) j := by
  unfold upd passK
  by_cases h0 : j = k + 1
  · subst h0
    rw [if_pos rfl, if_pos (Nat.le_refl _), h]
  · rw [if_neg h0]
    by_cases h1 : j ≤ k
    · rw [if_pos h1, if_pos (by omega)]
    · rw [if_neg h1, if_neg (by omega)]
theorem passK_zero (ps : List Pc) (f : Nat → Bool) (j : Nat) : passK ps f 0 j = f j := by
  unfold passK
  split
  · obtain rfl : j = 0 := by omega
    rfl
  · rfl
theorem passK_all (ps : List Pc) (f : Nat → Bool) {n j : Nat} (h : j ≤ n) : passK ps f n j = passB ps f j := if_pos h
set_option maxRecDepth 100000 in
set_option maxHeartbeats 2000000 in
theorem pass_any (base L M B : Nat) (A : Option Addr) (n c : Nat) (ms : List PcM) (f : Nat → Bool) (w : World) (hn : n ≤ 1073741824) (h : MatchSt base L M B A n c ms f w) :
    Calls Tryd.prog 56 #[.pointer (some ⟨L, 0, none⟩), .pointer (some ⟨M, 0, none⟩)] w fun e w' => e = .returned (.tuple #[]) ∧ BoolsAt w' B n (passB (ms.map PcM.p) f) ∧ But (fun k => k = B) w w' := by
  have hnm := h.ps.1
  have l0 := h.lc
  replace h := Lib.hid h
  replace hnm := Lib.hid hnm
  go_enter Tryd.func56, Tryd.ntmps56
  go_wp2_with fail
  clear l0
  go_loopw [6] (fun i wr => ∃ k : Nat, k ≤ n ∧ i = .int .i64 k ∧ Hid (MatchSt base L M B A n c ms (passK (ms.map PcM.p) f k) wr) ∧ Hid (But (fun k => k = B) w wr)) (fun i _ => n - (intOf i).toNat)
  case atStart => exact ⟨0, Nat.zero_le _, rfl, h.out.congr fun i _ => (passK_zero _ _ _).symm, But.refl _ _⟩
  case round =>
    obtain ⟨k, hk, rfl, hst, hbt⟩ := hrel
    by_cases hlt : k < n
    · obtain ⟨m, hm⟩ : ∃ m, ms[k]? = some m := ⟨_, List.getElem?_eq_getElem (by rw [← hnm.out]; exact hlt)⟩
      obtain ⟨b, o, rfl, c0, c1, c2, c3⟩ := hst.out.pc hm
      have hpk : (ms.map PcM.p)[k]? = some m.p := by rw [List.getElem?_map, hm]; rfl
      have hps := passB_succ (f := f) hpk
      obtain ⟨⟨k0, r0, st, no⟩, Am, cm⟩ := m
      dsimp only at c0 c1 c2 c3 hps
      have hst1 := hst.out.grow (G.new wr (.cells #[.int .i64 k0, .int .i32 r0, .slice Am st.length cm, .bool no] 112))
      have m0 := hst1.mc
      have b0 := hst1.b.cell (i := k) (by omega)
      have b1 := hst1.b.cell (i := k + 1) (by omega)
      have bf := hst1.b.free (k + 1)
      have hbt1 := hbt.out.g (G.new wr (.cells #[.int .i64 k0, .int .i32 r0, .slice Am st.length cm, .bool no] 112))
      rw [show passK (ms.map PcM.p) f k k = passB (ms.map PcM.p) f k from passK_all _ _ (Nat.le_refl _)] at b0
      have n1 : (0 : Int) ≤ (k : Int) := by omega
      have n2 : (k : Int) < (n : Int) := by omega
      have n3 : (k : Int) < (n : Int) + 1 := by omega
      clear hm hpk
      by_cases h1 : k0 = 1
      · have hany : Pc.any ⟨k0, r0, st, no⟩ = true := decide_eq_true h1
        rw [hany, Bool.true_and] at hps
        have t1 : ((k0 : Int) == 1) = true := by rw [beq_iff_eq]; omega
        replace h1 := Lib.hid h1
        cases hv : passB (ms.map PcM.p) f k with
        | true =>
          rw [hv] at b0 hps
          rw [Bool.or_true] at hps
          have hst2 := (hst1.set (k + 1) true).congr (fun j _ => passK_set hps j)
          have hbt2 := hbt1.trans (but_set _ B (k + 1) (.bool true))
          replace hst2 := Lib.hid hst2
          replace hbt2 := Lib.hid hbt2
          replace hst1 := Lib.hid hst1
          replace hbt1 := Lib.hid hbt1
          replace hv := Lib.hid hv
          clear hps hst hbt
          go_wp2_with fail
          go_roundw
          case rel => exact ⟨k + 1, by omega, by go_num, hst2, hbt2⟩
          case measure => (simp [intOf] <;> omega)
        | false =>
          rw [hv] at b0 hps
          rw [Bool.or_false] at hps
          have hst2 := hst1.congr (fun j _ => passK_keep hps j)
          have hbt2 := Lib.hid hbt1
          replace hst2 := Lib.hid hst2
          replace hst1 := Lib.hid hst1
          replace hbt1 := Lib.hid hbt1
          replace hv := Lib.hid hv
          clear hps hst hbt
          go_wp2_with fail
          go_roundw
          case rel => exact ⟨k + 1, by omega, by go_num, hst2, hbt2⟩
          case measure => (simp [intOf] <;> omega)
      · have hany : Pc.any ⟨k0, r0, st, no⟩ = false := decide_eq_false h1
        rw [hany, Bool.false_and, Bool.or_false] at hps
        have t1 : ((k0 : Int) == 1) = false := by rw [beq_eq_false_iff_ne]; omega
        have hst2 := hst1.congr (fun j _ => passK_keep hps j)
        have hbt2 := Lib.hid hbt1
        replace hst2 := Lib.hid hst2
        replace hst1 := Lib.hid hst1
        replace hbt1 := Lib.hid hbt1
        replace h1 := Lib.hid h1
        clear hps hst hbt
        go_wp2_with fail
        go_roundw
        case rel => exact ⟨k + 1, by omega, by go_num, hst2, hbt2⟩
        case measure => (simp [intOf] <;> omega)
    · have hfin : BoolsAt wr B n (passB (ms.map PcM.p) f) := (hst.out.b).congr fun i hi => by
        obtain rfl : k = n := by omega
        exact passK_all _ _ hi
      replace hfin := Lib.hid hfin
      clear hst
      go_wp2_with fail
      first
      | (go_end0; exact ⟨rfl, hfin.out, hbt.out⟩)
      | (go_ret; exact ⟨rfl, hfin.out, hbt.out⟩)
end Go.Proofs.YthhhobfdlgmjlaaDoor

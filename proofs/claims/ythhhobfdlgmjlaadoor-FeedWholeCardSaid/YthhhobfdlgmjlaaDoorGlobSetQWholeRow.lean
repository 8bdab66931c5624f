/- glob's reader: unit, set. Condition: at most 2^30 runes. -/
import Derived.Test.YthhhobfdlgmjlaaDoorGlobReadQWholeRow
namespace Go.Proofs.YthhhobfdlgmjlaaDoor
open Go.RowKit

set_option maxRecDepth 100000 in
set_option maxHeartbeats 1000000 in
theorem unit_any (R : Nat) (A : Option Addr) (c8 : Nat) (ls l : List Nat) (b : Bool) (w : World) (h : RdTo R A c8 ls l b w) (hl : ls.length ≤ 1073741824) (first : Bool) :
    Calls Tryd.prog 76 #[.pointer (some ⟨R, 0, none⟩), .bool first] w fun e w' => e = .returned (.int .i32 (unitS first l b).1) ∧ RdTo R A c8 ls (unitS first l b).2.1 (unitS first l b).2.2 w' ∧ But (fun k => k = R) w w' := by
  have hn := next_any R A c8 ls l b w h hl
  obtain ⟨x, l1, b1, hx⟩ : ∃ x l1 b1, nx l b = (x, l1, b1) := ⟨_, _, _, rfl⟩
  rw [hx] at hn
  dsimp only at hn
  have hu : unitS first l b = if x = 92 then nx l1 b1 else if x = 45 then (45, l1, b1 || (!first && !isC 93 0 l1)) else (x, l1, b1) := by
    unfold unitS
    rw [hx]
  have h45 : x = 45 → b1 = false := by
    rintro rfl
    cases b with
    | true => rw [nx_bad] at hx; cases hx
    | false =>
      rcases l with _ | ⟨d, l⟩
      · cases hx
      · cases hx; rfl
  clear h hx
  by_cases h92 : x = 92
  · rw [hu, if_pos h92]
    have t1 : ((x : Int) == 92) = true := by rw [beq_iff_eq]; omega
    clear hu h92 h45
    go_enter Tryd.func76, Tryd.ntmps76
    go_wp2_with fail
    refine hn.mono ?_
    clear hn
    rintro e w1 ⟨rfl, hr, hb⟩
    have hn2 := next_any R A c8 ls l1 b1 w1 hr hl
    replace hb := Lib.hid hb
    clear hr
    go_wp2_with fail
    refine hn2.mono ?_
    clear hn2
    rintro e w2 ⟨rfl, hr2, hb2⟩
    replace hr2 := Lib.hid hr2
    replace hb2 := Lib.hid hb2
    go_wp2_with fail
    go_ret
    exact ⟨rfl, hr2.out, hb.out.trans hb2.out⟩
  · rw [hu, if_neg h92]
    have t1 : ((x : Int) == 92) = false := by rw [beq_eq_false_iff_ne]; omega
    by_cases hx45 : x = 45
    · rw [if_pos hx45]
      obtain rfl := h45 hx45
      have t2 : ((x : Int) == 45) = true := by rw [beq_iff_eq]; omega
      replace hx45 := Lib.hid hx45
      clear hu h92 h45
      go_enter Tryd.func76, Tryd.ntmps76
      go_wp2_with fail
      refine hn.mono ?_
      clear hn
      rintro e w1 ⟨rfl, hr, hb⟩
      cases first with
      | true =>
        obtain ⟨p, hp1, hp2, hp3⟩ := hr
        have c2 := hp3.c2
        have f2 := hp3.free 2
        have hend := RdTo.bad ⟨p, hp1, hp2, hp3⟩ false
        have hbut := hb.trans (but_set w1 R 2 (.bool false))
        replace hend := Lib.hid hend
        replace hbut := Lib.hid hbut
        clear hp1 hp2 hp3 hb
        go_wp2_with fail
        go_ret
        exact ⟨by rw [hx45.out]; rfl, hend.out, hbut.out⟩
      | false =>
        have hi := is_any R A c8 ls l1 false w1 hr hl 93 0 93 0 rfl rfl (by omega)
        obtain ⟨p, hp1, hp2, hp3⟩ := hr
        have c2 := hp3.c2
        replace hp2 := Lib.hid hp2
        replace hp3 := Lib.hid hp3
        replace hb := Lib.hid hb
        go_wp2_with fail
        refine hi.mono ?_
        clear hi
        rintro e w2 ⟨rfl, hg2⟩
        have h2 := hp3.out.g hg2
        have d2 := h2.c2
        have f2 := h2.free 2
        have hend := RdTo.bad ⟨p, hp1, hp2.out, h2⟩ (!isC 93 0 l1)
        have hbut := (hb.out.g hg2).trans (but_set w2 R 2 (.bool (!isC 93 0 l1)))
        generalize hq : isC 93 0 l1 = q at *
        replace hq := Lib.hid hq
        replace hend := Lib.hid hend
        replace hbut := Lib.hid hbut
        clear h2 hb hp3 c2 hg2
        cases q with
        | true =>
          go_wp2_with fail
          go_ret
          exact ⟨by rw [hx45.out]; rfl, by rw [hq.out]; exact hend.out, hbut.out⟩
        | false =>
          go_wp2_with fail
          go_ret
          exact ⟨by rw [hx45.out]; rfl, by rw [hq.out]; exact hend.out, hbut.out⟩
    · rw [if_neg hx45]
      have t2 : ((x : Int) == 45) = false := by rw [beq_eq_false_iff_ne]; omega
      clear hu h92 h45 hx45
      go_enter Tryd.func76, Tryd.ntmps76
      go_wp2_with fail
      refine hn.mono ?_
      clear hn
      rintro e w1 ⟨rfl, hr, hb⟩
      replace hr := Lib.hid hr
      replace hb := Lib.hid hb
      go_wp2_with fail
      go_ret
      exact ⟨rfl, hr.out, hb.out⟩
def spanC (s : Nat × Nat) : List Value := [.int .i32 s.1, .int .i32 s.2]
theorem spanC_len (s : Nat × Nat) : (spanC s).length = 2 := rfl
theorem span_elem : IsElem Tryd.prog 110 124 2 8 spanC :=
  isElem_of (z := .agg #[.int .i32 0, .int .i32 0]) Tryd.underlying110 (by kernel_rfl) rfl (by omega) spanC_len (by intro x u hu; simp [spanC] at hu; rcases hu with rfl | rfl <;> rfl)
theorem But.keepT {S : Nat → Prop} {a b c : World} {e : TypeId} (h : But S a b) (k : KeepT e a.heap.size b c) : But S a c :=
  ⟨k.1.os.trans h.os, k.1.tape.trans h.tape, k.1.output.trans h.output, Nat.le_trans h.size k.1.size, fun i hi hS => (k.1.block i hi).trans (h.block i hi hS)⟩
theorem But.stc {S : Nat → Prop} {a : World} : ∀ {w : World} (_ : But S a w) (g : Nat) (_ : a.heap.size ≤ g ∨ S g) (us : List Value) (o : Nat), But S a (stc w g o us)
  | _, h, _, _, [], _ => h
  | _, h, g, hg, u :: us, o => But.stc (h.set (p := ⟨g, o, none⟩) hg u) g hg us (o + 1)
/-- The cells of a set that is read. -/
def setCs (A2 : Option Addr) (n c2 : Nat) (no : Bool) : Array Value := #[.int .i64 3, .int .i32 0, .slice A2 n c2, .bool no]
def SetPost (R : Nat) (A : Option Addr) (c8 : Nat) (ls : List Nat) (w : World) (S : List (Nat × Nat)) (no : Bool) (l' : List Nat) (b' : Bool) (e : Ending) (w' : World) : Prop :=
  ∃ A2 c2, e = .returned (.agg (setCs A2 S.length c2 no)) ∧ OwnL 124 2 spanC w' w.heap.size (.slice A2 S.length c2) S ∧ RdTo R A c8 ls l' b' w' ∧ But (fun k => k = R) w w'
/-- How the round over a set stands. -/
structure SetSt (R : Nat) (A : Option Addr) (c8 : Nat) (ls : List Nat) (w : World) (no : Bool) (F : List (Nat × Nat) × List Nat × Bool) (n : Nat) (set : List (Nat × Nat)) (l : List Nat) (b : Bool) (A2 : Option Addr) (c2 : Nat) (wr : World) : Prop where
  fin : setF n set l b = F
  fuel : l.length + 2 ≤ n + (if b = true then 1 else 0)
  few : set.length + n ≤ 1073741826
  blk : wr.heap[w.heap.size + 1]? = some (.cells (setCs A2 set.length c2 no) 112 (0, 0))
  res : ∃ cs, wr.heap[w.heap.size]? = some (.cells cs 112 (0, 0)) ∧ cs.size = 4
  own : OwnL 124 2 spanC wr w.heap.size (.slice A2 set.length c2) set
  rd : RdTo R A c8 ls l b wr
  but : But (fun k => k = R) w wr
theorem SetSt.over {R : Nat} {A : Option Addr} {c8 : Nat} {ls : List Nat} {w : World} {no : Bool} {F : List (Nat × Nat) × List Nat × Bool} {n : Nat} {set : List (Nat × Nat)} {l : List Nat} {b : Bool} {A2 : Option Addr} {c2 : Nat} {wr : World}
    (h : SetSt R A c8 ls w no F n set l b A2 c2 wr) (he : b = true ∨ isC 93 0 l = true) : F = (set, l, b) := by
  obtain ⟨m, rfl⟩ : ∃ m, n = m + 1 := ⟨n - 1, by have := h.fuel; split at this <;> omega⟩
  rw [← h.fin, setF]
  cases b with
  | true => rfl
  | false =>
    rcases he with he | he
    · cases he
    · rw [if_neg (by simp), if_pos he]
set_option maxRecDepth 100000 in
set_option maxHeartbeats 4000000 in
theorem set_any (R : Nat) (A : Option Addr) (c8 : Nat) (ls l : List Nat) (b : Bool) (w : World) (h : RdTo R A c8 ls l b w) (hl : ls.length ≤ 1073741824) (hll : l.length ≤ 1073741824) :
    Calls Tryd.prog 70 #[.pointer (some ⟨R, 0, none⟩)] w (SetPost R A c8 ls w (setS l b).1.set (setS l b).1.none (setS l b).2.1 (setS l b).2.2) := by
  have hRw : R < w.heap.size := by obtain ⟨_, _, _, h1⟩ := h; exact h1.lt
  obtain ⟨no, hno⟩ : ∃ no, isC 94 0 l = no := ⟨_, rfl⟩
  obtain ⟨l1, b1, hl1⟩ : ∃ l1 b1, (if no = true then (nx l b).2 else (l, b)) = (l1, b1) := ⟨_, _, rfl⟩
  have hS : setS l b = (⟨3, 0, (setF (l.length + 2) [] l1 b1).1, no⟩, (nx (setF (l.length + 2) [] l1 b1).2.1 (setF (l.length + 2) [] l1 b1).2.2).2.1, (nx (setF (l.length + 2) [] l1 b1).2.1 (setF (l.length + 2) [] l1 b1).2.2).2.2 || (setF (l.length + 2) [] l1 b1).1.isEmpty) := by
    unfold setS
    dsimp only
    rw [hno, hl1]
  have hll1 : l1.length ≤ l.length := by
    cases no with
    | true => rw [if_pos rfl] at hl1; have := (nx_le l b).1; rw [hl1] at this; exact this
    | false => rw [if_neg (by simp)] at hl1; cases hl1; exact Nat.le_refl _
  rw [hS]
  dsimp only
  generalize hF : setF (l.length + 2) [] l1 b1 = F at *
  replace hF := Lib.hid hF
  replace hS := Lib.hid hS
  have hi := is_any R A c8 ls l b ((w.alloc (.cells #[.int .i64 0, .int .i32 0, .slice none 0 0, .bool false] 112)).alloc (.cells #[.int .i64 3, .int .i32 0, .slice none 0 0, .bool false] 112)) (h.g ((G.new _ _).alloc _)) hl 94 0 94 0 rfl rfl (by omega)
  rw [hno] at hi
  go_enter Tryd.func70, Tryd.ntmps70
  go_wp2_with fail
  refine hi.mono ?_
  clear hi
  rintro e w1 ⟨rfl, hg1⟩
  have hW : ((w.alloc (.cells #[.int .i64 0, .int .i32 0, .slice none 0 0, .bool false] 112)).alloc (.cells #[.int .i64 3, .int .i32 0, .slice none 0 0, .bool false] 112)).heap.size = w.heap.size + 2 := by simp
  have hP1 : w1.heap[w.heap.size + 1]? = some (.cells (setCs none 0 0 false) 112 (0, 0)) := hg1.blk (blk_new' _ _ _ _ (by simp))
  have hQ1 : w1.heap[w.heap.size]? = some (.cells #[.int .i64 0, .int .i32 0, .slice none 0 0, .bool false] 112 (0, 0)) := hg1.blk ((G.new _ _).blk (blk_new' _ _ _ _ rfl))
  have hG1 : G w w1 := ((G.new _ _).alloc _).trans hg1
  have hr1 := h.g hG1
  have hz1 := hg1.size
  rw [hW] at hz1
  clear hg1 hW
  -- both ways to the loop
  cases no with
  | true =>
    rw [if_pos rfl] at hl1
    have hn := next_any R A c8 ls l b w1 hr1 hl
    rw [hl1] at hn
    dsimp only at hn
    replace hr1 := Lib.hid hr1
    replace hP1 := Lib.hid hP1
    replace hQ1 := Lib.hid hQ1
    clear hl1
    go_wp2_with fail
    refine hn.mono ?_
    clear hn
    rintro e w2 ⟨rfl, hr2, hb2⟩
    have hP2 : w2.heap[w.heap.size + 1]? = some (.cells (setCs none 0 0 false) 112 (0, 0)) := hb2.blk hP1.out (by omega)
    have hQ2 := hb2.blk hQ1.out (by omega)
    have f3 : w2.frozen? ⟨w.heap.size + 1, 3, none⟩ = false := by simp [World.frozen?, hP2]
    have d3 : w2.cell? ⟨w.heap.size + 1, 3, none⟩ = some (.bool false) := by rw [blk_cell hP2]; rfl
    have hz2 : w.heap.size + 2 ≤ w2.heap.size := Nat.le_trans hz1 hb2.size
    have hst : SetSt R A c8 ls w true F (l.length + 2) [] l1 b1 none 0 (w2.setCell ⟨w.heap.size + 1, 3, none⟩ (.bool true)) := by
      have hbs := but_set w2 (w.heap.size + 1) 3 (.bool true)
      refine ⟨hF.out, by omega, by simp; omega, ?_, ⟨_, hbs.blk hQ2 (by omega), rfl⟩, OwnL.nil, hr2.but hbs (by omega) (by omega), ((But.of_g hG1).trans hb2).set (p := ⟨w.heap.size + 1, 3, none⟩) (.inl (by simp)) _⟩
      rw [blk_put hP2]; rfl
    replace hst := Lib.hid hst
    clear hr2 hb2 hP2 hQ2 hz2 hG1 hP1 hQ1 hr1 hz1
    go_wp2_with fail
    go_loopg [4] (l.length + 2) (fun n v wr => ∃ set l' b' A2 c2, Hid (SetSt R A c8 ls w true F n set l' b' A2 c2 wr))
    case atStart => exact ⟨[], l1, b1, none, 0, hst⟩
    case round =>
      clear hst
      obtain ⟨set, l', b', A2, c2, hst⟩ := hrel
      have hrd := hst.out.rd
      obtain ⟨p, _, _, hrp⟩ := hst.out.rd
      have d2 := hrp.c2
      clear hrp
      cases b' with
      | true =>
        clear hrd
        go_wp2_with fail
        obtain rfl : F = (set, l', true) := hst.out.over (.inl rfl)
        have hn := next_any R A c8 ls l' true wr (hst.out.rd.g (G.refl wr)) hl
        have hP := (G.refl wr).blk hst.out.blk
        obtain ⟨cs, hQ, hcs⟩ := hst.out.res
        replace hQ := (G.refl wr).blk hQ
        have hbut := hst.out.but.g (G.refl wr)
        have hown := hst.out.own.g (G.refl wr)
        have hfew := hst.out.few
        have hlen : set.length ≤ 1073741826 := by omega
        clear hfew
        obtain ⟨b6, hb6⟩ : ∃ b6, (nx l' true).2.2 = b6 := ⟨_, rfl⟩
        rw [hb6] at hn
        obtain ⟨E, hE⟩ : ∃ E, set.isEmpty = E := ⟨_, rfl⟩
        have hE2 : ((set.length : Int) == 0) = E := by
          rw [← hE]
          cases set with
          | nil => rfl
          | cons a s => rw [beq_eq_false_iff_ne.2 (by simp; omega)]; rfl
        replace hE := Lib.hid hE
        replace hb6 := Lib.hid hb6
        replace hP := Lib.hid hP
        replace hQ := Lib.hid hQ
        replace hown := Lib.hid hown
        go_wp2_with fail
        refine hn.mono ?_
        clear hn
        rintro e w6 ⟨rfl, hr6, hb7⟩
        have hP6 := hb7.blk hP.out (by omega)
        have hQ6 := hb7.blk hQ.out (by omega)
        have hown6 : OwnL 124 2 spanC w6 w.heap.size (.slice A2 set.length c2) set := hown.out.but' hb7 (fun k hk => by have := (hown.out.blk hk).1; omega)
        have hend := hr6.bad (b6 || E)
        have hbut6 := (hbut.trans hb7).trans (but_set w6 R 2 (.bool (b6 || E)))
        obtain ⟨p6, hp61, hp62, hp63⟩ := hr6
        have d2 := hp63.c2
        have f2 := hp63.free 2
        clear hp61 hp62 hp63
        have hP7 := (but_set w6 R 2 (.bool (b6 || E))).blk hP6 (by omega)
        have hQ7 := (but_set w6 R 2 (.bool (b6 || E))).blk hQ6 (by omega)
        have hown7 : OwnL 124 2 spanC (w6.setCell ⟨R, 2, none⟩ (.bool (b6 || E))) w.heap.size (.slice A2 set.length c2) set := hown6.but' (but_set w6 R 2 _) (fun k hk => by have := (hown6.blk hk).1; omega)
        have p0 := (blk_cell hP7 0).trans (show _ = some (.int .i64 3) from rfl)
        have p1 := (blk_cell hP7 1).trans (show _ = some (.int .i32 0) from rfl)
        have p2 := (blk_cell hP7 2).trans (show _ = some (.slice A2 set.length c2) from rfl)
        have p3 := (blk_cell hP7 3).trans (show _ = some (.bool true) from rfl)
        have k2 := (blk_cell hP6 2).trans (show _ = some (.slice A2 set.length c2) from rfl)
        have fq : ∀ o, (w6.setCell ⟨R, 2, none⟩ (.bool (b6 || E))).frozen? ⟨w.heap.size, o, none⟩ = false := fun o => by simp [World.frozen?, hQ7]
        have fq0 := fq 0
        have fq1 := fq 1
        have fq2 := fq 2
        have fq3 := fq 3
        have cq : ∀ o, o < 4 → ∃ u, (w6.setCell ⟨R, 2, none⟩ (.bool (b6 || E))).cell? ⟨w.heap.size, o, none⟩ = some u := fun o ho => by rw [blk_cell hQ7]; exact ⟨_, Array.getElem?_eq_getElem (by rw [hcs]; exact ho)⟩
        obtain ⟨u0, cq0⟩ := cq 0 (by omega)
        obtain ⟨u1, cq1⟩ := cq 1 (by omega)
        obtain ⟨u2, cq2⟩ := cq 2 (by omega)
        obtain ⟨u3, cq3⟩ := cq 3 (by omega)
        clear fq cq
        have hQ8 := stc_blk [.int .i64 3, .int .i32 0, .slice A2 set.length c2, .bool true] hQ7 (by rw [hcs]; rfl)
        have e0 := (blk_cell hQ8 0).trans (show _ = some (.int .i64 3) from rfl)
        have e1 := (blk_cell hQ8 1).trans (show _ = some (.int .i32 0) from rfl)
        have e2 := (blk_cell hQ8 2).trans (show _ = some (.slice A2 set.length c2) from rfl)
        have e3 := (blk_cell hQ8 3).trans (show _ = some (.bool true) from rfl)
        have hb8 := stc_but (fun k => k = w.heap.size) w.heap.size rfl [.int .i64 3, .int .i32 0, .slice A2 set.length c2, .bool true] _ _ 0 (But.refl _ (w6.setCell ⟨R, 2, none⟩ (.bool (b6 || E))))
        have hend8 := hend.but hb8 (by omega) (by omega)
        have hown8 := hown7.but' hb8 (fun k hk e => by
          obtain ⟨_, _, cs2, h2⟩ := hown7.blk hk
          rw [e, hQ7] at h2
          cases h2)
        have hsl8 := hown8
        have hbut8 := hbut6.stc w.heap.size (.inl (Nat.le_refl _)) [.int .i64 3, .int .i32 0, .slice A2 set.length c2, .bool true] 0
        simp only [stc, Nat.reduceAdd] at e0 e1 e2 e3 hend8 hsl8 hbut8
        replace hend8 := Lib.hid hend8
        replace hsl8 := Lib.hid hsl8
        replace hbut8 := Lib.hid hbut8
        clear hend hbut6 hown6 hown7 hown8 hQ8 hb8 hP6 hQ6 hP7 hQ7 hb7 hbut
        replace e0 := Lib.hid e0
        replace e1 := Lib.hid e1
        replace e2 := Lib.hid e2
        replace e3 := Lib.hid e3
        cases b6 with
        | true =>
          simp only [Bool.true_or] at *
          go_wp2_with fail
          have e0 := e0.out
          have e1 := e1.out
          have e2 := e2.out
          have e3 := e3.out
          refine bodyPost_ret (v := .agg (setCs A2 set.length c2 true)) (by simp [results, Tryd.results70, setCs, go_sem, e0, e1, e2, e3]) rfl ?_
          exact ⟨A2, c2, rfl, hsl8.out, by rw [hb6.out, hE.out]; exact hend8.out, hbut8.out⟩
        | false =>
          simp only [Bool.false_or] at *
          go_wp2_with fail
          have e0 := e0.out
          have e1 := e1.out
          have e2 := e2.out
          have e3 := e3.out
          refine bodyPost_ret (v := .agg (setCs A2 set.length c2 true)) (by simp [results, Tryd.results70, setCs, go_sem, e0, e1, e2, e3]) rfl ?_
          exact ⟨A2, c2, rfl, hsl8.out, by rw [hb6.out, hE.out]; exact hend8.out, hbut8.out⟩
      | false =>
        have hi := is_any R A c8 ls l' false wr hrd hl 93 0 93 0 rfl rfl (by omega)
        replace hrd := Lib.hid hrd
        cases hq : isC 93 0 l' with
        | true =>
          rw [hq] at hi
          replace hq := Lib.hid hq
          go_wp2_with fail
          refine hi.mono ?_
          clear hi
          rintro e w3 ⟨rfl, hg3⟩
          go_wp2_with fail
          obtain rfl : F = (set, l', false) := hst.out.over (.inr hq.out)
          have hn := next_any R A c8 ls l' false w3 (hst.out.rd.g (hg3)) hl
          have hP := (hg3).blk hst.out.blk
          obtain ⟨cs, hQ, hcs⟩ := hst.out.res
          replace hQ := (hg3).blk hQ
          have hbut := hst.out.but.g (hg3)
          have hown := hst.out.own.g (hg3)
          have hfew := hst.out.few
          have hlen : set.length ≤ 1073741826 := by omega
          clear hfew
          obtain ⟨b6, hb6⟩ : ∃ b6, (nx l' false).2.2 = b6 := ⟨_, rfl⟩
          rw [hb6] at hn
          obtain ⟨E, hE⟩ : ∃ E, set.isEmpty = E := ⟨_, rfl⟩
          have hE2 : ((set.length : Int) == 0) = E := by
            rw [← hE]
            cases set with
            | nil => rfl
            | cons a s => rw [beq_eq_false_iff_ne.2 (by simp; omega)]; rfl
          replace hE := Lib.hid hE
          replace hb6 := Lib.hid hb6
          replace hP := Lib.hid hP
          replace hQ := Lib.hid hQ
          replace hown := Lib.hid hown
          go_wp2_with fail
          refine hn.mono ?_
          clear hn
          rintro e w6 ⟨rfl, hr6, hb7⟩
          have hP6 := hb7.blk hP.out (by omega)
          have hQ6 := hb7.blk hQ.out (by omega)
          have hown6 : OwnL 124 2 spanC w6 w.heap.size (.slice A2 set.length c2) set := hown.out.but' hb7 (fun k hk => by have := (hown.out.blk hk).1; omega)
          have hend := hr6.bad (b6 || E)
          have hbut6 := (hbut.trans hb7).trans (but_set w6 R 2 (.bool (b6 || E)))
          obtain ⟨p6, hp61, hp62, hp63⟩ := hr6
          have d2 := hp63.c2
          have f2 := hp63.free 2
          clear hp61 hp62 hp63
          have hP7 := (but_set w6 R 2 (.bool (b6 || E))).blk hP6 (by omega)
          have hQ7 := (but_set w6 R 2 (.bool (b6 || E))).blk hQ6 (by omega)
          have hown7 : OwnL 124 2 spanC (w6.setCell ⟨R, 2, none⟩ (.bool (b6 || E))) w.heap.size (.slice A2 set.length c2) set := hown6.but' (but_set w6 R 2 _) (fun k hk => by have := (hown6.blk hk).1; omega)
          have p0 := (blk_cell hP7 0).trans (show _ = some (.int .i64 3) from rfl)
          have p1 := (blk_cell hP7 1).trans (show _ = some (.int .i32 0) from rfl)
          have p2 := (blk_cell hP7 2).trans (show _ = some (.slice A2 set.length c2) from rfl)
          have p3 := (blk_cell hP7 3).trans (show _ = some (.bool true) from rfl)
          have k2 := (blk_cell hP6 2).trans (show _ = some (.slice A2 set.length c2) from rfl)
          have fq : ∀ o, (w6.setCell ⟨R, 2, none⟩ (.bool (b6 || E))).frozen? ⟨w.heap.size, o, none⟩ = false := fun o => by simp [World.frozen?, hQ7]
          have fq0 := fq 0
          have fq1 := fq 1
          have fq2 := fq 2
          have fq3 := fq 3
          have cq : ∀ o, o < 4 → ∃ u, (w6.setCell ⟨R, 2, none⟩ (.bool (b6 || E))).cell? ⟨w.heap.size, o, none⟩ = some u := fun o ho => by rw [blk_cell hQ7]; exact ⟨_, Array.getElem?_eq_getElem (by rw [hcs]; exact ho)⟩
          obtain ⟨u0, cq0⟩ := cq 0 (by omega)
          obtain ⟨u1, cq1⟩ := cq 1 (by omega)
          obtain ⟨u2, cq2⟩ := cq 2 (by omega)
          obtain ⟨u3, cq3⟩ := cq 3 (by omega)
          clear fq cq
          have hQ8 := stc_blk [.int .i64 3, .int .i32 0, .slice A2 set.length c2, .bool true] hQ7 (by rw [hcs]; rfl)
          have e0 := (blk_cell hQ8 0).trans (show _ = some (.int .i64 3) from rfl)
          have e1 := (blk_cell hQ8 1).trans (show _ = some (.int .i32 0) from rfl)
          have e2 := (blk_cell hQ8 2).trans (show _ = some (.slice A2 set.length c2) from rfl)
          have e3 := (blk_cell hQ8 3).trans (show _ = some (.bool true) from rfl)
          have hb8 := stc_but (fun k => k = w.heap.size) w.heap.size rfl [.int .i64 3, .int .i32 0, .slice A2 set.length c2, .bool true] _ _ 0 (But.refl _ (w6.setCell ⟨R, 2, none⟩ (.bool (b6 || E))))
          have hend8 := hend.but hb8 (by omega) (by omega)
          have hown8 := hown7.but' hb8 (fun k hk e => by
            obtain ⟨_, _, cs2, h2⟩ := hown7.blk hk
            rw [e, hQ7] at h2
            cases h2)
          have hsl8 := hown8
          have hbut8 := hbut6.stc w.heap.size (.inl (Nat.le_refl _)) [.int .i64 3, .int .i32 0, .slice A2 set.length c2, .bool true] 0
          simp only [stc, Nat.reduceAdd] at e0 e1 e2 e3 hend8 hsl8 hbut8
          replace hend8 := Lib.hid hend8
          replace hsl8 := Lib.hid hsl8
          replace hbut8 := Lib.hid hbut8
          clear hend hbut6 hown6 hown7 hown8 hQ8 hb8 hP6 hQ6 hP7 hQ7 hb7 hbut
          replace e0 := Lib.hid e0
          replace e1 := Lib.hid e1
          replace e2 := Lib.hid e2
          replace e3 := Lib.hid e3
          cases b6 with
          | true =>
            simp only [Bool.true_or] at *
            go_wp2_with fail
            have e0 := e0.out
            have e1 := e1.out
            have e2 := e2.out
            have e3 := e3.out
            refine bodyPost_ret (v := .agg (setCs A2 set.length c2 true)) (by simp [results, Tryd.results70, setCs, go_sem, e0, e1, e2, e3]) rfl ?_
            exact ⟨A2, c2, rfl, hsl8.out, by rw [hb6.out, hE.out]; exact hend8.out, hbut8.out⟩
          | false =>
            simp only [Bool.false_or] at *
            go_wp2_with fail
            have e0 := e0.out
            have e1 := e1.out
            have e2 := e2.out
            have e3 := e3.out
            refine bodyPost_ret (v := .agg (setCs A2 set.length c2 true)) (by simp [results, Tryd.results70, setCs, go_sem, e0, e1, e2, e3]) rfl ?_
            exact ⟨A2, c2, rfl, hsl8.out, by rw [hb6.out, hE.out]; exact hend8.out, hbut8.out⟩
        | false =>
          rw [hq] at hi
          obtain ⟨m, hm⟩ : ∃ m, gk = m + 1 := ⟨gk - 1, by have h1 := hst.out.fuel; rw [if_neg (by simp)] at h1; omega⟩
          have hnx := hst.out.fin
          rw [hm, setF, if_neg (by simp), if_neg (by rw [hq]; simp)] at hnx
          have hfu := hst.out.fuel
          rw [if_neg (by simp)] at hfu
          have hfw := hst.out.few
          replace hq := Lib.hid hq
          go_wp2_with fail
          refine hi.mono ?_
          clear hi
          rintro e w3 ⟨rfl, hg3⟩
          obtain ⟨E, hE⟩ : ∃ E, set.isEmpty = E := ⟨_, rfl⟩
          have hE2 : ((set.length : Int) == 0) = E := by
            rw [← hE]
            cases set with
            | nil => rfl
            | cons a s => rw [beq_eq_false_iff_ne.2 (by simp; omega)]; rfl
          rw [hE] at hnx
          replace hE := Lib.hid hE
          have hu := unit_any R A c8 ls l' false w3 (hrd.out.g hg3) hl E
          obtain ⟨x, l2, b2, hx⟩ : ∃ x l2 b2, unitS E l' false = (x, l2, b2) := ⟨_, _, _, rfl⟩
          rw [hx] at hu
          dsimp only at hu
          have hP3 := hg3.blk hst.out.blk
          obtain ⟨cs, hQ0, hcs⟩ := hst.out.res
          have hQ3 := hg3.blk hQ0
          have p2 := (blk_cell hP3 2).trans (show _ = some (.slice A2 set.length c2) from rfl)
          have hown3 := hst.out.own.g hg3
          have hbut3 := hst.out.but.g hg3
          replace hP3 := Lib.hid hP3
          replace hQ3 := Lib.hid hQ3
          replace hown3 := Lib.hid hown3
          replace hbut3 := Lib.hid hbut3
          replace hnx := Lib.hid hnx
          replace hx := Lib.hid hx
          replace hm := Lib.hid hm
          clear hQ0 d2
          go_wp2_with fail
          refine hu.mono ?_
          clear hu
          rintro e w4 ⟨rfl, hr4, hb4⟩
          have hP4 := hb4.blk hP3.out (by omega)
          have hQ4 := hb4.blk hQ3.out (by omega)
          have hown4 : OwnL 124 2 spanC w4 w.heap.size (.slice A2 set.length c2) set := hown3.out.but' hb4 (fun k hk e => by have := (hown3.out.blk hk).1; omega)
          have hbut4 := hbut3.out.trans hb4
          have hz4 := blk_lt hP4
          have hi2 := is_any R A c8 ls l2 b2 (w4.alloc (.cells #[.int .i32 x, .int .i32 x] 124)) (hr4.g (G.new _ _)) hl 45 0 45 0 rfl rfl (by omega)
          replace hP4 := Lib.hid hP4
          replace hQ4 := Lib.hid hQ4
          replace hown4 := Lib.hid hown4
          replace hbut4 := Lib.hid hbut4
          replace hr4 := Lib.hid hr4
          replace hcs := Lib.hid hcs
          clear hP3 hQ3 hown3 hbut3 hb4 p2 hE2
          cases h45 : isC 45 0 l2 with
          | false =>
            rw [h45] at hi2
            replace h45 := Lib.hid h45
            go_wp2_with fail
            refine hi2.mono ?_
            clear hi2
            rintro e w6 ⟨rfl, hg6⟩
            replace hg6 := Lib.hid hg6
            have hnx := hnx.out
            have hx := hx.out
            have hm := hm.out
            have hsp : spanS E l' false = ((x, x), l2, b2) := by
              unfold spanS
              dsimp only
              rw [hx, if_neg (by simp [h45.out])]
            have hnext : Hid (setF m (set ++ [(x, x)]) l2 b2 = F) := by rw [hsp] at hnx; exact hnx
            have hfuel : Hid (l2.length + 2 ≤ m + (if b2 = true then 1 else 0)) := by
              have h1 := (spanS_le E l' false).2
              rw [hsp] at h1
              show l2.length + 2 ≤ _
              split
              · have := (spanS_le E l' false).1; rw [hsp] at this; dsimp only at this; omega
              · rename_i hb; have := h1 (Bool.eq_false_iff.2 hb); dsimp only at this; omega
            have hSx : Hid ((w6).heap[w4.heap.size]? = some (.cells #[.int .i32 x, .int .i32 x] 124 (0, 0))) := (hg6.out).blk (blk_new _ _ _)
            have hPx : Hid ((w6).heap[w.heap.size + 1]? = some (.cells (setCs A2 set.length c2 true) 112 (0, 0))) := (hg6.out).blk ((G.new _ _).blk hP4.out)
            have hQx : Hid ((w6).heap[w.heap.size]? = some (.cells cs 112 (0, 0))) := (hg6.out).blk ((G.new _ _).blk hQ4.out)
            have hownx : Hid (OwnL 124 2 spanC (w6) w.heap.size (.slice A2 set.length c2) set) := (hown4.out.g (G.new _ _)).g (hg6.out)
            have hrdx : Hid (RdTo R A c8 ls l2 b2 (w6)) := (hr4.out.g (G.new _ _)).g (hg6.out)
            have hbutx : Hid (But (fun k => k = R) w (w6)) := (hbut4.out.g (G.new _ _)).g (hg6.out)
            clear hsp hnx
            have s0 := (blk_cell hSx.out 0).trans (show _ = some (.int .i32 x) from rfl)
            have s1 := (blk_cell hSx.out 1).trans (show _ = some (.int .i32 x) from rfl)
            have p2 := (blk_cell hPx.out 2).trans (show _ = some (.slice A2 set.length c2) from rfl)
            go_wp2_with (at_builtin; refine wpList_append_but span_elem _ rfl (.tmp 57) (.tmp 59) rfl w.heap.size _ set rfl (hownx.out.g (G.new _ _)) ((w6).heap.size + 1) (some ⟨(w6).heap.size, 0, none⟩) 1 [(x, x)] rfl (by intro h; cases h) (Sl.of_blk spanC_len _ (blk_new' (w6) _ _ _ (by simp)) rfl (by omega)) (by simp; omega) (by simp; omega) (by have := hbutx.out.size; simp at this ⊢; omega) ?_; intro v' wa hown2 hkeep hbut2; have hPa : wa.heap[w.heap.size + 1]? = some (.cells (setCs A2 set.length c2 true) 112 (0, 0)) := hkeep.2 _ _ _ _ (by decide) ((G.new _ _).blk hPx.out); have fa : wa.frozen? ⟨w.heap.size + 1, 2, none⟩ = false := (by simp [World.frozen?, hPa]); have ca := (blk_cell hPa 2).trans (show _ = some (.slice A2 set.length c2) from rfl); obtain ⟨A3, c3, e3, _, _, _⟩ := OwnL.sl spanC_len hown2; subst e3; replace hown2 := Lib.hid hown2; replace hkeep := Lib.hid hkeep; replace hbut2 := Lib.hid hbut2; replace hPa := Lib.hid hPa)
            have hbp := but_set wa (w.heap.size + 1) 2 (.slice A3 (set.length + 1) c3)
            have hlast : SetSt R A c8 ls w true F m (set ++ [(x, x)]) (l2) (b2) A3 c3 (wa.setCell ⟨w.heap.size + 1, 2, none⟩ (.slice A3 (set.length + 1) c3)) := by
              have hRl : ∀ k, k ≤ R → ¬ some k = (Value.slice A2 set.length c2).ownBlock := fun k hk e => by
                have := (hownx.out.blk e.symm).1
                omega
              refine ⟨hnext.out, hfuel.out, by rw [List.length_append, List.length_singleton]; omega, ?_, ⟨cs, hbp.blk (hkeep.out.2 _ _ _ _ (by decide) ((G.new _ _).blk hQx.out)) (by omega), hcs.out⟩, hown2.out.but' hbp (fun k hk e => by
                obtain ⟨_, _, cs2, h2⟩ := hown2.out.blk hk
                rw [e, hPa.out] at h2
                cases h2), (((hrdx.out.g (G.new _ _)).but hbut2.out (hRl _ (Nat.le_refl _)) (fun k hk => hRl k (by omega))).but hbp (by omega) (by omega)), ((hbutx.out.g (G.new _ _)).keepT hkeep.out).set (p := ⟨w.heap.size + 1, 2, none⟩) (.inl (by simp)) _⟩
              rw [blk_put hPa.out, List.length_append]; rfl
            replace hlast := Lib.hid hlast
            go_roundg m
            case measure => omega
            case rel => exact ⟨set ++ [(x, x)], l2, b2, A3, c3, hlast⟩
          | true =>
            rw [h45] at hi2
            replace h45 := Lib.hid h45
            go_wp2_with fail
            refine hi2.mono ?_
            clear hi2
            rintro e w6 ⟨rfl, hg6⟩
            have hi3 := is_any R A c8 ls l2 b2 w6 ((hr4.out.g (G.new _ _)).g hg6) hl 93 1 93 1 rfl rfl (by omega)
            cases h93 : isC 93 1 l2 with
            | true =>
              rw [h93] at hi3
              replace h93 := Lib.hid h93
              go_wp2_with fail
              refine hi3.mono ?_
              clear hi3
              rintro e w7 ⟨rfl, hg7⟩
              replace hg7 := Lib.hid (hg6.trans hg7)
              have hnx := hnx.out
              have hx := hx.out
              have hm := hm.out
              have hsp : spanS E l' false = ((x, x), l2, b2) := by
                unfold spanS
                dsimp only
                rw [hx, if_neg (by simp [h93.out])]
              have hnext : Hid (setF m (set ++ [(x, x)]) l2 b2 = F) := by rw [hsp] at hnx; exact hnx
              have hfuel : Hid (l2.length + 2 ≤ m + (if b2 = true then 1 else 0)) := by
                have h1 := (spanS_le E l' false).2
                rw [hsp] at h1
                show l2.length + 2 ≤ _
                split
                · have := (spanS_le E l' false).1; rw [hsp] at this; dsimp only at this; omega
                · rename_i hb; have := h1 (Bool.eq_false_iff.2 hb); dsimp only at this; omega
              have hSx : Hid ((w7).heap[w4.heap.size]? = some (.cells #[.int .i32 x, .int .i32 x] 124 (0, 0))) := (hg7.out).blk (blk_new _ _ _)
              have hPx : Hid ((w7).heap[w.heap.size + 1]? = some (.cells (setCs A2 set.length c2 true) 112 (0, 0))) := (hg7.out).blk ((G.new _ _).blk hP4.out)
              have hQx : Hid ((w7).heap[w.heap.size]? = some (.cells cs 112 (0, 0))) := (hg7.out).blk ((G.new _ _).blk hQ4.out)
              have hownx : Hid (OwnL 124 2 spanC (w7) w.heap.size (.slice A2 set.length c2) set) := (hown4.out.g (G.new _ _)).g (hg7.out)
              have hrdx : Hid (RdTo R A c8 ls l2 b2 (w7)) := (hr4.out.g (G.new _ _)).g (hg7.out)
              have hbutx : Hid (But (fun k => k = R) w (w7)) := (hbut4.out.g (G.new _ _)).g (hg7.out)
              clear hsp hnx
              have s0 := (blk_cell hSx.out 0).trans (show _ = some (.int .i32 x) from rfl)
              have s1 := (blk_cell hSx.out 1).trans (show _ = some (.int .i32 x) from rfl)
              have p2 := (blk_cell hPx.out 2).trans (show _ = some (.slice A2 set.length c2) from rfl)
              go_wp2_with (at_builtin; refine wpList_append_but span_elem _ rfl (.tmp 57) (.tmp 59) rfl w.heap.size _ set rfl (hownx.out.g (G.new _ _)) ((w7).heap.size + 1) (some ⟨(w7).heap.size, 0, none⟩) 1 [(x, x)] rfl (by intro h; cases h) (Sl.of_blk spanC_len _ (blk_new' (w7) _ _ _ (by simp)) rfl (by omega)) (by simp; omega) (by simp; omega) (by have := hbutx.out.size; simp at this ⊢; omega) ?_; intro v' wa hown2 hkeep hbut2; have hPa : wa.heap[w.heap.size + 1]? = some (.cells (setCs A2 set.length c2 true) 112 (0, 0)) := hkeep.2 _ _ _ _ (by decide) ((G.new _ _).blk hPx.out); have fa : wa.frozen? ⟨w.heap.size + 1, 2, none⟩ = false := (by simp [World.frozen?, hPa]); have ca := (blk_cell hPa 2).trans (show _ = some (.slice A2 set.length c2) from rfl); obtain ⟨A3, c3, e3, _, _, _⟩ := OwnL.sl spanC_len hown2; subst e3; replace hown2 := Lib.hid hown2; replace hkeep := Lib.hid hkeep; replace hbut2 := Lib.hid hbut2; replace hPa := Lib.hid hPa)
              have hbp := but_set wa (w.heap.size + 1) 2 (.slice A3 (set.length + 1) c3)
              have hlast : SetSt R A c8 ls w true F m (set ++ [(x, x)]) (l2) (b2) A3 c3 (wa.setCell ⟨w.heap.size + 1, 2, none⟩ (.slice A3 (set.length + 1) c3)) := by
                have hRl : ∀ k, k ≤ R → ¬ some k = (Value.slice A2 set.length c2).ownBlock := fun k hk e => by
                  have := (hownx.out.blk e.symm).1
                  omega
                refine ⟨hnext.out, hfuel.out, by rw [List.length_append, List.length_singleton]; omega, ?_, ⟨cs, hbp.blk (hkeep.out.2 _ _ _ _ (by decide) ((G.new _ _).blk hQx.out)) (by omega), hcs.out⟩, hown2.out.but' hbp (fun k hk e => by
                  obtain ⟨_, _, cs2, h2⟩ := hown2.out.blk hk
                  rw [e, hPa.out] at h2
                  cases h2), (((hrdx.out.g (G.new _ _)).but hbut2.out (hRl _ (Nat.le_refl _)) (fun k hk => hRl k (by omega))).but hbp (by omega) (by omega)), ((hbutx.out.g (G.new _ _)).keepT hkeep.out).set (p := ⟨w.heap.size + 1, 2, none⟩) (.inl (by simp)) _⟩
                rw [blk_put hPa.out, List.length_append]; rfl
              replace hlast := Lib.hid hlast
              go_roundg m
              case measure => omega
              case rel => exact ⟨set ++ [(x, x)], l2, b2, A3, c3, hlast⟩
            | false =>
              rw [h93] at hi3
              replace h93 := Lib.hid h93
              go_wp2_with fail
              refine hi3.mono ?_
              clear hi3
              rintro e w7 ⟨rfl, hg7⟩
              replace hg7 := hg6.trans hg7
              have hn := next_any R A c8 ls l2 b2 w7 ((hr4.out.g (G.new _ _)).g hg7) hl
              obtain ⟨z, l3, b3, hxn⟩ : ∃ z l3 b3, nx l2 b2 = (z, l3, b3) := ⟨_, _, _, rfl⟩
              rw [hxn] at hn
              dsimp only at hn
              replace hxn := Lib.hid hxn
              replace hg7 := Lib.hid hg7
              clear hg6
              go_wp2_with fail
              refine hn.mono ?_
              clear hn
              rintro e w8 ⟨rfl, hr8, hb8⟩
              have hu := unit_any R A c8 ls l3 b3 w8 hr8 hl true
              obtain ⟨y, l4, b4, hxy⟩ : ∃ y l4 b4, unitS true l3 b3 = (y, l4, b4) := ⟨_, _, _, rfl⟩
              rw [hxy] at hu
              dsimp only at hu
              replace hxy := Lib.hid hxy
              replace hb8 := Lib.hid hb8
              clear hr8
              go_wp2_with fail
              refine hu.mono ?_
              clear hu
              rintro e w9 ⟨rfl, hr9, hb9'⟩
              have hb79 := hb8.out.trans hb9'
              have hS9 : Hid (w9.heap[w4.heap.size]? = some (.cells #[.int .i32 x, .int .i32 x] 124 (0, 0))) := hb79.blk (hg7.out.blk (blk_new _ _ _)) (by omega)
              have hP9 : Hid (w9.heap[w.heap.size + 1]? = some (.cells (setCs A2 set.length c2 true) 112 (0, 0))) := hb79.blk (hg7.out.blk ((G.new _ _).blk hP4.out)) (by omega)
              have hQ9 : Hid (w9.heap[w.heap.size]? = some (.cells cs 112 (0, 0))) := hb79.blk (hg7.out.blk ((G.new _ _).blk hQ4.out)) (by omega)
              have hown9 : Hid (OwnL 124 2 spanC w9 w.heap.size (.slice A2 set.length c2) set) := ((hown4.out.g (G.new _ _)).g hg7.out).but' hb79 (fun k hk e => by have := (hown4.out.blk hk).1; omega)
              have hbut9 : Hid (But (fun k => k = R) w w9) := ((hbut4.out.g (G.new _ _)).g hg7.out).trans hb79
              replace hr9 := Lib.hid hr9
              clear hb9' hb79 hb8 hg7
              have hnx := hnx.out
              have hx := hx.out
              have hm := hm.out
              cases b4 with
              | true =>
                have hsp : spanS E l' false = ((x, y), l4, true || decide (y < x)) := by
                  unfold spanS
                  dsimp only
                  rw [hx]
                  dsimp only
                  rw [if_pos ⟨h45.out, h93.out⟩, hxn.out, hxy.out]
                have hnext : Hid (setF m (set ++ [(x, y)]) l4 true = F) := by rw [hsp, Bool.true_or] at hnx; exact hnx
                have hfuel : Hid (l4.length + 2 ≤ m + (if true = true then 1 else 0)) := by
                  have h1 := (spanS_le E l' false).2
                  have h2 := (spanS_le E l' false).1
                  rw [hsp, Bool.true_or] at h1
                  rw [hsp] at h2
                  dsimp only at h1 h2
                  show l4.length + 2 ≤ _
                  split
                  · omega
                  · rename_i hb; have := h1 (Bool.eq_false_iff.2 hb); omega
                have hb9 := but_set w9 w4.heap.size 1 (.int .i32 y)
                have hbX := but_set (w9.setCell ⟨w4.heap.size, 1, none⟩ (.int .i32 y)) R 2 (.bool true)
                have hS9a : (w9.setCell ⟨w4.heap.size, 1, none⟩ (.int .i32 y)).heap[w4.heap.size]? = some (.cells #[.int .i32 x, .int .i32 y] 124 (0, 0)) := by rw [blk_put hS9.out]; rfl
                have hSx : Hid (((w9.setCell ⟨w4.heap.size, 1, none⟩ (.int .i32 y)).setCell ⟨R, 2, none⟩ (.bool true)).heap[w4.heap.size]? = some (.cells #[.int .i32 x, .int .i32 y] 124 (0, 0))) := hbX.blk hS9a (by omega)
                have hPx : Hid (((w9.setCell ⟨w4.heap.size, 1, none⟩ (.int .i32 y)).setCell ⟨R, 2, none⟩ (.bool true)).heap[w.heap.size + 1]? = some (.cells (setCs A2 set.length c2 true) 112 (0, 0))) := hbX.blk (hb9.blk hP9.out (by omega)) (by omega)
                have hQx : Hid (((w9.setCell ⟨w4.heap.size, 1, none⟩ (.int .i32 y)).setCell ⟨R, 2, none⟩ (.bool true)).heap[w.heap.size]? = some (.cells cs 112 (0, 0))) := hbX.blk (hb9.blk hQ9.out (by omega)) (by omega)
                have hownx : Hid (OwnL 124 2 spanC ((w9.setCell ⟨w4.heap.size, 1, none⟩ (.int .i32 y)).setCell ⟨R, 2, none⟩ (.bool true)) w.heap.size (.slice A2 set.length c2) set) := (hown9.out.but' hb9 (fun k hk e => by have := (hown4.out.blk hk).2.1; omega)).but' hbX (fun k hk e => by have := (hown4.out.blk hk).1; omega)
                have hrdx : Hid (RdTo R A c8 ls l4 true ((w9.setCell ⟨w4.heap.size, 1, none⟩ (.int .i32 y)).setCell ⟨R, 2, none⟩ (.bool true))) := (hr9.out.but hb9 (by omega) (by omega)).bad true
                have hbutx : Hid (But (fun k => k = R) w ((w9.setCell ⟨w4.heap.size, 1, none⟩ (.int .i32 y)).setCell ⟨R, 2, none⟩ (.bool true))) := (hbut9.out.set (p := ⟨w4.heap.size, 1, none⟩) (.inl (by have := hz4; simp; omega)) _).trans hbX
                have g1 := (blk_cell hS9.out 1).trans (show _ = some (.int .i32 x) from rfl)
                have g1f : w9.frozen? ⟨w4.heap.size, 1, none⟩ = false := by simp [World.frozen?, hS9.out]
                have g2 := (blk_cell hS9a 1).trans (show _ = some (.int .i32 y) from rfl)
                obtain ⟨p9, _, _, hrp9⟩ := hr9.out.but hb9 (by omega) (by omega)
                have g3 := hrp9.c2
                have g3f := hrp9.free 2
                clear hrp9 hS9a hbX hb9 hsp hnx
                have s0 := (blk_cell hSx.out 0).trans (show _ = some (.int .i32 x) from rfl)
                have s1 := (blk_cell hSx.out 1).trans (show _ = some (.int .i32 y) from rfl)
                have p2 := (blk_cell hPx.out 2).trans (show _ = some (.slice A2 set.length c2) from rfl)
                go_wp2_with (at_builtin; refine wpList_append_but span_elem _ rfl (.tmp 57) (.tmp 59) rfl w.heap.size _ set rfl (hownx.out.g (G.new _ _)) (w9.heap.size + 1) (some ⟨w9.heap.size, 0, none⟩) 1 [(x, y)] rfl (by intro h; cases h) (Sl.of_blk spanC_len _ (blk_new' ((w9.setCell ⟨w4.heap.size, 1, none⟩ (.int .i32 y)).setCell ⟨R, 2, none⟩ (.bool true)) _ _ _ (by simp)) rfl (by omega)) (by simp; omega) (by simp; omega) (by have := hbutx.out.size; simp at this ⊢; omega) ?_; intro v' wa hown2 hkeep hbut2; have hPa : wa.heap[w.heap.size + 1]? = some (.cells (setCs A2 set.length c2 true) 112 (0, 0)) := hkeep.2 _ _ _ _ (by decide) ((G.new _ _).blk hPx.out); have fa : wa.frozen? ⟨w.heap.size + 1, 2, none⟩ = false := (by simp [World.frozen?, hPa]); have ca := (blk_cell hPa 2).trans (show _ = some (.slice A2 set.length c2) from rfl); obtain ⟨A3, c3, e3, _, _, _⟩ := OwnL.sl spanC_len hown2; subst e3; replace hown2 := Lib.hid hown2; replace hkeep := Lib.hid hkeep; replace hbut2 := Lib.hid hbut2; replace hPa := Lib.hid hPa)
                have hbp := but_set wa (w.heap.size + 1) 2 (.slice A3 (set.length + 1) c3)
                have hlast : SetSt R A c8 ls w true F m (set ++ [(x, y)]) (l4) (true) A3 c3 (wa.setCell ⟨w.heap.size + 1, 2, none⟩ (.slice A3 (set.length + 1) c3)) := by
                  have hRl : ∀ k, k ≤ R → ¬ some k = (Value.slice A2 set.length c2).ownBlock := fun k hk e => by
                    have := (hownx.out.blk e.symm).1
                    omega
                  refine ⟨hnext.out, hfuel.out, by rw [List.length_append, List.length_singleton]; omega, ?_, ⟨cs, hbp.blk (hkeep.out.2 _ _ _ _ (by decide) ((G.new _ _).blk hQx.out)) (by omega), hcs.out⟩, hown2.out.but' hbp (fun k hk e => by
                    obtain ⟨_, _, cs2, h2⟩ := hown2.out.blk hk
                    rw [e, hPa.out] at h2
                    cases h2), (((hrdx.out.g (G.new _ _)).but hbut2.out (hRl _ (Nat.le_refl _)) (fun k hk => hRl k (by omega))).but hbp (by omega) (by omega)), ((hbutx.out.g (G.new _ _)).keepT hkeep.out).set (p := ⟨w.heap.size + 1, 2, none⟩) (.inl (by simp)) _⟩
                  rw [blk_put hPa.out, List.length_append]; rfl
                replace hlast := Lib.hid hlast
                go_roundg m
                case measure => omega
                case rel => exact ⟨set ++ [(x, y)], l4, true, A3, c3, hlast⟩
              | false =>
                by_cases hyx : y < x
                · have t1 : (y : Int) < (x : Int) := by omega
                  have hdx : decide (y < x) = true := decide_eq_true hyx
                  replace hyx := Lib.hid hyx
                  have hsp : spanS E l' false = ((x, y), l4, false || decide (y < x)) := by
                    unfold spanS
                    dsimp only
                    rw [hx]
                    dsimp only
                    rw [if_pos ⟨h45.out, h93.out⟩, hxn.out, hxy.out]
                  have hnext : Hid (setF m (set ++ [(x, y)]) l4 true = F) := by rw [hsp, hdx, Bool.or_true] at hnx; exact hnx
                  have hfuel : Hid (l4.length + 2 ≤ m + (if true = true then 1 else 0)) := by
                    have h1 := (spanS_le E l' false).2
                    have h2 := (spanS_le E l' false).1
                    rw [hsp, hdx, Bool.or_true] at h1
                    rw [hsp] at h2
                    dsimp only at h1 h2
                    show l4.length + 2 ≤ _
                    split
                    · omega
                    · rename_i hb; have := h1 (Bool.eq_false_iff.2 hb); omega
                  have hb9 := but_set w9 w4.heap.size 1 (.int .i32 y)
                  have hbX := but_set (w9.setCell ⟨w4.heap.size, 1, none⟩ (.int .i32 y)) R 2 (.bool true)
                  have hS9a : (w9.setCell ⟨w4.heap.size, 1, none⟩ (.int .i32 y)).heap[w4.heap.size]? = some (.cells #[.int .i32 x, .int .i32 y] 124 (0, 0)) := by rw [blk_put hS9.out]; rfl
                  have hSx : Hid (((w9.setCell ⟨w4.heap.size, 1, none⟩ (.int .i32 y)).setCell ⟨R, 2, none⟩ (.bool true)).heap[w4.heap.size]? = some (.cells #[.int .i32 x, .int .i32 y] 124 (0, 0))) := hbX.blk hS9a (by omega)
                  have hPx : Hid (((w9.setCell ⟨w4.heap.size, 1, none⟩ (.int .i32 y)).setCell ⟨R, 2, none⟩ (.bool true)).heap[w.heap.size + 1]? = some (.cells (setCs A2 set.length c2 true) 112 (0, 0))) := hbX.blk (hb9.blk hP9.out (by omega)) (by omega)
                  have hQx : Hid (((w9.setCell ⟨w4.heap.size, 1, none⟩ (.int .i32 y)).setCell ⟨R, 2, none⟩ (.bool true)).heap[w.heap.size]? = some (.cells cs 112 (0, 0))) := hbX.blk (hb9.blk hQ9.out (by omega)) (by omega)
                  have hownx : Hid (OwnL 124 2 spanC ((w9.setCell ⟨w4.heap.size, 1, none⟩ (.int .i32 y)).setCell ⟨R, 2, none⟩ (.bool true)) w.heap.size (.slice A2 set.length c2) set) := (hown9.out.but' hb9 (fun k hk e => by have := (hown4.out.blk hk).2.1; omega)).but' hbX (fun k hk e => by have := (hown4.out.blk hk).1; omega)
                  have hrdx : Hid (RdTo R A c8 ls l4 true ((w9.setCell ⟨w4.heap.size, 1, none⟩ (.int .i32 y)).setCell ⟨R, 2, none⟩ (.bool true))) := (hr9.out.but hb9 (by omega) (by omega)).bad true
                  have hbutx : Hid (But (fun k => k = R) w ((w9.setCell ⟨w4.heap.size, 1, none⟩ (.int .i32 y)).setCell ⟨R, 2, none⟩ (.bool true))) := (hbut9.out.set (p := ⟨w4.heap.size, 1, none⟩) (.inl (by have := hz4; simp; omega)) _).trans hbX
                  have g1 := (blk_cell hS9.out 1).trans (show _ = some (.int .i32 x) from rfl)
                  have g1f : w9.frozen? ⟨w4.heap.size, 1, none⟩ = false := by simp [World.frozen?, hS9.out]
                  have g2 := (blk_cell hS9a 1).trans (show _ = some (.int .i32 y) from rfl)
                  obtain ⟨p9, _, _, hrp9⟩ := hr9.out.but hb9 (by omega) (by omega)
                  have g3 := hrp9.c2
                  have g3f := hrp9.free 2
                  clear hrp9 hS9a hbX hb9 hsp hnx
                  have s0 := (blk_cell hSx.out 0).trans (show _ = some (.int .i32 x) from rfl)
                  have s1 := (blk_cell hSx.out 1).trans (show _ = some (.int .i32 y) from rfl)
                  have p2 := (blk_cell hPx.out 2).trans (show _ = some (.slice A2 set.length c2) from rfl)
                  go_wp2_with (at_builtin; refine wpList_append_but span_elem _ rfl (.tmp 57) (.tmp 59) rfl w.heap.size _ set rfl (hownx.out.g (G.new _ _)) (w9.heap.size + 1) (some ⟨w9.heap.size, 0, none⟩) 1 [(x, y)] rfl (by intro h; cases h) (Sl.of_blk spanC_len _ (blk_new' ((w9.setCell ⟨w4.heap.size, 1, none⟩ (.int .i32 y)).setCell ⟨R, 2, none⟩ (.bool true)) _ _ _ (by simp)) rfl (by omega)) (by simp; omega) (by simp; omega) (by have := hbutx.out.size; simp at this ⊢; omega) ?_; intro v' wa hown2 hkeep hbut2; have hPa : wa.heap[w.heap.size + 1]? = some (.cells (setCs A2 set.length c2 true) 112 (0, 0)) := hkeep.2 _ _ _ _ (by decide) ((G.new _ _).blk hPx.out); have fa : wa.frozen? ⟨w.heap.size + 1, 2, none⟩ = false := (by simp [World.frozen?, hPa]); have ca := (blk_cell hPa 2).trans (show _ = some (.slice A2 set.length c2) from rfl); obtain ⟨A3, c3, e3, _, _, _⟩ := OwnL.sl spanC_len hown2; subst e3; replace hown2 := Lib.hid hown2; replace hkeep := Lib.hid hkeep; replace hbut2 := Lib.hid hbut2; replace hPa := Lib.hid hPa)
                  have hbp := but_set wa (w.heap.size + 1) 2 (.slice A3 (set.length + 1) c3)
                  have hlast : SetSt R A c8 ls w true F m (set ++ [(x, y)]) (l4) (true) A3 c3 (wa.setCell ⟨w.heap.size + 1, 2, none⟩ (.slice A3 (set.length + 1) c3)) := by
                    have hRl : ∀ k, k ≤ R → ¬ some k = (Value.slice A2 set.length c2).ownBlock := fun k hk e => by
                      have := (hownx.out.blk e.symm).1
                      omega
                    refine ⟨hnext.out, hfuel.out, by rw [List.length_append, List.length_singleton]; omega, ?_, ⟨cs, hbp.blk (hkeep.out.2 _ _ _ _ (by decide) ((G.new _ _).blk hQx.out)) (by omega), hcs.out⟩, hown2.out.but' hbp (fun k hk e => by
                      obtain ⟨_, _, cs2, h2⟩ := hown2.out.blk hk
                      rw [e, hPa.out] at h2
                      cases h2), (((hrdx.out.g (G.new _ _)).but hbut2.out (hRl _ (Nat.le_refl _)) (fun k hk => hRl k (by omega))).but hbp (by omega) (by omega)), ((hbutx.out.g (G.new _ _)).keepT hkeep.out).set (p := ⟨w.heap.size + 1, 2, none⟩) (.inl (by simp)) _⟩
                    rw [blk_put hPa.out, List.length_append]; rfl
                  replace hlast := Lib.hid hlast
                  go_roundg m
                  case measure => omega
                  case rel => exact ⟨set ++ [(x, y)], l4, true, A3, c3, hlast⟩
                · have t1 : ¬ (y : Int) < (x : Int) := by omega
                  have hdx : decide (y < x) = false := decide_eq_false hyx
                  replace hyx := Lib.hid hyx
                  have hsp : spanS E l' false = ((x, y), l4, false || decide (y < x)) := by
                    unfold spanS
                    dsimp only
                    rw [hx]
                    dsimp only
                    rw [if_pos ⟨h45.out, h93.out⟩, hxn.out, hxy.out]
                  have hnext : Hid (setF m (set ++ [(x, y)]) l4 false = F) := by rw [hsp, hdx, Bool.or_false] at hnx; exact hnx
                  have hfuel : Hid (l4.length + 2 ≤ m + (if false = true then 1 else 0)) := by
                    have h1 := (spanS_le E l' false).2
                    have h2 := (spanS_le E l' false).1
                    rw [hsp, hdx, Bool.or_false] at h1
                    rw [hsp] at h2
                    dsimp only at h1 h2
                    show l4.length + 2 ≤ _
                    split
                    · omega
                    · rename_i hb; have := h1 (Bool.eq_false_iff.2 hb); omega
                  have hb9 := but_set w9 w4.heap.size 1 (.int .i32 y)
                  have hbX := but_set (w9.setCell ⟨w4.heap.size, 1, none⟩ (.int .i32 y)) R 2 (.bool false)
                  have hS9a : (w9.setCell ⟨w4.heap.size, 1, none⟩ (.int .i32 y)).heap[w4.heap.size]? = some (.cells #[.int .i32 x, .int .i32 y] 124 (0, 0)) := by rw [blk_put hS9.out]; rfl
                  have hSx : Hid (((w9.setCell ⟨w4.heap.size, 1, none⟩ (.int .i32 y)).setCell ⟨R, 2, none⟩ (.bool false)).heap[w4.heap.size]? = some (.cells #[.int .i32 x, .int .i32 y] 124 (0, 0))) := hbX.blk hS9a (by omega)
                  have hPx : Hid (((w9.setCell ⟨w4.heap.size, 1, none⟩ (.int .i32 y)).setCell ⟨R, 2, none⟩ (.bool false)).heap[w.heap.size + 1]? = some (.cells (setCs A2 set.length c2 true) 112 (0, 0))) := hbX.blk (hb9.blk hP9.out (by omega)) (by omega)
                  have hQx : Hid (((w9.setCell ⟨w4.heap.size, 1, none⟩ (.int .i32 y)).setCell ⟨R, 2, none⟩ (.bool false)).heap[w.heap.size]? = some (.cells cs 112 (0, 0))) := hbX.blk (hb9.blk hQ9.out (by omega)) (by omega)
                  have hownx : Hid (OwnL 124 2 spanC ((w9.setCell ⟨w4.heap.size, 1, none⟩ (.int .i32 y)).setCell ⟨R, 2, none⟩ (.bool false)) w.heap.size (.slice A2 set.length c2) set) := (hown9.out.but' hb9 (fun k hk e => by have := (hown4.out.blk hk).2.1; omega)).but' hbX (fun k hk e => by have := (hown4.out.blk hk).1; omega)
                  have hrdx : Hid (RdTo R A c8 ls l4 false ((w9.setCell ⟨w4.heap.size, 1, none⟩ (.int .i32 y)).setCell ⟨R, 2, none⟩ (.bool false))) := (hr9.out.but hb9 (by omega) (by omega)).bad false
                  have hbutx : Hid (But (fun k => k = R) w ((w9.setCell ⟨w4.heap.size, 1, none⟩ (.int .i32 y)).setCell ⟨R, 2, none⟩ (.bool false))) := (hbut9.out.set (p := ⟨w4.heap.size, 1, none⟩) (.inl (by have := hz4; simp; omega)) _).trans hbX
                  have g1 := (blk_cell hS9.out 1).trans (show _ = some (.int .i32 x) from rfl)
                  have g1f : w9.frozen? ⟨w4.heap.size, 1, none⟩ = false := by simp [World.frozen?, hS9.out]
                  have g2 := (blk_cell hS9a 1).trans (show _ = some (.int .i32 y) from rfl)
                  obtain ⟨p9, _, _, hrp9⟩ := hr9.out.but hb9 (by omega) (by omega)
                  have g3 := hrp9.c2
                  have g3f := hrp9.free 2
                  clear hrp9 hS9a hbX hb9 hsp hnx
                  have s0 := (blk_cell hSx.out 0).trans (show _ = some (.int .i32 x) from rfl)
                  have s1 := (blk_cell hSx.out 1).trans (show _ = some (.int .i32 y) from rfl)
                  have p2 := (blk_cell hPx.out 2).trans (show _ = some (.slice A2 set.length c2) from rfl)
                  go_wp2_with (at_builtin; refine wpList_append_but span_elem _ rfl (.tmp 57) (.tmp 59) rfl w.heap.size _ set rfl (hownx.out.g (G.new _ _)) (w9.heap.size + 1) (some ⟨w9.heap.size, 0, none⟩) 1 [(x, y)] rfl (by intro h; cases h) (Sl.of_blk spanC_len _ (blk_new' ((w9.setCell ⟨w4.heap.size, 1, none⟩ (.int .i32 y)).setCell ⟨R, 2, none⟩ (.bool false)) _ _ _ (by simp)) rfl (by omega)) (by simp; omega) (by simp; omega) (by have := hbutx.out.size; simp at this ⊢; omega) ?_; intro v' wa hown2 hkeep hbut2; have hPa : wa.heap[w.heap.size + 1]? = some (.cells (setCs A2 set.length c2 true) 112 (0, 0)) := hkeep.2 _ _ _ _ (by decide) ((G.new _ _).blk hPx.out); have fa : wa.frozen? ⟨w.heap.size + 1, 2, none⟩ = false := (by simp [World.frozen?, hPa]); have ca := (blk_cell hPa 2).trans (show _ = some (.slice A2 set.length c2) from rfl); obtain ⟨A3, c3, e3, _, _, _⟩ := OwnL.sl spanC_len hown2; subst e3; replace hown2 := Lib.hid hown2; replace hkeep := Lib.hid hkeep; replace hbut2 := Lib.hid hbut2; replace hPa := Lib.hid hPa)
                  have hbp := but_set wa (w.heap.size + 1) 2 (.slice A3 (set.length + 1) c3)
                  have hlast : SetSt R A c8 ls w true F m (set ++ [(x, y)]) (l4) (false) A3 c3 (wa.setCell ⟨w.heap.size + 1, 2, none⟩ (.slice A3 (set.length + 1) c3)) := by
                    have hRl : ∀ k, k ≤ R → ¬ some k = (Value.slice A2 set.length c2).ownBlock := fun k hk e => by
                      have := (hownx.out.blk e.symm).1
                      omega
                    refine ⟨hnext.out, hfuel.out, by rw [List.length_append, List.length_singleton]; omega, ?_, ⟨cs, hbp.blk (hkeep.out.2 _ _ _ _ (by decide) ((G.new _ _).blk hQx.out)) (by omega), hcs.out⟩, hown2.out.but' hbp (fun k hk e => by
                      obtain ⟨_, _, cs2, h2⟩ := hown2.out.blk hk
                      rw [e, hPa.out] at h2
                      cases h2), (((hrdx.out.g (G.new _ _)).but hbut2.out (hRl _ (Nat.le_refl _)) (fun k hk => hRl k (by omega))).but hbp (by omega) (by omega)), ((hbutx.out.g (G.new _ _)).keepT hkeep.out).set (p := ⟨w.heap.size + 1, 2, none⟩) (.inl (by simp)) _⟩
                    rw [blk_put hPa.out, List.length_append]; rfl
                  replace hlast := Lib.hid hlast
                  go_roundg m
                  case measure => omega
                  case rel => exact ⟨set ++ [(x, y)], l4, false, A3, c3, hlast⟩
  | false =>
    rw [if_neg (by simp)] at hl1
    cases hl1
    have hst : SetSt R A c8 ls w false F (l.length + 2) [] l b none 0 w1 := ⟨hF.out, by omega, by simp; omega, hP1, ⟨_, hQ1, rfl⟩, OwnL.nil, hr1, .of_g hG1⟩
    replace hst := Lib.hid hst
    clear hP1 hQ1 hr1 hz1 hG1
    go_wp2_with fail
    go_loopg [4] (l.length + 2) (fun n v wr => ∃ set l' b' A2 c2, Hid (SetSt R A c8 ls w false F n set l' b' A2 c2 wr))
    case atStart => exact ⟨[], l, b, none, 0, hst⟩
    case round =>
      clear hst
      obtain ⟨set, l', b', A2, c2, hst⟩ := hrel
      have hrd := hst.out.rd
      obtain ⟨p, _, _, hrp⟩ := hst.out.rd
      have d2 := hrp.c2
      clear hrp
      cases b' with
      | true =>
        clear hrd
        go_wp2_with fail
        obtain rfl : F = (set, l', true) := hst.out.over (.inl rfl)
        have hn := next_any R A c8 ls l' true wr (hst.out.rd.g (G.refl wr)) hl
        have hP := (G.refl wr).blk hst.out.blk
        obtain ⟨cs, hQ, hcs⟩ := hst.out.res
        replace hQ := (G.refl wr).blk hQ
        have hbut := hst.out.but.g (G.refl wr)
        have hown := hst.out.own.g (G.refl wr)
        have hfew := hst.out.few
        have hlen : set.length ≤ 1073741826 := by omega
        clear hfew
        obtain ⟨b6, hb6⟩ : ∃ b6, (nx l' true).2.2 = b6 := ⟨_, rfl⟩
        rw [hb6] at hn
        obtain ⟨E, hE⟩ : ∃ E, set.isEmpty = E := ⟨_, rfl⟩
        have hE2 : ((set.length : Int) == 0) = E := by
          rw [← hE]
          cases set with
          | nil => rfl
          | cons a s => rw [beq_eq_false_iff_ne.2 (by simp; omega)]; rfl
        replace hE := Lib.hid hE
        replace hb6 := Lib.hid hb6
        replace hP := Lib.hid hP
        replace hQ := Lib.hid hQ
        replace hown := Lib.hid hown
        go_wp2_with fail
        refine hn.mono ?_
        clear hn
        rintro e w6 ⟨rfl, hr6, hb7⟩
        have hP6 := hb7.blk hP.out (by omega)
        have hQ6 := hb7.blk hQ.out (by omega)
        have hown6 : OwnL 124 2 spanC w6 w.heap.size (.slice A2 set.length c2) set := hown.out.but' hb7 (fun k hk => by have := (hown.out.blk hk).1; omega)
        have hend := hr6.bad (b6 || E)
        have hbut6 := (hbut.trans hb7).trans (but_set w6 R 2 (.bool (b6 || E)))
        obtain ⟨p6, hp61, hp62, hp63⟩ := hr6
        have d2 := hp63.c2
        have f2 := hp63.free 2
        clear hp61 hp62 hp63
        have hP7 := (but_set w6 R 2 (.bool (b6 || E))).blk hP6 (by omega)
        have hQ7 := (but_set w6 R 2 (.bool (b6 || E))).blk hQ6 (by omega)
        have hown7 : OwnL 124 2 spanC (w6.setCell ⟨R, 2, none⟩ (.bool (b6 || E))) w.heap.size (.slice A2 set.length c2) set := hown6.but' (but_set w6 R 2 _) (fun k hk => by have := (hown6.blk hk).1; omega)
        have p0 := (blk_cell hP7 0).trans (show _ = some (.int .i64 3) from rfl)
        have p1 := (blk_cell hP7 1).trans (show _ = some (.int .i32 0) from rfl)
        have p2 := (blk_cell hP7 2).trans (show _ = some (.slice A2 set.length c2) from rfl)
        have p3 := (blk_cell hP7 3).trans (show _ = some (.bool false) from rfl)
        have k2 := (blk_cell hP6 2).trans (show _ = some (.slice A2 set.length c2) from rfl)
        have fq : ∀ o, (w6.setCell ⟨R, 2, none⟩ (.bool (b6 || E))).frozen? ⟨w.heap.size, o, none⟩ = false := fun o => by simp [World.frozen?, hQ7]
        have fq0 := fq 0
        have fq1 := fq 1
        have fq2 := fq 2
        have fq3 := fq 3
        have cq : ∀ o, o < 4 → ∃ u, (w6.setCell ⟨R, 2, none⟩ (.bool (b6 || E))).cell? ⟨w.heap.size, o, none⟩ = some u := fun o ho => by rw [blk_cell hQ7]; exact ⟨_, Array.getElem?_eq_getElem (by rw [hcs]; exact ho)⟩
        obtain ⟨u0, cq0⟩ := cq 0 (by omega)
        obtain ⟨u1, cq1⟩ := cq 1 (by omega)
        obtain ⟨u2, cq2⟩ := cq 2 (by omega)
        obtain ⟨u3, cq3⟩ := cq 3 (by omega)
        clear fq cq
        have hQ8 := stc_blk [.int .i64 3, .int .i32 0, .slice A2 set.length c2, .bool false] hQ7 (by rw [hcs]; rfl)
        have e0 := (blk_cell hQ8 0).trans (show _ = some (.int .i64 3) from rfl)
        have e1 := (blk_cell hQ8 1).trans (show _ = some (.int .i32 0) from rfl)
        have e2 := (blk_cell hQ8 2).trans (show _ = some (.slice A2 set.length c2) from rfl)
        have e3 := (blk_cell hQ8 3).trans (show _ = some (.bool false) from rfl)
        have hb8 := stc_but (fun k => k = w.heap.size) w.heap.size rfl [.int .i64 3, .int .i32 0, .slice A2 set.length c2, .bool false] _ _ 0 (But.refl _ (w6.setCell ⟨R, 2, none⟩ (.bool (b6 || E))))
        have hend8 := hend.but hb8 (by omega) (by omega)
        have hown8 := hown7.but' hb8 (fun k hk e => by
          obtain ⟨_, _, cs2, h2⟩ := hown7.blk hk
          rw [e, hQ7] at h2
          cases h2)
        have hsl8 := hown8
        have hbut8 := hbut6.stc w.heap.size (.inl (Nat.le_refl _)) [.int .i64 3, .int .i32 0, .slice A2 set.length c2, .bool false] 0
        simp only [stc, Nat.reduceAdd] at e0 e1 e2 e3 hend8 hsl8 hbut8
        replace hend8 := Lib.hid hend8
        replace hsl8 := Lib.hid hsl8
        replace hbut8 := Lib.hid hbut8
        clear hend hbut6 hown6 hown7 hown8 hQ8 hb8 hP6 hQ6 hP7 hQ7 hb7 hbut
        replace e0 := Lib.hid e0
        replace e1 := Lib.hid e1
        replace e2 := Lib.hid e2
        replace e3 := Lib.hid e3
        cases b6 with
        | true =>
          simp only [Bool.true_or] at *
          go_wp2_with fail
          have e0 := e0.out
          have e1 := e1.out
          have e2 := e2.out
          have e3 := e3.out
          refine bodyPost_ret (v := .agg (setCs A2 set.length c2 false)) (by simp [results, Tryd.results70, setCs, go_sem, e0, e1, e2, e3]) rfl ?_
          exact ⟨A2, c2, rfl, hsl8.out, by rw [hb6.out, hE.out]; exact hend8.out, hbut8.out⟩
        | false =>
          simp only [Bool.false_or] at *
          go_wp2_with fail
          have e0 := e0.out
          have e1 := e1.out
          have e2 := e2.out
          have e3 := e3.out
          refine bodyPost_ret (v := .agg (setCs A2 set.length c2 false)) (by simp [results, Tryd.results70, setCs, go_sem, e0, e1, e2, e3]) rfl ?_
          exact ⟨A2, c2, rfl, hsl8.out, by rw [hb6.out, hE.out]; exact hend8.out, hbut8.out⟩
      | false =>
        have hi := is_any R A c8 ls l' false wr hrd hl 93 0 93 0 rfl rfl (by omega)
        replace hrd := Lib.hid hrd
        cases hq : isC 93 0 l' with
        | true =>
          rw [hq] at hi
          replace hq := Lib.hid hq
          go_wp2_with fail
          refine hi.mono ?_
          clear hi
          rintro e w3 ⟨rfl, hg3⟩
          go_wp2_with fail
          obtain rfl : F = (set, l', false) := hst.out.over (.inr hq.out)
          have hn := next_any R A c8 ls l' false w3 (hst.out.rd.g (hg3)) hl
          have hP := (hg3).blk hst.out.blk
          obtain ⟨cs, hQ, hcs⟩ := hst.out.res
          replace hQ := (hg3).blk hQ
          have hbut := hst.out.but.g (hg3)
          have hown := hst.out.own.g (hg3)
          have hfew := hst.out.few
          have hlen : set.length ≤ 1073741826 := by omega
          clear hfew
          obtain ⟨b6, hb6⟩ : ∃ b6, (nx l' false).2.2 = b6 := ⟨_, rfl⟩
          rw [hb6] at hn
          obtain ⟨E, hE⟩ : ∃ E, set.isEmpty = E := ⟨_, rfl⟩
          have hE2 : ((set.length : Int) == 0) = E := by
            rw [← hE]
            cases set with
            | nil => rfl
            | cons a s => rw [beq_eq_false_iff_ne.2 (by simp; omega)]; rfl
          replace hE := Lib.hid hE
          replace hb6 := Lib.hid hb6
          replace hP := Lib.hid hP
          replace hQ := Lib.hid hQ
          replace hown := Lib.hid hown
          go_wp2_with fail
          refine hn.mono ?_
          clear hn
          rintro e w6 ⟨rfl, hr6, hb7⟩
          have hP6 := hb7.blk hP.out (by omega)
          have hQ6 := hb7.blk hQ.out (by omega)
          have hown6 : OwnL 124 2 spanC w6 w.heap.size (.slice A2 set.length c2) set := hown.out.but' hb7 (fun k hk => by have := (hown.out.blk hk).1; omega)
          have hend := hr6.bad (b6 || E)
          have hbut6 := (hbut.trans hb7).trans (but_set w6 R 2 (.bool (b6 || E)))
          obtain ⟨p6, hp61, hp62, hp63⟩ := hr6
          have d2 := hp63.c2
          have f2 := hp63.free 2
          clear hp61 hp62 hp63
          have hP7 := (but_set w6 R 2 (.bool (b6 || E))).blk hP6 (by omega)
          have hQ7 := (but_set w6 R 2 (.bool (b6 || E))).blk hQ6 (by omega)
          have hown7 : OwnL 124 2 spanC (w6.setCell ⟨R, 2, none⟩ (.bool (b6 || E))) w.heap.size (.slice A2 set.length c2) set := hown6.but' (but_set w6 R 2 _) (fun k hk => by have := (hown6.blk hk).1; omega)
          have p0 := (blk_cell hP7 0).trans (show _ = some (.int .i64 3) from rfl)
          have p1 := (blk_cell hP7 1).trans (show _ = some (.int .i32 0) from rfl)
          have p2 := (blk_cell hP7 2).trans (show _ = some (.slice A2 set.length c2) from rfl)
          have p3 := (blk_cell hP7 3).trans (show _ = some (.bool false) from rfl)
          have k2 := (blk_cell hP6 2).trans (show _ = some (.slice A2 set.length c2) from rfl)
          have fq : ∀ o, (w6.setCell ⟨R, 2, none⟩ (.bool (b6 || E))).frozen? ⟨w.heap.size, o, none⟩ = false := fun o => by simp [World.frozen?, hQ7]
          have fq0 := fq 0
          have fq1 := fq 1
          have fq2 := fq 2
          have fq3 := fq 3
          have cq : ∀ o, o < 4 → ∃ u, (w6.setCell ⟨R, 2, none⟩ (.bool (b6 || E))).cell? ⟨w.heap.size, o, none⟩ = some u := fun o ho => by rw [blk_cell hQ7]; exact ⟨_, Array.getElem?_eq_getElem (by rw [hcs]; exact ho)⟩
          obtain ⟨u0, cq0⟩ := cq 0 (by omega)
          obtain ⟨u1, cq1⟩ := cq 1 (by omega)
          obtain ⟨u2, cq2⟩ := cq 2 (by omega)
          obtain ⟨u3, cq3⟩ := cq 3 (by omega)
          clear fq cq
          have hQ8 := stc_blk [.int .i64 3, .int .i32 0, .slice A2 set.length c2, .bool false] hQ7 (by rw [hcs]; rfl)
          have e0 := (blk_cell hQ8 0).trans (show _ = some (.int .i64 3) from rfl)
          have e1 := (blk_cell hQ8 1).trans (show _ = some (.int .i32 0) from rfl)
          have e2 := (blk_cell hQ8 2).trans (show _ = some (.slice A2 set.length c2) from rfl)
          have e3 := (blk_cell hQ8 3).trans (show _ = some (.bool false) from rfl)
          have hb8 := stc_but (fun k => k = w.heap.size) w.heap.size rfl [.int .i64 3, .int .i32 0, .slice A2 set.length c2, .bool false] _ _ 0 (But.refl _ (w6.setCell ⟨R, 2, none⟩ (.bool (b6 || E))))
          have hend8 := hend.but hb8 (by omega) (by omega)
          have hown8 := hown7.but' hb8 (fun k hk e => by
            obtain ⟨_, _, cs2, h2⟩ := hown7.blk hk
            rw [e, hQ7] at h2
            cases h2)
          have hsl8 := hown8
          have hbut8 := hbut6.stc w.heap.size (.inl (Nat.le_refl _)) [.int .i64 3, .int .i32 0, .slice A2 set.length c2, .bool false] 0
          simp only [stc, Nat.reduceAdd] at e0 e1 e2 e3 hend8 hsl8 hbut8
          replace hend8 := Lib.hid hend8
          replace hsl8 := Lib.hid hsl8
          replace hbut8 := Lib.hid hbut8
          clear hend hbut6 hown6 hown7 hown8 hQ8 hb8 hP6 hQ6 hP7 hQ7 hb7 hbut
          replace e0 := Lib.hid e0
          replace e1 := Lib.hid e1
          replace e2 := Lib.hid e2
          replace e3 := Lib.hid e3
          cases b6 with
          | true =>
            simp only [Bool.true_or] at *
            go_wp2_with fail
            have e0 := e0.out
            have e1 := e1.out
            have e2 := e2.out
            have e3 := e3.out
            refine bodyPost_ret (v := .agg (setCs A2 set.length c2 false)) (by simp [results, Tryd.results70, setCs, go_sem, e0, e1, e2, e3]) rfl ?_
            exact ⟨A2, c2, rfl, hsl8.out, by rw [hb6.out, hE.out]; exact hend8.out, hbut8.out⟩
          | false =>
            simp only [Bool.false_or] at *
            go_wp2_with fail
            have e0 := e0.out
            have e1 := e1.out
            have e2 := e2.out
            have e3 := e3.out
            refine bodyPost_ret (v := .agg (setCs A2 set.length c2 false)) (by simp [results, Tryd.results70, setCs, go_sem, e0, e1, e2, e3]) rfl ?_
            exact ⟨A2, c2, rfl, hsl8.out, by rw [hb6.out, hE.out]; exact hend8.out, hbut8.out⟩
        | false =>
          rw [hq] at hi
          obtain ⟨m, hm⟩ : ∃ m, gk = m + 1 := ⟨gk - 1, by have h1 := hst.out.fuel; rw [if_neg (by simp)] at h1; omega⟩
          have hnx := hst.out.fin
          rw [hm, setF, if_neg (by simp), if_neg (by rw [hq]; simp)] at hnx
          have hfu := hst.out.fuel
          rw [if_neg (by simp)] at hfu
          have hfw := hst.out.few
          replace hq := Lib.hid hq
          go_wp2_with fail
          refine hi.mono ?_
          clear hi
          rintro e w3 ⟨rfl, hg3⟩
          obtain ⟨E, hE⟩ : ∃ E, set.isEmpty = E := ⟨_, rfl⟩
          have hE2 : ((set.length : Int) == 0) = E := by
            rw [← hE]
            cases set with
            | nil => rfl
            | cons a s => rw [beq_eq_false_iff_ne.2 (by simp; omega)]; rfl
          rw [hE] at hnx
          replace hE := Lib.hid hE
          have hu := unit_any R A c8 ls l' false w3 (hrd.out.g hg3) hl E
          obtain ⟨x, l2, b2, hx⟩ : ∃ x l2 b2, unitS E l' false = (x, l2, b2) := ⟨_, _, _, rfl⟩
          rw [hx] at hu
          dsimp only at hu
          have hP3 := hg3.blk hst.out.blk
          obtain ⟨cs, hQ0, hcs⟩ := hst.out.res
          have hQ3 := hg3.blk hQ0
          have p2 := (blk_cell hP3 2).trans (show _ = some (.slice A2 set.length c2) from rfl)
          have hown3 := hst.out.own.g hg3
          have hbut3 := hst.out.but.g hg3
          replace hP3 := Lib.hid hP3
          replace hQ3 := Lib.hid hQ3
          replace hown3 := Lib.hid hown3
          replace hbut3 := Lib.hid hbut3
          replace hnx := Lib.hid hnx
          replace hx := Lib.hid hx
          replace hm := Lib.hid hm
          clear hQ0 d2
          go_wp2_with fail
          refine hu.mono ?_
          clear hu
          rintro e w4 ⟨rfl, hr4, hb4⟩
          have hP4 := hb4.blk hP3.out (by omega)
          have hQ4 := hb4.blk hQ3.out (by omega)
          have hown4 : OwnL 124 2 spanC w4 w.heap.size (.slice A2 set.length c2) set := hown3.out.but' hb4 (fun k hk e => by have := (hown3.out.blk hk).1; omega)
          have hbut4 := hbut3.out.trans hb4
          have hz4 := blk_lt hP4
          have hi2 := is_any R A c8 ls l2 b2 (w4.alloc (.cells #[.int .i32 x, .int .i32 x] 124)) (hr4.g (G.new _ _)) hl 45 0 45 0 rfl rfl (by omega)
          replace hP4 := Lib.hid hP4
          replace hQ4 := Lib.hid hQ4
          replace hown4 := Lib.hid hown4
          replace hbut4 := Lib.hid hbut4
          replace hr4 := Lib.hid hr4
          replace hcs := Lib.hid hcs
          clear hP3 hQ3 hown3 hbut3 hb4 p2 hE2
          cases h45 : isC 45 0 l2 with
          | false =>
            rw [h45] at hi2
            replace h45 := Lib.hid h45
            go_wp2_with fail
            refine hi2.mono ?_
            clear hi2
            rintro e w6 ⟨rfl, hg6⟩
            replace hg6 := Lib.hid hg6
            have hnx := hnx.out
            have hx := hx.out
            have hm := hm.out
            have hsp : spanS E l' false = ((x, x), l2, b2) := by
              unfold spanS
              dsimp only
              rw [hx, if_neg (by simp [h45.out])]
            have hnext : Hid (setF m (set ++ [(x, x)]) l2 b2 = F) := by rw [hsp] at hnx; exact hnx
            have hfuel : Hid (l2.length + 2 ≤ m + (if b2 = true then 1 else 0)) := by
              have h1 := (spanS_le E l' false).2
              rw [hsp] at h1
              show l2.length + 2 ≤ _
              split
              · have := (spanS_le E l' false).1; rw [hsp] at this; dsimp only at this; omega
              · rename_i hb; have := h1 (Bool.eq_false_iff.2 hb); dsimp only at this; omega
            have hSx : Hid ((w6).heap[w4.heap.size]? = some (.cells #[.int .i32 x, .int .i32 x] 124 (0, 0))) := (hg6.out).blk (blk_new _ _ _)
            have hPx : Hid ((w6).heap[w.heap.size + 1]? = some (.cells (setCs A2 set.length c2 false) 112 (0, 0))) := (hg6.out).blk ((G.new _ _).blk hP4.out)
            have hQx : Hid ((w6).heap[w.heap.size]? = some (.cells cs 112 (0, 0))) := (hg6.out).blk ((G.new _ _).blk hQ4.out)
            have hownx : Hid (OwnL 124 2 spanC (w6) w.heap.size (.slice A2 set.length c2) set) := (hown4.out.g (G.new _ _)).g (hg6.out)
            have hrdx : Hid (RdTo R A c8 ls l2 b2 (w6)) := (hr4.out.g (G.new _ _)).g (hg6.out)
            have hbutx : Hid (But (fun k => k = R) w (w6)) := (hbut4.out.g (G.new _ _)).g (hg6.out)
            clear hsp hnx
            have s0 := (blk_cell hSx.out 0).trans (show _ = some (.int .i32 x) from rfl)
            have s1 := (blk_cell hSx.out 1).trans (show _ = some (.int .i32 x) from rfl)
            have p2 := (blk_cell hPx.out 2).trans (show _ = some (.slice A2 set.length c2) from rfl)
            go_wp2_with (at_builtin; refine wpList_append_but span_elem _ rfl (.tmp 57) (.tmp 59) rfl w.heap.size _ set rfl (hownx.out.g (G.new _ _)) ((w6).heap.size + 1) (some ⟨(w6).heap.size, 0, none⟩) 1 [(x, x)] rfl (by intro h; cases h) (Sl.of_blk spanC_len _ (blk_new' (w6) _ _ _ (by simp)) rfl (by omega)) (by simp; omega) (by simp; omega) (by have := hbutx.out.size; simp at this ⊢; omega) ?_; intro v' wa hown2 hkeep hbut2; have hPa : wa.heap[w.heap.size + 1]? = some (.cells (setCs A2 set.length c2 false) 112 (0, 0)) := hkeep.2 _ _ _ _ (by decide) ((G.new _ _).blk hPx.out); have fa : wa.frozen? ⟨w.heap.size + 1, 2, none⟩ = false := (by simp [World.frozen?, hPa]); have ca := (blk_cell hPa 2).trans (show _ = some (.slice A2 set.length c2) from rfl); obtain ⟨A3, c3, e3, _, _, _⟩ := OwnL.sl spanC_len hown2; subst e3; replace hown2 := Lib.hid hown2; replace hkeep := Lib.hid hkeep; replace hbut2 := Lib.hid hbut2; replace hPa := Lib.hid hPa)
            have hbp := but_set wa (w.heap.size + 1) 2 (.slice A3 (set.length + 1) c3)
            have hlast : SetSt R A c8 ls w false F m (set ++ [(x, x)]) (l2) (b2) A3 c3 (wa.setCell ⟨w.heap.size + 1, 2, none⟩ (.slice A3 (set.length + 1) c3)) := by
              have hRl : ∀ k, k ≤ R → ¬ some k = (Value.slice A2 set.length c2).ownBlock := fun k hk e => by
                have := (hownx.out.blk e.symm).1
                omega
              refine ⟨hnext.out, hfuel.out, by rw [List.length_append, List.length_singleton]; omega, ?_, ⟨cs, hbp.blk (hkeep.out.2 _ _ _ _ (by decide) ((G.new _ _).blk hQx.out)) (by omega), hcs.out⟩, hown2.out.but' hbp (fun k hk e => by
                obtain ⟨_, _, cs2, h2⟩ := hown2.out.blk hk
                rw [e, hPa.out] at h2
                cases h2), (((hrdx.out.g (G.new _ _)).but hbut2.out (hRl _ (Nat.le_refl _)) (fun k hk => hRl k (by omega))).but hbp (by omega) (by omega)), ((hbutx.out.g (G.new _ _)).keepT hkeep.out).set (p := ⟨w.heap.size + 1, 2, none⟩) (.inl (by simp)) _⟩
              rw [blk_put hPa.out, List.length_append]; rfl
            replace hlast := Lib.hid hlast
            go_roundg m
            case measure => omega
            case rel => exact ⟨set ++ [(x, x)], l2, b2, A3, c3, hlast⟩
          | true =>
            rw [h45] at hi2
            replace h45 := Lib.hid h45
            go_wp2_with fail
            refine hi2.mono ?_
            clear hi2
            rintro e w6 ⟨rfl, hg6⟩
            have hi3 := is_any R A c8 ls l2 b2 w6 ((hr4.out.g (G.new _ _)).g hg6) hl 93 1 93 1 rfl rfl (by omega)
            cases h93 : isC 93 1 l2 with
            | true =>
              rw [h93] at hi3
              replace h93 := Lib.hid h93
              go_wp2_with fail
              refine hi3.mono ?_
              clear hi3
              rintro e w7 ⟨rfl, hg7⟩
              replace hg7 := Lib.hid (hg6.trans hg7)
              have hnx := hnx.out
              have hx := hx.out
              have hm := hm.out
              have hsp : spanS E l' false = ((x, x), l2, b2) := by
                unfold spanS
                dsimp only
                rw [hx, if_neg (by simp [h93.out])]
              have hnext : Hid (setF m (set ++ [(x, x)]) l2 b2 = F) := by rw [hsp] at hnx; exact hnx
              have hfuel : Hid (l2.length + 2 ≤ m + (if b2 = true then 1 else 0)) := by
                have h1 := (spanS_le E l' false).2
                rw [hsp] at h1
                show l2.length + 2 ≤ _
                split
                · have := (spanS_le E l' false).1; rw [hsp] at this; dsimp only at this; omega
                · rename_i hb; have := h1 (Bool.eq_false_iff.2 hb); dsimp only at this; omega
              have hSx : Hid ((w7).heap[w4.heap.size]? = some (.cells #[.int .i32 x, .int .i32 x] 124 (0, 0))) := (hg7.out).blk (blk_new _ _ _)
              have hPx : Hid ((w7).heap[w.heap.size + 1]? = some (.cells (setCs A2 set.length c2 false) 112 (0, 0))) := (hg7.out).blk ((G.new _ _).blk hP4.out)
              have hQx : Hid ((w7).heap[w.heap.size]? = some (.cells cs 112 (0, 0))) := (hg7.out).blk ((G.new _ _).blk hQ4.out)
              have hownx : Hid (OwnL 124 2 spanC (w7) w.heap.size (.slice A2 set.length c2) set) := (hown4.out.g (G.new _ _)).g (hg7.out)
              have hrdx : Hid (RdTo R A c8 ls l2 b2 (w7)) := (hr4.out.g (G.new _ _)).g (hg7.out)
              have hbutx : Hid (But (fun k => k = R) w (w7)) := (hbut4.out.g (G.new _ _)).g (hg7.out)
              clear hsp hnx
              have s0 := (blk_cell hSx.out 0).trans (show _ = some (.int .i32 x) from rfl)
              have s1 := (blk_cell hSx.out 1).trans (show _ = some (.int .i32 x) from rfl)
              have p2 := (blk_cell hPx.out 2).trans (show _ = some (.slice A2 set.length c2) from rfl)
              go_wp2_with (at_builtin; refine wpList_append_but span_elem _ rfl (.tmp 57) (.tmp 59) rfl w.heap.size _ set rfl (hownx.out.g (G.new _ _)) ((w7).heap.size + 1) (some ⟨(w7).heap.size, 0, none⟩) 1 [(x, x)] rfl (by intro h; cases h) (Sl.of_blk spanC_len _ (blk_new' (w7) _ _ _ (by simp)) rfl (by omega)) (by simp; omega) (by simp; omega) (by have := hbutx.out.size; simp at this ⊢; omega) ?_; intro v' wa hown2 hkeep hbut2; have hPa : wa.heap[w.heap.size + 1]? = some (.cells (setCs A2 set.length c2 false) 112 (0, 0)) := hkeep.2 _ _ _ _ (by decide) ((G.new _ _).blk hPx.out); have fa : wa.frozen? ⟨w.heap.size + 1, 2, none⟩ = false := (by simp [World.frozen?, hPa]); have ca := (blk_cell hPa 2).trans (show _ = some (.slice A2 set.length c2) from rfl); obtain ⟨A3, c3, e3, _, _, _⟩ := OwnL.sl spanC_len hown2; subst e3; replace hown2 := Lib.hid hown2; replace hkeep := Lib.hid hkeep; replace hbut2 := Lib.hid hbut2; replace hPa := Lib.hid hPa)
              have hbp := but_set wa (w.heap.size + 1) 2 (.slice A3 (set.length + 1) c3)
              have hlast : SetSt R A c8 ls w false F m (set ++ [(x, x)]) (l2) (b2) A3 c3 (wa.setCell ⟨w.heap.size + 1, 2, none⟩ (.slice A3 (set.length + 1) c3)) := by
                have hRl : ∀ k, k ≤ R → ¬ some k = (Value.slice A2 set.length c2).ownBlock := fun k hk e => by
                  have := (hownx.out.blk e.symm).1
                  omega
                refine ⟨hnext.out, hfuel.out, by rw [List.length_append, List.length_singleton]; omega, ?_, ⟨cs, hbp.blk (hkeep.out.2 _ _ _ _ (by decide) ((G.new _ _).blk hQx.out)) (by omega), hcs.out⟩, hown2.out.but' hbp (fun k hk e => by
                  obtain ⟨_, _, cs2, h2⟩ := hown2.out.blk hk
                  rw [e, hPa.out] at h2
                  cases h2), (((hrdx.out.g (G.new _ _)).but hbut2.out (hRl _ (Nat.le_refl _)) (fun k hk => hRl k (by omega))).but hbp (by omega) (by omega)), ((hbutx.out.g (G.new _ _)).keepT hkeep.out).set (p := ⟨w.heap.size + 1, 2, none⟩) (.inl (by simp)) _⟩
                rw [blk_put hPa.out, List.length_append]; rfl
              replace hlast := Lib.hid hlast
              go_roundg m
              case measure => omega
              case rel => exact ⟨set ++ [(x, x)], l2, b2, A3, c3, hlast⟩
            | false =>
              rw [h93] at hi3
              replace h93 := Lib.hid h93
              go_wp2_with fail
              refine hi3.mono ?_
              clear hi3
              rintro e w7 ⟨rfl, hg7⟩
              replace hg7 := hg6.trans hg7
              have hn := next_any R A c8 ls l2 b2 w7 ((hr4.out.g (G.new _ _)).g hg7) hl
              obtain ⟨z, l3, b3, hxn⟩ : ∃ z l3 b3, nx l2 b2 = (z, l3, b3) := ⟨_, _, _, rfl⟩
              rw [hxn] at hn
              dsimp only at hn
              replace hxn := Lib.hid hxn
              replace hg7 := Lib.hid hg7
              clear hg6
              go_wp2_with fail
              refine hn.mono ?_
              clear hn
              rintro e w8 ⟨rfl, hr8, hb8⟩
              have hu := unit_any R A c8 ls l3 b3 w8 hr8 hl true
              obtain ⟨y, l4, b4, hxy⟩ : ∃ y l4 b4, unitS true l3 b3 = (y, l4, b4) := ⟨_, _, _, rfl⟩
              rw [hxy] at hu
              dsimp only at hu
              replace hxy := Lib.hid hxy
              replace hb8 := Lib.hid hb8
              clear hr8
              go_wp2_with fail
              refine hu.mono ?_
              clear hu
              rintro e w9 ⟨rfl, hr9, hb9'⟩
              have hb79 := hb8.out.trans hb9'
              have hS9 : Hid (w9.heap[w4.heap.size]? = some (.cells #[.int .i32 x, .int .i32 x] 124 (0, 0))) := hb79.blk (hg7.out.blk (blk_new _ _ _)) (by omega)
              have hP9 : Hid (w9.heap[w.heap.size + 1]? = some (.cells (setCs A2 set.length c2 false) 112 (0, 0))) := hb79.blk (hg7.out.blk ((G.new _ _).blk hP4.out)) (by omega)
              have hQ9 : Hid (w9.heap[w.heap.size]? = some (.cells cs 112 (0, 0))) := hb79.blk (hg7.out.blk ((G.new _ _).blk hQ4.out)) (by omega)
              have hown9 : Hid (OwnL 124 2 spanC w9 w.heap.size (.slice A2 set.length c2) set) := ((hown4.out.g (G.new _ _)).g hg7.out).but' hb79 (fun k hk e => by have := (hown4.out.blk hk).1; omega)
              have hbut9 : Hid (But (fun k => k = R) w w9) := ((hbut4.out.g (G.new _ _)).g hg7.out).trans hb79
              replace hr9 := Lib.hid hr9
              clear hb9' hb79 hb8 hg7
              have hnx := hnx.out
              have hx := hx.out
              have hm := hm.out
              cases b4 with
              | true =>
                have hsp : spanS E l' false = ((x, y), l4, true || decide (y < x)) := by
                  unfold spanS
                  dsimp only
                  rw [hx]
                  dsimp only
                  rw [if_pos ⟨h45.out, h93.out⟩, hxn.out, hxy.out]
                have hnext : Hid (setF m (set ++ [(x, y)]) l4 true = F) := by rw [hsp, Bool.true_or] at hnx; exact hnx
                have hfuel : Hid (l4.length + 2 ≤ m + (if true = true then 1 else 0)) := by
                  have h1 := (spanS_le E l' false).2
                  have h2 := (spanS_le E l' false).1
                  rw [hsp, Bool.true_or] at h1
                  rw [hsp] at h2
                  dsimp only at h1 h2
                  show l4.length + 2 ≤ _
                  split
                  · omega
                  · rename_i hb; have := h1 (Bool.eq_false_iff.2 hb); omega
                have hb9 := but_set w9 w4.heap.size 1 (.int .i32 y)
                have hbX := but_set (w9.setCell ⟨w4.heap.size, 1, none⟩ (.int .i32 y)) R 2 (.bool true)
                have hS9a : (w9.setCell ⟨w4.heap.size, 1, none⟩ (.int .i32 y)).heap[w4.heap.size]? = some (.cells #[.int .i32 x, .int .i32 y] 124 (0, 0)) := by rw [blk_put hS9.out]; rfl
                have hSx : Hid (((w9.setCell ⟨w4.heap.size, 1, none⟩ (.int .i32 y)).setCell ⟨R, 2, none⟩ (.bool true)).heap[w4.heap.size]? = some (.cells #[.int .i32 x, .int .i32 y] 124 (0, 0))) := hbX.blk hS9a (by omega)
                have hPx : Hid (((w9.setCell ⟨w4.heap.size, 1, none⟩ (.int .i32 y)).setCell ⟨R, 2, none⟩ (.bool true)).heap[w.heap.size + 1]? = some (.cells (setCs A2 set.length c2 false) 112 (0, 0))) := hbX.blk (hb9.blk hP9.out (by omega)) (by omega)
                have hQx : Hid (((w9.setCell ⟨w4.heap.size, 1, none⟩ (.int .i32 y)).setCell ⟨R, 2, none⟩ (.bool true)).heap[w.heap.size]? = some (.cells cs 112 (0, 0))) := hbX.blk (hb9.blk hQ9.out (by omega)) (by omega)
                have hownx : Hid (OwnL 124 2 spanC ((w9.setCell ⟨w4.heap.size, 1, none⟩ (.int .i32 y)).setCell ⟨R, 2, none⟩ (.bool true)) w.heap.size (.slice A2 set.length c2) set) := (hown9.out.but' hb9 (fun k hk e => by have := (hown4.out.blk hk).2.1; omega)).but' hbX (fun k hk e => by have := (hown4.out.blk hk).1; omega)
                have hrdx : Hid (RdTo R A c8 ls l4 true ((w9.setCell ⟨w4.heap.size, 1, none⟩ (.int .i32 y)).setCell ⟨R, 2, none⟩ (.bool true))) := (hr9.out.but hb9 (by omega) (by omega)).bad true
                have hbutx : Hid (But (fun k => k = R) w ((w9.setCell ⟨w4.heap.size, 1, none⟩ (.int .i32 y)).setCell ⟨R, 2, none⟩ (.bool true))) := (hbut9.out.set (p := ⟨w4.heap.size, 1, none⟩) (.inl (by have := hz4; simp; omega)) _).trans hbX
                have g1 := (blk_cell hS9.out 1).trans (show _ = some (.int .i32 x) from rfl)
                have g1f : w9.frozen? ⟨w4.heap.size, 1, none⟩ = false := by simp [World.frozen?, hS9.out]
                have g2 := (blk_cell hS9a 1).trans (show _ = some (.int .i32 y) from rfl)
                obtain ⟨p9, _, _, hrp9⟩ := hr9.out.but hb9 (by omega) (by omega)
                have g3 := hrp9.c2
                have g3f := hrp9.free 2
                clear hrp9 hS9a hbX hb9 hsp hnx
                have s0 := (blk_cell hSx.out 0).trans (show _ = some (.int .i32 x) from rfl)
                have s1 := (blk_cell hSx.out 1).trans (show _ = some (.int .i32 y) from rfl)
                have p2 := (blk_cell hPx.out 2).trans (show _ = some (.slice A2 set.length c2) from rfl)
                go_wp2_with (at_builtin; refine wpList_append_but span_elem _ rfl (.tmp 57) (.tmp 59) rfl w.heap.size _ set rfl (hownx.out.g (G.new _ _)) (w9.heap.size + 1) (some ⟨w9.heap.size, 0, none⟩) 1 [(x, y)] rfl (by intro h; cases h) (Sl.of_blk spanC_len _ (blk_new' ((w9.setCell ⟨w4.heap.size, 1, none⟩ (.int .i32 y)).setCell ⟨R, 2, none⟩ (.bool true)) _ _ _ (by simp)) rfl (by omega)) (by simp; omega) (by simp; omega) (by have := hbutx.out.size; simp at this ⊢; omega) ?_; intro v' wa hown2 hkeep hbut2; have hPa : wa.heap[w.heap.size + 1]? = some (.cells (setCs A2 set.length c2 false) 112 (0, 0)) := hkeep.2 _ _ _ _ (by decide) ((G.new _ _).blk hPx.out); have fa : wa.frozen? ⟨w.heap.size + 1, 2, none⟩ = false := (by simp [World.frozen?, hPa]); have ca := (blk_cell hPa 2).trans (show _ = some (.slice A2 set.length c2) from rfl); obtain ⟨A3, c3, e3, _, _, _⟩ := OwnL.sl spanC_len hown2; subst e3; replace hown2 := Lib.hid hown2; replace hkeep := Lib.hid hkeep; replace hbut2 := Lib.hid hbut2; replace hPa := Lib.hid hPa)
                have hbp := but_set wa (w.heap.size + 1) 2 (.slice A3 (set.length + 1) c3)
                have hlast : SetSt R A c8 ls w false F m (set ++ [(x, y)]) (l4) (true) A3 c3 (wa.setCell ⟨w.heap.size + 1, 2, none⟩ (.slice A3 (set.length + 1) c3)) := by
                  have hRl : ∀ k, k ≤ R → ¬ some k = (Value.slice A2 set.length c2).ownBlock := fun k hk e => by
                    have := (hownx.out.blk e.symm).1
                    omega
                  refine ⟨hnext.out, hfuel.out, by rw [List.length_append, List.length_singleton]; omega, ?_, ⟨cs, hbp.blk (hkeep.out.2 _ _ _ _ (by decide) ((G.new _ _).blk hQx.out)) (by omega), hcs.out⟩, hown2.out.but' hbp (fun k hk e => by
                    obtain ⟨_, _, cs2, h2⟩ := hown2.out.blk hk
                    rw [e, hPa.out] at h2
                    cases h2), (((hrdx.out.g (G.new _ _)).but hbut2.out (hRl _ (Nat.le_refl _)) (fun k hk => hRl k (by omega))).but hbp (by omega) (by omega)), ((hbutx.out.g (G.new _ _)).keepT hkeep.out).set (p := ⟨w.heap.size + 1, 2, none⟩) (.inl (by simp)) _⟩
                  rw [blk_put hPa.out, List.length_append]; rfl
                replace hlast := Lib.hid hlast
                go_roundg m
                case measure => omega
                case rel => exact ⟨set ++ [(x, y)], l4, true, A3, c3, hlast⟩
              | false =>
                by_cases hyx : y < x
                · have t1 : (y : Int) < (x : Int) := by omega
                  have hdx : decide (y < x) = true := decide_eq_true hyx
                  replace hyx := Lib.hid hyx
                  have hsp : spanS E l' false = ((x, y), l4, false || decide (y < x)) := by
                    unfold spanS
                    dsimp only
                    rw [hx]
                    dsimp only
                    rw [if_pos ⟨h45.out, h93.out⟩, hxn.out, hxy.out]
                  have hnext : Hid (setF m (set ++ [(x, y)]) l4 true = F) := by rw [hsp, hdx, Bool.or_true] at hnx; exact hnx
                  have hfuel : Hid (l4.length + 2 ≤ m + (if true = true then 1 else 0)) := by
                    have h1 := (spanS_le E l' false).2
                    have h2 := (spanS_le E l' false).1
                    rw [hsp, hdx, Bool.or_true] at h1
                    rw [hsp] at h2
                    dsimp only at h1 h2
                    show l4.length + 2 ≤ _
                    split
                    · omega
                    · rename_i hb; have := h1 (Bool.eq_false_iff.2 hb); omega
                  have hb9 := but_set w9 w4.heap.size 1 (.int .i32 y)
                  have hbX := but_set (w9.setCell ⟨w4.heap.size, 1, none⟩ (.int .i32 y)) R 2 (.bool true)
                  have hS9a : (w9.setCell ⟨w4.heap.size, 1, none⟩ (.int .i32 y)).heap[w4.heap.size]? = some (.cells #[.int .i32 x, .int .i32 y] 124 (0, 0)) := by rw [blk_put hS9.out]; rfl
                  have hSx : Hid (((w9.setCell ⟨w4.heap.size, 1, none⟩ (.int .i32 y)).setCell ⟨R, 2, none⟩ (.bool true)).heap[w4.heap.size]? = some (.cells #[.int .i32 x, .int .i32 y] 124 (0, 0))) := hbX.blk hS9a (by omega)
                  have hPx : Hid (((w9.setCell ⟨w4.heap.size, 1, none⟩ (.int .i32 y)).setCell ⟨R, 2, none⟩ (.bool true)).heap[w.heap.size + 1]? = some (.cells (setCs A2 set.length c2 false) 112 (0, 0))) := hbX.blk (hb9.blk hP9.out (by omega)) (by omega)
                  have hQx : Hid (((w9.setCell ⟨w4.heap.size, 1, none⟩ (.int .i32 y)).setCell ⟨R, 2, none⟩ (.bool true)).heap[w.heap.size]? = some (.cells cs 112 (0, 0))) := hbX.blk (hb9.blk hQ9.out (by omega)) (by omega)
                  have hownx : Hid (OwnL 124 2 spanC ((w9.setCell ⟨w4.heap.size, 1, none⟩ (.int .i32 y)).setCell ⟨R, 2, none⟩ (.bool true)) w.heap.size (.slice A2 set.length c2) set) := (hown9.out.but' hb9 (fun k hk e => by have := (hown4.out.blk hk).2.1; omega)).but' hbX (fun k hk e => by have := (hown4.out.blk hk).1; omega)
                  have hrdx : Hid (RdTo R A c8 ls l4 true ((w9.setCell ⟨w4.heap.size, 1, none⟩ (.int .i32 y)).setCell ⟨R, 2, none⟩ (.bool true))) := (hr9.out.but hb9 (by omega) (by omega)).bad true
                  have hbutx : Hid (But (fun k => k = R) w ((w9.setCell ⟨w4.heap.size, 1, none⟩ (.int .i32 y)).setCell ⟨R, 2, none⟩ (.bool true))) := (hbut9.out.set (p := ⟨w4.heap.size, 1, none⟩) (.inl (by have := hz4; simp; omega)) _).trans hbX
                  have g1 := (blk_cell hS9.out 1).trans (show _ = some (.int .i32 x) from rfl)
                  have g1f : w9.frozen? ⟨w4.heap.size, 1, none⟩ = false := by simp [World.frozen?, hS9.out]
                  have g2 := (blk_cell hS9a 1).trans (show _ = some (.int .i32 y) from rfl)
                  obtain ⟨p9, _, _, hrp9⟩ := hr9.out.but hb9 (by omega) (by omega)
                  have g3 := hrp9.c2
                  have g3f := hrp9.free 2
                  clear hrp9 hS9a hbX hb9 hsp hnx
                  have s0 := (blk_cell hSx.out 0).trans (show _ = some (.int .i32 x) from rfl)
                  have s1 := (blk_cell hSx.out 1).trans (show _ = some (.int .i32 y) from rfl)
                  have p2 := (blk_cell hPx.out 2).trans (show _ = some (.slice A2 set.length c2) from rfl)
                  go_wp2_with (at_builtin; refine wpList_append_but span_elem _ rfl (.tmp 57) (.tmp 59) rfl w.heap.size _ set rfl (hownx.out.g (G.new _ _)) (w9.heap.size + 1) (some ⟨w9.heap.size, 0, none⟩) 1 [(x, y)] rfl (by intro h; cases h) (Sl.of_blk spanC_len _ (blk_new' ((w9.setCell ⟨w4.heap.size, 1, none⟩ (.int .i32 y)).setCell ⟨R, 2, none⟩ (.bool true)) _ _ _ (by simp)) rfl (by omega)) (by simp; omega) (by simp; omega) (by have := hbutx.out.size; simp at this ⊢; omega) ?_; intro v' wa hown2 hkeep hbut2; have hPa : wa.heap[w.heap.size + 1]? = some (.cells (setCs A2 set.length c2 false) 112 (0, 0)) := hkeep.2 _ _ _ _ (by decide) ((G.new _ _).blk hPx.out); have fa : wa.frozen? ⟨w.heap.size + 1, 2, none⟩ = false := (by simp [World.frozen?, hPa]); have ca := (blk_cell hPa 2).trans (show _ = some (.slice A2 set.length c2) from rfl); obtain ⟨A3, c3, e3, _, _, _⟩ := OwnL.sl spanC_len hown2; subst e3; replace hown2 := Lib.hid hown2; replace hkeep := Lib.hid hkeep; replace hbut2 := Lib.hid hbut2; replace hPa := Lib.hid hPa)
                  have hbp := but_set wa (w.heap.size + 1) 2 (.slice A3 (set.length + 1) c3)
                  have hlast : SetSt R A c8 ls w false F m (set ++ [(x, y)]) (l4) (true) A3 c3 (wa.setCell ⟨w.heap.size + 1, 2, none⟩ (.slice A3 (set.length + 1) c3)) := by
                    have hRl : ∀ k, k ≤ R → ¬ some k = (Value.slice A2 set.length c2).ownBlock := fun k hk e => by
                      have := (hownx.out.blk e.symm).1
                      omega
                    refine ⟨hnext.out, hfuel.out, by rw [List.length_append, List.length_singleton]; omega, ?_, ⟨cs, hbp.blk (hkeep.out.2 _ _ _ _ (by decide) ((G.new _ _).blk hQx.out)) (by omega), hcs.out⟩, hown2.out.but' hbp (fun k hk e => by
                      obtain ⟨_, _, cs2, h2⟩ := hown2.out.blk hk
                      rw [e, hPa.out] at h2
                      cases h2), (((hrdx.out.g (G.new _ _)).but hbut2.out (hRl _ (Nat.le_refl _)) (fun k hk => hRl k (by omega))).but hbp (by omega) (by omega)), ((hbutx.out.g (G.new _ _)).keepT hkeep.out).set (p := ⟨w.heap.size + 1, 2, none⟩) (.inl (by simp)) _⟩
                    rw [blk_put hPa.out, List.length_append]; rfl
                  replace hlast := Lib.hid hlast
                  go_roundg m
                  case measure => omega
                  case rel => exact ⟨set ++ [(x, y)], l4, true, A3, c3, hlast⟩
                · have t1 : ¬ (y : Int) < (x : Int) := by omega
                  have hdx : decide (y < x) = false := decide_eq_false hyx
                  replace hyx := Lib.hid hyx
                  have hsp : spanS E l' false = ((x, y), l4, false || decide (y < x)) := by
                    unfold spanS
                    dsimp only
                    rw [hx]
                    dsimp only
                    rw [if_pos ⟨h45.out, h93.out⟩, hxn.out, hxy.out]
                  have hnext : Hid (setF m (set ++ [(x, y)]) l4 false = F) := by rw [hsp, hdx, Bool.or_false] at hnx; exact hnx
                  have hfuel : Hid (l4.length + 2 ≤ m + (if false = true then 1 else 0)) := by
                    have h1 := (spanS_le E l' false).2
                    have h2 := (spanS_le E l' false).1
                    rw [hsp, hdx, Bool.or_false] at h1
                    rw [hsp] at h2
                    dsimp only at h1 h2
                    show l4.length + 2 ≤ _
                    split
                    · omega
                    · rename_i hb; have := h1 (Bool.eq_false_iff.2 hb); omega
                  have hb9 := but_set w9 w4.heap.size 1 (.int .i32 y)
                  have hbX := but_set (w9.setCell ⟨w4.heap.size, 1, none⟩ (.int .i32 y)) R 2 (.bool false)
                  have hS9a : (w9.setCell ⟨w4.heap.size, 1, none⟩ (.int .i32 y)).heap[w4.heap.size]? = some (.cells #[.int .i32 x, .int .i32 y] 124 (0, 0)) := by rw [blk_put hS9.out]; rfl
                  have hSx : Hid (((w9.setCell ⟨w4.heap.size, 1, none⟩ (.int .i32 y)).setCell ⟨R, 2, none⟩ (.bool false)).heap[w4.heap.size]? = some (.cells #[.int .i32 x, .int .i32 y] 124 (0, 0))) := hbX.blk hS9a (by omega)
                  have hPx : Hid (((w9.setCell ⟨w4.heap.size, 1, none⟩ (.int .i32 y)).setCell ⟨R, 2, none⟩ (.bool false)).heap[w.heap.size + 1]? = some (.cells (setCs A2 set.length c2 false) 112 (0, 0))) := hbX.blk (hb9.blk hP9.out (by omega)) (by omega)
                  have hQx : Hid (((w9.setCell ⟨w4.heap.size, 1, none⟩ (.int .i32 y)).setCell ⟨R, 2, none⟩ (.bool false)).heap[w.heap.size]? = some (.cells cs 112 (0, 0))) := hbX.blk (hb9.blk hQ9.out (by omega)) (by omega)
                  have hownx : Hid (OwnL 124 2 spanC ((w9.setCell ⟨w4.heap.size, 1, none⟩ (.int .i32 y)).setCell ⟨R, 2, none⟩ (.bool false)) w.heap.size (.slice A2 set.length c2) set) := (hown9.out.but' hb9 (fun k hk e => by have := (hown4.out.blk hk).2.1; omega)).but' hbX (fun k hk e => by have := (hown4.out.blk hk).1; omega)
                  have hrdx : Hid (RdTo R A c8 ls l4 false ((w9.setCell ⟨w4.heap.size, 1, none⟩ (.int .i32 y)).setCell ⟨R, 2, none⟩ (.bool false))) := (hr9.out.but hb9 (by omega) (by omega)).bad false
                  have hbutx : Hid (But (fun k => k = R) w ((w9.setCell ⟨w4.heap.size, 1, none⟩ (.int .i32 y)).setCell ⟨R, 2, none⟩ (.bool false))) := (hbut9.out.set (p := ⟨w4.heap.size, 1, none⟩) (.inl (by have := hz4; simp; omega)) _).trans hbX
                  have g1 := (blk_cell hS9.out 1).trans (show _ = some (.int .i32 x) from rfl)
                  have g1f : w9.frozen? ⟨w4.heap.size, 1, none⟩ = false := by simp [World.frozen?, hS9.out]
                  have g2 := (blk_cell hS9a 1).trans (show _ = some (.int .i32 y) from rfl)
                  obtain ⟨p9, _, _, hrp9⟩ := hr9.out.but hb9 (by omega) (by omega)
                  have g3 := hrp9.c2
                  have g3f := hrp9.free 2
                  clear hrp9 hS9a hbX hb9 hsp hnx
                  have s0 := (blk_cell hSx.out 0).trans (show _ = some (.int .i32 x) from rfl)
                  have s1 := (blk_cell hSx.out 1).trans (show _ = some (.int .i32 y) from rfl)
                  have p2 := (blk_cell hPx.out 2).trans (show _ = some (.slice A2 set.length c2) from rfl)
                  go_wp2_with (at_builtin; refine wpList_append_but span_elem _ rfl (.tmp 57) (.tmp 59) rfl w.heap.size _ set rfl (hownx.out.g (G.new _ _)) (w9.heap.size + 1) (some ⟨w9.heap.size, 0, none⟩) 1 [(x, y)] rfl (by intro h; cases h) (Sl.of_blk spanC_len _ (blk_new' ((w9.setCell ⟨w4.heap.size, 1, none⟩ (.int .i32 y)).setCell ⟨R, 2, none⟩ (.bool false)) _ _ _ (by simp)) rfl (by omega)) (by simp; omega) (by simp; omega) (by have := hbutx.out.size; simp at this ⊢; omega) ?_; intro v' wa hown2 hkeep hbut2; have hPa : wa.heap[w.heap.size + 1]? = some (.cells (setCs A2 set.length c2 false) 112 (0, 0)) := hkeep.2 _ _ _ _ (by decide) ((G.new _ _).blk hPx.out); have fa : wa.frozen? ⟨w.heap.size + 1, 2, none⟩ = false := (by simp [World.frozen?, hPa]); have ca := (blk_cell hPa 2).trans (show _ = some (.slice A2 set.length c2) from rfl); obtain ⟨A3, c3, e3, _, _, _⟩ := OwnL.sl spanC_len hown2; subst e3; replace hown2 := Lib.hid hown2; replace hkeep := Lib.hid hkeep; replace hbut2 := Lib.hid hbut2; replace hPa := Lib.hid hPa)
                  have hbp := but_set wa (w.heap.size + 1) 2 (.slice A3 (set.length + 1) c3)
                  have hlast : SetSt R A c8 ls w false F m (set ++ [(x, y)]) (l4) (false) A3 c3 (wa.setCell ⟨w.heap.size + 1, 2, none⟩ (.slice A3 (set.length + 1) c3)) := by
                    have hRl : ∀ k, k ≤ R → ¬ some k = (Value.slice A2 set.length c2).ownBlock := fun k hk e => by
                      have := (hownx.out.blk e.symm).1
                      omega
                    refine ⟨hnext.out, hfuel.out, by rw [List.length_append, List.length_singleton]; omega, ?_, ⟨cs, hbp.blk (hkeep.out.2 _ _ _ _ (by decide) ((G.new _ _).blk hQx.out)) (by omega), hcs.out⟩, hown2.out.but' hbp (fun k hk e => by
                      obtain ⟨_, _, cs2, h2⟩ := hown2.out.blk hk
                      rw [e, hPa.out] at h2
                      cases h2), (((hrdx.out.g (G.new _ _)).but hbut2.out (hRl _ (Nat.le_refl _)) (fun k hk => hRl k (by omega))).but hbp (by omega) (by omega)), ((hbutx.out.g (G.new _ _)).keepT hkeep.out).set (p := ⟨w.heap.size + 1, 2, none⟩) (.inl (by simp)) _⟩
                    rw [blk_put hPa.out, List.length_append]; rfl
                  replace hlast := Lib.hid hlast
                  go_roundg m
                  case measure => omega
                  case rel => exact ⟨set ++ [(x, y)], l4, false, A3, c3, hlast⟩
end Go.Proofs.YthhhobfdlgmjlaaDoor

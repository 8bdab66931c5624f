/- glob's list and reader: what they answer and leave. Condition: at most 2^30 runes. -/
import Derived.Test.YthhhobfdlgmjlaaDoorM6WholeRow
import Derived.Test.YthhhobfdlgmjlaaDoorOwnButQWholeRow
import Derived.Test.YthhhobfdlgmjlaaDoorGlobLaw
namespace Go.Proofs.YthhhobfdlgmjlaaDoor
open Go.RowKit

def runeC (x : Nat) : List Value := [.int .i32 x]
theorem runeC_len (x : Nat) : (runeC x).length = 1 := rfl
theorem rune_elem : IsElem Tryd.prog 86 21 1 4 runeC :=
  isElem_of (z := .int .i32 0) Tryd.underlying86 (by kernel_rfl) rfl (by omega) runeC_len (by intro x u hu; simp [runeC] at hu; subst hu; rfl)
theorem Sl.rune {w : World} {B : Nat} {A : Option Addr} {xs : List Nat} {k : Nat} {x : Nat} (h : Sl runeC 1 w B A xs) (hx : xs[k]? = some x) :
    ∃ b o, A = some ⟨b, o, none⟩ ∧ b < B ∧ w.cell? ⟨b, o + k, none⟩ = some (.int .i32 x) := Sl.get1 (g := fun x : Nat => Value.int .i32 x) h hx
/-- A text's runes. -/
def runesL (s : ByteArray) : List Nat := (cks s.data.toList).map Ck.r
theorem runesL_len (s : ByteArray) : (runesL s).length = (cks s.data.toList).length := by simp [runesL]
set_option maxHeartbeats 1000000 in
theorem list_any (s : ByteArray) (w : World) (hs : s.size ≤ 1073741824) :
    Calls Tryd.prog 60 #[.string s] w fun e w' => ∃ A c, e = .returned (.slice A (runesL s).length c) ∧ Sl runeC 1 w' w'.heap.size A (runesL s) ∧ G w w' := by
  have hl : (cks s.data.toList).length ≤ 1073741824 := Nat.le_trans (cks_length_le _) (by simpa using hs)
  go_enter Tryd.func60, Tryd.ntmps60
  go_wp2_with fail
  go_loopw [2] (fun v wr => ∃ (k : Nat) (A8 : Option Addr) (n8 c8 : Nat), v = .slice A8 n8 c8 ∧ k ≤ (cks s.data.toList).length ∧ Hid (IterAt wr w.heap.size s k) ∧ Hid (OwnL 21 1 runeC wr w.heap.size (.slice A8 n8 c8) ((runesL s).take k)) ∧ G w wr) (fun _ wr => s.size - wr.iterPos w.heap.size)
  case atStart => exact ⟨0, _, _, _, rfl, Nat.zero_le _, IterAt.start w s, OwnL.nil, G.iter _ _ _⟩
  case round =>
    obtain ⟨k, A8, n8, c8, rfl, hk, hit, hown, hg⟩ := hrel
    have hsep : ∀ j, (Value.slice A8 n8 c8).ownBlock = some j → j ≠ w.heap.size := by
      rintro j hj rfl
      obtain ⟨_, _, cs, h1⟩ := hown.out.blk hj
      have h2 : wr.heap[w.heap.size]? = some (.stringIter s _) := hit.out
      rw [h2] at h1
      cases h1
    by_cases hlt : k < (cks s.data.toList).length
    · obtain ⟨c, hc⟩ := piece_at hlt
      have hrk : (runesL s)[k]? = some c.r := by unfold runesL; rw [List.getElem?_map, hc]; rfl
      have hpos := hit.out.pos
      have hless := off_less hc
      obtain ⟨w1, hnx, hit1, hbt, hsz1⟩ := run_next_piece (P := Tryd.prog) hit.out hc
      clear hsz1
      have hg1 := hg.next hbt (by omega)
      have hown1 := hown.out.but' hbt hsep
      have htk := take_snoc' hrk
      have hkl : ((runesL s).take k).length ≤ 1073741824 := by rw [List.length_take]; omega
      clear hit hown hbt hc hrk
      generalize hrs : (runesL s).take k = rs at *
      replace hrs := Lib.hid hrs
      replace hpos := Lib.hid hpos
      replace hless := Lib.hid hless
      replace hit1 := Lib.hid hit1
      replace hsep := Lib.hid hsep
      replace htk := Lib.hid htk
      go_wp2_with (at_builtin; refine wpList_append_but rune_elem _ rfl (.tmp 10) (.tmp 12) rfl w.heap.size _ rs rfl (hown1.g (G.new _ _)) (w1.heap.size + 1) (some ⟨w1.heap.size, 0, none⟩) 1 [c.r] rfl (by intro h; cases h) (Sl.of_blk runeC_len _ (blk_new _ _ _) rfl (by omega)) (by simp; omega) (by simp; omega) (by have := hg1.size; simp; omega) ?_; intro v' w2 hown2 hkeep hbut)
      have it2 : IterAt w2 w.heap.size s (k + 1) := (hit1.out.g (G.new _ _)).but hbut (fun e => hsep.out _ e.symm rfl)
      have hg2 : G w w2 := hkeep.g (hg1.alloc _)
      have hown3 : OwnL 21 1 runeC w2 w.heap.size v' ((runesL s).take (k + 1)) := by
        rw [htk.out]
        exact hown2
      replace it2 := Lib.hid it2
      replace hown3 := Lib.hid hown3
      clear hown2 hkeep hbut hown1
      obtain ⟨A2, c2, e2, _, _, _⟩ := OwnL.sl runeC_len hown3.out
      subst e2
      go_roundw
      case rel => exact ⟨k + 1, A2, _, c2, rfl, by omega, it2, hown3, hg2⟩
      case measure => rw [hpos.out, it2.out.pos]; exact hless.out
    · have hnx := fun ty => run_next_over (P := Tryd.prog) ty hit.out (by omega)
      have hown1 := hown.out
      rw [List.take_of_length_le (by rw [runesL_len]; omega)] at hown1
      obtain ⟨A2, c2, e2, _, _, hsl⟩ := OwnL.sl runeC_len hown1
      cases e2
      replace hsl := Lib.hid hsl
      clear hown hown1 hsep
      go_wp2_with fail
      go_ret
      exact ⟨A8, c8, rfl, hsl.out, hg⟩

/-- The reader behind a pointer: what it reads, how far it is, whether it is bad. -/
def RdAt (w : World) (R : Nat) (A : Option Addr) (c8 : Nat) (ls : List Nat) (p : Nat) (b : Bool) : Prop :=
  w.heap[R]? = some (.cells #[.slice A ls.length c8, .int .i64 p, .bool b] 118 (0, 0)) ∧ Sl runeC 1 w R A ls
section
variable {w w' : World} {R : Nat} {A : Option Addr} {c8 : Nat} {ls l : List Nat} {p : Nat} {b : Bool}
theorem RdAt.lt (h : RdAt w R A c8 ls p b) : R < w.heap.size := blk_lt h.1
theorem RdAt.but {S : Nat → Prop} (h : RdAt w R A c8 ls p b) (hb : But S w w') (hR : ¬ S R) (hS : ∀ k, k < R → ¬ S k) : RdAt w' R A c8 ls p b :=
  ⟨hb.blk h.1 hR, h.2.keep fun k o hk => hb.cell (by have := h.lt; omega) (hS k hk)⟩
theorem RdAt.g (h : RdAt w R A c8 ls p b) (hg : G w w') : RdAt w' R A c8 ls p b := h.but (S := fun _ => False) (.of_g hg) (fun e => e) (fun _ _ e => e)
theorem RdAt.c0 (h : RdAt w R A c8 ls p b) : w.cell? ⟨R, 0, none⟩ = some (.slice A ls.length c8) := by rw [blk_cell h.1]; rfl
theorem RdAt.c1 (h : RdAt w R A c8 ls p b) : w.cell? ⟨R, 1, none⟩ = some (.int .i64 p) := by rw [blk_cell h.1]; rfl
theorem RdAt.c2 (h : RdAt w R A c8 ls p b) : w.cell? ⟨R, 2, none⟩ = some (.bool b) := by rw [blk_cell h.1]; rfl
theorem RdAt.free (h : RdAt w R A c8 ls p b) (o : Nat) : w.frozen? ⟨R, o, none⟩ = false := by simp [World.frozen?, h.1]
theorem blk_put {w : World} {b : Nat} {cs : Array Value} {t : TypeId} {fz : Nat × Nat} (h : w.heap[b]? = some (.cells cs t fz)) (o : Nat) (u : Value) : (w.setCell ⟨b, o, none⟩ u).heap[b]? = some (.cells (cs.setIfInBounds o u) t fz) := by
  rw [setCell_eq_setRow w b o cs t fz u h]
  exact setRow_heap w b cs _ t _ h
theorem but_set (w : World) (R o : Nat) (u : Value) : But (fun k => k = R) w (w.setCell ⟨R, o, none⟩ u) := But.set (S := fun k => k = R) (p := ⟨R, o, none⟩) (But.refl _ w) (.inr rfl) u
theorem RdAt.at (h : RdAt w R A c8 ls p b) (q : Nat) : RdAt (w.setCell ⟨R, 1, none⟩ (.int .i64 q)) R A c8 ls q b :=
  ⟨by rw [blk_put h.1]; rfl, h.2.keep fun k o hk => (but_set w R 1 _).cell (by have := h.lt; omega) (by omega)⟩
theorem RdAt.bad (h : RdAt w R A c8 ls p b) (q : Bool) : RdAt (w.setCell ⟨R, 2, none⟩ (.bool q)) R A c8 ls p q :=
  ⟨by rw [blk_put h.1]; rfl, h.2.keep fun k o hk => (but_set w R 2 _).cell (by have := h.lt; omega) (by omega)⟩
end
/-- The reader has l left. -/
def RdTo (R : Nat) (A : Option Addr) (c8 : Nat) (ls l : List Nat) (b : Bool) (w : World) : Prop := ∃ p, p ≤ ls.length ∧ ls.drop p = l ∧ RdAt w R A c8 ls p b
theorem RdTo.g {w w' : World} {R : Nat} {A : Option Addr} {c8 : Nat} {ls l : List Nat} {b : Bool} (h : RdTo R A c8 ls l b w) (hg : G w w') : RdTo R A c8 ls l b w' := by
  obtain ⟨p, h1, h2, h3⟩ := h
  exact ⟨p, h1, h2, h3.g hg⟩
theorem RdTo.but {S : Nat → Prop} {w w' : World} {R : Nat} {A : Option Addr} {c8 : Nat} {ls l : List Nat} {b : Bool} (h : RdTo R A c8 ls l b w) (hb : But S w w') (hR : ¬ S R) (hS : ∀ k, k < R → ¬ S k) : RdTo R A c8 ls l b w' := by
  obtain ⟨p, h1, h2, h3⟩ := h
  exact ⟨p, h1, h2, h3.but hb hR hS⟩
theorem RdTo.bad {w : World} {R : Nat} {A : Option Addr} {c8 : Nat} {ls l : List Nat} {b : Bool} (h : RdTo R A c8 ls l b w) (q : Bool) : RdTo R A c8 ls l q (w.setCell ⟨R, 2, none⟩ (.bool q)) := by
  obtain ⟨p, h1, h2, h3⟩ := h
  exact ⟨p, h1, h2, h3.bad q⟩
theorem drop_at {m : List Nat} {p : Nat} (h : p < m.length) : ∃ c, m[p]? = some c ∧ m.drop p = c :: m.drop (p + 1) := ⟨m[p], List.getElem?_eq_getElem h, List.drop_eq_getElem_cons h⟩
set_option maxHeartbeats 400000 in
theorem end_any (R : Nat) (A : Option Addr) (c8 : Nat) (ls : List Nat) (p : Nat) (b : Bool) (w : World) (h : RdAt w R A c8 ls p b) :
    Calls Tryd.prog 61 #[.pointer (some ⟨R, 0, none⟩)] w fun e w' => e = .returned (.bool (decide (ls.length ≤ p))) ∧ G w w' := by
  have c0 := h.c0
  have c1 := h.c1
  clear h
  go_enter Tryd.func61, Tryd.ntmps61
  go_wp2_with fail
  go_quiet (fail)
  go_wp2_with fail
  go_ret
  exact ⟨ret_bool (decide_eq_decide.2 (by omega)), (G.refl _).drewN _⟩
set_option maxHeartbeats 1000000 in
theorem is_any (R : Nat) (A : Option Addr) (c8 : Nat) (ls l : List Nat) (b : Bool) (w : World) (h : RdTo R A c8 ls l b w) (hl : ls.length ≤ 1073741824) (c on : Nat) (ci oi : Int) (hc : ci = c) (ho : oi = on) (hon : on ≤ 1) :
    Calls Tryd.prog 75 #[.pointer (some ⟨R, 0, none⟩), .int .i32 ci, .int .i64 oi] w fun e w' => e = .returned (.bool (isC c on l)) ∧ G w w' := by
  subst hc ho
  obtain ⟨p, hp, rfl, h⟩ := h
  have c0 := h.c0
  have c1 := h.c1
  by_cases hlt : p + on < ls.length
  · obtain ⟨x, hx⟩ : ∃ x, ls[p + on]? = some x := ⟨_, List.getElem?_eq_getElem hlt⟩
    obtain ⟨g, o, rfl, hg, hcell⟩ := h.2.rune hx
    have hr : isC c on (ls.drop p) = decide (x = c) := by
      unfold isC
      rw [List.getElem?_drop, hx]
      simp
    rw [hr]
    have n1 : decide ((p : Int) + (on : Int) < (ls.length : Int)) = true := decide_eq_true (by omega)
    have n2 : IntKind.i64.wrap ((p : Int) + (on : Int)) = (p : Int) + (on : Int) := IntWalk.i64_in _ (by omega)
    have n3 : (0 : Int) ≤ (p : Int) + (on : Int) := by clear n2; omega
    have n4 : (p : Int) + (on : Int) < (ls.length : Int) := by clear n2; omega
    have n5 : ((p : Int) + (on : Int)).toNat = p + on := by clear n2; omega
    clear h hx hr hlt
    go_enter Tryd.func75, Tryd.ntmps75
    go_wp2_with fail
    go_quiet (fail)
    clear n2 n5
    go_wp2_with fail
    go_ret
    exact ⟨ret_bool (by rw [Bool.eq_iff_iff]; simp; omega), (G.refl _).drewN _⟩
  · have hr : isC c on (ls.drop p) = false := by
      unfold isC
      rw [List.getElem?_drop, List.getElem?_eq_none (by omega)]
      simp
    rw [hr]
    have n1 : decide ((p : Int) + (on : Int) < (ls.length : Int)) = false := decide_eq_false (by omega)
    have n2 : IntKind.i64.wrap ((p : Int) + (on : Int)) = (p : Int) + (on : Int) := IntWalk.i64_in _ (by omega)
    clear h hr hlt
    go_enter Tryd.func75, Tryd.ntmps75
    go_wp2_with fail
    go_quiet (fail)
    clear n2
    go_wp2_with fail
    go_ret
    exact ⟨rfl, (G.refl _).drewN _⟩
set_option maxHeartbeats 1000000 in
theorem next_any (R : Nat) (A : Option Addr) (c8 : Nat) (ls l : List Nat) (b : Bool) (w : World) (h : RdTo R A c8 ls l b w) (hl : ls.length ≤ 1073741824) :
    Calls Tryd.prog 69 #[.pointer (some ⟨R, 0, none⟩)] w fun e w' => e = .returned (.int .i32 (nx l b).1) ∧ RdTo R A c8 ls (nx l b).2.1 (nx l b).2.2 w' ∧ But (fun k => k = R) w w' := by
  obtain ⟨p, hp, rfl, h⟩ := h
  have c2 := h.c2
  have hf := h.free 2
  cases b with
  | true =>
    rw [nx_bad]
    have hend : RdTo R A c8 ls (ls.drop p) true (w.setCell ⟨R, 2, none⟩ (.bool true)) := ⟨p, hp, rfl, h.bad true⟩
    have hbut := but_set w R 2 (.bool true)
    replace hend := Lib.hid hend
    replace hbut := Lib.hid hbut
    clear h
    go_enter Tryd.func69, Tryd.ntmps69
    go_wp2_with fail
    go_ret
    exact ⟨rfl, hend.out, hbut.out⟩
  | false =>
    have he := end_any R A c8 ls p false w h
    by_cases hlt : p < ls.length
    · obtain ⟨x, hx, hdr⟩ := drop_at hlt
      rw [hdr]
      show Calls _ _ _ _ fun e w' => e = .returned (.int .i32 x) ∧ RdTo R A c8 ls (ls.drop (p + 1)) false w' ∧ But (fun k => k = R) w w'
      rw [decide_eq_false (by omega)] at he
      clear hdr
      replace h := Lib.hid h
      go_enter Tryd.func69, Tryd.ntmps69
      go_wp2_with fail
      refine he.mono ?_
      clear he
      rintro e w1 ⟨rfl, hg1⟩
      have h1 := h.out.g hg1
      have h2 := h1.bad false
      have h3 := h2.at (p + 1)
      have f1 := h1.free 2
      have f2 := h2.free 1
      have d1 := h2.c1
      have d2 := h2.c2
      have k1 := h1.c2
      have hbut : But (fun k => k = R) w ((w1.setCell ⟨R, 2, none⟩ (.bool false)).setCell ⟨R, 1, none⟩ (.int .i64 ((p + 1 : Nat) : Int))) := ((But.of_g hg1).trans (but_set _ R 2 _)).trans (but_set _ R 1 _)
      obtain ⟨g, o, hA, hgl, hcell⟩ := h3.2.rune hx
      have m0 := h3.c0
      have m1 := h3.c1
      rw [hA] at m0
      have hend : RdTo R A c8 ls (ls.drop (p + 1)) false ((w1.setCell ⟨R, 2, none⟩ (.bool false)).setCell ⟨R, 1, none⟩ (.int .i64 ((p + 1 : Nat) : Int))) := ⟨p + 1, by omega, rfl, h3⟩
      have ep : (((p + 1 : Nat) : Nat) : Int) = (p : Int) + 1 := by omega
      rw [ep] at hbut hend m0 m1 hcell
      replace hbut := Lib.hid hbut
      replace hend := Lib.hid hend
      clear h h1 h2 h3 c2 hf hg1 ep hA
      have n1 : (0 : Int) ≤ (p : Int) := by omega
      have n2 : (p : Int) < (ls.length : Int) := by omega
      have n3 : IntKind.i64.wrap ((p : Int) + 1 - 1) = (p : Int) := by rw [IntWalk.i64_in _ (by omega)]; omega
      go_wp2_with fail
      go_quiet (fail)
      clear n3
      go_wp2_with fail
      go_ret
      exact ⟨rfl, hend.out.g ((G.refl _).drewN _), hbut.out.g ((G.refl _).drewN _)⟩
    · obtain rfl : p = ls.length := by omega
      rw [List.drop_length]
      rw [decide_eq_true (Nat.le_refl _)] at he
      show Calls _ _ _ _ fun e w' => e = .returned (.int .i32 0) ∧ RdTo R A c8 ls [] true w' ∧ But (fun k => k = R) w w'
      replace h := Lib.hid h
      go_enter Tryd.func69, Tryd.ntmps69
      go_wp2_with fail
      refine he.mono ?_
      clear he
      rintro e w1 ⟨rfl, hg1⟩
      have h1 := h.out.g hg1
      have h2 := h1.bad true
      have f1 := h1.free 2
      have d2 := h2.c2
      have k1 := h1.c2
      have hbut : But (fun k => k = R) w (w1.setCell ⟨R, 2, none⟩ (.bool true)) := (But.of_g hg1).trans (but_set _ R 2 _)
      have hend : RdTo R A c8 ls [] true (w1.setCell ⟨R, 2, none⟩ (.bool true)) := ⟨ls.length, Nat.le_refl _, List.drop_length, h2⟩
      replace hbut := Lib.hid hbut
      replace hend := Lib.hid hend
      clear h h1 h2 c2 hf hg1
      go_wp2_with fail
      go_ret
      exact ⟨rfl, hend.out, hbut.out⟩
end Go.Proofs.YthhhobfdlgmjlaaDoor

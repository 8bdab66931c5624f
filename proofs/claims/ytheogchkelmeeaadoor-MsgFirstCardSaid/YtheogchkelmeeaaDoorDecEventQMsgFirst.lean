/- event.DecodeEvent, penstockref7.DecodeEvent: what they answer. Conditions: at most 2^30 bytes; the decoder's tables lie as the library lays them. -/
import Derived.Test.YtheogchkelmeeaaDoorRdEventQMsgFirst
import Derived.BigRegion
namespace Go.Proofs.YtheogchkelmeeaaDoor
open Go.RowKit

/-- What a decoder answers. -/
def decT {α : Type} (f : α → Value) (z : α) (l : List UInt8) : Option (α × List UInt8) → Value
  | some (x, r) => .tuple #[f x, .int .i64 ((l.length - r.length : Nat) : Int), .int .i64 0]
  | none => .tuple #[f z, .int .i64 0, .int .i64 10]
theorem RdS.start {T : TypeId} {A : Option Addr} {c8 : Nat} {l : List UInt8} {w : World} (hs : Sl byteC 1 w w.heap.size A l) : RdS T w.heap.size A c8 l (some l) (w.alloc (.cells #[.slice A l.length c8, .int .i64 0, .bool false] T)) :=
  ⟨0, Nat.zero_le _, (fun _ e => by cases e; rfl), blk_new _ _ _, hs.g (Nat.le_refl _) (G.new _ _)⟩
/-- Where a reader stands that has r left. -/
theorem RdS.end {T : TypeId} {R : Nat} {A : Option Addr} {c8 : Nat} {l r : List UInt8} {w : World} (h : RdS T R A c8 l (some r) w) : w.cell? ⟨R, 1, none⟩ = some (.int .i64 ((l.length - r.length : Nat) : Int)) := by
  obtain ⟨p, h1, h2, h3⟩ := h
  have := h2 r rfl
  have hp : l.length - r.length = p := by rw [← this, List.length_drop]; omega
  rw [hp]
  exact h3.c1
theorem blk7 {w : World} {g : Nat} {x0 x1 x2 x3 x4 x5 x6 : Value} {t : TypeId} (h : w.heap[g]? = some (.cells #[x0, x1, x2, x3, x4, x5, x6] t (0, 0))) (y0 y1 y2 y3 y4 y5 y6 : Value) :
    (((((((w.setCell ⟨g, 0, none⟩ y0).setCell ⟨g, 1, none⟩ y1).setCell ⟨g, 2, none⟩ y2).setCell ⟨g, 3, none⟩ y3).setCell ⟨g, 4, none⟩ y4).setCell ⟨g, 5, none⟩ y5).setCell ⟨g, 6, none⟩ y6).heap[g]? = some (.cells #[y0, y1, y2, y3, y4, y5, y6] t (0, 0)) :=
  stc_blk [y0, y1, y2, y3, y4, y5, y6] h rfl
theorem but7 (w : World) (g : Nat) (y0 y1 y2 y3 y4 y5 y6 : Value) : But (fun k => k = g) w (((((((w.setCell ⟨g, 0, none⟩ y0).setCell ⟨g, 1, none⟩ y1).setCell ⟨g, 2, none⟩ y2).setCell ⟨g, 3, none⟩ y3).setCell ⟨g, 4, none⟩ y4).setCell ⟨g, 5, none⟩ y5).setCell ⟨g, 6, none⟩ y6) :=
  stc_but (fun k => k = g) g rfl [y0, y1, y2, y3, y4, y5, y6] w w 0 (But.refl _ _)
theorem G.set7 {a w : World} (h : G a w) {g : Nat} (hg : a.heap.size ≤ g) (y0 y1 y2 y3 y4 y5 y6 : Value) : G a (((((((w.setCell ⟨g, 0, none⟩ y0).setCell ⟨g, 1, none⟩ y1).setCell ⟨g, 2, none⟩ y2).setCell ⟨g, 3, none⟩ y3).setCell ⟨g, 4, none⟩ y4).setCell ⟨g, 5, none⟩ y5).setCell ⟨g, 6, none⟩ y6) :=
  G.stc [y0, y1, y2, y3, y4, y5, y6] (o := 0) h hg
/-- Blocks that turn are new: so nothing old has turned. -/
theorem But.gOf {S : Nat → Prop} {a b c : World} (h : G a b) (k : But S b c) (hS : ∀ k, S k → a.heap.size ≤ k) : G a c := ((But.of_g (S := S) h).trans k).below (Nat.le_refl _) (fun k _ hk => hS k hk)
theorem G.gOf' {S : Nat → Prop} {a b c : World} (h : G a b) (k : But S b c) (hS : ∀ k, S k → a.heap.size ≤ k) : G a c := Go.Proofs.YtheogchkelmeeaaDoor.But.gOf h k hS
set_option maxRecDepth 100000 in
set_option maxHeartbeats 4000000 in
theorem decEvent_any (l : List UInt8) (A : Option Addr) (c8 : Nat) (w : World) (hs : Sl byteC 1 w w.heap.size A l) (hl : l.length ≤ 1073741824) (hcap : l.length ≤ c8) (hT : Tabs w) :
    Calls Tryd.prog 101 #[.slice A l.length c8] w fun e w' => e = .returned (decT evVal zEv l (dEvent l)) ∧ G w w' := by
  have hZ0 := blk_new w #[.string ByteArray.empty, .int .i64 0, .string ByteArray.empty, .int .i64 0, .int .i64 0, .int .i64 0, .int .i64 0] 110
  have hg0 := G.new w (.cells #[.string ByteArray.empty, .int .i64 0, .string ByteArray.empty, .int .i64 0, .int .i64 0, .int .i64 0, .int .i64 0] 110)
  have hz0 : (w.alloc (.cells #[.string ByteArray.empty, .int .i64 0, .string ByteArray.empty, .int .i64 0, .int .i64 0, .int .i64 0, .int .i64 0] 110)).heap.size = w.heap.size + 1 := by simp
  generalize hW0 : w.alloc (.cells #[.string ByteArray.empty, .int .i64 0, .string ByteArray.empty, .int .i64 0, .int .i64 0, .int .i64 0, .int .i64 0] 110) = W0 at hZ0 hg0 hz0
  have hr := RdS.start (T := 178) (c8 := c8) ((hs.g (Nat.le_refl _) hg0).more hg0.size)
  have hc := revent_any W0.heap.size A c8 l (some l) _ hr hl hcap ((hT.g hg0).g (G.new _ _))
  have hZ1 := (G.new W0 (.cells #[.slice A l.length c8, .int .i64 0, .bool false] 178)).blk hZ0
  have hg1 := hg0.trans (G.new W0 (.cells #[.slice A l.length c8, .int .i64 0, .bool false] 178))
  rw [hz0] at hc
  replace hz0 := Lib.hid hz0
  replace hZ1 := Lib.hid hZ1
  replace hg1 := Lib.hid hg1
  clear hr hZ0 hg0 hs hT
  subst hW0
  go_enter Tryd.func101, Tryd.ntmps101
  go_wp2_with fail
  refine hc.mono ?_
  clear hc
  rintro e w1 ⟨⟨s, v, d, ⟨ta, tb, tc⟩, i⟩, st', rfl, hr, hb, hgv⟩
  unfold evVal Ev.cells
  dsimp only
  have hZ := hb.blk hZ1.out (by omega)
  have hg := hg1.out.gOf' hb (fun k e => by rw [e]; omega)
  replace hgv := Lib.hid hgv
  clear hZ1 hg1 hb
  have q0 := (blk_cell hZ 0).trans (show _ = some (.string ByteArray.empty) from rfl)
  have q1 := (blk_cell hZ 1).trans (show _ = some (.int .i64 0) from rfl)
  have q2 := (blk_cell hZ 2).trans (show _ = some (.string ByteArray.empty) from rfl)
  have q3 := (blk_cell hZ 3).trans (show _ = some (.int .i64 0) from rfl)
  have q4 := (blk_cell hZ 4).trans (show _ = some (.int .i64 0) from rfl)
  have q5 := (blk_cell hZ 5).trans (show _ = some (.int .i64 0) from rfl)
  have q6 := (blk_cell hZ 6).trans (show _ = some (.int .i64 0) from rfl)
  have fq : ∀ o, (w1).frozen? ⟨w.heap.size, o, none⟩ = false := fun o => by simp [World.frozen?, hZ]
  have f0 := fq 0
  have f1 := fq 1
  have f2 := fq 2
  have f3 := fq 3
  have f4 := fq 4
  have f5 := fq 5
  have f6 := fq 6
  clear fq
  have hE := blk7 hZ (.string s) (.int .i64 v) (.string d) (.int .i64 ta) (.int .i64 tb) (.int .i64 tc) (.int .i64 i)
  have hbs := but7 w1 w.heap.size (.string s) (.int .i64 v) (.string d) (.int .i64 ta) (.int .i64 tb) (.int .i64 tc) (.int .i64 i)
  have hgs := hg.set7 (Nat.le_refl _) (.string s) (.int .i64 v) (.string d) (.int .i64 ta) (.int .i64 tb) (.int .i64 tc) (.int .i64 i)
  have k2 := (hbs.cell (k := w.heap.size + 1) (o := 2) hr.lt (by omega)).trans hr.c2
  cases st' with
  | none =>
    have hno := hgv.out.miss
    unfold Option.isNone at k2
    replace hbs := Lib.hid hbs
    replace hE := Lib.hid hE
    replace hgs := Lib.hid hgs
    replace hZ := Lib.hid hZ
    have hE2 := blk7 hE.out (.string ⟨#[]⟩) (.int .i64 0) (.string ⟨#[]⟩) (.int .i64 0) (.int .i64 0) (.int .i64 0) (.int .i64 0)
    have hg2 := hgs.out.set7 (Nat.le_refl _) (.string ⟨#[]⟩) (.int .i64 0) (.string ⟨#[]⟩) (.int .i64 0) (.int .i64 0) (.int .i64 0) (.int .i64 0)
    have e0 := (blk_cell hE2 0).trans (show _ = some (.string ⟨#[]⟩) from rfl)
    have e1 := (blk_cell hE2 1).trans (show _ = some (.int .i64 0) from rfl)
    have e2 := (blk_cell hE2 2).trans (show _ = some (.string ⟨#[]⟩) from rfl)
    have e3 := (blk_cell hE2 3).trans (show _ = some (.int .i64 0) from rfl)
    have e4 := (blk_cell hE2 4).trans (show _ = some (.int .i64 0) from rfl)
    have e5 := (blk_cell hE2 5).trans (show _ = some (.int .i64 0) from rfl)
    have e6 := (blk_cell hE2 6).trans (show _ = some (.int .i64 0) from rfl)
    replace e0 := Lib.hid e0
    replace e1 := Lib.hid e1
    replace e2 := Lib.hid e2
    replace e3 := Lib.hid e3
    replace e4 := Lib.hid e4
    replace e5 := Lib.hid e5
    replace e6 := Lib.hid e6
    replace hE2 := Lib.hid hE2
    replace hg2 := Lib.hid hg2
    go_wp2_with fail
    have e0 := e0.out
    have e1 := e1.out
    have e2 := e2.out
    have e3 := e3.out
    have e4 := e4.out
    have e5 := e5.out
    have e6 := e6.out
    refine bodyPost_ret (v := .tuple #[.agg #[.string ⟨#[]⟩, .int .i64 0, .string ⟨#[]⟩, .int .i64 0, .int .i64 0, .int .i64 0, .int .i64 0], .int .i64 0, .int .i64 10]) (by simp [results, Tryd.results101, go_sem, e0, e1, e2, e3, e4, e5, e6]) rfl ?_
    exact ⟨by first | (rw [hno]; rfl) | rfl, hg2.out⟩
  | some r =>
    have k1 := (hbs.cell (k := w.heap.size + 1) (o := 1) hr.lt (by omega)).trans hr.end
    unfold Option.isNone at k2
    have hyes := hgv.out.hit
    replace hbs := Lib.hid hbs
    replace hE := Lib.hid hE
    replace hgs := Lib.hid hgs
    replace hZ := Lib.hid hZ
    replace hyes := Lib.hid hyes
    go_wp2_with fail
    clear q0 q1 q2 q3 q4 q5 q6 f0 f1 f2 f3 f4 f5 f6 hZ hbs hr
    generalize ((((((w1.setCell ⟨w.heap.size, 0, none⟩ (.string s)).setCell ⟨w.heap.size, 1, none⟩ (.int .i64 v)).setCell ⟨w.heap.size, 2, none⟩ (.string d)).setCell ⟨w.heap.size, 3, none⟩ (.int .i64 ta)).setCell ⟨w.heap.size, 4, none⟩ (.int .i64 tb)).setCell ⟨w.heap.size, 5, none⟩ (.int .i64 tc)).setCell ⟨w.heap.size, 6, none⟩ (.int .i64 i) = w2 at *
    replace hE := hE.out
    have q0 := (blk_cell hE 0).trans (show _ = some (.string s) from rfl)
    have q1 := (blk_cell hE 1).trans (show _ = some (.int .i64 v) from rfl)
    have q2 := (blk_cell hE 2).trans (show _ = some (.string d) from rfl)
    have q3 := (blk_cell hE 3).trans (show _ = some (.int .i64 ta) from rfl)
    have q4 := (blk_cell hE 4).trans (show _ = some (.int .i64 tb) from rfl)
    have q5 := (blk_cell hE 5).trans (show _ = some (.int .i64 tc) from rfl)
    have q6 := (blk_cell hE 6).trans (show _ = some (.int .i64 i) from rfl)
    have fq : ∀ o, (w2).frozen? ⟨w.heap.size, o, none⟩ = false := fun o => by simp [World.frozen?, hE]
    have f0 := fq 0
    have f1 := fq 1
    have f2 := fq 2
    have f3 := fq 3
    have f4 := fq 4
    have f5 := fq 5
    have f6 := fq 6
    clear fq
    have hE2 := blk7 hE (.string s) (.int .i64 v) (.string d) (.int .i64 ta) (.int .i64 tb) (.int .i64 tc) (.int .i64 i)
    have hg2 := hgs.out.set7 (Nat.le_refl _) (.string s) (.int .i64 v) (.string d) (.int .i64 ta) (.int .i64 tb) (.int .i64 tc) (.int .i64 i)
    have e0 := (blk_cell hE2 0).trans (show _ = some (.string s) from rfl)
    have e1 := (blk_cell hE2 1).trans (show _ = some (.int .i64 v) from rfl)
    have e2 := (blk_cell hE2 2).trans (show _ = some (.string d) from rfl)
    have e3 := (blk_cell hE2 3).trans (show _ = some (.int .i64 ta) from rfl)
    have e4 := (blk_cell hE2 4).trans (show _ = some (.int .i64 tb) from rfl)
    have e5 := (blk_cell hE2 5).trans (show _ = some (.int .i64 tc) from rfl)
    have e6 := (blk_cell hE2 6).trans (show _ = some (.int .i64 i) from rfl)
    replace e0 := Lib.hid e0
    replace e1 := Lib.hid e1
    replace e2 := Lib.hid e2
    replace e3 := Lib.hid e3
    replace e4 := Lib.hid e4
    replace e5 := Lib.hid e5
    replace e6 := Lib.hid e6
    replace hE2 := Lib.hid hE2
    replace hg2 := Lib.hid hg2
    replace hE := Lib.hid hE
    generalize hnn : l.length - r.length = nn at *
    replace hnn := Lib.hid hnn
    go_region
    go_wp2_with fail
    have e0 := e0.out
    have e1 := e1.out
    have e2 := e2.out
    have e3 := e3.out
    have e4 := e4.out
    have e5 := e5.out
    have e6 := e6.out
    refine bodyPost_ret (v := .tuple #[.agg #[.string s, .int .i64 v, .string d, .int .i64 ta, .int .i64 tb, .int .i64 tc, .int .i64 i], .int .i64 nn, .int .i64 0]) (by simp [results, Tryd.results101, go_sem, e0, e1, e2, e3, e4, e5, e6]) rfl ?_
    refine ⟨?_, hg2.out.drew⟩
    rw [hyes.out, ← hnn.out]
    rfl
end Go.Proofs.YtheogchkelmeeaaDoor

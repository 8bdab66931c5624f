/- Several texts in one: DecEvent, DecSt, DecBatch, SmRead, SmSt, Known, SmEnc, DecSm, SameBatch, SameSm, Round, Make, Awake9, EventBackW, ReadStr, ReadD, EventBack. -/
import Derived.Test.YtilfgafdkiaaaaaDoorRdEvent
import Derived.BigRegion
import Derived.Test.YtilfgafdkiaaaaaDoorBatEnc
import Derived.Test.YtilfgafdkiaaaaaDoorRefCheck
import Derived.Deep.RegionLaw
import Derived.Test.YtilfgafdkiaaaaaDoorSmLaw
import Derived.Test.YtilfgafdkiaaaaaDoorName
import Derived.Test.YtilfgafdkiaaaaaDoorSound
import Derived.Test.YtilfgafdkiaaaaaDoorBatLaw
import Derived.Test.YtilfgafdkiaaaaaDoorEvEnc
import Derived.Test.YtilfgafdkiaaaaaDoorMay
import Derived.Test.YtilfgafdkiaaaaaDoorAlikeSm
import Derived.Test.YtilfgafdkiaaaaaDoorSame
import Derived.Test.YtilfgafdkiaaaaaDoorLin
import Derived.Test.YtilfgafdkiaaaaaDoorBase
import Derived.Test.YtilfgafdkiaaaaaDoorBatch
import Derived.Test.YtilfgafdkiaaaaaDoorEv
import Derived.Test.YtilfgafdkiaaaaaDoorCutLaw
import Derived.Test.YtilfgafdkiaaaaaDoorTabs
import Derived.Test.YtilfgafdkiaaaaaDoorRows
import Derived.ProofKit
import Derived.OpenShut
import Derived.PinnedBridge
import Derived.Lib.LaidU8T
import Derived.Lay
import Derived.SevenTiedAt
import Derived.LaidMore
import Derived.Test.YtilfgafdkiaaaaaDoorStr
import Derived.Deep.Slices
import Derived.Test.YtilfgafdkiaaaaaDoorTie
import Derived.Test.YtilfgafdkiaaaaaDoorCards
/- event.DecodeEvent, penstockref7.DecodeEvent: what they answer. Conditions: at most 2^30 bytes; the decoder's tables lie as the library lays them. -/
namespace Go.Proofs.YtilfgafdkiaaaaaDoor
open Go.RowKit

/-- What a decoder answers. -/
def decT {α : Type} (f : α → Value) (z : α) (l : List UInt8) : Option (α × List UInt8) → Value
  | some (x, r) => .tuple #[f x, .int .i64 ((l.length - r.length : Nat) : Int), .int .i64 0]
  | none => .tuple #[f z, .int .i64 0, .int .i64 10]
theorem RdS.start {T : TypeId} {A : Option Addr} {c8 : Nat} {l : List UInt8} {w : World} (hs : Sl byteC 1 w w.heap.size A l) : RdS T w.heap.size A c8 l (some l) (w.alloc (.cells #[.slice A l.length c8, .int .i64 0, .bool false] T)) :=
  ⟨0, Nat.zero_le _, (fun _ e => by cases e; rfl), blk_new _ _ _, hs.g (Nat.le_refl _) (G.new _ _)⟩
/-- Where a reader stands that has r left. -/
theorem RdS.end {T : TypeId} {R : Nat} {A : Option Addr} {c8 : Nat} {l r : List UInt8} {w : World} (h : RdS T R A c8 l (some r) w) : w.cell? ⟨R, 1, none⟩ = some (.int .i64 ((l.length - r.length : Nat) : Int)) := by
  obtain ⟨p, h1, h2, h3⟩ := h
  have := h2 r rfl
  have hp : l.length - r.length = p := by rw [← this, List.length_drop]; omega
  rw [hp]
  exact h3.c1
theorem blk7 {w : World} {g : Nat} {x0 x1 x2 x3 x4 x5 x6 : Value} {t : TypeId} (h : w.heap[g]? = some (.cells #[x0, x1, x2, x3, x4, x5, x6] t (0, 0))) (y0 y1 y2 y3 y4 y5 y6 : Value) :
    (((((((w.setCell ⟨g, 0, none⟩ y0).setCell ⟨g, 1, none⟩ y1).setCell ⟨g, 2, none⟩ y2).setCell ⟨g, 3, none⟩ y3).setCell ⟨g, 4, none⟩ y4).setCell ⟨g, 5, none⟩ y5).setCell ⟨g, 6, none⟩ y6).heap[g]? = some (.cells #[y0, y1, y2, y3, y4, y5, y6] t (0, 0)) :=
  stc_blk [y0, y1, y2, y3, y4, y5, y6] h rfl
theorem but7 (w : World) (g : Nat) (y0 y1 y2 y3 y4 y5 y6 : Value) : But (fun k => k = g) w (((((((w.setCell ⟨g, 0, none⟩ y0).setCell ⟨g, 1, none⟩ y1).setCell ⟨g, 2, none⟩ y2).setCell ⟨g, 3, none⟩ y3).setCell ⟨g, 4, none⟩ y4).setCell ⟨g, 5, none⟩ y5).setCell ⟨g, 6, none⟩ y6) :=
  stc_but (fun k => k = g) g rfl [y0, y1, y2, y3, y4, y5, y6] w w 0 (But.refl _ _)
theorem G.set7 {a w : World} (h : G a w) {g : Nat} (hg : a.heap.size ≤ g) (y0 y1 y2 y3 y4 y5 y6 : Value) : G a (((((((w.setCell ⟨g, 0, none⟩ y0).setCell ⟨g, 1, none⟩ y1).setCell ⟨g, 2, none⟩ y2).setCell ⟨g, 3, none⟩ y3).setCell ⟨g, 4, none⟩ y4).setCell ⟨g, 5, none⟩ y5).setCell ⟨g, 6, none⟩ y6) :=
  G.stc [y0, y1, y2, y3, y4, y5, y6] (o := 0) h hg
/-- Blocks that turn are new: so nothing old has turned. -/
theorem But.gOf {S : Nat → Prop} {a b c : World} (h : G a b) (k : But S b c) (hS : ∀ k, S k → a.heap.size ≤ k) : G a c := ((But.of_g (S := S) h).trans k).below (Nat.le_refl _) (fun k _ hk => hS k hk)
theorem G.gOf' {S : Nat → Prop} {a b c : World} (h : G a b) (k : But S b c) (hS : ∀ k, S k → a.heap.size ≤ k) : G a c := Go.Proofs.YtilfgafdkiaaaaaDoor.But.gOf h k hS
set_option maxRecDepth 100000 in
set_option maxHeartbeats 4000000 in
theorem decEvent_any (l : List UInt8) (A : Option Addr) (c8 : Nat) (w : World) (hs : Sl byteC 1 w w.heap.size A l) (hl : l.length ≤ 1073741824) (hcap : l.length ≤ c8) (hT : Tabs w) :
    Calls Tryd.prog 15 #[.slice A l.length c8] w fun e w' => e = .returned (decT evVal zEv l (dEvent l)) ∧ G w w' := by
  have hZ0 := blk_new w #[.string ByteArray.empty, .int .i64 0, .string ByteArray.empty, .int .i64 0, .int .i64 0, .int .i64 0, .int .i64 0] 41
  have hg0 := G.new w (.cells #[.string ByteArray.empty, .int .i64 0, .string ByteArray.empty, .int .i64 0, .int .i64 0, .int .i64 0, .int .i64 0] 41)
  have hz0 : (w.alloc (.cells #[.string ByteArray.empty, .int .i64 0, .string ByteArray.empty, .int .i64 0, .int .i64 0, .int .i64 0, .int .i64 0] 41)).heap.size = w.heap.size + 1 := by simp
  generalize hW0 : w.alloc (.cells #[.string ByteArray.empty, .int .i64 0, .string ByteArray.empty, .int .i64 0, .int .i64 0, .int .i64 0, .int .i64 0] 41) = W0 at hZ0 hg0 hz0
  have hr := RdS.start (T := 77) (c8 := c8) ((hs.g (Nat.le_refl _) hg0).more hg0.size)
  have hc := revent_any W0.heap.size A c8 l (some l) _ hr hl hcap ((hT.g hg0).g (G.new _ _))
  have hZ1 := (G.new W0 (.cells #[.slice A l.length c8, .int .i64 0, .bool false] 77)).blk hZ0
  have hg1 := hg0.trans (G.new W0 (.cells #[.slice A l.length c8, .int .i64 0, .bool false] 77))
  rw [hz0] at hc
  replace hz0 := Lib.hid hz0
  replace hZ1 := Lib.hid hZ1
  replace hg1 := Lib.hid hg1
  clear hr hZ0 hg0 hs hT
  subst hW0
  go_enter Tryd.func15, Tryd.ntmps15
  go_wp2_with fail
  refine hc.mono ?_
  clear hc
  rintro e w1 ⟨⟨s, v, d, ⟨ta, tb, tc⟩, i⟩, st', rfl, hr, hb, hgv⟩
  unfold evVal Ev.cells
  dsimp only
  have hZ := hb.blk hZ1.out (by omega)
  have hg := hg1.out.gOf' hb (fun k e => by rw [e]; omega)
  replace hgv := Lib.hid hgv
  clear hZ1 hg1 hb
  have q0 := (blk_cell hZ 0).trans (show _ = some (.string ByteArray.empty) from rfl)
  have q1 := (blk_cell hZ 1).trans (show _ = some (.int .i64 0) from rfl)
  have q2 := (blk_cell hZ 2).trans (show _ = some (.string ByteArray.empty) from rfl)
  have q3 := (blk_cell hZ 3).trans (show _ = some (.int .i64 0) from rfl)
  have q4 := (blk_cell hZ 4).trans (show _ = some (.int .i64 0) from rfl)
  have q5 := (blk_cell hZ 5).trans (show _ = some (.int .i64 0) from rfl)
  have q6 := (blk_cell hZ 6).trans (show _ = some (.int .i64 0) from rfl)
  have fq : ∀ o, (w1).frozen? ⟨w.heap.size, o, none⟩ = false := fun o => by simp [World.frozen?, hZ]
  have f0 := fq 0
  have f1 := fq 1
  have f2 := fq 2
  have f3 := fq 3
  have f4 := fq 4
  have f5 := fq 5
  have f6 := fq 6
  clear fq
  have hE := blk7 hZ (.string s) (.int .i64 v) (.string d) (.int .i64 ta) (.int .i64 tb) (.int .i64 tc) (.int .i64 i)
  have hbs := but7 w1 w.heap.size (.string s) (.int .i64 v) (.string d) (.int .i64 ta) (.int .i64 tb) (.int .i64 tc) (.int .i64 i)
  have hgs := hg.set7 (Nat.le_refl _) (.string s) (.int .i64 v) (.string d) (.int .i64 ta) (.int .i64 tb) (.int .i64 tc) (.int .i64 i)
  have k2 := (hbs.cell (k := w.heap.size + 1) (o := 2) hr.lt (by omega)).trans hr.c2
  cases st' with
  | none =>
    have hno := hgv.out.miss
    unfold Option.isNone at k2
    replace hbs := Lib.hid hbs
    replace hE := Lib.hid hE
    replace hgs := Lib.hid hgs
    replace hZ := Lib.hid hZ
    have hE2 := blk7 hE.out (.string ⟨#[]⟩) (.int .i64 0) (.string ⟨#[]⟩) (.int .i64 0) (.int .i64 0) (.int .i64 0) (.int .i64 0)
    have hg2 := hgs.out.set7 (Nat.le_refl _) (.string ⟨#[]⟩) (.int .i64 0) (.string ⟨#[]⟩) (.int .i64 0) (.int .i64 0) (.int .i64 0) (.int .i64 0)
    have e0 := (blk_cell hE2 0).trans (show _ = some (.string ⟨#[]⟩) from rfl)
    have e1 := (blk_cell hE2 1).trans (show _ = some (.int .i64 0) from rfl)
    have e2 := (blk_cell hE2 2).trans (show _ = some (.string ⟨#[]⟩) from rfl)
    have e3 := (blk_cell hE2 3).trans (show _ = some (.int .i64 0) from rfl)
    have e4 := (blk_cell hE2 4).trans (show _ = some (.int .i64 0) from rfl)
    have e5 := (blk_cell hE2 5).trans (show _ = some (.int .i64 0) from rfl)
    have e6 := (blk_cell hE2 6).trans (show _ = some (.int .i64 0) from rfl)
    replace e0 := Lib.hid e0
    replace e1 := Lib.hid e1
    replace e2 := Lib.hid e2
    replace e3 := Lib.hid e3
    replace e4 := Lib.hid e4
    replace e5 := Lib.hid e5
    replace e6 := Lib.hid e6
    replace hE2 := Lib.hid hE2
    replace hg2 := Lib.hid hg2
    go_wp2_with fail
    have e0 := e0.out
    have e1 := e1.out
    have e2 := e2.out
    have e3 := e3.out
    have e4 := e4.out
    have e5 := e5.out
    have e6 := e6.out
    refine bodyPost_ret (v := .tuple #[.agg #[.string ⟨#[]⟩, .int .i64 0, .string ⟨#[]⟩, .int .i64 0, .int .i64 0, .int .i64 0, .int .i64 0], .int .i64 0, .int .i64 10]) (by simp [results, Tryd.results15, go_sem, e0, e1, e2, e3, e4, e5, e6]) rfl ?_
    exact ⟨by first | (rw [hno]; rfl) | rfl, hg2.out⟩
  | some r =>
    have k1 := (hbs.cell (k := w.heap.size + 1) (o := 1) hr.lt (by omega)).trans hr.end
    unfold Option.isNone at k2
    have hyes := hgv.out.hit
    replace hbs := Lib.hid hbs
    replace hE := Lib.hid hE
    replace hgs := Lib.hid hgs
    replace hZ := Lib.hid hZ
    replace hyes := Lib.hid hyes
    go_wp2_with fail
    clear q0 q1 q2 q3 q4 q5 q6 f0 f1 f2 f3 f4 f5 f6 hZ hbs hr
    generalize ((((((w1.setCell ⟨w.heap.size, 0, none⟩ (.string s)).setCell ⟨w.heap.size, 1, none⟩ (.int .i64 v)).setCell ⟨w.heap.size, 2, none⟩ (.string d)).setCell ⟨w.heap.size, 3, none⟩ (.int .i64 ta)).setCell ⟨w.heap.size, 4, none⟩ (.int .i64 tb)).setCell ⟨w.heap.size, 5, none⟩ (.int .i64 tc)).setCell ⟨w.heap.size, 6, none⟩ (.int .i64 i) = w2 at *
    replace hE := hE.out
    have q0 := (blk_cell hE 0).trans (show _ = some (.string s) from rfl)
    have q1 := (blk_cell hE 1).trans (show _ = some (.int .i64 v) from rfl)
    have q2 := (blk_cell hE 2).trans (show _ = some (.string d) from rfl)
    have q3 := (blk_cell hE 3).trans (show _ = some (.int .i64 ta) from rfl)
    have q4 := (blk_cell hE 4).trans (show _ = some (.int .i64 tb) from rfl)
    have q5 := (blk_cell hE 5).trans (show _ = some (.int .i64 tc) from rfl)
    have q6 := (blk_cell hE 6).trans (show _ = some (.int .i64 i) from rfl)
    have fq : ∀ o, (w2).frozen? ⟨w.heap.size, o, none⟩ = false := fun o => by simp [World.frozen?, hE]
    have f0 := fq 0
    have f1 := fq 1
    have f2 := fq 2
    have f3 := fq 3
    have f4 := fq 4
    have f5 := fq 5
    have f6 := fq 6
    clear fq
    have hE2 := blk7 hE (.string s) (.int .i64 v) (.string d) (.int .i64 ta) (.int .i64 tb) (.int .i64 tc) (.int .i64 i)
    have hg2 := hgs.out.set7 (Nat.le_refl _) (.string s) (.int .i64 v) (.string d) (.int .i64 ta) (.int .i64 tb) (.int .i64 tc) (.int .i64 i)
    have e0 := (blk_cell hE2 0).trans (show _ = some (.string s) from rfl)
    have e1 := (blk_cell hE2 1).trans (show _ = some (.int .i64 v) from rfl)
    have e2 := (blk_cell hE2 2).trans (show _ = some (.string d) from rfl)
    have e3 := (blk_cell hE2 3).trans (show _ = some (.int .i64 ta) from rfl)
    have e4 := (blk_cell hE2 4).trans (show _ = some (.int .i64 tb) from rfl)
    have e5 := (blk_cell hE2 5).trans (show _ = some (.int .i64 tc) from rfl)
    have e6 := (blk_cell hE2 6).trans (show _ = some (.int .i64 i) from rfl)
    replace e0 := Lib.hid e0
    replace e1 := Lib.hid e1
    replace e2 := Lib.hid e2
    replace e3 := Lib.hid e3
    replace e4 := Lib.hid e4
    replace e5 := Lib.hid e5
    replace e6 := Lib.hid e6
    replace hE2 := Lib.hid hE2
    replace hg2 := Lib.hid hg2
    replace hE := Lib.hid hE
    generalize hnn : l.length - r.length = nn at *
    replace hnn := Lib.hid hnn
    go_region
    go_wp2_with fail
    have e0 := e0.out
    have e1 := e1.out
    have e2 := e2.out
    have e3 := e3.out
    have e4 := e4.out
    have e5 := e5.out
    have e6 := e6.out
    refine bodyPost_ret (v := .tuple #[.agg #[.string s, .int .i64 v, .string d, .int .i64 ta, .int .i64 tb, .int .i64 tc, .int .i64 i], .int .i64 nn, .int .i64 0]) (by simp [results, Tryd.results15, go_sem, e0, e1, e2, e3, e4, e5, e6]) rfl ?_
    refine ⟨?_, hg2.out.drew⟩
    rw [hyes.out, ← hnn.out]
    rfl
set_option maxRecDepth 100000 in
set_option maxHeartbeats 4000000 in
theorem refDecEvent_any (l : List UInt8) (A : Option Addr) (c8 : Nat) (w : World) (hs : Sl byteC 1 w w.heap.size A l) (hl : l.length ≤ 1073741824) (hcap : l.length ≤ c8) (hT : Tabs w) :
    Calls Tryd.prog 16 #[.slice A l.length c8] w fun e w' => e = .returned (decT evVal zEv l (dEvent l)) ∧ G w w' := by
  have hZ0 := blk_new w #[.string ByteArray.empty, .int .i64 0, .string ByteArray.empty, .int .i64 0, .int .i64 0, .int .i64 0, .int .i64 0] 41
  have hg0 := G.new w (.cells #[.string ByteArray.empty, .int .i64 0, .string ByteArray.empty, .int .i64 0, .int .i64 0, .int .i64 0, .int .i64 0] 41)
  have hz0 : (w.alloc (.cells #[.string ByteArray.empty, .int .i64 0, .string ByteArray.empty, .int .i64 0, .int .i64 0, .int .i64 0, .int .i64 0] 41)).heap.size = w.heap.size + 1 := by simp
  generalize hW0 : w.alloc (.cells #[.string ByteArray.empty, .int .i64 0, .string ByteArray.empty, .int .i64 0, .int .i64 0, .int .i64 0, .int .i64 0] 41) = W0 at hZ0 hg0 hz0
  have hr := RdS.start (T := 81) (c8 := c8) ((hs.g (Nat.le_refl _) hg0).more hg0.size)
  have hc := eyeEvent_any W0.heap.size A c8 l (some l) _ hr hl hcap ((hT.g hg0).g (G.new _ _))
  have hZ1 := (G.new W0 (.cells #[.slice A l.length c8, .int .i64 0, .bool false] 81)).blk hZ0
  have hg1 := hg0.trans (G.new W0 (.cells #[.slice A l.length c8, .int .i64 0, .bool false] 81))
  rw [hz0] at hc
  replace hz0 := Lib.hid hz0
  replace hZ1 := Lib.hid hZ1
  replace hg1 := Lib.hid hg1
  clear hr hZ0 hg0 hs hT
  subst hW0
  go_enter Tryd.func16, Tryd.ntmps16
  go_wp2_with fail
  refine hc.mono ?_
  clear hc
  rintro e w1 ⟨⟨s, v, d, ⟨ta, tb, tc⟩, i⟩, st', rfl, hr, hb, hgv⟩
  unfold evVal Ev.cells
  dsimp only
  have hgn := G.new w1 (.cells #[.string s, .int .i64 v, .string d, .int .i64 ta, .int .i64 tb, .int .i64 tc, .int .i64 i] 41)
  have hZ := hgn.blk (hb.blk hZ1.out (by omega))
  have hg := (hg1.out.gOf' hb (fun k e => by rw [e]; omega)).trans hgn
  have hX := blk_new w1 #[.string s, .int .i64 v, .string d, .int .i64 ta, .int .i64 tb, .int .i64 tc, .int .i64 i] 41
  replace hr := hr.g hgn
  have hzl : w.heap.size + 1 < w1.heap.size := by have := hb.size; have := hz0.out; simp at *; omega
  replace hgv := Lib.hid hgv
  clear hZ1 hg1 hb hgn hz0
  have k2 := hr.c2
  cases st' with
  | none =>
    have hno := hgv.out.miss
    unfold Option.isNone at k2
    have hE2 := blk7 hZ (.string ⟨#[]⟩) (.int .i64 0) (.string ⟨#[]⟩) (.int .i64 0) (.int .i64 0) (.int .i64 0) (.int .i64 0)
    have hg2 := hg.set7 (Nat.le_refl _) (.string ⟨#[]⟩) (.int .i64 0) (.string ⟨#[]⟩) (.int .i64 0) (.int .i64 0) (.int .i64 0) (.int .i64 0)
    have q0 := (blk_cell hZ 0).trans (show _ = some (.string ByteArray.empty) from rfl)
    have q1 := (blk_cell hZ 1).trans (show _ = some (.int .i64 0) from rfl)
    have q2 := (blk_cell hZ 2).trans (show _ = some (.string ByteArray.empty) from rfl)
    have q3 := (blk_cell hZ 3).trans (show _ = some (.int .i64 0) from rfl)
    have q4 := (blk_cell hZ 4).trans (show _ = some (.int .i64 0) from rfl)
    have q5 := (blk_cell hZ 5).trans (show _ = some (.int .i64 0) from rfl)
    have q6 := (blk_cell hZ 6).trans (show _ = some (.int .i64 0) from rfl)
    have fq : ∀ o, (w1.alloc (.cells #[.string s, .int .i64 v, .string d, .int .i64 ta, .int .i64 tb, .int .i64 tc, .int .i64 i] 41)).frozen? ⟨w.heap.size, o, none⟩ = false := fun o => by simp [World.frozen?, hZ]
    have f0 := fq 0
    have f1 := fq 1
    have f2 := fq 2
    have f3 := fq 3
    have f4 := fq 4
    have f5 := fq 5
    have f6 := fq 6
    clear fq
    have e0 := (blk_cell hE2 0).trans (show _ = some (.string ⟨#[]⟩) from rfl)
    have e1 := (blk_cell hE2 1).trans (show _ = some (.int .i64 0) from rfl)
    have e2 := (blk_cell hE2 2).trans (show _ = some (.string ⟨#[]⟩) from rfl)
    have e3 := (blk_cell hE2 3).trans (show _ = some (.int .i64 0) from rfl)
    have e4 := (blk_cell hE2 4).trans (show _ = some (.int .i64 0) from rfl)
    have e5 := (blk_cell hE2 5).trans (show _ = some (.int .i64 0) from rfl)
    have e6 := (blk_cell hE2 6).trans (show _ = some (.int .i64 0) from rfl)
    replace e0 := Lib.hid e0
    replace e1 := Lib.hid e1
    replace e2 := Lib.hid e2
    replace e3 := Lib.hid e3
    replace e4 := Lib.hid e4
    replace e5 := Lib.hid e5
    replace e6 := Lib.hid e6
    replace hE2 := Lib.hid hE2
    replace hg2 := Lib.hid hg2
    replace hZ := Lib.hid hZ
    replace hX := Lib.hid hX
    replace hr := Lib.hid hr
    go_wp2_with fail
    have e0 := e0.out
    have e1 := e1.out
    have e2 := e2.out
    have e3 := e3.out
    have e4 := e4.out
    have e5 := e5.out
    have e6 := e6.out
    refine bodyPost_ret (v := .tuple #[.agg #[.string ⟨#[]⟩, .int .i64 0, .string ⟨#[]⟩, .int .i64 0, .int .i64 0, .int .i64 0, .int .i64 0], .int .i64 0, .int .i64 10]) (by simp [results, Tryd.results16, go_sem, e0, e1, e2, e3, e4, e5, e6]) rfl ?_
    exact ⟨by first | (rw [hno]; rfl) | rfl, hg2.out⟩
  | some r =>
    have k1 := hr.end
    unfold Option.isNone at k2
    have hyes := hgv.out.hit
    replace hZ := Lib.hid hZ
    replace hX := Lib.hid hX
    replace hr := Lib.hid hr
    replace hyes := Lib.hid hyes
    replace hg := Lib.hid hg
    generalize hnn : l.length - r.length = nn at *
    replace hnn := Lib.hid hnn
    go_wp2_with fail
    generalize w1.alloc (.cells #[.string s, .int .i64 v, .string d, .int .i64 ta, .int .i64 tb, .int .i64 tc, .int .i64 i] 41) = w2 at *
    generalize w1.heap.size = X at *
    replace hX := hX.out
    replace hZ := hZ.out
    have q0 := (blk_cell hX 0).trans (show _ = some (.string s) from rfl)
    have q1 := (blk_cell hX 1).trans (show _ = some (.int .i64 v) from rfl)
    have q2 := (blk_cell hX 2).trans (show _ = some (.string d) from rfl)
    have q3 := (blk_cell hX 3).trans (show _ = some (.int .i64 ta) from rfl)
    have q4 := (blk_cell hX 4).trans (show _ = some (.int .i64 tb) from rfl)
    have q5 := (blk_cell hX 5).trans (show _ = some (.int .i64 tc) from rfl)
    have q6 := (blk_cell hX 6).trans (show _ = some (.int .i64 i) from rfl)
    have z0 := (blk_cell hZ 0).trans (show _ = some (.string ByteArray.empty) from rfl)
    have z1 := (blk_cell hZ 1).trans (show _ = some (.int .i64 0) from rfl)
    have z2 := (blk_cell hZ 2).trans (show _ = some (.string ByteArray.empty) from rfl)
    have z3 := (blk_cell hZ 3).trans (show _ = some (.int .i64 0) from rfl)
    have z4 := (blk_cell hZ 4).trans (show _ = some (.int .i64 0) from rfl)
    have z5 := (blk_cell hZ 5).trans (show _ = some (.int .i64 0) from rfl)
    have z6 := (blk_cell hZ 6).trans (show _ = some (.int .i64 0) from rfl)
    have fq : ∀ o, (w2).frozen? ⟨w.heap.size, o, none⟩ = false := fun o => by simp [World.frozen?, hZ]
    have f0 := fq 0
    have f1 := fq 1
    have f2 := fq 2
    have f3 := fq 3
    have f4 := fq 4
    have f5 := fq 5
    have f6 := fq 6
    clear fq
    have hE2 := blk7 hZ (.string s) (.int .i64 v) (.string d) (.int .i64 ta) (.int .i64 tb) (.int .i64 tc) (.int .i64 i)
    have hg2 := hg.out.set7 (Nat.le_refl _) (.string s) (.int .i64 v) (.string d) (.int .i64 ta) (.int .i64 tb) (.int .i64 tc) (.int .i64 i)
    have e0 := (blk_cell hE2 0).trans (show _ = some (.string s) from rfl)
    have e1 := (blk_cell hE2 1).trans (show _ = some (.int .i64 v) from rfl)
    have e2 := (blk_cell hE2 2).trans (show _ = some (.string d) from rfl)
    have e3 := (blk_cell hE2 3).trans (show _ = some (.int .i64 ta) from rfl)
    have e4 := (blk_cell hE2 4).trans (show _ = some (.int .i64 tb) from rfl)
    have e5 := (blk_cell hE2 5).trans (show _ = some (.int .i64 tc) from rfl)
    have e6 := (blk_cell hE2 6).trans (show _ = some (.int .i64 i) from rfl)
    replace e0 := Lib.hid e0
    replace e1 := Lib.hid e1
    replace e2 := Lib.hid e2
    replace e3 := Lib.hid e3
    replace e4 := Lib.hid e4
    replace e5 := Lib.hid e5
    replace e6 := Lib.hid e6
    replace hE2 := Lib.hid hE2
    replace hg2 := Lib.hid hg2
    replace hX := Lib.hid hX
    replace hZ := Lib.hid hZ
    have hne : X ≠ w.heap.size := by omega
    go_region
    go_wp2_with fail
    have e0 := e0.out
    have e1 := e1.out
    have e2 := e2.out
    have e3 := e3.out
    have e4 := e4.out
    have e5 := e5.out
    have e6 := e6.out
    refine bodyPost_ret (v := .tuple #[.agg #[.string s, .int .i64 v, .string d, .int .i64 ta, .int .i64 tb, .int .i64 tc, .int .i64 i], .int .i64 nn, .int .i64 0]) (by simp [results, Tryd.results16, go_sem, e0, e1, e2, e3, e4, e5, e6]) rfl ?_
    refine ⟨?_, hg2.out.drew⟩
    rw [hyes.out, ← hnn.out]
    rfl
end Go.Proofs.YtilfgafdkiaaaaaDoor
/- How a reader of batches stands. No condition. -/
namespace Go.Proofs.YtilfgafdkiaaaaaDoor
open Go.RowKit

theorem put_elem : IsElem Tryd.prog 23 29 3 48 PutM.cells :=
  isElem_of (z := .agg #[.string ByteArray.empty, .int .i64 0, .slice none 0 0]) Tryd.underlying23 (by kernel_rfl) rfl (by omega) PutM.cells_len (by intro x u hu; simp [PutM.cells] at hu; rcases hu with rfl | rfl | rfl <;> rfl)
/-- The bytes lie where no reader turns. -/
theorem Sl.rd {D R : Nat} {w w' : World} {A : Option Addr} {l : List UInt8} (h : Sl byteC 1 w D A l) (hb : But (fun k => k = R) w w') (hD : D ≤ w.heap.size) (hR : D ≤ R) : Sl byteC 1 w' D A l := h.keep fun k o hk => hb.cell (by omega) (by omega)
/-- A block of the call's own turns, that lies above the bytes. -/
theorem RdS.own {T : TypeId} {R D : Nat} {A : Option Addr} {c8 : Nat} {l0 : List UInt8} {st : Option (List UInt8)} {w w' : World} {S : Nat → Prop} (h : RdS T R A c8 l0 st w) (hs : Sl byteC 1 w' D A l0) (hD : D ≤ R) (hb : But S w w') (hR : ¬ S R) : RdS T R A c8 l0 st w' := by
  obtain ⟨p, h1, h2, h3⟩ := h
  exact ⟨p, h1, h2, hb.blk h3.1 hR, hs.more hD⟩
/-- The puts of a batch, that the call made from base on. -/
structure PutsOwn (base : Nat) (Ap : Option Addr) (cp : Nat) (ms : List PutM) (w : World) : Prop where
  row : OwnL 29 3 PutM.cells w base (.slice Ap ms.length cp) ms
  data : ∀ m ∈ ms, OwnL 9 1 strC w base (.slice m.A m.data.length m.c) m.data
/-- How the reading of a batch stands: the reader lies at R, the batch at Z, the bytes below D. -/
structure DecSt (T : TypeId) (R Z D : Nat) (A : Option Addr) (c8 : Nat) (l0 : List UInt8) (w : World) (key : ByteArray) (Ap : Option Addr) (cp : Nat) (ms : List PutM) (st : Option (List UInt8)) (wx : World) : Prop where
  rd : RdS T R A c8 l0 st wx
  sl : Sl byteC 1 wx D A l0
  res : wx.heap[Z]? = some (.cells #[.string key, .slice Ap ms.length cp] 25 (0, 0))
  puts : PutsOwn w.heap.size Ap cp ms wx
  but : But (fun k => k = R) w wx
  dr : D ≤ R
  dw : D ≤ w.heap.size
  zw : w.heap.size ≤ Z
  ty : T ≠ 29 ∧ T ≠ 9 ∧ T ≠ 25
/-- .. and within a put, whose block lies at X. -/
structure InSt (T : TypeId) (R X : Nat) (A : Option Addr) (c8 : Nat) (l0 : List UInt8) (wa : World) (s : ByteArray) (e : Int) (Ad : Option Addr) (cd : Nat) (ds : List ByteArray) (st : Option (List UInt8)) (wx : World) : Prop where
  rd : RdS T R A c8 l0 st wx
  blk : wx.heap[X]? = some (.cells #[.string s, .int .i64 e, .slice Ad ds.length cd] 29 (0, 0))
  row : OwnL 9 1 strC wx X (.slice Ad ds.length cd) ds
  but : But (fun k => k = R) wa wx
  pl : X = wa.heap.size
  lt : R < X
  ty : T ≠ 9
section
variable {T : TypeId} {R Z X D base : Nat} {A : Option Addr} {c8 : Nat} {l0 : List UInt8} {w wa wx wy wz : World} {key s : ByteArray} {e : Int} {Ap Ad : Option Addr} {cp cd : Nat} {ms : List PutM} {ds : List ByteArray} {st st1 : Option (List UInt8)}
theorem PutsOwn.but {S : Nat → Prop} (h : PutsOwn base Ap cp ms wx) (hb : But S wx wy) (hS : ∀ (k : Nat) (cs : Array Value) (t : TypeId), S k → wx.heap[k]? = some (.cells cs t (0, 0)) → t ≠ 29 ∧ t ≠ 9) : PutsOwn base Ap cp ms wy :=
  ⟨h.row.but' hb (fun k hk hs => by obtain ⟨_, _, cs, h1⟩ := h.row.blk hk; exact (hS k cs _ hs h1).1 rfl), fun m hm => (h.data m hm).but' hb (fun k hk hs => by obtain ⟨_, _, cs, h1⟩ := (h.data m hm).blk hk; exact (hS k cs _ hs h1).2 rfl)⟩
theorem PutsOwn.ins (h : PutsOwn base Ap cp ms wx) : PutsIn wx wx.heap.size Ap ms := ⟨OwnL.self PutM.cells_len h.row, fun m hm => OwnL.self strC_len (h.data m hm)⟩
/-- A block above what a other world held turns too. -/
theorem But.up {S S' : Nat → Prop} {a b c : World} (h : But S a b) (k : But S' b c) (hS : ∀ k, S' k → a.heap.size ≤ k) : But S a c :=
  ⟨k.os.trans h.os, k.tape.trans h.tape, k.output.trans h.output, Nat.le_trans h.size k.size, fun i hi hn => (k.block i (Nat.lt_of_lt_of_le hi h.size) (fun e => by have := hS i e; omega)).trans (h.block i hi hn)⟩
theorem RdS.tyAt (h : RdS T R A c8 l0 st wx) {cs : Array Value} {t : TypeId} (h1 : wx.heap[R]? = some (.cells cs t (0, 0))) : t = T := by
  obtain ⟨cs', h2⟩ := h.blk
  rw [h1] at h2
  cases h2
  rfl
theorem RdS.sl (h : RdS T R A c8 l0 st wx) : Sl byteC 1 wx R A l0 := by
  obtain ⟨p, h1, h2, h3⟩ := h
  exact h3.2
theorem DecSt.sizes (h : DecSt T R Z D A c8 l0 w key Ap cp ms st wx) : w.heap.size ≤ wx.heap.size := h.but.size
theorem DecSt.rz (h : DecSt T R Z D A c8 l0 w key Ap cp ms st wx) : R ≠ Z := by
  rintro rfl
  exact h.ty.2.2 (h.rd.tyAt h.res).symm
theorem DecSt.call (h : DecSt T R Z D A c8 l0 w key Ap cp ms st wx) (hr : RdS T R A c8 l0 st1 wy) (hb : But (fun k => k = R) wx wy) : DecSt T R Z D A c8 l0 w key Ap cp ms st1 wy :=
  ⟨hr, h.sl.keep fun k o hk => hb.cell (by have := h.but.size; have := h.dw; omega) (by have := h.dr; omega), hb.blk h.res (fun e => h.rz e.symm), h.puts.but hb (fun k cs t e h1 => by
    subst e
    rw [h.rd.tyAt h1]
    exact ⟨h.ty.1, h.ty.2.1⟩), h.but.trans hb, h.dr, h.dw, h.zw, h.ty⟩
theorem DecSt.g (h : DecSt T R Z D A c8 l0 w key Ap cp ms st wx) (hg : G wx wy) : DecSt T R Z D A c8 l0 w key Ap cp ms st wy := h.call (h.rd.g hg) (.of_g hg)
/-- The batch's own block turns. -/
theorem DecSt.z (h : DecSt T R Z D A c8 l0 w key Ap cp ms st wx) {S : Nat → Prop} (hb : But S wx wy) (hS : ∀ k, S k → w.heap.size ≤ k ∧ k ≠ R) {key' : ByteArray} {Ap' : Option Addr} {cp' : Nat} {ms' : List PutM} (hres : wy.heap[Z]? = some (.cells #[.string key', .slice Ap' ms'.length cp'] 25 (0, 0))) (hp : PutsOwn w.heap.size Ap' cp' ms' wy) : DecSt T R Z D A c8 l0 w key' Ap' cp' ms' st wy := by
  have hsl : Sl byteC 1 wy D A l0 := h.sl.keep fun k o hk => hb.cell (by have := h.but.size; have := h.dw; omega) (fun e => by have := (hS k e).1; have := h.dw; omega)
  exact ⟨h.rd.own hsl h.dr hb (fun e => (hS R e).2 rfl), hsl, hres, hp, h.but.up hb (fun k e => (hS k e).1), h.dr, h.dw, h.zw, h.ty⟩
theorem DecSt.key0 (h : DecSt T R Z D A c8 l0 w key Ap cp ms st wx) (key' : ByteArray) : DecSt T R Z D A c8 l0 w key' Ap cp ms st (wx.setCell ⟨Z, 0, none⟩ (.string key')) :=
  h.z (but_set wx Z 0 _) (fun k e => by subst e; exact ⟨h.zw, fun e => h.rz e.symm⟩) (by rw [blk_put h.res]; rfl) (h.puts.but (but_set wx Z 0 _) (fun k cs t e h1 => by
    subst e
    rw [h.res] at h1
    cases h1
    decide))
theorem InSt.call (h : InSt T R X A c8 l0 wa s e Ad cd ds st wx) (hr : RdS T R A c8 l0 st1 wy) (hb : But (fun k => k = R) wx wy) : InSt T R X A c8 l0 wa s e Ad cd ds st1 wy :=
  ⟨hr, hb.blk h.blk (fun e => by have := h.lt; omega), h.row.but' hb (fun k hk e => by have := (h.row.blk hk).1; have := h.lt; omega), h.but.trans hb, h.pl, h.lt, h.ty⟩
theorem InSt.g (h : InSt T R X A c8 l0 wa s e Ad cd ds st wx) (hg : G wx wy) : InSt T R X A c8 l0 wa s e Ad cd ds st wy := h.call (h.rd.g hg) (.of_g hg)
theorem InSt.cell (h : InSt T R X A c8 l0 wa s e Ad cd ds st wx) : wx.cell? ⟨X, 2, none⟩ = some (.slice Ad ds.length cd) := by rw [blk_cell h.blk]; rfl
theorem InSt.free (h : InSt T R X A c8 l0 wa s e Ad cd ds st wx) (o : Nat) : wx.frozen? ⟨X, o, none⟩ = false := by simp [World.frozen?, h.blk]
theorem InSt.begin {st : Option (List UInt8)} (hr : RdS T R A c8 l0 st wa) (hT : T ≠ 9) : InSt T R wa.heap.size A c8 l0 wa s 0 none 0 [] st (wa.alloc (.cells #[.string s, .int .i64 0, .slice none 0 0] 29)) :=
  ⟨hr.g (G.new _ _), blk_new _ _ _, OwnL.nil, .of_g (G.new _ _), rfl, hr.lt, hT⟩
theorem InSt.expect (h : InSt T R X A c8 l0 wa s e Ad cd ds st wx) (e' : Int) : InSt T R X A c8 l0 wa s e' Ad cd ds st (wx.setCell ⟨X, 1, none⟩ (.int .i64 e')) :=
  ⟨h.rd.but (but_set wx X 1 _) (fun k e => by have := h.lt; omega), by rw [blk_put h.blk]; rfl, h.row.but' (but_set wx X 1 _) (fun k hk e => by
    subst e
    obtain ⟨_, _, cs, h1⟩ := h.row.blk hk
    rw [h.blk] at h1
    cases h1), h.but.set (p := ⟨X, 1, none⟩) (.inl (show wa.heap.size ≤ X from Nat.le_of_eq h.pl.symm)) _, h.pl, h.lt, h.ty⟩
theorem DecSt.free (h : DecSt T R Z D A c8 l0 w key Ap cp ms st wx) (o : Nat) : wx.frozen? ⟨Z, o, none⟩ = false := by simp [World.frozen?, h.res]
theorem DecSt.c0 (h : DecSt T R Z D A c8 l0 w key Ap cp ms st wx) : wx.cell? ⟨Z, 0, none⟩ = some (.string key) := by rw [blk_cell h.res]; rfl
theorem DecSt.c1 (h : DecSt T R Z D A c8 l0 w key Ap cp ms st wx) : wx.cell? ⟨Z, 1, none⟩ = some (.slice Ap ms.length cp) := by rw [blk_cell h.res]; rfl
theorem InSt.c0 (h : InSt T R X A c8 l0 wa s e Ad cd ds st wx) : wx.cell? ⟨X, 0, none⟩ = some (.string s) := by rw [blk_cell h.blk]; rfl
theorem InSt.c1 (h : InSt T R X A c8 l0 wa s e Ad cd ds st wx) : wx.cell? ⟨X, 1, none⟩ = some (.int .i64 e) := by rw [blk_cell h.blk]; rfl
/-- One more text behind the row of texts, and into the put's block. -/
theorem InSt.push (h : InSt T R X A c8 l0 wa s e Ad cd ds st wx) {ds' : List ByteArray} {A' : Option Addr} {c' : Nat} (hown : OwnL 9 1 strC wz X (.slice A' ds'.length c') ds') (hk : KeepT 9 X wx wz) : 
    wz.cell? ⟨X, 2, none⟩ = some (.slice Ad ds.length cd) ∧ wz.frozen? ⟨X, 2, none⟩ = false ∧ InSt T R X A c8 l0 wa s e A' c' ds' st (wz.setCell ⟨X, 2, none⟩ (.slice A' ds'.length c')) := by
  have hX := hk.blk (by decide) h.blk
  have hbt : But (fun k => X ≤ k) wx wz := ⟨hk.1.os, hk.1.tape, hk.1.output, hk.1.size, fun k hk1 hk2 => hk.1.block k (by omega)⟩
  refine ⟨by rw [blk_cell hX]; rfl, by simp [World.frozen?, hX], (h.rd.but hbt (fun k e => by have := h.lt; omega)).but (but_set wz X 2 _) (fun k e => by have := h.lt; omega), by rw [blk_put hX]; rfl, hown.but' (but_set wz X 2 _) (fun k hk2 e => ?_), (h.but.up hbt (fun k e => by have := h.pl; omega)).set (p := ⟨X, 2, none⟩) (.inl (show wa.heap.size ≤ X from Nat.le_of_eq h.pl.symm)) _, h.pl, h.lt, h.ty⟩
  subst e
  obtain ⟨_, _, cs, h1⟩ := hown.blk hk2
  rw [hX] at h1
  cases h1
/-- One more put. -/
theorem DecSt.push (h : DecSt T R Z D A c8 l0 w key Ap cp ms st wx) {m : PutM} {ms' : List PutM} {A' : Option Addr} {c' : Nat} (hms : Hid (ms ++ [m] = ms')) (hd : OwnL 9 1 strC wx w.heap.size (.slice m.A m.data.length m.c) m.data) (hown : OwnL 29 3 PutM.cells wz w.heap.size (.slice A' ms'.length c') ms') (hk : KeepT 29 w.heap.size wx wz) (hb : But (fun k => some k = (Value.slice Ap ms.length cp).ownBlock) wx wz) :
    wz.frozen? ⟨Z, 1, none⟩ = false ∧ (∃ u, wz.cell? ⟨Z, 1, none⟩ = some u) ∧ DecSt T R Z D A c8 l0 w key A' c' ms' st (wz.setCell ⟨Z, 1, none⟩ (.slice A' ms'.length c')) := by
  have hZ := hk.blk (by decide) h.res
  have hS : ∀ k, some k = (Value.slice Ap ms.length cp).ownBlock → w.heap.size ≤ k ∧ k ≠ R := fun k e => by
    obtain ⟨h1, _, cs, h2⟩ := h.puts.row.blk e.symm
    refine ⟨h1, ?_⟩
    rintro rfl
    exact h.ty.1 (h.rd.tyAt h2).symm
  have hne : ∀ k cs t, k = Z → wz.heap[k]? = some (.cells cs t (0, 0)) → t ≠ 29 ∧ t ≠ 9 := fun k cs t e h1 => by
    subst e
    rw [hZ] at h1
    cases h1
    decide
  have hps : PutsOwn w.heap.size A' c' ms' wz := ⟨hown, fun x hx => by
    rw [← hms.out, List.mem_append, List.mem_singleton] at hx
    rcases hx with hx | rfl
    · exact (h.puts.data x hx).keepT hk (by decide)
    · exact hd.keepT hk (by decide)⟩
  refine ⟨by simp [World.frozen?, hZ], ⟨_, blk_cell hZ 1⟩, ?_⟩
  exact h.z (S := fun k => some k = (Value.slice Ap ms.length cp).ownBlock ∨ k = Z) ((hb.mono fun _ _ => .inl).set (p := ⟨Z, 1, none⟩) (.inr (.inr rfl)) _) (fun k e => by
    rcases e with e | rfl
    · exact hS k e
    · exact ⟨h.zw, fun e => h.rz e.symm⟩) (by rw [blk_put hZ]; rfl) (hps.but (but_set wz Z 1 _) hne)
end
/-- The rest of a list read behind what was read. -/
def More {α : Type} (d : Reader α) (n k : Nat) (st0 st : Option (List UInt8)) (xs : List α) : Prop := ∀ (st' : Option (List UInt8)) (ys : List α), Gives (dMany d k) st st' ys → Gives (dMany d n) st0 st' (xs ++ ys)
theorem More.start {α : Type} (d : Reader α) (n : Nat) (st : Option (List UInt8)) : More d n n st st [] := fun _ _ h => h
theorem More.step {α : Type} {d : Reader α} {n k : Nat} {st0 st st1 : Option (List UInt8)} {xs : List α} {x : α} (h : More d n (k + 1) st0 st xs) (hx : Gives d st st1 x) : More d n k st0 st1 (xs ++ [x]) := fun st' ys hy => by
  rw [List.append_assoc]
  exact h st' ([x] ++ ys) (hx.many hy)
theorem More.end {α : Type} {d : Reader α} {n k : Nat} {st0 st : Option (List UInt8)} {xs : List α} (h : More d n k st0 st xs) (hk : k = 0 ∨ st = none) : Gives (dMany d n) st0 st xs := by
  rcases hk with rfl | rfl
  · have := h st [] Gives.many0
    rwa [List.append_nil] at this
  · have := h none [] (Gives.bad _)
    rwa [List.append_nil] at this
theorem gv_bound {α : Type} {z x : α} {d : Reader α} {P : α → Prop} {st st1 : Option (List UInt8)} (h : gv z d st = (x, st1)) (hz : P z) (hd : ∀ l y r, d l = some (y, r) → P y) : P x := by
  cases st with
  | none => cases h; exact hz
  | some l =>
    cases hc : d l with
    | none => rw [gv_none hc] at h; cases h; exact hz
    | some p =>
      obtain ⟨a, r⟩ := p
      rw [gv_some hc] at h
      cases h
      exact hd _ _ _ hc
theorem dNum_bd {l r : List UInt8} {v : Nat} (h : dNum l = some (v, r)) : v < 2 ^ 64 := by
  unfold dNum at h
  cases hu : uL l with
  | none => rw [hu] at h; cases h
  | some y =>
    obtain ⟨v', n⟩ := y
    rw [hu] at h
    simp only [Option.some.injEq, Prod.mk.injEq] at h
    rw [← h.1]
    exact (uL_bd hu).2.2.2
end Go.Proofs.YtilfgafdkiaaaaaDoor
/- event.Decode, penstockref7.DecodeBatch: what they answer. Conditions: at most 2^30 bytes; the decoder's tables lie as the library lays them. -/
namespace Go.Proofs.YtilfgafdkiaaaaaDoor
open Go.RowKit

/-- What a decoder of batches answers. -/
def batT (l : List UInt8) : Option ((ByteArray × List PutP) × List UInt8) → (ByteArray × List PutP) × Nat × Nat
  | some (x, r) => (x, l.length - r.length, 0)
  | none => ((⟨#[]⟩, []), 0, 10)
def RetBat (w : World) (l : List UInt8) (e : Ending) (w' : World) : Prop :=
  ∃ (key : ByteArray) (Ap : Option Addr) (cp : Nat) (ms : List PutM) (n c : Nat), e = .returned (.tuple #[.agg #[.string key, .slice Ap ms.length cp], .int .i64 n, .int .i64 c]) ∧ batT l (dBatch l) = ((key, ms.map PutM.p), n, c) ∧ key.size ≤ 1073741824 ∧ PutsSmall ms ∧ PutsOwn w.heap.size Ap cp ms w' ∧ G w w'
theorem blk2 {w : World} {g : Nat} {x0 x1 : Value} {t : TypeId} (h : w.heap[g]? = some (.cells #[x0, x1] t (0, 0))) (y0 y1 : Value) :
    ((w.setCell ⟨g, 0, none⟩ y0).setCell ⟨g, 1, none⟩ y1).heap[g]? = some (.cells #[y0, y1] t (0, 0)) := stc_blk [y0, y1] h rfl
theorem but2 (w : World) (g : Nat) (y0 y1 : Value) : But (fun k => k = g) w ((w.setCell ⟨g, 0, none⟩ y0).setCell ⟨g, 1, none⟩ y1) := stc_but (fun k => k = g) g rfl [y0, y1] w w 0 (But.refl _ _)
theorem G.set2 {a w : World} (h : G a w) {g : Nat} (hg : a.heap.size ≤ g) (y0 y1 : Value) : G a ((w.setCell ⟨g, 0, none⟩ y0).setCell ⟨g, 1, none⟩ y1) := G.stc [y0, y1] (o := 0) h hg
theorem strOf_le {s : List UInt8} {n : Nat} (h : s.length ≤ n) : (strOf s).size ≤ n := by rw [strOf_size]; exact h
/-- A batch read whole, but for its end. -/
theorem bat_gives {l : List UInt8} {s : List UInt8} {N : Nat} {st1 st2 st : Option (List UInt8)} {ps : List PutP} (g1 : Gives dText (some l) st1 s) (g2 : Gives (dCount 8) st1 st2 N) (g3 : Gives (dMany dPut N) st2 st ps) :
    (st = none → dBatch l = none) ∧ ∀ r, st = some r → dBatch l = if chkN (strOf s) ps = 0 then some ((strOf s, ps), r) else none := by
  have key : ∀ (st' : Option (List UInt8)) (x : ByteArray × List PutP), Gives (batEnd (strOf s) ps) st st' x → Gives dBatch (some l) st' x := fun st' x h => g1.bind (g2.bind (g3.bind h))
  refine ⟨fun e => ?_, fun r e => ?_⟩
  · subst e
    exact (key none (⟨#[]⟩, []) (Gives.bad _)).miss
  · subst e
    by_cases hc : chkN (strOf s) ps = 0
    · rw [if_pos hc]
      exact (key _ _ (Gives.yes (decide_eq_true hc) _)).hit
    · rw [if_neg hc]
      exact (key none (⟨#[]⟩, []) (Gives.no (decide_eq_false hc) _ _)).miss
theorem put_gives {s0 s1 s2 s3 s4 : Option (List UInt8)} {s : List UInt8} {v m : Nat} {xs : List (List UInt8)} (g1 : Gives dText s0 s1 s) (g2 : Gives dNum s1 s2 v) (g3 : Gives (dCount 20) s2 s3 m) (g4 : Gives (dMany dText m) s3 s4 xs) : Gives dPut s0 s4 ⟨strOf s, zagI v, xs.map strOf⟩ := g1.bind (g2.bind (g3.bind (g4.bind (Gives.ret _))))
theorem puts_more {ms ms' : List PutM} {m : PutM} (h : PutsSmall ms) (hl : ms.length ≤ 8) (hm : m.stream.size ≤ 1073741824 ∧ (-9223372036854775808 ≤ m.expect ∧ m.expect ≤ 9223372036854775807) ∧ m.data.length ≤ 1073741824 ∧ ∀ s ∈ m.data, s.size ≤ 1073741824) (he : Hid (ms ++ [m] = ms')) : PutsSmall ms' := by
  rw [← he.out]
  refine ⟨by rw [List.length_append, List.length_singleton]; omega, fun p hp => ?_⟩
  rw [List.mem_append, List.mem_singleton] at hp
  rcases hp with hp | rfl
  · exact h.2 p hp
  · exact hm
set_option maxRecDepth 100000 in
set_option maxHeartbeats 8000000 in
theorem decBatch_any (l : List UInt8) (A : Option Addr) (c8 : Nat) (w : World) (hs : Sl byteC 1 w w.heap.size A l) (hl : l.length ≤ 1073741824) (hcap : l.length ≤ c8) (hT : Tabs w) :
    Calls Tryd.prog 26 #[.slice A l.length c8] w (RetBat w l) := by
  have hZ0 := blk_new w #[.string ByteArray.empty, .slice none 0 0] 25
  have hg0 := G.new w (.cells #[.string ByteArray.empty, .slice none 0 0] 25)
  have hz0 : (w.alloc (.cells #[.string ByteArray.empty, .slice none 0 0] 25)).heap.size = w.heap.size + 1 := by simp
  generalize hW0 : w.alloc (.cells #[.string ByteArray.empty, .slice none 0 0] 25) = W0 at hZ0 hg0 hz0
  have hr := RdS.start (T := 77) (c8 := c8) ((hs.g (Nat.le_refl _) hg0).more hg0.size)
  have hgn := G.new W0 (.cells #[.slice A l.length c8, .int .i64 0, .bool false] 77)
  rw [hz0] at hr
  have hd : DecSt 77 (w.heap.size + 1) w.heap.size w.heap.size A c8 l w ByteArray.empty none 0 [] (some l) (W0.alloc (.cells #[.slice A l.length c8, .int .i64 0, .bool false] 77)) :=
    ⟨hr, hs.g (Nat.le_refl _) (hg0.trans hgn), hgn.blk hZ0, ⟨OwnL.nil, fun _ h => by cases h⟩, .of_g (hg0.trans hgn), by omega, Nat.le_refl _, Nat.le_refl _, by decide⟩
  have hc := text_any (w.heap.size + 1) A c8 l (some l) _ hr hl hcap
  obtain ⟨s, st1, h1⟩ : ∃ s t, gv [] dText (some l) = (s, t) := ⟨_, _, rfl⟩
  rw [h1] at hc
  have g1 := gv_gives h1
  have hsz := strOf_le (gv_text_len h1 (fun l' e => by cases e; exact hl)).1
  replace g1 := Lib.hid g1
  replace hd := Lib.hid hd
  replace hz0 := Lib.hid hz0
  replace hT := Lib.hid hT
  clear hr hZ0 hg0 hs h1 hgn
  subst hW0
  go_enter Tryd.func26, Tryd.ntmps26
  go_wp2_with fail
  refine hc.mono ?_
  clear hc
  rintro e w1 ⟨rfl, hr1, hb1⟩
  replace hd := hd.out.call hr1 hb1
  have z0 := hd.c0
  have zf := hd.free 0
  replace hd := hd.key0 (strOf s)
  have hc := count_any' (w.heap.size + 1) A c8 l st1 _ hd.rd hl hcap 8 8 rfl (by omega)
  obtain ⟨N, st2, h2⟩ : ∃ v t, gv 0 (dCount 8) st1 = (v, t) := ⟨_, _, rfl⟩
  rw [h2] at hc
  have g2 := gv_gives h2
  have hN : N ≤ 8 := gv_bound (P := (· ≤ 8)) h2 (by omega) (fun _ _ _ h => (dCount_num h).2)
  replace g2 := Lib.hid g2
  replace hd := Lib.hid hd
  clear hr1 hb1 h2
  go_wp2_with fail
  refine hc.mono ?_
  clear hc
  rintro e w2 ⟨rfl, hr2, hb2⟩
  replace hd := Lib.hid (hd.out.call hr2 hb2)
  clear hr2 hb2 z0 zf
  go_wp2_with fail
  go_loopw [6] (fun i wr => ∃ (k : Nat) (Ap : Option Addr) (cp : Nat) (ms : List PutM) (st : Option (List UInt8)), i = .int .i64 k ∧ k + ms.length ≤ 8 ∧ Hid (DecSt 77 (w.heap.size + 1) w.heap.size w.heap.size A c8 l w (strOf s) Ap cp ms st wr) ∧ Hid (PutsSmall ms) ∧ Hid (More dPut N k st2 st (ms.map PutM.p))) (fun i _ => (intOf i).toNat)
  case atStart => exact ⟨N, none, 0, [], st2, rfl, by simpa using hN, hd, ⟨by simp, fun _ h => by cases h⟩, More.start _ _ _⟩
  case round =>
    obtain ⟨wo, rfl⟩ : ∃ wo : World, wo = wr := ⟨_, rfl⟩
    clear hd
    obtain ⟨k, Ap, cp, ms, st, rfl, hk8, hd, hsm, hmo⟩ := hrel
    have q2 := hd.out.rd.c2
    cases st with
    | none =>
      unfold Option.isNone at q2
      have hno := (bat_gives g1.out g2.out (hmo.out.end (.inr rfl))).1 rfl
      clear hmo hsm
      by_cases hk : k = 0
      · subst hk
        replace hno := Lib.hid hno
        have hg := (G.refl w).gOf' hd.out.but (fun k e => by rw [e]; omega)
        have hZ := hd.out.res
        have q0 := hd.out.c0
        have q1 := hd.out.c1
        have f0 := hd.out.free 0
        have f1 := hd.out.free 1
        have hE := blk2 hZ (.string ⟨#[]⟩) (.slice none 0 0)
        have hgs := hg.set2 (Nat.le_refl _) (.string ⟨#[]⟩) (.slice none 0 0)
        have e0 := (blk_cell hE 0).trans (show _ = some (.string ⟨#[]⟩) from rfl)
        have e1 := (blk_cell hE 1).trans (show _ = some (.slice none 0 0) from rfl)
        replace e0 := Lib.hid e0
        replace e1 := Lib.hid e1
        replace hgs := Lib.hid hgs
        clear hE hg hZ
        go_wp2_with fail
        have e0 := e0.out
        have e1 := e1.out
        refine bodyPost_ret (v := .tuple #[.agg #[.string ⟨#[]⟩, .slice none 0 0], .int .i64 0, .int .i64 10]) (by simp [results, Tryd.results26, go_sem, e0, e1]) rfl ?_
        exact ⟨⟨#[]⟩, none, 0, [], 0, 10, rfl, by rw [hno.out]; rfl, by decide, ⟨by simp, fun _ h => by cases h⟩, ⟨OwnL.nil, fun _ h => by cases h⟩, hgs.out⟩
      · have hk' : 0 < (k : Int) := by omega
        replace hno := Lib.hid hno
        have hg := (G.refl w).gOf' hd.out.but (fun k e => by rw [e]; omega)
        have hZ := hd.out.res
        have q0 := hd.out.c0
        have q1 := hd.out.c1
        have f0 := hd.out.free 0
        have f1 := hd.out.free 1
        have hE := blk2 hZ (.string ⟨#[]⟩) (.slice none 0 0)
        have hgs := hg.set2 (Nat.le_refl _) (.string ⟨#[]⟩) (.slice none 0 0)
        have e0 := (blk_cell hE 0).trans (show _ = some (.string ⟨#[]⟩) from rfl)
        have e1 := (blk_cell hE 1).trans (show _ = some (.slice none 0 0) from rfl)
        replace e0 := Lib.hid e0
        replace e1 := Lib.hid e1
        replace hgs := Lib.hid hgs
        clear hE hg hZ
        go_wp2_with fail
        have e0 := e0.out
        have e1 := e1.out
        refine bodyPost_ret (v := .tuple #[.agg #[.string ⟨#[]⟩, .slice none 0 0], .int .i64 0, .int .i64 10]) (by simp [results, Tryd.results26, go_sem, e0, e1]) rfl ?_
        exact ⟨⟨#[]⟩, none, 0, [], 0, 10, rfl, by rw [hno.out]; rfl, by decide, ⟨by simp, fun _ h => by cases h⟩, ⟨OwnL.nil, fun _ h => by cases h⟩, hgs.out⟩
    | some lx =>
      unfold Option.isNone at q2
      by_cases hk : k = 0
      · subst hk
        have hgv := (bat_gives g1.out g2.out (hmo.out.end (.inl rfl))).2 lx rfl
        have hg := (G.refl w).gOf' hd.out.but (fun k e => by rw [e]; omega)
        have hck := check_any (strOf s) ms Ap cp wo hd.out.puts.ins hsz hsm.out (hT.out.g hg)
        have q0 := hd.out.c0
        have q1 := hd.out.c1
        generalize hcn : chkN (strOf s) (ms.map PutM.p) = cn at hck hgv
        clear hcn hmo
        by_cases hc0 : cn = 0
        case neg =>
          have hno : dBatch l = none := by rw [hgv, if_neg hc0]
          have t1 : (((cn : Nat) : Int) != 0) = true := by rw [bne_iff_ne]; omega
          replace hc0 := Lib.hid hc0
          clear hgv hg
          go_wp2_with fail
          refine hck.mono ?_
          clear hck
          rintro e w5 ⟨rfl, hg5⟩
          replace hd := Lib.hid (hd.out.g hg5)
          clear q0 q1 q2 hg5
          replace hno := Lib.hid hno
          have hg := (G.refl w).gOf' hd.out.but (fun k e => by rw [e]; omega)
          have hZ := hd.out.res
          have q0 := hd.out.c0
          have q1 := hd.out.c1
          have f0 := hd.out.free 0
          have f1 := hd.out.free 1
          have hE := blk2 hZ (.string ⟨#[]⟩) (.slice none 0 0)
          have hgs := hg.set2 (Nat.le_refl _) (.string ⟨#[]⟩) (.slice none 0 0)
          have e0 := (blk_cell hE 0).trans (show _ = some (.string ⟨#[]⟩) from rfl)
          have e1 := (blk_cell hE 1).trans (show _ = some (.slice none 0 0) from rfl)
          replace e0 := Lib.hid e0
          replace e1 := Lib.hid e1
          replace hgs := Lib.hid hgs
          clear hE hg hZ
          go_wp2_with fail
          have e0 := e0.out
          have e1 := e1.out
          refine bodyPost_ret (v := .tuple #[.agg #[.string ⟨#[]⟩, .slice none 0 0], .int .i64 0, .int .i64 10]) (by simp [results, Tryd.results26, go_sem, e0, e1]) rfl ?_
          exact ⟨⟨#[]⟩, none, 0, [], 0, 10, rfl, by rw [hno.out]; rfl, by decide, ⟨by simp, fun _ h => by cases h⟩, ⟨OwnL.nil, fun _ h => by cases h⟩, hgs.out⟩
        subst hc0
        rw [if_pos rfl] at hgv
        replace hgv := Lib.hid hgv
        go_wp2_with fail
        refine hck.mono ?_
        clear hck
        rintro e w5 ⟨rfl, hg5⟩
        replace hd := hd.out.g hg5
        clear q0 q1 q2
        have hZ := hd.res
        have q0 := hd.c0
        have q1 := hd.c1
        have q2 := hd.rd.c2
        have f0 := hd.free 0
        have f1 := hd.free 1
        have k1 := hd.rd.end
        unfold Option.isNone at q2
        have hE := blk2 hZ (.string (strOf s)) (.slice Ap ms.length cp)
        have hgs := (hg.trans hg5).set2 (Nat.le_refl _) (.string (strOf s)) (.slice Ap ms.length cp)
        have e0 := (blk_cell hE 0).trans (show _ = some (.string (strOf s)) from rfl)
        have e1 := (blk_cell hE 1).trans (show _ = some (.slice Ap ms.length cp) from rfl)
        have hps := hd.puts.but (but2 w5 w.heap.size (.string (strOf s)) (.slice Ap ms.length cp)) (fun k cs t e h1 => by
          subst e
          rw [hZ] at h1
          cases h1
          decide)
        have hne : w.heap.size + 1 ≠ w.heap.size := by omega
        replace e0 := Lib.hid e0
        replace e1 := Lib.hid e1
        replace hgs := Lib.hid hgs
        replace hps := Lib.hid hps
        clear hE hg hg5 hZ hd
        generalize hnn : l.length - lx.length = nn at *
        replace hnn := Lib.hid hnn
        go_wp2_with fail
        go_region
        go_wp2_with fail
        have e0 := e0.out
        have e1 := e1.out
        refine bodyPost_ret (v := .tuple #[.agg #[.string (strOf s), .slice Ap ms.length cp], .int .i64 nn, .int .i64 0]) (by simp [results, Tryd.results26, go_sem, e0, e1]) rfl ?_
        exact ⟨strOf s, Ap, cp, ms, nn, 0, rfl, by rw [hgv.out, ← hnn.out]; rfl, hsz, hsm.out, ⟨hps.out.row.g (G.refl _).drew, fun m hm => (hps.out.data m hm).g (G.refl _).drew⟩, hgs.out.drew⟩
      · obtain ⟨j, rfl⟩ : ∃ j, k = j + 1 := ⟨k - 1, by omega⟩
        have hc := text_any (w.heap.size + 1) A c8 l (some lx) wo hd.out.rd hl hcap
        obtain ⟨sp, st3, h3⟩ : ∃ v t, gv [] dText (some lx) = (v, t) := ⟨_, _, rfl⟩
        rw [h3] at hc
        have g3 := gv_gives h3
        have hsp := strOf_le (gv_text_len h3 (fun l' e => by cases e; exact Nat.le_trans (RdS.len hd.out.rd) hl)).1
        have hj1 : 0 < ((j + 1 : Nat) : Int) := by omega
        replace g3 := Lib.hid g3
        clear h3 hk
        go_wp2_with fail
        refine hc.mono ?_
        clear hc
        rintro e wa ⟨rfl, hr3, hb3⟩
        replace hd := Lib.hid (hd.out.call hr3 hb3)
        have hi := InSt.begin (s := strOf sp) hr3 (by decide)
        have hc := num_any (w.heap.size + 1) A c8 l st3 _ hi.rd hl hcap
        obtain ⟨v, st4, h4⟩ : ∃ v t, gv 0 dNum st3 = (v, t) := ⟨_, _, rfl⟩
        rw [h4] at hc
        have g4 := gv_gives h4
        have hv : v < 2 ^ 64 := gv_bound (P := (· < 2 ^ 64)) h4 (by decide) (fun _ _ _ => dNum_bd)
        have hzi := zag_i64 hv
        replace g4 := Lib.hid g4
        replace hi := Lib.hid hi
        clear h4 hr3 hb3 q2
        go_wp2_with fail
        refine hc.mono ?_
        clear hc
        rintro e w4 ⟨rfl, hr4, hb4⟩
        replace hi := hi.out.call hr4 hb4
        have hz4 := zag_any v w4 hv
        have x1 := hi.c1
        have x1f := hi.free 1
        replace hi := hi.expect (zagI v)
        have hc := count_any' (w.heap.size + 1) A c8 l st4 _ hi.rd hl hcap 20 20 rfl (by omega)
        obtain ⟨m, st5, h5⟩ : ∃ v t, gv 0 (dCount 20) st4 = (v, t) := ⟨_, _, rfl⟩
        rw [h5] at hc
        have g5 := gv_gives h5
        have hm : m ≤ 20 := gv_bound (P := (· ≤ 20)) h5 (by omega) (fun _ _ _ h => (dCount_num h).2)
        replace g5 := Lib.hid g5
        replace hi := Lib.hid hi
        replace hzi := Lib.hid hzi
        clear h5 hr4 hb4
        go_wp2_with fail
        refine hz4.mono ?_
        clear hz4
        rintro e w4' ⟨rfl, rfl⟩
        go_wp2_with fail
        refine hc.mono ?_
        clear hc
        rintro e w5 ⟨rfl, hr5, hb5⟩
        replace hi := Lib.hid (hi.out.call hr5 hb5)
        clear hr5 hb5 x1 x1f
        go_wp2_with fail
        go_loopw [8] (fun i wr => ∃ (k : Nat) (Ad : Option Addr) (cd : Nat) (xs : List (List UInt8)) (ds : List ByteArray) (st : Option (List UInt8)), i = .int .i64 k ∧ k + ds.length ≤ 20 ∧ Hid (xs.map strOf = ds) ∧ Hid (InSt 77 (w.heap.size + 1) wa.heap.size A c8 l wa (strOf sp) (zagI v) Ad cd ds st wr) ∧ Hid (∀ d ∈ ds, d.size ≤ 1073741824) ∧ Hid (More dText m k st5 st xs)) (fun i _ => (intOf i).toNat)
        case atStart => exact ⟨m, none, 0, [], [], st5, rfl, by simpa using hm, rfl, hi, fun _ h => (by cases h), More.start _ _ _⟩
        case round =>
          clear hi
          obtain ⟨k, Ad, cd, xs, ds, st, rfl, hk20, hds, hi, hdz, hmi⟩ := hrel
          have q2 := hi.out.rd.c2
          cases st with
          | none =>
            unfold Option.isNone at q2
            by_cases hk : k = 0
            · subst hk
              have hgd := put_gives g3.out g4.out g5.out (hmi.out.end (.inr rfl))
              have hmo2 := hmo.out.step hgd
              rw [hds.out] at hmo2
              have hb := hi.out.but
              have hws := hd.out.sizes
              replace hd := hd.out.call hi.out.rd hb
              have c1 := hd.c1
              have x0 := hi.out.c0
              have x1 := hi.out.c1
              have x2 := hi.out.cell
              obtain ⟨mm, hmm⟩ : ∃ mm : PutM, mm = ⟨strOf sp, zagI v, Ad, cd, ds⟩ := ⟨_, rfl⟩
              obtain ⟨ms', hms⟩ : ∃ ms', ms ++ [mm] = ms' := ⟨_, rfl⟩
              have hmp : ms'.map PutM.p = ms.map PutM.p ++ [⟨strOf sp, zagI v, ds⟩] := by rw [← hms, List.map_append, hmm]; rfl
              rw [← hmp] at hmo2
              have hml : ms'.length = ms.length + 1 := by rw [← hms]; simp
              replace hms := Lib.hid hms
              have hsm2 := puts_more hsm.out (by omega) (by rw [hmm]; exact ⟨hsp, hzi.out, (by show ds.length ≤ _; omega), hdz.out⟩) hms
              have hrow : OwnL 9 1 strC wr w.heap.size (.slice mm.A mm.data.length mm.c) mm.data := by rw [hmm]; exact hi.out.row.mono hws
              replace hd := Lib.hid hd
              replace hmo2 := Lib.hid hmo2
              replace hsm2 := Lib.hid hsm2
              replace hml := Lib.hid hml
              replace hmm := Lib.hid hmm
              clear hgd hmo hmp hsm hb hds hdz
              go_wp2_with (at_builtin; refine wpList_append_but put_elem _ rfl (.tmp 56) (.tmp 58) rfl w.heap.size _ ms rfl (hd.out.puts.row.g (G.new _ _)) (wr.heap.size + 1) (some ⟨wr.heap.size, 0, none⟩) 1 [mm] rfl (by intro h; cases h) (Sl.of_blk PutM.cells_len _ (blk_new _ _ _) (by rw [hmm.out]; rfl) (by omega)) (by simp; omega) (by simp; omega) (by have := hd.out.but.size; simp; omega) ?_; intro v6 w6 hown6 hk6 hb6; rw [hms.out] at hown6; obtain ⟨A6, c6, e6, _, _, _⟩ := OwnL.sl PutM.cells_len hown6; subst e6; obtain ⟨zf, ⟨u, zc⟩, hd6⟩ := (hd.out.g (G.new _ _)).push hms (hrow.g (G.new _ _)) hown6 hk6 hb6; replace hd6 := Lib.hid hd6)
              go_roundw
              case rel => exact ⟨j, A6, c6, ms', _, by go_num, by have := hml.out; omega, hd6, hsm2, hmo2⟩
              case measure => (simp [intOf] <;> omega)
            · have hk' : 0 < (k : Int) := by omega
              have hgd := put_gives g3.out g4.out g5.out (hmi.out.end (.inr rfl))
              have hmo2 := hmo.out.step hgd
              rw [hds.out] at hmo2
              have hb := hi.out.but
              have hws := hd.out.sizes
              replace hd := hd.out.call hi.out.rd hb
              have c1 := hd.c1
              have x0 := hi.out.c0
              have x1 := hi.out.c1
              have x2 := hi.out.cell
              obtain ⟨mm, hmm⟩ : ∃ mm : PutM, mm = ⟨strOf sp, zagI v, Ad, cd, ds⟩ := ⟨_, rfl⟩
              obtain ⟨ms', hms⟩ : ∃ ms', ms ++ [mm] = ms' := ⟨_, rfl⟩
              have hmp : ms'.map PutM.p = ms.map PutM.p ++ [⟨strOf sp, zagI v, ds⟩] := by rw [← hms, List.map_append, hmm]; rfl
              rw [← hmp] at hmo2
              have hml : ms'.length = ms.length + 1 := by rw [← hms]; simp
              replace hms := Lib.hid hms
              have hsm2 := puts_more hsm.out (by omega) (by rw [hmm]; exact ⟨hsp, hzi.out, (by show ds.length ≤ _; omega), hdz.out⟩) hms
              have hrow : OwnL 9 1 strC wr w.heap.size (.slice mm.A mm.data.length mm.c) mm.data := by rw [hmm]; exact hi.out.row.mono hws
              replace hd := Lib.hid hd
              replace hmo2 := Lib.hid hmo2
              replace hsm2 := Lib.hid hsm2
              replace hml := Lib.hid hml
              replace hmm := Lib.hid hmm
              clear hgd hmo hmp hsm hb hds hdz
              go_wp2_with (at_builtin; refine wpList_append_but put_elem _ rfl (.tmp 56) (.tmp 58) rfl w.heap.size _ ms rfl (hd.out.puts.row.g (G.new _ _)) (wr.heap.size + 1) (some ⟨wr.heap.size, 0, none⟩) 1 [mm] rfl (by intro h; cases h) (Sl.of_blk PutM.cells_len _ (blk_new _ _ _) (by rw [hmm.out]; rfl) (by omega)) (by simp; omega) (by simp; omega) (by have := hd.out.but.size; simp; omega) ?_; intro v6 w6 hown6 hk6 hb6; rw [hms.out] at hown6; obtain ⟨A6, c6, e6, _, _, _⟩ := OwnL.sl PutM.cells_len hown6; subst e6; obtain ⟨zf, ⟨u, zc⟩, hd6⟩ := (hd.out.g (G.new _ _)).push hms (hrow.g (G.new _ _)) hown6 hk6 hb6; replace hd6 := Lib.hid hd6)
              go_roundw
              case rel => exact ⟨j, A6, c6, ms', _, by go_num, by have := hml.out; omega, hd6, hsm2, hmo2⟩
              case measure => (simp [intOf] <;> omega)
          | some ly =>
            unfold Option.isNone at q2
            by_cases hk : k = 0
            · subst hk
              have hgd := put_gives g3.out g4.out g5.out (hmi.out.end (.inl rfl))
              have hmo2 := hmo.out.step hgd
              rw [hds.out] at hmo2
              have hb := hi.out.but
              have hws := hd.out.sizes
              replace hd := hd.out.call hi.out.rd hb
              have c1 := hd.c1
              have x0 := hi.out.c0
              have x1 := hi.out.c1
              have x2 := hi.out.cell
              obtain ⟨mm, hmm⟩ : ∃ mm : PutM, mm = ⟨strOf sp, zagI v, Ad, cd, ds⟩ := ⟨_, rfl⟩
              obtain ⟨ms', hms⟩ : ∃ ms', ms ++ [mm] = ms' := ⟨_, rfl⟩
              have hmp : ms'.map PutM.p = ms.map PutM.p ++ [⟨strOf sp, zagI v, ds⟩] := by rw [← hms, List.map_append, hmm]; rfl
              rw [← hmp] at hmo2
              have hml : ms'.length = ms.length + 1 := by rw [← hms]; simp
              replace hms := Lib.hid hms
              have hsm2 := puts_more hsm.out (by omega) (by rw [hmm]; exact ⟨hsp, hzi.out, (by show ds.length ≤ _; omega), hdz.out⟩) hms
              have hrow : OwnL 9 1 strC wr w.heap.size (.slice mm.A mm.data.length mm.c) mm.data := by rw [hmm]; exact hi.out.row.mono hws
              replace hd := Lib.hid hd
              replace hmo2 := Lib.hid hmo2
              replace hsm2 := Lib.hid hsm2
              replace hml := Lib.hid hml
              replace hmm := Lib.hid hmm
              clear hgd hmo hmp hsm hb hds hdz
              go_wp2_with (at_builtin; refine wpList_append_but put_elem _ rfl (.tmp 56) (.tmp 58) rfl w.heap.size _ ms rfl (hd.out.puts.row.g (G.new _ _)) (wr.heap.size + 1) (some ⟨wr.heap.size, 0, none⟩) 1 [mm] rfl (by intro h; cases h) (Sl.of_blk PutM.cells_len _ (blk_new _ _ _) (by rw [hmm.out]; rfl) (by omega)) (by simp; omega) (by simp; omega) (by have := hd.out.but.size; simp; omega) ?_; intro v6 w6 hown6 hk6 hb6; rw [hms.out] at hown6; obtain ⟨A6, c6, e6, _, _, _⟩ := OwnL.sl PutM.cells_len hown6; subst e6; obtain ⟨zf, ⟨u, zc⟩, hd6⟩ := (hd.out.g (G.new _ _)).push hms (hrow.g (G.new _ _)) hown6 hk6 hb6; replace hd6 := Lib.hid hd6)
              go_roundw
              case rel => exact ⟨j, A6, c6, ms', _, by go_num, by have := hml.out; omega, hd6, hsm2, hmo2⟩
              case measure => (simp [intOf] <;> omega)
            · obtain ⟨i, rfl⟩ : ∃ i, k = i + 1 := ⟨k - 1, by omega⟩
              have hid := hi.out.g (G.refl wr).drew
              have x2 := hid.cell
              have x2w := hi.out.cell
              have hc := text_any (w.heap.size + 1) A c8 l (some ly) _ hid.rd hl hcap
              obtain ⟨x, st6, h6⟩ : ∃ v t, gv [] dText (some ly) = (v, t) := ⟨_, _, rfl⟩
              rw [h6] at hc
              have g6 := gv_gives h6
              have hxz := strOf_le (gv_text_len h6 (fun l' e => by cases e; exact Nat.le_trans (RdS.len hid.rd) hl)).1
              have hmi2 := hmi.out.step g6
              obtain ⟨ds', hds'⟩ : ∃ ds', ds ++ [strOf x] = ds' := ⟨_, rfl⟩
              have hdx : (xs ++ [x]).map strOf = ds' := by rw [List.map_append, hds.out, ← hds']; rfl
              have hdl : ds'.length = ds.length + 1 := by rw [← hds']; simp
              have hdz2 : ∀ d ∈ ds', d.size ≤ 1073741824 := fun d hd => by
                rw [← hds', List.mem_append, List.mem_singleton] at hd
                rcases hd with hd | rfl
                · exact hdz.out d hd
                · exact hxz
              have hi1 : 0 < ((i + 1 : Nat) : Int) := by omega
              have hb5' := hi.out.but.size
              replace hds' := Lib.hid hds'
              replace hdx := Lib.hid hdx
              replace hdl := Lib.hid hdl
              replace hdz2 := Lib.hid hdz2
              replace hmi2 := Lib.hid hmi2
              replace hid := Lib.hid hid
              clear g6 h6 hk hmo hsm hd hmi hdz hds
              go_upto_region 11 with fail
              go_region_law (first
                | (refine step_append_but str_elem _ (by kernel_rfl) (.tmp 49) (.tmp 52) rfl wa.heap.size _ ds rfl (hi5.out.row.g (G.new _ _)) (w5.heap.size + 1) (some ⟨w5.heap.size, 0, none⟩) 1 [strOf x] rfl (by intro h; cases h) (Sl.of_blk strC_len _ (blk_new _ _ _) rfl (by omega)) (by simp; omega) (by simp; omega) (by have := hi5.out.but.size; simp; omega) ?_; intro v6 w6 hown6 hk6 hb6; rw [hds'.out] at hown6; obtain ⟨A6, c6, e6, _, _, _⟩ := OwnL.sl strC_len hown6; subst e6; obtain ⟨xc, xf, hi6⟩ := (hi5.out.g (G.new _ _)).push hown6 hk6; replace hi6 := Lib.hid hi6)
                | (go_simp; go_at_call 50; refine Calls.mono hc ?_; rintro e w5 ⟨rfl, hr5, hb5⟩; have hi5 := hid.out.call hr5 hb5; have x5 := hi5.cell; have x5b := (hi5.g (G.new w5 (.cells #[.string (strOf x)] 9))).cell; replace hi5 := Lib.hid hi5))
              all_goals
                go_wp2_with fail
                go_roundw
                case rel => exact ⟨i, A6, c6, _, ds', _, by go_num, by have := hdl.out; omega, hdx, hi6, hdz2, hmi2⟩
                case measure => (simp [intOf] <;> omega)
end Go.Proofs.YtilfgafdkiaaaaaDoor
/- What a reader of streams gives: bounds. Plain mathematics, no program. No condition. -/
namespace Go.Proofs.YtilfgafdkiaaaaaDoor
open Go.RowKit

theorem dMany_all {α : Type} {d : Reader α} {P : α → Prop} {L : Nat} (hless : Less d) (hd : ∀ l x r, l.length ≤ L → d l = some (x, r) → P x) : ∀ (n : Nat) (l : List UInt8) (xs : List α) (r : List UInt8), l.length ≤ L → dMany d n l = some (xs, r) → ∀ x ∈ xs, P x
  | 0, l, xs, r, _, h => by
    unfold dMany at h
    obtain ⟨rfl, _⟩ := rp_inv h
    intro x hx
    cases hx
  | n + 1, l, xs, r, hl, h => by
    unfold dMany at h
    obtain ⟨y, l1, h1, h⟩ := rb_inv h
    obtain ⟨ys, l2, h2, h⟩ := rb_inv h
    obtain ⟨rfl, _⟩ := rp_inv h
    have := hless _ _ _ h1
    intro x hx
    rcases List.mem_cons.1 hx with rfl | hx
    · exact hd _ _ _ hl h1
    · exact dMany_all hless hd n l1 ys l2 (by omega) h2 x hx
theorem dEvent_small {L : Nat} {l r : List UInt8} {e : Ev} (hl : l.length ≤ L) (h : dEvent l = some (e, r)) : e.stream.size ≤ L ∧ e.data.size ≤ L := by
  unfold dEvent at h
  obtain ⟨s, l1, h1, h⟩ := rb_inv h
  obtain ⟨v, l2, h2, h⟩ := rb_inv h
  obtain ⟨d, l3, h3, h⟩ := rb_inv h
  obtain ⟨t, l4, h4, h⟩ := rb_inv h
  obtain ⟨i, l5, h5, h⟩ := rb_inv h
  obtain ⟨_, h6, _⟩ := rif_inv h
  have b1 := dText_len h1
  have b3 := dText_len h3
  have e1 := eats_text _ _ _ h1
  have e2 := eats_count _ _ _ _ h2
  rw [← h6]
  simp only [strOf_size]
  omega
theorem dKnown_small {L : Nat} {l r : List UInt8} {k : Kn} (hl : l.length ≤ L) (h : dKnown l = some (k, r)) : k.key.size ≤ L := by
  unfold dKnown at h
  obtain ⟨s, l1, h1, h⟩ := rb_inv h
  obtain ⟨v, l2, h2, h⟩ := rb_inv h
  obtain ⟨t, l3, h3, h⟩ := rb_inv h
  obtain ⟨h6, _⟩ := rp_inv h
  have b1 := dText_len h1
  rw [← h6]
  simp only [strOf_size]
  omega
/-- What was read is small. -/
theorem small_gives {st0 : Option (List UInt8)} {s : List UInt8} {N M : Nat} {d2 d4 : Reader Nat} {es : List Ev} {ks : List Kn} {st1 st2 st3 st4 : Option (List UInt8)} {r : List UInt8} (hl : ∀ l, st0 = some l → l.length ≤ 524288) (e2 : Eats d2) (e4 : Eats d4) (g1 : Gives dText st0 st1 s) (g2 : Gives d2 st1 st2 N) (g3 : Gives (dMany dEvent N) st2 st3 es) (g4 : Gives d4 st3 st4 M) (g5 : Gives (dMany dKnown M) st4 (some r) ks) : SmSmall (strOf s) es ks := by
  obtain ⟨l4, rfl⟩ : ∃ l4, st4 = some l4 := by
    cases st4 with
    | none => cases g5.still
    | some l4 => exact ⟨_, rfl⟩
  obtain ⟨l3, rfl⟩ : ∃ l3, st3 = some l3 := by
    cases st3 with
    | none => cases g4.still
    | some l4 => exact ⟨_, rfl⟩
  obtain ⟨l2, rfl⟩ : ∃ l3, st2 = some l3 := by
    cases st2 with
    | none => cases g3.still
    | some l4 => exact ⟨_, rfl⟩
  obtain ⟨l1, rfl⟩ : ∃ l3, st1 = some l3 := by
    cases st1 with
    | none => cases g2.still
    | some l4 => exact ⟨_, rfl⟩
  obtain ⟨l, rfl⟩ : ∃ l3, st0 = some l3 := by
    cases st0 with
    | none => cases g1.still
    | some l4 => exact ⟨_, rfl⟩
  have hl := hl l rfl
  have h1 := g1.hit
  have h2 := g2.hit
  have h3 := g3.hit
  have h4 := g4.hit
  have h5 := g5.hit
  have b1 := dText_len h1
  have e1 := eats_text _ _ _ h1
  have e2 := e2 _ _ _ h2
  have e4 := e4 _ _ _ h4
  have m3 := dMany_len eats_event _ _ _ _ h3
  have m5 := dMany_len eats_known _ _ _ _ h5
  refine ⟨by rw [strOf_size]; omega, ⟨by omega, dMany_all eats_event.less (fun l x r h1 h2 => dEvent_small h1 h2) _ _ _ _ (by omega) h3⟩, by omega, dMany_all eats_known.less (fun l x r h1 h2 => dKnown_small h1 h2) _ _ _ _ (by omega) h5⟩
/-- A stream read whole, but for its end. -/
theorem stream_gives {l s : List UInt8} {N M : Nat} {es : List Ev} {ks : List Kn} {st1 st2 st3 st4 st : Option (List UInt8)} (hl : l.length ≤ 524288) (g1 : Gives dText (some l) st1 s) (g2 : Gives dNum st1 st2 N) (g3 : Gives (dMany dEvent N) st2 st3 es) (g4 : Gives dNum st3 st4 M) (g5 : Gives (dMany dKnown M) st4 st ks) :
    (st = none → dStream l = none) ∧ ∀ r, st = some r → SmSmall (strOf s) es ks ∧ dStream l = if smOk ⟨strOf s, es, ks⟩ = true then some (⟨strOf s, es, ks⟩, r) else none := by
  have key : ∀ (st' : Option (List UInt8)) (x : Sm), Gives (smEnd ⟨strOf s, es, ks⟩) st st' x → Gives dStream (some l) st' x := fun st' x h => g1.bind (g2.bind (g3.bind (g4.bind (g5.bind h))))
  refine ⟨fun e => ?_, fun r e => ⟨?_, ?_⟩⟩
  · subst e
    exact (key none ⟨⟨#[]⟩, [], []⟩ (Gives.bad _)).miss
  · subst e
    exact small_gives (fun l' e => by cases e; exact hl) eats_num eats_num g1 g2 g3 g4 g5
  · subst e
    by_cases hc : smOk ⟨strOf s, es, ks⟩ = true
    · rw [if_pos hc]
      exact (key _ _ (Gives.yes hc _)).hit
    · rw [if_neg hc]
      exact (key none ⟨⟨#[]⟩, [], []⟩ (Gives.no (by simpa using hc) _ _)).miss
theorem stream_givesR {st0 : Option (List UInt8)} {s : List UInt8} {N M : Nat} {es : List Ev} {ks : List Kn} {st1 st2 st3 st4 st : Option (List UInt8)} (g1 : Gives dText st0 st1 s) (g2 : Gives (dCount 1073741824) st1 st2 N) (g3 : Gives (dMany dEvent N) st2 st3 es) (g4 : Gives (dCount 1073741824) st3 st4 M) (g5 : Gives (dMany dKnown M) st4 st ks) :
    ((st = none ∨ smOk ⟨strOf s, es, ks⟩ = false) → Gives dStreamR st0 none ⟨⟨#[]⟩, [], []⟩) ∧ (smOk ⟨strOf s, es, ks⟩ = true → Gives dStreamR st0 st ⟨strOf s, es, ks⟩) := by
  have key : ∀ (st' : Option (List UInt8)) (x : Sm), Gives (smEnd ⟨strOf s, es, ks⟩) st st' x → Gives dStreamR st0 st' x := fun st' x h => g1.bind (g2.bind (g3.bind (g4.bind (g5.bind h))))
  refine ⟨fun e => ?_, fun hc => key _ _ (Gives.yes hc _)⟩
  rcases e with rfl | hc
  · exact key none _ (Gives.bad _)
  · exact key none _ (Gives.no hc _ _)
theorem known_gives {s0 s1 s2 s3 : Option (List UInt8)} {s : List UInt8} {v : Nat} {t : St} (g1 : Gives dText s0 s1 s) (g2 : Gives (dCount 1099511627776) s1 s2 v) (g3 : Gives dStamp s2 s3 t) : Gives dKnown s0 s3 ⟨strOf s, v, t⟩ := g1.bind (g2.bind (g3.bind (Gives.ret _)))
end Go.Proofs.YtilfgafdkiaaaaaDoor
/- How a reader of streams stands. No condition. -/
namespace Go.Proofs.YtilfgafdkiaaaaaDoor
open Go.RowKit

theorem evs_elem : IsElem Tryd.prog 38 41 7 72 Ev.cells :=
  isElem_of (z := .agg #[.string ByteArray.empty, .int .i64 0, .string ByteArray.empty, .int .i64 0, .int .i64 0, .int .i64 0, .int .i64 0]) Tryd.underlying38 (by kernel_rfl) rfl (by omega) Ev.cells_len (by intro x u hu; simp [Ev.cells] at hu; rcases hu with rfl | rfl | rfl | rfl | rfl | rfl | rfl <;> rfl)
theorem kns_elem : IsElem Tryd.prog 51 91 5 48 Kn.cells :=
  isElem_of (z := .agg #[.string ByteArray.empty, .int .i64 0, .int .i64 0, .int .i64 0, .int .i64 0]) Tryd.underlying51 (by kernel_rfl) rfl (by omega) Kn.cells_len (by intro x u hu; simp [Kn.cells] at hu; rcases hu with rfl | rfl | rfl | rfl | rfl <;> rfl)
/-- A stream's rows, that the call made from base on. -/
structure SmOwn (base : Nat) (Ae : Option Addr) (ce : Nat) (es : List Ev) (Ak : Option Addr) (ck : Nat) (ks : List Kn) (w : World) : Prop where
  evs : OwnL 41 7 Ev.cells w base (.slice Ae es.length ce) es
  kns : OwnL 91 5 Kn.cells w base (.slice Ak ks.length ck) ks
/-- How the reading of a stream stands: the reader lies at R, the stream at Z, the bytes below D. -/
structure SmSt (T : TypeId) (R Z D : Nat) (A : Option Addr) (c8 : Nat) (l0 : List UInt8) (w : World) (n : ByteArray) (Ae : Option Addr) (ce : Nat) (es : List Ev) (Ak : Option Addr) (ck : Nat) (ks : List Kn) (st : Option (List UInt8)) (wx : World) : Prop where
  rd : RdS T R A c8 l0 st wx
  sl : Sl byteC 1 wx D A l0
  res : wx.heap[Z]? = some (.cells #[.string n, .slice Ae es.length ce, .slice Ak ks.length ck] 53 (0, 0))
  own : SmOwn w.heap.size Ae ce es Ak ck ks wx
  but : But (fun k => k = R) w wx
  dr : D ≤ R
  dw : D ≤ w.heap.size
  zw : w.heap.size ≤ Z
  ty : T ≠ 41 ∧ T ≠ 91 ∧ T ≠ 53
/-- .. and within a key, whose block lies at X. -/
structure KnSt (T : TypeId) (R X : Nat) (A : Option Addr) (c8 : Nat) (l0 : List UInt8) (wa : World) (st : Option (List UInt8)) (cs : Array Value) (wx : World) : Prop where
  rd : RdS T R A c8 l0 st wx
  blk : wx.heap[X]? = some (.cells cs 91 (0, 0))
  but : But (fun k => k = R) wa wx
  pl : X = wa.heap.size
  lt : R < X
section
variable {T : TypeId} {R Z X D base : Nat} {A : Option Addr} {c8 : Nat} {l0 : List UInt8} {w wa wx wy wz : World} {n : ByteArray} {Ae Ak : Option Addr} {ce ck : Nat} {es : List Ev} {ks : List Kn} {st st1 : Option (List UInt8)} {cs : Array Value}
theorem SmOwn.but {S : Nat → Prop} (h : SmOwn base Ae ce es Ak ck ks wx) (hb : But S wx wy) (hS : ∀ (k : Nat) (cs : Array Value) (t : TypeId), S k → wx.heap[k]? = some (.cells cs t (0, 0)) → t ≠ 41 ∧ t ≠ 91) : SmOwn base Ae ce es Ak ck ks wy :=
  ⟨h.evs.but' hb (fun k hk hs => by obtain ⟨_, _, cs, h1⟩ := h.evs.blk hk; exact (hS k cs _ hs h1).1 rfl), h.kns.but' hb (fun k hk hs => by obtain ⟨_, _, cs, h1⟩ := h.kns.blk hk; exact (hS k cs _ hs h1).2 rfl)⟩
theorem SmOwn.ins (h : SmOwn base Ae ce es Ak ck ks wx) : SmIn wx wx.heap.size Ae Ak es ks := ⟨OwnL.self Ev.cells_len h.evs, OwnL.self Kn.cells_len h.kns⟩
theorem SmOwn.g (h : SmOwn base Ae ce es Ak ck ks wx) (hg : G wx wy) : SmOwn base Ae ce es Ak ck ks wy := ⟨h.evs.g hg, h.kns.g hg⟩
theorem SmSt.rz (h : SmSt T R Z D A c8 l0 w n Ae ce es Ak ck ks st wx) : R ≠ Z := by
  rintro rfl
  exact h.ty.2.2 (h.rd.tyAt h.res).symm
theorem SmSt.call (h : SmSt T R Z D A c8 l0 w n Ae ce es Ak ck ks st wx) (hr : RdS T R A c8 l0 st1 wy) (hb : But (fun k => k = R) wx wy) : SmSt T R Z D A c8 l0 w n Ae ce es Ak ck ks st1 wy :=
  ⟨hr, h.sl.keep fun k o hk => hb.cell (by have := h.but.size; have := h.dw; omega) (by have := h.dr; omega), hb.blk h.res (fun e => h.rz e.symm), h.own.but hb (fun k cs t e h1 => by
    subst e
    rw [h.rd.tyAt h1]
    exact ⟨h.ty.1, h.ty.2.1⟩), h.but.trans hb, h.dr, h.dw, h.zw, h.ty⟩
theorem SmSt.g (h : SmSt T R Z D A c8 l0 w n Ae ce es Ak ck ks st wx) (hg : G wx wy) : SmSt T R Z D A c8 l0 w n Ae ce es Ak ck ks st wy := h.call (h.rd.g hg) (.of_g hg)
/-- The stream's own block turns. -/
theorem SmSt.z (h : SmSt T R Z D A c8 l0 w n Ae ce es Ak ck ks st wx) {S : Nat → Prop} (hb : But S wx wy) (hS : ∀ k, S k → w.heap.size ≤ k ∧ k ≠ R) {n' : ByteArray} {Ae' Ak' : Option Addr} {ce' ck' : Nat} {es' : List Ev} {ks' : List Kn} (hres : wy.heap[Z]? = some (.cells #[.string n', .slice Ae' es'.length ce', .slice Ak' ks'.length ck'] 53 (0, 0))) (hp : SmOwn w.heap.size Ae' ce' es' Ak' ck' ks' wy) : SmSt T R Z D A c8 l0 w n' Ae' ce' es' Ak' ck' ks' st wy := by
  have hsl : Sl byteC 1 wy D A l0 := h.sl.keep fun k o hk => hb.cell (by have := h.but.size; have := h.dw; omega) (fun e => by have := (hS k e).1; have := h.dw; omega)
  exact ⟨h.rd.own hsl h.dr hb (fun e => (hS R e).2 rfl), hsl, hres, hp, h.but.up hb (fun k e => (hS k e).1), h.dr, h.dw, h.zw, h.ty⟩
theorem SmSt.name0 (h : SmSt T R Z D A c8 l0 w n Ae ce es Ak ck ks st wx) (n' : ByteArray) : SmSt T R Z D A c8 l0 w n' Ae ce es Ak ck ks st (wx.setCell ⟨Z, 0, none⟩ (.string n')) :=
  h.z (but_set wx Z 0 _) (fun k e => by subst e; exact ⟨h.zw, fun e => h.rz e.symm⟩) (by rw [blk_put h.res]; rfl) (h.own.but (but_set wx Z 0 _) (fun k cs t e h1 => by
    subst e
    rw [h.res] at h1
    cases h1
    decide))
theorem SmSt.free (h : SmSt T R Z D A c8 l0 w n Ae ce es Ak ck ks st wx) (o : Nat) : wx.frozen? ⟨Z, o, none⟩ = false := by simp [World.frozen?, h.res]
theorem SmSt.c0 (h : SmSt T R Z D A c8 l0 w n Ae ce es Ak ck ks st wx) : wx.cell? ⟨Z, 0, none⟩ = some (.string n) := by rw [blk_cell h.res]; rfl
theorem SmSt.c1 (h : SmSt T R Z D A c8 l0 w n Ae ce es Ak ck ks st wx) : wx.cell? ⟨Z, 1, none⟩ = some (.slice Ae es.length ce) := by rw [blk_cell h.res]; rfl
theorem SmSt.c2 (h : SmSt T R Z D A c8 l0 w n Ae ce es Ak ck ks st wx) : wx.cell? ⟨Z, 2, none⟩ = some (.slice Ak ks.length ck) := by rw [blk_cell h.res]; rfl
/-- One more event. -/
theorem SmSt.pushE (h : SmSt T R Z D A c8 l0 w n Ae ce es Ak ck ks st wx) {es' : List Ev} {A' : Option Addr} {c' : Nat} (hown : OwnL 41 7 Ev.cells wz w.heap.size (.slice A' es'.length c') es') (hk : KeepT 41 w.heap.size wx wz) (hb : But (fun k => some k = (Value.slice Ae es.length ce).ownBlock) wx wz) :
    wz.frozen? ⟨Z, 1, none⟩ = false ∧ (∃ u, wz.cell? ⟨Z, 1, none⟩ = some u) ∧ SmSt T R Z D A c8 l0 w n A' c' es' Ak ck ks st (wz.setCell ⟨Z, 1, none⟩ (.slice A' es'.length c')) := by
  have hZ := hk.blk (by decide) h.res
  have hS : ∀ k, some k = (Value.slice Ae es.length ce).ownBlock → w.heap.size ≤ k ∧ k ≠ R := fun k e => by
    obtain ⟨h1, _, cs, h2⟩ := h.own.evs.blk e.symm
    refine ⟨h1, ?_⟩
    rintro rfl
    exact h.ty.1 (h.rd.tyAt h2).symm
  have hne : ∀ k cs t, k = Z → wz.heap[k]? = some (.cells cs t (0, 0)) → t ≠ 41 ∧ t ≠ 91 := fun k cs t e h1 => by
    subst e
    rw [hZ] at h1
    cases h1
    decide
  have hps : SmOwn w.heap.size A' c' es' Ak ck ks wz := ⟨hown, h.own.kns.keepT hk (by decide)⟩
  refine ⟨by simp [World.frozen?, hZ], ⟨_, blk_cell hZ 1⟩, ?_⟩
  exact h.z (S := fun k => some k = (Value.slice Ae es.length ce).ownBlock ∨ k = Z) ((hb.mono fun _ _ => .inl).set (p := ⟨Z, 1, none⟩) (.inr (.inr rfl)) _) (fun k e => by
    rcases e with e | rfl
    · exact hS k e
    · exact ⟨h.zw, fun e => h.rz e.symm⟩) (by rw [blk_put hZ]; rfl) (hps.but (but_set wz Z 1 _) hne)
/-- One more key. -/
theorem SmSt.pushK (h : SmSt T R Z D A c8 l0 w n Ae ce es Ak ck ks st wx) {ks' : List Kn} {A' : Option Addr} {c' : Nat} (hown : OwnL 91 5 Kn.cells wz w.heap.size (.slice A' ks'.length c') ks') (hk : KeepT 91 w.heap.size wx wz) (hb : But (fun k => some k = (Value.slice Ak ks.length ck).ownBlock) wx wz) :
    wz.frozen? ⟨Z, 2, none⟩ = false ∧ (∃ u, wz.cell? ⟨Z, 2, none⟩ = some u) ∧ SmSt T R Z D A c8 l0 w n Ae ce es A' c' ks' st (wz.setCell ⟨Z, 2, none⟩ (.slice A' ks'.length c')) := by
  have hZ := hk.blk (by decide) h.res
  have hS : ∀ k, some k = (Value.slice Ak ks.length ck).ownBlock → w.heap.size ≤ k ∧ k ≠ R := fun k e => by
    obtain ⟨h1, _, cs, h2⟩ := h.own.kns.blk e.symm
    refine ⟨h1, ?_⟩
    rintro rfl
    exact h.ty.2.1 (h.rd.tyAt h2).symm
  have hne : ∀ k cs t, k = Z → wz.heap[k]? = some (.cells cs t (0, 0)) → t ≠ 41 ∧ t ≠ 91 := fun k cs t e h1 => by
    subst e
    rw [hZ] at h1
    cases h1
    decide
  have hps : SmOwn w.heap.size Ae ce es A' c' ks' wz := ⟨h.own.evs.keepT hk (by decide), hown⟩
  refine ⟨by simp [World.frozen?, hZ], ⟨_, blk_cell hZ 2⟩, ?_⟩
  exact h.z (S := fun k => some k = (Value.slice Ak ks.length ck).ownBlock ∨ k = Z) ((hb.mono fun _ _ => .inl).set (p := ⟨Z, 2, none⟩) (.inr (.inr rfl)) _) (fun k e => by
    rcases e with e | rfl
    · exact hS k e
    · exact ⟨h.zw, fun e => h.rz e.symm⟩) (by rw [blk_put hZ]; rfl) (hps.but (but_set wz Z 2 _) hne)
theorem KnSt.call (h : KnSt T R X A c8 l0 wa st cs wx) (hr : RdS T R A c8 l0 st1 wy) (hb : But (fun k => k = R) wx wy) : KnSt T R X A c8 l0 wa st1 cs wy :=
  ⟨hr, hb.blk h.blk (fun e => by have := h.lt; omega), h.but.trans hb, h.pl, h.lt⟩
theorem KnSt.g (h : KnSt T R X A c8 l0 wa st cs wx) (hg : G wx wy) : KnSt T R X A c8 l0 wa st cs wy := h.call (h.rd.g hg) (.of_g hg)
theorem KnSt.cell (h : KnSt T R X A c8 l0 wa st cs wx) (o : Nat) : wx.cell? ⟨X, o, none⟩ = cs[o]? := blk_cell h.blk o
theorem KnSt.free (h : KnSt T R X A c8 l0 wa st cs wx) (o : Nat) : wx.frozen? ⟨X, o, none⟩ = false := by simp [World.frozen?, h.blk]
theorem KnSt.as (h : KnSt T R X A c8 l0 wa st cs wx) {cs' : Array Value} (he : cs = cs') : KnSt T R X A c8 l0 wa st cs' wx := he ▸ h
theorem KnSt.begin {st : Option (List UInt8)} {s : ByteArray} (hr : RdS T R A c8 l0 st wa) : KnSt T R wa.heap.size A c8 l0 wa st #[.string s, .int .i64 0, .int .i64 0, .int .i64 0, .int .i64 0] (wa.alloc (.cells #[.string s, .int .i64 0, .int .i64 0, .int .i64 0, .int .i64 0] 91)) :=
  ⟨hr.g (G.new _ _), blk_new _ _ _, .of_g (G.new _ _), rfl, hr.lt⟩
theorem KnSt.put (h : KnSt T R X A c8 l0 wa st cs wx) (o : Nat) (u : Value) : KnSt T R X A c8 l0 wa st (cs.setIfInBounds o u) (wx.setCell ⟨X, o, none⟩ u) :=
  ⟨h.rd.but (but_set wx X o _) (fun k e => by have := h.lt; omega), blk_put h.blk o u, h.but.set (p := ⟨X, o, none⟩) (.inl (show wa.heap.size ≤ X from Nat.le_of_eq h.pl.symm)) _, h.pl, h.lt⟩
end
/-- What a decoder of streams answers. -/
def smT (l : List UInt8) : Option (Sm × List UInt8) → Sm × Nat × Nat
  | some (x, r) => (x, l.length - r.length, 0)
  | none => (⟨⟨#[]⟩, [], []⟩, 0, 10)
def RetSm (w : World) (l : List UInt8) (e : Ending) (w' : World) : Prop :=
  ∃ (nm : ByteArray) (Ae Ak : Option Addr) (ce ck : Nat) (es : List Ev) (ks : List Kn) (n c : Nat), e = .returned (.tuple #[.agg #[.string nm, .slice Ae es.length ce, .slice Ak ks.length ck], .int .i64 n, .int .i64 c]) ∧ smT l (dStream l) = (⟨nm, es, ks⟩, n, c) ∧ SmSmall nm es ks ∧ SmOwn w.heap.size Ae ce es Ak ck ks w' ∧ G w w'
/-- How many are left. -/
def Left (l0 : List UInt8) (n : Nat) (st : Option (List UInt8)) : Prop := n ≤ 524289 ∧ ∀ l, st = some l → n + l.length ≤ l0.length
theorem Left.step {α : Type} {d : Reader α} {l0 l : List UInt8} {n : Nat} {st : Option (List UInt8)} {x : α} (h : Left l0 n (some l)) (h0 : l0.length ≤ 524288) (hd : Eats d) (hg : Gives d (some l) st x) : Left l0 (n + 1) st := by
  have := h.2 l rfl
  refine ⟨by omega, fun l' e => ?_⟩
  subst e
  have := hd _ _ _ hg.hit
  omega
theorem Left.start {l0 : List UInt8} {st : Option (List UInt8)} (h : ∀ l, st = some l → l.length ≤ l0.length) : Left l0 0 st := ⟨by omega, fun l e => by have := h l e; omega⟩
end Go.Proofs.YtilfgafdkiaaaaaDoor
/- event.known: what it answers. Conditions: texts of at most 2^30 bytes; the decoder's tables lie as the library lays them. -/
namespace Go.Proofs.YtilfgafdkiaaaaaDoor
open Go.RowKit

set_option maxRecDepth 100000 in
set_option maxHeartbeats 2000000 in
theorem known_any (key : ByteArray) (v x y z : Int) (w : World) (hs : key.size ≤ 1073741824) (hT : Tabs w) :
    Calls Tryd.prog 55 #[.agg #[.string key, .int .i64 v, .int .i64 x, .int .i64 y, .int .i64 z]] w fun e w' => e = .returned (.bool (knOk ⟨key, v, ⟨x, y, z⟩⟩)) ∧ G w w' := by
  have hk : ∀ w', G w w' → Calls Tryd.prog 65 #[.string key] w' fun e w'' => e = .returned (.bool (keyB key)) ∧ G w' w'' := fun w' hg => key_any key w' (by omega) (hT.g hg)
  have ho : ∀ w', Calls Tryd.prog 39 #[.agg #[.int .i64 x, .int .i64 y, .int .i64 z]] w' fun e w'' => e = .returned (.bool (stOk ⟨x, y, z⟩)) ∧ G w' w'' := fun w' => sound_any x y z w'
  unfold knOk
  simp only
  clear hT
  cases h1 : key.toList.isEmpty with
  | true =>
    go_enter Tryd.func55, Tryd.ntmps55
    go_wp2_with fail
    go_ret
    exact ⟨by simp, G.new _ _⟩
  | false =>
    cases h2 : keyB key with
    | false =>
      rw [h2] at hk
      go_enter Tryd.func55, Tryd.ntmps55
      go_wp2_with fail
      generalize hW0 : w.alloc (.cells #[.string key, .int .i64 v, .int .i64 x, .int .i64 y, .int .i64 z] 91) = W0
      have hz : w.heap.size + 0 < W0.heap.size := by rw [← hW0]; simp
      have hG0 : G w W0 := by rw [← hW0]; exact G.new _ _
      have r0 : W0.cell? ⟨w.heap.size, 0, none⟩ = some (.string key) := by rw [← hW0]; simp
      have r1 : W0.cell? ⟨w.heap.size, 1, none⟩ = some (.int .i64 v) := by rw [← hW0]; simp
      have r2 : W0.cell? ⟨w.heap.size, 2, none⟩ = some (.int .i64 x) := by rw [← hW0]; simp
      have r3 : W0.cell? ⟨w.heap.size, 3, none⟩ = some (.int .i64 y) := by rw [← hW0]; simp
      have r4 : W0.cell? ⟨w.heap.size, 4, none⟩ = some (.int .i64 z) := by rw [← hW0]; simp
      clear hW0
      have q0 : ∀ w', G W0 w' → w'.cell? ⟨w.heap.size, 0, none⟩ = some (.string key) := fun w' h => (h.cell (by omega)).trans r0
      have q1 : ∀ w', G W0 w' → w'.cell? ⟨w.heap.size, 1, none⟩ = some (.int .i64 v) := fun w' h => (h.cell (by omega)).trans r1
      have q2 : ∀ w', G W0 w' → w'.cell? ⟨w.heap.size, 2, none⟩ = some (.int .i64 x) := fun w' h => (h.cell (by omega)).trans r2
      have q3 : ∀ w', G W0 w' → w'.cell? ⟨w.heap.size, 3, none⟩ = some (.int .i64 y) := fun w' h => (h.cell (by omega)).trans r3
      have q4 : ∀ w', G W0 w' → w'.cell? ⟨w.heap.size, 4, none⟩ = some (.int .i64 z) := fun w' h => (h.cell (by omega)).trans r4
      clear r0 r1 r2 r3 r4
      refine (hk W0 hG0).mono ?_
      rintro e w1 ⟨rfl, hg1⟩
      go_wp2_with fail
      go_ret
      exact ⟨by simp, hG0.trans hg1⟩
    | true =>
      rw [h2] at hk
      by_cases h3 : 1 ≤ v
      case neg =>
        have t3 : decide (1 ≤ v) = false := decide_eq_false h3
        go_enter Tryd.func55, Tryd.ntmps55
        go_wp2_with fail
        generalize hW0 : w.alloc (.cells #[.string key, .int .i64 v, .int .i64 x, .int .i64 y, .int .i64 z] 91) = W0
        have hz : w.heap.size + 0 < W0.heap.size := by rw [← hW0]; simp
        have hG0 : G w W0 := by rw [← hW0]; exact G.new _ _
        have r0 : W0.cell? ⟨w.heap.size, 0, none⟩ = some (.string key) := by rw [← hW0]; simp
        have r1 : W0.cell? ⟨w.heap.size, 1, none⟩ = some (.int .i64 v) := by rw [← hW0]; simp
        have r2 : W0.cell? ⟨w.heap.size, 2, none⟩ = some (.int .i64 x) := by rw [← hW0]; simp
        have r3 : W0.cell? ⟨w.heap.size, 3, none⟩ = some (.int .i64 y) := by rw [← hW0]; simp
        have r4 : W0.cell? ⟨w.heap.size, 4, none⟩ = some (.int .i64 z) := by rw [← hW0]; simp
        clear hW0
        have q0 : ∀ w', G W0 w' → w'.cell? ⟨w.heap.size, 0, none⟩ = some (.string key) := fun w' h => (h.cell (by omega)).trans r0
        have q1 : ∀ w', G W0 w' → w'.cell? ⟨w.heap.size, 1, none⟩ = some (.int .i64 v) := fun w' h => (h.cell (by omega)).trans r1
        have q2 : ∀ w', G W0 w' → w'.cell? ⟨w.heap.size, 2, none⟩ = some (.int .i64 x) := fun w' h => (h.cell (by omega)).trans r2
        have q3 : ∀ w', G W0 w' → w'.cell? ⟨w.heap.size, 3, none⟩ = some (.int .i64 y) := fun w' h => (h.cell (by omega)).trans r3
        have q4 : ∀ w', G W0 w' → w'.cell? ⟨w.heap.size, 4, none⟩ = some (.int .i64 z) := fun w' h => (h.cell (by omega)).trans r4
        clear r0 r1 r2 r3 r4
        refine (hk W0 hG0).mono ?_
        rintro e w1 ⟨rfl, hg1⟩
        have g1 := q1 w1 hg1
        go_wp2_with fail
        go_ret
        exact ⟨ret_bool (by rw [decide_eq_false (by omega)]; rfl), hG0.trans hg1⟩
      by_cases h4 : v ≤ 1099511627776
      case neg =>
        have t4 : decide (v ≤ 1099511627776) = false := decide_eq_false h4
        go_enter Tryd.func55, Tryd.ntmps55
        go_wp2_with fail
        generalize hW0 : w.alloc (.cells #[.string key, .int .i64 v, .int .i64 x, .int .i64 y, .int .i64 z] 91) = W0
        have hz : w.heap.size + 0 < W0.heap.size := by rw [← hW0]; simp
        have hG0 : G w W0 := by rw [← hW0]; exact G.new _ _
        have r0 : W0.cell? ⟨w.heap.size, 0, none⟩ = some (.string key) := by rw [← hW0]; simp
        have r1 : W0.cell? ⟨w.heap.size, 1, none⟩ = some (.int .i64 v) := by rw [← hW0]; simp
        have r2 : W0.cell? ⟨w.heap.size, 2, none⟩ = some (.int .i64 x) := by rw [← hW0]; simp
        have r3 : W0.cell? ⟨w.heap.size, 3, none⟩ = some (.int .i64 y) := by rw [← hW0]; simp
        have r4 : W0.cell? ⟨w.heap.size, 4, none⟩ = some (.int .i64 z) := by rw [← hW0]; simp
        clear hW0
        have q0 : ∀ w', G W0 w' → w'.cell? ⟨w.heap.size, 0, none⟩ = some (.string key) := fun w' h => (h.cell (by omega)).trans r0
        have q1 : ∀ w', G W0 w' → w'.cell? ⟨w.heap.size, 1, none⟩ = some (.int .i64 v) := fun w' h => (h.cell (by omega)).trans r1
        have q2 : ∀ w', G W0 w' → w'.cell? ⟨w.heap.size, 2, none⟩ = some (.int .i64 x) := fun w' h => (h.cell (by omega)).trans r2
        have q3 : ∀ w', G W0 w' → w'.cell? ⟨w.heap.size, 3, none⟩ = some (.int .i64 y) := fun w' h => (h.cell (by omega)).trans r3
        have q4 : ∀ w', G W0 w' → w'.cell? ⟨w.heap.size, 4, none⟩ = some (.int .i64 z) := fun w' h => (h.cell (by omega)).trans r4
        clear r0 r1 r2 r3 r4
        refine (hk W0 hG0).mono ?_
        rintro e w1 ⟨rfl, hg1⟩
        have g1 := q1 w1 hg1
        go_wp2_with fail
        go_ret
        exact ⟨ret_bool (by rw [decide_eq_false (by omega)]; rfl), hG0.trans hg1⟩
      rw [show decide (1 ≤ v ∧ v ≤ 1099511627776) = true from decide_eq_true ⟨h3, h4⟩]
      generalize stOk ⟨x, y, z⟩ = so at *
      go_enter Tryd.func55, Tryd.ntmps55
      go_wp2_with fail
      generalize hW0 : w.alloc (.cells #[.string key, .int .i64 v, .int .i64 x, .int .i64 y, .int .i64 z] 91) = W0
      have hz : w.heap.size + 0 < W0.heap.size := by rw [← hW0]; simp
      have hG0 : G w W0 := by rw [← hW0]; exact G.new _ _
      have r0 : W0.cell? ⟨w.heap.size, 0, none⟩ = some (.string key) := by rw [← hW0]; simp
      have r1 : W0.cell? ⟨w.heap.size, 1, none⟩ = some (.int .i64 v) := by rw [← hW0]; simp
      have r2 : W0.cell? ⟨w.heap.size, 2, none⟩ = some (.int .i64 x) := by rw [← hW0]; simp
      have r3 : W0.cell? ⟨w.heap.size, 3, none⟩ = some (.int .i64 y) := by rw [← hW0]; simp
      have r4 : W0.cell? ⟨w.heap.size, 4, none⟩ = some (.int .i64 z) := by rw [← hW0]; simp
      clear hW0
      have q0 : ∀ w', G W0 w' → w'.cell? ⟨w.heap.size, 0, none⟩ = some (.string key) := fun w' h => (h.cell (by omega)).trans r0
      have q1 : ∀ w', G W0 w' → w'.cell? ⟨w.heap.size, 1, none⟩ = some (.int .i64 v) := fun w' h => (h.cell (by omega)).trans r1
      have q2 : ∀ w', G W0 w' → w'.cell? ⟨w.heap.size, 2, none⟩ = some (.int .i64 x) := fun w' h => (h.cell (by omega)).trans r2
      have q3 : ∀ w', G W0 w' → w'.cell? ⟨w.heap.size, 3, none⟩ = some (.int .i64 y) := fun w' h => (h.cell (by omega)).trans r3
      have q4 : ∀ w', G W0 w' → w'.cell? ⟨w.heap.size, 4, none⟩ = some (.int .i64 z) := fun w' h => (h.cell (by omega)).trans r4
      clear r0 r1 r2 r3 r4
      refine (hk W0 hG0).mono ?_
      rintro e w1 ⟨rfl, hg1⟩
      have g1 := q1 w1 hg1
      have g2 := q2 w1 hg1
      have g3 := q3 w1 hg1
      have g4 := q4 w1 hg1
      go_wp2_with fail
      refine (ho w1).mono ?_
      rintro e w2 ⟨rfl, hg2⟩
      go_wp2_with fail
      go_ret
      exact ⟨by simp, (hG0.trans hg1).trans hg2⟩
end Go.Proofs.YtilfgafdkiaaaaaDoor
/- event.EncodeStream, penstockref7.EncodeStream: what they answer. Conditions: a stream that is not too great (SmSmall); the decoder's tables lie as the library lays them. -/
namespace Go.Proofs.YtilfgafdkiaaaaaDoor
open Go.RowKit

set_option maxRecDepth 100000 in
set_option maxHeartbeats 8000000 in
theorem smEnc_any (n : ByteArray) (es : List Ev) (ks : List Kn) (A A2 : Option Addr) (c c2 : Nat) (w : World) (hin : SmIn w w.heap.size A A2 es ks) (hz : SmSmall n es ks) (hT : Tabs w) :
    Calls Tryd.prog 23 #[.agg #[.string n, .slice A es.length c, .slice A2 ks.length c2]] w (RetBytesN w (smL ⟨n, es, ks⟩)) := by
  obtain ⟨hz0, ⟨hz1, hz2⟩, hz3, hz4⟩ := hz
  have hn : ∀ w', G w w' → Calls Tryd.prog 37 #[.string n] w' fun e w'' => e = .returned (.bool (nameB n)) ∧ G w' w'' := fun w' hg => name_any n w' (by omega) (hT.g hg)
  have hev : ∀ w', G w w' → ∀ (s d : ByteArray) (v x y z i : Int), s.size ≤ 524288 → d.size ≤ 524288 → Calls Tryd.prog 18 #[.agg (Ev.cells ⟨s, v, d, ⟨x, y, z⟩, i⟩).toArray] w' (RetBytesN w' (evL ⟨s, v, d, ⟨x, y, z⟩, i⟩)) := fun w' hg s d v x y z i h1 h2 => evEnc_any s d v x y z i w' (by omega) (by omega) (hT.g hg)
  have hkn : ∀ w', G w w' → ∀ (key : ByteArray) (v x y z : Int), key.size ≤ 524288 → Calls Tryd.prog 55 #[.agg #[.string key, .int .i64 v, .int .i64 x, .int .i64 y, .int .i64 z]] w' fun e w'' => e = .returned (.bool (knOk ⟨key, v, ⟨x, y, z⟩⟩)) ∧ G w' w'' := fun w' hg key v x y z h1 => known_any key v x y z w' (by omega) (hT.g hg)
  have hq := fun W A n c => Lib.run_eql_slice_nil (P := Tryd.prog) W 26 5 A n c 0 0 Tryd.underlying26
  replace hin := Lib.hid hin
  replace hz2 := Lib.hid hz2
  replace hz4 := Lib.hid hz4
  replace hev := Lib.hid hev
  replace hkn := Lib.hid hkn
  clear hT
  cases hnb : nameB n with
  | false =>
    have hno := Lib.hid (smL_bad (n := n) (es := es) (ks := ks) (.inl hnb))
    rw [hnb] at hn
    replace hnb := Lib.hid hnb
    go_enter Tryd.func23, Tryd.ntmps23
    go_wp2_with fail
    refine (hn _ (G.new _ _)).mono ?_
    rintro e w1 ⟨rfl, hg1⟩
    go_wp2_with fail
    go_ret
    exact ⟨none, 0, by rw [hno.out]; rfl, by rw [hno.out]; exact OwnL.nil, (G.new _ _).trans hg1, fun _ => rfl⟩
  | true =>
    rw [hnb] at hn
    replace hnb := Lib.hid hnb
    obtain ⟨m1, hm1⟩ : ∃ m, textL n.data.toList = m := ⟨_, rfl⟩
    obtain ⟨m2, hm2⟩ : ∃ m, m1 ++ vL es.length = m := ⟨_, rfl⟩
    have b1 : m1.length ≤ n.size + 10 := by rw [← hm1]; exact textL_len n
    have b2 : m2.length ≤ n.size + 20 := by rw [← hm2, List.length_append]; have := vL_len es.length; omega
    have hhd : smHead n es.length = m2 := by unfold smHead; rw [hm1, hm2]
    have hw1 : IntKind.u64.wrap (es.length : Int) = (es.length : Int) := by rw [IntKind.wrap_u64]; omega
    have hw2 : IntKind.u64.wrap (ks.length : Int) = (ks.length : Int) := by rw [IntKind.wrap_u64]; omega
    replace hm1 := Lib.hid hm1
    replace hm2 := Lib.hid hm2
    replace hhd := Lib.hid hhd
    go_enter Tryd.func23, Tryd.ntmps23
    go_upto_region 1 with fail
    generalize hW0 : w.alloc (.cells #[.string n, .slice A es.length c, .slice A2 ks.length c2] 53) = W0
    have hz : w.heap.size + 0 < W0.heap.size := by rw [← hW0]; simp
    have hG0 : G w W0 := by rw [← hW0]; exact G.new _ _
    have r0 : W0.cell? ⟨w.heap.size, 0, none⟩ = some (.string n) := by rw [← hW0]; simp
    have r1 : W0.cell? ⟨w.heap.size, 1, none⟩ = some (.slice A es.length c) := by rw [← hW0]; simp
    have r2 : W0.cell? ⟨w.heap.size, 2, none⟩ = some (.slice A2 ks.length c2) := by rw [← hW0]; simp
    clear hW0
    have q0 : ∀ w', G W0 w' → w'.cell? ⟨w.heap.size, 0, none⟩ = some (.string n) := fun w' h => (h.cell (by omega)).trans r0
    have q1 : ∀ w', G W0 w' → w'.cell? ⟨w.heap.size, 1, none⟩ = some (.slice A es.length c) := fun w' h => (h.cell (by omega)).trans r1
    have q2 : ∀ w', G W0 w' → w'.cell? ⟨w.heap.size, 2, none⟩ = some (.slice A2 ks.length c2) := fun w' h => (h.cell (by omega)).trans r2
    clear r0 r1 r2
    have hgr : G W0 W0 := G.refl _
    go_upto_region 3 with (go_at_call 37; refine (hn _ hG0).mono ?_; rintro e w1 ⟨rfl, hg1⟩)
    clear hn hgr
    go_cut [3] (fun v3 wx => OwnAt W0.heap.size m2 v3 wx ∧ G W0 wx)
    case first =>
      go_region_held3 (fun w' => G W0 w') (first | exact hg1.drew | exact hgm.keep (by assumption) | exact G.alloc (by assumption) _ | exact KeepT.g hk2 (by assumption) | fail) (first
        | (go_at_call 40; (with_reducible refine Calls.mono (text_nil hm1 (by omega)) ?_); rintro e u1 ⟨A1, d1, rfl, hown1, hgm⟩; replace hown1 := OwnL.mono hown1 (show W0.heap.size ≤ _ from G.size (by assumption)))
        | (go_at_call 41; (with_reducible refine Calls.mono (nums_own (t := 86) (base := W0.heap.size) hm2 (by omega) (by omega) (by decide) (hown1.g (G.new _ _)) (blk_new _ _ _) (G.size (by assumption))) ?_); rintro e u2 ⟨A2, d2, rfl, hown2, hk2⟩)
        | (go_at_call 41; (with_reducible refine Calls.mono (nums_own (t := 86) (base := W0.heap.size) hm2 (by omega) (by omega) (by decide) hown1 (hgm.blk (blk_new _ _ _)) (G.size (by assumption))) ?_); rintro e u2 ⟨A2, d2, rfl, hown2, hk2⟩))
      all_goals
        have hGe : G W0 u2 := by assumption
        go_wp2_with fail
        go_meet
        exact ⟨⟨_, _, rfl, hown2⟩, hGe⟩
    case rest =>
      obtain ⟨⟨A3, d3, rfl, hown3⟩, hgc⟩ := hcut
      replace hown3 := Lib.hid hown3
      have g1 := q1 _ hgc
      clear hg1
      go_wp2_with fail
      clear g1
      go_loopw [3, 25] (fun v i wr => ∃ (k : Nat) (m : List UInt8) (A8 : Option Addr) (c8 : Nat), v = .slice A8 m.length c8 ∧ i = .int .i64 k ∧ k ≤ es.length ∧ m.length ≤ 530000 + k * 1048700 ∧ Hid (m = m2 ++ (es.take k).flatMap evL) ∧ Hid (∀ e ∈ es.take k, smEv n e = true) ∧ Hid (OwnL 5 1 byteC wr W0.heap.size (.slice A8 m.length c8) m) ∧ G W0 wr) (fun _ i _ => es.length - (intOf i).toNat)
      case atStart => exact ⟨0, m2, A3, d3, rfl, rfl, Nat.zero_le _, by omega, by simp [Hid], by simp [Hid], hown3, hgc⟩
      case round =>
        obtain ⟨wo, rfl⟩ : ∃ wo : World, wo = wr := ⟨_, rfl⟩
        clear hown3 hgc
        obtain ⟨k, m, A8, c8, rfl, rfl, hkl, hml, hm, hall, hown, hgr⟩ := hrel
        have hg := hG0.trans hgr
        by_cases hlt : k < es.length
        · obtain ⟨x, hx⟩ : ∃ x, es[k]? = some x := ⟨_, List.getElem?_eq_getElem hlt⟩
          have hxm := List.mem_of_getElem? hx
          obtain ⟨z1, z2⟩ := hz2.out x hxm
          have hsl := (hin.out.1.g (Nat.le_refl _) hg).get hx
          have hfl := flat_take_succ evL hx
          have hel := evL_len x
          have hbad : smEv n x = false → smL ⟨n, es, ks⟩ = [] := fun h => smL_bad (.inr (.inl ⟨x, hxm, h⟩))
          have hext : smEv n x = true → (∀ e ∈ es.take k, smEv n e = true) → ∀ e ∈ es.take (k + 1), smEv n e = true := fun h1 h2 e he => by
            rw [List.take_add_one, hx, List.mem_append] at he
            rcases he with he | he
            · exact h2 e he
            · simp at he; rw [he]; exact h1
          replace hbad := Lib.hid hbad
          replace hext := Lib.hid hext
          obtain ⟨xs, xv, xd, ⟨xa, xb, xc⟩, xi⟩ := x
          obtain ⟨b, o, rfl, hb, hc⟩ := hsl
          simp only at z1 z2 hel
          have c0 := hc 0 _ rfl
          have c1 := hc 1 _ rfl
          have c2 := hc 2 _ rfl
          have c3 := hc 3 _ rfl
          have c4 := hc 4 _ rfl
          have c5 := hc 5 _ rfl
          have c6 := hc 6 _ rfl
          simp only [Nat.add_zero] at c0
          have n1 : (0 : Int) ≤ (k : Int) := by omega
          have n2 : (k : Int) < (es.length : Int) := by omega
          have hen := hev.out (wo.alloc (.cells #[.string xs, .int .i64 xv, .string xd, .int .i64 xa, .int .i64 xb, .int .i64 xc, .int .i64 xi] 41)) (hg.trans (G.new _ _)) xs xd xv xa xb xc xi z1 z2
          unfold Ev.cells at hen
          replace hen := Lib.hid hen
          replace hel := Lib.hid hel
          replace hfl := Lib.hid hfl
          clear hx hc
          go_upto_region 7 with fail
          have hbx := blk_new wo #[.string xs, .int .i64 xv, .string xd, .int .i64 xa, .int .i64 xb, .int .i64 xc, .int .i64 xi] 41
          have hgn := G.new wo (.cells #[.string xs, .int .i64 xv, .string xd, .int .i64 xa, .int .i64 xb, .int .i64 xc, .int .i64 xi] 41)
          generalize wo.alloc (.cells #[.string xs, .int .i64 xv, .string xd, .int .i64 xa, .int .i64 xb, .int .i64 xc, .int .i64 xi] 41) = wx at *
          generalize hX : wo.heap.size = X at *
          replace hX := Lib.hid hX
          have x0 := (blk_cell hbx 0).trans (show _ = some (.string xs) from rfl)
          have x1 := (blk_cell hbx 1).trans (show _ = some (.int .i64 xv) from rfl)
          have x2 := (blk_cell hbx 2).trans (show _ = some (.string xd) from rfl)
          have x3 := (blk_cell hbx 3).trans (show _ = some (.int .i64 xa) from rfl)
          have x4 := (blk_cell hbx 4).trans (show _ = some (.int .i64 xb) from rfl)
          have x5 := (blk_cell hbx 5).trans (show _ = some (.int .i64 xc) from rfl)
          have x6 := (blk_cell hbx 6).trans (show _ = some (.int .i64 xi) from rfl)
          have hgx : G W0 wx := hgr.trans hgn
          replace hown := Lib.hid (hown.out.g hgn)
          replace hbx := Lib.hid hbx
          clear hgn c0 c1 c2 c3 c4 c5 c6 hg hgr
          have hen := hen.out
          cases hok : evOk ⟨xs, xv, xd, ⟨xa, xb, xc⟩, xi⟩ with
          | false =>
            have hno := Lib.hid (hbad.out (by unfold smEv; rw [hok]; rfl))
            rw [evL_none hok] at hen
            replace hok := Lib.hid hok
            clear hext hfl hel
            go_wp2_with fail
            refine hen.mono ?_
            rintro e u ⟨Ae, ce, rfl, _, hgu, hnil⟩
            obtain rfl := hnil rfl
            clear hnil hen x0 x1 x2 x3 x4 x5 x6
            go_wp2_with fail
            go_ret
            exact ⟨none, 0, by rw [hno.out]; rfl, by rw [hno.out]; exact OwnL.nil, hG0.trans (hgx.trans hgu), fun _ => rfl⟩
          | true =>
            have hne : evL ⟨xs, xv, xd, ⟨xa, xb, xc⟩, xi⟩ ≠ [] := by rw [Ne, evL_nil, hok]; simp
            by_cases hxn : xs = n
            case neg =>
              have hno := Lib.hid (hbad.out (by unfold smEv; simp only; rw [decide_eq_false hxn, Bool.and_false]))
              generalize evL ⟨xs, xv, xd, ⟨xa, xb, xc⟩, xi⟩ = el at *
              replace hne := Lib.hid hne
              replace hok := Lib.hid hok
              have t1 : (xs.toList == n.toList) = false := by rw [bytes_beq]; exact decide_eq_false hxn
              have t2 : (xs.toList != n.toList) = true := by rw [bne, t1]; rfl
              clear hext hfl hel
              go_wp2_with fail
              refine hen.mono ?_
              rintro e u ⟨Ae, ce, rfl, hownE, hgu, _⟩
              obtain ⟨ad, rfl⟩ : ∃ a, Ae = some a := by
                rcases Ae with _ | a
                · exact absurd ((OwnL.self byteC_len hownE).of_none) hne.out
                · exact ⟨a, rfl⟩
              clear hen hownE x0 x1 x2 x3 x4 x5 x6
              have x0 := (blk_cell (hgu.blk hbx.out) 0).trans (show _ = some (.string xs) from rfl)
              have g0 := q0 _ (hgx.trans hgu)
              go_wp2_with fail
              go_ret
              exact ⟨none, 0, by rw [hno.out]; rfl, by rw [hno.out]; exact OwnL.nil, hG0.trans (hgx.trans hgu), fun _ => rfl⟩
            subst hxn
            have hsm := hext.out (by unfold smEv; rw [hok, decide_eq_true rfl]; rfl) hall.out
            generalize evL ⟨xs, xv, xd, ⟨xa, xb, xc⟩, xi⟩ = el at *
            obtain ⟨mE, hmE⟩ : ∃ m', m ++ el = m' := ⟨_, rfl⟩
            have hmEe : mE = m2 ++ (es.take (k + 1)).flatMap evL := by rw [hfl.out, ← List.append_assoc, ← hm.out, hmE]
            have hmEl : mE.length = m.length + el.length := by rw [← hmE, List.length_append]
            have t1 : (xs.toList == xs.toList) = true := by simp
            have t2 : (xs.toList != xs.toList) = false := by simp
            have hel := hel.out
            replace hne := Lib.hid hne
            replace hok := Lib.hid hok
            replace hsm := Lib.hid hsm
            replace hmE := Lib.hid hmE
            replace hmEe := Lib.hid hmEe
            replace hmEl := Lib.hid hmEl
            clear hext hfl hm hall
            go_wp2_with fail
            refine hen.mono ?_
            rintro e u ⟨Ae, ce, rfl, hownE, hgu, _⟩
            have hslE := OwnL.self byteC_len hownE
            obtain ⟨ad, rfl⟩ : ∃ a, Ae = some a := by
              rcases Ae with _ | a
              · exact absurd hslE.of_none hne.out
              · exact ⟨a, rfl⟩
            clear hen hownE x0 x1 x2 x3 x4 x5 x6
            have x0 := (blk_cell (hgu.blk hbx.out) 0).trans (show _ = some (.string xs) from rfl)
            have g0 := q0 _ (hgx.trans hgu)
            have hgu2 := hgx.trans hgu
            replace hown := Lib.hid (hown.out.g hgu)
            have hzu := hgu2.size
            go_wp2_with (at_builtin; refine wpList_append_but byte_elem _ rfl (.tmp 40) (.tmp 41) rfl W0.heap.size _ m rfl hown.out u.heap.size (some ad) ce el rfl (by intro h; cases h) hslE (by omega) (by omega) hzu ?_; intro v6 u6 hown6 hk6 hbut; rw [hmE.out] at hown6; obtain ⟨A6, c6, e6, _, _, _⟩ := OwnL.sl byteC_len hown6; subst e6; clear hbut; replace hown6 := Lib.hid hown6; have hg6 := KeepT.g hk6 hgu2)
            go_roundw
            case rel => exact ⟨k + 1, mE, A6, c6, rfl, by go_num, by omega, by have := hmEl.out; omega, hmEe, hsm, hown6, hg6⟩
            case measure => (simp [intOf] <;> omega)
        · have hm3 : m = m2 ++ es.flatMap evL := by rw [hm.out, List.take_of_length_le (by omega)]
          have hall2 : ∀ e ∈ es, smEv n e = true := by
            have h := hall.out
            rwa [List.take_of_length_le (by omega)] at h
          obtain ⟨mK, hmK⟩ : ∃ m', m ++ vL ks.length = m' := ⟨_, rfl⟩
          have lK : mK.length ≤ m.length + 10 := by rw [← hmK, List.length_append]; have := vL_len ks.length; omega
          have hkl2 : k * 1048700 ≤ 524289 * 1048700 := by omega
          have g2 := q2 _ hgr
          have hzr := hgr.size
          replace hm3 := Lib.hid hm3
          replace hall2 := Lib.hid hall2
          replace hmK := Lib.hid hmK
          clear hm hall
          go_wp2_with fail
          refine (nums_own (t := 86) (base := W0.heap.size) hmK (by omega) (by omega) (by decide) (hown.out.g (G.new _ _)) (blk_new _ _ _) (by simp; omega)).mono ?_
          rintro e u5 ⟨A5, d5, rfl, hown5, hk5⟩
          have hg5 : G W0 u5 := KeepT.g hk5 (hgr.trans (G.new _ _))
          have hg := hG0.trans hg5
          have g2 := q2 _ hg5
          replace hown5 := Lib.hid hown5
          clear hown hk5 hzr
          go_wp2_with fail
          clear g2
          go_loopw [3, 54] (fun v i wr => ∃ (j : Nat) (m' : List UInt8) (A9 : Option Addr) (c9 : Nat), v = .slice A9 m'.length c9 ∧ i = .int .i64 j ∧ j ≤ ks.length ∧ m'.length ≤ mK.length + j * 524400 ∧ Hid (m' = mK ++ (ks.take j).flatMap knBytes) ∧ Hid (∀ y ∈ ks.take j, knOk y = true) ∧ Hid (OwnL 5 1 byteC wr W0.heap.size (.slice A9 m'.length c9) m') ∧ G W0 wr) (fun _ i _ => ks.length - (intOf i).toNat)
          case atStart => exact ⟨0, mK, A5, d5, rfl, rfl, Nat.zero_le _, by omega, by simp [Hid], by simp [Hid], hown5, hg5⟩
          case round =>
            obtain ⟨wo, rfl⟩ : ∃ wo : World, wo = wr := ⟨_, rfl⟩
            clear hown5 hg5 hg hgr
            obtain ⟨j, m', A9, c9, rfl, rfl, hjl, hml', hm', hall', hown, hgr⟩ := hrel
            have hg := hG0.trans hgr
            by_cases hjt : j < ks.length
            · obtain ⟨y, hy⟩ : ∃ y, ks[j]? = some y := ⟨_, List.getElem?_eq_getElem hjt⟩
              have hym := List.mem_of_getElem? hy
              have z1 := hz4.out y hym
              have hsl := (hin.out.2.g (Nat.le_refl _) hg).get hy
              have hfl := flat_take_succ knBytes hy
              have hbad : knOk y = false → smL ⟨n, es, ks⟩ = [] := fun h => smL_bad (.inr (.inr ⟨y, hym, h⟩))
              have hext : knOk y = true → (∀ e ∈ ks.take j, knOk e = true) → ∀ e ∈ ks.take (j + 1), knOk e = true := fun h1 h2 e he => by
                rw [List.take_add_one, hy, List.mem_append] at he
                rcases he with he | he
                · exact h2 e he
                · simp at he; rw [he]; exact h1
              replace hbad := Lib.hid hbad
              replace hext := Lib.hid hext
              obtain ⟨yk, yv, ⟨ya, yb, yc⟩⟩ := y
              obtain ⟨b, o, rfl, hb, hc⟩ := hsl
              simp only at z1
              have c0 := hc 0 _ rfl
              have c1 := hc 1 _ rfl
              have c2 := hc 2 _ rfl
              have c3 := hc 3 _ rfl
              have c4 := hc 4 _ rfl
              simp only [Nat.add_zero] at c0
              have n1 : (0 : Int) ≤ (j : Int) := by omega
              have n2 : (j : Int) < (ks.length : Int) := by omega
              replace hfl := Lib.hid hfl
              clear hy hc
              go_upto_region 16 with fail
              have hbx := blk_new wo #[.string yk, .int .i64 yv, .int .i64 ya, .int .i64 yb, .int .i64 yc] 91
              have hgn := G.new wo (.cells #[.string yk, .int .i64 yv, .int .i64 ya, .int .i64 yb, .int .i64 yc] 91)
              generalize wo.alloc (.cells #[.string yk, .int .i64 yv, .int .i64 ya, .int .i64 yb, .int .i64 yc] 91) = wx at *
              generalize hX : wo.heap.size = X at *
              replace hX := Lib.hid hX
              have x0 := (blk_cell hbx 0).trans (show _ = some (.string yk) from rfl)
              have x1 := (blk_cell hbx 1).trans (show _ = some (.int .i64 yv) from rfl)
              have x2 := (blk_cell hbx 2).trans (show _ = some (.int .i64 ya) from rfl)
              have x3 := (blk_cell hbx 3).trans (show _ = some (.int .i64 yb) from rfl)
              have x4 := (blk_cell hbx 4).trans (show _ = some (.int .i64 yc) from rfl)
              have hgx : G W0 wx := hgr.trans hgn
              have hkc := hkn.out wx (hG0.trans hgx) yk yv ya yb yc z1
              replace hown := Lib.hid (hown.out.g hgn)
              clear hgn c0 c1 c2 c3 c4 hg hgr
              cases hok : knOk ⟨yk, yv, ⟨ya, yb, yc⟩⟩ with
              | false =>
                have hno := Lib.hid (hbad.out hok)
                rw [hok] at hkc
                replace hok := Lib.hid hok
                clear hext hfl
                go_wp2_with fail
                refine hkc.mono ?_
                rintro e u ⟨rfl, hgu⟩
                clear hkc x0 x1 x2 x3 x4
                go_wp2_with fail
                go_ret
                exact ⟨none, 0, by rw [hno.out]; rfl, by rw [hno.out]; exact OwnL.nil, hG0.trans (hgx.trans hgu), fun _ => rfl⟩
              | true =>
                rw [hok] at hkc
                have hsm := hext.out hok hall'.out
                have hk2 := (knOk_iff _).1 hok
                simp only at hk2
                obtain ⟨_, _, ⟨hv1, hv2⟩, hst⟩ := hk2
                obtain ⟨vn, rfl⟩ : ∃ q : Nat, yv = q := ⟨yv.toNat, by omega⟩
                obtain ⟨mT, hmT⟩ : ∃ q, m' ++ textL yk.data.toList = q := ⟨_, rfl⟩
                obtain ⟨mV, hmV⟩ : ∃ q, mT ++ vL vn = q := ⟨_, rfl⟩
                obtain ⟨mS, hmS⟩ : ∃ q, mV ++ stE ⟨ya, yb, yc⟩ = q := ⟨_, rfl⟩
                have hmSe : mS = mK ++ (ks.take (j + 1)).flatMap knBytes := by
                  rw [hfl.out, ← List.append_assoc, ← hm'.out, ← hmS, ← hmV, ← hmT, stE_ok hst]
                  unfold knBytes
                  simp only [List.append_assoc]
                  rfl
                have lT : mT.length ≤ m'.length + yk.size + 10 := by rw [← hmT, List.length_append]; have := textL_len yk; omega
                have lV : mV.length ≤ mT.length + 10 := by rw [← hmV, List.length_append]; have := vL_len vn; omega
                have lS : mS.length ≤ mV.length + 30 := by rw [← hmS, List.length_append]; have := stE_len ⟨ya, yb, yc⟩; omega
                have hen : ∀ w', Calls Tryd.prog 42 #[.agg #[.int .i64 ya, .int .i64 yb, .int .i64 yc]] w' (RetBytes w' (stE ⟨ya, yb, yc⟩)) := fun w' => stEnc_any ⟨ya, yb, yc⟩ w'
                have hel := stE_len ⟨ya, yb, yc⟩
                have hwv : IntKind.u64.wrap (vn : Int) = (vn : Int) := by rw [IntKind.wrap_u64]; omega
                generalize stE ⟨ya, yb, yc⟩ = ste at *
                replace hok := Lib.hid hok
                replace hsm := Lib.hid hsm
                replace hmT := Lib.hid hmT
                replace hmV := Lib.hid hmV
                replace hmS := Lib.hid hmS
                replace hmSe := Lib.hid hmSe
                replace hen := Lib.hid hen
                clear hext hfl hm' hall' hst
                go_upto_region 18 with (go_at_call 55; refine hkc.mono ?_; rintro e u ⟨rfl, hgu⟩)
                clear hkc x0 x1 x2 x3 x4
                have x0 : ∀ w', G u w' → w'.cell? ⟨X, 0, none⟩ = some (.string yk) := fun w' h => (blk_cell ((hgu.trans h).blk hbx) 0).trans rfl
                have x1 : ∀ w', G u w' → w'.cell? ⟨X, 1, none⟩ = some (.int .i64 vn) := fun w' h => (blk_cell ((hgu.trans h).blk hbx) 1).trans rfl
                have x2 : ∀ w', G u w' → w'.cell? ⟨X, 2, none⟩ = some (.int .i64 ya) := fun w' h => (blk_cell ((hgu.trans h).blk hbx) 2).trans rfl
                have x3 : ∀ w', G u w' → w'.cell? ⟨X, 3, none⟩ = some (.int .i64 yb) := fun w' h => (blk_cell ((hgu.trans h).blk hbx) 3).trans rfl
                have x4 : ∀ w', G u w' → w'.cell? ⟨X, 4, none⟩ = some (.int .i64 yc) := fun w' h => (blk_cell ((hgu.trans h).blk hbx) 4).trans rfl
                have hownx : ∀ w', G u w' → OwnL 5 1 byteC w' W0.heap.size (.slice A9 m'.length c9) m' := fun w' h => hown.out.g (hgu.trans h)
                have hgz := hgx.trans hgu
                have hzu := hgz.size
                replace hbx := Lib.hid hbx
                replace hownx := Lib.hid hownx
                clear hown hgu hgx
                go_region_held3 (fun w' => G u w') (first | exact (G.refl _).drew | exact hgm.keep (by assumption) | exact hgE.keep (by assumption) | assumption | exact G.alloc (by assumption) _ | exact KeepT.g hk2 (by assumption) | exact KeepT.g hk3 (by assumption) | fail) (first
                  | (go_at_call 40; (with_reducible refine Calls.mono (textOf_own hmT (by omega) (by omega) (hownx.out _ (by assumption))) ?_); rintro e u1 ⟨A1, d1, rfl, hown1, hgm⟩; replace hown1 := OwnL.mono hown1 (show u.heap.size ≤ _ from G.size (by assumption)))
                  | (go_at_call 41; (with_reducible refine Calls.mono (nums_own (t := 86) (base := u.heap.size) hmV (by omega) (by omega) (by decide) (hown1.g (G.new _ _)) (blk_new _ _ _) (G.size (by assumption))) ?_); rintro e u2 ⟨A2, d2, rfl, hown2, hk2⟩)
                  | (go_at_call 41; (with_reducible refine Calls.mono (nums_own (t := 86) (base := u.heap.size) hmV (by omega) (by omega) (by decide) hown1 (hgm.blk (blk_new _ _ _)) (G.size (by assumption))) ?_); rintro e u2 ⟨A2, d2, rfl, hown2, hk2⟩)
                  | (go_at_call 42; (with_reducible refine Calls.mono (hen.out _) ?_); rintro e uE ⟨AE, dE, rfl, hownE, hgE⟩; have hslE := OwnL.self byteC_len hownE; have hAE : AE = none → ste = [] := fun h => (h ▸ hslE).of_none; clear hownE)
                  | (refine step_append_but byte_elem _ rfl (.tmp 69) (.tmp 72) rfl u.heap.size (.slice A2 mV.length d2) mV rfl (hown2.g hgE) uE.heap.size AE dE ste rfl hAE hslE (by omega) (by omega) (G.size (by assumption)) ?_; intro v3 u3 hown3 hk3 hbut; rw [hmS.out] at hown3; obtain ⟨A3, d3, e3, _, _, _⟩ := OwnL.sl byteC_len hown3; subst e3; clear hbut))
                all_goals
                  have hGe := hgz.trans (by assumption)
                  have hown4 := Lib.hid (OwnL.mono hown3 hzu)
                  go_wp2_with fail
                  go_roundw
                  case rel => exact ⟨j + 1, mS, A3, d3, rfl, by go_num, by omega, by omega, hmSe, hsm, hown4, hGe⟩
                  case measure => (simp [intOf] <;> omega)
            · have hall3 : ∀ y ∈ ks, knOk y = true := by
                have h := hall'.out
                rwa [List.take_of_length_le (by omega)] at h
              obtain ⟨he, hne⟩ := smL_all hnb.out hall2.out hall3
              have he2 : smL ⟨n, es, ks⟩ = m' := by rw [he, hhd.out, ← hm3.out, hmK.out, hm'.out, List.take_of_length_le (by omega)]
              rw [he2] at hne
              replace he2 := Lib.hid he2
              replace hne := Lib.hid hne
              clear he hm' hall' hall3
              go_wp2_with fail
              go_ret
              rw [he2.out]
              exact ⟨A9, c9, rfl, OwnL.mono hown.out hG0.size, hg, fun h => absurd h hne.out⟩
end Go.Proofs.YtilfgafdkiaaaaaDoor
/- event.DecodeStream: what it answers. Conditions: at most 2^19 bytes; the decoder's tables lie as the library lays them. -/
namespace Go.Proofs.YtilfgafdkiaaaaaDoor
open Go.RowKit

theorem G.set3' {a w : World} (h : G a w) {g : Nat} (hg : a.heap.size ≤ g) (x y z : Value) : G a (((w.setCell ⟨g, 0, none⟩ x).setCell ⟨g, 1, none⟩ y).setCell ⟨g, 2, none⟩ z) := ((h.set hg x).set hg y).set hg z
theorem wrap_less {j : Nat} (h : j < 2 ^ 64) : IntKind.u64.wrap (((j + 1 : Nat) : Int) - 1) = (j : Int) := by rw [IntKind.wrap_u64]; omega
set_option maxRecDepth 100000 in
set_option maxHeartbeats 16000000 in
theorem decStream_any (l : List UInt8) (A : Option Addr) (c8 : Nat) (w : World) (hs : Sl byteC 1 w w.heap.size A l) (hl : l.length ≤ 524288) (hcap : l.length ≤ c8) (hT : Tabs w) :
    Calls Tryd.prog 21 #[.slice A l.length c8] w (RetSm w l) := by
  have hl2 : l.length ≤ 1073741824 := by omega
  have hZ0 := blk_new w #[.string ByteArray.empty, .slice none 0 0, .slice none 0 0] 53
  have hg0 := G.new w (.cells #[.string ByteArray.empty, .slice none 0 0, .slice none 0 0] 53)
  have hz0 : (w.alloc (.cells #[.string ByteArray.empty, .slice none 0 0, .slice none 0 0] 53)).heap.size = w.heap.size + 1 := by simp
  generalize hW0 : w.alloc (.cells #[.string ByteArray.empty, .slice none 0 0, .slice none 0 0] 53) = W0 at hZ0 hg0 hz0
  have hr := RdS.start (T := 77) (c8 := c8) ((hs.g (Nat.le_refl _) hg0).more hg0.size)
  have hgn := G.new W0 (.cells #[.slice A l.length c8, .int .i64 0, .bool false] 77)
  rw [hz0] at hr
  have hd : SmSt 77 (w.heap.size + 1) w.heap.size w.heap.size A c8 l w ByteArray.empty none 0 [] none 0 [] (some l) (W0.alloc (.cells #[.slice A l.length c8, .int .i64 0, .bool false] 77)) :=
    ⟨hr, hs.g (Nat.le_refl _) (hg0.trans hgn), hgn.blk hZ0, ⟨OwnL.nil, OwnL.nil⟩, .of_g (hg0.trans hgn), by omega, Nat.le_refl _, Nat.le_refl _, by decide⟩
  have hc := text_any (w.heap.size + 1) A c8 l (some l) _ hr hl2 hcap
  obtain ⟨s, st1, h1⟩ : ∃ s t, gv [] dText (some l) = (s, t) := ⟨_, _, rfl⟩
  rw [h1] at hc
  have g1 := gv_gives h1
  replace g1 := Lib.hid g1
  replace hd := Lib.hid hd
  replace hz0 := Lib.hid hz0
  replace hT := Lib.hid hT
  clear hr hZ0 hg0 hs h1 hgn
  subst hW0
  go_enter Tryd.func21, Tryd.ntmps21
  go_wp2_with fail
  refine hc.mono ?_
  clear hc
  rintro e w1 ⟨rfl, hr1, hb1⟩
  replace hd := hd.out.call hr1 hb1
  have z0 := hd.c0
  have zf := hd.free 0
  replace hd := hd.name0 (strOf s)
  have hc := num_any (w.heap.size + 1) A c8 l st1 _ hd.rd hl2 hcap
  obtain ⟨N, st2, h2⟩ : ∃ v t, gv 0 dNum st1 = (v, t) := ⟨_, _, rfl⟩
  rw [h2] at hc
  have g2 := gv_gives h2
  have hN : N < 2 ^ 64 := gv_bound (P := (· < 2 ^ 64)) h2 (by decide) (fun _ _ _ => dNum_bd)
  replace g2 := Lib.hid g2
  replace hd := Lib.hid hd
  clear hr1 hb1 h2
  go_wp2_with fail
  refine hc.mono ?_
  clear hc
  rintro e w2 ⟨rfl, hr2, hb2⟩
  replace hd := hd.out.call hr2 hb2
  have hlf : Left l 0 st2 := Left.start (fun l' e => by subst e; exact RdS.len hd.rd)
  replace hd := Lib.hid hd
  replace hlf := Lib.hid hlf
  clear hr2 hb2 z0 zf
  go_wp2_with fail
  go_loopw [6] (fun i wr => ∃ (k : Nat) (Ae : Option Addr) (ce : Nat) (es : List Ev) (st : Option (List UInt8)), i = .int .u64 k ∧ k < 2 ^ 64 ∧ Hid (Left l es.length st) ∧ Hid (SmSt 77 (w.heap.size + 1) w.heap.size w.heap.size A c8 l w (strOf s) Ae ce es none 0 [] st wr) ∧ Hid (More dEvent N k st2 st es)) (fun i _ => (intOf i).toNat)
  case atStart => exact ⟨N, none, 0, [], st2, rfl, hN, hlf, hd, More.start _ _ _⟩
  case round =>
    obtain ⟨wo, rfl⟩ : ∃ wo : World, wo = wr := ⟨_, rfl⟩
    clear hd hlf
    obtain ⟨k, Ae, ce, es, st, rfl, hk64, hlf, hd, hmo⟩ := hrel
    have q2 := hd.out.rd.c2
    cases st with
    | none =>
      unfold Option.isNone at q2
      by_cases hk : k = 0
      · subst hk
        have g3 := hmo.out.end (.inr rfl)
        replace g3 := Lib.hid g3
        clear hmo hlf
        have hc := num_any (w.heap.size + 1) A c8 l none wo hd.out.rd hl2 hcap
        obtain ⟨M, st4, h4⟩ : ∃ v t, gv 0 dNum (none) = (v, t) := ⟨_, _, rfl⟩
        rw [h4] at hc
        have g4 := gv_gives h4
        have hM : M < 2 ^ 64 := gv_bound (P := (· < 2 ^ 64)) h4 (by decide) (fun _ _ _ => dNum_bd)
        replace g4 := Lib.hid g4
        clear h4
        go_wp2_with fail
        refine hc.mono ?_
        clear hc
        rintro e wb ⟨rfl, hr4, hb4⟩
        replace hd := hd.out.call hr4 hb4
        have hlf : Left l 0 st4 := Left.start (fun l' e => by subst e; exact RdS.len hd.rd)
        replace hd := Lib.hid hd
        replace hlf := Lib.hid hlf
        clear hr4 hb4 q2
        go_wp2_with fail
        go_loopw [7] (fun i wr => ∃ (k : Nat) (Ak : Option Addr) (ck : Nat) (ks : List Kn) (st : Option (List UInt8)), i = .int .u64 k ∧ k < 2 ^ 64 ∧ Hid (Left l ks.length st) ∧ Hid (SmSt 77 (w.heap.size + 1) w.heap.size w.heap.size A c8 l w (strOf s) Ae ce es Ak ck ks st wr) ∧ Hid (More dKnown M k st4 st ks)) (fun i _ => (intOf i).toNat)
        case atStart => exact ⟨M, none, 0, [], st4, rfl, hM, hlf, hd, More.start _ _ _⟩
        case round =>
          obtain ⟨wo, rfl⟩ : ∃ wo : World, wo = wr := ⟨_, rfl⟩
          clear hd hlf
          obtain ⟨k, Ak, ck, ks, st, rfl, hk64, hlf, hd, hmo⟩ := hrel
          have q2 := hd.out.rd.c2
          cases st with
          | none =>
            unfold Option.isNone at q2
            have hno := (stream_gives hl g1.out g2.out g3.out g4.out (hmo.out.end (.inr rfl))).1 rfl
            clear hmo hlf
            by_cases hk : k = 0
            · subst hk
              replace hno := Lib.hid hno
              have hg := (G.refl w).gOf' hd.out.but (fun k e => by rw [e]; omega)
              have hZ := hd.out.res
              have q0 := hd.out.c0
              have q1 := hd.out.c1
              have q2' := hd.out.c2
              have f0 := hd.out.free 0
              have f1 := hd.out.free 1
              have f2 := hd.out.free 2
              have hE := blk3 hZ (.string ⟨#[]⟩) (.slice none 0 0) (.slice none 0 0)
              have hgs := hg.set3' (Nat.le_refl _) (.string ⟨#[]⟩) (.slice none 0 0) (.slice none 0 0)
              have e0 := (blk_cell hE 0).trans (show _ = some (.string ⟨#[]⟩) from rfl)
              have e1 := (blk_cell hE 1).trans (show _ = some (.slice none 0 0) from rfl)
              have e2 := (blk_cell hE 2).trans (show _ = some (.slice none 0 0) from rfl)
              replace e0 := Lib.hid e0
              replace e1 := Lib.hid e1
              replace e2 := Lib.hid e2
              replace hgs := Lib.hid hgs
              clear hE hg hZ
              go_wp2_with fail
              have e0 := e0.out
              have e1 := e1.out
              have e2 := e2.out
              refine bodyPost_ret (v := .tuple #[.agg #[.string ⟨#[]⟩, .slice none 0 0, .slice none 0 0], .int .i64 0, .int .i64 10]) (by simp [results, Tryd.results21, go_sem, e0, e1, e2]) rfl ?_
              exact ⟨⟨#[]⟩, none, none, 0, 0, [], [], 0, 10, rfl, by rw [hno.out]; rfl, ⟨by decide, ⟨by simp, fun _ h => by cases h⟩, by simp, fun _ h => by cases h⟩, ⟨OwnL.nil, OwnL.nil⟩, hgs.out⟩
            · have hk' : 0 < (k : Int) := by omega
              replace hno := Lib.hid hno
              have hg := (G.refl w).gOf' hd.out.but (fun k e => by rw [e]; omega)
              have hZ := hd.out.res
              have q0 := hd.out.c0
              have q1 := hd.out.c1
              have q2' := hd.out.c2
              have f0 := hd.out.free 0
              have f1 := hd.out.free 1
              have f2 := hd.out.free 2
              have hE := blk3 hZ (.string ⟨#[]⟩) (.slice none 0 0) (.slice none 0 0)
              have hgs := hg.set3' (Nat.le_refl _) (.string ⟨#[]⟩) (.slice none 0 0) (.slice none 0 0)
              have e0 := (blk_cell hE 0).trans (show _ = some (.string ⟨#[]⟩) from rfl)
              have e1 := (blk_cell hE 1).trans (show _ = some (.slice none 0 0) from rfl)
              have e2 := (blk_cell hE 2).trans (show _ = some (.slice none 0 0) from rfl)
              replace e0 := Lib.hid e0
              replace e1 := Lib.hid e1
              replace e2 := Lib.hid e2
              replace hgs := Lib.hid hgs
              clear hE hg hZ
              go_wp2_with fail
              have e0 := e0.out
              have e1 := e1.out
              have e2 := e2.out
              refine bodyPost_ret (v := .tuple #[.agg #[.string ⟨#[]⟩, .slice none 0 0, .slice none 0 0], .int .i64 0, .int .i64 10]) (by simp [results, Tryd.results21, go_sem, e0, e1, e2]) rfl ?_
              exact ⟨⟨#[]⟩, none, none, 0, 0, [], [], 0, 10, rfl, by rw [hno.out]; rfl, ⟨by decide, ⟨by simp, fun _ h => by cases h⟩, by simp, fun _ h => by cases h⟩, ⟨OwnL.nil, OwnL.nil⟩, hgs.out⟩
          | some lx =>
            unfold Option.isNone at q2
            by_cases hk : k = 0
            · subst hk
              clear hlf
              obtain ⟨hsm, hgv⟩ := (stream_gives hl g1.out g2.out g3.out g4.out (hmo.out.end (.inl rfl))).2 lx rfl
              have hg := (G.refl w).gOf' hd.out.but (fun k e => by rw [e]; omega)
              have hck := smEnc_any (strOf s) es ks Ae Ak ce ck wo hd.out.own.ins hsm (hT.out.g hg)
              have q0 := hd.out.c0
              have q1 := hd.out.c1
              have q2' := hd.out.c2
              have hq := fun W A n c => Lib.run_eql_slice_nil (P := Tryd.prog) W 26 5 A n c 0 0 Tryd.underlying26
              cases hok : smOk ⟨strOf s, es, ks⟩ with
              | false =>
                have hno : dStream l = none := by rw [hgv, if_neg (by rw [hok]; simp)]
                rw [smL_no hok] at hck
                replace hok := Lib.hid hok
                clear hgv hg hmo hsm
                go_wp2_with fail
                refine hck.mono ?_
                clear hck
                rintro e w5 ⟨Ax, cx, rfl, _, hg5, hnil⟩
                obtain rfl := hnil rfl
                replace hd := Lib.hid (hd.out.g hg5)
                clear q0 q1 q2 q2' hg5 hnil
                replace hno := Lib.hid hno
                have hg := (G.refl w).gOf' hd.out.but (fun k e => by rw [e]; omega)
                have hZ := hd.out.res
                have q0 := hd.out.c0
                have q1 := hd.out.c1
                have q2' := hd.out.c2
                have f0 := hd.out.free 0
                have f1 := hd.out.free 1
                have f2 := hd.out.free 2
                have hE := blk3 hZ (.string ⟨#[]⟩) (.slice none 0 0) (.slice none 0 0)
                have hgs := hg.set3' (Nat.le_refl _) (.string ⟨#[]⟩) (.slice none 0 0) (.slice none 0 0)
                have e0 := (blk_cell hE 0).trans (show _ = some (.string ⟨#[]⟩) from rfl)
                have e1 := (blk_cell hE 1).trans (show _ = some (.slice none 0 0) from rfl)
                have e2 := (blk_cell hE 2).trans (show _ = some (.slice none 0 0) from rfl)
                replace e0 := Lib.hid e0
                replace e1 := Lib.hid e1
                replace e2 := Lib.hid e2
                replace hgs := Lib.hid hgs
                clear hE hg hZ
                go_wp2_with fail
                have e0 := e0.out
                have e1 := e1.out
                have e2 := e2.out
                refine bodyPost_ret (v := .tuple #[.agg #[.string ⟨#[]⟩, .slice none 0 0, .slice none 0 0], .int .i64 0, .int .i64 10]) (by simp [results, Tryd.results21, go_sem, e0, e1, e2]) rfl ?_
                exact ⟨⟨#[]⟩, none, none, 0, 0, [], [], 0, 10, rfl, by rw [hno.out]; rfl, ⟨by decide, ⟨by simp, fun _ h => by cases h⟩, by simp, fun _ h => by cases h⟩, ⟨OwnL.nil, OwnL.nil⟩, hgs.out⟩
              | true =>
                have hne : smL ⟨strOf s, es, ks⟩ ≠ [] := by
                  rw [smL_ok hok]
                  intro h
                  have := smBytes_pos ⟨strOf s, es, ks⟩
                  rw [h] at this
                  simp at this
                rw [if_pos hok] at hgv
                generalize smL ⟨strOf s, es, ks⟩ = sl at *
                replace hne := Lib.hid hne
                replace hok := Lib.hid hok
                replace hgv := Lib.hid hgv
                replace hsm := Lib.hid hsm
                clear hmo
                go_wp2_with fail
                refine hck.mono ?_
                clear hck
                rintro e w5 ⟨Ax, cx, rfl, hownx, hg5, _⟩
                obtain ⟨ad, rfl⟩ : ∃ a, Ax = some a := by
                  rcases Ax with _ | a
                  · exact absurd ((OwnL.self byteC_len hownx).of_none) hne.out
                  · exact ⟨a, rfl⟩
                replace hd := hd.out.g hg5
                clear q0 q1 q2 q2' hownx
                have hZ := hd.res
                have q0 := hd.c0
                have q1 := hd.c1
                have q3 := hd.c2
                have q2 := hd.rd.c2
                have f0 := hd.free 0
                have f1 := hd.free 1
                have f2 := hd.free 2
                have k1 := hd.rd.end
                unfold Option.isNone at q2
                have hE := blk3 hZ (.string (strOf s)) (.slice Ae es.length ce) (.slice Ak ks.length ck)
                have hgs := (hg.trans hg5).set3' (Nat.le_refl _) (.string (strOf s)) (.slice Ae es.length ce) (.slice Ak ks.length ck)
                have e0 := (blk_cell hE 0).trans (show _ = some (.string (strOf s)) from rfl)
                have e1 := (blk_cell hE 1).trans (show _ = some (.slice Ae es.length ce) from rfl)
                have e2 := (blk_cell hE 2).trans (show _ = some (.slice Ak ks.length ck) from rfl)
                have hps := hd.own.but (but_set3 w5 w.heap.size (.string (strOf s)) (.slice Ae es.length ce) (.slice Ak ks.length ck)) (fun k cs t e h1 => by
                  subst e
                  rw [hZ] at h1
                  cases h1
                  decide)
                have hne2 : w.heap.size + 1 ≠ w.heap.size := by omega
                replace e0 := Lib.hid e0
                replace e1 := Lib.hid e1
                replace e2 := Lib.hid e2
                replace hgs := Lib.hid hgs
                replace hps := Lib.hid hps
                clear hE hg hg5 hZ hd
                generalize hnn : l.length - lx.length = nn at *
                replace hnn := Lib.hid hnn
                go_wp2_with fail
                go_region
                go_wp2_with fail
                have e0 := e0.out
                have e1 := e1.out
                have e2 := e2.out
                refine bodyPost_ret (v := .tuple #[.agg #[.string (strOf s), .slice Ae es.length ce, .slice Ak ks.length ck], .int .i64 nn, .int .i64 0]) (by simp [results, Tryd.results21, go_sem, e0, e1, e2]) rfl ?_
                exact ⟨strOf s, Ae, Ak, ce, ck, es, ks, nn, 0, rfl, by rw [hgv.out, ← hnn.out]; rfl, hsm.out, hps.out.g (G.refl _).drew, hgs.out.drew⟩
            · obtain ⟨j, rfl⟩ : ∃ j, k = j + 1 := ⟨k - 1, by omega⟩
              have hwk := wrap_less (j := j) (by omega)
              have hc := text_any (w.heap.size + 1) A c8 l (some lx) wo hd.out.rd hl2 hcap
              obtain ⟨sk, st5, h5⟩ : ∃ v t, gv [] dText (some lx) = (v, t) := ⟨_, _, rfl⟩
              rw [h5] at hc
              have g5 := gv_gives h5
              have hj1 : 0 < ((j + 1 : Nat) : Int) := by omega
              replace g5 := Lib.hid g5
              clear h5 hk
              go_wp2_with fail
              refine hc.mono ?_
              clear hc
              rintro e wa ⟨rfl, hr5, hb5⟩
              replace hd := Lib.hid (hd.out.call hr5 hb5)
              have hi := KnSt.begin (s := strOf sk) hr5
              have hc := count_any' (w.heap.size + 1) A c8 l st5 _ hi.rd hl2 hcap 1099511627776 1099511627776 rfl (by omega)
              obtain ⟨v, st6, h6⟩ : ∃ v t, gv 0 (dCount 1099511627776) st5 = (v, t) := ⟨_, _, rfl⟩
              rw [h6] at hc
              have g6 := gv_gives h6
              replace g6 := Lib.hid g6
              replace hi := Lib.hid hi
              clear h6 hr5 hb5 q2
              go_wp2_with fail
              refine hc.mono ?_
              clear hc
              rintro e w6 ⟨rfl, hr6, hb6⟩
              replace hi := hi.out.call hr6 hb6
              have x1 := (hi.cell 1).trans (show _ = some (.int .i64 0) from rfl)
              have x1f := hi.free 1
              replace hi := (hi.put 1 (.int .i64 v)).as (show _ = #[.string (strOf sk), .int .i64 v, .int .i64 0, .int .i64 0, .int .i64 0] from rfl)
              have hc := rstamp_any (w.heap.size + 1) A c8 l st6 _ hi.rd hl2 hcap
              obtain ⟨⟨ta, tb, tc⟩, st7, h7⟩ : ∃ v t, gv zSt dStamp st6 = (v, t) := ⟨_, _, rfl⟩
              rw [h7] at hc
              unfold stVal stV at hc
              dsimp only at hc
              have g7 := gv_gives h7
              replace g7 := Lib.hid g7
              replace hi := Lib.hid hi
              clear h7 hr6 hb6
              go_wp2_with fail
              refine hc.mono ?_
              clear hc
              rintro e w7 ⟨rfl, hr7, hb7⟩
              replace hi := hi.out.call hr7 hb7
              have y2 := (hi.cell 2).trans (show _ = some (.int .i64 0) from rfl)
              have y3 := (hi.cell 3).trans (show _ = some (.int .i64 0) from rfl)
              have y4 := (hi.cell 4).trans (show _ = some (.int .i64 0) from rfl)
              have y2f := hi.free 2
              have y3f := hi.free 3
              have y4f := hi.free 4
              replace hi := (((hi.put 2 (.int .i64 ta)).put 3 (.int .i64 tb)).put 4 (.int .i64 tc)).as (show _ = #[.string (strOf sk), .int .i64 v, .int .i64 ta, .int .i64 tb, .int .i64 tc] from rfl)
              have z0 := (hi.cell 0).trans (show _ = some (.string (strOf sk)) from rfl)
              have z1 := (hi.cell 1).trans (show _ = some (.int .i64 v) from rfl)
              have z2 := (hi.cell 2).trans (show _ = some (.int .i64 ta) from rfl)
              have z3 := (hi.cell 3).trans (show _ = some (.int .i64 tb) from rfl)
              have z4 := (hi.cell 4).trans (show _ = some (.int .i64 tc) from rfl)
              have hgk := known_gives g5.out g6.out g7.out
              have hlf2 := Left.step hlf.out hl eats_known hgk
              have hmo2 := hmo.out.step hgk
              have hb := hi.but
              have hws := hd.out.but.size
              replace hd := hd.out.call hi.rd hb
              have c2 := hd.c2
              obtain ⟨y, hy⟩ : ∃ y : Kn, y = ⟨strOf sk, v, ⟨ta, tb, tc⟩⟩ := ⟨_, rfl⟩
              obtain ⟨ks', hks⟩ : ∃ ks', ks ++ [y] = ks' := ⟨_, rfl⟩
              rw [← hy, hks] at hmo2
              have hkl : ks'.length = ks.length + 1 := by rw [← hks]; simp
              have hkb := hlf.out.1
              rw [← hkl] at hlf2
              replace hd := Lib.hid hd
              replace hmo2 := Lib.hid hmo2
              replace hlf2 := Lib.hid hlf2
              replace hkl := Lib.hid hkl
              replace hks := Lib.hid hks
              replace hy := Lib.hid hy
              clear hgk hmo hlf hb hr7 hb7 hi
              go_upto_region 13 with fail
              generalize ((w7.setCell ⟨wa.heap.size, 2, none⟩ (.int .i64 ta)).setCell ⟨wa.heap.size, 3, none⟩ (.int .i64 tb)).setCell ⟨wa.heap.size, 4, none⟩ (.int .i64 tc) = wz at *
              clear y2 y3 y4 y2f y3f y4f x1 x1f
              go_wp2_with (at_builtin; refine wpList_append_but kns_elem _ rfl (.tmp 58) (.tmp 60) rfl w.heap.size _ ks rfl (hd.out.own.kns.g (G.new _ _)) (wz.heap.size + 1) (some ⟨wz.heap.size, 0, none⟩) 1 [y] rfl (by intro h; cases h) (Sl.of_blk Kn.cells_len _ (blk_new _ _ _) (by rw [hy.out]; rfl) (by omega)) (by simp; omega) (by simp; omega) (by have := hd.out.but.size; simp; omega) ?_; intro v8 w8 hown8 hk8 hb8; rw [hks.out] at hown8; obtain ⟨A8, c8', e8, _, _, _⟩ := OwnL.sl Kn.cells_len hown8; subst e8; obtain ⟨zf, ⟨u, zc⟩, hd8⟩ := (hd.out.g (G.new _ _)).pushK hown8 hk8 hb8; replace hd8 := Lib.hid hd8)
              go_roundw
              case rel => exact ⟨j, A8, c8', ks', st7, by first | go_num | rfl, by omega, hlf2, hd8, hmo2⟩
              case measure => (simp [intOf] <;> omega)
      · have hk' : 0 < (k : Int) := by omega
        have g3 := hmo.out.end (.inr rfl)
        replace g3 := Lib.hid g3
        clear hmo hlf
        have hc := num_any (w.heap.size + 1) A c8 l none wo hd.out.rd hl2 hcap
        obtain ⟨M, st4, h4⟩ : ∃ v t, gv 0 dNum (none) = (v, t) := ⟨_, _, rfl⟩
        rw [h4] at hc
        have g4 := gv_gives h4
        have hM : M < 2 ^ 64 := gv_bound (P := (· < 2 ^ 64)) h4 (by decide) (fun _ _ _ => dNum_bd)
        replace g4 := Lib.hid g4
        clear h4
        go_wp2_with fail
        refine hc.mono ?_
        clear hc
        rintro e wb ⟨rfl, hr4, hb4⟩
        replace hd := hd.out.call hr4 hb4
        have hlf : Left l 0 st4 := Left.start (fun l' e => by subst e; exact RdS.len hd.rd)
        replace hd := Lib.hid hd
        replace hlf := Lib.hid hlf
        clear hr4 hb4 q2
        go_wp2_with fail
        go_loopw [7] (fun i wr => ∃ (k : Nat) (Ak : Option Addr) (ck : Nat) (ks : List Kn) (st : Option (List UInt8)), i = .int .u64 k ∧ k < 2 ^ 64 ∧ Hid (Left l ks.length st) ∧ Hid (SmSt 77 (w.heap.size + 1) w.heap.size w.heap.size A c8 l w (strOf s) Ae ce es Ak ck ks st wr) ∧ Hid (More dKnown M k st4 st ks)) (fun i _ => (intOf i).toNat)
        case atStart => exact ⟨M, none, 0, [], st4, rfl, hM, hlf, hd, More.start _ _ _⟩
        case round =>
          obtain ⟨wo, rfl⟩ : ∃ wo : World, wo = wr := ⟨_, rfl⟩
          clear hd hlf
          obtain ⟨k, Ak, ck, ks, st, rfl, hk64, hlf, hd, hmo⟩ := hrel
          have q2 := hd.out.rd.c2
          cases st with
          | none =>
            unfold Option.isNone at q2
            have hno := (stream_gives hl g1.out g2.out g3.out g4.out (hmo.out.end (.inr rfl))).1 rfl
            clear hmo hlf
            by_cases hk : k = 0
            · subst hk
              replace hno := Lib.hid hno
              have hg := (G.refl w).gOf' hd.out.but (fun k e => by rw [e]; omega)
              have hZ := hd.out.res
              have q0 := hd.out.c0
              have q1 := hd.out.c1
              have q2' := hd.out.c2
              have f0 := hd.out.free 0
              have f1 := hd.out.free 1
              have f2 := hd.out.free 2
              have hE := blk3 hZ (.string ⟨#[]⟩) (.slice none 0 0) (.slice none 0 0)
              have hgs := hg.set3' (Nat.le_refl _) (.string ⟨#[]⟩) (.slice none 0 0) (.slice none 0 0)
              have e0 := (blk_cell hE 0).trans (show _ = some (.string ⟨#[]⟩) from rfl)
              have e1 := (blk_cell hE 1).trans (show _ = some (.slice none 0 0) from rfl)
              have e2 := (blk_cell hE 2).trans (show _ = some (.slice none 0 0) from rfl)
              replace e0 := Lib.hid e0
              replace e1 := Lib.hid e1
              replace e2 := Lib.hid e2
              replace hgs := Lib.hid hgs
              clear hE hg hZ
              go_wp2_with fail
              have e0 := e0.out
              have e1 := e1.out
              have e2 := e2.out
              refine bodyPost_ret (v := .tuple #[.agg #[.string ⟨#[]⟩, .slice none 0 0, .slice none 0 0], .int .i64 0, .int .i64 10]) (by simp [results, Tryd.results21, go_sem, e0, e1, e2]) rfl ?_
              exact ⟨⟨#[]⟩, none, none, 0, 0, [], [], 0, 10, rfl, by rw [hno.out]; rfl, ⟨by decide, ⟨by simp, fun _ h => by cases h⟩, by simp, fun _ h => by cases h⟩, ⟨OwnL.nil, OwnL.nil⟩, hgs.out⟩
            · have hk' : 0 < (k : Int) := by omega
              replace hno := Lib.hid hno
              have hg := (G.refl w).gOf' hd.out.but (fun k e => by rw [e]; omega)
              have hZ := hd.out.res
              have q0 := hd.out.c0
              have q1 := hd.out.c1
              have q2' := hd.out.c2
              have f0 := hd.out.free 0
              have f1 := hd.out.free 1
              have f2 := hd.out.free 2
              have hE := blk3 hZ (.string ⟨#[]⟩) (.slice none 0 0) (.slice none 0 0)
              have hgs := hg.set3' (Nat.le_refl _) (.string ⟨#[]⟩) (.slice none 0 0) (.slice none 0 0)
              have e0 := (blk_cell hE 0).trans (show _ = some (.string ⟨#[]⟩) from rfl)
              have e1 := (blk_cell hE 1).trans (show _ = some (.slice none 0 0) from rfl)
              have e2 := (blk_cell hE 2).trans (show _ = some (.slice none 0 0) from rfl)
              replace e0 := Lib.hid e0
              replace e1 := Lib.hid e1
              replace e2 := Lib.hid e2
              replace hgs := Lib.hid hgs
              clear hE hg hZ
              go_wp2_with fail
              have e0 := e0.out
              have e1 := e1.out
              have e2 := e2.out
              refine bodyPost_ret (v := .tuple #[.agg #[.string ⟨#[]⟩, .slice none 0 0, .slice none 0 0], .int .i64 0, .int .i64 10]) (by simp [results, Tryd.results21, go_sem, e0, e1, e2]) rfl ?_
              exact ⟨⟨#[]⟩, none, none, 0, 0, [], [], 0, 10, rfl, by rw [hno.out]; rfl, ⟨by decide, ⟨by simp, fun _ h => by cases h⟩, by simp, fun _ h => by cases h⟩, ⟨OwnL.nil, OwnL.nil⟩, hgs.out⟩
          | some lx =>
            unfold Option.isNone at q2
            by_cases hk : k = 0
            · subst hk
              clear hlf
              obtain ⟨hsm, hgv⟩ := (stream_gives hl g1.out g2.out g3.out g4.out (hmo.out.end (.inl rfl))).2 lx rfl
              have hg := (G.refl w).gOf' hd.out.but (fun k e => by rw [e]; omega)
              have hck := smEnc_any (strOf s) es ks Ae Ak ce ck wo hd.out.own.ins hsm (hT.out.g hg)
              have q0 := hd.out.c0
              have q1 := hd.out.c1
              have q2' := hd.out.c2
              have hq := fun W A n c => Lib.run_eql_slice_nil (P := Tryd.prog) W 26 5 A n c 0 0 Tryd.underlying26
              cases hok : smOk ⟨strOf s, es, ks⟩ with
              | false =>
                have hno : dStream l = none := by rw [hgv, if_neg (by rw [hok]; simp)]
                rw [smL_no hok] at hck
                replace hok := Lib.hid hok
                clear hgv hg hmo hsm
                go_wp2_with fail
                refine hck.mono ?_
                clear hck
                rintro e w5 ⟨Ax, cx, rfl, _, hg5, hnil⟩
                obtain rfl := hnil rfl
                replace hd := Lib.hid (hd.out.g hg5)
                clear q0 q1 q2 q2' hg5 hnil
                replace hno := Lib.hid hno
                have hg := (G.refl w).gOf' hd.out.but (fun k e => by rw [e]; omega)
                have hZ := hd.out.res
                have q0 := hd.out.c0
                have q1 := hd.out.c1
                have q2' := hd.out.c2
                have f0 := hd.out.free 0
                have f1 := hd.out.free 1
                have f2 := hd.out.free 2
                have hE := blk3 hZ (.string ⟨#[]⟩) (.slice none 0 0) (.slice none 0 0)
                have hgs := hg.set3' (Nat.le_refl _) (.string ⟨#[]⟩) (.slice none 0 0) (.slice none 0 0)
                have e0 := (blk_cell hE 0).trans (show _ = some (.string ⟨#[]⟩) from rfl)
                have e1 := (blk_cell hE 1).trans (show _ = some (.slice none 0 0) from rfl)
                have e2 := (blk_cell hE 2).trans (show _ = some (.slice none 0 0) from rfl)
                replace e0 := Lib.hid e0
                replace e1 := Lib.hid e1
                replace e2 := Lib.hid e2
                replace hgs := Lib.hid hgs
                clear hE hg hZ
                go_wp2_with fail
                have e0 := e0.out
                have e1 := e1.out
                have e2 := e2.out
                refine bodyPost_ret (v := .tuple #[.agg #[.string ⟨#[]⟩, .slice none 0 0, .slice none 0 0], .int .i64 0, .int .i64 10]) (by simp [results, Tryd.results21, go_sem, e0, e1, e2]) rfl ?_
                exact ⟨⟨#[]⟩, none, none, 0, 0, [], [], 0, 10, rfl, by rw [hno.out]; rfl, ⟨by decide, ⟨by simp, fun _ h => by cases h⟩, by simp, fun _ h => by cases h⟩, ⟨OwnL.nil, OwnL.nil⟩, hgs.out⟩
              | true =>
                have hne : smL ⟨strOf s, es, ks⟩ ≠ [] := by
                  rw [smL_ok hok]
                  intro h
                  have := smBytes_pos ⟨strOf s, es, ks⟩
                  rw [h] at this
                  simp at this
                rw [if_pos hok] at hgv
                generalize smL ⟨strOf s, es, ks⟩ = sl at *
                replace hne := Lib.hid hne
                replace hok := Lib.hid hok
                replace hgv := Lib.hid hgv
                replace hsm := Lib.hid hsm
                clear hmo
                go_wp2_with fail
                refine hck.mono ?_
                clear hck
                rintro e w5 ⟨Ax, cx, rfl, hownx, hg5, _⟩
                obtain ⟨ad, rfl⟩ : ∃ a, Ax = some a := by
                  rcases Ax with _ | a
                  · exact absurd ((OwnL.self byteC_len hownx).of_none) hne.out
                  · exact ⟨a, rfl⟩
                replace hd := hd.out.g hg5
                clear q0 q1 q2 q2' hownx
                have hZ := hd.res
                have q0 := hd.c0
                have q1 := hd.c1
                have q3 := hd.c2
                have q2 := hd.rd.c2
                have f0 := hd.free 0
                have f1 := hd.free 1
                have f2 := hd.free 2
                have k1 := hd.rd.end
                unfold Option.isNone at q2
                have hE := blk3 hZ (.string (strOf s)) (.slice Ae es.length ce) (.slice Ak ks.length ck)
                have hgs := (hg.trans hg5).set3' (Nat.le_refl _) (.string (strOf s)) (.slice Ae es.length ce) (.slice Ak ks.length ck)
                have e0 := (blk_cell hE 0).trans (show _ = some (.string (strOf s)) from rfl)
                have e1 := (blk_cell hE 1).trans (show _ = some (.slice Ae es.length ce) from rfl)
                have e2 := (blk_cell hE 2).trans (show _ = some (.slice Ak ks.length ck) from rfl)
                have hps := hd.own.but (but_set3 w5 w.heap.size (.string (strOf s)) (.slice Ae es.length ce) (.slice Ak ks.length ck)) (fun k cs t e h1 => by
                  subst e
                  rw [hZ] at h1
                  cases h1
                  decide)
                have hne2 : w.heap.size + 1 ≠ w.heap.size := by omega
                replace e0 := Lib.hid e0
                replace e1 := Lib.hid e1
                replace e2 := Lib.hid e2
                replace hgs := Lib.hid hgs
                replace hps := Lib.hid hps
                clear hE hg hg5 hZ hd
                generalize hnn : l.length - lx.length = nn at *
                replace hnn := Lib.hid hnn
                go_wp2_with fail
                go_region
                go_wp2_with fail
                have e0 := e0.out
                have e1 := e1.out
                have e2 := e2.out
                refine bodyPost_ret (v := .tuple #[.agg #[.string (strOf s), .slice Ae es.length ce, .slice Ak ks.length ck], .int .i64 nn, .int .i64 0]) (by simp [results, Tryd.results21, go_sem, e0, e1, e2]) rfl ?_
                exact ⟨strOf s, Ae, Ak, ce, ck, es, ks, nn, 0, rfl, by rw [hgv.out, ← hnn.out]; rfl, hsm.out, hps.out.g (G.refl _).drew, hgs.out.drew⟩
            · obtain ⟨j, rfl⟩ : ∃ j, k = j + 1 := ⟨k - 1, by omega⟩
              have hwk := wrap_less (j := j) (by omega)
              have hc := text_any (w.heap.size + 1) A c8 l (some lx) wo hd.out.rd hl2 hcap
              obtain ⟨sk, st5, h5⟩ : ∃ v t, gv [] dText (some lx) = (v, t) := ⟨_, _, rfl⟩
              rw [h5] at hc
              have g5 := gv_gives h5
              have hj1 : 0 < ((j + 1 : Nat) : Int) := by omega
              replace g5 := Lib.hid g5
              clear h5 hk
              go_wp2_with fail
              refine hc.mono ?_
              clear hc
              rintro e wa ⟨rfl, hr5, hb5⟩
              replace hd := Lib.hid (hd.out.call hr5 hb5)
              have hi := KnSt.begin (s := strOf sk) hr5
              have hc := count_any' (w.heap.size + 1) A c8 l st5 _ hi.rd hl2 hcap 1099511627776 1099511627776 rfl (by omega)
              obtain ⟨v, st6, h6⟩ : ∃ v t, gv 0 (dCount 1099511627776) st5 = (v, t) := ⟨_, _, rfl⟩
              rw [h6] at hc
              have g6 := gv_gives h6
              replace g6 := Lib.hid g6
              replace hi := Lib.hid hi
              clear h6 hr5 hb5 q2
              go_wp2_with fail
              refine hc.mono ?_
              clear hc
              rintro e w6 ⟨rfl, hr6, hb6⟩
              replace hi := hi.out.call hr6 hb6
              have x1 := (hi.cell 1).trans (show _ = some (.int .i64 0) from rfl)
              have x1f := hi.free 1
              replace hi := (hi.put 1 (.int .i64 v)).as (show _ = #[.string (strOf sk), .int .i64 v, .int .i64 0, .int .i64 0, .int .i64 0] from rfl)
              have hc := rstamp_any (w.heap.size + 1) A c8 l st6 _ hi.rd hl2 hcap
              obtain ⟨⟨ta, tb, tc⟩, st7, h7⟩ : ∃ v t, gv zSt dStamp st6 = (v, t) := ⟨_, _, rfl⟩
              rw [h7] at hc
              unfold stVal stV at hc
              dsimp only at hc
              have g7 := gv_gives h7
              replace g7 := Lib.hid g7
              replace hi := Lib.hid hi
              clear h7 hr6 hb6
              go_wp2_with fail
              refine hc.mono ?_
              clear hc
              rintro e w7 ⟨rfl, hr7, hb7⟩
              replace hi := hi.out.call hr7 hb7
              have y2 := (hi.cell 2).trans (show _ = some (.int .i64 0) from rfl)
              have y3 := (hi.cell 3).trans (show _ = some (.int .i64 0) from rfl)
              have y4 := (hi.cell 4).trans (show _ = some (.int .i64 0) from rfl)
              have y2f := hi.free 2
              have y3f := hi.free 3
              have y4f := hi.free 4
              replace hi := (((hi.put 2 (.int .i64 ta)).put 3 (.int .i64 tb)).put 4 (.int .i64 tc)).as (show _ = #[.string (strOf sk), .int .i64 v, .int .i64 ta, .int .i64 tb, .int .i64 tc] from rfl)
              have z0 := (hi.cell 0).trans (show _ = some (.string (strOf sk)) from rfl)
              have z1 := (hi.cell 1).trans (show _ = some (.int .i64 v) from rfl)
              have z2 := (hi.cell 2).trans (show _ = some (.int .i64 ta) from rfl)
              have z3 := (hi.cell 3).trans (show _ = some (.int .i64 tb) from rfl)
              have z4 := (hi.cell 4).trans (show _ = some (.int .i64 tc) from rfl)
              have hgk := known_gives g5.out g6.out g7.out
              have hlf2 := Left.step hlf.out hl eats_known hgk
              have hmo2 := hmo.out.step hgk
              have hb := hi.but
              have hws := hd.out.but.size
              replace hd := hd.out.call hi.rd hb
              have c2 := hd.c2
              obtain ⟨y, hy⟩ : ∃ y : Kn, y = ⟨strOf sk, v, ⟨ta, tb, tc⟩⟩ := ⟨_, rfl⟩
              obtain ⟨ks', hks⟩ : ∃ ks', ks ++ [y] = ks' := ⟨_, rfl⟩
              rw [← hy, hks] at hmo2
              have hkl : ks'.length = ks.length + 1 := by rw [← hks]; simp
              have hkb := hlf.out.1
              rw [← hkl] at hlf2
              replace hd := Lib.hid hd
              replace hmo2 := Lib.hid hmo2
              replace hlf2 := Lib.hid hlf2
              replace hkl := Lib.hid hkl
              replace hks := Lib.hid hks
              replace hy := Lib.hid hy
              clear hgk hmo hlf hb hr7 hb7 hi
              go_upto_region 13 with fail
              generalize ((w7.setCell ⟨wa.heap.size, 2, none⟩ (.int .i64 ta)).setCell ⟨wa.heap.size, 3, none⟩ (.int .i64 tb)).setCell ⟨wa.heap.size, 4, none⟩ (.int .i64 tc) = wz at *
              clear y2 y3 y4 y2f y3f y4f x1 x1f
              go_wp2_with (at_builtin; refine wpList_append_but kns_elem _ rfl (.tmp 58) (.tmp 60) rfl w.heap.size _ ks rfl (hd.out.own.kns.g (G.new _ _)) (wz.heap.size + 1) (some ⟨wz.heap.size, 0, none⟩) 1 [y] rfl (by intro h; cases h) (Sl.of_blk Kn.cells_len _ (blk_new _ _ _) (by rw [hy.out]; rfl) (by omega)) (by simp; omega) (by simp; omega) (by have := hd.out.but.size; simp; omega) ?_; intro v8 w8 hown8 hk8 hb8; rw [hks.out] at hown8; obtain ⟨A8, c8', e8, _, _, _⟩ := OwnL.sl Kn.cells_len hown8; subst e8; obtain ⟨zf, ⟨u, zc⟩, hd8⟩ := (hd.out.g (G.new _ _)).pushK hown8 hk8 hb8; replace hd8 := Lib.hid hd8)
              go_roundw
              case rel => exact ⟨j, A8, c8', ks', st7, by first | go_num | rfl, by omega, hlf2, hd8, hmo2⟩
              case measure => (simp [intOf] <;> omega)
    | some lx =>
      unfold Option.isNone at q2
      by_cases hk : k = 0
      · subst hk
        have g3 := hmo.out.end (.inl rfl)
        replace g3 := Lib.hid g3
        clear hmo hlf
        have hc := num_any (w.heap.size + 1) A c8 l (some lx) wo hd.out.rd hl2 hcap
        obtain ⟨M, st4, h4⟩ : ∃ v t, gv 0 dNum ((some lx)) = (v, t) := ⟨_, _, rfl⟩
        rw [h4] at hc
        have g4 := gv_gives h4
        have hM : M < 2 ^ 64 := gv_bound (P := (· < 2 ^ 64)) h4 (by decide) (fun _ _ _ => dNum_bd)
        replace g4 := Lib.hid g4
        clear h4
        go_wp2_with fail
        refine hc.mono ?_
        clear hc
        rintro e wb ⟨rfl, hr4, hb4⟩
        replace hd := hd.out.call hr4 hb4
        have hlf : Left l 0 st4 := Left.start (fun l' e => by subst e; exact RdS.len hd.rd)
        replace hd := Lib.hid hd
        replace hlf := Lib.hid hlf
        clear hr4 hb4 q2
        go_wp2_with fail
        go_loopw [7] (fun i wr => ∃ (k : Nat) (Ak : Option Addr) (ck : Nat) (ks : List Kn) (st : Option (List UInt8)), i = .int .u64 k ∧ k < 2 ^ 64 ∧ Hid (Left l ks.length st) ∧ Hid (SmSt 77 (w.heap.size + 1) w.heap.size w.heap.size A c8 l w (strOf s) Ae ce es Ak ck ks st wr) ∧ Hid (More dKnown M k st4 st ks)) (fun i _ => (intOf i).toNat)
        case atStart => exact ⟨M, none, 0, [], st4, rfl, hM, hlf, hd, More.start _ _ _⟩
        case round =>
          obtain ⟨wo, rfl⟩ : ∃ wo : World, wo = wr := ⟨_, rfl⟩
          clear hd hlf
          obtain ⟨k, Ak, ck, ks, st, rfl, hk64, hlf, hd, hmo⟩ := hrel
          have q2 := hd.out.rd.c2
          cases st with
          | none =>
            unfold Option.isNone at q2
            have hno := (stream_gives hl g1.out g2.out g3.out g4.out (hmo.out.end (.inr rfl))).1 rfl
            clear hmo hlf
            by_cases hk : k = 0
            · subst hk
              replace hno := Lib.hid hno
              have hg := (G.refl w).gOf' hd.out.but (fun k e => by rw [e]; omega)
              have hZ := hd.out.res
              have q0 := hd.out.c0
              have q1 := hd.out.c1
              have q2' := hd.out.c2
              have f0 := hd.out.free 0
              have f1 := hd.out.free 1
              have f2 := hd.out.free 2
              have hE := blk3 hZ (.string ⟨#[]⟩) (.slice none 0 0) (.slice none 0 0)
              have hgs := hg.set3' (Nat.le_refl _) (.string ⟨#[]⟩) (.slice none 0 0) (.slice none 0 0)
              have e0 := (blk_cell hE 0).trans (show _ = some (.string ⟨#[]⟩) from rfl)
              have e1 := (blk_cell hE 1).trans (show _ = some (.slice none 0 0) from rfl)
              have e2 := (blk_cell hE 2).trans (show _ = some (.slice none 0 0) from rfl)
              replace e0 := Lib.hid e0
              replace e1 := Lib.hid e1
              replace e2 := Lib.hid e2
              replace hgs := Lib.hid hgs
              clear hE hg hZ
              go_wp2_with fail
              have e0 := e0.out
              have e1 := e1.out
              have e2 := e2.out
              refine bodyPost_ret (v := .tuple #[.agg #[.string ⟨#[]⟩, .slice none 0 0, .slice none 0 0], .int .i64 0, .int .i64 10]) (by simp [results, Tryd.results21, go_sem, e0, e1, e2]) rfl ?_
              exact ⟨⟨#[]⟩, none, none, 0, 0, [], [], 0, 10, rfl, by rw [hno.out]; rfl, ⟨by decide, ⟨by simp, fun _ h => by cases h⟩, by simp, fun _ h => by cases h⟩, ⟨OwnL.nil, OwnL.nil⟩, hgs.out⟩
            · have hk' : 0 < (k : Int) := by omega
              replace hno := Lib.hid hno
              have hg := (G.refl w).gOf' hd.out.but (fun k e => by rw [e]; omega)
              have hZ := hd.out.res
              have q0 := hd.out.c0
              have q1 := hd.out.c1
              have q2' := hd.out.c2
              have f0 := hd.out.free 0
              have f1 := hd.out.free 1
              have f2 := hd.out.free 2
              have hE := blk3 hZ (.string ⟨#[]⟩) (.slice none 0 0) (.slice none 0 0)
              have hgs := hg.set3' (Nat.le_refl _) (.string ⟨#[]⟩) (.slice none 0 0) (.slice none 0 0)
              have e0 := (blk_cell hE 0).trans (show _ = some (.string ⟨#[]⟩) from rfl)
              have e1 := (blk_cell hE 1).trans (show _ = some (.slice none 0 0) from rfl)
              have e2 := (blk_cell hE 2).trans (show _ = some (.slice none 0 0) from rfl)
              replace e0 := Lib.hid e0
              replace e1 := Lib.hid e1
              replace e2 := Lib.hid e2
              replace hgs := Lib.hid hgs
              clear hE hg hZ
              go_wp2_with fail
              have e0 := e0.out
              have e1 := e1.out
              have e2 := e2.out
              refine bodyPost_ret (v := .tuple #[.agg #[.string ⟨#[]⟩, .slice none 0 0, .slice none 0 0], .int .i64 0, .int .i64 10]) (by simp [results, Tryd.results21, go_sem, e0, e1, e2]) rfl ?_
              exact ⟨⟨#[]⟩, none, none, 0, 0, [], [], 0, 10, rfl, by rw [hno.out]; rfl, ⟨by decide, ⟨by simp, fun _ h => by cases h⟩, by simp, fun _ h => by cases h⟩, ⟨OwnL.nil, OwnL.nil⟩, hgs.out⟩
          | some lx =>
            unfold Option.isNone at q2
            by_cases hk : k = 0
            · subst hk
              clear hlf
              obtain ⟨hsm, hgv⟩ := (stream_gives hl g1.out g2.out g3.out g4.out (hmo.out.end (.inl rfl))).2 lx rfl
              have hg := (G.refl w).gOf' hd.out.but (fun k e => by rw [e]; omega)
              have hck := smEnc_any (strOf s) es ks Ae Ak ce ck wo hd.out.own.ins hsm (hT.out.g hg)
              have q0 := hd.out.c0
              have q1 := hd.out.c1
              have q2' := hd.out.c2
              have hq := fun W A n c => Lib.run_eql_slice_nil (P := Tryd.prog) W 26 5 A n c 0 0 Tryd.underlying26
              cases hok : smOk ⟨strOf s, es, ks⟩ with
              | false =>
                have hno : dStream l = none := by rw [hgv, if_neg (by rw [hok]; simp)]
                rw [smL_no hok] at hck
                replace hok := Lib.hid hok
                clear hgv hg hmo hsm
                go_wp2_with fail
                refine hck.mono ?_
                clear hck
                rintro e w5 ⟨Ax, cx, rfl, _, hg5, hnil⟩
                obtain rfl := hnil rfl
                replace hd := Lib.hid (hd.out.g hg5)
                clear q0 q1 q2 q2' hg5 hnil
                replace hno := Lib.hid hno
                have hg := (G.refl w).gOf' hd.out.but (fun k e => by rw [e]; omega)
                have hZ := hd.out.res
                have q0 := hd.out.c0
                have q1 := hd.out.c1
                have q2' := hd.out.c2
                have f0 := hd.out.free 0
                have f1 := hd.out.free 1
                have f2 := hd.out.free 2
                have hE := blk3 hZ (.string ⟨#[]⟩) (.slice none 0 0) (.slice none 0 0)
                have hgs := hg.set3' (Nat.le_refl _) (.string ⟨#[]⟩) (.slice none 0 0) (.slice none 0 0)
                have e0 := (blk_cell hE 0).trans (show _ = some (.string ⟨#[]⟩) from rfl)
                have e1 := (blk_cell hE 1).trans (show _ = some (.slice none 0 0) from rfl)
                have e2 := (blk_cell hE 2).trans (show _ = some (.slice none 0 0) from rfl)
                replace e0 := Lib.hid e0
                replace e1 := Lib.hid e1
                replace e2 := Lib.hid e2
                replace hgs := Lib.hid hgs
                clear hE hg hZ
                go_wp2_with fail
                have e0 := e0.out
                have e1 := e1.out
                have e2 := e2.out
                refine bodyPost_ret (v := .tuple #[.agg #[.string ⟨#[]⟩, .slice none 0 0, .slice none 0 0], .int .i64 0, .int .i64 10]) (by simp [results, Tryd.results21, go_sem, e0, e1, e2]) rfl ?_
                exact ⟨⟨#[]⟩, none, none, 0, 0, [], [], 0, 10, rfl, by rw [hno.out]; rfl, ⟨by decide, ⟨by simp, fun _ h => by cases h⟩, by simp, fun _ h => by cases h⟩, ⟨OwnL.nil, OwnL.nil⟩, hgs.out⟩
              | true =>
                have hne : smL ⟨strOf s, es, ks⟩ ≠ [] := by
                  rw [smL_ok hok]
                  intro h
                  have := smBytes_pos ⟨strOf s, es, ks⟩
                  rw [h] at this
                  simp at this
                rw [if_pos hok] at hgv
                generalize smL ⟨strOf s, es, ks⟩ = sl at *
                replace hne := Lib.hid hne
                replace hok := Lib.hid hok
                replace hgv := Lib.hid hgv
                replace hsm := Lib.hid hsm
                clear hmo
                go_wp2_with fail
                refine hck.mono ?_
                clear hck
                rintro e w5 ⟨Ax, cx, rfl, hownx, hg5, _⟩
                obtain ⟨ad, rfl⟩ : ∃ a, Ax = some a := by
                  rcases Ax with _ | a
                  · exact absurd ((OwnL.self byteC_len hownx).of_none) hne.out
                  · exact ⟨a, rfl⟩
                replace hd := hd.out.g hg5
                clear q0 q1 q2 q2' hownx
                have hZ := hd.res
                have q0 := hd.c0
                have q1 := hd.c1
                have q3 := hd.c2
                have q2 := hd.rd.c2
                have f0 := hd.free 0
                have f1 := hd.free 1
                have f2 := hd.free 2
                have k1 := hd.rd.end
                unfold Option.isNone at q2
                have hE := blk3 hZ (.string (strOf s)) (.slice Ae es.length ce) (.slice Ak ks.length ck)
                have hgs := (hg.trans hg5).set3' (Nat.le_refl _) (.string (strOf s)) (.slice Ae es.length ce) (.slice Ak ks.length ck)
                have e0 := (blk_cell hE 0).trans (show _ = some (.string (strOf s)) from rfl)
                have e1 := (blk_cell hE 1).trans (show _ = some (.slice Ae es.length ce) from rfl)
                have e2 := (blk_cell hE 2).trans (show _ = some (.slice Ak ks.length ck) from rfl)
                have hps := hd.own.but (but_set3 w5 w.heap.size (.string (strOf s)) (.slice Ae es.length ce) (.slice Ak ks.length ck)) (fun k cs t e h1 => by
                  subst e
                  rw [hZ] at h1
                  cases h1
                  decide)
                have hne2 : w.heap.size + 1 ≠ w.heap.size := by omega
                replace e0 := Lib.hid e0
                replace e1 := Lib.hid e1
                replace e2 := Lib.hid e2
                replace hgs := Lib.hid hgs
                replace hps := Lib.hid hps
                clear hE hg hg5 hZ hd
                generalize hnn : l.length - lx.length = nn at *
                replace hnn := Lib.hid hnn
                go_wp2_with fail
                go_region
                go_wp2_with fail
                have e0 := e0.out
                have e1 := e1.out
                have e2 := e2.out
                refine bodyPost_ret (v := .tuple #[.agg #[.string (strOf s), .slice Ae es.length ce, .slice Ak ks.length ck], .int .i64 nn, .int .i64 0]) (by simp [results, Tryd.results21, go_sem, e0, e1, e2]) rfl ?_
                exact ⟨strOf s, Ae, Ak, ce, ck, es, ks, nn, 0, rfl, by rw [hgv.out, ← hnn.out]; rfl, hsm.out, hps.out.g (G.refl _).drew, hgs.out.drew⟩
            · obtain ⟨j, rfl⟩ : ∃ j, k = j + 1 := ⟨k - 1, by omega⟩
              have hwk := wrap_less (j := j) (by omega)
              have hc := text_any (w.heap.size + 1) A c8 l (some lx) wo hd.out.rd hl2 hcap
              obtain ⟨sk, st5, h5⟩ : ∃ v t, gv [] dText (some lx) = (v, t) := ⟨_, _, rfl⟩
              rw [h5] at hc
              have g5 := gv_gives h5
              have hj1 : 0 < ((j + 1 : Nat) : Int) := by omega
              replace g5 := Lib.hid g5
              clear h5 hk
              go_wp2_with fail
              refine hc.mono ?_
              clear hc
              rintro e wa ⟨rfl, hr5, hb5⟩
              replace hd := Lib.hid (hd.out.call hr5 hb5)
              have hi := KnSt.begin (s := strOf sk) hr5
              have hc := count_any' (w.heap.size + 1) A c8 l st5 _ hi.rd hl2 hcap 1099511627776 1099511627776 rfl (by omega)
              obtain ⟨v, st6, h6⟩ : ∃ v t, gv 0 (dCount 1099511627776) st5 = (v, t) := ⟨_, _, rfl⟩
              rw [h6] at hc
              have g6 := gv_gives h6
              replace g6 := Lib.hid g6
              replace hi := Lib.hid hi
              clear h6 hr5 hb5 q2
              go_wp2_with fail
              refine hc.mono ?_
              clear hc
              rintro e w6 ⟨rfl, hr6, hb6⟩
              replace hi := hi.out.call hr6 hb6
              have x1 := (hi.cell 1).trans (show _ = some (.int .i64 0) from rfl)
              have x1f := hi.free 1
              replace hi := (hi.put 1 (.int .i64 v)).as (show _ = #[.string (strOf sk), .int .i64 v, .int .i64 0, .int .i64 0, .int .i64 0] from rfl)
              have hc := rstamp_any (w.heap.size + 1) A c8 l st6 _ hi.rd hl2 hcap
              obtain ⟨⟨ta, tb, tc⟩, st7, h7⟩ : ∃ v t, gv zSt dStamp st6 = (v, t) := ⟨_, _, rfl⟩
              rw [h7] at hc
              unfold stVal stV at hc
              dsimp only at hc
              have g7 := gv_gives h7
              replace g7 := Lib.hid g7
              replace hi := Lib.hid hi
              clear h7 hr6 hb6
              go_wp2_with fail
              refine hc.mono ?_
              clear hc
              rintro e w7 ⟨rfl, hr7, hb7⟩
              replace hi := hi.out.call hr7 hb7
              have y2 := (hi.cell 2).trans (show _ = some (.int .i64 0) from rfl)
              have y3 := (hi.cell 3).trans (show _ = some (.int .i64 0) from rfl)
              have y4 := (hi.cell 4).trans (show _ = some (.int .i64 0) from rfl)
              have y2f := hi.free 2
              have y3f := hi.free 3
              have y4f := hi.free 4
              replace hi := (((hi.put 2 (.int .i64 ta)).put 3 (.int .i64 tb)).put 4 (.int .i64 tc)).as (show _ = #[.string (strOf sk), .int .i64 v, .int .i64 ta, .int .i64 tb, .int .i64 tc] from rfl)
              have z0 := (hi.cell 0).trans (show _ = some (.string (strOf sk)) from rfl)
              have z1 := (hi.cell 1).trans (show _ = some (.int .i64 v) from rfl)
              have z2 := (hi.cell 2).trans (show _ = some (.int .i64 ta) from rfl)
              have z3 := (hi.cell 3).trans (show _ = some (.int .i64 tb) from rfl)
              have z4 := (hi.cell 4).trans (show _ = some (.int .i64 tc) from rfl)
              have hgk := known_gives g5.out g6.out g7.out
              have hlf2 := Left.step hlf.out hl eats_known hgk
              have hmo2 := hmo.out.step hgk
              have hb := hi.but
              have hws := hd.out.but.size
              replace hd := hd.out.call hi.rd hb
              have c2 := hd.c2
              obtain ⟨y, hy⟩ : ∃ y : Kn, y = ⟨strOf sk, v, ⟨ta, tb, tc⟩⟩ := ⟨_, rfl⟩
              obtain ⟨ks', hks⟩ : ∃ ks', ks ++ [y] = ks' := ⟨_, rfl⟩
              rw [← hy, hks] at hmo2
              have hkl : ks'.length = ks.length + 1 := by rw [← hks]; simp
              have hkb := hlf.out.1
              rw [← hkl] at hlf2
              replace hd := Lib.hid hd
              replace hmo2 := Lib.hid hmo2
              replace hlf2 := Lib.hid hlf2
              replace hkl := Lib.hid hkl
              replace hks := Lib.hid hks
              replace hy := Lib.hid hy
              clear hgk hmo hlf hb hr7 hb7 hi
              go_upto_region 13 with fail
              generalize ((w7.setCell ⟨wa.heap.size, 2, none⟩ (.int .i64 ta)).setCell ⟨wa.heap.size, 3, none⟩ (.int .i64 tb)).setCell ⟨wa.heap.size, 4, none⟩ (.int .i64 tc) = wz at *
              clear y2 y3 y4 y2f y3f y4f x1 x1f
              go_wp2_with (at_builtin; refine wpList_append_but kns_elem _ rfl (.tmp 58) (.tmp 60) rfl w.heap.size _ ks rfl (hd.out.own.kns.g (G.new _ _)) (wz.heap.size + 1) (some ⟨wz.heap.size, 0, none⟩) 1 [y] rfl (by intro h; cases h) (Sl.of_blk Kn.cells_len _ (blk_new _ _ _) (by rw [hy.out]; rfl) (by omega)) (by simp; omega) (by simp; omega) (by have := hd.out.but.size; simp; omega) ?_; intro v8 w8 hown8 hk8 hb8; rw [hks.out] at hown8; obtain ⟨A8, c8', e8, _, _, _⟩ := OwnL.sl Kn.cells_len hown8; subst e8; obtain ⟨zf, ⟨u, zc⟩, hd8⟩ := (hd.out.g (G.new _ _)).pushK hown8 hk8 hb8; replace hd8 := Lib.hid hd8)
              go_roundw
              case rel => exact ⟨j, A8, c8', ks', st7, by first | go_num | rfl, by omega, hlf2, hd8, hmo2⟩
              case measure => (simp [intOf] <;> omega)
      · obtain ⟨j, rfl⟩ : ∃ j, k = j + 1 := ⟨k - 1, by omega⟩
        have hwk := wrap_less (j := j) (by omega)
        have hid := hd.out.g (G.refl wo).drew
        have x1 := hid.c1
        have x1w := hd.out.c1
        have hg := (G.refl w).gOf' hid.but (fun k e => by rw [e]; omega)
        have hc := revent_any (w.heap.size + 1) A c8 l (some lx) _ hid.rd hl2 hcap (hT.out.g hg)
        have hj1 : 0 < ((j + 1 : Nat) : Int) := by omega
        have hkb := hlf.out.1
        replace hid := Lib.hid hid
        clear hk hd hg
        go_upto_region 6 with fail
        go_region_law (first
          | (refine step_append_but evs_elem _ (by kernel_rfl) (.tmp 29) (.tmp 32) rfl w.heap.size _ es rfl (hi5.out.own.evs.g (G.new _ _)) (w5.heap.size + 1) (some ⟨w5.heap.size, 0, none⟩) 1 [x] rfl (by intro h; cases h) (Sl.of_blk Ev.cells_len _ (blk_new _ _ _) (by rw [hx.out]; rfl) (by omega)) (by simp; omega) (by simp; omega) (by have := hi5.out.but.size; simp; omega) ?_; intro v6 w6 hown6 hk6 hb6; rw [hes.out] at hown6; obtain ⟨A6, c6, e6, _, _, _⟩ := OwnL.sl Ev.cells_len hown6; subst e6; obtain ⟨zf, ⟨u, zc⟩, hd6⟩ := (hi5.out.g (G.new _ _)).pushE hown6 hk6 hb6; replace hd6 := Lib.hid hd6)
          | (go_simp; go_at_call 35; refine Calls.mono hc ?_; rintro e w5 ⟨⟨xs, xv, xd, ⟨xa, xb, xc⟩, xi⟩, st6, he5, hr5, hb5, g5⟩; simp only [evVal, Ev.cells] at he5; subst he5; have hi5 := hid.out.call hr5 hb5; have x5 := hi5.c1; have x5b := (hi5.g (G.new w5 (.cells #[.string xs, .int .i64 xv, .string xd, .int .i64 xa, .int .i64 xb, .int .i64 xc, .int .i64 xi] 41))).c1; obtain ⟨x, hx⟩ : ∃ x : Ev, x = ⟨xs, xv, xd, ⟨xa, xb, xc⟩, xi⟩ := ⟨_, rfl⟩; rw [← hx] at g5; obtain ⟨es', hes⟩ : ∃ es', es ++ [x] = es' := ⟨_, rfl⟩; have hmo2 := hmo.out.step g5; rw [hes] at hmo2; have hlf2 := Left.step hlf.out hl eats_event g5; have hel : es'.length = es.length + 1 := (by rw [← hes]; simp); rw [← hel] at hlf2; replace hi5 := Lib.hid hi5; replace hx := Lib.hid hx; replace hes := Lib.hid hes; replace hmo2 := Lib.hid hmo2; replace hlf2 := Lib.hid hlf2; clear g5 hel hr5 hb5))
        all_goals
          go_wp2_with fail
          go_roundw
          case rel => exact ⟨j, A6, c6, es', st6, by first | go_num | rfl, by omega, hlf2, hd6, hmo2⟩
          case measure => (simp [intOf] <;> omega)
end Go.Proofs.YtilfgafdkiaaaaaDoor
/- penstockref7.SameBatch: yes to two batches that hold the same. Condition: lengths of at most 2^30. -/
namespace Go.Proofs.YtilfgafdkiaaaaaDoor
open Go.RowKit

set_option maxRecDepth 100000 in
set_option maxHeartbeats 8000000 in
theorem sameBatch_yes (key : ByteArray) (ms ms' : List PutM) (A A' : Option Addr) (c c' : Nat) (w : World) (hin : PutsIn w w.heap.size A ms) (hin' : PutsIn w w.heap.size A' ms') (he : ms.map PutM.p = ms'.map PutM.p) (hsm : PutsSmall ms) :
    Calls Tryd.prog 31 #[.agg #[.string key, .slice A ms.length c], .agg #[.string key, .slice A' ms'.length c']] w fun e w' => e = .returned (.bool true) ∧ G w w' := by
  have hl : ms'.length = ms.length := by have := congrArg List.length he; simpa using this.symm
  rw [hl]
  obtain ⟨hs1, hs2⟩ := hsm
  replace hin := Lib.hid hin
  replace hin' := Lib.hid hin'
  replace hs2 := Lib.hid hs2
  replace he := Lib.hid he
  replace hl := Lib.hid hl
  go_enter Tryd.func31, Tryd.ntmps31
  go_upto_region 1 with fail
  generalize hW0 : (w.alloc (.cells #[.string key, .slice A ms.length c] 25)).alloc (.cells #[.string key, .slice A' ms.length c'] 25) = W0
  have hz : w.heap.size + 1 < W0.heap.size := by rw [← hW0]; simp
  have hG0 : G w W0 := by rw [← hW0]; exact (G.new _ _).alloc _
  have r0 : W0.cell? ⟨w.heap.size, 0, none⟩ = some (.string key) := by rw [← hW0]; simp
  have r1 : W0.cell? ⟨w.heap.size, 1, none⟩ = some (.slice A ms.length c) := by rw [← hW0]; simp
  have r2 : W0.cell? ⟨w.heap.size + 1, 0, none⟩ = some (.string key) := by rw [← hW0]; simp
  have r3 : W0.cell? ⟨w.heap.size + 1, 1, none⟩ = some (.slice A' ms.length c') := by rw [← hW0]; simp
  clear hW0
  have q0 : ∀ w', G W0 w' → w'.cell? ⟨w.heap.size, 0, none⟩ = some (.string key) := fun w' h => (h.cell (by omega)).trans r0
  have q1 : ∀ w', G W0 w' → w'.cell? ⟨w.heap.size, 1, none⟩ = some (.slice A ms.length c) := fun w' h => (h.cell (by omega)).trans r1
  have q2 : ∀ w', G W0 w' → w'.cell? ⟨w.heap.size + 1, 0, none⟩ = some (.string key) := fun w' h => (h.cell (by omega)).trans r2
  have q3 : ∀ w', G W0 w' → w'.cell? ⟨w.heap.size + 1, 1, none⟩ = some (.slice A' ms.length c') := fun w' h => (h.cell (by omega)).trans r3
  clear r0 r1 r2 r3
  have g0 := q0 W0 (G.refl _)
  have g1 := q1 W0 (G.refl _)
  have g2 := q2 W0 (G.refl _)
  have g3 := q3 W0 (G.refl _)
  go_wp2_with fail
  clear g0 g1 g2 g3
  go_loopw [5] (fun i wr => ∃ k : Nat, i = .int .i64 k ∧ k ≤ ms.length ∧ G W0 wr) (fun i _ => ms.length - (intOf i).toNat)
  case atStart => exact ⟨0, rfl, Nat.zero_le _, G.refl _⟩
  case round =>
    obtain ⟨wo, rfl⟩ : ∃ wo : World, wo = wr := ⟨_, rfl⟩
    obtain ⟨k, rfl, hkl, hgr⟩ := hrel
    have hg := hG0.trans hgr
    have g1 := q1 wo hgr
    have g3 := q3 wo hgr
    by_cases hlt : k < ms.length
    · obtain ⟨p, hp⟩ : ∃ p, ms[k]? = some p := ⟨_, List.getElem?_eq_getElem hlt⟩
      obtain ⟨p', hp'⟩ : ∃ p', ms'[k]? = some p' := ⟨_, List.getElem?_eq_getElem (by rw [hl.out]; exact hlt)⟩
      have hpp : p.p = p'.p := by
        have h1 := puts_take hp
        have h2 := puts_take hp'
        rw [he.out, h2] at h1
        exact (Option.some.inj h1).symm
      obtain ⟨z1, zE, z2, z3⟩ := hs2.out p (List.mem_of_getElem? hp)
      have hsl := (hin.out.g (Nat.le_refl _) hg).1.get hp
      have hsl' := (hin'.out.g (Nat.le_refl _) hg).1.get hp'
      have hdat := hin.out.2 p (List.mem_of_getElem? hp)
      have hdat' := hin'.out.2 p' (List.mem_of_getElem? hp')
      obtain ⟨pst, pex, pA, pc, pd⟩ := p
      obtain ⟨pst', pex', pA', pc', pd'⟩ := p'
      unfold PutM.p at hpp
      simp only [PutP.mk.injEq] at hpp
      obtain ⟨rfl, rfl, rfl⟩ := hpp
      simp only at z1 zE z2 z3 hdat hdat'
      obtain ⟨b, o, rfl, hb, hc⟩ := hsl
      obtain ⟨b', o', rfl, hb', hc'⟩ := hsl'
      have c0 := hc 0 _ rfl
      have c1 := hc 1 _ rfl
      have c2 := hc 2 _ rfl
      simp only [Nat.add_zero] at c0
      have d0 := hc' 0 _ rfl
      have d1 := hc' 1 _ rfl
      have d2 := hc' 2 _ rfl
      simp only [Nat.add_zero] at d0
      have n1 : (0 : Int) ≤ (k : Int) := by omega
      have n2 : (k : Int) < (ms.length : Int) := by omega
      have hbx := blk_new wo #[.string pst, .int .i64 pex, .slice pA pd.length pc] 29
      have hgn := G.new wo (.cells #[.string pst, .int .i64 pex, .slice pA pd.length pc] 29)
      have b0 := (hgn.cell (b := b') (o := o' + k * 3) (by have := hg.size; omega)).trans d0
      have b1 := (hgn.cell (b := b') (o := o' + k * 3 + 1) (by have := hg.size; omega)).trans d1
      have b2 := (hgn.cell (b := b') (o := o' + k * 3 + 2) (by have := hg.size; omega)).trans d2
      have b3 := q3 _ (hgr.trans hgn)
      replace hbx := Lib.hid hbx
      replace hgn := Lib.hid hgn
      replace hdat := Lib.hid hdat
      replace hdat' := Lib.hid hdat'
      clear hp hp' hc hc'
      go_upto_region 8 with fail
      generalize hwx : (wo.alloc (.cells #[.string pst, .int .i64 pex, .slice pA pd.length pc] 29)).alloc (.cells #[.string pst, .int .i64 pex, .slice pA' pd.length pc'] 29) = wx
      have hgx : G wo wx := by rw [← hwx]; exact hgn.out.trans (G.new _ _)
      have hX : wx.heap[wo.heap.size]? = some (.cells #[.string pst, .int .i64 pex, .slice pA pd.length pc] 29 (0, 0)) := by rw [← hwx]; exact (G.new _ _).blk hbx.out
      have hY : wx.heap[wo.heap.size + 1]? = some (.cells #[.string pst, .int .i64 pex, .slice pA' pd.length pc'] 29 (0, 0)) := by rw [← hwx]; exact blk_new' _ _ _ _ (by simp)
      clear hwx b0 b1 b2 b3 c0 c1 c2 d0 d1 d2 g1 g3
      have x0 := (blk_cell hX 0).trans (show _ = some (.string pst) from rfl)
      have x1 := (blk_cell hX 1).trans (show _ = some (.int .i64 pex) from rfl)
      have x2 := (blk_cell hX 2).trans (show _ = some (.slice pA pd.length pc) from rfl)
      have y0 := (blk_cell hY 0).trans (show _ = some (.string pst) from rfl)
      have y1 := (blk_cell hY 1).trans (show _ = some (.int .i64 pex) from rfl)
      have y2 := (blk_cell hY 2).trans (show _ = some (.slice pA' pd.length pc') from rfl)
      replace hX := Lib.hid hX
      replace hY := Lib.hid hY
      go_wp2_with fail
      clear x0 x1 x2 y0 y1 y2
      go_loopw [8] (fun i wr => ∃ j : Nat, i = .int .i64 j ∧ j ≤ pd.length ∧ G wx wr) (fun i _ => pd.length - (intOf i).toNat)
      case atStart => exact ⟨0, rfl, Nat.zero_le _, G.refl _⟩
      case round =>
        obtain ⟨j, rfl, hjl, hgw⟩ := hrel
        have hgt := (hg.trans hgx).trans hgw
        have x2 := (blk_cell (hgw.blk hX.out) 2).trans (show _ = some (.slice pA pd.length pc) from rfl)
        have y2 := (blk_cell (hgw.blk hY.out) 2).trans (show _ = some (.slice pA' pd.length pc') from rfl)
        by_cases hjt : j < pd.length
        · obtain ⟨t, ht⟩ : ∃ t, pd[j]? = some t := ⟨_, List.getElem?_eq_getElem hjt⟩
          obtain ⟨b3, o3, rfl, _, t1⟩ := (hdat.out.g (Nat.le_refl _) hgt).str ht
          obtain ⟨b4, o4, rfl, _, t2⟩ := (hdat'.out.g (Nat.le_refl _) hgt).str ht
          have m1 : (0 : Int) ≤ (j : Int) := by omega
          have m2 : (j : Int) < (pd.length : Int) := by omega
          clear ht
          go_upto_region 13 with fail
          go_quiet (fail)
          go_wp2_with fail
          go_roundw
          case rel => exact ⟨j + 1, by go_num, by omega, by first | exact hgw | exact hgw.drew | exact hgw.drewN _⟩
          case measure => (simp [intOf] <;> omega)
        · go_wp2_with fail
          go_roundw
          case rel => exact ⟨k + 1, by go_num, by omega, (hgr.trans hgx).trans hgw⟩
          case measure => (simp [intOf] <;> omega)
    · go_wp2_with fail
      go_ret
      exact ⟨rfl, hg⟩
end Go.Proofs.YtilfgafdkiaaaaaDoor
/- penstockref7.SameStreams: yes to two lists of streams that hold the same. Condition: lengths fit an int. -/
namespace Go.Proofs.YtilfgafdkiaaaaaDoor
open Go.RowKit

set_option maxRecDepth 100000 in
set_option maxHeartbeats 8000000 in
theorem sameSms_yes (ss ts : List SmM) (A A' : Option Addr) (c c' : Nat) (w : World) (hin : SmsIn w w.heap.size A ss) (hin' : SmsIn w w.heap.size A' ts) (he : ss.map SmM.sm = ts.map SmM.sm) (hl : ss.length ≤ 9223372036854775807) (hll : ∀ s ∈ ss, s.es.length ≤ 9223372036854775807 ∧ s.ks.length ≤ 9223372036854775807) :
    Calls Tryd.prog 25 #[.slice A ss.length c, .slice A' ts.length c'] w fun e w' => e = .returned (.bool true) ∧ G w w' := by
  have hlen : ts.length = ss.length := by have := congrArg List.length he; simpa using this.symm
  rw [hlen]
  replace hin := Lib.hid hin
  replace hin' := Lib.hid hin'
  replace he := Lib.hid he
  replace hlen := Lib.hid hlen
  replace hll := Lib.hid hll
  go_enter Tryd.func25, Tryd.ntmps25
  go_wp2_with fail
  go_loopw [5] (fun i wr => ∃ k : Nat, i = .int .i64 k ∧ k ≤ ss.length ∧ G w wr) (fun i _ => ss.length - (intOf i).toNat)
  case atStart => exact ⟨0, rfl, Nat.zero_le _, G.refl _⟩
  case round =>
    obtain ⟨wo, rfl⟩ : ∃ wo : World, wo = wr := ⟨_, rfl⟩
    obtain ⟨k, rfl, hkl, hg⟩ := hrel
    by_cases hlt : k < ss.length
    · obtain ⟨p, hp⟩ : ∃ p, ss[k]? = some p := ⟨_, List.getElem?_eq_getElem hlt⟩
      obtain ⟨p', hp'⟩ : ∃ p', ts[k]? = some p' := ⟨_, List.getElem?_eq_getElem (by rw [hlen.out]; exact hlt)⟩
      have hpp : p.sm = p'.sm := by
        have h1 : (ss.map SmM.sm)[k]? = some p.sm := by rw [List.getElem?_map, hp]; rfl
        have h2 : (ts.map SmM.sm)[k]? = some p'.sm := by rw [List.getElem?_map, hp']; rfl
        rw [he.out, h2] at h1
        exact (Option.some.inj h1).symm
      obtain ⟨z1, z2⟩ := hll.out p (List.mem_of_getElem? hp)
      have hsl := (hin.out.g (Nat.le_refl _) hg).1.get hp
      have hsl' := (hin'.out.g (Nat.le_refl _) hg).1.get hp'
      have hdat := hin.out.2 p (List.mem_of_getElem? hp)
      have hdat' := hin'.out.2 p' (List.mem_of_getElem? hp')
      obtain ⟨pn, pA, pc, pe, pA2, pc2, pk⟩ := p
      obtain ⟨pn', pA', pc', pe', pA2', pc2', pk'⟩ := p'
      unfold SmM.sm at hpp
      simp only [Sm.mk.injEq] at hpp
      obtain ⟨rfl, rfl, rfl⟩ := hpp
      simp only at z1 z2 hdat hdat'
      obtain ⟨b, o, rfl, hb, hc⟩ := hsl
      obtain ⟨b', o', rfl, hb', hc'⟩ := hsl'
      have hgb : b < wo.heap.size := by have := hg.size; omega
      have hgb' : b' < wo.heap.size := by have := hg.size; omega
      have c0 := hc 0 _ rfl
      have c1 := hc 1 _ rfl
      have c2 := hc 2 _ rfl
      simp only [Nat.add_zero] at c0
      have d0 := hc' 0 _ rfl
      have d1 := hc' 1 _ rfl
      have d2 := hc' 2 _ rfl
      simp only [Nat.add_zero] at d0
      have n1 : (0 : Int) ≤ (k : Int) := by omega
      have n2 : (k : Int) < (ss.length : Int) := by omega
      have t1 : (pn.toList == pn.toList) = true := by simp
      have t2 : (pn.toList != pn.toList) = false := by simp
      have hse : ∀ w', G wo w' → Calls Tryd.prog 57 #[.slice pA pe.length pc, .slice pA' pe.length pc'] w' fun e w'' => e = .returned (.bool true) ∧ G w' w'' := fun w' h => by
        have := sameEvents_any pe pe pA pA' pc pc' w.heap.size w' (hg.trans h).size z1 z1 (hdat.1.g (Nat.le_refl _) (hg.trans h)) (hdat'.1.g (Nat.le_refl _) (hg.trans h))
        unfold evsB at this
        simpa using this
      have x0 : ∀ w', G wo w' → w'.cell? ⟨b, o + k * 3, none⟩ = some (.string pn) := fun w' h => (h.cell hgb).trans c0
      have y0 : ∀ w', G wo w' → w'.cell? ⟨b', o' + k * 3, none⟩ = some (.string pn) := fun w' h => (h.cell hgb').trans d0
      have x1 : ∀ w', G wo w' → w'.cell? ⟨b, o + k * 3 + 1, none⟩ = some (.slice pA pe.length pc) := fun w' h => (h.cell hgb).trans c1
      have x2 : ∀ w', G wo w' → w'.cell? ⟨b, o + k * 3 + 2, none⟩ = some (.slice pA2 pk.length pc2) := fun w' h => (h.cell hgb).trans c2
      have y1 : ∀ w', G wo w' → w'.cell? ⟨b', o' + k * 3 + 1, none⟩ = some (.slice pA' pe.length pc') := fun w' h => (h.cell hgb').trans d1
      have y2 : ∀ w', G wo w' → w'.cell? ⟨b', o' + k * 3 + 2, none⟩ = some (.slice pA2' pk.length pc2') := fun w' h => (h.cell hgb').trans d2
      replace hdat := Lib.hid hdat
      replace hdat' := Lib.hid hdat'
      clear hp hp' hc hc'
      go_upto_region 6 with fail
      refine wp_region_held_drew (S := fun w' => G wo w') (by kernel_rfl) ((G.refl _).drew) (fun hHeld => ?_)
      refine lin_take 0 (some 18) (v := ?_) (by kernel_rfl) (by kernel_rfl) (by kernel_rfl) (by kernel_rfl) (fun _ _ _ h => h) (by kernel_rfl) ?_ (by assumption) ?_; rotate_left; focus (intro w hSw; (try dsimp only at hSw); simp only [List.getElem?_toArray, List.getElem?_cons_zero, Option.map_some, Option.some.injEq]; go_simp; (first | done | with_reducible rfl))
      try simp only [Act.put, List.setIfInBounds_toArray, List.set_cons_zero, List.set_cons_succ]
      refine lin_take 1 (some 19) (v := ?_) (by kernel_rfl) (by kernel_rfl) (by kernel_rfl) (by kernel_rfl) (fun _ _ _ h => h) (by kernel_rfl) ?_ (by assumption) ?_; rotate_left; focus (intro w hSw; (try dsimp only at hSw); simp only [List.getElem?_toArray, List.getElem?_cons_zero, List.getElem?_cons_succ, Option.map_some, Option.some.injEq]; go_simp; (first | done | with_reducible rfl))
      try simp only [Act.put, List.setIfInBounds_toArray, List.set_cons_zero, List.set_cons_succ]
      refine lin_take 2 (some 20) (v := ?_) (by kernel_rfl) (by kernel_rfl) (by kernel_rfl) (by kernel_rfl) (fun _ _ _ h => h) (by kernel_rfl) ?_ (by assumption) ?_; rotate_left; focus (intro w hSw; (try dsimp only at hSw); simp only [List.getElem?_toArray, List.getElem?_cons_zero, List.getElem?_cons_succ, Option.map_some, Option.some.injEq]; go_simp; (first | done | with_reducible rfl))
      try simp only [Act.put, List.setIfInBounds_toArray, List.set_cons_zero, List.set_cons_succ]
      refine lin_take 3 (some 21) (v := ?_) (by kernel_rfl) (by kernel_rfl) (by kernel_rfl) (by kernel_rfl) (fun _ _ _ h => h) (by kernel_rfl) ?_ (by assumption) ?_; rotate_left; focus (intro w hSw; (try dsimp only at hSw); simp only [List.getElem?_toArray, List.getElem?_cons_zero, List.getElem?_cons_succ, Option.map_some, Option.some.injEq]; go_simp; (first | done | with_reducible rfl))
      try simp only [Act.put, List.setIfInBounds_toArray, List.set_cons_zero, List.set_cons_succ]
      refine lin_take 4 (some 22) (v := ?_) (by kernel_rfl) (by kernel_rfl) (by kernel_rfl) (by kernel_rfl) (fun _ _ _ h => h) (by kernel_rfl) ?_ (by assumption) ?_; rotate_left; focus (intro w hSw; (try dsimp only at hSw); simp only [List.getElem?_toArray, List.getElem?_cons_zero, List.getElem?_cons_succ, Option.map_some, Option.some.injEq]; go_simp; (first | done | with_reducible rfl))
      try simp only [Act.put, List.setIfInBounds_toArray, List.set_cons_zero, List.set_cons_succ]
      refine lin_take 5 (some 23) (v := ?_) (by kernel_rfl) (by kernel_rfl) (by kernel_rfl) (by kernel_rfl) (fun _ _ _ h => h) (by kernel_rfl) ?_ (by assumption) ?_; rotate_left; focus (intro w hSw; (try dsimp only at hSw); simp only [List.getElem?_toArray, List.getElem?_cons_zero, List.getElem?_cons_succ, Option.map_some, Option.some.injEq]; go_simp; (first | done | with_reducible rfl))
      try simp only [Act.put, List.setIfInBounds_toArray, List.set_cons_zero, List.set_cons_succ]
      refine lin_take 6 (some 24) (v := ?_) (by kernel_rfl) (by kernel_rfl) (by kernel_rfl) (by kernel_rfl) (fun _ _ _ h => h) (by kernel_rfl) ?_ (by assumption) ?_; rotate_left; focus (intro w hSw; (try dsimp only at hSw); simp only [List.getElem?_toArray, List.getElem?_cons_zero, List.getElem?_cons_succ, Option.map_some, Option.some.injEq]; go_simp; (first | done | with_reducible rfl))
      try simp only [Act.put, List.setIfInBounds_toArray, List.set_cons_zero, List.set_cons_succ]
      refine lin_take 7 (some 25) (v := ?_) (by kernel_rfl) (by kernel_rfl) (by kernel_rfl) (by kernel_rfl) (fun _ _ _ h => h) (by kernel_rfl) ?_ (by assumption) ?_; rotate_left; focus (intro w hSw; (try dsimp only at hSw); simp only [List.getElem?_toArray, List.getElem?_cons_zero, List.getElem?_cons_succ, Option.map_some, Option.some.injEq]; go_simp; (first | done | with_reducible rfl))
      try simp only [Act.put, List.setIfInBounds_toArray, List.set_cons_zero, List.set_cons_succ]
      refine lin_take 8 (some 26) (v := ?_) (by kernel_rfl) (by kernel_rfl) (by kernel_rfl) (by kernel_rfl) (fun _ _ _ h => h) (by kernel_rfl) ?_ (by assumption) ?_; rotate_left; focus (intro w hSw; (try dsimp only at hSw); simp only [List.getElem?_toArray, List.getElem?_cons_zero, List.getElem?_cons_succ, Option.map_some, Option.some.injEq]; go_simp; (first | done | with_reducible rfl))
      try simp only [Act.put, List.setIfInBounds_toArray, List.set_cons_zero, List.set_cons_succ]
      refine lin_take 9 (some 27) (v := ?_) (by kernel_rfl) (by kernel_rfl) (by kernel_rfl) (by kernel_rfl) (fun _ _ _ h => h) (by kernel_rfl) ?_ (by assumption) ?_; rotate_left; focus (intro w hSw; (try dsimp only at hSw); simp only [List.getElem?_toArray, List.getElem?_cons_zero, List.getElem?_cons_succ, Option.map_some, Option.some.injEq]; go_simp; (first | done | with_reducible rfl))
      try simp only [Act.put, List.setIfInBounds_toArray, List.set_cons_zero, List.set_cons_succ]
      refine lin_take 10 (some 28) (v := ?_) (by kernel_rfl) (by kernel_rfl) (by kernel_rfl) (by kernel_rfl) (fun _ _ _ h => h) (by kernel_rfl) ?_ (by assumption) ?_; rotate_left; focus (intro w hSw; (try dsimp only at hSw); simp only [List.getElem?_toArray, List.getElem?_cons_zero, List.getElem?_cons_succ, Option.map_some, Option.some.injEq]; go_simp; (first | done | with_reducible rfl))
      try simp only [Act.put, List.setIfInBounds_toArray, List.set_cons_zero, List.set_cons_succ]
      refine lin_take 11 (some 29) (v := ?_) (by kernel_rfl) (by kernel_rfl) (by kernel_rfl) (by kernel_rfl) (fun _ _ _ h => h) (by kernel_rfl) ?_ (by assumption) ?_; rotate_left; focus (intro w hSw; (try dsimp only at hSw); simp only [List.getElem?_toArray, List.getElem?_cons_zero, List.getElem?_cons_succ, Option.map_some, Option.some.injEq]; go_simp; (first | done | with_reducible rfl))
      try simp only [Act.put, List.setIfInBounds_toArray, List.set_cons_zero, List.set_cons_succ]
      refine lin_take 12 (some 30) (v := ?_) (by kernel_rfl) (by kernel_rfl) (by kernel_rfl) (by kernel_rfl) (fun _ _ _ h => h) (by kernel_rfl) ?_ (by assumption) ?_; rotate_left; focus (intro w hSw; (try dsimp only at hSw); simp only [List.getElem?_toArray, List.getElem?_cons_zero, List.getElem?_cons_succ, Option.map_some, Option.some.injEq]; go_simp; (first | done | with_reducible rfl))
      try simp only [Act.put, List.setIfInBounds_toArray, List.set_cons_zero, List.set_cons_succ]
      refine lin_take 13 (some 31) (v := ?_) (by kernel_rfl) (by kernel_rfl) (by kernel_rfl) (by kernel_rfl) (fun _ _ _ h => h) (by kernel_rfl) ?_ (by assumption) ?_; rotate_left; focus (intro w hSw; (try dsimp only at hSw); simp only [List.getElem?_toArray, List.getElem?_cons_zero, List.getElem?_cons_succ, Option.map_some, Option.some.injEq]; go_simp; (first | done | with_reducible rfl))
      try simp only [Act.put, List.setIfInBounds_toArray, List.set_cons_zero, List.set_cons_succ]
      refine lin_take 14 (some 32) (v := ?_) (by kernel_rfl) (by kernel_rfl) (by kernel_rfl) (by kernel_rfl) (fun _ _ _ h => h) (by kernel_rfl) ?_ (by assumption) ?_; rotate_left; focus (intro w hSw; (try dsimp only at hSw); simp only [List.getElem?_toArray, List.getElem?_cons_zero, List.getElem?_cons_succ, Option.map_some, Option.some.injEq]; go_simp; (first | done | with_reducible rfl))
      try simp only [Act.put, List.setIfInBounds_toArray, List.set_cons_zero, List.set_cons_succ]
      refine lin_take 15 (some 33) (v := ?_) (by kernel_rfl) (by kernel_rfl) (by kernel_rfl) (by kernel_rfl) (fun _ _ _ h => h) (by kernel_rfl) ?_ (by assumption) ?_; rotate_left; focus (intro w hSw; (try dsimp only at hSw); simp only [List.getElem?_toArray, List.getElem?_cons_zero, List.getElem?_cons_succ, Option.map_some, Option.some.injEq]; go_simp; (first | done | with_reducible rfl))
      try simp only [Act.put, List.setIfInBounds_toArray, List.set_cons_zero, List.set_cons_succ]
      refine lin_take 16 (some 34) (v := ?_) (by kernel_rfl) (by kernel_rfl) (by kernel_rfl) (by kernel_rfl) (fun _ _ _ h => h) (by kernel_rfl) ?_ (by assumption) ?_; rotate_left; focus (intro w hSw; (try dsimp only at hSw); simp only [List.getElem?_toArray, List.getElem?_cons_zero, List.getElem?_cons_succ, Option.map_some, Option.some.injEq]; go_simp; (first | done | with_reducible rfl))
      try simp only [Act.put, List.setIfInBounds_toArray, List.set_cons_zero, List.set_cons_succ]
      refine lin_take 17 (some 35) (v := ?_) (by kernel_rfl) (by kernel_rfl) (by kernel_rfl) (by kernel_rfl) (fun _ _ _ h => h) (by kernel_rfl) ?_ (by assumption) ?_; rotate_left; focus (intro w hSw; (try dsimp only at hSw); simp only [List.getElem?_toArray, List.getElem?_cons_zero, List.getElem?_cons_succ, Option.map_some, Option.some.injEq]; go_simp; (first | done | with_reducible rfl))
      try simp only [Act.put, List.setIfInBounds_toArray, List.set_cons_zero, List.set_cons_succ]
      refine lin_take 18 (some 36) (v := ?_) (by kernel_rfl) (by kernel_rfl) (by kernel_rfl) (by kernel_rfl) (fun _ _ _ h => h) (by kernel_rfl) ?_ (by assumption) ?_; rotate_left; focus (intro w hSw; (try dsimp only at hSw); simp only [List.getElem?_toArray, List.getElem?_cons_zero, List.getElem?_cons_succ, Option.map_some, Option.some.injEq]; go_simp; (first | done | with_reducible rfl))
      try simp only [Act.put, List.setIfInBounds_toArray, List.set_cons_zero, List.set_cons_succ]
      refine lin_take 19 (some 37) (v := ?_) (by kernel_rfl) (by kernel_rfl) (by kernel_rfl) (by kernel_rfl) (fun _ _ _ h => h) (by kernel_rfl) ?_ (by assumption) ?_; rotate_left; focus (intro w hSw; (try dsimp only at hSw); simp only [List.getElem?_toArray, List.getElem?_cons_zero, List.getElem?_cons_succ, Option.map_some, Option.some.injEq]; go_simp; (first | done | with_reducible rfl))
      try simp only [Act.put, List.setIfInBounds_toArray, List.set_cons_zero, List.set_cons_succ]
      refine lin_take 20 (some 38) (v := ?_) (by kernel_rfl) (by kernel_rfl) (by kernel_rfl) (by kernel_rfl) (fun _ _ _ h => h) (by kernel_rfl) ?_ (by assumption) ?_; rotate_left; focus (intro w hSw; (try dsimp only at hSw); simp only [List.getElem?_toArray, List.getElem?_cons_zero, List.getElem?_cons_succ, Option.map_some, Option.some.injEq]; go_simp; (first | done | with_reducible rfl))
      try simp only [Act.put, List.setIfInBounds_toArray, List.set_cons_zero, List.set_cons_succ]
      refine lin_take 21 (some 39) (v := ?_) (by kernel_rfl) (by kernel_rfl) (by kernel_rfl) (by kernel_rfl) (fun _ _ _ h => h) (by kernel_rfl) ?_ (by assumption) ?_; rotate_left; focus (intro w hSw; (try dsimp only at hSw); simp only [List.getElem?_toArray, List.getElem?_cons_zero, List.getElem?_cons_succ, Option.map_some, Option.some.injEq]; go_simp; (first | done | with_reducible rfl))
      try simp only [Act.put, List.setIfInBounds_toArray, List.set_cons_zero, List.set_cons_succ]
      refine wpAnyH_ready (rs := [22]) (by kernel_rfl) (by simp) ?_
      refine AllReadyH.cons (i := 22) rfl (fun K hK => ?_) AllReadyH.nil
      go_simp
      refine Calls.mono (hse _ (by assumption)) ?_
      rintro e u1 ⟨rfl, hgm⟩
      go_wp2_with fail
      refine hK.out _ _ (hgm.keep (by assumption)) (fun hHeld => ?_)
      clear hK K
      try simp only [Act.put, List.setIfInBounds_toArray, List.set_cons_zero, List.set_cons_succ]
      refine lin_take 23 (some 41) (v := ?_) (by kernel_rfl) (by kernel_rfl) (by kernel_rfl) (by kernel_rfl) (fun _ _ _ h => h) (by kernel_rfl) ?_ (by assumption) ?_; rotate_left; focus (intro w hSw; (try dsimp only at hSw); simp only [List.getElem?_toArray, List.getElem?_cons_zero, List.getElem?_cons_succ, Option.map_some, Option.some.injEq]; go_simp; (first | done | with_reducible rfl))
      try simp only [Act.put, List.setIfInBounds_toArray, List.set_cons_zero, List.set_cons_succ]
      refine lin_take 24 (some 42) (v := ?_) (by kernel_rfl) (by kernel_rfl) (by kernel_rfl) (by kernel_rfl) (fun _ _ _ h => h) (by kernel_rfl) ?_ (by assumption) ?_; rotate_left; focus (intro w hSw; (try dsimp only at hSw); simp only [List.getElem?_toArray, List.getElem?_cons_zero, List.getElem?_cons_succ, Option.map_some, Option.some.injEq]; go_simp; (first | done | with_reducible rfl))
      try simp only [Act.put, List.setIfInBounds_toArray, List.set_cons_zero, List.set_cons_succ]
      refine lin_take 25 (some 43) (v := ?_) (by kernel_rfl) (by kernel_rfl) (by kernel_rfl) (by kernel_rfl) (fun _ _ _ h => h) (by kernel_rfl) ?_ (by assumption) ?_; rotate_left; focus (intro w hSw; (try dsimp only at hSw); simp only [List.getElem?_toArray, List.getElem?_cons_zero, List.getElem?_cons_succ, Option.map_some, Option.some.injEq]; go_simp; (first | done | with_reducible rfl))
      try simp only [Act.put, List.setIfInBounds_toArray, List.set_cons_zero, List.set_cons_succ]
      refine lin_take 26 (some 44) (v := ?_) (by kernel_rfl) (by kernel_rfl) (by kernel_rfl) (by kernel_rfl) (fun _ _ _ h => h) (by kernel_rfl) ?_ (by assumption) ?_; rotate_left; focus (intro w hSw; (try dsimp only at hSw); simp only [List.getElem?_toArray, List.getElem?_cons_zero, List.getElem?_cons_succ, Option.map_some, Option.some.injEq]; go_simp; (first | done | with_reducible rfl))
      try simp only [Act.put, List.setIfInBounds_toArray, List.set_cons_zero, List.set_cons_succ]
      refine lin_take 27 (some 45) (v := ?_) (by kernel_rfl) (by kernel_rfl) (by kernel_rfl) (by kernel_rfl) (fun _ _ _ h => h) (by kernel_rfl) ?_ (by assumption) ?_; rotate_left; focus (intro w hSw; (try dsimp only at hSw); simp only [List.getElem?_toArray, List.getElem?_cons_zero, List.getElem?_cons_succ, Option.map_some, Option.some.injEq]; go_simp; (first | done | with_reducible rfl))
      try simp only [Act.put, List.setIfInBounds_toArray, List.set_cons_zero, List.set_cons_succ]
      refine lin_take 28 (some 46) (v := ?_) (by kernel_rfl) (by kernel_rfl) (by kernel_rfl) (by kernel_rfl) (fun _ _ _ h => h) (by kernel_rfl) ?_ (by assumption) ?_; rotate_left; focus (intro w hSw; (try dsimp only at hSw); simp only [List.getElem?_toArray, List.getElem?_cons_zero, List.getElem?_cons_succ, Option.map_some, Option.some.injEq]; go_simp; (first | done | with_reducible rfl))
      try simp only [Act.put, List.setIfInBounds_toArray, List.set_cons_zero, List.set_cons_succ]
      refine lin_take 29 (some 47) (v := ?_) (by kernel_rfl) (by kernel_rfl) (by kernel_rfl) (by kernel_rfl) (fun _ _ _ h => h) (by kernel_rfl) ?_ (by assumption) ?_; rotate_left; focus (intro w hSw; (try dsimp only at hSw); simp only [List.getElem?_toArray, List.getElem?_cons_zero, List.getElem?_cons_succ, Option.map_some, Option.some.injEq]; go_simp; (first | done | with_reducible rfl))
      try simp only [Act.put, List.setIfInBounds_toArray, List.set_cons_zero, List.set_cons_succ]
      refine lin_take 30 (some 48) (v := ?_) (by kernel_rfl) (by kernel_rfl) (by kernel_rfl) (by kernel_rfl) (fun _ _ _ h => h) (by kernel_rfl) ?_ (by assumption) ?_; rotate_left; focus (intro w hSw; (try dsimp only at hSw); simp only [List.getElem?_toArray, List.getElem?_cons_zero, List.getElem?_cons_succ, Option.map_some, Option.some.injEq]; go_simp; (first | done | with_reducible rfl))
      try simp only [Act.put, List.setIfInBounds_toArray, List.set_cons_zero, List.set_cons_succ]
      refine lin_take 31 (some 49) (v := ?_) (by kernel_rfl) (by kernel_rfl) (by kernel_rfl) (by kernel_rfl) (fun _ _ _ h => h) (by kernel_rfl) ?_ (by assumption) ?_; rotate_left; focus (intro w hSw; (try dsimp only at hSw); simp only [List.getElem?_toArray, List.getElem?_cons_zero, List.getElem?_cons_succ, Option.map_some, Option.some.injEq]; go_simp; (first | done | with_reducible rfl))
      try simp only [Act.put, List.setIfInBounds_toArray, List.set_cons_zero, List.set_cons_succ]
      refine lin_take 32 (some 50) (v := ?_) (by kernel_rfl) (by kernel_rfl) (by kernel_rfl) (by kernel_rfl) (fun _ _ _ h => h) (by kernel_rfl) ?_ (by assumption) ?_; rotate_left; focus (intro w hSw; (try dsimp only at hSw); simp only [List.getElem?_toArray, List.getElem?_cons_zero, List.getElem?_cons_succ, Option.map_some, Option.some.injEq]; go_simp; (first | done | with_reducible rfl))
      try simp only [Act.put, List.setIfInBounds_toArray, List.set_cons_zero, List.set_cons_succ]
      refine lin_take 33 (some 51) (v := ?_) (by kernel_rfl) (by kernel_rfl) (by kernel_rfl) (by kernel_rfl) (fun _ _ _ h => h) (by kernel_rfl) ?_ (by assumption) ?_; rotate_left; focus (intro w hSw; (try dsimp only at hSw); simp only [List.getElem?_toArray, List.getElem?_cons_zero, List.getElem?_cons_succ, Option.map_some, Option.some.injEq]; go_simp; (first | done | with_reducible rfl))
      try simp only [Act.put, List.setIfInBounds_toArray, List.set_cons_zero, List.set_cons_succ]
      refine lin_take 34 (some 52) (v := ?_) (by kernel_rfl) (by kernel_rfl) (by kernel_rfl) (by kernel_rfl) (fun _ _ _ h => h) (by kernel_rfl) ?_ (by assumption) ?_; rotate_left; focus (intro w hSw; (try dsimp only at hSw); simp only [List.getElem?_toArray, List.getElem?_cons_zero, List.getElem?_cons_succ, Option.map_some, Option.some.injEq]; go_simp; (first | done | with_reducible rfl))
      try simp only [Act.put, List.setIfInBounds_toArray, List.set_cons_zero, List.set_cons_succ]
      refine lin_take 35 (some 53) (v := ?_) (by kernel_rfl) (by kernel_rfl) (by kernel_rfl) (by kernel_rfl) (fun _ _ _ h => h) (by kernel_rfl) ?_ (by assumption) ?_; rotate_left; focus (intro w hSw; (try dsimp only at hSw); simp only [List.getElem?_toArray, List.getElem?_cons_zero, List.getElem?_cons_succ, Option.map_some, Option.some.injEq]; go_simp; (first | done | with_reducible rfl))
      try simp only [Act.put, List.setIfInBounds_toArray, List.set_cons_zero, List.set_cons_succ]
      refine lin_take 36 (some 54) (v := ?_) (by kernel_rfl) (by kernel_rfl) (by kernel_rfl) (by kernel_rfl) (fun _ _ _ h => h) (by kernel_rfl) ?_ (by assumption) ?_; rotate_left; focus (intro w hSw; (try dsimp only at hSw); simp only [List.getElem?_toArray, List.getElem?_cons_zero, List.getElem?_cons_succ, Option.map_some, Option.some.injEq]; go_simp; (first | done | with_reducible rfl))
      try simp only [Act.put, List.setIfInBounds_toArray, List.set_cons_zero, List.set_cons_succ]
      refine lin_take 37 (some 55) (v := ?_) (by kernel_rfl) (by kernel_rfl) (by kernel_rfl) (by kernel_rfl) (fun _ _ _ h => h) (by kernel_rfl) ?_ (by assumption) ?_; rotate_left; focus (intro w hSw; (try dsimp only at hSw); simp only [List.getElem?_toArray, List.getElem?_cons_zero, List.getElem?_cons_succ, Option.map_some, Option.some.injEq]; go_simp; (first | done | with_reducible rfl))
      try simp only [Act.put, List.setIfInBounds_toArray, List.set_cons_zero, List.set_cons_succ]
      refine lin_take 38 (some 56) (v := ?_) (by kernel_rfl) (by kernel_rfl) (by kernel_rfl) (by kernel_rfl) (fun _ _ _ h => h) (by kernel_rfl) ?_ (by assumption) ?_; rotate_left; focus (intro w hSw; (try dsimp only at hSw); simp only [List.getElem?_toArray, List.getElem?_cons_zero, List.getElem?_cons_succ, Option.map_some, Option.some.injEq]; go_simp; (first | done | with_reducible rfl))
      try simp only [Act.put, List.setIfInBounds_toArray, List.set_cons_zero, List.set_cons_succ]
      refine lin_take 39 (some 57) (v := ?_) (by kernel_rfl) (by kernel_rfl) (by kernel_rfl) (by kernel_rfl) (fun _ _ _ h => h) (by kernel_rfl) ?_ (by assumption) ?_; rotate_left; focus (intro w hSw; (try dsimp only at hSw); simp only [List.getElem?_toArray, List.getElem?_cons_zero, List.getElem?_cons_succ, Option.map_some, Option.some.injEq]; go_simp; (first | done | with_reducible rfl))
      try simp only [Act.put, List.setIfInBounds_toArray, List.set_cons_zero, List.set_cons_succ]
      refine wpAnyH_done (by kernel_rfl) ?_ _
      have hge : G wo u1 := by assumption
      go_wp2_with fail
      go_loopw [6] (fun i wr => ∃ j : Nat, i = .int .i64 j ∧ j ≤ pk.length ∧ G wo wr) (fun i _ => pk.length - (intOf i).toNat)
      case atStart => exact ⟨0, rfl, Nat.zero_le _, by assumption⟩
      case round =>
        obtain ⟨j, rfl, hjl, hgw⟩ := hrel
        have hgt := hg.trans hgw
        have x2w := x2 _ hgw
        have y2w := y2 _ hgw
        by_cases hjt : j < pk.length
        · obtain ⟨⟨yk, yv, ⟨ya, yb, yc⟩⟩, ht⟩ : ∃ t, pk[j]? = some t := ⟨_, List.getElem?_eq_getElem hjt⟩
          obtain ⟨b3, o3, rfl, _, f⟩ := (hdat.out.2.g (Nat.le_refl _) hgt).get ht
          obtain ⟨b4, o4, rfl, _, f'⟩ := (hdat'.out.2.g (Nat.le_refl _) hgt).get ht
          have f0 := f 0 _ rfl
          have f1 := f 1 _ rfl
          have f2 := f 2 _ rfl
          have f3 := f 3 _ rfl
          have f4 := f 4 _ rfl
          simp only [Nat.add_zero] at f0
          have e0 := f' 0 _ rfl
          have e1 := f' 1 _ rfl
          have e2 := f' 2 _ rfl
          have e3 := f' 3 _ rfl
          have e4 := f' 4 _ rfl
          simp only [Nat.add_zero] at e0
          have m1 : (0 : Int) ≤ (j : Int) := by omega
          have m2 : (j : Int) < (pk.length : Int) := by omega
          clear ht f f' hse
          go_upto_region 11 with fail
          go_quiet (fail)
          go_wp2_with fail
          go_roundw
          case rel => exact ⟨j + 1, by go_num, by omega, by first | exact hgw | exact hgw.drew | exact hgw.drewN _⟩
          case measure => (simp [intOf] <;> omega)
        · go_wp2_with fail
          go_roundw
          case rel => exact ⟨k + 1, by go_num, by omega, hg.trans hgw⟩
          case measure => (simp [intOf] <;> omega)
    · go_wp2_with fail
      go_ret
      exact ⟨rfl, hg⟩
end Go.Proofs.YtilfgafdkiaaaaaDoor
/- penstockalike.Round: what it answers. Condition: the second number is above 0. -/
namespace Go.Proofs.YtilfgafdkiaaaaaDoor
open Go.RowKit

set_option maxHeartbeats 400000 in
theorem round_any (k n : Int) (w : World) (hn : 1 ≤ n) (hn2 : n ≤ 9223372036854775807) (_hk : -9223372036854775808 ≤ k) (_hk2 : k ≤ 9223372036854775807) :
    Calls Tryd.prog 32 #[.int .i64 k, .int .i64 n] w fun e w' => e = .returned (.int .i64 (k % n)) ∧ w = w' := by
  have h1 := Int.tmod_lt_of_pos k (show 0 < n by omega)
  have h2 : -n < k.tmod n := by
    have := Int.lt_tmod_of_pos k (show 0 < n by omega)
    omega
  have h3 : k % n = if k.tmod n < 0 then k.tmod n + n else k.tmod n := by
    rw [Int.tmod_eq_emod]
    have h4 := Int.emod_nonneg k (show n ≠ 0 by omega)
    have h5 := Int.emod_lt_of_pos k (show 0 < n by omega)
    split <;> (try split) <;> omega
  replace h3 := Lib.hid h3
  generalize hm : k.tmod n = m at *
  go_enter Tryd.func32, Tryd.ntmps32
  go_wp2
  all_goals (go_ret; exact ⟨ret_int (by rw [h3.out]; split <;> omega), rfl⟩)
end Go.Proofs.YtilfgafdkiaaaaaDoor
/- event.Make: what it answers. Conditions: lengths and numbers so small that nothing wraps. -/
namespace Go.Proofs.YtilfgafdkiaaaaaDoor
open Go.RowKit

/-- The events of one Put. -/
def makePut (p : PutM) (first step : Int) (st : St) (ix : Int) : List Ev := p.data.mapIdx fun k d => ⟨p.stream, first + step * k, d, st, ix + k⟩
/-- The events of the Puts from number i on. -/
def makeFrom (firsts : List Int) (st : St) : Nat → Int → List PutM → List Ev
  | _, _, [] => []
  | i, ix, p :: l => makePut p (firsts.getD i 0) (if i < firsts.length then 1 else 0) st ix ++ makeFrom firsts st (i + 1) (ix + p.data.length) l
/-- How many events. -/
def evCount (ps : List PutM) : Nat := (ps.map fun p => p.data.length).sum

/-- A call answers a list of events of its own, and turns nothing that was there. -/
def RetEvs (w : World) (es : List Ev) (e : Ending) (w' : World) : Prop := ∃ v, e = .returned v ∧ Own w' w.heap.size v es ∧ G w w'

theorem makePut_length (p : PutM) (first step : Int) (st : St) (ix : Int) : (makePut p first step st ix).length = p.data.length := by simp [makePut]
theorem makePut_succ (p : PutM) (first step : Int) (st : St) (ix : Int) (j : Nat) (d : ByteArray) (h : p.data[j]? = some d) :
    (makePut p first step st ix).take (j + 1) = (makePut p first step st ix).take j ++ [⟨p.stream, first + step * j, d, st, ix + j⟩] := by
  obtain ⟨hk, rfl⟩ := List.getElem?_eq_some_iff.1 h
  rw [List.take_succ_eq_append_getElem (by simpa [makePut] using hk)]
  simp [makePut]
theorem makeFrom_drop (firsts : List Int) (st : St) (ix : Int) (ps : List PutM) (k : Nat) (p : PutM) (h : ps[k]? = some p) :
    makeFrom firsts st k ix (ps.drop k) = makePut p (firsts.getD k 0) (if k < firsts.length then 1 else 0) st ix ++ makeFrom firsts st (k + 1) (ix + p.data.length) (ps.drop (k + 1)) := by
  obtain ⟨hk, rfl⟩ := List.getElem?_eq_some_iff.1 h
  rw [List.drop_eq_getElem_cons hk]
  rfl
theorem evCount_drop (ps : List PutM) (k : Nat) (p : PutM) (h : ps[k]? = some p) : evCount (ps.drop k) = p.data.length + evCount (ps.drop (k + 1)) := by
  obtain ⟨hk, rfl⟩ := List.getElem?_eq_some_iff.1 h
  unfold evCount
  rw [List.drop_eq_getElem_cons hk, List.map_cons, List.sum_cons]

set_option maxHeartbeats 1000000 in
theorem make_any (key : ByteArray) (ps : List PutM) (A A2 : Option Addr) (c c2 B : Nat) (firsts : List Int) (st : St) (ix : Int) (w : World) (hB : B ≤ w.heap.size)
    (hl : ps.length ≤ 9223372036854775807) (_hl2 : firsts.length ≤ 9223372036854775807) (hn : evCount ps ≤ 1099511627776)
    (hf : ∀ f ∈ firsts, -1099511627776 ≤ f ∧ f ≤ 1099511627776) (hix : -1099511627776 ≤ ix ∧ ix ≤ 1099511627776)
    (hs : PutsIn w B A ps) (hs2 : Sl intC 1 w B A2 firsts) :
    Calls Tryd.prog 13 #[.agg #[.string key, .slice A ps.length c], .slice A2 firsts.length c2, .agg #[.int .i64 st.wall, .int .i64 st.logic, .int .i64 st.node], .int .i64 ix] w
      (RetEvs w (makeFrom firsts st 0 ix ps)) := by
  go_enter Tryd.func13, Tryd.ntmps13
  go_wp2_with fail
  generalize hW0 : (w.alloc (.cells #[.string key, .slice A ps.length c] 25)).alloc (.cells #[.int .i64 st.wall, .int .i64 st.logic, .int .i64 st.node] 35) = W0
  have hz : w.heap.size + 1 < W0.heap.size := by rw [← hW0]; simp
  have hS0 : W0.cell? ⟨w.heap.size + 1, 0, none⟩ = some (.int .i64 st.wall) := by rw [← hW0]; simp
  have hS1 : W0.cell? ⟨w.heap.size + 1, 1, none⟩ = some (.int .i64 st.logic) := by rw [← hW0]; simp
  have hS2 : W0.cell? ⟨w.heap.size + 1, 2, none⟩ = some (.int .i64 st.node) := by rw [← hW0]; simp
  have hG0 : G w W0 := by rw [← hW0]; exact (G.new _ _).alloc _
  clear hW0
  have q0 : ∀ w', G W0 w' → w'.cell? ⟨w.heap.size + 1, 0, none⟩ = some (.int .i64 st.wall) := fun w' h => (h.cell (by omega)).trans hS0
  have q1 : ∀ w', G W0 w' → w'.cell? ⟨w.heap.size + 1, 1, none⟩ = some (.int .i64 st.logic) := fun w' h => (h.cell (by omega)).trans hS1
  have q2 : ∀ w', G W0 w' → w'.cell? ⟨w.heap.size + 1, 2, none⟩ = some (.int .i64 st.node) := fun w' h => (h.cell (by omega)).trans hS2
  clear hS0 hS1 hS2
  replace hs := hs.g hB hG0
  replace hs2 := hs2.g hB hG0
  go_loopw [8, 18] (fun v i wr => ∃ (k : Nat) (out : List Ev), k ≤ ps.length ∧ i = .int .i64 k ∧ Own wr W0.heap.size v out ∧ G W0 wr ∧ out.length + evCount (ps.drop k) ≤ 1099511627776 ∧ Hid (makeFrom firsts st 0 ix ps = out ++ makeFrom firsts st k (ix + out.length) (ps.drop k))) (fun _ i _ => ps.length - (intOf i).toNat)
  case atStart => exact ⟨0, [], Nat.zero_le _, rfl, Own.nil _ _, G.refl _, by simpa using hn, by simp [Hid]⟩
  case round =>
    obtain ⟨k, out, hk, rfl, hown, hg, hcnt, hh⟩ := hrel
    by_cases hlt : k < ps.length
    · obtain ⟨p, hp⟩ : ∃ p, ps[k]? = some p := ⟨_, List.getElem?_eq_getElem hlt⟩
      obtain ⟨sm, pe, pA, pc, dat⟩ := p
      obtain ⟨b, o, rfl, hbB, hcells⟩ := hs.1.get hp
      have hpm := List.mem_of_getElem? hp
      have hcp : out.length + dat.length + evCount (ps.drop (k + 1)) ≤ 1099511627776 := by rw [evCount_drop ps k _ hp] at hcnt; simpa [Nat.add_assoc] using hcnt
      have hfd := Lib.hid (makeFrom_drop firsts st (ix + out.length) ps k _ hp)
      clear hcnt
      have hdat : ∀ w', G W0 w' → Sl strC 1 w' B pA dat := fun w' h => (hs.2 _ hpm).g (by have := hG0.size; omega) h
      have hc0 : wr.cell? ⟨b, o + k * 3, none⟩ = some (.string sm) := (hg.cell (by have := hG0.size; omega)).trans (hcells 0 _ rfl)
      have hc1 : wr.cell? ⟨b, o + k * 3 + 1, none⟩ = some (.int .i64 pe) := (hg.cell (by have := hG0.size; omega)).trans (hcells 1 _ rfl)
      have hc2 : wr.cell? ⟨b, o + k * 3 + 2, none⟩ = some (.slice pA dat.length pc) := (hg.cell (by have := hG0.size; omega)).trans (hcells 2 _ rfl)
      clear hcells hs
      by_cases hkf : k < firsts.length
      · obtain ⟨f, hf1⟩ : ∃ f, firsts[k]? = some f := ⟨_, List.getElem?_eq_getElem hkf⟩
        obtain ⟨b2, o2, rfl, hb2, hcf⟩ := hs2.int hf1
        replace hcf := (hg.cell (by have := hG0.size; omega)).trans hcf
        have hb2w : b2 < wr.heap.size := by have := hG0.size; have := hg.size; omega
        obtain ⟨hf2, hf3⟩ := hf f (List.mem_of_getElem? hf1)
        replace hf1 := Lib.hid hf1
        clear hf
        go_wp2_with fail
        obtain ⟨wo, rfl⟩ : ∃ wo : World, wo = wr := ⟨_, rfl⟩
        have hbx : (wo.alloc (.cells #[.string sm, .int .i64 pe, .slice pA dat.length pc] 29)).heap[wo.heap.size]? = some (.cells #[.string sm, .int .i64 pe, .slice pA dat.length pc] 29 (0, 0)) := blk_new _ _ _
        have hGW : G wo (wo.alloc (.cells #[.string sm, .int .i64 pe, .slice pA dat.length pc] 29)) := G.new _ _
        generalize hW1 : wo.alloc (.cells #[.string sm, .int .i64 pe, .slice pA dat.length pc] 29) = W1 at *
        generalize hbn : wo.heap.size = bx at *
        clear hbn
        go_loopw [8, 34] (fun v i wr => ∃ (j : Nat) (o2 : List Ev), j ≤ dat.length ∧ i = .int .i64 j ∧ Own wr W0.heap.size v o2 ∧ G W0 wr ∧ wr.heap[bx]? = some (.cells #[.string sm, .int .i64 pe, .slice pA dat.length pc] 29 (0, 0)) ∧ o2.length = out.length + j ∧ Hid (o2 = out ++ (makePut ⟨sm, pe, pA, pc, dat⟩ f 1 st (ix + out.length)).take j)) (fun _ i _ => dat.length - (intOf i).toNat)
        case atStart => exact ⟨0, out, Nat.zero_le _, rfl, hown.g hGW, hg.trans hGW, hbx, rfl, by simp [Hid]⟩
        case round =>
          obtain ⟨j, o2, hj, rfl, hown2, hg2, hbx2, hlen2, hh2⟩ := hrel
          obtain ⟨Ao, co, rfl, _⟩ := hown2.sl
          have hle2 : o2.length ≤ out.length + dat.length := by omega
          replace hlen2 := Lib.hid hlen2
          by_cases hjl : j < dat.length
          · obtain ⟨d, hd⟩ : ∃ d, dat[j]? = some d := ⟨_, List.getElem?_eq_getElem hjl⟩
            obtain ⟨bd, od, rfl, hbd, hcd⟩ := (hdat wr hg2).str hd
            have hb0 : wr.cell? ⟨bx, 0, none⟩ = some (.string sm) := blk_cell hbx2 0
            replace hd := Lib.hid hd
            clear hdat
            go_wp2_with (at_builtin; refine wpList_append_ev _ rfl (.tmp 39) (.tmp 54) rfl W0.heap.size _ o2 rfl (hown2.g (G.new _ _)) ⟨sm, f + j, d, st, ix + o2.length⟩ wr.heap.size 1 rfl (blk_new _ _ _) (by omega) (by have := hg2.size; simp; omega) ?_; intro v' w' hown' hkeep)
            go_roundw
            case rel =>
              refine ⟨j + 1, _, by omega, by go_num, hown', hkeep.g (hg2.alloc _), hkeep.2 _ _ _ _ (by decide) (((G.new wr _).block bx (by
                rcases Nat.lt_or_ge bx wr.heap.size with h1 | h1
                · exact h1
                · rw [Array.getElem?_eq_none h1] at hbx2; cases hbx2)).trans hbx2), by simp [hlen2.out]; omega, ?_⟩
              unfold Hid
              rw [makePut_succ _ _ _ _ _ j d hd.out, ← List.append_assoc, ← hh2.out, hlen2.out]
              congr 3
              simp
              try omega
            case measure => simp [intOf]; omega
          · go_wp2_with fail
            go_roundw
            case rel =>
              have hj2 : j = dat.length := by omega
              have ho2 : o2 = out ++ makePut ⟨sm, pe, pA, pc, dat⟩ f 1 st (ix + out.length) := by
                rw [hh2.out, List.take_of_length_le (by rw [makePut_length]; simp; omega)]
              refine ⟨k + 1, o2, by omega, by go_num, hown2, hg2, by rw [hlen2.out]; omega, ?_⟩
              unfold Hid
              rw [hh.out, hfd.out, ho2, List.append_assoc, List.length_append, makePut_length]
              rw [List.getD_eq_getElem?_getD, hf1.out, Option.getD_some, if_pos hkf]
              congr 3
              simp; omega
            case measure => simp [intOf]; omega
      · go_wp2_with fail
        obtain ⟨wo, rfl⟩ : ∃ wo : World, wo = wr := ⟨_, rfl⟩
        have hbx : (wo.alloc (.cells #[.string sm, .int .i64 pe, .slice pA dat.length pc] 29)).heap[wo.heap.size]? = some (.cells #[.string sm, .int .i64 pe, .slice pA dat.length pc] 29 (0, 0)) := blk_new _ _ _
        have hGW : G wo (wo.alloc (.cells #[.string sm, .int .i64 pe, .slice pA dat.length pc] 29)) := G.new _ _
        generalize hW1 : wo.alloc (.cells #[.string sm, .int .i64 pe, .slice pA dat.length pc] 29) = W1 at *
        generalize hbn : wo.heap.size = bx at *
        clear hbn
        go_loopw [8, 34] (fun v i wr => ∃ (j : Nat) (o2 : List Ev), j ≤ dat.length ∧ i = .int .i64 j ∧ Own wr W0.heap.size v o2 ∧ G W0 wr ∧ wr.heap[bx]? = some (.cells #[.string sm, .int .i64 pe, .slice pA dat.length pc] 29 (0, 0)) ∧ o2.length = out.length + j ∧ Hid (o2 = out ++ (makePut ⟨sm, pe, pA, pc, dat⟩ 0 0 st (ix + out.length)).take j)) (fun _ i _ => dat.length - (intOf i).toNat)
        case atStart => exact ⟨0, out, Nat.zero_le _, rfl, hown.g hGW, hg.trans hGW, hbx, rfl, by simp [Hid]⟩
        case round =>
          obtain ⟨j, o2, hj, rfl, hown2, hg2, hbx2, hlen2, hh2⟩ := hrel
          obtain ⟨Ao, co, rfl, _⟩ := hown2.sl
          have hle2 : o2.length ≤ out.length + dat.length := by omega
          replace hlen2 := Lib.hid hlen2
          by_cases hjl : j < dat.length
          · obtain ⟨d, hd⟩ : ∃ d, dat[j]? = some d := ⟨_, List.getElem?_eq_getElem hjl⟩
            obtain ⟨bd, od, rfl, hbd, hcd⟩ := (hdat wr hg2).str hd
            have hb0 : wr.cell? ⟨bx, 0, none⟩ = some (.string sm) := blk_cell hbx2 0
            replace hd := Lib.hid hd
            clear hdat
            go_wp2_with (at_builtin; refine wpList_append_ev _ rfl (.tmp 39) (.tmp 54) rfl W0.heap.size _ o2 rfl (hown2.g (G.new _ _)) ⟨sm, 0, d, st, ix + o2.length⟩ wr.heap.size 1 rfl (blk_new _ _ _) (by omega) (by have := hg2.size; simp; omega) ?_; intro v' w' hown' hkeep)
            go_roundw
            case rel =>
              refine ⟨j + 1, _, by omega, by go_num, hown', hkeep.g (hg2.alloc _), hkeep.2 _ _ _ _ (by decide) (((G.new wr _).block bx (by
                rcases Nat.lt_or_ge bx wr.heap.size with h1 | h1
                · exact h1
                · rw [Array.getElem?_eq_none h1] at hbx2; cases hbx2)).trans hbx2), by simp [hlen2.out]; omega, ?_⟩
              unfold Hid
              rw [makePut_succ _ _ _ _ _ j d hd.out, ← List.append_assoc, ← hh2.out, hlen2.out]
              congr 3
              simp
              try omega
            case measure => simp [intOf]; omega
          · go_wp2_with fail
            go_roundw
            case rel =>
              have hj2 : j = dat.length := by omega
              have ho2 : o2 = out ++ makePut ⟨sm, pe, pA, pc, dat⟩ 0 0 st (ix + out.length) := by
                rw [hh2.out, List.take_of_length_le (by rw [makePut_length]; simp; omega)]
              refine ⟨k + 1, o2, by omega, by go_num, hown2, hg2, by rw [hlen2.out]; omega, ?_⟩
              unfold Hid
              rw [hh.out, hfd.out, ho2, List.append_assoc, List.length_append, makePut_length]
              rw [List.getD_eq_getElem?_getD, List.getElem?_eq_none (by omega), Option.getD_none, if_neg hkf]
              congr 3
              simp; omega
            case measure => simp [intOf]; omega
    · go_wp2_with fail
      go_ret
      have he : makeFrom firsts st 0 ix ps = out := by rw [hh.out, List.drop_eq_nil_of_le (by omega)]; simp [makeFrom]
      exact ⟨u8, rfl, he ▸ hown.mono hG0.size, hG0.trans hg⟩
end Go.Proofs.YtilfgafdkiaaaaaDoor
/- penstocklaw9.awake answers true. No condition. -/
namespace Go.Proofs.YtilfgafdkiaaaaaDoor
open Go.RowKit

set_option maxHeartbeats 1000000 in
theorem awake9_any (w : World) : Calls Tryd.prog 9 #[] w fun e w' => e = .returned (.bool true) ∧ G w w' := by
  go_enter Tryd.func9, Tryd.ntmps9
  go_wp2_with fail
  have hm := make_any ⟨#[107]⟩ [⟨⟨#[97]⟩, -1, some ⟨w.heap.size, 0, none⟩, 2, [⟨#[120]⟩, ⟨#[121]⟩]⟩] (some ⟨w.heap.size + 1, 0, none⟩) (some ⟨w.heap.size + 1 + 1, 0, none⟩) 1 1 (w.heap.size + 3) [3] ⟨5, 0, 1⟩ 0
    (((w.alloc (Obj.cells #[Value.string ⟨#[120]⟩, Value.string ⟨#[121]⟩] 9)).alloc (Obj.cells #[Value.string ⟨#[97]⟩, Value.int IntKind.i64 (-1), Value.slice (some ⟨w.heap.size, 0, none⟩) 2 2] 29)).alloc (Obj.cells #[Value.int IntKind.i64 3] 3))
    (by simp) (by simp) (by simp) (by simp [evCount]) (by simp) (by omega)
    ⟨Sl.of_blk PutM.cells_len _ ((G.new _ _).blk (blk_new' _ _ _ _ (by simp))) rfl (by omega), fun p hp => by
      simp at hp; subst hp
      exact Sl.of_blk strC_len _ (((G.new _ _).alloc _).blk (blk_new w _ _)) rfl (by omega)⟩
    (Sl.of_blk intC_len _ (blk_new' _ _ _ _ (by simp)) rfl (by omega))
  refine hm.mono ?_
  clear hm
  rw [show makeFrom [3] ⟨5, 0, 1⟩ 0 0 [⟨⟨#[97]⟩, -1, some ⟨w.heap.size, 0, none⟩, 2, [⟨#[120]⟩, ⟨#[121]⟩]⟩] = [⟨⟨#[97]⟩, 3, ⟨#[120]⟩, ⟨5, 0, 1⟩, 0⟩, ⟨⟨#[97]⟩, 4, ⟨#[121]⟩, ⟨5, 0, 1⟩, 1⟩] from rfl]
  rintro e w1 ⟨v, rfl, hown, hg⟩
  obtain ⟨A, c, rfl, hsl⟩ := hown.sl
  obtain ⟨b, o, rfl, hb, _, c1, _⟩ := hsl.ev (k := 0) rfl
  obtain ⟨_, _, e1, _, _, d1, d2, _, _, _, d6⟩ := hsl.ev (k := 1) rfl
  cases e1
  simp only [Nat.zero_mul, Nat.one_mul, Nat.add_zero] at c1 d1 d2 d6
  replace hg := (((G.new w _).alloc _).alloc _).trans hg
  clear hsl hown
  go_wp2_with fail
  go_ret
  exact ⟨ret_bool (by rfl), hg⟩
end Go.Proofs.YtilfgafdkiaaaaaDoor
/- penstocklaw9.EventBack: the walk. Condition: the decoder's tables lie as the library lays them. -/
namespace Go.Proofs.YtilfgafdkiaaaaaDoor
open Go.RowKit

/-- One stream in a block of its own. -/
theorem smsOne {w : World} {b : Nat} {n : ByteArray} {Ae Ak : Option Addr} {ce ck : Nat} {es : List Ev} {ks : List Kn} {t : TypeId} (h : w.heap[b]? = some (.cells #[.string n, .slice Ae es.length ce, .slice Ak ks.length ck] t (0, 0))) (hs : SmIn w w.heap.size Ae Ak es ks) : SmsIn w w.heap.size (some ⟨b, 0, none⟩) [⟨n, Ae, ce, es, Ak, ck, ks⟩] :=
  ⟨Sl.of_blk SmM.cells_len _ h rfl (blk_lt h), fun s hm => by rw [List.mem_singleton] at hm; subst hm; exact hs⟩
theorem evT_some {l : List UInt8} {e : Ev} {r : List UInt8} (h : dEvent l = some (e, r)) : decT evVal zEv l (dEvent l) = .tuple #[evVal e, .int .i64 ((l.length - r.length : Nat) : Int), .int .i64 0] := by rw [h]; rfl
theorem evT_none {l : List UInt8} (h : dEvent l = none) : decT evVal zEv l (dEvent l) = .tuple #[evVal zEv, .int .i64 0, .int .i64 10] := by rw [h]; rfl
theorem mod_nat (k : Int) {n : Nat} (hn : 0 < n) : ∃ r : Nat, k % (n : Int) = r ∧ r < n := by
  have h1 := Int.emod_nonneg k (show (n : Int) ≠ 0 by omega)
  have h2 := Int.emod_lt_of_pos k (show 0 < (n : Int) by omega)
  exact ⟨(k % (n : Int)).toNat, by omega, by omega⟩
set_option maxRecDepth 100000 in
set_option maxHeartbeats 16000000 in
theorem eventBack_walk (key : ByteArray) (ps : List PutM) (A : Option Addr) (c : Nat) (s d : ByteArray) (v x y z i : Int) (n : ByteArray) (es : List Ev) (ks : List Kn) (Ae Ak : Option Addr) (ce ck : Nat) (l : List UInt8) (Al : Option Addr) (c8 : Nat) (cut : Int) (w : World)
    (hk : key.size ≤ 9223372036854775807) (hin : PutsIn w w.heap.size A ps) (ho : PutsOk ps) (hx : ∀ p ∈ ps, -9223372036854775808 ≤ p.expect ∧ p.expect ≤ 9223372036854775807) (hsz : s.size ≤ 9223372036854775807) (hdz : d.size ≤ 9223372036854775807)
    (hn : n.size ≤ 9223372036854775807) (hsi : SmIn w w.heap.size Ae Ak es ks) (he1 : es.length ≤ 9223372036854775807) (he2 : EvsOk es) (hk1 : KnsOk ks) (hsl : Sl byteC 1 w w.heap.size Al l) (hcap : l.length ≤ c8) (hc8 : c8 ≤ 9223372036854775807) (hcut : -9223372036854775808 ≤ cut ∧ cut ≤ 9223372036854775807) (hT : Tabs w) :
    Calls Tryd.prog 8 #[.agg #[.string key, .slice A ps.length c], .agg #[.string s, .int .i64 v, .string d, .int .i64 x, .int .i64 y, .int .i64 z, .int .i64 i], .agg #[.string n, .slice Ae es.length ce, .slice Ak ks.length ck], .slice Al l.length c8, .int .i64 cut] w fun e w' => e = .returned (.bool true) ∧ G w w' := by
  have hba : ∀ w', G w w' → Calls Tryd.prog 12 #[.agg #[.string key, .slice A ps.length c], .int .i64 6000] w' fun e w'' => e = .returned (.int .i64 (batchOf 6000 key ps)) ∧ G w' w'' := fun w' h => batch_any 6000 key ps A c w.heap.size w' h.size hk ho (hin.g (Nat.le_refl _) h)
  obtain ⟨T1, hT1⟩ : ∃ T, batchOf 6000 key ps = T := ⟨_, rfl⟩
  rw [hT1] at hba
  obtain ⟨T2, hT2⟩ : ∃ T, sumTo 0 [(s.size : Int), (d.size : Int), (l.length : Int)] = T := ⟨_, rfl⟩
  have hsu := fun b w' => sum_3 0 s.size d.size l.length b w' (by omega) (by omega) (by omega) (by omega) (by omega) (by omega) (by omega) (by omega)
  rw [hT2] at hsu
  have hst : ∀ (w' : World) (b : Nat), G w w' → w'.heap[b]? = some (.cells #[.string n, .slice Ae es.length ce, .slice Ak ks.length ck] 53 (0, 0)) → Calls Tryd.prog 20 #[.slice (some ⟨b, 0, none⟩) 1 1, .int .i64 6000] w' fun e w'' => e = .returned (.int .i64 (smsBulk 6000 [⟨n, Ae, ce, es, Ak, ck, ks⟩])) ∧ G w' w'' := fun w' b h hb =>
    streams_any 6000 [⟨n, Ae, ce, es, Ak, ck, ks⟩] _ 1 w'.heap.size w' (Nat.le_refl _) ⟨by simp, fun s hm => by rw [List.mem_singleton] at hm; subst hm; exact ⟨hn, he1, he2, hk1⟩⟩ (smsOne hb (SmIn.more (hsi.g (Nat.le_refl _) h) h.size))
  obtain ⟨T3, hT3⟩ : ∃ T, smsBulk 6000 [⟨n, Ae, ce, es, Ak, ck, ks⟩] = T := ⟨_, rfl⟩
  rw [hT3] at hst
  replace hba := Lib.hid hba
  replace hsu := Lib.hid hsu
  replace hst := Lib.hid hst
  replace hT1 := Lib.hid hT1
  replace hT2 := Lib.hid hT2
  replace hT3 := Lib.hid hT3
  replace ho := Lib.hid ho
  replace hx := Lib.hid hx
  replace he2 := Lib.hid he2
  replace hk1 := Lib.hid hk1
  go_enter Tryd.func8, Tryd.ntmps8
  go_upto_region 1 with fail
  generalize hW0 : ((w.alloc (.cells #[.string key, .slice A ps.length c] 25)).alloc (.cells #[.string s, .int .i64 v, .string d, .int .i64 x, .int .i64 y, .int .i64 z, .int .i64 i] 41)).alloc (.cells #[.string n, .slice Ae es.length ce, .slice Ak ks.length ck] 53) = W0
  have hz : w.heap.size + 2 < W0.heap.size := by rw [← hW0]; simp
  have hG0 : G w W0 := by rw [← hW0]; exact ((G.new _ _).alloc _).alloc _
  have r0 : W0.cell? ⟨w.heap.size, 0, none⟩ = some (.string key) := by rw [← hW0, blk_cell (((G.new _ _).alloc _).blk (blk_new' _ _ _ _ (by simp)))]; rfl
  have r1 : W0.cell? ⟨w.heap.size, 1, none⟩ = some (.slice A ps.length c) := by rw [← hW0, blk_cell (((G.new _ _).alloc _).blk (blk_new' _ _ _ _ (by simp)))]; rfl
  have r2 : W0.cell? ⟨w.heap.size + 1, 0, none⟩ = some (.string s) := by rw [← hW0, blk_cell ((G.new _ _).blk (blk_new' _ _ _ _ (by simp)))]; rfl
  have r3 : W0.cell? ⟨w.heap.size + 1, 1, none⟩ = some (.int .i64 v) := by rw [← hW0, blk_cell ((G.new _ _).blk (blk_new' _ _ _ _ (by simp)))]; rfl
  have r4 : W0.cell? ⟨w.heap.size + 1, 2, none⟩ = some (.string d) := by rw [← hW0, blk_cell ((G.new _ _).blk (blk_new' _ _ _ _ (by simp)))]; rfl
  have r5 : W0.cell? ⟨w.heap.size + 1, 3, none⟩ = some (.int .i64 x) := by rw [← hW0, blk_cell ((G.new _ _).blk (blk_new' _ _ _ _ (by simp)))]; rfl
  have r6 : W0.cell? ⟨w.heap.size + 1, 4, none⟩ = some (.int .i64 y) := by rw [← hW0, blk_cell ((G.new _ _).blk (blk_new' _ _ _ _ (by simp)))]; rfl
  have r7 : W0.cell? ⟨w.heap.size + 1, 5, none⟩ = some (.int .i64 z) := by rw [← hW0, blk_cell ((G.new _ _).blk (blk_new' _ _ _ _ (by simp)))]; rfl
  have r8 : W0.cell? ⟨w.heap.size + 1, 6, none⟩ = some (.int .i64 i) := by rw [← hW0, blk_cell ((G.new _ _).blk (blk_new' _ _ _ _ (by simp)))]; rfl
  have r9 : W0.cell? ⟨w.heap.size + 1 + 1, 0, none⟩ = some (.string n) := by rw [← hW0, blk_cell (blk_new' _ _ _ _ (by simp))]; rfl
  have r10 : W0.cell? ⟨w.heap.size + 1 + 1, 1, none⟩ = some (.slice Ae es.length ce) := by rw [← hW0, blk_cell (blk_new' _ _ _ _ (by simp))]; rfl
  have r11 : W0.cell? ⟨w.heap.size + 1 + 1, 2, none⟩ = some (.slice Ak ks.length ck) := by rw [← hW0, blk_cell (blk_new' _ _ _ _ (by simp))]; rfl
  clear hW0
  have q0 : ∀ w', G W0 w' → w'.cell? ⟨w.heap.size, 0, none⟩ = some (.string key) := fun w' h => (h.cell (by omega)).trans r0
  have q1 : ∀ w', G W0 w' → w'.cell? ⟨w.heap.size, 1, none⟩ = some (.slice A ps.length c) := fun w' h => (h.cell (by omega)).trans r1
  have q2 : ∀ w', G W0 w' → w'.cell? ⟨w.heap.size + 1, 0, none⟩ = some (.string s) := fun w' h => (h.cell (by omega)).trans r2
  have q3 : ∀ w', G W0 w' → w'.cell? ⟨w.heap.size + 1, 1, none⟩ = some (.int .i64 v) := fun w' h => (h.cell (by omega)).trans r3
  have q4 : ∀ w', G W0 w' → w'.cell? ⟨w.heap.size + 1, 2, none⟩ = some (.string d) := fun w' h => (h.cell (by omega)).trans r4
  have q5 : ∀ w', G W0 w' → w'.cell? ⟨w.heap.size + 1, 3, none⟩ = some (.int .i64 x) := fun w' h => (h.cell (by omega)).trans r5
  have q6 : ∀ w', G W0 w' → w'.cell? ⟨w.heap.size + 1, 4, none⟩ = some (.int .i64 y) := fun w' h => (h.cell (by omega)).trans r6
  have q7 : ∀ w', G W0 w' → w'.cell? ⟨w.heap.size + 1, 5, none⟩ = some (.int .i64 z) := fun w' h => (h.cell (by omega)).trans r7
  have q8 : ∀ w', G W0 w' → w'.cell? ⟨w.heap.size + 1, 6, none⟩ = some (.int .i64 i) := fun w' h => (h.cell (by omega)).trans r8
  have q9 : ∀ w', G W0 w' → w'.cell? ⟨w.heap.size + 1 + 1, 0, none⟩ = some (.string n) := fun w' h => (h.cell (by omega)).trans r9
  have q10 : ∀ w', G W0 w' → w'.cell? ⟨w.heap.size + 1 + 1, 1, none⟩ = some (.slice Ae es.length ce) := fun w' h => (h.cell (by omega)).trans r10
  have q11 : ∀ w', G W0 w' → w'.cell? ⟨w.heap.size + 1 + 1, 2, none⟩ = some (.slice Ak ks.length ck) := fun w' h => (h.cell (by omega)).trans r11
  clear r0 r1 r2 r3 r4 r5 r6 r7 r8 r9 r10 r11
  have g0 := q0 _ (G.refl W0)
  have g1 := q1 _ (G.refl W0)
  by_cases h1 : T1 ≤ 6000
  case neg =>
    have t1 : decide (6000 < T1) = true := decide_eq_true (by omega)
    have t1' : 6000 < T1 := by omega
    go_wp2_with fail
    refine (hba.out _ hG0).mono ?_
    rintro e w1 ⟨rfl, hg1⟩
    go_wp2_with (go_at_call 9; refine (awake9_any _).mono ?_; rintro e w9 ⟨rfl, hg9⟩)
    go_ret
    exact ⟨rfl, (hG0.trans hg1).trans hg9⟩
  have t1 : ¬ 6000 < T1 := by omega
  have t1' : decide (6000 < T1) = false := decide_eq_false t1
  go_wp2_with fail
  refine (hba.out _ hG0).mono ?_
  rintro e w1 ⟨rfl, hg1⟩
  have g2 := q2 _ hg1
  have g4 := q4 _ hg1
  clear g0 g1
  by_cases h2 : T2 ≤ 6000
  case neg =>
    have t2 : decide (6000 < T2) = true := decide_eq_true (by omega)
    have t2' : 6000 < T2 := by omega
    go_wp2_with fail
    refine (hsu.out _ _ (by simp) (by simp) (by simp)).mono ?_
    rintro e w2 ⟨rfl, rfl⟩
    go_wp2_with (go_at_call 9; refine (awake9_any _).mono ?_; rintro e w9 ⟨rfl, hg9⟩)
    go_ret
    exact ⟨rfl, (hG0.trans (hg1.alloc _)).trans hg9⟩
  have t2 : ¬ 6000 < T2 := by omega
  have t2' : decide (6000 < T2) = false := decide_eq_false t2
  go_wp2_with fail
  refine (hsu.out _ _ (by simp) (by simp) (by simp)).mono ?_
  rintro e w2 ⟨rfl, rfl⟩
  have hg2 := hg1.alloc (.cells #[.int .i64 s.size, .int .i64 d.size, .int .i64 l.length] 3)
  generalize w1.alloc (.cells #[.int .i64 s.size, .int .i64 d.size, .int .i64 l.length] 3) = w2 at *
  have g9 := q9 _ hg2
  have g10 := q10 _ hg2
  have g11 := q11 _ hg2
  clear g2 g4
  by_cases h3 : T3 ≤ 6000
  case neg =>
    have t3 : decide (6000 < T3) = true := decide_eq_true (by omega)
    have t3' : 6000 < T3 := by omega
    go_wp2_with fail
    refine (hst.out _ _ (hG0.trans (hg2.alloc _)) (blk_new _ _ _)).mono ?_
    rintro e w3 ⟨rfl, hg3⟩
    go_wp2_with (go_at_call 9; refine (awake9_any _).mono ?_; rintro e w9 ⟨rfl, hg9⟩)
    go_ret
    exact ⟨rfl, (hG0.trans ((hg2.alloc _).trans hg3)).trans hg9⟩
  have t3 : ¬ 6000 < T3 := by omega
  have t3' : decide (6000 < T3) = false := decide_eq_false t3
  obtain ⟨hks, hsm⟩ := bat_small_at (top := 6000) (by omega) (key := key) (ps := ps) (by rw [hT1.out]; exact h1) hx.out
  have hss : SmSmall n es ks := (sms_small (top := 6000) (by omega) (by rw [hT3.out]; exact h3)).2 _ (List.mem_singleton.2 rfl)
  have hf1 := batL_fine (key := key) (ps := ps) (by rw [hT1.out]; exact h1)
  have hf3 := smL_fine (s := ⟨n, Ae, ce, es, Ak, ck, ks⟩) (by rw [hT3.out]; exact h3)
  have hf2 := sumTo_up (top := 6000) (by omega) (l := [(s.size : Int), (d.size : Int), (l.length : Int)]) (n := 0) (by simp) (by rw [hT2.out]; exact h2)
  simp only [List.sum_cons, List.sum_nil, Int.add_zero] at hf2
  unfold SmM.sm at hf3
  simp only at hf3
  have hfe := evL_len ⟨s, v, d, ⟨x, y, z⟩, i⟩
  simp only at hfe
  have hAl : Al = none → l = [] := fun h => (h ▸ hsl).of_none
  have hbe : ∀ w', G W0 w' → Sl byteC 1 w' w'.heap.size Al l := fun w' h => (hsl.g (Nat.le_refl _) (hG0.trans h)).more (hG0.trans h).size
  have hen1 : ∀ w', G W0 w' → Calls Tryd.prog 29 #[.agg #[.string key, .slice A ps.length c]] w' (RetBytesN w' (batL key (ps.map PutM.p))) := fun w' h => batEnc_any key ps A c w' (PutsIn.more (hin.g (Nat.le_refl _) (hG0.trans h)) (hG0.trans h).size) (by omega) hsm (hT.g (hG0.trans h))
  have hch1 : ∀ w', G W0 w' → Calls Tryd.prog 11 #[.agg #[.string key, .slice A ps.length c]] w' fun e w'' => e = .returned (.int .i64 (chkN key (ps.map PutM.p))) ∧ G w' w'' := fun w' h => check_any key ps A c w' (PutsIn.more (hin.g (Nat.le_refl _) (hG0.trans h)) (hG0.trans h).size) (by omega) hsm (hT.g (hG0.trans h))
  have hd1 : ∀ (w' : World) (A' : Option Addr) (c' : Nat) (m : List UInt8), G W0 w' → Sl byteC 1 w' w'.heap.size A' m → m.length ≤ 600000 → m.length ≤ c' → Calls Tryd.prog 26 #[.slice A' m.length c'] w' (RetBat w' m) := fun w' A' c' m h hs h1 h2 => decBatch_any m A' c' w' hs (by omega) h2 (hT.g (hG0.trans h))
  have hsa : ∀ (w' : World) (ms : List PutM) (Ap : Option Addr) (cp : Nat), G W0 w' → PutsIn w' w'.heap.size Ap ms → PutsSmall ms → ms.map PutM.p = ps.map PutM.p → Calls Tryd.prog 31 #[.agg #[.string key, .slice Ap ms.length cp], .agg #[.string key, .slice A ps.length c]] w' fun e w'' => e = .returned (.bool true) ∧ G w' w'' := fun w' ms Ap cp h h1 h2 h3 =>
    sameBatch_yes key ms ps Ap A cp c w' h1 (PutsIn.more (hin.g (Nat.le_refl _) (hG0.trans h)) (hG0.trans h).size) h3 h2
  have hen2 : ∀ w', G W0 w' → Calls Tryd.prog 18 #[.agg #[.string s, .int .i64 v, .string d, .int .i64 x, .int .i64 y, .int .i64 z, .int .i64 i]] w' (RetBytesN w' (evL ⟨s, v, d, ⟨x, y, z⟩, i⟩)) := fun w' h => evEnc_any s d v x y z i w' (by omega) (by omega) (hT.g (hG0.trans h))
  have hd2 : ∀ (w' : World) (A' : Option Addr) (c' : Nat) (m : List UInt8), G W0 w' → Sl byteC 1 w' w'.heap.size A' m → m.length ≤ 600000 → m.length ≤ c' → Calls Tryd.prog 15 #[.slice A' m.length c'] w' fun e w'' => e = .returned (decT evVal zEv m (dEvent m)) ∧ G w' w'' := fun w' A' c' m h hs h1 h2 => decEvent_any m A' c' w' hs (by omega) h2 (hT.g (hG0.trans h))
  have hen3 : ∀ w', G W0 w' → Calls Tryd.prog 23 #[.agg #[.string n, .slice Ae es.length ce, .slice Ak ks.length ck]] w' (RetBytesN w' (smL ⟨n, es, ks⟩)) := fun w' h => smEnc_any n es ks Ae Ak ce ck w' (SmIn.more (hsi.g (Nat.le_refl _) (hG0.trans h)) (hG0.trans h).size) hss (hT.g (hG0.trans h))
  have hd3 : ∀ (w' : World) (A' : Option Addr) (c' : Nat) (m : List UInt8), G W0 w' → Sl byteC 1 w' w'.heap.size A' m → m.length ≤ 520000 → m.length ≤ c' → Calls Tryd.prog 21 #[.slice A' m.length c'] w' (RetSm w' m) := fun w' A' c' m h hs h1 h2 => decStream_any m A' c' w' hs (by omega) h2 (hT.g (hG0.trans h))
  have hsb : ∀ (w' : World) (g1 g2 : Nat) (Ae' Ak' : Option Addr) (ce' ck' : Nat), G W0 w' → SmIn w' w'.heap.size Ae' Ak' es ks → w'.heap[g1]? = some (.cells #[.string n, .slice Ae' es.length ce', .slice Ak' ks.length ck'] 53 (0, 0)) → w'.heap[g2]? = some (.cells #[.string n, .slice Ae es.length ce, .slice Ak ks.length ck] 53 (0, 0)) → Calls Tryd.prog 25 #[.slice (some ⟨g1, 0, none⟩) 1 1, .slice (some ⟨g2, 0, none⟩) 1 1] w' fun e w'' => e = .returned (.bool true) ∧ G w' w'' := fun w' g1 g2 Ae' Ak' ce' ck' h hi h1 h2 =>
    sameSms_yes [⟨n, Ae', ce', es, Ak', ck', ks⟩] [⟨n, Ae, ce, es, Ak, ck, ks⟩] _ _ 1 1 w' (smsOne h1 hi) (smsOne h2 (SmIn.more (hsi.g (Nat.le_refl _) (hG0.trans h)) (hG0.trans h).size)) rfl (by simp) (fun s hm => by rw [List.mem_singleton] at hm; subst hm; exact ⟨he1, hk1.out.1⟩)
  have hrd := fun (m : List UInt8) (hm : 0 < m.length) (hm2 : m.length ≤ 600000) w' => round_any cut m.length w' (by omega) (by omega) hcut.1 hcut.2
  have hnq := @ev_neq
  obtain ⟨hz1, hz2, hz3⟩ : s.size ≤ 6000 ∧ d.size ≤ 6000 ∧ l.length ≤ 6000 := by omega
  have hks2 : key.size < 2 ^ 64 := by omega
  have hpz : ∀ p ∈ ps.map PutM.p, p.stream.size < 2 ^ 64 ∧ ∀ d ∈ p.data, d.size < 2 ^ 64 := fun p hp => by
    obtain ⟨m, hm, rfl⟩ := List.mem_map.1 hp
    obtain ⟨a1, _, _, a2⟩ := hsm.2 m hm
    exact ⟨by show m.stream.size < _; omega, fun d hd => by have := a2 d hd; omega⟩
  replace hen1 := Lib.hid hen1
  replace hch1 := Lib.hid hch1
  replace hd1 := Lib.hid hd1
  replace hsa := Lib.hid hsa
  replace hen2 := Lib.hid hen2
  replace hd2 := Lib.hid hd2
  replace hen3 := Lib.hid hen3
  replace hd3 := Lib.hid hd3
  replace hsb := Lib.hid hsb
  replace hrd := Lib.hid hrd
  replace hnq := Lib.hid hnq
  replace hbe := Lib.hid hbe
  replace hpz := Lib.hid hpz
  replace hss := Lib.hid hss
  replace hsm := Lib.hid hsm
  clear hin hsi hsl hT hba
  go_wp2_with fail
  refine (hst.out _ _ (hG0.trans (hg2.alloc _)) (blk_new _ _ _)).mono ?_
  rintro e w3 ⟨rfl, hg3⟩
  replace hg3 := (hg2.alloc _).trans hg3
  clear hst hsu t1 t1' t2 t2' g9 g10 g11 hg1 hg2
  have g0 := q0 _ hg3
  have g1 := q1 _ hg3
  go_upto_if 59 with (first
    | (go_at_call 29; refine (hen1.out _ hg3).mono ?_; rintro e u1 ⟨A1, d1, rfl, hown1, hg5, hnil1⟩; have hg6 := hg3.trans hg5; have g0 := q0 _ hg6; have g1 := q1 _ hg6)
    | (go_at_call 11; refine (hch1.out _ hg6).mono ?_; rintro e u2 ⟨rfl, hg7⟩))
  have hgU := hg6.trans hg7
  clear g0 g1 t3 t3'
  go_cut [11] (fun _ wx => G W0 wx)
  case first =>
    by_cases hc0 : chkN key (ps.map PutM.p) = 0
    case neg =>
      have t1 : (((chkN key (ps.map PutM.p) : Nat) : Int) == 0) = false := by rw [beq_eq_false_iff_ne]; omega
      have hno := batL_no hc0
      rw [hno] at hown1
      generalize chkN key (ps.map PutM.p) = cn at *
      generalize batL key (ps.map PutM.p) = el at *
      subst hno
      replace hc0 := Lib.hid hc0
      clear hown1
      go_wp2_with fail
      go_meet
      exact hgU
    have t1 : (((chkN key (ps.map PutM.p) : Nat) : Int) == 0) = true := by rw [hc0]; rfl
    have hw := dBatch_w hc0 hks2 hpz.out
    have hpos : 0 < (batL key (ps.map PutM.p)).length := by rw [batL_ok hc0]; exact batBytes_pos _ _
    generalize batL key (ps.map PutM.p) = el at *
    have hdb := hw l
    have hd0 := hw []
    rw [List.append_nil] at hd0
    obtain ⟨r, hr, hrl⟩ := mod_nat cut hpos
    have hcu := rd_cut rd_batch hd0 hrl
    have hro := hrd.out el hpos (by omega)
    rw [hr] at hro
    have hsl1 := OwnL.self byteC_len hown1
    have hd1le := (OwnL.sl byteC_len hown1)
    obtain ⟨_, _, ee, hcd, _, _⟩ := hd1le
    cases ee
    have hne : el ≠ [] := by rintro rfl; simp at hpos
    have hfr := run_front hsl1 hne d1 r (by omega)
    have hA1 : A1 = none → el = [] := fun h => (h ▸ hsl1).of_none
    have hltk : (el.take r).length = r := by rw [List.length_take]; omega
    obtain ⟨m, hm⟩ : ∃ m, el ++ l = m := ⟨_, rfl⟩
    have hml : m.length - l.length = el.length ∧ m.length ≤ 600000 := by rw [← hm, List.length_append]; omega
    rw [hm] at hdb
    have t2 : ((el.length : Int) == 0) = false := by rw [beq_eq_false_iff_ne]; omega
    have t3 : ((el.length : Int) != (el.length : Int)) = false := by simp
    replace hm := Lib.hid hm
    replace hdb := Lib.hid hdb
    replace hcu := Lib.hid hcu
    replace hml := Lib.hid hml
    replace hltk := Lib.hid hltk
    replace hne := Lib.hid hne
    generalize chkN key (ps.map PutM.p) = cn at *
    replace hc0 := Lib.hid hc0
    replace hro := Lib.hid hro
    clear hw hd0 hown1 hr
    replace hsl1 := Lib.hid ((hsl1.g (Nat.le_refl _) hg7).more hg7.size)
    go_wp2_with (first
      | (at_builtin; refine wpList_append_but byte_elem _ rfl (.tmp 61) (.tmp 62) rfl u2.heap.size _ [] rfl (OwnL.empty _ (blk_new _ _ _) (Nat.le_refl _)) u2.heap.size A1 d1 el rfl hA1 (hsl1.out.g (Nat.le_refl _) (G.new _ _)) (by simp; omega) (by simp; omega) (by simp) ?_; intro v6 w6 hown6 hk6 hb6; rw [List.nil_append] at hown6; have hg8 := KeepT.g hk6 (G.new u2 (.cells #[] 5)); obtain ⟨A6, c6, e6, _, _, _⟩ := OwnL.sl byteC_len hown6; subst e6; have hz6 := hg8.size; replace hown6 := Lib.hid hown6; clear hk6 hb6)
      | (at_builtin; refine wpList_append_but byte_elem _ rfl (.tmp 63) (.tmp 64) rfl u2.heap.size _ el rfl hown6.out w6.heap.size Al c8 l rfl hAl (hbe.out w6 (hgU.trans hg8)) (by omega) (by omega) hz6 ?_; intro v7 w7 hown7 hk7 hb7; rw [hm.out] at hown7; obtain ⟨A7, c7, e7, hc7, _, hsl7⟩ := OwnL.sl byteC_len hown7; subst e7; have hgu7 := KeepT.g hk7 hg8; have hg9 := hgU.trans hgu7; clear hk7 hb7 hown7; replace hsl7 := Lib.hid hsl7))
    refine (hd1.out w7 A7 c7 m hg9 hsl7.out hml.out.2 hc7).mono ?_
    rintro e w8 ⟨k1, Ap, cp, ms1, n1, e1, rfl, hb1, _, hs1, hp1, hg10⟩
    rw [hdb.out] at hb1
    simp only [batT, Prod.mk.injEq, hml.out.1] at hb1
    obtain ⟨⟨rfl, hmp⟩, rfl, rfl⟩ := hb1
    have hgd8 := hg10
    replace hg10 := hg9.trans hg10
    have hin1 := hp1.ins
    clear hp1 hown6 hsl7
    have hgn := G.new w8 (.cells #[.string key, .slice Ap ms1.length cp] 25)
    have hG8 := hg10.trans hgn
    have hsc := hsa.out _ ms1 Ap cp hG8 (PutsIn.more (hin1.g (Nat.le_refl _) hgn) hgn.size) hs1 hmp.symm
    have g0 := q0 _ hG8
    have g1 := q1 _ hG8
    go_wp2_with fail
    refine hsc.mono ?_
    clear hsc
    rintro e w9 ⟨rfl, hg11⟩
    have hG9 := hG8.trans hg11
    clear g0 g1
    go_wp2_with fail
    refine (hro.out _).mono ?_
    rintro e w9' ⟨rfl, rfl⟩
    have hg9U : G u2 w9 := ((hgu7.trans hgd8).trans hgn).trans hg11
    have hcl := hd1.out w9 A1 d1 (el.take r) hG9 (((hsl1.out.g (Nat.le_refl _) hg9U).more hg9U.size).first r) (by rw [hltk.out]; omega) (by rw [hltk.out]; omega)
    rw [hltk.out] at hcl
    go_wp2_with fail
    refine hcl.mono ?_
    rintro e w10 ⟨k2, Ap2, cp2, ms2, n2, e2, rfl, hb2, _, _, _, hg12⟩
    rw [hcu.out] at hb2
    simp only [batT, Prod.mk.injEq] at hb2
    obtain ⟨⟨rfl, hms2⟩, rfl, rfl⟩ := hb2
    go_wp2_with fail
    go_meet
    exact (hG9.trans hg12).alloc _
  case rest =>
    have hgc : G W0 wc := hcut
    have g2 := q2 _ hgc
    have g3 := q3 _ hgc
    have g4 := q4 _ hgc
    have g5 := q5 _ hgc
    have g6 := q6 _ hgc
    have g7 := q7 _ hgc
    have g8 := q8 _ hgc
    clear hd1 hsa hch1 hen1 hown1 hg6 hg7 hgU hnil1 hpz hsm
    go_upto_if 112 with (go_at_call 18; refine (hen2.out _ hgc).mono ?_; rintro e u1 ⟨A1, d1, rfl, hown1, hg5, hnil1⟩)
    have hg6 := hgc.trans hg5
    clear g2 g3 g4 g5 g6 g7 g8 hgc hg5
    go_cut [18] (fun _ wx => G W0 wx)
    case first =>
      cases hok : evOk ⟨s, v, d, ⟨x, y, z⟩, i⟩ with
      | false =>
        have hno := evL_none hok
        rw [hno] at hown1
        generalize evL ⟨s, v, d, ⟨x, y, z⟩, i⟩ = el at *
        subst hno
        have t1 : decide (0 < (((([] : List UInt8).length) : Nat) : Int)) = false := rfl
        clear hown1 hok
        go_wp2_with fail
        go_meet
        exact hg6
      | true =>
        have hw := fun q => dEvent_w hok (by show s.size < _; omega) q
        have hpos : 0 < (evL ⟨s, v, d, ⟨x, y, z⟩, i⟩).length := by
          rcases Nat.eq_zero_or_pos (evL ⟨s, v, d, ⟨x, y, z⟩, i⟩).length with h | h
          · have h2 := (evL_nil _).1 (List.eq_nil_of_length_eq_zero h)
            rw [hok] at h2
            cases h2
          · exact h
        generalize evL ⟨s, v, d, ⟨x, y, z⟩, i⟩ = el at *
        have hdb := hw l
        have hd0 := hw []
        rw [List.append_nil] at hd0
        obtain ⟨r, hr, hrl⟩ := mod_nat cut hpos
        have hcu := rd_cut rd_event hd0 hrl
        have hro := hrd.out el hpos (by omega)
        rw [hr] at hro
        have hsl1 := OwnL.self byteC_len hown1
        have hd1le := (OwnL.sl byteC_len hown1)
        obtain ⟨_, _, ee, hcd, _, _⟩ := hd1le
        cases ee
        have hne : el ≠ [] := by rintro rfl; simp at hpos
        have hfr := run_front hsl1 hne d1 r (by omega)
        have hA1 : A1 = none → el = [] := fun h => (h ▸ hsl1).of_none
        have hltk : (el.take r).length = r := by rw [List.length_take]; omega
        obtain ⟨m, hm⟩ : ∃ m, el ++ l = m := ⟨_, rfl⟩
        have hml : m.length - l.length = el.length ∧ m.length ≤ 600000 := by rw [← hm, List.length_append]; omega
        rw [hm] at hdb
        have t1 : 0 < (el.length : Int) := by omega
        have t1' : decide (0 < (el.length : Int)) = true := decide_eq_true t1
        have t3 : ((el.length : Int) != (el.length : Int)) = false := by simp
        have hev2 : evB ⟨s, v, d, ⟨x, y, z⟩, i⟩ ⟨s, v, d, ⟨x, y, z⟩, i⟩ = true := by simp [evB]
        replace hm := Lib.hid hm
        replace hml := Lib.hid hml
        replace hltk := Lib.hid hltk
        replace hne := Lib.hid hne
        replace hok := Lib.hid hok
        replace hro := Lib.hid hro
        replace hdb := Lib.hid hdb
        replace hcu := Lib.hid hcu
        clear hw hd0 hown1 hr
        replace hsl1 := Lib.hid hsl1
        go_wp2_with (first
          | (at_builtin; refine wpList_append_but byte_elem _ rfl (.tmp 114) (.tmp 115) rfl u1.heap.size _ [] rfl (OwnL.empty _ (blk_new _ _ _) (Nat.le_refl _)) u1.heap.size A1 d1 el rfl hA1 (hsl1.out.g (Nat.le_refl _) (G.new _ _)) (by simp; omega) (by simp; omega) (by simp) ?_; intro v6 w6 hown6 hk6 hb6; rw [List.nil_append] at hown6; have hg8 := KeepT.g hk6 (G.new u1 (.cells #[] 5)); obtain ⟨A6, c6, e6, _, _, _⟩ := OwnL.sl byteC_len hown6; subst e6; have hz6 := hg8.size; replace hown6 := Lib.hid hown6; clear hk6 hb6)
          | (at_builtin; refine wpList_append_but byte_elem _ rfl (.tmp 116) (.tmp 117) rfl u1.heap.size _ el rfl hown6.out w6.heap.size Al c8 l rfl hAl (hbe.out w6 (hg6.trans hg8)) (by omega) (by omega) hz6 ?_; intro v7 w7 hown7 hk7 hb7; rw [hm.out] at hown7; obtain ⟨A7, c7, e7, hc7, _, hsl7⟩ := OwnL.sl byteC_len hown7; subst e7; have hgu7 := KeepT.g hk7 hg8; have hg9 := hg6.trans hgu7; clear hk7 hb7 hown7; replace hsl7 := Lib.hid hsl7))
        have hde := hd2.out w7 A7 c7 m hg9 hsl7.out hml.out.2 hc7
        rw [evT_some hdb.out, hml.out.1] at hde
        simp only [evVal, Ev.cells] at hde
        refine hde.mono ?_
        clear hde
        rintro e w8 ⟨rfl, hg10⟩
        have hgU8 := hgu7.trans hg10
        replace hg10 := hg9.trans hg10
        clear hown6 hsl7
        go_wp2_with fail
        have hY := blk_new w8 #[.string s, .int .i64 v, .string d, .int .i64 x, .int .i64 y, .int .i64 z, .int .i64 i] 41
        have hgn := G.new w8 (.cells #[.string s, .int .i64 v, .string d, .int .i64 x, .int .i64 y, .int .i64 z, .int .i64 i] 41)
        generalize w8.alloc (.cells #[.string s, .int .i64 v, .string d, .int .i64 x, .int .i64 y, .int .i64 z, .int .i64 i] 41) = w9 at *
        generalize w8.heap.size = b8 at *
        have hG9 := hg10.trans hgn
        have hg9U : G u1 w9 := hgU8.trans hgn
        refine (hro.out _).mono ?_
        rintro e w9' ⟨rfl, rfl⟩
        have hcl := hd2.out w9 A1 d1 (el.take r) hG9 (((hsl1.out.g (Nat.le_refl _) hg9U).more hg9U.size).first r) (by rw [hltk.out]; omega) (by rw [hltk.out]; omega)
        rw [hltk.out, evT_none hcu.out] at hcl
        simp only [evVal, Ev.cells, zEv] at hcl
        go_wp2_with fail
        refine hcl.mono ?_
        clear hcl
        rintro e w10 ⟨rfl, hg12⟩
        have hgz := G.new w10 (.cells #[.string ByteArray.empty, .int .i64 0, .string ByteArray.empty, .int .i64 0, .int .i64 0, .int .i64 0, .int .i64 0] 41)
        have hGL := (hG9.trans hg12).trans hgz
        have hY2 := (hg12.trans hgz).blk hY
        have y0 := (blk_cell hY2 0).trans (show _ = some (.string s) from rfl)
        have y1 := (blk_cell hY2 1).trans (show _ = some (.int .i64 v) from rfl)
        have y2 := (blk_cell hY2 2).trans (show _ = some (.string d) from rfl)
        have y3 := (blk_cell hY2 3).trans (show _ = some (.int .i64 x) from rfl)
        have y4 := (blk_cell hY2 4).trans (show _ = some (.int .i64 y) from rfl)
        have y5 := (blk_cell hY2 5).trans (show _ = some (.int .i64 z) from rfl)
        have y6 := (blk_cell hY2 6).trans (show _ = some (.int .i64 i) from rfl)
        have g2 := q2 _ hGL
        have g3 := q3 _ hGL
        have g4 := q4 _ hGL
        have g5 := q5 _ hGL
        have g6 := q6 _ hGL
        have g7 := q7 _ hGL
        have g8 := q8 _ hGL
        have hnq := hnq.out
        clear hY hY2
        go_wp2_with fail
        go_meet
        exact hGL
    case rest =>
      have hgc : G W0 wc := hcut
      have g9 := q9 _ hgc
      have g10 := q10 _ hgc
      have g11 := q11 _ hgc
      clear hown1 hg6 hnil1 hd2 hen2 hnq
      go_upto_if 159 with (go_at_call 23; refine (hen3.out _ hgc).mono ?_; rintro e u1 ⟨A1, d1, rfl, hown1, hg5, hnil1⟩)
      have hg6 := hgc.trans hg5
      clear g9 g10 g11 hgc hg5
      go_cut [25] (fun _ wx => G W0 wx)
      case first =>
        cases hok : smOk ⟨n, es, ks⟩ with
        | false =>
          have hno := smL_no hok
          rw [hno] at hown1
          generalize smL ⟨n, es, ks⟩ = el at *
          subst hno
          have t1 : decide (0 < (((([] : List UInt8).length) : Nat) : Int)) = false := rfl
          clear hown1 hok
          go_wp2_with fail
          go_meet
          exact hg6
        | true =>
          have hw := dStream_w hok (by have := hss.out.1; show n.size < _; omega) (by have := hss.out.2.1.1; show es.length < _; omega) (by have := hss.out.2.2.1; show ks.length < _; omega) (fun k hk => by have := hss.out.2.2.2 k hk; omega)
          have hpos : 0 < (smL ⟨n, es, ks⟩).length := by rw [smL_ok hok]; exact smBytes_pos _
          generalize smL ⟨n, es, ks⟩ = el at *
          have hdb := hw l
          have hd0 := hw []
          rw [List.append_nil] at hd0
          obtain ⟨r, hr, hrl⟩ := mod_nat cut hpos
          have hcu := rd_cut rd_stream hd0 hrl
          have hro := hrd.out el hpos (by omega)
          rw [hr] at hro
          have hsl1 := OwnL.self byteC_len hown1
          have hd1le := (OwnL.sl byteC_len hown1)
          obtain ⟨_, _, ee, hcd, _, _⟩ := hd1le
          cases ee
          have hne : el ≠ [] := by rintro rfl; simp at hpos
          have hfr := run_front hsl1 hne d1 r (by omega)
          have hA1 : A1 = none → el = [] := fun h => (h ▸ hsl1).of_none
          have hltk : (el.take r).length = r := by rw [List.length_take]; omega
          obtain ⟨m, hm⟩ : ∃ m, el ++ l = m := ⟨_, rfl⟩
          have hml : m.length - l.length = el.length ∧ m.length ≤ 520000 := by rw [← hm, List.length_append]; omega
          rw [hm] at hdb
          have t1 : 0 < (el.length : Int) := by omega
          have t1' : decide (0 < (el.length : Int)) = true := decide_eq_true t1
          have t3 : ((el.length : Int) != (el.length : Int)) = false := by simp
          replace hm := Lib.hid hm
          replace hml := Lib.hid hml
          replace hltk := Lib.hid hltk
          replace hne := Lib.hid hne
          replace hok := Lib.hid hok
          replace hro := Lib.hid hro
          replace hdb := Lib.hid hdb
          replace hcu := Lib.hid hcu
          clear hw hd0 hown1 hr
          replace hsl1 := Lib.hid hsl1
          go_wp2_with (first
            | (at_builtin; refine wpList_append_but byte_elem _ rfl (.tmp 161) (.tmp 162) rfl u1.heap.size _ [] rfl (OwnL.empty _ (blk_new _ _ _) (Nat.le_refl _)) u1.heap.size A1 d1 el rfl hA1 (hsl1.out.g (Nat.le_refl _) (G.new _ _)) (by simp; omega) (by simp; omega) (by simp) ?_; intro v6 w6 hown6 hk6 hb6; rw [List.nil_append] at hown6; have hg8 := KeepT.g hk6 (G.new u1 (.cells #[] 5)); obtain ⟨A6, c6, e6, _, _, _⟩ := OwnL.sl byteC_len hown6; subst e6; have hz6 := hg8.size; replace hown6 := Lib.hid hown6; clear hk6 hb6)
            | (at_builtin; refine wpList_append_but byte_elem _ rfl (.tmp 163) (.tmp 164) rfl u1.heap.size _ el rfl hown6.out w6.heap.size Al c8 l rfl hAl (hbe.out w6 (hg6.trans hg8)) (by omega) (by omega) hz6 ?_; intro v7 w7 hown7 hk7 hb7; rw [hm.out] at hown7; obtain ⟨A7, c7, e7, hc7, _, hsl7⟩ := OwnL.sl byteC_len hown7; subst e7; have hgu7 := KeepT.g hk7 hg8; have hg9 := hg6.trans hgu7; clear hk7 hb7 hown7; replace hsl7 := Lib.hid hsl7))
          refine (hd3.out w7 A7 c7 m hg9 hsl7.out hml.out.2 hc7).mono ?_
          rintro e w8 ⟨nm, Ae1, Ak1, ce1, ck1, es1, ks1, n1, e1, rfl, hb1, hs1, hp1, hg10⟩
          rw [hdb.out] at hb1
          simp only [smT, Prod.mk.injEq, Sm.mk.injEq, hml.out.1] at hb1
          obtain ⟨⟨rfl, rfl, rfl⟩, rfl, rfl⟩ := hb1
          have hgU8 := hgu7.trans hg10
          replace hg10 := hg9.trans hg10
          have hin1 := hp1.ins
          clear hown6 hsl7 hp1 hs1
          go_wp2_with fail
          have hY := blk_new w8 #[.string n, .slice Ae1 es.length ce1, .slice Ak1 ks.length ck1] 53
          have hgn := G.new w8 (.cells #[.string n, .slice Ae1 es.length ce1, .slice Ak1 ks.length ck1] 53)
          have hin2 := SmIn.more (hin1.g (Nat.le_refl _) hgn) hgn.size
          generalize w8.alloc (.cells #[.string n, .slice Ae1 es.length ce1, .slice Ak1 ks.length ck1] 53) = w9 at *
          generalize w8.heap.size = b8 at *
          have hG9 := hg10.trans hgn
          have hg9U : G u1 w9 := hgU8.trans hgn
          refine (hro.out _).mono ?_
          rintro e w9' ⟨rfl, rfl⟩
          have hcl := hd3.out w9 A1 d1 (el.take r) hG9 (((hsl1.out.g (Nat.le_refl _) hg9U).more hg9U.size).first r) (by rw [hltk.out]; omega) (by rw [hltk.out]; omega)
          rw [hltk.out] at hcl
          go_wp2_with fail
          refine hcl.mono ?_
          clear hcl
          rintro e w10 ⟨nm2, Ae2, Ak2, ce2, ck2, es2, ks2, n2, e2, rfl, hb2, _, _, hg12⟩
          rw [hcu.out] at hb2
          simp only [smT, Prod.mk.injEq, Sm.mk.injEq] at hb2
          obtain ⟨⟨rfl, rfl, rfl⟩, rfl, rfl⟩ := hb2
          simp only [List.length_nil]
          have hgz := G.new w10 (.cells #[.string ⟨#[]⟩, .slice Ae2 0 ce2, .slice Ak2 0 ck2] 53)
          have hGL := (hG9.trans hg12).trans hgz
          have hY2 := (hg12.trans hgz).blk hY
          have hin3 := SmIn.more (hin2.g (Nat.le_refl _) (hg12.trans hgz)) (hg12.trans hgz).size
          generalize hw11 : w10.alloc (.cells #[.string ⟨#[]⟩, .slice Ae2 0 ce2, .slice Ak2 0 ck2] 53) = w11 at *
          have y0 := (blk_cell hY2 0).trans (show _ = some (.string n) from rfl)
          have y1 := (blk_cell hY2 1).trans (show _ = some (.slice Ae1 es.length ce1) from rfl)
          have y2 := (blk_cell hY2 2).trans (show _ = some (.slice Ak1 ks.length ck1) from rfl)
          have hgb := G.new w11 (.cells #[.string n, .slice Ae1 es.length ce1, .slice Ak1 ks.length ck1] 53)
          have g9 := q9 _ (hGL.trans hgb)
          have g10 := q10 _ (hGL.trans hgb)
          have g11 := q11 _ (hGL.trans hgb)
          have hgb2 := G.new (w11.alloc (.cells #[.string n, .slice Ae1 es.length ce1, .slice Ak1 ks.length ck1] 53)) (.cells #[.string n, .slice Ae es.length ce, .slice Ak ks.length ck] 53)
          have hsc := hsb.out _ w11.heap.size (w11.heap.size + 1) Ae1 Ak1 ce1 ck1 ((hGL.trans hgb).trans hgb2) (SmIn.more (hin3.g (Nat.le_refl _) (hgb.trans hgb2)) (hgb.trans hgb2).size) (hgb2.blk (blk_new _ _ _)) (blk_new' _ _ _ _ (by simp))
          clear hY hY2 hin1 hin2 hin3
          go_upto_region 23 with fail
          clear hw11
          go_wp2_with fail
          refine hsc.mono ?_
          rintro e w12 ⟨rfl, hg13⟩
          go_wp2_with fail
          go_meet
          exact ((hGL.trans hgb).trans hgb2).trans hg13
      case rest =>
        have hgc : G W0 wc := hcut
        clear hown1 hg6 hnil1
        go_wp2_with (go_at_call 9; refine (awake9_any _).mono ?_; rintro e w9 ⟨rfl, hg9⟩)
        go_ret
        exact ⟨rfl, (hG0.trans hgc).trans hg9⟩
end Go.Proofs.YtilfgafdkiaaaaaDoor
/- How texts, numbers and bools read as the laws' arguments; what the listed tables give. No condition. -/
namespace Go.Proofs.YtilfgafdkiaaaaaDoor
open Go.RowKit Go.ChangeShapes Go.WideShapes Go.Lib

/-- An int of 64 bits. -/
def I64 (n : Int) : Prop := -9223372036854775808 ≤ n ∧ n ≤ 9223372036854775807
section
variable {H : Type} {enc : TypeId × Value → H} {w : World} {base b0 : Nat} {spare : Nat → Bool} {held : Bool} {fuel : Nat} {cs : List Value} {x : DataW H × List MemPlace} {r : Reach} {v : Value} {d : DataW H} {p : List MemPlace}
theorem i64_of_wf {n : Int} (h : (Lit.int .i64 n).wf = true) : I64 n := by
  have := bounds_i64 h
  exact ⟨by omega, by omega⟩
set_option maxRecDepth 100000 in
theorem in_int (hv : Value.okWide Tryd.prog w r b0 3 v) (h : DataW.Trod enc Tryd.prog w base spare held 3 v d p) : ∃ n, v = .int .i64 n ∧ I64 n := by
  obtain ⟨n, rfl⟩ := okWide_int Tryd.underlying3 hv
  obtain ⟨fuel, hf⟩ := h
  obtain ⟨n', e, _, hn⟩ := DataW.trod_int Tryd.underlying3 hf
  simp [Value.cells] at e
  subst e
  exact ⟨n, rfl, i64_of_wf hn⟩
set_option maxRecDepth 100000 in
theorem in_str (hv : Value.okWide Tryd.prog w r b0 9 v) (h : DataW.Trod enc Tryd.prog w base spare held 9 v d p) : ∃ s, v = .string s ∧ s.size ≤ 9223372036854775807 := by
  obtain ⟨s, rfl⟩ := okWide_string Tryd.underlying9 hv
  obtain ⟨fuel, hf⟩ := h
  obtain ⟨s', e, _, hn⟩ := DataW.trod_string Tryd.underlying9 hf
  simp [Value.cells] at e
  subst e
  exact ⟨s, rfl, by simpa [maxLen] using hn⟩
set_option maxRecDepth 100000 in
theorem in_bool (hv : Value.okWide Tryd.prog w r b0 4 v) (_h : DataW.Trod enc Tryd.prog w base spare held 4 v d p) : ∃ b, v = .bool b ∧ b = b := by
  obtain ⟨b, rfl⟩ := okWide_bool Tryd.underlying4 hv
  exact ⟨b, rfl, rfl⟩
end
theorem u8Extra : U8Extra Tryd.prog Tryd.lays196_ren := ⟨by kernel_rfl, by kernel_rfl, by kernel_rfl, by kernel_rfl, by kernel_rfl, by kernel_rfl, by kernel_rfl⟩
theorem accept_eq : (Rows.laid_unicode_utf8_acceptRanges : DataW Unit) = acceptData := by kernel_rfl
/-- Where the two tables are listed they lie so. -/
theorem tabs_of_laid {w : World} (h : laidMet Tryd.prog [("unicode/utf8.acceptRanges", Rows.laid_unicode_utf8_acceptRanges), ("unicode/utf8.first", Rows.laid_unicode_utf8_first)] w) : Tabs w :=
  utf8Tabs_of_readsT (U8Types.of196 Tryd.lays196) u8Extra (Pinned.utf8First_eq ▸ Lib.laidMet.reads h (.tail _ (.head _))) (accept_eq ▸ Lib.laidMet.reads h (.head _))
end Go.Proofs.YtilfgafdkiaaaaaDoor
/- Door seats: how the arguments of the laws read: texts, numbers, stamps, events, puts, batches, lists of these. No condition. -/
namespace Go.Proofs.YtilfgafdkiaaaaaDoor
open Go.RowKit Go.ChangeShapes Go.WideShapes Go.Deep

instance : Inhabited St := ⟨⟨0, 0, 0⟩⟩
instance : Inhabited Ev := ⟨⟨ByteArray.empty, 0, ByteArray.empty, default, 0⟩⟩
instance : Inhabited PutM := ⟨⟨ByteArray.empty, 0, none, 0, []⟩⟩
def St.ok (s : St) : Prop := I64 s.wall ∧ I64 s.logic ∧ I64 s.node
def Ev.ok (e : Ev) : Prop := e.stream.size ≤ 9223372036854775807 ∧ I64 e.version ∧ e.data.size ≤ 9223372036854775807 ∧ e.st.ok ∧ I64 e.index

section
variable {H : Type} {enc : TypeId × Value → H} {w : World} {base : Nat} {spare : Nat → Bool} {held : Bool} {fuel : Nat} {cs : List Value} {x : DataW H × List MemPlace}

set_option maxRecDepth 100000 in
theorem rdv_int (h : DataW.trod enc Tryd.prog w base spare held fuel 3 cs = some x) : ∃ n, cs = intC n ∧ I64 n := by
  obtain ⟨n, rfl, _, hw⟩ := DataW.trod_int Tryd.underlying3 h
  exact ⟨n, rfl, i64_of_wf hw⟩
set_option maxRecDepth 100000 in
theorem rdv_str (h : DataW.trod enc Tryd.prog w base spare held fuel 9 cs = some x) : ∃ s, cs = strC s ∧ s.size ≤ 9223372036854775807 := by
  obtain ⟨s, rfl, _, hs⟩ := DataW.trod_string Tryd.underlying9 h
  exact ⟨s, rfl, by simpa [maxLen] using hs⟩
set_option maxRecDepth 100000 in
/-- Three cells. -/
theorem list3 {l : List Value} (h : l.length = 3) : ∃ a b c, l = [a, b, c] := by
  match l, h with
  | [a, b, c], _ => exact ⟨a, b, c, rfl⟩
set_option maxRecDepth 100000 in
theorem list2 {l : List Value} (h : l.length = 2) : ∃ a b, l = [a, b] := by
  match l, h with
  | [a, b], _ => exact ⟨a, b, rfl⟩
set_option maxRecDepth 100000 in
theorem list7 {l : List Value} (h : l.length = 7) : ∃ a b c d e f g, l = [a, b, c, d, e, f, g] := by
  match l, h with
  | [a, b, c, d, e, f, g], _ => exact ⟨a, b, c, d, e, f, g, rfl⟩
set_option maxRecDepth 100000 in
/-- A field that is read: of type T, at offset off, of k cells. -/
theorem rdv_field {t : TypeId} {fs : Array Field} (ht : Tryd.prog.underlying t = some (.struct fs)) (h : DataW.trod enc Tryd.prog w base spare held fuel t cs = some x) :
    cs.length = Tryd.prog.cellsOf t ∧ ∃ n, ∀ (i : Nat) (T : TypeId) (off k : Nat), (fs[i]?).map (fun f => (f.type, f.offset)) = some (T, off) → Tryd.prog.cellsOf T = k → ∃ y, DataW.trod enc Tryd.prog w base spare held n T ((cs.drop off).take k) = some y := by
  obtain ⟨xs, n, _, _, hl, hx, hf⟩ := DataW.trod_struct ht h
  refine ⟨hl, n, fun i T off k hi0 hk => ?_⟩
  obtain ⟨f, hi, e⟩ := Option.map_eq_some_iff.1 hi0
  simp only [Prod.mk.injEq] at e
  obtain ⟨rfl, rfl⟩ := e
  subst hk
  have hi' : i < fs.size := (Array.getElem?_eq_some_iff.1 hi).1
  exact ⟨xs[i]'(by omega), (hf i f hi).trans (List.getElem?_eq_getElem (by omega))⟩
set_option maxRecDepth 100000 in
theorem cells_stamp : Tryd.prog.cellsOf 35 = 3 := by kernel_rfl
set_option maxRecDepth 100000 in
theorem cells_event : Tryd.prog.cellsOf 41 = 7 := by kernel_rfl
set_option maxRecDepth 100000 in
theorem cells_int : Tryd.prog.cellsOf 3 = 1 := by kernel_rfl
set_option maxRecDepth 100000 in
theorem cells_string : Tryd.prog.cellsOf 9 = 1 := by kernel_rfl
set_option maxRecDepth 100000 in
theorem rdv_st (h : DataW.trod enc Tryd.prog w base spare held fuel 35 cs = some x) : ∃ s : St, cs = s.cells ∧ s.ok := by
  obtain ⟨hl, n, hf⟩ := rdv_field Tryd.underlying35 h
  obtain ⟨a, b, c, rfl⟩ := list3 (hl.trans cells_stamp)
  obtain ⟨y0, h0⟩ := hf 0 3 0 1 rfl cells_int
  obtain ⟨y1, h1⟩ := hf 1 3 1 1 rfl cells_int
  obtain ⟨y2, h2⟩ := hf 2 3 2 1 rfl cells_int
  obtain ⟨n0, e0, w0⟩ := rdv_int h0
  obtain ⟨n1, e1, w1⟩ := rdv_int h1
  obtain ⟨n2, e2, w2⟩ := rdv_int h2
  simp [intC] at e0 e1 e2
  subst e0 e1 e2
  exact ⟨⟨n0, n1, n2⟩, rfl, w0, w1, w2⟩
set_option maxRecDepth 100000 in
theorem rdv_ev (h : DataW.trod enc Tryd.prog w base spare held fuel 41 cs = some x) : ∃ e : Ev, cs = e.cells ∧ e.ok := by
  obtain ⟨hl, n, hf⟩ := rdv_field Tryd.underlying41 h
  obtain ⟨a, b, c, d, e, f, g, rfl⟩ := list7 (hl.trans cells_event)
  obtain ⟨y0, h0⟩ := hf 0 9 0 1 rfl cells_string
  obtain ⟨y1, h1⟩ := hf 1 3 1 1 rfl cells_int
  obtain ⟨y2, h2⟩ := hf 2 9 2 1 rfl cells_string
  obtain ⟨y3, h3⟩ := hf 3 35 3 3 rfl cells_stamp
  obtain ⟨y4, h4⟩ := hf 4 3 6 1 rfl cells_int
  obtain ⟨n0, e0, w0⟩ := rdv_str h0
  obtain ⟨n1, e1, w1⟩ := rdv_int h1
  obtain ⟨n2, e2, w2⟩ := rdv_str h2
  obtain ⟨⟨s1, s2, s3⟩, e3, w3⟩ := rdv_st h3
  obtain ⟨n4, e4, w4⟩ := rdv_int h4
  simp [intC, strC, St.cells] at e0 e1 e2 e3 e4
  obtain ⟨e3, e5, e6⟩ := e3
  subst e0 e1 e2 e3 e4 e5 e6
  exact ⟨⟨n0, n1, n2, ⟨s1, s2, s3⟩, n4⟩, rfl, w0, w1, w2, w3, w4⟩

set_option maxRecDepth 100000 in
/-- A slice is read as the list of what its elements read as. -/
theorem rdv_slice {α : Type} [Inhabited α] {f : α → List Value} {sz : Nat} {ok : α → Prop} {t e : TypeId} (ht : Tryd.prog.underlying t = some (.slice e)) (hc : Tryd.prog.cellsOf e = sz) (hsz : 0 < sz) (hf : ∀ x, (f x).length = sz)
    (hrd : ∀ (n : Nat) (cs : List Value) (y : DataW H × List MemPlace), DataW.trod enc Tryd.prog w base spare held n e cs = some y → ∃ a, cs = f a ∧ ok a)
    (h : DataW.trod enc Tryd.prog w base spare held fuel t cs = some x) :
    ∃ (A : Option Addr) (c : Nat) (xs : List α), cs = [.slice A xs.length c] ∧ Sl f sz w w.heap.size A xs ∧ (∀ a ∈ xs, ok a) ∧ xs.length ≤ c ∧ c ≤ 9223372036854775807 := by
  rcases open_slice ht h with ⟨rfl, _⟩ | ⟨a, len, cap, m, n, D, Pl, rfl, _, hl, hm, hmm, _, hi⟩
  · exact ⟨none, 0, [], rfl, Sl.nil, by simp, by simp, by simp⟩
  have hlm : len ≤ m := by rw [hmm]; split <;> omega
  rw [hc] at hi
  obtain ⟨F, hF⟩ := choose_lt (α := α) (p := fun i y => w.cells? base (a.add (i * sz)) sz = some (f y) ∧ ok y) (n := len) (fun i hil => by
    obtain ⟨cs', h1, h2⟩ := hi i (by omega)
    obtain ⟨y, rfl, hy⟩ := hrd _ _ _ h2
    exact ⟨y, h1, hy⟩)
  refine ⟨some a, cap, (List.range len).map F, by simp, fun hne => ?_, fun y hy => ?_, by simpa using hl, by simpa [maxLen] using hm⟩
  · have hpos : 0 < len := by
      rcases Nat.eq_zero_or_pos len with h0 | h0
      · subst h0; simp at hne
      · exact h0
    obtain ⟨_, _, hcell0⟩ := World.cells?_some (hF 0 hpos).1
    have h00 := hcell0 0 hsz
    rw [List.getElem?_eq_getElem (by rw [hf]; exact hsz)] at h00
    rw [Nat.zero_mul, add_add] at h00
    have hspot : a.spot = none := by
      obtain ⟨b, o, spot⟩ := a
      simpa [Addr.add] using World.cell?_spot h00
    obtain ⟨b, o, spot⟩ := a
    simp only at hspot
    subst hspot
    refine ⟨b, o, rfl, ?_, fun k y hk j u hu => ?_⟩
    · simp only [Addr.add_lit, World.cell?] at h00
      rcases Nat.lt_or_ge b w.heap.size with h1 | h1
      · exact h1
      · rw [Array.getElem?_eq_none h1] at h00; simp at h00
    · obtain ⟨hkl, rfl⟩ := List.getElem?_eq_some_iff.1 hk
      simp only [List.length_map, List.length_range] at hkl
      simp only [List.getElem_map, List.getElem_range] at hu
      have hj : j < sz := by rw [← hf (F k)]; exact (List.getElem?_eq_some_iff.1 hu).1
      obtain ⟨_, _, hcell⟩ := World.cells?_some (hF k hkl).1
      have := hcell j hj
      rw [add_add, Addr.add_lit, ← Nat.add_assoc] at this
      rw [this, hu]
  · simp only [List.mem_map, List.mem_range] at hy
    obtain ⟨i, hil, rfl⟩ := hy
    exact (hF i hil).2
set_option maxRecDepth 100000 in
theorem cells_strs : Tryd.prog.cellsOf 27 = 1 := by kernel_rfl
set_option maxRecDepth 100000 in
theorem cells_puts : Tryd.prog.cellsOf 23 = 1 := by kernel_rfl
set_option maxRecDepth 100000 in
theorem cells_put : Tryd.prog.cellsOf 29 = 3 := by kernel_rfl
set_option maxRecDepth 100000 in
theorem cells_batch : Tryd.prog.cellsOf 25 = 2 := by kernel_rfl
set_option maxRecDepth 100000 in
theorem rdv_ints (h : DataW.trod enc Tryd.prog w base spare held fuel 37 cs = some x) :
    ∃ (A : Option Addr) (c : Nat) (xs : List Int), cs = [.slice A xs.length c] ∧ Sl intC 1 w w.heap.size A xs ∧ (∀ a ∈ xs, I64 a) ∧ xs.length ≤ c ∧ c ≤ 9223372036854775807 :=
  rdv_slice Tryd.underlying37 cells_int (by omega) intC_len (fun _ _ _ h => rdv_int h) h
set_option maxRecDepth 100000 in
theorem rdv_strs (h : DataW.trod enc Tryd.prog w base spare held fuel 27 cs = some x) :
    ∃ (A : Option Addr) (c : Nat) (xs : List ByteArray), cs = [.slice A xs.length c] ∧ Sl strC 1 w w.heap.size A xs ∧ (∀ a ∈ xs, a.size ≤ 9223372036854775807) ∧ xs.length ≤ c ∧ c ≤ 9223372036854775807 :=
  rdv_slice (ok := fun s : ByteArray => s.size ≤ 9223372036854775807) Tryd.underlying27 cells_string (by omega) strC_len (fun _ _ _ h => rdv_str h) h
set_option maxRecDepth 100000 in
theorem rdv_evs (h : DataW.trod enc Tryd.prog w base spare held fuel 38 cs = some x) :
    ∃ (A : Option Addr) (c : Nat) (xs : List Ev), cs = [.slice A xs.length c] ∧ Sl Ev.cells 7 w w.heap.size A xs ∧ (∀ a ∈ xs, a.ok) ∧ xs.length ≤ c ∧ c ≤ 9223372036854775807 :=
  rdv_slice Tryd.underlying38 cells_event (by omega) Ev.cells_len (fun _ _ _ h => rdv_ev h) h
def PutM.ok (w : World) (p : PutM) : Prop := p.stream.size ≤ 9223372036854775807 ∧ I64 p.expect ∧ Sl strC 1 w w.heap.size p.A p.data ∧ (∀ a ∈ p.data, a.size ≤ 9223372036854775807) ∧ p.data.length ≤ 9223372036854775807
set_option maxRecDepth 100000 in
theorem rdv_put (h : DataW.trod enc Tryd.prog w base spare held fuel 29 cs = some x) : ∃ p : PutM, cs = p.cells ∧ p.ok w := by
  obtain ⟨hl, n, hf⟩ := rdv_field Tryd.underlying29 h
  obtain ⟨a, b, c, rfl⟩ := list3 (hl.trans cells_put)
  obtain ⟨y0, h0⟩ := hf 0 9 0 1 rfl cells_string
  obtain ⟨y1, h1⟩ := hf 1 3 1 1 rfl cells_int
  obtain ⟨y2, h2⟩ := hf 2 27 2 1 rfl cells_strs
  obtain ⟨n0, e0, w0⟩ := rdv_str h0
  obtain ⟨n1, e1, w1⟩ := rdv_int h1
  obtain ⟨A, cc, xs, e2, w2, w3, w4, w5⟩ := rdv_strs h2
  simp [intC, strC] at e0 e1 e2
  subst e0 e1 e2
  exact ⟨⟨n0, n1, A, cc, xs⟩, rfl, w0, w1, w2, w3, by show xs.length ≤ _; omega⟩
set_option maxRecDepth 100000 in
theorem rdv_puts (h : DataW.trod enc Tryd.prog w base spare held fuel 23 cs = some x) :
    ∃ (A : Option Addr) (c : Nat) (ps : List PutM), cs = [.slice A ps.length c] ∧ PutsIn w w.heap.size A ps ∧ PutsOk ps ∧ (∀ p ∈ ps, I64 p.expect) := by
  obtain ⟨A, c, ps, rfl, h1, h2, h3, h4⟩ := rdv_slice (f := PutM.cells) (ok := PutM.ok w) Tryd.underlying23 cells_put (by omega) PutM.cells_len (fun _ _ _ h => rdv_put h) h
  exact ⟨A, c, ps, rfl, ⟨h1, fun p hp => (h2 p hp).2.2.1⟩, ⟨by omega, fun p hp => ⟨(h2 p hp).1, (h2 p hp).2.2.2.2, (h2 p hp).2.2.2.1⟩⟩, fun p hp => (h2 p hp).2.1⟩
set_option maxRecDepth 100000 in
theorem rdv_batch (h : DataW.trod enc Tryd.prog w base spare held fuel 25 cs = some x) :
    ∃ (key : ByteArray) (A : Option Addr) (c : Nat) (ps : List PutM), cs = [.string key, .slice A ps.length c] ∧ key.size ≤ 9223372036854775807 ∧ PutsIn w w.heap.size A ps ∧ PutsOk ps ∧ (∀ p ∈ ps, I64 p.expect) := by
  obtain ⟨hl, n, hf⟩ := rdv_field Tryd.underlying25 h
  obtain ⟨a, b, rfl⟩ := list2 (hl.trans cells_batch)
  obtain ⟨y0, h0⟩ := hf 0 9 0 1 rfl cells_string
  obtain ⟨y1, h1⟩ := hf 1 23 1 1 rfl cells_puts
  obtain ⟨n0, e0, w0⟩ := rdv_str h0
  obtain ⟨A, c, ps, e1, w1, w2, w3⟩ := rdv_puts h1
  simp [strC] at e0 e1
  subst e0 e1
  exact ⟨n0, A, c, ps, rfl, w0, w1, w2, w3⟩
set_option maxRecDepth 100000 in
theorem cells_u8 : Tryd.prog.cellsOf 5 = 1 := by kernel_rfl
set_option maxRecDepth 100000 in
theorem cells_evs : Tryd.prog.cellsOf 38 = 1 := by kernel_rfl
set_option maxRecDepth 100000 in
theorem cells_kns : Tryd.prog.cellsOf 51 = 1 := by kernel_rfl
set_option maxRecDepth 100000 in
theorem cells_kn : Tryd.prog.cellsOf 91 = 5 := by kernel_rfl
set_option maxRecDepth 100000 in
theorem cells_sm : Tryd.prog.cellsOf 53 = 3 := by kernel_rfl
set_option maxRecDepth 100000 in
theorem list5 {l : List Value} (h : l.length = 5) : ∃ a b c d e, l = [a, b, c, d, e] := by
  match l, h with
  | [a, b, c, d, e], _ => exact ⟨a, b, c, d, e, rfl⟩
instance : Inhabited Kn := ⟨⟨ByteArray.empty, 0, default⟩⟩
set_option maxRecDepth 100000 in
theorem rdv_u8 (h : DataW.trod enc Tryd.prog w base spare held fuel 5 cs = some x) : ∃ b : UInt8, cs = byteC b ∧ True := by
  obtain ⟨n, rfl, _, hw⟩ := DataW.trod_int Tryd.underlying5 h
  have h1 := bounds_u8 hw
  refine ⟨UInt8.ofNat n.toNat, ?_, trivial⟩
  unfold byteC
  rw [nat_u8 (by omega)]
  congr 2
  omega
set_option maxRecDepth 100000 in
theorem rdv_bytes (h : DataW.trod enc Tryd.prog w base spare held fuel 26 cs = some x) :
    ∃ (A : Option Addr) (c : Nat) (xs : List UInt8), cs = [.slice A xs.length c] ∧ Sl byteC 1 w w.heap.size A xs ∧ xs.length ≤ c ∧ c ≤ 9223372036854775807 := by
  obtain ⟨A, c, xs, e, h1, _, h2, h3⟩ := rdv_slice (ok := fun _ : UInt8 => True) Tryd.underlying26 cells_u8 (by omega) byteC_len (fun _ _ _ h => rdv_u8 h) h
  exact ⟨A, c, xs, e, h1, h2, h3⟩
def Kn.ok (k : Kn) : Prop := k.key.size ≤ 9223372036854775807 ∧ I64 k.first ∧ k.st.ok
set_option maxRecDepth 100000 in
theorem rdv_kn (h : DataW.trod enc Tryd.prog w base spare held fuel 91 cs = some x) : ∃ k : Kn, cs = k.cells ∧ k.ok := by
  obtain ⟨hl, n, hf⟩ := rdv_field Tryd.underlying91 h
  obtain ⟨a, b, c, d, e, rfl⟩ := list5 (hl.trans cells_kn)
  obtain ⟨y0, h0⟩ := hf 0 9 0 1 rfl cells_string
  obtain ⟨y1, h1⟩ := hf 1 3 1 1 rfl cells_int
  obtain ⟨y2, h2⟩ := hf 2 35 2 3 rfl cells_stamp
  obtain ⟨n0, e0, w0⟩ := rdv_str h0
  obtain ⟨n1, e1, w1⟩ := rdv_int h1
  obtain ⟨⟨s1, s2, s3⟩, e2, w2⟩ := rdv_st h2
  simp [intC, strC, St.cells] at e0 e1 e2
  obtain ⟨e2, e3, e4⟩ := e2
  subst e0 e1 e2 e3 e4
  exact ⟨⟨n0, n1, ⟨s1, s2, s3⟩⟩, rfl, w0, w1, w2⟩
set_option maxRecDepth 100000 in
theorem rdv_kns (h : DataW.trod enc Tryd.prog w base spare held fuel 51 cs = some x) :
    ∃ (A : Option Addr) (c : Nat) (xs : List Kn), cs = [.slice A xs.length c] ∧ Sl Kn.cells 5 w w.heap.size A xs ∧ (∀ a ∈ xs, a.ok) ∧ xs.length ≤ c ∧ c ≤ 9223372036854775807 :=
  rdv_slice Tryd.underlying51 cells_kn (by omega) Kn.cells_len (fun _ _ _ h => rdv_kn h) h
set_option maxRecDepth 100000 in
/-- A stream that is read. -/
theorem rdv_sm (h : DataW.trod enc Tryd.prog w base spare held fuel 53 cs = some x) :
    ∃ (n : ByteArray) (A A2 : Option Addr) (c c2 : Nat) (es : List Ev) (ks : List Kn), cs = [.string n, .slice A es.length c, .slice A2 ks.length c2] ∧ n.size ≤ 9223372036854775807 ∧ Sl Ev.cells 7 w w.heap.size A es ∧ (∀ e ∈ es, e.ok) ∧ es.length ≤ c ∧ c ≤ 9223372036854775807 ∧
      Sl Kn.cells 5 w w.heap.size A2 ks ∧ (∀ k ∈ ks, k.ok) ∧ ks.length ≤ c2 ∧ c2 ≤ 9223372036854775807 := by
  obtain ⟨hl, n, hf⟩ := rdv_field Tryd.underlying53 h
  obtain ⟨a, b, c, rfl⟩ := list3 (hl.trans cells_sm)
  obtain ⟨y0, h0⟩ := hf 0 9 0 1 rfl cells_string
  obtain ⟨y1, h1⟩ := hf 1 38 1 1 rfl cells_evs
  obtain ⟨y2, h2⟩ := hf 2 51 2 1 rfl cells_kns
  obtain ⟨n0, e0, w0⟩ := rdv_str h0
  obtain ⟨A, cc, es, e1, w1⟩ := rdv_evs h1
  obtain ⟨A2, c2, ks, e2, w2⟩ := rdv_kns h2
  simp [strC] at e0 e1 e2
  subst e0 e1 e2
  exact ⟨n0, A, A2, cc, c2, es, ks, rfl, w0, w1.1, w1.2.1, w1.2.2.1, w1.2.2.2, w2.1, w2.2.1, w2.2.2.1, w2.2.2.2⟩
end

/-! The values of the parameters themselves. -/
section
variable {H : Type} {enc : TypeId × Value → H} {w : World} {base b0 : Nat} {spare : Nat → Bool} {held : Bool} {r : Reach} {v : Value} {d : DataW H} {p : List MemPlace}
set_option maxRecDepth 100000 in
theorem in_ints (hv : Value.okWide Tryd.prog w r b0 37 v) (h : DataW.Trod enc Tryd.prog w base spare held 37 v d p) :
    ∃ (A : Option Addr) (c : Nat) (xs : List Int), v = .slice A xs.length c ∧ Sl intC 1 w w.heap.size A xs ∧ (∀ a ∈ xs, I64 a) ∧ xs.length ≤ c ∧ c ≤ 9223372036854775807 := by
  obtain ⟨A, n, c, rfl⟩ := okWide_slice Tryd.underlying37 hv
  obtain ⟨fuel, hf⟩ := h
  obtain ⟨A', c', xs, e, hr⟩ := rdv_ints hf
  simp [Value.cells] at e
  obtain ⟨rfl, rfl, rfl⟩ := e
  exact ⟨_, _, xs, rfl, hr⟩
set_option maxRecDepth 100000 in
theorem in_st (hv : Value.okWide Tryd.prog w r b0 35 v) (h : DataW.Trod enc Tryd.prog w base spare held 35 v d p) : ∃ s : St, v = .agg #[.int .i64 s.wall, .int .i64 s.logic, .int .i64 s.node] ∧ s.ok := by
  obtain ⟨cs, rfl, hsz⟩ := okWide_struct Tryd.underlying35 hv
  obtain ⟨fuel, hf⟩ := h
  obtain ⟨s, e, hs⟩ := rdv_st hf
  obtain ⟨l⟩ := cs
  simp [Value.cells] at e
  subst e
  exact ⟨s, rfl, hs⟩
set_option maxRecDepth 100000 in
theorem in_batch (hv : Value.okWide Tryd.prog w r b0 25 v) (h : DataW.Trod enc Tryd.prog w base spare held 25 v d p) :
    ∃ (key : ByteArray) (A : Option Addr) (c : Nat) (ps : List PutM), v = .agg #[.string key, .slice A ps.length c] ∧ key.size ≤ 9223372036854775807 ∧ PutsIn w w.heap.size A ps ∧ PutsOk ps ∧ (∀ p ∈ ps, I64 p.expect) := by
  obtain ⟨cs, rfl, hsz⟩ := okWide_struct Tryd.underlying25 hv
  obtain ⟨fuel, hf⟩ := h
  obtain ⟨key, A, c, ps, e, hs⟩ := rdv_batch hf
  obtain ⟨l⟩ := cs
  simp [Value.cells] at e
  subst e
  exact ⟨key, A, c, ps, rfl, hs⟩
set_option maxRecDepth 100000 in
theorem in_bytes (hv : Value.okWide Tryd.prog w r b0 26 v) (h : DataW.Trod enc Tryd.prog w base spare held 26 v d p) :
    ∃ (A : Option Addr) (c : Nat) (xs : List UInt8), v = .slice A xs.length c ∧ Sl byteC 1 w w.heap.size A xs ∧ xs.length ≤ c ∧ c ≤ 9223372036854775807 := by
  obtain ⟨A, n, c, rfl⟩ := okWide_slice Tryd.underlying26 hv
  obtain ⟨fuel, hf⟩ := h
  obtain ⟨A', c', xs, e, hr⟩ := rdv_bytes hf
  simp [Value.cells] at e
  obtain ⟨rfl, rfl, rfl⟩ := e
  exact ⟨_, _, xs, rfl, hr⟩
set_option maxRecDepth 100000 in
theorem in_ev (hv : Value.okWide Tryd.prog w r b0 41 v) (h : DataW.Trod enc Tryd.prog w base spare held 41 v d p) : ∃ x : Ev, v = .agg x.cells.toArray ∧ x.ok := by
  obtain ⟨cs, rfl, hsz⟩ := okWide_struct Tryd.underlying41 hv
  obtain ⟨fuel, hf⟩ := h
  obtain ⟨x, e, hx⟩ := rdv_ev hf
  obtain ⟨l⟩ := cs
  simp [Value.cells] at e
  subst e
  exact ⟨x, rfl, hx⟩
set_option maxRecDepth 100000 in
theorem in_sm (hv : Value.okWide Tryd.prog w r b0 53 v) (h : DataW.Trod enc Tryd.prog w base spare held 53 v d p) :
    ∃ (n : ByteArray) (A A2 : Option Addr) (c c2 : Nat) (es : List Ev) (ks : List Kn), v = .agg #[.string n, .slice A es.length c, .slice A2 ks.length c2] ∧ n.size ≤ 9223372036854775807 ∧ Sl Ev.cells 7 w w.heap.size A es ∧ (∀ e ∈ es, e.ok) ∧ es.length ≤ c ∧ c ≤ 9223372036854775807 ∧
      Sl Kn.cells 5 w w.heap.size A2 ks ∧ (∀ k ∈ ks, k.ok) ∧ ks.length ≤ c2 ∧ c2 ≤ 9223372036854775807 := by
  obtain ⟨cs, rfl, hsz⟩ := okWide_struct Tryd.underlying53 hv
  obtain ⟨fuel, hf⟩ := h
  obtain ⟨n, A, A2, c, c2, es, ks, e, hr⟩ := rdv_sm hf
  obtain ⟨l⟩ := cs
  simp [Value.cells] at e
  subst e
  exact ⟨n, A, A2, c, c2, es, ks, rfl, hr⟩
end
end Go.Proofs.YtilfgafdkiaaaaaDoor
/- penstocklaw9.EventBack returns true for every input and leaves it as it was; the card is tied to the program's text. No condition beyond the card's own: utf8's two tables lie as the library lays them. -/
namespace Go.Proofs.YtilfgafdkiaaaaaDoor.eventBack
open Go.RowKit


/-! The row's step, by the guide's shell. -/
open Go.ChangeShapes Go.WideShapes Go.ChangeAt
theorem own : ownKnob Tryd.prog.godebug = none := by kernel_rfl
theorem laidOut : laidOutB Tryd.prog = true := by kernel_rfl
set_option maxRecDepth 100000 in
theorem lifted (os : Os) (started : os.Started) (H : Type) (enc : TypeId × Value → H) :
    ReturnsInHanded {} Tryd.checked os 8 .any (fun w args => (Rows.eventBackSpec.pre enc Tryd.prog Tryd.f8 [] false w args ∧ laidMetH Tryd.prog Rows.eventBackRow.laid w) ∧ sizedMet enc Tryd.prog Tryd.f8 (OpenSpec.ofChange Rows.eventBackSpec) false w args) (Rows.eventBackSpec.post enc Tryd.prog Tryd.f8 false true false false) := by
  refine returnsInHanded_of_change_and (C := Tryd.checked) (X := fun w _ => laidMetH Tryd.prog Rows.eventBackRow.laid w) (fun _ _ _ hh h => h.of_heap hh) own started (by kernel_rfl) Tryd.func8
    (ChangeSpec.witness_shaped (enc := enc) (C := Tryd.checked) (os := os) (X := fun w _ => laidMetH Tryd.prog Rows.eventBackRow.laid w) false (World.laidAll Tryd.prog os Rows.eventBackRow.laid) #[.agg #[.string ByteArray.empty, .slice none 0 0], .agg #[.string ByteArray.empty, .int .i64 0, .string ByteArray.empty, .int .i64 0, .int .i64 0, .int .i64 0, .int .i64 0], .agg #[.string ByteArray.empty, .slice none 0 0, .slice none 0 0], .slice none 0 0, .int .i64 0] 8 (World.laidAll_os _ _ _)
      (World.shaped_of_ZipB (by kernel_rfl) (by kernel_rfl)) (by kernel_rfl) (by kernel_rfl) (by kernel_rfl)
      (by rw [MakeChecks.laidMetH_plain _ _ _ (by kernel_rfl)]; exact laidMet_laidAll _ (by kernel_rfl) (by kernel_rfl))) ?_
  intro W base args ds gs before hval0 hW _ _ hL _
  have hval : ∀ (j : Nat) t v, Tryd.f8.params[j]? = some t → args[j]? = some v → Value.okWide Tryd.prog W .any base t v := hval0
  have hW' := hW
  obtain ⟨p, q, hA0, hV, rfl, hfz, hnd⟩ := hW
  have hA : DataW.TrodAll enc Tryd.prog W 0 (fun _ => true) true Tryd.f8.params.toList args.toList ds p := hA0
  rw [Tryd.params8] at hA hval
  obtain ⟨v0, vs0, d0, ds0, p0, q0, hargs, rfl, rfl, h0, r0⟩ := trodAll_cons hA
  obtain ⟨v1, vs1, d1, ds1, p1, q1, rfl, rfl, rfl, h1, r1⟩ := trodAll_cons r0
  obtain ⟨v2, vs2, d2, ds2, p2, q2, rfl, rfl, rfl, h2, r2⟩ := trodAll_cons r1
  obtain ⟨v3, vs3, d3, ds3, p3, q3, rfl, rfl, rfl, h3, r3⟩ := trodAll_cons r2
  obtain ⟨v4, vs4, d4, ds4, p4, q4, rfl, rfl, rfl, h4, r4⟩ := trodAll_cons r3
  obtain ⟨rfl, rfl, rfl⟩ := trodAll_nil r4
  obtain rfl : args = #[v0, v1, v2, v3, v4] := by cases args; simp_all
  obtain ⟨rfl, rfl⟩ := trodVars_none hV
  have lt0 : ∀ x ∈ p0, x.block < W.heap.size := by obtain ⟨m, hm⟩ := h0; exact DataW.trod_lt m _ _ _ hm
  have lt1 : ∀ x ∈ p1, x.block < W.heap.size := by obtain ⟨m, hm⟩ := h1; exact DataW.trod_lt m _ _ _ hm
  have lt2 : ∀ x ∈ p2, x.block < W.heap.size := by obtain ⟨m, hm⟩ := h2; exact DataW.trod_lt m _ _ _ hm
  have lt3 : ∀ x ∈ p3, x.block < W.heap.size := by obtain ⟨m, hm⟩ := h3; exact DataW.trod_lt m _ _ _ hm
  have lt4 : ∀ x ∈ p4, x.block < W.heap.size := by obtain ⟨m, hm⟩ := h4; exact DataW.trod_lt m _ _ _ hm
  obtain ⟨key, A, c, ps, rfl, hk, hin, ho, hx⟩ := in_batch (hval 0 _ _ rfl rfl) h0
  obtain ⟨⟨s, v, d, ⟨x, y, z⟩, i⟩, rfl, hev⟩ := in_ev (hval 1 _ _ rfl rfl) h1
  obtain ⟨n, Ae, Ak, ce, ck, es, ks, rfl, hn, he0, he2, hec, hec8, hk0, hk2, hkc, hkc8⟩ := in_sm (hval 2 _ _ rfl rfl) h2
  obtain ⟨Al, c8, l, rfl, hsl, hcap, hc8⟩ := in_bytes (hval 3 _ _ rfl rfl) h3
  obtain ⟨cut, rfl, hcut⟩ := in_int (hval 4 _ _ rfl rfl) h4
  have hT : Tabs W := tabs_of_laid (by rw [MakeChecks.laidMetH_plain _ _ _ (by kernel_rfl)] at hL; exact hL)
  clear hA0 hval0
  refine (eventBack_walk key ps A c s d v x y z i n es ks Ae Ak ce ck l Al c8 cut W hk hin ho hx hev.1 hev.2.2.1 hn ⟨he0, hk0⟩ (by omega) (fun e he => ⟨(he2 e he).1, (he2 e he).2.2.1⟩) ⟨by omega, fun k hk => (hk2 k hk).1⟩ hsl hcap hc8 hcut hT).mono fun e W' ⟨he, hg⟩ => ?_
  have bel : Below W.heap.size W W' := hg
  subst he
  exact ⟨_, rfl, _, _, _, [], _, [], hW', trodAll_mk1 (shut_bool Tryd.underlying4 _), (trodAll_cons_mk (Below.trod laidOut (by kernel_rfl) (of_decide_eq_true (by kernel_rfl)) h0 bel lt0) (trodAll_cons_mk (Below.trod laidOut (by kernel_rfl) (of_decide_eq_true (by kernel_rfl)) h1 bel lt1) (trodAll_cons_mk (Below.trod laidOut (by kernel_rfl) (of_decide_eq_true (by kernel_rfl)) h2 bel lt2) (trodAll_cons_mk (Below.trod laidOut (by kernel_rfl) (of_decide_eq_true (by kernel_rfl)) h3 bel lt3) (trodAll_cons_mk (Below.trod laidOut (by kernel_rfl) (of_decide_eq_true (by kernel_rfl)) h4 bel lt4) (trodAll_mk0)))))), rfl, bel.frame _, fun h => by cases h⟩

theorem over : Rows.eventBackRow.holds Tryd.pinned (OpenSpec.ofChange Rows.eventBackSpec) :=
  OpenClaim.holds_of_wide 8 Tryd.f8 rfl rfl rfl rfl rfl rfl rfl ⟨rfl, rfl, rfl, rfl, rfl⟩ rfl rfl rfl rfl rfl (by kernel_rfl) Tryd.func8 (by kernel_rfl)
    (of_decide_eq_true (by kernel_rfl)) (by unfold Func.isWrapper; first | (rw [if_pos (by decide +kernel)]; kernel_rfl) | (rw [if_neg (by decide +kernel)]; exact ⟨rfl, rfl⟩))
    (fun os started H enc _ => lifted os started H enc)

/-- The card. -/
theorem proved : Rows.EventBackCardSaid :=
  Claim7.holds_tied_plain_at .later [] _ _ _ _ over (fun _ h => by cases h) (by kernel_rfl) (fun _ h => by cases h) eventBack_row_tie rfl ⟨rfl, rfl⟩ (by kernel_rfl) rfl
    (fun f fn hf hfn => by
      obtain rfl : f = 8 := Option.some.inj ((show Tryd.prog.funcNamed "penstock/penstocklaw9.EventBack" = some 8 by kernel_rfl).symm.trans hf) |>.symm
      obtain rfl : fn = Tryd.f8 := (Option.some.inj (Tryd.func8.symm.trans hfn)).symm
      exact ⟨by kernel_rfl, fun j t ht => by
        have hall : (Tryd.f8.params.toList.all fun u => !Tryd.prog.wantsStandIn u) = true := by kernel_rfl
        have hm : t ∈ Tryd.f8.params.toList := by simpa using Array.mem_of_getElem? ht
        exact (show Tryd.prog.wantsStandIn t = false by simpa using List.all_eq_true.1 hall t hm)⟩)
    (by kernel_rfl)
#print axioms proved
end Go.Proofs.YtilfgafdkiaaaaaDoor.eventBack

/- penstock/penstocklaw10.only: a struct with the fields alone that its kind names. No condition. -/
import Derived.Test.YtheogchkelmeeaaDoorM40MsgFirst
import Derived.Test.YtheogchkelmeeaaDoorM34MsgFirst
import Derived.Test.YtheogchkelmeeaaDoorM1MsgFirst
import Derived.Test.YtheogchkelmeeaaDoorM3MsgFirst
import Derived.Deep.CutBlock
namespace Go.Proofs.YtheogchkelmeeaaDoor
open Go.RowKit

/-- A struct that is filled field by field, beside one that lies still. -/
structure On (T : TypeId) (X Z : Nat) (zs : Array Value) (w : World) (cs : Array Value) (W : World) : Prop where
  x : W.heap[X]? = some (.cells cs T (0, 0))
  z : W.heap[Z]? = some (.cells zs T (0, 0))
  g : G w W
  ne : Z ≠ X ∧ w.heap.size ≤ X
theorem On.set {T : TypeId} {X Z : Nat} {zs cs : Array Value} {w W : World} (h : On T X Z zs w cs W) (o : Nat) (v : Value) : On T X Z zs w (cs.setIfInBounds o v) (W.setCell ⟨X, o, none⟩ v) :=
  ⟨by rw [blk_put h.x], (but_set W X o v).blk h.z h.ne.1, h.g.set h.ne.2 v, h.ne⟩
theorem On.as {T : TypeId} {X Z : Nat} {zs cs cs' : Array Value} {w W : World} (h : On T X Z zs w cs W) (he : cs = cs') : On T X Z zs w cs' W := he ▸ h
set_option maxRecDepth 100000 in
set_option maxHeartbeats 8000000 in
theorem monly_any (r : MsgM) (w : World) : Calls Tryd.prog 10 #[.agg r.cells] w fun e w' => e = .returned (.agg r.only.cells) ∧ G w w' := by
  have hgA := (G.new w (.cells r.cells 36)).alloc (.cells #[.int .i64 0, .int .i64 0, .int .i64 0, .int .i64 0, .string ⟨#[]⟩, .slice none 0 0, .int .i64 0, .int .i64 0, .int .i64 0, .int .i64 0, .slice none 0 0, .bool false, .int .i64 0, .int .i64 0, .int .i64 0, .int .i64 0, .slice none 0 0, .int .i64 0, .int .i64 0, .slice none 0 0, .slice none 0 0] 36)
  have B0 := (G.new (w.alloc (.cells r.cells 36)) (.cells #[.int .i64 0, .int .i64 0, .int .i64 0, .int .i64 0, .string ⟨#[]⟩, .slice none 0 0, .int .i64 0, .int .i64 0, .int .i64 0, .int .i64 0, .slice none 0 0, .bool false, .int .i64 0, .int .i64 0, .int .i64 0, .int .i64 0, .slice none 0 0, .int .i64 0, .int .i64 0, .slice none 0 0, .slice none 0 0] 36)).blk (blk_new w r.cells 36)
  have D0 := blk_new' (w.alloc (.cells r.cells 36)) #[.int .i64 0, .int .i64 0, .int .i64 0, .int .i64 0, .string ⟨#[]⟩, .slice none 0 0, .int .i64 0, .int .i64 0, .int .i64 0, .int .i64 0, .slice none 0 0, .bool false, .int .i64 0, .int .i64 0, .int .i64 0, .int .i64 0, .slice none 0 0, .int .i64 0, .int .i64 0, .slice none 0 0, .slice none 0 0] 36 (w.heap.size + 1) (by simp)
  have hsz : ((w.alloc (.cells r.cells 36)).alloc (.cells #[.int .i64 0, .int .i64 0, .int .i64 0, .int .i64 0, .string ⟨#[]⟩, .slice none 0 0, .int .i64 0, .int .i64 0, .int .i64 0, .int .i64 0, .slice none 0 0, .bool false, .int .i64 0, .int .i64 0, .int .i64 0, .int .i64 0, .slice none 0 0, .int .i64 0, .int .i64 0, .slice none 0 0, .slice none 0 0] 36)).heap.size = w.heap.size + 1 + 1 := by simp
  replace hgA := Lib.hid hgA
  replace B0 := Lib.hid B0
  replace D0 := Lib.hid D0
  replace hsz := Lib.hid hsz
  go_enter Tryd.func10, Tryd.ntmps10
  go_upto_region 1 with fail
  generalize (w.alloc (.cells r.cells 36)).alloc (.cells #[.int .i64 0, .int .i64 0, .int .i64 0, .int .i64 0, .string ⟨#[]⟩, .slice none 0 0, .int .i64 0, .int .i64 0, .int .i64 0, .int .i64 0, .slice none 0 0, .bool false, .int .i64 0, .int .i64 0, .int .i64 0, .int .i64 0, .slice none 0 0, .int .i64 0, .int .i64 0, .slice none 0 0, .slice none 0 0] 36) = W0 at *
  have g0 := (blk_cell B0.out 0).trans (show _ = some (.int .i64 r.kind) from rfl)
  obtain ⟨W1, SR1, C1, hb1, hG1⟩ := store_blk (P := Tryd.prog) (T := 36) (cs := (MsgM.zero r.kind).cells) (blk_new W0 #[.int .i64 0, .int .i64 0, .int .i64 0, .int .i64 0, .string ⟨#[]⟩, .slice none 0 0, .int .i64 0, .int .i64 0, .int .i64 0, .int .i64 0, .slice none 0 0, .bool false, .int .i64 0, .int .i64 0, .int .i64 0, .int .i64 0, .slice none 0 0, .int .i64 0, .int .i64 0, .slice none 0 0, .slice none 0 0] 36) rfl (by kernel_rfl) (by kernel_rfl)
  have hg1 := G.new W0 (.cells #[.int .i64 0, .int .i64 0, .int .i64 0, .int .i64 0, .string ⟨#[]⟩, .slice none 0 0, .int .i64 0, .int .i64 0, .int .i64 0, .int .i64 0, .slice none 0 0, .bool false, .int .i64 0, .int .i64 0, .int .i64 0, .int .i64 0, .slice none 0 0, .int .i64 0, .int .i64 0, .slice none 0 0, .slice none 0 0] 36)
  have hon : On 36 (w.heap.size + 1 + 1) (w.heap.size + 1) #[.int .i64 0, .int .i64 0, .int .i64 0, .int .i64 0, .string ⟨#[]⟩, .slice none 0 0, .int .i64 0, .int .i64 0, .int .i64 0, .int .i64 0, .slice none 0 0, .bool false, .int .i64 0, .int .i64 0, .int .i64 0, .int .i64 0, .slice none 0 0, .int .i64 0, .int .i64 0, .slice none 0 0, .slice none 0 0] w (MsgM.zero r.kind).cells W1 := ⟨by rw [← hsz.out]; exact C1, hb1.blk (hg1.blk D0.out) (by have := hsz.out; omega), hG1 w (hgA.out.trans hg1) (by have := hsz.out; omega), by omega, by omega⟩
  have B1 := hb1.blk (hg1.blk B0.out) (by have := hsz.out; omega)
  rw [hsz.out] at SR1
  replace hon := Lib.hid hon
  replace B1 := Lib.hid B1
  clear C1 hb1 hG1 hg1 hgA B0 D0
  go_cut [3] (fun v wz => v = .pointer (some ⟨w.heap.size + 1 + 1, 0, none⟩) ∧ wz = W1)
  case first =>
    have hsz := hsz.out
    go_wp2_with (refine wpList_store_at (ty := 36) rfl (by kernel_rfl) rfl rfl SR1 ?_)
    go_meet
    exact ⟨rfl, rfl⟩
  case rest =>
    obtain ⟨rfl, rfl⟩ := hcut
    clear SR1 g0 hsz
    have g0 := (blk_cell B1.out 0).trans (show _ = some (.int .i64 r.kind) from rfl)
    rename_i hK
    refine hK _ _ ?_
    refine wp_seq_k fun K2 hK2 => ?_
    go_cut [] (fun wz => On 36 (w.heap.size + 1 + 1) (w.heap.size + 1) #[.int .i64 0, .int .i64 0, .int .i64 0, .int .i64 0, .string ⟨#[]⟩, .slice none 0 0, .int .i64 0, .int .i64 0, .int .i64 0, .int .i64 0, .slice none 0 0, .bool false, .int .i64 0, .int .i64 0, .int .i64 0, .int .i64 0, .slice none 0 0, .int .i64 0, .int .i64 0, .slice none 0 0, .slice none 0 0] w r.only.cells wz)
    case first =>
      clear hK
      have cfr : ∀ o, wc.frozen? ⟨w.heap.size + 1 + 1, o, none⟩ = false := fun o => by simp [World.frozen?, hon.out.x]
      have tab := mkind_cases r.kind
      rcases tab with hk | hk | hk | hk | hk | hk | hk | hk | hk | hk
      · have ho : r.only = MsgM.o1 r := MsgM.only_1 hk
        have t1 : (r.kind == 1) = true := by rw [hk]; rfl
        have g1 := (blk_cell B1.out 1).trans (show _ = some (.int .i64 (r.x1)) from rfl)
        have y1 := (blk_cell hon.out.x 1).trans (show _ = some (.int .i64 0) from rfl)
        have g2 := (blk_cell B1.out 2).trans (show _ = some (.int .i64 (r.x2)) from rfl)
        have y2 := (blk_cell hon.out.x 2).trans (show _ = some (.int .i64 0) from rfl)
        have g3 := (blk_cell B1.out 3).trans (show _ = some (.int .i64 (r.x3)) from rfl)
        have y3 := (blk_cell hon.out.x 3).trans (show _ = some (.int .i64 0) from rfl)
        have g4 := (blk_cell B1.out 4).trans (show _ = some (.string r.key) from rfl)
        have y4 := (blk_cell hon.out.x 4).trans (show _ = some (.string ⟨#[]⟩) from rfl)
        have g5 := (blk_cell B1.out 5).trans (show _ = some (.slice r.Ap r.ps.length r.cp) from rfl)
        have y5 := (blk_cell hon.out.x 5).trans (show _ = some (.slice none 0 0) from rfl)
        have g6 := (blk_cell B1.out 6).trans (show _ = some (.int .i64 (r.st.wall)) from rfl)
        have y6 := (blk_cell hon.out.x 6).trans (show _ = some (.int .i64 0) from rfl)
        have g7 := (blk_cell B1.out 7).trans (show _ = some (.int .i64 (r.st.logic)) from rfl)
        have y7 := (blk_cell hon.out.x 7).trans (show _ = some (.int .i64 0) from rfl)
        have g8 := (blk_cell B1.out 8).trans (show _ = some (.int .i64 (r.st.node)) from rfl)
        have y8 := (blk_cell hon.out.x 8).trans (show _ = some (.int .i64 0) from rfl)
        replace hk := Lib.hid hk
        replace ho := Lib.hid ho
        go_wp2_with fail
        go_meet
        exact On.as ((((((((hon.out.set 1 _).set 2 _).set 3 _).set 4 _).set 5 _).set 6 _).set 7 _).set 8 _) (by rw [ho.out]; rfl)
      · have ho : r.only = MsgM.o2 r := MsgM.only_2 hk
        have t1 : (r.kind == 1) = false := by rw [hk]; rfl
        have t2 : (r.kind == 2) = true := by rw [hk]; rfl
        have g1 := (blk_cell B1.out 1).trans (show _ = some (.int .i64 (r.x1)) from rfl)
        have y1 := (blk_cell hon.out.x 1).trans (show _ = some (.int .i64 0) from rfl)
        have g2 := (blk_cell B1.out 2).trans (show _ = some (.int .i64 (r.x2)) from rfl)
        have y2 := (blk_cell hon.out.x 2).trans (show _ = some (.int .i64 0) from rfl)
        have g3 := (blk_cell B1.out 3).trans (show _ = some (.int .i64 (r.x3)) from rfl)
        have y3 := (blk_cell hon.out.x 3).trans (show _ = some (.int .i64 0) from rfl)
        have g9 := (blk_cell B1.out 9).trans (show _ = some (.int .i64 (r.code)) from rfl)
        have y9 := (blk_cell hon.out.x 9).trans (show _ = some (.int .i64 0) from rfl)
        have g6 := (blk_cell B1.out 6).trans (show _ = some (.int .i64 (r.st.wall)) from rfl)
        have y6 := (blk_cell hon.out.x 6).trans (show _ = some (.int .i64 0) from rfl)
        have g7 := (blk_cell B1.out 7).trans (show _ = some (.int .i64 (r.st.logic)) from rfl)
        have y7 := (blk_cell hon.out.x 7).trans (show _ = some (.int .i64 0) from rfl)
        have g8 := (blk_cell B1.out 8).trans (show _ = some (.int .i64 (r.st.node)) from rfl)
        have y8 := (blk_cell hon.out.x 8).trans (show _ = some (.int .i64 0) from rfl)
        have g10 := (blk_cell B1.out 10).trans (show _ = some (.slice r.An r.firsts.length r.cn) from rfl)
        have y10 := (blk_cell hon.out.x 10).trans (show _ = some (.slice none 0 0) from rfl)
        replace hk := Lib.hid hk
        replace ho := Lib.hid ho
        go_wp2_with fail
        go_meet
        exact On.as ((((((((hon.out.set 1 _).set 2 _).set 3 _).set 9 _).set 6 _).set 7 _).set 8 _).set 10 _) (by rw [ho.out]; rfl)
      · have ho : r.only = MsgM.o3 r := MsgM.only_3 hk
        have t1 : (r.kind == 1) = false := by rw [hk]; rfl
        have t2 : (r.kind == 2) = false := by rw [hk]; rfl
        have t3 : (r.kind == 3) = true := by rw [hk]; rfl
        have g1 := (blk_cell B1.out 1).trans (show _ = some (.int .i64 (r.x1)) from rfl)
        have y1 := (blk_cell hon.out.x 1).trans (show _ = some (.int .i64 0) from rfl)
        have g2 := (blk_cell B1.out 2).trans (show _ = some (.int .i64 (r.x2)) from rfl)
        have y2 := (blk_cell hon.out.x 2).trans (show _ = some (.int .i64 0) from rfl)
        have g3 := (blk_cell B1.out 3).trans (show _ = some (.int .i64 (r.x3)) from rfl)
        have y3 := (blk_cell hon.out.x 3).trans (show _ = some (.int .i64 0) from rfl)
        have g11 := (blk_cell B1.out 11).trans (show _ = some (.bool r.yes) from rfl)
        have y11 := (blk_cell hon.out.x 11).trans (show _ = some (.bool false) from rfl)
        have g6 := (blk_cell B1.out 6).trans (show _ = some (.int .i64 (r.st.wall)) from rfl)
        have y6 := (blk_cell hon.out.x 6).trans (show _ = some (.int .i64 0) from rfl)
        have g7 := (blk_cell B1.out 7).trans (show _ = some (.int .i64 (r.st.logic)) from rfl)
        have y7 := (blk_cell hon.out.x 7).trans (show _ = some (.int .i64 0) from rfl)
        have g8 := (blk_cell B1.out 8).trans (show _ = some (.int .i64 (r.st.node)) from rfl)
        have y8 := (blk_cell hon.out.x 8).trans (show _ = some (.int .i64 0) from rfl)
        replace hk := Lib.hid hk
        replace ho := Lib.hid ho
        go_wp2_with fail
        go_meet
        exact On.as (((((((hon.out.set 1 _).set 2 _).set 3 _).set 11 _).set 6 _).set 7 _).set 8 _) (by rw [ho.out]; rfl)
      · have ho : r.only = MsgM.o4 r := MsgM.only_4 hk
        have t1 : (r.kind == 1) = false := by rw [hk]; rfl
        have t2 : (r.kind == 2) = false := by rw [hk]; rfl
        have t3 : (r.kind == 3) = false := by rw [hk]; rfl
        have t4 : (r.kind == 4) = true := by rw [hk]; rfl
        have g1 := (blk_cell B1.out 1).trans (show _ = some (.int .i64 (r.x1)) from rfl)
        have y1 := (blk_cell hon.out.x 1).trans (show _ = some (.int .i64 0) from rfl)
        have g2 := (blk_cell B1.out 2).trans (show _ = some (.int .i64 (r.x2)) from rfl)
        have y2 := (blk_cell hon.out.x 2).trans (show _ = some (.int .i64 0) from rfl)
        have g3 := (blk_cell B1.out 3).trans (show _ = some (.int .i64 (r.x3)) from rfl)
        have y3 := (blk_cell hon.out.x 3).trans (show _ = some (.int .i64 0) from rfl)
        replace hk := Lib.hid hk
        replace ho := Lib.hid ho
        go_wp2_with fail
        go_meet
        exact On.as (((hon.out.set 1 _).set 2 _).set 3 _) (by rw [ho.out]; rfl)
      · have ho : r.only = MsgM.o5 r := MsgM.only_5 hk
        have t1 : (r.kind == 1) = false := by rw [hk]; rfl
        have t2 : (r.kind == 2) = false := by rw [hk]; rfl
        have t3 : (r.kind == 3) = false := by rw [hk]; rfl
        have t4 : (r.kind == 4) = false := by rw [hk]; rfl
        have t5 : (r.kind == 5) = true := by rw [hk]; rfl
        have g1 := (blk_cell B1.out 1).trans (show _ = some (.int .i64 (r.x1)) from rfl)
        have y1 := (blk_cell hon.out.x 1).trans (show _ = some (.int .i64 0) from rfl)
        have g2 := (blk_cell B1.out 2).trans (show _ = some (.int .i64 (r.x2)) from rfl)
        have y2 := (blk_cell hon.out.x 2).trans (show _ = some (.int .i64 0) from rfl)
        have g3 := (blk_cell B1.out 3).trans (show _ = some (.int .i64 (r.x3)) from rfl)
        have y3 := (blk_cell hon.out.x 3).trans (show _ = some (.int .i64 0) from rfl)
        have g6 := (blk_cell B1.out 6).trans (show _ = some (.int .i64 (r.st.wall)) from rfl)
        have y6 := (blk_cell hon.out.x 6).trans (show _ = some (.int .i64 0) from rfl)
        have g7 := (blk_cell B1.out 7).trans (show _ = some (.int .i64 (r.st.logic)) from rfl)
        have y7 := (blk_cell hon.out.x 7).trans (show _ = some (.int .i64 0) from rfl)
        have g8 := (blk_cell B1.out 8).trans (show _ = some (.int .i64 (r.st.node)) from rfl)
        have y8 := (blk_cell hon.out.x 8).trans (show _ = some (.int .i64 0) from rfl)
        have g10 := (blk_cell B1.out 10).trans (show _ = some (.slice r.An r.firsts.length r.cn) from rfl)
        have y10 := (blk_cell hon.out.x 10).trans (show _ = some (.slice none 0 0) from rfl)
        replace hk := Lib.hid hk
        replace ho := Lib.hid ho
        go_wp2_with fail
        go_meet
        exact On.as (((((((hon.out.set 1 _).set 2 _).set 3 _).set 6 _).set 7 _).set 8 _).set 10 _) (by rw [ho.out]; rfl)
      · have ho : r.only = MsgM.o6 r := MsgM.only_6 hk
        have t1 : (r.kind == 1) = false := by rw [hk]; rfl
        have t2 : (r.kind == 2) = false := by rw [hk]; rfl
        have t3 : (r.kind == 3) = false := by rw [hk]; rfl
        have t4 : (r.kind == 4) = false := by rw [hk]; rfl
        have t5 : (r.kind == 5) = false := by rw [hk]; rfl
        have t6 : (r.kind == 6) = true := by rw [hk]; rfl
        have g12 := (blk_cell B1.out 12).trans (show _ = some (.int .i64 (r.z1)) from rfl)
        have y12 := (blk_cell hon.out.x 12).trans (show _ = some (.int .i64 0) from rfl)
        have g13 := (blk_cell B1.out 13).trans (show _ = some (.int .i64 (r.z2)) from rfl)
        have y13 := (blk_cell hon.out.x 13).trans (show _ = some (.int .i64 0) from rfl)
        have g14 := (blk_cell B1.out 14).trans (show _ = some (.int .i64 (r.z3)) from rfl)
        have y14 := (blk_cell hon.out.x 14).trans (show _ = some (.int .i64 0) from rfl)
        have g15 := (blk_cell B1.out 15).trans (show _ = some (.int .i64 (r.z4)) from rfl)
        have y15 := (blk_cell hon.out.x 15).trans (show _ = some (.int .i64 0) from rfl)
        have g6 := (blk_cell B1.out 6).trans (show _ = some (.int .i64 (r.st.wall)) from rfl)
        have y6 := (blk_cell hon.out.x 6).trans (show _ = some (.int .i64 0) from rfl)
        have g7 := (blk_cell B1.out 7).trans (show _ = some (.int .i64 (r.st.logic)) from rfl)
        have y7 := (blk_cell hon.out.x 7).trans (show _ = some (.int .i64 0) from rfl)
        have g8 := (blk_cell B1.out 8).trans (show _ = some (.int .i64 (r.st.node)) from rfl)
        have y8 := (blk_cell hon.out.x 8).trans (show _ = some (.int .i64 0) from rfl)
        have g16 := (blk_cell B1.out 16).trans (show _ = some (.slice r.As r.sms.length r.cs) from rfl)
        have y16 := (blk_cell hon.out.x 16).trans (show _ = some (.slice none 0 0) from rfl)
        replace hk := Lib.hid hk
        replace ho := Lib.hid ho
        go_wp2_with fail
        go_meet
        exact On.as ((((((((hon.out.set 12 _).set 13 _).set 14 _).set 15 _).set 6 _).set 7 _).set 8 _).set 16 _) (by rw [ho.out]; rfl)
      · have ho : r.only = MsgM.o7 r := MsgM.only_7 hk
        have t1 : (r.kind == 1) = false := by rw [hk]; rfl
        have t2 : (r.kind == 2) = false := by rw [hk]; rfl
        have t3 : (r.kind == 3) = false := by rw [hk]; rfl
        have t4 : (r.kind == 4) = false := by rw [hk]; rfl
        have t5 : (r.kind == 5) = false := by rw [hk]; rfl
        have t6 : (r.kind == 6) = false := by rw [hk]; rfl
        have t7 : (r.kind == 7) = true := by rw [hk]; rfl
        have g12 := (blk_cell B1.out 12).trans (show _ = some (.int .i64 (r.z1)) from rfl)
        have y12 := (blk_cell hon.out.x 12).trans (show _ = some (.int .i64 0) from rfl)
        have g13 := (blk_cell B1.out 13).trans (show _ = some (.int .i64 (r.z2)) from rfl)
        have y13 := (blk_cell hon.out.x 13).trans (show _ = some (.int .i64 0) from rfl)
        have g14 := (blk_cell B1.out 14).trans (show _ = some (.int .i64 (r.z3)) from rfl)
        have y14 := (blk_cell hon.out.x 14).trans (show _ = some (.int .i64 0) from rfl)
        have g15 := (blk_cell B1.out 15).trans (show _ = some (.int .i64 (r.z4)) from rfl)
        have y15 := (blk_cell hon.out.x 15).trans (show _ = some (.int .i64 0) from rfl)
        replace hk := Lib.hid hk
        replace ho := Lib.hid ho
        go_wp2_with fail
        go_meet
        exact On.as ((((hon.out.set 12 _).set 13 _).set 14 _).set 15 _) (by rw [ho.out]; rfl)
      · have ho : r.only = MsgM.o8 r := MsgM.only_8 hk
        have t1 : (r.kind == 1) = false := by rw [hk]; rfl
        have t2 : (r.kind == 2) = false := by rw [hk]; rfl
        have t3 : (r.kind == 3) = false := by rw [hk]; rfl
        have t4 : (r.kind == 4) = false := by rw [hk]; rfl
        have t5 : (r.kind == 5) = false := by rw [hk]; rfl
        have t6 : (r.kind == 6) = false := by rw [hk]; rfl
        have t7 : (r.kind == 7) = false := by rw [hk]; rfl
        have t8 : (r.kind == 8) = true := by rw [hk]; rfl
        have g17 := (blk_cell B1.out 17).trans (show _ = some (.int .i64 (r.src)) from rfl)
        have y17 := (blk_cell hon.out.x 17).trans (show _ = some (.int .i64 0) from rfl)
        replace hk := Lib.hid hk
        replace ho := Lib.hid ho
        go_wp2_with fail
        go_meet
        exact On.as (hon.out.set 17 _) (by rw [ho.out]; rfl)
      · have ho : r.only = MsgM.o9 r := MsgM.only_9 hk
        have t1 : (r.kind == 1) = false := by rw [hk]; rfl
        have t2 : (r.kind == 2) = false := by rw [hk]; rfl
        have t3 : (r.kind == 3) = false := by rw [hk]; rfl
        have t4 : (r.kind == 4) = false := by rw [hk]; rfl
        have t5 : (r.kind == 5) = false := by rw [hk]; rfl
        have t6 : (r.kind == 6) = false := by rw [hk]; rfl
        have t7 : (r.kind == 7) = false := by rw [hk]; rfl
        have t8 : (r.kind == 8) = false := by rw [hk]; rfl
        have t9 : (r.kind == 9) = true := by rw [hk]; rfl
        have g17 := (blk_cell B1.out 17).trans (show _ = some (.int .i64 (r.src)) from rfl)
        have y17 := (blk_cell hon.out.x 17).trans (show _ = some (.int .i64 0) from rfl)
        have g18 := (blk_cell B1.out 18).trans (show _ = some (.int .i64 (r.total)) from rfl)
        have y18 := (blk_cell hon.out.x 18).trans (show _ = some (.int .i64 0) from rfl)
        have g19 := (blk_cell B1.out 19).trans (show _ = some (.slice r.Ae r.es.length r.ce) from rfl)
        have y19 := (blk_cell hon.out.x 19).trans (show _ = some (.slice none 0 0) from rfl)
        have g6 := (blk_cell B1.out 6).trans (show _ = some (.int .i64 (r.st.wall)) from rfl)
        have y6 := (blk_cell hon.out.x 6).trans (show _ = some (.int .i64 0) from rfl)
        have g7 := (blk_cell B1.out 7).trans (show _ = some (.int .i64 (r.st.logic)) from rfl)
        have y7 := (blk_cell hon.out.x 7).trans (show _ = some (.int .i64 0) from rfl)
        have g8 := (blk_cell B1.out 8).trans (show _ = some (.int .i64 (r.st.node)) from rfl)
        have y8 := (blk_cell hon.out.x 8).trans (show _ = some (.int .i64 0) from rfl)
        have g20 := (blk_cell B1.out 20).trans (show _ = some (.slice r.Ag r.rgs.length r.cg) from rfl)
        have y20 := (blk_cell hon.out.x 20).trans (show _ = some (.slice none 0 0) from rfl)
        replace hk := Lib.hid hk
        replace ho := Lib.hid ho
        go_wp2_with fail
        go_meet
        exact On.as (((((((hon.out.set 17 _).set 18 _).set 19 _).set 6 _).set 7 _).set 8 _).set 20 _) (by rw [ho.out]; rfl)
      · have ho : r.only = MsgM.zero r.kind := MsgM.only_no hk
        have h0 := kOk_no hk
        have t1 : (r.kind == 1) = false := by rw [beq_eq_false_iff_ne]; omega
        have t2 : (r.kind == 2) = false := by rw [beq_eq_false_iff_ne]; omega
        have t3 : (r.kind == 3) = false := by rw [beq_eq_false_iff_ne]; omega
        have t4 : (r.kind == 4) = false := by rw [beq_eq_false_iff_ne]; omega
        have t5 : (r.kind == 5) = false := by rw [beq_eq_false_iff_ne]; omega
        have t6 : (r.kind == 6) = false := by rw [beq_eq_false_iff_ne]; omega
        have t7 : (r.kind == 7) = false := by rw [beq_eq_false_iff_ne]; omega
        have t8 : (r.kind == 8) = false := by rw [beq_eq_false_iff_ne]; omega
        have t9 : (r.kind == 9) = false := by rw [beq_eq_false_iff_ne]; omega
        clear h0
        replace hk := Lib.hid hk
        replace ho := Lib.hid ho
        go_wp2_with fail
        go_meet
        exact On.as hon.out (by rw [ho.out] <;> rfl)
    case rest =>
      refine hK2 _ _ ?_
      have LR := load_blk (P := Tryd.prog) (T := 36) hcut.x Tryd.underlying36 rfl (by kernel_rfl)
      obtain ⟨W9, SR9, D9, hb9, hG9⟩ := store_blk (P := Tryd.prog) (T := 36) (cs := r.only.cells) hcut.z rfl (by kernel_rfl) (by kernel_rfl)
      have hg9 := hG9 w hcut.g (by omega)
      have hcsz : (Tryd.prog.info? 36).map (·.size) = some r.only.cells.size := by kernel_rfl
      generalize hrc : r.only.cells = rc at *
      replace D9 := Lib.hid D9
      replace hg9 := Lib.hid hg9
      replace hrc := Lib.hid hrc
      clear hb9 hG9 g0 hcut
      go_wp2_with (first
        | (refine wpList_load_at (ty := 36) rfl (by kernel_rfl) (p := .pointer (some ⟨w.heap.size + 1 + 1, 0, none⟩)) rfl LR ?_; clear LR)
        | (refine wpList_store_at (ty := 36) rfl (by kernel_rfl) (p := .pointer (some ⟨w.heap.size + 1, 0, none⟩)) rfl rfl SR9 ?_; clear SR9))
      refine bodyPost_ret (v := .agg rc) (results_cell (i := 2) rfl rfl D9.out Tryd.underlying36 rfl hcsz) rfl ?_
      exact ⟨by rw [hrc.out], hg9.out⟩
end Go.Proofs.YtheogchkelmeeaaDoor

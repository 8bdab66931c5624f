/- penstockref10.only: a record with the fields alone that its kind names. No condition. -/
import Derived.Test.YthafeaclpcjjbaaDoorM30RecCodes
import Derived.Test.YthafeaclpcjjbaaDoorLoadQRecCodes
namespace Go.Proofs.YthafeaclpcjjbaaDoor
open Go.RowKit

/-- A record with the fields that its kind names alone. -/
def RecM.onlyF (r : RecM) (f : Fl) : RecM :=
  ⟨r.kind, if f.n then r.n else 0, if f.dst then r.dst else 0, if f.yes then r.yes else false, if f.st then r.st else ⟨0, 0, 0⟩, if f.tx then r.x1 else 0, if f.tx then r.x2 else 0, if f.tx then r.x3 else 0,
    if f.nodes then r.An else none, if f.nodes then r.cn else 0, if f.nodes then r.nodes else [], if f.bat then r.key else ⟨#[]⟩, if f.bat then r.Ap else none, if f.bat then r.cp else 0, if f.bat then r.ps else [],
    if f.span then r.z1 else 0, if f.span then r.z2 else 0, if f.span then r.z3 else 0, if f.span then r.z4 else 0, if f.sms then r.As else none, if f.sms then r.cs else 0, if f.sms then r.sms else []⟩
def RecM.only (r : RecM) : RecM := r.onlyF (flOf r.kind)
set_option maxRecDepth 100000 in
set_option maxHeartbeats 2000000 in
theorem only1_any (r : RecM) (hk : r.kind = 1) (w : World) : Calls Tryd.prog 34 #[.agg r.cells] w fun e w' => e = .returned (.agg r.only.cells) ∧ G w w' := by
  obtain ⟨kind, rn, dst, yes, ⟨a, b, c⟩, x1, x2, x3, An, cn, nodes, key, Ap, cp, ps, z1, z2, z3, z4, As, cs, sms⟩ := r
  dsimp only at hk
  subst hk
  have hon : RecM.only ⟨1, rn, dst, yes, ⟨a, b, c⟩, x1, x2, x3, An, cn, nodes, key, Ap, cp, ps, z1, z2, z3, z4, As, cs, sms⟩ = RecM.onlyF ⟨1, rn, dst, yes, ⟨a, b, c⟩, x1, x2, x3, An, cn, nodes, key, Ap, cp, ps, z1, z2, z3, z4, As, cs, sms⟩ { n := true } := rfl
  have hfin : (RecM.only ⟨1, rn, dst, yes, ⟨a, b, c⟩, x1, x2, x3, An, cn, nodes, key, Ap, cp, ps, z1, z2, z3, z4, As, cs, sms⟩).cells = #[.int .i64 1, .int .i64 rn, .int .i64 0, .bool false, .int .i64 0, .int .i64 0, .int .i64 0, .int .i64 0, .int .i64 0, .int .i64 0, .slice none 0 0, .string ⟨#[]⟩, .slice none 0 0, .int .i64 0, .int .i64 0, .int .i64 0, .int .i64 0, .slice none 0 0] := by rw [hon]; rfl
  rw [hfin]
  unfold RecM.cells
  dsimp only
  clear hon hfin
  go_enter Tryd.func34, Tryd.ntmps34
  go_upto_region 1 with fail
  have hg0 := (G.new w (.cells #[.int .i64 1, .int .i64 rn, .int .i64 dst, .bool yes, .int .i64 a, .int .i64 b, .int .i64 c, .int .i64 x1, .int .i64 x2, .int .i64 x3, .slice An nodes.length cn, .string key, .slice Ap ps.length cp, .int .i64 z1, .int .i64 z2, .int .i64 z3, .int .i64 z4, .slice As sms.length cs] 37)).alloc (.cells #[.int .i64 0, .int .i64 0, .int .i64 0, .bool false, .int .i64 0, .int .i64 0, .int .i64 0, .int .i64 0, .int .i64 0, .int .i64 0, .slice none 0 0, .string ⟨#[]⟩, .slice none 0 0, .int .i64 0, .int .i64 0, .int .i64 0, .int .i64 0, .slice none 0 0] 37)
  have B0 := (G.new (w.alloc (.cells #[.int .i64 1, .int .i64 rn, .int .i64 dst, .bool yes, .int .i64 a, .int .i64 b, .int .i64 c, .int .i64 x1, .int .i64 x2, .int .i64 x3, .slice An nodes.length cn, .string key, .slice Ap ps.length cp, .int .i64 z1, .int .i64 z2, .int .i64 z3, .int .i64 z4, .slice As sms.length cs] 37)) (.cells #[.int .i64 0, .int .i64 0, .int .i64 0, .bool false, .int .i64 0, .int .i64 0, .int .i64 0, .int .i64 0, .int .i64 0, .int .i64 0, .slice none 0 0, .string ⟨#[]⟩, .slice none 0 0, .int .i64 0, .int .i64 0, .int .i64 0, .int .i64 0, .slice none 0 0] 37)).blk (blk_new w #[.int .i64 1, .int .i64 rn, .int .i64 dst, .bool yes, .int .i64 a, .int .i64 b, .int .i64 c, .int .i64 x1, .int .i64 x2, .int .i64 x3, .slice An nodes.length cn, .string key, .slice Ap ps.length cp, .int .i64 z1, .int .i64 z2, .int .i64 z3, .int .i64 z4, .slice As sms.length cs] 37)
  have D0 := blk_new' (w.alloc (.cells #[.int .i64 1, .int .i64 rn, .int .i64 dst, .bool yes, .int .i64 a, .int .i64 b, .int .i64 c, .int .i64 x1, .int .i64 x2, .int .i64 x3, .slice An nodes.length cn, .string key, .slice Ap ps.length cp, .int .i64 z1, .int .i64 z2, .int .i64 z3, .int .i64 z4, .slice As sms.length cs] 37)) #[.int .i64 0, .int .i64 0, .int .i64 0, .bool false, .int .i64 0, .int .i64 0, .int .i64 0, .int .i64 0, .int .i64 0, .int .i64 0, .slice none 0 0, .string ⟨#[]⟩, .slice none 0 0, .int .i64 0, .int .i64 0, .int .i64 0, .int .i64 0, .slice none 0 0] 37 (w.heap.size + 1) (by simp)
  generalize hW0 : (w.alloc (.cells #[.int .i64 1, .int .i64 rn, .int .i64 dst, .bool yes, .int .i64 a, .int .i64 b, .int .i64 c, .int .i64 x1, .int .i64 x2, .int .i64 x3, .slice An nodes.length cn, .string key, .slice Ap ps.length cp, .int .i64 z1, .int .i64 z2, .int .i64 z3, .int .i64 z4, .slice As sms.length cs] 37)).alloc (.cells #[.int .i64 0, .int .i64 0, .int .i64 0, .bool false, .int .i64 0, .int .i64 0, .int .i64 0, .int .i64 0, .int .i64 0, .int .i64 0, .slice none 0 0, .string ⟨#[]⟩, .slice none 0 0, .int .i64 0, .int .i64 0, .int .i64 0, .int .i64 0, .slice none 0 0] 37) = W0 at *
  have hsz : W0.heap.size = w.heap.size + 1 + 1 := by rw [← hW0]; simp
  clear hW0
  have g0 := (blk_cell B0 0).trans (show _ = some (.int .i64 1) from rfl)
  have hg1 := G.new W0 (.cells #[.int .i64 0, .int .i64 0, .int .i64 0, .bool false, .int .i64 0, .int .i64 0, .int .i64 0, .int .i64 0, .int .i64 0, .int .i64 0, .slice none 0 0, .string ⟨#[]⟩, .slice none 0 0, .int .i64 0, .int .i64 0, .int .i64 0, .int .i64 0, .slice none 0 0] 37)
  obtain ⟨W1, SR1, C1, hb1, hG1⟩ := store_blk (P := Tryd.prog) (T := 37) (cs := #[.int .i64 1, .int .i64 0, .int .i64 0, .bool false, .int .i64 0, .int .i64 0, .int .i64 0, .int .i64 0, .int .i64 0, .int .i64 0, .slice none 0 0, .string ⟨#[]⟩, .slice none 0 0, .int .i64 0, .int .i64 0, .int .i64 0, .int .i64 0, .slice none 0 0]) (blk_new W0 #[.int .i64 0, .int .i64 0, .int .i64 0, .bool false, .int .i64 0, .int .i64 0, .int .i64 0, .int .i64 0, .int .i64 0, .int .i64 0, .slice none 0 0, .string ⟨#[]⟩, .slice none 0 0, .int .i64 0, .int .i64 0, .int .i64 0, .int .i64 0, .slice none 0 0] 37) rfl (by kernel_rfl) (by kernel_rfl)
  have hgA := hG1 w (hg0.trans hg1) (by omega)
  have B1 := hb1.blk (hg1.blk B0) (by omega)
  have D1 := hb1.blk (hg1.blk D0) (by omega)
  rw [hsz] at C1 SR1
  replace C1 := Lib.hid C1
  replace B1 := Lib.hid B1
  replace D1 := Lib.hid D1
  replace B0 := Lib.hid B0
  replace D0 := Lib.hid D0
  replace hgA := Lib.hid hgA
  clear hb1 hG1 hg0 hg1
  go_upto_region 2 with (refine wpList_store_at (ty := 37) rfl (by kernel_rfl) rfl rfl SR1 ?_)
  clear g0 SR1
  have g0 := (blk_cell B1.out 0).trans (show _ = some (.int .i64 1) from rfl)
  have g1 := (blk_cell B1.out 1).trans (show _ = some (.int .i64 rn) from rfl)
  have C1' := C1.out
  have cfr : ∀ o, W1.frozen? ⟨w.heap.size + 1 + 1, o, none⟩ = false := fun o => by simp [World.frozen?, C1']
  have y1 := (blk_cell C1' 1).trans (show _ = some (.int .i64 0) from rfl)
  have E0 : (W1.setCell ⟨w.heap.size + 1 + 1, 1, none⟩ (.int .i64 rn)).heap[w.heap.size + 1 + 1]? = some (.cells #[.int .i64 1, .int .i64 rn, .int .i64 0, .bool false, .int .i64 0, .int .i64 0, .int .i64 0, .int .i64 0, .int .i64 0, .int .i64 0, .slice none 0 0, .string ⟨#[]⟩, .slice none 0 0, .int .i64 0, .int .i64 0, .int .i64 0, .int .i64 0, .slice none 0 0] 37 (0, 0)) := by rw [blk_put C1']; rfl
  have u0 := but_set W1 (w.heap.size + 1 + 1) 1 (.int .i64 rn)
  have hGz : G w (W1.setCell ⟨w.heap.size + 1 + 1, 1, none⟩ (.int .i64 rn)) := (hgA.out).set (Nat.le_trans (Nat.le_succ _) (Nat.le_succ _)) (.int .i64 rn)
  have Dz := (u0.blk (D1.out) (by omega))
  have LR := load_blk (P := Tryd.prog) (T := 37) E0 Tryd.underlying37 rfl (by kernel_rfl)
  obtain ⟨W9, SR9, D9, hb9, hG9⟩ := store_blk (P := Tryd.prog) (T := 37) (cs := #[.int .i64 1, .int .i64 rn, .int .i64 0, .bool false, .int .i64 0, .int .i64 0, .int .i64 0, .int .i64 0, .int .i64 0, .int .i64 0, .slice none 0 0, .string ⟨#[]⟩, .slice none 0 0, .int .i64 0, .int .i64 0, .int .i64 0, .int .i64 0, .slice none 0 0]) Dz rfl (by kernel_rfl) (by kernel_rfl)
  have hgZ := hG9 w hGz (by omega)
  clear E0 u0
  replace Dz := Lib.hid Dz
  replace D9 := Lib.hid D9
  replace hgZ := Lib.hid hgZ
  replace hGz := Lib.hid hGz
  replace C1' := Lib.hid C1'
  clear hb9 hG9
  go_upto_region 34 with fail
  go_wp2_with (first | (refine wpList_load_at (ty := 37) rfl (by kernel_rfl) (p := .pointer (some ⟨w.heap.size + 1 + 1, 0, none⟩)) rfl LR ?_; clear LR) | (refine wpList_store_at (ty := 37) rfl (by kernel_rfl) (p := .pointer (some ⟨w.heap.size + 1, 0, none⟩)) rfl rfl SR9 ?_; clear SR9))
  refine bodyPost_ret (v := .agg #[.int .i64 1, .int .i64 rn, .int .i64 0, .bool false, .int .i64 0, .int .i64 0, .int .i64 0, .int .i64 0, .int .i64 0, .int .i64 0, .slice none 0 0, .string ⟨#[]⟩, .slice none 0 0, .int .i64 0, .int .i64 0, .int .i64 0, .int .i64 0, .slice none 0 0]) (results_cell (i := 2) rfl rfl D9.out Tryd.underlying37 rfl (by kernel_rfl)) rfl ?_
  exact ⟨rfl, hgZ.out⟩
set_option maxRecDepth 100000 in
set_option maxHeartbeats 2000000 in
theorem only2_any (r : RecM) (hk : r.kind = 2) (w : World) : Calls Tryd.prog 34 #[.agg r.cells] w fun e w' => e = .returned (.agg r.only.cells) ∧ G w w' := by
  obtain ⟨kind, rn, dst, yes, ⟨a, b, c⟩, x1, x2, x3, An, cn, nodes, key, Ap, cp, ps, z1, z2, z3, z4, As, cs, sms⟩ := r
  dsimp only at hk
  subst hk
  have hon : RecM.only ⟨2, rn, dst, yes, ⟨a, b, c⟩, x1, x2, x3, An, cn, nodes, key, Ap, cp, ps, z1, z2, z3, z4, As, cs, sms⟩ = RecM.onlyF ⟨2, rn, dst, yes, ⟨a, b, c⟩, x1, x2, x3, An, cn, nodes, key, Ap, cp, ps, z1, z2, z3, z4, As, cs, sms⟩ { n := true } := rfl
  have hfin : (RecM.only ⟨2, rn, dst, yes, ⟨a, b, c⟩, x1, x2, x3, An, cn, nodes, key, Ap, cp, ps, z1, z2, z3, z4, As, cs, sms⟩).cells = #[.int .i64 2, .int .i64 rn, .int .i64 0, .bool false, .int .i64 0, .int .i64 0, .int .i64 0, .int .i64 0, .int .i64 0, .int .i64 0, .slice none 0 0, .string ⟨#[]⟩, .slice none 0 0, .int .i64 0, .int .i64 0, .int .i64 0, .int .i64 0, .slice none 0 0] := by rw [hon]; rfl
  rw [hfin]
  unfold RecM.cells
  dsimp only
  clear hon hfin
  go_enter Tryd.func34, Tryd.ntmps34
  go_upto_region 1 with fail
  have hg0 := (G.new w (.cells #[.int .i64 2, .int .i64 rn, .int .i64 dst, .bool yes, .int .i64 a, .int .i64 b, .int .i64 c, .int .i64 x1, .int .i64 x2, .int .i64 x3, .slice An nodes.length cn, .string key, .slice Ap ps.length cp, .int .i64 z1, .int .i64 z2, .int .i64 z3, .int .i64 z4, .slice As sms.length cs] 37)).alloc (.cells #[.int .i64 0, .int .i64 0, .int .i64 0, .bool false, .int .i64 0, .int .i64 0, .int .i64 0, .int .i64 0, .int .i64 0, .int .i64 0, .slice none 0 0, .string ⟨#[]⟩, .slice none 0 0, .int .i64 0, .int .i64 0, .int .i64 0, .int .i64 0, .slice none 0 0] 37)
  have B0 := (G.new (w.alloc (.cells #[.int .i64 2, .int .i64 rn, .int .i64 dst, .bool yes, .int .i64 a, .int .i64 b, .int .i64 c, .int .i64 x1, .int .i64 x2, .int .i64 x3, .slice An nodes.length cn, .string key, .slice Ap ps.length cp, .int .i64 z1, .int .i64 z2, .int .i64 z3, .int .i64 z4, .slice As sms.length cs] 37)) (.cells #[.int .i64 0, .int .i64 0, .int .i64 0, .bool false, .int .i64 0, .int .i64 0, .int .i64 0, .int .i64 0, .int .i64 0, .int .i64 0, .slice none 0 0, .string ⟨#[]⟩, .slice none 0 0, .int .i64 0, .int .i64 0, .int .i64 0, .int .i64 0, .slice none 0 0] 37)).blk (blk_new w #[.int .i64 2, .int .i64 rn, .int .i64 dst, .bool yes, .int .i64 a, .int .i64 b, .int .i64 c, .int .i64 x1, .int .i64 x2, .int .i64 x3, .slice An nodes.length cn, .string key, .slice Ap ps.length cp, .int .i64 z1, .int .i64 z2, .int .i64 z3, .int .i64 z4, .slice As sms.length cs] 37)
  have D0 := blk_new' (w.alloc (.cells #[.int .i64 2, .int .i64 rn, .int .i64 dst, .bool yes, .int .i64 a, .int .i64 b, .int .i64 c, .int .i64 x1, .int .i64 x2, .int .i64 x3, .slice An nodes.length cn, .string key, .slice Ap ps.length cp, .int .i64 z1, .int .i64 z2, .int .i64 z3, .int .i64 z4, .slice As sms.length cs] 37)) #[.int .i64 0, .int .i64 0, .int .i64 0, .bool false, .int .i64 0, .int .i64 0, .int .i64 0, .int .i64 0, .int .i64 0, .int .i64 0, .slice none 0 0, .string ⟨#[]⟩, .slice none 0 0, .int .i64 0, .int .i64 0, .int .i64 0, .int .i64 0, .slice none 0 0] 37 (w.heap.size + 1) (by simp)
  generalize hW0 : (w.alloc (.cells #[.int .i64 2, .int .i64 rn, .int .i64 dst, .bool yes, .int .i64 a, .int .i64 b, .int .i64 c, .int .i64 x1, .int .i64 x2, .int .i64 x3, .slice An nodes.length cn, .string key, .slice Ap ps.length cp, .int .i64 z1, .int .i64 z2, .int .i64 z3, .int .i64 z4, .slice As sms.length cs] 37)).alloc (.cells #[.int .i64 0, .int .i64 0, .int .i64 0, .bool false, .int .i64 0, .int .i64 0, .int .i64 0, .int .i64 0, .int .i64 0, .int .i64 0, .slice none 0 0, .string ⟨#[]⟩, .slice none 0 0, .int .i64 0, .int .i64 0, .int .i64 0, .int .i64 0, .slice none 0 0] 37) = W0 at *
  have hsz : W0.heap.size = w.heap.size + 1 + 1 := by rw [← hW0]; simp
  clear hW0
  have g0 := (blk_cell B0 0).trans (show _ = some (.int .i64 2) from rfl)
  have hg1 := G.new W0 (.cells #[.int .i64 0, .int .i64 0, .int .i64 0, .bool false, .int .i64 0, .int .i64 0, .int .i64 0, .int .i64 0, .int .i64 0, .int .i64 0, .slice none 0 0, .string ⟨#[]⟩, .slice none 0 0, .int .i64 0, .int .i64 0, .int .i64 0, .int .i64 0, .slice none 0 0] 37)
  obtain ⟨W1, SR1, C1, hb1, hG1⟩ := store_blk (P := Tryd.prog) (T := 37) (cs := #[.int .i64 2, .int .i64 0, .int .i64 0, .bool false, .int .i64 0, .int .i64 0, .int .i64 0, .int .i64 0, .int .i64 0, .int .i64 0, .slice none 0 0, .string ⟨#[]⟩, .slice none 0 0, .int .i64 0, .int .i64 0, .int .i64 0, .int .i64 0, .slice none 0 0]) (blk_new W0 #[.int .i64 0, .int .i64 0, .int .i64 0, .bool false, .int .i64 0, .int .i64 0, .int .i64 0, .int .i64 0, .int .i64 0, .int .i64 0, .slice none 0 0, .string ⟨#[]⟩, .slice none 0 0, .int .i64 0, .int .i64 0, .int .i64 0, .int .i64 0, .slice none 0 0] 37) rfl (by kernel_rfl) (by kernel_rfl)
  have hgA := hG1 w (hg0.trans hg1) (by omega)
  have B1 := hb1.blk (hg1.blk B0) (by omega)
  have D1 := hb1.blk (hg1.blk D0) (by omega)
  rw [hsz] at C1 SR1
  replace C1 := Lib.hid C1
  replace B1 := Lib.hid B1
  replace D1 := Lib.hid D1
  replace B0 := Lib.hid B0
  replace D0 := Lib.hid D0
  replace hgA := Lib.hid hgA
  clear hb1 hG1 hg0 hg1
  go_upto_region 2 with (refine wpList_store_at (ty := 37) rfl (by kernel_rfl) rfl rfl SR1 ?_)
  clear g0 SR1
  have g0 := (blk_cell B1.out 0).trans (show _ = some (.int .i64 2) from rfl)
  have g1 := (blk_cell B1.out 1).trans (show _ = some (.int .i64 rn) from rfl)
  have C1' := C1.out
  have cfr : ∀ o, W1.frozen? ⟨w.heap.size + 1 + 1, o, none⟩ = false := fun o => by simp [World.frozen?, C1']
  have y1 := (blk_cell C1' 1).trans (show _ = some (.int .i64 0) from rfl)
  have E0 : (W1.setCell ⟨w.heap.size + 1 + 1, 1, none⟩ (.int .i64 rn)).heap[w.heap.size + 1 + 1]? = some (.cells #[.int .i64 2, .int .i64 rn, .int .i64 0, .bool false, .int .i64 0, .int .i64 0, .int .i64 0, .int .i64 0, .int .i64 0, .int .i64 0, .slice none 0 0, .string ⟨#[]⟩, .slice none 0 0, .int .i64 0, .int .i64 0, .int .i64 0, .int .i64 0, .slice none 0 0] 37 (0, 0)) := by rw [blk_put C1']; rfl
  have u0 := but_set W1 (w.heap.size + 1 + 1) 1 (.int .i64 rn)
  have hGz : G w (W1.setCell ⟨w.heap.size + 1 + 1, 1, none⟩ (.int .i64 rn)) := (hgA.out).set (Nat.le_trans (Nat.le_succ _) (Nat.le_succ _)) (.int .i64 rn)
  have Dz := (u0.blk (D1.out) (by omega))
  have LR := load_blk (P := Tryd.prog) (T := 37) E0 Tryd.underlying37 rfl (by kernel_rfl)
  obtain ⟨W9, SR9, D9, hb9, hG9⟩ := store_blk (P := Tryd.prog) (T := 37) (cs := #[.int .i64 2, .int .i64 rn, .int .i64 0, .bool false, .int .i64 0, .int .i64 0, .int .i64 0, .int .i64 0, .int .i64 0, .int .i64 0, .slice none 0 0, .string ⟨#[]⟩, .slice none 0 0, .int .i64 0, .int .i64 0, .int .i64 0, .int .i64 0, .slice none 0 0]) Dz rfl (by kernel_rfl) (by kernel_rfl)
  have hgZ := hG9 w hGz (by omega)
  clear E0 u0
  replace Dz := Lib.hid Dz
  replace D9 := Lib.hid D9
  replace hgZ := Lib.hid hgZ
  replace hGz := Lib.hid hGz
  replace C1' := Lib.hid C1'
  clear hb9 hG9
  go_upto_region 34 with fail
  go_wp2_with (first | (refine wpList_load_at (ty := 37) rfl (by kernel_rfl) (p := .pointer (some ⟨w.heap.size + 1 + 1, 0, none⟩)) rfl LR ?_; clear LR) | (refine wpList_store_at (ty := 37) rfl (by kernel_rfl) (p := .pointer (some ⟨w.heap.size + 1, 0, none⟩)) rfl rfl SR9 ?_; clear SR9))
  refine bodyPost_ret (v := .agg #[.int .i64 2, .int .i64 rn, .int .i64 0, .bool false, .int .i64 0, .int .i64 0, .int .i64 0, .int .i64 0, .int .i64 0, .int .i64 0, .slice none 0 0, .string ⟨#[]⟩, .slice none 0 0, .int .i64 0, .int .i64 0, .int .i64 0, .int .i64 0, .slice none 0 0]) (results_cell (i := 2) rfl rfl D9.out Tryd.underlying37 rfl (by kernel_rfl)) rfl ?_
  exact ⟨rfl, hgZ.out⟩
set_option maxRecDepth 100000 in
set_option maxHeartbeats 2000000 in
theorem only8_any (r : RecM) (hk : r.kind = 8) (w : World) : Calls Tryd.prog 34 #[.agg r.cells] w fun e w' => e = .returned (.agg r.only.cells) ∧ G w w' := by
  obtain ⟨kind, rn, dst, yes, ⟨a, b, c⟩, x1, x2, x3, An, cn, nodes, key, Ap, cp, ps, z1, z2, z3, z4, As, cs, sms⟩ := r
  dsimp only at hk
  subst hk
  have hon : RecM.only ⟨8, rn, dst, yes, ⟨a, b, c⟩, x1, x2, x3, An, cn, nodes, key, Ap, cp, ps, z1, z2, z3, z4, As, cs, sms⟩ = RecM.onlyF ⟨8, rn, dst, yes, ⟨a, b, c⟩, x1, x2, x3, An, cn, nodes, key, Ap, cp, ps, z1, z2, z3, z4, As, cs, sms⟩ { n := true } := rfl
  have hfin : (RecM.only ⟨8, rn, dst, yes, ⟨a, b, c⟩, x1, x2, x3, An, cn, nodes, key, Ap, cp, ps, z1, z2, z3, z4, As, cs, sms⟩).cells = #[.int .i64 8, .int .i64 rn, .int .i64 0, .bool false, .int .i64 0, .int .i64 0, .int .i64 0, .int .i64 0, .int .i64 0, .int .i64 0, .slice none 0 0, .string ⟨#[]⟩, .slice none 0 0, .int .i64 0, .int .i64 0, .int .i64 0, .int .i64 0, .slice none 0 0] := by rw [hon]; rfl
  rw [hfin]
  unfold RecM.cells
  dsimp only
  clear hon hfin
  go_enter Tryd.func34, Tryd.ntmps34
  go_upto_region 1 with fail
  have hg0 := (G.new w (.cells #[.int .i64 8, .int .i64 rn, .int .i64 dst, .bool yes, .int .i64 a, .int .i64 b, .int .i64 c, .int .i64 x1, .int .i64 x2, .int .i64 x3, .slice An nodes.length cn, .string key, .slice Ap ps.length cp, .int .i64 z1, .int .i64 z2, .int .i64 z3, .int .i64 z4, .slice As sms.length cs] 37)).alloc (.cells #[.int .i64 0, .int .i64 0, .int .i64 0, .bool false, .int .i64 0, .int .i64 0, .int .i64 0, .int .i64 0, .int .i64 0, .int .i64 0, .slice none 0 0, .string ⟨#[]⟩, .slice none 0 0, .int .i64 0, .int .i64 0, .int .i64 0, .int .i64 0, .slice none 0 0] 37)
  have B0 := (G.new (w.alloc (.cells #[.int .i64 8, .int .i64 rn, .int .i64 dst, .bool yes, .int .i64 a, .int .i64 b, .int .i64 c, .int .i64 x1, .int .i64 x2, .int .i64 x3, .slice An nodes.length cn, .string key, .slice Ap ps.length cp, .int .i64 z1, .int .i64 z2, .int .i64 z3, .int .i64 z4, .slice As sms.length cs] 37)) (.cells #[.int .i64 0, .int .i64 0, .int .i64 0, .bool false, .int .i64 0, .int .i64 0, .int .i64 0, .int .i64 0, .int .i64 0, .int .i64 0, .slice none 0 0, .string ⟨#[]⟩, .slice none 0 0, .int .i64 0, .int .i64 0, .int .i64 0, .int .i64 0, .slice none 0 0] 37)).blk (blk_new w #[.int .i64 8, .int .i64 rn, .int .i64 dst, .bool yes, .int .i64 a, .int .i64 b, .int .i64 c, .int .i64 x1, .int .i64 x2, .int .i64 x3, .slice An nodes.length cn, .string key, .slice Ap ps.length cp, .int .i64 z1, .int .i64 z2, .int .i64 z3, .int .i64 z4, .slice As sms.length cs] 37)
  have D0 := blk_new' (w.alloc (.cells #[.int .i64 8, .int .i64 rn, .int .i64 dst, .bool yes, .int .i64 a, .int .i64 b, .int .i64 c, .int .i64 x1, .int .i64 x2, .int .i64 x3, .slice An nodes.length cn, .string key, .slice Ap ps.length cp, .int .i64 z1, .int .i64 z2, .int .i64 z3, .int .i64 z4, .slice As sms.length cs] 37)) #[.int .i64 0, .int .i64 0, .int .i64 0, .bool false, .int .i64 0, .int .i64 0, .int .i64 0, .int .i64 0, .int .i64 0, .int .i64 0, .slice none 0 0, .string ⟨#[]⟩, .slice none 0 0, .int .i64 0, .int .i64 0, .int .i64 0, .int .i64 0, .slice none 0 0] 37 (w.heap.size + 1) (by simp)
  generalize hW0 : (w.alloc (.cells #[.int .i64 8, .int .i64 rn, .int .i64 dst, .bool yes, .int .i64 a, .int .i64 b, .int .i64 c, .int .i64 x1, .int .i64 x2, .int .i64 x3, .slice An nodes.length cn, .string key, .slice Ap ps.length cp, .int .i64 z1, .int .i64 z2, .int .i64 z3, .int .i64 z4, .slice As sms.length cs] 37)).alloc (.cells #[.int .i64 0, .int .i64 0, .int .i64 0, .bool false, .int .i64 0, .int .i64 0, .int .i64 0, .int .i64 0, .int .i64 0, .int .i64 0, .slice none 0 0, .string ⟨#[]⟩, .slice none 0 0, .int .i64 0, .int .i64 0, .int .i64 0, .int .i64 0, .slice none 0 0] 37) = W0 at *
  have hsz : W0.heap.size = w.heap.size + 1 + 1 := by rw [← hW0]; simp
  clear hW0
  have g0 := (blk_cell B0 0).trans (show _ = some (.int .i64 8) from rfl)
  have hg1 := G.new W0 (.cells #[.int .i64 0, .int .i64 0, .int .i64 0, .bool false, .int .i64 0, .int .i64 0, .int .i64 0, .int .i64 0, .int .i64 0, .int .i64 0, .slice none 0 0, .string ⟨#[]⟩, .slice none 0 0, .int .i64 0, .int .i64 0, .int .i64 0, .int .i64 0, .slice none 0 0] 37)
  obtain ⟨W1, SR1, C1, hb1, hG1⟩ := store_blk (P := Tryd.prog) (T := 37) (cs := #[.int .i64 8, .int .i64 0, .int .i64 0, .bool false, .int .i64 0, .int .i64 0, .int .i64 0, .int .i64 0, .int .i64 0, .int .i64 0, .slice none 0 0, .string ⟨#[]⟩, .slice none 0 0, .int .i64 0, .int .i64 0, .int .i64 0, .int .i64 0, .slice none 0 0]) (blk_new W0 #[.int .i64 0, .int .i64 0, .int .i64 0, .bool false, .int .i64 0, .int .i64 0, .int .i64 0, .int .i64 0, .int .i64 0, .int .i64 0, .slice none 0 0, .string ⟨#[]⟩, .slice none 0 0, .int .i64 0, .int .i64 0, .int .i64 0, .int .i64 0, .slice none 0 0] 37) rfl (by kernel_rfl) (by kernel_rfl)
  have hgA := hG1 w (hg0.trans hg1) (by omega)
  have B1 := hb1.blk (hg1.blk B0) (by omega)
  have D1 := hb1.blk (hg1.blk D0) (by omega)
  rw [hsz] at C1 SR1
  replace C1 := Lib.hid C1
  replace B1 := Lib.hid B1
  replace D1 := Lib.hid D1
  replace B0 := Lib.hid B0
  replace D0 := Lib.hid D0
  replace hgA := Lib.hid hgA
  clear hb1 hG1 hg0 hg1
  go_upto_region 2 with (refine wpList_store_at (ty := 37) rfl (by kernel_rfl) rfl rfl SR1 ?_)
  clear g0 SR1
  have g0 := (blk_cell B1.out 0).trans (show _ = some (.int .i64 8) from rfl)
  have g1 := (blk_cell B1.out 1).trans (show _ = some (.int .i64 rn) from rfl)
  have C1' := C1.out
  have cfr : ∀ o, W1.frozen? ⟨w.heap.size + 1 + 1, o, none⟩ = false := fun o => by simp [World.frozen?, C1']
  have y1 := (blk_cell C1' 1).trans (show _ = some (.int .i64 0) from rfl)
  have E0 : (W1.setCell ⟨w.heap.size + 1 + 1, 1, none⟩ (.int .i64 rn)).heap[w.heap.size + 1 + 1]? = some (.cells #[.int .i64 8, .int .i64 rn, .int .i64 0, .bool false, .int .i64 0, .int .i64 0, .int .i64 0, .int .i64 0, .int .i64 0, .int .i64 0, .slice none 0 0, .string ⟨#[]⟩, .slice none 0 0, .int .i64 0, .int .i64 0, .int .i64 0, .int .i64 0, .slice none 0 0] 37 (0, 0)) := by rw [blk_put C1']; rfl
  have u0 := but_set W1 (w.heap.size + 1 + 1) 1 (.int .i64 rn)
  have hGz : G w (W1.setCell ⟨w.heap.size + 1 + 1, 1, none⟩ (.int .i64 rn)) := (hgA.out).set (Nat.le_trans (Nat.le_succ _) (Nat.le_succ _)) (.int .i64 rn)
  have Dz := (u0.blk (D1.out) (by omega))
  have LR := load_blk (P := Tryd.prog) (T := 37) E0 Tryd.underlying37 rfl (by kernel_rfl)
  obtain ⟨W9, SR9, D9, hb9, hG9⟩ := store_blk (P := Tryd.prog) (T := 37) (cs := #[.int .i64 8, .int .i64 rn, .int .i64 0, .bool false, .int .i64 0, .int .i64 0, .int .i64 0, .int .i64 0, .int .i64 0, .int .i64 0, .slice none 0 0, .string ⟨#[]⟩, .slice none 0 0, .int .i64 0, .int .i64 0, .int .i64 0, .int .i64 0, .slice none 0 0]) Dz rfl (by kernel_rfl) (by kernel_rfl)
  have hgZ := hG9 w hGz (by omega)
  clear E0 u0
  replace Dz := Lib.hid Dz
  replace D9 := Lib.hid D9
  replace hgZ := Lib.hid hgZ
  replace hGz := Lib.hid hGz
  replace C1' := Lib.hid C1'
  clear hb9 hG9
  go_upto_region 34 with fail
  go_wp2_with (first | (refine wpList_load_at (ty := 37) rfl (by kernel_rfl) (p := .pointer (some ⟨w.heap.size + 1 + 1, 0, none⟩)) rfl LR ?_; clear LR) | (refine wpList_store_at (ty := 37) rfl (by kernel_rfl) (p := .pointer (some ⟨w.heap.size + 1, 0, none⟩)) rfl rfl SR9 ?_; clear SR9))
  refine bodyPost_ret (v := .agg #[.int .i64 8, .int .i64 rn, .int .i64 0, .bool false, .int .i64 0, .int .i64 0, .int .i64 0, .int .i64 0, .int .i64 0, .int .i64 0, .slice none 0 0, .string ⟨#[]⟩, .slice none 0 0, .int .i64 0, .int .i64 0, .int .i64 0, .int .i64 0, .slice none 0 0]) (results_cell (i := 2) rfl rfl D9.out Tryd.underlying37 rfl (by kernel_rfl)) rfl ?_
  exact ⟨rfl, hgZ.out⟩
set_option maxRecDepth 100000 in
set_option maxHeartbeats 2000000 in
theorem only3_any (r : RecM) (hk : r.kind = 3) (w : World) : Calls Tryd.prog 34 #[.agg r.cells] w fun e w' => e = .returned (.agg r.only.cells) ∧ G w w' := by
  obtain ⟨kind, rn, dst, yes, ⟨a, b, c⟩, x1, x2, x3, An, cn, nodes, key, Ap, cp, ps, z1, z2, z3, z4, As, cs, sms⟩ := r
  dsimp only at hk
  subst hk
  have hon : RecM.only ⟨3, rn, dst, yes, ⟨a, b, c⟩, x1, x2, x3, An, cn, nodes, key, Ap, cp, ps, z1, z2, z3, z4, As, cs, sms⟩ = RecM.onlyF ⟨3, rn, dst, yes, ⟨a, b, c⟩, x1, x2, x3, An, cn, nodes, key, Ap, cp, ps, z1, z2, z3, z4, As, cs, sms⟩ { bat := true, st := true } := rfl
  have hfin : (RecM.only ⟨3, rn, dst, yes, ⟨a, b, c⟩, x1, x2, x3, An, cn, nodes, key, Ap, cp, ps, z1, z2, z3, z4, As, cs, sms⟩).cells = #[.int .i64 3, .int .i64 0, .int .i64 0, .bool false, .int .i64 a, .int .i64 b, .int .i64 c, .int .i64 0, .int .i64 0, .int .i64 0, .slice none 0 0, .string key, .slice Ap ps.length cp, .int .i64 0, .int .i64 0, .int .i64 0, .int .i64 0, .slice none 0 0] := by rw [hon]; rfl
  rw [hfin]
  unfold RecM.cells
  dsimp only
  clear hon hfin
  go_enter Tryd.func34, Tryd.ntmps34
  go_upto_region 1 with fail
  have hg0 := (G.new w (.cells #[.int .i64 3, .int .i64 rn, .int .i64 dst, .bool yes, .int .i64 a, .int .i64 b, .int .i64 c, .int .i64 x1, .int .i64 x2, .int .i64 x3, .slice An nodes.length cn, .string key, .slice Ap ps.length cp, .int .i64 z1, .int .i64 z2, .int .i64 z3, .int .i64 z4, .slice As sms.length cs] 37)).alloc (.cells #[.int .i64 0, .int .i64 0, .int .i64 0, .bool false, .int .i64 0, .int .i64 0, .int .i64 0, .int .i64 0, .int .i64 0, .int .i64 0, .slice none 0 0, .string ⟨#[]⟩, .slice none 0 0, .int .i64 0, .int .i64 0, .int .i64 0, .int .i64 0, .slice none 0 0] 37)
  have B0 := (G.new (w.alloc (.cells #[.int .i64 3, .int .i64 rn, .int .i64 dst, .bool yes, .int .i64 a, .int .i64 b, .int .i64 c, .int .i64 x1, .int .i64 x2, .int .i64 x3, .slice An nodes.length cn, .string key, .slice Ap ps.length cp, .int .i64 z1, .int .i64 z2, .int .i64 z3, .int .i64 z4, .slice As sms.length cs] 37)) (.cells #[.int .i64 0, .int .i64 0, .int .i64 0, .bool false, .int .i64 0, .int .i64 0, .int .i64 0, .int .i64 0, .int .i64 0, .int .i64 0, .slice none 0 0, .string ⟨#[]⟩, .slice none 0 0, .int .i64 0, .int .i64 0, .int .i64 0, .int .i64 0, .slice none 0 0] 37)).blk (blk_new w #[.int .i64 3, .int .i64 rn, .int .i64 dst, .bool yes, .int .i64 a, .int .i64 b, .int .i64 c, .int .i64 x1, .int .i64 x2, .int .i64 x3, .slice An nodes.length cn, .string key, .slice Ap ps.length cp, .int .i64 z1, .int .i64 z2, .int .i64 z3, .int .i64 z4, .slice As sms.length cs] 37)
  have D0 := blk_new' (w.alloc (.cells #[.int .i64 3, .int .i64 rn, .int .i64 dst, .bool yes, .int .i64 a, .int .i64 b, .int .i64 c, .int .i64 x1, .int .i64 x2, .int .i64 x3, .slice An nodes.length cn, .string key, .slice Ap ps.length cp, .int .i64 z1, .int .i64 z2, .int .i64 z3, .int .i64 z4, .slice As sms.length cs] 37)) #[.int .i64 0, .int .i64 0, .int .i64 0, .bool false, .int .i64 0, .int .i64 0, .int .i64 0, .int .i64 0, .int .i64 0, .int .i64 0, .slice none 0 0, .string ⟨#[]⟩, .slice none 0 0, .int .i64 0, .int .i64 0, .int .i64 0, .int .i64 0, .slice none 0 0] 37 (w.heap.size + 1) (by simp)
  generalize hW0 : (w.alloc (.cells #[.int .i64 3, .int .i64 rn, .int .i64 dst, .bool yes, .int .i64 a, .int .i64 b, .int .i64 c, .int .i64 x1, .int .i64 x2, .int .i64 x3, .slice An nodes.length cn, .string key, .slice Ap ps.length cp, .int .i64 z1, .int .i64 z2, .int .i64 z3, .int .i64 z4, .slice As sms.length cs] 37)).alloc (.cells #[.int .i64 0, .int .i64 0, .int .i64 0, .bool false, .int .i64 0, .int .i64 0, .int .i64 0, .int .i64 0, .int .i64 0, .int .i64 0, .slice none 0 0, .string ⟨#[]⟩, .slice none 0 0, .int .i64 0, .int .i64 0, .int .i64 0, .int .i64 0, .slice none 0 0] 37) = W0 at *
  have hsz : W0.heap.size = w.heap.size + 1 + 1 := by rw [← hW0]; simp
  clear hW0
  have g0 := (blk_cell B0 0).trans (show _ = some (.int .i64 3) from rfl)
  have hg1 := G.new W0 (.cells #[.int .i64 0, .int .i64 0, .int .i64 0, .bool false, .int .i64 0, .int .i64 0, .int .i64 0, .int .i64 0, .int .i64 0, .int .i64 0, .slice none 0 0, .string ⟨#[]⟩, .slice none 0 0, .int .i64 0, .int .i64 0, .int .i64 0, .int .i64 0, .slice none 0 0] 37)
  obtain ⟨W1, SR1, C1, hb1, hG1⟩ := store_blk (P := Tryd.prog) (T := 37) (cs := #[.int .i64 3, .int .i64 0, .int .i64 0, .bool false, .int .i64 0, .int .i64 0, .int .i64 0, .int .i64 0, .int .i64 0, .int .i64 0, .slice none 0 0, .string ⟨#[]⟩, .slice none 0 0, .int .i64 0, .int .i64 0, .int .i64 0, .int .i64 0, .slice none 0 0]) (blk_new W0 #[.int .i64 0, .int .i64 0, .int .i64 0, .bool false, .int .i64 0, .int .i64 0, .int .i64 0, .int .i64 0, .int .i64 0, .int .i64 0, .slice none 0 0, .string ⟨#[]⟩, .slice none 0 0, .int .i64 0, .int .i64 0, .int .i64 0, .int .i64 0, .slice none 0 0] 37) rfl (by kernel_rfl) (by kernel_rfl)
  have hgA := hG1 w (hg0.trans hg1) (by omega)
  have B1 := hb1.blk (hg1.blk B0) (by omega)
  have D1 := hb1.blk (hg1.blk D0) (by omega)
  rw [hsz] at C1 SR1
  replace C1 := Lib.hid C1
  replace B1 := Lib.hid B1
  replace D1 := Lib.hid D1
  replace B0 := Lib.hid B0
  replace D0 := Lib.hid D0
  replace hgA := Lib.hid hgA
  clear hb1 hG1 hg0 hg1
  go_upto_region 2 with (refine wpList_store_at (ty := 37) rfl (by kernel_rfl) rfl rfl SR1 ?_)
  clear g0 SR1
  have g0 := (blk_cell B1.out 0).trans (show _ = some (.int .i64 3) from rfl)
  have g4 := (blk_cell B1.out 4).trans (show _ = some (.int .i64 a) from rfl)
  have g5 := (blk_cell B1.out 5).trans (show _ = some (.int .i64 b) from rfl)
  have g6 := (blk_cell B1.out 6).trans (show _ = some (.int .i64 c) from rfl)
  have g11 := (blk_cell B1.out 11).trans (show _ = some (.string key) from rfl)
  have g12 := (blk_cell B1.out 12).trans (show _ = some (.slice Ap ps.length cp) from rfl)
  have C1' := C1.out
  have cfr : ∀ o, W1.frozen? ⟨w.heap.size + 1 + 1, o, none⟩ = false := fun o => by simp [World.frozen?, C1']
  have y11 := (blk_cell C1' 11).trans (show _ = some (.string ⟨#[]⟩) from rfl)
  have y12 := (blk_cell C1' 12).trans (show _ = some (.slice none 0 0) from rfl)
  have y4 := (blk_cell C1' 4).trans (show _ = some (.int .i64 0) from rfl)
  have y5 := (blk_cell C1' 5).trans (show _ = some (.int .i64 0) from rfl)
  have y6 := (blk_cell C1' 6).trans (show _ = some (.int .i64 0) from rfl)
  have E0 : (W1.setCell ⟨w.heap.size + 1 + 1, 11, none⟩ (.string key)).heap[w.heap.size + 1 + 1]? = some (.cells #[.int .i64 3, .int .i64 0, .int .i64 0, .bool false, .int .i64 0, .int .i64 0, .int .i64 0, .int .i64 0, .int .i64 0, .int .i64 0, .slice none 0 0, .string key, .slice none 0 0, .int .i64 0, .int .i64 0, .int .i64 0, .int .i64 0, .slice none 0 0] 37 (0, 0)) := by rw [blk_put C1']; rfl
  have u0 := but_set W1 (w.heap.size + 1 + 1) 11 (.string key)
  have E1 : ((W1.setCell ⟨w.heap.size + 1 + 1, 11, none⟩ (.string key)).setCell ⟨w.heap.size + 1 + 1, 12, none⟩ (.slice Ap ps.length cp)).heap[w.heap.size + 1 + 1]? = some (.cells #[.int .i64 3, .int .i64 0, .int .i64 0, .bool false, .int .i64 0, .int .i64 0, .int .i64 0, .int .i64 0, .int .i64 0, .int .i64 0, .slice none 0 0, .string key, .slice Ap ps.length cp, .int .i64 0, .int .i64 0, .int .i64 0, .int .i64 0, .slice none 0 0] 37 (0, 0)) := by rw [blk_put E0]; rfl
  have u1 := but_set (W1.setCell ⟨w.heap.size + 1 + 1, 11, none⟩ (.string key)) (w.heap.size + 1 + 1) 12 (.slice Ap ps.length cp)
  have E2 : (((W1.setCell ⟨w.heap.size + 1 + 1, 11, none⟩ (.string key)).setCell ⟨w.heap.size + 1 + 1, 12, none⟩ (.slice Ap ps.length cp)).setCell ⟨w.heap.size + 1 + 1, 4, none⟩ (.int .i64 a)).heap[w.heap.size + 1 + 1]? = some (.cells #[.int .i64 3, .int .i64 0, .int .i64 0, .bool false, .int .i64 a, .int .i64 0, .int .i64 0, .int .i64 0, .int .i64 0, .int .i64 0, .slice none 0 0, .string key, .slice Ap ps.length cp, .int .i64 0, .int .i64 0, .int .i64 0, .int .i64 0, .slice none 0 0] 37 (0, 0)) := by rw [blk_put E1]; rfl
  have u2 := but_set ((W1.setCell ⟨w.heap.size + 1 + 1, 11, none⟩ (.string key)).setCell ⟨w.heap.size + 1 + 1, 12, none⟩ (.slice Ap ps.length cp)) (w.heap.size + 1 + 1) 4 (.int .i64 a)
  have E3 : ((((W1.setCell ⟨w.heap.size + 1 + 1, 11, none⟩ (.string key)).setCell ⟨w.heap.size + 1 + 1, 12, none⟩ (.slice Ap ps.length cp)).setCell ⟨w.heap.size + 1 + 1, 4, none⟩ (.int .i64 a)).setCell ⟨w.heap.size + 1 + 1, 5, none⟩ (.int .i64 b)).heap[w.heap.size + 1 + 1]? = some (.cells #[.int .i64 3, .int .i64 0, .int .i64 0, .bool false, .int .i64 a, .int .i64 b, .int .i64 0, .int .i64 0, .int .i64 0, .int .i64 0, .slice none 0 0, .string key, .slice Ap ps.length cp, .int .i64 0, .int .i64 0, .int .i64 0, .int .i64 0, .slice none 0 0] 37 (0, 0)) := by rw [blk_put E2]; rfl
  have u3 := but_set (((W1.setCell ⟨w.heap.size + 1 + 1, 11, none⟩ (.string key)).setCell ⟨w.heap.size + 1 + 1, 12, none⟩ (.slice Ap ps.length cp)).setCell ⟨w.heap.size + 1 + 1, 4, none⟩ (.int .i64 a)) (w.heap.size + 1 + 1) 5 (.int .i64 b)
  have E4 : (((((W1.setCell ⟨w.heap.size + 1 + 1, 11, none⟩ (.string key)).setCell ⟨w.heap.size + 1 + 1, 12, none⟩ (.slice Ap ps.length cp)).setCell ⟨w.heap.size + 1 + 1, 4, none⟩ (.int .i64 a)).setCell ⟨w.heap.size + 1 + 1, 5, none⟩ (.int .i64 b)).setCell ⟨w.heap.size + 1 + 1, 6, none⟩ (.int .i64 c)).heap[w.heap.size + 1 + 1]? = some (.cells #[.int .i64 3, .int .i64 0, .int .i64 0, .bool false, .int .i64 a, .int .i64 b, .int .i64 c, .int .i64 0, .int .i64 0, .int .i64 0, .slice none 0 0, .string key, .slice Ap ps.length cp, .int .i64 0, .int .i64 0, .int .i64 0, .int .i64 0, .slice none 0 0] 37 (0, 0)) := by rw [blk_put E3]; rfl
  have u4 := but_set ((((W1.setCell ⟨w.heap.size + 1 + 1, 11, none⟩ (.string key)).setCell ⟨w.heap.size + 1 + 1, 12, none⟩ (.slice Ap ps.length cp)).setCell ⟨w.heap.size + 1 + 1, 4, none⟩ (.int .i64 a)).setCell ⟨w.heap.size + 1 + 1, 5, none⟩ (.int .i64 b)) (w.heap.size + 1 + 1) 6 (.int .i64 c)
  have hGz : G w (((((W1.setCell ⟨w.heap.size + 1 + 1, 11, none⟩ (.string key)).setCell ⟨w.heap.size + 1 + 1, 12, none⟩ (.slice Ap ps.length cp)).setCell ⟨w.heap.size + 1 + 1, 4, none⟩ (.int .i64 a)).setCell ⟨w.heap.size + 1 + 1, 5, none⟩ (.int .i64 b)).setCell ⟨w.heap.size + 1 + 1, 6, none⟩ (.int .i64 c)) := (((((hgA.out).set (Nat.le_trans (Nat.le_succ _) (Nat.le_succ _)) (.string key)).set (Nat.le_trans (Nat.le_succ _) (Nat.le_succ _)) (.slice Ap ps.length cp)).set (Nat.le_trans (Nat.le_succ _) (Nat.le_succ _)) (.int .i64 a)).set (Nat.le_trans (Nat.le_succ _) (Nat.le_succ _)) (.int .i64 b)).set (Nat.le_trans (Nat.le_succ _) (Nat.le_succ _)) (.int .i64 c)
  have Dz := (u4.blk ((u3.blk ((u2.blk ((u1.blk ((u0.blk (D1.out) (by omega))) (by omega))) (by omega))) (by omega))) (by omega))
  have LR := load_blk (P := Tryd.prog) (T := 37) E4 Tryd.underlying37 rfl (by kernel_rfl)
  obtain ⟨W9, SR9, D9, hb9, hG9⟩ := store_blk (P := Tryd.prog) (T := 37) (cs := #[.int .i64 3, .int .i64 0, .int .i64 0, .bool false, .int .i64 a, .int .i64 b, .int .i64 c, .int .i64 0, .int .i64 0, .int .i64 0, .slice none 0 0, .string key, .slice Ap ps.length cp, .int .i64 0, .int .i64 0, .int .i64 0, .int .i64 0, .slice none 0 0]) Dz rfl (by kernel_rfl) (by kernel_rfl)
  have hgZ := hG9 w hGz (by omega)
  clear E0 E1 E2 E3 E4 u0 u1 u2 u3 u4
  replace Dz := Lib.hid Dz
  replace D9 := Lib.hid D9
  replace hgZ := Lib.hid hgZ
  replace hGz := Lib.hid hGz
  replace C1' := Lib.hid C1'
  clear hb9 hG9
  go_upto_region 34 with fail
  go_wp2_with (first | (refine wpList_load_at (ty := 37) rfl (by kernel_rfl) (p := .pointer (some ⟨w.heap.size + 1 + 1, 0, none⟩)) rfl LR ?_; clear LR) | (refine wpList_store_at (ty := 37) rfl (by kernel_rfl) (p := .pointer (some ⟨w.heap.size + 1, 0, none⟩)) rfl rfl SR9 ?_; clear SR9))
  refine bodyPost_ret (v := .agg #[.int .i64 3, .int .i64 0, .int .i64 0, .bool false, .int .i64 a, .int .i64 b, .int .i64 c, .int .i64 0, .int .i64 0, .int .i64 0, .slice none 0 0, .string key, .slice Ap ps.length cp, .int .i64 0, .int .i64 0, .int .i64 0, .int .i64 0, .slice none 0 0]) (results_cell (i := 2) rfl rfl D9.out Tryd.underlying37 rfl (by kernel_rfl)) rfl ?_
  exact ⟨rfl, hgZ.out⟩
set_option maxRecDepth 100000 in
set_option maxHeartbeats 2000000 in
theorem only4_any (r : RecM) (hk : r.kind = 4) (w : World) : Calls Tryd.prog 34 #[.agg r.cells] w fun e w' => e = .returned (.agg r.only.cells) ∧ G w w' := by
  obtain ⟨kind, rn, dst, yes, ⟨a, b, c⟩, x1, x2, x3, An, cn, nodes, key, Ap, cp, ps, z1, z2, z3, z4, As, cs, sms⟩ := r
  dsimp only at hk
  subst hk
  have hon : RecM.only ⟨4, rn, dst, yes, ⟨a, b, c⟩, x1, x2, x3, An, cn, nodes, key, Ap, cp, ps, z1, z2, z3, z4, As, cs, sms⟩ = RecM.onlyF ⟨4, rn, dst, yes, ⟨a, b, c⟩, x1, x2, x3, An, cn, nodes, key, Ap, cp, ps, z1, z2, z3, z4, As, cs, sms⟩ { tx := true, bat := true, st := true } := rfl
  have hfin : (RecM.only ⟨4, rn, dst, yes, ⟨a, b, c⟩, x1, x2, x3, An, cn, nodes, key, Ap, cp, ps, z1, z2, z3, z4, As, cs, sms⟩).cells = #[.int .i64 4, .int .i64 0, .int .i64 0, .bool false, .int .i64 a, .int .i64 b, .int .i64 c, .int .i64 x1, .int .i64 x2, .int .i64 x3, .slice none 0 0, .string key, .slice Ap ps.length cp, .int .i64 0, .int .i64 0, .int .i64 0, .int .i64 0, .slice none 0 0] := by rw [hon]; rfl
  rw [hfin]
  unfold RecM.cells
  dsimp only
  clear hon hfin
  go_enter Tryd.func34, Tryd.ntmps34
  go_upto_region 1 with fail
  have hg0 := (G.new w (.cells #[.int .i64 4, .int .i64 rn, .int .i64 dst, .bool yes, .int .i64 a, .int .i64 b, .int .i64 c, .int .i64 x1, .int .i64 x2, .int .i64 x3, .slice An nodes.length cn, .string key, .slice Ap ps.length cp, .int .i64 z1, .int .i64 z2, .int .i64 z3, .int .i64 z4, .slice As sms.length cs] 37)).alloc (.cells #[.int .i64 0, .int .i64 0, .int .i64 0, .bool false, .int .i64 0, .int .i64 0, .int .i64 0, .int .i64 0, .int .i64 0, .int .i64 0, .slice none 0 0, .string ⟨#[]⟩, .slice none 0 0, .int .i64 0, .int .i64 0, .int .i64 0, .int .i64 0, .slice none 0 0] 37)
  have B0 := (G.new (w.alloc (.cells #[.int .i64 4, .int .i64 rn, .int .i64 dst, .bool yes, .int .i64 a, .int .i64 b, .int .i64 c, .int .i64 x1, .int .i64 x2, .int .i64 x3, .slice An nodes.length cn, .string key, .slice Ap ps.length cp, .int .i64 z1, .int .i64 z2, .int .i64 z3, .int .i64 z4, .slice As sms.length cs] 37)) (.cells #[.int .i64 0, .int .i64 0, .int .i64 0, .bool false, .int .i64 0, .int .i64 0, .int .i64 0, .int .i64 0, .int .i64 0, .int .i64 0, .slice none 0 0, .string ⟨#[]⟩, .slice none 0 0, .int .i64 0, .int .i64 0, .int .i64 0, .int .i64 0, .slice none 0 0] 37)).blk (blk_new w #[.int .i64 4, .int .i64 rn, .int .i64 dst, .bool yes, .int .i64 a, .int .i64 b, .int .i64 c, .int .i64 x1, .int .i64 x2, .int .i64 x3, .slice An nodes.length cn, .string key, .slice Ap ps.length cp, .int .i64 z1, .int .i64 z2, .int .i64 z3, .int .i64 z4, .slice As sms.length cs] 37)
  have D0 := blk_new' (w.alloc (.cells #[.int .i64 4, .int .i64 rn, .int .i64 dst, .bool yes, .int .i64 a, .int .i64 b, .int .i64 c, .int .i64 x1, .int .i64 x2, .int .i64 x3, .slice An nodes.length cn, .string key, .slice Ap ps.length cp, .int .i64 z1, .int .i64 z2, .int .i64 z3, .int .i64 z4, .slice As sms.length cs] 37)) #[.int .i64 0, .int .i64 0, .int .i64 0, .bool false, .int .i64 0, .int .i64 0, .int .i64 0, .int .i64 0, .int .i64 0, .int .i64 0, .slice none 0 0, .string ⟨#[]⟩, .slice none 0 0, .int .i64 0, .int .i64 0, .int .i64 0, .int .i64 0, .slice none 0 0] 37 (w.heap.size + 1) (by simp)
  generalize hW0 : (w.alloc (.cells #[.int .i64 4, .int .i64 rn, .int .i64 dst, .bool yes, .int .i64 a, .int .i64 b, .int .i64 c, .int .i64 x1, .int .i64 x2, .int .i64 x3, .slice An nodes.length cn, .string key, .slice Ap ps.length cp, .int .i64 z1, .int .i64 z2, .int .i64 z3, .int .i64 z4, .slice As sms.length cs] 37)).alloc (.cells #[.int .i64 0, .int .i64 0, .int .i64 0, .bool false, .int .i64 0, .int .i64 0, .int .i64 0, .int .i64 0, .int .i64 0, .int .i64 0, .slice none 0 0, .string ⟨#[]⟩, .slice none 0 0, .int .i64 0, .int .i64 0, .int .i64 0, .int .i64 0, .slice none 0 0] 37) = W0 at *
  have hsz : W0.heap.size = w.heap.size + 1 + 1 := by rw [← hW0]; simp
  clear hW0
  have g0 := (blk_cell B0 0).trans (show _ = some (.int .i64 4) from rfl)
  have hg1 := G.new W0 (.cells #[.int .i64 0, .int .i64 0, .int .i64 0, .bool false, .int .i64 0, .int .i64 0, .int .i64 0, .int .i64 0, .int .i64 0, .int .i64 0, .slice none 0 0, .string ⟨#[]⟩, .slice none 0 0, .int .i64 0, .int .i64 0, .int .i64 0, .int .i64 0, .slice none 0 0] 37)
  obtain ⟨W1, SR1, C1, hb1, hG1⟩ := store_blk (P := Tryd.prog) (T := 37) (cs := #[.int .i64 4, .int .i64 0, .int .i64 0, .bool false, .int .i64 0, .int .i64 0, .int .i64 0, .int .i64 0, .int .i64 0, .int .i64 0, .slice none 0 0, .string ⟨#[]⟩, .slice none 0 0, .int .i64 0, .int .i64 0, .int .i64 0, .int .i64 0, .slice none 0 0]) (blk_new W0 #[.int .i64 0, .int .i64 0, .int .i64 0, .bool false, .int .i64 0, .int .i64 0, .int .i64 0, .int .i64 0, .int .i64 0, .int .i64 0, .slice none 0 0, .string ⟨#[]⟩, .slice none 0 0, .int .i64 0, .int .i64 0, .int .i64 0, .int .i64 0, .slice none 0 0] 37) rfl (by kernel_rfl) (by kernel_rfl)
  have hgA := hG1 w (hg0.trans hg1) (by omega)
  have B1 := hb1.blk (hg1.blk B0) (by omega)
  have D1 := hb1.blk (hg1.blk D0) (by omega)
  rw [hsz] at C1 SR1
  replace C1 := Lib.hid C1
  replace B1 := Lib.hid B1
  replace D1 := Lib.hid D1
  replace B0 := Lib.hid B0
  replace D0 := Lib.hid D0
  replace hgA := Lib.hid hgA
  clear hb1 hG1 hg0 hg1
  go_upto_region 2 with (refine wpList_store_at (ty := 37) rfl (by kernel_rfl) rfl rfl SR1 ?_)
  clear g0 SR1
  have g0 := (blk_cell B1.out 0).trans (show _ = some (.int .i64 4) from rfl)
  have g4 := (blk_cell B1.out 4).trans (show _ = some (.int .i64 a) from rfl)
  have g5 := (blk_cell B1.out 5).trans (show _ = some (.int .i64 b) from rfl)
  have g6 := (blk_cell B1.out 6).trans (show _ = some (.int .i64 c) from rfl)
  have g7 := (blk_cell B1.out 7).trans (show _ = some (.int .i64 x1) from rfl)
  have g8 := (blk_cell B1.out 8).trans (show _ = some (.int .i64 x2) from rfl)
  have g9 := (blk_cell B1.out 9).trans (show _ = some (.int .i64 x3) from rfl)
  have g11 := (blk_cell B1.out 11).trans (show _ = some (.string key) from rfl)
  have g12 := (blk_cell B1.out 12).trans (show _ = some (.slice Ap ps.length cp) from rfl)
  have C1' := C1.out
  have cfr : ∀ o, W1.frozen? ⟨w.heap.size + 1 + 1, o, none⟩ = false := fun o => by simp [World.frozen?, C1']
  have y7 := (blk_cell C1' 7).trans (show _ = some (.int .i64 0) from rfl)
  have y8 := (blk_cell C1' 8).trans (show _ = some (.int .i64 0) from rfl)
  have y9 := (blk_cell C1' 9).trans (show _ = some (.int .i64 0) from rfl)
  have y11 := (blk_cell C1' 11).trans (show _ = some (.string ⟨#[]⟩) from rfl)
  have y12 := (blk_cell C1' 12).trans (show _ = some (.slice none 0 0) from rfl)
  have y4 := (blk_cell C1' 4).trans (show _ = some (.int .i64 0) from rfl)
  have y5 := (blk_cell C1' 5).trans (show _ = some (.int .i64 0) from rfl)
  have y6 := (blk_cell C1' 6).trans (show _ = some (.int .i64 0) from rfl)
  have E0 : (W1.setCell ⟨w.heap.size + 1 + 1, 7, none⟩ (.int .i64 x1)).heap[w.heap.size + 1 + 1]? = some (.cells #[.int .i64 4, .int .i64 0, .int .i64 0, .bool false, .int .i64 0, .int .i64 0, .int .i64 0, .int .i64 x1, .int .i64 0, .int .i64 0, .slice none 0 0, .string ⟨#[]⟩, .slice none 0 0, .int .i64 0, .int .i64 0, .int .i64 0, .int .i64 0, .slice none 0 0] 37 (0, 0)) := by rw [blk_put C1']; rfl
  have u0 := but_set W1 (w.heap.size + 1 + 1) 7 (.int .i64 x1)
  have E1 : ((W1.setCell ⟨w.heap.size + 1 + 1, 7, none⟩ (.int .i64 x1)).setCell ⟨w.heap.size + 1 + 1, 8, none⟩ (.int .i64 x2)).heap[w.heap.size + 1 + 1]? = some (.cells #[.int .i64 4, .int .i64 0, .int .i64 0, .bool false, .int .i64 0, .int .i64 0, .int .i64 0, .int .i64 x1, .int .i64 x2, .int .i64 0, .slice none 0 0, .string ⟨#[]⟩, .slice none 0 0, .int .i64 0, .int .i64 0, .int .i64 0, .int .i64 0, .slice none 0 0] 37 (0, 0)) := by rw [blk_put E0]; rfl
  have u1 := but_set (W1.setCell ⟨w.heap.size + 1 + 1, 7, none⟩ (.int .i64 x1)) (w.heap.size + 1 + 1) 8 (.int .i64 x2)
  have E2 : (((W1.setCell ⟨w.heap.size + 1 + 1, 7, none⟩ (.int .i64 x1)).setCell ⟨w.heap.size + 1 + 1, 8, none⟩ (.int .i64 x2)).setCell ⟨w.heap.size + 1 + 1, 9, none⟩ (.int .i64 x3)).heap[w.heap.size + 1 + 1]? = some (.cells #[.int .i64 4, .int .i64 0, .int .i64 0, .bool false, .int .i64 0, .int .i64 0, .int .i64 0, .int .i64 x1, .int .i64 x2, .int .i64 x3, .slice none 0 0, .string ⟨#[]⟩, .slice none 0 0, .int .i64 0, .int .i64 0, .int .i64 0, .int .i64 0, .slice none 0 0] 37 (0, 0)) := by rw [blk_put E1]; rfl
  have u2 := but_set ((W1.setCell ⟨w.heap.size + 1 + 1, 7, none⟩ (.int .i64 x1)).setCell ⟨w.heap.size + 1 + 1, 8, none⟩ (.int .i64 x2)) (w.heap.size + 1 + 1) 9 (.int .i64 x3)
  have E3 : ((((W1.setCell ⟨w.heap.size + 1 + 1, 7, none⟩ (.int .i64 x1)).setCell ⟨w.heap.size + 1 + 1, 8, none⟩ (.int .i64 x2)).setCell ⟨w.heap.size + 1 + 1, 9, none⟩ (.int .i64 x3)).setCell ⟨w.heap.size + 1 + 1, 11, none⟩ (.string key)).heap[w.heap.size + 1 + 1]? = some (.cells #[.int .i64 4, .int .i64 0, .int .i64 0, .bool false, .int .i64 0, .int .i64 0, .int .i64 0, .int .i64 x1, .int .i64 x2, .int .i64 x3, .slice none 0 0, .string key, .slice none 0 0, .int .i64 0, .int .i64 0, .int .i64 0, .int .i64 0, .slice none 0 0] 37 (0, 0)) := by rw [blk_put E2]; rfl
  have u3 := but_set (((W1.setCell ⟨w.heap.size + 1 + 1, 7, none⟩ (.int .i64 x1)).setCell ⟨w.heap.size + 1 + 1, 8, none⟩ (.int .i64 x2)).setCell ⟨w.heap.size + 1 + 1, 9, none⟩ (.int .i64 x3)) (w.heap.size + 1 + 1) 11 (.string key)
  have E4 : (((((W1.setCell ⟨w.heap.size + 1 + 1, 7, none⟩ (.int .i64 x1)).setCell ⟨w.heap.size + 1 + 1, 8, none⟩ (.int .i64 x2)).setCell ⟨w.heap.size + 1 + 1, 9, none⟩ (.int .i64 x3)).setCell ⟨w.heap.size + 1 + 1, 11, none⟩ (.string key)).setCell ⟨w.heap.size + 1 + 1, 12, none⟩ (.slice Ap ps.length cp)).heap[w.heap.size + 1 + 1]? = some (.cells #[.int .i64 4, .int .i64 0, .int .i64 0, .bool false, .int .i64 0, .int .i64 0, .int .i64 0, .int .i64 x1, .int .i64 x2, .int .i64 x3, .slice none 0 0, .string key, .slice Ap ps.length cp, .int .i64 0, .int .i64 0, .int .i64 0, .int .i64 0, .slice none 0 0] 37 (0, 0)) := by rw [blk_put E3]; rfl
  have u4 := but_set ((((W1.setCell ⟨w.heap.size + 1 + 1, 7, none⟩ (.int .i64 x1)).setCell ⟨w.heap.size + 1 + 1, 8, none⟩ (.int .i64 x2)).setCell ⟨w.heap.size + 1 + 1, 9, none⟩ (.int .i64 x3)).setCell ⟨w.heap.size + 1 + 1, 11, none⟩ (.string key)) (w.heap.size + 1 + 1) 12 (.slice Ap ps.length cp)
  have E5 : ((((((W1.setCell ⟨w.heap.size + 1 + 1, 7, none⟩ (.int .i64 x1)).setCell ⟨w.heap.size + 1 + 1, 8, none⟩ (.int .i64 x2)).setCell ⟨w.heap.size + 1 + 1, 9, none⟩ (.int .i64 x3)).setCell ⟨w.heap.size + 1 + 1, 11, none⟩ (.string key)).setCell ⟨w.heap.size + 1 + 1, 12, none⟩ (.slice Ap ps.length cp)).setCell ⟨w.heap.size + 1 + 1, 4, none⟩ (.int .i64 a)).heap[w.heap.size + 1 + 1]? = some (.cells #[.int .i64 4, .int .i64 0, .int .i64 0, .bool false, .int .i64 a, .int .i64 0, .int .i64 0, .int .i64 x1, .int .i64 x2, .int .i64 x3, .slice none 0 0, .string key, .slice Ap ps.length cp, .int .i64 0, .int .i64 0, .int .i64 0, .int .i64 0, .slice none 0 0] 37 (0, 0)) := by rw [blk_put E4]; rfl
  have u5 := but_set (((((W1.setCell ⟨w.heap.size + 1 + 1, 7, none⟩ (.int .i64 x1)).setCell ⟨w.heap.size + 1 + 1, 8, none⟩ (.int .i64 x2)).setCell ⟨w.heap.size + 1 + 1, 9, none⟩ (.int .i64 x3)).setCell ⟨w.heap.size + 1 + 1, 11, none⟩ (.string key)).setCell ⟨w.heap.size + 1 + 1, 12, none⟩ (.slice Ap ps.length cp)) (w.heap.size + 1 + 1) 4 (.int .i64 a)
  have E6 : (((((((W1.setCell ⟨w.heap.size + 1 + 1, 7, none⟩ (.int .i64 x1)).setCell ⟨w.heap.size + 1 + 1, 8, none⟩ (.int .i64 x2)).setCell ⟨w.heap.size + 1 + 1, 9, none⟩ (.int .i64 x3)).setCell ⟨w.heap.size + 1 + 1, 11, none⟩ (.string key)).setCell ⟨w.heap.size + 1 + 1, 12, none⟩ (.slice Ap ps.length cp)).setCell ⟨w.heap.size + 1 + 1, 4, none⟩ (.int .i64 a)).setCell ⟨w.heap.size + 1 + 1, 5, none⟩ (.int .i64 b)).heap[w.heap.size + 1 + 1]? = some (.cells #[.int .i64 4, .int .i64 0, .int .i64 0, .bool false, .int .i64 a, .int .i64 b, .int .i64 0, .int .i64 x1, .int .i64 x2, .int .i64 x3, .slice none 0 0, .string key, .slice Ap ps.length cp, .int .i64 0, .int .i64 0, .int .i64 0, .int .i64 0, .slice none 0 0] 37 (0, 0)) := by rw [blk_put E5]; rfl
  have u6 := but_set ((((((W1.setCell ⟨w.heap.size + 1 + 1, 7, none⟩ (.int .i64 x1)).setCell ⟨w.heap.size + 1 + 1, 8, none⟩ (.int .i64 x2)).setCell ⟨w.heap.size + 1 + 1, 9, none⟩ (.int .i64 x3)).setCell ⟨w.heap.size + 1 + 1, 11, none⟩ (.string key)).setCell ⟨w.heap.size + 1 + 1, 12, none⟩ (.slice Ap ps.length cp)).setCell ⟨w.heap.size + 1 + 1, 4, none⟩ (.int .i64 a)) (w.heap.size + 1 + 1) 5 (.int .i64 b)
  have E7 : ((((((((W1.setCell ⟨w.heap.size + 1 + 1, 7, none⟩ (.int .i64 x1)).setCell ⟨w.heap.size + 1 + 1, 8, none⟩ (.int .i64 x2)).setCell ⟨w.heap.size + 1 + 1, 9, none⟩ (.int .i64 x3)).setCell ⟨w.heap.size + 1 + 1, 11, none⟩ (.string key)).setCell ⟨w.heap.size + 1 + 1, 12, none⟩ (.slice Ap ps.length cp)).setCell ⟨w.heap.size + 1 + 1, 4, none⟩ (.int .i64 a)).setCell ⟨w.heap.size + 1 + 1, 5, none⟩ (.int .i64 b)).setCell ⟨w.heap.size + 1 + 1, 6, none⟩ (.int .i64 c)).heap[w.heap.size + 1 + 1]? = some (.cells #[.int .i64 4, .int .i64 0, .int .i64 0, .bool false, .int .i64 a, .int .i64 b, .int .i64 c, .int .i64 x1, .int .i64 x2, .int .i64 x3, .slice none 0 0, .string key, .slice Ap ps.length cp, .int .i64 0, .int .i64 0, .int .i64 0, .int .i64 0, .slice none 0 0] 37 (0, 0)) := by rw [blk_put E6]; rfl
  have u7 := but_set (((((((W1.setCell ⟨w.heap.size + 1 + 1, 7, none⟩ (.int .i64 x1)).setCell ⟨w.heap.size + 1 + 1, 8, none⟩ (.int .i64 x2)).setCell ⟨w.heap.size + 1 + 1, 9, none⟩ (.int .i64 x3)).setCell ⟨w.heap.size + 1 + 1, 11, none⟩ (.string key)).setCell ⟨w.heap.size + 1 + 1, 12, none⟩ (.slice Ap ps.length cp)).setCell ⟨w.heap.size + 1 + 1, 4, none⟩ (.int .i64 a)).setCell ⟨w.heap.size + 1 + 1, 5, none⟩ (.int .i64 b)) (w.heap.size + 1 + 1) 6 (.int .i64 c)
  have hGz : G w ((((((((W1.setCell ⟨w.heap.size + 1 + 1, 7, none⟩ (.int .i64 x1)).setCell ⟨w.heap.size + 1 + 1, 8, none⟩ (.int .i64 x2)).setCell ⟨w.heap.size + 1 + 1, 9, none⟩ (.int .i64 x3)).setCell ⟨w.heap.size + 1 + 1, 11, none⟩ (.string key)).setCell ⟨w.heap.size + 1 + 1, 12, none⟩ (.slice Ap ps.length cp)).setCell ⟨w.heap.size + 1 + 1, 4, none⟩ (.int .i64 a)).setCell ⟨w.heap.size + 1 + 1, 5, none⟩ (.int .i64 b)).setCell ⟨w.heap.size + 1 + 1, 6, none⟩ (.int .i64 c)) := ((((((((hgA.out).set (Nat.le_trans (Nat.le_succ _) (Nat.le_succ _)) (.int .i64 x1)).set (Nat.le_trans (Nat.le_succ _) (Nat.le_succ _)) (.int .i64 x2)).set (Nat.le_trans (Nat.le_succ _) (Nat.le_succ _)) (.int .i64 x3)).set (Nat.le_trans (Nat.le_succ _) (Nat.le_succ _)) (.string key)).set (Nat.le_trans (Nat.le_succ _) (Nat.le_succ _)) (.slice Ap ps.length cp)).set (Nat.le_trans (Nat.le_succ _) (Nat.le_succ _)) (.int .i64 a)).set (Nat.le_trans (Nat.le_succ _) (Nat.le_succ _)) (.int .i64 b)).set (Nat.le_trans (Nat.le_succ _) (Nat.le_succ _)) (.int .i64 c)
  have Dz := (u7.blk ((u6.blk ((u5.blk ((u4.blk ((u3.blk ((u2.blk ((u1.blk ((u0.blk (D1.out) (by omega))) (by omega))) (by omega))) (by omega))) (by omega))) (by omega))) (by omega))) (by omega))
  have LR := load_blk (P := Tryd.prog) (T := 37) E7 Tryd.underlying37 rfl (by kernel_rfl)
  obtain ⟨W9, SR9, D9, hb9, hG9⟩ := store_blk (P := Tryd.prog) (T := 37) (cs := #[.int .i64 4, .int .i64 0, .int .i64 0, .bool false, .int .i64 a, .int .i64 b, .int .i64 c, .int .i64 x1, .int .i64 x2, .int .i64 x3, .slice none 0 0, .string key, .slice Ap ps.length cp, .int .i64 0, .int .i64 0, .int .i64 0, .int .i64 0, .slice none 0 0]) Dz rfl (by kernel_rfl) (by kernel_rfl)
  have hgZ := hG9 w hGz (by omega)
  clear E0 E1 E2 E3 E4 E5 E6 E7 u0 u1 u2 u3 u4 u5 u6 u7
  replace Dz := Lib.hid Dz
  replace D9 := Lib.hid D9
  replace hgZ := Lib.hid hgZ
  replace hGz := Lib.hid hGz
  replace C1' := Lib.hid C1'
  clear hb9 hG9
  go_upto_region 34 with fail
  go_wp2_with (first | (refine wpList_load_at (ty := 37) rfl (by kernel_rfl) (p := .pointer (some ⟨w.heap.size + 1 + 1, 0, none⟩)) rfl LR ?_; clear LR) | (refine wpList_store_at (ty := 37) rfl (by kernel_rfl) (p := .pointer (some ⟨w.heap.size + 1, 0, none⟩)) rfl rfl SR9 ?_; clear SR9))
  refine bodyPost_ret (v := .agg #[.int .i64 4, .int .i64 0, .int .i64 0, .bool false, .int .i64 a, .int .i64 b, .int .i64 c, .int .i64 x1, .int .i64 x2, .int .i64 x3, .slice none 0 0, .string key, .slice Ap ps.length cp, .int .i64 0, .int .i64 0, .int .i64 0, .int .i64 0, .slice none 0 0]) (results_cell (i := 2) rfl rfl D9.out Tryd.underlying37 rfl (by kernel_rfl)) rfl ?_
  exact ⟨rfl, hgZ.out⟩
set_option maxRecDepth 100000 in
set_option maxHeartbeats 2000000 in
theorem only5_any (r : RecM) (hk : r.kind = 5) (w : World) : Calls Tryd.prog 34 #[.agg r.cells] w fun e w' => e = .returned (.agg r.only.cells) ∧ G w w' := by
  obtain ⟨kind, rn, dst, yes, ⟨a, b, c⟩, x1, x2, x3, An, cn, nodes, key, Ap, cp, ps, z1, z2, z3, z4, As, cs, sms⟩ := r
  dsimp only at hk
  subst hk
  have hon : RecM.only ⟨5, rn, dst, yes, ⟨a, b, c⟩, x1, x2, x3, An, cn, nodes, key, Ap, cp, ps, z1, z2, z3, z4, As, cs, sms⟩ = RecM.onlyF ⟨5, rn, dst, yes, ⟨a, b, c⟩, x1, x2, x3, An, cn, nodes, key, Ap, cp, ps, z1, z2, z3, z4, As, cs, sms⟩ { tx := true, yes := true, st := true } := rfl
  have hfin : (RecM.only ⟨5, rn, dst, yes, ⟨a, b, c⟩, x1, x2, x3, An, cn, nodes, key, Ap, cp, ps, z1, z2, z3, z4, As, cs, sms⟩).cells = #[.int .i64 5, .int .i64 0, .int .i64 0, .bool yes, .int .i64 a, .int .i64 b, .int .i64 c, .int .i64 x1, .int .i64 x2, .int .i64 x3, .slice none 0 0, .string ⟨#[]⟩, .slice none 0 0, .int .i64 0, .int .i64 0, .int .i64 0, .int .i64 0, .slice none 0 0] := by rw [hon]; rfl
  rw [hfin]
  unfold RecM.cells
  dsimp only
  clear hon hfin
  go_enter Tryd.func34, Tryd.ntmps34
  go_upto_region 1 with fail
  have hg0 := (G.new w (.cells #[.int .i64 5, .int .i64 rn, .int .i64 dst, .bool yes, .int .i64 a, .int .i64 b, .int .i64 c, .int .i64 x1, .int .i64 x2, .int .i64 x3, .slice An nodes.length cn, .string key, .slice Ap ps.length cp, .int .i64 z1, .int .i64 z2, .int .i64 z3, .int .i64 z4, .slice As sms.length cs] 37)).alloc (.cells #[.int .i64 0, .int .i64 0, .int .i64 0, .bool false, .int .i64 0, .int .i64 0, .int .i64 0, .int .i64 0, .int .i64 0, .int .i64 0, .slice none 0 0, .string ⟨#[]⟩, .slice none 0 0, .int .i64 0, .int .i64 0, .int .i64 0, .int .i64 0, .slice none 0 0] 37)
  have B0 := (G.new (w.alloc (.cells #[.int .i64 5, .int .i64 rn, .int .i64 dst, .bool yes, .int .i64 a, .int .i64 b, .int .i64 c, .int .i64 x1, .int .i64 x2, .int .i64 x3, .slice An nodes.length cn, .string key, .slice Ap ps.length cp, .int .i64 z1, .int .i64 z2, .int .i64 z3, .int .i64 z4, .slice As sms.length cs] 37)) (.cells #[.int .i64 0, .int .i64 0, .int .i64 0, .bool false, .int .i64 0, .int .i64 0, .int .i64 0, .int .i64 0, .int .i64 0, .int .i64 0, .slice none 0 0, .string ⟨#[]⟩, .slice none 0 0, .int .i64 0, .int .i64 0, .int .i64 0, .int .i64 0, .slice none 0 0] 37)).blk (blk_new w #[.int .i64 5, .int .i64 rn, .int .i64 dst, .bool yes, .int .i64 a, .int .i64 b, .int .i64 c, .int .i64 x1, .int .i64 x2, .int .i64 x3, .slice An nodes.length cn, .string key, .slice Ap ps.length cp, .int .i64 z1, .int .i64 z2, .int .i64 z3, .int .i64 z4, .slice As sms.length cs] 37)
  have D0 := blk_new' (w.alloc (.cells #[.int .i64 5, .int .i64 rn, .int .i64 dst, .bool yes, .int .i64 a, .int .i64 b, .int .i64 c, .int .i64 x1, .int .i64 x2, .int .i64 x3, .slice An nodes.length cn, .string key, .slice Ap ps.length cp, .int .i64 z1, .int .i64 z2, .int .i64 z3, .int .i64 z4, .slice As sms.length cs] 37)) #[.int .i64 0, .int .i64 0, .int .i64 0, .bool false, .int .i64 0, .int .i64 0, .int .i64 0, .int .i64 0, .int .i64 0, .int .i64 0, .slice none 0 0, .string ⟨#[]⟩, .slice none 0 0, .int .i64 0, .int .i64 0, .int .i64 0, .int .i64 0, .slice none 0 0] 37 (w.heap.size + 1) (by simp)
  generalize hW0 : (w.alloc (.cells #[.int .i64 5, .int .i64 rn, .int .i64 dst, .bool yes, .int .i64 a, .int .i64 b, .int .i64 c, .int .i64 x1, .int .i64 x2, .int .i64 x3, .slice An nodes.length cn, .string key, .slice Ap ps.length cp, .int .i64 z1, .int .i64 z2, .int .i64 z3, .int .i64 z4, .slice As sms.length cs] 37)).alloc (.cells #[.int .i64 0, .int .i64 0, .int .i64 0, .bool false, .int .i64 0, .int .i64 0, .int .i64 0, .int .i64 0, .int .i64 0, .int .i64 0, .slice none 0 0, .string ⟨#[]⟩, .slice none 0 0, .int .i64 0, .int .i64 0, .int .i64 0, .int .i64 0, .slice none 0 0] 37) = W0 at *
  have hsz : W0.heap.size = w.heap.size + 1 + 1 := by rw [← hW0]; simp
  clear hW0
  have g0 := (blk_cell B0 0).trans (show _ = some (.int .i64 5) from rfl)
  have hg1 := G.new W0 (.cells #[.int .i64 0, .int .i64 0, .int .i64 0, .bool false, .int .i64 0, .int .i64 0, .int .i64 0, .int .i64 0, .int .i64 0, .int .i64 0, .slice none 0 0, .string ⟨#[]⟩, .slice none 0 0, .int .i64 0, .int .i64 0, .int .i64 0, .int .i64 0, .slice none 0 0] 37)
  obtain ⟨W1, SR1, C1, hb1, hG1⟩ := store_blk (P := Tryd.prog) (T := 37) (cs := #[.int .i64 5, .int .i64 0, .int .i64 0, .bool false, .int .i64 0, .int .i64 0, .int .i64 0, .int .i64 0, .int .i64 0, .int .i64 0, .slice none 0 0, .string ⟨#[]⟩, .slice none 0 0, .int .i64 0, .int .i64 0, .int .i64 0, .int .i64 0, .slice none 0 0]) (blk_new W0 #[.int .i64 0, .int .i64 0, .int .i64 0, .bool false, .int .i64 0, .int .i64 0, .int .i64 0, .int .i64 0, .int .i64 0, .int .i64 0, .slice none 0 0, .string ⟨#[]⟩, .slice none 0 0, .int .i64 0, .int .i64 0, .int .i64 0, .int .i64 0, .slice none 0 0] 37) rfl (by kernel_rfl) (by kernel_rfl)
  have hgA := hG1 w (hg0.trans hg1) (by omega)
  have B1 := hb1.blk (hg1.blk B0) (by omega)
  have D1 := hb1.blk (hg1.blk D0) (by omega)
  rw [hsz] at C1 SR1
  replace C1 := Lib.hid C1
  replace B1 := Lib.hid B1
  replace D1 := Lib.hid D1
  replace B0 := Lib.hid B0
  replace D0 := Lib.hid D0
  replace hgA := Lib.hid hgA
  clear hb1 hG1 hg0 hg1
  go_upto_region 2 with (refine wpList_store_at (ty := 37) rfl (by kernel_rfl) rfl rfl SR1 ?_)
  clear g0 SR1
  have g0 := (blk_cell B1.out 0).trans (show _ = some (.int .i64 5) from rfl)
  have g3 := (blk_cell B1.out 3).trans (show _ = some (.bool yes) from rfl)
  have g4 := (blk_cell B1.out 4).trans (show _ = some (.int .i64 a) from rfl)
  have g5 := (blk_cell B1.out 5).trans (show _ = some (.int .i64 b) from rfl)
  have g6 := (blk_cell B1.out 6).trans (show _ = some (.int .i64 c) from rfl)
  have g7 := (blk_cell B1.out 7).trans (show _ = some (.int .i64 x1) from rfl)
  have g8 := (blk_cell B1.out 8).trans (show _ = some (.int .i64 x2) from rfl)
  have g9 := (blk_cell B1.out 9).trans (show _ = some (.int .i64 x3) from rfl)
  have C1' := C1.out
  have cfr : ∀ o, W1.frozen? ⟨w.heap.size + 1 + 1, o, none⟩ = false := fun o => by simp [World.frozen?, C1']
  have y7 := (blk_cell C1' 7).trans (show _ = some (.int .i64 0) from rfl)
  have y8 := (blk_cell C1' 8).trans (show _ = some (.int .i64 0) from rfl)
  have y9 := (blk_cell C1' 9).trans (show _ = some (.int .i64 0) from rfl)
  have y3 := (blk_cell C1' 3).trans (show _ = some (.bool false) from rfl)
  have y4 := (blk_cell C1' 4).trans (show _ = some (.int .i64 0) from rfl)
  have y5 := (blk_cell C1' 5).trans (show _ = some (.int .i64 0) from rfl)
  have y6 := (blk_cell C1' 6).trans (show _ = some (.int .i64 0) from rfl)
  have E0 : (W1.setCell ⟨w.heap.size + 1 + 1, 7, none⟩ (.int .i64 x1)).heap[w.heap.size + 1 + 1]? = some (.cells #[.int .i64 5, .int .i64 0, .int .i64 0, .bool false, .int .i64 0, .int .i64 0, .int .i64 0, .int .i64 x1, .int .i64 0, .int .i64 0, .slice none 0 0, .string ⟨#[]⟩, .slice none 0 0, .int .i64 0, .int .i64 0, .int .i64 0, .int .i64 0, .slice none 0 0] 37 (0, 0)) := by rw [blk_put C1']; rfl
  have u0 := but_set W1 (w.heap.size + 1 + 1) 7 (.int .i64 x1)
  have E1 : ((W1.setCell ⟨w.heap.size + 1 + 1, 7, none⟩ (.int .i64 x1)).setCell ⟨w.heap.size + 1 + 1, 8, none⟩ (.int .i64 x2)).heap[w.heap.size + 1 + 1]? = some (.cells #[.int .i64 5, .int .i64 0, .int .i64 0, .bool false, .int .i64 0, .int .i64 0, .int .i64 0, .int .i64 x1, .int .i64 x2, .int .i64 0, .slice none 0 0, .string ⟨#[]⟩, .slice none 0 0, .int .i64 0, .int .i64 0, .int .i64 0, .int .i64 0, .slice none 0 0] 37 (0, 0)) := by rw [blk_put E0]; rfl
  have u1 := but_set (W1.setCell ⟨w.heap.size + 1 + 1, 7, none⟩ (.int .i64 x1)) (w.heap.size + 1 + 1) 8 (.int .i64 x2)
  have E2 : (((W1.setCell ⟨w.heap.size + 1 + 1, 7, none⟩ (.int .i64 x1)).setCell ⟨w.heap.size + 1 + 1, 8, none⟩ (.int .i64 x2)).setCell ⟨w.heap.size + 1 + 1, 9, none⟩ (.int .i64 x3)).heap[w.heap.size + 1 + 1]? = some (.cells #[.int .i64 5, .int .i64 0, .int .i64 0, .bool false, .int .i64 0, .int .i64 0, .int .i64 0, .int .i64 x1, .int .i64 x2, .int .i64 x3, .slice none 0 0, .string ⟨#[]⟩, .slice none 0 0, .int .i64 0, .int .i64 0, .int .i64 0, .int .i64 0, .slice none 0 0] 37 (0, 0)) := by rw [blk_put E1]; rfl
  have u2 := but_set ((W1.setCell ⟨w.heap.size + 1 + 1, 7, none⟩ (.int .i64 x1)).setCell ⟨w.heap.size + 1 + 1, 8, none⟩ (.int .i64 x2)) (w.heap.size + 1 + 1) 9 (.int .i64 x3)
  have E3 : ((((W1.setCell ⟨w.heap.size + 1 + 1, 7, none⟩ (.int .i64 x1)).setCell ⟨w.heap.size + 1 + 1, 8, none⟩ (.int .i64 x2)).setCell ⟨w.heap.size + 1 + 1, 9, none⟩ (.int .i64 x3)).setCell ⟨w.heap.size + 1 + 1, 3, none⟩ (.bool yes)).heap[w.heap.size + 1 + 1]? = some (.cells #[.int .i64 5, .int .i64 0, .int .i64 0, .bool yes, .int .i64 0, .int .i64 0, .int .i64 0, .int .i64 x1, .int .i64 x2, .int .i64 x3, .slice none 0 0, .string ⟨#[]⟩, .slice none 0 0, .int .i64 0, .int .i64 0, .int .i64 0, .int .i64 0, .slice none 0 0] 37 (0, 0)) := by rw [blk_put E2]; rfl
  have u3 := but_set (((W1.setCell ⟨w.heap.size + 1 + 1, 7, none⟩ (.int .i64 x1)).setCell ⟨w.heap.size + 1 + 1, 8, none⟩ (.int .i64 x2)).setCell ⟨w.heap.size + 1 + 1, 9, none⟩ (.int .i64 x3)) (w.heap.size + 1 + 1) 3 (.bool yes)
  have E4 : (((((W1.setCell ⟨w.heap.size + 1 + 1, 7, none⟩ (.int .i64 x1)).setCell ⟨w.heap.size + 1 + 1, 8, none⟩ (.int .i64 x2)).setCell ⟨w.heap.size + 1 + 1, 9, none⟩ (.int .i64 x3)).setCell ⟨w.heap.size + 1 + 1, 3, none⟩ (.bool yes)).setCell ⟨w.heap.size + 1 + 1, 4, none⟩ (.int .i64 a)).heap[w.heap.size + 1 + 1]? = some (.cells #[.int .i64 5, .int .i64 0, .int .i64 0, .bool yes, .int .i64 a, .int .i64 0, .int .i64 0, .int .i64 x1, .int .i64 x2, .int .i64 x3, .slice none 0 0, .string ⟨#[]⟩, .slice none 0 0, .int .i64 0, .int .i64 0, .int .i64 0, .int .i64 0, .slice none 0 0] 37 (0, 0)) := by rw [blk_put E3]; rfl
  have u4 := but_set ((((W1.setCell ⟨w.heap.size + 1 + 1, 7, none⟩ (.int .i64 x1)).setCell ⟨w.heap.size + 1 + 1, 8, none⟩ (.int .i64 x2)).setCell ⟨w.heap.size + 1 + 1, 9, none⟩ (.int .i64 x3)).setCell ⟨w.heap.size + 1 + 1, 3, none⟩ (.bool yes)) (w.heap.size + 1 + 1) 4 (.int .i64 a)
  have E5 : ((((((W1.setCell ⟨w.heap.size + 1 + 1, 7, none⟩ (.int .i64 x1)).setCell ⟨w.heap.size + 1 + 1, 8, none⟩ (.int .i64 x2)).setCell ⟨w.heap.size + 1 + 1, 9, none⟩ (.int .i64 x3)).setCell ⟨w.heap.size + 1 + 1, 3, none⟩ (.bool yes)).setCell ⟨w.heap.size + 1 + 1, 4, none⟩ (.int .i64 a)).setCell ⟨w.heap.size + 1 + 1, 5, none⟩ (.int .i64 b)).heap[w.heap.size + 1 + 1]? = some (.cells #[.int .i64 5, .int .i64 0, .int .i64 0, .bool yes, .int .i64 a, .int .i64 b, .int .i64 0, .int .i64 x1, .int .i64 x2, .int .i64 x3, .slice none 0 0, .string ⟨#[]⟩, .slice none 0 0, .int .i64 0, .int .i64 0, .int .i64 0, .int .i64 0, .slice none 0 0] 37 (0, 0)) := by rw [blk_put E4]; rfl
  have u5 := but_set (((((W1.setCell ⟨w.heap.size + 1 + 1, 7, none⟩ (.int .i64 x1)).setCell ⟨w.heap.size + 1 + 1, 8, none⟩ (.int .i64 x2)).setCell ⟨w.heap.size + 1 + 1, 9, none⟩ (.int .i64 x3)).setCell ⟨w.heap.size + 1 + 1, 3, none⟩ (.bool yes)).setCell ⟨w.heap.size + 1 + 1, 4, none⟩ (.int .i64 a)) (w.heap.size + 1 + 1) 5 (.int .i64 b)
  have E6 : (((((((W1.setCell ⟨w.heap.size + 1 + 1, 7, none⟩ (.int .i64 x1)).setCell ⟨w.heap.size + 1 + 1, 8, none⟩ (.int .i64 x2)).setCell ⟨w.heap.size + 1 + 1, 9, none⟩ (.int .i64 x3)).setCell ⟨w.heap.size + 1 + 1, 3, none⟩ (.bool yes)).setCell ⟨w.heap.size + 1 + 1, 4, none⟩ (.int .i64 a)).setCell ⟨w.heap.size + 1 + 1, 5, none⟩ (.int .i64 b)).setCell ⟨w.heap.size + 1 + 1, 6, none⟩ (.int .i64 c)).heap[w.heap.size + 1 + 1]? = some (.cells #[.int .i64 5, .int .i64 0, .int .i64 0, .bool yes, .int .i64 a, .int .i64 b, .int .i64 c, .int .i64 x1, .int .i64 x2, .int .i64 x3, .slice none 0 0, .string ⟨#[]⟩, .slice none 0 0, .int .i64 0, .int .i64 0, .int .i64 0, .int .i64 0, .slice none 0 0] 37 (0, 0)) := by rw [blk_put E5]; rfl
  have u6 := but_set ((((((W1.setCell ⟨w.heap.size + 1 + 1, 7, none⟩ (.int .i64 x1)).setCell ⟨w.heap.size + 1 + 1, 8, none⟩ (.int .i64 x2)).setCell ⟨w.heap.size + 1 + 1, 9, none⟩ (.int .i64 x3)).setCell ⟨w.heap.size + 1 + 1, 3, none⟩ (.bool yes)).setCell ⟨w.heap.size + 1 + 1, 4, none⟩ (.int .i64 a)).setCell ⟨w.heap.size + 1 + 1, 5, none⟩ (.int .i64 b)) (w.heap.size + 1 + 1) 6 (.int .i64 c)
  have hGz : G w (((((((W1.setCell ⟨w.heap.size + 1 + 1, 7, none⟩ (.int .i64 x1)).setCell ⟨w.heap.size + 1 + 1, 8, none⟩ (.int .i64 x2)).setCell ⟨w.heap.size + 1 + 1, 9, none⟩ (.int .i64 x3)).setCell ⟨w.heap.size + 1 + 1, 3, none⟩ (.bool yes)).setCell ⟨w.heap.size + 1 + 1, 4, none⟩ (.int .i64 a)).setCell ⟨w.heap.size + 1 + 1, 5, none⟩ (.int .i64 b)).setCell ⟨w.heap.size + 1 + 1, 6, none⟩ (.int .i64 c)) := (((((((hgA.out).set (Nat.le_trans (Nat.le_succ _) (Nat.le_succ _)) (.int .i64 x1)).set (Nat.le_trans (Nat.le_succ _) (Nat.le_succ _)) (.int .i64 x2)).set (Nat.le_trans (Nat.le_succ _) (Nat.le_succ _)) (.int .i64 x3)).set (Nat.le_trans (Nat.le_succ _) (Nat.le_succ _)) (.bool yes)).set (Nat.le_trans (Nat.le_succ _) (Nat.le_succ _)) (.int .i64 a)).set (Nat.le_trans (Nat.le_succ _) (Nat.le_succ _)) (.int .i64 b)).set (Nat.le_trans (Nat.le_succ _) (Nat.le_succ _)) (.int .i64 c)
  have Dz := (u6.blk ((u5.blk ((u4.blk ((u3.blk ((u2.blk ((u1.blk ((u0.blk (D1.out) (by omega))) (by omega))) (by omega))) (by omega))) (by omega))) (by omega))) (by omega))
  have LR := load_blk (P := Tryd.prog) (T := 37) E6 Tryd.underlying37 rfl (by kernel_rfl)
  obtain ⟨W9, SR9, D9, hb9, hG9⟩ := store_blk (P := Tryd.prog) (T := 37) (cs := #[.int .i64 5, .int .i64 0, .int .i64 0, .bool yes, .int .i64 a, .int .i64 b, .int .i64 c, .int .i64 x1, .int .i64 x2, .int .i64 x3, .slice none 0 0, .string ⟨#[]⟩, .slice none 0 0, .int .i64 0, .int .i64 0, .int .i64 0, .int .i64 0, .slice none 0 0]) Dz rfl (by kernel_rfl) (by kernel_rfl)
  have hgZ := hG9 w hGz (by omega)
  clear E0 E1 E2 E3 E4 E5 E6 u0 u1 u2 u3 u4 u5 u6
  replace Dz := Lib.hid Dz
  replace D9 := Lib.hid D9
  replace hgZ := Lib.hid hgZ
  replace hGz := Lib.hid hGz
  replace C1' := Lib.hid C1'
  clear hb9 hG9
  go_upto_region 34 with fail
  go_wp2_with (first | (refine wpList_load_at (ty := 37) rfl (by kernel_rfl) (p := .pointer (some ⟨w.heap.size + 1 + 1, 0, none⟩)) rfl LR ?_; clear LR) | (refine wpList_store_at (ty := 37) rfl (by kernel_rfl) (p := .pointer (some ⟨w.heap.size + 1, 0, none⟩)) rfl rfl SR9 ?_; clear SR9))
  refine bodyPost_ret (v := .agg #[.int .i64 5, .int .i64 0, .int .i64 0, .bool yes, .int .i64 a, .int .i64 b, .int .i64 c, .int .i64 x1, .int .i64 x2, .int .i64 x3, .slice none 0 0, .string ⟨#[]⟩, .slice none 0 0, .int .i64 0, .int .i64 0, .int .i64 0, .int .i64 0, .slice none 0 0]) (results_cell (i := 2) rfl rfl D9.out Tryd.underlying37 rfl (by kernel_rfl)) rfl ?_
  exact ⟨rfl, hgZ.out⟩
set_option maxRecDepth 100000 in
set_option maxHeartbeats 2000000 in
theorem only6_any (r : RecM) (hk : r.kind = 6) (w : World) : Calls Tryd.prog 34 #[.agg r.cells] w fun e w' => e = .returned (.agg r.only.cells) ∧ G w w' := by
  obtain ⟨kind, rn, dst, yes, ⟨a, b, c⟩, x1, x2, x3, An, cn, nodes, key, Ap, cp, ps, z1, z2, z3, z4, As, cs, sms⟩ := r
  dsimp only at hk
  subst hk
  have hon : RecM.only ⟨6, rn, dst, yes, ⟨a, b, c⟩, x1, x2, x3, An, cn, nodes, key, Ap, cp, ps, z1, z2, z3, z4, As, cs, sms⟩ = RecM.onlyF ⟨6, rn, dst, yes, ⟨a, b, c⟩, x1, x2, x3, An, cn, nodes, key, Ap, cp, ps, z1, z2, z3, z4, As, cs, sms⟩ { tx := true, yes := true, st := true, nodes := true } := rfl
  have hfin : (RecM.only ⟨6, rn, dst, yes, ⟨a, b, c⟩, x1, x2, x3, An, cn, nodes, key, Ap, cp, ps, z1, z2, z3, z4, As, cs, sms⟩).cells = #[.int .i64 6, .int .i64 0, .int .i64 0, .bool yes, .int .i64 a, .int .i64 b, .int .i64 c, .int .i64 x1, .int .i64 x2, .int .i64 x3, .slice An nodes.length cn, .string ⟨#[]⟩, .slice none 0 0, .int .i64 0, .int .i64 0, .int .i64 0, .int .i64 0, .slice none 0 0] := by rw [hon]; rfl
  rw [hfin]
  unfold RecM.cells
  dsimp only
  clear hon hfin
  go_enter Tryd.func34, Tryd.ntmps34
  go_upto_region 1 with fail
  have hg0 := (G.new w (.cells #[.int .i64 6, .int .i64 rn, .int .i64 dst, .bool yes, .int .i64 a, .int .i64 b, .int .i64 c, .int .i64 x1, .int .i64 x2, .int .i64 x3, .slice An nodes.length cn, .string key, .slice Ap ps.length cp, .int .i64 z1, .int .i64 z2, .int .i64 z3, .int .i64 z4, .slice As sms.length cs] 37)).alloc (.cells #[.int .i64 0, .int .i64 0, .int .i64 0, .bool false, .int .i64 0, .int .i64 0, .int .i64 0, .int .i64 0, .int .i64 0, .int .i64 0, .slice none 0 0, .string ⟨#[]⟩, .slice none 0 0, .int .i64 0, .int .i64 0, .int .i64 0, .int .i64 0, .slice none 0 0] 37)
  have B0 := (G.new (w.alloc (.cells #[.int .i64 6, .int .i64 rn, .int .i64 dst, .bool yes, .int .i64 a, .int .i64 b, .int .i64 c, .int .i64 x1, .int .i64 x2, .int .i64 x3, .slice An nodes.length cn, .string key, .slice Ap ps.length cp, .int .i64 z1, .int .i64 z2, .int .i64 z3, .int .i64 z4, .slice As sms.length cs] 37)) (.cells #[.int .i64 0, .int .i64 0, .int .i64 0, .bool false, .int .i64 0, .int .i64 0, .int .i64 0, .int .i64 0, .int .i64 0, .int .i64 0, .slice none 0 0, .string ⟨#[]⟩, .slice none 0 0, .int .i64 0, .int .i64 0, .int .i64 0, .int .i64 0, .slice none 0 0] 37)).blk (blk_new w #[.int .i64 6, .int .i64 rn, .int .i64 dst, .bool yes, .int .i64 a, .int .i64 b, .int .i64 c, .int .i64 x1, .int .i64 x2, .int .i64 x3, .slice An nodes.length cn, .string key, .slice Ap ps.length cp, .int .i64 z1, .int .i64 z2, .int .i64 z3, .int .i64 z4, .slice As sms.length cs] 37)
  have D0 := blk_new' (w.alloc (.cells #[.int .i64 6, .int .i64 rn, .int .i64 dst, .bool yes, .int .i64 a, .int .i64 b, .int .i64 c, .int .i64 x1, .int .i64 x2, .int .i64 x3, .slice An nodes.length cn, .string key, .slice Ap ps.length cp, .int .i64 z1, .int .i64 z2, .int .i64 z3, .int .i64 z4, .slice As sms.length cs] 37)) #[.int .i64 0, .int .i64 0, .int .i64 0, .bool false, .int .i64 0, .int .i64 0, .int .i64 0, .int .i64 0, .int .i64 0, .int .i64 0, .slice none 0 0, .string ⟨#[]⟩, .slice none 0 0, .int .i64 0, .int .i64 0, .int .i64 0, .int .i64 0, .slice none 0 0] 37 (w.heap.size + 1) (by simp)
  generalize hW0 : (w.alloc (.cells #[.int .i64 6, .int .i64 rn, .int .i64 dst, .bool yes, .int .i64 a, .int .i64 b, .int .i64 c, .int .i64 x1, .int .i64 x2, .int .i64 x3, .slice An nodes.length cn, .string key, .slice Ap ps.length cp, .int .i64 z1, .int .i64 z2, .int .i64 z3, .int .i64 z4, .slice As sms.length cs] 37)).alloc (.cells #[.int .i64 0, .int .i64 0, .int .i64 0, .bool false, .int .i64 0, .int .i64 0, .int .i64 0, .int .i64 0, .int .i64 0, .int .i64 0, .slice none 0 0, .string ⟨#[]⟩, .slice none 0 0, .int .i64 0, .int .i64 0, .int .i64 0, .int .i64 0, .slice none 0 0] 37) = W0 at *
  have hsz : W0.heap.size = w.heap.size + 1 + 1 := by rw [← hW0]; simp
  clear hW0
  have g0 := (blk_cell B0 0).trans (show _ = some (.int .i64 6) from rfl)
  have hg1 := G.new W0 (.cells #[.int .i64 0, .int .i64 0, .int .i64 0, .bool false, .int .i64 0, .int .i64 0, .int .i64 0, .int .i64 0, .int .i64 0, .int .i64 0, .slice none 0 0, .string ⟨#[]⟩, .slice none 0 0, .int .i64 0, .int .i64 0, .int .i64 0, .int .i64 0, .slice none 0 0] 37)
  obtain ⟨W1, SR1, C1, hb1, hG1⟩ := store_blk (P := Tryd.prog) (T := 37) (cs := #[.int .i64 6, .int .i64 0, .int .i64 0, .bool false, .int .i64 0, .int .i64 0, .int .i64 0, .int .i64 0, .int .i64 0, .int .i64 0, .slice none 0 0, .string ⟨#[]⟩, .slice none 0 0, .int .i64 0, .int .i64 0, .int .i64 0, .int .i64 0, .slice none 0 0]) (blk_new W0 #[.int .i64 0, .int .i64 0, .int .i64 0, .bool false, .int .i64 0, .int .i64 0, .int .i64 0, .int .i64 0, .int .i64 0, .int .i64 0, .slice none 0 0, .string ⟨#[]⟩, .slice none 0 0, .int .i64 0, .int .i64 0, .int .i64 0, .int .i64 0, .slice none 0 0] 37) rfl (by kernel_rfl) (by kernel_rfl)
  have hgA := hG1 w (hg0.trans hg1) (by omega)
  have B1 := hb1.blk (hg1.blk B0) (by omega)
  have D1 := hb1.blk (hg1.blk D0) (by omega)
  rw [hsz] at C1 SR1
  replace C1 := Lib.hid C1
  replace B1 := Lib.hid B1
  replace D1 := Lib.hid D1
  replace B0 := Lib.hid B0
  replace D0 := Lib.hid D0
  replace hgA := Lib.hid hgA
  clear hb1 hG1 hg0 hg1
  go_upto_region 2 with (refine wpList_store_at (ty := 37) rfl (by kernel_rfl) rfl rfl SR1 ?_)
  clear g0 SR1
  have g0 := (blk_cell B1.out 0).trans (show _ = some (.int .i64 6) from rfl)
  have g3 := (blk_cell B1.out 3).trans (show _ = some (.bool yes) from rfl)
  have g4 := (blk_cell B1.out 4).trans (show _ = some (.int .i64 a) from rfl)
  have g5 := (blk_cell B1.out 5).trans (show _ = some (.int .i64 b) from rfl)
  have g6 := (blk_cell B1.out 6).trans (show _ = some (.int .i64 c) from rfl)
  have g7 := (blk_cell B1.out 7).trans (show _ = some (.int .i64 x1) from rfl)
  have g8 := (blk_cell B1.out 8).trans (show _ = some (.int .i64 x2) from rfl)
  have g9 := (blk_cell B1.out 9).trans (show _ = some (.int .i64 x3) from rfl)
  have g10 := (blk_cell B1.out 10).trans (show _ = some (.slice An nodes.length cn) from rfl)
  have C1' := C1.out
  have cfr : ∀ o, W1.frozen? ⟨w.heap.size + 1 + 1, o, none⟩ = false := fun o => by simp [World.frozen?, C1']
  have y7 := (blk_cell C1' 7).trans (show _ = some (.int .i64 0) from rfl)
  have y8 := (blk_cell C1' 8).trans (show _ = some (.int .i64 0) from rfl)
  have y9 := (blk_cell C1' 9).trans (show _ = some (.int .i64 0) from rfl)
  have y3 := (blk_cell C1' 3).trans (show _ = some (.bool false) from rfl)
  have y4 := (blk_cell C1' 4).trans (show _ = some (.int .i64 0) from rfl)
  have y5 := (blk_cell C1' 5).trans (show _ = some (.int .i64 0) from rfl)
  have y6 := (blk_cell C1' 6).trans (show _ = some (.int .i64 0) from rfl)
  have y10 := (blk_cell C1' 10).trans (show _ = some (.slice none 0 0) from rfl)
  have E0 : (W1.setCell ⟨w.heap.size + 1 + 1, 7, none⟩ (.int .i64 x1)).heap[w.heap.size + 1 + 1]? = some (.cells #[.int .i64 6, .int .i64 0, .int .i64 0, .bool false, .int .i64 0, .int .i64 0, .int .i64 0, .int .i64 x1, .int .i64 0, .int .i64 0, .slice none 0 0, .string ⟨#[]⟩, .slice none 0 0, .int .i64 0, .int .i64 0, .int .i64 0, .int .i64 0, .slice none 0 0] 37 (0, 0)) := by rw [blk_put C1']; rfl
  have u0 := but_set W1 (w.heap.size + 1 + 1) 7 (.int .i64 x1)
  have E1 : ((W1.setCell ⟨w.heap.size + 1 + 1, 7, none⟩ (.int .i64 x1)).setCell ⟨w.heap.size + 1 + 1, 8, none⟩ (.int .i64 x2)).heap[w.heap.size + 1 + 1]? = some (.cells #[.int .i64 6, .int .i64 0, .int .i64 0, .bool false, .int .i64 0, .int .i64 0, .int .i64 0, .int .i64 x1, .int .i64 x2, .int .i64 0, .slice none 0 0, .string ⟨#[]⟩, .slice none 0 0, .int .i64 0, .int .i64 0, .int .i64 0, .int .i64 0, .slice none 0 0] 37 (0, 0)) := by rw [blk_put E0]; rfl
  have u1 := but_set (W1.setCell ⟨w.heap.size + 1 + 1, 7, none⟩ (.int .i64 x1)) (w.heap.size + 1 + 1) 8 (.int .i64 x2)
  have E2 : (((W1.setCell ⟨w.heap.size + 1 + 1, 7, none⟩ (.int .i64 x1)).setCell ⟨w.heap.size + 1 + 1, 8, none⟩ (.int .i64 x2)).setCell ⟨w.heap.size + 1 + 1, 9, none⟩ (.int .i64 x3)).heap[w.heap.size + 1 + 1]? = some (.cells #[.int .i64 6, .int .i64 0, .int .i64 0, .bool false, .int .i64 0, .int .i64 0, .int .i64 0, .int .i64 x1, .int .i64 x2, .int .i64 x3, .slice none 0 0, .string ⟨#[]⟩, .slice none 0 0, .int .i64 0, .int .i64 0, .int .i64 0, .int .i64 0, .slice none 0 0] 37 (0, 0)) := by rw [blk_put E1]; rfl
  have u2 := but_set ((W1.setCell ⟨w.heap.size + 1 + 1, 7, none⟩ (.int .i64 x1)).setCell ⟨w.heap.size + 1 + 1, 8, none⟩ (.int .i64 x2)) (w.heap.size + 1 + 1) 9 (.int .i64 x3)
  have E3 : ((((W1.setCell ⟨w.heap.size + 1 + 1, 7, none⟩ (.int .i64 x1)).setCell ⟨w.heap.size + 1 + 1, 8, none⟩ (.int .i64 x2)).setCell ⟨w.heap.size + 1 + 1, 9, none⟩ (.int .i64 x3)).setCell ⟨w.heap.size + 1 + 1, 3, none⟩ (.bool yes)).heap[w.heap.size + 1 + 1]? = some (.cells #[.int .i64 6, .int .i64 0, .int .i64 0, .bool yes, .int .i64 0, .int .i64 0, .int .i64 0, .int .i64 x1, .int .i64 x2, .int .i64 x3, .slice none 0 0, .string ⟨#[]⟩, .slice none 0 0, .int .i64 0, .int .i64 0, .int .i64 0, .int .i64 0, .slice none 0 0] 37 (0, 0)) := by rw [blk_put E2]; rfl
  have u3 := but_set (((W1.setCell ⟨w.heap.size + 1 + 1, 7, none⟩ (.int .i64 x1)).setCell ⟨w.heap.size + 1 + 1, 8, none⟩ (.int .i64 x2)).setCell ⟨w.heap.size + 1 + 1, 9, none⟩ (.int .i64 x3)) (w.heap.size + 1 + 1) 3 (.bool yes)
  have E4 : (((((W1.setCell ⟨w.heap.size + 1 + 1, 7, none⟩ (.int .i64 x1)).setCell ⟨w.heap.size + 1 + 1, 8, none⟩ (.int .i64 x2)).setCell ⟨w.heap.size + 1 + 1, 9, none⟩ (.int .i64 x3)).setCell ⟨w.heap.size + 1 + 1, 3, none⟩ (.bool yes)).setCell ⟨w.heap.size + 1 + 1, 4, none⟩ (.int .i64 a)).heap[w.heap.size + 1 + 1]? = some (.cells #[.int .i64 6, .int .i64 0, .int .i64 0, .bool yes, .int .i64 a, .int .i64 0, .int .i64 0, .int .i64 x1, .int .i64 x2, .int .i64 x3, .slice none 0 0, .string ⟨#[]⟩, .slice none 0 0, .int .i64 0, .int .i64 0, .int .i64 0, .int .i64 0, .slice none 0 0] 37 (0, 0)) := by rw [blk_put E3]; rfl
  have u4 := but_set ((((W1.setCell ⟨w.heap.size + 1 + 1, 7, none⟩ (.int .i64 x1)).setCell ⟨w.heap.size + 1 + 1, 8, none⟩ (.int .i64 x2)).setCell ⟨w.heap.size + 1 + 1, 9, none⟩ (.int .i64 x3)).setCell ⟨w.heap.size + 1 + 1, 3, none⟩ (.bool yes)) (w.heap.size + 1 + 1) 4 (.int .i64 a)
  have E5 : ((((((W1.setCell ⟨w.heap.size + 1 + 1, 7, none⟩ (.int .i64 x1)).setCell ⟨w.heap.size + 1 + 1, 8, none⟩ (.int .i64 x2)).setCell ⟨w.heap.size + 1 + 1, 9, none⟩ (.int .i64 x3)).setCell ⟨w.heap.size + 1 + 1, 3, none⟩ (.bool yes)).setCell ⟨w.heap.size + 1 + 1, 4, none⟩ (.int .i64 a)).setCell ⟨w.heap.size + 1 + 1, 5, none⟩ (.int .i64 b)).heap[w.heap.size + 1 + 1]? = some (.cells #[.int .i64 6, .int .i64 0, .int .i64 0, .bool yes, .int .i64 a, .int .i64 b, .int .i64 0, .int .i64 x1, .int .i64 x2, .int .i64 x3, .slice none 0 0, .string ⟨#[]⟩, .slice none 0 0, .int .i64 0, .int .i64 0, .int .i64 0, .int .i64 0, .slice none 0 0] 37 (0, 0)) := by rw [blk_put E4]; rfl
  have u5 := but_set (((((W1.setCell ⟨w.heap.size + 1 + 1, 7, none⟩ (.int .i64 x1)).setCell ⟨w.heap.size + 1 + 1, 8, none⟩ (.int .i64 x2)).setCell ⟨w.heap.size + 1 + 1, 9, none⟩ (.int .i64 x3)).setCell ⟨w.heap.size + 1 + 1, 3, none⟩ (.bool yes)).setCell ⟨w.heap.size + 1 + 1, 4, none⟩ (.int .i64 a)) (w.heap.size + 1 + 1) 5 (.int .i64 b)
  have E6 : (((((((W1.setCell ⟨w.heap.size + 1 + 1, 7, none⟩ (.int .i64 x1)).setCell ⟨w.heap.size + 1 + 1, 8, none⟩ (.int .i64 x2)).setCell ⟨w.heap.size + 1 + 1, 9, none⟩ (.int .i64 x3)).setCell ⟨w.heap.size + 1 + 1, 3, none⟩ (.bool yes)).setCell ⟨w.heap.size + 1 + 1, 4, none⟩ (.int .i64 a)).setCell ⟨w.heap.size + 1 + 1, 5, none⟩ (.int .i64 b)).setCell ⟨w.heap.size + 1 + 1, 6, none⟩ (.int .i64 c)).heap[w.heap.size + 1 + 1]? = some (.cells #[.int .i64 6, .int .i64 0, .int .i64 0, .bool yes, .int .i64 a, .int .i64 b, .int .i64 c, .int .i64 x1, .int .i64 x2, .int .i64 x3, .slice none 0 0, .string ⟨#[]⟩, .slice none 0 0, .int .i64 0, .int .i64 0, .int .i64 0, .int .i64 0, .slice none 0 0] 37 (0, 0)) := by rw [blk_put E5]; rfl
  have u6 := but_set ((((((W1.setCell ⟨w.heap.size + 1 + 1, 7, none⟩ (.int .i64 x1)).setCell ⟨w.heap.size + 1 + 1, 8, none⟩ (.int .i64 x2)).setCell ⟨w.heap.size + 1 + 1, 9, none⟩ (.int .i64 x3)).setCell ⟨w.heap.size + 1 + 1, 3, none⟩ (.bool yes)).setCell ⟨w.heap.size + 1 + 1, 4, none⟩ (.int .i64 a)).setCell ⟨w.heap.size + 1 + 1, 5, none⟩ (.int .i64 b)) (w.heap.size + 1 + 1) 6 (.int .i64 c)
  have E7 : ((((((((W1.setCell ⟨w.heap.size + 1 + 1, 7, none⟩ (.int .i64 x1)).setCell ⟨w.heap.size + 1 + 1, 8, none⟩ (.int .i64 x2)).setCell ⟨w.heap.size + 1 + 1, 9, none⟩ (.int .i64 x3)).setCell ⟨w.heap.size + 1 + 1, 3, none⟩ (.bool yes)).setCell ⟨w.heap.size + 1 + 1, 4, none⟩ (.int .i64 a)).setCell ⟨w.heap.size + 1 + 1, 5, none⟩ (.int .i64 b)).setCell ⟨w.heap.size + 1 + 1, 6, none⟩ (.int .i64 c)).setCell ⟨w.heap.size + 1 + 1, 10, none⟩ (.slice An nodes.length cn)).heap[w.heap.size + 1 + 1]? = some (.cells #[.int .i64 6, .int .i64 0, .int .i64 0, .bool yes, .int .i64 a, .int .i64 b, .int .i64 c, .int .i64 x1, .int .i64 x2, .int .i64 x3, .slice An nodes.length cn, .string ⟨#[]⟩, .slice none 0 0, .int .i64 0, .int .i64 0, .int .i64 0, .int .i64 0, .slice none 0 0] 37 (0, 0)) := by rw [blk_put E6]; rfl
  have u7 := but_set (((((((W1.setCell ⟨w.heap.size + 1 + 1, 7, none⟩ (.int .i64 x1)).setCell ⟨w.heap.size + 1 + 1, 8, none⟩ (.int .i64 x2)).setCell ⟨w.heap.size + 1 + 1, 9, none⟩ (.int .i64 x3)).setCell ⟨w.heap.size + 1 + 1, 3, none⟩ (.bool yes)).setCell ⟨w.heap.size + 1 + 1, 4, none⟩ (.int .i64 a)).setCell ⟨w.heap.size + 1 + 1, 5, none⟩ (.int .i64 b)).setCell ⟨w.heap.size + 1 + 1, 6, none⟩ (.int .i64 c)) (w.heap.size + 1 + 1) 10 (.slice An nodes.length cn)
  have hGz : G w ((((((((W1.setCell ⟨w.heap.size + 1 + 1, 7, none⟩ (.int .i64 x1)).setCell ⟨w.heap.size + 1 + 1, 8, none⟩ (.int .i64 x2)).setCell ⟨w.heap.size + 1 + 1, 9, none⟩ (.int .i64 x3)).setCell ⟨w.heap.size + 1 + 1, 3, none⟩ (.bool yes)).setCell ⟨w.heap.size + 1 + 1, 4, none⟩ (.int .i64 a)).setCell ⟨w.heap.size + 1 + 1, 5, none⟩ (.int .i64 b)).setCell ⟨w.heap.size + 1 + 1, 6, none⟩ (.int .i64 c)).setCell ⟨w.heap.size + 1 + 1, 10, none⟩ (.slice An nodes.length cn)) := ((((((((hgA.out).set (Nat.le_trans (Nat.le_succ _) (Nat.le_succ _)) (.int .i64 x1)).set (Nat.le_trans (Nat.le_succ _) (Nat.le_succ _)) (.int .i64 x2)).set (Nat.le_trans (Nat.le_succ _) (Nat.le_succ _)) (.int .i64 x3)).set (Nat.le_trans (Nat.le_succ _) (Nat.le_succ _)) (.bool yes)).set (Nat.le_trans (Nat.le_succ _) (Nat.le_succ _)) (.int .i64 a)).set (Nat.le_trans (Nat.le_succ _) (Nat.le_succ _)) (.int .i64 b)).set (Nat.le_trans (Nat.le_succ _) (Nat.le_succ _)) (.int .i64 c)).set (Nat.le_trans (Nat.le_succ _) (Nat.le_succ _)) (.slice An nodes.length cn)
  have Dz := (u7.blk ((u6.blk ((u5.blk ((u4.blk ((u3.blk ((u2.blk ((u1.blk ((u0.blk (D1.out) (by omega))) (by omega))) (by omega))) (by omega))) (by omega))) (by omega))) (by omega))) (by omega))
  have LR := load_blk (P := Tryd.prog) (T := 37) E7 Tryd.underlying37 rfl (by kernel_rfl)
  obtain ⟨W9, SR9, D9, hb9, hG9⟩ := store_blk (P := Tryd.prog) (T := 37) (cs := #[.int .i64 6, .int .i64 0, .int .i64 0, .bool yes, .int .i64 a, .int .i64 b, .int .i64 c, .int .i64 x1, .int .i64 x2, .int .i64 x3, .slice An nodes.length cn, .string ⟨#[]⟩, .slice none 0 0, .int .i64 0, .int .i64 0, .int .i64 0, .int .i64 0, .slice none 0 0]) Dz rfl (by kernel_rfl) (by kernel_rfl)
  have hgZ := hG9 w hGz (by omega)
  clear E0 E1 E2 E3 E4 E5 E6 E7 u0 u1 u2 u3 u4 u5 u6 u7
  replace Dz := Lib.hid Dz
  replace D9 := Lib.hid D9
  replace hgZ := Lib.hid hgZ
  replace hGz := Lib.hid hGz
  replace C1' := Lib.hid C1'
  clear hb9 hG9
  go_upto_region 34 with fail
  go_wp2_with (first | (refine wpList_load_at (ty := 37) rfl (by kernel_rfl) (p := .pointer (some ⟨w.heap.size + 1 + 1, 0, none⟩)) rfl LR ?_; clear LR) | (refine wpList_store_at (ty := 37) rfl (by kernel_rfl) (p := .pointer (some ⟨w.heap.size + 1, 0, none⟩)) rfl rfl SR9 ?_; clear SR9))
  refine bodyPost_ret (v := .agg #[.int .i64 6, .int .i64 0, .int .i64 0, .bool yes, .int .i64 a, .int .i64 b, .int .i64 c, .int .i64 x1, .int .i64 x2, .int .i64 x3, .slice An nodes.length cn, .string ⟨#[]⟩, .slice none 0 0, .int .i64 0, .int .i64 0, .int .i64 0, .int .i64 0, .slice none 0 0]) (results_cell (i := 2) rfl rfl D9.out Tryd.underlying37 rfl (by kernel_rfl)) rfl ?_
  exact ⟨rfl, hgZ.out⟩
set_option maxRecDepth 100000 in
set_option maxHeartbeats 2000000 in
theorem only7_any (r : RecM) (hk : r.kind = 7) (w : World) : Calls Tryd.prog 34 #[.agg r.cells] w fun e w' => e = .returned (.agg r.only.cells) ∧ G w w' := by
  obtain ⟨kind, rn, dst, yes, ⟨a, b, c⟩, x1, x2, x3, An, cn, nodes, key, Ap, cp, ps, z1, z2, z3, z4, As, cs, sms⟩ := r
  dsimp only at hk
  subst hk
  have hon : RecM.only ⟨7, rn, dst, yes, ⟨a, b, c⟩, x1, x2, x3, An, cn, nodes, key, Ap, cp, ps, z1, z2, z3, z4, As, cs, sms⟩ = RecM.onlyF ⟨7, rn, dst, yes, ⟨a, b, c⟩, x1, x2, x3, An, cn, nodes, key, Ap, cp, ps, z1, z2, z3, z4, As, cs, sms⟩ { tx := true } := rfl
  have hfin : (RecM.only ⟨7, rn, dst, yes, ⟨a, b, c⟩, x1, x2, x3, An, cn, nodes, key, Ap, cp, ps, z1, z2, z3, z4, As, cs, sms⟩).cells = #[.int .i64 7, .int .i64 0, .int .i64 0, .bool false, .int .i64 0, .int .i64 0, .int .i64 0, .int .i64 x1, .int .i64 x2, .int .i64 x3, .slice none 0 0, .string ⟨#[]⟩, .slice none 0 0, .int .i64 0, .int .i64 0, .int .i64 0, .int .i64 0, .slice none 0 0] := by rw [hon]; rfl
  rw [hfin]
  unfold RecM.cells
  dsimp only
  clear hon hfin
  go_enter Tryd.func34, Tryd.ntmps34
  go_upto_region 1 with fail
  have hg0 := (G.new w (.cells #[.int .i64 7, .int .i64 rn, .int .i64 dst, .bool yes, .int .i64 a, .int .i64 b, .int .i64 c, .int .i64 x1, .int .i64 x2, .int .i64 x3, .slice An nodes.length cn, .string key, .slice Ap ps.length cp, .int .i64 z1, .int .i64 z2, .int .i64 z3, .int .i64 z4, .slice As sms.length cs] 37)).alloc (.cells #[.int .i64 0, .int .i64 0, .int .i64 0, .bool false, .int .i64 0, .int .i64 0, .int .i64 0, .int .i64 0, .int .i64 0, .int .i64 0, .slice none 0 0, .string ⟨#[]⟩, .slice none 0 0, .int .i64 0, .int .i64 0, .int .i64 0, .int .i64 0, .slice none 0 0] 37)
  have B0 := (G.new (w.alloc (.cells #[.int .i64 7, .int .i64 rn, .int .i64 dst, .bool yes, .int .i64 a, .int .i64 b, .int .i64 c, .int .i64 x1, .int .i64 x2, .int .i64 x3, .slice An nodes.length cn, .string key, .slice Ap ps.length cp, .int .i64 z1, .int .i64 z2, .int .i64 z3, .int .i64 z4, .slice As sms.length cs] 37)) (.cells #[.int .i64 0, .int .i64 0, .int .i64 0, .bool false, .int .i64 0, .int .i64 0, .int .i64 0, .int .i64 0, .int .i64 0, .int .i64 0, .slice none 0 0, .string ⟨#[]⟩, .slice none 0 0, .int .i64 0, .int .i64 0, .int .i64 0, .int .i64 0, .slice none 0 0] 37)).blk (blk_new w #[.int .i64 7, .int .i64 rn, .int .i64 dst, .bool yes, .int .i64 a, .int .i64 b, .int .i64 c, .int .i64 x1, .int .i64 x2, .int .i64 x3, .slice An nodes.length cn, .string key, .slice Ap ps.length cp, .int .i64 z1, .int .i64 z2, .int .i64 z3, .int .i64 z4, .slice As sms.length cs] 37)
  have D0 := blk_new' (w.alloc (.cells #[.int .i64 7, .int .i64 rn, .int .i64 dst, .bool yes, .int .i64 a, .int .i64 b, .int .i64 c, .int .i64 x1, .int .i64 x2, .int .i64 x3, .slice An nodes.length cn, .string key, .slice Ap ps.length cp, .int .i64 z1, .int .i64 z2, .int .i64 z3, .int .i64 z4, .slice As sms.length cs] 37)) #[.int .i64 0, .int .i64 0, .int .i64 0, .bool false, .int .i64 0, .int .i64 0, .int .i64 0, .int .i64 0, .int .i64 0, .int .i64 0, .slice none 0 0, .string ⟨#[]⟩, .slice none 0 0, .int .i64 0, .int .i64 0, .int .i64 0, .int .i64 0, .slice none 0 0] 37 (w.heap.size + 1) (by simp)
  generalize hW0 : (w.alloc (.cells #[.int .i64 7, .int .i64 rn, .int .i64 dst, .bool yes, .int .i64 a, .int .i64 b, .int .i64 c, .int .i64 x1, .int .i64 x2, .int .i64 x3, .slice An nodes.length cn, .string key, .slice Ap ps.length cp, .int .i64 z1, .int .i64 z2, .int .i64 z3, .int .i64 z4, .slice As sms.length cs] 37)).alloc (.cells #[.int .i64 0, .int .i64 0, .int .i64 0, .bool false, .int .i64 0, .int .i64 0, .int .i64 0, .int .i64 0, .int .i64 0, .int .i64 0, .slice none 0 0, .string ⟨#[]⟩, .slice none 0 0, .int .i64 0, .int .i64 0, .int .i64 0, .int .i64 0, .slice none 0 0] 37) = W0 at *
  have hsz : W0.heap.size = w.heap.size + 1 + 1 := by rw [← hW0]; simp
  clear hW0
  have g0 := (blk_cell B0 0).trans (show _ = some (.int .i64 7) from rfl)
  have hg1 := G.new W0 (.cells #[.int .i64 0, .int .i64 0, .int .i64 0, .bool false, .int .i64 0, .int .i64 0, .int .i64 0, .int .i64 0, .int .i64 0, .int .i64 0, .slice none 0 0, .string ⟨#[]⟩, .slice none 0 0, .int .i64 0, .int .i64 0, .int .i64 0, .int .i64 0, .slice none 0 0] 37)
  obtain ⟨W1, SR1, C1, hb1, hG1⟩ := store_blk (P := Tryd.prog) (T := 37) (cs := #[.int .i64 7, .int .i64 0, .int .i64 0, .bool false, .int .i64 0, .int .i64 0, .int .i64 0, .int .i64 0, .int .i64 0, .int .i64 0, .slice none 0 0, .string ⟨#[]⟩, .slice none 0 0, .int .i64 0, .int .i64 0, .int .i64 0, .int .i64 0, .slice none 0 0]) (blk_new W0 #[.int .i64 0, .int .i64 0, .int .i64 0, .bool false, .int .i64 0, .int .i64 0, .int .i64 0, .int .i64 0, .int .i64 0, .int .i64 0, .slice none 0 0, .string ⟨#[]⟩, .slice none 0 0, .int .i64 0, .int .i64 0, .int .i64 0, .int .i64 0, .slice none 0 0] 37) rfl (by kernel_rfl) (by kernel_rfl)
  have hgA := hG1 w (hg0.trans hg1) (by omega)
  have B1 := hb1.blk (hg1.blk B0) (by omega)
  have D1 := hb1.blk (hg1.blk D0) (by omega)
  rw [hsz] at C1 SR1
  replace C1 := Lib.hid C1
  replace B1 := Lib.hid B1
  replace D1 := Lib.hid D1
  replace B0 := Lib.hid B0
  replace D0 := Lib.hid D0
  replace hgA := Lib.hid hgA
  clear hb1 hG1 hg0 hg1
  go_upto_region 2 with (refine wpList_store_at (ty := 37) rfl (by kernel_rfl) rfl rfl SR1 ?_)
  clear g0 SR1
  have g0 := (blk_cell B1.out 0).trans (show _ = some (.int .i64 7) from rfl)
  have g7 := (blk_cell B1.out 7).trans (show _ = some (.int .i64 x1) from rfl)
  have g8 := (blk_cell B1.out 8).trans (show _ = some (.int .i64 x2) from rfl)
  have g9 := (blk_cell B1.out 9).trans (show _ = some (.int .i64 x3) from rfl)
  have C1' := C1.out
  have cfr : ∀ o, W1.frozen? ⟨w.heap.size + 1 + 1, o, none⟩ = false := fun o => by simp [World.frozen?, C1']
  have y7 := (blk_cell C1' 7).trans (show _ = some (.int .i64 0) from rfl)
  have y8 := (blk_cell C1' 8).trans (show _ = some (.int .i64 0) from rfl)
  have y9 := (blk_cell C1' 9).trans (show _ = some (.int .i64 0) from rfl)
  have E0 : (W1.setCell ⟨w.heap.size + 1 + 1, 7, none⟩ (.int .i64 x1)).heap[w.heap.size + 1 + 1]? = some (.cells #[.int .i64 7, .int .i64 0, .int .i64 0, .bool false, .int .i64 0, .int .i64 0, .int .i64 0, .int .i64 x1, .int .i64 0, .int .i64 0, .slice none 0 0, .string ⟨#[]⟩, .slice none 0 0, .int .i64 0, .int .i64 0, .int .i64 0, .int .i64 0, .slice none 0 0] 37 (0, 0)) := by rw [blk_put C1']; rfl
  have u0 := but_set W1 (w.heap.size + 1 + 1) 7 (.int .i64 x1)
  have E1 : ((W1.setCell ⟨w.heap.size + 1 + 1, 7, none⟩ (.int .i64 x1)).setCell ⟨w.heap.size + 1 + 1, 8, none⟩ (.int .i64 x2)).heap[w.heap.size + 1 + 1]? = some (.cells #[.int .i64 7, .int .i64 0, .int .i64 0, .bool false, .int .i64 0, .int .i64 0, .int .i64 0, .int .i64 x1, .int .i64 x2, .int .i64 0, .slice none 0 0, .string ⟨#[]⟩, .slice none 0 0, .int .i64 0, .int .i64 0, .int .i64 0, .int .i64 0, .slice none 0 0] 37 (0, 0)) := by rw [blk_put E0]; rfl
  have u1 := but_set (W1.setCell ⟨w.heap.size + 1 + 1, 7, none⟩ (.int .i64 x1)) (w.heap.size + 1 + 1) 8 (.int .i64 x2)
  have E2 : (((W1.setCell ⟨w.heap.size + 1 + 1, 7, none⟩ (.int .i64 x1)).setCell ⟨w.heap.size + 1 + 1, 8, none⟩ (.int .i64 x2)).setCell ⟨w.heap.size + 1 + 1, 9, none⟩ (.int .i64 x3)).heap[w.heap.size + 1 + 1]? = some (.cells #[.int .i64 7, .int .i64 0, .int .i64 0, .bool false, .int .i64 0, .int .i64 0, .int .i64 0, .int .i64 x1, .int .i64 x2, .int .i64 x3, .slice none 0 0, .string ⟨#[]⟩, .slice none 0 0, .int .i64 0, .int .i64 0, .int .i64 0, .int .i64 0, .slice none 0 0] 37 (0, 0)) := by rw [blk_put E1]; rfl
  have u2 := but_set ((W1.setCell ⟨w.heap.size + 1 + 1, 7, none⟩ (.int .i64 x1)).setCell ⟨w.heap.size + 1 + 1, 8, none⟩ (.int .i64 x2)) (w.heap.size + 1 + 1) 9 (.int .i64 x3)
  have hGz : G w (((W1.setCell ⟨w.heap.size + 1 + 1, 7, none⟩ (.int .i64 x1)).setCell ⟨w.heap.size + 1 + 1, 8, none⟩ (.int .i64 x2)).setCell ⟨w.heap.size + 1 + 1, 9, none⟩ (.int .i64 x3)) := (((hgA.out).set (Nat.le_trans (Nat.le_succ _) (Nat.le_succ _)) (.int .i64 x1)).set (Nat.le_trans (Nat.le_succ _) (Nat.le_succ _)) (.int .i64 x2)).set (Nat.le_trans (Nat.le_succ _) (Nat.le_succ _)) (.int .i64 x3)
  have Dz := (u2.blk ((u1.blk ((u0.blk (D1.out) (by omega))) (by omega))) (by omega))
  have LR := load_blk (P := Tryd.prog) (T := 37) E2 Tryd.underlying37 rfl (by kernel_rfl)
  obtain ⟨W9, SR9, D9, hb9, hG9⟩ := store_blk (P := Tryd.prog) (T := 37) (cs := #[.int .i64 7, .int .i64 0, .int .i64 0, .bool false, .int .i64 0, .int .i64 0, .int .i64 0, .int .i64 x1, .int .i64 x2, .int .i64 x3, .slice none 0 0, .string ⟨#[]⟩, .slice none 0 0, .int .i64 0, .int .i64 0, .int .i64 0, .int .i64 0, .slice none 0 0]) Dz rfl (by kernel_rfl) (by kernel_rfl)
  have hgZ := hG9 w hGz (by omega)
  clear E0 E1 E2 u0 u1 u2
  replace Dz := Lib.hid Dz
  replace D9 := Lib.hid D9
  replace hgZ := Lib.hid hgZ
  replace hGz := Lib.hid hGz
  replace C1' := Lib.hid C1'
  clear hb9 hG9
  go_upto_region 34 with fail
  go_wp2_with (first | (refine wpList_load_at (ty := 37) rfl (by kernel_rfl) (p := .pointer (some ⟨w.heap.size + 1 + 1, 0, none⟩)) rfl LR ?_; clear LR) | (refine wpList_store_at (ty := 37) rfl (by kernel_rfl) (p := .pointer (some ⟨w.heap.size + 1, 0, none⟩)) rfl rfl SR9 ?_; clear SR9))
  refine bodyPost_ret (v := .agg #[.int .i64 7, .int .i64 0, .int .i64 0, .bool false, .int .i64 0, .int .i64 0, .int .i64 0, .int .i64 x1, .int .i64 x2, .int .i64 x3, .slice none 0 0, .string ⟨#[]⟩, .slice none 0 0, .int .i64 0, .int .i64 0, .int .i64 0, .int .i64 0, .slice none 0 0]) (results_cell (i := 2) rfl rfl D9.out Tryd.underlying37 rfl (by kernel_rfl)) rfl ?_
  exact ⟨rfl, hgZ.out⟩
set_option maxRecDepth 100000 in
set_option maxHeartbeats 2000000 in
theorem only9_any (r : RecM) (hk : r.kind = 9) (w : World) : Calls Tryd.prog 34 #[.agg r.cells] w fun e w' => e = .returned (.agg r.only.cells) ∧ G w w' := by
  obtain ⟨kind, rn, dst, yes, ⟨a, b, c⟩, x1, x2, x3, An, cn, nodes, key, Ap, cp, ps, z1, z2, z3, z4, As, cs, sms⟩ := r
  dsimp only at hk
  subst hk
  have hon : RecM.only ⟨9, rn, dst, yes, ⟨a, b, c⟩, x1, x2, x3, An, cn, nodes, key, Ap, cp, ps, z1, z2, z3, z4, As, cs, sms⟩ = RecM.onlyF ⟨9, rn, dst, yes, ⟨a, b, c⟩, x1, x2, x3, An, cn, nodes, key, Ap, cp, ps, z1, z2, z3, z4, As, cs, sms⟩ { span := true, dst := true } := rfl
  have hfin : (RecM.only ⟨9, rn, dst, yes, ⟨a, b, c⟩, x1, x2, x3, An, cn, nodes, key, Ap, cp, ps, z1, z2, z3, z4, As, cs, sms⟩).cells = #[.int .i64 9, .int .i64 0, .int .i64 dst, .bool false, .int .i64 0, .int .i64 0, .int .i64 0, .int .i64 0, .int .i64 0, .int .i64 0, .slice none 0 0, .string ⟨#[]⟩, .slice none 0 0, .int .i64 z1, .int .i64 z2, .int .i64 z3, .int .i64 z4, .slice none 0 0] := by rw [hon]; rfl
  rw [hfin]
  unfold RecM.cells
  dsimp only
  clear hon hfin
  go_enter Tryd.func34, Tryd.ntmps34
  go_upto_region 1 with fail
  have hg0 := (G.new w (.cells #[.int .i64 9, .int .i64 rn, .int .i64 dst, .bool yes, .int .i64 a, .int .i64 b, .int .i64 c, .int .i64 x1, .int .i64 x2, .int .i64 x3, .slice An nodes.length cn, .string key, .slice Ap ps.length cp, .int .i64 z1, .int .i64 z2, .int .i64 z3, .int .i64 z4, .slice As sms.length cs] 37)).alloc (.cells #[.int .i64 0, .int .i64 0, .int .i64 0, .bool false, .int .i64 0, .int .i64 0, .int .i64 0, .int .i64 0, .int .i64 0, .int .i64 0, .slice none 0 0, .string ⟨#[]⟩, .slice none 0 0, .int .i64 0, .int .i64 0, .int .i64 0, .int .i64 0, .slice none 0 0] 37)
  have B0 := (G.new (w.alloc (.cells #[.int .i64 9, .int .i64 rn, .int .i64 dst, .bool yes, .int .i64 a, .int .i64 b, .int .i64 c, .int .i64 x1, .int .i64 x2, .int .i64 x3, .slice An nodes.length cn, .string key, .slice Ap ps.length cp, .int .i64 z1, .int .i64 z2, .int .i64 z3, .int .i64 z4, .slice As sms.length cs] 37)) (.cells #[.int .i64 0, .int .i64 0, .int .i64 0, .bool false, .int .i64 0, .int .i64 0, .int .i64 0, .int .i64 0, .int .i64 0, .int .i64 0, .slice none 0 0, .string ⟨#[]⟩, .slice none 0 0, .int .i64 0, .int .i64 0, .int .i64 0, .int .i64 0, .slice none 0 0] 37)).blk (blk_new w #[.int .i64 9, .int .i64 rn, .int .i64 dst, .bool yes, .int .i64 a, .int .i64 b, .int .i64 c, .int .i64 x1, .int .i64 x2, .int .i64 x3, .slice An nodes.length cn, .string key, .slice Ap ps.length cp, .int .i64 z1, .int .i64 z2, .int .i64 z3, .int .i64 z4, .slice As sms.length cs] 37)
  have D0 := blk_new' (w.alloc (.cells #[.int .i64 9, .int .i64 rn, .int .i64 dst, .bool yes, .int .i64 a, .int .i64 b, .int .i64 c, .int .i64 x1, .int .i64 x2, .int .i64 x3, .slice An nodes.length cn, .string key, .slice Ap ps.length cp, .int .i64 z1, .int .i64 z2, .int .i64 z3, .int .i64 z4, .slice As sms.length cs] 37)) #[.int .i64 0, .int .i64 0, .int .i64 0, .bool false, .int .i64 0, .int .i64 0, .int .i64 0, .int .i64 0, .int .i64 0, .int .i64 0, .slice none 0 0, .string ⟨#[]⟩, .slice none 0 0, .int .i64 0, .int .i64 0, .int .i64 0, .int .i64 0, .slice none 0 0] 37 (w.heap.size + 1) (by simp)
  generalize hW0 : (w.alloc (.cells #[.int .i64 9, .int .i64 rn, .int .i64 dst, .bool yes, .int .i64 a, .int .i64 b, .int .i64 c, .int .i64 x1, .int .i64 x2, .int .i64 x3, .slice An nodes.length cn, .string key, .slice Ap ps.length cp, .int .i64 z1, .int .i64 z2, .int .i64 z3, .int .i64 z4, .slice As sms.length cs] 37)).alloc (.cells #[.int .i64 0, .int .i64 0, .int .i64 0, .bool false, .int .i64 0, .int .i64 0, .int .i64 0, .int .i64 0, .int .i64 0, .int .i64 0, .slice none 0 0, .string ⟨#[]⟩, .slice none 0 0, .int .i64 0, .int .i64 0, .int .i64 0, .int .i64 0, .slice none 0 0] 37) = W0 at *
  have hsz : W0.heap.size = w.heap.size + 1 + 1 := by rw [← hW0]; simp
  clear hW0
  have g0 := (blk_cell B0 0).trans (show _ = some (.int .i64 9) from rfl)
  have hg1 := G.new W0 (.cells #[.int .i64 0, .int .i64 0, .int .i64 0, .bool false, .int .i64 0, .int .i64 0, .int .i64 0, .int .i64 0, .int .i64 0, .int .i64 0, .slice none 0 0, .string ⟨#[]⟩, .slice none 0 0, .int .i64 0, .int .i64 0, .int .i64 0, .int .i64 0, .slice none 0 0] 37)
  obtain ⟨W1, SR1, C1, hb1, hG1⟩ := store_blk (P := Tryd.prog) (T := 37) (cs := #[.int .i64 9, .int .i64 0, .int .i64 0, .bool false, .int .i64 0, .int .i64 0, .int .i64 0, .int .i64 0, .int .i64 0, .int .i64 0, .slice none 0 0, .string ⟨#[]⟩, .slice none 0 0, .int .i64 0, .int .i64 0, .int .i64 0, .int .i64 0, .slice none 0 0]) (blk_new W0 #[.int .i64 0, .int .i64 0, .int .i64 0, .bool false, .int .i64 0, .int .i64 0, .int .i64 0, .int .i64 0, .int .i64 0, .int .i64 0, .slice none 0 0, .string ⟨#[]⟩, .slice none 0 0, .int .i64 0, .int .i64 0, .int .i64 0, .int .i64 0, .slice none 0 0] 37) rfl (by kernel_rfl) (by kernel_rfl)
  have hgA := hG1 w (hg0.trans hg1) (by omega)
  have B1 := hb1.blk (hg1.blk B0) (by omega)
  have D1 := hb1.blk (hg1.blk D0) (by omega)
  rw [hsz] at C1 SR1
  replace C1 := Lib.hid C1
  replace B1 := Lib.hid B1
  replace D1 := Lib.hid D1
  replace B0 := Lib.hid B0
  replace D0 := Lib.hid D0
  replace hgA := Lib.hid hgA
  clear hb1 hG1 hg0 hg1
  go_upto_region 2 with (refine wpList_store_at (ty := 37) rfl (by kernel_rfl) rfl rfl SR1 ?_)
  clear g0 SR1
  have g0 := (blk_cell B1.out 0).trans (show _ = some (.int .i64 9) from rfl)
  have g2 := (blk_cell B1.out 2).trans (show _ = some (.int .i64 dst) from rfl)
  have g13 := (blk_cell B1.out 13).trans (show _ = some (.int .i64 z1) from rfl)
  have g14 := (blk_cell B1.out 14).trans (show _ = some (.int .i64 z2) from rfl)
  have g15 := (blk_cell B1.out 15).trans (show _ = some (.int .i64 z3) from rfl)
  have g16 := (blk_cell B1.out 16).trans (show _ = some (.int .i64 z4) from rfl)
  have C1' := C1.out
  have cfr : ∀ o, W1.frozen? ⟨w.heap.size + 1 + 1, o, none⟩ = false := fun o => by simp [World.frozen?, C1']
  have y13 := (blk_cell C1' 13).trans (show _ = some (.int .i64 0) from rfl)
  have y14 := (blk_cell C1' 14).trans (show _ = some (.int .i64 0) from rfl)
  have y15 := (blk_cell C1' 15).trans (show _ = some (.int .i64 0) from rfl)
  have y16 := (blk_cell C1' 16).trans (show _ = some (.int .i64 0) from rfl)
  have y2 := (blk_cell C1' 2).trans (show _ = some (.int .i64 0) from rfl)
  have E0 : (W1.setCell ⟨w.heap.size + 1 + 1, 13, none⟩ (.int .i64 z1)).heap[w.heap.size + 1 + 1]? = some (.cells #[.int .i64 9, .int .i64 0, .int .i64 0, .bool false, .int .i64 0, .int .i64 0, .int .i64 0, .int .i64 0, .int .i64 0, .int .i64 0, .slice none 0 0, .string ⟨#[]⟩, .slice none 0 0, .int .i64 z1, .int .i64 0, .int .i64 0, .int .i64 0, .slice none 0 0] 37 (0, 0)) := by rw [blk_put C1']; rfl
  have u0 := but_set W1 (w.heap.size + 1 + 1) 13 (.int .i64 z1)
  have E1 : ((W1.setCell ⟨w.heap.size + 1 + 1, 13, none⟩ (.int .i64 z1)).setCell ⟨w.heap.size + 1 + 1, 14, none⟩ (.int .i64 z2)).heap[w.heap.size + 1 + 1]? = some (.cells #[.int .i64 9, .int .i64 0, .int .i64 0, .bool false, .int .i64 0, .int .i64 0, .int .i64 0, .int .i64 0, .int .i64 0, .int .i64 0, .slice none 0 0, .string ⟨#[]⟩, .slice none 0 0, .int .i64 z1, .int .i64 z2, .int .i64 0, .int .i64 0, .slice none 0 0] 37 (0, 0)) := by rw [blk_put E0]; rfl
  have u1 := but_set (W1.setCell ⟨w.heap.size + 1 + 1, 13, none⟩ (.int .i64 z1)) (w.heap.size + 1 + 1) 14 (.int .i64 z2)
  have E2 : (((W1.setCell ⟨w.heap.size + 1 + 1, 13, none⟩ (.int .i64 z1)).setCell ⟨w.heap.size + 1 + 1, 14, none⟩ (.int .i64 z2)).setCell ⟨w.heap.size + 1 + 1, 15, none⟩ (.int .i64 z3)).heap[w.heap.size + 1 + 1]? = some (.cells #[.int .i64 9, .int .i64 0, .int .i64 0, .bool false, .int .i64 0, .int .i64 0, .int .i64 0, .int .i64 0, .int .i64 0, .int .i64 0, .slice none 0 0, .string ⟨#[]⟩, .slice none 0 0, .int .i64 z1, .int .i64 z2, .int .i64 z3, .int .i64 0, .slice none 0 0] 37 (0, 0)) := by rw [blk_put E1]; rfl
  have u2 := but_set ((W1.setCell ⟨w.heap.size + 1 + 1, 13, none⟩ (.int .i64 z1)).setCell ⟨w.heap.size + 1 + 1, 14, none⟩ (.int .i64 z2)) (w.heap.size + 1 + 1) 15 (.int .i64 z3)
  have E3 : ((((W1.setCell ⟨w.heap.size + 1 + 1, 13, none⟩ (.int .i64 z1)).setCell ⟨w.heap.size + 1 + 1, 14, none⟩ (.int .i64 z2)).setCell ⟨w.heap.size + 1 + 1, 15, none⟩ (.int .i64 z3)).setCell ⟨w.heap.size + 1 + 1, 16, none⟩ (.int .i64 z4)).heap[w.heap.size + 1 + 1]? = some (.cells #[.int .i64 9, .int .i64 0, .int .i64 0, .bool false, .int .i64 0, .int .i64 0, .int .i64 0, .int .i64 0, .int .i64 0, .int .i64 0, .slice none 0 0, .string ⟨#[]⟩, .slice none 0 0, .int .i64 z1, .int .i64 z2, .int .i64 z3, .int .i64 z4, .slice none 0 0] 37 (0, 0)) := by rw [blk_put E2]; rfl
  have u3 := but_set (((W1.setCell ⟨w.heap.size + 1 + 1, 13, none⟩ (.int .i64 z1)).setCell ⟨w.heap.size + 1 + 1, 14, none⟩ (.int .i64 z2)).setCell ⟨w.heap.size + 1 + 1, 15, none⟩ (.int .i64 z3)) (w.heap.size + 1 + 1) 16 (.int .i64 z4)
  have E4 : (((((W1.setCell ⟨w.heap.size + 1 + 1, 13, none⟩ (.int .i64 z1)).setCell ⟨w.heap.size + 1 + 1, 14, none⟩ (.int .i64 z2)).setCell ⟨w.heap.size + 1 + 1, 15, none⟩ (.int .i64 z3)).setCell ⟨w.heap.size + 1 + 1, 16, none⟩ (.int .i64 z4)).setCell ⟨w.heap.size + 1 + 1, 2, none⟩ (.int .i64 dst)).heap[w.heap.size + 1 + 1]? = some (.cells #[.int .i64 9, .int .i64 0, .int .i64 dst, .bool false, .int .i64 0, .int .i64 0, .int .i64 0, .int .i64 0, .int .i64 0, .int .i64 0, .slice none 0 0, .string ⟨#[]⟩, .slice none 0 0, .int .i64 z1, .int .i64 z2, .int .i64 z3, .int .i64 z4, .slice none 0 0] 37 (0, 0)) := by rw [blk_put E3]; rfl
  have u4 := but_set ((((W1.setCell ⟨w.heap.size + 1 + 1, 13, none⟩ (.int .i64 z1)).setCell ⟨w.heap.size + 1 + 1, 14, none⟩ (.int .i64 z2)).setCell ⟨w.heap.size + 1 + 1, 15, none⟩ (.int .i64 z3)).setCell ⟨w.heap.size + 1 + 1, 16, none⟩ (.int .i64 z4)) (w.heap.size + 1 + 1) 2 (.int .i64 dst)
  have hGz : G w (((((W1.setCell ⟨w.heap.size + 1 + 1, 13, none⟩ (.int .i64 z1)).setCell ⟨w.heap.size + 1 + 1, 14, none⟩ (.int .i64 z2)).setCell ⟨w.heap.size + 1 + 1, 15, none⟩ (.int .i64 z3)).setCell ⟨w.heap.size + 1 + 1, 16, none⟩ (.int .i64 z4)).setCell ⟨w.heap.size + 1 + 1, 2, none⟩ (.int .i64 dst)) := (((((hgA.out).set (Nat.le_trans (Nat.le_succ _) (Nat.le_succ _)) (.int .i64 z1)).set (Nat.le_trans (Nat.le_succ _) (Nat.le_succ _)) (.int .i64 z2)).set (Nat.le_trans (Nat.le_succ _) (Nat.le_succ _)) (.int .i64 z3)).set (Nat.le_trans (Nat.le_succ _) (Nat.le_succ _)) (.int .i64 z4)).set (Nat.le_trans (Nat.le_succ _) (Nat.le_succ _)) (.int .i64 dst)
  have Dz := (u4.blk ((u3.blk ((u2.blk ((u1.blk ((u0.blk (D1.out) (by omega))) (by omega))) (by omega))) (by omega))) (by omega))
  have LR := load_blk (P := Tryd.prog) (T := 37) E4 Tryd.underlying37 rfl (by kernel_rfl)
  obtain ⟨W9, SR9, D9, hb9, hG9⟩ := store_blk (P := Tryd.prog) (T := 37) (cs := #[.int .i64 9, .int .i64 0, .int .i64 dst, .bool false, .int .i64 0, .int .i64 0, .int .i64 0, .int .i64 0, .int .i64 0, .int .i64 0, .slice none 0 0, .string ⟨#[]⟩, .slice none 0 0, .int .i64 z1, .int .i64 z2, .int .i64 z3, .int .i64 z4, .slice none 0 0]) Dz rfl (by kernel_rfl) (by kernel_rfl)
  have hgZ := hG9 w hGz (by omega)
  clear E0 E1 E2 E3 E4 u0 u1 u2 u3 u4
  replace Dz := Lib.hid Dz
  replace D9 := Lib.hid D9
  replace hgZ := Lib.hid hgZ
  replace hGz := Lib.hid hGz
  replace C1' := Lib.hid C1'
  clear hb9 hG9
  go_upto_region 34 with fail
  go_wp2_with (first | (refine wpList_load_at (ty := 37) rfl (by kernel_rfl) (p := .pointer (some ⟨w.heap.size + 1 + 1, 0, none⟩)) rfl LR ?_; clear LR) | (refine wpList_store_at (ty := 37) rfl (by kernel_rfl) (p := .pointer (some ⟨w.heap.size + 1, 0, none⟩)) rfl rfl SR9 ?_; clear SR9))
  refine bodyPost_ret (v := .agg #[.int .i64 9, .int .i64 0, .int .i64 dst, .bool false, .int .i64 0, .int .i64 0, .int .i64 0, .int .i64 0, .int .i64 0, .int .i64 0, .slice none 0 0, .string ⟨#[]⟩, .slice none 0 0, .int .i64 z1, .int .i64 z2, .int .i64 z3, .int .i64 z4, .slice none 0 0]) (results_cell (i := 2) rfl rfl D9.out Tryd.underlying37 rfl (by kernel_rfl)) rfl ?_
  exact ⟨rfl, hgZ.out⟩
set_option maxRecDepth 100000 in
set_option maxHeartbeats 2000000 in
theorem only10_any (r : RecM) (hk : r.kind = 10) (w : World) : Calls Tryd.prog 34 #[.agg r.cells] w fun e w' => e = .returned (.agg r.only.cells) ∧ G w w' := by
  obtain ⟨kind, rn, dst, yes, ⟨a, b, c⟩, x1, x2, x3, An, cn, nodes, key, Ap, cp, ps, z1, z2, z3, z4, As, cs, sms⟩ := r
  dsimp only at hk
  subst hk
  have hon : RecM.only ⟨10, rn, dst, yes, ⟨a, b, c⟩, x1, x2, x3, An, cn, nodes, key, Ap, cp, ps, z1, z2, z3, z4, As, cs, sms⟩ = RecM.onlyF ⟨10, rn, dst, yes, ⟨a, b, c⟩, x1, x2, x3, An, cn, nodes, key, Ap, cp, ps, z1, z2, z3, z4, As, cs, sms⟩ { span := true, st := true, sms := true } := rfl
  have hfin : (RecM.only ⟨10, rn, dst, yes, ⟨a, b, c⟩, x1, x2, x3, An, cn, nodes, key, Ap, cp, ps, z1, z2, z3, z4, As, cs, sms⟩).cells = #[.int .i64 10, .int .i64 0, .int .i64 0, .bool false, .int .i64 a, .int .i64 b, .int .i64 c, .int .i64 0, .int .i64 0, .int .i64 0, .slice none 0 0, .string ⟨#[]⟩, .slice none 0 0, .int .i64 z1, .int .i64 z2, .int .i64 z3, .int .i64 z4, .slice As sms.length cs] := by rw [hon]; rfl
  rw [hfin]
  unfold RecM.cells
  dsimp only
  clear hon hfin
  go_enter Tryd.func34, Tryd.ntmps34
  go_upto_region 1 with fail
  have hg0 := (G.new w (.cells #[.int .i64 10, .int .i64 rn, .int .i64 dst, .bool yes, .int .i64 a, .int .i64 b, .int .i64 c, .int .i64 x1, .int .i64 x2, .int .i64 x3, .slice An nodes.length cn, .string key, .slice Ap ps.length cp, .int .i64 z1, .int .i64 z2, .int .i64 z3, .int .i64 z4, .slice As sms.length cs] 37)).alloc (.cells #[.int .i64 0, .int .i64 0, .int .i64 0, .bool false, .int .i64 0, .int .i64 0, .int .i64 0, .int .i64 0, .int .i64 0, .int .i64 0, .slice none 0 0, .string ⟨#[]⟩, .slice none 0 0, .int .i64 0, .int .i64 0, .int .i64 0, .int .i64 0, .slice none 0 0] 37)
  have B0 := (G.new (w.alloc (.cells #[.int .i64 10, .int .i64 rn, .int .i64 dst, .bool yes, .int .i64 a, .int .i64 b, .int .i64 c, .int .i64 x1, .int .i64 x2, .int .i64 x3, .slice An nodes.length cn, .string key, .slice Ap ps.length cp, .int .i64 z1, .int .i64 z2, .int .i64 z3, .int .i64 z4, .slice As sms.length cs] 37)) (.cells #[.int .i64 0, .int .i64 0, .int .i64 0, .bool false, .int .i64 0, .int .i64 0, .int .i64 0, .int .i64 0, .int .i64 0, .int .i64 0, .slice none 0 0, .string ⟨#[]⟩, .slice none 0 0, .int .i64 0, .int .i64 0, .int .i64 0, .int .i64 0, .slice none 0 0] 37)).blk (blk_new w #[.int .i64 10, .int .i64 rn, .int .i64 dst, .bool yes, .int .i64 a, .int .i64 b, .int .i64 c, .int .i64 x1, .int .i64 x2, .int .i64 x3, .slice An nodes.length cn, .string key, .slice Ap ps.length cp, .int .i64 z1, .int .i64 z2, .int .i64 z3, .int .i64 z4, .slice As sms.length cs] 37)
  have D0 := blk_new' (w.alloc (.cells #[.int .i64 10, .int .i64 rn, .int .i64 dst, .bool yes, .int .i64 a, .int .i64 b, .int .i64 c, .int .i64 x1, .int .i64 x2, .int .i64 x3, .slice An nodes.length cn, .string key, .slice Ap ps.length cp, .int .i64 z1, .int .i64 z2, .int .i64 z3, .int .i64 z4, .slice As sms.length cs] 37)) #[.int .i64 0, .int .i64 0, .int .i64 0, .bool false, .int .i64 0, .int .i64 0, .int .i64 0, .int .i64 0, .int .i64 0, .int .i64 0, .slice none 0 0, .string ⟨#[]⟩, .slice none 0 0, .int .i64 0, .int .i64 0, .int .i64 0, .int .i64 0, .slice none 0 0] 37 (w.heap.size + 1) (by simp)
  generalize hW0 : (w.alloc (.cells #[.int .i64 10, .int .i64 rn, .int .i64 dst, .bool yes, .int .i64 a, .int .i64 b, .int .i64 c, .int .i64 x1, .int .i64 x2, .int .i64 x3, .slice An nodes.length cn, .string key, .slice Ap ps.length cp, .int .i64 z1, .int .i64 z2, .int .i64 z3, .int .i64 z4, .slice As sms.length cs] 37)).alloc (.cells #[.int .i64 0, .int .i64 0, .int .i64 0, .bool false, .int .i64 0, .int .i64 0, .int .i64 0, .int .i64 0, .int .i64 0, .int .i64 0, .slice none 0 0, .string ⟨#[]⟩, .slice none 0 0, .int .i64 0, .int .i64 0, .int .i64 0, .int .i64 0, .slice none 0 0] 37) = W0 at *
  have hsz : W0.heap.size = w.heap.size + 1 + 1 := by rw [← hW0]; simp
  clear hW0
  have g0 := (blk_cell B0 0).trans (show _ = some (.int .i64 10) from rfl)
  have hg1 := G.new W0 (.cells #[.int .i64 0, .int .i64 0, .int .i64 0, .bool false, .int .i64 0, .int .i64 0, .int .i64 0, .int .i64 0, .int .i64 0, .int .i64 0, .slice none 0 0, .string ⟨#[]⟩, .slice none 0 0, .int .i64 0, .int .i64 0, .int .i64 0, .int .i64 0, .slice none 0 0] 37)
  obtain ⟨W1, SR1, C1, hb1, hG1⟩ := store_blk (P := Tryd.prog) (T := 37) (cs := #[.int .i64 10, .int .i64 0, .int .i64 0, .bool false, .int .i64 0, .int .i64 0, .int .i64 0, .int .i64 0, .int .i64 0, .int .i64 0, .slice none 0 0, .string ⟨#[]⟩, .slice none 0 0, .int .i64 0, .int .i64 0, .int .i64 0, .int .i64 0, .slice none 0 0]) (blk_new W0 #[.int .i64 0, .int .i64 0, .int .i64 0, .bool false, .int .i64 0, .int .i64 0, .int .i64 0, .int .i64 0, .int .i64 0, .int .i64 0, .slice none 0 0, .string ⟨#[]⟩, .slice none 0 0, .int .i64 0, .int .i64 0, .int .i64 0, .int .i64 0, .slice none 0 0] 37) rfl (by kernel_rfl) (by kernel_rfl)
  have hgA := hG1 w (hg0.trans hg1) (by omega)
  have B1 := hb1.blk (hg1.blk B0) (by omega)
  have D1 := hb1.blk (hg1.blk D0) (by omega)
  rw [hsz] at C1 SR1
  replace C1 := Lib.hid C1
  replace B1 := Lib.hid B1
  replace D1 := Lib.hid D1
  replace B0 := Lib.hid B0
  replace D0 := Lib.hid D0
  replace hgA := Lib.hid hgA
  clear hb1 hG1 hg0 hg1
  go_upto_region 2 with (refine wpList_store_at (ty := 37) rfl (by kernel_rfl) rfl rfl SR1 ?_)
  clear g0 SR1
  have g0 := (blk_cell B1.out 0).trans (show _ = some (.int .i64 10) from rfl)
  have g4 := (blk_cell B1.out 4).trans (show _ = some (.int .i64 a) from rfl)
  have g5 := (blk_cell B1.out 5).trans (show _ = some (.int .i64 b) from rfl)
  have g6 := (blk_cell B1.out 6).trans (show _ = some (.int .i64 c) from rfl)
  have g13 := (blk_cell B1.out 13).trans (show _ = some (.int .i64 z1) from rfl)
  have g14 := (blk_cell B1.out 14).trans (show _ = some (.int .i64 z2) from rfl)
  have g15 := (blk_cell B1.out 15).trans (show _ = some (.int .i64 z3) from rfl)
  have g16 := (blk_cell B1.out 16).trans (show _ = some (.int .i64 z4) from rfl)
  have g17 := (blk_cell B1.out 17).trans (show _ = some (.slice As sms.length cs) from rfl)
  have C1' := C1.out
  have cfr : ∀ o, W1.frozen? ⟨w.heap.size + 1 + 1, o, none⟩ = false := fun o => by simp [World.frozen?, C1']
  have y13 := (blk_cell C1' 13).trans (show _ = some (.int .i64 0) from rfl)
  have y14 := (blk_cell C1' 14).trans (show _ = some (.int .i64 0) from rfl)
  have y15 := (blk_cell C1' 15).trans (show _ = some (.int .i64 0) from rfl)
  have y16 := (blk_cell C1' 16).trans (show _ = some (.int .i64 0) from rfl)
  have y4 := (blk_cell C1' 4).trans (show _ = some (.int .i64 0) from rfl)
  have y5 := (blk_cell C1' 5).trans (show _ = some (.int .i64 0) from rfl)
  have y6 := (blk_cell C1' 6).trans (show _ = some (.int .i64 0) from rfl)
  have y17 := (blk_cell C1' 17).trans (show _ = some (.slice none 0 0) from rfl)
  have E0 : (W1.setCell ⟨w.heap.size + 1 + 1, 13, none⟩ (.int .i64 z1)).heap[w.heap.size + 1 + 1]? = some (.cells #[.int .i64 10, .int .i64 0, .int .i64 0, .bool false, .int .i64 0, .int .i64 0, .int .i64 0, .int .i64 0, .int .i64 0, .int .i64 0, .slice none 0 0, .string ⟨#[]⟩, .slice none 0 0, .int .i64 z1, .int .i64 0, .int .i64 0, .int .i64 0, .slice none 0 0] 37 (0, 0)) := by rw [blk_put C1']; rfl
  have u0 := but_set W1 (w.heap.size + 1 + 1) 13 (.int .i64 z1)
  have E1 : ((W1.setCell ⟨w.heap.size + 1 + 1, 13, none⟩ (.int .i64 z1)).setCell ⟨w.heap.size + 1 + 1, 14, none⟩ (.int .i64 z2)).heap[w.heap.size + 1 + 1]? = some (.cells #[.int .i64 10, .int .i64 0, .int .i64 0, .bool false, .int .i64 0, .int .i64 0, .int .i64 0, .int .i64 0, .int .i64 0, .int .i64 0, .slice none 0 0, .string ⟨#[]⟩, .slice none 0 0, .int .i64 z1, .int .i64 z2, .int .i64 0, .int .i64 0, .slice none 0 0] 37 (0, 0)) := by rw [blk_put E0]; rfl
  have u1 := but_set (W1.setCell ⟨w.heap.size + 1 + 1, 13, none⟩ (.int .i64 z1)) (w.heap.size + 1 + 1) 14 (.int .i64 z2)
  have E2 : (((W1.setCell ⟨w.heap.size + 1 + 1, 13, none⟩ (.int .i64 z1)).setCell ⟨w.heap.size + 1 + 1, 14, none⟩ (.int .i64 z2)).setCell ⟨w.heap.size + 1 + 1, 15, none⟩ (.int .i64 z3)).heap[w.heap.size + 1 + 1]? = some (.cells #[.int .i64 10, .int .i64 0, .int .i64 0, .bool false, .int .i64 0, .int .i64 0, .int .i64 0, .int .i64 0, .int .i64 0, .int .i64 0, .slice none 0 0, .string ⟨#[]⟩, .slice none 0 0, .int .i64 z1, .int .i64 z2, .int .i64 z3, .int .i64 0, .slice none 0 0] 37 (0, 0)) := by rw [blk_put E1]; rfl
  have u2 := but_set ((W1.setCell ⟨w.heap.size + 1 + 1, 13, none⟩ (.int .i64 z1)).setCell ⟨w.heap.size + 1 + 1, 14, none⟩ (.int .i64 z2)) (w.heap.size + 1 + 1) 15 (.int .i64 z3)
  have E3 : ((((W1.setCell ⟨w.heap.size + 1 + 1, 13, none⟩ (.int .i64 z1)).setCell ⟨w.heap.size + 1 + 1, 14, none⟩ (.int .i64 z2)).setCell ⟨w.heap.size + 1 + 1, 15, none⟩ (.int .i64 z3)).setCell ⟨w.heap.size + 1 + 1, 16, none⟩ (.int .i64 z4)).heap[w.heap.size + 1 + 1]? = some (.cells #[.int .i64 10, .int .i64 0, .int .i64 0, .bool false, .int .i64 0, .int .i64 0, .int .i64 0, .int .i64 0, .int .i64 0, .int .i64 0, .slice none 0 0, .string ⟨#[]⟩, .slice none 0 0, .int .i64 z1, .int .i64 z2, .int .i64 z3, .int .i64 z4, .slice none 0 0] 37 (0, 0)) := by rw [blk_put E2]; rfl
  have u3 := but_set (((W1.setCell ⟨w.heap.size + 1 + 1, 13, none⟩ (.int .i64 z1)).setCell ⟨w.heap.size + 1 + 1, 14, none⟩ (.int .i64 z2)).setCell ⟨w.heap.size + 1 + 1, 15, none⟩ (.int .i64 z3)) (w.heap.size + 1 + 1) 16 (.int .i64 z4)
  have E4 : (((((W1.setCell ⟨w.heap.size + 1 + 1, 13, none⟩ (.int .i64 z1)).setCell ⟨w.heap.size + 1 + 1, 14, none⟩ (.int .i64 z2)).setCell ⟨w.heap.size + 1 + 1, 15, none⟩ (.int .i64 z3)).setCell ⟨w.heap.size + 1 + 1, 16, none⟩ (.int .i64 z4)).setCell ⟨w.heap.size + 1 + 1, 4, none⟩ (.int .i64 a)).heap[w.heap.size + 1 + 1]? = some (.cells #[.int .i64 10, .int .i64 0, .int .i64 0, .bool false, .int .i64 a, .int .i64 0, .int .i64 0, .int .i64 0, .int .i64 0, .int .i64 0, .slice none 0 0, .string ⟨#[]⟩, .slice none 0 0, .int .i64 z1, .int .i64 z2, .int .i64 z3, .int .i64 z4, .slice none 0 0] 37 (0, 0)) := by rw [blk_put E3]; rfl
  have u4 := but_set ((((W1.setCell ⟨w.heap.size + 1 + 1, 13, none⟩ (.int .i64 z1)).setCell ⟨w.heap.size + 1 + 1, 14, none⟩ (.int .i64 z2)).setCell ⟨w.heap.size + 1 + 1, 15, none⟩ (.int .i64 z3)).setCell ⟨w.heap.size + 1 + 1, 16, none⟩ (.int .i64 z4)) (w.heap.size + 1 + 1) 4 (.int .i64 a)
  have E5 : ((((((W1.setCell ⟨w.heap.size + 1 + 1, 13, none⟩ (.int .i64 z1)).setCell ⟨w.heap.size + 1 + 1, 14, none⟩ (.int .i64 z2)).setCell ⟨w.heap.size + 1 + 1, 15, none⟩ (.int .i64 z3)).setCell ⟨w.heap.size + 1 + 1, 16, none⟩ (.int .i64 z4)).setCell ⟨w.heap.size + 1 + 1, 4, none⟩ (.int .i64 a)).setCell ⟨w.heap.size + 1 + 1, 5, none⟩ (.int .i64 b)).heap[w.heap.size + 1 + 1]? = some (.cells #[.int .i64 10, .int .i64 0, .int .i64 0, .bool false, .int .i64 a, .int .i64 b, .int .i64 0, .int .i64 0, .int .i64 0, .int .i64 0, .slice none 0 0, .string ⟨#[]⟩, .slice none 0 0, .int .i64 z1, .int .i64 z2, .int .i64 z3, .int .i64 z4, .slice none 0 0] 37 (0, 0)) := by rw [blk_put E4]; rfl
  have u5 := but_set (((((W1.setCell ⟨w.heap.size + 1 + 1, 13, none⟩ (.int .i64 z1)).setCell ⟨w.heap.size + 1 + 1, 14, none⟩ (.int .i64 z2)).setCell ⟨w.heap.size + 1 + 1, 15, none⟩ (.int .i64 z3)).setCell ⟨w.heap.size + 1 + 1, 16, none⟩ (.int .i64 z4)).setCell ⟨w.heap.size + 1 + 1, 4, none⟩ (.int .i64 a)) (w.heap.size + 1 + 1) 5 (.int .i64 b)
  have E6 : (((((((W1.setCell ⟨w.heap.size + 1 + 1, 13, none⟩ (.int .i64 z1)).setCell ⟨w.heap.size + 1 + 1, 14, none⟩ (.int .i64 z2)).setCell ⟨w.heap.size + 1 + 1, 15, none⟩ (.int .i64 z3)).setCell ⟨w.heap.size + 1 + 1, 16, none⟩ (.int .i64 z4)).setCell ⟨w.heap.size + 1 + 1, 4, none⟩ (.int .i64 a)).setCell ⟨w.heap.size + 1 + 1, 5, none⟩ (.int .i64 b)).setCell ⟨w.heap.size + 1 + 1, 6, none⟩ (.int .i64 c)).heap[w.heap.size + 1 + 1]? = some (.cells #[.int .i64 10, .int .i64 0, .int .i64 0, .bool false, .int .i64 a, .int .i64 b, .int .i64 c, .int .i64 0, .int .i64 0, .int .i64 0, .slice none 0 0, .string ⟨#[]⟩, .slice none 0 0, .int .i64 z1, .int .i64 z2, .int .i64 z3, .int .i64 z4, .slice none 0 0] 37 (0, 0)) := by rw [blk_put E5]; rfl
  have u6 := but_set ((((((W1.setCell ⟨w.heap.size + 1 + 1, 13, none⟩ (.int .i64 z1)).setCell ⟨w.heap.size + 1 + 1, 14, none⟩ (.int .i64 z2)).setCell ⟨w.heap.size + 1 + 1, 15, none⟩ (.int .i64 z3)).setCell ⟨w.heap.size + 1 + 1, 16, none⟩ (.int .i64 z4)).setCell ⟨w.heap.size + 1 + 1, 4, none⟩ (.int .i64 a)).setCell ⟨w.heap.size + 1 + 1, 5, none⟩ (.int .i64 b)) (w.heap.size + 1 + 1) 6 (.int .i64 c)
  have E7 : ((((((((W1.setCell ⟨w.heap.size + 1 + 1, 13, none⟩ (.int .i64 z1)).setCell ⟨w.heap.size + 1 + 1, 14, none⟩ (.int .i64 z2)).setCell ⟨w.heap.size + 1 + 1, 15, none⟩ (.int .i64 z3)).setCell ⟨w.heap.size + 1 + 1, 16, none⟩ (.int .i64 z4)).setCell ⟨w.heap.size + 1 + 1, 4, none⟩ (.int .i64 a)).setCell ⟨w.heap.size + 1 + 1, 5, none⟩ (.int .i64 b)).setCell ⟨w.heap.size + 1 + 1, 6, none⟩ (.int .i64 c)).setCell ⟨w.heap.size + 1 + 1, 17, none⟩ (.slice As sms.length cs)).heap[w.heap.size + 1 + 1]? = some (.cells #[.int .i64 10, .int .i64 0, .int .i64 0, .bool false, .int .i64 a, .int .i64 b, .int .i64 c, .int .i64 0, .int .i64 0, .int .i64 0, .slice none 0 0, .string ⟨#[]⟩, .slice none 0 0, .int .i64 z1, .int .i64 z2, .int .i64 z3, .int .i64 z4, .slice As sms.length cs] 37 (0, 0)) := by rw [blk_put E6]; rfl
  have u7 := but_set (((((((W1.setCell ⟨w.heap.size + 1 + 1, 13, none⟩ (.int .i64 z1)).setCell ⟨w.heap.size + 1 + 1, 14, none⟩ (.int .i64 z2)).setCell ⟨w.heap.size + 1 + 1, 15, none⟩ (.int .i64 z3)).setCell ⟨w.heap.size + 1 + 1, 16, none⟩ (.int .i64 z4)).setCell ⟨w.heap.size + 1 + 1, 4, none⟩ (.int .i64 a)).setCell ⟨w.heap.size + 1 + 1, 5, none⟩ (.int .i64 b)).setCell ⟨w.heap.size + 1 + 1, 6, none⟩ (.int .i64 c)) (w.heap.size + 1 + 1) 17 (.slice As sms.length cs)
  have hGz : G w ((((((((W1.setCell ⟨w.heap.size + 1 + 1, 13, none⟩ (.int .i64 z1)).setCell ⟨w.heap.size + 1 + 1, 14, none⟩ (.int .i64 z2)).setCell ⟨w.heap.size + 1 + 1, 15, none⟩ (.int .i64 z3)).setCell ⟨w.heap.size + 1 + 1, 16, none⟩ (.int .i64 z4)).setCell ⟨w.heap.size + 1 + 1, 4, none⟩ (.int .i64 a)).setCell ⟨w.heap.size + 1 + 1, 5, none⟩ (.int .i64 b)).setCell ⟨w.heap.size + 1 + 1, 6, none⟩ (.int .i64 c)).setCell ⟨w.heap.size + 1 + 1, 17, none⟩ (.slice As sms.length cs)) := ((((((((hgA.out).set (Nat.le_trans (Nat.le_succ _) (Nat.le_succ _)) (.int .i64 z1)).set (Nat.le_trans (Nat.le_succ _) (Nat.le_succ _)) (.int .i64 z2)).set (Nat.le_trans (Nat.le_succ _) (Nat.le_succ _)) (.int .i64 z3)).set (Nat.le_trans (Nat.le_succ _) (Nat.le_succ _)) (.int .i64 z4)).set (Nat.le_trans (Nat.le_succ _) (Nat.le_succ _)) (.int .i64 a)).set (Nat.le_trans (Nat.le_succ _) (Nat.le_succ _)) (.int .i64 b)).set (Nat.le_trans (Nat.le_succ _) (Nat.le_succ _)) (.int .i64 c)).set (Nat.le_trans (Nat.le_succ _) (Nat.le_succ _)) (.slice As sms.length cs)
  have Dz := (u7.blk ((u6.blk ((u5.blk ((u4.blk ((u3.blk ((u2.blk ((u1.blk ((u0.blk (D1.out) (by omega))) (by omega))) (by omega))) (by omega))) (by omega))) (by omega))) (by omega))) (by omega))
  have LR := load_blk (P := Tryd.prog) (T := 37) E7 Tryd.underlying37 rfl (by kernel_rfl)
  obtain ⟨W9, SR9, D9, hb9, hG9⟩ := store_blk (P := Tryd.prog) (T := 37) (cs := #[.int .i64 10, .int .i64 0, .int .i64 0, .bool false, .int .i64 a, .int .i64 b, .int .i64 c, .int .i64 0, .int .i64 0, .int .i64 0, .slice none 0 0, .string ⟨#[]⟩, .slice none 0 0, .int .i64 z1, .int .i64 z2, .int .i64 z3, .int .i64 z4, .slice As sms.length cs]) Dz rfl (by kernel_rfl) (by kernel_rfl)
  have hgZ := hG9 w hGz (by omega)
  clear E0 E1 E2 E3 E4 E5 E6 E7 u0 u1 u2 u3 u4 u5 u6 u7
  replace Dz := Lib.hid Dz
  replace D9 := Lib.hid D9
  replace hgZ := Lib.hid hgZ
  replace hGz := Lib.hid hGz
  replace C1' := Lib.hid C1'
  clear hb9 hG9
  go_upto_region 34 with fail
  go_wp2_with (first | (refine wpList_load_at (ty := 37) rfl (by kernel_rfl) (p := .pointer (some ⟨w.heap.size + 1 + 1, 0, none⟩)) rfl LR ?_; clear LR) | (refine wpList_store_at (ty := 37) rfl (by kernel_rfl) (p := .pointer (some ⟨w.heap.size + 1, 0, none⟩)) rfl rfl SR9 ?_; clear SR9))
  refine bodyPost_ret (v := .agg #[.int .i64 10, .int .i64 0, .int .i64 0, .bool false, .int .i64 a, .int .i64 b, .int .i64 c, .int .i64 0, .int .i64 0, .int .i64 0, .slice none 0 0, .string ⟨#[]⟩, .slice none 0 0, .int .i64 z1, .int .i64 z2, .int .i64 z3, .int .i64 z4, .slice As sms.length cs]) (results_cell (i := 2) rfl rfl D9.out Tryd.underlying37 rfl (by kernel_rfl)) rfl ?_
  exact ⟨rfl, hgZ.out⟩
set_option maxRecDepth 100000 in
set_option maxHeartbeats 2000000 in
theorem only11_any (r : RecM) (hk : r.kind = 11) (w : World) : Calls Tryd.prog 34 #[.agg r.cells] w fun e w' => e = .returned (.agg r.only.cells) ∧ G w w' := by
  obtain ⟨kind, rn, dst, yes, ⟨a, b, c⟩, x1, x2, x3, An, cn, nodes, key, Ap, cp, ps, z1, z2, z3, z4, As, cs, sms⟩ := r
  dsimp only at hk
  subst hk
  have hon : RecM.only ⟨11, rn, dst, yes, ⟨a, b, c⟩, x1, x2, x3, An, cn, nodes, key, Ap, cp, ps, z1, z2, z3, z4, As, cs, sms⟩ = RecM.onlyF ⟨11, rn, dst, yes, ⟨a, b, c⟩, x1, x2, x3, An, cn, nodes, key, Ap, cp, ps, z1, z2, z3, z4, As, cs, sms⟩ { span := true } := rfl
  have hfin : (RecM.only ⟨11, rn, dst, yes, ⟨a, b, c⟩, x1, x2, x3, An, cn, nodes, key, Ap, cp, ps, z1, z2, z3, z4, As, cs, sms⟩).cells = #[.int .i64 11, .int .i64 0, .int .i64 0, .bool false, .int .i64 0, .int .i64 0, .int .i64 0, .int .i64 0, .int .i64 0, .int .i64 0, .slice none 0 0, .string ⟨#[]⟩, .slice none 0 0, .int .i64 z1, .int .i64 z2, .int .i64 z3, .int .i64 z4, .slice none 0 0] := by rw [hon]; rfl
  rw [hfin]
  unfold RecM.cells
  dsimp only
  clear hon hfin
  go_enter Tryd.func34, Tryd.ntmps34
  go_upto_region 1 with fail
  have hg0 := (G.new w (.cells #[.int .i64 11, .int .i64 rn, .int .i64 dst, .bool yes, .int .i64 a, .int .i64 b, .int .i64 c, .int .i64 x1, .int .i64 x2, .int .i64 x3, .slice An nodes.length cn, .string key, .slice Ap ps.length cp, .int .i64 z1, .int .i64 z2, .int .i64 z3, .int .i64 z4, .slice As sms.length cs] 37)).alloc (.cells #[.int .i64 0, .int .i64 0, .int .i64 0, .bool false, .int .i64 0, .int .i64 0, .int .i64 0, .int .i64 0, .int .i64 0, .int .i64 0, .slice none 0 0, .string ⟨#[]⟩, .slice none 0 0, .int .i64 0, .int .i64 0, .int .i64 0, .int .i64 0, .slice none 0 0] 37)
  have B0 := (G.new (w.alloc (.cells #[.int .i64 11, .int .i64 rn, .int .i64 dst, .bool yes, .int .i64 a, .int .i64 b, .int .i64 c, .int .i64 x1, .int .i64 x2, .int .i64 x3, .slice An nodes.length cn, .string key, .slice Ap ps.length cp, .int .i64 z1, .int .i64 z2, .int .i64 z3, .int .i64 z4, .slice As sms.length cs] 37)) (.cells #[.int .i64 0, .int .i64 0, .int .i64 0, .bool false, .int .i64 0, .int .i64 0, .int .i64 0, .int .i64 0, .int .i64 0, .int .i64 0, .slice none 0 0, .string ⟨#[]⟩, .slice none 0 0, .int .i64 0, .int .i64 0, .int .i64 0, .int .i64 0, .slice none 0 0] 37)).blk (blk_new w #[.int .i64 11, .int .i64 rn, .int .i64 dst, .bool yes, .int .i64 a, .int .i64 b, .int .i64 c, .int .i64 x1, .int .i64 x2, .int .i64 x3, .slice An nodes.length cn, .string key, .slice Ap ps.length cp, .int .i64 z1, .int .i64 z2, .int .i64 z3, .int .i64 z4, .slice As sms.length cs] 37)
  have D0 := blk_new' (w.alloc (.cells #[.int .i64 11, .int .i64 rn, .int .i64 dst, .bool yes, .int .i64 a, .int .i64 b, .int .i64 c, .int .i64 x1, .int .i64 x2, .int .i64 x3, .slice An nodes.length cn, .string key, .slice Ap ps.length cp, .int .i64 z1, .int .i64 z2, .int .i64 z3, .int .i64 z4, .slice As sms.length cs] 37)) #[.int .i64 0, .int .i64 0, .int .i64 0, .bool false, .int .i64 0, .int .i64 0, .int .i64 0, .int .i64 0, .int .i64 0, .int .i64 0, .slice none 0 0, .string ⟨#[]⟩, .slice none 0 0, .int .i64 0, .int .i64 0, .int .i64 0, .int .i64 0, .slice none 0 0] 37 (w.heap.size + 1) (by simp)
  generalize hW0 : (w.alloc (.cells #[.int .i64 11, .int .i64 rn, .int .i64 dst, .bool yes, .int .i64 a, .int .i64 b, .int .i64 c, .int .i64 x1, .int .i64 x2, .int .i64 x3, .slice An nodes.length cn, .string key, .slice Ap ps.length cp, .int .i64 z1, .int .i64 z2, .int .i64 z3, .int .i64 z4, .slice As sms.length cs] 37)).alloc (.cells #[.int .i64 0, .int .i64 0, .int .i64 0, .bool false, .int .i64 0, .int .i64 0, .int .i64 0, .int .i64 0, .int .i64 0, .int .i64 0, .slice none 0 0, .string ⟨#[]⟩, .slice none 0 0, .int .i64 0, .int .i64 0, .int .i64 0, .int .i64 0, .slice none 0 0] 37) = W0 at *
  have hsz : W0.heap.size = w.heap.size + 1 + 1 := by rw [← hW0]; simp
  clear hW0
  have g0 := (blk_cell B0 0).trans (show _ = some (.int .i64 11) from rfl)
  have hg1 := G.new W0 (.cells #[.int .i64 0, .int .i64 0, .int .i64 0, .bool false, .int .i64 0, .int .i64 0, .int .i64 0, .int .i64 0, .int .i64 0, .int .i64 0, .slice none 0 0, .string ⟨#[]⟩, .slice none 0 0, .int .i64 0, .int .i64 0, .int .i64 0, .int .i64 0, .slice none 0 0] 37)
  obtain ⟨W1, SR1, C1, hb1, hG1⟩ := store_blk (P := Tryd.prog) (T := 37) (cs := #[.int .i64 11, .int .i64 0, .int .i64 0, .bool false, .int .i64 0, .int .i64 0, .int .i64 0, .int .i64 0, .int .i64 0, .int .i64 0, .slice none 0 0, .string ⟨#[]⟩, .slice none 0 0, .int .i64 0, .int .i64 0, .int .i64 0, .int .i64 0, .slice none 0 0]) (blk_new W0 #[.int .i64 0, .int .i64 0, .int .i64 0, .bool false, .int .i64 0, .int .i64 0, .int .i64 0, .int .i64 0, .int .i64 0, .int .i64 0, .slice none 0 0, .string ⟨#[]⟩, .slice none 0 0, .int .i64 0, .int .i64 0, .int .i64 0, .int .i64 0, .slice none 0 0] 37) rfl (by kernel_rfl) (by kernel_rfl)
  have hgA := hG1 w (hg0.trans hg1) (by omega)
  have B1 := hb1.blk (hg1.blk B0) (by omega)
  have D1 := hb1.blk (hg1.blk D0) (by omega)
  rw [hsz] at C1 SR1
  replace C1 := Lib.hid C1
  replace B1 := Lib.hid B1
  replace D1 := Lib.hid D1
  replace B0 := Lib.hid B0
  replace D0 := Lib.hid D0
  replace hgA := Lib.hid hgA
  clear hb1 hG1 hg0 hg1
  go_upto_region 2 with (refine wpList_store_at (ty := 37) rfl (by kernel_rfl) rfl rfl SR1 ?_)
  clear g0 SR1
  have g0 := (blk_cell B1.out 0).trans (show _ = some (.int .i64 11) from rfl)
  have g13 := (blk_cell B1.out 13).trans (show _ = some (.int .i64 z1) from rfl)
  have g14 := (blk_cell B1.out 14).trans (show _ = some (.int .i64 z2) from rfl)
  have g15 := (blk_cell B1.out 15).trans (show _ = some (.int .i64 z3) from rfl)
  have g16 := (blk_cell B1.out 16).trans (show _ = some (.int .i64 z4) from rfl)
  have C1' := C1.out
  have cfr : ∀ o, W1.frozen? ⟨w.heap.size + 1 + 1, o, none⟩ = false := fun o => by simp [World.frozen?, C1']
  have y13 := (blk_cell C1' 13).trans (show _ = some (.int .i64 0) from rfl)
  have y14 := (blk_cell C1' 14).trans (show _ = some (.int .i64 0) from rfl)
  have y15 := (blk_cell C1' 15).trans (show _ = some (.int .i64 0) from rfl)
  have y16 := (blk_cell C1' 16).trans (show _ = some (.int .i64 0) from rfl)
  have E0 : (W1.setCell ⟨w.heap.size + 1 + 1, 13, none⟩ (.int .i64 z1)).heap[w.heap.size + 1 + 1]? = some (.cells #[.int .i64 11, .int .i64 0, .int .i64 0, .bool false, .int .i64 0, .int .i64 0, .int .i64 0, .int .i64 0, .int .i64 0, .int .i64 0, .slice none 0 0, .string ⟨#[]⟩, .slice none 0 0, .int .i64 z1, .int .i64 0, .int .i64 0, .int .i64 0, .slice none 0 0] 37 (0, 0)) := by rw [blk_put C1']; rfl
  have u0 := but_set W1 (w.heap.size + 1 + 1) 13 (.int .i64 z1)
  have E1 : ((W1.setCell ⟨w.heap.size + 1 + 1, 13, none⟩ (.int .i64 z1)).setCell ⟨w.heap.size + 1 + 1, 14, none⟩ (.int .i64 z2)).heap[w.heap.size + 1 + 1]? = some (.cells #[.int .i64 11, .int .i64 0, .int .i64 0, .bool false, .int .i64 0, .int .i64 0, .int .i64 0, .int .i64 0, .int .i64 0, .int .i64 0, .slice none 0 0, .string ⟨#[]⟩, .slice none 0 0, .int .i64 z1, .int .i64 z2, .int .i64 0, .int .i64 0, .slice none 0 0] 37 (0, 0)) := by rw [blk_put E0]; rfl
  have u1 := but_set (W1.setCell ⟨w.heap.size + 1 + 1, 13, none⟩ (.int .i64 z1)) (w.heap.size + 1 + 1) 14 (.int .i64 z2)
  have E2 : (((W1.setCell ⟨w.heap.size + 1 + 1, 13, none⟩ (.int .i64 z1)).setCell ⟨w.heap.size + 1 + 1, 14, none⟩ (.int .i64 z2)).setCell ⟨w.heap.size + 1 + 1, 15, none⟩ (.int .i64 z3)).heap[w.heap.size + 1 + 1]? = some (.cells #[.int .i64 11, .int .i64 0, .int .i64 0, .bool false, .int .i64 0, .int .i64 0, .int .i64 0, .int .i64 0, .int .i64 0, .int .i64 0, .slice none 0 0, .string ⟨#[]⟩, .slice none 0 0, .int .i64 z1, .int .i64 z2, .int .i64 z3, .int .i64 0, .slice none 0 0] 37 (0, 0)) := by rw [blk_put E1]; rfl
  have u2 := but_set ((W1.setCell ⟨w.heap.size + 1 + 1, 13, none⟩ (.int .i64 z1)).setCell ⟨w.heap.size + 1 + 1, 14, none⟩ (.int .i64 z2)) (w.heap.size + 1 + 1) 15 (.int .i64 z3)
  have E3 : ((((W1.setCell ⟨w.heap.size + 1 + 1, 13, none⟩ (.int .i64 z1)).setCell ⟨w.heap.size + 1 + 1, 14, none⟩ (.int .i64 z2)).setCell ⟨w.heap.size + 1 + 1, 15, none⟩ (.int .i64 z3)).setCell ⟨w.heap.size + 1 + 1, 16, none⟩ (.int .i64 z4)).heap[w.heap.size + 1 + 1]? = some (.cells #[.int .i64 11, .int .i64 0, .int .i64 0, .bool false, .int .i64 0, .int .i64 0, .int .i64 0, .int .i64 0, .int .i64 0, .int .i64 0, .slice none 0 0, .string ⟨#[]⟩, .slice none 0 0, .int .i64 z1, .int .i64 z2, .int .i64 z3, .int .i64 z4, .slice none 0 0] 37 (0, 0)) := by rw [blk_put E2]; rfl
  have u3 := but_set (((W1.setCell ⟨w.heap.size + 1 + 1, 13, none⟩ (.int .i64 z1)).setCell ⟨w.heap.size + 1 + 1, 14, none⟩ (.int .i64 z2)).setCell ⟨w.heap.size + 1 + 1, 15, none⟩ (.int .i64 z3)) (w.heap.size + 1 + 1) 16 (.int .i64 z4)
  have hGz : G w ((((W1.setCell ⟨w.heap.size + 1 + 1, 13, none⟩ (.int .i64 z1)).setCell ⟨w.heap.size + 1 + 1, 14, none⟩ (.int .i64 z2)).setCell ⟨w.heap.size + 1 + 1, 15, none⟩ (.int .i64 z3)).setCell ⟨w.heap.size + 1 + 1, 16, none⟩ (.int .i64 z4)) := ((((hgA.out).set (Nat.le_trans (Nat.le_succ _) (Nat.le_succ _)) (.int .i64 z1)).set (Nat.le_trans (Nat.le_succ _) (Nat.le_succ _)) (.int .i64 z2)).set (Nat.le_trans (Nat.le_succ _) (Nat.le_succ _)) (.int .i64 z3)).set (Nat.le_trans (Nat.le_succ _) (Nat.le_succ _)) (.int .i64 z4)
  have Dz := (u3.blk ((u2.blk ((u1.blk ((u0.blk (D1.out) (by omega))) (by omega))) (by omega))) (by omega))
  have LR := load_blk (P := Tryd.prog) (T := 37) E3 Tryd.underlying37 rfl (by kernel_rfl)
  obtain ⟨W9, SR9, D9, hb9, hG9⟩ := store_blk (P := Tryd.prog) (T := 37) (cs := #[.int .i64 11, .int .i64 0, .int .i64 0, .bool false, .int .i64 0, .int .i64 0, .int .i64 0, .int .i64 0, .int .i64 0, .int .i64 0, .slice none 0 0, .string ⟨#[]⟩, .slice none 0 0, .int .i64 z1, .int .i64 z2, .int .i64 z3, .int .i64 z4, .slice none 0 0]) Dz rfl (by kernel_rfl) (by kernel_rfl)
  have hgZ := hG9 w hGz (by omega)
  clear E0 E1 E2 E3 u0 u1 u2 u3
  replace Dz := Lib.hid Dz
  replace D9 := Lib.hid D9
  replace hgZ := Lib.hid hgZ
  replace hGz := Lib.hid hGz
  replace C1' := Lib.hid C1'
  clear hb9 hG9
  go_upto_region 34 with fail
  go_wp2_with (first | (refine wpList_load_at (ty := 37) rfl (by kernel_rfl) (p := .pointer (some ⟨w.heap.size + 1 + 1, 0, none⟩)) rfl LR ?_; clear LR) | (refine wpList_store_at (ty := 37) rfl (by kernel_rfl) (p := .pointer (some ⟨w.heap.size + 1, 0, none⟩)) rfl rfl SR9 ?_; clear SR9))
  refine bodyPost_ret (v := .agg #[.int .i64 11, .int .i64 0, .int .i64 0, .bool false, .int .i64 0, .int .i64 0, .int .i64 0, .int .i64 0, .int .i64 0, .int .i64 0, .slice none 0 0, .string ⟨#[]⟩, .slice none 0 0, .int .i64 z1, .int .i64 z2, .int .i64 z3, .int .i64 z4, .slice none 0 0]) (results_cell (i := 2) rfl rfl D9.out Tryd.underlying37 rfl (by kernel_rfl)) rfl ?_
  exact ⟨rfl, hgZ.out⟩
set_option maxRecDepth 100000 in
set_option maxHeartbeats 2000000 in
theorem onlyN_any (r : RecM) (hk : fOk r.kind = false) (w : World) : Calls Tryd.prog 34 #[.agg r.cells] w fun e w' => e = .returned (.agg r.only.cells) ∧ G w w' := by
  obtain ⟨kind, rn, dst, yes, ⟨a, b, c⟩, x1, x2, x3, An, cn, nodes, key, Ap, cp, ps, z1, z2, z3, z4, As, cs, sms⟩ := r
  dsimp only at hk
  have hon : RecM.only ⟨kind, rn, dst, yes, ⟨a, b, c⟩, x1, x2, x3, An, cn, nodes, key, Ap, cp, ps, z1, z2, z3, z4, As, cs, sms⟩ = RecM.onlyF ⟨kind, rn, dst, yes, ⟨a, b, c⟩, x1, x2, x3, An, cn, nodes, key, Ap, cp, ps, z1, z2, z3, z4, As, cs, sms⟩ {} := by
    unfold RecM.only
    rw [fl_of hk]
  have h0 := fOk_no hk
  have t1 : (kind == 1) = false := by rw [beq_eq_false_iff_ne]; omega
  have t2 : (kind == 2) = false := by rw [beq_eq_false_iff_ne]; omega
  have t3 : (kind == 3) = false := by rw [beq_eq_false_iff_ne]; omega
  have t4 : (kind == 4) = false := by rw [beq_eq_false_iff_ne]; omega
  have t5 : (kind == 5) = false := by rw [beq_eq_false_iff_ne]; omega
  have t6 : (kind == 6) = false := by rw [beq_eq_false_iff_ne]; omega
  have t7 : (kind == 7) = false := by rw [beq_eq_false_iff_ne]; omega
  have t8 : (kind == 8) = false := by rw [beq_eq_false_iff_ne]; omega
  have t9 : (kind == 9) = false := by rw [beq_eq_false_iff_ne]; omega
  have t10 : (kind == 10) = false := by rw [beq_eq_false_iff_ne]; omega
  have t11 : (kind == 11) = false := by rw [beq_eq_false_iff_ne]; omega
  clear h0 hk
  have hfin : (RecM.only ⟨kind, rn, dst, yes, ⟨a, b, c⟩, x1, x2, x3, An, cn, nodes, key, Ap, cp, ps, z1, z2, z3, z4, As, cs, sms⟩).cells = #[.int .i64 kind, .int .i64 0, .int .i64 0, .bool false, .int .i64 0, .int .i64 0, .int .i64 0, .int .i64 0, .int .i64 0, .int .i64 0, .slice none 0 0, .string ⟨#[]⟩, .slice none 0 0, .int .i64 0, .int .i64 0, .int .i64 0, .int .i64 0, .slice none 0 0] := by rw [hon]; rfl
  rw [hfin]
  unfold RecM.cells
  dsimp only
  clear hon hfin
  go_enter Tryd.func34, Tryd.ntmps34
  go_upto_region 1 with fail
  have hg0 := (G.new w (.cells #[.int .i64 kind, .int .i64 rn, .int .i64 dst, .bool yes, .int .i64 a, .int .i64 b, .int .i64 c, .int .i64 x1, .int .i64 x2, .int .i64 x3, .slice An nodes.length cn, .string key, .slice Ap ps.length cp, .int .i64 z1, .int .i64 z2, .int .i64 z3, .int .i64 z4, .slice As sms.length cs] 37)).alloc (.cells #[.int .i64 0, .int .i64 0, .int .i64 0, .bool false, .int .i64 0, .int .i64 0, .int .i64 0, .int .i64 0, .int .i64 0, .int .i64 0, .slice none 0 0, .string ⟨#[]⟩, .slice none 0 0, .int .i64 0, .int .i64 0, .int .i64 0, .int .i64 0, .slice none 0 0] 37)
  have B0 := (G.new (w.alloc (.cells #[.int .i64 kind, .int .i64 rn, .int .i64 dst, .bool yes, .int .i64 a, .int .i64 b, .int .i64 c, .int .i64 x1, .int .i64 x2, .int .i64 x3, .slice An nodes.length cn, .string key, .slice Ap ps.length cp, .int .i64 z1, .int .i64 z2, .int .i64 z3, .int .i64 z4, .slice As sms.length cs] 37)) (.cells #[.int .i64 0, .int .i64 0, .int .i64 0, .bool false, .int .i64 0, .int .i64 0, .int .i64 0, .int .i64 0, .int .i64 0, .int .i64 0, .slice none 0 0, .string ⟨#[]⟩, .slice none 0 0, .int .i64 0, .int .i64 0, .int .i64 0, .int .i64 0, .slice none 0 0] 37)).blk (blk_new w #[.int .i64 kind, .int .i64 rn, .int .i64 dst, .bool yes, .int .i64 a, .int .i64 b, .int .i64 c, .int .i64 x1, .int .i64 x2, .int .i64 x3, .slice An nodes.length cn, .string key, .slice Ap ps.length cp, .int .i64 z1, .int .i64 z2, .int .i64 z3, .int .i64 z4, .slice As sms.length cs] 37)
  have D0 := blk_new' (w.alloc (.cells #[.int .i64 kind, .int .i64 rn, .int .i64 dst, .bool yes, .int .i64 a, .int .i64 b, .int .i64 c, .int .i64 x1, .int .i64 x2, .int .i64 x3, .slice An nodes.length cn, .string key, .slice Ap ps.length cp, .int .i64 z1, .int .i64 z2, .int .i64 z3, .int .i64 z4, .slice As sms.length cs] 37)) #[.int .i64 0, .int .i64 0, .int .i64 0, .bool false, .int .i64 0, .int .i64 0, .int .i64 0, .int .i64 0, .int .i64 0, .int .i64 0, .slice none 0 0, .string ⟨#[]⟩, .slice none 0 0, .int .i64 0, .int .i64 0, .int .i64 0, .int .i64 0, .slice none 0 0] 37 (w.heap.size + 1) (by simp)
  generalize hW0 : (w.alloc (.cells #[.int .i64 kind, .int .i64 rn, .int .i64 dst, .bool yes, .int .i64 a, .int .i64 b, .int .i64 c, .int .i64 x1, .int .i64 x2, .int .i64 x3, .slice An nodes.length cn, .string key, .slice Ap ps.length cp, .int .i64 z1, .int .i64 z2, .int .i64 z3, .int .i64 z4, .slice As sms.length cs] 37)).alloc (.cells #[.int .i64 0, .int .i64 0, .int .i64 0, .bool false, .int .i64 0, .int .i64 0, .int .i64 0, .int .i64 0, .int .i64 0, .int .i64 0, .slice none 0 0, .string ⟨#[]⟩, .slice none 0 0, .int .i64 0, .int .i64 0, .int .i64 0, .int .i64 0, .slice none 0 0] 37) = W0 at *
  have hsz : W0.heap.size = w.heap.size + 1 + 1 := by rw [← hW0]; simp
  clear hW0
  have g0 := (blk_cell B0 0).trans (show _ = some (.int .i64 kind) from rfl)
  have hg1 := G.new W0 (.cells #[.int .i64 0, .int .i64 0, .int .i64 0, .bool false, .int .i64 0, .int .i64 0, .int .i64 0, .int .i64 0, .int .i64 0, .int .i64 0, .slice none 0 0, .string ⟨#[]⟩, .slice none 0 0, .int .i64 0, .int .i64 0, .int .i64 0, .int .i64 0, .slice none 0 0] 37)
  obtain ⟨W1, SR1, C1, hb1, hG1⟩ := store_blk (P := Tryd.prog) (T := 37) (cs := #[.int .i64 kind, .int .i64 0, .int .i64 0, .bool false, .int .i64 0, .int .i64 0, .int .i64 0, .int .i64 0, .int .i64 0, .int .i64 0, .slice none 0 0, .string ⟨#[]⟩, .slice none 0 0, .int .i64 0, .int .i64 0, .int .i64 0, .int .i64 0, .slice none 0 0]) (blk_new W0 #[.int .i64 0, .int .i64 0, .int .i64 0, .bool false, .int .i64 0, .int .i64 0, .int .i64 0, .int .i64 0, .int .i64 0, .int .i64 0, .slice none 0 0, .string ⟨#[]⟩, .slice none 0 0, .int .i64 0, .int .i64 0, .int .i64 0, .int .i64 0, .slice none 0 0] 37) rfl (by kernel_rfl) (by kernel_rfl)
  have hgA := hG1 w (hg0.trans hg1) (by omega)
  have B1 := hb1.blk (hg1.blk B0) (by omega)
  have D1 := hb1.blk (hg1.blk D0) (by omega)
  rw [hsz] at C1 SR1
  replace C1 := Lib.hid C1
  replace B1 := Lib.hid B1
  replace D1 := Lib.hid D1
  replace B0 := Lib.hid B0
  replace D0 := Lib.hid D0
  replace hgA := Lib.hid hgA
  clear hb1 hG1 hg0 hg1
  go_upto_region 2 with (refine wpList_store_at (ty := 37) rfl (by kernel_rfl) rfl rfl SR1 ?_)
  clear g0 SR1
  have g0 := (blk_cell B1.out 0).trans (show _ = some (.int .i64 kind) from rfl)
  have C1' := C1.out
  have cfr : ∀ o, W1.frozen? ⟨w.heap.size + 1 + 1, o, none⟩ = false := fun o => by simp [World.frozen?, C1']
  have hGz := hgA.out
  have Dz := D1.out
  have LR := load_blk (P := Tryd.prog) (T := 37) C1' Tryd.underlying37 rfl (by kernel_rfl)
  obtain ⟨W9, SR9, D9, hb9, hG9⟩ := store_blk (P := Tryd.prog) (T := 37) (cs := #[.int .i64 kind, .int .i64 0, .int .i64 0, .bool false, .int .i64 0, .int .i64 0, .int .i64 0, .int .i64 0, .int .i64 0, .int .i64 0, .slice none 0 0, .string ⟨#[]⟩, .slice none 0 0, .int .i64 0, .int .i64 0, .int .i64 0, .int .i64 0, .slice none 0 0]) Dz rfl (by kernel_rfl) (by kernel_rfl)
  have hgZ := hG9 w hGz (by omega)
  replace Dz := Lib.hid Dz
  replace D9 := Lib.hid D9
  replace hgZ := Lib.hid hgZ
  replace hGz := Lib.hid hGz
  replace C1' := Lib.hid C1'
  clear hb9 hG9
  go_upto_region 34 with fail
  go_wp2_with (first | (refine wpList_load_at (ty := 37) rfl (by kernel_rfl) (p := .pointer (some ⟨w.heap.size + 1 + 1, 0, none⟩)) rfl LR ?_; clear LR) | (refine wpList_store_at (ty := 37) rfl (by kernel_rfl) (p := .pointer (some ⟨w.heap.size + 1, 0, none⟩)) rfl rfl SR9 ?_; clear SR9))
  refine bodyPost_ret (v := .agg #[.int .i64 kind, .int .i64 0, .int .i64 0, .bool false, .int .i64 0, .int .i64 0, .int .i64 0, .int .i64 0, .int .i64 0, .int .i64 0, .slice none 0 0, .string ⟨#[]⟩, .slice none 0 0, .int .i64 0, .int .i64 0, .int .i64 0, .int .i64 0, .slice none 0 0]) (results_cell (i := 2) rfl rfl D9.out Tryd.underlying37 rfl (by kernel_rfl)) rfl ?_
  exact ⟨rfl, hgZ.out⟩
end Go.Proofs.YthafeaclpcjjbaaDoor

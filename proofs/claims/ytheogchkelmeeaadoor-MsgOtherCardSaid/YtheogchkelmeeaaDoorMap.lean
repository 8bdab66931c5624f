/- A map from texts to ints that the call itself makes, as a function. No condition. -/
import Derived.Test.YtheogchkelmeeaaDoorEv
import Derived.Maps.Own
import Derived.Maps.OwnOps
import Derived.Maps.Views
namespace Go.Proofs.YtheogchkelmeeaaDoor
open Go.RowKit Go.Maps Go.WideMaps

/-- A function, but for one place. -/
def upd (g : ByteArray → Int) (s : ByteArray) (v : Int) : ByteArray → Int := fun t => if t = s then v else g t
theorem upd_same (g : ByteArray → Int) (s : ByteArray) (v : Int) : upd g s v s = v := by simp [upd]
theorem upd_other (g : ByteArray → Int) {s t : ByteArray} (v : Int) (h : t ≠ s) : upd g s v t = g t := by simp [upd, h]
/-- Block b is a map of at most n entries; of each text s it tells g s. -/
def MapIs (w : World) (b n : Nat) (g : ByteArray → Int) : Prop :=
  ∃ D : DataW Unit, IsMap D ∧ w.ownsMap Tryd.prog 9 (plainElem Tryd.prog 3) b n D ∧ ∀ s : ByteArray, D.atKey (.string s.data.toList) (.lit (.int .i64 0)) = .lit (.int .i64 (g s))
theorem keyLaw : Keyed Tryd.prog 9 := string_keyed Tryd.underlying9
set_option maxRecDepth 100000 in
theorem zeroInt (w : World) : (zeroValue 3).run Tryd.prog w = .ok (.int .i64 0) w := by kernel_rfl
theorem key_inj {s t : ByteArray} (h : s ≠ t) : (Lit.string s.data.toList) ≠ .string t.data.toList := fun e => h (by
  injection e with e
  cases s; cases t
  simp only [ByteArray.mk.injEq]
  exact Array.toList_inj.1 e)
set_option maxRecDepth 100000 in
theorem MapIs.made (w : World) : MapIs (w.alloc (.map #[] 0)) w.heap.size 0 (fun _ => 0) :=
  ⟨.map [], ⟨[], rfl⟩, World.ownsMap_made _ _ _ _, fun _ => rfl⟩
set_option maxRecDepth 100000 in
theorem MapIs.lt {w : World} {b n : Nat} {g : ByteArray → Int} (h : MapIs w b n g) : b < w.heap.size := by
  obtain ⟨D, _, h1, _⟩ := h
  exact h1.lt
set_option maxRecDepth 100000 in
theorem MapIs.g {w w' : World} {b n : Nat} {g : ByteArray → Int} (h : MapIs w b n g) (hg : G w w') : MapIs w' b n g := by
  obtain ⟨D, hD, h1, h2⟩ := h
  exact ⟨D, hD, h1.kept (row := none) ⟨hg.os, hg.tape, hg.output, hg.size, fun k hk _ => hg.block k hk⟩ (by simp), h2⟩
set_option maxRecDepth 100000 in
theorem MapIs.look {w : World} {b n : Nat} {g : ByteArray → Int} (h : MapIs w b n g) (s : ByteArray) (hs : s.size ≤ 9223372036854775807) :
    (Instr.lookup 66 (.map (some b)) (.string s) false).run Tryd.prog w = .ok (.int .i64 (g s)) w := by
  obtain ⟨D, _, h1, h2⟩ := h
  obtain ⟨c, hrun, hat, _⟩ := h1.lookup_int keyLaw Tryd.underlying66 Tryd.underlying3 (zeroInt _) (keyOf_string_mk Tryd.underlying9 (by simpa [maxLen] using hs))
  rw [h2 s] at hat
  injection hat with hat
  injection hat with _ hat
  rw [hrun, hat]
set_option maxRecDepth 100000 in
theorem MapIs.put {w : World} {b n : Nat} {g : ByteArray → Int} (h : MapIs w b n g) (hn : n < 9223372036854775807) (s : ByteArray) (hs : s.size ≤ 9223372036854775807) (v : Int) (hv : (Lit.int .i64 v).wf = true) :
    ∃ w', (Instr.mapUpdate 66 (.map (some b)) (.string s) (.int .i64 v)).run Tryd.prog w = .ok () w' ∧ MapIs w' b (n + 1) (upd g s v) ∧ w.grownBy w' (some b) := by
  obtain ⟨D, hD, h1, h2⟩ := h
  obtain ⟨w', hrun, r1, r2⟩ := h1.update keyLaw Tryd.underlying66 (by simpa [maxLen] using hn) (keyOf_string_mk Tryd.underlying9 (by simpa [maxLen] using hs)) (plainElem_int Tryd.underlying3 hv)
  refine ⟨w', hrun, ⟨_, ?_, r1, fun t => ?_⟩, r2⟩
  · obtain ⟨es, rfl⟩ := hD
    exact ⟨_, rfl⟩
  · by_cases ht : t = s
    · subst ht
      rw [upd_same, atKey_put_same hD (by simp [WideAt.IsKeyLit])]
    · rw [upd_other _ _ ht, atKey_put_other (key_inj ht), h2]
section
variable {ops : Array Oper} {rest : List Oper} {o : Oper} {a : Act} {Q : Exit → Act → World → Prop}
set_option maxRecDepth 100000 in
theorem wpList_map_look (w : World) (hg : o.guard = none) (m x : Operand) (hop : o.op = Op.lookup 66 m x false) (b n : Nat) (g : ByteArray → Int) (hm : a.eval m = .map (some b)) (hown : MapIs w b n g)
    (s : ByteArray) (hx : a.eval x = .string s) (hs : s.size ≤ 9223372036854775807) (hK : wpList Tryd.prog ops Q rest (a.put o.dst (.int .i64 (g s))) w) : wpList Tryd.prog ops Q (o :: rest) a w := by
  refine wpList_plain hg fun K' hK' => ?_
  have hrun := hown.look s hs
  unfold Oper.wp
  simp [execOp, hop, hm, hx, hrun, Result.andThen]
  exact hK' _ _ hK
set_option maxRecDepth 100000 in
theorem wpList_map_put (w : World) (hg : o.guard = none) (m x v : Operand) (hop : o.op = Op.mapUpdate 66 m x v) (b n : Nat) (g : ByteArray → Int) (hm : a.eval m = .map (some b)) (hown : MapIs w b n g) (hn : n < 9223372036854775807)
    (s : ByteArray) (hx : a.eval x = .string s) (hs : s.size ≤ 9223372036854775807) (c : Int) (hv : a.eval v = .int .i64 c) (hc : (Lit.int .i64 c).wf = true)
    (hK : ∀ w', MapIs w' b (n + 1) (upd g s c) → w.grownBy w' (some b) → wpList Tryd.prog ops Q rest (a.put o.dst undef) w') : wpList Tryd.prog ops Q (o :: rest) a w := by
  refine wpList_plain hg fun K' hK' => ?_
  obtain ⟨w', hrun, r1, r2⟩ := hown.put hn s hs c hc
  unfold Oper.wp
  simp [execOp, hop, hm, hx, hv, hrun, Result.andThen]
  exact hK' _ _ (hK w' r1 r2)
end
theorem G.mapped {W w w' : World} {b : Nat} (h : G W w) (hg : w.grownBy w' (some b)) (hb : W.heap.size ≤ b) : G W w' := h.grown hg (fun k hk => by cases hk; exact hb)
theorem wf_i64 {n : Int} (h0 : -9223372036854775808 ≤ n) (h1 : n ≤ 9223372036854775807) : (Lit.int .i64 n).wf = true := WalkArith.wf_i64 ⟨h0, h1⟩
end Go.Proofs.YtheogchkelmeeaaDoor

/- Several texts in one: Map, ChkLaw, Lin. -/
import Derived.Test.YtheogchkelmeeaaDoorM6MsgFirst
import Derived.Maps.Own
import Derived.Maps.OwnOps
import Derived.Maps.Views
import Derived.Test.YtheogchkelmeeaaDoorM20MsgFirst
import Derived.Test.YtheogchkelmeeaaDoorM0MsgFirst
/- A map from texts to ints that the call itself makes, as a function. No condition. -/
namespace Go.Proofs.YtheogchkelmeeaaDoor
open Go.RowKit Go.Maps Go.WideMaps

/-- A function, but for one place. -/
def upd (g : ByteArray → Int) (s : ByteArray) (v : Int) : ByteArray → Int := fun t => if t = s then v else g t
theorem upd_same (g : ByteArray → Int) (s : ByteArray) (v : Int) : upd g s v s = v := by simp [upd]
theorem upd_other (g : ByteArray → Int) {s t : ByteArray} (v : Int) (h : t ≠ s) : upd g s v t = g t := by simp [upd, h]
/-- Block b is a map of at most n entries; of each text s it tells g s. -/
def MapIs (w : World) (b n : Nat) (g : ByteArray → Int) : Prop :=
  ∃ D : DataW Unit, IsMap D ∧ w.ownsMap Tryd.prog 9 (plainElem Tryd.prog 3) b n D ∧ ∀ s : ByteArray, D.atKey (.string s.data.toList) (.lit (.int .i64 0)) = .lit (.int .i64 (g s))
theorem keyLaw : Keyed Tryd.prog 9 := string_keyed Tryd.underlying9
set_option maxRecDepth 100000 in
theorem zeroInt (w : World) : (zeroValue 3).run Tryd.prog w = .ok (.int .i64 0) w := by kernel_rfl
theorem key_inj {s t : ByteArray} (h : s ≠ t) : (Lit.string s.data.toList) ≠ .string t.data.toList := fun e => h (by
  injection e with e
  cases s; cases t
  simp only [ByteArray.mk.injEq]
  exact Array.toList_inj.1 e)
set_option maxRecDepth 100000 in
theorem MapIs.made (w : World) : MapIs (w.alloc (.map #[] 0)) w.heap.size 0 (fun _ => 0) :=
  ⟨.map [], ⟨[], rfl⟩, World.ownsMap_made _ _ _ _, fun _ => rfl⟩
set_option maxRecDepth 100000 in
theorem MapIs.lt {w : World} {b n : Nat} {g : ByteArray → Int} (h : MapIs w b n g) : b < w.heap.size := by
  obtain ⟨D, _, h1, _⟩ := h
  exact h1.lt
set_option maxRecDepth 100000 in
theorem MapIs.g {w w' : World} {b n : Nat} {g : ByteArray → Int} (h : MapIs w b n g) (hg : G w w') : MapIs w' b n g := by
  obtain ⟨D, hD, h1, h2⟩ := h
  exact ⟨D, hD, h1.kept (row := none) ⟨hg.os, hg.tape, hg.output, hg.size, fun k hk _ => hg.block k hk⟩ (by simp), h2⟩
set_option maxRecDepth 100000 in
theorem MapIs.look {w : World} {b n : Nat} {g : ByteArray → Int} (h : MapIs w b n g) (s : ByteArray) (hs : s.size ≤ 9223372036854775807) :
    (Instr.lookup 66 (.map (some b)) (.string s) false).run Tryd.prog w = .ok (.int .i64 (g s)) w := by
  obtain ⟨D, _, h1, h2⟩ := h
  obtain ⟨c, hrun, hat, _⟩ := h1.lookup_int keyLaw Tryd.underlying66 Tryd.underlying3 (zeroInt _) (keyOf_string_mk Tryd.underlying9 (by simpa [maxLen] using hs))
  rw [h2 s] at hat
  injection hat with hat
  injection hat with _ hat
  rw [hrun, hat]
set_option maxRecDepth 100000 in
theorem MapIs.put {w : World} {b n : Nat} {g : ByteArray → Int} (h : MapIs w b n g) (hn : n < 9223372036854775807) (s : ByteArray) (hs : s.size ≤ 9223372036854775807) (v : Int) (hv : (Lit.int .i64 v).wf = true) :
    ∃ w', (Instr.mapUpdate 66 (.map (some b)) (.string s) (.int .i64 v)).run Tryd.prog w = .ok () w' ∧ MapIs w' b (n + 1) (upd g s v) ∧ w.grownBy w' (some b) := by
  obtain ⟨D, hD, h1, h2⟩ := h
  obtain ⟨w', hrun, r1, r2⟩ := h1.update keyLaw Tryd.underlying66 (by simpa [maxLen] using hn) (keyOf_string_mk Tryd.underlying9 (by simpa [maxLen] using hs)) (plainElem_int Tryd.underlying3 hv)
  refine ⟨w', hrun, ⟨_, ?_, r1, fun t => ?_⟩, r2⟩
  · obtain ⟨es, rfl⟩ := hD
    exact ⟨_, rfl⟩
  · by_cases ht : t = s
    · subst ht
      rw [upd_same, atKey_put_same hD (by simp [WideAt.IsKeyLit])]
    · rw [upd_other _ _ ht, atKey_put_other (key_inj ht), h2]
section
variable {ops : Array Oper} {rest : List Oper} {o : Oper} {a : Act} {Q : Exit → Act → World → Prop}
set_option maxRecDepth 100000 in
theorem wpList_map_look (w : World) (hg : o.guard = none) (m x : Operand) (hop : o.op = Op.lookup 66 m x false) (b n : Nat) (g : ByteArray → Int) (hm : a.eval m = .map (some b)) (hown : MapIs w b n g)
    (s : ByteArray) (hx : a.eval x = .string s) (hs : s.size ≤ 9223372036854775807) (hK : wpList Tryd.prog ops Q rest (a.put o.dst (.int .i64 (g s))) w) : wpList Tryd.prog ops Q (o :: rest) a w := by
  refine wpList_plain hg fun K' hK' => ?_
  have hrun := hown.look s hs
  unfold Oper.wp
  simp [execOp, hop, hm, hx, hrun, Result.andThen]
  exact hK' _ _ hK
set_option maxRecDepth 100000 in
theorem wpList_map_put (w : World) (hg : o.guard = none) (m x v : Operand) (hop : o.op = Op.mapUpdate 66 m x v) (b n : Nat) (g : ByteArray → Int) (hm : a.eval m = .map (some b)) (hown : MapIs w b n g) (hn : n < 9223372036854775807)
    (s : ByteArray) (hx : a.eval x = .string s) (hs : s.size ≤ 9223372036854775807) (c : Int) (hv : a.eval v = .int .i64 c) (hc : (Lit.int .i64 c).wf = true)
    (hK : ∀ w', MapIs w' b (n + 1) (upd g s c) → w.grownBy w' (some b) → wpList Tryd.prog ops Q rest (a.put o.dst undef) w') : wpList Tryd.prog ops Q (o :: rest) a w := by
  refine wpList_plain hg fun K' hK' => ?_
  obtain ⟨w', hrun, r1, r2⟩ := hown.put hn s hs c hc
  unfold Oper.wp
  simp [execOp, hop, hm, hx, hv, hrun, Result.andThen]
  exact hK' _ _ (hK w' r1 r2)
end
theorem G.mapped {W w w' : World} {b : Nat} (h : G W w) (hg : w.grownBy w' (some b)) (hb : W.heap.size ≤ b) : G W w' := h.grown hg (fun k hk => by cases hk; exact hb)
theorem wf_i64 {n : Int} (h0 : -9223372036854775808 ≤ n) (h1 : n ≤ 9223372036854775807) : (Lit.int .i64 n).wf = true := WalkArith.wf_i64 ⟨h0, h1⟩
end Go.Proofs.YtheogchkelmeeaaDoor
/- What Check answers, put by put. Plain mathematics, no program. No condition. -/
namespace Go.Proofs.YtheogchkelmeeaaDoor
open Go.RowKit

def PutM.p (p : PutM) : PutP := ⟨p.stream, p.expect, p.data⟩
/-- So often a text stands in a list. -/
def cntOf (l : List ByteArray) (s : ByteArray) : Int := (l.filter fun t => decide (t = s)).length
theorem cntOf_nil : cntOf [] = fun _ => 0 := rfl
theorem cntOf_snoc (l : List ByteArray) (s : ByteArray) : cntOf (l ++ [s]) = upd (cntOf l) s (cntOf l s + 1) := by
  funext t
  unfold cntOf upd
  rw [List.filter_append, List.length_append]
  by_cases h : t = s
  · subst h
    rw [if_pos rfl]
    simp
  · rw [if_neg h]
    have : ¬ s = t := fun e => h e.symm
    simp [this]
theorem cntOf_pos (l : List ByteArray) (s : ByteArray) : 0 < cntOf l s ↔ (l.any fun t => decide (t = s)) = true := by
  unfold cntOf
  rw [List.any_eq_true]
  constructor
  · intro h
    have : 0 < (l.filter fun t => decide (t = s)).length := by omega
    obtain ⟨t, ht⟩ := List.exists_mem_of_length_pos this
    rw [List.mem_filter] at ht
    exact ⟨t, ht.1, ht.2⟩
  · rintro ⟨t, h1, h2⟩
    have : t ∈ l.filter fun t => decide (t = s) := List.mem_filter.2 ⟨h1, h2⟩
    have := List.length_pos_of_mem this
    omega
theorem cntOf_le (l : List ByteArray) (s : ByteArray) : 0 ≤ cntOf l s ∧ cntOf l s ≤ l.length := by
  unfold cntOf
  have := List.length_filter_le (fun t => decide (t = s)) l
  omega
theorem apart_snoc (l : List ByteArray) (s : ByteArray) : apart (l ++ [s]) = (apart l && !(l.any fun t => decide (t = s))) := by
  induction l with
  | nil => simp [apart]
  | cons a l ih =>
    rw [List.cons_append]
    unfold apart
    rw [ih, List.any_append, List.any_cons]
    have : (decide (s = a)) = (decide (a = s)) := decide_eq_decide.2 ⟨fun h => h.symm, fun h => h.symm⟩
    simp only [List.any_cons, List.any_nil, Bool.or_false, this]
    cases (l.any fun t => decide (t = a)) <;> cases decide (a = s) <;> cases apart l <;> cases (l.any fun t => decide (t = s)) <;> rfl
theorem apart_left (a b : List ByteArray) (h : apart (a ++ b) = true) : apart a = true := by
  induction a with
  | nil => rfl
  | cons x a ih =>
    rw [List.cons_append] at h
    unfold apart at h ⊢
    rw [List.any_append, Bool.not_or, Bool.and_eq_true, Bool.and_eq_true] at h
    rw [h.1.1, ih h.2]
    rfl
theorem argNo_put {key : ByteArray} {ps : List PutP} {k : Nat} {p : PutP} (h : ps[k]? = some p) (hp : putOk p = false) : argB key ps = false := by
  cases ha : argB key ps with
  | false => rfl
  | true =>
    have := argB_put ha (List.mem_of_getElem? h)
    rw [hp] at this
    cases this
theorem argNo_twice {key : ByteArray} {ps : List PutP} {k : Nat} {p : PutP} (h : ps[k]? = some p) (hp : (((ps.take k).map PutP.stream).any fun t => decide (t = p.stream)) = true) : argB key ps = false := by
  cases ha : argB key ps with
  | false => rfl
  | true =>
    have h1 : apart (ps.map PutP.stream) = true := by
      unfold argB at ha
      simp only [Bool.and_eq_true] at ha
      exact ha.2
    rw [← List.take_append_drop (k + 1) (ps.map PutP.stream)] at h1
    have h2 := apart_left _ _ h1
    obtain ⟨hk, rfl⟩ := List.getElem?_eq_some_iff.1 h
    rw [← List.map_take, List.take_succ_eq_append_getElem hk, List.map_append, List.map_cons, List.map_nil, apart_snoc, hp] at h2
    simp at h2
theorem argB_end {key : ByteArray} {ps : List PutP} (h1 : ∀ p ∈ ps, putOk p = true) (h2 : apart (ps.map PutP.stream) = true) : argB key ps = (keyB key && decide (ps ≠ [])) := by
  unfold argB
  rw [h2, List.all_eq_true.2 h1, Bool.and_true, Bool.and_true]
theorem take_snocP {α : Type} {l : List α} {k : Nat} {x : α} (h : l[k]? = some x) : l.take (k + 1) = l.take k ++ [x] := by
  obtain ⟨hk, rfl⟩ := List.getElem?_eq_some_iff.1 h
  exact List.take_succ_eq_append_getElem hk
end Go.Proofs.YtheogchkelmeeaaDoor
/- A region that draws its order, its operations taken one by one: the moves. No condition. -/
namespace Go.Proofs.YtheogchkelmeeaaDoor
open Go.RowKit

/-- The first operation that is not yet listed, and its slot. -/
def nxd : List Oper → List Bool → Nat → Option (Nat × Option Tmp)
  | o :: os, b :: bs, k => match b with
    | true => nxd os bs (k + 1)
    | false => match o.dst with
      | some t => some (k, some t)
      | none => some (k, none)
  | _, _, _ => none
theorem nxd_dst : ∀ (os : List Oper) (bs : List Bool) (k i : Nat) (d : Option Tmp), nxd os bs k = some (i, d) → ∃ j, i = k + j ∧ os[j]?.map Oper.dst = some d
  | [], _, _, _, _, h => by simp [nxd] at h
  | _ :: _, [], _, _, _, h => by simp [nxd] at h
  | o :: os, true :: bs, k, i, d, h => by
    obtain ⟨j, h1, h2⟩ := nxd_dst os bs (k + 1) i d h
    exact ⟨j + 1, by omega, by simpa using h2⟩
  | o :: os, false :: bs, k, i, d, h => by
    refine ⟨0, ?_⟩
    cases ho : o.dst with
    | none =>
      simp only [nxd, ho, Option.some.injEq, Prod.mk.injEq] at h
      exact ⟨by omega, by simp [ho, h.2]⟩
    | some t =>
      simp only [nxd, ho, Option.some.injEq, Prod.mk.injEq] at h
      exact ⟨by omega, by simp [ho, h.2]⟩
def linB (md : Region.Mode) (ops : Array Oper) (listed : Array Bool) (i : Nat) : Bool := Region.noSelect ops && (Region.free md ops listed i && (Region.ready md ops listed).contains i)
section
variable {P : Program} {ops : Array Oper} {Q : Exit → Act → World → Prop} {md : Region.Mode} {S : World → Prop}
/-- Operation i is taken: it runs, and yields v in each world that meets S. -/
theorem lin_take (i : Nat) (d : Option Tmp) {v : Value} {fuel : Nat} {listed : Array Bool} {a : Act} {w : World} (hi : (ops[i]?.map Oper.dst) = some d)
    (hs : Region.noSelect ops = true) (hf : Region.free md ops listed i = true) (hr : (Region.ready md ops listed).contains i = true)
    (hQ : ∀ c a w, Q (.panic c) (a.put d v) w → Q (.panic c) a w) (hw : (ops[i]?.map fun o => Region.wanted o (yielded ops a.tmps)) = some true)
    (hv : ∀ w, S w → (ops[i]?.map fun o => (execOp a.eval o).run P w) = some (.ok (.value v) w)) (hS : S w)
    (h : wpAnyH P md ops Q S fuel (listed.setIfInBounds i true) (a.put d v) w) : wpAnyH P md ops Q S (fuel + 1) listed a w := by
  cases ho : ops[i]? with
  | none => rw [ho] at hi; cases hi
  | some o =>
    rw [ho] at hi hw
    cases hi
    refine wpAnyH_take ho hs hf hr hQ (.inl ⟨Option.some.inj hw, fun w hS => ?_⟩) hS h
    have := hv w hS
    rw [ho] at this
    exact Option.some.inj this
/-- Operation i is passed over: its guard says no. -/
theorem lin_pass (i : Nat) (d : Option Tmp) {fuel : Nat} {listed : Array Bool} {a : Act} {w : World} (hi : (ops[i]?.map Oper.dst) = some d)
    (hs : Region.noSelect ops = true) (hf : Region.free md ops listed i = true) (hr : (Region.ready md ops listed).contains i = true)
    (hQ : ∀ c a w, Q (.panic c) (a.put d undef) w → Q (.panic c) a w) (hw : (ops[i]?.map fun o => Region.wanted o (yielded ops a.tmps)) = some false) (hS : S w)
    (h : wpAnyH P md ops Q S fuel (listed.setIfInBounds i true) (a.put d undef) w) : wpAnyH P md ops Q S (fuel + 1) listed a w := by
  cases ho : ops[i]? with
  | none => rw [ho] at hi; cases hi
  | some o =>
    rw [ho] at hi hw
    cases hi
    exact wpAnyH_take ho hs hf hr hQ (.inr ⟨Option.some.inj hw, rfl⟩) hS h
theorem lin_n {i : Nat} {d : Option Tmp} {v : Value} {fuel : Nat} {listed : Array Bool} {a : Act} {w : World} (hn : nxd ops.toList listed.toList 0 = some (i, d)) (hb : linB md ops listed i = true)
    (hQ : ∀ c a w, Q (.panic c) (a.put d v) w → Q (.panic c) a w) (hw : (ops[i]?.map fun o => Region.wanted o (yielded ops a.tmps)) = some true)
    (hv : ∀ w, S w → (ops[i]?.map fun o => (execOp a.eval o).run P w) = some (.ok (.value v) w)) (hS : S w)
    (h : wpAnyH P md ops Q S fuel (listed.setIfInBounds i true) (a.put d v) w) : wpAnyH P md ops Q S (fuel + 1) listed a w := by
  obtain ⟨j, rfl, hi⟩ := nxd_dst _ _ _ _ _ hn
  unfold linB at hb
  simp only [Bool.and_eq_true] at hb
  rw [Nat.zero_add] at hb hw hv h
  exact lin_take j d (by simpa using hi) hb.1 hb.2.1 hb.2.2 hQ hw hv hS h
theorem lin_p {i : Nat} {d : Option Tmp} {fuel : Nat} {listed : Array Bool} {a : Act} {w : World} (hn : nxd ops.toList listed.toList 0 = some (i, d)) (hb : linB md ops listed i = true)
    (hQ : ∀ c a w, Q (.panic c) (a.put d undef) w → Q (.panic c) a w) (hw : (ops[i]?.map fun o => Region.wanted o (yielded ops a.tmps)) = some false) (hS : S w)
    (h : wpAnyH P md ops Q S fuel (listed.setIfInBounds i true) (a.put d undef) w) : wpAnyH P md ops Q S (fuel + 1) listed a w := by
  obtain ⟨j, rfl, hi⟩ := nxd_dst _ _ _ _ _ hn
  unfold linB at hb
  simp only [Bool.and_eq_true] at hb
  rw [Nat.zero_add] at hb hw h
  exact lin_pass j d (by simpa using hi) hb.1 hb.2.1 hb.2.2 hQ hw hS h
end
end Go.Proofs.YtheogchkelmeeaaDoor

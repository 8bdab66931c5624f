/- A region that draws its order, its operations taken one by one: the moves. No condition. -/
import Derived.Test.YthafeaclpcjjbaaDoorBase
namespace Go.Proofs.YthafeaclpcjjbaaDoor
open Go.RowKit

section
variable {P : Program} {ops : Array Oper} {Q : Exit → Act → World → Prop} {md : Region.Mode} {S : World → Prop}
/-- Operation i is taken: it runs, and yields v in each world that meets S. -/
theorem lin_take (i : Nat) (d : Option Tmp) {v : Value} {fuel : Nat} {listed : Array Bool} {a : Act} {w : World} (hi : (ops[i]?.map Oper.dst) = some d)
    (hs : Region.noSelect ops = true) (hf : Region.free md ops listed i = true) (hr : (Region.ready md ops listed).contains i = true)
    (hQ : ∀ c a w, Q (.panic c) (a.put d v) w → Q (.panic c) a w) (hw : (ops[i]?.map fun o => Region.wanted o (yielded ops a.tmps)) = some true)
    (hv : ∀ w, S w → (ops[i]?.map fun o => (execOp a.eval o).run P w) = some (.ok (.value v) w)) (hS : S w)
    (h : wpAnyH P md ops Q S fuel (listed.setIfInBounds i true) (a.put d v) w) : wpAnyH P md ops Q S (fuel + 1) listed a w := by
  cases ho : ops[i]? with
  | none => rw [ho] at hi; cases hi
  | some o =>
    rw [ho] at hi hw
    cases hi
    refine wpAnyH_take ho hs hf hr hQ (.inl ⟨Option.some.inj hw, fun w hS => ?_⟩) hS h
    have := hv w hS
    rw [ho] at this
    exact Option.some.inj this
/-- Operation i is passed over: its guard says no. -/
theorem lin_pass (i : Nat) (d : Option Tmp) {fuel : Nat} {listed : Array Bool} {a : Act} {w : World} (hi : (ops[i]?.map Oper.dst) = some d)
    (hs : Region.noSelect ops = true) (hf : Region.free md ops listed i = true) (hr : (Region.ready md ops listed).contains i = true)
    (hQ : ∀ c a w, Q (.panic c) (a.put d undef) w → Q (.panic c) a w) (hw : (ops[i]?.map fun o => Region.wanted o (yielded ops a.tmps)) = some false) (hS : S w)
    (h : wpAnyH P md ops Q S fuel (listed.setIfInBounds i true) (a.put d undef) w) : wpAnyH P md ops Q S (fuel + 1) listed a w := by
  cases ho : ops[i]? with
  | none => rw [ho] at hi; cases hi
  | some o =>
    rw [ho] at hi hw
    cases hi
    exact wpAnyH_take ho hs hf hr hQ (.inr ⟨Option.some.inj hw, rfl⟩) hS h
end
end Go.Proofs.YthafeaclpcjjbaaDoor

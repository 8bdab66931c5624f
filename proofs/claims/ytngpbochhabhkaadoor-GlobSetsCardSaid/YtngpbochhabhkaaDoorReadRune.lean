/- How runes read as the laws' arguments. No condition. -/
import Derived.Test.YtngpbochhabhkaaDoorReadStr
namespace Go.Proofs.YtngpbochhabhkaaDoor
open Go.RowKit Go.ChangeShapes Go.WideShapes Go.Lib

section
variable {H : Type} {enc : TypeId × Value → H} {w : World} {base b0 : Nat} {spare : Nat → Bool} {held : Bool} {r : Reach} {v : Value} {d : DataW H} {p : List MemPlace}
theorem in_rune (hv : Value.okWide Tryd.prog w r b0 21 v) (_h : DataW.Trod enc Tryd.prog w base spare held 21 v d p) : ∃ n : Int, v = .int .i32 n ∧ n = n := by
  obtain ⟨n, rfl⟩ := okWide_int Tryd.underlying21 hv
  exact ⟨n, rfl, rfl⟩
end
end Go.Proofs.YtngpbochhabhkaaDoor

/- Texts as rows of bytes. No condition. -/
import Derived.Test.YthafeaclpcjjbaaDoorTabs
import Derived.Test.YthafeaclpcjjbaaDoorOwnBut
namespace Go.Proofs.YthafeaclpcjjbaaDoor
open Go.RowKit Go.Lib

def byteC (b : UInt8) : List Value := [.int .u8 b.toNat]
theorem byteC_len (b : UInt8) : (byteC b).length = 1 := rfl
theorem byte_elem : IsElem Tryd.prog 39 5 1 1 byteC :=
  isElem_of (z := .int .u8 0) Tryd.underlying39 (by kernel_rfl) rfl (by omega) byteC_len (by intro x u hu; simp [byteC] at hu; subst hu; rfl)
theorem Sl.byte {w : World} {B : Nat} {A : Option Addr} {xs : List UInt8} {k : Nat} {x : UInt8} (h : Sl byteC 1 w B A xs) (hx : xs[k]? = some x) :
    ∃ b o, A = some ⟨b, o, none⟩ ∧ b < B ∧ w.cell? ⟨b, o + k, none⟩ = some (.int .u8 x.toNat) := Sl.get1 (g := fun b : UInt8 => Value.int .u8 b.toNat) h hx
theorem conv_back {w : World} {B : Nat} {A : Option Addr} {c : Nat} {l : List UInt8} (hs : Sl byteC 1 w B A l) : (convert 39 9 (.slice A l.length c)).run Tryd.prog w = .ok (.string (strOf l)) w := by
  rcases A with _ | ⟨b, o, sp⟩
  · obtain rfl := hs.of_none
    rw [List.length_nil, run_convert_bytes_string w _ _ _ none 0 c Tryd.underlying39 Tryd.underlying5 Tryd.underlying9]
    rfl
  · refine run_convert_bytes_back w _ _ _ ⟨b, o, sp⟩ c l Tryd.underlying39 Tryd.underlying5 Tryd.underlying9 fun j hj => ?_
    obtain ⟨b', o', e, _, hc⟩ := hs.byte (List.getElem?_eq_getElem hj)
    cases e
    rw [Addr.add_lit]
    exact hc

end Go.Proofs.YthafeaclpcjjbaaDoor

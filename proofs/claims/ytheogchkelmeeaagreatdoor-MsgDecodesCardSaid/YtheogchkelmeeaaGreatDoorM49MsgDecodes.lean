/- Several texts in one: RefMDec, MsgMade. -/
import Derived.Test.YtheogchkelmeeaaGreatDoorRefMDecAQMsgDecodes
import Derived.Test.YtheogchkelmeeaaGreatDoorRefMDecBQMsgDecodes
import Derived.Test.YtheogchkelmeeaaGreatDoorMsgEncQMsgDecodes
/- penstockref10.Decode: what it answers. Conditions: at most 500000 bytes; what is a message bears lengths that fit; the decoder's tables lie as the library lays them. -/
namespace Go.Proofs.YtheogchkelmeeaaGreatDoor
open Go.RowKit
theorem refMDec_any (l : List UInt8) (A : Option Addr) (c8 : Nat) (w : World) (hsl : Sl byteC 1 w w.heap.size A l) (hl : l.length ≤ 500000) (hcap : l.length ≤ c8) (hT : Tabs w) (hF : ∀ p, decM l = some p → p.Fits) :
  Calls Tryz.prog 6 #[.slice A l.length c8] w (RetDoc w l):=by
 by_cases h9:∃q,l=9::q
 ·exact refMDec_9 l A c8 w hsl hl hcap hT hF h9
 ·exact refMDec_not9 l A c8 w hsl hl hcap hT hF fun q e=>h9 ⟨q,e⟩
end Go.Proofs.YtheogchkelmeeaaGreatDoor
/- penstocklaw10.made: a value of a message's own type, or of another one. No condition. -/
namespace Go.Proofs.YtheogchkelmeeaaGreatDoor
open Go.RowKit
end Go.Proofs.YtheogchkelmeeaaGreatDoor

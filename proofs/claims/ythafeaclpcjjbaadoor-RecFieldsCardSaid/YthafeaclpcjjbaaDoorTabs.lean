/- Texts as bytes; runes.Valid: what it answers. Conditions: the length fits an int; the decoder's tables lie as the library lays them. -/
import Derived.Test.YthafeaclpcjjbaaDoorRange
import Derived.Test.YthafeaclpcjjbaaDoorShelf
import Derived.Laws.IdiomStrings
namespace Go.Proofs.YthafeaclpcjjbaaDoor
open Go.RowKit Go.Lib

/-- The decoder's two tables lie as the library lays them. -/
def Tabs (w : World) : Prop := Lib.Utf8Tabs 0 1 w
theorem Tabs.g {w w' : World} (h : Tabs w) (hg : G w w') : Tabs w' := Utf8Tabs_below h hg
/-- The text of some bytes. -/
def strOf (l : List UInt8) : ByteArray := ⟨l.toArray⟩
theorem strOf_list (l : List UInt8) : (strOf l).data.toList = l := by simp [strOf]
theorem strOf_self (s : ByteArray) : strOf s.data.toList = s := by cases s; simp [strOf]
theorem strOf_size (l : List UInt8) : (strOf l).size = l.length := by simp [strOf, ByteArray.size]
set_option maxHeartbeats 400000 in
theorem valid_any (s : ByteArray) (w : World) (hs : s.size ≤ 9223372036854775807) (hT : Tabs w) :
    Calls Tryd.prog 87 #[.string s] w fun e w' => e = .returned (.bool (validB s)) ∧ G w w' := by
  have hv := Tryd.utf8_ValidString s w hs hT
  rw [validB_eq] at hv
  go_enter Tryd.func87, Tryd.ntmps87
  go_wp2_with fail
  refine hv.mono ?_
  rintro e w1 ⟨rfl, hg⟩
  go_wp2_with fail
  go_ret
  exact ⟨rfl, hg⟩
theorem run_byte (w : World) (s : ByteArray) (p : Nat) (b : UInt8) (h : s.data.toList[p]? = some b) : (Instr.index 9 (.string s) (.int .i64 p)).run Tryd.prog w = .ok (.int .u8 b.toNat) w := by
  obtain ⟨h1, h2⟩ := List.getElem?_eq_some_iff.1 h
  have h3 : p < s.size := by simpa using h1
  rw [run_index_string _ _ _ _ _ Tryd.underlying9, dif_pos (by constructor <;> omega)]
  rw [← h2]
  rfl
end Go.Proofs.YthafeaclpcjjbaaDoor

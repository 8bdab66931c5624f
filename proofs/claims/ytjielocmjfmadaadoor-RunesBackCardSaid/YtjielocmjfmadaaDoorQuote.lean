/- runes.Valid, runes.control, runes.wrong, runes.Quote: what they answer. Conditions: a length of at most 2^32; the decoder's tables lie as the library lays them. -/
import Derived.Test.YtjielocmjfmadaaDoorCount
import Derived.Test.YtjielocmjfmadaaDoorOwnBut
import Derived.Test.YtjielocmjfmadaaDoorShelf
import Derived.Laws.IdiomStrings
namespace Go.Proofs.YtjielocmjfmadaaDoor
open Go.RowKit Go.Lib

/-- The decoder's two tables lie as the library lays them. -/
def Tabs (w : World) : Prop := Lib.Utf8Tabs 0 1 w
theorem Tabs.g {w w' : World} (h : Tabs w) (hg : G w w') : Tabs w' := Utf8Tabs_below h hg
def byteC (b : UInt8) : List Value := [.int .u8 b.toNat]
theorem byteC_len (b : UInt8) : (byteC b).length = 1 := rfl
theorem byte_elem : IsElem Tryd.prog 39 5 1 1 byteC :=
  isElem_of (z := .int .u8 0) Tryd.underlying39 (by kernel_rfl) rfl (by omega) byteC_len (by intro x u hu; simp [byteC] at hu; subst hu; rfl)
theorem Sl.byte {w : World} {B : Nat} {A : Option Addr} {xs : List UInt8} {k : Nat} {x : UInt8} (h : Sl byteC 1 w B A xs) (hx : xs[k]? = some x) :
    ∃ b o, A = some ⟨b, o, none⟩ ∧ b < B ∧ w.cell? ⟨b, o + k, none⟩ = some (.int .u8 x.toNat) := Sl.get1 (g := fun b : UInt8 => Value.int .u8 b.toNat) h hx
/-- The text of some bytes. -/
def strOf (l : List UInt8) : ByteArray := ⟨l.toArray⟩
theorem strOf_list (l : List UInt8) : (strOf l).data.toList = l := by simp [strOf]
theorem strOf_self (s : ByteArray) : strOf s.data.toList = s := by cases s; simp [strOf]
theorem strOf_size (l : List UInt8) : (strOf l).size = l.length := by simp [strOf, ByteArray.size]
theorem conv_back {w : World} {B : Nat} {A : Option Addr} {c : Nat} {l : List UInt8} (hs : Sl byteC 1 w B A l) : (convert 39 9 (.slice A l.length c)).run Tryd.prog w = .ok (.string (strOf l)) w := by
  rcases A with _ | ⟨b, o, sp⟩
  · obtain rfl := hs.of_none
    rw [List.length_nil, run_convert_bytes_string w _ _ _ none 0 c Tryd.underlying39 Tryd.underlying5 Tryd.underlying9]
    rfl
  · refine run_convert_bytes_back w _ _ _ ⟨b, o, sp⟩ c l Tryd.underlying39 Tryd.underlying5 Tryd.underlying9 fun j hj => ?_
    obtain ⟨b', o', e, _, hc⟩ := hs.byte (List.getElem?_eq_getElem hj)
    cases e
    rw [Addr.add_lit]
    exact hc

set_option maxHeartbeats 400000 in
theorem valid_any (s : ByteArray) (w : World) (hs : s.size ≤ 9223372036854775807) (hT : Tabs w) :
    Calls Tryd.prog 15 #[.string s] w fun e w' => e = .returned (.bool (validB s)) ∧ G w w' := by
  have hv := Tryd.utf8_ValidString s w hs hT
  rw [validB_eq] at hv
  go_enter Tryd.func15, Tryd.ntmps15
  go_wp2_with fail
  refine hv.mono ?_
  rintro e w1 ⟨rfl, hg⟩
  go_wp2_with fail
  go_ret
  exact ⟨rfl, hg⟩
/-- A rune that is not shown. -/
def ctl (r : Int) : Bool := decide (r < 32) || decide (r = 127)
set_option maxHeartbeats 400000 in
theorem control_any (r : Int) (w : World) : Calls Tryd.prog 35 #[.int .i32 r] w fun e w' => e = .returned (.bool (ctl r)) ∧ w = w' := by
  by_cases h1 : r < 32
  · go_enter Tryd.func35, Tryd.ntmps35
    go_wp2
    go_ret
    exact ⟨ret_bool (by simp [ctl, h1]), rfl⟩
  · by_cases h2 : r = 127
    · subst h2
      go_enter Tryd.func35, Tryd.ntmps35
      go_wp2
      go_ret
      exact ⟨rfl, rfl⟩
    · have h3 : (r == 127) = false := by rw [beq_eq_false_iff_ne]; exact h2
      replace h2 := Lib.hid h2
      go_enter Tryd.func35, Tryd.ntmps35
      go_wp2
      go_ret
      exact ⟨ret_bool (by simp [ctl, h1, h2.out]), rfl⟩
theorem bad_width {s : ByteArray} {k : Nat} {c : Ck} (hc : (cks s.data.toList)[k]? = some c) : (Lib.decodeGo (s.extract (off s.data.toList k) s.size)).2 = c.bs.length := by
  obtain ⟨h1, h2, h3⟩ := decode_off hc
  have h4 := off_succ hc
  have h5 : ¬ (s.extract (off s.data.toList k) s.size).size = 0 := by rw [Lib.ext_size]; omega
  unfold Lib.decodeGo
  rw [if_neg h5]
  have e : Utf8.decode (s.extract (off s.data.toList k) s.size) 0 = Utf8.decode s (off s.data.toList k) := by
    rw [← decodeL_drop, ← decodeL_drop, Lib.ext_list, List.drop_zero]
  rw [e]
  omega
set_option maxHeartbeats 400000 in
theorem wrong_any (s : ByteArray) (k : Nat) (c : Ck) (w : World) (hs : s.size ≤ 9223372036854775807) (hT : Tabs w) (hc : (cks s.data.toList)[k]? = some c) :
    Calls Tryd.prog 36 #[.string s, .int .i64 (off s.data.toList k), .int .i32 c.r] w fun e w' => e = .returned (.bool c.bad) ∧ G w w' := by
  obtain ⟨r0, hr0⟩ : ∃ r : Nat, c.r = r := ⟨_, rfl⟩
  have hbad : c.bad = (decide (r0 = 65533) && decide (c.bs.length = 1)) := by
    unfold Ck.bad
    rw [hr0, Bool.decide_and]
  rw [hr0, hbad]
  clear hbad hr0
  by_cases h1 : r0 = 65533
  · subst h1
    obtain ⟨p, hp⟩ : ∃ p, off s.data.toList k = p := ⟨_, rfl⟩
    have h3 : p < s.size := by rw [← hp]; exact (decode_off hc).2.2
    have hw := bad_width hc
    have hd := Tryd.utf8_DecodeRuneInString (s.extract p s.size) w hT
    rw [hp] at hw ⊢
    rw [hw] at hd
    generalize (Lib.decodeGo (s.extract p s.size)).1 = X at hd
    clear hw hc hp
    have n1 : (0 : Int) ≤ ↑p := by omega
    have n2 : (p : Int) ≤ ↑s.size := by omega
    go_enter Tryd.func36, Tryd.ntmps36
    go_wp2_with fail
    refine hd.mono ?_
    rintro e w1 ⟨rfl, hg⟩
    go_wp2_with fail
    go_ret
    refine ⟨ret_bool ?_, hg⟩
    rw [decide_true, Bool.true_and, Bool.eq_iff_iff]
    simp
    omega
  · have h2 : ((r0 : Int) != 65533) = true := by rw [bne_iff_ne]; omega
    rw [decide_eq_false h1, Bool.false_and]
    replace h1 := Lib.hid h1
    go_enter Tryd.func36, Tryd.ntmps36
    go_wp2
    go_ret
    exact ⟨rfl, G.refl _⟩
end Go.Proofs.YtjielocmjfmadaaDoor

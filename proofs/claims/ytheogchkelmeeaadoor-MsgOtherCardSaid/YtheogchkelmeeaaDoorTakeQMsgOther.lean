/- bits.Take, penstockref3.Take: what they answer. Condition: a length that fits an int. -/
import Derived.Test.YtheogchkelmeeaaDoorUnvarintQMsgOther
import Derived.Test.YtheogchkelmeeaaDoorM7MsgOther
namespace Go.Proofs.YtheogchkelmeeaaDoor
open Go.RowKit

/-- What Take answers. -/
def tT : Option (List UInt8 × Nat) → Value
  | some (s, n) => .tuple #[.string (strOf s), .int .i64 n]
  | none => .tuple #[.string ByteArray.empty, .int .i64 0]
theorem Sl.piece {w : World} {B b o : Nat} {l : List UInt8} (h : Sl byteC 1 w B (some ⟨b, o, none⟩) l) (n v : Nat) : Sl byteC 1 w B (some ⟨b, o + n, none⟩) ((l.drop n).take v) := fun hne => by
  obtain ⟨b', o', e, hb, hc⟩ := h (by rintro rfl; simp at hne)
  cases e
  refine ⟨b, o + n, rfl, hb, fun k x hx j u hu => ?_⟩
  have hk : k < ((l.drop n).take v).length := (List.getElem?_eq_some_iff.1 hx).1
  rw [List.getElem?_take_of_lt (by simp at hk; omega), List.getElem?_drop] at hx
  have := hc (n + k) x hx j u hu
  rw [show o + n + k * 1 + j = o + (n + k) * 1 + j by omega]
  exact this
set_option maxRecDepth 100000 in
set_option maxHeartbeats 1000000 in
theorem take_any (l : List UInt8) (A : Option Addr) (c : Nat) (w : World) (hs : Sl byteC 1 w w.heap.size A l) (hl : l.length ≤ 9223372036854775807) (hcap : l.length ≤ c) :
    Calls Tryd.prog 121 #[.slice A l.length c] w fun e w' => e = .returned (tT (tL l)) ∧ w = w' := by
  have hu := unvarint_any l A c w hs hl
  go_enter Tryd.func121, Tryd.ntmps121
  go_wp2_with fail
  refine hu.mono ?_
  rintro e w1 ⟨rfl, rfl⟩
  rcases h : uL l with _ | ⟨v, n⟩
  · have ht : tT (tL l) = .tuple #[.string ByteArray.empty, .int .i64 0] := by unfold tL; rw [h]; rfl
    replace ht := Lib.hid ht
    unfold uT
    go_wp2_with fail
    go_ret2
    exact ⟨by rw [ht.out]; rfl, rfl⟩
  · unfold uT
    obtain ⟨b0, b1, b2⟩ : 0 < n ∧ n ≤ l.length ∧ v < 18446744073709551616 := by
      obtain ⟨h1, h2, _, h3⟩ := uL_bd h
      exact ⟨h1, h2, h3⟩
    have e1 : ((n : Int) == 0) = false := by rw [beq_eq_false_iff_ne]; omega
    have e2 : IntKind.u64.wrap ((l.length : Int) - n) = ((l.length - n : Nat) : Int) := by
      rw [show ((l.length : Int) - n) = ((l.length - n : Nat) : Int) by omega, wrap_u64, Nat.mod_eq_of_lt (by omega)]
    have e3 : IntKind.i64.wrap ((l.length : Int) - n) = (l.length : Int) - n := by
      have g1 : (0 : Int) ≤ (l.length : Int) - n := by omega
      have g2 : (l.length : Int) - n ≤ 9223372036854775807 := by omega
      exact IntWalk.i64_in _ (by omega)
    by_cases hv : v ≤ l.length - n
    · have e4 : ¬ ((l.length - n : Nat) : Int) < (v : Int) := by omega
      obtain ⟨x, hx⟩ : ∃ x, l[0]? = some x := ⟨_, List.getElem?_eq_getElem (show 0 < l.length by omega)⟩
      obtain ⟨b, o, rfl, hb, hc⟩ := hs.byte hx
      have e5 : (0 : Int) ≤ (n : Int) := by omega
      have e6 : (n : Int) ≤ (n : Int) + (v : Int) := by omega
      have e7 : (n : Int) + (v : Int) ≤ (c : Int) := by omega
      have e8 : (n : Int) + (v : Int) ≤ (l.length : Int) := by omega
      have hlen : ((l.drop n).take v).length = v := by rw [List.length_take, List.length_drop]; omega
      have hsome : tT (tL l) = .tuple #[.string (strOf ((l.drop n).take v)), .int .i64 ((n : Int) + v)] := by unfold tL; rw [h]; simp only []; rw [if_pos hv]; unfold tT; simp
      replace hsome := Lib.hid hsome
      by_cases hcn : c = n
      · have hv0 : v = 0 := by omega
        have hcv := conv_back (w := w) (B := w.heap.size) (A := some ⟨b, o, none⟩) (c := 0) (l := (l.drop n).take v) (by rw [hv0]; exact Sl.nil)
        rw [hlen] at hcv
        replace hv0 := Lib.hid hv0
        go_wp2_with fail
        go_ret2
        exact ⟨by rw [hsome.out]; rfl, rfl⟩
      · have hcv := conv_back (c := c - n) (hs.piece n v)
        rw [hlen] at hcv
        go_wp2_with fail
        go_ret2
        exact ⟨by rw [hsome.out]; rfl, rfl⟩
    · have e4 : ((l.length - n : Nat) : Int) < (v : Int) := by omega
      have ht : tT (tL l) = .tuple #[.string ByteArray.empty, .int .i64 0] := by unfold tL; rw [h]; simp only []; rw [if_neg hv]; rfl
      replace ht := Lib.hid ht
      go_wp2_with fail
      go_ret2
      exact ⟨by rw [ht.out]; rfl, rfl⟩
end Go.Proofs.YtheogchkelmeeaaDoor

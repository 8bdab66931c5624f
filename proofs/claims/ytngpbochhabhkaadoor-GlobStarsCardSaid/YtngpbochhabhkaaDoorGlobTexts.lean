/- Texts as patterns; penstocklaw2.plain. Condition: a length that fits an int. -/
import Derived.Test.YtngpbochhabhkaaDoorGlobAw
import Derived.Test.YtngpbochhabhkaaDoorCkLaw
import Derived.Test.YtngpbochhabhkaaDoorRefAll
namespace Go.Proofs.YtngpbochhabhkaaDoor
open Go.RowKit

/-- A byte that is a sign of patterns. -/
def signB (c : UInt8) : Bool := decide (c.toNat = 42) || (decide (c.toNat = 63) || (decide (c.toNat = 91) || decide (c.toNat = 92)))
def plainB (s : ByteArray) : Bool := s.data.toList.all fun c => !signB c
theorem plain_runes {s : ByteArray} (h : plainB s = true) : ∀ c ∈ runesL s, c ≠ 42 ∧ c ≠ 63 ∧ c ≠ 91 ∧ c ≠ 92 := by
  intro r hr
  obtain ⟨c, hc, rfl⟩ := List.mem_map.1 hr
  have hok := cks_ok _ c hc
  have hmem : ∀ b ∈ c.bs, b ∈ s.data.toList := by
    intro b hb
    rw [← flat_cks s.data.toList]
    exact List.mem_flatMap.2 ⟨c, hc, hb⟩
  have key : ∀ n, c.r = n → n < 128 → signB (UInt8.ofNat n) = false := by
    intro n hn hlt
    have h1 := hok.small (by omega)
    rw [hn] at h1
    unfold plainB at h
    rw [List.all_eq_true] at h
    have := h (UInt8.ofNat n) (hmem _ (by rw [h1]; simp))
    simpa using this
  refine ⟨fun h => ?_, fun h => ?_, fun h => ?_, fun h => ?_⟩
  all_goals
    have := key _ h (by omega)
    revert this
    decide
theorem parse_plain {s : ByteArray} (h : plainB s = true) : parseL (runesL s) = ((runesL s).map lit, false) := parse_lits _ (plain_runes h)
theorem goodS {s : ByteArray} (h : validB s = true) : goodL s.data.toList := (goodL_iff s).1 h
/-- Two texts that are UTF-8 have the same runes where they are the same. -/
theorem text_inj {s t : ByteArray} (hs : validB s = true) (ht : validB t = true) (h : runesL s = runesL t) : s = t := by
  have := runes_inj (goodS hs) (goodS ht) h
  rw [← strOf_self s, this, strOf_self]
theorem toList_ne {a b : ByteArray} (h : a ≠ b) : (a.toList == b.toList) = false := by
  rw [beq_eq_false_iff_ne, ByteArray.toList_eq, ByteArray.toList_eq]
  intro e
  exact h (by rw [← strOf_self a, e, strOf_self])
theorem toList_same (a : ByteArray) : (a.toList == a.toList) = true := by simp
set_option maxHeartbeats 1000000 in
theorem plain_any (s : ByteArray) (w : World) (hs : s.size ≤ 9223372036854775807) :
    Calls Tryd.prog 10 #[.string s] w fun e w' => e = .returned (.bool (plainB s)) ∧ w = w' := by
  have hsl : s.data.toList.length = s.size := by simp
  replace hsl := Lib.hid hsl
  go_enter Tryd.func10, Tryd.ntmps10
  go_wp2_with fail
  go_loop [3] (fun i => ∃ k : Nat, k ≤ s.size ∧ i = .int .i64 k ∧ Hid (∀ (j : Nat) (c : UInt8), j < k → s.data.toList[j]? = some c → signB c = false)) (fun i => s.size - (intOf i).toNat)
  case atStart => exact ⟨0, Nat.zero_le _, rfl, by intro j c h; omega⟩
  case round =>
    obtain ⟨k, hk, rfl, hh⟩ := hrel
    by_cases hlt : k < s.size
    · obtain ⟨x, hx⟩ : ∃ x, s.data.toList[k]? = some x := ⟨_, List.getElem?_eq_getElem (by rw [hsl.out]; exact hlt)⟩
      have hby := fun w' => run_byte w' s k x hx
      have hno : signB x = true → plainB s = false := fun h => by
        unfold plainB
        rw [List.all_eq_false]
        exact ⟨x, List.mem_of_getElem? hx, by rw [h]; simp⟩
      have hyes : signB x = false → _ := fun h => all_less (p := fun c => signB c = false) hh.out hx h
      have hsb : signB x = (decide (x.toNat = 42) || (decide (x.toNat = 63) || (decide (x.toNat = 91) || decide (x.toNat = 92)))) := rfl
      replace hno := Lib.hid hno
      replace hyes := Lib.hid hyes
      clear hx
      by_cases h1 : x.toNat = 42
      · have hf := hno.out (by rw [hsb, decide_eq_true h1]; rfl)
        rw [h1] at hby
        replace hf := Lib.hid hf
        clear hsb
        go_wp2_with fail
        go_ret
        exact ⟨by rw [hf.out]; rfl, rfl⟩
      have t1 : ((x.toNat : Int) == 42) = false := by rw [beq_eq_false_iff_ne]; omega
      by_cases h2 : x.toNat = 63
      · have hf := hno.out (by rw [hsb, decide_eq_true h2, Bool.true_or, Bool.or_true])
        rw [h2] at hby
        replace hf := Lib.hid hf
        clear hsb t1
        go_wp2_with fail
        go_ret
        exact ⟨by rw [hf.out]; rfl, rfl⟩
      have t2 : ((x.toNat : Int) == 63) = false := by rw [beq_eq_false_iff_ne]; omega
      by_cases h3 : x.toNat = 91
      · have hf := hno.out (by rw [hsb, decide_eq_true h3]; simp)
        rw [h3] at hby
        replace hf := Lib.hid hf
        clear hsb t1 t2
        go_wp2_with fail
        go_ret
        exact ⟨by rw [hf.out]; rfl, rfl⟩
      have t3 : ((x.toNat : Int) == 91) = false := by rw [beq_eq_false_iff_ne]; omega
      by_cases h4 : x.toNat = 92
      · have hf := hno.out (by rw [hsb, decide_eq_true h4]; simp)
        rw [h4] at hby
        replace hf := Lib.hid hf
        clear hsb t1 t2 t3
        go_wp2_with fail
        go_ret
        exact ⟨by rw [hf.out]; rfl, rfl⟩
      have t4 : ((x.toNat : Int) == 92) = false := by rw [beq_eq_false_iff_ne]; omega
      have hh2 := hyes.out (by rw [hsb, decide_eq_false h1, decide_eq_false h2, decide_eq_false h3, decide_eq_false h4]; rfl)
      replace hh2 := Lib.hid hh2
      clear hsb h1 h2 h3 h4
      go_wp2_with fail
      go_round
      case rel => exact ⟨k + 1, by omega, by go_num, hh2⟩
      case measure => (simp [intOf] <;> omega)
    · have hf : plainB s = true := by
        unfold plainB
        rw [List.all_eq_true]
        intro c hc
        obtain ⟨j, hj⟩ := List.getElem?_of_mem hc
        rw [hh.out j c (by have := (List.getElem?_eq_some_iff.1 hj).1; rw [hsl.out] at this; omega) hj]
        rfl
      replace hf := Lib.hid hf
      go_wp2_with fail
      go_ret
      exact ⟨by rw [hf.out]; rfl, rfl⟩
theorem match_bad {p s : ByteArray} (h : validB s = false) : matchB p s = false := by unfold matchB; rw [h, Bool.and_false]; rfl
theorem patOk_parts {p : ByteArray} (h : patOk p = true) : validB p = true ∧ (cks p.data.toList).length ≤ 40 ∧ (parseL (runesL p)).2 = false := by
  unfold patOk at h
  rw [Bool.and_eq_true, Bool.and_eq_true] at h
  have h1 := of_decide_eq_true h.1.2
  exact ⟨h.1.1, by omega, by simpa using h.2⟩
/-- A plain text takes itself alone. -/
theorem match_plain {s t : ByteArray} (hp : plainB s = true) (ho : patOk s = true) (hv : validB t = true) : matchB s t = decide (s = t) := by
  obtain ⟨h1, h2, _⟩ := patOk_parts ho
  rw [matchB_of t h1 h2 (parse_plain hp), hv, Bool.true_and]
  by_cases h : s = t
  · subst h
    rw [decide_eq_true rfl]
    exact matchL_t ((Mt.lits _ _).2 rfl)
  · rw [decide_eq_false h]
    exact matchL_f fun hm => h (text_inj h1 hv ((Mt.lits _ _).1 hm).symm)
def st1 : ByteArray := ⟨#[42]⟩
def st2 : ByteArray := ⟨#[42, 42]⟩
theorem match_st1 {t : ByteArray} (hv : validB t = true) : matchB st1 t = true := by
  rw [matchB_of t (by decide +kernel) (by decide +kernel) (show parseL (runesL st1) = ([star], false) by kernel_rfl), hv, Bool.true_and]
  exact matchL_t (Mt.star _)
theorem match_st2 {t : ByteArray} (hv : validB t = true) : matchB st2 t = true := by
  rw [matchB_of t (by decide +kernel) (by decide +kernel) (show parseL (runesL st2) = ([star, star], false) by kernel_rfl), hv, Bool.true_and]
  exact matchL_t (.any _ _ [] _ rfl (Mt.star _))
end Go.Proofs.YtngpbochhabhkaaDoor

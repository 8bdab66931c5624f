/- runes.named, runes.every, runes.Name, runes.Key: what they answer. Conditions: the length fits an int; the decoder's tables lie as the library lays them. -/
import Derived.Test.YtheogchkelmeeaaDoorM6MsgFirst
namespace Go.Proofs.YtheogchkelmeeaaDoor
open Go.RowKit

/-- May a rune stand in a name? -/
def namedB (r : Int) : Bool := decide (r = 45 ∨ r = 95 ∨ r = 46 ∨ r = 47 ∨ (97 ≤ r ∧ r ≤ 122) ∨ (65 ≤ r ∧ r ≤ 90) ∨ (48 ≤ r ∧ r ≤ 57) ∨ 161 ≤ r)
theorem namedB_t {r : Int} (h : r = 45 ∨ r = 95 ∨ r = 46 ∨ r = 47 ∨ (97 ≤ r ∧ r ≤ 122) ∨ (65 ≤ r ∧ r ≤ 90) ∨ (48 ≤ r ∧ r ≤ 57) ∨ 161 ≤ r) : true = namedB r := (decide_eq_true h).symm
theorem namedB_f {r : Int} (h : ¬ (r = 45 ∨ r = 95 ∨ r = 46 ∨ r = 47 ∨ (97 ≤ r ∧ r ≤ 122) ∨ (65 ≤ r ∧ r ≤ 90) ∨ (48 ≤ r ∧ r ≤ 57) ∨ 161 ≤ r)) : false = namedB r := (decide_eq_false h).symm
set_option maxHeartbeats 1000000 in
theorem named_any (r : Int) (w : World) : Calls Tryd.prog 119 #[.int .i32 r] w fun e w' => e = .returned (.bool (namedB r)) ∧ w = w' := by
  by_cases h1 : r = 45
  · subst h1
    go_enter Tryd.func119, Tryd.ntmps119
    go_wp2
    go_ret
    exact ⟨rfl, rfl⟩
  by_cases h2 : r = 95
  · subst h2
    go_enter Tryd.func119, Tryd.ntmps119
    go_wp2
    go_ret
    exact ⟨rfl, rfl⟩
  by_cases h3 : r = 46
  · subst h3
    go_enter Tryd.func119, Tryd.ntmps119
    go_wp2
    go_ret
    exact ⟨rfl, rfl⟩
  by_cases h4 : r = 47
  · subst h4
    go_enter Tryd.func119, Tryd.ntmps119
    go_wp2
    go_ret
    exact ⟨rfl, rfl⟩
  have b1 : (r == 45) = false := by rw [beq_eq_false_iff_ne]; exact h1
  have b2 : (r == 95) = false := by rw [beq_eq_false_iff_ne]; exact h2
  have b3 : (r == 46) = false := by rw [beq_eq_false_iff_ne]; exact h3
  have b4 : (r == 47) = false := by rw [beq_eq_false_iff_ne]; exact h4
  have hR : ∀ b, (b = true ↔ ((97 ≤ r ∧ r ≤ 122) ∨ (65 ≤ r ∧ r ≤ 90) ∨ (48 ≤ r ∧ r ≤ 57) ∨ 161 ≤ r)) → b = namedB r := fun b h => by
    rw [Bool.eq_iff_iff, h]
    unfold namedB
    rw [decide_eq_true_iff]
    omega
  replace hR := Lib.hid hR
  clear h1 h2 h3 h4
  by_cases t1 : 97 ≤ r
  · by_cases t2 : r ≤ 122
    · go_enter Tryd.func119, Tryd.ntmps119
      go_wp2
      go_ret
      exact ⟨ret_bool (hR.out true (by simp; omega)), rfl⟩
    · have t3 : 65 ≤ r := by omega
      have t4 : ¬ r ≤ 90 := by omega
      have t5 : 48 ≤ r := by omega
      have t6 : ¬ r ≤ 57 := by omega
      by_cases t7 : 161 ≤ r
      · go_enter Tryd.func119, Tryd.ntmps119
        go_wp2
        go_ret
        exact ⟨ret_bool (hR.out true (by simp; omega)), rfl⟩
      · go_enter Tryd.func119, Tryd.ntmps119
        go_wp2
        go_ret
        exact ⟨ret_bool (hR.out false (by simp; omega)), rfl⟩
  · have t7 : ¬ 161 ≤ r := by omega
    by_cases t3 : 65 ≤ r
    · by_cases t4 : r ≤ 90
      · go_enter Tryd.func119, Tryd.ntmps119
        go_wp2
        go_ret
        exact ⟨ret_bool (hR.out true (by simp; omega)), rfl⟩
      · have t5 : 48 ≤ r := by omega
        have t6 : ¬ r ≤ 57 := by omega
        go_enter Tryd.func119, Tryd.ntmps119
        go_wp2
        go_ret
        exact ⟨ret_bool (hR.out false (by simp; omega)), rfl⟩
    · by_cases t5 : 48 ≤ r
      · by_cases t6 : r ≤ 57
        · go_enter Tryd.func119, Tryd.ntmps119
          go_wp2
          go_ret
          exact ⟨ret_bool (hR.out true (by simp; omega)), rfl⟩
        · go_enter Tryd.func119, Tryd.ntmps119
          go_wp2
          go_ret
          exact ⟨ret_bool (hR.out false (by simp; omega)), rfl⟩
      · go_enter Tryd.func119, Tryd.ntmps119
        go_wp2
        go_ret
        exact ⟨ret_bool (hR.out false (by simp; omega)), rfl⟩
/-- A rune that is shown. -/
def showB (r : Int) : Bool := !ctl r
set_option maxHeartbeats 400000 in
theorem keyFn_any (r : Int) (w : World) : Calls Tryd.prog 126 #[.int .i32 r] w fun e w' => e = .returned (.bool (showB r)) ∧ w = w' := by
  go_enter Tryd.func126, Tryd.ntmps126
  go_wp2_with fail
  refine (control_any r w).mono ?_
  rintro e w1 ⟨rfl, rfl⟩
  go_wp2_with fail
  go_ret
  exact ⟨rfl, rfl⟩
/-- Has a text some number of runes at most, does something hold of all of them, and is it UTF-8? -/
def everyB (most : Int) (p : Int → Bool) (s : ByteArray) : Bool := decide (((cks s.data.toList).length : Int) ≤ most) && ((cks s.data.toList).all fun c => p c.r) && validB s
theorem everyB_long {most : Int} {p : Int → Bool} {s : ByteArray} {k : Nat} (h : k < (cks s.data.toList).length) (hm : most < k + 1) : everyB most p s = false := by
  unfold everyB
  rw [decide_eq_false (by omega)]; rfl
theorem everyB_not {most : Int} {p : Int → Bool} {s : ByteArray} {k : Nat} {c : Ck} (h : (cks s.data.toList)[k]? = some c) (hp : p c.r = false) : everyB most p s = false := by
  unfold everyB
  have : ((cks s.data.toList).all fun c => p c.r) = false := by
    rw [List.all_eq_false]
    exact ⟨c, List.mem_of_getElem? h, by rw [hp]; simp⟩
  rw [this, Bool.and_false]; rfl
theorem everyB_end {most : Int} {p : Int → Bool} {s : ByteArray} (hm : ((cks s.data.toList).length : Int) ≤ most) (h : ∀ (j : Nat) (c : Ck), (cks s.data.toList)[j]? = some c → p c.r = true) : everyB most p s = validB s := by
  unfold everyB
  have : ((cks s.data.toList).all fun c => p c.r) = true := by
    rw [List.all_eq_true]
    intro c hc
    obtain ⟨j, hj⟩ := List.getElem?_of_mem hc
    exact h j c hj
  rw [this, decide_eq_true hm]; rfl

set_option maxHeartbeats 1000000 in
theorem everyNamed_any (s : ByteArray) (most : Int) (w : World) (hs : s.size ≤ 9223372036854775806) (hT : Tabs w) (hm0 : 0 ≤ most) :
    Calls Tryd.prog 118 #[.string s, .int .i64 most, .func (.func 119) #[] #[]] w fun e w' => e = .returned (.bool (everyB most namedB s)) ∧ G w w' := by
  have hl : (cks s.data.toList).length ≤ 9223372036854775806 := Nat.le_trans (cks_length_le _) (by simpa using hs)
  replace hT := Lib.hid hT
  go_enter Tryd.func118, Tryd.ntmps118
  go_wp2_with fail
  go_loopw [7] (fun n wr => ∃ k : Nat, k ≤ (cks s.data.toList).length ∧ n = .int .i64 k ∧ (k : Int) ≤ most ∧ Hid (IterAt wr w.heap.size s k) ∧ Hid (∀ j c, j < k → (cks s.data.toList)[j]? = some c → namedB c.r = true) ∧ G w wr) (fun n _ => (cks s.data.toList).length - (intOf n).toNat)
  case atStart => exact ⟨0, Nat.zero_le _, rfl, hm0, IterAt.start w s, by intro j c h; omega, G.iter _ _ _⟩
  case round =>
    obtain ⟨k, hk, rfl, hkm, hit, hall, hg⟩ := hrel
    by_cases hlt : k < (cks s.data.toList).length
    · obtain ⟨c, hc⟩ := piece_at hlt
      obtain ⟨w1, hnx, hit1, hbt, hsz⟩ := run_next_piece (P := Tryd.prog) hit.out hc
      have hg1 := hg.next hbt (Nat.le_refl _)
      replace hit1 := Lib.hid hit1
      clear hsz hit hbt
      by_cases hmo : most < (k : Int) + 1
      · have hf : everyB most namedB s = false := everyB_long hlt hmo
        replace hf := Lib.hid hf
        clear hc
        go_wp2_with fail
        go_ret
        exact ⟨by rw [hf.out]; rfl, hg1⟩
      · have hmo2 : (k : Int) + 1 ≤ most := by omega
        have hna := named_any c.r w1
        cases hp : namedB c.r with
        | false =>
          have hf : everyB most namedB s = false := everyB_not hc hp
          rw [hp] at hna
          replace hf := Lib.hid hf
          replace hp := Lib.hid hp
          clear hc
          go_wp2_with fail
          refine hna.mono ?_
          rintro e w2 ⟨rfl, rfl⟩
          go_wp2_with fail
          go_ret
          exact ⟨by rw [hf.out]; rfl, hg1⟩
        | true =>
          have hall2 : ∀ j c, j < k + 1 → (cks s.data.toList)[j]? = some c → namedB c.r = true := fun j c' hj h => by
            rcases Nat.lt_or_ge j k with h1 | h1
            · exact hall.out j c' h1 h
            · obtain rfl : j = k := by omega
              rw [hc] at h
              cases h
              exact hp
          rw [hp] at hna
          replace hall2 := Lib.hid hall2
          replace hp := Lib.hid hp
          clear hc
          go_wp2_with fail
          refine hna.mono ?_
          rintro e w2 ⟨rfl, rfl⟩
          go_wp2_with fail
          go_roundw
          case rel => exact ⟨k + 1, by omega, by go_num, by omega, hit1, hall2, hg1⟩
          case measure => (simp [intOf] <;> omega)
    · have hnx := fun ty => run_next_over (P := Tryd.prog) ty hit.out (by omega)
      have hf : everyB most namedB s = validB s := everyB_end (by omega) fun j c h => hall.out j c (by have := (List.getElem?_eq_some_iff.1 h).1; omega) h
      have hv := valid_any s wr (by omega) (hT.out.g hg)
      replace hf := Lib.hid hf
      go_wp2_with fail
      refine hv.mono ?_
      rintro e w2 ⟨rfl, hg2⟩
      go_wp2_with fail
      go_ret
      exact ⟨by rw [hf.out]; rfl, hg.trans hg2⟩

set_option maxHeartbeats 1000000 in
theorem everyKey_any (s : ByteArray) (most : Int) (w : World) (hs : s.size ≤ 9223372036854775806) (hT : Tabs w) (hm0 : 0 ≤ most) :
    Calls Tryd.prog 118 #[.string s, .int .i64 most, .func (.func 126) #[] #[]] w fun e w' => e = .returned (.bool (everyB most showB s)) ∧ G w w' := by
  have hl : (cks s.data.toList).length ≤ 9223372036854775806 := Nat.le_trans (cks_length_le _) (by simpa using hs)
  replace hT := Lib.hid hT
  go_enter Tryd.func118, Tryd.ntmps118
  go_wp2_with fail
  go_loopw [7] (fun n wr => ∃ k : Nat, k ≤ (cks s.data.toList).length ∧ n = .int .i64 k ∧ (k : Int) ≤ most ∧ Hid (IterAt wr w.heap.size s k) ∧ Hid (∀ j c, j < k → (cks s.data.toList)[j]? = some c → showB c.r = true) ∧ G w wr) (fun n _ => (cks s.data.toList).length - (intOf n).toNat)
  case atStart => exact ⟨0, Nat.zero_le _, rfl, hm0, IterAt.start w s, by intro j c h; omega, G.iter _ _ _⟩
  case round =>
    obtain ⟨k, hk, rfl, hkm, hit, hall, hg⟩ := hrel
    by_cases hlt : k < (cks s.data.toList).length
    · obtain ⟨c, hc⟩ := piece_at hlt
      obtain ⟨w1, hnx, hit1, hbt, hsz⟩ := run_next_piece (P := Tryd.prog) hit.out hc
      have hg1 := hg.next hbt (Nat.le_refl _)
      replace hit1 := Lib.hid hit1
      clear hsz hit hbt
      by_cases hmo : most < (k : Int) + 1
      · have hf : everyB most showB s = false := everyB_long hlt hmo
        replace hf := Lib.hid hf
        clear hc
        go_wp2_with fail
        go_ret
        exact ⟨by rw [hf.out]; rfl, hg1⟩
      · have hmo2 : (k : Int) + 1 ≤ most := by omega
        have hna := keyFn_any c.r w1
        cases hp : showB c.r with
        | false =>
          have hf : everyB most showB s = false := everyB_not hc hp
          rw [hp] at hna
          replace hf := Lib.hid hf
          replace hp := Lib.hid hp
          clear hc
          go_wp2_with fail
          refine hna.mono ?_
          rintro e w2 ⟨rfl, rfl⟩
          go_wp2_with fail
          go_ret
          exact ⟨by rw [hf.out]; rfl, hg1⟩
        | true =>
          have hall2 : ∀ j c, j < k + 1 → (cks s.data.toList)[j]? = some c → showB c.r = true := fun j c' hj h => by
            rcases Nat.lt_or_ge j k with h1 | h1
            · exact hall.out j c' h1 h
            · obtain rfl : j = k := by omega
              rw [hc] at h
              cases h
              exact hp
          rw [hp] at hna
          replace hall2 := Lib.hid hall2
          replace hp := Lib.hid hp
          clear hc
          go_wp2_with fail
          refine hna.mono ?_
          rintro e w2 ⟨rfl, rfl⟩
          go_wp2_with fail
          go_roundw
          case rel => exact ⟨k + 1, by omega, by go_num, by omega, hit1, hall2, hg1⟩
          case measure => (simp [intOf] <;> omega)
    · have hnx := fun ty => run_next_over (P := Tryd.prog) ty hit.out (by omega)
      have hf : everyB most showB s = validB s := everyB_end (by omega) fun j c h => hall.out j c (by have := (List.getElem?_eq_some_iff.1 h).1; omega) h
      have hv := valid_any s wr (by omega) (hT.out.g hg)
      replace hf := Lib.hid hf
      go_wp2_with fail
      refine hv.mono ?_
      rintro e w2 ⟨rfl, hg2⟩
      go_wp2_with fail
      go_ret
      exact ⟨by rw [hf.out]; rfl, hg.trans hg2⟩

/-- May a text name a stream? -/
def nameB (s : ByteArray) : Bool := !s.toList.isEmpty && everyB 40 namedB s
def keyB (s : ByteArray) : Bool := everyB 40 showB s
set_option maxHeartbeats 400000 in
theorem name_any (s : ByteArray) (w : World) (hs : s.size ≤ 9223372036854775806) (hT : Tabs w) :
    Calls Tryd.prog 105 #[.string s] w fun e w' => e = .returned (.bool (nameB s)) ∧ G w w' := by
  have he := everyNamed_any s 40 w hs hT (by omega)
  unfold nameB
  cases hb : s.toList.isEmpty with
  | true =>
    have hb2 : s.toList = [] := List.isEmpty_iff.1 hb
    clear he
    go_enter Tryd.func105, Tryd.ntmps105
    go_wp2_with fail
    go_ret
    exact ⟨rfl, G.refl _⟩
  | false =>
    go_enter Tryd.func105, Tryd.ntmps105
    go_wp2_with fail
    refine he.mono ?_
    rintro e w1 ⟨rfl, hg⟩
    go_wp2_with fail
    go_ret
    exact ⟨rfl, hg⟩
set_option maxHeartbeats 400000 in
theorem key_any (s : ByteArray) (w : World) (hs : s.size ≤ 9223372036854775806) (hT : Tabs w) :
    Calls Tryd.prog 116 #[.string s] w fun e w' => e = .returned (.bool (keyB s)) ∧ G w w' := by
  have he := everyKey_any s 40 w hs hT (by omega)
  go_enter Tryd.func116, Tryd.ntmps116
  go_wp2_with fail
  refine he.mono ?_
  rintro e w1 ⟨rfl, hg⟩
  go_wp2_with fail
  go_ret
  exact ⟨rfl, hg⟩
end Go.Proofs.YtheogchkelmeeaaDoor

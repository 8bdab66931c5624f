/- Folding and runes. Plain Lean. No condition. -/
import Derived.Test.YtjielocmjfmadaaDoorFold
import Derived.Test.YtjielocmjfmadaaDoorName
namespace Go.Proofs.YtjielocmjfmadaaDoor
open Go.Lib

def foldN (x : Nat) : Nat := if 65 ≤ x ∧ x ≤ 90 then x + 32 else x
theorem foldB_nat (b : UInt8) : (foldB b).toNat = foldN b.toNat := by
  unfold foldB foldN
  split
  · rw [UInt8.toNat_add]
    simp
    have := b.toNat_lt
    omega
  · rfl
theorem foldN_cont (x : Nat) : foldN x / 64 = 2 ↔ x / 64 = 2 := by unfold foldN; split <;> omega
theorem foldN_same {x : Nat} (h : x / 64 = 2) : foldN x = x := by unfold foldN; rw [if_neg (by omega)]
set_option maxRecDepth 100000 in
theorem dec_cont {n b0 b1 b2 b3 c1 c2 c3 : Nat} (h0 : 128 ≤ b0) (e1 : b1 / 64 = 2 → c1 = b1) (e2 : b2 / 64 = 2 → c2 = b2) (e3 : b3 / 64 = 2 → c3 = b3) (d1 : c1 / 64 = 2 ↔ b1 / 64 = 2) (d2 : c2 / 64 = 2 ↔ b2 / 64 = 2) (d3 : c3 / 64 = 2 ↔ b3 / 64 = 2) :
    decodeN n b0 c1 c2 c3 = decodeN n b0 b1 b2 b3 := by
  by_cases k1 : b1 / 64 = 2
  · have := e1 k1; subst this
    by_cases k2 : b2 / 64 = 2
    · have := e2 k2; subst this
      by_cases k3 : b3 / 64 = 2
      · have := e3 k3; subst this; rfl
      · have k3' : ¬ c3 / 64 = 2 := fun h => k3 (d3.1 h)
        unfold decodeN
        simp only [k3, k3', and_false, if_false]
    · have k2' : ¬ c2 / 64 = 2 := fun h => k2 (d2.1 h)
      unfold decodeN
      simp only [k2, k2', and_false, false_and, if_false]
  · have k1' : ¬ c1 / 64 = 2 := fun h => k1 (d1.1 h)
    unfold decodeN
    simp only [k1, k1', and_false, false_and, if_false]
theorem foldL_getD (l : List UInt8) (i : Nat) : ((foldL l).getD i 0).toNat = foldN (l.getD i 0).toNat := by
  unfold foldL
  rw [List.getD_eq_getElem?_getD, List.getD_eq_getElem?_getD, List.getElem?_map]
  cases l[i]? with
  | none => rfl
  | some b => exact foldB_nat b
theorem foldL_length (l : List UInt8) : (foldL l).length = l.length := by simp [foldL]
/-- A rune folded. -/
def foldR (r : Nat) : Nat := foldN r
theorem decodeL_fold (l : List UInt8) : decodeL (foldL l) = (foldR (decodeL l).1, (decodeL l).2) := by
  rw [decodeL_N, decodeL_N, foldL_length]
  simp only [foldL_getD]
  generalize (l.getD 0 0).toNat = b0
  generalize (l.getD 1 0).toNat = b1
  generalize (l.getD 2 0).toNat = b2
  generalize (l.getD 3 0).toNat = b3
  rcases Nat.lt_or_ge b0 128 with h | h
  · have h2 : foldN b0 < 128 := by unfold foldN; split <;> omega
    rw [decodeN_ascii _ _ _ _ _ h, decodeN_ascii _ _ _ _ _ h2]
    rfl
  · have h2 : foldN b0 = b0 := by unfold foldN; rw [if_neg (by omega)]
    rw [h2, dec_cont h (foldN_same (x := b1)) (foldN_same (x := b2)) (foldN_same (x := b3)) (foldN_cont b1) (foldN_cont b2) (foldN_cont b3)]
    have h3 : foldR (decodeN l.length b0 b1 b2 b3).1 = (decodeN l.length b0 b1 b2 b3).1 := by
      unfold foldR foldN
      rw [if_neg]
      rcases decodeN_shape l.length b0 b1 b2 b3 with ⟨h, e⟩ | ⟨_, _, h2, _, e⟩ | ⟨_, _, h2, h3, _, _, e⟩ | ⟨_, _, h2, h3, h4, _, _, e⟩ | e
      all_goals
        rw [e]
        simp only
        omega
    rw [h3]
/-- A piece folded. -/
def Ck.fold (c : Ck) : Ck := ⟨foldL c.bs, foldR c.r⟩
theorem cks_fold (l : List UInt8) : cks (foldL l) = (cks l).map Ck.fold := by
  induction l using cks_ind with
  | h0 => rfl
  | hs l h ih =>
    have h' : foldL l ≠ [] := by
      intro e
      have := congrArg List.length e
      rw [foldL_length] at this
      exact h (List.eq_nil_of_length_eq_zero (by simpa using this))
    rw [cks_step h', cks_step h, List.map_cons, decodeL_fold]
    simp only
    have e1 : (foldL l).drop (decodeL l).2 = foldL (l.drop (decodeL l).2) := by unfold foldL; rw [List.map_drop]
    have e2 : (foldL l).take (decodeL l).2 = foldL (l.take (decodeL l).2) := by unfold foldL; rw [List.map_take]
    rw [e1, e2, ih]
    rfl
theorem bad_fold (c : Ck) : c.fold.bad = c.bad := by
  unfold Ck.bad Ck.fold foldR foldN
  rw [foldL_length]
  rw [decide_eq_decide]
  constructor
  · rintro ⟨h, h2⟩
    refine ⟨?_, h2⟩
    dsimp only at h
    split at h <;> omega
  · rintro ⟨h, h2⟩
    refine ⟨?_, h2⟩
    dsimp only
    rw [if_neg (by omega)]; exact h
theorem named_fold (r : Nat) : namedB (foldR r : Nat) = namedB r := by
  unfold namedB foldR foldN
  rw [decide_eq_decide]
  split <;> omega
theorem foldL_idem (l : List UInt8) : foldL (foldL l) = foldL l := by
  unfold foldL
  rw [List.map_map]
  congr 1
  funext b
  show foldB (foldB b) = foldB b
  apply UInt8.toNat_inj.1
  rw [foldB_nat, foldB_nat]
  unfold foldN
  repeat' split
  all_goals omega
theorem valid_fold (s : ByteArray) : validB (strOf (foldL s.data.toList)) = validB s := by
  unfold validB
  rw [strOf_list, cks_fold, List.all_map]
  congr 1
  funext c
  show (!c.fold.bad) = !c.bad
  rw [bad_fold]
theorem name_fold (s : ByteArray) : nameB (strOf (foldL s.data.toList)) = nameB s := by
  unfold nameB everyB
  rw [valid_fold, strOf_list, cks_fold, List.length_map, List.all_map]
  congr 1
  · congr 1
    rw [ByteArray.toList_eq, ByteArray.toList_eq, strOf_list]
    unfold foldL
    rw [List.isEmpty_map]
  · congr 1
    congr 1
    congr 1
    funext c
    exact named_fold c.r
theorem count_fold (s : ByteArray) : (cks (strOf (foldL s.data.toList)).data.toList).length = (cks s.data.toList).length := by
  rw [strOf_list, cks_fold, List.length_map]
end Go.Proofs.YtjielocmjfmadaaDoor

/- A message with the fields alone that its kind names: it lies as it lay, is as small, and is itself once more. No condition. -/
import Derived.Test.YtheogchkelmeeaaDoorM40MsgFirst
namespace Go.Proofs.YtheogchkelmeeaaDoor
open Go.RowKit

theorem mzero_in (k : Int) (w : World) : (MsgM.zero k).In w := ⟨⟨Sl.nil, fun _ h => by cases h⟩, Sl.nil, ⟨Sl.nil, fun _ h => by cases h⟩, Sl.nil, Sl.nil⟩
theorem i64_0 : Int64 0 := ⟨by omega, by omega⟩
theorem mzero_small (k : Int) (hk : Int64 k) : (MsgM.zero k).Small where
  kind := hk
  x1 := i64_0
  x2 := i64_0
  x3 := i64_0
  code := i64_0
  firsts := fun _ h => by cases h
  z1 := i64_0
  z2 := i64_0
  z3 := i64_0
  z4 := i64_0
  src := i64_0
  total := i64_0
  rgs := fun _ h => by cases h
  firstsL := by simp [MsgM.zero]
  key := by show (⟨#[]⟩ : ByteArray).size ≤ _; decide
  ps := ⟨by simp [MsgM.zero], fun _ h => by cases h⟩
  bat := by
    show (batL ByteArray.empty []).length ≤ _
    rw [show batL ByteArray.empty [] = [] from batL_no (by decide)]
    simp
  smsL := by simp [MsgM.zero]
  sms := fun _ h => by cases h
  esL := by simp [MsgM.zero]
  es := fun _ h => by cases h
  rgsL := by simp [MsgM.zero]
section
variable {m : MsgM}
theorem MsgM.In.only {w : World} (h : m.In w) : m.only.In w := by
  have z := mzero_in m.kind w
  rcases mkind_cases m.kind with k | k | k | k | k | k | k | k | k | k
  · rw [MsgM.only_1 k]; exact ⟨h.ps, z.firsts, z.sms, z.es, z.rgs⟩
  · rw [MsgM.only_2 k]; exact ⟨z.ps, h.firsts, z.sms, z.es, z.rgs⟩
  · rw [MsgM.only_3 k]; exact ⟨z.ps, z.firsts, z.sms, z.es, z.rgs⟩
  · rw [MsgM.only_4 k]; exact ⟨z.ps, z.firsts, z.sms, z.es, z.rgs⟩
  · rw [MsgM.only_5 k]; exact ⟨z.ps, h.firsts, z.sms, z.es, z.rgs⟩
  · rw [MsgM.only_6 k]; exact ⟨z.ps, z.firsts, h.sms, z.es, z.rgs⟩
  · rw [MsgM.only_7 k]; exact ⟨z.ps, z.firsts, z.sms, z.es, z.rgs⟩
  · rw [MsgM.only_8 k]; exact ⟨z.ps, z.firsts, z.sms, z.es, z.rgs⟩
  · rw [MsgM.only_9 k]; exact ⟨z.ps, z.firsts, z.sms, h.es, h.rgs⟩
  · rw [MsgM.only_no k]; exact z
theorem MsgM.Small.only (h : m.Small) : m.only.Small := by
  have z := mzero_small m.kind h.kind
  rcases mkind_cases m.kind with k | k | k | k | k | k | k | k | k | k
  · rw [MsgM.only_1 k]; exact { kind := h.kind, x1 := h.x1, x2 := h.x2, x3 := h.x3, code := z.code, firsts := z.firsts, z1 := z.z1, z2 := z.z2, z3 := z.z3, z4 := z.z4, src := z.src, total := z.total, rgs := z.rgs, firstsL := z.firstsL, key := h.key, ps := h.ps, bat := h.bat, smsL := z.smsL, sms := z.sms, esL := z.esL, es := z.es, rgsL := z.rgsL }
  · rw [MsgM.only_2 k]; exact { kind := h.kind, x1 := h.x1, x2 := h.x2, x3 := h.x3, code := h.code, firsts := h.firsts, z1 := z.z1, z2 := z.z2, z3 := z.z3, z4 := z.z4, src := z.src, total := z.total, rgs := z.rgs, firstsL := h.firstsL, key := z.key, ps := z.ps, bat := z.bat, smsL := z.smsL, sms := z.sms, esL := z.esL, es := z.es, rgsL := z.rgsL }
  · rw [MsgM.only_3 k]; exact { kind := h.kind, x1 := h.x1, x2 := h.x2, x3 := h.x3, code := z.code, firsts := z.firsts, z1 := z.z1, z2 := z.z2, z3 := z.z3, z4 := z.z4, src := z.src, total := z.total, rgs := z.rgs, firstsL := z.firstsL, key := z.key, ps := z.ps, bat := z.bat, smsL := z.smsL, sms := z.sms, esL := z.esL, es := z.es, rgsL := z.rgsL }
  · rw [MsgM.only_4 k]; exact { kind := h.kind, x1 := h.x1, x2 := h.x2, x3 := h.x3, code := z.code, firsts := z.firsts, z1 := z.z1, z2 := z.z2, z3 := z.z3, z4 := z.z4, src := z.src, total := z.total, rgs := z.rgs, firstsL := z.firstsL, key := z.key, ps := z.ps, bat := z.bat, smsL := z.smsL, sms := z.sms, esL := z.esL, es := z.es, rgsL := z.rgsL }
  · rw [MsgM.only_5 k]; exact { kind := h.kind, x1 := h.x1, x2 := h.x2, x3 := h.x3, code := z.code, firsts := h.firsts, z1 := z.z1, z2 := z.z2, z3 := z.z3, z4 := z.z4, src := z.src, total := z.total, rgs := z.rgs, firstsL := h.firstsL, key := z.key, ps := z.ps, bat := z.bat, smsL := z.smsL, sms := z.sms, esL := z.esL, es := z.es, rgsL := z.rgsL }
  · rw [MsgM.only_6 k]; exact { kind := h.kind, x1 := z.x1, x2 := z.x2, x3 := z.x3, code := z.code, firsts := z.firsts, z1 := h.z1, z2 := h.z2, z3 := h.z3, z4 := h.z4, src := z.src, total := z.total, rgs := z.rgs, firstsL := z.firstsL, key := z.key, ps := z.ps, bat := z.bat, smsL := h.smsL, sms := h.sms, esL := z.esL, es := z.es, rgsL := z.rgsL }
  · rw [MsgM.only_7 k]; exact { kind := h.kind, x1 := z.x1, x2 := z.x2, x3 := z.x3, code := z.code, firsts := z.firsts, z1 := h.z1, z2 := h.z2, z3 := h.z3, z4 := h.z4, src := z.src, total := z.total, rgs := z.rgs, firstsL := z.firstsL, key := z.key, ps := z.ps, bat := z.bat, smsL := z.smsL, sms := z.sms, esL := z.esL, es := z.es, rgsL := z.rgsL }
  · rw [MsgM.only_8 k]; exact { kind := h.kind, x1 := z.x1, x2 := z.x2, x3 := z.x3, code := z.code, firsts := z.firsts, z1 := z.z1, z2 := z.z2, z3 := z.z3, z4 := z.z4, src := h.src, total := z.total, rgs := z.rgs, firstsL := z.firstsL, key := z.key, ps := z.ps, bat := z.bat, smsL := z.smsL, sms := z.sms, esL := z.esL, es := z.es, rgsL := z.rgsL }
  · rw [MsgM.only_9 k]; exact { kind := h.kind, x1 := z.x1, x2 := z.x2, x3 := z.x3, code := z.code, firsts := z.firsts, z1 := z.z1, z2 := z.z2, z3 := z.z3, z4 := z.z4, src := h.src, total := h.total, rgs := h.rgs, firstsL := z.firstsL, key := z.key, ps := z.ps, bat := z.bat, smsL := z.smsL, sms := z.sms, esL := h.esL, es := h.es, rgsL := h.rgsL }
  · rw [MsgM.only_no k]; exact z
theorem MsgM.only_only (m : MsgM) : m.only.only = m.only := by
  rcases mkind_cases m.kind with k | k | k | k | k | k | k | k | k | k
  · rw [MsgM.only_1 k, MsgM.only_1 (show m.o1.kind = 1 from k)]; rfl
  · rw [MsgM.only_2 k, MsgM.only_2 (show m.o2.kind = 2 from k)]; rfl
  · rw [MsgM.only_3 k, MsgM.only_3 (show m.o3.kind = 3 from k)]; rfl
  · rw [MsgM.only_4 k, MsgM.only_4 (show m.o4.kind = 4 from k)]; rfl
  · rw [MsgM.only_5 k, MsgM.only_5 (show m.o5.kind = 5 from k)]; rfl
  · rw [MsgM.only_6 k, MsgM.only_6 (show m.o6.kind = 6 from k)]; rfl
  · rw [MsgM.only_7 k, MsgM.only_7 (show m.o7.kind = 7 from k)]; rfl
  · rw [MsgM.only_8 k, MsgM.only_8 (show m.o8.kind = 8 from k)]; rfl
  · rw [MsgM.only_9 k, MsgM.only_9 (show m.o9.kind = 9 from k)]; rfl
  · rw [MsgM.only_no k, MsgM.only_no (show kOk (MsgM.zero m.kind).kind = false from k)]; rfl
end
end Go.Proofs.YtheogchkelmeeaaDoor

/- Texts of small bytes: their runes are their bytes. Plain mathematics, no program. No condition. -/
import Derived.Test.YtilfgafdkiaaaaaDoorCkLaw
namespace Go.Proofs.YtilfgafdkiaaaaaDoor
open Go.Lib

theorem cks_ascii : ∀ l : List UInt8, (∀ b ∈ l, b.toNat < 128) → cks l = l.map fun b => ⟨[b], b.toNat⟩
  | [], _ => rfl
  | b :: l, h => by
    have hb := h b (by simp)
    have e : decodeL (b :: l) = (b.toNat, 1) := by
      rw [decodeL_N]
      exact decodeN_ascii _ _ _ _ _ (by simpa using hb)
    rw [cks_step (by simp), e, List.map_cons]
    dsimp only
    rw [List.take_succ_cons, List.take_zero, List.drop_succ_cons, List.drop_zero, cks_ascii l fun x hx => h x (by simp [hx])]
theorem ascii_good {l : List UInt8} (h : ∀ b ∈ l, b.toNat < 128) : goodL l := fun c hc => by
  rw [cks_ascii l h] at hc
  obtain ⟨b, hb, rfl⟩ := List.mem_map.1 hc
  unfold Ck.bad
  refine decide_eq_false fun h1 => ?_
  have h2 := h1.1
  have := h b hb
  dsimp only at h2
  omega
end Go.Proofs.YtilfgafdkiaaaaaDoor

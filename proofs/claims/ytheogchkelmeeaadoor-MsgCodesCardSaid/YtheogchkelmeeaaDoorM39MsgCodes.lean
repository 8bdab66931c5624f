/- Several texts in one: SmRead, ByteLaw. -/
import Derived.Test.YtheogchkelmeeaaDoorM25MsgCodes
import Derived.Test.YtheogchkelmeeaaDoorRdEventQMsgCodes
import Derived.Test.YtheogchkelmeeaaDoorM8MsgCodes
/- What a reader of streams gives: bounds. Plain mathematics, no program. No condition. -/
namespace Go.Proofs.YtheogchkelmeeaaDoor
open Go.RowKit

theorem dMany_all {α : Type} {d : Reader α} {P : α → Prop} {L : Nat} (hless : Less d) (hd : ∀ l x r, l.length ≤ L → d l = some (x, r) → P x) : ∀ (n : Nat) (l : List UInt8) (xs : List α) (r : List UInt8), l.length ≤ L → dMany d n l = some (xs, r) → ∀ x ∈ xs, P x
  | 0, l, xs, r, _, h => by
    unfold dMany at h
    obtain ⟨rfl, _⟩ := rp_inv h
    intro x hx
    cases hx
  | n + 1, l, xs, r, hl, h => by
    unfold dMany at h
    obtain ⟨y, l1, h1, h⟩ := rb_inv h
    obtain ⟨ys, l2, h2, h⟩ := rb_inv h
    obtain ⟨rfl, _⟩ := rp_inv h
    have := hless _ _ _ h1
    intro x hx
    rcases List.mem_cons.1 hx with rfl | hx
    · exact hd _ _ _ hl h1
    · exact dMany_all hless hd n l1 ys l2 (by omega) h2 x hx
theorem dEvent_small {L : Nat} {l r : List UInt8} {e : Ev} (hl : l.length ≤ L) (h : dEvent l = some (e, r)) : e.stream.size ≤ L ∧ e.data.size ≤ L := by
  unfold dEvent at h
  obtain ⟨s, l1, h1, h⟩ := rb_inv h
  obtain ⟨v, l2, h2, h⟩ := rb_inv h
  obtain ⟨d, l3, h3, h⟩ := rb_inv h
  obtain ⟨t, l4, h4, h⟩ := rb_inv h
  obtain ⟨i, l5, h5, h⟩ := rb_inv h
  obtain ⟨_, h6, _⟩ := rif_inv h
  have b1 := dText_len h1
  have b3 := dText_len h3
  have e1 := eats_text _ _ _ h1
  have e2 := eats_count _ _ _ _ h2
  rw [← h6]
  simp only [strOf_size]
  omega
theorem dKnown_small {L : Nat} {l r : List UInt8} {k : Kn} (hl : l.length ≤ L) (h : dKnown l = some (k, r)) : k.key.size ≤ L := by
  unfold dKnown at h
  obtain ⟨s, l1, h1, h⟩ := rb_inv h
  obtain ⟨v, l2, h2, h⟩ := rb_inv h
  obtain ⟨t, l3, h3, h⟩ := rb_inv h
  obtain ⟨h6, _⟩ := rp_inv h
  have b1 := dText_len h1
  rw [← h6]
  simp only [strOf_size]
  omega
/-- What was read is small. -/
theorem small_gives {st0 : Option (List UInt8)} {s : List UInt8} {N M : Nat} {d2 d4 : Reader Nat} {es : List Ev} {ks : List Kn} {st1 st2 st3 st4 : Option (List UInt8)} {r : List UInt8} (hl : ∀ l, st0 = some l → l.length ≤ 524288) (e2 : Eats d2) (e4 : Eats d4) (g1 : Gives dText st0 st1 s) (g2 : Gives d2 st1 st2 N) (g3 : Gives (dMany dEvent N) st2 st3 es) (g4 : Gives d4 st3 st4 M) (g5 : Gives (dMany dKnown M) st4 (some r) ks) : SmSmall (strOf s) es ks := by
  obtain ⟨l4, rfl⟩ : ∃ l4, st4 = some l4 := by
    cases st4 with
    | none => cases g5.still
    | some l4 => exact ⟨_, rfl⟩
  obtain ⟨l3, rfl⟩ : ∃ l3, st3 = some l3 := by
    cases st3 with
    | none => cases g4.still
    | some l4 => exact ⟨_, rfl⟩
  obtain ⟨l2, rfl⟩ : ∃ l3, st2 = some l3 := by
    cases st2 with
    | none => cases g3.still
    | some l4 => exact ⟨_, rfl⟩
  obtain ⟨l1, rfl⟩ : ∃ l3, st1 = some l3 := by
    cases st1 with
    | none => cases g2.still
    | some l4 => exact ⟨_, rfl⟩
  obtain ⟨l, rfl⟩ : ∃ l3, st0 = some l3 := by
    cases st0 with
    | none => cases g1.still
    | some l4 => exact ⟨_, rfl⟩
  have hl := hl l rfl
  have h1 := g1.hit
  have h2 := g2.hit
  have h3 := g3.hit
  have h4 := g4.hit
  have h5 := g5.hit
  have b1 := dText_len h1
  have e1 := eats_text _ _ _ h1
  have e2 := e2 _ _ _ h2
  have e4 := e4 _ _ _ h4
  have m3 := dMany_len eats_event _ _ _ _ h3
  have m5 := dMany_len eats_known _ _ _ _ h5
  refine ⟨by rw [strOf_size]; omega, ⟨by omega, dMany_all eats_event.less (fun l x r h1 h2 => dEvent_small h1 h2) _ _ _ _ (by omega) h3⟩, by omega, dMany_all eats_known.less (fun l x r h1 h2 => dKnown_small h1 h2) _ _ _ _ (by omega) h5⟩
/-- A stream read whole, but for its end. -/
theorem stream_gives {l s : List UInt8} {N M : Nat} {es : List Ev} {ks : List Kn} {st1 st2 st3 st4 st : Option (List UInt8)} (hl : l.length ≤ 524288) (g1 : Gives dText (some l) st1 s) (g2 : Gives dNum st1 st2 N) (g3 : Gives (dMany dEvent N) st2 st3 es) (g4 : Gives dNum st3 st4 M) (g5 : Gives (dMany dKnown M) st4 st ks) :
    (st = none → dStream l = none) ∧ ∀ r, st = some r → SmSmall (strOf s) es ks ∧ dStream l = if smOk ⟨strOf s, es, ks⟩ = true then some (⟨strOf s, es, ks⟩, r) else none := by
  have key : ∀ (st' : Option (List UInt8)) (x : Sm), Gives (smEnd ⟨strOf s, es, ks⟩) st st' x → Gives dStream (some l) st' x := fun st' x h => g1.bind (g2.bind (g3.bind (g4.bind (g5.bind h))))
  refine ⟨fun e => ?_, fun r e => ⟨?_, ?_⟩⟩
  · subst e
    exact (key none ⟨⟨#[]⟩, [], []⟩ (Gives.bad _)).miss
  · subst e
    exact small_gives (fun l' e => by cases e; exact hl) eats_num eats_num g1 g2 g3 g4 g5
  · subst e
    by_cases hc : smOk ⟨strOf s, es, ks⟩ = true
    · rw [if_pos hc]
      exact (key _ _ (Gives.yes hc _)).hit
    · rw [if_neg hc]
      exact (key none ⟨⟨#[]⟩, [], []⟩ (Gives.no (by simpa using hc) _ _)).miss
theorem stream_givesR {st0 : Option (List UInt8)} {s : List UInt8} {N M : Nat} {es : List Ev} {ks : List Kn} {st1 st2 st3 st4 st : Option (List UInt8)} (g1 : Gives dText st0 st1 s) (g2 : Gives (dCount 1073741824) st1 st2 N) (g3 : Gives (dMany dEvent N) st2 st3 es) (g4 : Gives (dCount 1073741824) st3 st4 M) (g5 : Gives (dMany dKnown M) st4 st ks) :
    ((st = none ∨ smOk ⟨strOf s, es, ks⟩ = false) → Gives dStreamR st0 none ⟨⟨#[]⟩, [], []⟩) ∧ (smOk ⟨strOf s, es, ks⟩ = true → Gives dStreamR st0 st ⟨strOf s, es, ks⟩) := by
  have key : ∀ (st' : Option (List UInt8)) (x : Sm), Gives (smEnd ⟨strOf s, es, ks⟩) st st' x → Gives dStreamR st0 st' x := fun st' x h => g1.bind (g2.bind (g3.bind (g4.bind (g5.bind h))))
  refine ⟨fun e => ?_, fun hc => key _ _ (Gives.yes hc _)⟩
  rcases e with rfl | hc
  · exact key none _ (Gives.bad _)
  · exact key none _ (Gives.no hc _ _)
theorem known_gives {s0 s1 s2 s3 : Option (List UInt8)} {s : List UInt8} {v : Nat} {t : St} (g1 : Gives dText s0 s1 s) (g2 : Gives (dCount 1099511627776) s1 s2 v) (g3 : Gives dStamp s2 s3 t) : Gives dKnown s0 s3 ⟨strOf s, v, t⟩ := g1.bind (g2.bind (g3.bind (Gives.ret _)))
end Go.Proofs.YtheogchkelmeeaaDoor
/- One byte as a reader. Plain mathematics. No condition. -/
namespace Go.Proofs.YtheogchkelmeeaaDoor
open Go.RowKit

/-- One byte. -/
def dByte : Reader Nat := fun l => match l with
  | [] => none
  | b :: q => some (b.toNat, q)
theorem dByte_flag (b : Bool) (q : List UInt8) : dByte ([if b = true then 1 else 0] ++ q) = some (if b = true then 1 else 0, q) := by cases b <;> rfl
theorem eats_byte : Eats dByte := fun l x r h => by
  cases l with
  | nil => cases h
  | cons b q =>
    cases h
    simp
end Go.Proofs.YtheogchkelmeeaaDoor

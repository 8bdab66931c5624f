/- Several texts in one: Canon, SmRead, ByteLaw. -/
import Derived.Test.YtheogchkelmeeaaDoorM20MsgFirst
import Derived.Test.YtheogchkelmeeaaDoorM29MsgFirst
import Derived.Test.YtheogchkelmeeaaDoorRdEventQMsgFirst
import Derived.Test.YtheogchkelmeeaaDoorM8MsgFirst
/- What is read is what would be written: each reader takes just the bytes that its writer writes. Plain mathematics. No condition. -/
namespace Go.Proofs.YtheogchkelmeeaaDoor
open Go.RowKit

theorem uF_canon : ∀ (l : List UInt8) (i acc v n : Nat), uF i acc l = some (v, n) → acc < 2 ^ (7 * i) → ∃ u, v = acc + u * 2 ^ (7 * i) ∧ l = vF (10 - i) u ++ l.drop (n - i) ∧ (0 < i → 0 < u)
  | [], _, _, _, _, h, _ => by simp [uF] at h
  | x :: l, i, acc, v, n, h, hacc => by
    unfold uF at h
    by_cases hi : 10 ≤ i
    · rw [if_pos hi] at h; cases h
    rw [if_neg hi] at h
    have hx := x.toNat_lt
    obtain ⟨m, hm⟩ : ∃ m, 10 - i = m + 1 := ⟨9 - i, by omega⟩
    by_cases h1 : 127 < x.toNat
    · rw [if_pos h1] at h
      have hp := pow_step i
      have hacc' : acc + (x.toNat - 128) * 2 ^ (7 * i) < 2 ^ (7 * (i + 1)) := by
        rw [hp]
        have : (x.toNat - 128) * 2 ^ (7 * i) ≤ 127 * 2 ^ (7 * i) := Nat.mul_le_mul_right _ (by omega)
        omega
      obtain ⟨u, e1, e2, e3⟩ := uF_canon l (i + 1) _ v n h hacc'
      have hb := uF_bd l (i + 1) _ v n h hacc'
      have hu := e3 (by omega)
      refine ⟨(x.toNat - 128) + u * 128, ?_, ?_, fun _ => by omega⟩
      · rw [e1, hp, Nat.add_mul, Nat.mul_assoc]
        omega
      · rw [hm]
        unfold vF
        rw [if_neg (by omega)]
        have a1 : (x.toNat - 128 + u * 128) % 128 + 128 = x.toNat := by omega
        have a2 : (x.toNat - 128 + u * 128) / 128 = u := by omega
        rw [a1, a2, UInt8.ofNat_toNat, List.cons_append]
        have a3 : n - i = (n - (i + 1)) + 1 := by omega
        rw [a3, List.drop_succ_cons]
        have a4 : 10 - (i + 1) = m := by omega
        rw [a4] at e2
        rw [← e2]
    · rw [if_neg h1] at h
      split at h
      · cases h
      · rename_i h2
        simp only [Option.some.injEq, Prod.mk.injEq] at h
        obtain ⟨rfl, rfl⟩ := h
        refine ⟨x.toNat, rfl, ?_, fun h3 => by omega⟩
        rw [hm]
        unfold vF
        rw [if_pos (by omega), UInt8.ofNat_toNat]
        simp
theorem uL_canon {l : List UInt8} {v n : Nat} (h : uL l = some (v, n)) : l = vL v ++ l.drop n := by
  obtain ⟨u, e1, e2, _⟩ := uF_canon l 0 0 v n h (by simp)
  simp at e1
  subst e1
  exact e2
/-- A reader that takes just what f writes. -/
def Cn {α : Type} (d : Reader α) (f : α → List UInt8) : Prop := ∀ l x r, d l = some (x, r) → l = f x ++ r
theorem cn_num : Cn dNum vL := fun l x r h => by
  unfold dNum at h
  split at h
  · rename_i v n h1
    simp only [Option.some.injEq, Prod.mk.injEq] at h
    obtain ⟨rfl, rfl⟩ := h
    exact uL_canon h1
  · cases h
theorem cn_count (m : Nat) : Cn (dCount m) vL := fun l x r h => cn_num l x r (dCount_num h).1
theorem cn_text : Cn dText textL := fun l x r h => by
  unfold dText at h
  split at h
  · rename_i s n h1
    simp only [Option.some.injEq, Prod.mk.injEq] at h
    obtain ⟨rfl, rfl⟩ := h
    unfold tL at h1
    split at h1
    · rename_i v k h2
      have hb := uL_bd h2
      split at h1
      · rename_i h3
        simp only [Option.some.injEq, Prod.mk.injEq] at h1
        obtain ⟨rfl, rfl⟩ := h1
        have hl : ((l.drop k).take v).length = v := by rw [List.length_take, List.length_drop]; omega
        unfold textL
        rw [hl, List.append_assoc, ← List.drop_drop, List.take_append_drop]
        exact uL_canon h2
      · cases h1
    · cases h1
  · cases h
section
variable {α β γ : Type}
theorem Cn.bind {d : Reader α} {f : α → List UInt8} {k : α → Reader β} {g : β → List UInt8} (hd : Cn d f) (hk : ∀ l x r y q, d l = some (x, r) → k x r = some (y, q) → f x ++ r = g y ++ q) : Cn (rb d k) g := fun l y q h => by
  obtain ⟨x, r, h1, h2⟩ := rb_inv h
  rw [hd l x r h1]
  exact hk l x r y q h1 h2
theorem cn_many {d : Reader α} {f : α → List UInt8} (hd : Cn d f) : ∀ n, Cn (dMany d n) (fun xs => xs.flatMap f)
  | 0 => fun l x r h => by
    obtain ⟨rfl, rfl⟩ := rp_inv h
    rfl
  | n + 1 => fun l xs r h => by
    obtain ⟨x, r1, h1, h2⟩ := rb_inv h
    obtain ⟨ys, r2, h3, h4⟩ := rb_inv h2
    obtain ⟨rfl, rfl⟩ := rp_inv h4
    rw [hd l x r1 h1, cn_many hd n r1 ys r2 h3]
    simp [List.flatMap_cons, List.append_assoc]
end
theorem strOf_data (s : List UInt8) : (strOf s).data.toList = s := rfl
theorem cn_stamp : Cn dStamp stL := fun l x q h => by
  obtain ⟨a, r1, h1, h⟩ := rb_inv h
  obtain ⟨b, r2, h2, h⟩ := rb_inv h
  obtain ⟨c, r3, h3, h⟩ := rb_inv h
  obtain ⟨rfl, rfl⟩ := rp_inv h
  rw [cn_count _ _ _ _ h1, cn_count _ _ _ _ h2, cn_count _ _ _ _ h3]
  simp [stL, List.append_assoc]
theorem cn_event : Cn dEvent evL := fun l x q h => by
  have hok := dEvent_ok h
  obtain ⟨s, r1, h1, h⟩ := rb_inv h
  obtain ⟨v, r2, h2, h⟩ := rb_inv h
  obtain ⟨d, r3, h3, h⟩ := rb_inv h
  obtain ⟨t, r4, h4, h⟩ := rb_inv h
  obtain ⟨i, r5, h5, h⟩ := rb_inv h
  obtain ⟨_, rfl, rfl⟩ := rif_inv h
  rw [evL_some hok, cn_text _ _ _ h1, cn_count _ _ _ _ h2, cn_text _ _ _ h3, cn_stamp _ _ _ h4, cn_count _ _ _ _ h5]
  simp [evBytes, strOf_data, List.append_assoc]
theorem zig_zag (v : Nat) : zigN (zagI v) = v := by
  unfold zagI zigN
  split <;> split <;> omega
theorem cn_put {l r : List UInt8} {p : PutP} (h : dPut l = some (p, r)) (hp : putOk p = true) : l = putBytes p ++ r := by
  obtain ⟨s, r1, h1, h⟩ := rb_inv h
  obtain ⟨v, r2, h2, h⟩ := rb_inv h
  obtain ⟨m, r3, h3, h⟩ := rb_inv h
  obtain ⟨ds, r4, h4, h⟩ := rb_inv h
  obtain ⟨rfl, rfl⟩ := rp_inv h
  have hz : zigN (zagI v) = v := zig_zag v
  have hl := (dMany_len eats_text _ _ _ _ h4).1
  rw [cn_text _ _ _ h1, cn_num _ _ _ h2, cn_count _ _ _ _ h3, cn_many cn_text _ _ _ _ h4]
  unfold putBytes
  simp only [strOf_data, hz, List.length_map, hl, List.append_assoc]
  congr 4
  rw [List.flatMap_map]
  rfl
theorem cn_puts : ∀ (n : Nat) (l : List UInt8) (ps : List PutP) (r : List UInt8), dMany dPut n l = some (ps, r) → (∀ p ∈ ps, putOk p = true) → l = ps.flatMap putBytes ++ r
  | 0, l, ps, r, h, _ => by
    obtain ⟨rfl, rfl⟩ := rp_inv h
    rfl
  | n + 1, l, ps, r, h, hp => by
    obtain ⟨x, r1, h1, h2⟩ := rb_inv h
    obtain ⟨ys, r2, h3, h4⟩ := rb_inv h2
    obtain ⟨rfl, rfl⟩ := rp_inv h4
    rw [cn_put h1 (hp x (by simp)), cn_puts n r1 ys r2 h3 fun p h5 => hp p (by simp [h5]), List.flatMap_cons, List.append_assoc]
theorem cn_batch {l r : List UInt8} {key : ByteArray} {ps : List PutP} (h : dBatch l = some ((key, ps), r)) : l = batL key ps ++ r := by
  have hok := dBatch_ok h
  obtain ⟨s, r1, h1, h⟩ := rb_inv h
  obtain ⟨n, r2, h2, h⟩ := rb_inv h
  obtain ⟨qs, r3, h3, h⟩ := rb_inv h
  obtain ⟨_, e, rfl⟩ := rif_inv h
  simp only [Prod.mk.injEq] at e
  obtain ⟨rfl, rfl⟩ := e
  have hl := (dMany_len eats_put _ _ _ _ h3).1
  rw [batL_ok hok, cn_text _ _ _ h1, cn_count _ _ _ _ h2, cn_puts _ _ _ _ h3 fun p hp => argB_put ((chkN_ok _ _).1 hok).1 hp]
  simp [batBytes, strOf_data, hl, List.append_assoc]
theorem cn_known : Cn dKnown knBytes := fun l x q h => by
  obtain ⟨s, r1, h1, h⟩ := rb_inv h
  obtain ⟨v, r2, h2, h⟩ := rb_inv h
  obtain ⟨t, r3, h3, h⟩ := rb_inv h
  obtain ⟨rfl, rfl⟩ := rp_inv h
  rw [cn_text _ _ _ h1, cn_count _ _ _ _ h2, cn_stamp _ _ _ h3]
  simp [knBytes, strOf_data, List.append_assoc]
theorem cn_stream : Cn dStream smL := fun l x q h => by
  have hok := dStream_ok h
  obtain ⟨s, r1, h1, h⟩ := rb_inv h
  obtain ⟨n, r2, h2, h⟩ := rb_inv h
  obtain ⟨es, r3, h3, h⟩ := rb_inv h
  obtain ⟨m, r4, h4, h⟩ := rb_inv h
  obtain ⟨ks, r5, h5, h⟩ := rb_inv h
  obtain ⟨_, rfl, rfl⟩ := rif_inv h
  have hl := (dMany_len eats_event _ _ _ _ h3).1
  have hl2 := (dMany_len eats_known _ _ _ _ h5).1
  rw [smL_ok hok, cn_text _ _ _ h1, cn_num _ _ _ h2, cn_many cn_event _ _ _ _ h3, cn_num _ _ _ h4, cn_many cn_known _ _ _ _ h5]
  simp [smBytes, strOf_data, hl, hl2, List.append_assoc]
end Go.Proofs.YtheogchkelmeeaaDoor
/- What a reader of streams gives: bounds. Plain mathematics, no program. No condition. -/
namespace Go.Proofs.YtheogchkelmeeaaDoor
open Go.RowKit

theorem dMany_all {α : Type} {d : Reader α} {P : α → Prop} {L : Nat} (hless : Less d) (hd : ∀ l x r, l.length ≤ L → d l = some (x, r) → P x) : ∀ (n : Nat) (l : List UInt8) (xs : List α) (r : List UInt8), l.length ≤ L → dMany d n l = some (xs, r) → ∀ x ∈ xs, P x
  | 0, l, xs, r, _, h => by
    unfold dMany at h
    obtain ⟨rfl, _⟩ := rp_inv h
    intro x hx
    cases hx
  | n + 1, l, xs, r, hl, h => by
    unfold dMany at h
    obtain ⟨y, l1, h1, h⟩ := rb_inv h
    obtain ⟨ys, l2, h2, h⟩ := rb_inv h
    obtain ⟨rfl, _⟩ := rp_inv h
    have := hless _ _ _ h1
    intro x hx
    rcases List.mem_cons.1 hx with rfl | hx
    · exact hd _ _ _ hl h1
    · exact dMany_all hless hd n l1 ys l2 (by omega) h2 x hx
theorem dEvent_small {L : Nat} {l r : List UInt8} {e : Ev} (hl : l.length ≤ L) (h : dEvent l = some (e, r)) : e.stream.size ≤ L ∧ e.data.size ≤ L := by
  unfold dEvent at h
  obtain ⟨s, l1, h1, h⟩ := rb_inv h
  obtain ⟨v, l2, h2, h⟩ := rb_inv h
  obtain ⟨d, l3, h3, h⟩ := rb_inv h
  obtain ⟨t, l4, h4, h⟩ := rb_inv h
  obtain ⟨i, l5, h5, h⟩ := rb_inv h
  obtain ⟨_, h6, _⟩ := rif_inv h
  have b1 := dText_len h1
  have b3 := dText_len h3
  have e1 := eats_text _ _ _ h1
  have e2 := eats_count _ _ _ _ h2
  rw [← h6]
  simp only [strOf_size]
  omega
theorem dKnown_small {L : Nat} {l r : List UInt8} {k : Kn} (hl : l.length ≤ L) (h : dKnown l = some (k, r)) : k.key.size ≤ L := by
  unfold dKnown at h
  obtain ⟨s, l1, h1, h⟩ := rb_inv h
  obtain ⟨v, l2, h2, h⟩ := rb_inv h
  obtain ⟨t, l3, h3, h⟩ := rb_inv h
  obtain ⟨h6, _⟩ := rp_inv h
  have b1 := dText_len h1
  rw [← h6]
  simp only [strOf_size]
  omega
/-- What was read is small. -/
theorem small_gives {st0 : Option (List UInt8)} {s : List UInt8} {N M : Nat} {d2 d4 : Reader Nat} {es : List Ev} {ks : List Kn} {st1 st2 st3 st4 : Option (List UInt8)} {r : List UInt8} (hl : ∀ l, st0 = some l → l.length ≤ 524288) (e2 : Eats d2) (e4 : Eats d4) (g1 : Gives dText st0 st1 s) (g2 : Gives d2 st1 st2 N) (g3 : Gives (dMany dEvent N) st2 st3 es) (g4 : Gives d4 st3 st4 M) (g5 : Gives (dMany dKnown M) st4 (some r) ks) : SmSmall (strOf s) es ks := by
  obtain ⟨l4, rfl⟩ : ∃ l4, st4 = some l4 := by
    cases st4 with
    | none => cases g5.still
    | some l4 => exact ⟨_, rfl⟩
  obtain ⟨l3, rfl⟩ : ∃ l3, st3 = some l3 := by
    cases st3 with
    | none => cases g4.still
    | some l4 => exact ⟨_, rfl⟩
  obtain ⟨l2, rfl⟩ : ∃ l3, st2 = some l3 := by
    cases st2 with
    | none => cases g3.still
    | some l4 => exact ⟨_, rfl⟩
  obtain ⟨l1, rfl⟩ : ∃ l3, st1 = some l3 := by
    cases st1 with
    | none => cases g2.still
    | some l4 => exact ⟨_, rfl⟩
  obtain ⟨l, rfl⟩ : ∃ l3, st0 = some l3 := by
    cases st0 with
    | none => cases g1.still
    | some l4 => exact ⟨_, rfl⟩
  have hl := hl l rfl
  have h1 := g1.hit
  have h2 := g2.hit
  have h3 := g3.hit
  have h4 := g4.hit
  have h5 := g5.hit
  have b1 := dText_len h1
  have e1 := eats_text _ _ _ h1
  have e2 := e2 _ _ _ h2
  have e4 := e4 _ _ _ h4
  have m3 := dMany_len eats_event _ _ _ _ h3
  have m5 := dMany_len eats_known _ _ _ _ h5
  refine ⟨by rw [strOf_size]; omega, ⟨by omega, dMany_all eats_event.less (fun l x r h1 h2 => dEvent_small h1 h2) _ _ _ _ (by omega) h3⟩, by omega, dMany_all eats_known.less (fun l x r h1 h2 => dKnown_small h1 h2) _ _ _ _ (by omega) h5⟩
/-- A stream read whole, but for its end. -/
theorem stream_gives {l s : List UInt8} {N M : Nat} {es : List Ev} {ks : List Kn} {st1 st2 st3 st4 st : Option (List UInt8)} (hl : l.length ≤ 524288) (g1 : Gives dText (some l) st1 s) (g2 : Gives dNum st1 st2 N) (g3 : Gives (dMany dEvent N) st2 st3 es) (g4 : Gives dNum st3 st4 M) (g5 : Gives (dMany dKnown M) st4 st ks) :
    (st = none → dStream l = none) ∧ ∀ r, st = some r → SmSmall (strOf s) es ks ∧ dStream l = if smOk ⟨strOf s, es, ks⟩ = true then some (⟨strOf s, es, ks⟩, r) else none := by
  have key : ∀ (st' : Option (List UInt8)) (x : Sm), Gives (smEnd ⟨strOf s, es, ks⟩) st st' x → Gives dStream (some l) st' x := fun st' x h => g1.bind (g2.bind (g3.bind (g4.bind (g5.bind h))))
  refine ⟨fun e => ?_, fun r e => ⟨?_, ?_⟩⟩
  · subst e
    exact (key none ⟨⟨#[]⟩, [], []⟩ (Gives.bad _)).miss
  · subst e
    exact small_gives (fun l' e => by cases e; exact hl) eats_num eats_num g1 g2 g3 g4 g5
  · subst e
    by_cases hc : smOk ⟨strOf s, es, ks⟩ = true
    · rw [if_pos hc]
      exact (key _ _ (Gives.yes hc _)).hit
    · rw [if_neg hc]
      exact (key none ⟨⟨#[]⟩, [], []⟩ (Gives.no (by simpa using hc) _ _)).miss
theorem stream_givesR {st0 : Option (List UInt8)} {s : List UInt8} {N M : Nat} {es : List Ev} {ks : List Kn} {st1 st2 st3 st4 st : Option (List UInt8)} (g1 : Gives dText st0 st1 s) (g2 : Gives (dCount 1073741824) st1 st2 N) (g3 : Gives (dMany dEvent N) st2 st3 es) (g4 : Gives (dCount 1073741824) st3 st4 M) (g5 : Gives (dMany dKnown M) st4 st ks) :
    ((st = none ∨ smOk ⟨strOf s, es, ks⟩ = false) → Gives dStreamR st0 none ⟨⟨#[]⟩, [], []⟩) ∧ (smOk ⟨strOf s, es, ks⟩ = true → Gives dStreamR st0 st ⟨strOf s, es, ks⟩) := by
  have key : ∀ (st' : Option (List UInt8)) (x : Sm), Gives (smEnd ⟨strOf s, es, ks⟩) st st' x → Gives dStreamR st0 st' x := fun st' x h => g1.bind (g2.bind (g3.bind (g4.bind (g5.bind h))))
  refine ⟨fun e => ?_, fun hc => key _ _ (Gives.yes hc _)⟩
  rcases e with rfl | hc
  · exact key none _ (Gives.bad _)
  · exact key none _ (Gives.no hc _ _)
theorem known_gives {s0 s1 s2 s3 : Option (List UInt8)} {s : List UInt8} {v : Nat} {t : St} (g1 : Gives dText s0 s1 s) (g2 : Gives (dCount 1099511627776) s1 s2 v) (g3 : Gives dStamp s2 s3 t) : Gives dKnown s0 s3 ⟨strOf s, v, t⟩ := g1.bind (g2.bind (g3.bind (Gives.ret _)))
end Go.Proofs.YtheogchkelmeeaaDoor
/- One byte as a reader. Plain mathematics. No condition. -/
namespace Go.Proofs.YtheogchkelmeeaaDoor
open Go.RowKit

/-- One byte. -/
def dByte : Reader Nat := fun l => match l with
  | [] => none
  | b :: q => some (b.toNat, q)
theorem dByte_flag (b : Bool) (q : List UInt8) : dByte ([if b = true then 1 else 0] ++ q) = some (if b = true then 1 else 0, q) := by cases b <;> rfl
theorem eats_byte : Eats dByte := fun l x r h => by
  cases l with
  | nil => cases h
  | cons b q =>
    cases h
    simp
end Go.Proofs.YtheogchkelmeeaaDoor

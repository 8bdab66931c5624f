/- Stamps, events, batches, streams as bytes, and read again. Plain mathematics, no program. No condition. -/
import Derived.Test.YtheogchkelmeeaaDoorVarLaw
import Derived.Test.YtheogchkelmeeaaDoorM8MsgAs
import Derived.Test.YtheogchkelmeeaaDoorNameQMsgAs
namespace Go.Proofs.YtheogchkelmeeaaDoor
open Go.RowKit

/-! Readers, one behind the other. -/
abbrev Reader (α : Type) := List UInt8 → Option (α × List UInt8)
def rb {α β : Type} (d : Reader α) (k : α → Reader β) : Reader β := fun l =>
  match d l with
  | some (x, r) => k x r
  | none => none
def rp {α : Type} (x : α) : Reader α := fun l => some (x, l)
def rf {α : Type} : Reader α := fun _ => none
def rif {α : Type} (b : Bool) (x : α) : Reader α := fun l => if b = true then some (x, l) else none
def dMany {α : Type} (d : Reader α) : Nat → Reader (List α)
  | 0 => rp []
  | n + 1 => rb d fun x => rb (dMany d n) fun xs => rp (x :: xs)
theorem rb_some {α β : Type} {d : Reader α} {k : α → Reader β} {l r : List UInt8} {x : α} (h : d l = some (x, r)) : rb d k l = k x r := by unfold rb; rw [h]
theorem rb_none {α β : Type} {d : Reader α} {k : α → Reader β} {l : List UInt8} (h : d l = none) : rb d k l = none := by unfold rb; rw [h]
theorem rb_inv {α β : Type} {d : Reader α} {k : α → Reader β} {l : List UInt8} {y : β × List UInt8} (h : rb d k l = some y) : ∃ x r, d l = some (x, r) ∧ k x r = some y := by
  cases hd : d l with
  | none => rw [rb_none hd] at h; cases h
  | some z => exact ⟨z.1, z.2, rfl, by rw [rb_some (x := z.1) (r := z.2) hd] at h; exact h⟩
theorem rif_inv {α : Type} {b : Bool} {x y : α} {l r : List UInt8} (h : rif b x l = some (y, r)) : b = true ∧ x = y ∧ l = r := by
  unfold rif at h
  split at h
  · rename_i hb
    simp only [Option.some.injEq, Prod.mk.injEq] at h
    exact ⟨hb, h.1, h.2⟩
  · cases h
theorem rp_inv {α : Type} {x y : α} {l r : List UInt8} (h : rp x l = some (y, r)) : x = y ∧ l = r := by
  simp only [rp, Option.some.injEq, Prod.mk.injEq] at h
  exact h
theorem data_len (s : ByteArray) : s.data.toList.length = s.size := by simp
theorem Rd.bind {α β : Type} {d : Reader α} {k : α → Reader β} (hd : Rd d) (hk : ∀ x, Rd (k x)) : Rd (rb d k) := ⟨fun l r q y h => by
  cases hc : d l with
  | none => rw [rb_none hc] at h; cases h
  | some z =>
    obtain ⟨x, m⟩ := z
    rw [rb_some hc] at h
    rw [rb_some (hd.app _ _ q _ hc)]
    exact (hk x).app _ _ q _ h⟩
theorem Rd.pure {α : Type} (x : α) : Rd (rp x) := ⟨fun l r q y h => by
  simp only [rp, Option.some.injEq, Prod.mk.injEq] at h ⊢
  obtain ⟨rfl, rfl⟩ := h
  exact ⟨rfl, rfl⟩⟩
theorem Rd.rif {α : Type} (b : Bool) (x : α) : Rd (rif b x) := ⟨fun l r q y h => by
  unfold Go.Proofs.YtheogchkelmeeaaDoor.rif at h ⊢
  split at h
  · rename_i hb
    rw [if_pos hb]
    simp only [Option.some.injEq, Prod.mk.injEq] at h ⊢
    obtain ⟨rfl, rfl⟩ := h
    exact ⟨rfl, rfl⟩
  · cases h⟩
theorem Rd.many {α : Type} {d : Reader α} (hd : Rd d) : ∀ n, Rd (dMany d n)
  | 0 => Rd.pure _
  | n + 1 => hd.bind fun _ => (Rd.many hd n).bind fun _ => Rd.pure _
/-- A reader that takes at least one byte. -/
def Eats {α : Type} (d : Reader α) : Prop := ∀ l x r, d l = some (x, r) → r.length < l.length
/-- A reader that gives no byte back. -/
def Less {α : Type} (d : Reader α) : Prop := ∀ l x r, d l = some (x, r) → r.length ≤ l.length
theorem Eats.less {α : Type} {d : Reader α} (h : Eats d) : Less d := fun l x r e => Nat.le_of_lt (h l x r e)
theorem Less.bind {α β : Type} {d : Reader α} {k : α → Reader β} (hd : Less d) (hk : ∀ x, Less (k x)) : Less (rb d k) := fun l y r h => by
  cases hc : d l with
  | none => rw [rb_none hc] at h; cases h
  | some z =>
    obtain ⟨x, m⟩ := z
    rw [rb_some hc] at h
    exact Nat.le_trans (hk x _ _ _ h) (hd _ _ _ hc)
theorem Eats.bind {α β : Type} {d : Reader α} {k : α → Reader β} (hd : Eats d) (hk : ∀ x, Less (k x)) : Eats (rb d k) := fun l y r h => by
  cases hc : d l with
  | none => rw [rb_none hc] at h; cases h
  | some z =>
    obtain ⟨x, m⟩ := z
    rw [rb_some hc] at h
    exact Nat.lt_of_le_of_lt (hk x _ _ _ h) (hd _ _ _ hc)
theorem Less.pure {α : Type} (x : α) : Less (rp x) := fun l y r h => by
  simp only [rp, Option.some.injEq, Prod.mk.injEq] at h
  obtain ⟨rfl, rfl⟩ := h
  exact Nat.le_refl _
theorem Less.rif {α : Type} (b : Bool) (x : α) : Less (rif b x) := fun l y r h => by
  unfold Go.Proofs.YtheogchkelmeeaaDoor.rif at h
  split at h
  · simp only [Option.some.injEq, Prod.mk.injEq] at h
    obtain ⟨rfl, rfl⟩ := h
    exact Nat.le_refl _
  · cases h
theorem eats_num : Eats dNum := fun l x r h => by
  unfold dNum at h
  cases hu : uL l with
  | none => rw [hu] at h; cases h
  | some y =>
    obtain ⟨v, n⟩ := y
    rw [hu] at h
    simp only [Option.some.injEq, Prod.mk.injEq] at h
    obtain ⟨rfl, rfl⟩ := h
    have := uL_bd hu
    rw [List.length_drop]
    omega
theorem dCount_num {m : Nat} {l r : List UInt8} {v : Nat} (h : dCount m l = some (v, r)) : dNum l = some (v, r) ∧ v ≤ m := by
  unfold dCount at h
  cases hd : dNum l with
  | none => rw [hd] at h; cases h
  | some y =>
    obtain ⟨v', r'⟩ := y
    rw [hd] at h
    simp only at h
    split at h
    · rename_i hv
      simp only [Option.some.injEq, Prod.mk.injEq] at h
      obtain ⟨rfl, rfl⟩ := h
      exact ⟨rfl, hv⟩
    · cases h
theorem dCount_some {m : Nat} {l r : List UInt8} {v : Nat} (h : dNum l = some (v, r)) : dCount m l = if v ≤ m then some (v, r) else none := by unfold dCount; rw [h]
theorem dCount_none {m : Nat} {l : List UInt8} (h : dNum l = none) : dCount m l = none := by unfold dCount; rw [h]
theorem eats_count (m : Nat) : Eats (dCount m) := fun _ _ _ h => eats_num _ _ _ (dCount_num h).1
theorem eats_text : Eats dText := fun l x r h => by
  unfold dText at h
  cases hu : tL l with
  | none => rw [hu] at h; cases h
  | some y =>
    obtain ⟨s, n⟩ := y
    rw [hu] at h
    simp only [Option.some.injEq, Prod.mk.injEq] at h
    obtain ⟨rfl, rfl⟩ := h
    have := tL_bd hu
    rw [List.length_drop]
    omega
theorem dText_len {l s r : List UInt8} (h : dText l = some (s, r)) : s.length < l.length := by
  unfold dText at h
  cases hu : tL l with
  | none => rw [hu] at h; cases h
  | some y =>
    obtain ⟨s, n⟩ := y
    rw [hu] at h
    simp only [Option.some.injEq, Prod.mk.injEq] at h
    obtain ⟨rfl, rfl⟩ := h
    have := tL_bd hu
    omega
/-- More than there are bytes are none. -/
theorem dMany_len {α : Type} {d : Reader α} (hd : Eats d) : ∀ (n : Nat) (l : List UInt8) (xs : List α) (r : List UInt8), dMany d n l = some (xs, r) → xs.length = n ∧ n + r.length ≤ l.length
  | 0, l, xs, r, h => by
    simp only [dMany, rp, Option.some.injEq, Prod.mk.injEq] at h
    obtain ⟨rfl, rfl⟩ := h
    simp
  | n + 1, l, xs, r, h => by
    unfold dMany at h
    cases hc : d l with
    | none => rw [rb_none hc] at h; cases h
    | some z =>
      obtain ⟨x, m⟩ := z
      rw [rb_some hc] at h
      cases hm : dMany d n m with
      | none => rw [rb_none hm] at h; cases h
      | some y =>
        obtain ⟨ys, r'⟩ := y
        rw [rb_some hm] at h
        simp only [rp, Option.some.injEq, Prod.mk.injEq] at h
        obtain ⟨rfl, rfl⟩ := h
        have h1 := dMany_len hd n m ys r' hm
        have h2 := hd _ _ _ hc
        simp only [List.length_cons]
        omega
theorem Less.many {α : Type} {d : Reader α} (hd : Eats d) (n : Nat) : Less (dMany d n) := fun l xs r h => by
  have := dMany_len hd n l xs r h
  omega
/-- What was written one behind the other is read so. -/
theorem dMany_w {α : Type} {d : Reader α} {f : α → List UInt8} (xs : List α) (h : ∀ x ∈ xs, ∀ q, d (f x ++ q) = some (x, q)) (q : List UInt8) : dMany d xs.length (xs.flatMap f ++ q) = some (xs, q) := by
  induction xs with
  | nil => rfl
  | cons x xs ih =>
    rw [List.flatMap_cons, List.append_assoc, List.length_cons]
    unfold dMany
    rw [rb_some (h x (by simp) _), rb_some (ih fun y hy => h y (by simp [hy]))]
    rfl

/-! Stamps. -/
def stOk (s : St) : Bool := soundB s.wall s.logic s.node
def stL (s : St) : List UInt8 := vL s.wall.toNat ++ (vL s.logic.toNat ++ vL s.node.toNat)
def dStamp : Reader St := rb (dCount 1125899906842624) fun a => rb (dCount 65535) fun b => rb (dCount 5) fun c => rp ⟨a, b, c⟩
theorem stOk_iff (s : St) : stOk s = true ↔ 0 ≤ s.wall ∧ s.wall ≤ 1125899906842624 ∧ 0 ≤ s.logic ∧ s.logic < 65536 ∧ 0 ≤ s.node ∧ s.node ≤ 5 := by
  unfold stOk soundB
  rw [decide_eq_true_iff]
theorem rd_stamp : Rd dStamp := (rd_count _).bind fun _ => (rd_count _).bind fun _ => (rd_count _).bind fun _ => Rd.pure _
theorem eats_stamp : Eats dStamp := (eats_count _).bind fun _ => (eats_count _).less.bind fun _ => (eats_count _).less.bind fun _ => Less.pure _
theorem dStamp_w {s : St} (h : stOk s = true) (q : List UInt8) : dStamp (stL s ++ q) = some (s, q) := by
  rw [stOk_iff] at h
  unfold dStamp stL
  rw [List.append_assoc, List.append_assoc, rb_some (dCount_v (by omega) (by omega) _), rb_some (dCount_v (by omega) (by omega) _), rb_some (dCount_v (by omega) (by omega) _)]
  obtain ⟨a, b, c⟩ := s
  simp only at h
  simp only [rp, Option.some.injEq, Prod.mk.injEq, and_true, St.mk.injEq]
  omega
theorem dStamp_ok {l r : List UInt8} {s : St} (h : dStamp l = some (s, r)) : stOk s = true := by
  obtain ⟨a, l1, ha, h⟩ := rb_inv h
  obtain ⟨b, l2, hb, h⟩ := rb_inv h
  obtain ⟨c, l3, hc, h⟩ := rb_inv h
  obtain ⟨rfl, rfl⟩ := rp_inv h
  have := (dCount_num ha).2
  have := (dCount_num hb).2
  have := (dCount_num hc).2
  rw [stOk_iff]
  simp only
  omega

/-! Events. -/
def evOk (e : Ev) : Bool := nameB e.stream && decide (1 ≤ e.version ∧ e.version ≤ 1099511627776) && decide (e.data.size ≤ 1000) && validB e.data && stOk e.st && decide (0 ≤ e.index ∧ e.index ≤ 160)
def evBytes (e : Ev) : List UInt8 := textL e.stream.data.toList ++ (vL e.version.toNat ++ (textL e.data.data.toList ++ (stL e.st ++ vL e.index.toNat)))
/-- An event as bytes; none: it is none. -/
def evL (e : Ev) : List UInt8 := if evOk e = true then evBytes e else []
def dEvent : Reader Ev := rb dText fun s => rb (dCount 1099511627776) fun v => rb dText fun d => rb dStamp fun st => rb (dCount 160) fun i =>
  rif (evOk ⟨strOf s, v, strOf d, st, i⟩) ⟨strOf s, v, strOf d, st, i⟩
theorem evOk_iff (e : Ev) : evOk e = true ↔ nameB e.stream = true ∧ (1 ≤ e.version ∧ e.version ≤ 1099511627776) ∧ e.data.size ≤ 1000 ∧ validB e.data = true ∧ stOk e.st = true ∧ (0 ≤ e.index ∧ e.index ≤ 160) := by
  unfold evOk
  simp only [Bool.and_eq_true, decide_eq_true_iff, and_assoc]
theorem rd_event : Rd dEvent := rd_text.bind fun _ => (rd_count _).bind fun _ => rd_text.bind fun _ => rd_stamp.bind fun _ => (rd_count _).bind fun _ => Rd.rif _ _
theorem eats_event : Eats dEvent := eats_text.bind fun _ => (eats_count _).less.bind fun _ => eats_text.less.bind fun _ => eats_stamp.less.bind fun _ => (eats_count _).less.bind fun _ => Less.rif _ _
theorem evL_some {e : Ev} (h : evOk e = true) : evL e = evBytes e := if_pos h
theorem evL_none {e : Ev} (h : evOk e = false) : evL e = [] := if_neg (by rw [h]; simp)
theorem evBytes_pos (e : Ev) : 0 < (evBytes e).length := by
  unfold evBytes textL
  have := vL_pos e.stream.data.toList.length
  simp only [List.length_append]
  omega
theorem evL_nil (e : Ev) : evL e = [] ↔ evOk e = false := by
  constructor
  · intro h
    cases hk : evOk e with
    | false => rfl
    | true =>
      rw [evL_some hk] at h
      have := evBytes_pos e
      rw [h] at this
      simp at this
  · exact evL_none
theorem dEvent_w {e : Ev} (h : evOk e = true) (hs : e.stream.size < 2 ^ 64) (q : List UInt8) : dEvent (evL e ++ q) = some (e, q) := by
  rw [evL_some h]
  have h2 := h
  rw [evOk_iff] at h2
  obtain ⟨_, h3, h4, _, h6, h7⟩ := h2
  unfold dEvent evBytes
  simp only [List.append_assoc]
  have hz1 : e.stream.data.toList.length < 2 ^ 64 := by rw [data_len]; exact hs
  have hz2 : e.data.data.toList.length < 2 ^ 64 := by
    rw [data_len]
    omega
  rw [rb_some (dText_t hz1 _), rb_some (dCount_v (by omega) (by omega) _), rb_some (dText_t hz2 _), rb_some (dStamp_w h6 _), rb_some (dCount_v (by omega) (by omega) _)]
  have e1 : (⟨strOf e.stream.data.toList, (e.version.toNat : Int), strOf e.data.data.toList, e.st, (e.index.toNat : Int)⟩ : Ev) = e := by
    rw [strOf_self, strOf_self]
    obtain ⟨a, b, c, d, i⟩ := e
    simp only at h3 h7
    simp only [Ev.mk.injEq, true_and]
    omega
  rw [e1, rif, if_pos h]
theorem dEvent_ok {l r : List UInt8} {e : Ev} (h : dEvent l = some (e, r)) : evOk e = true := by
  obtain ⟨_, _, _, h⟩ := rb_inv h
  obtain ⟨_, _, _, h⟩ := rb_inv h
  obtain ⟨_, _, _, h⟩ := rb_inv h
  obtain ⟨_, _, _, h⟩ := rb_inv h
  obtain ⟨_, _, _, h⟩ := rb_inv h
  obtain ⟨h1, h2, _⟩ := rif_inv h
  rw [← h2]
  exact h1
end Go.Proofs.YtheogchkelmeeaaDoor

/- Streams: how they lie, their sizes; what is written of them. Plain mathematics. No condition. -/
import Derived.Test.YthafeaclpcjjbaaDoorBatLaw
namespace Go.Proofs.YthafeaclpcjjbaaDoor
open Go.RowKit

/-- A stream's events and keys as they lie. -/
def SmIn (w : World) (B : Nat) (A A2 : Option Addr) (es : List Ev) (ks : List Kn) : Prop := Sl Ev.cells 7 w B A es ∧ Sl Kn.cells 5 w B A2 ks
theorem SmIn.g {w w' : World} {B : Nat} {A A2 : Option Addr} {es : List Ev} {ks : List Kn} (h : SmIn w B A A2 es ks) (hB : B ≤ w.heap.size) (hg : G w w') : SmIn w' B A A2 es ks := ⟨h.1.g hB hg, h.2.g hB hg⟩
theorem SmIn.more {w : World} {B B' : Nat} {A A2 : Option Addr} {es : List Ev} {ks : List Kn} (h : SmIn w B A A2 es ks) (hB : B ≤ B') : SmIn w B' A A2 es ks := ⟨h.1.more hB, h.2.more hB⟩
/-- A stream that is not too great. -/
def SmSmall (n : ByteArray) (es : List Ev) (ks : List Kn) : Prop := n.size ≤ 524288 ∧ (es.length ≤ 524289 ∧ ∀ e ∈ es, e.stream.size ≤ 524288 ∧ e.data.size ≤ 524288) ∧ ks.length ≤ 524289 ∧ ∀ k ∈ ks, k.key.size ≤ 524288
theorem text_len (s : ByteArray) : (textL s.data.toList).length ≤ s.size + 10 := by
  unfold textL
  rw [List.length_append, data_len]
  have := vL_len s.size
  omega
theorem st_len (s : St) : (stL s).length ≤ 30 := by
  unfold stL
  simp only [List.length_append]
  have := vL_len s.wall.toNat
  have := vL_len s.logic.toNat
  have := vL_len s.node.toNat
  omega
theorem evL_len (e : Ev) : (evL e).length ≤ e.stream.size + e.data.size + 80 := by
  unfold evL
  split
  · unfold evBytes
    simp only [List.length_append]
    have := text_len e.stream
    have := text_len e.data
    have := vL_len e.version.toNat
    have := vL_len e.index.toNat
    have := st_len e.st
    omega
  · simp
theorem knBytes_len (k : Kn) : (knBytes k).length ≤ k.key.size + 50 := by
  unfold knBytes
  simp only [List.length_append]
  have := text_len k.key
  have := vL_len k.first.toNat
  have := st_len k.st
  omega
/-- A stream's head: its name, how many events. -/
def smHead (n : ByteArray) (k : Nat) : List UInt8 := textL n.data.toList ++ vL k
theorem smL_bad {n : ByteArray} {es : List Ev} {ks : List Kn} (h : nameB n = false ∨ (∃ e ∈ es, smEv n e = false) ∨ ∃ k ∈ ks, knOk k = false) : smL ⟨n, es, ks⟩ = [] := by
  refine smL_no ?_
  cases hs : smOk ⟨n, es, ks⟩ with
  | false => rfl
  | true =>
    rw [smOk_iff] at hs
    simp only at hs
    rcases h with h | ⟨e, he, h⟩ | ⟨k, hk, h⟩
    · rw [hs.1] at h; cases h
    · have := hs.2.1 e he
      unfold smEv at h
      rw [this.1, decide_eq_true this.2] at h
      cases h
    · have := hs.2.2 k hk
      rw [this] at h
      cases h
theorem smL_all {n : ByteArray} {es : List Ev} {ks : List Kn} (h1 : nameB n = true) (h2 : ∀ e ∈ es, smEv n e = true) (h3 : ∀ k ∈ ks, knOk k = true) : smL ⟨n, es, ks⟩ = ((smHead n es.length ++ es.flatMap evL) ++ vL ks.length) ++ ks.flatMap knBytes ∧ smL ⟨n, es, ks⟩ ≠ [] := by
  have hs : smOk ⟨n, es, ks⟩ = true := by
    unfold smOk
    simp only [Bool.and_eq_true, List.all_eq_true]
    exact ⟨⟨h1, h2⟩, h3⟩
  constructor
  · rw [smL_ok hs]
    unfold smBytes smHead
    simp only [List.append_assoc]
  · rw [smL_ok hs]
    intro h
    have := smBytes_pos ⟨n, es, ks⟩
    rw [h] at this
    simp at this
theorem flatLe {α : Type} (f : α → List UInt8) (M : Nat) : ∀ (l : List α), (∀ x ∈ l, (f x).length ≤ M) → (l.flatMap f).length ≤ l.length * M
  | [], _ => by simp
  | x :: l, h => by
    have h1 := flatLe f M l fun y hy => h y (by simp [hy])
    have h2 := h x (by simp)
    rw [List.flatMap_cons, List.length_append, List.length_cons, Nat.succ_mul]
    omega
theorem smL_small {n : ByteArray} {es : List Ev} {ks : List Kn} (h : SmSmall n es ks) : (smL ⟨n, es, ks⟩).length ≤ 1099511627776 := by
  obtain ⟨h0, ⟨h1, h2⟩, h3, h4⟩ := h
  unfold smL
  split
  · unfold smBytes
    have a1 := flatLe evL 1048700 es fun e he => by
      have := evL_len e
      have := h2 e he
      omega
    have a2 := flatLe knBytes 524400 ks fun k hk => by
      have := knBytes_len k
      have := h4 k hk
      omega
    have b1 := Nat.mul_le_mul_right 1048700 h1
    have b2 := Nat.mul_le_mul_right 524400 h3
    have := text_len n
    have := vL_len es.length
    have := vL_len ks.length
    simp only [List.length_append]
    omega
  · simp
end Go.Proofs.YthafeaclpcjjbaaDoor

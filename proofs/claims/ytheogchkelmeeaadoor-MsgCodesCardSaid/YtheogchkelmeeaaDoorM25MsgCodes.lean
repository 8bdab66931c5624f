/- Several texts in one: Known, SmLaw. -/
import Derived.Test.YtheogchkelmeeaaDoorNameQMsgCodes
import Derived.Test.YtheogchkelmeeaaDoorM6MsgCodes
import Derived.Test.YtheogchkelmeeaaDoorBatLawQMsgCodes
/- event.known: what it answers. Conditions: texts of at most 2^30 bytes; the decoder's tables lie as the library lays them. -/
namespace Go.Proofs.YtheogchkelmeeaaDoor
open Go.RowKit

set_option maxRecDepth 100000 in
set_option maxHeartbeats 2000000 in
theorem known_any (key : ByteArray) (v x y z : Int) (w : World) (hs : key.size ≤ 1073741824) (hT : Tabs w) :
    Calls Tryd.prog 106 #[.agg #[.string key, .int .i64 v, .int .i64 x, .int .i64 y, .int .i64 z]] w fun e w' => e = .returned (.bool (knOk ⟨key, v, ⟨x, y, z⟩⟩)) ∧ G w w' := by
  have hk : ∀ w', G w w' → Calls Tryd.prog 116 #[.string key] w' fun e w'' => e = .returned (.bool (keyB key)) ∧ G w' w'' := fun w' hg => key_any key w' (by omega) (hT.g hg)
  have ho : ∀ w', Calls Tryd.prog 104 #[.agg #[.int .i64 x, .int .i64 y, .int .i64 z]] w' fun e w'' => e = .returned (.bool (stOk ⟨x, y, z⟩)) ∧ G w' w'' := fun w' => sound_any x y z w'
  unfold knOk
  simp only
  clear hT
  cases h1 : key.toList.isEmpty with
  | true =>
    go_enter Tryd.func106, Tryd.ntmps106
    go_wp2_with fail
    go_ret
    exact ⟨by simp, G.new _ _⟩
  | false =>
    cases h2 : keyB key with
    | false =>
      rw [h2] at hk
      go_enter Tryd.func106, Tryd.ntmps106
      go_wp2_with fail
      generalize hW0 : w.alloc (.cells #[.string key, .int .i64 v, .int .i64 x, .int .i64 y, .int .i64 z] 127) = W0
      have hz : w.heap.size + 0 < W0.heap.size := by rw [← hW0]; simp
      have hG0 : G w W0 := by rw [← hW0]; exact G.new _ _
      have r0 : W0.cell? ⟨w.heap.size, 0, none⟩ = some (.string key) := by rw [← hW0]; simp
      have r1 : W0.cell? ⟨w.heap.size, 1, none⟩ = some (.int .i64 v) := by rw [← hW0]; simp
      have r2 : W0.cell? ⟨w.heap.size, 2, none⟩ = some (.int .i64 x) := by rw [← hW0]; simp
      have r3 : W0.cell? ⟨w.heap.size, 3, none⟩ = some (.int .i64 y) := by rw [← hW0]; simp
      have r4 : W0.cell? ⟨w.heap.size, 4, none⟩ = some (.int .i64 z) := by rw [← hW0]; simp
      clear hW0
      have q0 : ∀ w', G W0 w' → w'.cell? ⟨w.heap.size, 0, none⟩ = some (.string key) := fun w' h => (h.cell (by omega)).trans r0
      have q1 : ∀ w', G W0 w' → w'.cell? ⟨w.heap.size, 1, none⟩ = some (.int .i64 v) := fun w' h => (h.cell (by omega)).trans r1
      have q2 : ∀ w', G W0 w' → w'.cell? ⟨w.heap.size, 2, none⟩ = some (.int .i64 x) := fun w' h => (h.cell (by omega)).trans r2
      have q3 : ∀ w', G W0 w' → w'.cell? ⟨w.heap.size, 3, none⟩ = some (.int .i64 y) := fun w' h => (h.cell (by omega)).trans r3
      have q4 : ∀ w', G W0 w' → w'.cell? ⟨w.heap.size, 4, none⟩ = some (.int .i64 z) := fun w' h => (h.cell (by omega)).trans r4
      clear r0 r1 r2 r3 r4
      refine (hk W0 hG0).mono ?_
      rintro e w1 ⟨rfl, hg1⟩
      go_wp2_with fail
      go_ret
      exact ⟨by simp, hG0.trans hg1⟩
    | true =>
      rw [h2] at hk
      by_cases h3 : 1 ≤ v
      case neg =>
        have t3 : decide (1 ≤ v) = false := decide_eq_false h3
        go_enter Tryd.func106, Tryd.ntmps106
        go_wp2_with fail
        generalize hW0 : w.alloc (.cells #[.string key, .int .i64 v, .int .i64 x, .int .i64 y, .int .i64 z] 127) = W0
        have hz : w.heap.size + 0 < W0.heap.size := by rw [← hW0]; simp
        have hG0 : G w W0 := by rw [← hW0]; exact G.new _ _
        have r0 : W0.cell? ⟨w.heap.size, 0, none⟩ = some (.string key) := by rw [← hW0]; simp
        have r1 : W0.cell? ⟨w.heap.size, 1, none⟩ = some (.int .i64 v) := by rw [← hW0]; simp
        have r2 : W0.cell? ⟨w.heap.size, 2, none⟩ = some (.int .i64 x) := by rw [← hW0]; simp
        have r3 : W0.cell? ⟨w.heap.size, 3, none⟩ = some (.int .i64 y) := by rw [← hW0]; simp
        have r4 : W0.cell? ⟨w.heap.size, 4, none⟩ = some (.int .i64 z) := by rw [← hW0]; simp
        clear hW0
        have q0 : ∀ w', G W0 w' → w'.cell? ⟨w.heap.size, 0, none⟩ = some (.string key) := fun w' h => (h.cell (by omega)).trans r0
        have q1 : ∀ w', G W0 w' → w'.cell? ⟨w.heap.size, 1, none⟩ = some (.int .i64 v) := fun w' h => (h.cell (by omega)).trans r1
        have q2 : ∀ w', G W0 w' → w'.cell? ⟨w.heap.size, 2, none⟩ = some (.int .i64 x) := fun w' h => (h.cell (by omega)).trans r2
        have q3 : ∀ w', G W0 w' → w'.cell? ⟨w.heap.size, 3, none⟩ = some (.int .i64 y) := fun w' h => (h.cell (by omega)).trans r3
        have q4 : ∀ w', G W0 w' → w'.cell? ⟨w.heap.size, 4, none⟩ = some (.int .i64 z) := fun w' h => (h.cell (by omega)).trans r4
        clear r0 r1 r2 r3 r4
        refine (hk W0 hG0).mono ?_
        rintro e w1 ⟨rfl, hg1⟩
        have g1 := q1 w1 hg1
        go_wp2_with fail
        go_ret
        exact ⟨ret_bool (by rw [decide_eq_false (by omega)]; rfl), hG0.trans hg1⟩
      by_cases h4 : v ≤ 1099511627776
      case neg =>
        have t4 : decide (v ≤ 1099511627776) = false := decide_eq_false h4
        go_enter Tryd.func106, Tryd.ntmps106
        go_wp2_with fail
        generalize hW0 : w.alloc (.cells #[.string key, .int .i64 v, .int .i64 x, .int .i64 y, .int .i64 z] 127) = W0
        have hz : w.heap.size + 0 < W0.heap.size := by rw [← hW0]; simp
        have hG0 : G w W0 := by rw [← hW0]; exact G.new _ _
        have r0 : W0.cell? ⟨w.heap.size, 0, none⟩ = some (.string key) := by rw [← hW0]; simp
        have r1 : W0.cell? ⟨w.heap.size, 1, none⟩ = some (.int .i64 v) := by rw [← hW0]; simp
        have r2 : W0.cell? ⟨w.heap.size, 2, none⟩ = some (.int .i64 x) := by rw [← hW0]; simp
        have r3 : W0.cell? ⟨w.heap.size, 3, none⟩ = some (.int .i64 y) := by rw [← hW0]; simp
        have r4 : W0.cell? ⟨w.heap.size, 4, none⟩ = some (.int .i64 z) := by rw [← hW0]; simp
        clear hW0
        have q0 : ∀ w', G W0 w' → w'.cell? ⟨w.heap.size, 0, none⟩ = some (.string key) := fun w' h => (h.cell (by omega)).trans r0
        have q1 : ∀ w', G W0 w' → w'.cell? ⟨w.heap.size, 1, none⟩ = some (.int .i64 v) := fun w' h => (h.cell (by omega)).trans r1
        have q2 : ∀ w', G W0 w' → w'.cell? ⟨w.heap.size, 2, none⟩ = some (.int .i64 x) := fun w' h => (h.cell (by omega)).trans r2
        have q3 : ∀ w', G W0 w' → w'.cell? ⟨w.heap.size, 3, none⟩ = some (.int .i64 y) := fun w' h => (h.cell (by omega)).trans r3
        have q4 : ∀ w', G W0 w' → w'.cell? ⟨w.heap.size, 4, none⟩ = some (.int .i64 z) := fun w' h => (h.cell (by omega)).trans r4
        clear r0 r1 r2 r3 r4
        refine (hk W0 hG0).mono ?_
        rintro e w1 ⟨rfl, hg1⟩
        have g1 := q1 w1 hg1
        go_wp2_with fail
        go_ret
        exact ⟨ret_bool (by rw [decide_eq_false (by omega)]; rfl), hG0.trans hg1⟩
      rw [show decide (1 ≤ v ∧ v ≤ 1099511627776) = true from decide_eq_true ⟨h3, h4⟩]
      generalize stOk ⟨x, y, z⟩ = so at *
      go_enter Tryd.func106, Tryd.ntmps106
      go_wp2_with fail
      generalize hW0 : w.alloc (.cells #[.string key, .int .i64 v, .int .i64 x, .int .i64 y, .int .i64 z] 127) = W0
      have hz : w.heap.size + 0 < W0.heap.size := by rw [← hW0]; simp
      have hG0 : G w W0 := by rw [← hW0]; exact G.new _ _
      have r0 : W0.cell? ⟨w.heap.size, 0, none⟩ = some (.string key) := by rw [← hW0]; simp
      have r1 : W0.cell? ⟨w.heap.size, 1, none⟩ = some (.int .i64 v) := by rw [← hW0]; simp
      have r2 : W0.cell? ⟨w.heap.size, 2, none⟩ = some (.int .i64 x) := by rw [← hW0]; simp
      have r3 : W0.cell? ⟨w.heap.size, 3, none⟩ = some (.int .i64 y) := by rw [← hW0]; simp
      have r4 : W0.cell? ⟨w.heap.size, 4, none⟩ = some (.int .i64 z) := by rw [← hW0]; simp
      clear hW0
      have q0 : ∀ w', G W0 w' → w'.cell? ⟨w.heap.size, 0, none⟩ = some (.string key) := fun w' h => (h.cell (by omega)).trans r0
      have q1 : ∀ w', G W0 w' → w'.cell? ⟨w.heap.size, 1, none⟩ = some (.int .i64 v) := fun w' h => (h.cell (by omega)).trans r1
      have q2 : ∀ w', G W0 w' → w'.cell? ⟨w.heap.size, 2, none⟩ = some (.int .i64 x) := fun w' h => (h.cell (by omega)).trans r2
      have q3 : ∀ w', G W0 w' → w'.cell? ⟨w.heap.size, 3, none⟩ = some (.int .i64 y) := fun w' h => (h.cell (by omega)).trans r3
      have q4 : ∀ w', G W0 w' → w'.cell? ⟨w.heap.size, 4, none⟩ = some (.int .i64 z) := fun w' h => (h.cell (by omega)).trans r4
      clear r0 r1 r2 r3 r4
      refine (hk W0 hG0).mono ?_
      rintro e w1 ⟨rfl, hg1⟩
      have g1 := q1 w1 hg1
      have g2 := q2 w1 hg1
      have g3 := q3 w1 hg1
      have g4 := q4 w1 hg1
      go_wp2_with fail
      refine (ho w1).mono ?_
      rintro e w2 ⟨rfl, hg2⟩
      go_wp2_with fail
      go_ret
      exact ⟨by simp, (hG0.trans hg1).trans hg2⟩
end Go.Proofs.YtheogchkelmeeaaDoor
/- Streams: how they lie, their sizes; what is written of them. Plain mathematics. No condition. -/
namespace Go.Proofs.YtheogchkelmeeaaDoor
open Go.RowKit

/-- A stream's events and keys as they lie. -/
def SmIn (w : World) (B : Nat) (A A2 : Option Addr) (es : List Ev) (ks : List Kn) : Prop := Sl Ev.cells 7 w B A es ∧ Sl Kn.cells 5 w B A2 ks
theorem SmIn.g {w w' : World} {B : Nat} {A A2 : Option Addr} {es : List Ev} {ks : List Kn} (h : SmIn w B A A2 es ks) (hB : B ≤ w.heap.size) (hg : G w w') : SmIn w' B A A2 es ks := ⟨h.1.g hB hg, h.2.g hB hg⟩
theorem SmIn.more {w : World} {B B' : Nat} {A A2 : Option Addr} {es : List Ev} {ks : List Kn} (h : SmIn w B A A2 es ks) (hB : B ≤ B') : SmIn w B' A A2 es ks := ⟨h.1.more hB, h.2.more hB⟩
/-- A stream that is not too great. -/
def SmSmall (n : ByteArray) (es : List Ev) (ks : List Kn) : Prop := n.size ≤ 524288 ∧ (es.length ≤ 524289 ∧ ∀ e ∈ es, e.stream.size ≤ 524288 ∧ e.data.size ≤ 524288) ∧ ks.length ≤ 524289 ∧ ∀ k ∈ ks, k.key.size ≤ 524288
theorem text_len (s : ByteArray) : (textL s.data.toList).length ≤ s.size + 10 := by
  unfold textL
  rw [List.length_append, data_len]
  have := vL_len s.size
  omega
theorem st_len (s : St) : (stL s).length ≤ 30 := by
  unfold stL
  simp only [List.length_append]
  have := vL_len s.wall.toNat
  have := vL_len s.logic.toNat
  have := vL_len s.node.toNat
  omega
theorem evL_len (e : Ev) : (evL e).length ≤ e.stream.size + e.data.size + 80 := by
  unfold evL
  split
  · unfold evBytes
    simp only [List.length_append]
    have := text_len e.stream
    have := text_len e.data
    have := vL_len e.version.toNat
    have := vL_len e.index.toNat
    have := st_len e.st
    omega
  · simp
theorem knBytes_len (k : Kn) : (knBytes k).length ≤ k.key.size + 50 := by
  unfold knBytes
  simp only [List.length_append]
  have := text_len k.key
  have := vL_len k.first.toNat
  have := st_len k.st
  omega
/-- A stream's head: its name, how many events. -/
def smHead (n : ByteArray) (k : Nat) : List UInt8 := textL n.data.toList ++ vL k
theorem smL_bad {n : ByteArray} {es : List Ev} {ks : List Kn} (h : nameB n = false ∨ (∃ e ∈ es, smEv n e = false) ∨ ∃ k ∈ ks, knOk k = false) : smL ⟨n, es, ks⟩ = [] := by
  refine smL_no ?_
  cases hs : smOk ⟨n, es, ks⟩ with
  | false => rfl
  | true =>
    rw [smOk_iff] at hs
    simp only at hs
    rcases h with h | ⟨e, he, h⟩ | ⟨k, hk, h⟩
    · rw [hs.1] at h; cases h
    · have := hs.2.1 e he
      unfold smEv at h
      rw [this.1, decide_eq_true this.2] at h
      cases h
    · have := hs.2.2 k hk
      rw [this] at h
      cases h
theorem smL_all {n : ByteArray} {es : List Ev} {ks : List Kn} (h1 : nameB n = true) (h2 : ∀ e ∈ es, smEv n e = true) (h3 : ∀ k ∈ ks, knOk k = true) : smL ⟨n, es, ks⟩ = ((smHead n es.length ++ es.flatMap evL) ++ vL ks.length) ++ ks.flatMap knBytes ∧ smL ⟨n, es, ks⟩ ≠ [] := by
  have hs : smOk ⟨n, es, ks⟩ = true := by
    unfold smOk
    simp only [Bool.and_eq_true, List.all_eq_true]
    exact ⟨⟨h1, h2⟩, h3⟩
  constructor
  · rw [smL_ok hs]
    unfold smBytes smHead
    simp only [List.append_assoc]
  · rw [smL_ok hs]
    intro h
    have := smBytes_pos ⟨n, es, ks⟩
    rw [h] at this
    simp at this
theorem flatLe {α : Type} (f : α → List UInt8) (M : Nat) : ∀ (l : List α), (∀ x ∈ l, (f x).length ≤ M) → (l.flatMap f).length ≤ l.length * M
  | [], _ => by simp
  | x :: l, h => by
    have h1 := flatLe f M l fun y hy => h y (by simp [hy])
    have h2 := h x (by simp)
    rw [List.flatMap_cons, List.length_append, List.length_cons, Nat.succ_mul]
    omega
theorem smL_small {n : ByteArray} {es : List Ev} {ks : List Kn} (h : SmSmall n es ks) : (smL ⟨n, es, ks⟩).length ≤ 1099511627776 := by
  obtain ⟨h0, ⟨h1, h2⟩, h3, h4⟩ := h
  unfold smL
  split
  · unfold smBytes
    have a1 := flatLe evL 1048700 es fun e he => by
      have := evL_len e
      have := h2 e he
      omega
    have a2 := flatLe knBytes 524400 ks fun k hk => by
      have := knBytes_len k
      have := h4 k hk
      omega
    have b1 := Nat.mul_le_mul_right 1048700 h1
    have b2 := Nat.mul_le_mul_right 524400 h3
    have := text_len n
    have := vL_len es.length
    have := vL_len ks.length
    simp only [List.length_append]
    omega
  · simp
end Go.Proofs.YtheogchkelmeeaaDoor

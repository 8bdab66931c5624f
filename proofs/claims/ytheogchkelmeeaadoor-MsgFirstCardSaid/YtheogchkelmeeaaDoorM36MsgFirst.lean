/- Several texts in one: ListsOwn, IntElem, Known. -/
import Derived.Test.YtheogchkelmeeaaDoorM35MsgFirst
import Derived.Test.YtheogchkelmeeaaDoorM30MsgFirst
import Derived.Test.YtheogchkelmeeaaDoorM3MsgFirst
import Derived.Test.YtheogchkelmeeaaDoorNameQMsgFirst
import Derived.Test.YtheogchkelmeeaaDoorM6MsgFirst
import Derived.Test.YtheogchkelmeeaaDoorM20MsgFirst
/- Lists of numbers and of streams that a reading makes. No condition. -/
namespace Go.Proofs.YtheogchkelmeeaaDoor
open Go.RowKit

def ofN (l : List Nat) : List Int := l.map fun v : Nat => (v : Int)
theorem ofN_snoc (ns : List Nat) (v : Nat) : ofN ns ++ [(v : Int)] = ofN (ns ++ [v]) := by simp [ofN]
theorem ofN_len (ns : List Nat) : (ofN ns).length = ns.length := by simp [ofN]
structure SmsOwn (base : Nat) (As : Option Addr) (cs : Nat) (ss : List SmM) (w : World) : Prop where
  row : OwnL 118 3 SmM.cells w base (.slice As ss.length cs) ss
  each : ∀ s ∈ ss, SmOwn base s.Ae s.ce s.es s.Ak s.ck s.ks w
theorem SmsOwn.but {S : Nat → Prop} {base cs : Nat} {As : Option Addr} {ss : List SmM} {w w' : World} (h : SmsOwn base As cs ss w) (hb : But S w w')
    (hS : ∀ (k : Nat) (cs : Array Value) (t : TypeId), S k → w.heap[k]? = some (.cells cs t (0, 0)) → t ≠ 118 ∧ t ≠ 110 ∧ t ≠ 127) : SmsOwn base As cs ss w' :=
  ⟨h.row.but' hb fun k hk hSk => by
    obtain ⟨_, _, c, hc⟩ := h.row.blk hk
    exact (hS k c _ hSk hc).1 rfl, fun s hs => (h.each s hs).but hb fun k c t hSk hc => (hS k c t hSk hc).2⟩
theorem SmsOwn.ins {base cs : Nat} {As : Option Addr} {ss : List SmM} {w : World} (h : SmsOwn base As cs ss w) : SmsIn w w.heap.size As ss := ⟨h.row.self SmM.cells_len, fun s hs => (h.each s hs).ins⟩
theorem sms_elem : IsElem Tryd.prog 32 118 3 64 SmM.cells :=
  isElem_of (z := .agg #[.string ⟨#[]⟩, .slice none 0 0, .slice none 0 0]) Tryd.underlying32 (by kernel_rfl) rfl (by decide) SmM.cells_len (fun x u hu => by simp [SmM.cells] at hu; rcases hu with rfl | rfl | rfl <;> rfl)
end Go.Proofs.YtheogchkelmeeaaDoor
/- Rows of numbers. No condition. -/
namespace Go.Proofs.YtheogchkelmeeaaDoor
open Go.RowKit

theorem int_elem10 : IsElem Tryd.prog 29 3 1 8 intC :=
  isElem_of (z := .int .i64 0) Tryd.underlying29 (by kernel_rfl) rfl (by decide) intC_len (fun x u hu => by simp [intC] at hu; subst hu; rfl)
end Go.Proofs.YtheogchkelmeeaaDoor
/- event.known: what it answers. Conditions: texts of at most 2^30 bytes; the decoder's tables lie as the library lays them. -/
namespace Go.Proofs.YtheogchkelmeeaaDoor
open Go.RowKit

set_option maxRecDepth 100000 in
set_option maxHeartbeats 2000000 in
theorem known_any (key : ByteArray) (v x y z : Int) (w : World) (hs : key.size ≤ 1073741824) (hT : Tabs w) :
    Calls Tryd.prog 106 #[.agg #[.string key, .int .i64 v, .int .i64 x, .int .i64 y, .int .i64 z]] w fun e w' => e = .returned (.bool (knOk ⟨key, v, ⟨x, y, z⟩⟩)) ∧ G w w' := by
  have hk : ∀ w', G w w' → Calls Tryd.prog 116 #[.string key] w' fun e w'' => e = .returned (.bool (keyB key)) ∧ G w' w'' := fun w' hg => key_any key w' (by omega) (hT.g hg)
  have ho : ∀ w', Calls Tryd.prog 104 #[.agg #[.int .i64 x, .int .i64 y, .int .i64 z]] w' fun e w'' => e = .returned (.bool (stOk ⟨x, y, z⟩)) ∧ G w' w'' := fun w' => sound_any x y z w'
  unfold knOk
  simp only
  clear hT
  cases h1 : key.toList.isEmpty with
  | true =>
    go_enter Tryd.func106, Tryd.ntmps106
    go_wp2_with fail
    go_ret
    exact ⟨by simp, G.new _ _⟩
  | false =>
    cases h2 : keyB key with
    | false =>
      rw [h2] at hk
      go_enter Tryd.func106, Tryd.ntmps106
      go_wp2_with fail
      generalize hW0 : w.alloc (.cells #[.string key, .int .i64 v, .int .i64 x, .int .i64 y, .int .i64 z] 127) = W0
      have hz : w.heap.size + 0 < W0.heap.size := by rw [← hW0]; simp
      have hG0 : G w W0 := by rw [← hW0]; exact G.new _ _
      have r0 : W0.cell? ⟨w.heap.size, 0, none⟩ = some (.string key) := by rw [← hW0]; simp
      have r1 : W0.cell? ⟨w.heap.size, 1, none⟩ = some (.int .i64 v) := by rw [← hW0]; simp
      have r2 : W0.cell? ⟨w.heap.size, 2, none⟩ = some (.int .i64 x) := by rw [← hW0]; simp
      have r3 : W0.cell? ⟨w.heap.size, 3, none⟩ = some (.int .i64 y) := by rw [← hW0]; simp
      have r4 : W0.cell? ⟨w.heap.size, 4, none⟩ = some (.int .i64 z) := by rw [← hW0]; simp
      clear hW0
      have q0 : ∀ w', G W0 w' → w'.cell? ⟨w.heap.size, 0, none⟩ = some (.string key) := fun w' h => (h.cell (by omega)).trans r0
      have q1 : ∀ w', G W0 w' → w'.cell? ⟨w.heap.size, 1, none⟩ = some (.int .i64 v) := fun w' h => (h.cell (by omega)).trans r1
      have q2 : ∀ w', G W0 w' → w'.cell? ⟨w.heap.size, 2, none⟩ = some (.int .i64 x) := fun w' h => (h.cell (by omega)).trans r2
      have q3 : ∀ w', G W0 w' → w'.cell? ⟨w.heap.size, 3, none⟩ = some (.int .i64 y) := fun w' h => (h.cell (by omega)).trans r3
      have q4 : ∀ w', G W0 w' → w'.cell? ⟨w.heap.size, 4, none⟩ = some (.int .i64 z) := fun w' h => (h.cell (by omega)).trans r4
      clear r0 r1 r2 r3 r4
      refine (hk W0 hG0).mono ?_
      rintro e w1 ⟨rfl, hg1⟩
      go_wp2_with fail
      go_ret
      exact ⟨by simp, hG0.trans hg1⟩
    | true =>
      rw [h2] at hk
      by_cases h3 : 1 ≤ v
      case neg =>
        have t3 : decide (1 ≤ v) = false := decide_eq_false h3
        go_enter Tryd.func106, Tryd.ntmps106
        go_wp2_with fail
        generalize hW0 : w.alloc (.cells #[.string key, .int .i64 v, .int .i64 x, .int .i64 y, .int .i64 z] 127) = W0
        have hz : w.heap.size + 0 < W0.heap.size := by rw [← hW0]; simp
        have hG0 : G w W0 := by rw [← hW0]; exact G.new _ _
        have r0 : W0.cell? ⟨w.heap.size, 0, none⟩ = some (.string key) := by rw [← hW0]; simp
        have r1 : W0.cell? ⟨w.heap.size, 1, none⟩ = some (.int .i64 v) := by rw [← hW0]; simp
        have r2 : W0.cell? ⟨w.heap.size, 2, none⟩ = some (.int .i64 x) := by rw [← hW0]; simp
        have r3 : W0.cell? ⟨w.heap.size, 3, none⟩ = some (.int .i64 y) := by rw [← hW0]; simp
        have r4 : W0.cell? ⟨w.heap.size, 4, none⟩ = some (.int .i64 z) := by rw [← hW0]; simp
        clear hW0
        have q0 : ∀ w', G W0 w' → w'.cell? ⟨w.heap.size, 0, none⟩ = some (.string key) := fun w' h => (h.cell (by omega)).trans r0
        have q1 : ∀ w', G W0 w' → w'.cell? ⟨w.heap.size, 1, none⟩ = some (.int .i64 v) := fun w' h => (h.cell (by omega)).trans r1
        have q2 : ∀ w', G W0 w' → w'.cell? ⟨w.heap.size, 2, none⟩ = some (.int .i64 x) := fun w' h => (h.cell (by omega)).trans r2
        have q3 : ∀ w', G W0 w' → w'.cell? ⟨w.heap.size, 3, none⟩ = some (.int .i64 y) := fun w' h => (h.cell (by omega)).trans r3
        have q4 : ∀ w', G W0 w' → w'.cell? ⟨w.heap.size, 4, none⟩ = some (.int .i64 z) := fun w' h => (h.cell (by omega)).trans r4
        clear r0 r1 r2 r3 r4
        refine (hk W0 hG0).mono ?_
        rintro e w1 ⟨rfl, hg1⟩
        have g1 := q1 w1 hg1
        go_wp2_with fail
        go_ret
        exact ⟨ret_bool (by rw [decide_eq_false (by omega)]; rfl), hG0.trans hg1⟩
      by_cases h4 : v ≤ 1099511627776
      case neg =>
        have t4 : decide (v ≤ 1099511627776) = false := decide_eq_false h4
        go_enter Tryd.func106, Tryd.ntmps106
        go_wp2_with fail
        generalize hW0 : w.alloc (.cells #[.string key, .int .i64 v, .int .i64 x, .int .i64 y, .int .i64 z] 127) = W0
        have hz : w.heap.size + 0 < W0.heap.size := by rw [← hW0]; simp
        have hG0 : G w W0 := by rw [← hW0]; exact G.new _ _
        have r0 : W0.cell? ⟨w.heap.size, 0, none⟩ = some (.string key) := by rw [← hW0]; simp
        have r1 : W0.cell? ⟨w.heap.size, 1, none⟩ = some (.int .i64 v) := by rw [← hW0]; simp
        have r2 : W0.cell? ⟨w.heap.size, 2, none⟩ = some (.int .i64 x) := by rw [← hW0]; simp
        have r3 : W0.cell? ⟨w.heap.size, 3, none⟩ = some (.int .i64 y) := by rw [← hW0]; simp
        have r4 : W0.cell? ⟨w.heap.size, 4, none⟩ = some (.int .i64 z) := by rw [← hW0]; simp
        clear hW0
        have q0 : ∀ w', G W0 w' → w'.cell? ⟨w.heap.size, 0, none⟩ = some (.string key) := fun w' h => (h.cell (by omega)).trans r0
        have q1 : ∀ w', G W0 w' → w'.cell? ⟨w.heap.size, 1, none⟩ = some (.int .i64 v) := fun w' h => (h.cell (by omega)).trans r1
        have q2 : ∀ w', G W0 w' → w'.cell? ⟨w.heap.size, 2, none⟩ = some (.int .i64 x) := fun w' h => (h.cell (by omega)).trans r2
        have q3 : ∀ w', G W0 w' → w'.cell? ⟨w.heap.size, 3, none⟩ = some (.int .i64 y) := fun w' h => (h.cell (by omega)).trans r3
        have q4 : ∀ w', G W0 w' → w'.cell? ⟨w.heap.size, 4, none⟩ = some (.int .i64 z) := fun w' h => (h.cell (by omega)).trans r4
        clear r0 r1 r2 r3 r4
        refine (hk W0 hG0).mono ?_
        rintro e w1 ⟨rfl, hg1⟩
        have g1 := q1 w1 hg1
        go_wp2_with fail
        go_ret
        exact ⟨ret_bool (by rw [decide_eq_false (by omega)]; rfl), hG0.trans hg1⟩
      rw [show decide (1 ≤ v ∧ v ≤ 1099511627776) = true from decide_eq_true ⟨h3, h4⟩]
      generalize stOk ⟨x, y, z⟩ = so at *
      go_enter Tryd.func106, Tryd.ntmps106
      go_wp2_with fail
      generalize hW0 : w.alloc (.cells #[.string key, .int .i64 v, .int .i64 x, .int .i64 y, .int .i64 z] 127) = W0
      have hz : w.heap.size + 0 < W0.heap.size := by rw [← hW0]; simp
      have hG0 : G w W0 := by rw [← hW0]; exact G.new _ _
      have r0 : W0.cell? ⟨w.heap.size, 0, none⟩ = some (.string key) := by rw [← hW0]; simp
      have r1 : W0.cell? ⟨w.heap.size, 1, none⟩ = some (.int .i64 v) := by rw [← hW0]; simp
      have r2 : W0.cell? ⟨w.heap.size, 2, none⟩ = some (.int .i64 x) := by rw [← hW0]; simp
      have r3 : W0.cell? ⟨w.heap.size, 3, none⟩ = some (.int .i64 y) := by rw [← hW0]; simp
      have r4 : W0.cell? ⟨w.heap.size, 4, none⟩ = some (.int .i64 z) := by rw [← hW0]; simp
      clear hW0
      have q0 : ∀ w', G W0 w' → w'.cell? ⟨w.heap.size, 0, none⟩ = some (.string key) := fun w' h => (h.cell (by omega)).trans r0
      have q1 : ∀ w', G W0 w' → w'.cell? ⟨w.heap.size, 1, none⟩ = some (.int .i64 v) := fun w' h => (h.cell (by omega)).trans r1
      have q2 : ∀ w', G W0 w' → w'.cell? ⟨w.heap.size, 2, none⟩ = some (.int .i64 x) := fun w' h => (h.cell (by omega)).trans r2
      have q3 : ∀ w', G W0 w' → w'.cell? ⟨w.heap.size, 3, none⟩ = some (.int .i64 y) := fun w' h => (h.cell (by omega)).trans r3
      have q4 : ∀ w', G W0 w' → w'.cell? ⟨w.heap.size, 4, none⟩ = some (.int .i64 z) := fun w' h => (h.cell (by omega)).trans r4
      clear r0 r1 r2 r3 r4
      refine (hk W0 hG0).mono ?_
      rintro e w1 ⟨rfl, hg1⟩
      have g1 := q1 w1 hg1
      have g2 := q2 w1 hg1
      have g3 := q3 w1 hg1
      have g4 := q4 w1 hg1
      go_wp2_with fail
      refine (ho w1).mono ?_
      rintro e w2 ⟨rfl, hg2⟩
      go_wp2_with fail
      go_ret
      exact ⟨by simp, (hG0.trans hg1).trans hg2⟩
end Go.Proofs.YtheogchkelmeeaaDoor

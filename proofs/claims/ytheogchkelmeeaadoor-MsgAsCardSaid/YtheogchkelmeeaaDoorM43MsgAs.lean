/- Several texts in one: CutLaw, BulkLaw. -/
import Derived.Test.YtheogchkelmeeaaDoorBatEncQMsgAs
import Derived.Test.YtheogchkelmeeaaDoorAlikeSmQMsgAs
import Derived.Test.YtheogchkelmeeaaDoorM42MsgAs
/- A first part of bytes: what readers say of it, how it is cut; what the small bulks say of the written bytes' lengths. No condition. -/
namespace Go.Proofs.YtheogchkelmeeaaDoor
open Go.RowKit

theorem rd_cut {α : Type} {d : Reader α} (hd : Rd d) {l : List UInt8} {x : α} (h : d l = some (x, [])) {k : Nat} (hk : k < l.length) : d (l.take k) = none := by
  cases hc : d (l.take k) with
  | none => rfl
  | some y =>
    obtain ⟨y, r⟩ := y
    have h2 := hd.app _ _ (l.drop k) _ hc
    rw [List.take_append_drop, h] at h2
    simp only [Option.some.injEq, Prod.mk.injEq] at h2
    have h3 := congrArg List.length h2.2
    rw [List.length_append, List.length_drop, List.length_nil] at h3
    omega
theorem Sl.first {α : Type} {f : α → List Value} {sz : Nat} {w : World} {B : Nat} {A : Option Addr} {xs : List α} (h : Sl f sz w B A xs) (k : Nat) : Sl f sz w B A (xs.take k) := fun hn => by
  obtain ⟨b, o, e, hb, hc⟩ := h (by rintro rfl; simp at hn)
  refine ⟨b, o, e, hb, fun i x hx => hc i x ?_⟩
  have hi : i < k := by
    have := (List.getElem?_eq_some_iff.1 hx).1
    rw [List.length_take] at this
    omega
  rwa [List.getElem?_take_of_lt hi] at hx
theorem run_front {w0 : World} {B : Nat} {A : Option Addr} {l : List UInt8} (hs : Sl byteC 1 w0 B A l) (hl : l ≠ []) (c k : Nat) (hk : k ≤ c) (w : World) : (Instr.sliceAt 50 (.slice A l.length c) none (some (.int .i64 k)) none).run Tryd.prog w = .ok (.slice A k c) w := by
  have ht : Tryd.prog.underlying 50 = some (.slice (Tryd.prog.elem 50)) := by kernel_rfl
  have hsz : ∀ w, (Go.sizeOf (Tryd.prog.elem 50)).run Tryd.prog w = .ok 1 w := fun w => by kernel_rfl
  obtain ⟨b, o, rfl, _⟩ := hs hl
  rw [run_sliceAt_slice _ _ _ _ _ _ ht, run_slice_h w 50 _ _ c ht .i64 k (by omega) (by omega), hsz]
  simp [Result.andThen, sliced, Addr.add_lit]

/-! How long what is written may be. -/
theorem sum_nn : ∀ {l : List Int}, (∀ x ∈ l, 0 ≤ x) → 0 ≤ l.sum
  | [], _ => by simp
  | x :: l, h => by
    have h1 := sum_nn (l := l) fun y hy => h y (by simp [hy])
    have h2 := h x (by simp)
    rw [List.sum_cons]
    omega
theorem evBulkTo_sum {top : Int} (ht : top < 1099511627776) : ∀ (l : List Ev) (n : Int), evBulkTo top n l ≤ top → n + (l.map fun e => (e.stream.size : Int) + e.data.size).sum ≤ evBulkTo top n l
  | [], n, _ => by simp [evBulkTo]
  | m :: l, n, h => by
    unfold evBulkTo at h ⊢
    split at h
    · rename_i hle
      rw [if_pos hle]
      have h1 := evBulkTo_sum ht l _ h
      have h0 : 0 ≤ (l.map fun e => (e.stream.size : Int) + e.data.size).sum := sum_nn fun x hx => by
        obtain ⟨e, _, rfl⟩ := List.mem_map.1 hx
        omega
      have h2 := sumTo_up (n := n) ht (l := [(m.stream.size : Int), (m.data.size : Int)]) (by simp) (by omega : _ ≤ top)
      have h3 : sumTo n [(m.stream.size : Int), (m.data.size : Int)] = n + m.stream.size + m.data.size := by
        simp only [List.sum_cons, List.sum_nil, Int.add_zero] at h2
        unfold sumTo
        rw [if_pos (by omega)]
        unfold sumTo
        rw [if_pos (by omega)]
        rfl
      rw [h3] at h1 ⊢
      rw [List.map_cons, List.sum_cons]
      omega
    · omega
theorem upTo_sum {top : Int} (ht : top < 1099511627776) : ∀ (l : List Int) (n : Int), (∀ m ∈ l, 0 ≤ m) → upTo top n l ≤ top → n + l.sum ≤ top
  | [], n, _, h => by simpa [upTo] using h
  | m :: l, n, hl, h => by
    unfold upTo at h
    have hm := hl m (by simp)
    split at h
    · have h1 := upTo_sum ht l _ (fun k hk => hl k (by simp [hk])) h
      have h0 : 0 ≤ l.sum := sum_nn fun x hx => hl x (by simp [hx])
      have h3 : sumTo n [m] = n + m := by
        have h2 := sumTo_up (n := n) ht (l := [m]) (by simpa using hm) (by omega : _ ≤ top)
        simp only [List.sum_cons, List.sum_nil, Int.add_zero] at h2
        unfold sumTo
        rw [if_pos (by omega)]
        rfl
      rw [h3] at h1
      rw [List.sum_cons]
      omega
    · omega
theorem flat_sum {α : Type} (f : α → List UInt8) (g : α → Int) (h : ∀ x, ((f x).length : Int) ≤ g x) : ∀ l : List α, ((l.flatMap f).length : Int) ≤ (l.map g).sum
  | [] => by simp
  | x :: l => by
    have h1 := flat_sum f g h l
    have h2 := h x
    rw [List.flatMap_cons, List.length_append, List.map_cons, List.sum_cons]
    omega
theorem sum_plus {α : Type} (g : α → Int) (c : Int) : ∀ l : List α, (l.map fun x => g x + c).sum = (l.map g).sum + l.length * c
  | [] => by simp
  | x :: l => by
    rw [List.map_cons, List.map_cons, List.sum_cons, List.sum_cons, sum_plus g c l, List.length_cons, Int.natCast_add, Int.add_mul]
    omega
theorem smL_fine {s : SmM} (h : smsBulk 6000 [s] ≤ 6000) : (smL s.sm).length ≤ 500000 := by
  unfold smsBulk smsTo at h
  split at h
  · unfold smsTo at h
    have hks : ∀ m ∈ s.ks.map fun k => (k.key.size : Int), (0 : Int) ≤ m := fun m hm => by simp at hm; obtain ⟨k, _, rfl⟩ := hm; omega
    have h2 := upTo_sum (by omega) _ _ hks h
    have h20 : 0 ≤ (s.ks.map fun k => (k.key.size : Int)).sum := sum_nn hks
    have he := (evBulk_le 6000 s.es).1
    have h3 := sumTo_up (top := 6000) (by omega) (l := [(s.name.size : Int), evBulk 6000 s.es, (s.ks.length : Int)]) (n := sumTo 0 [(([s] : List SmM).length : Int)]) (by simp; omega) (by omega)
    have h30 : 0 ≤ sumTo 0 [(([s] : List SmM).length : Int)] := sumTo_pos (by simp) (by omega)
    simp only [List.sum_cons, List.sum_nil, Int.add_zero] at h3
    have h31 := sumTo_pos (l := [(s.name.size : Int), evBulk 6000 s.es, (s.ks.length : Int)]) (by simp; omega) h30
    have h4 : evBulkTo 6000 (sumTo 0 [(s.es.length : Int)]) s.es ≤ 6000 := by
      have : evBulk 6000 s.es ≤ 6000 := by omega
      exact this
    have h5 : sumTo 0 [(s.es.length : Int)] + (s.es.map fun e => (e.stream.size : Int) + e.data.size).sum ≤ evBulk 6000 s.es := evBulkTo_sum (by omega) _ _ h4
    have h50 : 0 ≤ (s.es.map fun e => (e.stream.size : Int) + e.data.size).sum := sum_nn fun x hx => by
      obtain ⟨e, _, rfl⟩ := List.mem_map.1 hx
      omega
    have h6 := sumTo_up (top := 6000) (by omega) (l := [(s.es.length : Int)]) (n := 0) (by simp) (by omega)
    simp only [List.sum_cons, List.sum_nil, Int.add_zero] at h6
    have h7 : sumTo 0 [(s.es.length : Int)] = s.es.length := by
      unfold sumTo
      rw [if_pos (by omega)]
      unfold sumTo
      omega
    unfold smL
    split
    · unfold smBytes SmM.sm
      simp only [List.length_append]
      have a1 := flat_sum evL (fun e => (e.stream.size : Int) + e.data.size + 80) (fun e => by have := evL_len e; omega) s.es
      have a2 := flat_sum knBytes (fun k => (k.key.size : Int) + 50) (fun k => by have := knBytes_len k; omega) s.ks
      rw [sum_plus] at a1 a2
      have := text_len s.name
      have := vL_len s.es.length
      have := vL_len s.ks.length
      omega
    · simp
  · exfalso
    rename_i hn
    apply hn
    unfold sumTo
    split <;> simp [sumTo] at *
theorem batL_fine {key : ByteArray} {ps : List PutM} (h : batchOf 6000 key ps ≤ 6000) : (batL key (ps.map PutM.p)).length ≤ 500000 := by
  by_cases hc : chkN key (ps.map PutM.p) = 0
  · have h1 := chk_small hc
    rw [List.length_map] at h1
    unfold batchOf at h
    have b1 := bulkTo_small (by omega) _ _ h
    have b2 := sumTo_le_two (by omega) (by omega) (by omega) b1.1
    have b3 := b1.2 (sumTo_pos (l := [(key.size : Int), (ps.length : Int)]) (by simp) (by omega))
    rw [batL_ok hc]
    unfold batBytes
    have h2 := flatLe putBytes 30000 (ps.map PutM.p) fun p hp => by
      obtain ⟨m, hm, rfl⟩ := List.mem_map.1 hp
      have h3 := h1.2 _ hp
      have h4 := (b3 m hm).1
      have h5 := texts_len m.p.data 1000 h3.2.1
      have h6 := textL_len m.p.stream
      have h7 : (m.p.stream.size : Int) ≤ 6000 := h4
      have h8 := vL_len (zigN m.p.expect)
      have h9 := vL_len m.p.data.length
      have h10 := Nat.mul_le_mul_right 1010 h3.1
      unfold putBytes
      simp only [List.length_append]
      omega
    rw [List.length_map] at h2
    have h3 := textL_len key
    have h4 := vL_len (ps.map PutM.p).length
    simp only [List.length_append]
    have h5 := Nat.mul_le_mul_right 30000 h1.1
    omega
  · rw [batL_no hc]
    simp
end Go.Proofs.YtheogchkelmeeaaDoor
/- What penstockalike's sums tell of batches and streams. Plain mathematics. No condition. -/
namespace Go.Proofs.YtheogchkelmeeaaDoor
open Go.RowKit

theorem bulkTo_le (top n : Int) (h0 : 0 ≤ n) (h : n ≤ 1099511627776) : ∀ l : List PutM, 0 ≤ bulkTo top n l ∧ bulkTo top n l ≤ 1099511627776 := by
  intro l
  induction l generalizing n with
  | nil => exact ⟨h0, h⟩
  | cons p l ih =>
    unfold bulkTo
    split
    · have h1 := totalOf_le top p.data
      have h2 := sumTo_le2 n p.stream.size (totalOf top p.data) h0 h (by omega) h1.1
      exact ih _ h2.1 h2.2
    · exact ⟨h0, h⟩
theorem batchOf_le (top : Int) (key : ByteArray) (ps : List PutM) : 0 ≤ batchOf top key ps ∧ batchOf top key ps ≤ 1099511627776 := by
  have h := sumTo_le2 0 key.size ps.length (by omega) (by omega) (by omega) (by omega)
  exact bulkTo_le top _ h.1 h.2 ps
theorem smL_fineOf {s : SmM} {n0 : Int} (hn : 0 ≤ n0) (h : upTo 6000 (sumTo n0 [(s.name.size : Int), evBulk 6000 s.es, (s.ks.length : Int)]) (s.ks.map fun k => (k.key.size : Int)) ≤ 6000) : (smL s.sm).length ≤ 500000 := by
  have hks : ∀ m ∈ s.ks.map fun k => (k.key.size : Int), (0 : Int) ≤ m := fun m hm => by simp at hm; obtain ⟨k, _, rfl⟩ := hm; omega
  have h2 := upTo_sum (by omega) _ _ hks h
  have h20 : 0 ≤ (s.ks.map fun k => (k.key.size : Int)).sum := sum_nn hks
  have he := (evBulk_le 6000 s.es).1
  have h3 := sumTo_up (top := 6000) (by omega) (l := [(s.name.size : Int), evBulk 6000 s.es, (s.ks.length : Int)]) (n := n0) (by simp; omega) (by omega)
  simp only [List.sum_cons, List.sum_nil, Int.add_zero] at h3
  have h31 := sumTo_pos (l := [(s.name.size : Int), evBulk 6000 s.es, (s.ks.length : Int)]) (by simp; omega) hn
  have h4 : evBulkTo 6000 (sumTo 0 [(s.es.length : Int)]) s.es ≤ 6000 := by
    have : evBulk 6000 s.es ≤ 6000 := by omega
    exact this
  have h5 : sumTo 0 [(s.es.length : Int)] + (s.es.map fun e => (e.stream.size : Int) + e.data.size).sum ≤ evBulk 6000 s.es := evBulkTo_sum (by omega) _ _ h4
  have h50 : 0 ≤ (s.es.map fun e => (e.stream.size : Int) + e.data.size).sum := sum_nn fun x hx => by
    obtain ⟨e, _, rfl⟩ := List.mem_map.1 hx
    omega
  have h6 := sumTo_up (top := 6000) (by omega) (l := [(s.es.length : Int)]) (n := 0) (by simp) (by omega)
  simp only [List.sum_cons, List.sum_nil, Int.add_zero] at h6
  have h7 : sumTo 0 [(s.es.length : Int)] = s.es.length := by
    unfold sumTo
    rw [if_pos (by omega)]
    unfold sumTo
    omega
  unfold smL
  split
  · unfold smBytes SmM.sm
    simp only [List.length_append]
    have a1 := flat_sum evL (fun e => (e.stream.size : Int) + e.data.size + 80) (fun e => by have := evL_len e; omega) s.es
    have a2 := flat_sum knBytes (fun k => (k.key.size : Int) + 50) (fun k => by have := knBytes_len k; omega) s.ks
    rw [sum_plus] at a1 a2
    have := text_len s.name
    have := vL_len s.es.length
    have := vL_len s.ks.length
    omega
  · simp
theorem smsTo_fine : ∀ (ss : List SmM) (n : Int), smsTo 6000 n ss ≤ 6000 → 0 ≤ n → n ≤ 1099511627776 → ∀ s ∈ ss, (smL s.sm).length ≤ 500000
  | [], _, _, _, _ => fun _ h => by cases h
  | s :: l, n, h, hn, hn2 => by
    have hks : ∀ m ∈ s.ks.map fun k => (k.key.size : Int), (0 : Int) ≤ m := fun m hm => by simp at hm; obtain ⟨k, _, rfl⟩ := hm; omega
    unfold smsTo at h
    split at h
    · have he := evBulk_le 6000 s.es
      have hl3 : ∀ m ∈ [(s.name.size : Int), evBulk 6000 s.es, (s.ks.length : Int)], 0 ≤ m := by simp; omega
      have hp := sumTo_pos hl3 hn
      have h0 := upTo_pos (top := 6000) hks hp
      have h1 := (smsTo_up (top := 6000) (by omega) l _ h).1
      have h2 := smsTo_fine l _ h h0 (by omega)
      intro t ht
      rcases List.mem_cons.1 ht with rfl | ht
      · exact smL_fineOf hn h1
      · exact h2 t ht
    · omega
end Go.Proofs.YtheogchkelmeeaaDoor

/- Several texts in one: AlikeRec, RecFine, RecBackLaw, Bytes, Round. -/
import Derived.Test.YthafeaclpcjjbaaDoorM33RecBack
import Derived.Test.YthafeaclpcjjbaaDoorM41RecBack
import Derived.Test.YthafeaclpcjjbaaDoorRecDecBkQRecBack
import Derived.Test.YthafeaclpcjjbaaDoorRecSpareQRecBack
import Derived.Test.YthafeaclpcjjbaaDoorM3RecBack
import Derived.Test.YthafeaclpcjjbaaDoorM0RecBack
/- penstockalike.Rec: what it answers, and what a record then is that is looked at. No condition beyond lengths. -/
namespace Go.Proofs.YthafeaclpcjjbaaDoor
open Go.RowKit

theorem bulkTo_le (top n : Int) (h0 : 0 ≤ n) (h : n ≤ 1099511627776) : ∀ l : List PutM, 0 ≤ bulkTo top n l ∧ bulkTo top n l ≤ 1099511627776 := by
  intro l
  induction l generalizing n with
  | nil => exact ⟨h0, h⟩
  | cons p l ih =>
    unfold bulkTo
    split
    · have h1 := totalOf_le top p.data
      have h2 := sumTo_le2 n p.stream.size (totalOf top p.data) h0 h (by omega) h1.1
      exact ih _ h2.1 h2.2
    · exact ⟨h0, h⟩
theorem batchOf_le (top : Int) (key : ByteArray) (ps : List PutM) : 0 ≤ batchOf top key ps ∧ batchOf top key ps ≤ 1099511627776 := by
  have h := sumTo_le2 0 key.size ps.length (by omega) (by omega) (by omega) (by omega)
  exact bulkTo_le top _ h.1 h.2 ps
def recBulk (r : RecM) : Int := sumTo (batchOf 6000 r.key r.ps) [smsBulk 6000 r.sms, (r.nodes.length : Int)]
/-- What the numbers of a record are, whatever it is. -/
structure RecM.I64 (r : RecM) : Prop where
  kind : Int64 r.kind
  n : Int64 r.n
  dst : Int64 r.dst
  st : Int64 r.st.wall ∧ Int64 r.st.logic ∧ Int64 r.st.node
  x1 : Int64 r.x1
  x2 : Int64 r.x2
  x3 : Int64 r.x3
  z1 : Int64 r.z1
  z2 : Int64 r.z2
  z3 : Int64 r.z3
  z4 : Int64 r.z4
  nodes : ∀ x ∈ r.nodes, Int64 x
  puts : ∀ p ∈ r.ps, -9223372036854775808 ≤ p.expect ∧ p.expect ≤ 9223372036854775807
  nodesL : r.nodes.length ≤ 9223372036854775807
  keyL : r.key.size ≤ 9223372036854775807
  psO : PutsOk r.ps
  smO : SmsOk r.sms
theorem smL_fineOf {s : SmM} {n0 : Int} (hn : 0 ≤ n0) (h : upTo 6000 (sumTo n0 [(s.name.size : Int), evBulk 6000 s.es, (s.ks.length : Int)]) (s.ks.map fun k => (k.key.size : Int)) ≤ 6000) : (smL s.sm).length ≤ 500000 := by
  have hks : ∀ m ∈ s.ks.map fun k => (k.key.size : Int), (0 : Int) ≤ m := fun m hm => by simp at hm; obtain ⟨k, _, rfl⟩ := hm; omega
  have h2 := upTo_sum (by omega) _ _ hks h
  have h20 : 0 ≤ (s.ks.map fun k => (k.key.size : Int)).sum := sum_nn hks
  have he := (evBulk_le 6000 s.es).1
  have h3 := sumTo_up (top := 6000) (by omega) (l := [(s.name.size : Int), evBulk 6000 s.es, (s.ks.length : Int)]) (n := n0) (by simp; omega) (by omega)
  simp only [List.sum_cons, List.sum_nil, Int.add_zero] at h3
  have h31 := sumTo_pos (l := [(s.name.size : Int), evBulk 6000 s.es, (s.ks.length : Int)]) (by simp; omega) hn
  have h4 : evBulkTo 6000 (sumTo 0 [(s.es.length : Int)]) s.es ≤ 6000 := by
    have : evBulk 6000 s.es ≤ 6000 := by omega
    exact this
  have h5 : sumTo 0 [(s.es.length : Int)] + (s.es.map fun e => (e.stream.size : Int) + e.data.size).sum ≤ evBulk 6000 s.es := evBulkTo_sum (by omega) _ _ h4
  have h50 : 0 ≤ (s.es.map fun e => (e.stream.size : Int) + e.data.size).sum := sum_nn fun x hx => by
    obtain ⟨e, _, rfl⟩ := List.mem_map.1 hx
    omega
  have h6 := sumTo_up (top := 6000) (by omega) (l := [(s.es.length : Int)]) (n := 0) (by simp) (by omega)
  simp only [List.sum_cons, List.sum_nil, Int.add_zero] at h6
  have h7 : sumTo 0 [(s.es.length : Int)] = s.es.length := by
    unfold sumTo
    rw [if_pos (by omega)]
    unfold sumTo
    omega
  unfold smL
  split
  · unfold smBytes SmM.sm
    simp only [List.length_append]
    have a1 := flat_sum evL (fun e => (e.stream.size : Int) + e.data.size + 80) (fun e => by have := evL_len e; omega) s.es
    have a2 := flat_sum knBytes (fun k => (k.key.size : Int) + 50) (fun k => by have := knBytes_len k; omega) s.ks
    rw [sum_plus] at a1 a2
    have := text_len s.name
    have := vL_len s.es.length
    have := vL_len s.ks.length
    omega
  · simp
theorem smsTo_fine : ∀ (ss : List SmM) (n : Int), smsTo 6000 n ss ≤ 6000 → 0 ≤ n → n ≤ 1099511627776 → ∀ s ∈ ss, (smL s.sm).length ≤ 500000
  | [], _, _, _, _ => fun _ h => by cases h
  | s :: l, n, h, hn, hn2 => by
    have hks : ∀ m ∈ s.ks.map fun k => (k.key.size : Int), (0 : Int) ≤ m := fun m hm => by simp at hm; obtain ⟨k, _, rfl⟩ := hm; omega
    unfold smsTo at h
    split at h
    · have he := evBulk_le 6000 s.es
      have hl3 : ∀ m ∈ [(s.name.size : Int), evBulk 6000 s.es, (s.ks.length : Int)], 0 ≤ m := by simp; omega
      have hp := sumTo_pos hl3 hn
      have h0 := upTo_pos (top := 6000) hks hp
      have h1 := (smsTo_up (top := 6000) (by omega) l _ h).1
      have h2 := smsTo_fine l _ h h0 (by omega)
      intro t ht
      rcases List.mem_cons.1 ht with rfl | ht
      · exact smL_fineOf hn h1
      · exact h2 t ht
    · omega
theorem rec_small {r : RecM} (hi : r.I64) (h : recBulk r ≤ 6000) : r.Small := by
  have hb := batchOf_le 6000 r.key r.ps
  have hs := smsBulk_le 6000 r.sms
  have h1 := sumTo_up (top := 6000) (by omega) (l := [smsBulk 6000 r.sms, (r.nodes.length : Int)]) (n := batchOf 6000 r.key r.ps) (by simp; omega) h
  simp only [List.sum_cons, List.sum_nil, Int.add_zero] at h1
  have h2 := bat_small_at (top := 6000) (by omega) (key := r.key) (ps := r.ps) (by omega) hi.puts
  have h3 := sms_small (top := 6000) (by omega) (ss := r.sms) (by omega)
  have h5 : smsTo 6000 (sumTo 0 [(r.sms.length : Int)]) r.sms ≤ 6000 := by
    have h6 : smsBulk 6000 r.sms ≤ 6000 := by omega
    exact h6
  have h7 := (smsTo_up (top := 6000) (by omega) r.sms _ h5).1
  have h4 := smsTo_fine r.sms _ h5 (sumTo_pos (by simp) (by omega)) (by omega)
  exact ⟨hi.kind, hi.n, hi.dst, hi.x1, hi.x2, hi.x3, hi.z1, hi.z2, hi.z3, hi.z4, hi.nodes, by omega, by omega, h2.2, batL_fine (by omega), by omega, fun s hm => ⟨h3.2 s hm, h4 s hm⟩⟩
set_option maxRecDepth 100000 in
set_option maxHeartbeats 2000000 in
theorem alikeRec_any (r : RecM) (w : World) (hin : r.In w) (hi : r.I64) : Calls Tryd.prog 9 #[.agg r.cells, .int .i64 6000] w fun e w' => e = .returned (.int .i64 (recBulk r)) ∧ G w w' := by
  have hg0 := G.new w (.cells r.cells 37)
  have hB0 := blk_new w r.cells 37
  have hba : ∀ w', G w w' → Calls Tryd.prog 20 #[.agg #[.string r.key, .slice r.Ap r.ps.length r.cp], .int .i64 6000] w' fun e w'' => e = .returned (.int .i64 (batchOf 6000 r.key r.ps)) ∧ G w' w'' := fun w' hg => batch_any 6000 r.key r.ps r.Ap r.cp w.heap.size w' hg.size hi.keyL hi.psO (hin.2.1.g (Nat.le_refl _) hg)
  have hsa : ∀ w', G w w' → Calls Tryd.prog 21 #[.slice r.As r.sms.length r.cs, .int .i64 6000] w' fun e w'' => e = .returned (.int .i64 (smsBulk 6000 r.sms)) ∧ G w' w'' := fun w' hg => streams_any 6000 r.sms r.As r.cs w.heap.size w' hg.size hi.smO (hin.2.2.g (Nat.le_refl _) hg)
  have hb := batchOf_le 6000 r.key r.ps
  have hs := smsBulk_le 6000 r.sms
  have hnl := hi.nodesL
  unfold recBulk
  generalize batchOf 6000 r.key r.ps = x at *
  generalize smsBulk 6000 r.sms = y at *
  replace hba := Lib.hid hba
  replace hsa := Lib.hid hsa
  replace hin := Lib.hid hin
  replace hi := Lib.hid hi
  go_enter Tryd.func9, Tryd.ntmps9
  go_upto_region 1 with fail
  generalize w.alloc (.cells r.cells 37) = W0 at *
  have q10 : ∀ w', G W0 w' → w'.cell? ⟨w.heap.size, 10, none⟩ = some (.slice r.An r.nodes.length r.cn) := fun w' h => (blk_cell (h.blk hB0) 10).trans rfl
  have q11 : ∀ w', G W0 w' → w'.cell? ⟨w.heap.size, 11, none⟩ = some (.string r.key) := fun w' h => (blk_cell (h.blk hB0) 11).trans rfl
  have q12 : ∀ w', G W0 w' → w'.cell? ⟨w.heap.size, 12, none⟩ = some (.slice r.Ap r.ps.length r.cp) := fun w' h => (blk_cell (h.blk hB0) 12).trans rfl
  have q17 : ∀ w', G W0 w' → w'.cell? ⟨w.heap.size, 17, none⟩ = some (.slice r.As r.sms.length r.cs) := fun w' h => (blk_cell (h.blk hB0) 17).trans rfl
  replace hB0 := Lib.hid hB0
  have hGw : ∀ w', G W0 w' → G w w' := fun w' h => hg0.trans h
  replace hGw := Lib.hid hGw
  have hdr : G W0 W0.drew := (G.refl _).drew
  go_region_held3 (fun w' => G W0 w') (first | exact hdr | exact G.keep hb1 (by assumption) | exact G.keep hs1 (by assumption) | exact G.alloc (by assumption) _ | assumption | fail) (first
    | (go_at_call 20; (with_reducible refine Calls.mono (hba.out _ (hGw.out _ (by assumption))) ?_); rintro e u1 ⟨rfl, hb1⟩)
    | (go_at_call 21; (with_reducible refine Calls.mono (hsa.out _ (hGw.out _ (by assumption))) ?_); rintro e u2 ⟨rfl, hs1⟩)
    | (go_at_call 19; refine (sum_2 x y r.nodes.length _ _ (by omega) (by omega) (by omega) (by omega) (by omega) (by omega) (by first | simp | (rw [hb1.cell (by simp)]; simp)) (by first | simp | (rw [hb1.cell (by simp)]; simp))).mono ?_; rintro e w2 ⟨rfl, rfl⟩))
  all_goals
    go_wp2_with fail
    go_ret
    exact ⟨rfl, hGw.out _ (by assumption)⟩
end Go.Proofs.YthafeaclpcjjbaaDoor
/- What a record that may be keeps. Plain mathematics. No condition. -/
namespace Go.Proofs.YthafeaclpcjjbaaDoor
open Go.RowKit

/-- What a record that may be keeps. -/
structure RecM.Fine (r : RecM) : Prop where
  n : 0 ≤ r.n ∧ r.n ≤ 1125899906842624
  dst : 0 ≤ r.dst ∧ r.dst ≤ 1125899906842624
  x1 : 0 ≤ r.x1 ∧ r.x1 ≤ 1125899906842624
  x2 : 0 ≤ r.x2 ∧ r.x2 ≤ 1125899906842624
  x3 : 0 ≤ r.x3 ∧ r.x3 ≤ 1125899906842624
  z1 : 0 ≤ r.z1 ∧ r.z1 ≤ 1125899906842624
  z2 : 0 ≤ r.z2 ∧ r.z2 ≤ 1125899906842624
  z3 : 0 ≤ r.z3 ∧ r.z3 ≤ 1125899906842624
  z4 : 0 ≤ r.z4 ∧ r.z4 ≤ 1125899906842624
  nodes : ∀ x ∈ r.nodes, 0 ≤ x ∧ x ≤ 1125899906842624
  nodesL : r.nodes.length ≤ 1000
  smsL : r.sms.length ≤ 1000
  st : stOk r.st = true
theorem okI_iff (lim n : Int) : okI lim n = true ↔ 0 ≤ n ∧ n ≤ lim := decide_eq_true_iff
theorem okIs_iff (lim : Int) (ns : List Int) : okIs lim ns = true ↔ ∀ x ∈ ns, 0 ≤ x ∧ x ≤ lim := by
  unfold okIs
  rw [List.all_eq_true]
  exact ⟨fun h x hx => (okI_iff _ _).1 (h x hx), fun h x hx => (okI_iff _ _).2 (h x hx)⟩
theorem fine_of {r : RecM} (h : chkR r.p = true) : r.Fine := by
  unfold chkR restR at h
  simp only [Bool.and_eq_true, decide_eq_true_eq, okIs_iff] at h
  obtain ⟨_, _, h1, h2, h3, h4, _⟩ := h
  have h5 : ∀ x ∈ [r.n, r.dst, r.x1, r.x2, r.x3, r.z1, r.z2, r.z3, r.z4] ++ r.nodes, 0 ≤ x ∧ x ≤ 1125899906842624 := h4
  have h6 : (r.sms.map SmM.sm).length ≤ 1000 := h3
  rw [List.length_map] at h6
  refine ⟨h5 _ ?_, h5 _ ?_, h5 _ ?_, h5 _ ?_, h5 _ ?_, h5 _ ?_, h5 _ ?_, h5 _ ?_, h5 _ ?_, fun x hx => h5 x (List.mem_append.2 (.inr hx)), h2, h6, h1⟩
  all_goals simp
end Go.Proofs.YthafeaclpcjjbaaDoor
/- How many bytes a record that is looked at has. Plain mathematics. No condition. -/
namespace Go.Proofs.YthafeaclpcjjbaaDoor
open Go.RowKit

theorem sumTo_eq {top : Int} (ht : top < 1099511627776) : ∀ {l : List Int} {n : Int}, sumTo n l ≤ top → n + l.sum ≤ sumTo n l
  | [], n, _ => by simp [sumTo]
  | m :: l, n, h => by
    unfold sumTo at h ⊢
    split at h
    · rename_i hc
      rw [if_pos hc]
      have := sumTo_eq ht h
      rw [List.sum_cons]
      omega
    · omega
theorem upTo_eq {top : Int} (ht : top < 1099511627776) : ∀ (l : List Int) (n : Int), (∀ m ∈ l, 0 ≤ m) → upTo top n l ≤ top → n + l.sum ≤ upTo top n l
  | [], n, _, _ => by simp [upTo]
  | m :: l, n, hl, h => by
    unfold upTo at h ⊢
    split at h
    · rename_i hc
      rw [if_pos hc]
      have h1 := upTo_eq ht l _ (fun x hx => hl x (by simp [hx])) h
      have h2 := upTo_up (top := top) ht l _ (fun x hx => hl x (by simp [hx])) h
      have h3 := sumTo_eq ht (l := [m]) (n := n) h2.1
      simp only [List.sum_cons, List.sum_nil, Int.add_zero] at h3
      rw [List.sum_cons]
      omega
    · omega
theorem size_pos {s : ByteArray} (h : s.toList.isEmpty = false) : 0 < s.size := by
  rcases Nat.eq_zero_or_pos s.size with h0 | h0
  · have e : s = ByteArray.empty := by
      apply ByteArray.ext
      exact Array.eq_empty_of_size_eq_zero h0
    rw [empty_b] at h
    exact absurd e (of_decide_eq_false h)
  · exact h0
theorem name_pos {s : ByteArray} (h : nameB s = true) : 0 < s.size := by
  unfold nameB at h
  simp only [Bool.and_eq_true, Bool.not_eq_true'] at h
  exact size_pos h.1
theorem evL_units (e : Ev) : ((evL e).length : Int) ≤ 41 * (1 + ((e.stream.size : Int) + e.data.size)) := by
  have h := evL_len e
  cases hok : evOk e with
  | false =>
    rw [evL_none hok]
    simp
    omega
  | true =>
    have := name_pos ((evOk_iff e).1 hok).1
    omega
theorem knBytes_units {k : Kn} (hk : knOk k = true) : ((knBytes k).length : Int) ≤ 41 * (1 + (k.key.size : Int)) := by
  have h := knBytes_len k
  have := size_pos ((knOk_iff k).1 hk).1
  omega
theorem flat_units {α : Type} (f : α → List UInt8) (g : α → Int) : ∀ l : List α, (∀ x ∈ l, ((f x).length : Int) ≤ 41 * (1 + g x)) → ((l.flatMap f).length : Int) ≤ 41 * (l.length + (l.map g).sum)
  | [], _ => by simp
  | x :: l, h => by
    have h1 := flat_units f g l fun y hy => h y (by simp [hy])
    have h2 := h x (by simp)
    rw [List.flatMap_cons, List.length_append, List.map_cons, List.sum_cons, List.length_cons]
    omega
/-- What a stream counts for. -/
def smU (s : SmM) : Int := s.name.size + evBulk 6000 s.es + s.ks.length + (s.ks.map fun k => (k.key.size : Int)).sum
theorem keys_nn (s : SmM) : ∀ m ∈ s.ks.map fun k => (k.key.size : Int), (0 : Int) ≤ m := fun m hm => by simp at hm; obtain ⟨k, _, rfl⟩ := hm; omega
theorem smU_nn (s : SmM) : 0 ≤ smU s := by
  have h1 := (evBulk_le 6000 s.es).1
  have h2 := sum_nn (keys_nn s)
  unfold smU
  omega
theorem smsTo_sum : ∀ (ss : List SmM) (n : Int), 0 ≤ n → smsTo 6000 n ss ≤ 6000 → n + (ss.map smU).sum ≤ smsTo 6000 n ss
  | [], n, _, _ => by simp [smsTo]
  | s :: l, n, hn, h => by
    unfold smsTo at h ⊢
    split at h
    · rename_i hc
      rw [if_pos hc]
      have he := evBulk_le 6000 s.es
      have hl3 : ∀ m ∈ [(s.name.size : Int), evBulk 6000 s.es, (s.ks.length : Int)], 0 ≤ m := by simp; omega
      have hp := sumTo_pos hl3 hn
      have h0 := upTo_pos (top := 6000) (keys_nn s) hp
      have h1 := smsTo_sum l _ h0 h
      have h2 := (smsTo_up (top := 6000) (by omega) l _ h).1
      have h3 := upTo_eq (top := 6000) (by omega) _ _ (keys_nn s) h2
      have h4 := (upTo_up (top := 6000) (by omega) _ _ (keys_nn s) h2).1
      have h5 := sumTo_eq (top := 6000) (by omega) h4
      simp only [List.sum_cons, List.sum_nil, Int.add_zero] at h5
      rw [List.map_cons, List.sum_cons]
      unfold smU
      unfold smU at h1
      omega
    · omega
theorem evBulk_sum {es : List Ev} (h : evBulk 6000 es ≤ 6000) : (es.length : Int) + (es.map fun e => (e.stream.size : Int) + e.data.size).sum ≤ evBulk 6000 es := by
  have h4 : evBulkTo 6000 (sumTo 0 [(es.length : Int)]) es ≤ 6000 := h
  have h5 : sumTo 0 [(es.length : Int)] + (es.map fun e => (e.stream.size : Int) + e.data.size).sum ≤ evBulk 6000 es := evBulkTo_sum (by omega) _ _ h4
  have h6 := sumTo_eq (top := 6000) (by omega) (l := [(es.length : Int)]) (n := 0) (by
    have := evBulkTo_up (top := 6000) (by omega) es _ h4
    exact this.1)
  simp only [List.sum_cons, List.sum_nil, Int.add_zero] at h6
  omega
theorem smL_units {s : SmM} (h : smU s ≤ 6000) : ((smL s.sm).length : Int) ≤ 41 * smU s := by
  cases hok : smOk s.sm with
  | false =>
    rw [smL_no hok]
    have := smU_nn s
    simp
    omega
  | true =>
    obtain ⟨h1, h2, h3⟩ := (smOk_iff s.sm).1 hok
    have hn : 0 < s.name.size := name_pos h1
    have hb := sum_nn (keys_nn s)
    have he := evBulk_le 6000 s.es
    have hes := evBulk_sum (es := s.es) (by unfold smU at h; omega)
    have a1 := flat_units evL (fun e => (e.stream.size : Int) + e.data.size) s.es fun e _ => evL_units e
    have a2 := flat_units knBytes (fun k => (k.key.size : Int)) s.ks fun k hk => knBytes_units (h3 k hk)
    rw [smL_ok hok]
    unfold smBytes SmM.sm
    simp only [List.length_append]
    have := text_len s.name
    have := vL_len s.es.length
    have := vL_len s.ks.length
    unfold smU
    omega
theorem sms_units : ∀ ss : List SmM, (∀ s ∈ ss, smU s ≤ 6000) → (((ss.map SmM.sm).flatMap smL).length : Int) ≤ 41 * (ss.map smU).sum
  | [], _ => by simp
  | s :: l, h => by
    have h1 := sms_units l fun t ht => h t (by simp [ht])
    have h2 := smL_units (h s (by simp))
    rw [List.map_cons, List.flatMap_cons, List.length_append, List.map_cons, List.sum_cons]
    omega
theorem mem_le_sum {α : Type} {g : α → Int} (hg : ∀ x, 0 ≤ g x) : ∀ {l : List α} {x : α}, x ∈ l → g x ≤ (l.map g).sum
  | y :: l, x, h => by
    have hs : 0 ≤ (l.map g).sum := sum_nn fun m hm => by
      obtain ⟨z, _, rfl⟩ := List.mem_map.1 hm
      exact hg z
    rw [List.map_cons, List.sum_cons]
    rcases List.mem_cons.1 h with rfl | h
    · omega
    · have := mem_le_sum hg h
      have := hg y
      omega
theorem sms_fine {ss : List SmM} (h : smsBulk 6000 ss ≤ 6000) : ((ss.map SmM.sm).flatMap smL).length ≤ 246000 := by
  have h1 : smsTo 6000 (sumTo 0 [(ss.length : Int)]) ss ≤ 6000 := h
  have h0 : 0 ≤ sumTo 0 [(ss.length : Int)] := sumTo_pos (by simp) (by omega)
  have h2 := smsTo_sum ss _ h0 h1
  have h3 := sms_units ss fun s hs => by
    have := mem_le_sum smU_nn hs
    omega
  omega
theorem batL_fine2 {key : ByteArray} {ps : List PutM} (h : batchOf 6000 key ps ≤ 6000) : (batL key (ps.map PutM.p)).length ≤ 250000 := by
  by_cases hc : chkN key (ps.map PutM.p) = 0
  · have h1 := chk_small hc
    rw [List.length_map] at h1
    unfold batchOf at h
    have b1 := bulkTo_small (by omega) _ _ h
    have b2 := sumTo_le_two (by omega) (by omega) (by omega) b1.1
    have b3 := b1.2 (sumTo_pos (l := [(key.size : Int), (ps.length : Int)]) (by simp) (by omega))
    rw [batL_ok hc]
    unfold batBytes
    have h2 := flatLe putBytes 30000 (ps.map PutM.p) fun p hp => by
      obtain ⟨m, hm, rfl⟩ := List.mem_map.1 hp
      have h3 := h1.2 _ hp
      have h4 := (b3 m hm).1
      have h5 := texts_len m.p.data 1000 h3.2.1
      have h6 := textL_len m.p.stream
      have h7 : (m.p.stream.size : Int) ≤ 6000 := h4
      have h8 := vL_len (zigN m.p.expect)
      have h9 := vL_len m.p.data.length
      have h10 := Nat.mul_le_mul_right 1010 h3.1
      unfold putBytes
      simp only [List.length_append]
      omega
    rw [List.length_map] at h2
    have h3 := textL_len key
    have h4 := vL_len (ps.map PutM.p).length
    simp only [List.length_append]
    have h5 := Nat.mul_le_mul_right 30000 h1.1
    omega
  · rw [batL_no hc]
    simp
theorem docR_len {r : RecM} (_hi : r.I64) (hb : recBulk r ≤ 6000) (hc : chkR r.p = true) : (docR r.p).length ≤ 490000 := by
  have fn := fine_of hc
  have hb0 := batchOf_le 6000 r.key r.ps
  have hs0 := smsBulk_le 6000 r.sms
  have h0 := sumTo_up (top := 6000) (by omega) (l := [smsBulk 6000 r.sms, (r.nodes.length : Int)]) (n := batchOf 6000 r.key r.ps) (by simp; omega) hb
  simp only [List.sum_cons, List.sum_nil, Int.add_zero] at h0
  have h1 := nLs_len [r.x1, r.x2, r.x3]
  have h2 := nLs_len [r.z1, r.z2, r.z3, r.z4]
  have h3 := nL_len r.n
  have h4 := nL_len r.dst
  have h5 := nLs_len r.nodes
  have h6 := fn.nodesL
  have h7 := vL_len r.nodes.length
  have h8 := stL_len r.st
  have h9 := batL_fine2 (key := r.key) (ps := r.ps) (by omega)
  have h10 := sms_fine (ss := r.sms) (by omega)
  have h11 := vL_len (r.sms.map SmM.sm).length
  rw [List.length_map] at h11
  have h13 : ([if r.yes = true then 1 else 0] : List UInt8).length = 1 := rfl
  have h14 : ([UInt8.ofNat r.kind.toNat] : List UInt8).length = 1 := rfl
  rw [show [r.x1, r.x2, r.x3].length = 3 from rfl] at h1
  rw [show [r.z1, r.z2, r.z3, r.z4].length = 4 from rfl] at h2
  unfold docR RecM.p
  dsimp only
  repeat' split
  all_goals (simp only [List.length_append, List.length_map, List.length_cons, List.length_nil]; omega)
theorem rec_fits {r : RecM} (h : r.Small) : r.p.Fits := by
  refine ⟨⟨?_, fun p hp => ?_⟩, fun s hs => ?_⟩
  · have := h.key
    show r.key.size < _
    omega
  · obtain ⟨m, hm, rfl⟩ := List.mem_map.1 hp
    have := h.ps.2 m hm
    refine ⟨by show m.stream.size < _; omega, fun d hd => ?_⟩
    have := this.2.2.2 d hd
    omega
  · obtain ⟨m, hm, rfl⟩ := List.mem_map.1 hs
    have := (h.sms m hm).1
    refine ⟨by have := this.1; show m.name.size < _; omega, by have := this.2.1.1; show m.es.length < _; omega, by have := this.2.2.1; show m.ks.length < _; omega, fun k hk => by have := this.2.2.2 k hk; omega⟩
theorem docR_pos (r : RecP) : 0 < (docR r).length := by
  unfold docR
  dsimp only
  repeat' split
  all_goals simp
end Go.Proofs.YthafeaclpcjjbaaDoor
/- penstockalike.Bytes of two rows alike: true. Condition: lengths that fit an int. -/
namespace Go.Proofs.YthafeaclpcjjbaaDoor
open Go.RowKit

set_option maxRecDepth 100000 in
set_option maxHeartbeats 1000000 in
theorem bytesSelf_any (l : List UInt8) (A A2 : Option Addr) (c c2 B : Nat) (w : World) (hB : B ≤ w.heap.size) (hs : Sl byteC 1 w B A l) (hs2 : Sl byteC 1 w B A2 l) (hl : l.length ≤ 9223372036854775806) :
    Calls Tryd.prog 14 #[.slice A l.length c, .slice A2 l.length c2] w fun e w' => e = .returned (.bool true) ∧ G w w' := by
  go_enter Tryd.func14, Tryd.ntmps14
  go_wp2_with fail
  go_loopw [5] (fun i wr => ∃ (k : Nat), k ≤ l.length ∧ i = .int .i64 k ∧ G w wr) (fun i _ => l.length - (intOf i).toNat)
  case atStart => exact ⟨0, Nat.zero_le _, rfl, G.refl _⟩
  case round =>
    obtain ⟨k, hk, rfl, hg⟩ := hrel
    by_cases hlt : k < l.length
    · obtain ⟨x, hx⟩ : ∃ x, l[k]? = some x := ⟨_, List.getElem?_eq_getElem hlt⟩
      obtain ⟨b, o, rfl, hb, hc⟩ := (hs.g hB hg).byte hx
      obtain ⟨b2, o2, rfl, hb2, hc2⟩ := (hs2.g hB hg).byte hx
      have n1 : (0 : Int) ≤ (k : Int) := by omega
      have n2 : (k : Int) < (l.length : Int) := by omega
      clear hx hs hs2
      go_wp2_with fail
      go_quiet (fail)
      go_wp2_with fail
      go_roundw
      case rel => exact ⟨k + 1, by omega, by go_num, hg.drewN _⟩
      case measure => (simp [intOf] <;> omega)
    · have n2 : ¬ (k : Int) < (l.length : Int) := by omega
      clear hs hs2
      go_wp2_with fail
      go_ret
      exact ⟨rfl, hg⟩
end Go.Proofs.YthafeaclpcjjbaaDoor
/- penstockalike.Round: what it answers. Condition: the second number is above 0. -/
namespace Go.Proofs.YthafeaclpcjjbaaDoor
open Go.RowKit

set_option maxHeartbeats 400000 in
theorem round_any (k n : Int) (w : World) (hn : 1 ≤ n) (hn2 : n ≤ 9223372036854775807) (_hk : -9223372036854775808 ≤ k) (_hk2 : k ≤ 9223372036854775807) :
    Calls Tryd.prog 16 #[.int .i64 k, .int .i64 n] w fun e w' => e = .returned (.int .i64 (k % n)) ∧ w = w' := by
  have h1 := Int.tmod_lt_of_pos k (show 0 < n by omega)
  have h2 : -n < k.tmod n := by
    have := Int.lt_tmod_of_pos k (show 0 < n by omega)
    omega
  have h3 : k % n = if k.tmod n < 0 then k.tmod n + n else k.tmod n := by
    rw [Int.tmod_eq_emod]
    have h4 := Int.emod_nonneg k (show n ≠ 0 by omega)
    have h5 := Int.emod_lt_of_pos k (show 0 < n by omega)
    split <;> (try split) <;> omega
  replace h3 := Lib.hid h3
  generalize hm : k.tmod n = m at *
  go_enter Tryd.func16, Tryd.ntmps16
  go_wp2
  all_goals (go_ret; exact ⟨ret_int (by rw [h3.out]; split <;> omega), rfl⟩)
end Go.Proofs.YthafeaclpcjjbaaDoor

/- Several texts in one: AlikeRec, RecName, Awake12, Bytes. -/
import Derived.Test.YthafeaclpcjjbaaDoorM30RecCodes
import Derived.Test.YthafeaclpcjjbaaDoorM48RecCodes
import Derived.Test.YthafeaclpcjjbaaDoorRecSpareQRecCodes
import Derived.Test.YthafeaclpcjjbaaDoorRecEncQRecCodes
import Derived.Test.YthafeaclpcjjbaaDoorM4RecCodes
/- penstockalike.Rec: what it answers, and what a record then is that is looked at. No condition beyond lengths. -/
namespace Go.Proofs.YthafeaclpcjjbaaDoor
open Go.RowKit

theorem bulkTo_le (top n : Int) (h0 : 0 ≤ n) (h : n ≤ 1099511627776) : ∀ l : List PutM, 0 ≤ bulkTo top n l ∧ bulkTo top n l ≤ 1099511627776 := by
  intro l
  induction l generalizing n with
  | nil => exact ⟨h0, h⟩
  | cons p l ih =>
    unfold bulkTo
    split
    · have h1 := totalOf_le top p.data
      have h2 := sumTo_le2 n p.stream.size (totalOf top p.data) h0 h (by omega) h1.1
      exact ih _ h2.1 h2.2
    · exact ⟨h0, h⟩
theorem batchOf_le (top : Int) (key : ByteArray) (ps : List PutM) : 0 ≤ batchOf top key ps ∧ batchOf top key ps ≤ 1099511627776 := by
  have h := sumTo_le2 0 key.size ps.length (by omega) (by omega) (by omega) (by omega)
  exact bulkTo_le top _ h.1 h.2 ps
def recBulk (r : RecM) : Int := sumTo (batchOf 6000 r.key r.ps) [smsBulk 6000 r.sms, (r.nodes.length : Int)]
/-- What the numbers of a record are, whatever it is. -/
structure RecM.I64 (r : RecM) : Prop where
  kind : Int64 r.kind
  n : Int64 r.n
  dst : Int64 r.dst
  st : Int64 r.st.wall ∧ Int64 r.st.logic ∧ Int64 r.st.node
  x1 : Int64 r.x1
  x2 : Int64 r.x2
  x3 : Int64 r.x3
  z1 : Int64 r.z1
  z2 : Int64 r.z2
  z3 : Int64 r.z3
  z4 : Int64 r.z4
  nodes : ∀ x ∈ r.nodes, Int64 x
  puts : ∀ p ∈ r.ps, -9223372036854775808 ≤ p.expect ∧ p.expect ≤ 9223372036854775807
  nodesL : r.nodes.length ≤ 9223372036854775807
  keyL : r.key.size ≤ 9223372036854775807
  psO : PutsOk r.ps
  smO : SmsOk r.sms
theorem smL_fineOf {s : SmM} {n0 : Int} (hn : 0 ≤ n0) (h : upTo 6000 (sumTo n0 [(s.name.size : Int), evBulk 6000 s.es, (s.ks.length : Int)]) (s.ks.map fun k => (k.key.size : Int)) ≤ 6000) : (smL s.sm).length ≤ 500000 := by
  have hks : ∀ m ∈ s.ks.map fun k => (k.key.size : Int), (0 : Int) ≤ m := fun m hm => by simp at hm; obtain ⟨k, _, rfl⟩ := hm; omega
  have h2 := upTo_sum (by omega) _ _ hks h
  have h20 : 0 ≤ (s.ks.map fun k => (k.key.size : Int)).sum := sum_nn hks
  have he := (evBulk_le 6000 s.es).1
  have h3 := sumTo_up (top := 6000) (by omega) (l := [(s.name.size : Int), evBulk 6000 s.es, (s.ks.length : Int)]) (n := n0) (by simp; omega) (by omega)
  simp only [List.sum_cons, List.sum_nil, Int.add_zero] at h3
  have h31 := sumTo_pos (l := [(s.name.size : Int), evBulk 6000 s.es, (s.ks.length : Int)]) (by simp; omega) hn
  have h4 : evBulkTo 6000 (sumTo 0 [(s.es.length : Int)]) s.es ≤ 6000 := by
    have : evBulk 6000 s.es ≤ 6000 := by omega
    exact this
  have h5 : sumTo 0 [(s.es.length : Int)] + (s.es.map fun e => (e.stream.size : Int) + e.data.size).sum ≤ evBulk 6000 s.es := evBulkTo_sum (by omega) _ _ h4
  have h50 : 0 ≤ (s.es.map fun e => (e.stream.size : Int) + e.data.size).sum := sum_nn fun x hx => by
    obtain ⟨e, _, rfl⟩ := List.mem_map.1 hx
    omega
  have h6 := sumTo_up (top := 6000) (by omega) (l := [(s.es.length : Int)]) (n := 0) (by simp) (by omega)
  simp only [List.sum_cons, List.sum_nil, Int.add_zero] at h6
  have h7 : sumTo 0 [(s.es.length : Int)] = s.es.length := by
    unfold sumTo
    rw [if_pos (by omega)]
    unfold sumTo
    omega
  unfold smL
  split
  · unfold smBytes SmM.sm
    simp only [List.length_append]
    have a1 := flat_sum evL (fun e => (e.stream.size : Int) + e.data.size + 80) (fun e => by have := evL_len e; omega) s.es
    have a2 := flat_sum knBytes (fun k => (k.key.size : Int) + 50) (fun k => by have := knBytes_len k; omega) s.ks
    rw [sum_plus] at a1 a2
    have := text_len s.name
    have := vL_len s.es.length
    have := vL_len s.ks.length
    omega
  · simp
theorem smsTo_fine : ∀ (ss : List SmM) (n : Int), smsTo 6000 n ss ≤ 6000 → 0 ≤ n → n ≤ 1099511627776 → ∀ s ∈ ss, (smL s.sm).length ≤ 500000
  | [], _, _, _, _ => fun _ h => by cases h
  | s :: l, n, h, hn, hn2 => by
    have hks : ∀ m ∈ s.ks.map fun k => (k.key.size : Int), (0 : Int) ≤ m := fun m hm => by simp at hm; obtain ⟨k, _, rfl⟩ := hm; omega
    unfold smsTo at h
    split at h
    · have he := evBulk_le 6000 s.es
      have hl3 : ∀ m ∈ [(s.name.size : Int), evBulk 6000 s.es, (s.ks.length : Int)], 0 ≤ m := by simp; omega
      have hp := sumTo_pos hl3 hn
      have h0 := upTo_pos (top := 6000) hks hp
      have h1 := (smsTo_up (top := 6000) (by omega) l _ h).1
      have h2 := smsTo_fine l _ h h0 (by omega)
      intro t ht
      rcases List.mem_cons.1 ht with rfl | ht
      · exact smL_fineOf hn h1
      · exact h2 t ht
    · omega
theorem rec_small {r : RecM} (hi : r.I64) (h : recBulk r ≤ 6000) : r.Small := by
  have hb := batchOf_le 6000 r.key r.ps
  have hs := smsBulk_le 6000 r.sms
  have h1 := sumTo_up (top := 6000) (by omega) (l := [smsBulk 6000 r.sms, (r.nodes.length : Int)]) (n := batchOf 6000 r.key r.ps) (by simp; omega) h
  simp only [List.sum_cons, List.sum_nil, Int.add_zero] at h1
  have h2 := bat_small_at (top := 6000) (by omega) (key := r.key) (ps := r.ps) (by omega) hi.puts
  have h3 := sms_small (top := 6000) (by omega) (ss := r.sms) (by omega)
  have h5 : smsTo 6000 (sumTo 0 [(r.sms.length : Int)]) r.sms ≤ 6000 := by
    have h6 : smsBulk 6000 r.sms ≤ 6000 := by omega
    exact h6
  have h7 := (smsTo_up (top := 6000) (by omega) r.sms _ h5).1
  have h4 := smsTo_fine r.sms _ h5 (sumTo_pos (by simp) (by omega)) (by omega)
  exact ⟨hi.kind, hi.n, hi.dst, hi.x1, hi.x2, hi.x3, hi.z1, hi.z2, hi.z3, hi.z4, hi.nodes, by omega, by omega, h2.2, batL_fine (by omega), by omega, fun s hm => ⟨h3.2 s hm, h4 s hm⟩⟩
set_option maxRecDepth 100000 in
set_option maxHeartbeats 2000000 in
theorem alikeRec_any (r : RecM) (w : World) (hin : r.In w) (hi : r.I64) : Calls Tryd.prog 9 #[.agg r.cells, .int .i64 6000] w fun e w' => e = .returned (.int .i64 (recBulk r)) ∧ G w w' := by
  have hg0 := G.new w (.cells r.cells 37)
  have hB0 := blk_new w r.cells 37
  have hba : ∀ w', G w w' → Calls Tryd.prog 20 #[.agg #[.string r.key, .slice r.Ap r.ps.length r.cp], .int .i64 6000] w' fun e w'' => e = .returned (.int .i64 (batchOf 6000 r.key r.ps)) ∧ G w' w'' := fun w' hg => batch_any 6000 r.key r.ps r.Ap r.cp w.heap.size w' hg.size hi.keyL hi.psO (hin.2.1.g (Nat.le_refl _) hg)
  have hsa : ∀ w', G w w' → Calls Tryd.prog 21 #[.slice r.As r.sms.length r.cs, .int .i64 6000] w' fun e w'' => e = .returned (.int .i64 (smsBulk 6000 r.sms)) ∧ G w' w'' := fun w' hg => streams_any 6000 r.sms r.As r.cs w.heap.size w' hg.size hi.smO (hin.2.2.g (Nat.le_refl _) hg)
  have hb := batchOf_le 6000 r.key r.ps
  have hs := smsBulk_le 6000 r.sms
  have hnl := hi.nodesL
  unfold recBulk
  generalize batchOf 6000 r.key r.ps = x at *
  generalize smsBulk 6000 r.sms = y at *
  replace hba := Lib.hid hba
  replace hsa := Lib.hid hsa
  replace hin := Lib.hid hin
  replace hi := Lib.hid hi
  go_enter Tryd.func9, Tryd.ntmps9
  go_upto_region 1 with fail
  generalize w.alloc (.cells r.cells 37) = W0 at *
  have q10 : ∀ w', G W0 w' → w'.cell? ⟨w.heap.size, 10, none⟩ = some (.slice r.An r.nodes.length r.cn) := fun w' h => (blk_cell (h.blk hB0) 10).trans rfl
  have q11 : ∀ w', G W0 w' → w'.cell? ⟨w.heap.size, 11, none⟩ = some (.string r.key) := fun w' h => (blk_cell (h.blk hB0) 11).trans rfl
  have q12 : ∀ w', G W0 w' → w'.cell? ⟨w.heap.size, 12, none⟩ = some (.slice r.Ap r.ps.length r.cp) := fun w' h => (blk_cell (h.blk hB0) 12).trans rfl
  have q17 : ∀ w', G W0 w' → w'.cell? ⟨w.heap.size, 17, none⟩ = some (.slice r.As r.sms.length r.cs) := fun w' h => (blk_cell (h.blk hB0) 17).trans rfl
  replace hB0 := Lib.hid hB0
  have hGw : ∀ w', G W0 w' → G w w' := fun w' h => hg0.trans h
  replace hGw := Lib.hid hGw
  have hdr : G W0 W0.drew := (G.refl _).drew
  go_region_held3 (fun w' => G W0 w') (first | exact hdr | exact G.keep hb1 (by assumption) | exact G.keep hs1 (by assumption) | exact G.alloc (by assumption) _ | assumption | fail) (first
    | (go_at_call 20; (with_reducible refine Calls.mono (hba.out _ (hGw.out _ (by assumption))) ?_); rintro e u1 ⟨rfl, hb1⟩)
    | (go_at_call 21; (with_reducible refine Calls.mono (hsa.out _ (hGw.out _ (by assumption))) ?_); rintro e u2 ⟨rfl, hs1⟩)
    | (go_at_call 19; refine (sum_2 x y r.nodes.length _ _ (by omega) (by omega) (by omega) (by omega) (by omega) (by omega) (by first | simp | (rw [hb1.cell (by simp)]; simp)) (by first | simp | (rw [hb1.cell (by simp)]; simp))).mono ?_; rintro e w2 ⟨rfl, rfl⟩))
  all_goals
    go_wp2_with fail
    go_ret
    exact ⟨rfl, hGw.out _ (by assumption)⟩
end Go.Proofs.YthafeaclpcjjbaaDoor
/- rec.Name and penstockref10.RecName: a kind's name. No condition. -/
namespace Go.Proofs.YthafeaclpcjjbaaDoor
open Go.RowKit

def nmOf (k : Int) : ByteArray :=
  if k = 1 then ⟨#[108, 105, 102, 101]⟩ else if k = 2 then ⟨#[99, 101, 105, 108, 105, 110, 103]⟩ else if k = 3 then ⟨#[99, 111, 109, 109, 105, 116]⟩ else if k = 4 then ⟨#[112, 114, 101, 112, 97, 114, 101]⟩
  else if k = 5 then ⟨#[100, 101, 99, 105, 100, 101]⟩ else if k = 6 then ⟨#[111, 117, 116, 99, 111, 109, 101]⟩ else if k = 7 then ⟨#[102, 111, 114, 103, 101, 116]⟩ else if k = 8 then ⟨#[115, 112, 108, 105, 116]⟩
  else if k = 9 then ⟨#[102, 114, 101, 101, 122, 101]⟩ else if k = 10 then ⟨#[105, 110, 115, 116, 97, 108, 108]⟩ else if k = 11 then ⟨#[114, 101, 108, 101, 97, 115, 101]⟩ else ⟨#[]⟩
theorem nm_of {k : Int} (h : fOk k = false) : nmOf k = ⟨#[]⟩ := by
  have := fOk_no h
  unfold nmOf
  rw [if_neg (by omega), if_neg (by omega), if_neg (by omega), if_neg (by omega), if_neg (by omega), if_neg (by omega), if_neg (by omega), if_neg (by omega), if_neg (by omega), if_neg (by omega), if_neg (by omega)]
theorem nm_empty (k : Int) : (nmOf k).toList.isEmpty = !fOk k := by
  rw [empty_b]
  rcases kind_cases k with rfl | rfl | rfl | rfl | rfl | rfl | rfl | rfl | rfl | rfl | rfl | h
  case inr.inr.inr.inr.inr.inr.inr.inr.inr.inr.inr => rw [nm_of h, h]; rfl
  all_goals decide
theorem nm_eq {a : Int} (b : Int) (h : fOk a = true) : ((nmOf a).toList == (nmOf b).toList) = (a == b) := by
  rw [bytes_beq]
  have ha : ∀ b : Int, fOk b = false → decide (nmOf a = nmOf b) = (a == b) := fun b hb => by
    have h1 : ¬ a = b := by rintro rfl; rw [h] at hb; cases hb
    have h2 : ¬ nmOf a = nmOf b := fun e => by
      have h3 := nm_empty a
      have h4 := nm_empty b
      rw [e, h4, h, hb] at h3
      cases h3
    rw [decide_eq_false h2]
    exact (beq_eq_false_iff_ne.2 h1).symm
  rcases kind_cases b with rfl | rfl | rfl | rfl | rfl | rfl | rfl | rfl | rfl | rfl | rfl | hb
  case inr.inr.inr.inr.inr.inr.inr.inr.inr.inr.inr => exact ha b hb
  all_goals
    clear ha
    rcases kind_cases a with rfl | rfl | rfl | rfl | rfl | rfl | rfl | rfl | rfl | rfl | rfl | h'
    case inr.inr.inr.inr.inr.inr.inr.inr.inr.inr.inr => rw [h] at h'; cases h'
    all_goals decide
set_option maxRecDepth 100000 in
set_option maxHeartbeats 1000000 in
theorem recName_any (k : Int) (w : World) : Calls Tryd.prog 7 #[.int .i64 k] w fun e w' => e = .returned (.string (nmOf k)) ∧ G w w' := by
  rcases kind_cases k with rfl | rfl | rfl | rfl | rfl | rfl | rfl | rfl | rfl | rfl | rfl | hno
  case inr.inr.inr.inr.inr.inr.inr.inr.inr.inr.inr =>
    rw [nm_of hno]
    have h0 := fOk_no hno
    have t1 : (k == 1) = false := by rw [beq_eq_false_iff_ne]; omega
    have t2 : (k == 2) = false := by rw [beq_eq_false_iff_ne]; omega
    have t3 : (k == 3) = false := by rw [beq_eq_false_iff_ne]; omega
    have t4 : (k == 4) = false := by rw [beq_eq_false_iff_ne]; omega
    have t5 : (k == 5) = false := by rw [beq_eq_false_iff_ne]; omega
    have t6 : (k == 6) = false := by rw [beq_eq_false_iff_ne]; omega
    have t7 : (k == 7) = false := by rw [beq_eq_false_iff_ne]; omega
    have t8 : (k == 8) = false := by rw [beq_eq_false_iff_ne]; omega
    have t9 : (k == 9) = false := by rw [beq_eq_false_iff_ne]; omega
    have t10 : (k == 10) = false := by rw [beq_eq_false_iff_ne]; omega
    have t11 : (k == 11) = false := by rw [beq_eq_false_iff_ne]; omega
    clear h0 hno
    go_enter Tryd.func7, Tryd.ntmps7
    go_wp2_with fail
    go_ret
    exact ⟨rfl, G.refl _⟩
  all_goals
    go_enter Tryd.func7, Tryd.ntmps7
    go_wp2_with fail
    go_ret
    exact ⟨rfl, G.refl _⟩
set_option maxRecDepth 100000 in
set_option maxHeartbeats 1000000 in
theorem refRecName_any (k : Int) (w : World) (hk : -9223372036854775808 ≤ k ∧ k ≤ 9223372036854775807) : Calls Tryd.prog 15 #[.int .i64 k] w fun e w' => e = .returned (.string (nmOf k)) ∧ G w w' := by
  by_cases h0 : 0 ≤ k
  case neg =>
    have hno : fOk k = false := decide_eq_false (by omega)
    have t1 : decide (k < 0) = true := decide_eq_true (by omega)
    have t1' : k < 0 := by omega
    rw [nm_of hno]
    clear hno h0
    go_enter Tryd.func15, Tryd.ntmps15
    go_wp2_with fail
    go_ret
    exact ⟨rfl, G.new _ _⟩
  by_cases h1 : k < 12
  case neg =>
    have hno : fOk k = false := decide_eq_false (by omega)
    have t1 : decide (k < 0) = false := decide_eq_false (by omega)
    have t2 : decide (12 ≤ k) = true := decide_eq_true (by omega)
    have t2' : 12 ≤ k := by omega
    rw [nm_of hno]
    clear hno h1 h0
    go_enter Tryd.func15, Tryd.ntmps15
    go_wp2_with fail
    go_ret
    exact ⟨rfl, G.new _ _⟩
  have hc : k = 0 ∨ k = 1 ∨ k = 2 ∨ k = 3 ∨ k = 4 ∨ k = 5 ∨ k = 6 ∨ k = 7 ∨ k = 8 ∨ k = 9 ∨ k = 10 ∨ k = 11 := by omega
  clear h0 h1 hk
  rcases hc with rfl | rfl | rfl | rfl | rfl | rfl | rfl | rfl | rfl | rfl | rfl | rfl
  all_goals
    go_enter Tryd.func15, Tryd.ntmps15
    go_wp2_with fail
    go_ret
    exact ⟨rfl, G.new _ _⟩
end Go.Proofs.YthafeaclpcjjbaaDoor
/- rec.Check; penstocklaw12.awake answers true. Condition: the decoder's tables lie as the library lays them. -/
namespace Go.Proofs.YthafeaclpcjjbaaDoor
open Go.RowKit

set_option maxRecDepth 100000 in
set_option maxHeartbeats 1000000 in
theorem recCheck_any (r : RecM) (w : World) (hin : r.In w) (hok : r.Small) (hT : Tabs w) : Calls Tryd.prog 12 #[.agg r.cells] w fun e w' => e = .returned (.int .i64 (codeO 1 (encR r.p))) ∧ G w w' := by
  have henc := fun (w' : World) (hg : G w w') => recEnc_any r w' ⟨(hin.1.g (Nat.le_refl _) hg).more hg.size, PutsIn.more (hin.2.1.g (Nat.le_refl _) hg) hg.size, ⟨(hin.2.2.1.g (Nat.le_refl _) hg).more hg.size, fun s hs => SmIn.more ((hin.2.2.2 s hs).g (Nat.le_refl _) hg) hg.size⟩⟩ hok (hT.g hg)
  generalize encR r.p = o at *
  clear hin hok hT
  obtain ⟨kind, rn, dst, yes, ⟨a, b, c⟩, x1, x2, x3, An, cn, nodes, key, Ap, cp, ps, z1, z2, z3, z4, As, cs, sms⟩ := r
  unfold RecM.cells at henc ⊢
  dsimp only at henc ⊢
  replace henc := Lib.hid henc
  go_enter Tryd.func12, Tryd.ntmps12
  go_upto_region 1 with fail
  have hG0 := G.new w (.cells #[.int .i64 kind, .int .i64 rn, .int .i64 dst, .bool yes, .int .i64 a, .int .i64 b, .int .i64 c, .int .i64 x1, .int .i64 x2, .int .i64 x3, .slice An nodes.length cn, .string key, .slice Ap ps.length cp, .int .i64 z1, .int .i64 z2, .int .i64 z3, .int .i64 z4, .slice As sms.length cs] 37)
  have LR := load_blk (P := Tryd.prog) (T := 37) (blk_new w #[.int .i64 kind, .int .i64 rn, .int .i64 dst, .bool yes, .int .i64 a, .int .i64 b, .int .i64 c, .int .i64 x1, .int .i64 x2, .int .i64 x3, .slice An nodes.length cn, .string key, .slice Ap ps.length cp, .int .i64 z1, .int .i64 z2, .int .i64 z3, .int .i64 z4, .slice As sms.length cs] 37) Tryd.underlying37 rfl (by kernel_rfl)
  generalize w.alloc (.cells #[.int .i64 kind, .int .i64 rn, .int .i64 dst, .bool yes, .int .i64 a, .int .i64 b, .int .i64 c, .int .i64 x1, .int .i64 x2, .int .i64 x3, .slice An nodes.length cn, .string key, .slice Ap ps.length cp, .int .i64 z1, .int .i64 z2, .int .i64 z3, .int .i64 z4, .slice As sms.length cs] 37) = W0 at *
  have hc := henc.out W0 hG0
  replace hc := Lib.hid hc
  go_wp2_with (first | (refine wpList_load_at rfl (by kernel_rfl) (p := .pointer (some ⟨_, 0, none⟩)) rfl (by assumption) ?_) | (go_at_call 10; refine Calls.mono hc.out ?_; rintro e w2 ⟨A2, c2, rfl, _, hg2⟩))
  go_ret
  exact ⟨rfl, hG0.trans hg2⟩
set_option maxRecDepth 100000 in
set_option maxHeartbeats 1000000 in
theorem awake12_any (w : World) (hT : Tabs w) : Calls Tryd.prog 8 #[] w fun e w' => e = .returned (.bool true) ∧ G w w' := by
  have hen := recEnc_any ⟨1, 1, 0, false, ⟨0, 0, 0⟩, 0, 0, 0, none, 0, [], ⟨#[]⟩, none, 0, [], 0, 0, 0, 0, none, 0, []⟩ w ⟨Sl.nil, ⟨Sl.nil, fun p h => by cases h⟩, ⟨Sl.nil, fun s h => by cases h⟩⟩
    ⟨by unfold Int64; decide, by unfold Int64; decide, by unfold Int64; decide, by unfold Int64; decide, by unfold Int64; decide, by unfold Int64; decide, by unfold Int64; decide, by unfold Int64; decide, by unfold Int64; decide, by unfold Int64; decide, (fun x h => by cases h), by simp, by decide, ⟨by simp, fun p h => by cases h⟩, by decide, by simp, fun s h => by cases h⟩ hT
  rw [show encR (RecM.p ⟨1, 1, 0, false, ⟨0, 0, 0⟩, 0, 0, 0, none, 0, [], ⟨#[]⟩, none, 0, [], 0, 0, 0, 0, none, 0, []⟩) = some [1, 1] from by decide] at hen
  unfold RecM.cells at hen
  dsimp only [List.length_nil] at hen
  have hnm := fun w' => recName_any 9 w'
  rw [show nmOf 9 = ⟨#[102, 114, 101, 101, 122, 101]⟩ from rfl] at hnm
  replace hnm := Lib.hid hnm
  replace hen := Lib.hid hen
  go_enter Tryd.func8, Tryd.ntmps8
  go_wp2_with (first
    | (go_at_call 10; refine Calls.mono hen.out ?_; rintro e w2 ⟨A2, c2, rfl, hown2, hg2⟩; have hsl := OwnL.self byteC_len hown2; obtain ⟨bb, o, rfl, hb, e0⟩ := hsl.byte (k := 0) (x := 1) rfl; obtain ⟨_, _, ee, hb2, e1⟩ := hsl.byte (k := 1) (x := 1) rfl; cases ee; have e0' : w2.cell? ⟨bb, o, none⟩ = some (.int .u8 1) := e0; have e1' : w2.cell? ⟨bb, o + 1, none⟩ = some (.int .u8 1) := e1; clear hown2 hsl e0 e1)
    | (go_at_call 7; refine Calls.mono (hnm.out _) ?_; rintro e w3 ⟨rfl, hg3⟩))
  go_ret
  exact ⟨ret_bool (by rfl), hg2.trans hg3⟩
end Go.Proofs.YthafeaclpcjjbaaDoor
/- penstockalike.Bytes of two rows alike: true. Condition: lengths that fit an int. -/
namespace Go.Proofs.YthafeaclpcjjbaaDoor
open Go.RowKit

set_option maxRecDepth 100000 in
set_option maxHeartbeats 1000000 in
theorem bytesSelf_any (l : List UInt8) (A A2 : Option Addr) (c c2 B : Nat) (w : World) (hB : B ≤ w.heap.size) (hs : Sl byteC 1 w B A l) (hs2 : Sl byteC 1 w B A2 l) (hl : l.length ≤ 9223372036854775806) :
    Calls Tryd.prog 14 #[.slice A l.length c, .slice A2 l.length c2] w fun e w' => e = .returned (.bool true) ∧ G w w' := by
  go_enter Tryd.func14, Tryd.ntmps14
  go_wp2_with fail
  go_loopw [5] (fun i wr => ∃ (k : Nat), k ≤ l.length ∧ i = .int .i64 k ∧ G w wr) (fun i _ => l.length - (intOf i).toNat)
  case atStart => exact ⟨0, Nat.zero_le _, rfl, G.refl _⟩
  case round =>
    obtain ⟨k, hk, rfl, hg⟩ := hrel
    by_cases hlt : k < l.length
    · obtain ⟨x, hx⟩ : ∃ x, l[k]? = some x := ⟨_, List.getElem?_eq_getElem hlt⟩
      obtain ⟨b, o, rfl, hb, hc⟩ := (hs.g hB hg).byte hx
      obtain ⟨b2, o2, rfl, hb2, hc2⟩ := (hs2.g hB hg).byte hx
      have n1 : (0 : Int) ≤ (k : Int) := by omega
      have n2 : (k : Int) < (l.length : Int) := by omega
      clear hx hs hs2
      go_wp2_with fail
      go_quiet (fail)
      go_wp2_with fail
      go_roundw
      case rel => exact ⟨k + 1, by omega, by go_num, hg.drewN _⟩
      case measure => (simp [intOf] <;> omega)
    · have n2 : ¬ (k : Int) < (l.length : Int) := by omega
      clear hs hs2
      go_wp2_with fail
      go_ret
      exact ⟨rfl, hg⟩
end Go.Proofs.YthafeaclpcjjbaaDoor

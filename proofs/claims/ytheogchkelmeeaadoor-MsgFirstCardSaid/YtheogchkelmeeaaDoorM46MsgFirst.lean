/- Several texts in one: BulkLaw, MsgSmall, RecNamed, RecSpare, UnitsLaw. -/
import Derived.Test.YtheogchkelmeeaaDoorM30MsgFirst
import Derived.Test.YtheogchkelmeeaaDoorM40MsgFirst
import Derived.Test.YtheogchkelmeeaaDoorM28MsgFirst
import Derived.Deep.DeepCutAuto
/- What penstockalike's sums tell of batches and streams. Plain mathematics. No condition. -/
namespace Go.Proofs.YtheogchkelmeeaaDoor
open Go.RowKit

theorem bulkTo_le (top n : Int) (h0 : 0 ≤ n) (h : n ≤ 1099511627776) : ∀ l : List PutM, 0 ≤ bulkTo top n l ∧ bulkTo top n l ≤ 1099511627776 := by
  intro l
  induction l generalizing n with
  | nil => exact ⟨h0, h⟩
  | cons p l ih =>
    unfold bulkTo
    split
    · have h1 := totalOf_le top p.data
      have h2 := sumTo_le2 n p.stream.size (totalOf top p.data) h0 h (by omega) h1.1
      exact ih _ h2.1 h2.2
    · exact ⟨h0, h⟩
theorem batchOf_le (top : Int) (key : ByteArray) (ps : List PutM) : 0 ≤ batchOf top key ps ∧ batchOf top key ps ≤ 1099511627776 := by
  have h := sumTo_le2 0 key.size ps.length (by omega) (by omega) (by omega) (by omega)
  exact bulkTo_le top _ h.1 h.2 ps
theorem smL_fineOf {s : SmM} {n0 : Int} (hn : 0 ≤ n0) (h : upTo 6000 (sumTo n0 [(s.name.size : Int), evBulk 6000 s.es, (s.ks.length : Int)]) (s.ks.map fun k => (k.key.size : Int)) ≤ 6000) : (smL s.sm).length ≤ 500000 := by
  have hks : ∀ m ∈ s.ks.map fun k => (k.key.size : Int), (0 : Int) ≤ m := fun m hm => by simp at hm; obtain ⟨k, _, rfl⟩ := hm; omega
  have h2 := upTo_sum (by omega) _ _ hks h
  have h20 : 0 ≤ (s.ks.map fun k => (k.key.size : Int)).sum := sum_nn hks
  have he := (evBulk_le 6000 s.es).1
  have h3 := sumTo_up (top := 6000) (by omega) (l := [(s.name.size : Int), evBulk 6000 s.es, (s.ks.length : Int)]) (n := n0) (by simp; omega) (by omega)
  simp only [List.sum_cons, List.sum_nil, Int.add_zero] at h3
  have h31 := sumTo_pos (l := [(s.name.size : Int), evBulk 6000 s.es, (s.ks.length : Int)]) (by simp; omega) hn
  have h4 : evBulkTo 6000 (sumTo 0 [(s.es.length : Int)]) s.es ≤ 6000 := by
    have : evBulk 6000 s.es ≤ 6000 := by omega
    exact this
  have h5 : sumTo 0 [(s.es.length : Int)] + (s.es.map fun e => (e.stream.size : Int) + e.data.size).sum ≤ evBulk 6000 s.es := evBulkTo_sum (by omega) _ _ h4
  have h50 : 0 ≤ (s.es.map fun e => (e.stream.size : Int) + e.data.size).sum := sum_nn fun x hx => by
    obtain ⟨e, _, rfl⟩ := List.mem_map.1 hx
    omega
  have h6 := sumTo_up (top := 6000) (by omega) (l := [(s.es.length : Int)]) (n := 0) (by simp) (by omega)
  simp only [List.sum_cons, List.sum_nil, Int.add_zero] at h6
  have h7 : sumTo 0 [(s.es.length : Int)] = s.es.length := by
    unfold sumTo
    rw [if_pos (by omega)]
    unfold sumTo
    omega
  unfold smL
  split
  · unfold smBytes SmM.sm
    simp only [List.length_append]
    have a1 := flat_sum evL (fun e => (e.stream.size : Int) + e.data.size + 80) (fun e => by have := evL_len e; omega) s.es
    have a2 := flat_sum knBytes (fun k => (k.key.size : Int) + 50) (fun k => by have := knBytes_len k; omega) s.ks
    rw [sum_plus] at a1 a2
    have := text_len s.name
    have := vL_len s.es.length
    have := vL_len s.ks.length
    omega
  · simp
theorem smsTo_fine : ∀ (ss : List SmM) (n : Int), smsTo 6000 n ss ≤ 6000 → 0 ≤ n → n ≤ 1099511627776 → ∀ s ∈ ss, (smL s.sm).length ≤ 500000
  | [], _, _, _, _ => fun _ h => by cases h
  | s :: l, n, h, hn, hn2 => by
    have hks : ∀ m ∈ s.ks.map fun k => (k.key.size : Int), (0 : Int) ≤ m := fun m hm => by simp at hm; obtain ⟨k, _, rfl⟩ := hm; omega
    unfold smsTo at h
    split at h
    · have he := evBulk_le 6000 s.es
      have hl3 : ∀ m ∈ [(s.name.size : Int), evBulk 6000 s.es, (s.ks.length : Int)], 0 ≤ m := by simp; omega
      have hp := sumTo_pos hl3 hn
      have h0 := upTo_pos (top := 6000) hks hp
      have h1 := (smsTo_up (top := 6000) (by omega) l _ h).1
      have h2 := smsTo_fine l _ h h0 (by omega)
      intro t ht
      rcases List.mem_cons.1 ht with rfl | ht
      · exact smL_fineOf hn h1
      · exact h2 t ht
    · omega
end Go.Proofs.YtheogchkelmeeaaDoor
/- penstocklaw10.small: what it answers, and what a message then is that is looked at. No condition beyond lengths. -/
namespace Go.Proofs.YtheogchkelmeeaaDoor
open Go.RowKit

def msgBulk (r : MsgM) : Int := sumTo (batchOf 6000 r.key r.ps) [smsBulk 6000 r.sms, evBulk 6000 r.es, (r.firsts.length : Int), (r.rgs.length : Int)]
/-- What the numbers of a message are, whatever it is. -/
structure MsgM.Wide (r : MsgM) : Prop extends MsgM.I64 r where
  st : Int64 r.st.wall ∧ Int64 r.st.logic ∧ Int64 r.st.node
  puts : ∀ p ∈ r.ps, -9223372036854775808 ≤ p.expect ∧ p.expect ≤ 9223372036854775807
  firstsL : r.firsts.length ≤ 9223372036854775807
  rgsL : r.rgs.length ≤ 9223372036854775807
  keyL : r.key.size ≤ 9223372036854775807
  psO : PutsOk r.ps
  smO : SmsOk r.sms
  esL : r.es.length ≤ 9223372036854775807
  esO : EvsOk r.es
theorem msg_small {r : MsgM} (hi : r.Wide) (h : msgBulk r ≤ 6000) : r.Small := by
  have hb := batchOf_le 6000 r.key r.ps
  have hs := smsBulk_le 6000 r.sms
  have he := evBulk_le 6000 r.es
  have h1 := sumTo_up (top := 6000) (by omega) (l := [smsBulk 6000 r.sms, evBulk 6000 r.es, (r.firsts.length : Int), (r.rgs.length : Int)]) (n := batchOf 6000 r.key r.ps) (by simp; omega) h
  simp only [List.sum_cons, List.sum_nil, Int.add_zero] at h1
  have h2 := bat_small_at (top := 6000) (by omega) (key := r.key) (ps := r.ps) (by omega) hi.puts
  have h3 := sms_small (top := 6000) (by omega) (ss := r.sms) (by omega)
  have h5 : smsTo 6000 (sumTo 0 [(r.sms.length : Int)]) r.sms ≤ 6000 := by
    have h6 : smsBulk 6000 r.sms ≤ 6000 := by omega
    exact h6
  have h7 := (smsTo_up (top := 6000) (by omega) r.sms _ h5).1
  have h4 := smsTo_fine r.sms _ h5 (sumTo_pos (by simp) (by omega)) (by omega)
  have h8 := evBulk_up (top := 6000) (by omega) (es := r.es) (by omega)
  exact { toI64 := hi.toI64, firstsL := by omega, key := by omega, ps := h2.2, bat := batL_fine (by omega), smsL := by omega, sms := fun s hm => ⟨h3.2 s hm, h4 s hm⟩, esL := by omega, es := fun e hm => ⟨by have := h8.2 e hm; omega, by have := h8.2 e hm; have := evL_len e; omega⟩, rgsL := by omega }
theorem sl_4 {w : World} {b : Nat} {m m2 m3 m4 : Int} (hc : w.cell? ⟨b, 0, none⟩ = some (.int .i64 m)) (hc2 : w.cell? ⟨b, 1, none⟩ = some (.int .i64 m2)) (hc3 : w.cell? ⟨b, 2, none⟩ = some (.int .i64 m3)) (hc4 : w.cell? ⟨b, 3, none⟩ = some (.int .i64 m4)) :
    Sl intC 1 w (b + 1) (some ⟨b, 0, none⟩) [m, m2, m3, m4] := fun _ =>
  ⟨b, 0, rfl, by omega, fun k x hx j u hu => by
    rcases j with _ | j
    · rcases k with _ | _ | _ | _ | k
      · simp at hx; subst hx; simp [intC] at hu; subst hu; exact hc
      · simp at hx; subst hx; simp [intC] at hu; subst hu; exact hc2
      · simp at hx; subst hx; simp [intC] at hu; subst hu; exact hc3
      · simp at hx; subst hx; simp [intC] at hu; subst hu; exact hc4
      · simp at hx
    · simp [intC] at hu⟩
/-- Sum of four numbers more, in a block of their own. -/
theorem sum_4 (n m m2 m3 m4 : Int) (b : Nat) (w : World) (h0 : 0 ≤ n) (h1 : n ≤ 1099511627776) (hm : 0 ≤ m) (hm2 : m ≤ 9223372036854775807) (hn : 0 ≤ m2) (hn2 : m2 ≤ 9223372036854775807)
    (ho : 0 ≤ m3) (ho2 : m3 ≤ 9223372036854775807) (hp : 0 ≤ m4) (hp2 : m4 ≤ 9223372036854775807)
    (hc : w.cell? ⟨b, 0, none⟩ = some (.int .i64 m)) (hc2 : w.cell? ⟨b, 1, none⟩ = some (.int .i64 m2)) (hc3 : w.cell? ⟨b, 2, none⟩ = some (.int .i64 m3)) (hc4 : w.cell? ⟨b, 3, none⟩ = some (.int .i64 m4)) :
    Calls Tryd.prog 28 #[.int .i64 n, .slice (some ⟨b, 0, none⟩) 4 4] w fun e w' => e = .returned (.int .i64 (sumTo n [m, m2, m3, m4])) ∧ w = w' :=
  sum_any n [m, m2, m3, m4] _ 4 (b + 1) w h0 h1 (fun x hx => by simp at hx; omega) (by simp) (sl_4 hc hc2 hc3 hc4)
set_option maxRecDepth 100000 in
set_option maxHeartbeats 2000000 in
theorem small10_any (r : MsgM) (w : World) (hin : r.In w) (hi : r.Wide) : Calls Tryd.prog 8 #[.agg r.cells] w fun e w' => e = .returned (.bool (decide (msgBulk r ≤ 6000))) ∧ G w w' := by
  have hg0 := G.new w (.cells r.cells 36)
  have hB0 := blk_new w r.cells 36
  have hba : ∀ w', G w w' → Calls Tryd.prog 29 #[.agg #[.string r.key, .slice r.Ap r.ps.length r.cp], .int .i64 6000] w' fun e w'' => e = .returned (.int .i64 (batchOf 6000 r.key r.ps)) ∧ G w' w'' := fun w' hg => batch_any 6000 r.key r.ps r.Ap r.cp w.heap.size w' hg.size hi.keyL hi.psO (hin.ps.g (Nat.le_refl _) hg)
  have hsa : ∀ w', G w w' → Calls Tryd.prog 30 #[.slice r.As r.sms.length r.cs, .int .i64 6000] w' fun e w'' => e = .returned (.int .i64 (smsBulk 6000 r.sms)) ∧ G w' w'' := fun w' hg => streams_any 6000 r.sms r.As r.cs w.heap.size w' hg.size hi.smO (hin.sms.g (Nat.le_refl _) hg)
  have hea : ∀ w', G w w' → Calls Tryd.prog 31 #[.slice r.Ae r.es.length r.ce, .int .i64 6000] w' fun e w'' => e = .returned (.int .i64 (evBulk 6000 r.es)) ∧ G w' w'' := fun w' hg => (events_any 6000 r.es r.Ae r.ce w.heap.size w' hg.size hi.esL hi.esO (hin.es.g (Nat.le_refl _) hg)).mono fun e w'' h => h
  have hb := batchOf_le 6000 r.key r.ps
  have hs := smsBulk_le 6000 r.sms
  have he := evBulk_le 6000 r.es
  have hnl := hi.firstsL
  have hrl := hi.rgsL
  unfold msgBulk
  have hS0 := sumTo_le (batchOf 6000 r.key r.ps) hb.1 hb.2 [smsBulk 6000 r.sms, evBulk 6000 r.es, (r.firsts.length : Int), (r.rgs.length : Int)] (by simp; omega)
  generalize batchOf 6000 r.key r.ps = x at *
  generalize smsBulk 6000 r.sms = y at *
  generalize evBulk 6000 r.es = z at *
  obtain ⟨S, hS⟩ : ∃ S, sumTo x [y, z, (r.firsts.length : Int), (r.rgs.length : Int)] = S := ⟨_, rfl⟩
  rw [hS] at hS0 ⊢
  have hsum : ∀ (b : Nat) (w' : World), w'.cell? ⟨b, 0, none⟩ = some (.int .i64 y) → w'.cell? ⟨b, 1, none⟩ = some (.int .i64 z) → w'.cell? ⟨b, 2, none⟩ = some (.int .i64 r.firsts.length) → w'.cell? ⟨b, 3, none⟩ = some (.int .i64 r.rgs.length) → Calls Tryd.prog 28 #[.int .i64 x, .slice (some ⟨b, 0, none⟩) 4 4] w' fun e w'' => e = .returned (.int .i64 S) ∧ w' = w'' := fun b w' c1 c2 c3 c4 => by
    rw [← hS]
    exact sum_4 x y z r.firsts.length r.rgs.length b w' (by omega) (by omega) (by omega) (by omega) (by omega) (by omega) (by omega) (by omega) (by omega) (by omega) c1 c2 c3 c4
  replace hba := Lib.hid hba
  replace hsa := Lib.hid hsa
  replace hea := Lib.hid hea
  replace hin := Lib.hid hin
  replace hi := Lib.hid hi
  replace hS := Lib.hid hS
  replace hsum := Lib.hid hsum
  go_enter Tryd.func8, Tryd.ntmps8
  go_upto_region 1 with fail
  generalize w.alloc (.cells r.cells 36) = W0 at *
  have q4 : ∀ w', G W0 w' → w'.cell? ⟨w.heap.size, 4, none⟩ = some (.string r.key) := fun w' h => (blk_cell (h.blk hB0) 4).trans rfl
  have q5 : ∀ w', G W0 w' → w'.cell? ⟨w.heap.size, 5, none⟩ = some (.slice r.Ap r.ps.length r.cp) := fun w' h => (blk_cell (h.blk hB0) 5).trans rfl
  have q16 : ∀ w', G W0 w' → w'.cell? ⟨w.heap.size, 16, none⟩ = some (.slice r.As r.sms.length r.cs) := fun w' h => (blk_cell (h.blk hB0) 16).trans rfl
  have q19 : ∀ w', G W0 w' → w'.cell? ⟨w.heap.size, 19, none⟩ = some (.slice r.Ae r.es.length r.ce) := fun w' h => (blk_cell (h.blk hB0) 19).trans rfl
  have q10 : ∀ w', G W0 w' → w'.cell? ⟨w.heap.size, 10, none⟩ = some (.slice r.An r.firsts.length r.cn) := fun w' h => (blk_cell (h.blk hB0) 10).trans rfl
  have q20 : ∀ w', G W0 w' → w'.cell? ⟨w.heap.size, 20, none⟩ = some (.slice r.Ag r.rgs.length r.cg) := fun w' h => (blk_cell (h.blk hB0) 20).trans rfl
  replace hB0 := Lib.hid hB0
  have hGw : ∀ w', G W0 w' → G w w' := fun w' h => hg0.trans h
  replace hGw := Lib.hid hGw
  have hdr : G W0 W0.drew := (G.refl _).drew
  go_region_held3 (fun w' => G W0 w') (first | exact hdr | exact G.keep hb1 (by assumption) | exact G.keep hs1 (by assumption) | exact G.keep he1 (by assumption) | exact G.alloc (by assumption) _ | assumption | fail) (first
    | (go_at_call 29; (with_reducible refine Calls.mono (hba.out _ (hGw.out _ (by assumption))) ?_); rintro e u1 ⟨rfl, hb1⟩)
    | (go_at_call 30; (with_reducible refine Calls.mono (hsa.out _ (hGw.out _ (by assumption))) ?_); rintro e u2 ⟨rfl, hs1⟩)
    | (go_at_call 31; (with_reducible refine Calls.mono (hea.out _ (hGw.out _ (by assumption))) ?_); rintro e u3 ⟨rfl, he1⟩)
    | (go_at_call 28; refine (hsum.out _ _ (by first | simp | (rw [hb1.cell (by simp)]; simp)) (by first | simp | (rw [hb1.cell (by simp)]; simp)) (by first | simp | (rw [hb1.cell (by simp)]; simp)) (by first | simp | (rw [hb1.cell (by simp)]; simp))).mono ?_; rintro e w2 ⟨rfl, rfl⟩))
  all_goals
    go_wp2_with fail
    go_ret
    exact ⟨rfl, hGw.out _ (by assumption)⟩
end Go.Proofs.YtheogchkelmeeaaDoor
/- rec.named: the fields that a kind names. No condition. -/
namespace Go.Proofs.YtheogchkelmeeaaDoor
open Go.RowKit

theorem fl_of {k : Int} (h : fOk k = false) : flOf k = {} := by
  have := fOk_no h
  unfold flOf
  rw [if_neg (by omega), if_neg (by omega), if_neg (by omega), if_neg (by omega), if_neg (by omega), if_neg (by omega), if_neg (by omega), if_neg (by omega), if_neg (by omega)]
end Go.Proofs.YtheogchkelmeeaaDoor
/- rec.spare: whether the fields are zero that are not named. Condition: lengths fit an int. -/
namespace Go.Proofs.YtheogchkelmeeaaDoor
open Go.RowKit

def txB (a b c a' b' c' : Int) : Bool := decide (a = a' ∧ b = b' ∧ c = c')
def rgB (a b c d a' b' c' d' : Int) : Bool := decide (a = a' ∧ b = b' ∧ c = c' ∧ d = d')
theorem empty_b (s : ByteArray) : s.toList.isEmpty = decide (s = ByteArray.empty) := by
  rw [← bytes_beq]
  have : ByteArray.empty.toList = [] := by rw [ByteArray.toList_eq]; rfl
  rw [this]
  cases s.toList <;> rfl
section
variable (w : World)
theorem tx_equal (a b c a' b' c' : Int) : (Op.equalIn 10000 23 (.agg #[.int .i64 a, .int .i64 b, .int .i64 c]) (.agg #[.int .i64 a', .int .i64 b', .int .i64 c'])).run Tryd.prog w = .ok (txB a b c a' b' c') w := by
  by_cases h1 : a = a' <;> by_cases h2 : b = b' <;> by_cases h3 : c = c' <;> simp [go_sem, txB, h1, h2, h3]
theorem tx_eql (a b c a' b' c' : Int) : (binOp .eql 23 (.agg #[.int .i64 a, .int .i64 b, .int .i64 c]) (.agg #[.int .i64 a', .int .i64 b', .int .i64 c'])).run Tryd.prog w = .ok (.bool (txB a b c a' b' c')) w := by
  rw [run_eql_struct, tx_equal]
  rfl
theorem tx_neq (a b c a' b' c' : Int) : (binOp .neq 23 (.agg #[.int .i64 a, .int .i64 b, .int .i64 c]) (.agg #[.int .i64 a', .int .i64 b', .int .i64 c'])).run Tryd.prog w = .ok (.bool (!txB a b c a' b' c')) w := by
  rw [run_neq_struct, tx_equal]
  rfl
theorem rg_equal (a b c d a' b' c' d' : Int) : (Op.equalIn 10000 31 (.agg #[.int .i64 a, .int .i64 b, .int .i64 c, .int .i64 d]) (.agg #[.int .i64 a', .int .i64 b', .int .i64 c', .int .i64 d'])).run Tryd.prog w = .ok (rgB a b c d a' b' c' d') w := by
  by_cases h1 : a = a' <;> by_cases h2 : b = b' <;> by_cases h3 : c = c' <;> by_cases h4 : d = d' <;> simp [go_sem, rgB, h1, h2, h3, h4]
theorem rg_eql (a b c d a' b' c' d' : Int) : (binOp .eql 31 (.agg #[.int .i64 a, .int .i64 b, .int .i64 c, .int .i64 d]) (.agg #[.int .i64 a', .int .i64 b', .int .i64 c', .int .i64 d'])).run Tryd.prog w = .ok (.bool (rgB a b c d a' b' c' d')) w := by
  rw [run_eql_struct, rg_equal]
  rfl
theorem rg_neq (a b c d a' b' c' d' : Int) : (binOp .neq 31 (.agg #[.int .i64 a, .int .i64 b, .int .i64 c, .int .i64 d]) (.agg #[.int .i64 a', .int .i64 b', .int .i64 c', .int .i64 d'])).run Tryd.prog w = .ok (.bool (!rgB a b c d a' b' c' d')) w := by
  rw [run_neq_struct, rg_equal]
  rfl
end
end Go.Proofs.YtheogchkelmeeaaDoor
/- How many bytes streams, events and a batch have that are looked at. Plain mathematics. No condition. -/
namespace Go.Proofs.YtheogchkelmeeaaDoor
open Go.RowKit

theorem sumTo_eq {top : Int} (ht : top < 1099511627776) : ∀ {l : List Int} {n : Int}, sumTo n l ≤ top → n + l.sum ≤ sumTo n l
  | [], n, _ => by simp [sumTo]
  | m :: l, n, h => by
    unfold sumTo at h ⊢
    split at h
    · rename_i hc
      rw [if_pos hc]
      have := sumTo_eq ht h
      rw [List.sum_cons]
      omega
    · omega
theorem upTo_eq {top : Int} (ht : top < 1099511627776) : ∀ (l : List Int) (n : Int), (∀ m ∈ l, 0 ≤ m) → upTo top n l ≤ top → n + l.sum ≤ upTo top n l
  | [], n, _, _ => by simp [upTo]
  | m :: l, n, hl, h => by
    unfold upTo at h ⊢
    split at h
    · rename_i hc
      rw [if_pos hc]
      have h1 := upTo_eq ht l _ (fun x hx => hl x (by simp [hx])) h
      have h2 := upTo_up (top := top) ht l _ (fun x hx => hl x (by simp [hx])) h
      have h3 := sumTo_eq ht (l := [m]) (n := n) h2.1
      simp only [List.sum_cons, List.sum_nil, Int.add_zero] at h3
      rw [List.sum_cons]
      omega
    · omega
theorem size_pos {s : ByteArray} (h : s.toList.isEmpty = false) : 0 < s.size := by
  rcases Nat.eq_zero_or_pos s.size with h0 | h0
  · have e : s = ByteArray.empty := by
      apply ByteArray.ext
      exact Array.eq_empty_of_size_eq_zero h0
    rw [empty_b] at h
    exact absurd e (of_decide_eq_false h)
  · exact h0
theorem name_pos {s : ByteArray} (h : nameB s = true) : 0 < s.size := by
  unfold nameB at h
  simp only [Bool.and_eq_true, Bool.not_eq_true'] at h
  exact size_pos h.1
theorem evL_units (e : Ev) : ((evL e).length : Int) ≤ 41 * (1 + ((e.stream.size : Int) + e.data.size)) := by
  have h := evL_len e
  cases hok : evOk e with
  | false =>
    rw [evL_none hok]
    simp
    omega
  | true =>
    have := name_pos ((evOk_iff e).1 hok).1
    omega
theorem knBytes_units {k : Kn} (hk : knOk k = true) : ((knBytes k).length : Int) ≤ 41 * (1 + (k.key.size : Int)) := by
  have h := knBytes_len k
  have := size_pos ((knOk_iff k).1 hk).1
  omega
theorem flat_units {α : Type} (f : α → List UInt8) (g : α → Int) : ∀ l : List α, (∀ x ∈ l, ((f x).length : Int) ≤ 41 * (1 + g x)) → ((l.flatMap f).length : Int) ≤ 41 * (l.length + (l.map g).sum)
  | [], _ => by simp
  | x :: l, h => by
    have h1 := flat_units f g l fun y hy => h y (by simp [hy])
    have h2 := h x (by simp)
    rw [List.flatMap_cons, List.length_append, List.map_cons, List.sum_cons, List.length_cons]
    omega
/-- What a stream counts for. -/
def smU (s : SmM) : Int := s.name.size + evBulk 6000 s.es + s.ks.length + (s.ks.map fun k => (k.key.size : Int)).sum
theorem keys_nn (s : SmM) : ∀ m ∈ s.ks.map fun k => (k.key.size : Int), (0 : Int) ≤ m := fun m hm => by simp at hm; obtain ⟨k, _, rfl⟩ := hm; omega
theorem smU_nn (s : SmM) : 0 ≤ smU s := by
  have h1 := (evBulk_le 6000 s.es).1
  have h2 := sum_nn (keys_nn s)
  unfold smU
  omega
theorem smsTo_sum : ∀ (ss : List SmM) (n : Int), 0 ≤ n → smsTo 6000 n ss ≤ 6000 → n + (ss.map smU).sum ≤ smsTo 6000 n ss
  | [], n, _, _ => by simp [smsTo]
  | s :: l, n, hn, h => by
    unfold smsTo at h ⊢
    split at h
    · rename_i hc
      rw [if_pos hc]
      have he := evBulk_le 6000 s.es
      have hl3 : ∀ m ∈ [(s.name.size : Int), evBulk 6000 s.es, (s.ks.length : Int)], 0 ≤ m := by simp; omega
      have hp := sumTo_pos hl3 hn
      have h0 := upTo_pos (top := 6000) (keys_nn s) hp
      have h1 := smsTo_sum l _ h0 h
      have h2 := (smsTo_up (top := 6000) (by omega) l _ h).1
      have h3 := upTo_eq (top := 6000) (by omega) _ _ (keys_nn s) h2
      have h4 := (upTo_up (top := 6000) (by omega) _ _ (keys_nn s) h2).1
      have h5 := sumTo_eq (top := 6000) (by omega) h4
      simp only [List.sum_cons, List.sum_nil, Int.add_zero] at h5
      rw [List.map_cons, List.sum_cons]
      unfold smU
      unfold smU at h1
      omega
    · omega
theorem evBulk_sum {es : List Ev} (h : evBulk 6000 es ≤ 6000) : (es.length : Int) + (es.map fun e => (e.stream.size : Int) + e.data.size).sum ≤ evBulk 6000 es := by
  have h4 : evBulkTo 6000 (sumTo 0 [(es.length : Int)]) es ≤ 6000 := h
  have h5 : sumTo 0 [(es.length : Int)] + (es.map fun e => (e.stream.size : Int) + e.data.size).sum ≤ evBulk 6000 es := evBulkTo_sum (by omega) _ _ h4
  have h6 := sumTo_eq (top := 6000) (by omega) (l := [(es.length : Int)]) (n := 0) (by
    have := evBulkTo_up (top := 6000) (by omega) es _ h4
    exact this.1)
  simp only [List.sum_cons, List.sum_nil, Int.add_zero] at h6
  omega
theorem smL_units {s : SmM} (h : smU s ≤ 6000) : ((smL s.sm).length : Int) ≤ 41 * smU s := by
  cases hok : smOk s.sm with
  | false =>
    rw [smL_no hok]
    have := smU_nn s
    simp
    omega
  | true =>
    obtain ⟨h1, h2, h3⟩ := (smOk_iff s.sm).1 hok
    have hn : 0 < s.name.size := name_pos h1
    have hb := sum_nn (keys_nn s)
    have he := evBulk_le 6000 s.es
    have hes := evBulk_sum (es := s.es) (by unfold smU at h; omega)
    have a1 := flat_units evL (fun e => (e.stream.size : Int) + e.data.size) s.es fun e _ => evL_units e
    have a2 := flat_units knBytes (fun k => (k.key.size : Int)) s.ks fun k hk => knBytes_units (h3 k hk)
    rw [smL_ok hok]
    unfold smBytes SmM.sm
    simp only [List.length_append]
    have := text_len s.name
    have := vL_len s.es.length
    have := vL_len s.ks.length
    unfold smU
    omega
theorem sms_units : ∀ ss : List SmM, (∀ s ∈ ss, smU s ≤ 6000) → (((ss.map SmM.sm).flatMap smL).length : Int) ≤ 41 * (ss.map smU).sum
  | [], _ => by simp
  | s :: l, h => by
    have h1 := sms_units l fun t ht => h t (by simp [ht])
    have h2 := smL_units (h s (by simp))
    rw [List.map_cons, List.flatMap_cons, List.length_append, List.map_cons, List.sum_cons]
    omega
theorem mem_le_sum {α : Type} {g : α → Int} (hg : ∀ x, 0 ≤ g x) : ∀ {l : List α} {x : α}, x ∈ l → g x ≤ (l.map g).sum
  | y :: l, x, h => by
    have hs : 0 ≤ (l.map g).sum := sum_nn fun m hm => by
      obtain ⟨z, _, rfl⟩ := List.mem_map.1 hm
      exact hg z
    rw [List.map_cons, List.sum_cons]
    rcases List.mem_cons.1 h with rfl | h
    · omega
    · have := mem_le_sum hg h
      have := hg y
      omega
theorem sms_fine {ss : List SmM} (h : smsBulk 6000 ss ≤ 6000) : ((ss.map SmM.sm).flatMap smL).length ≤ 246000 := by
  have h1 : smsTo 6000 (sumTo 0 [(ss.length : Int)]) ss ≤ 6000 := h
  have h0 : 0 ≤ sumTo 0 [(ss.length : Int)] := sumTo_pos (by simp) (by omega)
  have h2 := smsTo_sum ss _ h0 h1
  have h3 := sms_units ss fun s hs => by
    have := mem_le_sum smU_nn hs
    omega
  omega
theorem batL_fine2 {key : ByteArray} {ps : List PutM} (h : batchOf 6000 key ps ≤ 6000) : (batL key (ps.map PutM.p)).length ≤ 250000 := by
  by_cases hc : chkN key (ps.map PutM.p) = 0
  · have h1 := chk_small hc
    rw [List.length_map] at h1
    unfold batchOf at h
    have b1 := bulkTo_small (by omega) _ _ h
    have b2 := sumTo_le_two (by omega) (by omega) (by omega) b1.1
    have b3 := b1.2 (sumTo_pos (l := [(key.size : Int), (ps.length : Int)]) (by simp) (by omega))
    rw [batL_ok hc]
    unfold batBytes
    have h2 := flatLe putBytes 30000 (ps.map PutM.p) fun p hp => by
      obtain ⟨m, hm, rfl⟩ := List.mem_map.1 hp
      have h3 := h1.2 _ hp
      have h4 := (b3 m hm).1
      have h5 := texts_len m.p.data 1000 h3.2.1
      have h6 := textL_len m.p.stream
      have h7 : (m.p.stream.size : Int) ≤ 6000 := h4
      have h8 := vL_len (zigN m.p.expect)
      have h9 := vL_len m.p.data.length
      have h10 := Nat.mul_le_mul_right 1010 h3.1
      unfold putBytes
      simp only [List.length_append]
      omega
    rw [List.length_map] at h2
    have h3 := textL_len key
    have h4 := vL_len (ps.map PutM.p).length
    simp only [List.length_append]
    have h5 := Nat.mul_le_mul_right 30000 h1.1
    omega
  · rw [batL_no hc]
    simp
end Go.Proofs.YtheogchkelmeeaaDoor

/- Several texts in one: BulkLaw, MsgSmall, RecNamed, RecSpare, SameRg, RefMIn. -/
import Derived.Test.YtheogchkelmeeaaDoorM28MsgCodes
import Derived.Test.YtheogchkelmeeaaDoorM13MsgCodes
import Derived.Deep.DeepCutAuto
/- What penstockalike's sums tell of batches and streams. Plain mathematics. No condition. -/
namespace Go.Proofs.YtheogchkelmeeaaDoor
open Go.RowKit

theorem bulkTo_le (top n : Int) (h0 : 0 ≤ n) (h : n ≤ 1099511627776) : ∀ l : List PutM, 0 ≤ bulkTo top n l ∧ bulkTo top n l ≤ 1099511627776 := by
  intro l
  induction l generalizing n with
  | nil => exact ⟨h0, h⟩
  | cons p l ih =>
    unfold bulkTo
    split
    · have h1 := totalOf_le top p.data
      have h2 := sumTo_le2 n p.stream.size (totalOf top p.data) h0 h (by omega) h1.1
      exact ih _ h2.1 h2.2
    · exact ⟨h0, h⟩
theorem batchOf_le (top : Int) (key : ByteArray) (ps : List PutM) : 0 ≤ batchOf top key ps ∧ batchOf top key ps ≤ 1099511627776 := by
  have h := sumTo_le2 0 key.size ps.length (by omega) (by omega) (by omega) (by omega)
  exact bulkTo_le top _ h.1 h.2 ps
theorem smL_fineOf {s : SmM} {n0 : Int} (hn : 0 ≤ n0) (h : upTo 6000 (sumTo n0 [(s.name.size : Int), evBulk 6000 s.es, (s.ks.length : Int)]) (s.ks.map fun k => (k.key.size : Int)) ≤ 6000) : (smL s.sm).length ≤ 500000 := by
  have hks : ∀ m ∈ s.ks.map fun k => (k.key.size : Int), (0 : Int) ≤ m := fun m hm => by simp at hm; obtain ⟨k, _, rfl⟩ := hm; omega
  have h2 := upTo_sum (by omega) _ _ hks h
  have h20 : 0 ≤ (s.ks.map fun k => (k.key.size : Int)).sum := sum_nn hks
  have he := (evBulk_le 6000 s.es).1
  have h3 := sumTo_up (top := 6000) (by omega) (l := [(s.name.size : Int), evBulk 6000 s.es, (s.ks.length : Int)]) (n := n0) (by simp; omega) (by omega)
  simp only [List.sum_cons, List.sum_nil, Int.add_zero] at h3
  have h31 := sumTo_pos (l := [(s.name.size : Int), evBulk 6000 s.es, (s.ks.length : Int)]) (by simp; omega) hn
  have h4 : evBulkTo 6000 (sumTo 0 [(s.es.length : Int)]) s.es ≤ 6000 := by
    have : evBulk 6000 s.es ≤ 6000 := by omega
    exact this
  have h5 : sumTo 0 [(s.es.length : Int)] + (s.es.map fun e => (e.stream.size : Int) + e.data.size).sum ≤ evBulk 6000 s.es := evBulkTo_sum (by omega) _ _ h4
  have h50 : 0 ≤ (s.es.map fun e => (e.stream.size : Int) + e.data.size).sum := sum_nn fun x hx => by
    obtain ⟨e, _, rfl⟩ := List.mem_map.1 hx
    omega
  have h6 := sumTo_up (top := 6000) (by omega) (l := [(s.es.length : Int)]) (n := 0) (by simp) (by omega)
  simp only [List.sum_cons, List.sum_nil, Int.add_zero] at h6
  have h7 : sumTo 0 [(s.es.length : Int)] = s.es.length := by
    unfold sumTo
    rw [if_pos (by omega)]
    unfold sumTo
    omega
  unfold smL
  split
  · unfold smBytes SmM.sm
    simp only [List.length_append]
    have a1 := flat_sum evL (fun e => (e.stream.size : Int) + e.data.size + 80) (fun e => by have := evL_len e; omega) s.es
    have a2 := flat_sum knBytes (fun k => (k.key.size : Int) + 50) (fun k => by have := knBytes_len k; omega) s.ks
    rw [sum_plus] at a1 a2
    have := text_len s.name
    have := vL_len s.es.length
    have := vL_len s.ks.length
    omega
  · simp
theorem smsTo_fine : ∀ (ss : List SmM) (n : Int), smsTo 6000 n ss ≤ 6000 → 0 ≤ n → n ≤ 1099511627776 → ∀ s ∈ ss, (smL s.sm).length ≤ 500000
  | [], _, _, _, _ => fun _ h => by cases h
  | s :: l, n, h, hn, hn2 => by
    have hks : ∀ m ∈ s.ks.map fun k => (k.key.size : Int), (0 : Int) ≤ m := fun m hm => by simp at hm; obtain ⟨k, _, rfl⟩ := hm; omega
    unfold smsTo at h
    split at h
    · have he := evBulk_le 6000 s.es
      have hl3 : ∀ m ∈ [(s.name.size : Int), evBulk 6000 s.es, (s.ks.length : Int)], 0 ≤ m := by simp; omega
      have hp := sumTo_pos hl3 hn
      have h0 := upTo_pos (top := 6000) hks hp
      have h1 := (smsTo_up (top := 6000) (by omega) l _ h).1
      have h2 := smsTo_fine l _ h h0 (by omega)
      intro t ht
      rcases List.mem_cons.1 ht with rfl | ht
      · exact smL_fineOf hn h1
      · exact h2 t ht
    · omega
end Go.Proofs.YtheogchkelmeeaaDoor
/- penstocklaw10.small: what it answers, and what a message then is that is looked at. No condition beyond lengths. -/
namespace Go.Proofs.YtheogchkelmeeaaDoor
open Go.RowKit

def msgBulk (r : MsgM) : Int := sumTo (batchOf 6000 r.key r.ps) [smsBulk 6000 r.sms, evBulk 6000 r.es, (r.firsts.length : Int), (r.rgs.length : Int)]
/-- What the numbers of a message are, whatever it is. -/
structure MsgM.Wide (r : MsgM) : Prop extends MsgM.I64 r where
  st : Int64 r.st.wall ∧ Int64 r.st.logic ∧ Int64 r.st.node
  puts : ∀ p ∈ r.ps, -9223372036854775808 ≤ p.expect ∧ p.expect ≤ 9223372036854775807
  firstsL : r.firsts.length ≤ 9223372036854775807
  rgsL : r.rgs.length ≤ 9223372036854775807
  keyL : r.key.size ≤ 9223372036854775807
  psO : PutsOk r.ps
  smO : SmsOk r.sms
  esL : r.es.length ≤ 9223372036854775807
  esO : EvsOk r.es
theorem msg_small {r : MsgM} (hi : r.Wide) (h : msgBulk r ≤ 6000) : r.Small := by
  have hb := batchOf_le 6000 r.key r.ps
  have hs := smsBulk_le 6000 r.sms
  have he := evBulk_le 6000 r.es
  have h1 := sumTo_up (top := 6000) (by omega) (l := [smsBulk 6000 r.sms, evBulk 6000 r.es, (r.firsts.length : Int), (r.rgs.length : Int)]) (n := batchOf 6000 r.key r.ps) (by simp; omega) h
  simp only [List.sum_cons, List.sum_nil, Int.add_zero] at h1
  have h2 := bat_small_at (top := 6000) (by omega) (key := r.key) (ps := r.ps) (by omega) hi.puts
  have h3 := sms_small (top := 6000) (by omega) (ss := r.sms) (by omega)
  have h5 : smsTo 6000 (sumTo 0 [(r.sms.length : Int)]) r.sms ≤ 6000 := by
    have h6 : smsBulk 6000 r.sms ≤ 6000 := by omega
    exact h6
  have h7 := (smsTo_up (top := 6000) (by omega) r.sms _ h5).1
  have h4 := smsTo_fine r.sms _ h5 (sumTo_pos (by simp) (by omega)) (by omega)
  have h8 := evBulk_up (top := 6000) (by omega) (es := r.es) (by omega)
  exact { toI64 := hi.toI64, firstsL := by omega, key := by omega, ps := h2.2, bat := batL_fine (by omega), smsL := by omega, sms := fun s hm => ⟨h3.2 s hm, h4 s hm⟩, esL := by omega, es := fun e hm => ⟨by have := h8.2 e hm; omega, by have := h8.2 e hm; have := evL_len e; omega⟩, rgsL := by omega }
theorem sl_4 {w : World} {b : Nat} {m m2 m3 m4 : Int} (hc : w.cell? ⟨b, 0, none⟩ = some (.int .i64 m)) (hc2 : w.cell? ⟨b, 1, none⟩ = some (.int .i64 m2)) (hc3 : w.cell? ⟨b, 2, none⟩ = some (.int .i64 m3)) (hc4 : w.cell? ⟨b, 3, none⟩ = some (.int .i64 m4)) :
    Sl intC 1 w (b + 1) (some ⟨b, 0, none⟩) [m, m2, m3, m4] := fun _ =>
  ⟨b, 0, rfl, by omega, fun k x hx j u hu => by
    rcases j with _ | j
    · rcases k with _ | _ | _ | _ | k
      · simp at hx; subst hx; simp [intC] at hu; subst hu; exact hc
      · simp at hx; subst hx; simp [intC] at hu; subst hu; exact hc2
      · simp at hx; subst hx; simp [intC] at hu; subst hu; exact hc3
      · simp at hx; subst hx; simp [intC] at hu; subst hu; exact hc4
      · simp at hx
    · simp [intC] at hu⟩
/-- Sum of four numbers more, in a block of their own. -/
theorem sum_4 (n m m2 m3 m4 : Int) (b : Nat) (w : World) (h0 : 0 ≤ n) (h1 : n ≤ 1099511627776) (hm : 0 ≤ m) (hm2 : m ≤ 9223372036854775807) (hn : 0 ≤ m2) (hn2 : m2 ≤ 9223372036854775807)
    (ho : 0 ≤ m3) (ho2 : m3 ≤ 9223372036854775807) (hp : 0 ≤ m4) (hp2 : m4 ≤ 9223372036854775807)
    (hc : w.cell? ⟨b, 0, none⟩ = some (.int .i64 m)) (hc2 : w.cell? ⟨b, 1, none⟩ = some (.int .i64 m2)) (hc3 : w.cell? ⟨b, 2, none⟩ = some (.int .i64 m3)) (hc4 : w.cell? ⟨b, 3, none⟩ = some (.int .i64 m4)) :
    Calls Tryd.prog 28 #[.int .i64 n, .slice (some ⟨b, 0, none⟩) 4 4] w fun e w' => e = .returned (.int .i64 (sumTo n [m, m2, m3, m4])) ∧ w = w' :=
  sum_any n [m, m2, m3, m4] _ 4 (b + 1) w h0 h1 (fun x hx => by simp at hx; omega) (by simp) (sl_4 hc hc2 hc3 hc4)
set_option maxRecDepth 100000 in
set_option maxHeartbeats 2000000 in
theorem small10_any (r : MsgM) (w : World) (hin : r.In w) (hi : r.Wide) : Calls Tryd.prog 8 #[.agg r.cells] w fun e w' => e = .returned (.bool (decide (msgBulk r ≤ 6000))) ∧ G w w' := by
  have hg0 := G.new w (.cells r.cells 36)
  have hB0 := blk_new w r.cells 36
  have hba : ∀ w', G w w' → Calls Tryd.prog 29 #[.agg #[.string r.key, .slice r.Ap r.ps.length r.cp], .int .i64 6000] w' fun e w'' => e = .returned (.int .i64 (batchOf 6000 r.key r.ps)) ∧ G w' w'' := fun w' hg => batch_any 6000 r.key r.ps r.Ap r.cp w.heap.size w' hg.size hi.keyL hi.psO (hin.ps.g (Nat.le_refl _) hg)
  have hsa : ∀ w', G w w' → Calls Tryd.prog 30 #[.slice r.As r.sms.length r.cs, .int .i64 6000] w' fun e w'' => e = .returned (.int .i64 (smsBulk 6000 r.sms)) ∧ G w' w'' := fun w' hg => streams_any 6000 r.sms r.As r.cs w.heap.size w' hg.size hi.smO (hin.sms.g (Nat.le_refl _) hg)
  have hea : ∀ w', G w w' → Calls Tryd.prog 31 #[.slice r.Ae r.es.length r.ce, .int .i64 6000] w' fun e w'' => e = .returned (.int .i64 (evBulk 6000 r.es)) ∧ G w' w'' := fun w' hg => (events_any 6000 r.es r.Ae r.ce w.heap.size w' hg.size hi.esL hi.esO (hin.es.g (Nat.le_refl _) hg)).mono fun e w'' h => h
  have hb := batchOf_le 6000 r.key r.ps
  have hs := smsBulk_le 6000 r.sms
  have he := evBulk_le 6000 r.es
  have hnl := hi.firstsL
  have hrl := hi.rgsL
  unfold msgBulk
  have hS0 := sumTo_le (batchOf 6000 r.key r.ps) hb.1 hb.2 [smsBulk 6000 r.sms, evBulk 6000 r.es, (r.firsts.length : Int), (r.rgs.length : Int)] (by simp; omega)
  generalize batchOf 6000 r.key r.ps = x at *
  generalize smsBulk 6000 r.sms = y at *
  generalize evBulk 6000 r.es = z at *
  obtain ⟨S, hS⟩ : ∃ S, sumTo x [y, z, (r.firsts.length : Int), (r.rgs.length : Int)] = S := ⟨_, rfl⟩
  rw [hS] at hS0 ⊢
  have hsum : ∀ (b : Nat) (w' : World), w'.cell? ⟨b, 0, none⟩ = some (.int .i64 y) → w'.cell? ⟨b, 1, none⟩ = some (.int .i64 z) → w'.cell? ⟨b, 2, none⟩ = some (.int .i64 r.firsts.length) → w'.cell? ⟨b, 3, none⟩ = some (.int .i64 r.rgs.length) → Calls Tryd.prog 28 #[.int .i64 x, .slice (some ⟨b, 0, none⟩) 4 4] w' fun e w'' => e = .returned (.int .i64 S) ∧ w' = w'' := fun b w' c1 c2 c3 c4 => by
    rw [← hS]
    exact sum_4 x y z r.firsts.length r.rgs.length b w' (by omega) (by omega) (by omega) (by omega) (by omega) (by omega) (by omega) (by omega) (by omega) (by omega) c1 c2 c3 c4
  replace hba := Lib.hid hba
  replace hsa := Lib.hid hsa
  replace hea := Lib.hid hea
  replace hin := Lib.hid hin
  replace hi := Lib.hid hi
  replace hS := Lib.hid hS
  replace hsum := Lib.hid hsum
  go_enter Tryd.func8, Tryd.ntmps8
  go_upto_region 1 with fail
  generalize w.alloc (.cells r.cells 36) = W0 at *
  have q4 : ∀ w', G W0 w' → w'.cell? ⟨w.heap.size, 4, none⟩ = some (.string r.key) := fun w' h => (blk_cell (h.blk hB0) 4).trans rfl
  have q5 : ∀ w', G W0 w' → w'.cell? ⟨w.heap.size, 5, none⟩ = some (.slice r.Ap r.ps.length r.cp) := fun w' h => (blk_cell (h.blk hB0) 5).trans rfl
  have q16 : ∀ w', G W0 w' → w'.cell? ⟨w.heap.size, 16, none⟩ = some (.slice r.As r.sms.length r.cs) := fun w' h => (blk_cell (h.blk hB0) 16).trans rfl
  have q19 : ∀ w', G W0 w' → w'.cell? ⟨w.heap.size, 19, none⟩ = some (.slice r.Ae r.es.length r.ce) := fun w' h => (blk_cell (h.blk hB0) 19).trans rfl
  have q10 : ∀ w', G W0 w' → w'.cell? ⟨w.heap.size, 10, none⟩ = some (.slice r.An r.firsts.length r.cn) := fun w' h => (blk_cell (h.blk hB0) 10).trans rfl
  have q20 : ∀ w', G W0 w' → w'.cell? ⟨w.heap.size, 20, none⟩ = some (.slice r.Ag r.rgs.length r.cg) := fun w' h => (blk_cell (h.blk hB0) 20).trans rfl
  replace hB0 := Lib.hid hB0
  have hGw : ∀ w', G W0 w' → G w w' := fun w' h => hg0.trans h
  replace hGw := Lib.hid hGw
  have hdr : G W0 W0.drew := (G.refl _).drew
  go_region_held3 (fun w' => G W0 w') (first | exact hdr | exact G.keep hb1 (by assumption) | exact G.keep hs1 (by assumption) | exact G.keep he1 (by assumption) | exact G.alloc (by assumption) _ | assumption | fail) (first
    | (go_at_call 29; (with_reducible refine Calls.mono (hba.out _ (hGw.out _ (by assumption))) ?_); rintro e u1 ⟨rfl, hb1⟩)
    | (go_at_call 30; (with_reducible refine Calls.mono (hsa.out _ (hGw.out _ (by assumption))) ?_); rintro e u2 ⟨rfl, hs1⟩)
    | (go_at_call 31; (with_reducible refine Calls.mono (hea.out _ (hGw.out _ (by assumption))) ?_); rintro e u3 ⟨rfl, he1⟩)
    | (go_at_call 28; refine (hsum.out _ _ (by first | simp | (rw [hb1.cell (by simp)]; simp)) (by first | simp | (rw [hb1.cell (by simp)]; simp)) (by first | simp | (rw [hb1.cell (by simp)]; simp)) (by first | simp | (rw [hb1.cell (by simp)]; simp))).mono ?_; rintro e w2 ⟨rfl, rfl⟩))
  all_goals
    go_wp2_with fail
    go_ret
    exact ⟨rfl, hGw.out _ (by assumption)⟩
end Go.Proofs.YtheogchkelmeeaaDoor
/- rec.named: the fields that a kind names. No condition. -/
namespace Go.Proofs.YtheogchkelmeeaaDoor
open Go.RowKit

theorem fl_of {k : Int} (h : fOk k = false) : flOf k = {} := by
  have := fOk_no h
  unfold flOf
  rw [if_neg (by omega), if_neg (by omega), if_neg (by omega), if_neg (by omega), if_neg (by omega), if_neg (by omega), if_neg (by omega), if_neg (by omega), if_neg (by omega)]
end Go.Proofs.YtheogchkelmeeaaDoor
/- rec.spare: whether the fields are zero that are not named. Condition: lengths fit an int. -/
namespace Go.Proofs.YtheogchkelmeeaaDoor
open Go.RowKit

def txB (a b c a' b' c' : Int) : Bool := decide (a = a' ∧ b = b' ∧ c = c')
def rgB (a b c d a' b' c' d' : Int) : Bool := decide (a = a' ∧ b = b' ∧ c = c' ∧ d = d')
theorem empty_b (s : ByteArray) : s.toList.isEmpty = decide (s = ByteArray.empty) := by
  rw [← bytes_beq]
  have : ByteArray.empty.toList = [] := by rw [ByteArray.toList_eq]; rfl
  rw [this]
  cases s.toList <;> rfl
section
variable (w : World)
theorem tx_equal (a b c a' b' c' : Int) : (Op.equalIn 10000 23 (.agg #[.int .i64 a, .int .i64 b, .int .i64 c]) (.agg #[.int .i64 a', .int .i64 b', .int .i64 c'])).run Tryd.prog w = .ok (txB a b c a' b' c') w := by
  by_cases h1 : a = a' <;> by_cases h2 : b = b' <;> by_cases h3 : c = c' <;> simp [go_sem, txB, h1, h2, h3]
theorem tx_eql (a b c a' b' c' : Int) : (binOp .eql 23 (.agg #[.int .i64 a, .int .i64 b, .int .i64 c]) (.agg #[.int .i64 a', .int .i64 b', .int .i64 c'])).run Tryd.prog w = .ok (.bool (txB a b c a' b' c')) w := by
  rw [run_eql_struct, tx_equal]
  rfl
theorem tx_neq (a b c a' b' c' : Int) : (binOp .neq 23 (.agg #[.int .i64 a, .int .i64 b, .int .i64 c]) (.agg #[.int .i64 a', .int .i64 b', .int .i64 c'])).run Tryd.prog w = .ok (.bool (!txB a b c a' b' c')) w := by
  rw [run_neq_struct, tx_equal]
  rfl
theorem rg_equal (a b c d a' b' c' d' : Int) : (Op.equalIn 10000 31 (.agg #[.int .i64 a, .int .i64 b, .int .i64 c, .int .i64 d]) (.agg #[.int .i64 a', .int .i64 b', .int .i64 c', .int .i64 d'])).run Tryd.prog w = .ok (rgB a b c d a' b' c' d') w := by
  by_cases h1 : a = a' <;> by_cases h2 : b = b' <;> by_cases h3 : c = c' <;> by_cases h4 : d = d' <;> simp [go_sem, rgB, h1, h2, h3, h4]
theorem rg_eql (a b c d a' b' c' d' : Int) : (binOp .eql 31 (.agg #[.int .i64 a, .int .i64 b, .int .i64 c, .int .i64 d]) (.agg #[.int .i64 a', .int .i64 b', .int .i64 c', .int .i64 d'])).run Tryd.prog w = .ok (.bool (rgB a b c d a' b' c' d')) w := by
  rw [run_eql_struct, rg_equal]
  rfl
theorem rg_neq (a b c d a' b' c' d' : Int) : (binOp .neq 31 (.agg #[.int .i64 a, .int .i64 b, .int .i64 c, .int .i64 d]) (.agg #[.int .i64 a', .int .i64 b', .int .i64 c', .int .i64 d'])).run Tryd.prog w = .ok (.bool (!rgB a b c d a' b' c' d')) w := by
  rw [run_neq_struct, rg_equal]
  rfl
end
end Go.Proofs.YtheogchkelmeeaaDoor
/- penstockref7.SameRanges of two lists alike: true. Condition: the length fits an int. -/
namespace Go.Proofs.YtheogchkelmeeaaDoor
open Go.RowKit

theorem Sl.rg {w : World} {B : Nat} {A : Option Addr} {xs : List Rg} {k : Nat} {x : Rg} (h : Sl Rg.cells 4 w B A xs) (hx : xs[k]? = some x) :
    ∃ b o, A = some ⟨b, o, none⟩ ∧ b < B ∧ w.cell? ⟨b, o + k * 4, none⟩ = some (.int .i64 x.a) ∧ w.cell? ⟨b, o + k * 4 + 1, none⟩ = some (.int .i64 x.b) ∧ w.cell? ⟨b, o + k * 4 + 2, none⟩ = some (.int .i64 x.c) ∧ w.cell? ⟨b, o + k * 4 + 3, none⟩ = some (.int .i64 x.d) := by
  obtain ⟨b, o, e, hb, hc⟩ := h.get hx
  exact ⟨b, o, e, hb, hc 0 _ rfl, hc 1 _ rfl, hc 2 _ rfl, hc 3 _ rfl⟩
theorem rgB_self (a b c d : Int) : rgB a b c d a b c d = true := by simp [rgB]
set_option maxHeartbeats 1000000 in
theorem sameRgs_yes (xs : List Rg) (A A2 : Option Addr) (c c2 B B2 : Nat) (w : World) (hB : B ≤ w.heap.size) (hB2 : B2 ≤ w.heap.size) (hl : xs.length ≤ 9223372036854775806) (hs : Sl Rg.cells 4 w B A xs) (hs2 : Sl Rg.cells 4 w B2 A2 xs) :
    Calls Tryd.prog 37 #[.slice A xs.length c, .slice A2 xs.length c2] w fun e w' => e = .returned (.bool true) ∧ G w w' := by
  go_enter Tryd.func37, Tryd.ntmps37
  go_wp2_with fail
  go_loopw [5] (fun i wr => ∃ k : Nat, i = .int .i64 k ∧ k ≤ xs.length ∧ G w wr) (fun i _ => xs.length - (intOf i).toNat)
  case atStart => exact ⟨0, rfl, Nat.zero_le _, G.refl _⟩
  case round =>
    obtain ⟨k, rfl, hk, hg⟩ := hrel
    by_cases hlt : k < xs.length
    · obtain ⟨x, hx⟩ : ∃ x, xs[k]? = some x := ⟨_, List.getElem?_eq_getElem hlt⟩
      obtain ⟨b, o, rfl, hb, c0, c1, c2, c3⟩ := (hs.g hB hg).rg hx
      obtain ⟨b2, o2, rfl, hb2, d0, d1, d2, d3⟩ := (hs2.g hB2 hg).rg hx
      obtain ⟨xa, xb, xc, xd⟩ := x
      dsimp only at c0 c1 c2 c3 d0 d1 d2 d3
      have n1 : (0 : Int) ≤ (k : Int) := by omega
      have n2 : (k : Int) < (xs.length : Int) := by omega
      have hq := @rg_neq
      have hs0 := rgB_self xa xb xc xd
      replace hx := Lib.hid hx
      clear hs hs2
      go_upto_region 6 with fail
      go_quiet (fail)
      go_wp2_with fail
      go_roundw
      case rel => exact ⟨k + 1, by go_num, by omega, by first | exact hg | exact hg.drew | exact hg.drewN _⟩
      case measure => (simp [intOf] <;> omega)
    · clear hs hs2
      go_wp2_with fail
      go_ret
      exact ⟨rfl, hg⟩
end Go.Proofs.YtheogchkelmeeaaDoor
/- penstockref10.in, ranges: what they answer. Condition: lengths that fit an int. -/
namespace Go.Proofs.YtheogchkelmeeaaDoor
open Go.RowKit

theorem all_take_snocM {α : Type} {p : α → Bool} {l : List α} {k : Nat} {x : α} (h : l[k]? = some x) (h1 : (l.take k).all p = true) (h2 : p x = true) : (l.take (k + 1)).all p = true := by
  rw [List.take_add_one, h, List.all_append, h1]
  simp [h2]
theorem all_notM {α : Type} {p : α → Bool} {l : List α} {k : Nat} {x : α} (h : l[k]? = some x) (h2 : p x = false) : l.all p = false := List.all_eq_false.2 ⟨x, List.mem_of_getElem? h, by rw [h2]; simp⟩
set_option maxRecDepth 100000 in
set_option maxHeartbeats 2000000 in
theorem in10_any (l : List Int) (A : Option Addr) (c B : Nat) (w : World) (hl : l.length ≤ 9223372036854775806) (hs : Sl intC 1 w B A l) :
    Calls Tryd.prog 50 #[.slice A l.length c] w fun e w' => e = .returned (.bool (inB l)) ∧ G w w' := by
  obtain ⟨CK, hCK⟩ : ∃ b, inB l = b := ⟨_, rfl⟩
  rw [hCK]
  unfold inB at hCK
  replace hCK := Lib.hid hCK
  replace hs := Lib.hid hs
  go_enter Tryd.func50, Tryd.ntmps50
  go_wp2_with fail
  go_loop [3] (fun i => ∃ k : Nat, k ≤ l.length ∧ i = .int .i64 k ∧ Hid (okIs 1099511627776 (l.take k) = true)) (fun i => l.length - (intOf i).toNat)
  case atStart => exact ⟨0, Nat.zero_le _, rfl, Lib.hid rfl⟩
  case round =>
    obtain ⟨k, hkl, rfl, hio⟩ := hrel
    by_cases hlt : k < l.length
    · obtain ⟨x, hx⟩ : ∃ x, l[k]? = some x := ⟨_, List.getElem?_eq_getElem hlt⟩
      obtain ⟨b5, o5, rfl, _, hcx⟩ := hs.out.int hx
      have n1 : (0 : Int) ≤ (k : Int) := by omega
      have n2 : (k : Int) < (l.length : Int) := by omega
      cases hxo : okI 1099511627776 x with
      | false =>
        obtain rfl : CK = false := by rw [← hCK.out, okIs_not hx hxo]; rfl
        have hxo' := of_decide_eq_false hxo
        replace hxo := Lib.hid hxo
        replace hx := Lib.hid hx
        by_cases h0 : x < 0
        · have m1 : decide (x < 0) = true := decide_eq_true h0
          clear hxo'
          go_wp2_with fail
          go_ret
          exact ⟨rfl, G.refl _⟩
        · have m1 : decide (x < 0) = false := decide_eq_false h0
          have m2 : decide (1099511627776 < x) = true := decide_eq_true (by omega)
          clear hxo'
          go_wp2_with fail
          go_ret
          exact ⟨rfl, G.refl _⟩
      | true =>
        have hxo' := of_decide_eq_true hxo
        have hnx := Lib.hid (okIs_take hx hio.out hxo)
        have m1 : decide (x < 0) = false := decide_eq_false (by omega)
        have m2 : decide (1099511627776 < x) = false := decide_eq_false (by omega)
        replace hxo := Lib.hid hxo
        replace hx := Lib.hid hx
        clear hxo'
        go_wp2_with fail
        go_round
        case rel => exact ⟨k + 1, by omega, by go_num, hnx⟩
        case measure => simp [intOf]; omega
    · have hall := hio.out
      rw [List.take_of_length_le (by omega)] at hall
      obtain rfl : CK = decide ((l.length : Int) ≤ 1000) := by
        rw [← hCK.out, hall, Bool.true_and, decide_eq_decide]
        omega
      clear hio hall hs
      go_wp2_with fail
      go_ret
      exact ⟨rfl, G.refl _⟩
set_option maxRecDepth 100000 in
set_option maxHeartbeats 4000000 in
theorem ranges10_any (l : List Rg) (A : Option Addr) (c B : Nat) (w : World) (hB : B ≤ w.heap.size) (hl : l.length ≤ 9223372036854775806) (hs : Sl Rg.cells 4 w B A l) :
    Calls Tryd.prog 52 #[.slice A l.length c] w fun e w' => e = .returned (.bool (rgsB l)) ∧ G w w' := by
  obtain ⟨CK, hCK⟩ : ∃ b, rgsB l = b := ⟨_, rfl⟩
  rw [hCK]
  unfold rgsB at hCK
  replace hCK := Lib.hid hCK
  replace hs := Lib.hid hs
  go_enter Tryd.func52, Tryd.ntmps52
  go_wp2_with fail
  go_loopw [3] (fun i wr => ∃ k : Nat, k ≤ l.length ∧ i = .int .i64 k ∧ Hid ((l.take k).all (fun g => inB (rgNs g)) = true) ∧ G w wr) (fun i _ => l.length - (intOf i).toNat)
  case atStart => exact ⟨0, Nat.zero_le _, rfl, Lib.hid rfl, G.refl _⟩
  case round =>
    obtain ⟨wo, rfl⟩ : ∃ wo : World, wo = wr := ⟨_, rfl⟩
    obtain ⟨k, hkl, rfl, hio, hg⟩ := hrel
    by_cases hlt : k < l.length
    · obtain ⟨x, hx⟩ : ∃ x, l[k]? = some x := ⟨_, List.getElem?_eq_getElem hlt⟩
      obtain ⟨b, o, rfl, hb, c0, c1, c2, c3⟩ := (hs.out.g hB hg).rg hx
      have hb' : b < wo.heap.size := by have := hg.size; omega
      obtain ⟨xa, xb, xc, xd⟩ := x
      dsimp only at c0 c1 c2 c3
      have q0 : ∀ w', G wo w' → w'.cell? ⟨b, o + k * 4, none⟩ = some (.int .i64 xa) := fun w' h => (h.cell hb').trans c0
      have q1 : ∀ w', G wo w' → w'.cell? ⟨b, o + k * 4 + 1, none⟩ = some (.int .i64 xb) := fun w' h => (h.cell hb').trans c1
      have q2 : ∀ w', G wo w' → w'.cell? ⟨b, o + k * 4 + 2, none⟩ = some (.int .i64 xc) := fun w' h => (h.cell hb').trans c2
      have q3 : ∀ w', G wo w' → w'.cell? ⟨b, o + k * 4 + 3, none⟩ = some (.int .i64 xd) := fun w' h => (h.cell hb').trans c3
      have n1 : (0 : Int) ≤ (k : Int) := by omega
      have n2 : (k : Int) < (l.length : Int) := by omega
      have n3 : k < l.length := hlt
      have hcall : ∀ (b4 : Nat) (w' : World), w'.cell? ⟨b4, 0, none⟩ = some (.int .i64 xa) → w'.cell? ⟨b4, 1, none⟩ = some (.int .i64 xb) → w'.cell? ⟨b4, 2, none⟩ = some (.int .i64 xc) → w'.cell? ⟨b4, 3, none⟩ = some (.int .i64 xd) → Calls Tryd.prog 50 #[.slice (some ⟨b4, 0, none⟩) 4 4] w' fun e w'' => e = .returned (.bool (inB (rgNs ⟨xa, xb, xc, xd⟩))) ∧ G w' w'' := fun b4 w' d0 d1 d2 d3 => in10_any [xa, xb, xc, xd] (some ⟨b4, 0, none⟩) 4 (b4 + 1) w' (by simp) (sl_4 d0 d1 d2 d3)
      have hdr : G wo wo.drew := (G.refl _).drew
      replace hcall := Lib.hid hcall
      replace hx := Lib.hid hx
      replace hs := Lib.hid hs
      clear c0 c1 c2 c3
      cases hxo : inB (rgNs ⟨xa, xb, xc, xd⟩) with
      | false =>
        rw [hxo] at hcall
        obtain rfl : CK = false := by rw [← hCK.out, all_notM hx.out hxo]; rfl
        replace hxo := Lib.hid hxo
        go_upto_region 4 with fail
        go_region_held3 (fun w' => G wo w') (first | exact hdr | exact G.keep hc1 (by assumption) | exact G.alloc (by assumption) _ | assumption | fail) (first
          | (go_at_call 50; refine (hcall.out _ _ (by simp) (by simp) (by simp) (by simp)).mono ?_; rintro e w2 ⟨rfl, hc1⟩))
        all_goals
          have hGe : G wo w2 := by assumption
          go_wp2_with fail
          go_ret
          exact ⟨rfl, hg.trans hGe⟩
      | true =>
        rw [hxo] at hcall
        have hnx := Lib.hid (all_take_snocM hx.out hio.out hxo)
        replace hxo := Lib.hid hxo
        go_upto_region 4 with fail
        go_region_held3 (fun w' => G wo w') (first | exact hdr | exact G.keep hc1 (by assumption) | exact G.alloc (by assumption) _ | assumption | fail) (first
          | (go_at_call 50; refine (hcall.out _ _ (by simp) (by simp) (by simp) (by simp)).mono ?_; rintro e w2 ⟨rfl, hc1⟩))
        all_goals
          have hGe : G wo w2 := by assumption
          go_wp2_with fail
          go_roundw
          case rel => exact ⟨k + 1, by omega, by go_num, hnx, hg.trans hGe⟩
          case measure => simp [intOf]; omega
    · have hall := hio.out
      rw [List.take_of_length_le (by omega)] at hall
      obtain rfl : CK = decide ((l.length : Int) ≤ 1000) := by
        rw [← hCK.out, hall, Bool.true_and, decide_eq_decide]
        omega
      clear hio hall hs
      go_wp2_with fail
      go_ret
      exact ⟨rfl, hg⟩
end Go.Proofs.YtheogchkelmeeaaDoor

/- Several texts in one: MsgSmall, RecNamed, RecSpare, SameRg, SameInts. -/
import Derived.Test.YtheogchkelmeeaaDoorMsgMQMsgAs
import Derived.Test.YtheogchkelmeeaaDoorM43MsgAs
import Derived.Test.YtheogchkelmeeaaDoorM16MsgAs
import Derived.Deep.DeepCutAuto
import Derived.Test.YtheogchkelmeeaaDoorBase
import Derived.BigQuiet
/- penstocklaw10.small: what it answers, and what a message then is that is looked at. No condition beyond lengths. -/
namespace Go.Proofs.YtheogchkelmeeaaDoor
open Go.RowKit

def msgBulk (r : MsgM) : Int := sumTo (batchOf 6000 r.key r.ps) [smsBulk 6000 r.sms, evBulk 6000 r.es, (r.firsts.length : Int), (r.rgs.length : Int)]
/-- What the numbers of a message are, whatever it is. -/
structure MsgM.Wide (r : MsgM) : Prop extends MsgM.I64 r where
  st : Int64 r.st.wall ∧ Int64 r.st.logic ∧ Int64 r.st.node
  puts : ∀ p ∈ r.ps, -9223372036854775808 ≤ p.expect ∧ p.expect ≤ 9223372036854775807
  firstsL : r.firsts.length ≤ 9223372036854775807
  rgsL : r.rgs.length ≤ 9223372036854775807
  keyL : r.key.size ≤ 9223372036854775807
  psO : PutsOk r.ps
  smO : SmsOk r.sms
  esL : r.es.length ≤ 9223372036854775807
  esO : EvsOk r.es
theorem msg_small {r : MsgM} (hi : r.Wide) (h : msgBulk r ≤ 6000) : r.Small := by
  have hb := batchOf_le 6000 r.key r.ps
  have hs := smsBulk_le 6000 r.sms
  have he := evBulk_le 6000 r.es
  have h1 := sumTo_up (top := 6000) (by omega) (l := [smsBulk 6000 r.sms, evBulk 6000 r.es, (r.firsts.length : Int), (r.rgs.length : Int)]) (n := batchOf 6000 r.key r.ps) (by simp; omega) h
  simp only [List.sum_cons, List.sum_nil, Int.add_zero] at h1
  have h2 := bat_small_at (top := 6000) (by omega) (key := r.key) (ps := r.ps) (by omega) hi.puts
  have h3 := sms_small (top := 6000) (by omega) (ss := r.sms) (by omega)
  have h5 : smsTo 6000 (sumTo 0 [(r.sms.length : Int)]) r.sms ≤ 6000 := by
    have h6 : smsBulk 6000 r.sms ≤ 6000 := by omega
    exact h6
  have h7 := (smsTo_up (top := 6000) (by omega) r.sms _ h5).1
  have h4 := smsTo_fine r.sms _ h5 (sumTo_pos (by simp) (by omega)) (by omega)
  have h8 := evBulk_up (top := 6000) (by omega) (es := r.es) (by omega)
  exact { toI64 := hi.toI64, firstsL := by omega, key := by omega, ps := h2.2, bat := batL_fine (by omega), smsL := by omega, sms := fun s hm => ⟨h3.2 s hm, h4 s hm⟩, esL := by omega, es := fun e hm => ⟨by have := h8.2 e hm; omega, by have := h8.2 e hm; have := evL_len e; omega⟩, rgsL := by omega }
theorem sl_4 {w : World} {b : Nat} {m m2 m3 m4 : Int} (hc : w.cell? ⟨b, 0, none⟩ = some (.int .i64 m)) (hc2 : w.cell? ⟨b, 1, none⟩ = some (.int .i64 m2)) (hc3 : w.cell? ⟨b, 2, none⟩ = some (.int .i64 m3)) (hc4 : w.cell? ⟨b, 3, none⟩ = some (.int .i64 m4)) :
    Sl intC 1 w (b + 1) (some ⟨b, 0, none⟩) [m, m2, m3, m4] := fun _ =>
  ⟨b, 0, rfl, by omega, fun k x hx j u hu => by
    rcases j with _ | j
    · rcases k with _ | _ | _ | _ | k
      · simp at hx; subst hx; simp [intC] at hu; subst hu; exact hc
      · simp at hx; subst hx; simp [intC] at hu; subst hu; exact hc2
      · simp at hx; subst hx; simp [intC] at hu; subst hu; exact hc3
      · simp at hx; subst hx; simp [intC] at hu; subst hu; exact hc4
      · simp at hx
    · simp [intC] at hu⟩
/-- Sum of four numbers more, in a block of their own. -/
theorem sum_4 (n m m2 m3 m4 : Int) (b : Nat) (w : World) (h0 : 0 ≤ n) (h1 : n ≤ 1099511627776) (hm : 0 ≤ m) (hm2 : m ≤ 9223372036854775807) (hn : 0 ≤ m2) (hn2 : m2 ≤ 9223372036854775807)
    (ho : 0 ≤ m3) (ho2 : m3 ≤ 9223372036854775807) (hp : 0 ≤ m4) (hp2 : m4 ≤ 9223372036854775807)
    (hc : w.cell? ⟨b, 0, none⟩ = some (.int .i64 m)) (hc2 : w.cell? ⟨b, 1, none⟩ = some (.int .i64 m2)) (hc3 : w.cell? ⟨b, 2, none⟩ = some (.int .i64 m3)) (hc4 : w.cell? ⟨b, 3, none⟩ = some (.int .i64 m4)) :
    Calls Tryd.prog 28 #[.int .i64 n, .slice (some ⟨b, 0, none⟩) 4 4] w fun e w' => e = .returned (.int .i64 (sumTo n [m, m2, m3, m4])) ∧ w = w' :=
  sum_any n [m, m2, m3, m4] _ 4 (b + 1) w h0 h1 (fun x hx => by simp at hx; omega) (by simp) (sl_4 hc hc2 hc3 hc4)
set_option maxRecDepth 100000 in
set_option maxHeartbeats 2000000 in
theorem small10_any (r : MsgM) (w : World) (hin : r.In w) (hi : r.Wide) : Calls Tryd.prog 8 #[.agg r.cells] w fun e w' => e = .returned (.bool (decide (msgBulk r ≤ 6000))) ∧ G w w' := by
  have hg0 := G.new w (.cells r.cells 36)
  have hB0 := blk_new w r.cells 36
  have hba : ∀ w', G w w' → Calls Tryd.prog 29 #[.agg #[.string r.key, .slice r.Ap r.ps.length r.cp], .int .i64 6000] w' fun e w'' => e = .returned (.int .i64 (batchOf 6000 r.key r.ps)) ∧ G w' w'' := fun w' hg => batch_any 6000 r.key r.ps r.Ap r.cp w.heap.size w' hg.size hi.keyL hi.psO (hin.ps.g (Nat.le_refl _) hg)
  have hsa : ∀ w', G w w' → Calls Tryd.prog 30 #[.slice r.As r.sms.length r.cs, .int .i64 6000] w' fun e w'' => e = .returned (.int .i64 (smsBulk 6000 r.sms)) ∧ G w' w'' := fun w' hg => streams_any 6000 r.sms r.As r.cs w.heap.size w' hg.size hi.smO (hin.sms.g (Nat.le_refl _) hg)
  have hea : ∀ w', G w w' → Calls Tryd.prog 31 #[.slice r.Ae r.es.length r.ce, .int .i64 6000] w' fun e w'' => e = .returned (.int .i64 (evBulk 6000 r.es)) ∧ G w' w'' := fun w' hg => (events_any 6000 r.es r.Ae r.ce w.heap.size w' hg.size hi.esL hi.esO (hin.es.g (Nat.le_refl _) hg)).mono fun e w'' h => h
  have hb := batchOf_le 6000 r.key r.ps
  have hs := smsBulk_le 6000 r.sms
  have he := evBulk_le 6000 r.es
  have hnl := hi.firstsL
  have hrl := hi.rgsL
  unfold msgBulk
  have hS0 := sumTo_le (batchOf 6000 r.key r.ps) hb.1 hb.2 [smsBulk 6000 r.sms, evBulk 6000 r.es, (r.firsts.length : Int), (r.rgs.length : Int)] (by simp; omega)
  generalize batchOf 6000 r.key r.ps = x at *
  generalize smsBulk 6000 r.sms = y at *
  generalize evBulk 6000 r.es = z at *
  obtain ⟨S, hS⟩ : ∃ S, sumTo x [y, z, (r.firsts.length : Int), (r.rgs.length : Int)] = S := ⟨_, rfl⟩
  rw [hS] at hS0 ⊢
  have hsum : ∀ (b : Nat) (w' : World), w'.cell? ⟨b, 0, none⟩ = some (.int .i64 y) → w'.cell? ⟨b, 1, none⟩ = some (.int .i64 z) → w'.cell? ⟨b, 2, none⟩ = some (.int .i64 r.firsts.length) → w'.cell? ⟨b, 3, none⟩ = some (.int .i64 r.rgs.length) → Calls Tryd.prog 28 #[.int .i64 x, .slice (some ⟨b, 0, none⟩) 4 4] w' fun e w'' => e = .returned (.int .i64 S) ∧ w' = w'' := fun b w' c1 c2 c3 c4 => by
    rw [← hS]
    exact sum_4 x y z r.firsts.length r.rgs.length b w' (by omega) (by omega) (by omega) (by omega) (by omega) (by omega) (by omega) (by omega) (by omega) (by omega) c1 c2 c3 c4
  replace hba := Lib.hid hba
  replace hsa := Lib.hid hsa
  replace hea := Lib.hid hea
  replace hin := Lib.hid hin
  replace hi := Lib.hid hi
  replace hS := Lib.hid hS
  replace hsum := Lib.hid hsum
  go_enter Tryd.func8, Tryd.ntmps8
  go_upto_region 1 with fail
  generalize w.alloc (.cells r.cells 36) = W0 at *
  have q4 : ∀ w', G W0 w' → w'.cell? ⟨w.heap.size, 4, none⟩ = some (.string r.key) := fun w' h => (blk_cell (h.blk hB0) 4).trans rfl
  have q5 : ∀ w', G W0 w' → w'.cell? ⟨w.heap.size, 5, none⟩ = some (.slice r.Ap r.ps.length r.cp) := fun w' h => (blk_cell (h.blk hB0) 5).trans rfl
  have q16 : ∀ w', G W0 w' → w'.cell? ⟨w.heap.size, 16, none⟩ = some (.slice r.As r.sms.length r.cs) := fun w' h => (blk_cell (h.blk hB0) 16).trans rfl
  have q19 : ∀ w', G W0 w' → w'.cell? ⟨w.heap.size, 19, none⟩ = some (.slice r.Ae r.es.length r.ce) := fun w' h => (blk_cell (h.blk hB0) 19).trans rfl
  have q10 : ∀ w', G W0 w' → w'.cell? ⟨w.heap.size, 10, none⟩ = some (.slice r.An r.firsts.length r.cn) := fun w' h => (blk_cell (h.blk hB0) 10).trans rfl
  have q20 : ∀ w', G W0 w' → w'.cell? ⟨w.heap.size, 20, none⟩ = some (.slice r.Ag r.rgs.length r.cg) := fun w' h => (blk_cell (h.blk hB0) 20).trans rfl
  replace hB0 := Lib.hid hB0
  have hGw : ∀ w', G W0 w' → G w w' := fun w' h => hg0.trans h
  replace hGw := Lib.hid hGw
  have hdr : G W0 W0.drew := (G.refl _).drew
  go_region_held3 (fun w' => G W0 w') (first | exact hdr | exact G.keep hb1 (by assumption) | exact G.keep hs1 (by assumption) | exact G.keep he1 (by assumption) | exact G.alloc (by assumption) _ | assumption | fail) (first
    | (go_at_call 29; (with_reducible refine Calls.mono (hba.out _ (hGw.out _ (by assumption))) ?_); rintro e u1 ⟨rfl, hb1⟩)
    | (go_at_call 30; (with_reducible refine Calls.mono (hsa.out _ (hGw.out _ (by assumption))) ?_); rintro e u2 ⟨rfl, hs1⟩)
    | (go_at_call 31; (with_reducible refine Calls.mono (hea.out _ (hGw.out _ (by assumption))) ?_); rintro e u3 ⟨rfl, he1⟩)
    | (go_at_call 28; refine (hsum.out _ _ (by first | simp | (rw [hb1.cell (by simp)]; simp)) (by first | simp | (rw [hb1.cell (by simp)]; simp)) (by first | simp | (rw [hb1.cell (by simp)]; simp)) (by first | simp | (rw [hb1.cell (by simp)]; simp))).mono ?_; rintro e w2 ⟨rfl, rfl⟩))
  all_goals
    go_wp2_with fail
    go_ret
    exact ⟨rfl, hGw.out _ (by assumption)⟩
end Go.Proofs.YtheogchkelmeeaaDoor
/- rec.named: the fields that a kind names. No condition. -/
namespace Go.Proofs.YtheogchkelmeeaaDoor
open Go.RowKit

theorem fl_of {k : Int} (h : fOk k = false) : flOf k = {} := by
  have := fOk_no h
  unfold flOf
  rw [if_neg (by omega), if_neg (by omega), if_neg (by omega), if_neg (by omega), if_neg (by omega), if_neg (by omega), if_neg (by omega), if_neg (by omega), if_neg (by omega)]
end Go.Proofs.YtheogchkelmeeaaDoor
/- rec.spare: whether the fields are zero that are not named. Condition: lengths fit an int. -/
namespace Go.Proofs.YtheogchkelmeeaaDoor
open Go.RowKit

def txB (a b c a' b' c' : Int) : Bool := decide (a = a' ∧ b = b' ∧ c = c')
def rgB (a b c d a' b' c' d' : Int) : Bool := decide (a = a' ∧ b = b' ∧ c = c' ∧ d = d')
theorem empty_b (s : ByteArray) : s.toList.isEmpty = decide (s = ByteArray.empty) := by
  rw [← bytes_beq]
  have : ByteArray.empty.toList = [] := by rw [ByteArray.toList_eq]; rfl
  rw [this]
  cases s.toList <;> rfl
section
variable (w : World)
theorem tx_equal (a b c a' b' c' : Int) : (Op.equalIn 10000 23 (.agg #[.int .i64 a, .int .i64 b, .int .i64 c]) (.agg #[.int .i64 a', .int .i64 b', .int .i64 c'])).run Tryd.prog w = .ok (txB a b c a' b' c') w := by
  by_cases h1 : a = a' <;> by_cases h2 : b = b' <;> by_cases h3 : c = c' <;> simp [go_sem, txB, h1, h2, h3]
theorem tx_eql (a b c a' b' c' : Int) : (binOp .eql 23 (.agg #[.int .i64 a, .int .i64 b, .int .i64 c]) (.agg #[.int .i64 a', .int .i64 b', .int .i64 c'])).run Tryd.prog w = .ok (.bool (txB a b c a' b' c')) w := by
  rw [run_eql_struct, tx_equal]
  rfl
theorem tx_neq (a b c a' b' c' : Int) : (binOp .neq 23 (.agg #[.int .i64 a, .int .i64 b, .int .i64 c]) (.agg #[.int .i64 a', .int .i64 b', .int .i64 c'])).run Tryd.prog w = .ok (.bool (!txB a b c a' b' c')) w := by
  rw [run_neq_struct, tx_equal]
  rfl
theorem rg_equal (a b c d a' b' c' d' : Int) : (Op.equalIn 10000 31 (.agg #[.int .i64 a, .int .i64 b, .int .i64 c, .int .i64 d]) (.agg #[.int .i64 a', .int .i64 b', .int .i64 c', .int .i64 d'])).run Tryd.prog w = .ok (rgB a b c d a' b' c' d') w := by
  by_cases h1 : a = a' <;> by_cases h2 : b = b' <;> by_cases h3 : c = c' <;> by_cases h4 : d = d' <;> simp [go_sem, rgB, h1, h2, h3, h4]
theorem rg_eql (a b c d a' b' c' d' : Int) : (binOp .eql 31 (.agg #[.int .i64 a, .int .i64 b, .int .i64 c, .int .i64 d]) (.agg #[.int .i64 a', .int .i64 b', .int .i64 c', .int .i64 d'])).run Tryd.prog w = .ok (.bool (rgB a b c d a' b' c' d')) w := by
  rw [run_eql_struct, rg_equal]
  rfl
theorem rg_neq (a b c d a' b' c' d' : Int) : (binOp .neq 31 (.agg #[.int .i64 a, .int .i64 b, .int .i64 c, .int .i64 d]) (.agg #[.int .i64 a', .int .i64 b', .int .i64 c', .int .i64 d'])).run Tryd.prog w = .ok (.bool (!rgB a b c d a' b' c' d')) w := by
  rw [run_neq_struct, rg_equal]
  rfl
end
end Go.Proofs.YtheogchkelmeeaaDoor
/- penstockref7.SameRanges of two lists alike: true. Condition: the length fits an int. -/
namespace Go.Proofs.YtheogchkelmeeaaDoor
open Go.RowKit

theorem Sl.rg {w : World} {B : Nat} {A : Option Addr} {xs : List Rg} {k : Nat} {x : Rg} (h : Sl Rg.cells 4 w B A xs) (hx : xs[k]? = some x) :
    ∃ b o, A = some ⟨b, o, none⟩ ∧ b < B ∧ w.cell? ⟨b, o + k * 4, none⟩ = some (.int .i64 x.a) ∧ w.cell? ⟨b, o + k * 4 + 1, none⟩ = some (.int .i64 x.b) ∧ w.cell? ⟨b, o + k * 4 + 2, none⟩ = some (.int .i64 x.c) ∧ w.cell? ⟨b, o + k * 4 + 3, none⟩ = some (.int .i64 x.d) := by
  obtain ⟨b, o, e, hb, hc⟩ := h.get hx
  exact ⟨b, o, e, hb, hc 0 _ rfl, hc 1 _ rfl, hc 2 _ rfl, hc 3 _ rfl⟩
theorem rgB_self (a b c d : Int) : rgB a b c d a b c d = true := by simp [rgB]
set_option maxHeartbeats 1000000 in
theorem sameRgs_yes (xs : List Rg) (A A2 : Option Addr) (c c2 B B2 : Nat) (w : World) (hB : B ≤ w.heap.size) (hB2 : B2 ≤ w.heap.size) (hl : xs.length ≤ 9223372036854775806) (hs : Sl Rg.cells 4 w B A xs) (hs2 : Sl Rg.cells 4 w B2 A2 xs) :
    Calls Tryd.prog 37 #[.slice A xs.length c, .slice A2 xs.length c2] w fun e w' => e = .returned (.bool true) ∧ G w w' := by
  go_enter Tryd.func37, Tryd.ntmps37
  go_wp2_with fail
  go_loopw [5] (fun i wr => ∃ k : Nat, i = .int .i64 k ∧ k ≤ xs.length ∧ G w wr) (fun i _ => xs.length - (intOf i).toNat)
  case atStart => exact ⟨0, rfl, Nat.zero_le _, G.refl _⟩
  case round =>
    obtain ⟨k, rfl, hk, hg⟩ := hrel
    by_cases hlt : k < xs.length
    · obtain ⟨x, hx⟩ : ∃ x, xs[k]? = some x := ⟨_, List.getElem?_eq_getElem hlt⟩
      obtain ⟨b, o, rfl, hb, c0, c1, c2, c3⟩ := (hs.g hB hg).rg hx
      obtain ⟨b2, o2, rfl, hb2, d0, d1, d2, d3⟩ := (hs2.g hB2 hg).rg hx
      obtain ⟨xa, xb, xc, xd⟩ := x
      dsimp only at c0 c1 c2 c3 d0 d1 d2 d3
      have n1 : (0 : Int) ≤ (k : Int) := by omega
      have n2 : (k : Int) < (xs.length : Int) := by omega
      have hq := @rg_neq
      have hs0 := rgB_self xa xb xc xd
      replace hx := Lib.hid hx
      clear hs hs2
      go_upto_region 6 with fail
      go_quiet (fail)
      go_wp2_with fail
      go_roundw
      case rel => exact ⟨k + 1, by go_num, by omega, by first | exact hg | exact hg.drew | exact hg.drewN _⟩
      case measure => (simp [intOf] <;> omega)
    · clear hs hs2
      go_wp2_with fail
      go_ret
      exact ⟨rfl, hg⟩
end Go.Proofs.YtheogchkelmeeaaDoor
/- penstockref7.SameInts: whether two lists of numbers are one. Condition: lengths fit an int. -/
namespace Go.Proofs.YtheogchkelmeeaaDoor
open Go.RowKit

set_option maxRecDepth 100000 in
set_option maxHeartbeats 1000000 in
theorem sameInts_any (xs ys : List Int) (A A2 : Option Addr) (c c2 B B2 : Nat) (w : World) (hB : B ≤ w.heap.size) (hB2 : B2 ≤ w.heap.size) (hl : xs.length ≤ 9223372036854775806) (hl2 : ys.length ≤ 9223372036854775806) (hs : Sl intC 1 w B A xs) (hs2 : Sl intC 1 w B2 A2 ys) :
    Calls Tryd.prog 34 #[.slice A xs.length c, .slice A2 ys.length c2] w fun e w' => e = .returned (.bool (decide (xs = ys))) ∧ G w w' := by
  by_cases hlen : xs.length = ys.length
  case neg =>
    have hne : decide (xs = ys) = false := decide_eq_false fun h => hlen (by rw [h])
    have t1 : ((xs.length : Int) != (ys.length : Int)) = true := by rw [bne_iff_ne]; omega
    rw [hne]
    clear hne hlen hs hs2
    go_enter Tryd.func34, Tryd.ntmps34
    go_wp2_with fail
    go_ret
    exact ⟨rfl, G.refl _⟩
  have t1 : ((xs.length : Int) != (ys.length : Int)) = false := by rw [bne_eq_false_iff_eq]; omega
  have hle : ys.length ≤ xs.length := by omega
  replace hlen := Lib.hid hlen
  go_enter Tryd.func34, Tryd.ntmps34
  go_wp2_with fail
  clear t1
  go_loopw [5] (fun i wr => ∃ k : Nat, i = .int .i64 k ∧ k ≤ xs.length ∧ G w wr ∧ Hid (xs.take k = ys.take k)) (fun i _ => xs.length - (intOf i).toNat)
  case atStart => exact ⟨0, rfl, Nat.zero_le _, G.refl _, rfl⟩
  case round =>
    obtain ⟨k, rfl, hk, hg, hh⟩ := hrel
    by_cases hlt : k < xs.length
    · obtain ⟨x, hx⟩ : ∃ x, xs[k]? = some x := ⟨_, List.getElem?_eq_getElem hlt⟩
      obtain ⟨y, hy⟩ : ∃ y, ys[k]? = some y := ⟨_, List.getElem?_eq_getElem (by have := hlen.out; omega)⟩
      obtain ⟨b, o, rfl, hb, hc⟩ := (hs.g hB hg).int hx
      obtain ⟨b2, o2, rfl, hb2, hc2⟩ := (hs2.g hB2 hg).int hy
      have n1 : (0 : Int) ≤ (k : Int) := by omega
      have n2 : (k : Int) < (xs.length : Int) := by omega
      have n3 : (k : Int) < (ys.length : Int) := by have := hlen.out; omega
      by_cases hxy : x = y
      · have t1 : (x != y) = false := by rw [bne_eq_false_iff_eq]; exact hxy
        have hh2 : xs.take (k + 1) = ys.take (k + 1) := by rw [List.take_add_one, List.take_add_one, hx, hy, hh.out, hxy]
        replace hh2 := Lib.hid hh2
        replace hx := Lib.hid hx
        replace hy := Lib.hid hy
        replace hxy := Lib.hid hxy
        clear hh hs hs2
        go_upto_region 6 with fail
        go_quiet (fail)
        go_wp2_with fail
        go_roundw
        case rel => exact ⟨k + 1, by go_num, by omega, by first | exact hg | exact hg.drew | exact hg.drewN _, hh2⟩
        case measure => (simp [intOf] <;> omega)
      · have t1 : (x != y) = true := by rw [bne_iff_ne]; exact hxy
        have hfin : decide (xs = ys) = false := decide_eq_false fun h => by
          subst h
          rw [hx] at hy
          cases hy
          exact hxy rfl
        replace hfin := Lib.hid hfin
        replace hx := Lib.hid hx
        replace hy := Lib.hid hy
        clear hxy hh hs hs2
        go_upto_region 6 with fail
        go_quiet (fail)
        go_wp2_with fail
        go_ret
        exact ⟨by rw [hfin.out]; rfl, by first | exact hg | exact hg.drew | exact hg.drewN _⟩
    · have hfin : decide (xs = ys) = true := decide_eq_true (by
        have := hh.out
        rwa [List.take_of_length_le (by omega), List.take_of_length_le (by have := hlen.out; omega)] at this)
      replace hfin := Lib.hid hfin
      clear hh hs hs2
      go_wp2_with fail
      go_ret
      exact ⟨by rw [hfin.out]; rfl, hg⟩
end Go.Proofs.YtheogchkelmeeaaDoor

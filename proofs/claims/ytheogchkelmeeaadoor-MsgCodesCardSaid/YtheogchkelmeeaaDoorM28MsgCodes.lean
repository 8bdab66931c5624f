/- Several texts in one: MsgM, BatSmall, CutLaw. -/
import Derived.Test.YtheogchkelmeeaaDoorM13MsgCodes
import Derived.Test.YtheogchkelmeeaaDoorM14MsgCodes
import Derived.Test.YtheogchkelmeeaaDoorBatEncQMsgCodes
import Derived.Test.YtheogchkelmeeaaDoorSmEncQMsgCodes
import Derived.Test.YtheogchkelmeeaaDoorM27MsgCodes
import Derived.Test.YtheogchkelmeeaaDoorM20MsgCodes
import Derived.Test.YtheogchkelmeeaaDoorMayQMsgCodes
/- Messages as they lie. No condition. -/
namespace Go.Proofs.YtheogchkelmeeaaDoor
open Go.RowKit

/-- A message as it lies. -/
structure MsgM where
  kind : Int
  x1 : Int
  x2 : Int
  x3 : Int
  key : ByteArray
  Ap : Option Addr
  cp : Nat
  ps : List PutM
  st : St
  code : Int
  An : Option Addr
  cn : Nat
  firsts : List Int
  yes : Bool
  z1 : Int
  z2 : Int
  z3 : Int
  z4 : Int
  As : Option Addr
  cs : Nat
  sms : List SmM
  src : Int
  total : Int
  Ae : Option Addr
  ce : Nat
  es : List Ev
  Ag : Option Addr
  cg : Nat
  rgs : List Rg
def MsgM.cells (r : MsgM) : Array Value := #[.int .i64 r.kind, .int .i64 r.x1, .int .i64 r.x2, .int .i64 r.x3, .string r.key, .slice r.Ap r.ps.length r.cp, .int .i64 r.st.wall, .int .i64 r.st.logic, .int .i64 r.st.node, .int .i64 r.code, .slice r.An r.firsts.length r.cn, .bool r.yes, .int .i64 r.z1, .int .i64 r.z2, .int .i64 r.z3, .int .i64 r.z4, .slice r.As r.sms.length r.cs, .int .i64 r.src, .int .i64 r.total, .slice r.Ae r.es.length r.ce, .slice r.Ag r.rgs.length r.cg]
def MsgM.p (r : MsgM) : MsgP := ⟨r.kind, r.x1, r.x2, r.x3, r.key, r.ps.map PutM.p, r.st, r.code, r.firsts, r.yes, r.z1, r.z2, r.z3, r.z4, r.sms.map SmM.sm, r.src, r.total, r.es, r.rgs⟩
structure MsgM.In (r : MsgM) (w : World) : Prop where
  ps : PutsIn w w.heap.size r.Ap r.ps
  firsts : Sl intC 1 w w.heap.size r.An r.firsts
  sms : SmsIn w w.heap.size r.As r.sms
  es : Sl Ev.cells 7 w w.heap.size r.Ae r.es
  rgs : Sl Rg.cells 4 w w.heap.size r.Ag r.rgs
theorem SmsIn.more {w : World} {B B' : Nat} {A : Option Addr} {ss : List SmM} (h : SmsIn w B A ss) (hB : B ≤ B') : SmsIn w B' A ss := ⟨h.1.more hB, fun s hs => (h.2 s hs).more hB⟩
def Int64 (n : Int) : Prop := -9223372036854775808 ≤ n ∧ n ≤ 9223372036854775807
structure MsgM.I64 (r : MsgM) : Prop where
  kind : Int64 r.kind
  x1 : Int64 r.x1
  x2 : Int64 r.x2
  x3 : Int64 r.x3
  code : Int64 r.code
  firsts : ∀ x ∈ r.firsts, Int64 x
  z1 : Int64 r.z1
  z2 : Int64 r.z2
  z3 : Int64 r.z3
  z4 : Int64 r.z4
  src : Int64 r.src
  total : Int64 r.total
  rgs : ∀ g ∈ r.rgs, Int64 g.a ∧ Int64 g.b ∧ Int64 g.c ∧ Int64 g.d
structure MsgM.Small (r : MsgM) : Prop extends MsgM.I64 r where
  firstsL : r.firsts.length ≤ 1000000
  key : r.key.size ≤ 1073741824
  ps : PutsSmall r.ps
  bat : (batL r.key (r.ps.map PutM.p)).length ≤ 500000
  smsL : r.sms.length ≤ 1000000
  sms : ∀ s ∈ r.sms, SmSmall s.name s.es s.ks ∧ (smL s.sm).length ≤ 500000
  esL : r.es.length ≤ 1000000
  es : ∀ e ∈ r.es, (e.stream.size ≤ 1073741824 ∧ e.data.size ≤ 1073741824) ∧ (evL e).length ≤ 500000
  rgsL : r.rgs.length ≤ 1000000
theorem MsgM.In.g {r : MsgM} {w w' : World} (h : r.In w) (hg : G w w') : r.In w' :=
  ⟨PutsIn.more (h.ps.g (Nat.le_refl _) hg) hg.size, (h.firsts.g (Nat.le_refl _) hg).more hg.size, SmsIn.more (h.sms.g (Nat.le_refl _) hg) hg.size, (h.es.g (Nat.le_refl _) hg).more hg.size, (h.rgs.g (Nat.le_refl _) hg).more hg.size⟩
def MsgM.zero (k : Int) : MsgM := ⟨k, 0, 0, 0, ⟨#[]⟩, none, 0, [], ⟨0, 0, 0⟩, 0, none, 0, [], false, 0, 0, 0, 0, none, 0, [], 0, 0, none, 0, [], none, 0, []⟩
def MsgM.o1 (m : MsgM) : MsgM := { MsgM.zero m.kind with x1 := m.x1, x2 := m.x2, x3 := m.x3, key := m.key, Ap := m.Ap, cp := m.cp, ps := m.ps, st := m.st }
def MsgM.o2 (m : MsgM) : MsgM := { MsgM.zero m.kind with x1 := m.x1, x2 := m.x2, x3 := m.x3, code := m.code, st := m.st, An := m.An, cn := m.cn, firsts := m.firsts }
def MsgM.o3 (m : MsgM) : MsgM := { MsgM.zero m.kind with x1 := m.x1, x2 := m.x2, x3 := m.x3, yes := m.yes, st := m.st }
def MsgM.o4 (m : MsgM) : MsgM := { MsgM.zero m.kind with x1 := m.x1, x2 := m.x2, x3 := m.x3 }
def MsgM.o5 (m : MsgM) : MsgM := { MsgM.zero m.kind with x1 := m.x1, x2 := m.x2, x3 := m.x3, st := m.st, An := m.An, cn := m.cn, firsts := m.firsts }
def MsgM.o6 (m : MsgM) : MsgM := { MsgM.zero m.kind with z1 := m.z1, z2 := m.z2, z3 := m.z3, z4 := m.z4, st := m.st, As := m.As, cs := m.cs, sms := m.sms }
def MsgM.o7 (m : MsgM) : MsgM := { MsgM.zero m.kind with z1 := m.z1, z2 := m.z2, z3 := m.z3, z4 := m.z4 }
def MsgM.o8 (m : MsgM) : MsgM := { MsgM.zero m.kind with src := m.src }
def MsgM.o9 (m : MsgM) : MsgM := { MsgM.zero m.kind with src := m.src, total := m.total, Ae := m.Ae, ce := m.ce, es := m.es, st := m.st, Ag := m.Ag, cg := m.cg, rgs := m.rgs }
/-- The fields that its kind names. -/
def MsgM.only (m : MsgM) : MsgM := if m.kind = 1 then m.o1 else if m.kind = 2 then m.o2 else if m.kind = 3 then m.o3 else if m.kind = 4 then m.o4 else if m.kind = 5 then m.o5 else if m.kind = 6 then m.o6 else if m.kind = 7 then m.o7 else if m.kind = 8 then m.o8 else if m.kind = 9 then m.o9 else MsgM.zero m.kind
theorem kOk_no {k : Int} (h : kOk k = false) : ¬ (1 ≤ k ∧ k ≤ 9) := of_decide_eq_false h
section
variable {m : MsgM}
theorem MsgM.only_1 (h : m.kind = 1) : m.only = m.o1 := by unfold MsgM.only; rw [if_pos h]
theorem MsgM.only_2 (h : m.kind = 2) : m.only = m.o2 := by unfold MsgM.only; rw [if_neg (by omega), if_pos h]
theorem MsgM.only_3 (h : m.kind = 3) : m.only = m.o3 := by unfold MsgM.only; rw [if_neg (by omega), if_neg (by omega), if_pos h]
theorem MsgM.only_4 (h : m.kind = 4) : m.only = m.o4 := by unfold MsgM.only; rw [if_neg (by omega), if_neg (by omega), if_neg (by omega), if_pos h]
theorem MsgM.only_5 (h : m.kind = 5) : m.only = m.o5 := by unfold MsgM.only; rw [if_neg (by omega), if_neg (by omega), if_neg (by omega), if_neg (by omega), if_pos h]
theorem MsgM.only_6 (h : m.kind = 6) : m.only = m.o6 := by unfold MsgM.only; rw [if_neg (by omega), if_neg (by omega), if_neg (by omega), if_neg (by omega), if_neg (by omega), if_pos h]
theorem MsgM.only_7 (h : m.kind = 7) : m.only = m.o7 := by unfold MsgM.only; rw [if_neg (by omega), if_neg (by omega), if_neg (by omega), if_neg (by omega), if_neg (by omega), if_neg (by omega), if_pos h]
theorem MsgM.only_8 (h : m.kind = 8) : m.only = m.o8 := by unfold MsgM.only; rw [if_neg (by omega), if_neg (by omega), if_neg (by omega), if_neg (by omega), if_neg (by omega), if_neg (by omega), if_neg (by omega), if_pos h]
theorem MsgM.only_9 (h : m.kind = 9) : m.only = m.o9 := by unfold MsgM.only; rw [if_neg (by omega), if_neg (by omega), if_neg (by omega), if_neg (by omega), if_neg (by omega), if_neg (by omega), if_neg (by omega), if_neg (by omega), if_pos h]
theorem MsgM.only_no (h : kOk m.kind = false) : m.only = MsgM.zero m.kind := by
  have h0 := kOk_no h
  unfold MsgM.only
  repeat rw [if_neg (by omega)]
theorem MsgM.only_p (m : MsgM) : m.only.p = m.p.only := by
  have hk : m.p.kind = m.kind := rfl
  rcases mkind_cases m.kind with h | h | h | h | h | h | h | h | h | h
  · rw [MsgM.only_1 h]; unfold MsgP.only; rw [if_pos (by omega)]; unfold MsgM.o1 MsgM.zero; rw [h]; rfl
  · rw [MsgM.only_2 h]; unfold MsgP.only; rw [if_neg (by omega), if_pos (by omega)]; unfold MsgM.o2 MsgM.zero; rw [h]; rfl
  · rw [MsgM.only_3 h]; unfold MsgP.only; rw [if_neg (by omega), if_neg (by omega), if_pos (by omega)]; unfold MsgM.o3 MsgM.zero; rw [h]; rfl
  · rw [MsgM.only_4 h]; unfold MsgP.only; rw [if_neg (by omega), if_neg (by omega), if_neg (by omega), if_pos (by omega)]; unfold MsgM.o4 MsgM.zero; rw [h]; rfl
  · rw [MsgM.only_5 h]; unfold MsgP.only; rw [if_neg (by omega), if_neg (by omega), if_neg (by omega), if_neg (by omega), if_pos (by omega)]; unfold MsgM.o5 MsgM.zero; rw [h]; rfl
  · rw [MsgM.only_6 h]; unfold MsgP.only; rw [if_neg (by omega), if_neg (by omega), if_neg (by omega), if_neg (by omega), if_neg (by omega), if_pos (by omega)]; unfold MsgM.o6 MsgM.zero; rw [h]; rfl
  · rw [MsgM.only_7 h]; unfold MsgP.only; rw [if_neg (by omega), if_neg (by omega), if_neg (by omega), if_neg (by omega), if_neg (by omega), if_neg (by omega), if_pos (by omega)]; unfold MsgM.o7 MsgM.zero; rw [h]; rfl
  · rw [MsgM.only_8 h]; unfold MsgP.only; rw [if_neg (by omega), if_neg (by omega), if_neg (by omega), if_neg (by omega), if_neg (by omega), if_neg (by omega), if_neg (by omega), if_pos (by omega)]; unfold MsgM.o8 MsgM.zero; rw [h]; rfl
  · rw [MsgM.only_9 h]; unfold MsgP.only; rw [if_neg (by omega), if_neg (by omega), if_neg (by omega), if_neg (by omega), if_neg (by omega), if_neg (by omega), if_neg (by omega), if_neg (by omega), if_pos (by omega)]; unfold MsgM.o9 MsgM.zero; rw [h]; rfl
  · have h0 := kOk_no h
    rw [MsgM.only_no h]; unfold MsgP.only; rw [if_neg (by omega), if_neg (by omega), if_neg (by omega), if_neg (by omega), if_neg (by omega), if_neg (by omega), if_neg (by omega), if_neg (by omega), if_neg (by omega)]; rfl
theorem MsgM.only_kind (m : MsgM) : m.only.kind = m.kind := by
  rcases mkind_cases m.kind with h | h | h | h | h | h | h | h | h | h
  · rw [MsgM.only_1 h]; rfl
  · rw [MsgM.only_2 h]; rfl
  · rw [MsgM.only_3 h]; rfl
  · rw [MsgM.only_4 h]; rfl
  · rw [MsgM.only_5 h]; rfl
  · rw [MsgM.only_6 h]; rfl
  · rw [MsgM.only_7 h]; rfl
  · rw [MsgM.only_8 h]; rfl
  · rw [MsgM.only_9 h]; rfl
  · rw [MsgM.only_no h]; rfl
end
theorem Kw.ge {R base : Nat} {wE w w' : World} (h : Kw R base w w') (hG : G wE w) (hb : wE.heap.size ≤ base) : G wE w' := Below.trans hG (Below.mono h.1 hb)
end Go.Proofs.YtheogchkelmeeaaDoor
/- What a small bulk says of a batch. Plain mathematics, no program. No condition. -/
namespace Go.Proofs.YtheogchkelmeeaaDoor
open Go.RowKit

theorem sumTo_le_two {n a b top : Int} (_ha : 0 ≤ a) (_hb : 0 ≤ b) (ht : top < 1099511627776) (h : sumTo n [a, b] ≤ top) : n + a + b ≤ top := by
  unfold sumTo at h
  split at h
  · unfold sumTo at h
    split at h
    · unfold sumTo at h; omega
    · omega
  · omega
theorem sumTo_le_one {n a top : Int} (ht : top < 1099511627776) (h : sumTo n [a] ≤ top) : n + a ≤ top := by
  unfold sumTo at h
  split at h
  · unfold sumTo at h; omega
  · omega
theorem upTo_small {top : Int} (ht : top < 1099511627776) : ∀ (l : List Int) (n : Int), (∀ m ∈ l, 0 ≤ m) → 0 ≤ n → upTo top n l ≤ top → n ≤ top ∧ ∀ m ∈ l, m ≤ top
  | [], n, _, _, h => ⟨h, fun _ h => by cases h⟩
  | m :: l, n, hl, hn, h => by
    have hm := hl m (by simp)
    unfold upTo at h
    split at h
    · have h1 := upTo_small ht l (sumTo n [m]) (fun k hk => hl k (by simp [hk])) (by
        unfold sumTo
        split
        · unfold sumTo; omega
        · omega) h
      have h2 := sumTo_le_one ht h1.1
      refine ⟨by omega, fun k hk => ?_⟩
      rcases List.mem_cons.1 hk with rfl | hk
      · omega
      · exact h1.2 k hk
    · omega
theorem total_small {top : Int} (ht : top < 1099511627776) {ss : List ByteArray} (h : totalOf top ss ≤ top) : (ss.length : Int) ≤ top ∧ ∀ s ∈ ss, (s.size : Int) ≤ top := by
  unfold totalOf at h
  have h1 := upTo_small ht _ _ (fun m hm => by simp at hm; obtain ⟨s, _, rfl⟩ := hm; omega) (by
    unfold sumTo
    split
    · unfold sumTo; omega
    · omega) h
  have h2 := sumTo_le_one ht h1.1
  exact ⟨by omega, fun s hs => h1.2 _ (List.mem_map.2 ⟨s, hs, rfl⟩)⟩
theorem bulkTo_small {top : Int} (ht : top < 1099511627776) : ∀ (ps : List PutM) (n : Int), bulkTo top n ps ≤ top → n ≤ top ∧ (0 ≤ n → ∀ p ∈ ps, (p.stream.size : Int) ≤ top ∧ totalOf top p.data ≤ top)
  | [], n, h => ⟨h, fun _ _ h => by cases h⟩
  | p :: l, n, h => by
    unfold bulkTo at h
    split at h
    · have h1 := bulkTo_small ht l _ h
      have h0 := (totalOf_le top p.data).1
      have h2 := sumTo_le_two (by omega) h0 ht h1.1
      refine ⟨by omega, fun hn q hq => ?_⟩
      rcases List.mem_cons.1 hq with rfl | hq
      · exact ⟨by omega, by omega⟩
      · refine h1.2 ?_ q hq
        unfold sumTo
        split
        · unfold sumTo
          split
          · unfold sumTo; omega
          · omega
        · omega
    · omega
theorem bat_small_at {top : Int} (htop : top ≤ 40000) {key : ByteArray} {ps : List PutM} (h : batchOf top key ps ≤ top) (he : ∀ p ∈ ps, -9223372036854775808 ≤ p.expect ∧ p.expect ≤ 9223372036854775807) : key.size ≤ 40000 ∧ PutsSmall ps := by
  unfold batchOf at h
  have h1 := bulkTo_small (by omega) _ _ h
  have h2 := sumTo_le_two (by omega) (by omega) (by omega) h1.1
  have h3 := h1.2 (by
    unfold sumTo
    split
    · unfold sumTo
      split
      · unfold sumTo; omega
      · omega
    · omega)
  refine ⟨by omega, by omega, fun p hp => ?_⟩
  have h4 := h3 p hp
  have h5 := total_small (by omega) h4.2
  exact ⟨by omega, he p hp, by omega, fun s hs => by have := h5.2 s hs; omega⟩
theorem bat_small {key : ByteArray} {ps : List PutM} (h : batchOf 40000 key ps ≤ 40000) (he : ∀ p ∈ ps, -9223372036854775808 ≤ p.expect ∧ p.expect ≤ 9223372036854775807) : key.size ≤ 40000 ∧ PutsSmall ps := bat_small_at (Int.le_refl _) h he
end Go.Proofs.YtheogchkelmeeaaDoor
/- A first part of bytes: what readers say of it, how it is cut; what the small bulks say of the written bytes' lengths. No condition. -/
namespace Go.Proofs.YtheogchkelmeeaaDoor
open Go.RowKit

theorem rd_cut {α : Type} {d : Reader α} (hd : Rd d) {l : List UInt8} {x : α} (h : d l = some (x, [])) {k : Nat} (hk : k < l.length) : d (l.take k) = none := by
  cases hc : d (l.take k) with
  | none => rfl
  | some y =>
    obtain ⟨y, r⟩ := y
    have h2 := hd.app _ _ (l.drop k) _ hc
    rw [List.take_append_drop, h] at h2
    simp only [Option.some.injEq, Prod.mk.injEq] at h2
    have h3 := congrArg List.length h2.2
    rw [List.length_append, List.length_drop, List.length_nil] at h3
    omega
theorem Sl.first {α : Type} {f : α → List Value} {sz : Nat} {w : World} {B : Nat} {A : Option Addr} {xs : List α} (h : Sl f sz w B A xs) (k : Nat) : Sl f sz w B A (xs.take k) := fun hn => by
  obtain ⟨b, o, e, hb, hc⟩ := h (by rintro rfl; simp at hn)
  refine ⟨b, o, e, hb, fun i x hx => hc i x ?_⟩
  have hi : i < k := by
    have := (List.getElem?_eq_some_iff.1 hx).1
    rw [List.length_take] at this
    omega
  rwa [List.getElem?_take_of_lt hi] at hx
theorem run_front {w0 : World} {B : Nat} {A : Option Addr} {l : List UInt8} (hs : Sl byteC 1 w0 B A l) (hl : l ≠ []) (c k : Nat) (hk : k ≤ c) (w : World) : (Instr.sliceAt 50 (.slice A l.length c) none (some (.int .i64 k)) none).run Tryd.prog w = .ok (.slice A k c) w := by
  have ht : Tryd.prog.underlying 50 = some (.slice (Tryd.prog.elem 50)) := by kernel_rfl
  have hsz : ∀ w, (Go.sizeOf (Tryd.prog.elem 50)).run Tryd.prog w = .ok 1 w := fun w => by kernel_rfl
  obtain ⟨b, o, rfl, _⟩ := hs hl
  rw [run_sliceAt_slice _ _ _ _ _ _ ht, run_slice_h w 50 _ _ c ht .i64 k (by omega) (by omega), hsz]
  simp [Result.andThen, sliced, Addr.add_lit]

/-! How long what is written may be. -/
theorem sum_nn : ∀ {l : List Int}, (∀ x ∈ l, 0 ≤ x) → 0 ≤ l.sum
  | [], _ => by simp
  | x :: l, h => by
    have h1 := sum_nn (l := l) fun y hy => h y (by simp [hy])
    have h2 := h x (by simp)
    rw [List.sum_cons]
    omega
theorem evBulkTo_sum {top : Int} (ht : top < 1099511627776) : ∀ (l : List Ev) (n : Int), evBulkTo top n l ≤ top → n + (l.map fun e => (e.stream.size : Int) + e.data.size).sum ≤ evBulkTo top n l
  | [], n, _ => by simp [evBulkTo]
  | m :: l, n, h => by
    unfold evBulkTo at h ⊢
    split at h
    · rename_i hle
      rw [if_pos hle]
      have h1 := evBulkTo_sum ht l _ h
      have h0 : 0 ≤ (l.map fun e => (e.stream.size : Int) + e.data.size).sum := sum_nn fun x hx => by
        obtain ⟨e, _, rfl⟩ := List.mem_map.1 hx
        omega
      have h2 := sumTo_up (n := n) ht (l := [(m.stream.size : Int), (m.data.size : Int)]) (by simp) (by omega : _ ≤ top)
      have h3 : sumTo n [(m.stream.size : Int), (m.data.size : Int)] = n + m.stream.size + m.data.size := by
        simp only [List.sum_cons, List.sum_nil, Int.add_zero] at h2
        unfold sumTo
        rw [if_pos (by omega)]
        unfold sumTo
        rw [if_pos (by omega)]
        rfl
      rw [h3] at h1 ⊢
      rw [List.map_cons, List.sum_cons]
      omega
    · omega
theorem upTo_sum {top : Int} (ht : top < 1099511627776) : ∀ (l : List Int) (n : Int), (∀ m ∈ l, 0 ≤ m) → upTo top n l ≤ top → n + l.sum ≤ top
  | [], n, _, h => by simpa [upTo] using h
  | m :: l, n, hl, h => by
    unfold upTo at h
    have hm := hl m (by simp)
    split at h
    · have h1 := upTo_sum ht l _ (fun k hk => hl k (by simp [hk])) h
      have h0 : 0 ≤ l.sum := sum_nn fun x hx => hl x (by simp [hx])
      have h3 : sumTo n [m] = n + m := by
        have h2 := sumTo_up (n := n) ht (l := [m]) (by simpa using hm) (by omega : _ ≤ top)
        simp only [List.sum_cons, List.sum_nil, Int.add_zero] at h2
        unfold sumTo
        rw [if_pos (by omega)]
        rfl
      rw [h3] at h1
      rw [List.sum_cons]
      omega
    · omega
theorem flat_sum {α : Type} (f : α → List UInt8) (g : α → Int) (h : ∀ x, ((f x).length : Int) ≤ g x) : ∀ l : List α, ((l.flatMap f).length : Int) ≤ (l.map g).sum
  | [] => by simp
  | x :: l => by
    have h1 := flat_sum f g h l
    have h2 := h x
    rw [List.flatMap_cons, List.length_append, List.map_cons, List.sum_cons]
    omega
theorem sum_plus {α : Type} (g : α → Int) (c : Int) : ∀ l : List α, (l.map fun x => g x + c).sum = (l.map g).sum + l.length * c
  | [] => by simp
  | x :: l => by
    rw [List.map_cons, List.map_cons, List.sum_cons, List.sum_cons, sum_plus g c l, List.length_cons, Int.natCast_add, Int.add_mul]
    omega
theorem smL_fine {s : SmM} (h : smsBulk 6000 [s] ≤ 6000) : (smL s.sm).length ≤ 500000 := by
  unfold smsBulk smsTo at h
  split at h
  · unfold smsTo at h
    have hks : ∀ m ∈ s.ks.map fun k => (k.key.size : Int), (0 : Int) ≤ m := fun m hm => by simp at hm; obtain ⟨k, _, rfl⟩ := hm; omega
    have h2 := upTo_sum (by omega) _ _ hks h
    have h20 : 0 ≤ (s.ks.map fun k => (k.key.size : Int)).sum := sum_nn hks
    have he := (evBulk_le 6000 s.es).1
    have h3 := sumTo_up (top := 6000) (by omega) (l := [(s.name.size : Int), evBulk 6000 s.es, (s.ks.length : Int)]) (n := sumTo 0 [(([s] : List SmM).length : Int)]) (by simp; omega) (by omega)
    have h30 : 0 ≤ sumTo 0 [(([s] : List SmM).length : Int)] := sumTo_pos (by simp) (by omega)
    simp only [List.sum_cons, List.sum_nil, Int.add_zero] at h3
    have h31 := sumTo_pos (l := [(s.name.size : Int), evBulk 6000 s.es, (s.ks.length : Int)]) (by simp; omega) h30
    have h4 : evBulkTo 6000 (sumTo 0 [(s.es.length : Int)]) s.es ≤ 6000 := by
      have : evBulk 6000 s.es ≤ 6000 := by omega
      exact this
    have h5 : sumTo 0 [(s.es.length : Int)] + (s.es.map fun e => (e.stream.size : Int) + e.data.size).sum ≤ evBulk 6000 s.es := evBulkTo_sum (by omega) _ _ h4
    have h50 : 0 ≤ (s.es.map fun e => (e.stream.size : Int) + e.data.size).sum := sum_nn fun x hx => by
      obtain ⟨e, _, rfl⟩ := List.mem_map.1 hx
      omega
    have h6 := sumTo_up (top := 6000) (by omega) (l := [(s.es.length : Int)]) (n := 0) (by simp) (by omega)
    simp only [List.sum_cons, List.sum_nil, Int.add_zero] at h6
    have h7 : sumTo 0 [(s.es.length : Int)] = s.es.length := by
      unfold sumTo
      rw [if_pos (by omega)]
      unfold sumTo
      omega
    unfold smL
    split
    · unfold smBytes SmM.sm
      simp only [List.length_append]
      have a1 := flat_sum evL (fun e => (e.stream.size : Int) + e.data.size + 80) (fun e => by have := evL_len e; omega) s.es
      have a2 := flat_sum knBytes (fun k => (k.key.size : Int) + 50) (fun k => by have := knBytes_len k; omega) s.ks
      rw [sum_plus] at a1 a2
      have := text_len s.name
      have := vL_len s.es.length
      have := vL_len s.ks.length
      omega
    · simp
  · exfalso
    rename_i hn
    apply hn
    unfold sumTo
    split <;> simp [sumTo] at *
theorem batL_fine {key : ByteArray} {ps : List PutM} (h : batchOf 6000 key ps ≤ 6000) : (batL key (ps.map PutM.p)).length ≤ 500000 := by
  by_cases hc : chkN key (ps.map PutM.p) = 0
  · have h1 := chk_small hc
    rw [List.length_map] at h1
    unfold batchOf at h
    have b1 := bulkTo_small (by omega) _ _ h
    have b2 := sumTo_le_two (by omega) (by omega) (by omega) b1.1
    have b3 := b1.2 (sumTo_pos (l := [(key.size : Int), (ps.length : Int)]) (by simp) (by omega))
    rw [batL_ok hc]
    unfold batBytes
    have h2 := flatLe putBytes 30000 (ps.map PutM.p) fun p hp => by
      obtain ⟨m, hm, rfl⟩ := List.mem_map.1 hp
      have h3 := h1.2 _ hp
      have h4 := (b3 m hm).1
      have h5 := texts_len m.p.data 1000 h3.2.1
      have h6 := textL_len m.p.stream
      have h7 : (m.p.stream.size : Int) ≤ 6000 := h4
      have h8 := vL_len (zigN m.p.expect)
      have h9 := vL_len m.p.data.length
      have h10 := Nat.mul_le_mul_right 1010 h3.1
      unfold putBytes
      simp only [List.length_append]
      omega
    rw [List.length_map] at h2
    have h3 := textL_len key
    have h4 := vL_len (ps.map PutM.p).length
    simp only [List.length_append]
    have h5 := Nat.mul_le_mul_right 30000 h1.1
    omega
  · rw [batL_no hc]
    simp
end Go.Proofs.YtheogchkelmeeaaDoor

/- Several texts in one: AlikeSm, RecM, RecHead, RecLists, Load, RecEnc, RecName, Awake12, Round, RecFieldsA, RecFieldsB, RecFieldsC, RecFieldsW, ReadStr, RecFields. -/
import Derived.Test.YthafeaclpcjjbaaDoorEvBulk
import Derived.Test.YthafeaclpcjjbaaDoorSmLaw
import Derived.Test.YthafeaclpcjjbaaDoorRecSpare
import Derived.Test.YthafeaclpcjjbaaDoorRecMany
import Derived.Test.YthafeaclpcjjbaaDoorBatEnc
import Derived.Test.YthafeaclpcjjbaaDoorSmEnc
import Derived.Test.YthafeaclpcjjbaaDoorBase
import Derived.Deep.MidRow
import Derived.Test.YthafeaclpcjjbaaDoorTabs
import Derived.Test.YthafeaclpcjjbaaDoorRows
import Derived.ProofKit
import Derived.OpenShut
import Derived.PinnedBridge
import Derived.Lib.LaidU8T
import Derived.Lay
import Derived.SevenTiedAt
import Derived.LaidMore
import Derived.Test.YthafeaclpcjjbaaDoorTie
import Derived.Test.YthafeaclpcjjbaaDoorCards
/- penstockalike.Streams: what it answers; what a small bulk says. Condition: lengths fit an int. -/
namespace Go.Proofs.YthafeaclpcjjbaaDoor
open Go.RowKit

/-- A stream as it lies. -/
structure SmM where
  name : ByteArray
  Ae : Option Addr
  ce : Nat
  es : List Ev
  Ak : Option Addr
  ck : Nat
  ks : List Kn
def SmM.cells (s : SmM) : List Value := [.string s.name, .slice s.Ae s.es.length s.ce, .slice s.Ak s.ks.length s.ck]
theorem SmM.cells_len (s : SmM) : s.cells.length = 3 := rfl
def SmM.sm (s : SmM) : Sm := ⟨s.name, s.es, s.ks⟩
/-- Streams as they lie. -/
def SmsIn (w : World) (B : Nat) (A : Option Addr) (ss : List SmM) : Prop := Sl SmM.cells 3 w B A ss ∧ ∀ s ∈ ss, SmIn w B s.Ae s.Ak s.es s.ks
theorem SmsIn.g {w w' : World} {B : Nat} {A : Option Addr} {ss : List SmM} (h : SmsIn w B A ss) (hB : B ≤ w.heap.size) (hg : G w w') : SmsIn w' B A ss := ⟨h.1.g hB hg, fun s hs => (h.2 s hs).g hB hg⟩
/-- Streams' loop. -/
def smsTo (top : Int) (n : Int) : List SmM → Int
  | [] => n
  | s :: l => if n ≤ top then smsTo top (upTo top (sumTo n [(s.name.size : Int), evBulk top s.es, (s.ks.length : Int)]) (s.ks.map fun k => (k.key.size : Int))) l else n
def smsBulk (top : Int) (ss : List SmM) : Int := smsTo top (sumTo 0 [(ss.length : Int)]) ss
theorem smsTo_drop (top n : Int) (xs : List SmM) (k : Nat) (x : SmM) (h : xs[k]? = some x) :
    smsTo top n (xs.drop k) = if n ≤ top then smsTo top (upTo top (sumTo n [(x.name.size : Int), evBulk top x.es, (x.ks.length : Int)]) (x.ks.map fun k => (k.key.size : Int))) (xs.drop (k + 1)) else n := by
  obtain ⟨hk, rfl⟩ := List.getElem?_eq_some_iff.1 h
  rw [List.drop_eq_getElem_cons hk]
  rfl
theorem sumTo_le3 (n m m2 m3 : Int) (h0 : 0 ≤ n) (h : n ≤ 1099511627776) (hm : 0 ≤ m) (hm2 : 0 ≤ m2) (hm3 : 0 ≤ m3) : 0 ≤ sumTo n [m, m2, m3] ∧ sumTo n [m, m2, m3] ≤ 1099511627776 :=
  sumTo_le n h0 h [m, m2, m3] (fun k hk => by simp at hk; omega)
theorem smsTo_le (top n : Int) (h0 : 0 ≤ n) (h : n ≤ 1099511627776) : ∀ l : List SmM, 0 ≤ smsTo top n l ∧ smsTo top n l ≤ 1099511627776 := by
  intro l
  induction l generalizing n with
  | nil => exact ⟨h0, h⟩
  | cons s l ih =>
    simp only [smsTo]
    split
    · have h1 := sumTo_le3 n s.name.size (evBulk top s.es) s.ks.length h0 h (by omega) (evBulk_le top s.es).1 (by omega)
      have h2 := upTo_le top _ h1.1 h1.2 (s.ks.map fun k => (k.key.size : Int)) (fun m hm => by simp at hm; obtain ⟨k, _, rfl⟩ := hm; omega)
      exact ih _ h2.1 h2.2
    · exact ⟨h0, h⟩
theorem smsBulk_le (top : Int) (ss : List SmM) : 0 ≤ smsBulk top ss ∧ smsBulk top ss ≤ 1099511627776 := by
  have h := sumTo_le1 0 ss.length (by omega) (by omega) (by omega)
  exact smsTo_le top _ h.1 h.2 _
def KnsOk (ks : List Kn) : Prop := ks.length ≤ 9223372036854775807 ∧ ∀ k ∈ ks, k.key.size ≤ 9223372036854775807
def SmsOk (ss : List SmM) : Prop := ss.length ≤ 9223372036854775807 ∧ ∀ s ∈ ss, s.name.size ≤ 9223372036854775807 ∧ s.es.length ≤ 9223372036854775807 ∧ EvsOk s.es ∧ KnsOk s.ks

set_option maxHeartbeats 4000000 in
theorem streams_any (top : Int) (ss : List SmM) (A : Option Addr) (c B : Nat) (w : World) (hB : B ≤ w.heap.size) (ho : SmsOk ss) (hs : SmsIn w B A ss) :
    Calls Tryd.prog 21 #[.slice A ss.length c, .int .i64 top] w fun e w' => e = .returned (.int .i64 (smsBulk top ss)) ∧ G w w' := by
  obtain ⟨hl, HX⟩ := ho
  replace HX := Lib.hid HX
  unfold smsBulk
  go_enter Tryd.func21, Tryd.ntmps21
  go_wp2_with fail
  refine (sum_1 0 ss.length _ _ (by omega) (by omega) (by omega) (by omega) (by simp)).mono ?_
  rintro e w1 ⟨rfl, rfl⟩
  have hq := sumTo_le1 0 ss.length (by omega) (by omega) (by omega)
  generalize hn0 : sumTo 0 [(ss.length : Int)] = n0 at *
  have HN := Lib.hid hn0
  clear hn0
  go_wp2_with fail
  go_loopw [5, 6] (fun t i wr => ∃ (k : Nat) (m : Int), k ≤ ss.length ∧ i = .int .i64 k ∧ t = .int .i64 m ∧ 0 ≤ m ∧ m ≤ 1099511627776 ∧ Hid (smsTo top n0 ss = smsTo top m (ss.drop k)) ∧ G w wr) (fun _ i _ => ss.length - (intOf i).toNat)
  case atStart => exact ⟨0, n0, Nat.zero_le _, rfl, rfl, hq.1, hq.2, by simp [Hid], G.new _ _⟩
  case round =>
    obtain ⟨wo, rfl⟩ : ∃ wo : World, wo = wr := ⟨_, rfl⟩
    obtain ⟨k, m, hk, rfl, rfl, hm0, hm1, hh, hbel⟩ := hrel
    by_cases hlt : k < ss.length
    · obtain ⟨⟨sn, sA, sc, se, sA2, sc2, sk⟩, hp⟩ : ∃ p, ss[k]? = some p := ⟨_, List.getElem?_eq_getElem hlt⟩
      obtain ⟨b, o, rfl, hbB, hcells⟩ := hs.1.get hp
      have hsd := Lib.hid (smsTo_drop top m ss k _ hp)
      have hpm := List.mem_of_getElem? hp
      obtain ⟨hx1, hx2, hx3, hx4, hx5⟩ := HX.out _ hpm
      have hsi := hs.2 _ hpm
      simp only at hx1 hx2 hx3 hx4 hx5 hsi hsd
      have hes : ∀ w', G w w' → Sl Ev.cells 7 w' B sA se := fun w' h => hsi.1.g hB h
      have hks : ∀ w', G w w' → Sl Kn.cells 5 w' B sA2 sk := fun w' h => hsi.2.g hB h
      have c0 : ∀ w', G w w' → w'.cell? ⟨b, o + k * 3, none⟩ = some (.string sn) := fun w' h => (h.cell (by omega)).trans (hcells 0 _ rfl)
      have c1 : ∀ w', G w w' → w'.cell? ⟨b, o + k * 3 + 1, none⟩ = some (.slice sA se.length sc) := fun w' h => (h.cell (by omega)).trans (hcells 1 _ rfl)
      have c2 : ∀ w', G w w' → w'.cell? ⟨b, o + k * 3 + 2, none⟩ = some (.slice sA2 sk.length sc2) := fun w' h => (h.cell (by omega)).trans (hcells 2 _ rfl)
      have hB2 : ∀ w', G w w' → B ≤ w'.heap.size := fun w' h => by have := h.size; omega
      have n1 : (0 : Int) ≤ (k : Int) := by omega
      have n2 : (k : Int) < (ss.length : Int) := by omega
      replace hes := Lib.hid hes
      replace hks := Lib.hid hks
      replace hx5 := Lib.hid hx5
      clear hcells hs hp hsi
      by_cases htop : m ≤ top
      · go_upto_region 5 with fail
        obtain ⟨ht0, ht1⟩ := evBulk_le top se
        have hbd := hbel.drew
        go_region_held3 (fun w' => G w w') (first | exact hbel.drew | exact G.keep hbw1 (by assumption) | exact G.alloc (by assumption) _ | assumption | fail) (first | (go_at_call 44; refine (events_any top se sA sc B _ (hB2 _ (by assumption)) hx2 hx3 (hes.out _ (by assumption))).mono ?_; rintro e w1 ⟨rfl, hbw1⟩) | (go_at_call 19; refine (sum_3 m sn.size (evBulk top se) sk.length _ _ (by omega) (by omega) (by omega) (by omega) (by omega) (by omega) (by omega) (by omega) (by simp) (by simp) (by simp)).mono ?_; rintro e w2 ⟨rfl, rfl⟩))
        have hq2 := sumTo_le3 m sn.size (evBulk top se) sk.length (by omega) (by omega) (by omega) (by omega) (by omega)
        generalize hm3 : sumTo m [(sn.size : Int), evBulk top se, (sk.length : Int)] = m3 at *
        clear hm3
        go_wp2_with fail
        go_loopw [5, 7] (fun t i wr => ∃ (j : Nat) (q : Int), j ≤ sk.length ∧ i = .int .i64 j ∧ t = .int .i64 q ∧ 0 ≤ q ∧ q ≤ 1099511627776 ∧ Hid (upTo top m3 (sk.map fun k => (k.key.size : Int)) = upTo top q ((sk.map fun k => (k.key.size : Int)).drop j)) ∧ G w wr) (fun _ i _ => sk.length - (intOf i).toNat)
        case atStart => exact ⟨0, m3, Nat.zero_le _, rfl, rfl, hq2.1, hq2.2, by simp [Hid], by assumption⟩
        case round =>
          obtain ⟨j, q, hj, rfl, rfl, hq0, hq1, hjj, hgj⟩ := hrel
          have c2w := c2 _ hgj
          by_cases hjl : j < sk.length
          · obtain ⟨⟨yk, yv, ys⟩, hy⟩ : ∃ y, sk[j]? = some y := ⟨_, List.getElem?_eq_getElem hjl⟩
            obtain ⟨b3, o3, rfl, hb3, hc3⟩ := (hks.out _ hgj).get hy
            have d0 := hc3 0 _ rfl
            simp only [Nat.add_zero] at d0
            have hud := Lib.hid (upTo_drop top q (sk.map fun k => (k.key.size : Int)) j yk.size (by simp [hy]))
            have hyz := hx5.out _ (List.mem_of_getElem? hy)
            simp only at hyz
            have m1 : (0 : Int) ≤ (j : Int) := by omega
            have m2 : (j : Int) < (sk.length : Int) := by omega
            replace hy := Lib.hid hy
            clear hc3
            by_cases hqt : q ≤ top
            · go_wp2_with (go_at_call 19; refine (sum_1 q yk.size _ _ (by omega) (by omega) (by omega) (by omega) (by simp)).mono ?_; rintro e w5 ⟨rfl, rfl⟩)
              go_roundw
              case rel =>
                have hq3 := sumTo_le1 q yk.size (by omega) (by omega) (by omega)
                exact ⟨j + 1, _, by omega, by go_num, rfl, hq3.1, hq3.2, by unfold Hid; rw [hjj.out, hud.out, if_pos (by omega)], hgj.alloc _⟩
              case measure => (simp [intOf] <;> omega)
            · go_wp2_with fail
              go_roundw
              case rel => exact ⟨k + 1, q, by omega, by go_num, rfl, hq0, hq1, by unfold Hid; rw [hh.out, hsd.out, if_pos (by omega), hjj.out, hud.out, if_neg (by omega)], hgj⟩
              case measure => (simp [intOf] <;> omega)
          · go_wp2_with fail
            go_roundw
            case rel => exact ⟨k + 1, q, by omega, by go_num, rfl, hq0, hq1, by unfold Hid; rw [hh.out, hsd.out, if_pos (by omega), hjj.out, List.drop_eq_nil_of_le (by simp; omega)]; rfl, hgj⟩
            case measure => (simp [intOf] <;> omega)
      · go_wp2_with fail
        go_ret
        exact ⟨ret_int (by rw [HN.out, hh.out, hsd.out, if_neg (by omega)]), hbel⟩
    · go_wp2_with fail
      go_ret
      exact ⟨ret_int (by rw [HN.out, hh.out, List.drop_eq_nil_of_le (by omega)]; rfl), hbel⟩

/-! What a small bulk says. -/
theorem sumTo_up {top : Int} (ht : top < 1099511627776) : ∀ {l : List Int} {n : Int}, (∀ m ∈ l, 0 ≤ m) → sumTo n l ≤ top → n + l.sum ≤ top
  | [], n, _, h => by simpa [sumTo] using h
  | m :: l, n, hl, h => by
    unfold sumTo at h
    split at h
    · have := sumTo_up ht (fun k hk => hl k (by simp [hk])) h
      rw [List.sum_cons]
      omega
    · omega
theorem upTo_up {top : Int} (ht : top < 1099511627776) : ∀ (l : List Int) (n : Int), (∀ m ∈ l, 0 ≤ m) → upTo top n l ≤ top → n ≤ top ∧ (0 ≤ n → ∀ m ∈ l, m ≤ top)
  | [], n, _, h => ⟨h, fun _ _ h => by cases h⟩
  | m :: l, n, hl, h => by
    have hm := hl m (by simp)
    unfold upTo at h
    split at h
    · have h1 := upTo_up ht l (sumTo n [m]) (fun k hk => hl k (by simp [hk])) h
      have h2 := sumTo_up (n := n) ht (l := [m]) (by simpa using hm) h1.1
      simp only [List.sum_cons, List.sum_nil, Int.add_zero] at h2
      refine ⟨by omega, fun hn k hk => ?_⟩
      rcases List.mem_cons.1 hk with rfl | hk
      · omega
      · refine h1.2 ?_ k hk
        unfold sumTo
        split
        · unfold sumTo; omega
        · omega
    · omega
theorem evBulkTo_up {top : Int} (ht : top < 1099511627776) : ∀ (l : List Ev) (n : Int), evBulkTo top n l ≤ top → n ≤ top ∧ (0 ≤ n → ∀ e ∈ l, (e.stream.size : Int) ≤ top ∧ (e.data.size : Int) ≤ top)
  | [], n, h => ⟨h, fun _ _ h => by cases h⟩
  | m :: l, n, h => by
    unfold evBulkTo at h
    split at h
    · have h1 := evBulkTo_up ht l _ h
      have h2 := sumTo_up (n := n) ht (l := [(m.stream.size : Int), (m.data.size : Int)]) (by simp) h1.1
      simp only [List.sum_cons, List.sum_nil, Int.add_zero] at h2
      refine ⟨by omega, fun hn k hk => ?_⟩
      rcases List.mem_cons.1 hk with rfl | hk
      · omega
      · refine h1.2 ?_ k hk
        unfold sumTo
        split
        · unfold sumTo
          split
          · unfold sumTo; omega
          · omega
        · omega
    · omega
theorem evBulk_up {top : Int} (ht : top < 1099511627776) {es : List Ev} (h : evBulk top es ≤ top) : (es.length : Int) ≤ top ∧ ∀ e ∈ es, (e.stream.size : Int) ≤ top ∧ (e.data.size : Int) ≤ top := by
  have h1 := evBulkTo_up ht _ _ h
  have h2 := sumTo_up (n := 0) ht (l := [(es.length : Int)]) (by simp) h1.1
  simp only [List.sum_cons, List.sum_nil, Int.add_zero] at h2
  refine ⟨by omega, h1.2 ?_⟩
  unfold sumTo
  split
  · unfold sumTo; omega
  · omega
theorem sumTo_pos : ∀ {l : List Int}, (∀ m ∈ l, 0 ≤ m) → ∀ {n : Int}, 0 ≤ n → 0 ≤ sumTo n l
  | [], _, n, h => by simpa [sumTo] using h
  | m :: l, hl, n, h => by
    have := hl m (by simp)
    unfold sumTo
    split
    · exact sumTo_pos (fun k hk => hl k (by simp [hk])) (by omega)
    · omega
theorem upTo_pos {top : Int} : ∀ {l : List Int} {n : Int}, (∀ m ∈ l, 0 ≤ m) → 0 ≤ n → 0 ≤ upTo top n l
  | [], n, _, h => by simpa [upTo] using h
  | m :: l, n, hl, h => by
    unfold upTo
    split
    · exact upTo_pos (fun k hk => hl k (by simp [hk])) (sumTo_pos (fun k hk => by simp at hk; rw [hk]; exact hl m (by simp)) h)
    · exact h
theorem smsTo_up {top : Int} (ht : top ≤ 524288) : ∀ (ss : List SmM) (n : Int), smsTo top n ss ≤ top → n ≤ top ∧ (0 ≤ n → ∀ s ∈ ss, SmSmall s.name s.es s.ks)
  | [], n, h => ⟨h, fun _ _ h => by cases h⟩
  | s :: l, n, h => by
    unfold smsTo at h
    split at h
    · have h1 := smsTo_up ht l _ h
      have hks : ∀ m ∈ s.ks.map fun k => (k.key.size : Int), (0 : Int) ≤ m := fun m hm => by simp at hm; obtain ⟨k, _, rfl⟩ := hm; omega
      have h2 := upTo_up (by omega) _ _ hks h1.1
      have he := (evBulk_le top s.es).1
      have hl3 : ∀ m ∈ [(s.name.size : Int), evBulk top s.es, (s.ks.length : Int)], 0 ≤ m := by simp; omega
      have h3 := sumTo_up (n := n) (by omega) hl3 h2.1
      simp only [List.sum_cons, List.sum_nil, Int.add_zero] at h3
      refine ⟨by omega, fun hn t ht2 => ?_⟩
      have hp := sumTo_pos hl3 hn
      rcases List.mem_cons.1 ht2 with rfl | ht2
      · have h4 := evBulk_up (top := top) (by omega) (es := t.es) (by omega)
        have h5 := h2.2 hp
        exact ⟨by omega, ⟨by omega, fun e hm => by have := h4.2 e hm; omega⟩, by omega, fun k hm => by have := h5 (k.key.size : Int) (List.mem_map.2 ⟨k, hm, rfl⟩); omega⟩
      · refine h1.2 ?_ t ht2
        exact (upTo_pos hks hp)
    · omega
theorem sms_small {top : Int} (ht : top ≤ 524288) {ss : List SmM} (h : smsBulk top ss ≤ top) : (ss.length : Int) ≤ top ∧ ∀ s ∈ ss, SmSmall s.name s.es s.ks := by
  have h1 := smsTo_up ht _ _ h
  have h2 := sumTo_up (n := 0) (by omega) (l := [(ss.length : Int)]) (by simp) h1.1
  simp only [List.sum_cons, List.sum_nil, Int.add_zero] at h2
  exact ⟨by omega, h1.2 (sumTo_pos (l := [(ss.length : Int)]) (by simp) (by omega))⟩
end Go.Proofs.YthafeaclpcjjbaaDoor
/- Records as they lie. No condition. -/
namespace Go.Proofs.YthafeaclpcjjbaaDoor
open Go.RowKit

/-- A record as it lies. -/
structure RecM where
  kind : Int
  n : Int
  dst : Int
  yes : Bool
  st : St
  x1 : Int
  x2 : Int
  x3 : Int
  An : Option Addr
  cn : Nat
  nodes : List Int
  key : ByteArray
  Ap : Option Addr
  cp : Nat
  ps : List PutM
  z1 : Int
  z2 : Int
  z3 : Int
  z4 : Int
  As : Option Addr
  cs : Nat
  sms : List SmM
def RecM.cells (r : RecM) : Array Value := #[.int .i64 r.kind, .int .i64 r.n, .int .i64 r.dst, .bool r.yes, .int .i64 r.st.wall, .int .i64 r.st.logic, .int .i64 r.st.node, .int .i64 r.x1, .int .i64 r.x2, .int .i64 r.x3, .slice r.An r.nodes.length r.cn, .string r.key, .slice r.Ap r.ps.length r.cp, .int .i64 r.z1, .int .i64 r.z2, .int .i64 r.z3, .int .i64 r.z4, .slice r.As r.sms.length r.cs]
def RecM.p (r : RecM) : RecP := ⟨r.kind, r.n, r.dst, r.yes, r.st, r.x1, r.x2, r.x3, r.nodes, r.key, r.ps.map PutM.p, r.z1, r.z2, r.z3, r.z4, r.sms.map SmM.sm⟩
def RecM.In (r : RecM) (w : World) : Prop := Sl intC 1 w w.heap.size r.An r.nodes ∧ PutsIn w w.heap.size r.Ap r.ps ∧ SmsIn w w.heap.size r.As r.sms
def Int64 (n : Int) : Prop := -9223372036854775808 ≤ n ∧ n ≤ 9223372036854775807
structure RecM.Small (r : RecM) : Prop where
  kind : Int64 r.kind
  n : Int64 r.n
  dst : Int64 r.dst
  x1 : Int64 r.x1
  x2 : Int64 r.x2
  x3 : Int64 r.x3
  z1 : Int64 r.z1
  z2 : Int64 r.z2
  z3 : Int64 r.z3
  z4 : Int64 r.z4
  nodes : ∀ x ∈ r.nodes, Int64 x
  nodesL : r.nodes.length ≤ 1000000
  key : r.key.size ≤ 1073741824
  ps : PutsSmall r.ps
  bat : (batL r.key (r.ps.map PutM.p)).length ≤ 500000
  smsL : r.sms.length ≤ 1000000
  sms : ∀ s ∈ r.sms, SmSmall s.name s.es s.ks ∧ (smL s.sm).length ≤ 500000
theorem Kw.ge {R base : Nat} {wE w w' : World} (h : Kw R base w w') (hG : G wE w) (hb : wE.heap.size ≤ base) : G wE w' := Below.trans hG (Below.mono h.1 hb)
/-- nums, of a list in a block of its own. -/
theorem wrNums1 {R base n : Nat} {st : Option (List UInt8)} {w : World} (x : Int) (hw : WrS 67 R base n st w) (hR : base ≤ R) (hn : n + 10 ≤ 1099511627776) (hx : Int64 x) :
    Calls Tryd.prog 45 #[.pointer (some ⟨R, 0, none⟩), .slice (some ⟨w.heap.size, 0, none⟩) 1 1] (w.alloc (.cells #[.int .i64 x] 3)) (WrPost 67 R base (n + 10) (addNs 1125899906842624 [x] st) w) :=
  Calls.mono (wrNums_any R base n st [x] (some ⟨w.heap.size, 0, none⟩) 1 _ _ (hw.g (G.new w _)) hR (by simp; omega) (by intro y hy; simp at hy; subst hy; exact hx) (kwInts (base := base) (ns := [x]) (by decide : 3 ≠ 5) (blk_new _ _ _) (by have := hw.lt; omega))) fun _ _ ⟨h1, h2, h3⟩ => ⟨h1, h2, (Kw.of_g (G.new w _) (by have := hw.lt; omega)).trans h3⟩
theorem wrNums3 {R base n : Nat} {st : Option (List UInt8)} {w : World} (x y z : Int) (hw : WrS 67 R base n st w) (hR : base ≤ R) (hn : n + 30 ≤ 1099511627776) (hx : Int64 x) (hy : Int64 y) (hz : Int64 z) :
    Calls Tryd.prog 45 #[.pointer (some ⟨R, 0, none⟩), .slice (some ⟨w.heap.size, 0, none⟩) 3 3] (w.alloc (.cells #[.int .i64 x, .int .i64 y, .int .i64 z] 3)) (WrPost 67 R base (n + 30) (addNs 1125899906842624 [x, y, z] st) w) :=
  Calls.mono (wrNums_any R base n st [x, y, z] (some ⟨w.heap.size, 0, none⟩) 3 _ _ (hw.g (G.new w _)) hR (by simp; omega) (by intro u hu; simp at hu; rcases hu with rfl | rfl | rfl <;> assumption) (kwInts (base := base) (ns := [x, y, z]) (by decide : 3 ≠ 5) (blk_new _ _ _) (by have := hw.lt; omega))) fun _ _ ⟨h1, h2, h3⟩ => ⟨h1, h2, (Kw.of_g (G.new w _) (by have := hw.lt; omega)).trans h3⟩
theorem wrNums4 {R base n : Nat} {st : Option (List UInt8)} {w : World} (x y z t : Int) (hw : WrS 67 R base n st w) (hR : base ≤ R) (hn : n + 40 ≤ 1099511627776) (hx : Int64 x) (hy : Int64 y) (hz : Int64 z) (ht : Int64 t) :
    Calls Tryd.prog 45 #[.pointer (some ⟨R, 0, none⟩), .slice (some ⟨w.heap.size, 0, none⟩) 4 4] (w.alloc (.cells #[.int .i64 x, .int .i64 y, .int .i64 z, .int .i64 t] 3)) (WrPost 67 R base (n + 40) (addNs 1125899906842624 [x, y, z, t] st) w) :=
  Calls.mono (wrNums_any R base n st [x, y, z, t] (some ⟨w.heap.size, 0, none⟩) 4 _ _ (hw.g (G.new w _)) hR (by simp; omega) (by intro u hu; simp at hu; rcases hu with rfl | rfl | rfl | rfl <;> assumption) (kwInts (base := base) (ns := [x, y, z, t]) (by decide : 3 ≠ 5) (blk_new _ _ _) (by have := hw.lt; omega))) fun _ _ ⟨h1, h2, h3⟩ => ⟨h1, h2, (Kw.of_g (G.new w _) (by have := hw.lt; omega)).trans h3⟩
end Go.Proofs.YthafeaclpcjjbaaDoor
/- rec.writer.head: the fields that have no list. Conditions: lengths that an append bears; the decoder's tables lie as the library lays them. -/
namespace Go.Proofs.YthafeaclpcjjbaaDoor
open Go.RowKit

set_option maxRecDepth 100000 in
set_option maxHeartbeats 4000000 in
theorem recHead_any (r : RecM) (f : Fl) (R base n : Nat) (st : Option (List UInt8)) (wE w : World) (hw : WrS 67 R base n st w) (hR : base ≤ R) (hGE : G wE w) (hbE : wE.heap.size ≤ base) (hin : r.In wE) (hok : r.Small) (hT : Tabs wE) (hn : n + 600000 ≤ 1099511627776) :
    Calls Tryd.prog 24 #[.pointer (some ⟨R, 0, none⟩), .agg r.cells, .agg f.cells] w (WrPost 67 R base (n + 600000) (headS r.p f st) w) := by
  obtain ⟨kind, rn, dst, yes, ⟨a, b, c⟩, x1, x2, x3, An, cn, nodes, key, Ap, cp, ps, z1, z2, z3, z4, As, cs, sms⟩ := r
  obtain ⟨f0, f1, f2, f3, f4, f5, f6, f7, f8⟩ := f
  obtain ⟨_, k1, k2, k3, k4, k5, k6, k7, k8, k9, _, _, k10, k11, k12, _, _⟩ := hok
  obtain ⟨_, hps, _⟩ := hin
  unfold RecM.cells Fl.cells
  unfold RecM.p headS
  dsimp only at k1 k2 k3 k4 k5 k6 k7 k8 k9 k10 k11 k12 hps ⊢
  obtain ⟨s1, hs1⟩ : ∃ s, (if f0 = true then addNs 1125899906842624 [rn] st else st) = s := ⟨_, rfl⟩
  rw [hs1]
  obtain ⟨s2, hs2⟩ : ∃ s, (if f4 = true then addNs 1125899906842624 [x1, x2, x3] s1 else s1) = s := ⟨_, rfl⟩
  rw [hs2]
  obtain ⟨s3, hs3⟩ : ∃ s, (if f2 = true then s2.map (fun l => l ++ [if yes = true then 1 else 0]) else s2) = s := ⟨_, rfl⟩
  rw [hs3]
  obtain ⟨s4, hs4⟩ : ∃ s, (if f6 = true then addB (batL key (ps.map PutM.p)) s3 else s3) = s := ⟨_, rfl⟩
  rw [hs4]
  obtain ⟨s5, hs5⟩ : ∃ s, (if f7 = true then addNs 1125899906842624 [z1, z2, z3, z4] s4 else s4) = s := ⟨_, rfl⟩
  rw [hs5]
  obtain ⟨s6, hs6⟩ : ∃ s, (if f1 = true then addNs 1125899906842624 [dst] s5 else s5) = s := ⟨_, rfl⟩
  rw [hs6]
  obtain ⟨s7, hs7⟩ : ∃ s, (if f3 = true then addB (stE ⟨a, b, c⟩) s6 else s6) = s := ⟨_, rfl⟩
  rw [hs7]
  replace hs1 := Lib.hid hs1
  replace hs2 := Lib.hid hs2
  replace hs3 := Lib.hid hs3
  replace hs4 := Lib.hid hs4
  replace hs5 := Lib.hid hs5
  replace hs6 := Lib.hid hs6
  replace hs7 := Lib.hid hs7
  have hRw := hw.lt
  replace hw := Lib.hid hw
  replace hT := Lib.hid hT
  replace hGE := Lib.hid hGE
  replace hps := Lib.hid hps
  go_enter Tryd.func24, Tryd.ntmps24
  go_upto_region 1 with fail
  have hgw := (G.new w (.cells #[.int .i64 kind, .int .i64 rn, .int .i64 dst, .bool yes, .int .i64 a, .int .i64 b, .int .i64 c, .int .i64 x1, .int .i64 x2, .int .i64 x3, .slice An nodes.length cn, .string key, .slice Ap ps.length cp, .int .i64 z1, .int .i64 z2, .int .i64 z3, .int .i64 z4, .slice As sms.length cs] 37)).alloc (.cells #[.bool f0, .bool f1, .bool f2, .bool f3, .bool f4, .bool f5, .bool f6, .bool f7, .bool f8] 61)
  have B1 := (G.new (w.alloc (.cells #[.int .i64 kind, .int .i64 rn, .int .i64 dst, .bool yes, .int .i64 a, .int .i64 b, .int .i64 c, .int .i64 x1, .int .i64 x2, .int .i64 x3, .slice An nodes.length cn, .string key, .slice Ap ps.length cp, .int .i64 z1, .int .i64 z2, .int .i64 z3, .int .i64 z4, .slice As sms.length cs] 37)) (.cells #[.bool f0, .bool f1, .bool f2, .bool f3, .bool f4, .bool f5, .bool f6, .bool f7, .bool f8] 61)).blk (blk_new w #[.int .i64 kind, .int .i64 rn, .int .i64 dst, .bool yes, .int .i64 a, .int .i64 b, .int .i64 c, .int .i64 x1, .int .i64 x2, .int .i64 x3, .slice An nodes.length cn, .string key, .slice Ap ps.length cp, .int .i64 z1, .int .i64 z2, .int .i64 z3, .int .i64 z4, .slice As sms.length cs] 37)
  have B2 := blk_new' (w.alloc (.cells #[.int .i64 kind, .int .i64 rn, .int .i64 dst, .bool yes, .int .i64 a, .int .i64 b, .int .i64 c, .int .i64 x1, .int .i64 x2, .int .i64 x3, .slice An nodes.length cn, .string key, .slice Ap ps.length cp, .int .i64 z1, .int .i64 z2, .int .i64 z3, .int .i64 z4, .slice As sms.length cs] 37)) #[.bool f0, .bool f1, .bool f2, .bool f3, .bool f4, .bool f5, .bool f6, .bool f7, .bool f8] 61 (w.heap.size + 1) (by simp)
  have hw0 := hw.out.g hgw
  have hkA := Kw.of_g (R := R) (base := base) hgw (by omega)
  generalize (w.alloc (.cells #[.int .i64 kind, .int .i64 rn, .int .i64 dst, .bool yes, .int .i64 a, .int .i64 b, .int .i64 c, .int .i64 x1, .int .i64 x2, .int .i64 x3, .slice An nodes.length cn, .string key, .slice Ap ps.length cp, .int .i64 z1, .int .i64 z2, .int .i64 z3, .int .i64 z4, .slice As sms.length cs] 37)).alloc (.cells #[.bool f0, .bool f1, .bool f2, .bool f3, .bool f4, .bool f5, .bool f6, .bool f7, .bool f8] 61) = W0 at *
  replace B1 := Lib.hid B1
  replace B2 := Lib.hid B2
  have hk0 := Kw.refl R base W0
  have hGE0 := hGE.out.trans hgw
  replace hGE0 := Lib.hid hGE0
  replace hkA := Lib.hid hkA
  clear hgw
  have gf := (blk_cell (B2.out) 0).trans (show _ = some (.bool f0) from rfl)
  have g1 := (blk_cell (B1.out) 1).trans (show _ = some (.int .i64 rn) from rfl)
  go_upto_if 8 with fail
  replace hw0 := Lib.hid hw0
  replace hk0 := Lib.hid hk0
  go_cut [] (fun wx => WrS 67 R base (n + 10) s1 wx ∧ Kw R base W0 wx)
  case first =>
    cases f0 with
    | false =>
      have e : st = s1 := hs1.out
      have hwe := hw0.out.more (n' := n + 10) (by omega)
      rw [e] at hwe
      replace hwe := Lib.hid hwe
      clear e
      go_wp2_with fail
      go_meet
      exact ⟨hwe.out, hk0.out⟩
    | true =>
      have hc := Lib.hid (wrNums1 rn hw0.out hR (by omega) k1)
      have e : addNs 1125899906842624 [rn] st = s1 := hs1.out
      rw [e] at hc
      clear e
      go_wp2_with (go_at_call 45; refine Calls.mono hc.out ?_; rintro e w3 ⟨rfl, hw3, hk3⟩; have hk3' := Lib.hid (hk0.out.trans hk3); replace hw3 := Lib.hid hw3; clear hk3)
      go_meet
      exact ⟨hw3.out, hk3'.out⟩
  case rest =>
    clear gf g1 hw0 hk0
    obtain ⟨hw1, hk1⟩ := hcut
    have hz1 := hk1.size
    have gf := (blk_cell (hk1.blk (by decide) (by omega) B2.out) 4).trans (show _ = some (.bool f4) from rfl)
    have g7 := (blk_cell (hk1.blk (by decide) (by omega) B1.out) 7).trans (show _ = some (.int .i64 x1) from rfl)
    have g8 := (blk_cell (hk1.blk (by decide) (by omega) B1.out) 8).trans (show _ = some (.int .i64 x2) from rfl)
    have g9 := (blk_cell (hk1.blk (by decide) (by omega) B1.out) 9).trans (show _ = some (.int .i64 x3) from rfl)
    go_upto_if 15 with fail
    replace hw1 := Lib.hid hw1
    replace hk1 := Lib.hid hk1
    go_cut [] (fun wx => WrS 67 R base (n + 40) s2 wx ∧ Kw R base W0 wx)
    case first =>
      cases f4 with
      | false =>
        have e : s1 = s2 := hs2.out
        have hwe := hw1.out.more (n' := n + 40) (by omega)
        rw [e] at hwe
        replace hwe := Lib.hid hwe
        clear e
        go_wp2_with fail
        go_meet
        exact ⟨hwe.out, hk1.out⟩
      | true =>
        have hc := Lib.hid (wrNums3 x1 x2 x3 hw1.out hR (by omega) k3 k4 k5)
        have e : addNs 1125899906842624 [x1, x2, x3] s1 = s2 := hs2.out
        rw [e] at hc
        clear e
        go_wp2_with (go_at_call 45; refine Calls.mono hc.out ?_; rintro e w3 ⟨rfl, hw3, hk3⟩; have hk3' := Lib.hid (hk1.out.trans hk3); replace hw3 := Lib.hid hw3; clear hk3)
        go_meet
        exact ⟨hw3.out, hk3'.out⟩
    case rest =>
      clear gf g7 g8 g9 hw1 hk1
      obtain ⟨hw2, hk2⟩ := hcut
      have hz2 := hk2.size
      have gf := (blk_cell (hk2.blk (by decide) (by omega) B2.out) 2).trans (show _ = some (.bool f2) from rfl)
      have g3 := (blk_cell (hk2.blk (by decide) (by omega) B1.out) 3).trans (show _ = some (.bool yes) from rfl)
      go_upto_if 29 with fail
      replace hw2 := Lib.hid hw2
      replace hk2 := Lib.hid hk2
      go_cut [] (fun wx => WrS 67 R base (n + 41) s3 wx ∧ Kw R base W0 wx)
      case first =>
        cases f2 with
        | false =>
          have e : s2 = s3 := hs3.out
          have hwe := hw2.out.more (n' := n + 41) (by omega)
          rw [e] at hwe
          replace hwe := Lib.hid hwe
          clear e
          go_wp2_with fail
          go_meet
          exact ⟨hwe.out, hk2.out⟩
        | true =>
          have e : s2.map (fun l => l ++ [if yes = true then 1 else 0]) = s3 := hs3.out
          obtain ⟨A8, c8, m, r1, r2, r3, r4⟩ := hw2.out.rowN
          have x0 := (blk_cell r1 0).trans (show _ = some (.slice A8 m.length c8) from rfl)
          have hzR := blk_lt r1
          have hwz := hk2.out.size
          have hse : s2.isNone = s3.isNone := by rw [← e]; cases s2 <;> rfl
          have hl4 : ∀ l', s3 = some l' → l' = m ++ [if yes = true then 1 else 0] := fun l' h => by
            rw [← e] at h
            cases hs : s2 with
            | none => rw [hs] at h; cases h
            | some l0 => rw [hs] at h; cases h; rw [r4 l0 hs]
          clear e
          replace hl4 := Lib.hid hl4
          replace hse := Lib.hid hse
          replace r1 := Lib.hid r1
          replace r2 := Lib.hid r2
          replace r4 := Lib.hid r4
          cases yes with
          | true =>
            obtain ⟨m2, hm2⟩ : ∃ m2, m ++ [1] = m2 := ⟨_, rfl⟩
            have hl5 : ∀ l', s3 = some l' → l' = m2 := by rw [← hm2]; exact hl4.out
            have hm2l : m2.length = m.length + 1 := by rw [← hm2]; simp
            replace hm2 := Lib.hid hm2
            replace hm2l := Lib.hid hm2l
            replace hl5 := Lib.hid hl5
            go_wp2_with (at_builtin; refine wpList_append_but byte_elem _ rfl (.tmp 36) (.tmp 38) rfl base (.slice A8 m.length c8) m rfl (r2.out.g (G.new _ _)) (wc.heap.size + 1) (some ⟨wc.heap.size, 0, none⟩) 1 [1] rfl (by intro h; cases h) (Sl.of_blk byteC_len _ (blk_new _ _ _) rfl (by omega)) (by simp; omega) (by simp; omega) (by simp; omega) ?_; intro v6 w6 hown6 hk6 hb6; rw [hm2.out] at hown6; obtain ⟨A6, c6, e6, _, _, _⟩ := OwnL.sl byteC_len hown6; subst e6; have r6 := hk6.2 _ _ _ _ wrT ((G.new _ _).blk r1.out); have y6 := (blk_cell r6 0).trans (show _ = some (.slice A8 m.length c8) from rfl); have x6 := (show w6.frozen? ⟨R, 0, none⟩ = false by simp [World.frozen?, r6]); have s6 := Lib.hid (WrS.put (st := s3) (n := n + 41) wrT hse.out r6 rfl hown6 (by have := hm2l.out; omega) hl5.out); have k6 := Lib.hid ((hk2.out.trans (Kw.of_g (G.new _ _) (by omega))).trans ((Kw.of_keep hk6).trans (Kw.set hR 0 (.slice A6 m2.length c6)))); clear hown6 hk6 hb6)
            go_meet
            exact ⟨s6.out, k6.out⟩
          | false =>
            obtain ⟨m2, hm2⟩ : ∃ m2, m ++ [0] = m2 := ⟨_, rfl⟩
            have hl5 : ∀ l', s3 = some l' → l' = m2 := by rw [← hm2]; exact hl4.out
            have hm2l : m2.length = m.length + 1 := by rw [← hm2]; simp
            replace hm2 := Lib.hid hm2
            replace hm2l := Lib.hid hm2l
            replace hl5 := Lib.hid hl5
            go_wp2_with (at_builtin; refine wpList_append_but byte_elem _ rfl (.tmp 36) (.tmp 38) rfl base (.slice A8 m.length c8) m rfl (r2.out.g (G.new _ _)) (wc.heap.size + 1) (some ⟨wc.heap.size, 0, none⟩) 1 [0] rfl (by intro h; cases h) (Sl.of_blk byteC_len _ (blk_new _ _ _) rfl (by omega)) (by simp; omega) (by simp; omega) (by simp; omega) ?_; intro v6 w6 hown6 hk6 hb6; rw [hm2.out] at hown6; obtain ⟨A6, c6, e6, _, _, _⟩ := OwnL.sl byteC_len hown6; subst e6; have r6 := hk6.2 _ _ _ _ wrT ((G.new _ _).blk r1.out); have y6 := (blk_cell r6 0).trans (show _ = some (.slice A8 m.length c8) from rfl); have x6 := (show w6.frozen? ⟨R, 0, none⟩ = false by simp [World.frozen?, r6]); have s6 := Lib.hid (WrS.put (st := s3) (n := n + 41) wrT hse.out r6 rfl hown6 (by have := hm2l.out; omega) hl5.out); have k6 := Lib.hid ((hk2.out.trans (Kw.of_g (G.new _ _) (by omega))).trans ((Kw.of_keep hk6).trans (Kw.set hR 0 (.slice A6 m2.length c6)))); clear hown6 hk6 hb6)
            go_meet
            exact ⟨s6.out, k6.out⟩
      case rest =>
        clear gf g3 hw2 hk2
        obtain ⟨hw3, hk3⟩ := hcut
        have hz3 := hk3.size
        have gf := (blk_cell (hk3.blk (by decide) (by omega) B2.out) 6).trans (show _ = some (.bool f6) from rfl)
        have g11 := (blk_cell (hk3.blk (by decide) (by omega) B1.out) 11).trans (show _ = some (.string key) from rfl)
        have g12 := (blk_cell (hk3.blk (by decide) (by omega) B1.out) 12).trans (show _ = some (.slice Ap ps.length cp) from rfl)
        go_upto_if 43 with fail
        replace hw3 := Lib.hid hw3
        replace hk3 := Lib.hid hk3
        go_cut [] (fun wx => WrS 67 R base (n + 500041) s4 wx ∧ Kw R base W0 wx)
        case first =>
          cases f6 with
          | false =>
            have e : s3 = s4 := hs4.out
            have hwe := hw3.out.more (n' := n + 500041) (by omega)
            rw [e] at hwe
            replace hwe := Lib.hid hwe
            clear e
            go_wp2_with fail
            go_meet
            exact ⟨hwe.out, hk3.out⟩
          | true =>
            have e : addB (batL key (ps.map PutM.p)) s3 = s4 := hs4.out
            have hgE := hk3.out.ge hGE0.out hbE
            have hc := Lib.hid (batEnc_any key ps Ap cp wc (PutsIn.more (hps.out.g (Nat.le_refl _) hgE) hgE.size) k10 k11 (hT.out.g hgE))
            replace e := Lib.hid e
            have hbw : base ≤ wc.heap.size := by have := hw3.out.lt; omega
            go_wp2_with (first | (go_at_call 47; refine Calls.mono hc.out ?_; rintro e5 w5 ⟨Ab, cb, rfl, hob, hgb, _⟩; have hc2 := wrSome_own (hw3.out.g hgb) hR (by omega) hob; rw [e.out] at hc2; replace hc2 := Lib.hid hc2; have hk5 := Lib.hid (hk3.out.trans (Kw.of_g hgb hbw)); clear hob hgb) | (go_at_call 46; refine Calls.mono hc2.out ?_; rintro e6 w6 ⟨rfl, hw6, hk6⟩; have hw7 := Lib.hid (hw6.more (n' := n + 500041) (by omega)); have hk7 := Lib.hid (hk5.out.trans hk6); clear hw6 hk6))
            go_meet
            exact ⟨hw7.out, hk7.out⟩
        case rest =>
          clear gf g11 g12 hw3 hk3
          obtain ⟨hw4, hk4⟩ := hcut
          have hz4 := hk4.size
          have gf := (blk_cell (hk4.blk (by decide) (by omega) B2.out) 7).trans (show _ = some (.bool f7) from rfl)
          have g13 := (blk_cell (hk4.blk (by decide) (by omega) B1.out) 13).trans (show _ = some (.int .i64 z1) from rfl)
          have g14 := (blk_cell (hk4.blk (by decide) (by omega) B1.out) 14).trans (show _ = some (.int .i64 z2) from rfl)
          have g15 := (blk_cell (hk4.blk (by decide) (by omega) B1.out) 15).trans (show _ = some (.int .i64 z3) from rfl)
          have g16 := (blk_cell (hk4.blk (by decide) (by omega) B1.out) 16).trans (show _ = some (.int .i64 z4) from rfl)
          go_upto_if 50 with fail
          replace hw4 := Lib.hid hw4
          replace hk4 := Lib.hid hk4
          go_cut [] (fun wx => WrS 67 R base (n + 500081) s5 wx ∧ Kw R base W0 wx)
          case first =>
            cases f7 with
            | false =>
              have e : s4 = s5 := hs5.out
              have hwe := hw4.out.more (n' := n + 500081) (by omega)
              rw [e] at hwe
              replace hwe := Lib.hid hwe
              clear e
              go_wp2_with fail
              go_meet
              exact ⟨hwe.out, hk4.out⟩
            | true =>
              have hc := Lib.hid (wrNums4 z1 z2 z3 z4 hw4.out hR (by omega) k6 k7 k8 k9)
              have e : addNs 1125899906842624 [z1, z2, z3, z4] s4 = s5 := hs5.out
              rw [e] at hc
              clear e
              go_wp2_with (go_at_call 45; refine Calls.mono hc.out ?_; rintro e w3 ⟨rfl, hw3, hk3⟩; have hk3' := Lib.hid (hk4.out.trans hk3); replace hw3 := Lib.hid hw3; clear hk3)
              go_meet
              exact ⟨hw3.out, hk3'.out⟩
          case rest =>
            clear gf g13 g14 g15 g16 hw4 hk4
            obtain ⟨hw5, hk5⟩ := hcut
            have hz5 := hk5.size
            have gf := (blk_cell (hk5.blk (by decide) (by omega) B2.out) 1).trans (show _ = some (.bool f1) from rfl)
            have g2 := (blk_cell (hk5.blk (by decide) (by omega) B1.out) 2).trans (show _ = some (.int .i64 dst) from rfl)
            go_upto_if 67 with fail
            replace hw5 := Lib.hid hw5
            replace hk5 := Lib.hid hk5
            go_cut [] (fun wx => WrS 67 R base (n + 500091) s6 wx ∧ Kw R base W0 wx)
            case first =>
              cases f1 with
              | false =>
                have e : s5 = s6 := hs6.out
                have hwe := hw5.out.more (n' := n + 500091) (by omega)
                rw [e] at hwe
                replace hwe := Lib.hid hwe
                clear e
                go_wp2_with fail
                go_meet
                exact ⟨hwe.out, hk5.out⟩
              | true =>
                have hc := Lib.hid (wrNums1 dst hw5.out hR (by omega) k2)
                have e : addNs 1125899906842624 [dst] s5 = s6 := hs6.out
                rw [e] at hc
                clear e
                go_wp2_with (go_at_call 45; refine Calls.mono hc.out ?_; rintro e w3 ⟨rfl, hw3, hk3⟩; have hk3' := Lib.hid (hk5.out.trans hk3); replace hw3 := Lib.hid hw3; clear hk3)
                go_meet
                exact ⟨hw3.out, hk3'.out⟩
            case rest =>
              clear gf g2 hw5 hk5
              obtain ⟨hw6, hk6⟩ := hcut
              have hz6 := hk6.size
              have gf := (blk_cell (hk6.blk (by decide) (by omega) B2.out) 3).trans (show _ = some (.bool f3) from rfl)
              have g4 := (blk_cell (hk6.blk (by decide) (by omega) B1.out) 4).trans (show _ = some (.int .i64 a) from rfl)
              have g5 := (blk_cell (hk6.blk (by decide) (by omega) B1.out) 5).trans (show _ = some (.int .i64 b) from rfl)
              have g6 := (blk_cell (hk6.blk (by decide) (by omega) B1.out) 6).trans (show _ = some (.int .i64 c) from rfl)
              replace hw6 := Lib.hid hw6
              replace hk6 := Lib.hid hk6
              cases f3 with
              | false =>
                have e : s6 = s7 := hs7.out
                have hwe := hw6.out.more (n' := n + 500121) (by omega)
                rw [e] at hwe
                replace hwe := Lib.hid hwe
                clear e
                have hw8 := Lib.hid (hwe.out.more (n' := n + 600000) (by omega))
                have hk8 := Lib.hid (hkA.out.trans hk6.out)
                go_wp2_with fail
                go_end0
                exact ⟨rfl, hw8.out, hk8.out⟩
              | true =>
                have e : addB (stE ⟨a, b, c⟩) s6 = s7 := hs7.out
                have hc := Lib.hid (stEnc_any ⟨a, b, c⟩ wc)
                have hls := stE_len ⟨a, b, c⟩
                replace e := Lib.hid e
                have hbw : base ≤ wc.heap.size := by have := hw6.out.lt; omega
                go_wp2_with (first | (go_at_call 48; refine Calls.mono hc.out ?_; rintro e5 w5 ⟨Ab, cb, rfl, hob, hgb⟩; have hc2 := wrSome_own (hw6.out.g hgb) hR (by omega) hob; rw [e.out] at hc2; replace hc2 := Lib.hid hc2; have hk5 := Lib.hid (hk6.out.trans (Kw.of_g hgb hbw)); clear hob hgb) | (go_at_call 46; refine Calls.mono hc2.out ?_; rintro e6 w6 ⟨rfl, hw6, hk6⟩; have hw7 := Lib.hid (hw6.more (n' := n + 500121) (by omega)); have hk7 := Lib.hid (hk5.out.trans hk6); clear hw6 hk6))
                go_end0
                exact ⟨rfl, hw7.out.more (by omega), hkA.out.trans hk7.out⟩
end Go.Proofs.YthafeaclpcjjbaaDoor
/- rec.writer.lists: the lists. Conditions: lengths that an append bears; the decoder's tables lie as the library lays them. -/
namespace Go.Proofs.YthafeaclpcjjbaaDoor
open Go.RowKit

theorem Sl.smc {w : World} {B : Nat} {A : Option Addr} {ss : List SmM} {k : Nat} {s : SmM} (h : Sl SmM.cells 3 w B A ss) (hs : ss[k]? = some s) :
    ∃ b o, A = some ⟨b, o, none⟩ ∧ b < B ∧ w.cell? ⟨b, o + k * 3, none⟩ = some (.string s.name) ∧ w.cell? ⟨b, o + k * 3 + 1, none⟩ = some (.slice s.Ae s.es.length s.ce) ∧ w.cell? ⟨b, o + k * 3 + 2, none⟩ = some (.slice s.Ak s.ks.length s.ck) := by
  obtain ⟨b, o, e, hb, hc⟩ := h.get hs
  exact ⟨b, o, e, hb, hc 0 _ rfl, hc 1 _ rfl, hc 2 _ rfl⟩
set_option maxRecDepth 100000 in
set_option maxHeartbeats 4000000 in
theorem recLists_any (r : RecM) (f : Fl) (R base n : Nat) (st : Option (List UInt8)) (wE w : World) (hw : WrS 67 R base n st w) (hR : base ≤ R) (hGE : G wE w) (hbE : wE.heap.size ≤ base) (hin : r.In wE) (hok : r.Small) (hT : Tabs wE) (hn : n + 520000000000 ≤ 1099511627776) :
    Calls Tryd.prog 25 #[.pointer (some ⟨R, 0, none⟩), .agg r.cells, .agg f.cells] w (WrPost 67 R base (n + 520000000000) (listsS r.p f st) w) := by
  obtain ⟨kind, rn, dst, yes, ⟨a, b, c⟩, x1, x2, x3, An, cn, nodes, key, Ap, cp, ps, z1, z2, z3, z4, As, cs, sms⟩ := r
  obtain ⟨f0, f1, f2, f3, f4, f5, f6, f7, f8⟩ := f
  obtain ⟨_, _, _, _, _, _, _, _, _, _, k1, k2, _, _, _, k3, k4⟩ := hok
  obtain ⟨hns, _, hsm⟩ := hin
  unfold RecM.cells Fl.cells
  unfold RecM.p listsS
  dsimp only at k1 k2 k3 k4 hns hsm ⊢
  obtain ⟨s1, hs1⟩ : ∃ s, (if f5 = true then addNs 1125899906842624 nodes (addMany 1125899906842624 nodes.length st) else st) = s := ⟨_, rfl⟩
  rw [hs1]
  obtain ⟨s2, hs2⟩ : ∃ s, (if f8 = true then addSms (sms.map SmM.sm) (addMany 1125899906842624 (sms.map SmM.sm).length s1) else s1) = s := ⟨_, rfl⟩
  rw [hs2]
  rw [List.length_map] at hs2
  replace hs1 := Lib.hid hs1
  replace hs2 := Lib.hid hs2
  have hRw := hw.lt
  replace hw := Lib.hid hw
  replace hT := Lib.hid hT
  replace hGE := Lib.hid hGE
  replace hns := Lib.hid hns
  replace hsm := Lib.hid hsm
  replace k1 := Lib.hid k1
  replace k4 := Lib.hid k4
  go_enter Tryd.func25, Tryd.ntmps25
  go_upto_region 1 with fail
  have hgw := (G.new w (.cells #[.int .i64 kind, .int .i64 rn, .int .i64 dst, .bool yes, .int .i64 a, .int .i64 b, .int .i64 c, .int .i64 x1, .int .i64 x2, .int .i64 x3, .slice An nodes.length cn, .string key, .slice Ap ps.length cp, .int .i64 z1, .int .i64 z2, .int .i64 z3, .int .i64 z4, .slice As sms.length cs] 37)).alloc (.cells #[.bool f0, .bool f1, .bool f2, .bool f3, .bool f4, .bool f5, .bool f6, .bool f7, .bool f8] 61)
  have B1 := (G.new (w.alloc (.cells #[.int .i64 kind, .int .i64 rn, .int .i64 dst, .bool yes, .int .i64 a, .int .i64 b, .int .i64 c, .int .i64 x1, .int .i64 x2, .int .i64 x3, .slice An nodes.length cn, .string key, .slice Ap ps.length cp, .int .i64 z1, .int .i64 z2, .int .i64 z3, .int .i64 z4, .slice As sms.length cs] 37)) (.cells #[.bool f0, .bool f1, .bool f2, .bool f3, .bool f4, .bool f5, .bool f6, .bool f7, .bool f8] 61)).blk (blk_new w #[.int .i64 kind, .int .i64 rn, .int .i64 dst, .bool yes, .int .i64 a, .int .i64 b, .int .i64 c, .int .i64 x1, .int .i64 x2, .int .i64 x3, .slice An nodes.length cn, .string key, .slice Ap ps.length cp, .int .i64 z1, .int .i64 z2, .int .i64 z3, .int .i64 z4, .slice As sms.length cs] 37)
  have B2 := blk_new' (w.alloc (.cells #[.int .i64 kind, .int .i64 rn, .int .i64 dst, .bool yes, .int .i64 a, .int .i64 b, .int .i64 c, .int .i64 x1, .int .i64 x2, .int .i64 x3, .slice An nodes.length cn, .string key, .slice Ap ps.length cp, .int .i64 z1, .int .i64 z2, .int .i64 z3, .int .i64 z4, .slice As sms.length cs] 37)) #[.bool f0, .bool f1, .bool f2, .bool f3, .bool f4, .bool f5, .bool f6, .bool f7, .bool f8] 61 (w.heap.size + 1) (by simp)
  have hw0 := hw.out.g hgw
  have hkA := Kw.of_g (R := R) (base := base) hgw (by omega)
  generalize (w.alloc (.cells #[.int .i64 kind, .int .i64 rn, .int .i64 dst, .bool yes, .int .i64 a, .int .i64 b, .int .i64 c, .int .i64 x1, .int .i64 x2, .int .i64 x3, .slice An nodes.length cn, .string key, .slice Ap ps.length cp, .int .i64 z1, .int .i64 z2, .int .i64 z3, .int .i64 z4, .slice As sms.length cs] 37)).alloc (.cells #[.bool f0, .bool f1, .bool f2, .bool f3, .bool f4, .bool f5, .bool f6, .bool f7, .bool f8] 61) = W0 at *
  replace B1 := Lib.hid B1
  replace B2 := Lib.hid B2
  have hk0 := Kw.refl R base W0
  have hGE0 := hGE.out.trans hgw
  replace hGE0 := Lib.hid hGE0
  replace hkA := Lib.hid hkA
  clear hgw
  have gf := (blk_cell B2.out 5).trans (show _ = some (.bool f5) from rfl)
  have g10 := (blk_cell B1.out 10).trans (show _ = some (.slice An nodes.length cn) from rfl)
  go_upto_if 8 with fail
  replace hw0 := Lib.hid hw0
  replace hk0 := Lib.hid hk0
  go_cut [] (fun wx => WrS 67 R base (n + 10000020) s1 wx ∧ Kw R base W0 wx)
  case first =>
    cases f5 with
    | false =>
      have e : st = s1 := hs1.out
      have hwe := hw0.out.more (n' := n + 10000020) (by omega)
      rw [e] at hwe
      replace hwe := Lib.hid hwe
      clear e
      go_wp2_with fail
      go_meet
      exact ⟨hwe.out, hk0.out⟩
    | true =>
      have hc := Lib.hid (wrMany_any R base n nodes.length st W0 hw0.out hR (by omega) (by omega))
      have e : addNs 1125899906842624 nodes (addMany 1125899906842624 nodes.length st) = s1 := hs1.out
      have hc2 := fun (w3 : World) (hw3 : WrS 67 R base (n + 10) (addMany 1125899906842624 nodes.length st) w3) (hk : Kw R base W0 w3) => wrNums_any R base (n + 10) (addMany 1125899906842624 nodes.length st) nodes An cn wE.heap.size w3 hw3 hR (by omega) k1.out (fun w' hk' => Kw.sl (hk.trans hk') (hns.out.g (Nat.le_refl _) hGE0.out) hbE)
      rw [e] at hc2
      replace hc2 := Lib.hid hc2
      clear e
      go_wp2_with (first
        | (go_at_call 49; refine Calls.mono hc.out ?_; rintro e w3 ⟨rfl, hw3, hk3⟩; have g10 := (blk_cell (hk3.blk (by decide) (by omega) B1.out) 10).trans (show _ = some (.slice An nodes.length cn) from rfl); have hk3' := Lib.hid hk3; replace hw3 := Lib.hid hw3; clear hk3)
        | (go_at_call 45; refine Calls.mono (hc2.out _ hw3.out hk3'.out) ?_; rintro e w4 ⟨rfl, hw4, hk4⟩; have hk5 := Lib.hid (hk3'.out.trans hk4); have hw5 := Lib.hid (hw4.more (n' := n + 10000020) (by omega)); clear hk4 hw4))
      go_meet
      exact ⟨hw5.out, hk5.out⟩
  case rest =>
    clear gf g10 hw0 hk0
    obtain ⟨hw1, hk1⟩ := hcut
    have hz1 := hk1.size
    have gf := (blk_cell (hk1.blk (by decide) (by omega) B2.out) 8).trans (show _ = some (.bool f8) from rfl)
    have g17 := (blk_cell (hk1.blk (by decide) (by omega) B1.out) 17).trans (show _ = some (.slice As sms.length cs) from rfl)
    replace hw1 := Lib.hid hw1
    replace hk1 := Lib.hid hk1
    cases f8 with
    | false =>
      have e : s1 = s2 := hs2.out
      have hwe := hw1.out.more (n' := n + 520000000000) (by omega)
      rw [e] at hwe
      have hke := hkA.out.trans hk1.out
      replace hwe := Lib.hid hwe
      replace hke := Lib.hid hke
      clear e
      go_wp2_with fail
      go_end0
      exact ⟨rfl, hwe.out, hke.out⟩
    | true =>
      have hc := Lib.hid (wrMany_any R base (n + 10000020) sms.length s1 wc hw1.out hR (by omega) (by omega))
      have e : addSms (sms.map SmM.sm) (addMany 1125899906842624 sms.length s1) = s2 := hs2.out
      obtain ⟨s3, hs3⟩ : ∃ s, addMany 1125899906842624 sms.length s1 = s := ⟨_, rfl⟩
      rw [hs3] at hc e
      replace e := Lib.hid e
      go_wp2_with (go_at_call 49; refine Calls.mono hc.out ?_; rintro e w3 ⟨rfl, hw3, hk3⟩; have hk3' := Lib.hid (hk1.out.trans hk3); replace hw3 := Lib.hid hw3; clear hk3)
      clear gf g17 hc hs3
      go_loopw [6] (fun i wr => ∃ (k : Nat) (sk : Option (List UInt8)), i = .int .i64 k ∧ k ≤ sms.length ∧ Hid (WrS 67 R base (n + 10000030 + k * 500000) sk wr) ∧ Hid (Kw R base W0 wr) ∧ Hid (addSms ((sms.map SmM.sm).drop k) sk = s2)) (fun i _ => sms.length - (intOf i).toNat)
      case atStart => exact ⟨0, s3, rfl, Nat.zero_le _, (by simpa [Hid] using hw3.out), hk3', by simpa [Hid] using e.out⟩
      case round =>
        obtain ⟨wo, rfl⟩ : ∃ wo : World, wo = wr := ⟨_, rfl⟩
        clear hw3 hk3'
        obtain ⟨k, sk, rfl, hkl, hwr, hkw, hadd⟩ := hrel
        have g17 := (blk_cell (hkw.out.blk (by decide) (by omega) B1.out) 17).trans (show _ = some (.slice As sms.length cs) from rfl)
        have hc1 := hwr.out.c1
        have hRr := hwr.out.lt
        by_cases hlt : k < sms.length
        case neg =>
          have hfin : sk = s2 := by
            have := hadd.out
            rwa [List.drop_eq_nil_of_le (by rw [List.length_map]; omega)] at this
          have hwe := hwr.out.more (n' := n + 520000000000) (by omega)
          rw [hfin] at hwe
          have hke := hkA.out.trans hkw.out
          replace hwe := Lib.hid hwe
          replace hke := Lib.hid hke
          clear hfin
          go_wp2_with fail
          go_end0
          exact ⟨rfl, hwe.out, hke.out⟩
        cases sk with
        | none =>
          have hfin : none = s2 := by
            have := hadd.out
            rwa [addSms_none] at this
          have hwe := hwr.out.more (n' := n + 520000000000) (by omega)
          rw [hfin] at hwe
          have hke := hkA.out.trans hkw.out
          replace hwe := Lib.hid hwe
          replace hke := Lib.hid hke
          clear hfin
          simp only [Option.isNone_none] at hc1
          go_wp2_with fail
          go_end0
          exact ⟨rfl, hwe.out, hke.out⟩
        | some m =>
          simp only [Option.isNone_some] at hc1
          obtain ⟨⟨sn, Ae, ce, es, Ak, ck, ks⟩, hx⟩ : ∃ x, sms[k]? = some x := ⟨_, List.getElem?_eq_getElem hlt⟩
          have hgE := hkw.out.ge hGE0.out hbE
          have hmem := List.mem_of_getElem? hx
          obtain ⟨hss, hsl⟩ := k4.out _ hmem
          have hsi := (hsm.out.2 _ hmem).g (Nat.le_refl _) hgE
          obtain ⟨bb, o, rfl, hb, c0, c1, c2⟩ := (hsm.out.1.g (Nat.le_refl _) hgE).smc hx
          have hdr := addSms_drop (l := sms.map SmM.sm) (k := k) (m := ⟨sn, es, ks⟩) (by rw [List.getElem?_map, hx]; rfl) (some m)
          rw [hadd.out] at hdr
          unfold SmM.sm at hsl
          dsimp only at c0 c1 c2 hss hsl hsi
          have n1 : (0 : Int) ≤ (k : Int) := by omega
          have n2 : (k : Int) < (sms.length : Int) := by omega
          have hc := Lib.hid (smEnc_any sn es ks Ae Ak ce ck wo (SmIn.more hsi hgE.size) hss (hT.out.g hgE))
          have hbw : base ≤ wo.heap.size := by omega
          obtain ⟨nx, hnx⟩ : ∃ nx, addB (smL ⟨sn, es, ks⟩) (some m) = nx := ⟨_, rfl⟩
          rw [hnx] at hdr
          replace hnx := Lib.hid hnx
          replace hdr := Lib.hid hdr
          replace hx := Lib.hid hx
          replace hsi := Lib.hid hsi
          replace hss := Lib.hid hss
          clear hmem hgE
          go_wp2_with (first
            | (go_at_call 50; refine Calls.mono hc.out ?_; rintro e5 w5 ⟨Ab, cb, rfl, hob, hgb, _⟩; have hc2 := wrSome_own (hwr.out.g hgb) hR (by omega) hob; rw [hnx.out] at hc2; replace hc2 := Lib.hid hc2; have hk5 := Lib.hid (hkw.out.trans (Kw.of_g hgb hbw)); clear hob hgb)
            | (go_at_call 46; refine Calls.mono hc2.out ?_; rintro e6 w6 ⟨rfl, hw6, hk6⟩; have hw7 := Lib.hid (hw6.more (n' := n + 10000030 + (k + 1) * 500000) (by omega)); have hk7 := Lib.hid (hk5.out.trans hk6); clear hw6 hk6))
          go_roundw
          case rel => exact ⟨k + 1, nx, by go_num, by omega, hw7, hk7, hdr.out.symm⟩
          case measure => (simp [intOf] <;> omega)
end Go.Proofs.YthafeaclpcjjbaaDoor
/- A struct that is a block of its own is loaded whole. No condition. -/
namespace Go.Proofs.YthafeaclpcjjbaaDoor
open Go.RowKit

theorem load_blk {P : Program} {W : World} {b : Nat} {cs : Array Value} {t T : TypeId} {fz : Nat × Nat} {d : TypeDesc} (h : W.heap[b]? = some (.cells cs t fz)) (hu : P.underlying T = some d) (hd : d.isRow = true) (hi : (P.info? T).map (·.size) = some cs.size) :
    (Instr.loadAt T (.pointer (some ⟨b, 0, none⟩))).run P W = .ok (.agg cs) W := by
  have := run_loadAt_mid (P := P) W b 0 T cs.toList d (fun j v hv => by rw [Nat.zero_add, blk_cell h]; simpa using hv) hu hd (by simpa using hi)
  simpa using this
/-- The operation, by what the load answers: an arm of the walk's. -/
theorem wp_load_at {P : Program} {op : Oper} {a : Act} {w : World} {K : Act → World → Prop} {Q : Exit → Act → World → Prop} {ty : TypeId} {x : Operand} (ho : op.op = .load ty x) {p v : Value} (hx : a.eval x = p) (hl : (Instr.loadAt ty p).run P w = .ok v w)
    (h : K (a.put op.dst v) w) : op.wp P a w K Q := by
  unfold Oper.wp execOp
  simp only [ho, hx, Sem.run_bind, Sem.run_pure, Result.andThen_ok, hl]
  exact h
/-- The same, at a list of operations: guarded or not. -/
theorem wpList_load_at {P : Program} {ops : Array Oper} {rest : List Oper} {op : Oper} {a : Act} {w : World} {Q : Exit → Act → World → Prop} {ty : TypeId} {x : Operand} (ho : op.op = .load ty x) (hg : Region.wanted op (yielded ops a.tmps) = true) {p v : Value} (hx : a.eval x = p)
    (hl : (Instr.loadAt ty p).run P w = .ok v w) (h : wpList P ops Q rest (a.put op.dst v) w) : wpList P ops Q (op :: rest) a w :=
  wpList_step fun K hK => by
    rw [if_pos hg]
    exact wp_load_at ho hx hl (hK _ _ h)
end Go.Proofs.YthafeaclpcjjbaaDoor
/- rec.Encode, rec.Check: what they answer. Conditions: lengths that an append bears; the decoder's tables lie as the library lays them. -/
namespace Go.Proofs.YthafeaclpcjjbaaDoor
open Go.RowKit

def codeO {α : Type} (no : Int) (o : Option α) : Int := if o.isSome = true then 0 else no
/-- Bytes that a call has made and a number; none: no bytes. -/
def RetEnc (no : Int) (w : World) (o : Option (List UInt8)) (e : Ending) (w' : World) : Prop := ∃ A c, e = .returned (.tuple #[.slice A (o.getD []).length c, .int .i64 (codeO no o)]) ∧ OwnL 5 1 byteC w' w.heap.size (.slice A (o.getD []).length c) (o.getD []) ∧ G w w'
theorem spare_eq (kind n dst a b c x1 x2 x3 z1 z2 z3 z4 : Int) (yes : Bool) (key : ByteArray) (nodes : List Int) (ps : List PutP) (sms : List Sm) (nn np ns : Nat) (hn : nodes.length = nn) (hp : ps.length = np) (hs : sms.length = ns) (f0 f1 f2 f3 f4 f5 f6 f7 f8 : Bool) :
    (!((!f0 && decide (n ≠ 0)) || (!f1 && decide (dst ≠ 0)) || (!f2 && yes) || (!f3 && !stB ⟨a, b, c⟩ ⟨0, 0, 0⟩) || (!f4 && !txB x1 x2 x3 0 0 0) || (!f7 && !rgB z1 z2 z3 z4 0 0 0 0) || (!f5 && decide (0 < nn)) || (!f8 && decide (0 < ns)) || (!f6 && (decide (key ≠ ByteArray.empty) || decide (0 < np)))))
      = spareB ⟨kind, n, dst, yes, ⟨a, b, c⟩, x1, x2, x3, nodes, key, ps, z1, z2, z3, z4, sms⟩ ⟨f0, f1, f2, f3, f4, f5, f6, f7, f8⟩ := by
  subst hn hp hs
  have e1 : decide (nodes = []) = !decide (0 < nodes.length) := by cases nodes <;> simp
  have e2 : decide (sms.length = 0) = !decide (0 < sms.length) := by cases sms <;> simp
  have e3 : decide (ps.length = 0) = !decide (0 < ps.length) := by cases ps <;> simp
  unfold spareB stB txB rgB
  dsimp only
  rw [e1, e2, Bool.decide_and (key = ByteArray.empty), e3]
  simp only [Bool.not_or, Bool.not_and, Bool.not_not, decide_not]
theorem fOk_in {k : Int} (h : fOk k = true) : 1 ≤ k ∧ k ≤ 11 := of_decide_eq_true h
set_option maxRecDepth 100000 in
set_option maxHeartbeats 4000000 in
theorem recEnc_any (r : RecM) (w : World) (hin : r.In w) (hok : r.Small) (hT : Tabs w) : Calls Tryd.prog 10 #[.agg r.cells] w (RetEnc 1 w (encR r.p)) := by
  obtain ⟨o, ho⟩ : ∃ o, encR r.p = o := ⟨_, rfl⟩
  rw [ho]
  have hhead := fun (f : Fl) (R base n : Nat) (st : Option (List UInt8)) (w1 : World) => recHead_any r f R base n st w w1
  have hlists := fun (f : Fl) (R base n : Nat) (st : Option (List UInt8)) (w1 : World) => recLists_any r f R base n st w w1
  have hkk := hok.kind
  replace hhead := fun (f : Fl) (R base n : Nat) (st : Option (List UInt8)) (w1 : World) (h1 : WrS 67 R base n st w1) (h2 : base ≤ R) (h3 : G w w1) (h4 : w.heap.size ≤ base) (h5 : n + 600000 ≤ 1099511627776) => hhead f R base n st w1 h1 h2 h3 h4 hin hok hT h5
  replace hlists := fun (f : Fl) (R base n : Nat) (st : Option (List UInt8)) (w1 : World) (h1 : WrS 67 R base n st w1) (h2 : base ≤ R) (h3 : G w w1) (h4 : w.heap.size ≤ base) (h5 : n + 520000000000 ≤ 1099511627776) => hlists f R base n st w1 h1 h2 h3 h4 hin hok hT h5
  clear hin hok hT
  obtain ⟨kind, rn, dst, yes, ⟨a, b, c⟩, x1, x2, x3, An, cn, nodes, key, Ap, cp, ps, z1, z2, z3, z4, As, cs, sms⟩ := r
  unfold encR at ho
  unfold RecM.p at ho hhead hlists
  unfold RecM.cells at hhead hlists ⊢
  dsimp only at ho hhead hlists hkk ⊢
  have hnm := fun w' => recNamed_any kind w'
  generalize flOf kind = f at *
  obtain ⟨f0, f1, f2, f3, f4, f5, f6, f7, f8⟩ := f
  have hsp := fun w' => recSpare_any kind rn dst a b c x1 x2 x3 z1 z2 z3 z4 yes key An Ap As cn cp cs nodes.length ps.length sms.length f0 f1 f2 f3 f4 f5 f6 f7 f8 w'
  rw [spare_eq kind rn dst a b c x1 x2 x3 z1 z2 z3 z4 yes key nodes (ps.map PutM.p) (sms.map SmM.sm) nodes.length ps.length sms.length rfl (by rw [List.length_map]) (by rw [List.length_map])] at hsp
  unfold Fl.cells at hnm
  dsimp only at hnm
  replace hhead := fun R base n st w1 => hhead ⟨f0, f1, f2, f3, f4, f5, f6, f7, f8⟩ R base n st w1
  replace hlists := fun R base n st w1 => hlists ⟨f0, f1, f2, f3, f4, f5, f6, f7, f8⟩ R base n st w1
  unfold Fl.cells at hhead hlists
  dsimp only at hhead hlists
  generalize spareB ⟨kind, rn, dst, yes, ⟨a, b, c⟩, x1, x2, x3, nodes, key, ps.map PutM.p, z1, z2, z3, z4, sms.map SmM.sm⟩ ⟨f0, f1, f2, f3, f4, f5, f6, f7, f8⟩ = sp at *
  obtain ⟨k, hfk⟩ : ∃ k, fOk kind = k := ⟨_, rfl⟩
  rw [hfk] at ho hnm
  replace hfk := Lib.hid hfk
  replace hnm := Lib.hid hnm
  replace hsp := Lib.hid hsp
  replace hhead := Lib.hid hhead
  replace hlists := Lib.hid hlists
  go_enter Tryd.func10, Tryd.ntmps10
  go_upto_region 1 with fail
  have hG0 := G.new w (.cells #[.int .i64 kind, .int .i64 rn, .int .i64 dst, .bool yes, .int .i64 a, .int .i64 b, .int .i64 c, .int .i64 x1, .int .i64 x2, .int .i64 x3, .slice An nodes.length cn, .string key, .slice Ap ps.length cp, .int .i64 z1, .int .i64 z2, .int .i64 z3, .int .i64 z4, .slice As sms.length cs] 37)
  have B0 := blk_new w #[.int .i64 kind, .int .i64 rn, .int .i64 dst, .bool yes, .int .i64 a, .int .i64 b, .int .i64 c, .int .i64 x1, .int .i64 x2, .int .i64 x3, .slice An nodes.length cn, .string key, .slice Ap ps.length cp, .int .i64 z1, .int .i64 z2, .int .i64 z3, .int .i64 z4, .slice As sms.length cs] 37
  generalize w.alloc (.cells #[.int .i64 kind, .int .i64 rn, .int .i64 dst, .bool yes, .int .i64 a, .int .i64 b, .int .i64 c, .int .i64 x1, .int .i64 x2, .int .i64 x3, .slice An nodes.length cn, .string key, .slice Ap ps.length cp, .int .i64 z1, .int .i64 z2, .int .i64 z3, .int .i64 z4, .slice As sms.length cs] 37) = W0 at *
  have g0 := (blk_cell B0 0).trans (show _ = some (.int .i64 kind) from rfl)
  replace B0 := Lib.hid B0
  cases k with
  | false =>
    have hfin : o = none := by rw [← ho]; rfl
    replace hfin := Lib.hid hfin
    go_wp2_with (go_at_call 22; refine Calls.mono (hnm.out _) ?_; rintro e w1 ⟨rfl, hg1⟩)
    go_ret2
    exact ⟨none, 0, by rw [hfin.out]; rfl, by rw [hfin.out]; exact OwnL.nil, hG0.trans (hg1.trans (G.new _ _))⟩
  | true =>
    go_upto_region 2 with (go_at_call 22; refine Calls.mono (hnm.out _) ?_; rintro e w1 ⟨rfl, hg1⟩)
    have hgn := G.new w1 (.cells #[.bool f0, .bool f1, .bool f2, .bool f3, .bool f4, .bool f5, .bool f6, .bool f7, .bool f8] 61)
    have F1 := blk_new w1 #[.bool f0, .bool f1, .bool f2, .bool f3, .bool f4, .bool f5, .bool f6, .bool f7, .bool f8] 61
    have hz1 := hg1.size
    have hz0 := blk_lt B0.out
    generalize w1.alloc (.cells #[.bool f0, .bool f1, .bool f2, .bool f3, .bool f4, .bool f5, .bool f6, .bool f7, .bool f8] 61) = W1 at *
    generalize hX : w1.heap.size = X at *
    replace hX := Lib.hid hX
    have hG1 := hG0.trans (hg1.trans hgn)
    have B1 := hgn.blk (hg1.blk B0.out)
    clear g0
    have LR := load_blk (P := Tryd.prog) (T := 37) B1 Tryd.underlying37 rfl (by kernel_rfl)
    have LF := load_blk (P := Tryd.prog) (T := 61) F1 Tryd.underlying61 rfl (by kernel_rfl)
    replace B1 := Lib.hid B1
    replace F1 := Lib.hid F1
    have hz2 := hgn.size
    clear hgn hg1
    cases sp with
    | false =>
      have hfin : o = none := by rw [← ho]; rfl
      replace hfin := Lib.hid hfin
      go_wp2_with (first | (refine wpList_load_at rfl (by kernel_rfl) (p := .pointer (some ⟨_, 0, none⟩)) rfl (by assumption) ?_) | (go_at_call 23; refine Calls.mono (hsp.out _) ?_; rintro e w2 ⟨rfl, hg2⟩))
      go_ret2
      exact ⟨none, 0, by rw [hfin.out]; rfl, by rw [hfin.out]; exact OwnL.nil, hG1.trans hg2⟩
    | true =>
      simp only [and_self, if_true] at ho
      go_upto_region 4 with (first | (refine wpList_load_at rfl (by kernel_rfl) (p := .pointer (some ⟨_, 0, none⟩)) rfl (by assumption) ?_) | (go_at_call 23; refine Calls.mono (hsp.out _) ?_; rintro e w2 ⟨rfl, hg2⟩))
      clear LR LF
      have hG2 := hG1.trans hg2
      have B2 := hg2.blk B1.out
      have F2 := hg2.blk F1.out
      have g0 := (blk_cell B2 0).trans (show _ = some (.int .i64 kind) from rfl)
      have hkb := fOk_in hfk.out
      have hwk : IntKind.u8.wrap kind = kind := by
        obtain ⟨kn, rfl⟩ : ∃ kn : Nat, kind = kn := ⟨kind.toNat, by omega⟩
        rw [wrap_u8]
        omega
      have hub : ((UInt8.ofNat kind.toNat).toNat : Int) = kind := by rw [UInt8.toNat_ofNat']; omega
      have hzB := hg2.size
      have hzb1 := blk_lt B2
      have hzb2 := blk_lt F2
      go_upto_region 5 with fail
      clear g0 hwk
      have hgw := (G.new w2 (.cells #[.int .u8 kind] 5)).alloc (.cells #[.slice (some ⟨w2.heap.size, 0, none⟩) 1 1, .bool false] 67)
      have hY1 := (G.new (w2.alloc (.cells #[.int .u8 kind] 5)) (.cells #[.slice (some ⟨w2.heap.size, 0, none⟩) 1 1, .bool false] 67)).blk (blk_new w2 #[.int .u8 kind] 5)
      have hY2 := blk_new' (w2.alloc (.cells #[.int .u8 kind] 5)) #[.slice (some ⟨w2.heap.size, 0, none⟩) 1 1, .bool false] 67 (w2.heap.size + 1) (by simp)
      generalize (w2.alloc (.cells #[.int .u8 kind] 5)).alloc (.cells #[.slice (some ⟨w2.heap.size, 0, none⟩) 1 1, .bool false] 67) = W3 at *
      have hG3 := hG2.trans hgw
      have B3 := hgw.blk B2
      have F3 := hgw.blk F2
      have hzG := hG2.size
      have hzR := blk_lt hY2
      generalize w2.heap.size = base at *
      have hw3 : WrS 67 (base + 1) base 1 (some [UInt8.ofNat kind.toNat]) W3 := ⟨_, [UInt8.ofNat kind.toNat], hY2, OwnL.made byteC_len [UInt8.ofNat kind.toNat] hY1 (by simp only [List.flatMap_cons, List.flatMap_nil, byteC, hub]; rfl) (Nat.le_refl _) (by simp), by simp, fun l' e => by cases e; rfl⟩
      have hh1 := hhead.out (base + 1) base 1 _ W3 hw3 (by omega) hG3 (by omega) (by omega)
      obtain ⟨s1, hs1⟩ : ∃ s1, headS ⟨kind, rn, dst, yes, ⟨a, b, c⟩, x1, x2, x3, nodes, key, ps.map PutM.p, z1, z2, z3, z4, sms.map SmM.sm⟩ ⟨f0, f1, f2, f3, f4, f5, f6, f7, f8⟩ (some [UInt8.ofNat kind.toNat]) = s1 := ⟨_, rfl⟩
      rw [hs1] at hh1 ho
      have hl1 := fun (w4 : World) (h1 : WrS 67 (base + 1) base 600001 s1 w4) (h2 : G w w4) => hlists.out (base + 1) base 600001 s1 w4 h1 (by omega) h2 (by omega) (by omega)
      rw [ho] at hl1
      replace hl1 := Lib.hid hl1
      replace hh1 := Lib.hid hh1
      clear hgw hw3 hY1 hY2 hs1 hub
      have LR := load_blk (P := Tryd.prog) (T := 37) B3 Tryd.underlying37 rfl (by kernel_rfl)
      have LF := load_blk (P := Tryd.prog) (T := 61) F3 Tryd.underlying61 rfl (by kernel_rfl)
      replace B2 := Lib.hid B2
      replace F2 := Lib.hid F2
      replace B3 := Lib.hid B3
      replace F3 := Lib.hid F3
      go_upto_region 6 with (first | (refine wpList_load_at rfl (by kernel_rfl) (p := .pointer (some ⟨_, 0, none⟩)) rfl (by assumption) ?_) | (go_at_call 24; refine Calls.mono hh1.out ?_; rintro e w4 ⟨rfl, hw4, hk4⟩))
      clear LR LF
      have hG4 := hk4.ge hG3 (by omega)
      have B4 := hk4.blk (by decide) (by omega) B3.out
      have F4 := hk4.blk (by decide) (by omega) F3.out
      have LR := load_blk (P := Tryd.prog) (T := 37) B4 Tryd.underlying37 rfl (by kernel_rfl)
      have LF := load_blk (P := Tryd.prog) (T := 61) F4 Tryd.underlying61 rfl (by kernel_rfl)
      replace B4 := Lib.hid B4
      replace F4 := Lib.hid F4
      have hl2 := Lib.hid (hl1.out w4 hw4 hG4)
      clear hw4
      go_upto_region 7 with (first | (refine wpList_load_at rfl (by kernel_rfl) (p := .pointer (some ⟨_, 0, none⟩)) rfl (by assumption) ?_) | (go_at_call 25; refine Calls.mono hl2.out ?_; rintro e w5 ⟨rfl, hw5, hk5⟩))
      clear LR LF
      have hG5 := (hk4.trans hk5).ge hG3 (by omega)
      have hc1 := hw5.c1
      cases o with
      | none =>
        simp only [Option.isNone_none] at hc1
        go_wp2_with fail
        go_ret2
        exact ⟨none, 0, rfl, OwnL.nil, hG5⟩
      | some l =>
        simp only [Option.isNone_some] at hc1
        obtain ⟨A8, c8, r1, r2, r3⟩ := hw5.row
        have hc0 := (blk_cell r1 0).trans (show _ = some (.slice A8 l.length c8) from rfl)
        clear hw5
        go_wp2_with fail
        go_ret2
        exact ⟨A8, c8, rfl, r2.mono (by omega), hG5⟩
end Go.Proofs.YthafeaclpcjjbaaDoor
/- rec.Name and penstockref10.RecName: a kind's name. No condition. -/
namespace Go.Proofs.YthafeaclpcjjbaaDoor
open Go.RowKit

def nmOf (k : Int) : ByteArray :=
  if k = 1 then ⟨#[108, 105, 102, 101]⟩ else if k = 2 then ⟨#[99, 101, 105, 108, 105, 110, 103]⟩ else if k = 3 then ⟨#[99, 111, 109, 109, 105, 116]⟩ else if k = 4 then ⟨#[112, 114, 101, 112, 97, 114, 101]⟩
  else if k = 5 then ⟨#[100, 101, 99, 105, 100, 101]⟩ else if k = 6 then ⟨#[111, 117, 116, 99, 111, 109, 101]⟩ else if k = 7 then ⟨#[102, 111, 114, 103, 101, 116]⟩ else if k = 8 then ⟨#[115, 112, 108, 105, 116]⟩
  else if k = 9 then ⟨#[102, 114, 101, 101, 122, 101]⟩ else if k = 10 then ⟨#[105, 110, 115, 116, 97, 108, 108]⟩ else if k = 11 then ⟨#[114, 101, 108, 101, 97, 115, 101]⟩ else ⟨#[]⟩
theorem nm_of {k : Int} (h : fOk k = false) : nmOf k = ⟨#[]⟩ := by
  have := fOk_no h
  unfold nmOf
  rw [if_neg (by omega), if_neg (by omega), if_neg (by omega), if_neg (by omega), if_neg (by omega), if_neg (by omega), if_neg (by omega), if_neg (by omega), if_neg (by omega), if_neg (by omega), if_neg (by omega)]
theorem nm_empty (k : Int) : (nmOf k).toList.isEmpty = !fOk k := by
  rw [empty_b]
  rcases kind_cases k with rfl | rfl | rfl | rfl | rfl | rfl | rfl | rfl | rfl | rfl | rfl | h
  case inr.inr.inr.inr.inr.inr.inr.inr.inr.inr.inr => rw [nm_of h, h]; rfl
  all_goals decide
theorem nm_eq {a : Int} (b : Int) (h : fOk a = true) : ((nmOf a).toList == (nmOf b).toList) = (a == b) := by
  rw [bytes_beq]
  have ha : ∀ b : Int, fOk b = false → decide (nmOf a = nmOf b) = (a == b) := fun b hb => by
    have h1 : ¬ a = b := by rintro rfl; rw [h] at hb; cases hb
    have h2 : ¬ nmOf a = nmOf b := fun e => by
      have h3 := nm_empty a
      have h4 := nm_empty b
      rw [e, h4, h, hb] at h3
      cases h3
    rw [decide_eq_false h2]
    exact (beq_eq_false_iff_ne.2 h1).symm
  rcases kind_cases b with rfl | rfl | rfl | rfl | rfl | rfl | rfl | rfl | rfl | rfl | rfl | hb
  case inr.inr.inr.inr.inr.inr.inr.inr.inr.inr.inr => exact ha b hb
  all_goals
    clear ha
    rcases kind_cases a with rfl | rfl | rfl | rfl | rfl | rfl | rfl | rfl | rfl | rfl | rfl | h'
    case inr.inr.inr.inr.inr.inr.inr.inr.inr.inr.inr => rw [h] at h'; cases h'
    all_goals decide
set_option maxRecDepth 100000 in
set_option maxHeartbeats 1000000 in
theorem recName_any (k : Int) (w : World) : Calls Tryd.prog 7 #[.int .i64 k] w fun e w' => e = .returned (.string (nmOf k)) ∧ G w w' := by
  rcases kind_cases k with rfl | rfl | rfl | rfl | rfl | rfl | rfl | rfl | rfl | rfl | rfl | hno
  case inr.inr.inr.inr.inr.inr.inr.inr.inr.inr.inr =>
    rw [nm_of hno]
    have h0 := fOk_no hno
    have t1 : (k == 1) = false := by rw [beq_eq_false_iff_ne]; omega
    have t2 : (k == 2) = false := by rw [beq_eq_false_iff_ne]; omega
    have t3 : (k == 3) = false := by rw [beq_eq_false_iff_ne]; omega
    have t4 : (k == 4) = false := by rw [beq_eq_false_iff_ne]; omega
    have t5 : (k == 5) = false := by rw [beq_eq_false_iff_ne]; omega
    have t6 : (k == 6) = false := by rw [beq_eq_false_iff_ne]; omega
    have t7 : (k == 7) = false := by rw [beq_eq_false_iff_ne]; omega
    have t8 : (k == 8) = false := by rw [beq_eq_false_iff_ne]; omega
    have t9 : (k == 9) = false := by rw [beq_eq_false_iff_ne]; omega
    have t10 : (k == 10) = false := by rw [beq_eq_false_iff_ne]; omega
    have t11 : (k == 11) = false := by rw [beq_eq_false_iff_ne]; omega
    clear h0 hno
    go_enter Tryd.func7, Tryd.ntmps7
    go_wp2_with fail
    go_ret
    exact ⟨rfl, G.refl _⟩
  all_goals
    go_enter Tryd.func7, Tryd.ntmps7
    go_wp2_with fail
    go_ret
    exact ⟨rfl, G.refl _⟩
set_option maxRecDepth 100000 in
set_option maxHeartbeats 1000000 in
theorem refRecName_any (k : Int) (w : World) (hk : -9223372036854775808 ≤ k ∧ k ≤ 9223372036854775807) : Calls Tryd.prog 15 #[.int .i64 k] w fun e w' => e = .returned (.string (nmOf k)) ∧ G w w' := by
  by_cases h0 : 0 ≤ k
  case neg =>
    have hno : fOk k = false := decide_eq_false (by omega)
    have t1 : decide (k < 0) = true := decide_eq_true (by omega)
    have t1' : k < 0 := by omega
    rw [nm_of hno]
    clear hno h0
    go_enter Tryd.func15, Tryd.ntmps15
    go_wp2_with fail
    go_ret
    exact ⟨rfl, G.new _ _⟩
  by_cases h1 : k < 12
  case neg =>
    have hno : fOk k = false := decide_eq_false (by omega)
    have t1 : decide (k < 0) = false := decide_eq_false (by omega)
    have t2 : decide (12 ≤ k) = true := decide_eq_true (by omega)
    have t2' : 12 ≤ k := by omega
    rw [nm_of hno]
    clear hno h1 h0
    go_enter Tryd.func15, Tryd.ntmps15
    go_wp2_with fail
    go_ret
    exact ⟨rfl, G.new _ _⟩
  have hc : k = 0 ∨ k = 1 ∨ k = 2 ∨ k = 3 ∨ k = 4 ∨ k = 5 ∨ k = 6 ∨ k = 7 ∨ k = 8 ∨ k = 9 ∨ k = 10 ∨ k = 11 := by omega
  clear h0 h1 hk
  rcases hc with rfl | rfl | rfl | rfl | rfl | rfl | rfl | rfl | rfl | rfl | rfl | rfl
  all_goals
    go_enter Tryd.func15, Tryd.ntmps15
    go_wp2_with fail
    go_ret
    exact ⟨rfl, G.new _ _⟩
end Go.Proofs.YthafeaclpcjjbaaDoor
/- rec.Check; penstocklaw12.awake answers true. Condition: the decoder's tables lie as the library lays them. -/
namespace Go.Proofs.YthafeaclpcjjbaaDoor
open Go.RowKit

set_option maxRecDepth 100000 in
set_option maxHeartbeats 1000000 in
theorem recCheck_any (r : RecM) (w : World) (hin : r.In w) (hok : r.Small) (hT : Tabs w) : Calls Tryd.prog 12 #[.agg r.cells] w fun e w' => e = .returned (.int .i64 (codeO 1 (encR r.p))) ∧ G w w' := by
  have henc := fun (w' : World) (hg : G w w') => recEnc_any r w' ⟨(hin.1.g (Nat.le_refl _) hg).more hg.size, PutsIn.more (hin.2.1.g (Nat.le_refl _) hg) hg.size, ⟨(hin.2.2.1.g (Nat.le_refl _) hg).more hg.size, fun s hs => SmIn.more ((hin.2.2.2 s hs).g (Nat.le_refl _) hg) hg.size⟩⟩ hok (hT.g hg)
  generalize encR r.p = o at *
  clear hin hok hT
  obtain ⟨kind, rn, dst, yes, ⟨a, b, c⟩, x1, x2, x3, An, cn, nodes, key, Ap, cp, ps, z1, z2, z3, z4, As, cs, sms⟩ := r
  unfold RecM.cells at henc ⊢
  dsimp only at henc ⊢
  replace henc := Lib.hid henc
  go_enter Tryd.func12, Tryd.ntmps12
  go_upto_region 1 with fail
  have hG0 := G.new w (.cells #[.int .i64 kind, .int .i64 rn, .int .i64 dst, .bool yes, .int .i64 a, .int .i64 b, .int .i64 c, .int .i64 x1, .int .i64 x2, .int .i64 x3, .slice An nodes.length cn, .string key, .slice Ap ps.length cp, .int .i64 z1, .int .i64 z2, .int .i64 z3, .int .i64 z4, .slice As sms.length cs] 37)
  have LR := load_blk (P := Tryd.prog) (T := 37) (blk_new w #[.int .i64 kind, .int .i64 rn, .int .i64 dst, .bool yes, .int .i64 a, .int .i64 b, .int .i64 c, .int .i64 x1, .int .i64 x2, .int .i64 x3, .slice An nodes.length cn, .string key, .slice Ap ps.length cp, .int .i64 z1, .int .i64 z2, .int .i64 z3, .int .i64 z4, .slice As sms.length cs] 37) Tryd.underlying37 rfl (by kernel_rfl)
  generalize w.alloc (.cells #[.int .i64 kind, .int .i64 rn, .int .i64 dst, .bool yes, .int .i64 a, .int .i64 b, .int .i64 c, .int .i64 x1, .int .i64 x2, .int .i64 x3, .slice An nodes.length cn, .string key, .slice Ap ps.length cp, .int .i64 z1, .int .i64 z2, .int .i64 z3, .int .i64 z4, .slice As sms.length cs] 37) = W0 at *
  have hc := henc.out W0 hG0
  replace hc := Lib.hid hc
  go_wp2_with (first | (refine wpList_load_at rfl (by kernel_rfl) (p := .pointer (some ⟨_, 0, none⟩)) rfl (by assumption) ?_) | (go_at_call 10; refine Calls.mono hc.out ?_; rintro e w2 ⟨A2, c2, rfl, _, hg2⟩))
  go_ret
  exact ⟨rfl, hG0.trans hg2⟩
set_option maxRecDepth 100000 in
set_option maxHeartbeats 1000000 in
theorem awake12_any (w : World) (hT : Tabs w) : Calls Tryd.prog 8 #[] w fun e w' => e = .returned (.bool true) ∧ G w w' := by
  have hen := recEnc_any ⟨1, 1, 0, false, ⟨0, 0, 0⟩, 0, 0, 0, none, 0, [], ⟨#[]⟩, none, 0, [], 0, 0, 0, 0, none, 0, []⟩ w ⟨Sl.nil, ⟨Sl.nil, fun p h => by cases h⟩, ⟨Sl.nil, fun s h => by cases h⟩⟩
    ⟨by unfold Int64; decide, by unfold Int64; decide, by unfold Int64; decide, by unfold Int64; decide, by unfold Int64; decide, by unfold Int64; decide, by unfold Int64; decide, by unfold Int64; decide, by unfold Int64; decide, by unfold Int64; decide, (fun x h => by cases h), by simp, by decide, ⟨by simp, fun p h => by cases h⟩, by decide, by simp, fun s h => by cases h⟩ hT
  rw [show encR (RecM.p ⟨1, 1, 0, false, ⟨0, 0, 0⟩, 0, 0, 0, none, 0, [], ⟨#[]⟩, none, 0, [], 0, 0, 0, 0, none, 0, []⟩) = some [1, 1] from by decide] at hen
  unfold RecM.cells at hen
  dsimp only [List.length_nil] at hen
  have hnm := fun w' => recName_any 9 w'
  rw [show nmOf 9 = ⟨#[102, 114, 101, 101, 122, 101]⟩ from rfl] at hnm
  replace hnm := Lib.hid hnm
  replace hen := Lib.hid hen
  go_enter Tryd.func8, Tryd.ntmps8
  go_wp2_with (first
    | (go_at_call 10; refine Calls.mono hen.out ?_; rintro e w2 ⟨A2, c2, rfl, hown2, hg2⟩; have hsl := OwnL.self byteC_len hown2; obtain ⟨bb, o, rfl, hb, e0⟩ := hsl.byte (k := 0) (x := 1) rfl; obtain ⟨_, _, ee, hb2, e1⟩ := hsl.byte (k := 1) (x := 1) rfl; cases ee; have e0' : w2.cell? ⟨bb, o, none⟩ = some (.int .u8 1) := e0; have e1' : w2.cell? ⟨bb, o + 1, none⟩ = some (.int .u8 1) := e1; clear hown2 hsl e0 e1)
    | (go_at_call 7; refine Calls.mono (hnm.out _) ?_; rintro e w3 ⟨rfl, hg3⟩))
  go_ret
  exact ⟨ret_bool (by rfl), hg2.trans hg3⟩
end Go.Proofs.YthafeaclpcjjbaaDoor
/- penstockalike.Round: what it answers. Condition: the second number is above 0. -/
namespace Go.Proofs.YthafeaclpcjjbaaDoor
open Go.RowKit

set_option maxHeartbeats 400000 in
theorem round_any (k n : Int) (w : World) (hn : 1 ≤ n) (hn2 : n ≤ 9223372036854775807) (_hk : -9223372036854775808 ≤ k) (_hk2 : k ≤ 9223372036854775807) :
    Calls Tryd.prog 16 #[.int .i64 k, .int .i64 n] w fun e w' => e = .returned (.int .i64 (k % n)) ∧ w = w' := by
  have h1 := Int.tmod_lt_of_pos k (show 0 < n by omega)
  have h2 : -n < k.tmod n := by
    have := Int.lt_tmod_of_pos k (show 0 < n by omega)
    omega
  have h3 : k % n = if k.tmod n < 0 then k.tmod n + n else k.tmod n := by
    rw [Int.tmod_eq_emod]
    have h4 := Int.emod_nonneg k (show n ≠ 0 by omega)
    have h5 := Int.emod_lt_of_pos k (show 0 < n by omega)
    split <;> (try split) <;> omega
  replace h3 := Lib.hid h3
  generalize hm : k.tmod n = m at *
  go_enter Tryd.func16, Tryd.ntmps16
  go_wp2
  all_goals (go_ret; exact ⟨ret_int (by rw [h3.out]; split <;> omega), rfl⟩)
end Go.Proofs.YthafeaclpcjjbaaDoor
/- penstocklaw12.RecFields, of a kind of K: the walk. Condition: the decoder's tables lie as the library lays them. -/
namespace Go.Proofs.YthafeaclpcjjbaaDoor
open Go.RowKit

set_option maxRecDepth 100000 in
set_option maxHeartbeats 4000000 in
theorem recFieldsK_any (K : Int) (hK1 : 1 ≤ K) (hK2 : K ≤ 11) (h3 : K ≠ 3) (h4 : K ≠ 4) (what : Int) (w : World) (hwh : -9223372036854775808 ≤ what ∧ what ≤ 9223372036854775807) (hT : Tabs w) : Calls Tryd.prog 5 #[.int .i64 K, .int .i64 what] w fun e w' => e = .returned (.bool true) ∧ G w w' := by
  have hK64 : Int64 K := by unfold Int64; omega
  have hKc : K = 1 ∨ K = 2 ∨ K = 5 ∨ K = 6 ∨ K = 7 ∨ K = 8 ∨ K = 9 ∨ K = 10 ∨ K = 11 := by omega
  have u1 : decide (K < 1) = false := decide_eq_false (by omega)
  have u2 : decide (11 < K) = false := decide_eq_false (by omega)
  have t3 : (K == 3) = false := beq_eq_false_iff_ne.2 h3
  have t4 : (K == 4) = false := beq_eq_false_iff_ne.2 h4
  have hb0 : codeO 1 (encR ⟨K, 0, 0, false, ⟨0, 0, 0⟩, 0, 0, 0, [], ⟨#[]⟩, [], 0, 0, 0, 0, []⟩) = 0 := by rcases hKc with e | e | e | e | e | e | e | e | e <;> rw [e] <;> decide +kernel
  replace hKc := Lib.hid hKc
  replace hb0 := Lib.hid hb0
  clear h3 h4
  have hrd := fun w' => round_any what 7 w' (by omega) (by omega) hwh.1 hwh.2
  have h70 := Int.emod_nonneg what (show (7 : Int) ≠ 0 by omega)
  have h77 := Int.emod_lt_of_pos what (show (0 : Int) < 7 by omega)
  generalize what % 7 = r at *
  have hr : r = 0 ∨ r = 1 ∨ r = 2 ∨ r = 3 ∨ r = 4 ∨ r = 5 ∨ r = 6 := by omega
  replace hrd := Lib.hid hrd
  clear h70 h77 hwh
  go_enter Tryd.func5, Tryd.ntmps5
  go_upto_region 6 with fail
  have hG0 := G.new w (.cells #[.int .i64 K, .int .i64 0, .int .i64 0, .bool false, .int .i64 0, .int .i64 0, .int .i64 0, .int .i64 0, .int .i64 0, .int .i64 0, .slice none 0 0, .string ⟨#[]⟩, .slice none 0 0, .int .i64 0, .int .i64 0, .int .i64 0, .int .i64 0, .slice none 0 0] 37)
  have B0 := blk_new w #[.int .i64 K, .int .i64 0, .int .i64 0, .bool false, .int .i64 0, .int .i64 0, .int .i64 0, .int .i64 0, .int .i64 0, .int .i64 0, .slice none 0 0, .string ⟨#[]⟩, .slice none 0 0, .int .i64 0, .int .i64 0, .int .i64 0, .int .i64 0, .slice none 0 0] 37
  generalize w.alloc (.cells #[.int .i64 K, .int .i64 0, .int .i64 0, .bool false, .int .i64 0, .int .i64 0, .int .i64 0, .int .i64 0, .int .i64 0, .int .i64 0, .slice none 0 0, .string ⟨#[]⟩, .slice none 0 0, .int .i64 0, .int .i64 0, .int .i64 0, .int .i64 0, .slice none 0 0] 37) = W0 at *
  have hbz := blk_lt B0
  have LR := load_blk (P := Tryd.prog) (T := 37) B0 Tryd.underlying37 rfl (by kernel_rfl)
  have hc0 := recCheck_any ⟨K, 0, 0, false, ⟨0, 0, 0⟩, 0, 0, 0, none, 0, [], ⟨#[]⟩, none, 0, [], 0, 0, 0, 0, none, 0, []⟩ W0 ⟨Sl.nil, ⟨Sl.nil, fun p h => by cases h⟩, ⟨Sl.nil, fun s h => by cases h⟩⟩ ⟨hK64, (show Int64 (0) from by unfold Int64; decide), (show Int64 (0) from by unfold Int64; decide), (show Int64 (0) from by unfold Int64; decide), (show Int64 (0) from by unfold Int64; decide), (show Int64 (0) from by unfold Int64; decide), (show Int64 (0) from by unfold Int64; decide), (show Int64 (0) from by unfold Int64; decide), (show Int64 (0) from by unfold Int64; decide), (show Int64 (0) from by unfold Int64; decide), (fun x h => by cases h), by simp, (show (⟨#[]⟩ : ByteArray).size ≤ 1073741824 from by decide), ⟨by simp, fun p h => by cases h⟩, (show (batL ⟨#[]⟩ []).length ≤ 500000 from by decide +kernel), by simp, fun s h => by cases h⟩ (hT.g hG0)
  rw [show codeO 1 (encR (RecM.p ⟨K, 0, 0, false, ⟨0, 0, 0⟩, 0, 0, 0, none, 0, [], ⟨#[]⟩, none, 0, [], 0, 0, 0, 0, none, 0, []⟩)) = 0 from (show codeO 1 (encR ⟨K, 0, 0, false, ⟨0, 0, 0⟩, 0, 0, 0, [], ⟨#[]⟩, [], 0, 0, 0, 0, []⟩) = 0 from hb0.out)] at hc0
  unfold RecM.cells at hc0
  dsimp only [List.length_nil, List.length_cons, Nat.zero_add] at hc0
  replace hc0 := Lib.hid hc0
  go_upto_region 9 with (first | (refine wpList_load_at rfl (by kernel_rfl) (p := .pointer (some ⟨_, 0, none⟩)) rfl (by assumption) ?_) | (go_at_call 12; with_reducible refine Calls.mono hc0.out ?_; rintro e w1 ⟨rfl, hg1⟩))
  clear LR hc0
  have B1 := hg1.blk B0
  have hG1 := hG0.trans hg1
  have hT1 := hT.g hG1
  have hbz1 := blk_lt B1
  replace B0 := Lib.hid B0
  go_upto_region 10 with (go_at_call 16; refine Calls.mono (hrd.out _) ?_; rintro e w3 ⟨rfl, rfl⟩)
  rcases hr with rfl | rfl | rfl | rfl | rfl | rfl | rfl
  · have hgn := G.refl w1
    have B1' := hgn.blk B1
    have c0 := (blk_cell B1' 1).trans (show _ = some (.int .i64 0) from rfl)
    have c1 : w1.frozen? ⟨w.heap.size, 1, none⟩ = false := by simp only [World.frozen?, B1']; rfl
    have B2s : (w1.setCell ⟨w.heap.size, 1, none⟩ (.int .i64 1)).heap[w.heap.size]? = some (.cells #[.int .i64 K, .int .i64 1, .int .i64 0, .bool false, .int .i64 0, .int .i64 0, .int .i64 0, .int .i64 0, .int .i64 0, .int .i64 0, .slice none 0 0, .string ⟨#[]⟩, .slice none 0 0, .int .i64 0, .int .i64 0, .int .i64 0, .int .i64 0, .slice none 0 0] 37 (0, 0)) := by rw [blk_put B1]; rfl
    have hbt := but_set w1 w.heap.size 1 (.int .i64 1)
    have hGs : G w (w1.setCell ⟨w.heap.size, 1, none⟩ (.int .i64 1)) := hG1.set (Nat.le_refl _) _
    have hgx := G.refl (w1.setCell ⟨w.heap.size, 1, none⟩ (.int .i64 1))
    have B2 := hgx.blk B2s
    have hG2 := hGs.trans hgx
    have LR := load_blk (P := Tryd.prog) (T := 37) B2 Tryd.underlying37 rfl (by kernel_rfl)
    by_cases e1 : K = 1
    case pos =>
      have t1 : (K == 1) = true := beq_iff_eq.2 e1
      have hc2 := recCheck_any ⟨K, 1, 0, false, ⟨0, 0, 0⟩, 0, 0, 0, none, 0, [], ⟨#[]⟩, none, 0, [], 0, 0, 0, 0, none, 0, []⟩ (w1.setCell ⟨w.heap.size, 1, none⟩ (.int .i64 1)) ⟨Sl.nil, ⟨Sl.nil, fun p h => by cases h⟩, ⟨Sl.nil, fun s h => by cases h⟩⟩ ⟨hK64, (show Int64 (1) from by unfold Int64; decide), (show Int64 (0) from by unfold Int64; decide), (show Int64 (0) from by unfold Int64; decide), (show Int64 (0) from by unfold Int64; decide), (show Int64 (0) from by unfold Int64; decide), (show Int64 (0) from by unfold Int64; decide), (show Int64 (0) from by unfold Int64; decide), (show Int64 (0) from by unfold Int64; decide), (show Int64 (0) from by unfold Int64; decide), (fun x h => by cases h), by simp, (show (⟨#[]⟩ : ByteArray).size ≤ 1073741824 from by decide), ⟨by simp, fun p h => by cases h⟩, (show (batL ⟨#[]⟩ []).length ≤ 500000 from by decide +kernel), by simp, fun s h => by cases h⟩ (hT.g hG2)
      rw [show codeO 1 (encR (RecM.p ⟨K, 1, 0, false, ⟨0, 0, 0⟩, 0, 0, 0, none, 0, [], ⟨#[]⟩, none, 0, [], 0, 0, 0, 0, none, 0, []⟩)) = 0 from (show codeO 1 (encR ⟨K, 1, 0, false, ⟨0, 0, 0⟩, 0, 0, 0, [], ⟨#[]⟩, [], 0, 0, 0, 0, []⟩) = 0 from by rw [e1]; decide +kernel)] at hc2
      unfold RecM.cells at hc2
      dsimp only [List.length_nil, List.length_cons, Nat.zero_add] at hc2
      replace hc2 := Lib.hid hc2
      clear hbt B2 B2s hGs hgx B1' hgn
      replace e1 := Lib.hid e1
      go_wp2_with (first | (refine wpList_load_at rfl (by kernel_rfl) (p := .pointer (some ⟨_, 0, none⟩)) rfl (by assumption) ?_) | (go_at_call 12; with_reducible refine Calls.mono hc2.out ?_; rintro e w4 ⟨rfl, hg4⟩) | (go_at_call 8; refine Calls.mono (awake12_any _ (hT.g (hG2.trans hg4))) ?_; rintro e w5 ⟨rfl, hg5⟩))
      go_ret
      exact ⟨ret_bool (by rfl), (hG2.trans hg4).trans hg5⟩
    have t1 : (K == 1) = false := beq_eq_false_iff_ne.2 e1
    by_cases e2 : K = 2
    case pos =>
      have t2 : (K == 2) = true := beq_iff_eq.2 e2
      have hc2 := recCheck_any ⟨K, 1, 0, false, ⟨0, 0, 0⟩, 0, 0, 0, none, 0, [], ⟨#[]⟩, none, 0, [], 0, 0, 0, 0, none, 0, []⟩ (w1.setCell ⟨w.heap.size, 1, none⟩ (.int .i64 1)) ⟨Sl.nil, ⟨Sl.nil, fun p h => by cases h⟩, ⟨Sl.nil, fun s h => by cases h⟩⟩ ⟨hK64, (show Int64 (1) from by unfold Int64; decide), (show Int64 (0) from by unfold Int64; decide), (show Int64 (0) from by unfold Int64; decide), (show Int64 (0) from by unfold Int64; decide), (show Int64 (0) from by unfold Int64; decide), (show Int64 (0) from by unfold Int64; decide), (show Int64 (0) from by unfold Int64; decide), (show Int64 (0) from by unfold Int64; decide), (show Int64 (0) from by unfold Int64; decide), (fun x h => by cases h), by simp, (show (⟨#[]⟩ : ByteArray).size ≤ 1073741824 from by decide), ⟨by simp, fun p h => by cases h⟩, (show (batL ⟨#[]⟩ []).length ≤ 500000 from by decide +kernel), by simp, fun s h => by cases h⟩ (hT.g hG2)
      rw [show codeO 1 (encR (RecM.p ⟨K, 1, 0, false, ⟨0, 0, 0⟩, 0, 0, 0, none, 0, [], ⟨#[]⟩, none, 0, [], 0, 0, 0, 0, none, 0, []⟩)) = 0 from (show codeO 1 (encR ⟨K, 1, 0, false, ⟨0, 0, 0⟩, 0, 0, 0, [], ⟨#[]⟩, [], 0, 0, 0, 0, []⟩) = 0 from by rw [e2]; decide +kernel)] at hc2
      unfold RecM.cells at hc2
      dsimp only [List.length_nil, List.length_cons, Nat.zero_add] at hc2
      replace hc2 := Lib.hid hc2
      clear hbt B2 B2s hGs hgx B1' hgn
      replace e2 := Lib.hid e2
      go_wp2_with (first | (refine wpList_load_at rfl (by kernel_rfl) (p := .pointer (some ⟨_, 0, none⟩)) rfl (by assumption) ?_) | (go_at_call 12; with_reducible refine Calls.mono hc2.out ?_; rintro e w4 ⟨rfl, hg4⟩) | (go_at_call 8; refine Calls.mono (awake12_any _ (hT.g (hG2.trans hg4))) ?_; rintro e w5 ⟨rfl, hg5⟩))
      go_ret
      exact ⟨ret_bool (by rfl), (hG2.trans hg4).trans hg5⟩
    have t2 : (K == 2) = false := beq_eq_false_iff_ne.2 e2
    by_cases e8 : K = 8
    case pos =>
      have t8 : (K == 8) = true := beq_iff_eq.2 e8
      have hc2 := recCheck_any ⟨K, 1, 0, false, ⟨0, 0, 0⟩, 0, 0, 0, none, 0, [], ⟨#[]⟩, none, 0, [], 0, 0, 0, 0, none, 0, []⟩ (w1.setCell ⟨w.heap.size, 1, none⟩ (.int .i64 1)) ⟨Sl.nil, ⟨Sl.nil, fun p h => by cases h⟩, ⟨Sl.nil, fun s h => by cases h⟩⟩ ⟨hK64, (show Int64 (1) from by unfold Int64; decide), (show Int64 (0) from by unfold Int64; decide), (show Int64 (0) from by unfold Int64; decide), (show Int64 (0) from by unfold Int64; decide), (show Int64 (0) from by unfold Int64; decide), (show Int64 (0) from by unfold Int64; decide), (show Int64 (0) from by unfold Int64; decide), (show Int64 (0) from by unfold Int64; decide), (show Int64 (0) from by unfold Int64; decide), (fun x h => by cases h), by simp, (show (⟨#[]⟩ : ByteArray).size ≤ 1073741824 from by decide), ⟨by simp, fun p h => by cases h⟩, (show (batL ⟨#[]⟩ []).length ≤ 500000 from by decide +kernel), by simp, fun s h => by cases h⟩ (hT.g hG2)
      rw [show codeO 1 (encR (RecM.p ⟨K, 1, 0, false, ⟨0, 0, 0⟩, 0, 0, 0, none, 0, [], ⟨#[]⟩, none, 0, [], 0, 0, 0, 0, none, 0, []⟩)) = 0 from (show codeO 1 (encR ⟨K, 1, 0, false, ⟨0, 0, 0⟩, 0, 0, 0, [], ⟨#[]⟩, [], 0, 0, 0, 0, []⟩) = 0 from by rw [e8]; decide +kernel)] at hc2
      unfold RecM.cells at hc2
      dsimp only [List.length_nil, List.length_cons, Nat.zero_add] at hc2
      replace hc2 := Lib.hid hc2
      clear hbt B2 B2s hGs hgx B1' hgn
      replace e8 := Lib.hid e8
      go_wp2_with (first | (refine wpList_load_at rfl (by kernel_rfl) (p := .pointer (some ⟨_, 0, none⟩)) rfl (by assumption) ?_) | (go_at_call 12; with_reducible refine Calls.mono hc2.out ?_; rintro e w4 ⟨rfl, hg4⟩) | (go_at_call 8; refine Calls.mono (awake12_any _ (hT.g (hG2.trans hg4))) ?_; rintro e w5 ⟨rfl, hg5⟩))
      go_ret
      exact ⟨ret_bool (by rfl), (hG2.trans hg4).trans hg5⟩
    have t8 : (K == 8) = false := beq_eq_false_iff_ne.2 e8
    have hc2 := recCheck_any ⟨K, 1, 0, false, ⟨0, 0, 0⟩, 0, 0, 0, none, 0, [], ⟨#[]⟩, none, 0, [], 0, 0, 0, 0, none, 0, []⟩ (w1.setCell ⟨w.heap.size, 1, none⟩ (.int .i64 1)) ⟨Sl.nil, ⟨Sl.nil, fun p h => by cases h⟩, ⟨Sl.nil, fun s h => by cases h⟩⟩ ⟨hK64, (show Int64 (1) from by unfold Int64; decide), (show Int64 (0) from by unfold Int64; decide), (show Int64 (0) from by unfold Int64; decide), (show Int64 (0) from by unfold Int64; decide), (show Int64 (0) from by unfold Int64; decide), (show Int64 (0) from by unfold Int64; decide), (show Int64 (0) from by unfold Int64; decide), (show Int64 (0) from by unfold Int64; decide), (show Int64 (0) from by unfold Int64; decide), (fun x h => by cases h), by simp, (show (⟨#[]⟩ : ByteArray).size ≤ 1073741824 from by decide), ⟨by simp, fun p h => by cases h⟩, (show (batL ⟨#[]⟩ []).length ≤ 500000 from by decide +kernel), by simp, fun s h => by cases h⟩ (hT.g hG2)
    rw [show codeO 1 (encR (RecM.p ⟨K, 1, 0, false, ⟨0, 0, 0⟩, 0, 0, 0, none, 0, [], ⟨#[]⟩, none, 0, [], 0, 0, 0, 0, none, 0, []⟩)) = 1 from (show codeO 1 (encR ⟨K, 1, 0, false, ⟨0, 0, 0⟩, 0, 0, 0, [], ⟨#[]⟩, [], 0, 0, 0, 0, []⟩) = 1 from by rcases hKc.out with e | e | e | e | e | e | e | e | e <;> first | (exact absurd e (by assumption)) | (rw [e]; decide +kernel))] at hc2
    unfold RecM.cells at hc2
    dsimp only [List.length_nil, List.length_cons, Nat.zero_add] at hc2
    replace hc2 := Lib.hid hc2
    clear hbt B2 B2s hGs hgx B1' hgn
    go_wp2_with (first | (refine wpList_load_at rfl (by kernel_rfl) (p := .pointer (some ⟨_, 0, none⟩)) rfl (by assumption) ?_) | (go_at_call 12; with_reducible refine Calls.mono hc2.out ?_; rintro e w4 ⟨rfl, hg4⟩) | (go_at_call 8; refine Calls.mono (awake12_any _ (hT.g (hG2.trans hg4))) ?_; rintro e w5 ⟨rfl, hg5⟩))
    go_ret
    exact ⟨ret_bool (by rfl), (hG2.trans hg4).trans hg5⟩
  · have hgn := G.refl w1
    have B1' := hgn.blk B1
    have c0 := (blk_cell B1' 2).trans (show _ = some (.int .i64 0) from rfl)
    have c1 : w1.frozen? ⟨w.heap.size, 2, none⟩ = false := by simp only [World.frozen?, B1']; rfl
    have B2s : (w1.setCell ⟨w.heap.size, 2, none⟩ (.int .i64 1)).heap[w.heap.size]? = some (.cells #[.int .i64 K, .int .i64 0, .int .i64 1, .bool false, .int .i64 0, .int .i64 0, .int .i64 0, .int .i64 0, .int .i64 0, .int .i64 0, .slice none 0 0, .string ⟨#[]⟩, .slice none 0 0, .int .i64 0, .int .i64 0, .int .i64 0, .int .i64 0, .slice none 0 0] 37 (0, 0)) := by rw [blk_put B1]; rfl
    have hbt := but_set w1 w.heap.size 2 (.int .i64 1)
    have hGs : G w (w1.setCell ⟨w.heap.size, 2, none⟩ (.int .i64 1)) := hG1.set (Nat.le_refl _) _
    have hgx := G.refl (w1.setCell ⟨w.heap.size, 2, none⟩ (.int .i64 1))
    have B2 := hgx.blk B2s
    have hG2 := hGs.trans hgx
    have LR := load_blk (P := Tryd.prog) (T := 37) B2 Tryd.underlying37 rfl (by kernel_rfl)
    by_cases e9 : K = 9
    case pos =>
      have t9 : (K == 9) = true := beq_iff_eq.2 e9
      have hc2 := recCheck_any ⟨K, 0, 1, false, ⟨0, 0, 0⟩, 0, 0, 0, none, 0, [], ⟨#[]⟩, none, 0, [], 0, 0, 0, 0, none, 0, []⟩ (w1.setCell ⟨w.heap.size, 2, none⟩ (.int .i64 1)) ⟨Sl.nil, ⟨Sl.nil, fun p h => by cases h⟩, ⟨Sl.nil, fun s h => by cases h⟩⟩ ⟨hK64, (show Int64 (0) from by unfold Int64; decide), (show Int64 (1) from by unfold Int64; decide), (show Int64 (0) from by unfold Int64; decide), (show Int64 (0) from by unfold Int64; decide), (show Int64 (0) from by unfold Int64; decide), (show Int64 (0) from by unfold Int64; decide), (show Int64 (0) from by unfold Int64; decide), (show Int64 (0) from by unfold Int64; decide), (show Int64 (0) from by unfold Int64; decide), (fun x h => by cases h), by simp, (show (⟨#[]⟩ : ByteArray).size ≤ 1073741824 from by decide), ⟨by simp, fun p h => by cases h⟩, (show (batL ⟨#[]⟩ []).length ≤ 500000 from by decide +kernel), by simp, fun s h => by cases h⟩ (hT.g hG2)
      rw [show codeO 1 (encR (RecM.p ⟨K, 0, 1, false, ⟨0, 0, 0⟩, 0, 0, 0, none, 0, [], ⟨#[]⟩, none, 0, [], 0, 0, 0, 0, none, 0, []⟩)) = 0 from (show codeO 1 (encR ⟨K, 0, 1, false, ⟨0, 0, 0⟩, 0, 0, 0, [], ⟨#[]⟩, [], 0, 0, 0, 0, []⟩) = 0 from by rw [e9]; decide +kernel)] at hc2
      unfold RecM.cells at hc2
      dsimp only [List.length_nil, List.length_cons, Nat.zero_add] at hc2
      replace hc2 := Lib.hid hc2
      clear hbt B2 B2s hGs hgx B1' hgn
      replace e9 := Lib.hid e9
      go_wp2_with (first | (refine wpList_load_at rfl (by kernel_rfl) (p := .pointer (some ⟨_, 0, none⟩)) rfl (by assumption) ?_) | (go_at_call 12; with_reducible refine Calls.mono hc2.out ?_; rintro e w4 ⟨rfl, hg4⟩) | (go_at_call 8; refine Calls.mono (awake12_any _ (hT.g (hG2.trans hg4))) ?_; rintro e w5 ⟨rfl, hg5⟩))
      go_ret
      exact ⟨ret_bool (by rfl), (hG2.trans hg4).trans hg5⟩
    have t9 : (K == 9) = false := beq_eq_false_iff_ne.2 e9
    have hc2 := recCheck_any ⟨K, 0, 1, false, ⟨0, 0, 0⟩, 0, 0, 0, none, 0, [], ⟨#[]⟩, none, 0, [], 0, 0, 0, 0, none, 0, []⟩ (w1.setCell ⟨w.heap.size, 2, none⟩ (.int .i64 1)) ⟨Sl.nil, ⟨Sl.nil, fun p h => by cases h⟩, ⟨Sl.nil, fun s h => by cases h⟩⟩ ⟨hK64, (show Int64 (0) from by unfold Int64; decide), (show Int64 (1) from by unfold Int64; decide), (show Int64 (0) from by unfold Int64; decide), (show Int64 (0) from by unfold Int64; decide), (show Int64 (0) from by unfold Int64; decide), (show Int64 (0) from by unfold Int64; decide), (show Int64 (0) from by unfold Int64; decide), (show Int64 (0) from by unfold Int64; decide), (show Int64 (0) from by unfold Int64; decide), (fun x h => by cases h), by simp, (show (⟨#[]⟩ : ByteArray).size ≤ 1073741824 from by decide), ⟨by simp, fun p h => by cases h⟩, (show (batL ⟨#[]⟩ []).length ≤ 500000 from by decide +kernel), by simp, fun s h => by cases h⟩ (hT.g hG2)
    rw [show codeO 1 (encR (RecM.p ⟨K, 0, 1, false, ⟨0, 0, 0⟩, 0, 0, 0, none, 0, [], ⟨#[]⟩, none, 0, [], 0, 0, 0, 0, none, 0, []⟩)) = 1 from (show codeO 1 (encR ⟨K, 0, 1, false, ⟨0, 0, 0⟩, 0, 0, 0, [], ⟨#[]⟩, [], 0, 0, 0, 0, []⟩) = 1 from by rcases hKc.out with e | e | e | e | e | e | e | e | e <;> first | (exact absurd e (by assumption)) | (rw [e]; decide +kernel))] at hc2
    unfold RecM.cells at hc2
    dsimp only [List.length_nil, List.length_cons, Nat.zero_add] at hc2
    replace hc2 := Lib.hid hc2
    clear hbt B2 B2s hGs hgx B1' hgn
    go_wp2_with (first | (refine wpList_load_at rfl (by kernel_rfl) (p := .pointer (some ⟨_, 0, none⟩)) rfl (by assumption) ?_) | (go_at_call 12; with_reducible refine Calls.mono hc2.out ?_; rintro e w4 ⟨rfl, hg4⟩) | (go_at_call 8; refine Calls.mono (awake12_any _ (hT.g (hG2.trans hg4))) ?_; rintro e w5 ⟨rfl, hg5⟩))
    go_ret
    exact ⟨ret_bool (by rfl), (hG2.trans hg4).trans hg5⟩
  · have hgn := G.refl w1
    have B1' := hgn.blk B1
    have c0 := (blk_cell B1' 3).trans (show _ = some (.bool false) from rfl)
    have c1 : w1.frozen? ⟨w.heap.size, 3, none⟩ = false := by simp only [World.frozen?, B1']; rfl
    have B2s : (w1.setCell ⟨w.heap.size, 3, none⟩ (.bool true)).heap[w.heap.size]? = some (.cells #[.int .i64 K, .int .i64 0, .int .i64 0, .bool true, .int .i64 0, .int .i64 0, .int .i64 0, .int .i64 0, .int .i64 0, .int .i64 0, .slice none 0 0, .string ⟨#[]⟩, .slice none 0 0, .int .i64 0, .int .i64 0, .int .i64 0, .int .i64 0, .slice none 0 0] 37 (0, 0)) := by rw [blk_put B1]; rfl
    have hbt := but_set w1 w.heap.size 3 (.bool true)
    have hGs : G w (w1.setCell ⟨w.heap.size, 3, none⟩ (.bool true)) := hG1.set (Nat.le_refl _) _
    have hgx := G.refl (w1.setCell ⟨w.heap.size, 3, none⟩ (.bool true))
    have B2 := hgx.blk B2s
    have hG2 := hGs.trans hgx
    have LR := load_blk (P := Tryd.prog) (T := 37) B2 Tryd.underlying37 rfl (by kernel_rfl)
    by_cases e5 : K = 5
    case pos =>
      have t5 : (K == 5) = true := beq_iff_eq.2 e5
      have hc2 := recCheck_any ⟨K, 0, 0, true, ⟨0, 0, 0⟩, 0, 0, 0, none, 0, [], ⟨#[]⟩, none, 0, [], 0, 0, 0, 0, none, 0, []⟩ (w1.setCell ⟨w.heap.size, 3, none⟩ (.bool true)) ⟨Sl.nil, ⟨Sl.nil, fun p h => by cases h⟩, ⟨Sl.nil, fun s h => by cases h⟩⟩ ⟨hK64, (show Int64 (0) from by unfold Int64; decide), (show Int64 (0) from by unfold Int64; decide), (show Int64 (0) from by unfold Int64; decide), (show Int64 (0) from by unfold Int64; decide), (show Int64 (0) from by unfold Int64; decide), (show Int64 (0) from by unfold Int64; decide), (show Int64 (0) from by unfold Int64; decide), (show Int64 (0) from by unfold Int64; decide), (show Int64 (0) from by unfold Int64; decide), (fun x h => by cases h), by simp, (show (⟨#[]⟩ : ByteArray).size ≤ 1073741824 from by decide), ⟨by simp, fun p h => by cases h⟩, (show (batL ⟨#[]⟩ []).length ≤ 500000 from by decide +kernel), by simp, fun s h => by cases h⟩ (hT.g hG2)
      rw [show codeO 1 (encR (RecM.p ⟨K, 0, 0, true, ⟨0, 0, 0⟩, 0, 0, 0, none, 0, [], ⟨#[]⟩, none, 0, [], 0, 0, 0, 0, none, 0, []⟩)) = 0 from (show codeO 1 (encR ⟨K, 0, 0, true, ⟨0, 0, 0⟩, 0, 0, 0, [], ⟨#[]⟩, [], 0, 0, 0, 0, []⟩) = 0 from by rw [e5]; decide +kernel)] at hc2
      unfold RecM.cells at hc2
      dsimp only [List.length_nil, List.length_cons, Nat.zero_add] at hc2
      replace hc2 := Lib.hid hc2
      clear hbt B2 B2s hGs hgx B1' hgn
      replace e5 := Lib.hid e5
      go_wp2_with (first | (refine wpList_load_at rfl (by kernel_rfl) (p := .pointer (some ⟨_, 0, none⟩)) rfl (by assumption) ?_) | (go_at_call 12; with_reducible refine Calls.mono hc2.out ?_; rintro e w4 ⟨rfl, hg4⟩) | (go_at_call 8; refine Calls.mono (awake12_any _ (hT.g (hG2.trans hg4))) ?_; rintro e w5 ⟨rfl, hg5⟩))
      go_ret
      exact ⟨ret_bool (by rfl), (hG2.trans hg4).trans hg5⟩
    have t5 : (K == 5) = false := beq_eq_false_iff_ne.2 e5
    by_cases e6 : K = 6
    case pos =>
      have t6 : (K == 6) = true := beq_iff_eq.2 e6
      have hc2 := recCheck_any ⟨K, 0, 0, true, ⟨0, 0, 0⟩, 0, 0, 0, none, 0, [], ⟨#[]⟩, none, 0, [], 0, 0, 0, 0, none, 0, []⟩ (w1.setCell ⟨w.heap.size, 3, none⟩ (.bool true)) ⟨Sl.nil, ⟨Sl.nil, fun p h => by cases h⟩, ⟨Sl.nil, fun s h => by cases h⟩⟩ ⟨hK64, (show Int64 (0) from by unfold Int64; decide), (show Int64 (0) from by unfold Int64; decide), (show Int64 (0) from by unfold Int64; decide), (show Int64 (0) from by unfold Int64; decide), (show Int64 (0) from by unfold Int64; decide), (show Int64 (0) from by unfold Int64; decide), (show Int64 (0) from by unfold Int64; decide), (show Int64 (0) from by unfold Int64; decide), (show Int64 (0) from by unfold Int64; decide), (fun x h => by cases h), by simp, (show (⟨#[]⟩ : ByteArray).size ≤ 1073741824 from by decide), ⟨by simp, fun p h => by cases h⟩, (show (batL ⟨#[]⟩ []).length ≤ 500000 from by decide +kernel), by simp, fun s h => by cases h⟩ (hT.g hG2)
      rw [show codeO 1 (encR (RecM.p ⟨K, 0, 0, true, ⟨0, 0, 0⟩, 0, 0, 0, none, 0, [], ⟨#[]⟩, none, 0, [], 0, 0, 0, 0, none, 0, []⟩)) = 0 from (show codeO 1 (encR ⟨K, 0, 0, true, ⟨0, 0, 0⟩, 0, 0, 0, [], ⟨#[]⟩, [], 0, 0, 0, 0, []⟩) = 0 from by rw [e6]; decide +kernel)] at hc2
      unfold RecM.cells at hc2
      dsimp only [List.length_nil, List.length_cons, Nat.zero_add] at hc2
      replace hc2 := Lib.hid hc2
      clear hbt B2 B2s hGs hgx B1' hgn
      replace e6 := Lib.hid e6
      go_wp2_with (first | (refine wpList_load_at rfl (by kernel_rfl) (p := .pointer (some ⟨_, 0, none⟩)) rfl (by assumption) ?_) | (go_at_call 12; with_reducible refine Calls.mono hc2.out ?_; rintro e w4 ⟨rfl, hg4⟩) | (go_at_call 8; refine Calls.mono (awake12_any _ (hT.g (hG2.trans hg4))) ?_; rintro e w5 ⟨rfl, hg5⟩))
      go_ret
      exact ⟨ret_bool (by rfl), (hG2.trans hg4).trans hg5⟩
    have t6 : (K == 6) = false := beq_eq_false_iff_ne.2 e6
    have hc2 := recCheck_any ⟨K, 0, 0, true, ⟨0, 0, 0⟩, 0, 0, 0, none, 0, [], ⟨#[]⟩, none, 0, [], 0, 0, 0, 0, none, 0, []⟩ (w1.setCell ⟨w.heap.size, 3, none⟩ (.bool true)) ⟨Sl.nil, ⟨Sl.nil, fun p h => by cases h⟩, ⟨Sl.nil, fun s h => by cases h⟩⟩ ⟨hK64, (show Int64 (0) from by unfold Int64; decide), (show Int64 (0) from by unfold Int64; decide), (show Int64 (0) from by unfold Int64; decide), (show Int64 (0) from by unfold Int64; decide), (show Int64 (0) from by unfold Int64; decide), (show Int64 (0) from by unfold Int64; decide), (show Int64 (0) from by unfold Int64; decide), (show Int64 (0) from by unfold Int64; decide), (show Int64 (0) from by unfold Int64; decide), (fun x h => by cases h), by simp, (show (⟨#[]⟩ : ByteArray).size ≤ 1073741824 from by decide), ⟨by simp, fun p h => by cases h⟩, (show (batL ⟨#[]⟩ []).length ≤ 500000 from by decide +kernel), by simp, fun s h => by cases h⟩ (hT.g hG2)
    rw [show codeO 1 (encR (RecM.p ⟨K, 0, 0, true, ⟨0, 0, 0⟩, 0, 0, 0, none, 0, [], ⟨#[]⟩, none, 0, [], 0, 0, 0, 0, none, 0, []⟩)) = 1 from (show codeO 1 (encR ⟨K, 0, 0, true, ⟨0, 0, 0⟩, 0, 0, 0, [], ⟨#[]⟩, [], 0, 0, 0, 0, []⟩) = 1 from by rcases hKc.out with e | e | e | e | e | e | e | e | e <;> first | (exact absurd e (by assumption)) | (rw [e]; decide +kernel))] at hc2
    unfold RecM.cells at hc2
    dsimp only [List.length_nil, List.length_cons, Nat.zero_add] at hc2
    replace hc2 := Lib.hid hc2
    clear hbt B2 B2s hGs hgx B1' hgn
    go_wp2_with (first | (refine wpList_load_at rfl (by kernel_rfl) (p := .pointer (some ⟨_, 0, none⟩)) rfl (by assumption) ?_) | (go_at_call 12; with_reducible refine Calls.mono hc2.out ?_; rintro e w4 ⟨rfl, hg4⟩) | (go_at_call 8; refine Calls.mono (awake12_any _ (hT.g (hG2.trans hg4))) ?_; rintro e w5 ⟨rfl, hg5⟩))
    go_ret
    exact ⟨ret_bool (by rfl), (hG2.trans hg4).trans hg5⟩
  · have hgn := G.refl w1
    have B1' := hgn.blk B1
    have c0 := (blk_cell B1' 9).trans (show _ = some (.int .i64 0) from rfl)
    have c1 : w1.frozen? ⟨w.heap.size, 9, none⟩ = false := by simp only [World.frozen?, B1']; rfl
    have B2s : (w1.setCell ⟨w.heap.size, 9, none⟩ (.int .i64 1)).heap[w.heap.size]? = some (.cells #[.int .i64 K, .int .i64 0, .int .i64 0, .bool false, .int .i64 0, .int .i64 0, .int .i64 0, .int .i64 0, .int .i64 0, .int .i64 1, .slice none 0 0, .string ⟨#[]⟩, .slice none 0 0, .int .i64 0, .int .i64 0, .int .i64 0, .int .i64 0, .slice none 0 0] 37 (0, 0)) := by rw [blk_put B1]; rfl
    have hbt := but_set w1 w.heap.size 9 (.int .i64 1)
    have hGs : G w (w1.setCell ⟨w.heap.size, 9, none⟩ (.int .i64 1)) := hG1.set (Nat.le_refl _) _
    have hgx := G.refl (w1.setCell ⟨w.heap.size, 9, none⟩ (.int .i64 1))
    have B2 := hgx.blk B2s
    have hG2 := hGs.trans hgx
    have LR := load_blk (P := Tryd.prog) (T := 37) B2 Tryd.underlying37 rfl (by kernel_rfl)
    by_cases e5 : K = 5
    case pos =>
      have t5 : (K == 5) = true := beq_iff_eq.2 e5
      have hc2 := recCheck_any ⟨K, 0, 0, false, ⟨0, 0, 0⟩, 0, 0, 1, none, 0, [], ⟨#[]⟩, none, 0, [], 0, 0, 0, 0, none, 0, []⟩ (w1.setCell ⟨w.heap.size, 9, none⟩ (.int .i64 1)) ⟨Sl.nil, ⟨Sl.nil, fun p h => by cases h⟩, ⟨Sl.nil, fun s h => by cases h⟩⟩ ⟨hK64, (show Int64 (0) from by unfold Int64; decide), (show Int64 (0) from by unfold Int64; decide), (show Int64 (0) from by unfold Int64; decide), (show Int64 (0) from by unfold Int64; decide), (show Int64 (1) from by unfold Int64; decide), (show Int64 (0) from by unfold Int64; decide), (show Int64 (0) from by unfold Int64; decide), (show Int64 (0) from by unfold Int64; decide), (show Int64 (0) from by unfold Int64; decide), (fun x h => by cases h), by simp, (show (⟨#[]⟩ : ByteArray).size ≤ 1073741824 from by decide), ⟨by simp, fun p h => by cases h⟩, (show (batL ⟨#[]⟩ []).length ≤ 500000 from by decide +kernel), by simp, fun s h => by cases h⟩ (hT.g hG2)
      rw [show codeO 1 (encR (RecM.p ⟨K, 0, 0, false, ⟨0, 0, 0⟩, 0, 0, 1, none, 0, [], ⟨#[]⟩, none, 0, [], 0, 0, 0, 0, none, 0, []⟩)) = 0 from (show codeO 1 (encR ⟨K, 0, 0, false, ⟨0, 0, 0⟩, 0, 0, 1, [], ⟨#[]⟩, [], 0, 0, 0, 0, []⟩) = 0 from by rw [e5]; decide +kernel)] at hc2
      unfold RecM.cells at hc2
      dsimp only [List.length_nil, List.length_cons, Nat.zero_add] at hc2
      replace hc2 := Lib.hid hc2
      clear hbt B2 B2s hGs hgx B1' hgn
      replace e5 := Lib.hid e5
      go_wp2_with (first | (refine wpList_load_at rfl (by kernel_rfl) (p := .pointer (some ⟨_, 0, none⟩)) rfl (by assumption) ?_) | (go_at_call 12; with_reducible refine Calls.mono hc2.out ?_; rintro e w4 ⟨rfl, hg4⟩) | (go_at_call 8; refine Calls.mono (awake12_any _ (hT.g (hG2.trans hg4))) ?_; rintro e w5 ⟨rfl, hg5⟩))
      go_ret
      exact ⟨ret_bool (by rfl), (hG2.trans hg4).trans hg5⟩
    have t5 : (K == 5) = false := beq_eq_false_iff_ne.2 e5
    by_cases e6 : K = 6
    case pos =>
      have t6 : (K == 6) = true := beq_iff_eq.2 e6
      have hc2 := recCheck_any ⟨K, 0, 0, false, ⟨0, 0, 0⟩, 0, 0, 1, none, 0, [], ⟨#[]⟩, none, 0, [], 0, 0, 0, 0, none, 0, []⟩ (w1.setCell ⟨w.heap.size, 9, none⟩ (.int .i64 1)) ⟨Sl.nil, ⟨Sl.nil, fun p h => by cases h⟩, ⟨Sl.nil, fun s h => by cases h⟩⟩ ⟨hK64, (show Int64 (0) from by unfold Int64; decide), (show Int64 (0) from by unfold Int64; decide), (show Int64 (0) from by unfold Int64; decide), (show Int64 (0) from by unfold Int64; decide), (show Int64 (1) from by unfold Int64; decide), (show Int64 (0) from by unfold Int64; decide), (show Int64 (0) from by unfold Int64; decide), (show Int64 (0) from by unfold Int64; decide), (show Int64 (0) from by unfold Int64; decide), (fun x h => by cases h), by simp, (show (⟨#[]⟩ : ByteArray).size ≤ 1073741824 from by decide), ⟨by simp, fun p h => by cases h⟩, (show (batL ⟨#[]⟩ []).length ≤ 500000 from by decide +kernel), by simp, fun s h => by cases h⟩ (hT.g hG2)
      rw [show codeO 1 (encR (RecM.p ⟨K, 0, 0, false, ⟨0, 0, 0⟩, 0, 0, 1, none, 0, [], ⟨#[]⟩, none, 0, [], 0, 0, 0, 0, none, 0, []⟩)) = 0 from (show codeO 1 (encR ⟨K, 0, 0, false, ⟨0, 0, 0⟩, 0, 0, 1, [], ⟨#[]⟩, [], 0, 0, 0, 0, []⟩) = 0 from by rw [e6]; decide +kernel)] at hc2
      unfold RecM.cells at hc2
      dsimp only [List.length_nil, List.length_cons, Nat.zero_add] at hc2
      replace hc2 := Lib.hid hc2
      clear hbt B2 B2s hGs hgx B1' hgn
      replace e6 := Lib.hid e6
      go_wp2_with (first | (refine wpList_load_at rfl (by kernel_rfl) (p := .pointer (some ⟨_, 0, none⟩)) rfl (by assumption) ?_) | (go_at_call 12; with_reducible refine Calls.mono hc2.out ?_; rintro e w4 ⟨rfl, hg4⟩) | (go_at_call 8; refine Calls.mono (awake12_any _ (hT.g (hG2.trans hg4))) ?_; rintro e w5 ⟨rfl, hg5⟩))
      go_ret
      exact ⟨ret_bool (by rfl), (hG2.trans hg4).trans hg5⟩
    have t6 : (K == 6) = false := beq_eq_false_iff_ne.2 e6
    by_cases e7 : K = 7
    case pos =>
      have t7 : (K == 7) = true := beq_iff_eq.2 e7
      have hc2 := recCheck_any ⟨K, 0, 0, false, ⟨0, 0, 0⟩, 0, 0, 1, none, 0, [], ⟨#[]⟩, none, 0, [], 0, 0, 0, 0, none, 0, []⟩ (w1.setCell ⟨w.heap.size, 9, none⟩ (.int .i64 1)) ⟨Sl.nil, ⟨Sl.nil, fun p h => by cases h⟩, ⟨Sl.nil, fun s h => by cases h⟩⟩ ⟨hK64, (show Int64 (0) from by unfold Int64; decide), (show Int64 (0) from by unfold Int64; decide), (show Int64 (0) from by unfold Int64; decide), (show Int64 (0) from by unfold Int64; decide), (show Int64 (1) from by unfold Int64; decide), (show Int64 (0) from by unfold Int64; decide), (show Int64 (0) from by unfold Int64; decide), (show Int64 (0) from by unfold Int64; decide), (show Int64 (0) from by unfold Int64; decide), (fun x h => by cases h), by simp, (show (⟨#[]⟩ : ByteArray).size ≤ 1073741824 from by decide), ⟨by simp, fun p h => by cases h⟩, (show (batL ⟨#[]⟩ []).length ≤ 500000 from by decide +kernel), by simp, fun s h => by cases h⟩ (hT.g hG2)
      rw [show codeO 1 (encR (RecM.p ⟨K, 0, 0, false, ⟨0, 0, 0⟩, 0, 0, 1, none, 0, [], ⟨#[]⟩, none, 0, [], 0, 0, 0, 0, none, 0, []⟩)) = 0 from (show codeO 1 (encR ⟨K, 0, 0, false, ⟨0, 0, 0⟩, 0, 0, 1, [], ⟨#[]⟩, [], 0, 0, 0, 0, []⟩) = 0 from by rw [e7]; decide +kernel)] at hc2
      unfold RecM.cells at hc2
      dsimp only [List.length_nil, List.length_cons, Nat.zero_add] at hc2
      replace hc2 := Lib.hid hc2
      clear hbt B2 B2s hGs hgx B1' hgn
      replace e7 := Lib.hid e7
      go_wp2_with (first | (refine wpList_load_at rfl (by kernel_rfl) (p := .pointer (some ⟨_, 0, none⟩)) rfl (by assumption) ?_) | (go_at_call 12; with_reducible refine Calls.mono hc2.out ?_; rintro e w4 ⟨rfl, hg4⟩) | (go_at_call 8; refine Calls.mono (awake12_any _ (hT.g (hG2.trans hg4))) ?_; rintro e w5 ⟨rfl, hg5⟩))
      go_ret
      exact ⟨ret_bool (by rfl), (hG2.trans hg4).trans hg5⟩
    have t7 : (K == 7) = false := beq_eq_false_iff_ne.2 e7
    have hc2 := recCheck_any ⟨K, 0, 0, false, ⟨0, 0, 0⟩, 0, 0, 1, none, 0, [], ⟨#[]⟩, none, 0, [], 0, 0, 0, 0, none, 0, []⟩ (w1.setCell ⟨w.heap.size, 9, none⟩ (.int .i64 1)) ⟨Sl.nil, ⟨Sl.nil, fun p h => by cases h⟩, ⟨Sl.nil, fun s h => by cases h⟩⟩ ⟨hK64, (show Int64 (0) from by unfold Int64; decide), (show Int64 (0) from by unfold Int64; decide), (show Int64 (0) from by unfold Int64; decide), (show Int64 (0) from by unfold Int64; decide), (show Int64 (1) from by unfold Int64; decide), (show Int64 (0) from by unfold Int64; decide), (show Int64 (0) from by unfold Int64; decide), (show Int64 (0) from by unfold Int64; decide), (show Int64 (0) from by unfold Int64; decide), (fun x h => by cases h), by simp, (show (⟨#[]⟩ : ByteArray).size ≤ 1073741824 from by decide), ⟨by simp, fun p h => by cases h⟩, (show (batL ⟨#[]⟩ []).length ≤ 500000 from by decide +kernel), by simp, fun s h => by cases h⟩ (hT.g hG2)
    rw [show codeO 1 (encR (RecM.p ⟨K, 0, 0, false, ⟨0, 0, 0⟩, 0, 0, 1, none, 0, [], ⟨#[]⟩, none, 0, [], 0, 0, 0, 0, none, 0, []⟩)) = 1 from (show codeO 1 (encR ⟨K, 0, 0, false, ⟨0, 0, 0⟩, 0, 0, 1, [], ⟨#[]⟩, [], 0, 0, 0, 0, []⟩) = 1 from by rcases hKc.out with e | e | e | e | e | e | e | e | e <;> first | (exact absurd e (by assumption)) | (rw [e]; decide +kernel))] at hc2
    unfold RecM.cells at hc2
    dsimp only [List.length_nil, List.length_cons, Nat.zero_add] at hc2
    replace hc2 := Lib.hid hc2
    clear hbt B2 B2s hGs hgx B1' hgn
    go_wp2_with (first | (refine wpList_load_at rfl (by kernel_rfl) (p := .pointer (some ⟨_, 0, none⟩)) rfl (by assumption) ?_) | (go_at_call 12; with_reducible refine Calls.mono hc2.out ?_; rintro e w4 ⟨rfl, hg4⟩) | (go_at_call 8; refine Calls.mono (awake12_any _ (hT.g (hG2.trans hg4))) ?_; rintro e w5 ⟨rfl, hg5⟩))
    go_ret
    exact ⟨ret_bool (by rfl), (hG2.trans hg4).trans hg5⟩
  · have hgn := G.new w1 (.cells #[.int .i64 1] 3)
    have B1' := hgn.blk B1
    have c0 := (blk_cell B1' 10).trans (show _ = some (.slice none 0 0) from rfl)
    have c1 : (w1.alloc (.cells #[.int .i64 1] 3)).frozen? ⟨w.heap.size, 10, none⟩ = false := by simp only [World.frozen?, B1']; rfl
    have B2s : (w1.setCell ⟨w.heap.size, 10, none⟩ (.slice (some ⟨w1.heap.size, 0, none⟩) 1 1)).heap[w.heap.size]? = some (.cells #[.int .i64 K, .int .i64 0, .int .i64 0, .bool false, .int .i64 0, .int .i64 0, .int .i64 0, .int .i64 0, .int .i64 0, .int .i64 0, .slice (some ⟨w1.heap.size, 0, none⟩) 1 1, .string ⟨#[]⟩, .slice none 0 0, .int .i64 0, .int .i64 0, .int .i64 0, .int .i64 0, .slice none 0 0] 37 (0, 0)) := by rw [blk_put B1]; rfl
    have hbt := but_set w1 w.heap.size 10 (.slice (some ⟨w1.heap.size, 0, none⟩) 1 1)
    have hGs : G w (w1.setCell ⟨w.heap.size, 10, none⟩ (.slice (some ⟨w1.heap.size, 0, none⟩) 1 1)) := hG1.set (Nat.le_refl _) _
    have hgx := G.new (w1.setCell ⟨w.heap.size, 10, none⟩ (.slice (some ⟨w1.heap.size, 0, none⟩) 1 1)) (.cells #[.int .i64 1] 3)
    have B2 := hgx.blk B2s
    have hG2 := hGs.trans hgx
    have N2 := blk_new' (w1.setCell ⟨w.heap.size, 10, none⟩ (.slice (some ⟨w1.heap.size, 0, none⟩) 1 1)) #[.int .i64 1] 3 w1.heap.size (by simp)
    have LR := load_blk (P := Tryd.prog) (T := 37) B2 Tryd.underlying37 rfl (by kernel_rfl)
    by_cases e6 : K = 6
    case pos =>
      have t6 : (K == 6) = true := beq_iff_eq.2 e6
      have hc2 := recCheck_any ⟨K, 0, 0, false, ⟨0, 0, 0⟩, 0, 0, 0, (some ⟨w1.heap.size, 0, none⟩), 1, [1], ⟨#[]⟩, none, 0, [], 0, 0, 0, 0, none, 0, []⟩ ((w1.setCell ⟨w.heap.size, 10, none⟩ (.slice (some ⟨w1.heap.size, 0, none⟩) 1 1)).alloc (.cells #[.int .i64 1] 3)) ⟨(Sl.of_blk intC_len [1] N2 rfl (blk_lt N2)), ⟨Sl.nil, fun p h => by cases h⟩, ⟨Sl.nil, fun s h => by cases h⟩⟩ ⟨hK64, (show Int64 (0) from by unfold Int64; decide), (show Int64 (0) from by unfold Int64; decide), (show Int64 (0) from by unfold Int64; decide), (show Int64 (0) from by unfold Int64; decide), (show Int64 (0) from by unfold Int64; decide), (show Int64 (0) from by unfold Int64; decide), (show Int64 (0) from by unfold Int64; decide), (show Int64 (0) from by unfold Int64; decide), (show Int64 (0) from by unfold Int64; decide), (fun x h => by simp at h; subst h; exact (show Int64 1 from by unfold Int64; decide)), by simp, (show (⟨#[]⟩ : ByteArray).size ≤ 1073741824 from by decide), ⟨by simp, fun p h => by cases h⟩, (show (batL ⟨#[]⟩ []).length ≤ 500000 from by decide +kernel), by simp, fun s h => by cases h⟩ (hT.g hG2)
      rw [show codeO 1 (encR (RecM.p ⟨K, 0, 0, false, ⟨0, 0, 0⟩, 0, 0, 0, (some ⟨w1.heap.size, 0, none⟩), 1, [1], ⟨#[]⟩, none, 0, [], 0, 0, 0, 0, none, 0, []⟩)) = 0 from (show codeO 1 (encR ⟨K, 0, 0, false, ⟨0, 0, 0⟩, 0, 0, 0, [1], ⟨#[]⟩, [], 0, 0, 0, 0, []⟩) = 0 from by rw [e6]; decide +kernel)] at hc2
      unfold RecM.cells at hc2
      dsimp only [List.length_nil, List.length_cons, Nat.zero_add] at hc2
      replace hc2 := Lib.hid hc2
      clear hbt B2 B2s hGs hgx B1' hgn N2
      replace e6 := Lib.hid e6
      go_wp2_with (first | (refine wpList_load_at rfl (by kernel_rfl) (p := .pointer (some ⟨_, 0, none⟩)) rfl (by assumption) ?_) | (go_at_call 12; with_reducible refine Calls.mono hc2.out ?_; rintro e w4 ⟨rfl, hg4⟩) | (go_at_call 8; refine Calls.mono (awake12_any _ (hT.g (hG2.trans hg4))) ?_; rintro e w5 ⟨rfl, hg5⟩))
      go_ret
      exact ⟨ret_bool (by rfl), (hG2.trans hg4).trans hg5⟩
    have t6 : (K == 6) = false := beq_eq_false_iff_ne.2 e6
    have hc2 := recCheck_any ⟨K, 0, 0, false, ⟨0, 0, 0⟩, 0, 0, 0, (some ⟨w1.heap.size, 0, none⟩), 1, [1], ⟨#[]⟩, none, 0, [], 0, 0, 0, 0, none, 0, []⟩ ((w1.setCell ⟨w.heap.size, 10, none⟩ (.slice (some ⟨w1.heap.size, 0, none⟩) 1 1)).alloc (.cells #[.int .i64 1] 3)) ⟨(Sl.of_blk intC_len [1] N2 rfl (blk_lt N2)), ⟨Sl.nil, fun p h => by cases h⟩, ⟨Sl.nil, fun s h => by cases h⟩⟩ ⟨hK64, (show Int64 (0) from by unfold Int64; decide), (show Int64 (0) from by unfold Int64; decide), (show Int64 (0) from by unfold Int64; decide), (show Int64 (0) from by unfold Int64; decide), (show Int64 (0) from by unfold Int64; decide), (show Int64 (0) from by unfold Int64; decide), (show Int64 (0) from by unfold Int64; decide), (show Int64 (0) from by unfold Int64; decide), (show Int64 (0) from by unfold Int64; decide), (fun x h => by simp at h; subst h; exact (show Int64 1 from by unfold Int64; decide)), by simp, (show (⟨#[]⟩ : ByteArray).size ≤ 1073741824 from by decide), ⟨by simp, fun p h => by cases h⟩, (show (batL ⟨#[]⟩ []).length ≤ 500000 from by decide +kernel), by simp, fun s h => by cases h⟩ (hT.g hG2)
    rw [show codeO 1 (encR (RecM.p ⟨K, 0, 0, false, ⟨0, 0, 0⟩, 0, 0, 0, (some ⟨w1.heap.size, 0, none⟩), 1, [1], ⟨#[]⟩, none, 0, [], 0, 0, 0, 0, none, 0, []⟩)) = 1 from (show codeO 1 (encR ⟨K, 0, 0, false, ⟨0, 0, 0⟩, 0, 0, 0, [1], ⟨#[]⟩, [], 0, 0, 0, 0, []⟩) = 1 from by rcases hKc.out with e | e | e | e | e | e | e | e | e <;> first | (exact absurd e (by assumption)) | (rw [e]; decide +kernel))] at hc2
    unfold RecM.cells at hc2
    dsimp only [List.length_nil, List.length_cons, Nat.zero_add] at hc2
    replace hc2 := Lib.hid hc2
    clear hbt B2 B2s hGs hgx B1' hgn N2
    go_wp2_with (first | (refine wpList_load_at rfl (by kernel_rfl) (p := .pointer (some ⟨_, 0, none⟩)) rfl (by assumption) ?_) | (go_at_call 12; with_reducible refine Calls.mono hc2.out ?_; rintro e w4 ⟨rfl, hg4⟩) | (go_at_call 8; refine Calls.mono (awake12_any _ (hT.g (hG2.trans hg4))) ?_; rintro e w5 ⟨rfl, hg5⟩))
    go_ret
    exact ⟨ret_bool (by rfl), (hG2.trans hg4).trans hg5⟩
  · have hgn := G.refl w1
    have B1' := hgn.blk B1
    have c0 := (blk_cell B1' 14).trans (show _ = some (.int .i64 0) from rfl)
    have c1 : w1.frozen? ⟨w.heap.size, 14, none⟩ = false := by simp only [World.frozen?, B1']; rfl
    have B2s : (w1.setCell ⟨w.heap.size, 14, none⟩ (.int .i64 1)).heap[w.heap.size]? = some (.cells #[.int .i64 K, .int .i64 0, .int .i64 0, .bool false, .int .i64 0, .int .i64 0, .int .i64 0, .int .i64 0, .int .i64 0, .int .i64 0, .slice none 0 0, .string ⟨#[]⟩, .slice none 0 0, .int .i64 0, .int .i64 1, .int .i64 0, .int .i64 0, .slice none 0 0] 37 (0, 0)) := by rw [blk_put B1]; rfl
    have hbt := but_set w1 w.heap.size 14 (.int .i64 1)
    have hGs : G w (w1.setCell ⟨w.heap.size, 14, none⟩ (.int .i64 1)) := hG1.set (Nat.le_refl _) _
    have hgx := G.refl (w1.setCell ⟨w.heap.size, 14, none⟩ (.int .i64 1))
    have B2 := hgx.blk B2s
    have hG2 := hGs.trans hgx
    have LR := load_blk (P := Tryd.prog) (T := 37) B2 Tryd.underlying37 rfl (by kernel_rfl)
    by_cases e9 : K = 9
    case pos =>
      have t9 : (K == 9) = true := beq_iff_eq.2 e9
      have hc2 := recCheck_any ⟨K, 0, 0, false, ⟨0, 0, 0⟩, 0, 0, 0, none, 0, [], ⟨#[]⟩, none, 0, [], 0, 1, 0, 0, none, 0, []⟩ (w1.setCell ⟨w.heap.size, 14, none⟩ (.int .i64 1)) ⟨Sl.nil, ⟨Sl.nil, fun p h => by cases h⟩, ⟨Sl.nil, fun s h => by cases h⟩⟩ ⟨hK64, (show Int64 (0) from by unfold Int64; decide), (show Int64 (0) from by unfold Int64; decide), (show Int64 (0) from by unfold Int64; decide), (show Int64 (0) from by unfold Int64; decide), (show Int64 (0) from by unfold Int64; decide), (show Int64 (0) from by unfold Int64; decide), (show Int64 (1) from by unfold Int64; decide), (show Int64 (0) from by unfold Int64; decide), (show Int64 (0) from by unfold Int64; decide), (fun x h => by cases h), by simp, (show (⟨#[]⟩ : ByteArray).size ≤ 1073741824 from by decide), ⟨by simp, fun p h => by cases h⟩, (show (batL ⟨#[]⟩ []).length ≤ 500000 from by decide +kernel), by simp, fun s h => by cases h⟩ (hT.g hG2)
      rw [show codeO 1 (encR (RecM.p ⟨K, 0, 0, false, ⟨0, 0, 0⟩, 0, 0, 0, none, 0, [], ⟨#[]⟩, none, 0, [], 0, 1, 0, 0, none, 0, []⟩)) = 0 from (show codeO 1 (encR ⟨K, 0, 0, false, ⟨0, 0, 0⟩, 0, 0, 0, [], ⟨#[]⟩, [], 0, 1, 0, 0, []⟩) = 0 from by rw [e9]; decide +kernel)] at hc2
      unfold RecM.cells at hc2
      dsimp only [List.length_nil, List.length_cons, Nat.zero_add] at hc2
      replace hc2 := Lib.hid hc2
      clear hbt B2 B2s hGs hgx B1' hgn
      replace e9 := Lib.hid e9
      go_wp2_with (first | (refine wpList_load_at rfl (by kernel_rfl) (p := .pointer (some ⟨_, 0, none⟩)) rfl (by assumption) ?_) | (go_at_call 12; with_reducible refine Calls.mono hc2.out ?_; rintro e w4 ⟨rfl, hg4⟩) | (go_at_call 8; refine Calls.mono (awake12_any _ (hT.g (hG2.trans hg4))) ?_; rintro e w5 ⟨rfl, hg5⟩))
      go_ret
      exact ⟨ret_bool (by rfl), (hG2.trans hg4).trans hg5⟩
    have t9 : (K == 9) = false := beq_eq_false_iff_ne.2 e9
    by_cases e10 : K = 10
    case pos =>
      have t10 : (K == 10) = true := beq_iff_eq.2 e10
      have hc2 := recCheck_any ⟨K, 0, 0, false, ⟨0, 0, 0⟩, 0, 0, 0, none, 0, [], ⟨#[]⟩, none, 0, [], 0, 1, 0, 0, none, 0, []⟩ (w1.setCell ⟨w.heap.size, 14, none⟩ (.int .i64 1)) ⟨Sl.nil, ⟨Sl.nil, fun p h => by cases h⟩, ⟨Sl.nil, fun s h => by cases h⟩⟩ ⟨hK64, (show Int64 (0) from by unfold Int64; decide), (show Int64 (0) from by unfold Int64; decide), (show Int64 (0) from by unfold Int64; decide), (show Int64 (0) from by unfold Int64; decide), (show Int64 (0) from by unfold Int64; decide), (show Int64 (0) from by unfold Int64; decide), (show Int64 (1) from by unfold Int64; decide), (show Int64 (0) from by unfold Int64; decide), (show Int64 (0) from by unfold Int64; decide), (fun x h => by cases h), by simp, (show (⟨#[]⟩ : ByteArray).size ≤ 1073741824 from by decide), ⟨by simp, fun p h => by cases h⟩, (show (batL ⟨#[]⟩ []).length ≤ 500000 from by decide +kernel), by simp, fun s h => by cases h⟩ (hT.g hG2)
      rw [show codeO 1 (encR (RecM.p ⟨K, 0, 0, false, ⟨0, 0, 0⟩, 0, 0, 0, none, 0, [], ⟨#[]⟩, none, 0, [], 0, 1, 0, 0, none, 0, []⟩)) = 0 from (show codeO 1 (encR ⟨K, 0, 0, false, ⟨0, 0, 0⟩, 0, 0, 0, [], ⟨#[]⟩, [], 0, 1, 0, 0, []⟩) = 0 from by rw [e10]; decide +kernel)] at hc2
      unfold RecM.cells at hc2
      dsimp only [List.length_nil, List.length_cons, Nat.zero_add] at hc2
      replace hc2 := Lib.hid hc2
      clear hbt B2 B2s hGs hgx B1' hgn
      replace e10 := Lib.hid e10
      go_wp2_with (first | (refine wpList_load_at rfl (by kernel_rfl) (p := .pointer (some ⟨_, 0, none⟩)) rfl (by assumption) ?_) | (go_at_call 12; with_reducible refine Calls.mono hc2.out ?_; rintro e w4 ⟨rfl, hg4⟩) | (go_at_call 8; refine Calls.mono (awake12_any _ (hT.g (hG2.trans hg4))) ?_; rintro e w5 ⟨rfl, hg5⟩))
      go_ret
      exact ⟨ret_bool (by rfl), (hG2.trans hg4).trans hg5⟩
    have t10 : (K == 10) = false := beq_eq_false_iff_ne.2 e10
    by_cases e11 : K = 11
    case pos =>
      have t11 : (K == 11) = true := beq_iff_eq.2 e11
      have hc2 := recCheck_any ⟨K, 0, 0, false, ⟨0, 0, 0⟩, 0, 0, 0, none, 0, [], ⟨#[]⟩, none, 0, [], 0, 1, 0, 0, none, 0, []⟩ (w1.setCell ⟨w.heap.size, 14, none⟩ (.int .i64 1)) ⟨Sl.nil, ⟨Sl.nil, fun p h => by cases h⟩, ⟨Sl.nil, fun s h => by cases h⟩⟩ ⟨hK64, (show Int64 (0) from by unfold Int64; decide), (show Int64 (0) from by unfold Int64; decide), (show Int64 (0) from by unfold Int64; decide), (show Int64 (0) from by unfold Int64; decide), (show Int64 (0) from by unfold Int64; decide), (show Int64 (0) from by unfold Int64; decide), (show Int64 (1) from by unfold Int64; decide), (show Int64 (0) from by unfold Int64; decide), (show Int64 (0) from by unfold Int64; decide), (fun x h => by cases h), by simp, (show (⟨#[]⟩ : ByteArray).size ≤ 1073741824 from by decide), ⟨by simp, fun p h => by cases h⟩, (show (batL ⟨#[]⟩ []).length ≤ 500000 from by decide +kernel), by simp, fun s h => by cases h⟩ (hT.g hG2)
      rw [show codeO 1 (encR (RecM.p ⟨K, 0, 0, false, ⟨0, 0, 0⟩, 0, 0, 0, none, 0, [], ⟨#[]⟩, none, 0, [], 0, 1, 0, 0, none, 0, []⟩)) = 0 from (show codeO 1 (encR ⟨K, 0, 0, false, ⟨0, 0, 0⟩, 0, 0, 0, [], ⟨#[]⟩, [], 0, 1, 0, 0, []⟩) = 0 from by rw [e11]; decide +kernel)] at hc2
      unfold RecM.cells at hc2
      dsimp only [List.length_nil, List.length_cons, Nat.zero_add] at hc2
      replace hc2 := Lib.hid hc2
      clear hbt B2 B2s hGs hgx B1' hgn
      replace e11 := Lib.hid e11
      go_wp2_with (first | (refine wpList_load_at rfl (by kernel_rfl) (p := .pointer (some ⟨_, 0, none⟩)) rfl (by assumption) ?_) | (go_at_call 12; with_reducible refine Calls.mono hc2.out ?_; rintro e w4 ⟨rfl, hg4⟩) | (go_at_call 8; refine Calls.mono (awake12_any _ (hT.g (hG2.trans hg4))) ?_; rintro e w5 ⟨rfl, hg5⟩))
      go_ret
      exact ⟨ret_bool (by rfl), (hG2.trans hg4).trans hg5⟩
    have t11 : (K == 11) = false := beq_eq_false_iff_ne.2 e11
    have hc2 := recCheck_any ⟨K, 0, 0, false, ⟨0, 0, 0⟩, 0, 0, 0, none, 0, [], ⟨#[]⟩, none, 0, [], 0, 1, 0, 0, none, 0, []⟩ (w1.setCell ⟨w.heap.size, 14, none⟩ (.int .i64 1)) ⟨Sl.nil, ⟨Sl.nil, fun p h => by cases h⟩, ⟨Sl.nil, fun s h => by cases h⟩⟩ ⟨hK64, (show Int64 (0) from by unfold Int64; decide), (show Int64 (0) from by unfold Int64; decide), (show Int64 (0) from by unfold Int64; decide), (show Int64 (0) from by unfold Int64; decide), (show Int64 (0) from by unfold Int64; decide), (show Int64 (0) from by unfold Int64; decide), (show Int64 (1) from by unfold Int64; decide), (show Int64 (0) from by unfold Int64; decide), (show Int64 (0) from by unfold Int64; decide), (fun x h => by cases h), by simp, (show (⟨#[]⟩ : ByteArray).size ≤ 1073741824 from by decide), ⟨by simp, fun p h => by cases h⟩, (show (batL ⟨#[]⟩ []).length ≤ 500000 from by decide +kernel), by simp, fun s h => by cases h⟩ (hT.g hG2)
    rw [show codeO 1 (encR (RecM.p ⟨K, 0, 0, false, ⟨0, 0, 0⟩, 0, 0, 0, none, 0, [], ⟨#[]⟩, none, 0, [], 0, 1, 0, 0, none, 0, []⟩)) = 1 from (show codeO 1 (encR ⟨K, 0, 0, false, ⟨0, 0, 0⟩, 0, 0, 0, [], ⟨#[]⟩, [], 0, 1, 0, 0, []⟩) = 1 from by rcases hKc.out with e | e | e | e | e | e | e | e | e <;> first | (exact absurd e (by assumption)) | (rw [e]; decide +kernel))] at hc2
    unfold RecM.cells at hc2
    dsimp only [List.length_nil, List.length_cons, Nat.zero_add] at hc2
    replace hc2 := Lib.hid hc2
    clear hbt B2 B2s hGs hgx B1' hgn
    go_wp2_with (first | (refine wpList_load_at rfl (by kernel_rfl) (p := .pointer (some ⟨_, 0, none⟩)) rfl (by assumption) ?_) | (go_at_call 12; with_reducible refine Calls.mono hc2.out ?_; rintro e w4 ⟨rfl, hg4⟩) | (go_at_call 8; refine Calls.mono (awake12_any _ (hT.g (hG2.trans hg4))) ?_; rintro e w5 ⟨rfl, hg5⟩))
    go_ret
    exact ⟨ret_bool (by rfl), (hG2.trans hg4).trans hg5⟩
  · have hgn := G.refl w1
    have B1' := hgn.blk B1
    have c0 := (blk_cell B1' 4).trans (show _ = some (.int .i64 0) from rfl)
    have c1 : w1.frozen? ⟨w.heap.size, 4, none⟩ = false := by simp only [World.frozen?, B1']; rfl
    have B2s : (w1.setCell ⟨w.heap.size, 4, none⟩ (.int .i64 1)).heap[w.heap.size]? = some (.cells #[.int .i64 K, .int .i64 0, .int .i64 0, .bool false, .int .i64 1, .int .i64 0, .int .i64 0, .int .i64 0, .int .i64 0, .int .i64 0, .slice none 0 0, .string ⟨#[]⟩, .slice none 0 0, .int .i64 0, .int .i64 0, .int .i64 0, .int .i64 0, .slice none 0 0] 37 (0, 0)) := by rw [blk_put B1]; rfl
    have hbt := but_set w1 w.heap.size 4 (.int .i64 1)
    have hGs : G w (w1.setCell ⟨w.heap.size, 4, none⟩ (.int .i64 1)) := hG1.set (Nat.le_refl _) _
    have hgx := G.refl (w1.setCell ⟨w.heap.size, 4, none⟩ (.int .i64 1))
    have B2 := hgx.blk B2s
    have hG2 := hGs.trans hgx
    have LR := load_blk (P := Tryd.prog) (T := 37) B2 Tryd.underlying37 rfl (by kernel_rfl)
    by_cases e5 : K = 5
    case pos =>
      have t5 : (K == 5) = true := beq_iff_eq.2 e5
      have hc2 := recCheck_any ⟨K, 0, 0, false, ⟨1, 0, 0⟩, 0, 0, 0, none, 0, [], ⟨#[]⟩, none, 0, [], 0, 0, 0, 0, none, 0, []⟩ (w1.setCell ⟨w.heap.size, 4, none⟩ (.int .i64 1)) ⟨Sl.nil, ⟨Sl.nil, fun p h => by cases h⟩, ⟨Sl.nil, fun s h => by cases h⟩⟩ ⟨hK64, (show Int64 (0) from by unfold Int64; decide), (show Int64 (0) from by unfold Int64; decide), (show Int64 (0) from by unfold Int64; decide), (show Int64 (0) from by unfold Int64; decide), (show Int64 (0) from by unfold Int64; decide), (show Int64 (0) from by unfold Int64; decide), (show Int64 (0) from by unfold Int64; decide), (show Int64 (0) from by unfold Int64; decide), (show Int64 (0) from by unfold Int64; decide), (fun x h => by cases h), by simp, (show (⟨#[]⟩ : ByteArray).size ≤ 1073741824 from by decide), ⟨by simp, fun p h => by cases h⟩, (show (batL ⟨#[]⟩ []).length ≤ 500000 from by decide +kernel), by simp, fun s h => by cases h⟩ (hT.g hG2)
      rw [show codeO 1 (encR (RecM.p ⟨K, 0, 0, false, ⟨1, 0, 0⟩, 0, 0, 0, none, 0, [], ⟨#[]⟩, none, 0, [], 0, 0, 0, 0, none, 0, []⟩)) = 0 from (show codeO 1 (encR ⟨K, 0, 0, false, ⟨1, 0, 0⟩, 0, 0, 0, [], ⟨#[]⟩, [], 0, 0, 0, 0, []⟩) = 0 from by rw [e5]; decide +kernel)] at hc2
      unfold RecM.cells at hc2
      dsimp only [List.length_nil, List.length_cons, Nat.zero_add] at hc2
      replace hc2 := Lib.hid hc2
      clear hbt B2 B2s hGs hgx B1' hgn
      replace e5 := Lib.hid e5
      go_wp2_with (first | (refine wpList_load_at rfl (by kernel_rfl) (p := .pointer (some ⟨_, 0, none⟩)) rfl (by assumption) ?_) | (go_at_call 12; with_reducible refine Calls.mono hc2.out ?_; rintro e w4 ⟨rfl, hg4⟩) | (go_at_call 8; refine Calls.mono (awake12_any _ (hT.g (hG2.trans hg4))) ?_; rintro e w5 ⟨rfl, hg5⟩))
      go_ret
      exact ⟨ret_bool (by rfl), (hG2.trans hg4).trans hg5⟩
    have t5 : (K == 5) = false := beq_eq_false_iff_ne.2 e5
    by_cases e6 : K = 6
    case pos =>
      have t6 : (K == 6) = true := beq_iff_eq.2 e6
      have hc2 := recCheck_any ⟨K, 0, 0, false, ⟨1, 0, 0⟩, 0, 0, 0, none, 0, [], ⟨#[]⟩, none, 0, [], 0, 0, 0, 0, none, 0, []⟩ (w1.setCell ⟨w.heap.size, 4, none⟩ (.int .i64 1)) ⟨Sl.nil, ⟨Sl.nil, fun p h => by cases h⟩, ⟨Sl.nil, fun s h => by cases h⟩⟩ ⟨hK64, (show Int64 (0) from by unfold Int64; decide), (show Int64 (0) from by unfold Int64; decide), (show Int64 (0) from by unfold Int64; decide), (show Int64 (0) from by unfold Int64; decide), (show Int64 (0) from by unfold Int64; decide), (show Int64 (0) from by unfold Int64; decide), (show Int64 (0) from by unfold Int64; decide), (show Int64 (0) from by unfold Int64; decide), (show Int64 (0) from by unfold Int64; decide), (fun x h => by cases h), by simp, (show (⟨#[]⟩ : ByteArray).size ≤ 1073741824 from by decide), ⟨by simp, fun p h => by cases h⟩, (show (batL ⟨#[]⟩ []).length ≤ 500000 from by decide +kernel), by simp, fun s h => by cases h⟩ (hT.g hG2)
      rw [show codeO 1 (encR (RecM.p ⟨K, 0, 0, false, ⟨1, 0, 0⟩, 0, 0, 0, none, 0, [], ⟨#[]⟩, none, 0, [], 0, 0, 0, 0, none, 0, []⟩)) = 0 from (show codeO 1 (encR ⟨K, 0, 0, false, ⟨1, 0, 0⟩, 0, 0, 0, [], ⟨#[]⟩, [], 0, 0, 0, 0, []⟩) = 0 from by rw [e6]; decide +kernel)] at hc2
      unfold RecM.cells at hc2
      dsimp only [List.length_nil, List.length_cons, Nat.zero_add] at hc2
      replace hc2 := Lib.hid hc2
      clear hbt B2 B2s hGs hgx B1' hgn
      replace e6 := Lib.hid e6
      go_wp2_with (first | (refine wpList_load_at rfl (by kernel_rfl) (p := .pointer (some ⟨_, 0, none⟩)) rfl (by assumption) ?_) | (go_at_call 12; with_reducible refine Calls.mono hc2.out ?_; rintro e w4 ⟨rfl, hg4⟩) | (go_at_call 8; refine Calls.mono (awake12_any _ (hT.g (hG2.trans hg4))) ?_; rintro e w5 ⟨rfl, hg5⟩))
      go_ret
      exact ⟨ret_bool (by rfl), (hG2.trans hg4).trans hg5⟩
    have t6 : (K == 6) = false := beq_eq_false_iff_ne.2 e6
    by_cases e10 : K = 10
    case pos =>
      have t10 : (K == 10) = true := beq_iff_eq.2 e10
      have hc2 := recCheck_any ⟨K, 0, 0, false, ⟨1, 0, 0⟩, 0, 0, 0, none, 0, [], ⟨#[]⟩, none, 0, [], 0, 0, 0, 0, none, 0, []⟩ (w1.setCell ⟨w.heap.size, 4, none⟩ (.int .i64 1)) ⟨Sl.nil, ⟨Sl.nil, fun p h => by cases h⟩, ⟨Sl.nil, fun s h => by cases h⟩⟩ ⟨hK64, (show Int64 (0) from by unfold Int64; decide), (show Int64 (0) from by unfold Int64; decide), (show Int64 (0) from by unfold Int64; decide), (show Int64 (0) from by unfold Int64; decide), (show Int64 (0) from by unfold Int64; decide), (show Int64 (0) from by unfold Int64; decide), (show Int64 (0) from by unfold Int64; decide), (show Int64 (0) from by unfold Int64; decide), (show Int64 (0) from by unfold Int64; decide), (fun x h => by cases h), by simp, (show (⟨#[]⟩ : ByteArray).size ≤ 1073741824 from by decide), ⟨by simp, fun p h => by cases h⟩, (show (batL ⟨#[]⟩ []).length ≤ 500000 from by decide +kernel), by simp, fun s h => by cases h⟩ (hT.g hG2)
      rw [show codeO 1 (encR (RecM.p ⟨K, 0, 0, false, ⟨1, 0, 0⟩, 0, 0, 0, none, 0, [], ⟨#[]⟩, none, 0, [], 0, 0, 0, 0, none, 0, []⟩)) = 0 from (show codeO 1 (encR ⟨K, 0, 0, false, ⟨1, 0, 0⟩, 0, 0, 0, [], ⟨#[]⟩, [], 0, 0, 0, 0, []⟩) = 0 from by rw [e10]; decide +kernel)] at hc2
      unfold RecM.cells at hc2
      dsimp only [List.length_nil, List.length_cons, Nat.zero_add] at hc2
      replace hc2 := Lib.hid hc2
      clear hbt B2 B2s hGs hgx B1' hgn
      replace e10 := Lib.hid e10
      go_wp2_with (first | (refine wpList_load_at rfl (by kernel_rfl) (p := .pointer (some ⟨_, 0, none⟩)) rfl (by assumption) ?_) | (go_at_call 12; with_reducible refine Calls.mono hc2.out ?_; rintro e w4 ⟨rfl, hg4⟩) | (go_at_call 8; refine Calls.mono (awake12_any _ (hT.g (hG2.trans hg4))) ?_; rintro e w5 ⟨rfl, hg5⟩))
      go_ret
      exact ⟨ret_bool (by rfl), (hG2.trans hg4).trans hg5⟩
    have t10 : (K == 10) = false := beq_eq_false_iff_ne.2 e10
    have hc2 := recCheck_any ⟨K, 0, 0, false, ⟨1, 0, 0⟩, 0, 0, 0, none, 0, [], ⟨#[]⟩, none, 0, [], 0, 0, 0, 0, none, 0, []⟩ (w1.setCell ⟨w.heap.size, 4, none⟩ (.int .i64 1)) ⟨Sl.nil, ⟨Sl.nil, fun p h => by cases h⟩, ⟨Sl.nil, fun s h => by cases h⟩⟩ ⟨hK64, (show Int64 (0) from by unfold Int64; decide), (show Int64 (0) from by unfold Int64; decide), (show Int64 (0) from by unfold Int64; decide), (show Int64 (0) from by unfold Int64; decide), (show Int64 (0) from by unfold Int64; decide), (show Int64 (0) from by unfold Int64; decide), (show Int64 (0) from by unfold Int64; decide), (show Int64 (0) from by unfold Int64; decide), (show Int64 (0) from by unfold Int64; decide), (fun x h => by cases h), by simp, (show (⟨#[]⟩ : ByteArray).size ≤ 1073741824 from by decide), ⟨by simp, fun p h => by cases h⟩, (show (batL ⟨#[]⟩ []).length ≤ 500000 from by decide +kernel), by simp, fun s h => by cases h⟩ (hT.g hG2)
    rw [show codeO 1 (encR (RecM.p ⟨K, 0, 0, false, ⟨1, 0, 0⟩, 0, 0, 0, none, 0, [], ⟨#[]⟩, none, 0, [], 0, 0, 0, 0, none, 0, []⟩)) = 1 from (show codeO 1 (encR ⟨K, 0, 0, false, ⟨1, 0, 0⟩, 0, 0, 0, [], ⟨#[]⟩, [], 0, 0, 0, 0, []⟩) = 1 from by rcases hKc.out with e | e | e | e | e | e | e | e | e <;> first | (exact absurd e (by assumption)) | (rw [e]; decide +kernel))] at hc2
    unfold RecM.cells at hc2
    dsimp only [List.length_nil, List.length_cons, Nat.zero_add] at hc2
    replace hc2 := Lib.hid hc2
    clear hbt B2 B2s hGs hgx B1' hgn
    go_wp2_with (first | (refine wpList_load_at rfl (by kernel_rfl) (p := .pointer (some ⟨_, 0, none⟩)) rfl (by assumption) ?_) | (go_at_call 12; with_reducible refine Calls.mono hc2.out ?_; rintro e w4 ⟨rfl, hg4⟩) | (go_at_call 8; refine Calls.mono (awake12_any _ (hT.g (hG2.trans hg4))) ?_; rintro e w5 ⟨rfl, hg5⟩))
    go_ret
    exact ⟨ret_bool (by rfl), (hG2.trans hg4).trans hg5⟩
end Go.Proofs.YthafeaclpcjjbaaDoor
/- penstocklaw12.RecFields, of a kind of 3: the walk. Condition: the decoder's tables lie as the library lays them. -/
namespace Go.Proofs.YthafeaclpcjjbaaDoor
open Go.RowKit

set_option maxRecDepth 100000 in
set_option maxHeartbeats 4000000 in
theorem recFields3_any (what : Int) (w : World) (hwh : -9223372036854775808 ≤ what ∧ what ≤ 9223372036854775807) (hT : Tabs w) : Calls Tryd.prog 5 #[.int .i64 3, .int .i64 what] w fun e w' => e = .returned (.bool true) ∧ G w w' := by
  have hrd := fun w' => round_any what 7 w' (by omega) (by omega) hwh.1 hwh.2
  have h70 := Int.emod_nonneg what (show (7 : Int) ≠ 0 by omega)
  have h77 := Int.emod_lt_of_pos what (show (0 : Int) < 7 by omega)
  generalize what % 7 = r at *
  have hr : r = 0 ∨ r = 1 ∨ r = 2 ∨ r = 3 ∨ r = 4 ∨ r = 5 ∨ r = 6 := by omega
  replace hrd := Lib.hid hrd
  clear h70 h77 hwh
  go_enter Tryd.func5, Tryd.ntmps5
  go_upto_region 6 with fail
  have hG0 := ((G.new w (.cells #[.int .i64 3, .int .i64 0, .int .i64 0, .bool false, .int .i64 0, .int .i64 0, .int .i64 0, .int .i64 0, .int .i64 0, .int .i64 0, .slice none 0 0, .string ⟨#[]⟩, .slice (some ⟨w.heap.size + 1 + 1, 0, none⟩) 1 1, .int .i64 0, .int .i64 0, .int .i64 0, .int .i64 0, .slice none 0 0] 37)).alloc (.cells #[.string ⟨#[120]⟩] 9)).alloc (.cells #[.string ⟨#[97]⟩, .int .i64 0, .slice (some ⟨w.heap.size + 1, 0, none⟩) 1 1] 51)
  have B0 := ((G.new (w.alloc (.cells #[.int .i64 3, .int .i64 0, .int .i64 0, .bool false, .int .i64 0, .int .i64 0, .int .i64 0, .int .i64 0, .int .i64 0, .int .i64 0, .slice none 0 0, .string ⟨#[]⟩, .slice (some ⟨w.heap.size + 1 + 1, 0, none⟩) 1 1, .int .i64 0, .int .i64 0, .int .i64 0, .int .i64 0, .slice none 0 0] 37)) (.cells #[.string ⟨#[120]⟩] 9)).alloc (.cells #[.string ⟨#[97]⟩, .int .i64 0, .slice (some ⟨w.heap.size + 1, 0, none⟩) 1 1] 51)).blk (blk_new w #[.int .i64 3, .int .i64 0, .int .i64 0, .bool false, .int .i64 0, .int .i64 0, .int .i64 0, .int .i64 0, .int .i64 0, .int .i64 0, .slice none 0 0, .string ⟨#[]⟩, .slice (some ⟨w.heap.size + 1 + 1, 0, none⟩) 1 1, .int .i64 0, .int .i64 0, .int .i64 0, .int .i64 0, .slice none 0 0] 37)
  have S0 := (G.new ((w.alloc (.cells #[.int .i64 3, .int .i64 0, .int .i64 0, .bool false, .int .i64 0, .int .i64 0, .int .i64 0, .int .i64 0, .int .i64 0, .int .i64 0, .slice none 0 0, .string ⟨#[]⟩, .slice (some ⟨w.heap.size + 1 + 1, 0, none⟩) 1 1, .int .i64 0, .int .i64 0, .int .i64 0, .int .i64 0, .slice none 0 0] 37)).alloc (.cells #[.string ⟨#[120]⟩] 9)) (.cells #[.string ⟨#[97]⟩, .int .i64 0, .slice (some ⟨w.heap.size + 1, 0, none⟩) 1 1] 51)).blk (blk_new' (w.alloc (.cells #[.int .i64 3, .int .i64 0, .int .i64 0, .bool false, .int .i64 0, .int .i64 0, .int .i64 0, .int .i64 0, .int .i64 0, .int .i64 0, .slice none 0 0, .string ⟨#[]⟩, .slice (some ⟨w.heap.size + 1 + 1, 0, none⟩) 1 1, .int .i64 0, .int .i64 0, .int .i64 0, .int .i64 0, .slice none 0 0] 37)) #[.string ⟨#[120]⟩] 9 (w.heap.size + 1) (by simp))
  have P0 := blk_new' ((w.alloc (.cells #[.int .i64 3, .int .i64 0, .int .i64 0, .bool false, .int .i64 0, .int .i64 0, .int .i64 0, .int .i64 0, .int .i64 0, .int .i64 0, .slice none 0 0, .string ⟨#[]⟩, .slice (some ⟨w.heap.size + 1 + 1, 0, none⟩) 1 1, .int .i64 0, .int .i64 0, .int .i64 0, .int .i64 0, .slice none 0 0] 37)).alloc (.cells #[.string ⟨#[120]⟩] 9)) #[.string ⟨#[97]⟩, .int .i64 0, .slice (some ⟨w.heap.size + 1, 0, none⟩) 1 1] 51 (w.heap.size + 1 + 1) (by simp)
  generalize ((w.alloc (.cells #[.int .i64 3, .int .i64 0, .int .i64 0, .bool false, .int .i64 0, .int .i64 0, .int .i64 0, .int .i64 0, .int .i64 0, .int .i64 0, .slice none 0 0, .string ⟨#[]⟩, .slice (some ⟨w.heap.size + 1 + 1, 0, none⟩) 1 1, .int .i64 0, .int .i64 0, .int .i64 0, .int .i64 0, .slice none 0 0] 37)).alloc (.cells #[.string ⟨#[120]⟩] 9)).alloc (.cells #[.string ⟨#[97]⟩, .int .i64 0, .slice (some ⟨w.heap.size + 1, 0, none⟩) 1 1] 51) = W0 at *
  have hbz := blk_lt B0
  have LR := load_blk (P := Tryd.prog) (T := 37) B0 Tryd.underlying37 rfl (by kernel_rfl)
  have hc0 := recCheck_any ⟨3, 0, 0, false, ⟨0, 0, 0⟩, 0, 0, 0, none, 0, [], ⟨#[]⟩, some ⟨w.heap.size + 1 + 1, 0, none⟩, 1, [⟨⟨#[97]⟩, 0, some ⟨w.heap.size + 1, 0, none⟩, 1, [⟨#[120]⟩]⟩], 0, 0, 0, 0, none, 0, []⟩ W0 ⟨Sl.nil, ⟨Sl.of_blk PutM.cells_len [⟨⟨#[97]⟩, 0, some ⟨w.heap.size + 1, 0, none⟩, 1, [⟨#[120]⟩]⟩] P0 rfl (blk_lt P0), fun p h => by simp at h; subst h; exact Sl.of_blk strC_len [⟨#[120]⟩] S0 rfl (blk_lt S0)⟩, ⟨Sl.nil, fun s h => by cases h⟩⟩ ⟨(show Int64 (3) from by unfold Int64; decide), (show Int64 (0) from by unfold Int64; decide), (show Int64 (0) from by unfold Int64; decide), (show Int64 (0) from by unfold Int64; decide), (show Int64 (0) from by unfold Int64; decide), (show Int64 (0) from by unfold Int64; decide), (show Int64 (0) from by unfold Int64; decide), (show Int64 (0) from by unfold Int64; decide), (show Int64 (0) from by unfold Int64; decide), (show Int64 (0) from by unfold Int64; decide), (fun x h => by cases h), by simp, (show (⟨#[]⟩ : ByteArray).size ≤ 1073741824 from by decide), ⟨by simp, fun p h => by simp at h; subst h; exact ⟨(show (⟨#[97]⟩ : ByteArray).size ≤ 1073741824 from by decide), by simp, by simp, fun s h => by simp at h; subst h; exact (show (⟨#[120]⟩ : ByteArray).size ≤ 1073741824 from by decide)⟩⟩, (show (batL ⟨#[]⟩ [⟨⟨#[97]⟩, 0, [⟨#[120]⟩]⟩]).length ≤ 500000 from by decide +kernel), by simp, fun s h => by cases h⟩ (hT.g hG0)
  rw [show codeO 1 (encR (RecM.p ⟨3, 0, 0, false, ⟨0, 0, 0⟩, 0, 0, 0, none, 0, [], ⟨#[]⟩, some ⟨w.heap.size + 1 + 1, 0, none⟩, 1, [⟨⟨#[97]⟩, 0, some ⟨w.heap.size + 1, 0, none⟩, 1, [⟨#[120]⟩]⟩], 0, 0, 0, 0, none, 0, []⟩)) = 0 from (show codeO 1 (encR ⟨3, 0, 0, false, ⟨0, 0, 0⟩, 0, 0, 0, [], ⟨#[]⟩, [⟨⟨#[97]⟩, 0, [⟨#[120]⟩]⟩], 0, 0, 0, 0, []⟩) = 0 from by decide +kernel)] at hc0
  unfold RecM.cells at hc0
  dsimp only [List.length_nil, List.length_cons, Nat.zero_add] at hc0
  replace hc0 := Lib.hid hc0
  go_upto_region 9 with (first | (refine wpList_load_at rfl (by kernel_rfl) (p := .pointer (some ⟨_, 0, none⟩)) rfl (by assumption) ?_) | (go_at_call 12; with_reducible refine Calls.mono hc0.out ?_; rintro e w1 ⟨rfl, hg1⟩))
  clear LR hc0
  have B1 := hg1.blk B0
  have S1 := hg1.blk S0
  have P1 := hg1.blk P0
  have hG1 := hG0.trans hg1
  have hT1 := hT.g hG1
  have hbz1 := blk_lt B1
  replace B0 := Lib.hid B0
  go_upto_region 10 with (go_at_call 16; refine Calls.mono (hrd.out _) ?_; rintro e w3 ⟨rfl, rfl⟩)
  rcases hr with rfl | rfl | rfl | rfl | rfl | rfl | rfl
  · have hgn := G.refl w1
    have B1' := hgn.blk B1
    have c0 := (blk_cell B1' 1).trans (show _ = some (.int .i64 0) from rfl)
    have c1 : w1.frozen? ⟨w.heap.size, 1, none⟩ = false := by simp only [World.frozen?, B1']; rfl
    have B2s : (w1.setCell ⟨w.heap.size, 1, none⟩ (.int .i64 1)).heap[w.heap.size]? = some (.cells #[.int .i64 3, .int .i64 1, .int .i64 0, .bool false, .int .i64 0, .int .i64 0, .int .i64 0, .int .i64 0, .int .i64 0, .int .i64 0, .slice none 0 0, .string ⟨#[]⟩, .slice (some ⟨w.heap.size + 1 + 1, 0, none⟩) 1 1, .int .i64 0, .int .i64 0, .int .i64 0, .int .i64 0, .slice none 0 0] 37 (0, 0)) := by rw [blk_put B1]; rfl
    have hbt := but_set w1 w.heap.size 1 (.int .i64 1)
    have hGs : G w (w1.setCell ⟨w.heap.size, 1, none⟩ (.int .i64 1)) := hG1.set (Nat.le_refl _) _
    have hgx := G.refl (w1.setCell ⟨w.heap.size, 1, none⟩ (.int .i64 1))
    have B2 := hgx.blk B2s
    have hG2 := hGs.trans hgx
    have S2 := hgx.blk (hbt.blk S1 (by omega))
    have P2 := hgx.blk (hbt.blk P1 (by omega))
    have LR := load_blk (P := Tryd.prog) (T := 37) B2 Tryd.underlying37 rfl (by kernel_rfl)
    have hc2 := recCheck_any ⟨3, 1, 0, false, ⟨0, 0, 0⟩, 0, 0, 0, none, 0, [], ⟨#[]⟩, some ⟨w.heap.size + 1 + 1, 0, none⟩, 1, [⟨⟨#[97]⟩, 0, some ⟨w.heap.size + 1, 0, none⟩, 1, [⟨#[120]⟩]⟩], 0, 0, 0, 0, none, 0, []⟩ (w1.setCell ⟨w.heap.size, 1, none⟩ (.int .i64 1)) ⟨Sl.nil, ⟨Sl.of_blk PutM.cells_len [⟨⟨#[97]⟩, 0, some ⟨w.heap.size + 1, 0, none⟩, 1, [⟨#[120]⟩]⟩] P2 rfl (blk_lt P2), fun p h => by simp at h; subst h; exact Sl.of_blk strC_len [⟨#[120]⟩] S2 rfl (blk_lt S2)⟩, ⟨Sl.nil, fun s h => by cases h⟩⟩ ⟨(show Int64 (3) from by unfold Int64; decide), (show Int64 (1) from by unfold Int64; decide), (show Int64 (0) from by unfold Int64; decide), (show Int64 (0) from by unfold Int64; decide), (show Int64 (0) from by unfold Int64; decide), (show Int64 (0) from by unfold Int64; decide), (show Int64 (0) from by unfold Int64; decide), (show Int64 (0) from by unfold Int64; decide), (show Int64 (0) from by unfold Int64; decide), (show Int64 (0) from by unfold Int64; decide), (fun x h => by cases h), by simp, (show (⟨#[]⟩ : ByteArray).size ≤ 1073741824 from by decide), ⟨by simp, fun p h => by simp at h; subst h; exact ⟨(show (⟨#[97]⟩ : ByteArray).size ≤ 1073741824 from by decide), by simp, by simp, fun s h => by simp at h; subst h; exact (show (⟨#[120]⟩ : ByteArray).size ≤ 1073741824 from by decide)⟩⟩, (show (batL ⟨#[]⟩ [⟨⟨#[97]⟩, 0, [⟨#[120]⟩]⟩]).length ≤ 500000 from by decide +kernel), by simp, fun s h => by cases h⟩ (hT.g hG2)
    rw [show codeO 1 (encR (RecM.p ⟨3, 1, 0, false, ⟨0, 0, 0⟩, 0, 0, 0, none, 0, [], ⟨#[]⟩, some ⟨w.heap.size + 1 + 1, 0, none⟩, 1, [⟨⟨#[97]⟩, 0, some ⟨w.heap.size + 1, 0, none⟩, 1, [⟨#[120]⟩]⟩], 0, 0, 0, 0, none, 0, []⟩)) = 1 from (show codeO 1 (encR ⟨3, 1, 0, false, ⟨0, 0, 0⟩, 0, 0, 0, [], ⟨#[]⟩, [⟨⟨#[97]⟩, 0, [⟨#[120]⟩]⟩], 0, 0, 0, 0, []⟩) = 1 from by decide +kernel)] at hc2
    unfold RecM.cells at hc2
    dsimp only [List.length_nil, List.length_cons, Nat.zero_add] at hc2
    replace hc2 := Lib.hid hc2
    clear hbt B2 B2s hGs hgx B1' hgn S2 P2
    go_wp2_with (first | (refine wpList_load_at rfl (by kernel_rfl) (p := .pointer (some ⟨_, 0, none⟩)) rfl (by assumption) ?_) | (go_at_call 12; with_reducible refine Calls.mono hc2.out ?_; rintro e w4 ⟨rfl, hg4⟩) | (go_at_call 8; refine Calls.mono (awake12_any _ (hT.g (hG2.trans hg4))) ?_; rintro e w5 ⟨rfl, hg5⟩))
    go_ret
    exact ⟨ret_bool (by rfl), (hG2.trans hg4).trans hg5⟩
  · have hgn := G.refl w1
    have B1' := hgn.blk B1
    have c0 := (blk_cell B1' 2).trans (show _ = some (.int .i64 0) from rfl)
    have c1 : w1.frozen? ⟨w.heap.size, 2, none⟩ = false := by simp only [World.frozen?, B1']; rfl
    have B2s : (w1.setCell ⟨w.heap.size, 2, none⟩ (.int .i64 1)).heap[w.heap.size]? = some (.cells #[.int .i64 3, .int .i64 0, .int .i64 1, .bool false, .int .i64 0, .int .i64 0, .int .i64 0, .int .i64 0, .int .i64 0, .int .i64 0, .slice none 0 0, .string ⟨#[]⟩, .slice (some ⟨w.heap.size + 1 + 1, 0, none⟩) 1 1, .int .i64 0, .int .i64 0, .int .i64 0, .int .i64 0, .slice none 0 0] 37 (0, 0)) := by rw [blk_put B1]; rfl
    have hbt := but_set w1 w.heap.size 2 (.int .i64 1)
    have hGs : G w (w1.setCell ⟨w.heap.size, 2, none⟩ (.int .i64 1)) := hG1.set (Nat.le_refl _) _
    have hgx := G.refl (w1.setCell ⟨w.heap.size, 2, none⟩ (.int .i64 1))
    have B2 := hgx.blk B2s
    have hG2 := hGs.trans hgx
    have S2 := hgx.blk (hbt.blk S1 (by omega))
    have P2 := hgx.blk (hbt.blk P1 (by omega))
    have LR := load_blk (P := Tryd.prog) (T := 37) B2 Tryd.underlying37 rfl (by kernel_rfl)
    have hc2 := recCheck_any ⟨3, 0, 1, false, ⟨0, 0, 0⟩, 0, 0, 0, none, 0, [], ⟨#[]⟩, some ⟨w.heap.size + 1 + 1, 0, none⟩, 1, [⟨⟨#[97]⟩, 0, some ⟨w.heap.size + 1, 0, none⟩, 1, [⟨#[120]⟩]⟩], 0, 0, 0, 0, none, 0, []⟩ (w1.setCell ⟨w.heap.size, 2, none⟩ (.int .i64 1)) ⟨Sl.nil, ⟨Sl.of_blk PutM.cells_len [⟨⟨#[97]⟩, 0, some ⟨w.heap.size + 1, 0, none⟩, 1, [⟨#[120]⟩]⟩] P2 rfl (blk_lt P2), fun p h => by simp at h; subst h; exact Sl.of_blk strC_len [⟨#[120]⟩] S2 rfl (blk_lt S2)⟩, ⟨Sl.nil, fun s h => by cases h⟩⟩ ⟨(show Int64 (3) from by unfold Int64; decide), (show Int64 (0) from by unfold Int64; decide), (show Int64 (1) from by unfold Int64; decide), (show Int64 (0) from by unfold Int64; decide), (show Int64 (0) from by unfold Int64; decide), (show Int64 (0) from by unfold Int64; decide), (show Int64 (0) from by unfold Int64; decide), (show Int64 (0) from by unfold Int64; decide), (show Int64 (0) from by unfold Int64; decide), (show Int64 (0) from by unfold Int64; decide), (fun x h => by cases h), by simp, (show (⟨#[]⟩ : ByteArray).size ≤ 1073741824 from by decide), ⟨by simp, fun p h => by simp at h; subst h; exact ⟨(show (⟨#[97]⟩ : ByteArray).size ≤ 1073741824 from by decide), by simp, by simp, fun s h => by simp at h; subst h; exact (show (⟨#[120]⟩ : ByteArray).size ≤ 1073741824 from by decide)⟩⟩, (show (batL ⟨#[]⟩ [⟨⟨#[97]⟩, 0, [⟨#[120]⟩]⟩]).length ≤ 500000 from by decide +kernel), by simp, fun s h => by cases h⟩ (hT.g hG2)
    rw [show codeO 1 (encR (RecM.p ⟨3, 0, 1, false, ⟨0, 0, 0⟩, 0, 0, 0, none, 0, [], ⟨#[]⟩, some ⟨w.heap.size + 1 + 1, 0, none⟩, 1, [⟨⟨#[97]⟩, 0, some ⟨w.heap.size + 1, 0, none⟩, 1, [⟨#[120]⟩]⟩], 0, 0, 0, 0, none, 0, []⟩)) = 1 from (show codeO 1 (encR ⟨3, 0, 1, false, ⟨0, 0, 0⟩, 0, 0, 0, [], ⟨#[]⟩, [⟨⟨#[97]⟩, 0, [⟨#[120]⟩]⟩], 0, 0, 0, 0, []⟩) = 1 from by decide +kernel)] at hc2
    unfold RecM.cells at hc2
    dsimp only [List.length_nil, List.length_cons, Nat.zero_add] at hc2
    replace hc2 := Lib.hid hc2
    clear hbt B2 B2s hGs hgx B1' hgn S2 P2
    go_wp2_with (first | (refine wpList_load_at rfl (by kernel_rfl) (p := .pointer (some ⟨_, 0, none⟩)) rfl (by assumption) ?_) | (go_at_call 12; with_reducible refine Calls.mono hc2.out ?_; rintro e w4 ⟨rfl, hg4⟩) | (go_at_call 8; refine Calls.mono (awake12_any _ (hT.g (hG2.trans hg4))) ?_; rintro e w5 ⟨rfl, hg5⟩))
    go_ret
    exact ⟨ret_bool (by rfl), (hG2.trans hg4).trans hg5⟩
  · have hgn := G.refl w1
    have B1' := hgn.blk B1
    have c0 := (blk_cell B1' 3).trans (show _ = some (.bool false) from rfl)
    have c1 : w1.frozen? ⟨w.heap.size, 3, none⟩ = false := by simp only [World.frozen?, B1']; rfl
    have B2s : (w1.setCell ⟨w.heap.size, 3, none⟩ (.bool true)).heap[w.heap.size]? = some (.cells #[.int .i64 3, .int .i64 0, .int .i64 0, .bool true, .int .i64 0, .int .i64 0, .int .i64 0, .int .i64 0, .int .i64 0, .int .i64 0, .slice none 0 0, .string ⟨#[]⟩, .slice (some ⟨w.heap.size + 1 + 1, 0, none⟩) 1 1, .int .i64 0, .int .i64 0, .int .i64 0, .int .i64 0, .slice none 0 0] 37 (0, 0)) := by rw [blk_put B1]; rfl
    have hbt := but_set w1 w.heap.size 3 (.bool true)
    have hGs : G w (w1.setCell ⟨w.heap.size, 3, none⟩ (.bool true)) := hG1.set (Nat.le_refl _) _
    have hgx := G.refl (w1.setCell ⟨w.heap.size, 3, none⟩ (.bool true))
    have B2 := hgx.blk B2s
    have hG2 := hGs.trans hgx
    have S2 := hgx.blk (hbt.blk S1 (by omega))
    have P2 := hgx.blk (hbt.blk P1 (by omega))
    have LR := load_blk (P := Tryd.prog) (T := 37) B2 Tryd.underlying37 rfl (by kernel_rfl)
    have hc2 := recCheck_any ⟨3, 0, 0, true, ⟨0, 0, 0⟩, 0, 0, 0, none, 0, [], ⟨#[]⟩, some ⟨w.heap.size + 1 + 1, 0, none⟩, 1, [⟨⟨#[97]⟩, 0, some ⟨w.heap.size + 1, 0, none⟩, 1, [⟨#[120]⟩]⟩], 0, 0, 0, 0, none, 0, []⟩ (w1.setCell ⟨w.heap.size, 3, none⟩ (.bool true)) ⟨Sl.nil, ⟨Sl.of_blk PutM.cells_len [⟨⟨#[97]⟩, 0, some ⟨w.heap.size + 1, 0, none⟩, 1, [⟨#[120]⟩]⟩] P2 rfl (blk_lt P2), fun p h => by simp at h; subst h; exact Sl.of_blk strC_len [⟨#[120]⟩] S2 rfl (blk_lt S2)⟩, ⟨Sl.nil, fun s h => by cases h⟩⟩ ⟨(show Int64 (3) from by unfold Int64; decide), (show Int64 (0) from by unfold Int64; decide), (show Int64 (0) from by unfold Int64; decide), (show Int64 (0) from by unfold Int64; decide), (show Int64 (0) from by unfold Int64; decide), (show Int64 (0) from by unfold Int64; decide), (show Int64 (0) from by unfold Int64; decide), (show Int64 (0) from by unfold Int64; decide), (show Int64 (0) from by unfold Int64; decide), (show Int64 (0) from by unfold Int64; decide), (fun x h => by cases h), by simp, (show (⟨#[]⟩ : ByteArray).size ≤ 1073741824 from by decide), ⟨by simp, fun p h => by simp at h; subst h; exact ⟨(show (⟨#[97]⟩ : ByteArray).size ≤ 1073741824 from by decide), by simp, by simp, fun s h => by simp at h; subst h; exact (show (⟨#[120]⟩ : ByteArray).size ≤ 1073741824 from by decide)⟩⟩, (show (batL ⟨#[]⟩ [⟨⟨#[97]⟩, 0, [⟨#[120]⟩]⟩]).length ≤ 500000 from by decide +kernel), by simp, fun s h => by cases h⟩ (hT.g hG2)
    rw [show codeO 1 (encR (RecM.p ⟨3, 0, 0, true, ⟨0, 0, 0⟩, 0, 0, 0, none, 0, [], ⟨#[]⟩, some ⟨w.heap.size + 1 + 1, 0, none⟩, 1, [⟨⟨#[97]⟩, 0, some ⟨w.heap.size + 1, 0, none⟩, 1, [⟨#[120]⟩]⟩], 0, 0, 0, 0, none, 0, []⟩)) = 1 from (show codeO 1 (encR ⟨3, 0, 0, true, ⟨0, 0, 0⟩, 0, 0, 0, [], ⟨#[]⟩, [⟨⟨#[97]⟩, 0, [⟨#[120]⟩]⟩], 0, 0, 0, 0, []⟩) = 1 from by decide +kernel)] at hc2
    unfold RecM.cells at hc2
    dsimp only [List.length_nil, List.length_cons, Nat.zero_add] at hc2
    replace hc2 := Lib.hid hc2
    clear hbt B2 B2s hGs hgx B1' hgn S2 P2
    go_wp2_with (first | (refine wpList_load_at rfl (by kernel_rfl) (p := .pointer (some ⟨_, 0, none⟩)) rfl (by assumption) ?_) | (go_at_call 12; with_reducible refine Calls.mono hc2.out ?_; rintro e w4 ⟨rfl, hg4⟩) | (go_at_call 8; refine Calls.mono (awake12_any _ (hT.g (hG2.trans hg4))) ?_; rintro e w5 ⟨rfl, hg5⟩))
    go_ret
    exact ⟨ret_bool (by rfl), (hG2.trans hg4).trans hg5⟩
  · have hgn := G.refl w1
    have B1' := hgn.blk B1
    have c0 := (blk_cell B1' 9).trans (show _ = some (.int .i64 0) from rfl)
    have c1 : w1.frozen? ⟨w.heap.size, 9, none⟩ = false := by simp only [World.frozen?, B1']; rfl
    have B2s : (w1.setCell ⟨w.heap.size, 9, none⟩ (.int .i64 1)).heap[w.heap.size]? = some (.cells #[.int .i64 3, .int .i64 0, .int .i64 0, .bool false, .int .i64 0, .int .i64 0, .int .i64 0, .int .i64 0, .int .i64 0, .int .i64 1, .slice none 0 0, .string ⟨#[]⟩, .slice (some ⟨w.heap.size + 1 + 1, 0, none⟩) 1 1, .int .i64 0, .int .i64 0, .int .i64 0, .int .i64 0, .slice none 0 0] 37 (0, 0)) := by rw [blk_put B1]; rfl
    have hbt := but_set w1 w.heap.size 9 (.int .i64 1)
    have hGs : G w (w1.setCell ⟨w.heap.size, 9, none⟩ (.int .i64 1)) := hG1.set (Nat.le_refl _) _
    have hgx := G.refl (w1.setCell ⟨w.heap.size, 9, none⟩ (.int .i64 1))
    have B2 := hgx.blk B2s
    have hG2 := hGs.trans hgx
    have S2 := hgx.blk (hbt.blk S1 (by omega))
    have P2 := hgx.blk (hbt.blk P1 (by omega))
    have LR := load_blk (P := Tryd.prog) (T := 37) B2 Tryd.underlying37 rfl (by kernel_rfl)
    have hc2 := recCheck_any ⟨3, 0, 0, false, ⟨0, 0, 0⟩, 0, 0, 1, none, 0, [], ⟨#[]⟩, some ⟨w.heap.size + 1 + 1, 0, none⟩, 1, [⟨⟨#[97]⟩, 0, some ⟨w.heap.size + 1, 0, none⟩, 1, [⟨#[120]⟩]⟩], 0, 0, 0, 0, none, 0, []⟩ (w1.setCell ⟨w.heap.size, 9, none⟩ (.int .i64 1)) ⟨Sl.nil, ⟨Sl.of_blk PutM.cells_len [⟨⟨#[97]⟩, 0, some ⟨w.heap.size + 1, 0, none⟩, 1, [⟨#[120]⟩]⟩] P2 rfl (blk_lt P2), fun p h => by simp at h; subst h; exact Sl.of_blk strC_len [⟨#[120]⟩] S2 rfl (blk_lt S2)⟩, ⟨Sl.nil, fun s h => by cases h⟩⟩ ⟨(show Int64 (3) from by unfold Int64; decide), (show Int64 (0) from by unfold Int64; decide), (show Int64 (0) from by unfold Int64; decide), (show Int64 (0) from by unfold Int64; decide), (show Int64 (0) from by unfold Int64; decide), (show Int64 (1) from by unfold Int64; decide), (show Int64 (0) from by unfold Int64; decide), (show Int64 (0) from by unfold Int64; decide), (show Int64 (0) from by unfold Int64; decide), (show Int64 (0) from by unfold Int64; decide), (fun x h => by cases h), by simp, (show (⟨#[]⟩ : ByteArray).size ≤ 1073741824 from by decide), ⟨by simp, fun p h => by simp at h; subst h; exact ⟨(show (⟨#[97]⟩ : ByteArray).size ≤ 1073741824 from by decide), by simp, by simp, fun s h => by simp at h; subst h; exact (show (⟨#[120]⟩ : ByteArray).size ≤ 1073741824 from by decide)⟩⟩, (show (batL ⟨#[]⟩ [⟨⟨#[97]⟩, 0, [⟨#[120]⟩]⟩]).length ≤ 500000 from by decide +kernel), by simp, fun s h => by cases h⟩ (hT.g hG2)
    rw [show codeO 1 (encR (RecM.p ⟨3, 0, 0, false, ⟨0, 0, 0⟩, 0, 0, 1, none, 0, [], ⟨#[]⟩, some ⟨w.heap.size + 1 + 1, 0, none⟩, 1, [⟨⟨#[97]⟩, 0, some ⟨w.heap.size + 1, 0, none⟩, 1, [⟨#[120]⟩]⟩], 0, 0, 0, 0, none, 0, []⟩)) = 1 from (show codeO 1 (encR ⟨3, 0, 0, false, ⟨0, 0, 0⟩, 0, 0, 1, [], ⟨#[]⟩, [⟨⟨#[97]⟩, 0, [⟨#[120]⟩]⟩], 0, 0, 0, 0, []⟩) = 1 from by decide +kernel)] at hc2
    unfold RecM.cells at hc2
    dsimp only [List.length_nil, List.length_cons, Nat.zero_add] at hc2
    replace hc2 := Lib.hid hc2
    clear hbt B2 B2s hGs hgx B1' hgn S2 P2
    go_wp2_with (first | (refine wpList_load_at rfl (by kernel_rfl) (p := .pointer (some ⟨_, 0, none⟩)) rfl (by assumption) ?_) | (go_at_call 12; with_reducible refine Calls.mono hc2.out ?_; rintro e w4 ⟨rfl, hg4⟩) | (go_at_call 8; refine Calls.mono (awake12_any _ (hT.g (hG2.trans hg4))) ?_; rintro e w5 ⟨rfl, hg5⟩))
    go_ret
    exact ⟨ret_bool (by rfl), (hG2.trans hg4).trans hg5⟩
  · have hgn := G.new w1 (.cells #[.int .i64 1] 3)
    have B1' := hgn.blk B1
    have c0 := (blk_cell B1' 10).trans (show _ = some (.slice none 0 0) from rfl)
    have c1 : (w1.alloc (.cells #[.int .i64 1] 3)).frozen? ⟨w.heap.size, 10, none⟩ = false := by simp only [World.frozen?, B1']; rfl
    have B2s : (w1.setCell ⟨w.heap.size, 10, none⟩ (.slice (some ⟨w1.heap.size, 0, none⟩) 1 1)).heap[w.heap.size]? = some (.cells #[.int .i64 3, .int .i64 0, .int .i64 0, .bool false, .int .i64 0, .int .i64 0, .int .i64 0, .int .i64 0, .int .i64 0, .int .i64 0, .slice (some ⟨w1.heap.size, 0, none⟩) 1 1, .string ⟨#[]⟩, .slice (some ⟨w.heap.size + 1 + 1, 0, none⟩) 1 1, .int .i64 0, .int .i64 0, .int .i64 0, .int .i64 0, .slice none 0 0] 37 (0, 0)) := by rw [blk_put B1]; rfl
    have hbt := but_set w1 w.heap.size 10 (.slice (some ⟨w1.heap.size, 0, none⟩) 1 1)
    have hGs : G w (w1.setCell ⟨w.heap.size, 10, none⟩ (.slice (some ⟨w1.heap.size, 0, none⟩) 1 1)) := hG1.set (Nat.le_refl _) _
    have hgx := G.new (w1.setCell ⟨w.heap.size, 10, none⟩ (.slice (some ⟨w1.heap.size, 0, none⟩) 1 1)) (.cells #[.int .i64 1] 3)
    have B2 := hgx.blk B2s
    have hG2 := hGs.trans hgx
    have S2 := hgx.blk (hbt.blk S1 (by omega))
    have P2 := hgx.blk (hbt.blk P1 (by omega))
    have N2 := blk_new' (w1.setCell ⟨w.heap.size, 10, none⟩ (.slice (some ⟨w1.heap.size, 0, none⟩) 1 1)) #[.int .i64 1] 3 w1.heap.size (by simp)
    have LR := load_blk (P := Tryd.prog) (T := 37) B2 Tryd.underlying37 rfl (by kernel_rfl)
    have hc2 := recCheck_any ⟨3, 0, 0, false, ⟨0, 0, 0⟩, 0, 0, 0, (some ⟨w1.heap.size, 0, none⟩), 1, [1], ⟨#[]⟩, some ⟨w.heap.size + 1 + 1, 0, none⟩, 1, [⟨⟨#[97]⟩, 0, some ⟨w.heap.size + 1, 0, none⟩, 1, [⟨#[120]⟩]⟩], 0, 0, 0, 0, none, 0, []⟩ ((w1.setCell ⟨w.heap.size, 10, none⟩ (.slice (some ⟨w1.heap.size, 0, none⟩) 1 1)).alloc (.cells #[.int .i64 1] 3)) ⟨(Sl.of_blk intC_len [1] N2 rfl (blk_lt N2)), ⟨Sl.of_blk PutM.cells_len [⟨⟨#[97]⟩, 0, some ⟨w.heap.size + 1, 0, none⟩, 1, [⟨#[120]⟩]⟩] P2 rfl (blk_lt P2), fun p h => by simp at h; subst h; exact Sl.of_blk strC_len [⟨#[120]⟩] S2 rfl (blk_lt S2)⟩, ⟨Sl.nil, fun s h => by cases h⟩⟩ ⟨(show Int64 (3) from by unfold Int64; decide), (show Int64 (0) from by unfold Int64; decide), (show Int64 (0) from by unfold Int64; decide), (show Int64 (0) from by unfold Int64; decide), (show Int64 (0) from by unfold Int64; decide), (show Int64 (0) from by unfold Int64; decide), (show Int64 (0) from by unfold Int64; decide), (show Int64 (0) from by unfold Int64; decide), (show Int64 (0) from by unfold Int64; decide), (show Int64 (0) from by unfold Int64; decide), (fun x h => by simp at h; subst h; exact (show Int64 1 from by unfold Int64; decide)), by simp, (show (⟨#[]⟩ : ByteArray).size ≤ 1073741824 from by decide), ⟨by simp, fun p h => by simp at h; subst h; exact ⟨(show (⟨#[97]⟩ : ByteArray).size ≤ 1073741824 from by decide), by simp, by simp, fun s h => by simp at h; subst h; exact (show (⟨#[120]⟩ : ByteArray).size ≤ 1073741824 from by decide)⟩⟩, (show (batL ⟨#[]⟩ [⟨⟨#[97]⟩, 0, [⟨#[120]⟩]⟩]).length ≤ 500000 from by decide +kernel), by simp, fun s h => by cases h⟩ (hT.g hG2)
    rw [show codeO 1 (encR (RecM.p ⟨3, 0, 0, false, ⟨0, 0, 0⟩, 0, 0, 0, (some ⟨w1.heap.size, 0, none⟩), 1, [1], ⟨#[]⟩, some ⟨w.heap.size + 1 + 1, 0, none⟩, 1, [⟨⟨#[97]⟩, 0, some ⟨w.heap.size + 1, 0, none⟩, 1, [⟨#[120]⟩]⟩], 0, 0, 0, 0, none, 0, []⟩)) = 1 from (show codeO 1 (encR ⟨3, 0, 0, false, ⟨0, 0, 0⟩, 0, 0, 0, [1], ⟨#[]⟩, [⟨⟨#[97]⟩, 0, [⟨#[120]⟩]⟩], 0, 0, 0, 0, []⟩) = 1 from by decide +kernel)] at hc2
    unfold RecM.cells at hc2
    dsimp only [List.length_nil, List.length_cons, Nat.zero_add] at hc2
    replace hc2 := Lib.hid hc2
    clear hbt B2 B2s hGs hgx B1' hgn N2 S2 P2
    go_wp2_with (first | (refine wpList_load_at rfl (by kernel_rfl) (p := .pointer (some ⟨_, 0, none⟩)) rfl (by assumption) ?_) | (go_at_call 12; with_reducible refine Calls.mono hc2.out ?_; rintro e w4 ⟨rfl, hg4⟩) | (go_at_call 8; refine Calls.mono (awake12_any _ (hT.g (hG2.trans hg4))) ?_; rintro e w5 ⟨rfl, hg5⟩))
    go_ret
    exact ⟨ret_bool (by rfl), (hG2.trans hg4).trans hg5⟩
  · have hgn := G.refl w1
    have B1' := hgn.blk B1
    have c0 := (blk_cell B1' 14).trans (show _ = some (.int .i64 0) from rfl)
    have c1 : w1.frozen? ⟨w.heap.size, 14, none⟩ = false := by simp only [World.frozen?, B1']; rfl
    have B2s : (w1.setCell ⟨w.heap.size, 14, none⟩ (.int .i64 1)).heap[w.heap.size]? = some (.cells #[.int .i64 3, .int .i64 0, .int .i64 0, .bool false, .int .i64 0, .int .i64 0, .int .i64 0, .int .i64 0, .int .i64 0, .int .i64 0, .slice none 0 0, .string ⟨#[]⟩, .slice (some ⟨w.heap.size + 1 + 1, 0, none⟩) 1 1, .int .i64 0, .int .i64 1, .int .i64 0, .int .i64 0, .slice none 0 0] 37 (0, 0)) := by rw [blk_put B1]; rfl
    have hbt := but_set w1 w.heap.size 14 (.int .i64 1)
    have hGs : G w (w1.setCell ⟨w.heap.size, 14, none⟩ (.int .i64 1)) := hG1.set (Nat.le_refl _) _
    have hgx := G.refl (w1.setCell ⟨w.heap.size, 14, none⟩ (.int .i64 1))
    have B2 := hgx.blk B2s
    have hG2 := hGs.trans hgx
    have S2 := hgx.blk (hbt.blk S1 (by omega))
    have P2 := hgx.blk (hbt.blk P1 (by omega))
    have LR := load_blk (P := Tryd.prog) (T := 37) B2 Tryd.underlying37 rfl (by kernel_rfl)
    have hc2 := recCheck_any ⟨3, 0, 0, false, ⟨0, 0, 0⟩, 0, 0, 0, none, 0, [], ⟨#[]⟩, some ⟨w.heap.size + 1 + 1, 0, none⟩, 1, [⟨⟨#[97]⟩, 0, some ⟨w.heap.size + 1, 0, none⟩, 1, [⟨#[120]⟩]⟩], 0, 1, 0, 0, none, 0, []⟩ (w1.setCell ⟨w.heap.size, 14, none⟩ (.int .i64 1)) ⟨Sl.nil, ⟨Sl.of_blk PutM.cells_len [⟨⟨#[97]⟩, 0, some ⟨w.heap.size + 1, 0, none⟩, 1, [⟨#[120]⟩]⟩] P2 rfl (blk_lt P2), fun p h => by simp at h; subst h; exact Sl.of_blk strC_len [⟨#[120]⟩] S2 rfl (blk_lt S2)⟩, ⟨Sl.nil, fun s h => by cases h⟩⟩ ⟨(show Int64 (3) from by unfold Int64; decide), (show Int64 (0) from by unfold Int64; decide), (show Int64 (0) from by unfold Int64; decide), (show Int64 (0) from by unfold Int64; decide), (show Int64 (0) from by unfold Int64; decide), (show Int64 (0) from by unfold Int64; decide), (show Int64 (0) from by unfold Int64; decide), (show Int64 (1) from by unfold Int64; decide), (show Int64 (0) from by unfold Int64; decide), (show Int64 (0) from by unfold Int64; decide), (fun x h => by cases h), by simp, (show (⟨#[]⟩ : ByteArray).size ≤ 1073741824 from by decide), ⟨by simp, fun p h => by simp at h; subst h; exact ⟨(show (⟨#[97]⟩ : ByteArray).size ≤ 1073741824 from by decide), by simp, by simp, fun s h => by simp at h; subst h; exact (show (⟨#[120]⟩ : ByteArray).size ≤ 1073741824 from by decide)⟩⟩, (show (batL ⟨#[]⟩ [⟨⟨#[97]⟩, 0, [⟨#[120]⟩]⟩]).length ≤ 500000 from by decide +kernel), by simp, fun s h => by cases h⟩ (hT.g hG2)
    rw [show codeO 1 (encR (RecM.p ⟨3, 0, 0, false, ⟨0, 0, 0⟩, 0, 0, 0, none, 0, [], ⟨#[]⟩, some ⟨w.heap.size + 1 + 1, 0, none⟩, 1, [⟨⟨#[97]⟩, 0, some ⟨w.heap.size + 1, 0, none⟩, 1, [⟨#[120]⟩]⟩], 0, 1, 0, 0, none, 0, []⟩)) = 1 from (show codeO 1 (encR ⟨3, 0, 0, false, ⟨0, 0, 0⟩, 0, 0, 0, [], ⟨#[]⟩, [⟨⟨#[97]⟩, 0, [⟨#[120]⟩]⟩], 0, 1, 0, 0, []⟩) = 1 from by decide +kernel)] at hc2
    unfold RecM.cells at hc2
    dsimp only [List.length_nil, List.length_cons, Nat.zero_add] at hc2
    replace hc2 := Lib.hid hc2
    clear hbt B2 B2s hGs hgx B1' hgn S2 P2
    go_wp2_with (first | (refine wpList_load_at rfl (by kernel_rfl) (p := .pointer (some ⟨_, 0, none⟩)) rfl (by assumption) ?_) | (go_at_call 12; with_reducible refine Calls.mono hc2.out ?_; rintro e w4 ⟨rfl, hg4⟩) | (go_at_call 8; refine Calls.mono (awake12_any _ (hT.g (hG2.trans hg4))) ?_; rintro e w5 ⟨rfl, hg5⟩))
    go_ret
    exact ⟨ret_bool (by rfl), (hG2.trans hg4).trans hg5⟩
  · have hgn := G.refl w1
    have B1' := hgn.blk B1
    have c0 := (blk_cell B1' 4).trans (show _ = some (.int .i64 0) from rfl)
    have c1 : w1.frozen? ⟨w.heap.size, 4, none⟩ = false := by simp only [World.frozen?, B1']; rfl
    have B2s : (w1.setCell ⟨w.heap.size, 4, none⟩ (.int .i64 1)).heap[w.heap.size]? = some (.cells #[.int .i64 3, .int .i64 0, .int .i64 0, .bool false, .int .i64 1, .int .i64 0, .int .i64 0, .int .i64 0, .int .i64 0, .int .i64 0, .slice none 0 0, .string ⟨#[]⟩, .slice (some ⟨w.heap.size + 1 + 1, 0, none⟩) 1 1, .int .i64 0, .int .i64 0, .int .i64 0, .int .i64 0, .slice none 0 0] 37 (0, 0)) := by rw [blk_put B1]; rfl
    have hbt := but_set w1 w.heap.size 4 (.int .i64 1)
    have hGs : G w (w1.setCell ⟨w.heap.size, 4, none⟩ (.int .i64 1)) := hG1.set (Nat.le_refl _) _
    have hgx := G.refl (w1.setCell ⟨w.heap.size, 4, none⟩ (.int .i64 1))
    have B2 := hgx.blk B2s
    have hG2 := hGs.trans hgx
    have S2 := hgx.blk (hbt.blk S1 (by omega))
    have P2 := hgx.blk (hbt.blk P1 (by omega))
    have LR := load_blk (P := Tryd.prog) (T := 37) B2 Tryd.underlying37 rfl (by kernel_rfl)
    have hc2 := recCheck_any ⟨3, 0, 0, false, ⟨1, 0, 0⟩, 0, 0, 0, none, 0, [], ⟨#[]⟩, some ⟨w.heap.size + 1 + 1, 0, none⟩, 1, [⟨⟨#[97]⟩, 0, some ⟨w.heap.size + 1, 0, none⟩, 1, [⟨#[120]⟩]⟩], 0, 0, 0, 0, none, 0, []⟩ (w1.setCell ⟨w.heap.size, 4, none⟩ (.int .i64 1)) ⟨Sl.nil, ⟨Sl.of_blk PutM.cells_len [⟨⟨#[97]⟩, 0, some ⟨w.heap.size + 1, 0, none⟩, 1, [⟨#[120]⟩]⟩] P2 rfl (blk_lt P2), fun p h => by simp at h; subst h; exact Sl.of_blk strC_len [⟨#[120]⟩] S2 rfl (blk_lt S2)⟩, ⟨Sl.nil, fun s h => by cases h⟩⟩ ⟨(show Int64 (3) from by unfold Int64; decide), (show Int64 (0) from by unfold Int64; decide), (show Int64 (0) from by unfold Int64; decide), (show Int64 (0) from by unfold Int64; decide), (show Int64 (0) from by unfold Int64; decide), (show Int64 (0) from by unfold Int64; decide), (show Int64 (0) from by unfold Int64; decide), (show Int64 (0) from by unfold Int64; decide), (show Int64 (0) from by unfold Int64; decide), (show Int64 (0) from by unfold Int64; decide), (fun x h => by cases h), by simp, (show (⟨#[]⟩ : ByteArray).size ≤ 1073741824 from by decide), ⟨by simp, fun p h => by simp at h; subst h; exact ⟨(show (⟨#[97]⟩ : ByteArray).size ≤ 1073741824 from by decide), by simp, by simp, fun s h => by simp at h; subst h; exact (show (⟨#[120]⟩ : ByteArray).size ≤ 1073741824 from by decide)⟩⟩, (show (batL ⟨#[]⟩ [⟨⟨#[97]⟩, 0, [⟨#[120]⟩]⟩]).length ≤ 500000 from by decide +kernel), by simp, fun s h => by cases h⟩ (hT.g hG2)
    rw [show codeO 1 (encR (RecM.p ⟨3, 0, 0, false, ⟨1, 0, 0⟩, 0, 0, 0, none, 0, [], ⟨#[]⟩, some ⟨w.heap.size + 1 + 1, 0, none⟩, 1, [⟨⟨#[97]⟩, 0, some ⟨w.heap.size + 1, 0, none⟩, 1, [⟨#[120]⟩]⟩], 0, 0, 0, 0, none, 0, []⟩)) = 0 from (show codeO 1 (encR ⟨3, 0, 0, false, ⟨1, 0, 0⟩, 0, 0, 0, [], ⟨#[]⟩, [⟨⟨#[97]⟩, 0, [⟨#[120]⟩]⟩], 0, 0, 0, 0, []⟩) = 0 from by decide +kernel)] at hc2
    unfold RecM.cells at hc2
    dsimp only [List.length_nil, List.length_cons, Nat.zero_add] at hc2
    replace hc2 := Lib.hid hc2
    clear hbt B2 B2s hGs hgx B1' hgn S2 P2
    go_wp2_with (first | (refine wpList_load_at rfl (by kernel_rfl) (p := .pointer (some ⟨_, 0, none⟩)) rfl (by assumption) ?_) | (go_at_call 12; with_reducible refine Calls.mono hc2.out ?_; rintro e w4 ⟨rfl, hg4⟩) | (go_at_call 8; refine Calls.mono (awake12_any _ (hT.g (hG2.trans hg4))) ?_; rintro e w5 ⟨rfl, hg5⟩))
    go_ret
    exact ⟨ret_bool (by rfl), (hG2.trans hg4).trans hg5⟩
end Go.Proofs.YthafeaclpcjjbaaDoor
/- penstocklaw12.RecFields, of a kind of 4: the walk. Condition: the decoder's tables lie as the library lays them. -/
namespace Go.Proofs.YthafeaclpcjjbaaDoor
open Go.RowKit

set_option maxRecDepth 100000 in
set_option maxHeartbeats 4000000 in
theorem recFields4_any (what : Int) (w : World) (hwh : -9223372036854775808 ≤ what ∧ what ≤ 9223372036854775807) (hT : Tabs w) : Calls Tryd.prog 5 #[.int .i64 4, .int .i64 what] w fun e w' => e = .returned (.bool true) ∧ G w w' := by
  have hrd := fun w' => round_any what 7 w' (by omega) (by omega) hwh.1 hwh.2
  have h70 := Int.emod_nonneg what (show (7 : Int) ≠ 0 by omega)
  have h77 := Int.emod_lt_of_pos what (show (0 : Int) < 7 by omega)
  generalize what % 7 = r at *
  have hr : r = 0 ∨ r = 1 ∨ r = 2 ∨ r = 3 ∨ r = 4 ∨ r = 5 ∨ r = 6 := by omega
  replace hrd := Lib.hid hrd
  clear h70 h77 hwh
  go_enter Tryd.func5, Tryd.ntmps5
  go_upto_region 6 with fail
  have hG0 := ((G.new w (.cells #[.int .i64 4, .int .i64 0, .int .i64 0, .bool false, .int .i64 0, .int .i64 0, .int .i64 0, .int .i64 0, .int .i64 0, .int .i64 0, .slice none 0 0, .string ⟨#[]⟩, .slice (some ⟨w.heap.size + 1 + 1, 0, none⟩) 1 1, .int .i64 0, .int .i64 0, .int .i64 0, .int .i64 0, .slice none 0 0] 37)).alloc (.cells #[.string ⟨#[120]⟩] 9)).alloc (.cells #[.string ⟨#[97]⟩, .int .i64 0, .slice (some ⟨w.heap.size + 1, 0, none⟩) 1 1] 51)
  have B0 := ((G.new (w.alloc (.cells #[.int .i64 4, .int .i64 0, .int .i64 0, .bool false, .int .i64 0, .int .i64 0, .int .i64 0, .int .i64 0, .int .i64 0, .int .i64 0, .slice none 0 0, .string ⟨#[]⟩, .slice (some ⟨w.heap.size + 1 + 1, 0, none⟩) 1 1, .int .i64 0, .int .i64 0, .int .i64 0, .int .i64 0, .slice none 0 0] 37)) (.cells #[.string ⟨#[120]⟩] 9)).alloc (.cells #[.string ⟨#[97]⟩, .int .i64 0, .slice (some ⟨w.heap.size + 1, 0, none⟩) 1 1] 51)).blk (blk_new w #[.int .i64 4, .int .i64 0, .int .i64 0, .bool false, .int .i64 0, .int .i64 0, .int .i64 0, .int .i64 0, .int .i64 0, .int .i64 0, .slice none 0 0, .string ⟨#[]⟩, .slice (some ⟨w.heap.size + 1 + 1, 0, none⟩) 1 1, .int .i64 0, .int .i64 0, .int .i64 0, .int .i64 0, .slice none 0 0] 37)
  have S0 := (G.new ((w.alloc (.cells #[.int .i64 4, .int .i64 0, .int .i64 0, .bool false, .int .i64 0, .int .i64 0, .int .i64 0, .int .i64 0, .int .i64 0, .int .i64 0, .slice none 0 0, .string ⟨#[]⟩, .slice (some ⟨w.heap.size + 1 + 1, 0, none⟩) 1 1, .int .i64 0, .int .i64 0, .int .i64 0, .int .i64 0, .slice none 0 0] 37)).alloc (.cells #[.string ⟨#[120]⟩] 9)) (.cells #[.string ⟨#[97]⟩, .int .i64 0, .slice (some ⟨w.heap.size + 1, 0, none⟩) 1 1] 51)).blk (blk_new' (w.alloc (.cells #[.int .i64 4, .int .i64 0, .int .i64 0, .bool false, .int .i64 0, .int .i64 0, .int .i64 0, .int .i64 0, .int .i64 0, .int .i64 0, .slice none 0 0, .string ⟨#[]⟩, .slice (some ⟨w.heap.size + 1 + 1, 0, none⟩) 1 1, .int .i64 0, .int .i64 0, .int .i64 0, .int .i64 0, .slice none 0 0] 37)) #[.string ⟨#[120]⟩] 9 (w.heap.size + 1) (by simp))
  have P0 := blk_new' ((w.alloc (.cells #[.int .i64 4, .int .i64 0, .int .i64 0, .bool false, .int .i64 0, .int .i64 0, .int .i64 0, .int .i64 0, .int .i64 0, .int .i64 0, .slice none 0 0, .string ⟨#[]⟩, .slice (some ⟨w.heap.size + 1 + 1, 0, none⟩) 1 1, .int .i64 0, .int .i64 0, .int .i64 0, .int .i64 0, .slice none 0 0] 37)).alloc (.cells #[.string ⟨#[120]⟩] 9)) #[.string ⟨#[97]⟩, .int .i64 0, .slice (some ⟨w.heap.size + 1, 0, none⟩) 1 1] 51 (w.heap.size + 1 + 1) (by simp)
  generalize ((w.alloc (.cells #[.int .i64 4, .int .i64 0, .int .i64 0, .bool false, .int .i64 0, .int .i64 0, .int .i64 0, .int .i64 0, .int .i64 0, .int .i64 0, .slice none 0 0, .string ⟨#[]⟩, .slice (some ⟨w.heap.size + 1 + 1, 0, none⟩) 1 1, .int .i64 0, .int .i64 0, .int .i64 0, .int .i64 0, .slice none 0 0] 37)).alloc (.cells #[.string ⟨#[120]⟩] 9)).alloc (.cells #[.string ⟨#[97]⟩, .int .i64 0, .slice (some ⟨w.heap.size + 1, 0, none⟩) 1 1] 51) = W0 at *
  have hbz := blk_lt B0
  have LR := load_blk (P := Tryd.prog) (T := 37) B0 Tryd.underlying37 rfl (by kernel_rfl)
  have hc0 := recCheck_any ⟨4, 0, 0, false, ⟨0, 0, 0⟩, 0, 0, 0, none, 0, [], ⟨#[]⟩, some ⟨w.heap.size + 1 + 1, 0, none⟩, 1, [⟨⟨#[97]⟩, 0, some ⟨w.heap.size + 1, 0, none⟩, 1, [⟨#[120]⟩]⟩], 0, 0, 0, 0, none, 0, []⟩ W0 ⟨Sl.nil, ⟨Sl.of_blk PutM.cells_len [⟨⟨#[97]⟩, 0, some ⟨w.heap.size + 1, 0, none⟩, 1, [⟨#[120]⟩]⟩] P0 rfl (blk_lt P0), fun p h => by simp at h; subst h; exact Sl.of_blk strC_len [⟨#[120]⟩] S0 rfl (blk_lt S0)⟩, ⟨Sl.nil, fun s h => by cases h⟩⟩ ⟨(show Int64 (4) from by unfold Int64; decide), (show Int64 (0) from by unfold Int64; decide), (show Int64 (0) from by unfold Int64; decide), (show Int64 (0) from by unfold Int64; decide), (show Int64 (0) from by unfold Int64; decide), (show Int64 (0) from by unfold Int64; decide), (show Int64 (0) from by unfold Int64; decide), (show Int64 (0) from by unfold Int64; decide), (show Int64 (0) from by unfold Int64; decide), (show Int64 (0) from by unfold Int64; decide), (fun x h => by cases h), by simp, (show (⟨#[]⟩ : ByteArray).size ≤ 1073741824 from by decide), ⟨by simp, fun p h => by simp at h; subst h; exact ⟨(show (⟨#[97]⟩ : ByteArray).size ≤ 1073741824 from by decide), by simp, by simp, fun s h => by simp at h; subst h; exact (show (⟨#[120]⟩ : ByteArray).size ≤ 1073741824 from by decide)⟩⟩, (show (batL ⟨#[]⟩ [⟨⟨#[97]⟩, 0, [⟨#[120]⟩]⟩]).length ≤ 500000 from by decide +kernel), by simp, fun s h => by cases h⟩ (hT.g hG0)
  rw [show codeO 1 (encR (RecM.p ⟨4, 0, 0, false, ⟨0, 0, 0⟩, 0, 0, 0, none, 0, [], ⟨#[]⟩, some ⟨w.heap.size + 1 + 1, 0, none⟩, 1, [⟨⟨#[97]⟩, 0, some ⟨w.heap.size + 1, 0, none⟩, 1, [⟨#[120]⟩]⟩], 0, 0, 0, 0, none, 0, []⟩)) = 0 from (show codeO 1 (encR ⟨4, 0, 0, false, ⟨0, 0, 0⟩, 0, 0, 0, [], ⟨#[]⟩, [⟨⟨#[97]⟩, 0, [⟨#[120]⟩]⟩], 0, 0, 0, 0, []⟩) = 0 from by decide +kernel)] at hc0
  unfold RecM.cells at hc0
  dsimp only [List.length_nil, List.length_cons, Nat.zero_add] at hc0
  replace hc0 := Lib.hid hc0
  go_upto_region 9 with (first | (refine wpList_load_at rfl (by kernel_rfl) (p := .pointer (some ⟨_, 0, none⟩)) rfl (by assumption) ?_) | (go_at_call 12; with_reducible refine Calls.mono hc0.out ?_; rintro e w1 ⟨rfl, hg1⟩))
  clear LR hc0
  have B1 := hg1.blk B0
  have S1 := hg1.blk S0
  have P1 := hg1.blk P0
  have hG1 := hG0.trans hg1
  have hT1 := hT.g hG1
  have hbz1 := blk_lt B1
  replace B0 := Lib.hid B0
  go_upto_region 10 with (go_at_call 16; refine Calls.mono (hrd.out _) ?_; rintro e w3 ⟨rfl, rfl⟩)
  rcases hr with rfl | rfl | rfl | rfl | rfl | rfl | rfl
  · have hgn := G.refl w1
    have B1' := hgn.blk B1
    have c0 := (blk_cell B1' 1).trans (show _ = some (.int .i64 0) from rfl)
    have c1 : w1.frozen? ⟨w.heap.size, 1, none⟩ = false := by simp only [World.frozen?, B1']; rfl
    have B2s : (w1.setCell ⟨w.heap.size, 1, none⟩ (.int .i64 1)).heap[w.heap.size]? = some (.cells #[.int .i64 4, .int .i64 1, .int .i64 0, .bool false, .int .i64 0, .int .i64 0, .int .i64 0, .int .i64 0, .int .i64 0, .int .i64 0, .slice none 0 0, .string ⟨#[]⟩, .slice (some ⟨w.heap.size + 1 + 1, 0, none⟩) 1 1, .int .i64 0, .int .i64 0, .int .i64 0, .int .i64 0, .slice none 0 0] 37 (0, 0)) := by rw [blk_put B1]; rfl
    have hbt := but_set w1 w.heap.size 1 (.int .i64 1)
    have hGs : G w (w1.setCell ⟨w.heap.size, 1, none⟩ (.int .i64 1)) := hG1.set (Nat.le_refl _) _
    have hgx := G.refl (w1.setCell ⟨w.heap.size, 1, none⟩ (.int .i64 1))
    have B2 := hgx.blk B2s
    have hG2 := hGs.trans hgx
    have S2 := hgx.blk (hbt.blk S1 (by omega))
    have P2 := hgx.blk (hbt.blk P1 (by omega))
    have LR := load_blk (P := Tryd.prog) (T := 37) B2 Tryd.underlying37 rfl (by kernel_rfl)
    have hc2 := recCheck_any ⟨4, 1, 0, false, ⟨0, 0, 0⟩, 0, 0, 0, none, 0, [], ⟨#[]⟩, some ⟨w.heap.size + 1 + 1, 0, none⟩, 1, [⟨⟨#[97]⟩, 0, some ⟨w.heap.size + 1, 0, none⟩, 1, [⟨#[120]⟩]⟩], 0, 0, 0, 0, none, 0, []⟩ (w1.setCell ⟨w.heap.size, 1, none⟩ (.int .i64 1)) ⟨Sl.nil, ⟨Sl.of_blk PutM.cells_len [⟨⟨#[97]⟩, 0, some ⟨w.heap.size + 1, 0, none⟩, 1, [⟨#[120]⟩]⟩] P2 rfl (blk_lt P2), fun p h => by simp at h; subst h; exact Sl.of_blk strC_len [⟨#[120]⟩] S2 rfl (blk_lt S2)⟩, ⟨Sl.nil, fun s h => by cases h⟩⟩ ⟨(show Int64 (4) from by unfold Int64; decide), (show Int64 (1) from by unfold Int64; decide), (show Int64 (0) from by unfold Int64; decide), (show Int64 (0) from by unfold Int64; decide), (show Int64 (0) from by unfold Int64; decide), (show Int64 (0) from by unfold Int64; decide), (show Int64 (0) from by unfold Int64; decide), (show Int64 (0) from by unfold Int64; decide), (show Int64 (0) from by unfold Int64; decide), (show Int64 (0) from by unfold Int64; decide), (fun x h => by cases h), by simp, (show (⟨#[]⟩ : ByteArray).size ≤ 1073741824 from by decide), ⟨by simp, fun p h => by simp at h; subst h; exact ⟨(show (⟨#[97]⟩ : ByteArray).size ≤ 1073741824 from by decide), by simp, by simp, fun s h => by simp at h; subst h; exact (show (⟨#[120]⟩ : ByteArray).size ≤ 1073741824 from by decide)⟩⟩, (show (batL ⟨#[]⟩ [⟨⟨#[97]⟩, 0, [⟨#[120]⟩]⟩]).length ≤ 500000 from by decide +kernel), by simp, fun s h => by cases h⟩ (hT.g hG2)
    rw [show codeO 1 (encR (RecM.p ⟨4, 1, 0, false, ⟨0, 0, 0⟩, 0, 0, 0, none, 0, [], ⟨#[]⟩, some ⟨w.heap.size + 1 + 1, 0, none⟩, 1, [⟨⟨#[97]⟩, 0, some ⟨w.heap.size + 1, 0, none⟩, 1, [⟨#[120]⟩]⟩], 0, 0, 0, 0, none, 0, []⟩)) = 1 from (show codeO 1 (encR ⟨4, 1, 0, false, ⟨0, 0, 0⟩, 0, 0, 0, [], ⟨#[]⟩, [⟨⟨#[97]⟩, 0, [⟨#[120]⟩]⟩], 0, 0, 0, 0, []⟩) = 1 from by decide +kernel)] at hc2
    unfold RecM.cells at hc2
    dsimp only [List.length_nil, List.length_cons, Nat.zero_add] at hc2
    replace hc2 := Lib.hid hc2
    clear hbt B2 B2s hGs hgx B1' hgn S2 P2
    go_wp2_with (first | (refine wpList_load_at rfl (by kernel_rfl) (p := .pointer (some ⟨_, 0, none⟩)) rfl (by assumption) ?_) | (go_at_call 12; with_reducible refine Calls.mono hc2.out ?_; rintro e w4 ⟨rfl, hg4⟩) | (go_at_call 8; refine Calls.mono (awake12_any _ (hT.g (hG2.trans hg4))) ?_; rintro e w5 ⟨rfl, hg5⟩))
    go_ret
    exact ⟨ret_bool (by rfl), (hG2.trans hg4).trans hg5⟩
  · have hgn := G.refl w1
    have B1' := hgn.blk B1
    have c0 := (blk_cell B1' 2).trans (show _ = some (.int .i64 0) from rfl)
    have c1 : w1.frozen? ⟨w.heap.size, 2, none⟩ = false := by simp only [World.frozen?, B1']; rfl
    have B2s : (w1.setCell ⟨w.heap.size, 2, none⟩ (.int .i64 1)).heap[w.heap.size]? = some (.cells #[.int .i64 4, .int .i64 0, .int .i64 1, .bool false, .int .i64 0, .int .i64 0, .int .i64 0, .int .i64 0, .int .i64 0, .int .i64 0, .slice none 0 0, .string ⟨#[]⟩, .slice (some ⟨w.heap.size + 1 + 1, 0, none⟩) 1 1, .int .i64 0, .int .i64 0, .int .i64 0, .int .i64 0, .slice none 0 0] 37 (0, 0)) := by rw [blk_put B1]; rfl
    have hbt := but_set w1 w.heap.size 2 (.int .i64 1)
    have hGs : G w (w1.setCell ⟨w.heap.size, 2, none⟩ (.int .i64 1)) := hG1.set (Nat.le_refl _) _
    have hgx := G.refl (w1.setCell ⟨w.heap.size, 2, none⟩ (.int .i64 1))
    have B2 := hgx.blk B2s
    have hG2 := hGs.trans hgx
    have S2 := hgx.blk (hbt.blk S1 (by omega))
    have P2 := hgx.blk (hbt.blk P1 (by omega))
    have LR := load_blk (P := Tryd.prog) (T := 37) B2 Tryd.underlying37 rfl (by kernel_rfl)
    have hc2 := recCheck_any ⟨4, 0, 1, false, ⟨0, 0, 0⟩, 0, 0, 0, none, 0, [], ⟨#[]⟩, some ⟨w.heap.size + 1 + 1, 0, none⟩, 1, [⟨⟨#[97]⟩, 0, some ⟨w.heap.size + 1, 0, none⟩, 1, [⟨#[120]⟩]⟩], 0, 0, 0, 0, none, 0, []⟩ (w1.setCell ⟨w.heap.size, 2, none⟩ (.int .i64 1)) ⟨Sl.nil, ⟨Sl.of_blk PutM.cells_len [⟨⟨#[97]⟩, 0, some ⟨w.heap.size + 1, 0, none⟩, 1, [⟨#[120]⟩]⟩] P2 rfl (blk_lt P2), fun p h => by simp at h; subst h; exact Sl.of_blk strC_len [⟨#[120]⟩] S2 rfl (blk_lt S2)⟩, ⟨Sl.nil, fun s h => by cases h⟩⟩ ⟨(show Int64 (4) from by unfold Int64; decide), (show Int64 (0) from by unfold Int64; decide), (show Int64 (1) from by unfold Int64; decide), (show Int64 (0) from by unfold Int64; decide), (show Int64 (0) from by unfold Int64; decide), (show Int64 (0) from by unfold Int64; decide), (show Int64 (0) from by unfold Int64; decide), (show Int64 (0) from by unfold Int64; decide), (show Int64 (0) from by unfold Int64; decide), (show Int64 (0) from by unfold Int64; decide), (fun x h => by cases h), by simp, (show (⟨#[]⟩ : ByteArray).size ≤ 1073741824 from by decide), ⟨by simp, fun p h => by simp at h; subst h; exact ⟨(show (⟨#[97]⟩ : ByteArray).size ≤ 1073741824 from by decide), by simp, by simp, fun s h => by simp at h; subst h; exact (show (⟨#[120]⟩ : ByteArray).size ≤ 1073741824 from by decide)⟩⟩, (show (batL ⟨#[]⟩ [⟨⟨#[97]⟩, 0, [⟨#[120]⟩]⟩]).length ≤ 500000 from by decide +kernel), by simp, fun s h => by cases h⟩ (hT.g hG2)
    rw [show codeO 1 (encR (RecM.p ⟨4, 0, 1, false, ⟨0, 0, 0⟩, 0, 0, 0, none, 0, [], ⟨#[]⟩, some ⟨w.heap.size + 1 + 1, 0, none⟩, 1, [⟨⟨#[97]⟩, 0, some ⟨w.heap.size + 1, 0, none⟩, 1, [⟨#[120]⟩]⟩], 0, 0, 0, 0, none, 0, []⟩)) = 1 from (show codeO 1 (encR ⟨4, 0, 1, false, ⟨0, 0, 0⟩, 0, 0, 0, [], ⟨#[]⟩, [⟨⟨#[97]⟩, 0, [⟨#[120]⟩]⟩], 0, 0, 0, 0, []⟩) = 1 from by decide +kernel)] at hc2
    unfold RecM.cells at hc2
    dsimp only [List.length_nil, List.length_cons, Nat.zero_add] at hc2
    replace hc2 := Lib.hid hc2
    clear hbt B2 B2s hGs hgx B1' hgn S2 P2
    go_wp2_with (first | (refine wpList_load_at rfl (by kernel_rfl) (p := .pointer (some ⟨_, 0, none⟩)) rfl (by assumption) ?_) | (go_at_call 12; with_reducible refine Calls.mono hc2.out ?_; rintro e w4 ⟨rfl, hg4⟩) | (go_at_call 8; refine Calls.mono (awake12_any _ (hT.g (hG2.trans hg4))) ?_; rintro e w5 ⟨rfl, hg5⟩))
    go_ret
    exact ⟨ret_bool (by rfl), (hG2.trans hg4).trans hg5⟩
  · have hgn := G.refl w1
    have B1' := hgn.blk B1
    have c0 := (blk_cell B1' 3).trans (show _ = some (.bool false) from rfl)
    have c1 : w1.frozen? ⟨w.heap.size, 3, none⟩ = false := by simp only [World.frozen?, B1']; rfl
    have B2s : (w1.setCell ⟨w.heap.size, 3, none⟩ (.bool true)).heap[w.heap.size]? = some (.cells #[.int .i64 4, .int .i64 0, .int .i64 0, .bool true, .int .i64 0, .int .i64 0, .int .i64 0, .int .i64 0, .int .i64 0, .int .i64 0, .slice none 0 0, .string ⟨#[]⟩, .slice (some ⟨w.heap.size + 1 + 1, 0, none⟩) 1 1, .int .i64 0, .int .i64 0, .int .i64 0, .int .i64 0, .slice none 0 0] 37 (0, 0)) := by rw [blk_put B1]; rfl
    have hbt := but_set w1 w.heap.size 3 (.bool true)
    have hGs : G w (w1.setCell ⟨w.heap.size, 3, none⟩ (.bool true)) := hG1.set (Nat.le_refl _) _
    have hgx := G.refl (w1.setCell ⟨w.heap.size, 3, none⟩ (.bool true))
    have B2 := hgx.blk B2s
    have hG2 := hGs.trans hgx
    have S2 := hgx.blk (hbt.blk S1 (by omega))
    have P2 := hgx.blk (hbt.blk P1 (by omega))
    have LR := load_blk (P := Tryd.prog) (T := 37) B2 Tryd.underlying37 rfl (by kernel_rfl)
    have hc2 := recCheck_any ⟨4, 0, 0, true, ⟨0, 0, 0⟩, 0, 0, 0, none, 0, [], ⟨#[]⟩, some ⟨w.heap.size + 1 + 1, 0, none⟩, 1, [⟨⟨#[97]⟩, 0, some ⟨w.heap.size + 1, 0, none⟩, 1, [⟨#[120]⟩]⟩], 0, 0, 0, 0, none, 0, []⟩ (w1.setCell ⟨w.heap.size, 3, none⟩ (.bool true)) ⟨Sl.nil, ⟨Sl.of_blk PutM.cells_len [⟨⟨#[97]⟩, 0, some ⟨w.heap.size + 1, 0, none⟩, 1, [⟨#[120]⟩]⟩] P2 rfl (blk_lt P2), fun p h => by simp at h; subst h; exact Sl.of_blk strC_len [⟨#[120]⟩] S2 rfl (blk_lt S2)⟩, ⟨Sl.nil, fun s h => by cases h⟩⟩ ⟨(show Int64 (4) from by unfold Int64; decide), (show Int64 (0) from by unfold Int64; decide), (show Int64 (0) from by unfold Int64; decide), (show Int64 (0) from by unfold Int64; decide), (show Int64 (0) from by unfold Int64; decide), (show Int64 (0) from by unfold Int64; decide), (show Int64 (0) from by unfold Int64; decide), (show Int64 (0) from by unfold Int64; decide), (show Int64 (0) from by unfold Int64; decide), (show Int64 (0) from by unfold Int64; decide), (fun x h => by cases h), by simp, (show (⟨#[]⟩ : ByteArray).size ≤ 1073741824 from by decide), ⟨by simp, fun p h => by simp at h; subst h; exact ⟨(show (⟨#[97]⟩ : ByteArray).size ≤ 1073741824 from by decide), by simp, by simp, fun s h => by simp at h; subst h; exact (show (⟨#[120]⟩ : ByteArray).size ≤ 1073741824 from by decide)⟩⟩, (show (batL ⟨#[]⟩ [⟨⟨#[97]⟩, 0, [⟨#[120]⟩]⟩]).length ≤ 500000 from by decide +kernel), by simp, fun s h => by cases h⟩ (hT.g hG2)
    rw [show codeO 1 (encR (RecM.p ⟨4, 0, 0, true, ⟨0, 0, 0⟩, 0, 0, 0, none, 0, [], ⟨#[]⟩, some ⟨w.heap.size + 1 + 1, 0, none⟩, 1, [⟨⟨#[97]⟩, 0, some ⟨w.heap.size + 1, 0, none⟩, 1, [⟨#[120]⟩]⟩], 0, 0, 0, 0, none, 0, []⟩)) = 1 from (show codeO 1 (encR ⟨4, 0, 0, true, ⟨0, 0, 0⟩, 0, 0, 0, [], ⟨#[]⟩, [⟨⟨#[97]⟩, 0, [⟨#[120]⟩]⟩], 0, 0, 0, 0, []⟩) = 1 from by decide +kernel)] at hc2
    unfold RecM.cells at hc2
    dsimp only [List.length_nil, List.length_cons, Nat.zero_add] at hc2
    replace hc2 := Lib.hid hc2
    clear hbt B2 B2s hGs hgx B1' hgn S2 P2
    go_wp2_with (first | (refine wpList_load_at rfl (by kernel_rfl) (p := .pointer (some ⟨_, 0, none⟩)) rfl (by assumption) ?_) | (go_at_call 12; with_reducible refine Calls.mono hc2.out ?_; rintro e w4 ⟨rfl, hg4⟩) | (go_at_call 8; refine Calls.mono (awake12_any _ (hT.g (hG2.trans hg4))) ?_; rintro e w5 ⟨rfl, hg5⟩))
    go_ret
    exact ⟨ret_bool (by rfl), (hG2.trans hg4).trans hg5⟩
  · have hgn := G.refl w1
    have B1' := hgn.blk B1
    have c0 := (blk_cell B1' 9).trans (show _ = some (.int .i64 0) from rfl)
    have c1 : w1.frozen? ⟨w.heap.size, 9, none⟩ = false := by simp only [World.frozen?, B1']; rfl
    have B2s : (w1.setCell ⟨w.heap.size, 9, none⟩ (.int .i64 1)).heap[w.heap.size]? = some (.cells #[.int .i64 4, .int .i64 0, .int .i64 0, .bool false, .int .i64 0, .int .i64 0, .int .i64 0, .int .i64 0, .int .i64 0, .int .i64 1, .slice none 0 0, .string ⟨#[]⟩, .slice (some ⟨w.heap.size + 1 + 1, 0, none⟩) 1 1, .int .i64 0, .int .i64 0, .int .i64 0, .int .i64 0, .slice none 0 0] 37 (0, 0)) := by rw [blk_put B1]; rfl
    have hbt := but_set w1 w.heap.size 9 (.int .i64 1)
    have hGs : G w (w1.setCell ⟨w.heap.size, 9, none⟩ (.int .i64 1)) := hG1.set (Nat.le_refl _) _
    have hgx := G.refl (w1.setCell ⟨w.heap.size, 9, none⟩ (.int .i64 1))
    have B2 := hgx.blk B2s
    have hG2 := hGs.trans hgx
    have S2 := hgx.blk (hbt.blk S1 (by omega))
    have P2 := hgx.blk (hbt.blk P1 (by omega))
    have LR := load_blk (P := Tryd.prog) (T := 37) B2 Tryd.underlying37 rfl (by kernel_rfl)
    have hc2 := recCheck_any ⟨4, 0, 0, false, ⟨0, 0, 0⟩, 0, 0, 1, none, 0, [], ⟨#[]⟩, some ⟨w.heap.size + 1 + 1, 0, none⟩, 1, [⟨⟨#[97]⟩, 0, some ⟨w.heap.size + 1, 0, none⟩, 1, [⟨#[120]⟩]⟩], 0, 0, 0, 0, none, 0, []⟩ (w1.setCell ⟨w.heap.size, 9, none⟩ (.int .i64 1)) ⟨Sl.nil, ⟨Sl.of_blk PutM.cells_len [⟨⟨#[97]⟩, 0, some ⟨w.heap.size + 1, 0, none⟩, 1, [⟨#[120]⟩]⟩] P2 rfl (blk_lt P2), fun p h => by simp at h; subst h; exact Sl.of_blk strC_len [⟨#[120]⟩] S2 rfl (blk_lt S2)⟩, ⟨Sl.nil, fun s h => by cases h⟩⟩ ⟨(show Int64 (4) from by unfold Int64; decide), (show Int64 (0) from by unfold Int64; decide), (show Int64 (0) from by unfold Int64; decide), (show Int64 (0) from by unfold Int64; decide), (show Int64 (0) from by unfold Int64; decide), (show Int64 (1) from by unfold Int64; decide), (show Int64 (0) from by unfold Int64; decide), (show Int64 (0) from by unfold Int64; decide), (show Int64 (0) from by unfold Int64; decide), (show Int64 (0) from by unfold Int64; decide), (fun x h => by cases h), by simp, (show (⟨#[]⟩ : ByteArray).size ≤ 1073741824 from by decide), ⟨by simp, fun p h => by simp at h; subst h; exact ⟨(show (⟨#[97]⟩ : ByteArray).size ≤ 1073741824 from by decide), by simp, by simp, fun s h => by simp at h; subst h; exact (show (⟨#[120]⟩ : ByteArray).size ≤ 1073741824 from by decide)⟩⟩, (show (batL ⟨#[]⟩ [⟨⟨#[97]⟩, 0, [⟨#[120]⟩]⟩]).length ≤ 500000 from by decide +kernel), by simp, fun s h => by cases h⟩ (hT.g hG2)
    rw [show codeO 1 (encR (RecM.p ⟨4, 0, 0, false, ⟨0, 0, 0⟩, 0, 0, 1, none, 0, [], ⟨#[]⟩, some ⟨w.heap.size + 1 + 1, 0, none⟩, 1, [⟨⟨#[97]⟩, 0, some ⟨w.heap.size + 1, 0, none⟩, 1, [⟨#[120]⟩]⟩], 0, 0, 0, 0, none, 0, []⟩)) = 0 from (show codeO 1 (encR ⟨4, 0, 0, false, ⟨0, 0, 0⟩, 0, 0, 1, [], ⟨#[]⟩, [⟨⟨#[97]⟩, 0, [⟨#[120]⟩]⟩], 0, 0, 0, 0, []⟩) = 0 from by decide +kernel)] at hc2
    unfold RecM.cells at hc2
    dsimp only [List.length_nil, List.length_cons, Nat.zero_add] at hc2
    replace hc2 := Lib.hid hc2
    clear hbt B2 B2s hGs hgx B1' hgn S2 P2
    go_wp2_with (first | (refine wpList_load_at rfl (by kernel_rfl) (p := .pointer (some ⟨_, 0, none⟩)) rfl (by assumption) ?_) | (go_at_call 12; with_reducible refine Calls.mono hc2.out ?_; rintro e w4 ⟨rfl, hg4⟩) | (go_at_call 8; refine Calls.mono (awake12_any _ (hT.g (hG2.trans hg4))) ?_; rintro e w5 ⟨rfl, hg5⟩))
    go_ret
    exact ⟨ret_bool (by rfl), (hG2.trans hg4).trans hg5⟩
  · have hgn := G.new w1 (.cells #[.int .i64 1] 3)
    have B1' := hgn.blk B1
    have c0 := (blk_cell B1' 10).trans (show _ = some (.slice none 0 0) from rfl)
    have c1 : (w1.alloc (.cells #[.int .i64 1] 3)).frozen? ⟨w.heap.size, 10, none⟩ = false := by simp only [World.frozen?, B1']; rfl
    have B2s : (w1.setCell ⟨w.heap.size, 10, none⟩ (.slice (some ⟨w1.heap.size, 0, none⟩) 1 1)).heap[w.heap.size]? = some (.cells #[.int .i64 4, .int .i64 0, .int .i64 0, .bool false, .int .i64 0, .int .i64 0, .int .i64 0, .int .i64 0, .int .i64 0, .int .i64 0, .slice (some ⟨w1.heap.size, 0, none⟩) 1 1, .string ⟨#[]⟩, .slice (some ⟨w.heap.size + 1 + 1, 0, none⟩) 1 1, .int .i64 0, .int .i64 0, .int .i64 0, .int .i64 0, .slice none 0 0] 37 (0, 0)) := by rw [blk_put B1]; rfl
    have hbt := but_set w1 w.heap.size 10 (.slice (some ⟨w1.heap.size, 0, none⟩) 1 1)
    have hGs : G w (w1.setCell ⟨w.heap.size, 10, none⟩ (.slice (some ⟨w1.heap.size, 0, none⟩) 1 1)) := hG1.set (Nat.le_refl _) _
    have hgx := G.new (w1.setCell ⟨w.heap.size, 10, none⟩ (.slice (some ⟨w1.heap.size, 0, none⟩) 1 1)) (.cells #[.int .i64 1] 3)
    have B2 := hgx.blk B2s
    have hG2 := hGs.trans hgx
    have S2 := hgx.blk (hbt.blk S1 (by omega))
    have P2 := hgx.blk (hbt.blk P1 (by omega))
    have N2 := blk_new' (w1.setCell ⟨w.heap.size, 10, none⟩ (.slice (some ⟨w1.heap.size, 0, none⟩) 1 1)) #[.int .i64 1] 3 w1.heap.size (by simp)
    have LR := load_blk (P := Tryd.prog) (T := 37) B2 Tryd.underlying37 rfl (by kernel_rfl)
    have hc2 := recCheck_any ⟨4, 0, 0, false, ⟨0, 0, 0⟩, 0, 0, 0, (some ⟨w1.heap.size, 0, none⟩), 1, [1], ⟨#[]⟩, some ⟨w.heap.size + 1 + 1, 0, none⟩, 1, [⟨⟨#[97]⟩, 0, some ⟨w.heap.size + 1, 0, none⟩, 1, [⟨#[120]⟩]⟩], 0, 0, 0, 0, none, 0, []⟩ ((w1.setCell ⟨w.heap.size, 10, none⟩ (.slice (some ⟨w1.heap.size, 0, none⟩) 1 1)).alloc (.cells #[.int .i64 1] 3)) ⟨(Sl.of_blk intC_len [1] N2 rfl (blk_lt N2)), ⟨Sl.of_blk PutM.cells_len [⟨⟨#[97]⟩, 0, some ⟨w.heap.size + 1, 0, none⟩, 1, [⟨#[120]⟩]⟩] P2 rfl (blk_lt P2), fun p h => by simp at h; subst h; exact Sl.of_blk strC_len [⟨#[120]⟩] S2 rfl (blk_lt S2)⟩, ⟨Sl.nil, fun s h => by cases h⟩⟩ ⟨(show Int64 (4) from by unfold Int64; decide), (show Int64 (0) from by unfold Int64; decide), (show Int64 (0) from by unfold Int64; decide), (show Int64 (0) from by unfold Int64; decide), (show Int64 (0) from by unfold Int64; decide), (show Int64 (0) from by unfold Int64; decide), (show Int64 (0) from by unfold Int64; decide), (show Int64 (0) from by unfold Int64; decide), (show Int64 (0) from by unfold Int64; decide), (show Int64 (0) from by unfold Int64; decide), (fun x h => by simp at h; subst h; exact (show Int64 1 from by unfold Int64; decide)), by simp, (show (⟨#[]⟩ : ByteArray).size ≤ 1073741824 from by decide), ⟨by simp, fun p h => by simp at h; subst h; exact ⟨(show (⟨#[97]⟩ : ByteArray).size ≤ 1073741824 from by decide), by simp, by simp, fun s h => by simp at h; subst h; exact (show (⟨#[120]⟩ : ByteArray).size ≤ 1073741824 from by decide)⟩⟩, (show (batL ⟨#[]⟩ [⟨⟨#[97]⟩, 0, [⟨#[120]⟩]⟩]).length ≤ 500000 from by decide +kernel), by simp, fun s h => by cases h⟩ (hT.g hG2)
    rw [show codeO 1 (encR (RecM.p ⟨4, 0, 0, false, ⟨0, 0, 0⟩, 0, 0, 0, (some ⟨w1.heap.size, 0, none⟩), 1, [1], ⟨#[]⟩, some ⟨w.heap.size + 1 + 1, 0, none⟩, 1, [⟨⟨#[97]⟩, 0, some ⟨w.heap.size + 1, 0, none⟩, 1, [⟨#[120]⟩]⟩], 0, 0, 0, 0, none, 0, []⟩)) = 1 from (show codeO 1 (encR ⟨4, 0, 0, false, ⟨0, 0, 0⟩, 0, 0, 0, [1], ⟨#[]⟩, [⟨⟨#[97]⟩, 0, [⟨#[120]⟩]⟩], 0, 0, 0, 0, []⟩) = 1 from by decide +kernel)] at hc2
    unfold RecM.cells at hc2
    dsimp only [List.length_nil, List.length_cons, Nat.zero_add] at hc2
    replace hc2 := Lib.hid hc2
    clear hbt B2 B2s hGs hgx B1' hgn N2 S2 P2
    go_wp2_with (first | (refine wpList_load_at rfl (by kernel_rfl) (p := .pointer (some ⟨_, 0, none⟩)) rfl (by assumption) ?_) | (go_at_call 12; with_reducible refine Calls.mono hc2.out ?_; rintro e w4 ⟨rfl, hg4⟩) | (go_at_call 8; refine Calls.mono (awake12_any _ (hT.g (hG2.trans hg4))) ?_; rintro e w5 ⟨rfl, hg5⟩))
    go_ret
    exact ⟨ret_bool (by rfl), (hG2.trans hg4).trans hg5⟩
  · have hgn := G.refl w1
    have B1' := hgn.blk B1
    have c0 := (blk_cell B1' 14).trans (show _ = some (.int .i64 0) from rfl)
    have c1 : w1.frozen? ⟨w.heap.size, 14, none⟩ = false := by simp only [World.frozen?, B1']; rfl
    have B2s : (w1.setCell ⟨w.heap.size, 14, none⟩ (.int .i64 1)).heap[w.heap.size]? = some (.cells #[.int .i64 4, .int .i64 0, .int .i64 0, .bool false, .int .i64 0, .int .i64 0, .int .i64 0, .int .i64 0, .int .i64 0, .int .i64 0, .slice none 0 0, .string ⟨#[]⟩, .slice (some ⟨w.heap.size + 1 + 1, 0, none⟩) 1 1, .int .i64 0, .int .i64 1, .int .i64 0, .int .i64 0, .slice none 0 0] 37 (0, 0)) := by rw [blk_put B1]; rfl
    have hbt := but_set w1 w.heap.size 14 (.int .i64 1)
    have hGs : G w (w1.setCell ⟨w.heap.size, 14, none⟩ (.int .i64 1)) := hG1.set (Nat.le_refl _) _
    have hgx := G.refl (w1.setCell ⟨w.heap.size, 14, none⟩ (.int .i64 1))
    have B2 := hgx.blk B2s
    have hG2 := hGs.trans hgx
    have S2 := hgx.blk (hbt.blk S1 (by omega))
    have P2 := hgx.blk (hbt.blk P1 (by omega))
    have LR := load_blk (P := Tryd.prog) (T := 37) B2 Tryd.underlying37 rfl (by kernel_rfl)
    have hc2 := recCheck_any ⟨4, 0, 0, false, ⟨0, 0, 0⟩, 0, 0, 0, none, 0, [], ⟨#[]⟩, some ⟨w.heap.size + 1 + 1, 0, none⟩, 1, [⟨⟨#[97]⟩, 0, some ⟨w.heap.size + 1, 0, none⟩, 1, [⟨#[120]⟩]⟩], 0, 1, 0, 0, none, 0, []⟩ (w1.setCell ⟨w.heap.size, 14, none⟩ (.int .i64 1)) ⟨Sl.nil, ⟨Sl.of_blk PutM.cells_len [⟨⟨#[97]⟩, 0, some ⟨w.heap.size + 1, 0, none⟩, 1, [⟨#[120]⟩]⟩] P2 rfl (blk_lt P2), fun p h => by simp at h; subst h; exact Sl.of_blk strC_len [⟨#[120]⟩] S2 rfl (blk_lt S2)⟩, ⟨Sl.nil, fun s h => by cases h⟩⟩ ⟨(show Int64 (4) from by unfold Int64; decide), (show Int64 (0) from by unfold Int64; decide), (show Int64 (0) from by unfold Int64; decide), (show Int64 (0) from by unfold Int64; decide), (show Int64 (0) from by unfold Int64; decide), (show Int64 (0) from by unfold Int64; decide), (show Int64 (0) from by unfold Int64; decide), (show Int64 (1) from by unfold Int64; decide), (show Int64 (0) from by unfold Int64; decide), (show Int64 (0) from by unfold Int64; decide), (fun x h => by cases h), by simp, (show (⟨#[]⟩ : ByteArray).size ≤ 1073741824 from by decide), ⟨by simp, fun p h => by simp at h; subst h; exact ⟨(show (⟨#[97]⟩ : ByteArray).size ≤ 1073741824 from by decide), by simp, by simp, fun s h => by simp at h; subst h; exact (show (⟨#[120]⟩ : ByteArray).size ≤ 1073741824 from by decide)⟩⟩, (show (batL ⟨#[]⟩ [⟨⟨#[97]⟩, 0, [⟨#[120]⟩]⟩]).length ≤ 500000 from by decide +kernel), by simp, fun s h => by cases h⟩ (hT.g hG2)
    rw [show codeO 1 (encR (RecM.p ⟨4, 0, 0, false, ⟨0, 0, 0⟩, 0, 0, 0, none, 0, [], ⟨#[]⟩, some ⟨w.heap.size + 1 + 1, 0, none⟩, 1, [⟨⟨#[97]⟩, 0, some ⟨w.heap.size + 1, 0, none⟩, 1, [⟨#[120]⟩]⟩], 0, 1, 0, 0, none, 0, []⟩)) = 1 from (show codeO 1 (encR ⟨4, 0, 0, false, ⟨0, 0, 0⟩, 0, 0, 0, [], ⟨#[]⟩, [⟨⟨#[97]⟩, 0, [⟨#[120]⟩]⟩], 0, 1, 0, 0, []⟩) = 1 from by decide +kernel)] at hc2
    unfold RecM.cells at hc2
    dsimp only [List.length_nil, List.length_cons, Nat.zero_add] at hc2
    replace hc2 := Lib.hid hc2
    clear hbt B2 B2s hGs hgx B1' hgn S2 P2
    go_wp2_with (first | (refine wpList_load_at rfl (by kernel_rfl) (p := .pointer (some ⟨_, 0, none⟩)) rfl (by assumption) ?_) | (go_at_call 12; with_reducible refine Calls.mono hc2.out ?_; rintro e w4 ⟨rfl, hg4⟩) | (go_at_call 8; refine Calls.mono (awake12_any _ (hT.g (hG2.trans hg4))) ?_; rintro e w5 ⟨rfl, hg5⟩))
    go_ret
    exact ⟨ret_bool (by rfl), (hG2.trans hg4).trans hg5⟩
  · have hgn := G.refl w1
    have B1' := hgn.blk B1
    have c0 := (blk_cell B1' 4).trans (show _ = some (.int .i64 0) from rfl)
    have c1 : w1.frozen? ⟨w.heap.size, 4, none⟩ = false := by simp only [World.frozen?, B1']; rfl
    have B2s : (w1.setCell ⟨w.heap.size, 4, none⟩ (.int .i64 1)).heap[w.heap.size]? = some (.cells #[.int .i64 4, .int .i64 0, .int .i64 0, .bool false, .int .i64 1, .int .i64 0, .int .i64 0, .int .i64 0, .int .i64 0, .int .i64 0, .slice none 0 0, .string ⟨#[]⟩, .slice (some ⟨w.heap.size + 1 + 1, 0, none⟩) 1 1, .int .i64 0, .int .i64 0, .int .i64 0, .int .i64 0, .slice none 0 0] 37 (0, 0)) := by rw [blk_put B1]; rfl
    have hbt := but_set w1 w.heap.size 4 (.int .i64 1)
    have hGs : G w (w1.setCell ⟨w.heap.size, 4, none⟩ (.int .i64 1)) := hG1.set (Nat.le_refl _) _
    have hgx := G.refl (w1.setCell ⟨w.heap.size, 4, none⟩ (.int .i64 1))
    have B2 := hgx.blk B2s
    have hG2 := hGs.trans hgx
    have S2 := hgx.blk (hbt.blk S1 (by omega))
    have P2 := hgx.blk (hbt.blk P1 (by omega))
    have LR := load_blk (P := Tryd.prog) (T := 37) B2 Tryd.underlying37 rfl (by kernel_rfl)
    have hc2 := recCheck_any ⟨4, 0, 0, false, ⟨1, 0, 0⟩, 0, 0, 0, none, 0, [], ⟨#[]⟩, some ⟨w.heap.size + 1 + 1, 0, none⟩, 1, [⟨⟨#[97]⟩, 0, some ⟨w.heap.size + 1, 0, none⟩, 1, [⟨#[120]⟩]⟩], 0, 0, 0, 0, none, 0, []⟩ (w1.setCell ⟨w.heap.size, 4, none⟩ (.int .i64 1)) ⟨Sl.nil, ⟨Sl.of_blk PutM.cells_len [⟨⟨#[97]⟩, 0, some ⟨w.heap.size + 1, 0, none⟩, 1, [⟨#[120]⟩]⟩] P2 rfl (blk_lt P2), fun p h => by simp at h; subst h; exact Sl.of_blk strC_len [⟨#[120]⟩] S2 rfl (blk_lt S2)⟩, ⟨Sl.nil, fun s h => by cases h⟩⟩ ⟨(show Int64 (4) from by unfold Int64; decide), (show Int64 (0) from by unfold Int64; decide), (show Int64 (0) from by unfold Int64; decide), (show Int64 (0) from by unfold Int64; decide), (show Int64 (0) from by unfold Int64; decide), (show Int64 (0) from by unfold Int64; decide), (show Int64 (0) from by unfold Int64; decide), (show Int64 (0) from by unfold Int64; decide), (show Int64 (0) from by unfold Int64; decide), (show Int64 (0) from by unfold Int64; decide), (fun x h => by cases h), by simp, (show (⟨#[]⟩ : ByteArray).size ≤ 1073741824 from by decide), ⟨by simp, fun p h => by simp at h; subst h; exact ⟨(show (⟨#[97]⟩ : ByteArray).size ≤ 1073741824 from by decide), by simp, by simp, fun s h => by simp at h; subst h; exact (show (⟨#[120]⟩ : ByteArray).size ≤ 1073741824 from by decide)⟩⟩, (show (batL ⟨#[]⟩ [⟨⟨#[97]⟩, 0, [⟨#[120]⟩]⟩]).length ≤ 500000 from by decide +kernel), by simp, fun s h => by cases h⟩ (hT.g hG2)
    rw [show codeO 1 (encR (RecM.p ⟨4, 0, 0, false, ⟨1, 0, 0⟩, 0, 0, 0, none, 0, [], ⟨#[]⟩, some ⟨w.heap.size + 1 + 1, 0, none⟩, 1, [⟨⟨#[97]⟩, 0, some ⟨w.heap.size + 1, 0, none⟩, 1, [⟨#[120]⟩]⟩], 0, 0, 0, 0, none, 0, []⟩)) = 0 from (show codeO 1 (encR ⟨4, 0, 0, false, ⟨1, 0, 0⟩, 0, 0, 0, [], ⟨#[]⟩, [⟨⟨#[97]⟩, 0, [⟨#[120]⟩]⟩], 0, 0, 0, 0, []⟩) = 0 from by decide +kernel)] at hc2
    unfold RecM.cells at hc2
    dsimp only [List.length_nil, List.length_cons, Nat.zero_add] at hc2
    replace hc2 := Lib.hid hc2
    clear hbt B2 B2s hGs hgx B1' hgn S2 P2
    go_wp2_with (first | (refine wpList_load_at rfl (by kernel_rfl) (p := .pointer (some ⟨_, 0, none⟩)) rfl (by assumption) ?_) | (go_at_call 12; with_reducible refine Calls.mono hc2.out ?_; rintro e w4 ⟨rfl, hg4⟩) | (go_at_call 8; refine Calls.mono (awake12_any _ (hT.g (hG2.trans hg4))) ?_; rintro e w5 ⟨rfl, hg5⟩))
    go_ret
    exact ⟨ret_bool (by rfl), (hG2.trans hg4).trans hg5⟩
end Go.Proofs.YthafeaclpcjjbaaDoor
/- penstocklaw12.RecFields: the walk. Condition: the decoder's tables lie as the library lays them. -/
namespace Go.Proofs.YthafeaclpcjjbaaDoor
open Go.RowKit

theorem encR_no {r : RecP} (h : fOk r.kind = false) : encR r = none := by
  unfold encR
  rw [if_neg (fun e => by rw [h] at e; exact absurd e.1 (by simp))]
set_option maxRecDepth 100000 in
set_option maxHeartbeats 1000000 in
theorem recFields_walk (k what : Int) (w : World) (hk : -9223372036854775808 ≤ k ∧ k ≤ 9223372036854775807) (hwh : -9223372036854775808 ≤ what ∧ what ≤ 9223372036854775807) (hT : Tabs w) : Calls Tryd.prog 5 #[.int .i64 k, .int .i64 what] w fun e w' => e = .returned (.bool true) ∧ G w w' := by
  cases hf : fOk k with
  | true =>
    have h0 := fOk_in hf
    by_cases h3 : k = 3
    · subst h3; exact recFields3_any what w hwh hT
    by_cases h4 : k = 4
    · subst h4; exact recFields4_any what w hwh hT
    exact recFieldsK_any k h0.1 h0.2 h3 h4 what w hwh hT
  | false =>
    have h0 := fOk_no hf
    have hc := recCheck_any ⟨k, 0, 0, false, ⟨0, 0, 0⟩, 0, 0, 0, none, 0, [], ⟨#[]⟩, none, 0, [], 0, 0, 0, 0, none, 0, []⟩ w ⟨Sl.nil, ⟨Sl.nil, fun p h => by cases h⟩, ⟨Sl.nil, fun s h => by cases h⟩⟩
      ⟨hk, (show Int64 0 from by unfold Int64; decide), (show Int64 0 from by unfold Int64; decide), (show Int64 0 from by unfold Int64; decide), (show Int64 0 from by unfold Int64; decide), (show Int64 0 from by unfold Int64; decide), (show Int64 0 from by unfold Int64; decide), (show Int64 0 from by unfold Int64; decide), (show Int64 0 from by unfold Int64; decide), (show Int64 0 from by unfold Int64; decide), (fun x h => by cases h), by simp, (show (⟨#[]⟩ : ByteArray).size ≤ 1073741824 from by decide), ⟨by simp, fun p h => by cases h⟩, (show (batL ⟨#[]⟩ []).length ≤ 500000 from by decide), by simp, fun s h => by cases h⟩ hT
    rw [encR_no (r := RecM.p ⟨k, 0, 0, false, ⟨0, 0, 0⟩, 0, 0, 0, none, 0, [], ⟨#[]⟩, none, 0, [], 0, 0, 0, 0, none, 0, []⟩) hf, show codeO (1 : Int) (none : Option (List UInt8)) = 1 from rfl] at hc
    unfold RecM.cells at hc
    dsimp only [List.length_nil] at hc
    have hnm := fun w' => recName_any k w'
    rw [nm_of hf] at hnm
    replace hc := Lib.hid hc
    replace hnm := Lib.hid hnm
    replace hf := Lib.hid hf
    by_cases h1 : 1 ≤ k
    · have t1 : decide (k < 1) = false := decide_eq_false (by omega)
      have t2 : decide (11 < k) = true := decide_eq_true (by omega)
      have t2' : 11 < k := by omega
      clear h0 h1 hk
      go_enter Tryd.func5, Tryd.ntmps5
      go_wp2_with (first
        | (go_at_call 12; with_reducible refine Calls.mono hc.out ?_; rintro e w1 ⟨rfl, hg1⟩)
        | (go_at_call 7; with_reducible refine Calls.mono (hnm.out _) ?_; rintro e w2 ⟨rfl, hg2⟩)
        | (go_at_call 8; with_reducible refine Calls.mono (awake12_any _ (hT.g (hg1.trans hg2))) ?_; rintro e w3 ⟨rfl, hg3⟩))
      go_ret
      exact ⟨rfl, (hg1.trans hg2).trans hg3⟩
    · have t1 : decide (k < 1) = true := decide_eq_true (by omega)
      have t1' : k < 1 := by omega
      clear h0 h1 hk
      go_enter Tryd.func5, Tryd.ntmps5
      go_wp2_with (first
        | (go_at_call 12; with_reducible refine Calls.mono hc.out ?_; rintro e w1 ⟨rfl, hg1⟩)
        | (go_at_call 7; with_reducible refine Calls.mono (hnm.out _) ?_; rintro e w2 ⟨rfl, hg2⟩)
        | (go_at_call 8; with_reducible refine Calls.mono (awake12_any _ (hT.g (hg1.trans hg2))) ?_; rintro e w3 ⟨rfl, hg3⟩))
      go_ret
      exact ⟨rfl, (hg1.trans hg2).trans hg3⟩
end Go.Proofs.YthafeaclpcjjbaaDoor
/- How texts, numbers and bools read as the laws' arguments; what the listed tables give. No condition. -/
namespace Go.Proofs.YthafeaclpcjjbaaDoor
open Go.RowKit Go.ChangeShapes Go.WideShapes Go.Lib

/-- An int of 64 bits. -/
def I64 (n : Int) : Prop := -9223372036854775808 ≤ n ∧ n ≤ 9223372036854775807
section
variable {H : Type} {enc : TypeId × Value → H} {w : World} {base b0 : Nat} {spare : Nat → Bool} {held : Bool} {fuel : Nat} {cs : List Value} {x : DataW H × List MemPlace} {r : Reach} {v : Value} {d : DataW H} {p : List MemPlace}
theorem i64_of_wf {n : Int} (h : (Lit.int .i64 n).wf = true) : I64 n := by
  have := bounds_i64 h
  exact ⟨by omega, by omega⟩
set_option maxRecDepth 100000 in
theorem in_int (hv : Value.okWide Tryd.prog w r b0 3 v) (h : DataW.Trod enc Tryd.prog w base spare held 3 v d p) : ∃ n, v = .int .i64 n ∧ I64 n := by
  obtain ⟨n, rfl⟩ := okWide_int Tryd.underlying3 hv
  obtain ⟨fuel, hf⟩ := h
  obtain ⟨n', e, _, hn⟩ := DataW.trod_int Tryd.underlying3 hf
  simp [Value.cells] at e
  subst e
  exact ⟨n, rfl, i64_of_wf hn⟩
set_option maxRecDepth 100000 in
theorem in_str (hv : Value.okWide Tryd.prog w r b0 9 v) (h : DataW.Trod enc Tryd.prog w base spare held 9 v d p) : ∃ s, v = .string s ∧ s.size ≤ 9223372036854775807 := by
  obtain ⟨s, rfl⟩ := okWide_string Tryd.underlying9 hv
  obtain ⟨fuel, hf⟩ := h
  obtain ⟨s', e, _, hn⟩ := DataW.trod_string Tryd.underlying9 hf
  simp [Value.cells] at e
  subst e
  exact ⟨s, rfl, by simpa [maxLen] using hn⟩
set_option maxRecDepth 100000 in
theorem in_bool (hv : Value.okWide Tryd.prog w r b0 4 v) (_h : DataW.Trod enc Tryd.prog w base spare held 4 v d p) : ∃ b, v = .bool b ∧ b = b := by
  obtain ⟨b, rfl⟩ := okWide_bool Tryd.underlying4 hv
  exact ⟨b, rfl, rfl⟩
end
theorem u8Extra : U8Extra Tryd.prog Tryd.lays196_ren := ⟨by kernel_rfl, by kernel_rfl, by kernel_rfl, by kernel_rfl, by kernel_rfl, by kernel_rfl, by kernel_rfl⟩
theorem accept_eq : (Rows.laid_unicode_utf8_acceptRanges : DataW Unit) = acceptData := by kernel_rfl
/-- Where the two tables are listed they lie so. -/
theorem tabs_of_laid {w : World} (h : laidMet Tryd.prog [("unicode/utf8.acceptRanges", Rows.laid_unicode_utf8_acceptRanges), ("unicode/utf8.first", Rows.laid_unicode_utf8_first)] w) : Tabs w :=
  utf8Tabs_of_readsT (U8Types.of196 Tryd.lays196) u8Extra (Pinned.utf8First_eq ▸ Lib.laidMet.reads h (.tail _ (.head _))) (accept_eq ▸ Lib.laidMet.reads h (.head _))
end Go.Proofs.YthafeaclpcjjbaaDoor
/- penstocklaw12.RecFields returns true for every input and leaves it as it was; the card is tied to the program's text. No condition beyond the card's own: utf8's two tables lie as the library lays them. -/
namespace Go.Proofs.YthafeaclpcjjbaaDoor.recFields
open Go.RowKit


/-! The row's step, by the guide's shell. -/
open Go.ChangeShapes Go.WideShapes Go.ChangeAt
theorem own : ownKnob Tryd.prog.godebug = none := by kernel_rfl
theorem laidOut : laidOutB Tryd.prog = true := by kernel_rfl
set_option maxRecDepth 100000 in
theorem lifted (os : Os) (started : os.Started) (H : Type) (enc : TypeId × Value → H) :
    ReturnsInHanded {} Tryd.checked os 5 .any (fun w args => (Rows.recFieldsSpec.pre enc Tryd.prog Tryd.f5 [] false w args ∧ laidMetH Tryd.prog Rows.recFieldsRow.laid w) ∧ sizedMet enc Tryd.prog Tryd.f5 (OpenSpec.ofChange Rows.recFieldsSpec) false w args) (Rows.recFieldsSpec.post enc Tryd.prog Tryd.f5 false true false false) := by
  refine returnsInHanded_of_change_and (C := Tryd.checked) (X := fun w _ => laidMetH Tryd.prog Rows.recFieldsRow.laid w) (fun _ _ _ hh h => h.of_heap hh) own started (by kernel_rfl) Tryd.func5
    (ChangeSpec.witness_shaped (enc := enc) (C := Tryd.checked) (os := os) (X := fun w _ => laidMetH Tryd.prog Rows.recFieldsRow.laid w) false (World.laidAll Tryd.prog os Rows.recFieldsRow.laid) #[.int .i64 0, .int .i64 0] 8 (World.laidAll_os _ _ _)
      (World.shaped_of_ZipB (by kernel_rfl) (by kernel_rfl)) (by kernel_rfl) (by kernel_rfl) (by kernel_rfl)
      (by rw [MakeChecks.laidMetH_plain _ _ _ (by kernel_rfl)]; exact laidMet_laidAll _ (by kernel_rfl) (by kernel_rfl))) ?_
  intro W base args ds gs before hval0 hW _ _ hL _
  have hval : ∀ (j : Nat) t v, Tryd.f5.params[j]? = some t → args[j]? = some v → Value.okWide Tryd.prog W .any base t v := hval0
  have hW' := hW
  obtain ⟨p, q, hA0, hV, rfl, hfz, hnd⟩ := hW
  have hA : DataW.TrodAll enc Tryd.prog W 0 (fun _ => true) true Tryd.f5.params.toList args.toList ds p := hA0
  rw [Tryd.params5] at hA hval
  obtain ⟨v0, vs0, d0, ds0, p0, q0, hargs, rfl, rfl, h0, r0⟩ := trodAll_cons hA
  obtain ⟨v1, vs1, d1, ds1, p1, q1, rfl, rfl, rfl, h1, r1⟩ := trodAll_cons r0
  obtain ⟨rfl, rfl, rfl⟩ := trodAll_nil r1
  obtain rfl : args = #[v0, v1] := by cases args; simp_all
  obtain ⟨rfl, rfl⟩ := trodVars_none hV
  have lt0 : ∀ x ∈ p0, x.block < W.heap.size := by obtain ⟨m, hm⟩ := h0; exact DataW.trod_lt m _ _ _ hm
  have lt1 : ∀ x ∈ p1, x.block < W.heap.size := by obtain ⟨m, hm⟩ := h1; exact DataW.trod_lt m _ _ _ hm
  obtain ⟨k, rfl, hk⟩ := in_int (hval 0 _ _ rfl rfl) h0
  obtain ⟨what, rfl, hwh⟩ := in_int (hval 1 _ _ rfl rfl) h1
  have hT : Tabs W := tabs_of_laid (by rw [MakeChecks.laidMetH_plain _ _ _ (by kernel_rfl)] at hL; exact hL)
  clear hA0 hval0
  refine (recFields_walk k what W hk hwh hT).mono fun e W' ⟨he, hg⟩ => ?_
  have bel : Below W.heap.size W W' := hg
  subst he
  exact ⟨_, rfl, _, _, _, [], _, [], hW', trodAll_mk1 (shut_bool Tryd.underlying4 _), (trodAll_cons_mk (Below.trod laidOut (by kernel_rfl) (of_decide_eq_true (by kernel_rfl)) h0 bel lt0) (trodAll_cons_mk (Below.trod laidOut (by kernel_rfl) (of_decide_eq_true (by kernel_rfl)) h1 bel lt1) (trodAll_mk0))), rfl, bel.frame _, fun h => by cases h⟩

theorem over : Rows.recFieldsRow.holds Tryd.pinned (OpenSpec.ofChange Rows.recFieldsSpec) :=
  OpenClaim.holds_of_wide 5 Tryd.f5 rfl rfl rfl rfl rfl rfl rfl ⟨rfl, rfl, rfl, rfl, rfl⟩ rfl rfl rfl rfl rfl (by kernel_rfl) Tryd.func5 (by kernel_rfl)
    (of_decide_eq_true (by kernel_rfl)) (by unfold Func.isWrapper; first | (rw [if_pos (by decide +kernel)]; kernel_rfl) | (rw [if_neg (by decide +kernel)]; exact ⟨rfl, rfl⟩))
    (fun os started H enc _ => lifted os started H enc)

/-- The card. -/
theorem proved : Rows.RecFieldsCardSaid :=
  Claim7.holds_tied_plain_at .later [] _ _ _ _ over (fun _ h => by cases h) (by kernel_rfl) (fun _ h => by cases h) recFields_row_tie rfl ⟨rfl, rfl⟩ (by kernel_rfl) rfl
    (fun f fn hf hfn => by
      obtain rfl : f = 5 := Option.some.inj ((show Tryd.prog.funcNamed "penstock/penstocklaw12.RecFields" = some 5 by kernel_rfl).symm.trans hf) |>.symm
      obtain rfl : fn = Tryd.f5 := (Option.some.inj (Tryd.func5.symm.trans hfn)).symm
      exact ⟨by kernel_rfl, fun j t ht => by
        have hall : (Tryd.f5.params.toList.all fun u => !Tryd.prog.wantsStandIn u) = true := by kernel_rfl
        have hm : t ∈ Tryd.f5.params.toList := by simpa using Array.mem_of_getElem? ht
        exact (show Tryd.prog.wantsStandIn t = false by simpa using List.all_eq_true.1 hall t hm)⟩)
    (by kernel_rfl)
#print axioms proved
end Go.Proofs.YthafeaclpcjjbaaDoor.recFields

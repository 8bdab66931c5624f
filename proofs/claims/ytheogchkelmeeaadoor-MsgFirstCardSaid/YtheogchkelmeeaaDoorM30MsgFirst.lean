/- Several texts in one: AlikeSm, BatSmall, CutLaw. -/
import Derived.Test.YtheogchkelmeeaaDoorM29MsgFirst
import Derived.Test.YtheogchkelmeeaaDoorM22MsgFirst
import Derived.Test.YtheogchkelmeeaaDoorMayQMsgFirst
import Derived.Test.YtheogchkelmeeaaDoorBatEncQMsgFirst
/- penstockalike.Streams: what it answers; what a small bulk says. Condition: lengths fit an int. -/
namespace Go.Proofs.YtheogchkelmeeaaDoor
open Go.RowKit

/-- A stream as it lies. -/
structure SmM where
  name : ByteArray
  Ae : Option Addr
  ce : Nat
  es : List Ev
  Ak : Option Addr
  ck : Nat
  ks : List Kn
def SmM.cells (s : SmM) : List Value := [.string s.name, .slice s.Ae s.es.length s.ce, .slice s.Ak s.ks.length s.ck]
theorem SmM.cells_len (s : SmM) : s.cells.length = 3 := rfl
def SmM.sm (s : SmM) : Sm := ⟨s.name, s.es, s.ks⟩
/-- Streams as they lie. -/
def SmsIn (w : World) (B : Nat) (A : Option Addr) (ss : List SmM) : Prop := Sl SmM.cells 3 w B A ss ∧ ∀ s ∈ ss, SmIn w B s.Ae s.Ak s.es s.ks
theorem SmsIn.g {w w' : World} {B : Nat} {A : Option Addr} {ss : List SmM} (h : SmsIn w B A ss) (hB : B ≤ w.heap.size) (hg : G w w') : SmsIn w' B A ss := ⟨h.1.g hB hg, fun s hs => (h.2 s hs).g hB hg⟩
/-- Streams' loop. -/
def smsTo (top : Int) (n : Int) : List SmM → Int
  | [] => n
  | s :: l => if n ≤ top then smsTo top (upTo top (sumTo n [(s.name.size : Int), evBulk top s.es, (s.ks.length : Int)]) (s.ks.map fun k => (k.key.size : Int))) l else n
def smsBulk (top : Int) (ss : List SmM) : Int := smsTo top (sumTo 0 [(ss.length : Int)]) ss
theorem smsTo_drop (top n : Int) (xs : List SmM) (k : Nat) (x : SmM) (h : xs[k]? = some x) :
    smsTo top n (xs.drop k) = if n ≤ top then smsTo top (upTo top (sumTo n [(x.name.size : Int), evBulk top x.es, (x.ks.length : Int)]) (x.ks.map fun k => (k.key.size : Int))) (xs.drop (k + 1)) else n := by
  obtain ⟨hk, rfl⟩ := List.getElem?_eq_some_iff.1 h
  rw [List.drop_eq_getElem_cons hk]
  rfl
theorem sumTo_le3 (n m m2 m3 : Int) (h0 : 0 ≤ n) (h : n ≤ 1099511627776) (hm : 0 ≤ m) (hm2 : 0 ≤ m2) (hm3 : 0 ≤ m3) : 0 ≤ sumTo n [m, m2, m3] ∧ sumTo n [m, m2, m3] ≤ 1099511627776 :=
  sumTo_le n h0 h [m, m2, m3] (fun k hk => by simp at hk; omega)
theorem smsTo_le (top n : Int) (h0 : 0 ≤ n) (h : n ≤ 1099511627776) : ∀ l : List SmM, 0 ≤ smsTo top n l ∧ smsTo top n l ≤ 1099511627776 := by
  intro l
  induction l generalizing n with
  | nil => exact ⟨h0, h⟩
  | cons s l ih =>
    simp only [smsTo]
    split
    · have h1 := sumTo_le3 n s.name.size (evBulk top s.es) s.ks.length h0 h (by omega) (evBulk_le top s.es).1 (by omega)
      have h2 := upTo_le top _ h1.1 h1.2 (s.ks.map fun k => (k.key.size : Int)) (fun m hm => by simp at hm; obtain ⟨k, _, rfl⟩ := hm; omega)
      exact ih _ h2.1 h2.2
    · exact ⟨h0, h⟩
theorem smsBulk_le (top : Int) (ss : List SmM) : 0 ≤ smsBulk top ss ∧ smsBulk top ss ≤ 1099511627776 := by
  have h := sumTo_le1 0 ss.length (by omega) (by omega) (by omega)
  exact smsTo_le top _ h.1 h.2 _
def KnsOk (ks : List Kn) : Prop := ks.length ≤ 9223372036854775807 ∧ ∀ k ∈ ks, k.key.size ≤ 9223372036854775807
def SmsOk (ss : List SmM) : Prop := ss.length ≤ 9223372036854775807 ∧ ∀ s ∈ ss, s.name.size ≤ 9223372036854775807 ∧ s.es.length ≤ 9223372036854775807 ∧ EvsOk s.es ∧ KnsOk s.ks

set_option maxHeartbeats 4000000 in
theorem streams_any (top : Int) (ss : List SmM) (A : Option Addr) (c B : Nat) (w : World) (hB : B ≤ w.heap.size) (ho : SmsOk ss) (hs : SmsIn w B A ss) :
    Calls Tryd.prog 30 #[.slice A ss.length c, .int .i64 top] w fun e w' => e = .returned (.int .i64 (smsBulk top ss)) ∧ G w w' := by
  obtain ⟨hl, HX⟩ := ho
  replace HX := Lib.hid HX
  unfold smsBulk
  go_enter Tryd.func30, Tryd.ntmps30
  go_wp2_with fail
  refine (sum_1 0 ss.length _ _ (by omega) (by omega) (by omega) (by omega) (by simp)).mono ?_
  rintro e w1 ⟨rfl, rfl⟩
  have hq := sumTo_le1 0 ss.length (by omega) (by omega) (by omega)
  generalize hn0 : sumTo 0 [(ss.length : Int)] = n0 at *
  have HN := Lib.hid hn0
  clear hn0
  go_wp2_with fail
  go_loopw [5, 6] (fun t i wr => ∃ (k : Nat) (m : Int), k ≤ ss.length ∧ i = .int .i64 k ∧ t = .int .i64 m ∧ 0 ≤ m ∧ m ≤ 1099511627776 ∧ Hid (smsTo top n0 ss = smsTo top m (ss.drop k)) ∧ G w wr) (fun _ i _ => ss.length - (intOf i).toNat)
  case atStart => exact ⟨0, n0, Nat.zero_le _, rfl, rfl, hq.1, hq.2, by simp [Hid], G.new _ _⟩
  case round =>
    obtain ⟨wo, rfl⟩ : ∃ wo : World, wo = wr := ⟨_, rfl⟩
    obtain ⟨k, m, hk, rfl, rfl, hm0, hm1, hh, hbel⟩ := hrel
    by_cases hlt : k < ss.length
    · obtain ⟨⟨sn, sA, sc, se, sA2, sc2, sk⟩, hp⟩ : ∃ p, ss[k]? = some p := ⟨_, List.getElem?_eq_getElem hlt⟩
      obtain ⟨b, o, rfl, hbB, hcells⟩ := hs.1.get hp
      have hsd := Lib.hid (smsTo_drop top m ss k _ hp)
      have hpm := List.mem_of_getElem? hp
      obtain ⟨hx1, hx2, hx3, hx4, hx5⟩ := HX.out _ hpm
      have hsi := hs.2 _ hpm
      simp only at hx1 hx2 hx3 hx4 hx5 hsi hsd
      have hes : ∀ w', G w w' → Sl Ev.cells 7 w' B sA se := fun w' h => hsi.1.g hB h
      have hks : ∀ w', G w w' → Sl Kn.cells 5 w' B sA2 sk := fun w' h => hsi.2.g hB h
      have c0 : ∀ w', G w w' → w'.cell? ⟨b, o + k * 3, none⟩ = some (.string sn) := fun w' h => (h.cell (by omega)).trans (hcells 0 _ rfl)
      have c1 : ∀ w', G w w' → w'.cell? ⟨b, o + k * 3 + 1, none⟩ = some (.slice sA se.length sc) := fun w' h => (h.cell (by omega)).trans (hcells 1 _ rfl)
      have c2 : ∀ w', G w w' → w'.cell? ⟨b, o + k * 3 + 2, none⟩ = some (.slice sA2 sk.length sc2) := fun w' h => (h.cell (by omega)).trans (hcells 2 _ rfl)
      have hB2 : ∀ w', G w w' → B ≤ w'.heap.size := fun w' h => by have := h.size; omega
      have n1 : (0 : Int) ≤ (k : Int) := by omega
      have n2 : (k : Int) < (ss.length : Int) := by omega
      replace hes := Lib.hid hes
      replace hks := Lib.hid hks
      replace hx5 := Lib.hid hx5
      clear hcells hs hp hsi
      by_cases htop : m ≤ top
      · go_upto_region 5 with fail
        obtain ⟨ht0, ht1⟩ := evBulk_le top se
        have hbd := hbel.drew
        go_region_held3 (fun w' => G w w') (first | exact hbel.drew | exact G.keep hbw1 (by assumption) | exact G.alloc (by assumption) _ | assumption | fail) (first | (go_at_call 31; refine (events_any top se sA sc B _ (hB2 _ (by assumption)) hx2 hx3 (hes.out _ (by assumption))).mono ?_; rintro e w1 ⟨rfl, hbw1⟩) | (go_at_call 28; refine (sum_3 m sn.size (evBulk top se) sk.length _ _ (by omega) (by omega) (by omega) (by omega) (by omega) (by omega) (by omega) (by omega) (by simp) (by simp) (by simp)).mono ?_; rintro e w2 ⟨rfl, rfl⟩))
        have hq2 := sumTo_le3 m sn.size (evBulk top se) sk.length (by omega) (by omega) (by omega) (by omega) (by omega)
        generalize hm3 : sumTo m [(sn.size : Int), evBulk top se, (sk.length : Int)] = m3 at *
        clear hm3
        go_wp2_with fail
        go_loopw [5, 7] (fun t i wr => ∃ (j : Nat) (q : Int), j ≤ sk.length ∧ i = .int .i64 j ∧ t = .int .i64 q ∧ 0 ≤ q ∧ q ≤ 1099511627776 ∧ Hid (upTo top m3 (sk.map fun k => (k.key.size : Int)) = upTo top q ((sk.map fun k => (k.key.size : Int)).drop j)) ∧ G w wr) (fun _ i _ => sk.length - (intOf i).toNat)
        case atStart => exact ⟨0, m3, Nat.zero_le _, rfl, rfl, hq2.1, hq2.2, by simp [Hid], by assumption⟩
        case round =>
          obtain ⟨j, q, hj, rfl, rfl, hq0, hq1, hjj, hgj⟩ := hrel
          have c2w := c2 _ hgj
          by_cases hjl : j < sk.length
          · obtain ⟨⟨yk, yv, ys⟩, hy⟩ : ∃ y, sk[j]? = some y := ⟨_, List.getElem?_eq_getElem hjl⟩
            obtain ⟨b3, o3, rfl, hb3, hc3⟩ := (hks.out _ hgj).get hy
            have d0 := hc3 0 _ rfl
            simp only [Nat.add_zero] at d0
            have hud := Lib.hid (upTo_drop top q (sk.map fun k => (k.key.size : Int)) j yk.size (by simp [hy]))
            have hyz := hx5.out _ (List.mem_of_getElem? hy)
            simp only at hyz
            have m1 : (0 : Int) ≤ (j : Int) := by omega
            have m2 : (j : Int) < (sk.length : Int) := by omega
            replace hy := Lib.hid hy
            clear hc3
            by_cases hqt : q ≤ top
            · go_wp2_with (go_at_call 28; refine (sum_1 q yk.size _ _ (by omega) (by omega) (by omega) (by omega) (by simp)).mono ?_; rintro e w5 ⟨rfl, rfl⟩)
              go_roundw
              case rel =>
                have hq3 := sumTo_le1 q yk.size (by omega) (by omega) (by omega)
                exact ⟨j + 1, _, by omega, by go_num, rfl, hq3.1, hq3.2, by unfold Hid; rw [hjj.out, hud.out, if_pos (by omega)], hgj.alloc _⟩
              case measure => (simp [intOf] <;> omega)
            · go_wp2_with fail
              go_roundw
              case rel => exact ⟨k + 1, q, by omega, by go_num, rfl, hq0, hq1, by unfold Hid; rw [hh.out, hsd.out, if_pos (by omega), hjj.out, hud.out, if_neg (by omega)], hgj⟩
              case measure => (simp [intOf] <;> omega)
          · go_wp2_with fail
            go_roundw
            case rel => exact ⟨k + 1, q, by omega, by go_num, rfl, hq0, hq1, by unfold Hid; rw [hh.out, hsd.out, if_pos (by omega), hjj.out, List.drop_eq_nil_of_le (by simp; omega)]; rfl, hgj⟩
            case measure => (simp [intOf] <;> omega)
      · go_wp2_with fail
        go_ret
        exact ⟨ret_int (by rw [HN.out, hh.out, hsd.out, if_neg (by omega)]), hbel⟩
    · go_wp2_with fail
      go_ret
      exact ⟨ret_int (by rw [HN.out, hh.out, List.drop_eq_nil_of_le (by omega)]; rfl), hbel⟩

/-! What a small bulk says. -/
theorem sumTo_up {top : Int} (ht : top < 1099511627776) : ∀ {l : List Int} {n : Int}, (∀ m ∈ l, 0 ≤ m) → sumTo n l ≤ top → n + l.sum ≤ top
  | [], n, _, h => by simpa [sumTo] using h
  | m :: l, n, hl, h => by
    unfold sumTo at h
    split at h
    · have := sumTo_up ht (fun k hk => hl k (by simp [hk])) h
      rw [List.sum_cons]
      omega
    · omega
theorem upTo_up {top : Int} (ht : top < 1099511627776) : ∀ (l : List Int) (n : Int), (∀ m ∈ l, 0 ≤ m) → upTo top n l ≤ top → n ≤ top ∧ (0 ≤ n → ∀ m ∈ l, m ≤ top)
  | [], n, _, h => ⟨h, fun _ _ h => by cases h⟩
  | m :: l, n, hl, h => by
    have hm := hl m (by simp)
    unfold upTo at h
    split at h
    · have h1 := upTo_up ht l (sumTo n [m]) (fun k hk => hl k (by simp [hk])) h
      have h2 := sumTo_up (n := n) ht (l := [m]) (by simpa using hm) h1.1
      simp only [List.sum_cons, List.sum_nil, Int.add_zero] at h2
      refine ⟨by omega, fun hn k hk => ?_⟩
      rcases List.mem_cons.1 hk with rfl | hk
      · omega
      · refine h1.2 ?_ k hk
        unfold sumTo
        split
        · unfold sumTo; omega
        · omega
    · omega
theorem evBulkTo_up {top : Int} (ht : top < 1099511627776) : ∀ (l : List Ev) (n : Int), evBulkTo top n l ≤ top → n ≤ top ∧ (0 ≤ n → ∀ e ∈ l, (e.stream.size : Int) ≤ top ∧ (e.data.size : Int) ≤ top)
  | [], n, h => ⟨h, fun _ _ h => by cases h⟩
  | m :: l, n, h => by
    unfold evBulkTo at h
    split at h
    · have h1 := evBulkTo_up ht l _ h
      have h2 := sumTo_up (n := n) ht (l := [(m.stream.size : Int), (m.data.size : Int)]) (by simp) h1.1
      simp only [List.sum_cons, List.sum_nil, Int.add_zero] at h2
      refine ⟨by omega, fun hn k hk => ?_⟩
      rcases List.mem_cons.1 hk with rfl | hk
      · omega
      · refine h1.2 ?_ k hk
        unfold sumTo
        split
        · unfold sumTo
          split
          · unfold sumTo; omega
          · omega
        · omega
    · omega
theorem evBulk_up {top : Int} (ht : top < 1099511627776) {es : List Ev} (h : evBulk top es ≤ top) : (es.length : Int) ≤ top ∧ ∀ e ∈ es, (e.stream.size : Int) ≤ top ∧ (e.data.size : Int) ≤ top := by
  have h1 := evBulkTo_up ht _ _ h
  have h2 := sumTo_up (n := 0) ht (l := [(es.length : Int)]) (by simp) h1.1
  simp only [List.sum_cons, List.sum_nil, Int.add_zero] at h2
  refine ⟨by omega, h1.2 ?_⟩
  unfold sumTo
  split
  · unfold sumTo; omega
  · omega
theorem sumTo_pos : ∀ {l : List Int}, (∀ m ∈ l, 0 ≤ m) → ∀ {n : Int}, 0 ≤ n → 0 ≤ sumTo n l
  | [], _, n, h => by simpa [sumTo] using h
  | m :: l, hl, n, h => by
    have := hl m (by simp)
    unfold sumTo
    split
    · exact sumTo_pos (fun k hk => hl k (by simp [hk])) (by omega)
    · omega
theorem upTo_pos {top : Int} : ∀ {l : List Int} {n : Int}, (∀ m ∈ l, 0 ≤ m) → 0 ≤ n → 0 ≤ upTo top n l
  | [], n, _, h => by simpa [upTo] using h
  | m :: l, n, hl, h => by
    unfold upTo
    split
    · exact upTo_pos (fun k hk => hl k (by simp [hk])) (sumTo_pos (fun k hk => by simp at hk; rw [hk]; exact hl m (by simp)) h)
    · exact h
theorem smsTo_up {top : Int} (ht : top ≤ 524288) : ∀ (ss : List SmM) (n : Int), smsTo top n ss ≤ top → n ≤ top ∧ (0 ≤ n → ∀ s ∈ ss, SmSmall s.name s.es s.ks)
  | [], n, h => ⟨h, fun _ _ h => by cases h⟩
  | s :: l, n, h => by
    unfold smsTo at h
    split at h
    · have h1 := smsTo_up ht l _ h
      have hks : ∀ m ∈ s.ks.map fun k => (k.key.size : Int), (0 : Int) ≤ m := fun m hm => by simp at hm; obtain ⟨k, _, rfl⟩ := hm; omega
      have h2 := upTo_up (by omega) _ _ hks h1.1
      have he := (evBulk_le top s.es).1
      have hl3 : ∀ m ∈ [(s.name.size : Int), evBulk top s.es, (s.ks.length : Int)], 0 ≤ m := by simp; omega
      have h3 := sumTo_up (n := n) (by omega) hl3 h2.1
      simp only [List.sum_cons, List.sum_nil, Int.add_zero] at h3
      refine ⟨by omega, fun hn t ht2 => ?_⟩
      have hp := sumTo_pos hl3 hn
      rcases List.mem_cons.1 ht2 with rfl | ht2
      · have h4 := evBulk_up (top := top) (by omega) (es := t.es) (by omega)
        have h5 := h2.2 hp
        exact ⟨by omega, ⟨by omega, fun e hm => by have := h4.2 e hm; omega⟩, by omega, fun k hm => by have := h5 (k.key.size : Int) (List.mem_map.2 ⟨k, hm, rfl⟩); omega⟩
      · refine h1.2 ?_ t ht2
        exact (upTo_pos hks hp)
    · omega
theorem sms_small {top : Int} (ht : top ≤ 524288) {ss : List SmM} (h : smsBulk top ss ≤ top) : (ss.length : Int) ≤ top ∧ ∀ s ∈ ss, SmSmall s.name s.es s.ks := by
  have h1 := smsTo_up ht _ _ h
  have h2 := sumTo_up (n := 0) (by omega) (l := [(ss.length : Int)]) (by simp) h1.1
  simp only [List.sum_cons, List.sum_nil, Int.add_zero] at h2
  exact ⟨by omega, h1.2 (sumTo_pos (l := [(ss.length : Int)]) (by simp) (by omega))⟩
end Go.Proofs.YtheogchkelmeeaaDoor
/- What a small bulk says of a batch. Plain mathematics, no program. No condition. -/
namespace Go.Proofs.YtheogchkelmeeaaDoor
open Go.RowKit

theorem sumTo_le_two {n a b top : Int} (_ha : 0 ≤ a) (_hb : 0 ≤ b) (ht : top < 1099511627776) (h : sumTo n [a, b] ≤ top) : n + a + b ≤ top := by
  unfold sumTo at h
  split at h
  · unfold sumTo at h
    split at h
    · unfold sumTo at h; omega
    · omega
  · omega
theorem sumTo_le_one {n a top : Int} (ht : top < 1099511627776) (h : sumTo n [a] ≤ top) : n + a ≤ top := by
  unfold sumTo at h
  split at h
  · unfold sumTo at h; omega
  · omega
theorem upTo_small {top : Int} (ht : top < 1099511627776) : ∀ (l : List Int) (n : Int), (∀ m ∈ l, 0 ≤ m) → 0 ≤ n → upTo top n l ≤ top → n ≤ top ∧ ∀ m ∈ l, m ≤ top
  | [], n, _, _, h => ⟨h, fun _ h => by cases h⟩
  | m :: l, n, hl, hn, h => by
    have hm := hl m (by simp)
    unfold upTo at h
    split at h
    · have h1 := upTo_small ht l (sumTo n [m]) (fun k hk => hl k (by simp [hk])) (by
        unfold sumTo
        split
        · unfold sumTo; omega
        · omega) h
      have h2 := sumTo_le_one ht h1.1
      refine ⟨by omega, fun k hk => ?_⟩
      rcases List.mem_cons.1 hk with rfl | hk
      · omega
      · exact h1.2 k hk
    · omega
theorem total_small {top : Int} (ht : top < 1099511627776) {ss : List ByteArray} (h : totalOf top ss ≤ top) : (ss.length : Int) ≤ top ∧ ∀ s ∈ ss, (s.size : Int) ≤ top := by
  unfold totalOf at h
  have h1 := upTo_small ht _ _ (fun m hm => by simp at hm; obtain ⟨s, _, rfl⟩ := hm; omega) (by
    unfold sumTo
    split
    · unfold sumTo; omega
    · omega) h
  have h2 := sumTo_le_one ht h1.1
  exact ⟨by omega, fun s hs => h1.2 _ (List.mem_map.2 ⟨s, hs, rfl⟩)⟩
theorem bulkTo_small {top : Int} (ht : top < 1099511627776) : ∀ (ps : List PutM) (n : Int), bulkTo top n ps ≤ top → n ≤ top ∧ (0 ≤ n → ∀ p ∈ ps, (p.stream.size : Int) ≤ top ∧ totalOf top p.data ≤ top)
  | [], n, h => ⟨h, fun _ _ h => by cases h⟩
  | p :: l, n, h => by
    unfold bulkTo at h
    split at h
    · have h1 := bulkTo_small ht l _ h
      have h0 := (totalOf_le top p.data).1
      have h2 := sumTo_le_two (by omega) h0 ht h1.1
      refine ⟨by omega, fun hn q hq => ?_⟩
      rcases List.mem_cons.1 hq with rfl | hq
      · exact ⟨by omega, by omega⟩
      · refine h1.2 ?_ q hq
        unfold sumTo
        split
        · unfold sumTo
          split
          · unfold sumTo; omega
          · omega
        · omega
    · omega
theorem bat_small_at {top : Int} (htop : top ≤ 40000) {key : ByteArray} {ps : List PutM} (h : batchOf top key ps ≤ top) (he : ∀ p ∈ ps, -9223372036854775808 ≤ p.expect ∧ p.expect ≤ 9223372036854775807) : key.size ≤ 40000 ∧ PutsSmall ps := by
  unfold batchOf at h
  have h1 := bulkTo_small (by omega) _ _ h
  have h2 := sumTo_le_two (by omega) (by omega) (by omega) h1.1
  have h3 := h1.2 (by
    unfold sumTo
    split
    · unfold sumTo
      split
      · unfold sumTo; omega
      · omega
    · omega)
  refine ⟨by omega, by omega, fun p hp => ?_⟩
  have h4 := h3 p hp
  have h5 := total_small (by omega) h4.2
  exact ⟨by omega, he p hp, by omega, fun s hs => by have := h5.2 s hs; omega⟩
theorem bat_small {key : ByteArray} {ps : List PutM} (h : batchOf 40000 key ps ≤ 40000) (he : ∀ p ∈ ps, -9223372036854775808 ≤ p.expect ∧ p.expect ≤ 9223372036854775807) : key.size ≤ 40000 ∧ PutsSmall ps := bat_small_at (Int.le_refl _) h he
end Go.Proofs.YtheogchkelmeeaaDoor
/- A first part of bytes: what readers say of it, how it is cut; what the small bulks say of the written bytes' lengths. No condition. -/
namespace Go.Proofs.YtheogchkelmeeaaDoor
open Go.RowKit

theorem rd_cut {α : Type} {d : Reader α} (hd : Rd d) {l : List UInt8} {x : α} (h : d l = some (x, [])) {k : Nat} (hk : k < l.length) : d (l.take k) = none := by
  cases hc : d (l.take k) with
  | none => rfl
  | some y =>
    obtain ⟨y, r⟩ := y
    have h2 := hd.app _ _ (l.drop k) _ hc
    rw [List.take_append_drop, h] at h2
    simp only [Option.some.injEq, Prod.mk.injEq] at h2
    have h3 := congrArg List.length h2.2
    rw [List.length_append, List.length_drop, List.length_nil] at h3
    omega
theorem Sl.first {α : Type} {f : α → List Value} {sz : Nat} {w : World} {B : Nat} {A : Option Addr} {xs : List α} (h : Sl f sz w B A xs) (k : Nat) : Sl f sz w B A (xs.take k) := fun hn => by
  obtain ⟨b, o, e, hb, hc⟩ := h (by rintro rfl; simp at hn)
  refine ⟨b, o, e, hb, fun i x hx => hc i x ?_⟩
  have hi : i < k := by
    have := (List.getElem?_eq_some_iff.1 hx).1
    rw [List.length_take] at this
    omega
  rwa [List.getElem?_take_of_lt hi] at hx
theorem run_front {w0 : World} {B : Nat} {A : Option Addr} {l : List UInt8} (hs : Sl byteC 1 w0 B A l) (hl : l ≠ []) (c k : Nat) (hk : k ≤ c) (w : World) : (Instr.sliceAt 50 (.slice A l.length c) none (some (.int .i64 k)) none).run Tryd.prog w = .ok (.slice A k c) w := by
  have ht : Tryd.prog.underlying 50 = some (.slice (Tryd.prog.elem 50)) := by kernel_rfl
  have hsz : ∀ w, (Go.sizeOf (Tryd.prog.elem 50)).run Tryd.prog w = .ok 1 w := fun w => by kernel_rfl
  obtain ⟨b, o, rfl, _⟩ := hs hl
  rw [run_sliceAt_slice _ _ _ _ _ _ ht, run_slice_h w 50 _ _ c ht .i64 k (by omega) (by omega), hsz]
  simp [Result.andThen, sliced, Addr.add_lit]

/-! How long what is written may be. -/
theorem sum_nn : ∀ {l : List Int}, (∀ x ∈ l, 0 ≤ x) → 0 ≤ l.sum
  | [], _ => by simp
  | x :: l, h => by
    have h1 := sum_nn (l := l) fun y hy => h y (by simp [hy])
    have h2 := h x (by simp)
    rw [List.sum_cons]
    omega
theorem evBulkTo_sum {top : Int} (ht : top < 1099511627776) : ∀ (l : List Ev) (n : Int), evBulkTo top n l ≤ top → n + (l.map fun e => (e.stream.size : Int) + e.data.size).sum ≤ evBulkTo top n l
  | [], n, _ => by simp [evBulkTo]
  | m :: l, n, h => by
    unfold evBulkTo at h ⊢
    split at h
    · rename_i hle
      rw [if_pos hle]
      have h1 := evBulkTo_sum ht l _ h
      have h0 : 0 ≤ (l.map fun e => (e.stream.size : Int) + e.data.size).sum := sum_nn fun x hx => by
        obtain ⟨e, _, rfl⟩ := List.mem_map.1 hx
        omega
      have h2 := sumTo_up (n := n) ht (l := [(m.stream.size : Int), (m.data.size : Int)]) (by simp) (by omega : _ ≤ top)
      have h3 : sumTo n [(m.stream.size : Int), (m.data.size : Int)] = n + m.stream.size + m.data.size := by
        simp only [List.sum_cons, List.sum_nil, Int.add_zero] at h2
        unfold sumTo
        rw [if_pos (by omega)]
        unfold sumTo
        rw [if_pos (by omega)]
        rfl
      rw [h3] at h1 ⊢
      rw [List.map_cons, List.sum_cons]
      omega
    · omega
theorem upTo_sum {top : Int} (ht : top < 1099511627776) : ∀ (l : List Int) (n : Int), (∀ m ∈ l, 0 ≤ m) → upTo top n l ≤ top → n + l.sum ≤ top
  | [], n, _, h => by simpa [upTo] using h
  | m :: l, n, hl, h => by
    unfold upTo at h
    have hm := hl m (by simp)
    split at h
    · have h1 := upTo_sum ht l _ (fun k hk => hl k (by simp [hk])) h
      have h0 : 0 ≤ l.sum := sum_nn fun x hx => hl x (by simp [hx])
      have h3 : sumTo n [m] = n + m := by
        have h2 := sumTo_up (n := n) ht (l := [m]) (by simpa using hm) (by omega : _ ≤ top)
        simp only [List.sum_cons, List.sum_nil, Int.add_zero] at h2
        unfold sumTo
        rw [if_pos (by omega)]
        rfl
      rw [h3] at h1
      rw [List.sum_cons]
      omega
    · omega
theorem flat_sum {α : Type} (f : α → List UInt8) (g : α → Int) (h : ∀ x, ((f x).length : Int) ≤ g x) : ∀ l : List α, ((l.flatMap f).length : Int) ≤ (l.map g).sum
  | [] => by simp
  | x :: l => by
    have h1 := flat_sum f g h l
    have h2 := h x
    rw [List.flatMap_cons, List.length_append, List.map_cons, List.sum_cons]
    omega
theorem sum_plus {α : Type} (g : α → Int) (c : Int) : ∀ l : List α, (l.map fun x => g x + c).sum = (l.map g).sum + l.length * c
  | [] => by simp
  | x :: l => by
    rw [List.map_cons, List.map_cons, List.sum_cons, List.sum_cons, sum_plus g c l, List.length_cons, Int.natCast_add, Int.add_mul]
    omega
theorem smL_fine {s : SmM} (h : smsBulk 6000 [s] ≤ 6000) : (smL s.sm).length ≤ 500000 := by
  unfold smsBulk smsTo at h
  split at h
  · unfold smsTo at h
    have hks : ∀ m ∈ s.ks.map fun k => (k.key.size : Int), (0 : Int) ≤ m := fun m hm => by simp at hm; obtain ⟨k, _, rfl⟩ := hm; omega
    have h2 := upTo_sum (by omega) _ _ hks h
    have h20 : 0 ≤ (s.ks.map fun k => (k.key.size : Int)).sum := sum_nn hks
    have he := (evBulk_le 6000 s.es).1
    have h3 := sumTo_up (top := 6000) (by omega) (l := [(s.name.size : Int), evBulk 6000 s.es, (s.ks.length : Int)]) (n := sumTo 0 [(([s] : List SmM).length : Int)]) (by simp; omega) (by omega)
    have h30 : 0 ≤ sumTo 0 [(([s] : List SmM).length : Int)] := sumTo_pos (by simp) (by omega)
    simp only [List.sum_cons, List.sum_nil, Int.add_zero] at h3
    have h31 := sumTo_pos (l := [(s.name.size : Int), evBulk 6000 s.es, (s.ks.length : Int)]) (by simp; omega) h30
    have h4 : evBulkTo 6000 (sumTo 0 [(s.es.length : Int)]) s.es ≤ 6000 := by
      have : evBulk 6000 s.es ≤ 6000 := by omega
      exact this
    have h5 : sumTo 0 [(s.es.length : Int)] + (s.es.map fun e => (e.stream.size : Int) + e.data.size).sum ≤ evBulk 6000 s.es := evBulkTo_sum (by omega) _ _ h4
    have h50 : 0 ≤ (s.es.map fun e => (e.stream.size : Int) + e.data.size).sum := sum_nn fun x hx => by
      obtain ⟨e, _, rfl⟩ := List.mem_map.1 hx
      omega
    have h6 := sumTo_up (top := 6000) (by omega) (l := [(s.es.length : Int)]) (n := 0) (by simp) (by omega)
    simp only [List.sum_cons, List.sum_nil, Int.add_zero] at h6
    have h7 : sumTo 0 [(s.es.length : Int)] = s.es.length := by
      unfold sumTo
      rw [if_pos (by omega)]
      unfold sumTo
      omega
    unfold smL
    split
    · unfold smBytes SmM.sm
      simp only [List.length_append]
      have a1 := flat_sum evL (fun e => (e.stream.size : Int) + e.data.size + 80) (fun e => by have := evL_len e; omega) s.es
      have a2 := flat_sum knBytes (fun k => (k.key.size : Int) + 50) (fun k => by have := knBytes_len k; omega) s.ks
      rw [sum_plus] at a1 a2
      have := text_len s.name
      have := vL_len s.es.length
      have := vL_len s.ks.length
      omega
    · simp
  · exfalso
    rename_i hn
    apply hn
    unfold sumTo
    split <;> simp [sumTo] at *
theorem batL_fine {key : ByteArray} {ps : List PutM} (h : batchOf 6000 key ps ≤ 6000) : (batL key (ps.map PutM.p)).length ≤ 500000 := by
  by_cases hc : chkN key (ps.map PutM.p) = 0
  · have h1 := chk_small hc
    rw [List.length_map] at h1
    unfold batchOf at h
    have b1 := bulkTo_small (by omega) _ _ h
    have b2 := sumTo_le_two (by omega) (by omega) (by omega) b1.1
    have b3 := b1.2 (sumTo_pos (l := [(key.size : Int), (ps.length : Int)]) (by simp) (by omega))
    rw [batL_ok hc]
    unfold batBytes
    have h2 := flatLe putBytes 30000 (ps.map PutM.p) fun p hp => by
      obtain ⟨m, hm, rfl⟩ := List.mem_map.1 hp
      have h3 := h1.2 _ hp
      have h4 := (b3 m hm).1
      have h5 := texts_len m.p.data 1000 h3.2.1
      have h6 := textL_len m.p.stream
      have h7 : (m.p.stream.size : Int) ≤ 6000 := h4
      have h8 := vL_len (zigN m.p.expect)
      have h9 := vL_len m.p.data.length
      have h10 := Nat.mul_le_mul_right 1010 h3.1
      unfold putBytes
      simp only [List.length_append]
      omega
    rw [List.length_map] at h2
    have h3 := textL_len key
    have h4 := vL_len (ps.map PutM.p).length
    simp only [List.length_append]
    have h5 := Nat.mul_le_mul_right 30000 h1.1
    omega
  · rw [batL_no hc]
    simp
end Go.Proofs.YtheogchkelmeeaaDoor

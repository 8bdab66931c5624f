/- Several texts in one: Same, EvBulk, AlikeSm. -/
import Derived.Test.YtheogchkelmeeaaDoorM6MsgCodes
import Derived.Test.YtheogchkelmeeaaDoorM20MsgCodes
import Derived.Test.YtheogchkelmeeaaDoorM25MsgCodes
/- penstockref7.SameEvents: whether two lists of events are one. Condition: the lengths fit an int. -/
namespace Go.Proofs.YtheogchkelmeeaaDoor
open Go.RowKit

def evsB (es fs : List Ev) : Bool := decide (es = fs)
theorem Sl.ev {w : World} {B : Nat} {A : Option Addr} {xs : List Ev} {k : Nat} {x : Ev} (h : Sl Ev.cells 7 w B A xs) (hx : xs[k]? = some x) :
    ∃ b o, A = some ⟨b, o, none⟩ ∧ b < B ∧ w.cell? ⟨b, o + k * 7, none⟩ = some (.string x.stream) ∧ w.cell? ⟨b, o + k * 7 + 1, none⟩ = some (.int .i64 x.version) ∧ w.cell? ⟨b, o + k * 7 + 2, none⟩ = some (.string x.data) ∧
      w.cell? ⟨b, o + k * 7 + 3, none⟩ = some (.int .i64 x.st.wall) ∧ w.cell? ⟨b, o + k * 7 + 4, none⟩ = some (.int .i64 x.st.logic) ∧ w.cell? ⟨b, o + k * 7 + 5, none⟩ = some (.int .i64 x.st.node) ∧ w.cell? ⟨b, o + k * 7 + 6, none⟩ = some (.int .i64 x.index) := by
  obtain ⟨b, o, e, hb, hc⟩ := h.get hx
  exact ⟨b, o, e, hb, hc 0 _ rfl, hc 1 _ rfl, hc 2 _ rfl, hc 3 _ rfl, hc 4 _ rfl, hc 5 _ rfl, hc 6 _ rfl⟩

/-- The cells of an event that is there, in every world that has grown from this one. -/
theorem Sl.evG {w : World} {B : Nat} {A : Option Addr} {xs : List Ev} {k : Nat} {x : Ev} (h : Sl Ev.cells 7 w B A xs) (hB : B ≤ w.heap.size) (hx : xs[k]? = some x) :
    ∃ b o, A = some ⟨b, o, none⟩ ∧ b < w.heap.size ∧ (∀ w', G w w' → w'.cell? ⟨b, o + k * 7, none⟩ = some (.string x.stream)) ∧ (∀ w', G w w' → w'.cell? ⟨b, o + k * 7 + 1, none⟩ = some (.int .i64 x.version)) ∧ (∀ w', G w w' → w'.cell? ⟨b, o + k * 7 + 2, none⟩ = some (.string x.data)) ∧
      (∀ w', G w w' → w'.cell? ⟨b, o + k * 7 + 3, none⟩ = some (.int .i64 x.st.wall)) ∧ (∀ w', G w w' → w'.cell? ⟨b, o + k * 7 + 4, none⟩ = some (.int .i64 x.st.logic)) ∧ (∀ w', G w w' → w'.cell? ⟨b, o + k * 7 + 5, none⟩ = some (.int .i64 x.st.node)) ∧ (∀ w', G w w' → w'.cell? ⟨b, o + k * 7 + 6, none⟩ = some (.int .i64 x.index)) := by
  obtain ⟨b, o, e, hb, c0, c1, c2, c3, c4, c5, c6⟩ := h.ev hx
  have hb' : b < w.heap.size := by omega
  exact ⟨b, o, e, hb', fun w' hg => (hg.cell hb').trans c0, fun w' hg => (hg.cell hb').trans c1, fun w' hg => (hg.cell hb').trans c2, fun w' hg => (hg.cell hb').trans c3, fun w' hg => (hg.cell hb').trans c4, fun w' hg => (hg.cell hb').trans c5, fun w' hg => (hg.cell hb').trans c6⟩

set_option maxHeartbeats 1000000 in
theorem sameEvents_any (es fs : List Ev) (A A2 : Option Addr) (c c2 B : Nat) (w : World) (hB : B ≤ w.heap.size) (_hl : es.length ≤ 9223372036854775807) (_hl2 : fs.length ≤ 9223372036854775807)
    (hs : Sl Ev.cells 7 w B A es) (hs2 : Sl Ev.cells 7 w B A2 fs) :
    Calls Tryd.prog 36 #[.slice A es.length c, .slice A2 fs.length c2] w fun e w' => e = .returned (.bool (evsB es fs)) ∧ G w w' := by
  by_cases hlen : es.length = fs.length
  · have hlb : ((es.length : Int) != (fs.length : Int)) = false := by rw [bne_eq_false_iff_eq]; omega
    go_enter Tryd.func36, Tryd.ntmps36
    have hle : es.length ≤ fs.length := by omega
    replace hlen := Lib.hid hlen
    go_wp2_with fail
    go_loopw [5] (fun i wr => ∃ (k : Nat), k ≤ es.length ∧ i = .int .i64 k ∧ G w wr ∧ Hid (es.take k = fs.take k)) (fun i _ => es.length - (intOf i).toNat)
    case atStart => exact ⟨0, Nat.zero_le _, rfl, G.refl _, by simp [Hid]⟩
    case round =>
      obtain ⟨k, hk, rfl, hg, hh⟩ := hrel
      by_cases hlt : k < es.length
      · obtain ⟨⟨s1, v1, d1, ⟨x1, y1, z1⟩, i1⟩, ha⟩ : ∃ a, es[k]? = some a := ⟨_, List.getElem?_eq_getElem hlt⟩
        obtain ⟨⟨s2, v2, d2, ⟨x2, y2, z2⟩, i2⟩, hb⟩ : ∃ b, fs[k]? = some b := ⟨_, List.getElem?_eq_getElem (by omega)⟩
        obtain ⟨b1, o1, rfl, hb1, _⟩ := hs.ev ha
        obtain ⟨b2, o2, rfl, hb2, _⟩ := hs2.ev hb
        obtain ⟨_, _, e1, _, c10, c11, c12, c13, c14, c15, c16⟩ := (hs.g hB hg).ev ha
        cases e1
        obtain ⟨_, _, e1, _, c20, c21, c22, c23, c24, c25, c26⟩ := (hs2.g hB hg).ev hb
        cases e1
        have hnq := @ev_neq
        replace ha := Lib.hid ha
        replace hb := Lib.hid hb
        clear hs hs2
        go_wp2_with fail
        go_quiet (fail)
        clear hnq
        go_wp2_with fail
        · go_ret
          rename_i hq
          refine ⟨ret_bool ?_, hg.drewN _⟩
          unfold evsB
          rw [decide_eq_false]
          rintro rfl
          have h3 := ha.out.symm.trans hb.out
          simp [evB] at hq
          simp at h3
          simp [h3] at hq
        · rename_i hq
          go_roundw
          case rel =>
            refine ⟨k + 1, by omega, by go_num, hg.drewN _, ?_⟩
            unfold Hid
            have he : es[k]? = fs[k]? := by
              rw [ha.out, hb.out]
              simp [evB] at hq
              simp [hq]
            rw [List.take_add_one, List.take_add_one, hh.out, he]
          case measure => simp [intOf]; omega
      · go_wp2_with fail
        go_ret
        exact ⟨ret_bool (by
          unfold evsB
          rw [decide_eq_true]
          have h1 : es.take k = es := List.take_of_length_le (by omega)
          have h2 : fs.take k = fs := List.take_of_length_le (by have := hlen.out; omega)
          rw [← h1, ← h2]; exact hh.out), hg⟩
  · have hlb : ((es.length : Int) != (fs.length : Int)) = true := by rw [bne_iff_ne]; omega
    go_enter Tryd.func36, Tryd.ntmps36
    go_wp2_with fail
    go_ret
    exact ⟨ret_bool (by unfold evsB; rw [decide_eq_false]; intro h; exact hlen (by rw [h])), G.refl _⟩

theorem sameEvents_self (es : List Ev) (A A2 : Option Addr) (c c2 B : Nat) (w : World) (hB : B ≤ w.heap.size) (hl : es.length ≤ 9223372036854775807)
    (hs : Sl Ev.cells 7 w B A es) (hs2 : Sl Ev.cells 7 w B A2 es) :
    Calls Tryd.prog 36 #[.slice A es.length c, .slice A2 es.length c2] w fun e w' => e = .returned (.bool true) ∧ G w w' :=
  (sameEvents_any es es A A2 c c2 B w hB hl hl hs hs2).mono fun _ _ ⟨he, hg⟩ => ⟨by rw [he]; unfold evsB; simp, hg⟩
end Go.Proofs.YtheogchkelmeeaaDoor
/- penstockalike.Events: what it answers. Condition: lengths fit an int. -/
namespace Go.Proofs.YtheogchkelmeeaaDoor
open Go.RowKit

/-- Events' loop. -/
def evBulkTo (top : Int) (n : Int) : List Ev → Int
  | [] => n
  | e :: l => if n ≤ top then evBulkTo top (sumTo n [(e.stream.size : Int), (e.data.size : Int)]) l else n
def evBulk (top : Int) (es : List Ev) : Int := evBulkTo top (sumTo 0 [(es.length : Int)]) es
theorem evBulkTo_drop (top n : Int) (xs : List Ev) (k : Nat) (x : Ev) (h : xs[k]? = some x) :
    evBulkTo top n (xs.drop k) = if n ≤ top then evBulkTo top (sumTo n [(x.stream.size : Int), (x.data.size : Int)]) (xs.drop (k + 1)) else n := by
  obtain ⟨hk, rfl⟩ := List.getElem?_eq_some_iff.1 h
  rw [List.drop_eq_getElem_cons hk]
  rfl
theorem evBulkTo_le (top n : Int) (h0 : 0 ≤ n) (h : n ≤ 1099511627776) : ∀ l : List Ev, 0 ≤ evBulkTo top n l ∧ evBulkTo top n l ≤ 1099511627776 := by
  intro l
  induction l generalizing n with
  | nil => exact ⟨h0, h⟩
  | cons m l ih =>
    have h3 := sumTo_le2 n m.stream.size m.data.size h0 h (by omega) (by omega)
    simp only [evBulkTo]
    split
    · exact ih _ h3.1 h3.2
    · omega
theorem evBulk_le (top : Int) (es : List Ev) : 0 ≤ evBulk top es ∧ evBulk top es ≤ 1099511627776 := by
  have h := sumTo_le1 0 es.length (by omega) (by omega) (by omega)
  exact evBulkTo_le top _ h.1 h.2 _
def EvsOk (es : List Ev) : Prop := ∀ e ∈ es, e.stream.size ≤ 9223372036854775807 ∧ e.data.size ≤ 9223372036854775807

set_option maxHeartbeats 1000000 in
theorem events_any (top : Int) (es : List Ev) (A : Option Addr) (c B : Nat) (w : World) (hB : B ≤ w.heap.size) (hl : es.length ≤ 9223372036854775807) (hx : EvsOk es)
    (hs : Sl Ev.cells 7 w B A es) :
    Calls Tryd.prog 31 #[.slice A es.length c, .int .i64 top] w fun e w' => e = .returned (.int .i64 (evBulk top es)) ∧ G w w' := by
  have HX := Lib.hid hx
  clear hx
  unfold evBulk
  go_enter Tryd.func31, Tryd.ntmps31
  go_wp2_with fail
  refine (sum_1 0 es.length _ _ (by omega) (by omega) (by omega) (by omega) (by simp)).mono ?_
  rintro e w1 ⟨rfl, rfl⟩
  have hq := sumTo_le1 0 es.length (by omega) (by omega) (by omega)
  generalize hn0 : sumTo 0 [(es.length : Int)] = n0 at *
  have HN := Lib.hid hn0
  clear hn0
  go_wp2_with fail
  go_loopw [5, 6] (fun t i wr => ∃ (k : Nat) (m : Int), k ≤ es.length ∧ i = .int .i64 k ∧ t = .int .i64 m ∧ 0 ≤ m ∧ m ≤ 1099511627776 ∧ Hid (evBulkTo top n0 es = evBulkTo top m (es.drop k)) ∧ G w wr) (fun _ i _ => es.length - (intOf i).toNat)
  case atStart => exact ⟨0, n0, Nat.zero_le _, rfl, rfl, hq.1, hq.2, by simp [Hid], G.new _ _⟩
  case round =>
    obtain ⟨k, m, hk, rfl, rfl, hm0, hm1, hh, hg⟩ := hrel
    by_cases hlt : k < es.length
    · obtain ⟨x, hx1⟩ : ∃ x, es[k]? = some x := ⟨_, List.getElem?_eq_getElem hlt⟩
      have hsd := Lib.hid (evBulkTo_drop top m es k x hx1)
      obtain ⟨hz0, hz2⟩ := HX.out x (List.mem_of_getElem? hx1)
      obtain ⟨xs, xv, xd, xt, xi⟩ := x
      obtain ⟨b, o, rfl, hb, c0, _, c2, _⟩ := hs.evG hB hx1
      replace hx1 := Lib.hid hx1
      clear hs
      dsimp only at hz0 hz2 c0 c2 hsd
      by_cases htop : m ≤ top
      · go_wp2_with fail
        go_region_held3 (fun w' => G w w') (first | exact hg.drew | exact G.alloc (by assumption) _ | assumption | fail) (first | (go_at_call 28; refine (sum_2 m xs.size xd.size _ _ (by omega) (by omega) (by omega) (by omega) (by omega) (by omega) (by simp) (by simp)).mono ?_; rintro e w2 ⟨rfl, rfl⟩))
        go_wp2_with fail
        go_roundw
        case rel =>
          have hq2 := sumTo_le2 m xs.size xd.size (by omega) (by omega) (by omega) (by omega)
          exact ⟨k + 1, _, by omega, by go_num, rfl, hq2.1, hq2.2, by unfold Hid; rw [hh.out, hsd.out, if_pos (by omega)], by assumption⟩
        case measure => simp [intOf]; omega
      · go_wp2_with fail
        go_ret
        exact ⟨ret_int (by rw [HN.out, hh.out, hsd.out, if_neg (by omega)]), hg⟩
    · go_wp2_with fail
      go_ret
      exact ⟨ret_int (by rw [HN.out, hh.out, List.drop_eq_nil_of_le (by omega)]; rfl), hg⟩
end Go.Proofs.YtheogchkelmeeaaDoor
/- penstockalike.Streams: what it answers; what a small bulk says. Condition: lengths fit an int. -/
namespace Go.Proofs.YtheogchkelmeeaaDoor
open Go.RowKit

/-- A stream as it lies. -/
structure SmM where
  name : ByteArray
  Ae : Option Addr
  ce : Nat
  es : List Ev
  Ak : Option Addr
  ck : Nat
  ks : List Kn
def SmM.cells (s : SmM) : List Value := [.string s.name, .slice s.Ae s.es.length s.ce, .slice s.Ak s.ks.length s.ck]
theorem SmM.cells_len (s : SmM) : s.cells.length = 3 := rfl
def SmM.sm (s : SmM) : Sm := ⟨s.name, s.es, s.ks⟩
/-- Streams as they lie. -/
def SmsIn (w : World) (B : Nat) (A : Option Addr) (ss : List SmM) : Prop := Sl SmM.cells 3 w B A ss ∧ ∀ s ∈ ss, SmIn w B s.Ae s.Ak s.es s.ks
theorem SmsIn.g {w w' : World} {B : Nat} {A : Option Addr} {ss : List SmM} (h : SmsIn w B A ss) (hB : B ≤ w.heap.size) (hg : G w w') : SmsIn w' B A ss := ⟨h.1.g hB hg, fun s hs => (h.2 s hs).g hB hg⟩
/-- Streams' loop. -/
def smsTo (top : Int) (n : Int) : List SmM → Int
  | [] => n
  | s :: l => if n ≤ top then smsTo top (upTo top (sumTo n [(s.name.size : Int), evBulk top s.es, (s.ks.length : Int)]) (s.ks.map fun k => (k.key.size : Int))) l else n
def smsBulk (top : Int) (ss : List SmM) : Int := smsTo top (sumTo 0 [(ss.length : Int)]) ss
theorem smsTo_drop (top n : Int) (xs : List SmM) (k : Nat) (x : SmM) (h : xs[k]? = some x) :
    smsTo top n (xs.drop k) = if n ≤ top then smsTo top (upTo top (sumTo n [(x.name.size : Int), evBulk top x.es, (x.ks.length : Int)]) (x.ks.map fun k => (k.key.size : Int))) (xs.drop (k + 1)) else n := by
  obtain ⟨hk, rfl⟩ := List.getElem?_eq_some_iff.1 h
  rw [List.drop_eq_getElem_cons hk]
  rfl
theorem sumTo_le3 (n m m2 m3 : Int) (h0 : 0 ≤ n) (h : n ≤ 1099511627776) (hm : 0 ≤ m) (hm2 : 0 ≤ m2) (hm3 : 0 ≤ m3) : 0 ≤ sumTo n [m, m2, m3] ∧ sumTo n [m, m2, m3] ≤ 1099511627776 :=
  sumTo_le n h0 h [m, m2, m3] (fun k hk => by simp at hk; omega)
theorem smsTo_le (top n : Int) (h0 : 0 ≤ n) (h : n ≤ 1099511627776) : ∀ l : List SmM, 0 ≤ smsTo top n l ∧ smsTo top n l ≤ 1099511627776 := by
  intro l
  induction l generalizing n with
  | nil => exact ⟨h0, h⟩
  | cons s l ih =>
    simp only [smsTo]
    split
    · have h1 := sumTo_le3 n s.name.size (evBulk top s.es) s.ks.length h0 h (by omega) (evBulk_le top s.es).1 (by omega)
      have h2 := upTo_le top _ h1.1 h1.2 (s.ks.map fun k => (k.key.size : Int)) (fun m hm => by simp at hm; obtain ⟨k, _, rfl⟩ := hm; omega)
      exact ih _ h2.1 h2.2
    · exact ⟨h0, h⟩
theorem smsBulk_le (top : Int) (ss : List SmM) : 0 ≤ smsBulk top ss ∧ smsBulk top ss ≤ 1099511627776 := by
  have h := sumTo_le1 0 ss.length (by omega) (by omega) (by omega)
  exact smsTo_le top _ h.1 h.2 _
def KnsOk (ks : List Kn) : Prop := ks.length ≤ 9223372036854775807 ∧ ∀ k ∈ ks, k.key.size ≤ 9223372036854775807
def SmsOk (ss : List SmM) : Prop := ss.length ≤ 9223372036854775807 ∧ ∀ s ∈ ss, s.name.size ≤ 9223372036854775807 ∧ s.es.length ≤ 9223372036854775807 ∧ EvsOk s.es ∧ KnsOk s.ks

set_option maxHeartbeats 4000000 in
theorem streams_any (top : Int) (ss : List SmM) (A : Option Addr) (c B : Nat) (w : World) (hB : B ≤ w.heap.size) (ho : SmsOk ss) (hs : SmsIn w B A ss) :
    Calls Tryd.prog 30 #[.slice A ss.length c, .int .i64 top] w fun e w' => e = .returned (.int .i64 (smsBulk top ss)) ∧ G w w' := by
  obtain ⟨hl, HX⟩ := ho
  replace HX := Lib.hid HX
  unfold smsBulk
  go_enter Tryd.func30, Tryd.ntmps30
  go_wp2_with fail
  refine (sum_1 0 ss.length _ _ (by omega) (by omega) (by omega) (by omega) (by simp)).mono ?_
  rintro e w1 ⟨rfl, rfl⟩
  have hq := sumTo_le1 0 ss.length (by omega) (by omega) (by omega)
  generalize hn0 : sumTo 0 [(ss.length : Int)] = n0 at *
  have HN := Lib.hid hn0
  clear hn0
  go_wp2_with fail
  go_loopw [5, 6] (fun t i wr => ∃ (k : Nat) (m : Int), k ≤ ss.length ∧ i = .int .i64 k ∧ t = .int .i64 m ∧ 0 ≤ m ∧ m ≤ 1099511627776 ∧ Hid (smsTo top n0 ss = smsTo top m (ss.drop k)) ∧ G w wr) (fun _ i _ => ss.length - (intOf i).toNat)
  case atStart => exact ⟨0, n0, Nat.zero_le _, rfl, rfl, hq.1, hq.2, by simp [Hid], G.new _ _⟩
  case round =>
    obtain ⟨wo, rfl⟩ : ∃ wo : World, wo = wr := ⟨_, rfl⟩
    obtain ⟨k, m, hk, rfl, rfl, hm0, hm1, hh, hbel⟩ := hrel
    by_cases hlt : k < ss.length
    · obtain ⟨⟨sn, sA, sc, se, sA2, sc2, sk⟩, hp⟩ : ∃ p, ss[k]? = some p := ⟨_, List.getElem?_eq_getElem hlt⟩
      obtain ⟨b, o, rfl, hbB, hcells⟩ := hs.1.get hp
      have hsd := Lib.hid (smsTo_drop top m ss k _ hp)
      have hpm := List.mem_of_getElem? hp
      obtain ⟨hx1, hx2, hx3, hx4, hx5⟩ := HX.out _ hpm
      have hsi := hs.2 _ hpm
      simp only at hx1 hx2 hx3 hx4 hx5 hsi hsd
      have hes : ∀ w', G w w' → Sl Ev.cells 7 w' B sA se := fun w' h => hsi.1.g hB h
      have hks : ∀ w', G w w' → Sl Kn.cells 5 w' B sA2 sk := fun w' h => hsi.2.g hB h
      have c0 : ∀ w', G w w' → w'.cell? ⟨b, o + k * 3, none⟩ = some (.string sn) := fun w' h => (h.cell (by omega)).trans (hcells 0 _ rfl)
      have c1 : ∀ w', G w w' → w'.cell? ⟨b, o + k * 3 + 1, none⟩ = some (.slice sA se.length sc) := fun w' h => (h.cell (by omega)).trans (hcells 1 _ rfl)
      have c2 : ∀ w', G w w' → w'.cell? ⟨b, o + k * 3 + 2, none⟩ = some (.slice sA2 sk.length sc2) := fun w' h => (h.cell (by omega)).trans (hcells 2 _ rfl)
      have hB2 : ∀ w', G w w' → B ≤ w'.heap.size := fun w' h => by have := h.size; omega
      have n1 : (0 : Int) ≤ (k : Int) := by omega
      have n2 : (k : Int) < (ss.length : Int) := by omega
      replace hes := Lib.hid hes
      replace hks := Lib.hid hks
      replace hx5 := Lib.hid hx5
      clear hcells hs hp hsi
      by_cases htop : m ≤ top
      · go_upto_region 5 with fail
        obtain ⟨ht0, ht1⟩ := evBulk_le top se
        have hbd := hbel.drew
        go_region_held3 (fun w' => G w w') (first | exact hbel.drew | exact G.keep hbw1 (by assumption) | exact G.alloc (by assumption) _ | assumption | fail) (first | (go_at_call 31; refine (events_any top se sA sc B _ (hB2 _ (by assumption)) hx2 hx3 (hes.out _ (by assumption))).mono ?_; rintro e w1 ⟨rfl, hbw1⟩) | (go_at_call 28; refine (sum_3 m sn.size (evBulk top se) sk.length _ _ (by omega) (by omega) (by omega) (by omega) (by omega) (by omega) (by omega) (by omega) (by simp) (by simp) (by simp)).mono ?_; rintro e w2 ⟨rfl, rfl⟩))
        have hq2 := sumTo_le3 m sn.size (evBulk top se) sk.length (by omega) (by omega) (by omega) (by omega) (by omega)
        generalize hm3 : sumTo m [(sn.size : Int), evBulk top se, (sk.length : Int)] = m3 at *
        clear hm3
        go_wp2_with fail
        go_loopw [5, 7] (fun t i wr => ∃ (j : Nat) (q : Int), j ≤ sk.length ∧ i = .int .i64 j ∧ t = .int .i64 q ∧ 0 ≤ q ∧ q ≤ 1099511627776 ∧ Hid (upTo top m3 (sk.map fun k => (k.key.size : Int)) = upTo top q ((sk.map fun k => (k.key.size : Int)).drop j)) ∧ G w wr) (fun _ i _ => sk.length - (intOf i).toNat)
        case atStart => exact ⟨0, m3, Nat.zero_le _, rfl, rfl, hq2.1, hq2.2, by simp [Hid], by assumption⟩
        case round =>
          obtain ⟨j, q, hj, rfl, rfl, hq0, hq1, hjj, hgj⟩ := hrel
          have c2w := c2 _ hgj
          by_cases hjl : j < sk.length
          · obtain ⟨⟨yk, yv, ys⟩, hy⟩ : ∃ y, sk[j]? = some y := ⟨_, List.getElem?_eq_getElem hjl⟩
            obtain ⟨b3, o3, rfl, hb3, hc3⟩ := (hks.out _ hgj).get hy
            have d0 := hc3 0 _ rfl
            simp only [Nat.add_zero] at d0
            have hud := Lib.hid (upTo_drop top q (sk.map fun k => (k.key.size : Int)) j yk.size (by simp [hy]))
            have hyz := hx5.out _ (List.mem_of_getElem? hy)
            simp only at hyz
            have m1 : (0 : Int) ≤ (j : Int) := by omega
            have m2 : (j : Int) < (sk.length : Int) := by omega
            replace hy := Lib.hid hy
            clear hc3
            by_cases hqt : q ≤ top
            · go_wp2_with (go_at_call 28; refine (sum_1 q yk.size _ _ (by omega) (by omega) (by omega) (by omega) (by simp)).mono ?_; rintro e w5 ⟨rfl, rfl⟩)
              go_roundw
              case rel =>
                have hq3 := sumTo_le1 q yk.size (by omega) (by omega) (by omega)
                exact ⟨j + 1, _, by omega, by go_num, rfl, hq3.1, hq3.2, by unfold Hid; rw [hjj.out, hud.out, if_pos (by omega)], hgj.alloc _⟩
              case measure => (simp [intOf] <;> omega)
            · go_wp2_with fail
              go_roundw
              case rel => exact ⟨k + 1, q, by omega, by go_num, rfl, hq0, hq1, by unfold Hid; rw [hh.out, hsd.out, if_pos (by omega), hjj.out, hud.out, if_neg (by omega)], hgj⟩
              case measure => (simp [intOf] <;> omega)
          · go_wp2_with fail
            go_roundw
            case rel => exact ⟨k + 1, q, by omega, by go_num, rfl, hq0, hq1, by unfold Hid; rw [hh.out, hsd.out, if_pos (by omega), hjj.out, List.drop_eq_nil_of_le (by simp; omega)]; rfl, hgj⟩
            case measure => (simp [intOf] <;> omega)
      · go_wp2_with fail
        go_ret
        exact ⟨ret_int (by rw [HN.out, hh.out, hsd.out, if_neg (by omega)]), hbel⟩
    · go_wp2_with fail
      go_ret
      exact ⟨ret_int (by rw [HN.out, hh.out, List.drop_eq_nil_of_le (by omega)]; rfl), hbel⟩

/-! What a small bulk says. -/
theorem sumTo_up {top : Int} (ht : top < 1099511627776) : ∀ {l : List Int} {n : Int}, (∀ m ∈ l, 0 ≤ m) → sumTo n l ≤ top → n + l.sum ≤ top
  | [], n, _, h => by simpa [sumTo] using h
  | m :: l, n, hl, h => by
    unfold sumTo at h
    split at h
    · have := sumTo_up ht (fun k hk => hl k (by simp [hk])) h
      rw [List.sum_cons]
      omega
    · omega
theorem upTo_up {top : Int} (ht : top < 1099511627776) : ∀ (l : List Int) (n : Int), (∀ m ∈ l, 0 ≤ m) → upTo top n l ≤ top → n ≤ top ∧ (0 ≤ n → ∀ m ∈ l, m ≤ top)
  | [], n, _, h => ⟨h, fun _ _ h => by cases h⟩
  | m :: l, n, hl, h => by
    have hm := hl m (by simp)
    unfold upTo at h
    split at h
    · have h1 := upTo_up ht l (sumTo n [m]) (fun k hk => hl k (by simp [hk])) h
      have h2 := sumTo_up (n := n) ht (l := [m]) (by simpa using hm) h1.1
      simp only [List.sum_cons, List.sum_nil, Int.add_zero] at h2
      refine ⟨by omega, fun hn k hk => ?_⟩
      rcases List.mem_cons.1 hk with rfl | hk
      · omega
      · refine h1.2 ?_ k hk
        unfold sumTo
        split
        · unfold sumTo; omega
        · omega
    · omega
theorem evBulkTo_up {top : Int} (ht : top < 1099511627776) : ∀ (l : List Ev) (n : Int), evBulkTo top n l ≤ top → n ≤ top ∧ (0 ≤ n → ∀ e ∈ l, (e.stream.size : Int) ≤ top ∧ (e.data.size : Int) ≤ top)
  | [], n, h => ⟨h, fun _ _ h => by cases h⟩
  | m :: l, n, h => by
    unfold evBulkTo at h
    split at h
    · have h1 := evBulkTo_up ht l _ h
      have h2 := sumTo_up (n := n) ht (l := [(m.stream.size : Int), (m.data.size : Int)]) (by simp) h1.1
      simp only [List.sum_cons, List.sum_nil, Int.add_zero] at h2
      refine ⟨by omega, fun hn k hk => ?_⟩
      rcases List.mem_cons.1 hk with rfl | hk
      · omega
      · refine h1.2 ?_ k hk
        unfold sumTo
        split
        · unfold sumTo
          split
          · unfold sumTo; omega
          · omega
        · omega
    · omega
theorem evBulk_up {top : Int} (ht : top < 1099511627776) {es : List Ev} (h : evBulk top es ≤ top) : (es.length : Int) ≤ top ∧ ∀ e ∈ es, (e.stream.size : Int) ≤ top ∧ (e.data.size : Int) ≤ top := by
  have h1 := evBulkTo_up ht _ _ h
  have h2 := sumTo_up (n := 0) ht (l := [(es.length : Int)]) (by simp) h1.1
  simp only [List.sum_cons, List.sum_nil, Int.add_zero] at h2
  refine ⟨by omega, h1.2 ?_⟩
  unfold sumTo
  split
  · unfold sumTo; omega
  · omega
theorem sumTo_pos : ∀ {l : List Int}, (∀ m ∈ l, 0 ≤ m) → ∀ {n : Int}, 0 ≤ n → 0 ≤ sumTo n l
  | [], _, n, h => by simpa [sumTo] using h
  | m :: l, hl, n, h => by
    have := hl m (by simp)
    unfold sumTo
    split
    · exact sumTo_pos (fun k hk => hl k (by simp [hk])) (by omega)
    · omega
theorem upTo_pos {top : Int} : ∀ {l : List Int} {n : Int}, (∀ m ∈ l, 0 ≤ m) → 0 ≤ n → 0 ≤ upTo top n l
  | [], n, _, h => by simpa [upTo] using h
  | m :: l, n, hl, h => by
    unfold upTo
    split
    · exact upTo_pos (fun k hk => hl k (by simp [hk])) (sumTo_pos (fun k hk => by simp at hk; rw [hk]; exact hl m (by simp)) h)
    · exact h
theorem smsTo_up {top : Int} (ht : top ≤ 524288) : ∀ (ss : List SmM) (n : Int), smsTo top n ss ≤ top → n ≤ top ∧ (0 ≤ n → ∀ s ∈ ss, SmSmall s.name s.es s.ks)
  | [], n, h => ⟨h, fun _ _ h => by cases h⟩
  | s :: l, n, h => by
    unfold smsTo at h
    split at h
    · have h1 := smsTo_up ht l _ h
      have hks : ∀ m ∈ s.ks.map fun k => (k.key.size : Int), (0 : Int) ≤ m := fun m hm => by simp at hm; obtain ⟨k, _, rfl⟩ := hm; omega
      have h2 := upTo_up (by omega) _ _ hks h1.1
      have he := (evBulk_le top s.es).1
      have hl3 : ∀ m ∈ [(s.name.size : Int), evBulk top s.es, (s.ks.length : Int)], 0 ≤ m := by simp; omega
      have h3 := sumTo_up (n := n) (by omega) hl3 h2.1
      simp only [List.sum_cons, List.sum_nil, Int.add_zero] at h3
      refine ⟨by omega, fun hn t ht2 => ?_⟩
      have hp := sumTo_pos hl3 hn
      rcases List.mem_cons.1 ht2 with rfl | ht2
      · have h4 := evBulk_up (top := top) (by omega) (es := t.es) (by omega)
        have h5 := h2.2 hp
        exact ⟨by omega, ⟨by omega, fun e hm => by have := h4.2 e hm; omega⟩, by omega, fun k hm => by have := h5 (k.key.size : Int) (List.mem_map.2 ⟨k, hm, rfl⟩); omega⟩
      · refine h1.2 ?_ t ht2
        exact (upTo_pos hks hp)
    · omega
theorem sms_small {top : Int} (ht : top ≤ 524288) {ss : List SmM} (h : smsBulk top ss ≤ top) : (ss.length : Int) ≤ top ∧ ∀ s ∈ ss, SmSmall s.name s.es s.ks := by
  have h1 := smsTo_up ht _ _ h
  have h2 := sumTo_up (n := 0) (by omega) (l := [(ss.length : Int)]) (by simp) h1.1
  simp only [List.sum_cons, List.sum_nil, Int.add_zero] at h2
  exact ⟨by omega, h1.2 (sumTo_pos (l := [(ss.length : Int)]) (by simp) (by omega))⟩
end Go.Proofs.YtheogchkelmeeaaDoor

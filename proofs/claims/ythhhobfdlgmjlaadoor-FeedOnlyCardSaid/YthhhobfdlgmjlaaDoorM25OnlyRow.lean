/- Several texts in one: Total, Batch, Make, Prefix, FeedOnly. -/
import Derived.Test.YthhhobfdlgmjlaaDoorM24OnlyRow
import Derived.Test.YthhhobfdlgmjlaaDoorEv
import Derived.Test.YthhhobfdlgmjlaaDoorOwn
import Derived.Test.YthhhobfdlgmjlaaDoorGlobMatchQOnlyRow
/- penstockalike.Total: what it answers. Condition: the lengths fit an int. -/
namespace Go.Proofs.YthhhobfdlgmjlaaDoor
open Go.RowKit

/-- Total's loop: the sum of numbers, one by one, as long as it is not above top. -/
def upTo (top : Int) (n : Int) : List Int → Int
  | [] => n
  | m :: l => if n ≤ top then upTo top (sumTo n [m]) l else n
theorem upTo_drop (top n : Int) (xs : List Int) (k : Nat) (x : Int) (h : xs[k]? = some x) :
    upTo top n (xs.drop k) = if n ≤ top then upTo top (sumTo n [x]) (xs.drop (k + 1)) else n := by
  obtain ⟨hk, rfl⟩ := List.getElem?_eq_some_iff.1 h
  rw [List.drop_eq_getElem_cons hk]
  rfl
/-- What Total answers of texts. -/
def totalOf (top : Int) (ss : List ByteArray) : Int := upTo top (sumTo 0 [(ss.length : Int)]) (ss.map fun s => (s.size : Int))
theorem upTo_le (top n : Int) (h0 : 0 ≤ n) (h : n ≤ 1099511627776) : ∀ l : List Int, (∀ m ∈ l, 0 ≤ m) → 0 ≤ upTo top n l ∧ upTo top n l ≤ 1099511627776 := by
  intro l
  induction l generalizing n with
  | nil => intro _; exact ⟨h0, h⟩
  | cons m l ih =>
    intro hl
    have h2 : 0 ≤ m := hl m (by simp)
    have h3 := sumTo_le1 n m h0 h h2
    simp only [upTo]
    split
    · exact ih _ h3.1 h3.2 (fun k hk => hl k (by simp [hk]))
    · omega
theorem totalOf_le (top : Int) (ss : List ByteArray) : 0 ≤ totalOf top ss ∧ totalOf top ss ≤ 1099511627776 := by
  have h := sumTo_le1 0 ss.length (by omega) (by omega) (by omega)
  exact upTo_le top _ h.1 h.2 _ (fun m hm => by simp at hm; obtain ⟨s, _, rfl⟩ := hm; omega)

end Go.Proofs.YthhhobfdlgmjlaaDoor
/- penstockalike.Batch: what it answers. Condition: the lengths fit an int. -/
namespace Go.Proofs.YthhhobfdlgmjlaaDoor
open Go.RowKit

/-- Batch's loop over the Puts. -/
def bulkTo (top : Int) (n : Int) : List PutM → Int
  | [] => n
  | p :: l => if n ≤ top then bulkTo top (sumTo n [(p.stream.size : Int), totalOf top p.data]) l else n
def batchOf (top : Int) (key : ByteArray) (ps : List PutM) : Int := bulkTo top (sumTo 0 [(key.size : Int), (ps.length : Int)]) ps
theorem bulkTo_drop (top n : Int) (xs : List PutM) (k : Nat) (x : PutM) (h : xs[k]? = some x) :
    bulkTo top n (xs.drop k) = if n ≤ top then bulkTo top (sumTo n [(x.stream.size : Int), totalOf top x.data]) (xs.drop (k + 1)) else n := by
  obtain ⟨hk, rfl⟩ := List.getElem?_eq_some_iff.1 h
  rw [List.drop_eq_getElem_cons hk]
  rfl
/-- What is asked of a batch's lengths. -/
def PutsOk (ps : List PutM) : Prop := ps.length ≤ 9223372036854775807 ∧ ∀ p ∈ ps, p.stream.size ≤ 9223372036854775807 ∧ p.data.length ≤ 9223372036854775807 ∧ ∀ s ∈ p.data, s.size ≤ 9223372036854775807

end Go.Proofs.YthhhobfdlgmjlaaDoor
/- event.Make: what it answers. Conditions: lengths and numbers so small that nothing wraps. -/
namespace Go.Proofs.YthhhobfdlgmjlaaDoor
open Go.RowKit

/-- The events of one Put. -/
def makePut (p : PutM) (first step : Int) (st : St) (ix : Int) : List Ev := p.data.mapIdx fun k d => ⟨p.stream, first + step * k, d, st, ix + k⟩
/-- The events of the Puts from number i on. -/
def makeFrom (firsts : List Int) (st : St) : Nat → Int → List PutM → List Ev
  | _, _, [] => []
  | i, ix, p :: l => makePut p (firsts.getD i 0) (if i < firsts.length then 1 else 0) st ix ++ makeFrom firsts st (i + 1) (ix + p.data.length) l
/-- How many events. -/
def evCount (ps : List PutM) : Nat := (ps.map fun p => p.data.length).sum

/-- A call answers a list of events of its own, and turns nothing that was there. -/
def RetEvs (w : World) (es : List Ev) (e : Ending) (w' : World) : Prop := ∃ v, e = .returned v ∧ Own w' w.heap.size v es ∧ G w w'

theorem makePut_length (p : PutM) (first step : Int) (st : St) (ix : Int) : (makePut p first step st ix).length = p.data.length := by simp [makePut]
theorem makePut_succ (p : PutM) (first step : Int) (st : St) (ix : Int) (j : Nat) (d : ByteArray) (h : p.data[j]? = some d) :
    (makePut p first step st ix).take (j + 1) = (makePut p first step st ix).take j ++ [⟨p.stream, first + step * j, d, st, ix + j⟩] := by
  obtain ⟨hk, rfl⟩ := List.getElem?_eq_some_iff.1 h
  rw [List.take_succ_eq_append_getElem (by simpa [makePut] using hk)]
  simp [makePut]
theorem makeFrom_drop (firsts : List Int) (st : St) (ix : Int) (ps : List PutM) (k : Nat) (p : PutM) (h : ps[k]? = some p) :
    makeFrom firsts st k ix (ps.drop k) = makePut p (firsts.getD k 0) (if k < firsts.length then 1 else 0) st ix ++ makeFrom firsts st (k + 1) (ix + p.data.length) (ps.drop (k + 1)) := by
  obtain ⟨hk, rfl⟩ := List.getElem?_eq_some_iff.1 h
  rw [List.drop_eq_getElem_cons hk]
  rfl
theorem evCount_drop (ps : List PutM) (k : Nat) (p : PutM) (h : ps[k]? = some p) : evCount (ps.drop k) = p.data.length + evCount (ps.drop (k + 1)) := by
  obtain ⟨hk, rfl⟩ := List.getElem?_eq_some_iff.1 h
  unfold evCount
  rw [List.drop_eq_getElem_cons hk, List.map_cons, List.sum_cons]

end Go.Proofs.YthhhobfdlgmjlaaDoor
/- watch.Prefix, penstockref27.Prefix, slices.Clone at events. Condition: lengths fit an int. -/
namespace Go.Proofs.YthhhobfdlgmjlaaDoor
open Go.RowKit

def prefB (es fs : List Ev) : Bool := decide (es = fs.take es.length)
theorem Sl.take {α : Type} {f : α → List Value} {sz : Nat} {w : World} {B : Nat} {A : Option Addr} {xs : List α} (h : Sl f sz w B A xs) (n : Nat) : Sl f sz w B A (xs.take n) := fun hne => by
  obtain ⟨b, o, e, hb, hc⟩ := h (by rintro rfl; simp at hne)
  refine ⟨b, o, e, hb, fun k x hx j u hu => hc k x ?_ j u hu⟩
  have hk : k < (xs.take n).length := (List.getElem?_eq_some_iff.1 hx).1
  rw [List.getElem?_take_of_lt (by simp at hk; omega)] at hx
  exact hx

theorem ev_elem : IsElem Tryd.prog 24 32 7 72 Ev.cells :=
  isElem_of Tryd.underlying24 ev_info rfl (by omega) Ev.cells_len (by intro x u hu; simp [Ev.cells] at hu; rcases hu with rfl | rfl | rfl | rfl | rfl | rfl | rfl <;> rfl)
set_option maxHeartbeats 1000000 in
theorem clone_any (es : List Ev) (A : Option Addr) (c B : Nat) (w : World) (hB : B ≤ w.heap.size) (hl : es.length ≤ 1099511627776) (hs : Sl Ev.cells 7 w B A es) :
    Calls Tryd.prog 52 #[.slice A es.length c] w (RetEvs w es) := by
  have hq := fun W A n c => Lib.run_eql_slice_nil (P := Tryd.prog) W 24 32 A n c 0 0 Tryd.underlying24
  go_enter Tryd.func52, Tryd.ntmps52
  rcases A with _ | ad
  · obtain rfl := hs.of_none
    go_wp2_with fail
    go_ret
    exact ⟨_, rfl, Own.nil _ _, G.refl _⟩
  · go_wp2_with (at_builtin; refine wpList_append_list ev_elem _ rfl (.tmp 5) (.tmp 6) rfl w.heap.size _ [] rfl (OwnL.empty w.heap.size (blk_new _ _ _) (Nat.le_refl _)) B (some ad) c es rfl (by intro h; cases h) (hs.g hB (G.new _ _)) (by simp; omega) (by simp; omega) (by simp) ?_; intro v' w' hown' hkeep _)
    go_ret
    exact ⟨_, rfl, hown', hkeep.g (G.new _ _)⟩
end Go.Proofs.YthhhobfdlgmjlaaDoor
/- feed.Only: those events whose stream a pattern stands for. Conditions: at most 40000 events, texts of at most 2^30 bytes. -/
namespace Go.Proofs.YthhhobfdlgmjlaaDoor
open Go.RowKit

/-- What a pattern takes. -/
def onlyL (p : ByteArray) (es : List Ev) : List Ev := es.filter fun x => matchB p x.stream
theorem onlyL_snoc {p : ByteArray} {es : List Ev} {k : Nat} {x : Ev} (h : es[k]? = some x) : onlyL p (es.take (k + 1)) = onlyL p (es.take k) ++ (if matchB p x.stream = true then [x] else []) := by
  unfold onlyL
  rw [List.take_add_one, h, List.filter_append]
  simp only [Option.toList]
  cases hm : matchB p x.stream <;> simp [hm]
theorem onlyL_len (p : ByteArray) (es : List Ev) : (onlyL p es).length ≤ es.length := List.length_filter_le _ _
set_option maxRecDepth 100000 in
set_option maxHeartbeats 2000000 in
theorem only_any (es : List Ev) (A : Option Addr) (c B : Nat) (p : ByteArray) (w : World) (hB : B ≤ w.heap.size) (hl : es.length ≤ 40000) (hs : Sl Ev.cells 7 w B A es) (hp : p.size ≤ 1073741824) (hx : ∀ x ∈ es, x.stream.size ≤ 1073741824) (hT : Tabs w) :
    Calls Tryd.prog 20 #[.slice A es.length c, .string p] w (RetEvs w (onlyL p es)) := by
  replace hT := Lib.hid hT
  replace hx := Lib.hid hx
  go_enter Tryd.func20, Tryd.ntmps20
  go_wp2_with fail
  go_loopw [4, 9] (fun v i wr => ∃ (k : Nat) (fs : List Ev), k ≤ es.length ∧ i = .int .i64 k ∧ Hid (fs = onlyL p (es.take k)) ∧ fs.length ≤ k ∧ OwnL 32 7 Ev.cells wr w.heap.size v fs ∧ G w wr) (fun _ i _ => es.length - (intOf i).toNat)
  case atStart => exact ⟨0, [], Nat.zero_le _, rfl, rfl, Nat.le_refl _, OwnL.nil, G.refl _⟩
  case round =>
    obtain ⟨k, fs, hk, rfl, hfs, hfl, hown, hg⟩ := hrel
    by_cases hlt : k < es.length
    · obtain ⟨⟨rs, rv, rd, ⟨rx, ry, rz⟩, ri⟩, hx1⟩ : ∃ x, es[k]? = some x := ⟨_, List.getElem?_eq_getElem hlt⟩
      obtain ⟨b, o, rfl, hb, c0, c1, c2, c3, c4, c5, c6⟩ := (hs.g hB hg).evG (Nat.le_trans hB hg.size) hx1
      have hrs := hx.out _ (List.mem_of_getElem? hx1)
      have hsn := onlyL_snoc (p := p) hx1
      rw [← hfs.out] at hsn
      dsimp only at hrs hsn
      replace c0 := c0 wr (G.refl _)
      replace c1 := c1 wr (G.refl _)
      replace c2 := c2 wr (G.refl _)
      replace c3 := c3 wr (G.refl _)
      replace c4 := c4 wr (G.refl _)
      replace c5 := c5 wr (G.refl _)
      replace c6 := c6 wr (G.refl _)
      dsimp only at c0 c1 c2 c3 c4 c5 c6
      have n1 : (0 : Int) ≤ (k : Int) := by omega
      have n2 : (k : Int) < (es.length : Int) := by omega
      replace hx1 := Lib.hid hx1
      replace hsn := Lib.hid hsn
      have hcall := match_any p rs (wr.alloc (.cells #[.string rs, .int .i64 rv, .string rd, .int .i64 rx, .int .i64 ry, .int .i64 rz, .int .i64 ri] 32)) hp hrs (hT.out.g (hg.alloc _))
      replace hcall := Lib.hid hcall
      go_wp2_with fail
      refine Calls.mono hcall.out ?_
      rintro e w2 ⟨rfl, hg2⟩
      have hE := hg2.blk (blk_new wr #[.string rs, .int .i64 rv, .string rd, .int .i64 rx, .int .i64 ry, .int .i64 rz, .int .i64 ri] 32)
      have hgw := (hg.alloc (.cells #[.string rs, .int .i64 rv, .string rd, .int .i64 rx, .int .i64 ry, .int .i64 rz, .int .i64 ri] 32)).trans hg2
      have hown2 := hown.g ((G.new wr _).trans hg2)
      clear hcall hg2 c0 c1 c2 c3 c4 c5 c6 hown
      cases hm : matchB p rs with
      | false =>
        rw [hm] at hsn
        have hsn2 : fs = onlyL p (es.take (k + 1)) := by rw [hsn.out]; simp
        replace hsn2 := Lib.hid hsn2
        replace hE := Lib.hid hE
        go_wp2_with fail
        go_roundw
        case rel => exact ⟨k + 1, fs, by omega, by go_num, hsn2, by omega, hown2, hgw⟩
        case measure => simp [intOf]; omega
      | true =>
        rw [hm] at hsn
        have hsn2 : fs ++ [⟨rs, rv, rd, ⟨rx, ry, rz⟩, ri⟩] = onlyL p (es.take (k + 1)) := by rw [hsn.out]; simp
        replace hsn2 := Lib.hid hsn2
        have d0 := (blk_cell hE 0).trans (show _ = some (Value.string rs) from rfl)
        have d1 := (blk_cell hE 1).trans (show _ = some (Value.int .i64 rv) from rfl)
        have d2 := (blk_cell hE 2).trans (show _ = some (Value.string rd) from rfl)
        have d3 := (blk_cell hE 3).trans (show _ = some (Value.int .i64 rx) from rfl)
        have d4 := (blk_cell hE 4).trans (show _ = some (Value.int .i64 ry) from rfl)
        have d5 := (blk_cell hE 5).trans (show _ = some (Value.int .i64 rz) from rfl)
        have d6 := (blk_cell hE 6).trans (show _ = some (Value.int .i64 ri) from rfl)
        replace hE := Lib.hid hE
        go_wp2_with (at_builtin; refine wpList_append_list ev_elem _ rfl (.tmp 17) (.tmp 19) rfl w.heap.size _ fs rfl (hown2.g (G.new _ _)) (w2.heap.size + 1) (some ⟨w2.heap.size, 0, none⟩) 1 [⟨rs, rv, rd, ⟨rx, ry, rz⟩, ri⟩] rfl (by intro h; cases h) (Sl.of_blk Ev.cells_len _ (blk_new _ _ _) rfl (by omega)) (by simp; omega) (by simp; omega) (by have := hgw.size; simp; omega) ?_; intro v' w' hown' hkeep _)
        go_roundw
        case rel => exact ⟨k + 1, _, by omega, by go_num, hsn2, by simp; omega, hown', hkeep.g (hgw.alloc _)⟩
        case measure => simp [intOf]; omega
    · obtain rfl : k = es.length := by omega
      rw [List.take_length] at hfs
      replace hown := Lib.hid hown
      go_wp2_with fail
      go_ret
      exact ⟨_, rfl, by rw [← hfs.out]; exact hown.out, hg⟩
end Go.Proofs.YthhhobfdlgmjlaaDoor

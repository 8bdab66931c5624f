/- feed.Only: those events whose stream a pattern stands for. Conditions: at most 40000 events, texts of at most 2^30 bytes. -/
import Derived.Test.YthhhobfdlgmjlaaDoorM5FeedTwo
import Derived.Test.YthhhobfdlgmjlaaDoorGlobMatchQFeedTwo
namespace Go.Proofs.YthhhobfdlgmjlaaDoor
open Go.RowKit

/-- What a pattern takes. -/
def onlyL (p : ByteArray) (es : List Ev) : List Ev := es.filter fun x => matchB p x.stream
theorem onlyL_snoc {p : ByteArray} {es : List Ev} {k : Nat} {x : Ev} (h : es[k]? = some x) : onlyL p (es.take (k + 1)) = onlyL p (es.take k) ++ (if matchB p x.stream = true then [x] else []) := by
  unfold onlyL
  rw [List.take_add_one, h, List.filter_append]
  simp only [Option.toList]
  cases hm : matchB p x.stream <;> simp [hm]
theorem onlyL_len (p : ByteArray) (es : List Ev) : (onlyL p es).length ≤ es.length := List.length_filter_le _ _
set_option maxRecDepth 100000 in
set_option maxHeartbeats 2000000 in
theorem only_any (es : List Ev) (A : Option Addr) (c B : Nat) (p : ByteArray) (w : World) (hB : B ≤ w.heap.size) (hl : es.length ≤ 40000) (hs : Sl Ev.cells 7 w B A es) (hp : p.size ≤ 1073741824) (hx : ∀ x ∈ es, x.stream.size ≤ 1073741824) (hT : Tabs w) :
    Calls Tryd.prog 20 #[.slice A es.length c, .string p] w (RetEvs w (onlyL p es)) := by
  replace hT := Lib.hid hT
  replace hx := Lib.hid hx
  go_enter Tryd.func20, Tryd.ntmps20
  go_wp2_with fail
  go_loopw [4, 9] (fun v i wr => ∃ (k : Nat) (fs : List Ev), k ≤ es.length ∧ i = .int .i64 k ∧ Hid (fs = onlyL p (es.take k)) ∧ fs.length ≤ k ∧ OwnL 32 7 Ev.cells wr w.heap.size v fs ∧ G w wr) (fun _ i _ => es.length - (intOf i).toNat)
  case atStart => exact ⟨0, [], Nat.zero_le _, rfl, rfl, Nat.le_refl _, OwnL.nil, G.refl _⟩
  case round =>
    obtain ⟨k, fs, hk, rfl, hfs, hfl, hown, hg⟩ := hrel
    by_cases hlt : k < es.length
    · obtain ⟨⟨rs, rv, rd, ⟨rx, ry, rz⟩, ri⟩, hx1⟩ : ∃ x, es[k]? = some x := ⟨_, List.getElem?_eq_getElem hlt⟩
      obtain ⟨b, o, rfl, hb, c0, c1, c2, c3, c4, c5, c6⟩ := (hs.g hB hg).evG (Nat.le_trans hB hg.size) hx1
      have hrs := hx.out _ (List.mem_of_getElem? hx1)
      have hsn := onlyL_snoc (p := p) hx1
      rw [← hfs.out] at hsn
      dsimp only at hrs hsn
      replace c0 := c0 wr (G.refl _)
      replace c1 := c1 wr (G.refl _)
      replace c2 := c2 wr (G.refl _)
      replace c3 := c3 wr (G.refl _)
      replace c4 := c4 wr (G.refl _)
      replace c5 := c5 wr (G.refl _)
      replace c6 := c6 wr (G.refl _)
      dsimp only at c0 c1 c2 c3 c4 c5 c6
      have n1 : (0 : Int) ≤ (k : Int) := by omega
      have n2 : (k : Int) < (es.length : Int) := by omega
      replace hx1 := Lib.hid hx1
      replace hsn := Lib.hid hsn
      have hcall := match_any p rs (wr.alloc (.cells #[.string rs, .int .i64 rv, .string rd, .int .i64 rx, .int .i64 ry, .int .i64 rz, .int .i64 ri] 32)) hp hrs (hT.out.g (hg.alloc _))
      replace hcall := Lib.hid hcall
      go_wp2_with fail
      refine Calls.mono hcall.out ?_
      rintro e w2 ⟨rfl, hg2⟩
      have hE := hg2.blk (blk_new wr #[.string rs, .int .i64 rv, .string rd, .int .i64 rx, .int .i64 ry, .int .i64 rz, .int .i64 ri] 32)
      have hgw := (hg.alloc (.cells #[.string rs, .int .i64 rv, .string rd, .int .i64 rx, .int .i64 ry, .int .i64 rz, .int .i64 ri] 32)).trans hg2
      have hown2 := hown.g ((G.new wr _).trans hg2)
      clear hcall hg2 c0 c1 c2 c3 c4 c5 c6 hown
      cases hm : matchB p rs with
      | false =>
        rw [hm] at hsn
        have hsn2 : fs = onlyL p (es.take (k + 1)) := by rw [hsn.out]; simp
        replace hsn2 := Lib.hid hsn2
        replace hE := Lib.hid hE
        go_wp2_with fail
        go_roundw
        case rel => exact ⟨k + 1, fs, by omega, by go_num, hsn2, by omega, hown2, hgw⟩
        case measure => simp [intOf]; omega
      | true =>
        rw [hm] at hsn
        have hsn2 : fs ++ [⟨rs, rv, rd, ⟨rx, ry, rz⟩, ri⟩] = onlyL p (es.take (k + 1)) := by rw [hsn.out]; simp
        replace hsn2 := Lib.hid hsn2
        have d0 := (blk_cell hE 0).trans (show _ = some (Value.string rs) from rfl)
        have d1 := (blk_cell hE 1).trans (show _ = some (Value.int .i64 rv) from rfl)
        have d2 := (blk_cell hE 2).trans (show _ = some (Value.string rd) from rfl)
        have d3 := (blk_cell hE 3).trans (show _ = some (Value.int .i64 rx) from rfl)
        have d4 := (blk_cell hE 4).trans (show _ = some (Value.int .i64 ry) from rfl)
        have d5 := (blk_cell hE 5).trans (show _ = some (Value.int .i64 rz) from rfl)
        have d6 := (blk_cell hE 6).trans (show _ = some (Value.int .i64 ri) from rfl)
        replace hE := Lib.hid hE
        go_wp2_with (at_builtin; refine wpList_append_list ev_elem _ rfl (.tmp 17) (.tmp 19) rfl w.heap.size _ fs rfl (hown2.g (G.new _ _)) (w2.heap.size + 1) (some ⟨w2.heap.size, 0, none⟩) 1 [⟨rs, rv, rd, ⟨rx, ry, rz⟩, ri⟩] rfl (by intro h; cases h) (Sl.of_blk Ev.cells_len _ (blk_new _ _ _) rfl (by omega)) (by simp; omega) (by simp; omega) (by have := hgw.size; simp; omega) ?_; intro v' w' hown' hkeep _)
        go_roundw
        case rel => exact ⟨k + 1, _, by omega, by go_num, hsn2, by simp; omega, hown', hkeep.g (hgw.alloc _)⟩
        case measure => simp [intOf]; omega
    · obtain rfl : k = es.length := by omega
      rw [List.take_length] at hfs
      replace hown := Lib.hid hown
      go_wp2_with fail
      go_ret
      exact ⟨_, rfl, by rw [← hfs.out]; exact hown.out, hg⟩
end Go.Proofs.YthhhobfdlgmjlaaDoor

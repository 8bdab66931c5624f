/- watch.Streams: whether each stream's versions go on from 1. Condition: lengths fit an int. -/
import Derived.Test.YtgoodlbkjciloaaMap
import Derived.Test.YtgoodlbkjciloaaSame
namespace Go.Proofs.Ytgoodlbkjciloaa
open Go.RowKit Go.Maps

def streamsFrom (g : ByteArray → Int) : List Ev → Bool
  | [] => true
  | e :: l => if e.version = g e.stream + 1 then streamsFrom (upd g e.stream (g e.stream + 1)) l else false
def streamsB (es : List Ev) : Bool := streamsFrom (fun _ => 0) es
theorem streamsFrom_drop (g : ByteArray → Int) (xs : List Ev) (k : Nat) (x : Ev) (h : xs[k]? = some x) :
    streamsFrom g (xs.drop k) = if x.version = g x.stream + 1 then streamsFrom (upd g x.stream (g x.stream + 1)) (xs.drop (k + 1)) else false := by
  obtain ⟨hk, rfl⟩ := List.getElem?_eq_some_iff.1 h
  rw [List.drop_eq_getElem_cons hk]
  rfl

set_option maxHeartbeats 1000000 in
theorem streams_any (es : List Ev) (A : Option Addr) (c B : Nat) (w : World) (hB : B ≤ w.heap.size) (hl : es.length ≤ 9223372036854775806) (hx : ∀ e ∈ es, e.stream.size ≤ 9223372036854775807) (hs : Sl Ev.cells 7 w B A es) :
    Calls Try.prog 13 #[.slice A es.length c] w fun e w' => e = .returned (.bool (streamsB es)) ∧ G w w' := by
  have HX := Lib.hid hx
  clear hx
  have hmm := @run_makeMap Try.prog
  go_enter Try.func13, Try.ntmps13
  go_wp2_with fail
  clear hmm
  go_loopw [9] (fun i wr => ∃ (k : Nat) (g : ByteArray → Int), k ≤ es.length ∧ i = .int .i64 k ∧ MapIs wr w.heap.size k g ∧ G w wr ∧ Hid (∀ s, 0 ≤ g s ∧ g s ≤ k) ∧ Hid (streamsB es = streamsFrom g (es.drop k))) (fun i _ => es.length - (intOf i).toNat)
  case atStart => exact ⟨0, _, Nat.zero_le _, rfl, MapIs.made _, G.new _ _, by simp [Hid], by simp [Hid, streamsB]⟩
  case round =>
    obtain ⟨k, g, hk, rfl, hm, hg, hgb, hh⟩ := hrel
    by_cases hlt : k < es.length
    · obtain ⟨⟨s1, v1, d1, ⟨x1, y1, z1⟩, i1⟩, ha⟩ : ∃ a, es[k]? = some a := ⟨_, List.getElem?_eq_getElem hlt⟩
      have hsd := Lib.hid (streamsFrom_drop g es k _ ha)
      have hsz := HX.out _ (List.mem_of_getElem? ha)
      obtain ⟨b1, o1, rfl, hb1, c0, c1, c2, c3, c4, c5, c6⟩ := (hs.g hB hg).ev ha
      obtain ⟨hg0, hg1⟩ := hgb.out s1
      replace ha := Lib.hid ha
      clear hs
      dsimp only at hsz hsd
      have hmlt := hm.lt
      by_cases hv : v1 = g s1 + 1
      · have hv2 : (v1 != g s1 + 1) = false := by rw [bne_eq_false_iff_eq]; exact hv
        replace hv := Lib.hid hv
        go_wp2_with (first | (at_lookup; refine wpList_map_look _ rfl _ _ rfl w.heap.size k g rfl (hm.g (G.new _ _)) s1 rfl hsz ?_) | (at_mapUpdate; refine wpList_map_put _ rfl _ _ _ rfl w.heap.size k g rfl (hm.g (G.new _ _)) (by omega) s1 rfl hsz (g s1 + 1) rfl (wf_i64 (by omega) (by omega)) ?_; intro w1 hm1 hgr1; have hbl := (hgr1.block wr.heap.size (by simp) (by simp; omega)).trans (blk_new wr #[.string s1, .int .i64 v1, .string d1, .int .i64 x1, .int .i64 y1, .int .i64 z1, .int .i64 i1] 35); have e0 : w1.cell? ⟨wr.heap.size, 0, none⟩ = some (.string s1) := blk_cell hbl 0; have e1 : w1.cell? ⟨wr.heap.size, 1, none⟩ = some (.int .i64 v1) := blk_cell hbl 1; replace hbl := Lib.hid hbl) | (at_lookup; refine wpList_map_look _ rfl _ _ rfl w.heap.size (k + 1) _ rfl hm1 s1 rfl hsz ?_; rw [upd_same]))
        go_roundw
        case rel =>
          refine ⟨k + 1, _, by omega, by go_num, hm1, (hg.alloc _).mapped hgr1 (Nat.le_refl _), fun s => ?_, ?_⟩
          · obtain ⟨h1, h2⟩ := hgb.out s
            by_cases ht : s = s1
            · rw [ht, upd_same]; omega
            · rw [upd_other _ _ ht]; omega
          · unfold Hid
            rw [hh.out, hsd.out, if_pos hv.out]
        case measure => simp [intOf]; omega
      · have hv2 : (v1 != g s1 + 1) = true := by rw [bne_iff_ne]; exact hv
        replace hv := Lib.hid hv
        go_wp2_with (first | (at_lookup; refine wpList_map_look _ rfl _ _ rfl w.heap.size k g rfl (hm.g (G.new _ _)) s1 rfl hsz ?_) | (at_mapUpdate; refine wpList_map_put _ rfl _ _ _ rfl w.heap.size k g rfl (hm.g (G.new _ _)) (by omega) s1 rfl hsz (g s1 + 1) rfl (wf_i64 (by omega) (by omega)) ?_; intro w1 hm1 hgr1; have hbl := (hgr1.block wr.heap.size (by simp) (by simp; omega)).trans (blk_new wr #[.string s1, .int .i64 v1, .string d1, .int .i64 x1, .int .i64 y1, .int .i64 z1, .int .i64 i1] 35); have e0 : w1.cell? ⟨wr.heap.size, 0, none⟩ = some (.string s1) := blk_cell hbl 0; have e1 : w1.cell? ⟨wr.heap.size, 1, none⟩ = some (.int .i64 v1) := blk_cell hbl 1; replace hbl := Lib.hid hbl) | (at_lookup; refine wpList_map_look _ rfl _ _ rfl w.heap.size (k + 1) _ rfl hm1 s1 rfl hsz ?_; rw [upd_same]))
        go_ret
        exact ⟨ret_bool (by rw [hh.out, hsd.out, if_neg hv.out]), (hg.alloc _).mapped hgr1 (Nat.le_refl _)⟩
    · go_wp2_with fail
      go_ret
      exact ⟨ret_bool (by rw [hh.out, List.drop_eq_nil_of_le (by omega)]; rfl), hg⟩
end Go.Proofs.Ytgoodlbkjciloaa

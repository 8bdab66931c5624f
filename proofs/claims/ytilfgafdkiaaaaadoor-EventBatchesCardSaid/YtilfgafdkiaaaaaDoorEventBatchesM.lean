/- Several texts in one: BatSmall, Bytes, Make, Same, Awake9, EventBatchesW, ReadStr, ReadD, EventBatches. -/
import Derived.Test.YtilfgafdkiaaaaaDoorBatch
import Derived.Test.YtilfgafdkiaaaaaDoorMay
import Derived.Test.YtilfgafdkiaaaaaDoorStr
import Derived.Test.YtilfgafdkiaaaaaDoorEv
import Derived.Test.YtilfgafdkiaaaaaDoorRefDecBatch
import Derived.Test.YtilfgafdkiaaaaaDoorSameBatch
import Derived.Test.YtilfgafdkiaaaaaDoorTabs
import Derived.Test.YtilfgafdkiaaaaaDoorRows
import Derived.ProofKit
import Derived.OpenShut
import Derived.PinnedBridge
import Derived.Lib.LaidU8T
import Derived.Lay
import Derived.SevenTiedAt
import Derived.LaidMore
import Derived.Test.YtilfgafdkiaaaaaDoorBatLaw
import Derived.Deep.Slices
import Derived.Test.YtilfgafdkiaaaaaDoorTie
import Derived.Test.YtilfgafdkiaaaaaDoorCards
/- What a small bulk says of a batch. Plain mathematics, no program. No condition. -/
namespace Go.Proofs.YtilfgafdkiaaaaaDoor
open Go.RowKit

theorem sumTo_le_two {n a b top : Int} (ha : 0 ≤ a) (hb : 0 ≤ b) (ht : top < 1099511627776) (h : sumTo n [a, b] ≤ top) : n + a + b ≤ top := by
  unfold sumTo at h
  split at h
  · unfold sumTo at h
    split at h
    · unfold sumTo at h; omega
    · omega
  · omega
theorem sumTo_le_one {n a top : Int} (ht : top < 1099511627776) (h : sumTo n [a] ≤ top) : n + a ≤ top := by
  unfold sumTo at h
  split at h
  · unfold sumTo at h; omega
  · omega
theorem upTo_small {top : Int} (ht : top < 1099511627776) : ∀ (l : List Int) (n : Int), (∀ m ∈ l, 0 ≤ m) → 0 ≤ n → upTo top n l ≤ top → n ≤ top ∧ ∀ m ∈ l, m ≤ top
  | [], n, _, _, h => ⟨h, fun _ h => by cases h⟩
  | m :: l, n, hl, hn, h => by
    have hm := hl m (by simp)
    unfold upTo at h
    split at h
    · have h1 := upTo_small ht l (sumTo n [m]) (fun k hk => hl k (by simp [hk])) (by
        unfold sumTo
        split
        · unfold sumTo; omega
        · omega) h
      have h2 := sumTo_le_one ht h1.1
      refine ⟨by omega, fun k hk => ?_⟩
      rcases List.mem_cons.1 hk with rfl | hk
      · omega
      · exact h1.2 k hk
    · omega
theorem total_small {top : Int} (ht : top < 1099511627776) {ss : List ByteArray} (h : totalOf top ss ≤ top) : (ss.length : Int) ≤ top ∧ ∀ s ∈ ss, (s.size : Int) ≤ top := by
  unfold totalOf at h
  have h1 := upTo_small ht _ _ (fun m hm => by simp at hm; obtain ⟨s, _, rfl⟩ := hm; omega) (by
    unfold sumTo
    split
    · unfold sumTo; omega
    · omega) h
  have h2 := sumTo_le_one ht h1.1
  exact ⟨by omega, fun s hs => h1.2 _ (List.mem_map.2 ⟨s, hs, rfl⟩)⟩
theorem bulkTo_small {top : Int} (ht : top < 1099511627776) : ∀ (ps : List PutM) (n : Int), bulkTo top n ps ≤ top → n ≤ top ∧ (0 ≤ n → ∀ p ∈ ps, (p.stream.size : Int) ≤ top ∧ totalOf top p.data ≤ top)
  | [], n, h => ⟨h, fun _ _ h => by cases h⟩
  | p :: l, n, h => by
    unfold bulkTo at h
    split at h
    · have h1 := bulkTo_small ht l _ h
      have h0 := (totalOf_le top p.data).1
      have h2 := sumTo_le_two (by omega) h0 ht h1.1
      refine ⟨by omega, fun hn q hq => ?_⟩
      rcases List.mem_cons.1 hq with rfl | hq
      · exact ⟨by omega, by omega⟩
      · refine h1.2 ?_ q hq
        unfold sumTo
        split
        · unfold sumTo
          split
          · unfold sumTo; omega
          · omega
        · omega
    · omega
theorem bat_small {key : ByteArray} {ps : List PutM} (h : batchOf 40000 key ps ≤ 40000) (he : ∀ p ∈ ps, -9223372036854775808 ≤ p.expect ∧ p.expect ≤ 9223372036854775807) : key.size ≤ 40000 ∧ PutsSmall ps := by
  unfold batchOf at h
  have h1 := bulkTo_small (by omega) _ _ h
  have h2 := sumTo_le_two (by omega) (by omega) (by omega) h1.1
  have h3 := h1.2 (by
    unfold sumTo
    split
    · unfold sumTo
      split
      · unfold sumTo; omega
      · omega
    · omega)
  refine ⟨by omega, by omega, fun p hp => ?_⟩
  have h4 := h3 p hp
  have h5 := total_small (by omega) h4.2
  exact ⟨by omega, he p hp, by omega, fun s hs => by have := h5.2 s hs; omega⟩
end Go.Proofs.YtilfgafdkiaaaaaDoor
/- penstockalike.Bytes of two rows alike: true. Condition: lengths that fit an int. -/
namespace Go.Proofs.YtilfgafdkiaaaaaDoor
open Go.RowKit

set_option maxRecDepth 100000 in
set_option maxHeartbeats 1000000 in
theorem bytesSelf_any (l : List UInt8) (A A2 : Option Addr) (c c2 B : Nat) (w : World) (hB : B ≤ w.heap.size) (hs : Sl byteC 1 w B A l) (hs2 : Sl byteC 1 w B A2 l) (hl : l.length ≤ 9223372036854775806) :
    Calls Tryd.prog 17 #[.slice A l.length c, .slice A2 l.length c2] w fun e w' => e = .returned (.bool true) ∧ G w w' := by
  go_enter Tryd.func17, Tryd.ntmps17
  go_wp2_with fail
  go_loopw [5] (fun i wr => ∃ (k : Nat), k ≤ l.length ∧ i = .int .i64 k ∧ G w wr) (fun i _ => l.length - (intOf i).toNat)
  case atStart => exact ⟨0, Nat.zero_le _, rfl, G.refl _⟩
  case round =>
    obtain ⟨k, hk, rfl, hg⟩ := hrel
    by_cases hlt : k < l.length
    · obtain ⟨x, hx⟩ : ∃ x, l[k]? = some x := ⟨_, List.getElem?_eq_getElem hlt⟩
      obtain ⟨b, o, rfl, hb, hc⟩ := (hs.g hB hg).byte hx
      obtain ⟨b2, o2, rfl, hb2, hc2⟩ := (hs2.g hB hg).byte hx
      have n1 : (0 : Int) ≤ (k : Int) := by omega
      have n2 : (k : Int) < (l.length : Int) := by omega
      clear hx hs hs2
      go_wp2_with fail
      go_quiet (fail)
      go_wp2_with fail
      go_roundw
      case rel => exact ⟨k + 1, by omega, by go_num, hg.drewN _⟩
      case measure => (simp [intOf] <;> omega)
    · have n2 : ¬ (k : Int) < (l.length : Int) := by omega
      clear hs hs2
      go_wp2_with fail
      go_ret
      exact ⟨rfl, hg⟩
end Go.Proofs.YtilfgafdkiaaaaaDoor
/- event.Make: what it answers. Conditions: lengths and numbers so small that nothing wraps. -/
namespace Go.Proofs.YtilfgafdkiaaaaaDoor
open Go.RowKit

/-- The events of one Put. -/
def makePut (p : PutM) (first step : Int) (st : St) (ix : Int) : List Ev := p.data.mapIdx fun k d => ⟨p.stream, first + step * k, d, st, ix + k⟩
/-- The events of the Puts from number i on. -/
def makeFrom (firsts : List Int) (st : St) : Nat → Int → List PutM → List Ev
  | _, _, [] => []
  | i, ix, p :: l => makePut p (firsts.getD i 0) (if i < firsts.length then 1 else 0) st ix ++ makeFrom firsts st (i + 1) (ix + p.data.length) l
/-- How many events. -/
def evCount (ps : List PutM) : Nat := (ps.map fun p => p.data.length).sum

/-- A call answers a list of events of its own, and turns nothing that was there. -/
def RetEvs (w : World) (es : List Ev) (e : Ending) (w' : World) : Prop := ∃ v, e = .returned v ∧ Own w' w.heap.size v es ∧ G w w'

theorem makePut_length (p : PutM) (first step : Int) (st : St) (ix : Int) : (makePut p first step st ix).length = p.data.length := by simp [makePut]
theorem makePut_succ (p : PutM) (first step : Int) (st : St) (ix : Int) (j : Nat) (d : ByteArray) (h : p.data[j]? = some d) :
    (makePut p first step st ix).take (j + 1) = (makePut p first step st ix).take j ++ [⟨p.stream, first + step * j, d, st, ix + j⟩] := by
  obtain ⟨hk, rfl⟩ := List.getElem?_eq_some_iff.1 h
  rw [List.take_succ_eq_append_getElem (by simpa [makePut] using hk)]
  simp [makePut]
theorem makeFrom_drop (firsts : List Int) (st : St) (ix : Int) (ps : List PutM) (k : Nat) (p : PutM) (h : ps[k]? = some p) :
    makeFrom firsts st k ix (ps.drop k) = makePut p (firsts.getD k 0) (if k < firsts.length then 1 else 0) st ix ++ makeFrom firsts st (k + 1) (ix + p.data.length) (ps.drop (k + 1)) := by
  obtain ⟨hk, rfl⟩ := List.getElem?_eq_some_iff.1 h
  rw [List.drop_eq_getElem_cons hk]
  rfl
theorem evCount_drop (ps : List PutM) (k : Nat) (p : PutM) (h : ps[k]? = some p) : evCount (ps.drop k) = p.data.length + evCount (ps.drop (k + 1)) := by
  obtain ⟨hk, rfl⟩ := List.getElem?_eq_some_iff.1 h
  unfold evCount
  rw [List.drop_eq_getElem_cons hk, List.map_cons, List.sum_cons]

set_option maxHeartbeats 1000000 in
theorem make_any (key : ByteArray) (ps : List PutM) (A A2 : Option Addr) (c c2 B : Nat) (firsts : List Int) (st : St) (ix : Int) (w : World) (hB : B ≤ w.heap.size)
    (hl : ps.length ≤ 9223372036854775807) (_hl2 : firsts.length ≤ 9223372036854775807) (hn : evCount ps ≤ 1099511627776)
    (hf : ∀ f ∈ firsts, -1099511627776 ≤ f ∧ f ≤ 1099511627776) (hix : -1099511627776 ≤ ix ∧ ix ≤ 1099511627776)
    (hs : PutsIn w B A ps) (hs2 : Sl intC 1 w B A2 firsts) :
    Calls Tryd.prog 13 #[.agg #[.string key, .slice A ps.length c], .slice A2 firsts.length c2, .agg #[.int .i64 st.wall, .int .i64 st.logic, .int .i64 st.node], .int .i64 ix] w
      (RetEvs w (makeFrom firsts st 0 ix ps)) := by
  go_enter Tryd.func13, Tryd.ntmps13
  go_wp2_with fail
  generalize hW0 : (w.alloc (.cells #[.string key, .slice A ps.length c] 25)).alloc (.cells #[.int .i64 st.wall, .int .i64 st.logic, .int .i64 st.node] 35) = W0
  have hz : w.heap.size + 1 < W0.heap.size := by rw [← hW0]; simp
  have hS0 : W0.cell? ⟨w.heap.size + 1, 0, none⟩ = some (.int .i64 st.wall) := by rw [← hW0]; simp
  have hS1 : W0.cell? ⟨w.heap.size + 1, 1, none⟩ = some (.int .i64 st.logic) := by rw [← hW0]; simp
  have hS2 : W0.cell? ⟨w.heap.size + 1, 2, none⟩ = some (.int .i64 st.node) := by rw [← hW0]; simp
  have hG0 : G w W0 := by rw [← hW0]; exact (G.new _ _).alloc _
  clear hW0
  have q0 : ∀ w', G W0 w' → w'.cell? ⟨w.heap.size + 1, 0, none⟩ = some (.int .i64 st.wall) := fun w' h => (h.cell (by omega)).trans hS0
  have q1 : ∀ w', G W0 w' → w'.cell? ⟨w.heap.size + 1, 1, none⟩ = some (.int .i64 st.logic) := fun w' h => (h.cell (by omega)).trans hS1
  have q2 : ∀ w', G W0 w' → w'.cell? ⟨w.heap.size + 1, 2, none⟩ = some (.int .i64 st.node) := fun w' h => (h.cell (by omega)).trans hS2
  clear hS0 hS1 hS2
  replace hs := hs.g hB hG0
  replace hs2 := hs2.g hB hG0
  go_loopw [8, 18] (fun v i wr => ∃ (k : Nat) (out : List Ev), k ≤ ps.length ∧ i = .int .i64 k ∧ Own wr W0.heap.size v out ∧ G W0 wr ∧ out.length + evCount (ps.drop k) ≤ 1099511627776 ∧ Hid (makeFrom firsts st 0 ix ps = out ++ makeFrom firsts st k (ix + out.length) (ps.drop k))) (fun _ i _ => ps.length - (intOf i).toNat)
  case atStart => exact ⟨0, [], Nat.zero_le _, rfl, Own.nil _ _, G.refl _, by simpa using hn, by simp [Hid]⟩
  case round =>
    obtain ⟨k, out, hk, rfl, hown, hg, hcnt, hh⟩ := hrel
    by_cases hlt : k < ps.length
    · obtain ⟨p, hp⟩ : ∃ p, ps[k]? = some p := ⟨_, List.getElem?_eq_getElem hlt⟩
      obtain ⟨sm, pe, pA, pc, dat⟩ := p
      obtain ⟨b, o, rfl, hbB, hcells⟩ := hs.1.get hp
      have hpm := List.mem_of_getElem? hp
      have hcp : out.length + dat.length + evCount (ps.drop (k + 1)) ≤ 1099511627776 := by rw [evCount_drop ps k _ hp] at hcnt; simpa [Nat.add_assoc] using hcnt
      have hfd := Lib.hid (makeFrom_drop firsts st (ix + out.length) ps k _ hp)
      clear hcnt
      have hdat : ∀ w', G W0 w' → Sl strC 1 w' B pA dat := fun w' h => (hs.2 _ hpm).g (by have := hG0.size; omega) h
      have hc0 : wr.cell? ⟨b, o + k * 3, none⟩ = some (.string sm) := (hg.cell (by have := hG0.size; omega)).trans (hcells 0 _ rfl)
      have hc1 : wr.cell? ⟨b, o + k * 3 + 1, none⟩ = some (.int .i64 pe) := (hg.cell (by have := hG0.size; omega)).trans (hcells 1 _ rfl)
      have hc2 : wr.cell? ⟨b, o + k * 3 + 2, none⟩ = some (.slice pA dat.length pc) := (hg.cell (by have := hG0.size; omega)).trans (hcells 2 _ rfl)
      clear hcells hs
      by_cases hkf : k < firsts.length
      · obtain ⟨f, hf1⟩ : ∃ f, firsts[k]? = some f := ⟨_, List.getElem?_eq_getElem hkf⟩
        obtain ⟨b2, o2, rfl, hb2, hcf⟩ := hs2.int hf1
        replace hcf := (hg.cell (by have := hG0.size; omega)).trans hcf
        have hb2w : b2 < wr.heap.size := by have := hG0.size; have := hg.size; omega
        obtain ⟨hf2, hf3⟩ := hf f (List.mem_of_getElem? hf1)
        replace hf1 := Lib.hid hf1
        clear hf
        go_wp2_with fail
        obtain ⟨wo, rfl⟩ : ∃ wo : World, wo = wr := ⟨_, rfl⟩
        have hbx : (wo.alloc (.cells #[.string sm, .int .i64 pe, .slice pA dat.length pc] 29)).heap[wo.heap.size]? = some (.cells #[.string sm, .int .i64 pe, .slice pA dat.length pc] 29 (0, 0)) := blk_new _ _ _
        have hGW : G wo (wo.alloc (.cells #[.string sm, .int .i64 pe, .slice pA dat.length pc] 29)) := G.new _ _
        generalize hW1 : wo.alloc (.cells #[.string sm, .int .i64 pe, .slice pA dat.length pc] 29) = W1 at *
        generalize hbn : wo.heap.size = bx at *
        clear hbn
        go_loopw [8, 34] (fun v i wr => ∃ (j : Nat) (o2 : List Ev), j ≤ dat.length ∧ i = .int .i64 j ∧ Own wr W0.heap.size v o2 ∧ G W0 wr ∧ wr.heap[bx]? = some (.cells #[.string sm, .int .i64 pe, .slice pA dat.length pc] 29 (0, 0)) ∧ o2.length = out.length + j ∧ Hid (o2 = out ++ (makePut ⟨sm, pe, pA, pc, dat⟩ f 1 st (ix + out.length)).take j)) (fun _ i _ => dat.length - (intOf i).toNat)
        case atStart => exact ⟨0, out, Nat.zero_le _, rfl, hown.g hGW, hg.trans hGW, hbx, rfl, by simp [Hid]⟩
        case round =>
          obtain ⟨j, o2, hj, rfl, hown2, hg2, hbx2, hlen2, hh2⟩ := hrel
          obtain ⟨Ao, co, rfl, _⟩ := hown2.sl
          have hle2 : o2.length ≤ out.length + dat.length := by omega
          replace hlen2 := Lib.hid hlen2
          by_cases hjl : j < dat.length
          · obtain ⟨d, hd⟩ : ∃ d, dat[j]? = some d := ⟨_, List.getElem?_eq_getElem hjl⟩
            obtain ⟨bd, od, rfl, hbd, hcd⟩ := (hdat wr hg2).str hd
            have hb0 : wr.cell? ⟨bx, 0, none⟩ = some (.string sm) := blk_cell hbx2 0
            replace hd := Lib.hid hd
            clear hdat
            go_wp2_with (at_builtin; refine wpList_append_ev _ rfl (.tmp 39) (.tmp 54) rfl W0.heap.size _ o2 rfl (hown2.g (G.new _ _)) ⟨sm, f + j, d, st, ix + o2.length⟩ wr.heap.size 1 rfl (blk_new _ _ _) (by omega) (by have := hg2.size; simp; omega) ?_; intro v' w' hown' hkeep)
            go_roundw
            case rel =>
              refine ⟨j + 1, _, by omega, by go_num, hown', hkeep.g (hg2.alloc _), hkeep.2 _ _ _ _ (by decide) (((G.new wr _).block bx (by
                rcases Nat.lt_or_ge bx wr.heap.size with h1 | h1
                · exact h1
                · rw [Array.getElem?_eq_none h1] at hbx2; cases hbx2)).trans hbx2), by simp [hlen2.out]; omega, ?_⟩
              unfold Hid
              rw [makePut_succ _ _ _ _ _ j d hd.out, ← List.append_assoc, ← hh2.out, hlen2.out]
              congr 3
              simp
              try omega
            case measure => simp [intOf]; omega
          · go_wp2_with fail
            go_roundw
            case rel =>
              have hj2 : j = dat.length := by omega
              have ho2 : o2 = out ++ makePut ⟨sm, pe, pA, pc, dat⟩ f 1 st (ix + out.length) := by
                rw [hh2.out, List.take_of_length_le (by rw [makePut_length]; simp; omega)]
              refine ⟨k + 1, o2, by omega, by go_num, hown2, hg2, by rw [hlen2.out]; omega, ?_⟩
              unfold Hid
              rw [hh.out, hfd.out, ho2, List.append_assoc, List.length_append, makePut_length]
              rw [List.getD_eq_getElem?_getD, hf1.out, Option.getD_some, if_pos hkf]
              congr 3
              simp; omega
            case measure => simp [intOf]; omega
      · go_wp2_with fail
        obtain ⟨wo, rfl⟩ : ∃ wo : World, wo = wr := ⟨_, rfl⟩
        have hbx : (wo.alloc (.cells #[.string sm, .int .i64 pe, .slice pA dat.length pc] 29)).heap[wo.heap.size]? = some (.cells #[.string sm, .int .i64 pe, .slice pA dat.length pc] 29 (0, 0)) := blk_new _ _ _
        have hGW : G wo (wo.alloc (.cells #[.string sm, .int .i64 pe, .slice pA dat.length pc] 29)) := G.new _ _
        generalize hW1 : wo.alloc (.cells #[.string sm, .int .i64 pe, .slice pA dat.length pc] 29) = W1 at *
        generalize hbn : wo.heap.size = bx at *
        clear hbn
        go_loopw [8, 34] (fun v i wr => ∃ (j : Nat) (o2 : List Ev), j ≤ dat.length ∧ i = .int .i64 j ∧ Own wr W0.heap.size v o2 ∧ G W0 wr ∧ wr.heap[bx]? = some (.cells #[.string sm, .int .i64 pe, .slice pA dat.length pc] 29 (0, 0)) ∧ o2.length = out.length + j ∧ Hid (o2 = out ++ (makePut ⟨sm, pe, pA, pc, dat⟩ 0 0 st (ix + out.length)).take j)) (fun _ i _ => dat.length - (intOf i).toNat)
        case atStart => exact ⟨0, out, Nat.zero_le _, rfl, hown.g hGW, hg.trans hGW, hbx, rfl, by simp [Hid]⟩
        case round =>
          obtain ⟨j, o2, hj, rfl, hown2, hg2, hbx2, hlen2, hh2⟩ := hrel
          obtain ⟨Ao, co, rfl, _⟩ := hown2.sl
          have hle2 : o2.length ≤ out.length + dat.length := by omega
          replace hlen2 := Lib.hid hlen2
          by_cases hjl : j < dat.length
          · obtain ⟨d, hd⟩ : ∃ d, dat[j]? = some d := ⟨_, List.getElem?_eq_getElem hjl⟩
            obtain ⟨bd, od, rfl, hbd, hcd⟩ := (hdat wr hg2).str hd
            have hb0 : wr.cell? ⟨bx, 0, none⟩ = some (.string sm) := blk_cell hbx2 0
            replace hd := Lib.hid hd
            clear hdat
            go_wp2_with (at_builtin; refine wpList_append_ev _ rfl (.tmp 39) (.tmp 54) rfl W0.heap.size _ o2 rfl (hown2.g (G.new _ _)) ⟨sm, 0, d, st, ix + o2.length⟩ wr.heap.size 1 rfl (blk_new _ _ _) (by omega) (by have := hg2.size; simp; omega) ?_; intro v' w' hown' hkeep)
            go_roundw
            case rel =>
              refine ⟨j + 1, _, by omega, by go_num, hown', hkeep.g (hg2.alloc _), hkeep.2 _ _ _ _ (by decide) (((G.new wr _).block bx (by
                rcases Nat.lt_or_ge bx wr.heap.size with h1 | h1
                · exact h1
                · rw [Array.getElem?_eq_none h1] at hbx2; cases hbx2)).trans hbx2), by simp [hlen2.out]; omega, ?_⟩
              unfold Hid
              rw [makePut_succ _ _ _ _ _ j d hd.out, ← List.append_assoc, ← hh2.out, hlen2.out]
              congr 3
              simp
              try omega
            case measure => simp [intOf]; omega
          · go_wp2_with fail
            go_roundw
            case rel =>
              have hj2 : j = dat.length := by omega
              have ho2 : o2 = out ++ makePut ⟨sm, pe, pA, pc, dat⟩ 0 0 st (ix + out.length) := by
                rw [hh2.out, List.take_of_length_le (by rw [makePut_length]; simp; omega)]
              refine ⟨k + 1, o2, by omega, by go_num, hown2, hg2, by rw [hlen2.out]; omega, ?_⟩
              unfold Hid
              rw [hh.out, hfd.out, ho2, List.append_assoc, List.length_append, makePut_length]
              rw [List.getD_eq_getElem?_getD, List.getElem?_eq_none (by omega), Option.getD_none, if_neg hkf]
              congr 3
              simp; omega
            case measure => simp [intOf]; omega
    · go_wp2_with fail
      go_ret
      have he : makeFrom firsts st 0 ix ps = out := by rw [hh.out, List.drop_eq_nil_of_le (by omega)]; simp [makeFrom]
      exact ⟨u8, rfl, he ▸ hown.mono hG0.size, hG0.trans hg⟩
end Go.Proofs.YtilfgafdkiaaaaaDoor
/- penstockref7.SameEvents: whether two lists of events are one. Condition: the lengths fit an int. -/
namespace Go.Proofs.YtilfgafdkiaaaaaDoor
open Go.RowKit

def evsB (es fs : List Ev) : Bool := decide (es = fs)
theorem Sl.ev {w : World} {B : Nat} {A : Option Addr} {xs : List Ev} {k : Nat} {x : Ev} (h : Sl Ev.cells 7 w B A xs) (hx : xs[k]? = some x) :
    ∃ b o, A = some ⟨b, o, none⟩ ∧ b < B ∧ w.cell? ⟨b, o + k * 7, none⟩ = some (.string x.stream) ∧ w.cell? ⟨b, o + k * 7 + 1, none⟩ = some (.int .i64 x.version) ∧ w.cell? ⟨b, o + k * 7 + 2, none⟩ = some (.string x.data) ∧
      w.cell? ⟨b, o + k * 7 + 3, none⟩ = some (.int .i64 x.st.wall) ∧ w.cell? ⟨b, o + k * 7 + 4, none⟩ = some (.int .i64 x.st.logic) ∧ w.cell? ⟨b, o + k * 7 + 5, none⟩ = some (.int .i64 x.st.node) ∧ w.cell? ⟨b, o + k * 7 + 6, none⟩ = some (.int .i64 x.index) := by
  obtain ⟨b, o, e, hb, hc⟩ := h.get hx
  exact ⟨b, o, e, hb, hc 0 _ rfl, hc 1 _ rfl, hc 2 _ rfl, hc 3 _ rfl, hc 4 _ rfl, hc 5 _ rfl, hc 6 _ rfl⟩

/-- The cells of an event that is there, in every world that has grown from this one. -/
theorem Sl.evG {w : World} {B : Nat} {A : Option Addr} {xs : List Ev} {k : Nat} {x : Ev} (h : Sl Ev.cells 7 w B A xs) (hB : B ≤ w.heap.size) (hx : xs[k]? = some x) :
    ∃ b o, A = some ⟨b, o, none⟩ ∧ b < w.heap.size ∧ (∀ w', G w w' → w'.cell? ⟨b, o + k * 7, none⟩ = some (.string x.stream)) ∧ (∀ w', G w w' → w'.cell? ⟨b, o + k * 7 + 1, none⟩ = some (.int .i64 x.version)) ∧ (∀ w', G w w' → w'.cell? ⟨b, o + k * 7 + 2, none⟩ = some (.string x.data)) ∧
      (∀ w', G w w' → w'.cell? ⟨b, o + k * 7 + 3, none⟩ = some (.int .i64 x.st.wall)) ∧ (∀ w', G w w' → w'.cell? ⟨b, o + k * 7 + 4, none⟩ = some (.int .i64 x.st.logic)) ∧ (∀ w', G w w' → w'.cell? ⟨b, o + k * 7 + 5, none⟩ = some (.int .i64 x.st.node)) ∧ (∀ w', G w w' → w'.cell? ⟨b, o + k * 7 + 6, none⟩ = some (.int .i64 x.index)) := by
  obtain ⟨b, o, e, hb, c0, c1, c2, c3, c4, c5, c6⟩ := h.ev hx
  have hb' : b < w.heap.size := by omega
  exact ⟨b, o, e, hb', fun w' hg => (hg.cell hb').trans c0, fun w' hg => (hg.cell hb').trans c1, fun w' hg => (hg.cell hb').trans c2, fun w' hg => (hg.cell hb').trans c3, fun w' hg => (hg.cell hb').trans c4, fun w' hg => (hg.cell hb').trans c5, fun w' hg => (hg.cell hb').trans c6⟩

set_option maxHeartbeats 1000000 in
theorem sameEvents_any (es fs : List Ev) (A A2 : Option Addr) (c c2 B : Nat) (w : World) (hB : B ≤ w.heap.size) (_hl : es.length ≤ 9223372036854775807) (_hl2 : fs.length ≤ 9223372036854775807)
    (hs : Sl Ev.cells 7 w B A es) (hs2 : Sl Ev.cells 7 w B A2 fs) :
    Calls Tryd.prog 57 #[.slice A es.length c, .slice A2 fs.length c2] w fun e w' => e = .returned (.bool (evsB es fs)) ∧ G w w' := by
  by_cases hlen : es.length = fs.length
  · have hlb : ((es.length : Int) != (fs.length : Int)) = false := by rw [bne_eq_false_iff_eq]; omega
    go_enter Tryd.func57, Tryd.ntmps57
    have hle : es.length ≤ fs.length := by omega
    replace hlen := Lib.hid hlen
    go_wp2_with fail
    go_loopw [5] (fun i wr => ∃ (k : Nat), k ≤ es.length ∧ i = .int .i64 k ∧ G w wr ∧ Hid (es.take k = fs.take k)) (fun i _ => es.length - (intOf i).toNat)
    case atStart => exact ⟨0, Nat.zero_le _, rfl, G.refl _, by simp [Hid]⟩
    case round =>
      obtain ⟨k, hk, rfl, hg, hh⟩ := hrel
      by_cases hlt : k < es.length
      · obtain ⟨⟨s1, v1, d1, ⟨x1, y1, z1⟩, i1⟩, ha⟩ : ∃ a, es[k]? = some a := ⟨_, List.getElem?_eq_getElem hlt⟩
        obtain ⟨⟨s2, v2, d2, ⟨x2, y2, z2⟩, i2⟩, hb⟩ : ∃ b, fs[k]? = some b := ⟨_, List.getElem?_eq_getElem (by omega)⟩
        obtain ⟨b1, o1, rfl, hb1, _⟩ := hs.ev ha
        obtain ⟨b2, o2, rfl, hb2, _⟩ := hs2.ev hb
        obtain ⟨_, _, e1, _, c10, c11, c12, c13, c14, c15, c16⟩ := (hs.g hB hg).ev ha
        cases e1
        obtain ⟨_, _, e1, _, c20, c21, c22, c23, c24, c25, c26⟩ := (hs2.g hB hg).ev hb
        cases e1
        have hnq := @ev_neq
        replace ha := Lib.hid ha
        replace hb := Lib.hid hb
        clear hs hs2
        go_wp2_with fail
        go_quiet (fail)
        clear hnq
        go_wp2_with fail
        · go_ret
          rename_i hq
          refine ⟨ret_bool ?_, hg.drewN _⟩
          unfold evsB
          rw [decide_eq_false]
          rintro rfl
          have h3 := ha.out.symm.trans hb.out
          simp [evB] at hq
          simp at h3
          simp [h3] at hq
        · rename_i hq
          go_roundw
          case rel =>
            refine ⟨k + 1, by omega, by go_num, hg.drewN _, ?_⟩
            unfold Hid
            have he : es[k]? = fs[k]? := by
              rw [ha.out, hb.out]
              simp [evB] at hq
              simp [hq]
            rw [List.take_add_one, List.take_add_one, hh.out, he]
          case measure => simp [intOf]; omega
      · go_wp2_with fail
        go_ret
        exact ⟨ret_bool (by
          unfold evsB
          rw [decide_eq_true]
          have h1 : es.take k = es := List.take_of_length_le (by omega)
          have h2 : fs.take k = fs := List.take_of_length_le (by have := hlen.out; omega)
          rw [← h1, ← h2]; exact hh.out), hg⟩
  · have hlb : ((es.length : Int) != (fs.length : Int)) = true := by rw [bne_iff_ne]; omega
    go_enter Tryd.func57, Tryd.ntmps57
    go_wp2_with fail
    go_ret
    exact ⟨ret_bool (by unfold evsB; rw [decide_eq_false]; intro h; exact hlen (by rw [h])), G.refl _⟩

theorem sameEvents_self (es : List Ev) (A A2 : Option Addr) (c c2 B : Nat) (w : World) (hB : B ≤ w.heap.size) (hl : es.length ≤ 9223372036854775807)
    (hs : Sl Ev.cells 7 w B A es) (hs2 : Sl Ev.cells 7 w B A2 es) :
    Calls Tryd.prog 57 #[.slice A es.length c, .slice A2 es.length c2] w fun e w' => e = .returned (.bool true) ∧ G w w' :=
  (sameEvents_any es es A A2 c c2 B w hB hl hl hs hs2).mono fun _ _ ⟨he, hg⟩ => ⟨by rw [he]; unfold evsB; simp, hg⟩
end Go.Proofs.YtilfgafdkiaaaaaDoor
/- penstocklaw9.awake answers true. No condition. -/
namespace Go.Proofs.YtilfgafdkiaaaaaDoor
open Go.RowKit

set_option maxHeartbeats 1000000 in
theorem awake9_any (w : World) : Calls Tryd.prog 9 #[] w fun e w' => e = .returned (.bool true) ∧ G w w' := by
  go_enter Tryd.func9, Tryd.ntmps9
  go_wp2_with fail
  have hm := make_any ⟨#[107]⟩ [⟨⟨#[97]⟩, -1, some ⟨w.heap.size, 0, none⟩, 2, [⟨#[120]⟩, ⟨#[121]⟩]⟩] (some ⟨w.heap.size + 1, 0, none⟩) (some ⟨w.heap.size + 1 + 1, 0, none⟩) 1 1 (w.heap.size + 3) [3] ⟨5, 0, 1⟩ 0
    (((w.alloc (Obj.cells #[Value.string ⟨#[120]⟩, Value.string ⟨#[121]⟩] 9)).alloc (Obj.cells #[Value.string ⟨#[97]⟩, Value.int IntKind.i64 (-1), Value.slice (some ⟨w.heap.size, 0, none⟩) 2 2] 29)).alloc (Obj.cells #[Value.int IntKind.i64 3] 3))
    (by simp) (by simp) (by simp) (by simp [evCount]) (by simp) (by omega)
    ⟨Sl.of_blk PutM.cells_len _ ((G.new _ _).blk (blk_new' _ _ _ _ (by simp))) rfl (by omega), fun p hp => by
      simp at hp; subst hp
      exact Sl.of_blk strC_len _ (((G.new _ _).alloc _).blk (blk_new w _ _)) rfl (by omega)⟩
    (Sl.of_blk intC_len _ (blk_new' _ _ _ _ (by simp)) rfl (by omega))
  refine hm.mono ?_
  clear hm
  rw [show makeFrom [3] ⟨5, 0, 1⟩ 0 0 [⟨⟨#[97]⟩, -1, some ⟨w.heap.size, 0, none⟩, 2, [⟨#[120]⟩, ⟨#[121]⟩]⟩] = [⟨⟨#[97]⟩, 3, ⟨#[120]⟩, ⟨5, 0, 1⟩, 0⟩, ⟨⟨#[97]⟩, 4, ⟨#[121]⟩, ⟨5, 0, 1⟩, 1⟩] from rfl]
  rintro e w1 ⟨v, rfl, hown, hg⟩
  obtain ⟨A, c, rfl, hsl⟩ := hown.sl
  obtain ⟨b, o, rfl, hb, _, c1, _⟩ := hsl.ev (k := 0) rfl
  obtain ⟨_, _, e1, _, _, d1, d2, _, _, _, d6⟩ := hsl.ev (k := 1) rfl
  cases e1
  simp only [Nat.zero_mul, Nat.one_mul, Nat.add_zero] at c1 d1 d2 d6
  replace hg := (((G.new w _).alloc _).alloc _).trans hg
  clear hsl hown
  go_wp2_with fail
  go_ret
  exact ⟨ret_bool (by rfl), hg⟩
end Go.Proofs.YtilfgafdkiaaaaaDoor
/- penstocklaw9.EventBatches: the walk. Condition: the decoder's tables lie as the library lays them. -/
namespace Go.Proofs.YtilfgafdkiaaaaaDoor
open Go.RowKit

theorem flat_le {α : Type} (f : α → List UInt8) (M : Nat) : ∀ (l : List α), (∀ x ∈ l, (f x).length ≤ M) → (l.flatMap f).length ≤ l.length * M
  | [], _ => by simp
  | x :: l, h => by
    have h1 := flat_le f M l fun y hy => h y (by simp [hy])
    have h2 := h x (by simp)
    rw [List.flatMap_cons, List.length_append, List.length_cons, Nat.succ_mul]
    omega
theorem batL_small {key : ByteArray} {ps : List PutM} (hk : key.size ≤ 40000) (hs : PutsSmall ps) : (batL key (ps.map PutM.p)).length ≤ 1099511627776 := by
  by_cases hc : chkN key (ps.map PutM.p) = 0
  · have h1 := chk_small hc
    rw [List.length_map] at h1
    rw [batL_ok hc]
    unfold batBytes
    have h2 := flat_le putBytes 1073800000 (ps.map PutM.p) fun p hp => by
      obtain ⟨m, hm, rfl⟩ := List.mem_map.1 hp
      have h3 := h1.2 _ hp
      have h4 := (hs.2 m hm).1
      have h5 := texts_len m.p.data 1000 h3.2.1
      have h6 := textL_len m.p.stream
      have h7 : m.p.stream.size ≤ 1073741824 := h4
      have h8 := vL_len (zigN m.p.expect)
      have h9 := vL_len m.p.data.length
      have h10 := Nat.mul_le_mul_right 1010 h3.1
      unfold putBytes
      simp only [List.length_append]
      omega
    rw [List.length_map] at h2
    have h3 := textL_len key
    have h4 := vL_len (ps.map PutM.p).length
    simp only [List.length_append]
    have h5 := Nat.mul_le_mul_right 1073800000 h1.1
    omega
  · rw [batL_no hc]
    simp
set_option maxRecDepth 100000 in
set_option maxHeartbeats 4000000 in
theorem eventBatches_walk (key : ByteArray) (ps : List PutM) (A : Option Addr) (c : Nat) (l : List UInt8) (Al : Option Addr) (c8 : Nat) (w : World) (hk : key.size ≤ 9223372036854775807) (hin : PutsIn w w.heap.size A ps) (ho : PutsOk ps) (hx : ∀ p ∈ ps, -9223372036854775808 ≤ p.expect ∧ p.expect ≤ 9223372036854775807) (hsl : Sl byteC 1 w w.heap.size Al l) (hcap : l.length ≤ c8) (hc8 : c8 ≤ 9223372036854775807) (hT : Tabs w) :
    Calls Tryd.prog 7 #[.agg #[.string key, .slice A ps.length c], .slice Al l.length c8] w fun e w' => e = .returned (.bool true) ∧ G w w' := by
  have hgn0 := G.new w (.cells #[.string key, .slice A ps.length c] 25)
  have hba := batch_any 40000 key ps A c w.heap.size _ hgn0.size hk ho (hin.g (Nat.le_refl _) hgn0)
  obtain ⟨T, hTo⟩ : ∃ T, batchOf 40000 key ps = T := ⟨_, rfl⟩
  rw [hTo] at hba
  replace hTo := Lib.hid hTo
  by_cases hbig : T ≤ 40000 ∧ l.length ≤ 6000
  · obtain ⟨hb1, hb2⟩ := hbig
    obtain ⟨hks, hsm⟩ := bat_small (by rw [hTo.out]; exact hb1) hx
    have t1 : ¬ 40000 < T := by omega
    have t1' : decide (40000 < T) = false := decide_eq_false t1
    have t2 : ¬ 6000 < (l.length : Int) := by omega
    have hinn : ∀ w', G w w' → PutsIn w' w'.heap.size A ps := fun w' hg => PutsIn.more (hin.g (Nat.le_refl _) hg) hg.size
    have hch1 : ∀ w', G w w' → Calls Tryd.prog 11 #[.agg #[.string key, .slice A ps.length c]] w' fun e w'' => e = .returned (.int .i64 (chkN key (ps.map PutM.p))) ∧ G w' w'' := fun w' hg => check_any key ps A c w' (hinn w' hg) (by omega) hsm (hT.g hg)
    have hch2 : ∀ w', G w w' → Calls Tryd.prog 28 #[.agg #[.string key, .slice A ps.length c]] w' fun e w'' => e = .returned (.int .i64 (chkN key (ps.map PutM.p))) ∧ G w' w'' := fun w' hg => refCheck_any key ps A c w' (hinn w' hg) (by omega) hsm
    have hen1 : ∀ w', G w w' → Calls Tryd.prog 29 #[.agg #[.string key, .slice A ps.length c]] w' (RetBytesN w' (batL key (ps.map PutM.p))) := fun w' hg => batEnc_any key ps A c w' (hinn w' hg) (by omega) hsm (hT.g hg)
    have hen2 : ∀ w', G w w' → Calls Tryd.prog 30 #[.agg #[.string key, .slice A ps.length c]] w' (RetBytesN w' (batL key (ps.map PutM.p))) := fun w' hg => refBatEnc_any key ps A c w' (hinn w' hg) (by omega) hsm
    have hd1 : ∀ w', G w w' → Calls Tryd.prog 26 #[.slice Al l.length c8] w' (RetBat w' l) := fun w' hg => decBatch_any l Al c8 w' ((hsl.g (Nat.le_refl _) hg).more hg.size) (by omega) hcap (hT.g hg)
    have hd2 : ∀ w', G w w' → Calls Tryd.prog 27 #[.slice Al l.length c8] w' (RetBat w' l) := fun w' hg => refDecBatch_any l Al c8 w' ((hsl.g (Nat.le_refl _) hg).more hg.size) (by omega) hcap
    have hel := batL_small hks hsm
    generalize batL key (ps.map PutM.p) = el at *
    generalize chkN key (ps.map PutM.p) = cn at *
    clear hsl hin hinn
    replace hT := Lib.hid hT
    replace hsm := Lib.hid hsm
    replace ho := Lib.hid ho
    replace hx := Lib.hid hx
    replace hch1 := Lib.hid hch1
    replace hch2 := Lib.hid hch2
    replace hen1 := Lib.hid hen1
    replace hen2 := Lib.hid hen2
    replace hd1 := Lib.hid hd1
    replace hd2 := Lib.hid hd2
    go_enter Tryd.func7, Tryd.ntmps7
    go_wp2_with fail
    refine hba.mono ?_
    clear hba
    rintro e w1 ⟨rfl, hg1⟩
    have hG1 := hgn0.trans hg1
    have hB := hg1.blk (blk_new w #[.string key, .slice A ps.length c] 25)
    go_wp2_with fail
    refine (hd1.out _ hG1).mono ?_
    clear hd1
    rintro e w2 ⟨k1, A1, c1, ms1, n1, e1, rfl, hb1, hz1, hs1, hp1, hg2⟩
    replace hp1 := Lib.hid hp1
    replace hs1 := Lib.hid hs1
    go_wp2_with fail
    have hgn2 := G.new w2 (.cells #[.string k1, .slice A1 ms1.length c1] 25)
    refine (hd2.out _ ((hG1.trans hg2).trans hgn2)).mono ?_
    clear hd2
    rintro e w3 ⟨k2, A2, c2, ms2, n2, e2, rfl, hb2, hz2, hs2, hp2, hg3⟩
    have hbb := hb1.symm.trans hb2
    simp only [Prod.mk.injEq] at hbb
    obtain ⟨⟨rfl, he⟩, rfl, rfl⟩ := hbb
    replace hs2 := Lib.hid hs2
    clear hb1 hb2
    go_upto_region 5 with fail
    have hgn3 := G.new w3 (.cells #[.string k1, .slice A2 ms2.length c2] 25)
    have hG5 : G w (w3.alloc (.cells #[.string k1, .slice A2 ms2.length c2] 25)) := (((hG1.trans hg2).trans hgn2).trans hg3).trans hgn3
    have hX := (((hg2.trans hgn2).trans hg3).trans hgn3).blk hB
    have hY := (hg3.trans hgn3).blk (blk_new w2 #[.string k1, .slice A1 ms1.length c1] 25)
    have hZ := blk_new w3 #[.string k1, .slice A2 ms2.length c2] 25
    have hin1 := hp1.out.ins
    have hin1' := PutsIn.more (hin1.g (Nat.le_refl _) ((hgn2.trans hg3).trans hgn3)) ((hgn2.trans hg3).trans hgn3).size
    have hin2' := PutsIn.more (hp2.ins.g (Nat.le_refl _) hgn3) hgn3.size
    generalize w3.alloc (.cells #[.string k1, .slice A2 ms2.length c2] 25) = W5 at *
    generalize w2.heap.size = b1 at *
    generalize w3.heap.size = b2 at *
    have hsa : ∀ w', G W5 w' → Calls Tryd.prog 31 #[.agg #[.string k1, .slice A1 ms1.length c1], .agg #[.string k1, .slice A2 ms2.length c2]] w' fun e w'' => e = .returned (.bool true) ∧ G w' w'' := fun w' hg =>
      sameBatch_yes k1 ms1 ms2 A1 A2 c1 c2 w' (PutsIn.more (hin1'.g (Nat.le_refl _) hg) hg.size) (PutsIn.more (hin2'.g (Nat.le_refl _) hg) hg.size) he hs1.out
    have x0 : ∀ w', G W5 w' → w'.cell? ⟨w.heap.size, 0, none⟩ = some (.string key) := fun w' h => (blk_cell (h.blk hX) 0).trans rfl
    have x1 : ∀ w', G W5 w' → w'.cell? ⟨w.heap.size, 1, none⟩ = some (.slice A ps.length c) := fun w' h => (blk_cell (h.blk hX) 1).trans rfl
    have y0 : ∀ w', G W5 w' → w'.cell? ⟨b1, 0, none⟩ = some (.string k1) := fun w' h => (blk_cell (h.blk hY) 0).trans rfl
    have y1 : ∀ w', G W5 w' → w'.cell? ⟨b1, 1, none⟩ = some (.slice A1 ms1.length c1) := fun w' h => (blk_cell (h.blk hY) 1).trans rfl
    have z0 : ∀ w', G W5 w' → w'.cell? ⟨b2, 0, none⟩ = some (.string k1) := fun w' h => (blk_cell (h.blk hZ) 0).trans rfl
    have z1 : ∀ w', G W5 w' → w'.cell? ⟨b2, 1, none⟩ = some (.slice A2 ms2.length c2) := fun w' h => (blk_cell (h.blk hZ) 1).trans rfl
    have hGw : ∀ w', G W5 w' → G w w' := fun w' h => hG5.trans h
    replace hGw := Lib.hid hGw
    replace hsa := Lib.hid hsa
    clear hX hY hZ hin1 hin1' hin2' hp1 hp2 hg2 hg3 hgn2 hgn3 hG1 hB hgn0 he hG5 hg1 hs2
    have haw := fun w' => awake9_any w'
    go_region_held3 (fun w' => G W5 w') (first | exact (G.refl _).drew | exact hgi.keep (by assumption) | exact hgj.keep (by assumption) | exact hgm.keep (by assumption) | exact hgn.keep (by assumption) | exact hgb.keep (by assumption) | exact hgs.keep (by assumption) | exact hga.keep (by assumption) | fail) (first
      | (go_at_call 11; (with_reducible refine Calls.mono (hch1.out _ (hGw.out _ (by assumption))) ?_); rintro e v1 ⟨rfl, hgi⟩)
      | (go_at_call 28; (with_reducible refine Calls.mono (hch2.out _ (hGw.out _ (by assumption))) ?_); rintro e v2 ⟨rfl, hgj⟩)
      | (go_at_call 29; (with_reducible refine Calls.mono (hen1.out _ (hGw.out _ (by assumption))) ?_); rintro e u1 ⟨A4, d1, rfl, hown1, hgm, _⟩; replace hown1 := OwnL.self byteC_len hown1)
      | (go_at_call 30; (with_reducible refine Calls.mono (hen2.out _ (hGw.out _ (by assumption))) ?_); rintro e u2 ⟨A5, d2, rfl, hown2, hgn, _⟩; replace hown2 := OwnL.self byteC_len hown2)
      | (go_at_call 17; (with_reducible refine Calls.mono (bytesSelf_any el A4 A5 d1 d2 _ u2 (Nat.le_refl _) ((hown1.g (Nat.le_refl _) hgn).more hgn.size) hown2 (by omega)) ?_); rintro e u3 ⟨rfl, hgb⟩)
      | (go_at_call 17; (with_reducible refine Calls.mono (bytesSelf_any el A4 A5 d1 d2 _ u1 (Nat.le_refl _) hown1 ((hown2.g (Nat.le_refl _) hgm).more hgm.size) (by omega)) ?_); rintro e u3 ⟨rfl, hgb⟩)
      | (go_at_call 31; (with_reducible refine Calls.mono (hsa.out _ (by assumption)) ?_); rintro e u5 ⟨rfl, hgs⟩)
      | (go_at_call 9; (with_reducible refine Calls.mono (haw _) ?_); rintro e u4 ⟨rfl, hga⟩))
    all_goals
      have hGe : G W5 u4 := by assumption
      go_wp2_with fail
      go_ret
      exact ⟨rfl, hGw.out _ hGe⟩
  · by_cases h1 : 40000 < T
    · have t1 : decide (40000 < T) = true := decide_eq_true h1
      clear hbig
      go_enter Tryd.func7, Tryd.ntmps7
      go_wp2_with fail
      refine hba.mono ?_
      rintro e w1 ⟨rfl, hg1⟩
      go_wp2_with (go_at_call 9; refine (awake9_any _).mono ?_; rintro e w2 ⟨rfl, hg2⟩)
      go_ret
      exact ⟨rfl, (hgn0.trans hg1).trans hg2⟩
    · have t1 : ¬ 40000 < T := h1
      have t1' : decide (40000 < T) = false := decide_eq_false h1
      have t2 : 6000 < (l.length : Int) := by omega
      clear hbig
      go_enter Tryd.func7, Tryd.ntmps7
      go_wp2_with fail
      refine hba.mono ?_
      rintro e w1 ⟨rfl, hg1⟩
      go_wp2_with (go_at_call 9; refine (awake9_any _).mono ?_; rintro e w2 ⟨rfl, hg2⟩)
      go_ret
      exact ⟨rfl, (hgn0.trans hg1).trans hg2⟩
end Go.Proofs.YtilfgafdkiaaaaaDoor
/- How texts, numbers and bools read as the laws' arguments; what the listed tables give. No condition. -/
namespace Go.Proofs.YtilfgafdkiaaaaaDoor
open Go.RowKit Go.ChangeShapes Go.WideShapes Go.Lib

/-- An int of 64 bits. -/
def I64 (n : Int) : Prop := -9223372036854775808 ≤ n ∧ n ≤ 9223372036854775807
section
variable {H : Type} {enc : TypeId × Value → H} {w : World} {base b0 : Nat} {spare : Nat → Bool} {held : Bool} {fuel : Nat} {cs : List Value} {x : DataW H × List MemPlace} {r : Reach} {v : Value} {d : DataW H} {p : List MemPlace}
theorem i64_of_wf {n : Int} (h : (Lit.int .i64 n).wf = true) : I64 n := by
  have := bounds_i64 h
  exact ⟨by omega, by omega⟩
set_option maxRecDepth 100000 in
theorem in_int (hv : Value.okWide Tryd.prog w r b0 3 v) (h : DataW.Trod enc Tryd.prog w base spare held 3 v d p) : ∃ n, v = .int .i64 n ∧ I64 n := by
  obtain ⟨n, rfl⟩ := okWide_int Tryd.underlying3 hv
  obtain ⟨fuel, hf⟩ := h
  obtain ⟨n', e, _, hn⟩ := DataW.trod_int Tryd.underlying3 hf
  simp [Value.cells] at e
  subst e
  exact ⟨n, rfl, i64_of_wf hn⟩
set_option maxRecDepth 100000 in
theorem in_str (hv : Value.okWide Tryd.prog w r b0 9 v) (h : DataW.Trod enc Tryd.prog w base spare held 9 v d p) : ∃ s, v = .string s ∧ s.size ≤ 9223372036854775807 := by
  obtain ⟨s, rfl⟩ := okWide_string Tryd.underlying9 hv
  obtain ⟨fuel, hf⟩ := h
  obtain ⟨s', e, _, hn⟩ := DataW.trod_string Tryd.underlying9 hf
  simp [Value.cells] at e
  subst e
  exact ⟨s, rfl, by simpa [maxLen] using hn⟩
set_option maxRecDepth 100000 in
theorem in_bool (hv : Value.okWide Tryd.prog w r b0 4 v) (_h : DataW.Trod enc Tryd.prog w base spare held 4 v d p) : ∃ b, v = .bool b ∧ b = b := by
  obtain ⟨b, rfl⟩ := okWide_bool Tryd.underlying4 hv
  exact ⟨b, rfl, rfl⟩
end
theorem u8Extra : U8Extra Tryd.prog Tryd.lays196_ren := ⟨by kernel_rfl, by kernel_rfl, by kernel_rfl, by kernel_rfl, by kernel_rfl, by kernel_rfl, by kernel_rfl⟩
theorem accept_eq : (Rows.laid_unicode_utf8_acceptRanges : DataW Unit) = acceptData := by kernel_rfl
/-- Where the two tables are listed they lie so. -/
theorem tabs_of_laid {w : World} (h : laidMet Tryd.prog [("unicode/utf8.acceptRanges", Rows.laid_unicode_utf8_acceptRanges), ("unicode/utf8.first", Rows.laid_unicode_utf8_first)] w) : Tabs w :=
  utf8Tabs_of_readsT (U8Types.of196 Tryd.lays196) u8Extra (Pinned.utf8First_eq ▸ Lib.laidMet.reads h (.tail _ (.head _))) (accept_eq ▸ Lib.laidMet.reads h (.head _))
end Go.Proofs.YtilfgafdkiaaaaaDoor
/- Door seats: how the arguments of the laws read: texts, numbers, stamps, events, puts, batches, lists of these. No condition. -/
namespace Go.Proofs.YtilfgafdkiaaaaaDoor
open Go.RowKit Go.ChangeShapes Go.WideShapes Go.Deep

instance : Inhabited St := ⟨⟨0, 0, 0⟩⟩
instance : Inhabited Ev := ⟨⟨ByteArray.empty, 0, ByteArray.empty, default, 0⟩⟩
instance : Inhabited PutM := ⟨⟨ByteArray.empty, 0, none, 0, []⟩⟩
def St.ok (s : St) : Prop := I64 s.wall ∧ I64 s.logic ∧ I64 s.node
def Ev.ok (e : Ev) : Prop := e.stream.size ≤ 9223372036854775807 ∧ I64 e.version ∧ e.data.size ≤ 9223372036854775807 ∧ e.st.ok ∧ I64 e.index

section
variable {H : Type} {enc : TypeId × Value → H} {w : World} {base : Nat} {spare : Nat → Bool} {held : Bool} {fuel : Nat} {cs : List Value} {x : DataW H × List MemPlace}

set_option maxRecDepth 100000 in
theorem rdv_int (h : DataW.trod enc Tryd.prog w base spare held fuel 3 cs = some x) : ∃ n, cs = intC n ∧ I64 n := by
  obtain ⟨n, rfl, _, hw⟩ := DataW.trod_int Tryd.underlying3 h
  exact ⟨n, rfl, i64_of_wf hw⟩
set_option maxRecDepth 100000 in
theorem rdv_str (h : DataW.trod enc Tryd.prog w base spare held fuel 9 cs = some x) : ∃ s, cs = strC s ∧ s.size ≤ 9223372036854775807 := by
  obtain ⟨s, rfl, _, hs⟩ := DataW.trod_string Tryd.underlying9 h
  exact ⟨s, rfl, by simpa [maxLen] using hs⟩
set_option maxRecDepth 100000 in
/-- Three cells. -/
theorem list3 {l : List Value} (h : l.length = 3) : ∃ a b c, l = [a, b, c] := by
  match l, h with
  | [a, b, c], _ => exact ⟨a, b, c, rfl⟩
set_option maxRecDepth 100000 in
theorem list2 {l : List Value} (h : l.length = 2) : ∃ a b, l = [a, b] := by
  match l, h with
  | [a, b], _ => exact ⟨a, b, rfl⟩
set_option maxRecDepth 100000 in
theorem list7 {l : List Value} (h : l.length = 7) : ∃ a b c d e f g, l = [a, b, c, d, e, f, g] := by
  match l, h with
  | [a, b, c, d, e, f, g], _ => exact ⟨a, b, c, d, e, f, g, rfl⟩
set_option maxRecDepth 100000 in
/-- A field that is read: of type T, at offset off, of k cells. -/
theorem rdv_field {t : TypeId} {fs : Array Field} (ht : Tryd.prog.underlying t = some (.struct fs)) (h : DataW.trod enc Tryd.prog w base spare held fuel t cs = some x) :
    cs.length = Tryd.prog.cellsOf t ∧ ∃ n, ∀ (i : Nat) (T : TypeId) (off k : Nat), (fs[i]?).map (fun f => (f.type, f.offset)) = some (T, off) → Tryd.prog.cellsOf T = k → ∃ y, DataW.trod enc Tryd.prog w base spare held n T ((cs.drop off).take k) = some y := by
  obtain ⟨xs, n, _, _, hl, hx, hf⟩ := DataW.trod_struct ht h
  refine ⟨hl, n, fun i T off k hi0 hk => ?_⟩
  obtain ⟨f, hi, e⟩ := Option.map_eq_some_iff.1 hi0
  simp only [Prod.mk.injEq] at e
  obtain ⟨rfl, rfl⟩ := e
  subst hk
  have hi' : i < fs.size := (Array.getElem?_eq_some_iff.1 hi).1
  exact ⟨xs[i]'(by omega), (hf i f hi).trans (List.getElem?_eq_getElem (by omega))⟩
set_option maxRecDepth 100000 in
theorem cells_stamp : Tryd.prog.cellsOf 35 = 3 := by kernel_rfl
set_option maxRecDepth 100000 in
theorem cells_event : Tryd.prog.cellsOf 41 = 7 := by kernel_rfl
set_option maxRecDepth 100000 in
theorem cells_int : Tryd.prog.cellsOf 3 = 1 := by kernel_rfl
set_option maxRecDepth 100000 in
theorem cells_string : Tryd.prog.cellsOf 9 = 1 := by kernel_rfl
set_option maxRecDepth 100000 in
theorem rdv_st (h : DataW.trod enc Tryd.prog w base spare held fuel 35 cs = some x) : ∃ s : St, cs = s.cells ∧ s.ok := by
  obtain ⟨hl, n, hf⟩ := rdv_field Tryd.underlying35 h
  obtain ⟨a, b, c, rfl⟩ := list3 (hl.trans cells_stamp)
  obtain ⟨y0, h0⟩ := hf 0 3 0 1 rfl cells_int
  obtain ⟨y1, h1⟩ := hf 1 3 1 1 rfl cells_int
  obtain ⟨y2, h2⟩ := hf 2 3 2 1 rfl cells_int
  obtain ⟨n0, e0, w0⟩ := rdv_int h0
  obtain ⟨n1, e1, w1⟩ := rdv_int h1
  obtain ⟨n2, e2, w2⟩ := rdv_int h2
  simp [intC] at e0 e1 e2
  subst e0 e1 e2
  exact ⟨⟨n0, n1, n2⟩, rfl, w0, w1, w2⟩
set_option maxRecDepth 100000 in
theorem rdv_ev (h : DataW.trod enc Tryd.prog w base spare held fuel 41 cs = some x) : ∃ e : Ev, cs = e.cells ∧ e.ok := by
  obtain ⟨hl, n, hf⟩ := rdv_field Tryd.underlying41 h
  obtain ⟨a, b, c, d, e, f, g, rfl⟩ := list7 (hl.trans cells_event)
  obtain ⟨y0, h0⟩ := hf 0 9 0 1 rfl cells_string
  obtain ⟨y1, h1⟩ := hf 1 3 1 1 rfl cells_int
  obtain ⟨y2, h2⟩ := hf 2 9 2 1 rfl cells_string
  obtain ⟨y3, h3⟩ := hf 3 35 3 3 rfl cells_stamp
  obtain ⟨y4, h4⟩ := hf 4 3 6 1 rfl cells_int
  obtain ⟨n0, e0, w0⟩ := rdv_str h0
  obtain ⟨n1, e1, w1⟩ := rdv_int h1
  obtain ⟨n2, e2, w2⟩ := rdv_str h2
  obtain ⟨⟨s1, s2, s3⟩, e3, w3⟩ := rdv_st h3
  obtain ⟨n4, e4, w4⟩ := rdv_int h4
  simp [intC, strC, St.cells] at e0 e1 e2 e3 e4
  obtain ⟨e3, e5, e6⟩ := e3
  subst e0 e1 e2 e3 e4 e5 e6
  exact ⟨⟨n0, n1, n2, ⟨s1, s2, s3⟩, n4⟩, rfl, w0, w1, w2, w3, w4⟩

set_option maxRecDepth 100000 in
/-- A slice is read as the list of what its elements read as. -/
theorem rdv_slice {α : Type} [Inhabited α] {f : α → List Value} {sz : Nat} {ok : α → Prop} {t e : TypeId} (ht : Tryd.prog.underlying t = some (.slice e)) (hc : Tryd.prog.cellsOf e = sz) (hsz : 0 < sz) (hf : ∀ x, (f x).length = sz)
    (hrd : ∀ (n : Nat) (cs : List Value) (y : DataW H × List MemPlace), DataW.trod enc Tryd.prog w base spare held n e cs = some y → ∃ a, cs = f a ∧ ok a)
    (h : DataW.trod enc Tryd.prog w base spare held fuel t cs = some x) :
    ∃ (A : Option Addr) (c : Nat) (xs : List α), cs = [.slice A xs.length c] ∧ Sl f sz w w.heap.size A xs ∧ (∀ a ∈ xs, ok a) ∧ xs.length ≤ c ∧ c ≤ 9223372036854775807 := by
  rcases open_slice ht h with ⟨rfl, _⟩ | ⟨a, len, cap, m, n, D, Pl, rfl, _, hl, hm, hmm, _, hi⟩
  · exact ⟨none, 0, [], rfl, Sl.nil, by simp, by simp, by simp⟩
  have hlm : len ≤ m := by rw [hmm]; split <;> omega
  rw [hc] at hi
  obtain ⟨F, hF⟩ := choose_lt (α := α) (p := fun i y => w.cells? base (a.add (i * sz)) sz = some (f y) ∧ ok y) (n := len) (fun i hil => by
    obtain ⟨cs', h1, h2⟩ := hi i (by omega)
    obtain ⟨y, rfl, hy⟩ := hrd _ _ _ h2
    exact ⟨y, h1, hy⟩)
  refine ⟨some a, cap, (List.range len).map F, by simp, fun hne => ?_, fun y hy => ?_, by simpa using hl, by simpa [maxLen] using hm⟩
  · have hpos : 0 < len := by
      rcases Nat.eq_zero_or_pos len with h0 | h0
      · subst h0; simp at hne
      · exact h0
    obtain ⟨_, _, hcell0⟩ := World.cells?_some (hF 0 hpos).1
    have h00 := hcell0 0 hsz
    rw [List.getElem?_eq_getElem (by rw [hf]; exact hsz)] at h00
    rw [Nat.zero_mul, add_add] at h00
    have hspot : a.spot = none := by
      obtain ⟨b, o, spot⟩ := a
      simpa [Addr.add] using World.cell?_spot h00
    obtain ⟨b, o, spot⟩ := a
    simp only at hspot
    subst hspot
    refine ⟨b, o, rfl, ?_, fun k y hk j u hu => ?_⟩
    · simp only [Addr.add_lit, World.cell?] at h00
      rcases Nat.lt_or_ge b w.heap.size with h1 | h1
      · exact h1
      · rw [Array.getElem?_eq_none h1] at h00; simp at h00
    · obtain ⟨hkl, rfl⟩ := List.getElem?_eq_some_iff.1 hk
      simp only [List.length_map, List.length_range] at hkl
      simp only [List.getElem_map, List.getElem_range] at hu
      have hj : j < sz := by rw [← hf (F k)]; exact (List.getElem?_eq_some_iff.1 hu).1
      obtain ⟨_, _, hcell⟩ := World.cells?_some (hF k hkl).1
      have := hcell j hj
      rw [add_add, Addr.add_lit, ← Nat.add_assoc] at this
      rw [this, hu]
  · simp only [List.mem_map, List.mem_range] at hy
    obtain ⟨i, hil, rfl⟩ := hy
    exact (hF i hil).2
set_option maxRecDepth 100000 in
theorem cells_strs : Tryd.prog.cellsOf 27 = 1 := by kernel_rfl
set_option maxRecDepth 100000 in
theorem cells_puts : Tryd.prog.cellsOf 23 = 1 := by kernel_rfl
set_option maxRecDepth 100000 in
theorem cells_put : Tryd.prog.cellsOf 29 = 3 := by kernel_rfl
set_option maxRecDepth 100000 in
theorem cells_batch : Tryd.prog.cellsOf 25 = 2 := by kernel_rfl
set_option maxRecDepth 100000 in
theorem rdv_ints (h : DataW.trod enc Tryd.prog w base spare held fuel 37 cs = some x) :
    ∃ (A : Option Addr) (c : Nat) (xs : List Int), cs = [.slice A xs.length c] ∧ Sl intC 1 w w.heap.size A xs ∧ (∀ a ∈ xs, I64 a) ∧ xs.length ≤ c ∧ c ≤ 9223372036854775807 :=
  rdv_slice Tryd.underlying37 cells_int (by omega) intC_len (fun _ _ _ h => rdv_int h) h
set_option maxRecDepth 100000 in
theorem rdv_strs (h : DataW.trod enc Tryd.prog w base spare held fuel 27 cs = some x) :
    ∃ (A : Option Addr) (c : Nat) (xs : List ByteArray), cs = [.slice A xs.length c] ∧ Sl strC 1 w w.heap.size A xs ∧ (∀ a ∈ xs, a.size ≤ 9223372036854775807) ∧ xs.length ≤ c ∧ c ≤ 9223372036854775807 :=
  rdv_slice (ok := fun s : ByteArray => s.size ≤ 9223372036854775807) Tryd.underlying27 cells_string (by omega) strC_len (fun _ _ _ h => rdv_str h) h
set_option maxRecDepth 100000 in
theorem rdv_evs (h : DataW.trod enc Tryd.prog w base spare held fuel 38 cs = some x) :
    ∃ (A : Option Addr) (c : Nat) (xs : List Ev), cs = [.slice A xs.length c] ∧ Sl Ev.cells 7 w w.heap.size A xs ∧ (∀ a ∈ xs, a.ok) ∧ xs.length ≤ c ∧ c ≤ 9223372036854775807 :=
  rdv_slice Tryd.underlying38 cells_event (by omega) Ev.cells_len (fun _ _ _ h => rdv_ev h) h
def PutM.ok (w : World) (p : PutM) : Prop := p.stream.size ≤ 9223372036854775807 ∧ I64 p.expect ∧ Sl strC 1 w w.heap.size p.A p.data ∧ (∀ a ∈ p.data, a.size ≤ 9223372036854775807) ∧ p.data.length ≤ 9223372036854775807
set_option maxRecDepth 100000 in
theorem rdv_put (h : DataW.trod enc Tryd.prog w base spare held fuel 29 cs = some x) : ∃ p : PutM, cs = p.cells ∧ p.ok w := by
  obtain ⟨hl, n, hf⟩ := rdv_field Tryd.underlying29 h
  obtain ⟨a, b, c, rfl⟩ := list3 (hl.trans cells_put)
  obtain ⟨y0, h0⟩ := hf 0 9 0 1 rfl cells_string
  obtain ⟨y1, h1⟩ := hf 1 3 1 1 rfl cells_int
  obtain ⟨y2, h2⟩ := hf 2 27 2 1 rfl cells_strs
  obtain ⟨n0, e0, w0⟩ := rdv_str h0
  obtain ⟨n1, e1, w1⟩ := rdv_int h1
  obtain ⟨A, cc, xs, e2, w2, w3, w4, w5⟩ := rdv_strs h2
  simp [intC, strC] at e0 e1 e2
  subst e0 e1 e2
  exact ⟨⟨n0, n1, A, cc, xs⟩, rfl, w0, w1, w2, w3, by show xs.length ≤ _; omega⟩
set_option maxRecDepth 100000 in
theorem rdv_puts (h : DataW.trod enc Tryd.prog w base spare held fuel 23 cs = some x) :
    ∃ (A : Option Addr) (c : Nat) (ps : List PutM), cs = [.slice A ps.length c] ∧ PutsIn w w.heap.size A ps ∧ PutsOk ps ∧ (∀ p ∈ ps, I64 p.expect) := by
  obtain ⟨A, c, ps, rfl, h1, h2, h3, h4⟩ := rdv_slice (f := PutM.cells) (ok := PutM.ok w) Tryd.underlying23 cells_put (by omega) PutM.cells_len (fun _ _ _ h => rdv_put h) h
  exact ⟨A, c, ps, rfl, ⟨h1, fun p hp => (h2 p hp).2.2.1⟩, ⟨by omega, fun p hp => ⟨(h2 p hp).1, (h2 p hp).2.2.2.2, (h2 p hp).2.2.2.1⟩⟩, fun p hp => (h2 p hp).2.1⟩
set_option maxRecDepth 100000 in
theorem rdv_batch (h : DataW.trod enc Tryd.prog w base spare held fuel 25 cs = some x) :
    ∃ (key : ByteArray) (A : Option Addr) (c : Nat) (ps : List PutM), cs = [.string key, .slice A ps.length c] ∧ key.size ≤ 9223372036854775807 ∧ PutsIn w w.heap.size A ps ∧ PutsOk ps ∧ (∀ p ∈ ps, I64 p.expect) := by
  obtain ⟨hl, n, hf⟩ := rdv_field Tryd.underlying25 h
  obtain ⟨a, b, rfl⟩ := list2 (hl.trans cells_batch)
  obtain ⟨y0, h0⟩ := hf 0 9 0 1 rfl cells_string
  obtain ⟨y1, h1⟩ := hf 1 23 1 1 rfl cells_puts
  obtain ⟨n0, e0, w0⟩ := rdv_str h0
  obtain ⟨A, c, ps, e1, w1, w2, w3⟩ := rdv_puts h1
  simp [strC] at e0 e1
  subst e0 e1
  exact ⟨n0, A, c, ps, rfl, w0, w1, w2, w3⟩
set_option maxRecDepth 100000 in
theorem cells_u8 : Tryd.prog.cellsOf 5 = 1 := by kernel_rfl
set_option maxRecDepth 100000 in
theorem cells_evs : Tryd.prog.cellsOf 38 = 1 := by kernel_rfl
set_option maxRecDepth 100000 in
theorem cells_kns : Tryd.prog.cellsOf 51 = 1 := by kernel_rfl
set_option maxRecDepth 100000 in
theorem cells_kn : Tryd.prog.cellsOf 91 = 5 := by kernel_rfl
set_option maxRecDepth 100000 in
theorem cells_sm : Tryd.prog.cellsOf 53 = 3 := by kernel_rfl
set_option maxRecDepth 100000 in
theorem list5 {l : List Value} (h : l.length = 5) : ∃ a b c d e, l = [a, b, c, d, e] := by
  match l, h with
  | [a, b, c, d, e], _ => exact ⟨a, b, c, d, e, rfl⟩
instance : Inhabited Kn := ⟨⟨ByteArray.empty, 0, default⟩⟩
set_option maxRecDepth 100000 in
theorem rdv_u8 (h : DataW.trod enc Tryd.prog w base spare held fuel 5 cs = some x) : ∃ b : UInt8, cs = byteC b ∧ True := by
  obtain ⟨n, rfl, _, hw⟩ := DataW.trod_int Tryd.underlying5 h
  have h1 := bounds_u8 hw
  refine ⟨UInt8.ofNat n.toNat, ?_, trivial⟩
  unfold byteC
  rw [nat_u8 (by omega)]
  congr 2
  omega
set_option maxRecDepth 100000 in
theorem rdv_bytes (h : DataW.trod enc Tryd.prog w base spare held fuel 26 cs = some x) :
    ∃ (A : Option Addr) (c : Nat) (xs : List UInt8), cs = [.slice A xs.length c] ∧ Sl byteC 1 w w.heap.size A xs ∧ xs.length ≤ c ∧ c ≤ 9223372036854775807 := by
  obtain ⟨A, c, xs, e, h1, _, h2, h3⟩ := rdv_slice (ok := fun _ : UInt8 => True) Tryd.underlying26 cells_u8 (by omega) byteC_len (fun _ _ _ h => rdv_u8 h) h
  exact ⟨A, c, xs, e, h1, h2, h3⟩
def Kn.ok (k : Kn) : Prop := k.key.size ≤ 9223372036854775807 ∧ I64 k.first ∧ k.st.ok
set_option maxRecDepth 100000 in
theorem rdv_kn (h : DataW.trod enc Tryd.prog w base spare held fuel 91 cs = some x) : ∃ k : Kn, cs = k.cells ∧ k.ok := by
  obtain ⟨hl, n, hf⟩ := rdv_field Tryd.underlying91 h
  obtain ⟨a, b, c, d, e, rfl⟩ := list5 (hl.trans cells_kn)
  obtain ⟨y0, h0⟩ := hf 0 9 0 1 rfl cells_string
  obtain ⟨y1, h1⟩ := hf 1 3 1 1 rfl cells_int
  obtain ⟨y2, h2⟩ := hf 2 35 2 3 rfl cells_stamp
  obtain ⟨n0, e0, w0⟩ := rdv_str h0
  obtain ⟨n1, e1, w1⟩ := rdv_int h1
  obtain ⟨⟨s1, s2, s3⟩, e2, w2⟩ := rdv_st h2
  simp [intC, strC, St.cells] at e0 e1 e2
  obtain ⟨e2, e3, e4⟩ := e2
  subst e0 e1 e2 e3 e4
  exact ⟨⟨n0, n1, ⟨s1, s2, s3⟩⟩, rfl, w0, w1, w2⟩
set_option maxRecDepth 100000 in
theorem rdv_kns (h : DataW.trod enc Tryd.prog w base spare held fuel 51 cs = some x) :
    ∃ (A : Option Addr) (c : Nat) (xs : List Kn), cs = [.slice A xs.length c] ∧ Sl Kn.cells 5 w w.heap.size A xs ∧ (∀ a ∈ xs, a.ok) ∧ xs.length ≤ c ∧ c ≤ 9223372036854775807 :=
  rdv_slice Tryd.underlying51 cells_kn (by omega) Kn.cells_len (fun _ _ _ h => rdv_kn h) h
set_option maxRecDepth 100000 in
/-- A stream that is read. -/
theorem rdv_sm (h : DataW.trod enc Tryd.prog w base spare held fuel 53 cs = some x) :
    ∃ (n : ByteArray) (A A2 : Option Addr) (c c2 : Nat) (es : List Ev) (ks : List Kn), cs = [.string n, .slice A es.length c, .slice A2 ks.length c2] ∧ n.size ≤ 9223372036854775807 ∧ Sl Ev.cells 7 w w.heap.size A es ∧ (∀ e ∈ es, e.ok) ∧ es.length ≤ c ∧ c ≤ 9223372036854775807 ∧
      Sl Kn.cells 5 w w.heap.size A2 ks ∧ (∀ k ∈ ks, k.ok) ∧ ks.length ≤ c2 ∧ c2 ≤ 9223372036854775807 := by
  obtain ⟨hl, n, hf⟩ := rdv_field Tryd.underlying53 h
  obtain ⟨a, b, c, rfl⟩ := list3 (hl.trans cells_sm)
  obtain ⟨y0, h0⟩ := hf 0 9 0 1 rfl cells_string
  obtain ⟨y1, h1⟩ := hf 1 38 1 1 rfl cells_evs
  obtain ⟨y2, h2⟩ := hf 2 51 2 1 rfl cells_kns
  obtain ⟨n0, e0, w0⟩ := rdv_str h0
  obtain ⟨A, cc, es, e1, w1⟩ := rdv_evs h1
  obtain ⟨A2, c2, ks, e2, w2⟩ := rdv_kns h2
  simp [strC] at e0 e1 e2
  subst e0 e1 e2
  exact ⟨n0, A, A2, cc, c2, es, ks, rfl, w0, w1.1, w1.2.1, w1.2.2.1, w1.2.2.2, w2.1, w2.2.1, w2.2.2.1, w2.2.2.2⟩
end

/-! The values of the parameters themselves. -/
section
variable {H : Type} {enc : TypeId × Value → H} {w : World} {base b0 : Nat} {spare : Nat → Bool} {held : Bool} {r : Reach} {v : Value} {d : DataW H} {p : List MemPlace}
set_option maxRecDepth 100000 in
theorem in_ints (hv : Value.okWide Tryd.prog w r b0 37 v) (h : DataW.Trod enc Tryd.prog w base spare held 37 v d p) :
    ∃ (A : Option Addr) (c : Nat) (xs : List Int), v = .slice A xs.length c ∧ Sl intC 1 w w.heap.size A xs ∧ (∀ a ∈ xs, I64 a) ∧ xs.length ≤ c ∧ c ≤ 9223372036854775807 := by
  obtain ⟨A, n, c, rfl⟩ := okWide_slice Tryd.underlying37 hv
  obtain ⟨fuel, hf⟩ := h
  obtain ⟨A', c', xs, e, hr⟩ := rdv_ints hf
  simp [Value.cells] at e
  obtain ⟨rfl, rfl, rfl⟩ := e
  exact ⟨_, _, xs, rfl, hr⟩
set_option maxRecDepth 100000 in
theorem in_st (hv : Value.okWide Tryd.prog w r b0 35 v) (h : DataW.Trod enc Tryd.prog w base spare held 35 v d p) : ∃ s : St, v = .agg #[.int .i64 s.wall, .int .i64 s.logic, .int .i64 s.node] ∧ s.ok := by
  obtain ⟨cs, rfl, hsz⟩ := okWide_struct Tryd.underlying35 hv
  obtain ⟨fuel, hf⟩ := h
  obtain ⟨s, e, hs⟩ := rdv_st hf
  obtain ⟨l⟩ := cs
  simp [Value.cells] at e
  subst e
  exact ⟨s, rfl, hs⟩
set_option maxRecDepth 100000 in
theorem in_batch (hv : Value.okWide Tryd.prog w r b0 25 v) (h : DataW.Trod enc Tryd.prog w base spare held 25 v d p) :
    ∃ (key : ByteArray) (A : Option Addr) (c : Nat) (ps : List PutM), v = .agg #[.string key, .slice A ps.length c] ∧ key.size ≤ 9223372036854775807 ∧ PutsIn w w.heap.size A ps ∧ PutsOk ps ∧ (∀ p ∈ ps, I64 p.expect) := by
  obtain ⟨cs, rfl, hsz⟩ := okWide_struct Tryd.underlying25 hv
  obtain ⟨fuel, hf⟩ := h
  obtain ⟨key, A, c, ps, e, hs⟩ := rdv_batch hf
  obtain ⟨l⟩ := cs
  simp [Value.cells] at e
  subst e
  exact ⟨key, A, c, ps, rfl, hs⟩
set_option maxRecDepth 100000 in
theorem in_bytes (hv : Value.okWide Tryd.prog w r b0 26 v) (h : DataW.Trod enc Tryd.prog w base spare held 26 v d p) :
    ∃ (A : Option Addr) (c : Nat) (xs : List UInt8), v = .slice A xs.length c ∧ Sl byteC 1 w w.heap.size A xs ∧ xs.length ≤ c ∧ c ≤ 9223372036854775807 := by
  obtain ⟨A, n, c, rfl⟩ := okWide_slice Tryd.underlying26 hv
  obtain ⟨fuel, hf⟩ := h
  obtain ⟨A', c', xs, e, hr⟩ := rdv_bytes hf
  simp [Value.cells] at e
  obtain ⟨rfl, rfl, rfl⟩ := e
  exact ⟨_, _, xs, rfl, hr⟩
set_option maxRecDepth 100000 in
theorem in_ev (hv : Value.okWide Tryd.prog w r b0 41 v) (h : DataW.Trod enc Tryd.prog w base spare held 41 v d p) : ∃ x : Ev, v = .agg x.cells.toArray ∧ x.ok := by
  obtain ⟨cs, rfl, hsz⟩ := okWide_struct Tryd.underlying41 hv
  obtain ⟨fuel, hf⟩ := h
  obtain ⟨x, e, hx⟩ := rdv_ev hf
  obtain ⟨l⟩ := cs
  simp [Value.cells] at e
  subst e
  exact ⟨x, rfl, hx⟩
set_option maxRecDepth 100000 in
theorem in_sm (hv : Value.okWide Tryd.prog w r b0 53 v) (h : DataW.Trod enc Tryd.prog w base spare held 53 v d p) :
    ∃ (n : ByteArray) (A A2 : Option Addr) (c c2 : Nat) (es : List Ev) (ks : List Kn), v = .agg #[.string n, .slice A es.length c, .slice A2 ks.length c2] ∧ n.size ≤ 9223372036854775807 ∧ Sl Ev.cells 7 w w.heap.size A es ∧ (∀ e ∈ es, e.ok) ∧ es.length ≤ c ∧ c ≤ 9223372036854775807 ∧
      Sl Kn.cells 5 w w.heap.size A2 ks ∧ (∀ k ∈ ks, k.ok) ∧ ks.length ≤ c2 ∧ c2 ≤ 9223372036854775807 := by
  obtain ⟨cs, rfl, hsz⟩ := okWide_struct Tryd.underlying53 hv
  obtain ⟨fuel, hf⟩ := h
  obtain ⟨n, A, A2, c, c2, es, ks, e, hr⟩ := rdv_sm hf
  obtain ⟨l⟩ := cs
  simp [Value.cells] at e
  subst e
  exact ⟨n, A, A2, c, c2, es, ks, rfl, hr⟩
end
end Go.Proofs.YtilfgafdkiaaaaaDoor
/- penstocklaw9.EventBatches returns true for every input and leaves it as it was; the card is tied to the program's text. No condition beyond the card's own: utf8's two tables lie as the library lays them. -/
namespace Go.Proofs.YtilfgafdkiaaaaaDoor.eventBatches
open Go.RowKit


/-! The row's step, by the guide's shell. -/
open Go.ChangeShapes Go.WideShapes Go.ChangeAt
theorem own : ownKnob Tryd.prog.godebug = none := by kernel_rfl
theorem laidOut : laidOutB Tryd.prog = true := by kernel_rfl
set_option maxRecDepth 100000 in
theorem lifted (os : Os) (started : os.Started) (H : Type) (enc : TypeId × Value → H) :
    ReturnsInHanded {} Tryd.checked os 7 .any (fun w args => (Rows.eventBatchesSpec.pre enc Tryd.prog Tryd.f7 [] false w args ∧ laidMetH Tryd.prog Rows.eventBatchesRow.laid w) ∧ sizedMet enc Tryd.prog Tryd.f7 (OpenSpec.ofChange Rows.eventBatchesSpec) false w args) (Rows.eventBatchesSpec.post enc Tryd.prog Tryd.f7 false true false false) := by
  refine returnsInHanded_of_change_and (C := Tryd.checked) (X := fun w _ => laidMetH Tryd.prog Rows.eventBatchesRow.laid w) (fun _ _ _ hh h => h.of_heap hh) own started (by kernel_rfl) Tryd.func7
    (ChangeSpec.witness_shaped (enc := enc) (C := Tryd.checked) (os := os) (X := fun w _ => laidMetH Tryd.prog Rows.eventBatchesRow.laid w) false (World.laidAll Tryd.prog os Rows.eventBatchesRow.laid) #[.agg #[.string ByteArray.empty, .slice none 0 0], .slice none 0 0] 8 (World.laidAll_os _ _ _)
      (World.shaped_of_ZipB (by kernel_rfl) (by kernel_rfl)) (by kernel_rfl) (by kernel_rfl) (by kernel_rfl)
      (by rw [MakeChecks.laidMetH_plain _ _ _ (by kernel_rfl)]; exact laidMet_laidAll _ (by kernel_rfl) (by kernel_rfl))) ?_
  intro W base args ds gs before hval0 hW _ _ hL _
  have hval : ∀ (j : Nat) t v, Tryd.f7.params[j]? = some t → args[j]? = some v → Value.okWide Tryd.prog W .any base t v := hval0
  have hW' := hW
  obtain ⟨p, q, hA0, hV, rfl, hfz, hnd⟩ := hW
  have hA : DataW.TrodAll enc Tryd.prog W 0 (fun _ => true) true Tryd.f7.params.toList args.toList ds p := hA0
  rw [Tryd.params7] at hA hval
  obtain ⟨v0, vs0, d0, ds0, p0, q0, hargs, rfl, rfl, h0, r0⟩ := trodAll_cons hA
  obtain ⟨v1, vs1, d1, ds1, p1, q1, rfl, rfl, rfl, h1, r1⟩ := trodAll_cons r0
  obtain ⟨rfl, rfl, rfl⟩ := trodAll_nil r1
  obtain rfl : args = #[v0, v1] := by cases args; simp_all
  obtain ⟨rfl, rfl⟩ := trodVars_none hV
  have lt0 : ∀ x ∈ p0, x.block < W.heap.size := by obtain ⟨m, hm⟩ := h0; exact DataW.trod_lt m _ _ _ hm
  have lt1 : ∀ x ∈ p1, x.block < W.heap.size := by obtain ⟨m, hm⟩ := h1; exact DataW.trod_lt m _ _ _ hm
  obtain ⟨key, A, c, ps, rfl, hk, hin, ho, hx⟩ := in_batch (hval 0 _ _ rfl rfl) h0
  obtain ⟨Al, c8, l, rfl, hsl, hcap, hc8⟩ := in_bytes (hval 1 _ _ rfl rfl) h1
  have hT : Tabs W := tabs_of_laid (by rw [MakeChecks.laidMetH_plain _ _ _ (by kernel_rfl)] at hL; exact hL)
  clear hA0 hval0
  refine (eventBatches_walk key ps A c l Al c8 W hk hin ho hx hsl hcap hc8 hT).mono fun e W' ⟨he, hg⟩ => ?_
  have bel : Below W.heap.size W W' := hg
  subst he
  exact ⟨_, rfl, _, _, _, [], _, [], hW', trodAll_mk1 (shut_bool Tryd.underlying4 _), (trodAll_cons_mk (Below.trod laidOut (by kernel_rfl) (of_decide_eq_true (by kernel_rfl)) h0 bel lt0) (trodAll_cons_mk (Below.trod laidOut (by kernel_rfl) (of_decide_eq_true (by kernel_rfl)) h1 bel lt1) (trodAll_mk0))), rfl, bel.frame _, fun h => by cases h⟩

theorem over : Rows.eventBatchesRow.holds Tryd.pinned (OpenSpec.ofChange Rows.eventBatchesSpec) :=
  OpenClaim.holds_of_wide 7 Tryd.f7 rfl rfl rfl rfl rfl rfl rfl ⟨rfl, rfl, rfl, rfl, rfl⟩ rfl rfl rfl rfl rfl (by kernel_rfl) Tryd.func7 (by kernel_rfl)
    (of_decide_eq_true (by kernel_rfl)) (by unfold Func.isWrapper; first | (rw [if_pos (by decide +kernel)]; kernel_rfl) | (rw [if_neg (by decide +kernel)]; exact ⟨rfl, rfl⟩))
    (fun os started H enc _ => lifted os started H enc)

/-- The card. -/
theorem proved : Rows.EventBatchesCardSaid :=
  Claim7.holds_tied_plain_at .later [] _ _ _ _ over (fun _ h => by cases h) (by kernel_rfl) (fun _ h => by cases h) eventBatches_row_tie rfl ⟨rfl, rfl⟩ (by kernel_rfl) rfl
    (fun f fn hf hfn => by
      obtain rfl : f = 7 := Option.some.inj ((show Tryd.prog.funcNamed "penstock/penstocklaw9.EventBatches" = some 7 by kernel_rfl).symm.trans hf) |>.symm
      obtain rfl : fn = Tryd.f7 := (Option.some.inj (Tryd.func7.symm.trans hfn)).symm
      exact ⟨by kernel_rfl, fun j t ht => by
        have hall : (Tryd.f7.params.toList.all fun u => !Tryd.prog.wantsStandIn u) = true := by kernel_rfl
        have hm : t ∈ Tryd.f7.params.toList := by simpa using Array.mem_of_getElem? ht
        exact (show Tryd.prog.wantsStandIn t = false by simpa using List.all_eq_true.1 hall t hm)⟩)
    (by kernel_rfl)
#print axioms proved
end Go.Proofs.YtilfgafdkiaaaaaDoor.eventBatches

/- penstockref7.Make: what it answers: the same list as event.Make. Conditions: lengths and numbers so small that nothing wraps. -/
import Derived.Test.YtgoodlbkjciloaaMake
namespace Go.Proofs.Ytgoodlbkjciloaa
open Go.RowKit

set_option maxHeartbeats 2000000 in
theorem refMake_any (key : ByteArray) (ps : List PutM) (A A2 : Option Addr) (c c2 B : Nat) (firsts : List Int) (st : St) (ix : Int) (w : World) (hB : B ≤ w.heap.size)
    (hl : ps.length ≤ 9223372036854775807) (_hl2 : firsts.length ≤ 9223372036854775807) (hn : evCount ps ≤ 1099511627776)
    (hf : ∀ f ∈ firsts, -1099511627776 ≤ f ∧ f ≤ 1099511627776) (hix : -1099511627776 ≤ ix ∧ ix ≤ 1099511627776)
    (hs : PutsIn w B A ps) (hs2 : Sl intC 1 w B A2 firsts) :
    Calls Try.prog 7 #[.agg #[.string key, .slice A ps.length c], .slice A2 firsts.length c2, .agg #[.int .i64 st.wall, .int .i64 st.logic, .int .i64 st.node], .int .i64 ix] w
      (RetEvs w (makeFrom firsts st 0 ix ps)) := by
  go_enter Try.func7, Try.ntmps7
  go_wp2_with fail
  generalize hW0 : (w.alloc (.cells #[.string key, .slice A ps.length c] 24)).alloc (.cells #[.int .i64 st.wall, .int .i64 st.logic, .int .i64 st.node] 32) = W0
  have hz : w.heap.size + 1 < W0.heap.size := by rw [← hW0]; simp
  have hS0 : W0.cell? ⟨w.heap.size + 1, 0, none⟩ = some (.int .i64 st.wall) := by rw [← hW0]; simp
  have hS1 : W0.cell? ⟨w.heap.size + 1, 1, none⟩ = some (.int .i64 st.logic) := by rw [← hW0]; simp
  have hS2 : W0.cell? ⟨w.heap.size + 1, 2, none⟩ = some (.int .i64 st.node) := by rw [← hW0]; simp
  have hS3 : W0.cell? ⟨w.heap.size, 1, none⟩ = some (.slice A ps.length c) := by rw [← hW0]; simp
  have hG0 : G w W0 := by rw [← hW0]; exact (G.new _ _).alloc _
  clear hW0
  have q0 : ∀ w', G W0 w' → w'.cell? ⟨w.heap.size + 1, 0, none⟩ = some (.int .i64 st.wall) := fun w' h => (h.cell (by omega)).trans hS0
  have q1 : ∀ w', G W0 w' → w'.cell? ⟨w.heap.size + 1, 1, none⟩ = some (.int .i64 st.logic) := fun w' h => (h.cell (by omega)).trans hS1
  have q2 : ∀ w', G W0 w' → w'.cell? ⟨w.heap.size + 1, 2, none⟩ = some (.int .i64 st.node) := fun w' h => (h.cell (by omega)).trans hS2
  have q3 : ∀ w', G W0 w' → w'.cell? ⟨w.heap.size, 1, none⟩ = some (.slice A ps.length c) := fun w' h => (h.cell (by omega)).trans hS3
  clear hS0 hS1 hS2 hS3
  replace hs := hs.g hB hG0
  replace hs2 := hs2.g hB hG0
  go_loopw [9, 10] (fun v i wr => ∃ (k : Nat) (out : List Ev), k ≤ ps.length ∧ i = .int .i64 k ∧ Own wr W0.heap.size v out ∧ G W0 wr ∧ out.length + evCount (ps.drop k) ≤ 1099511627776 ∧ Hid (makeFrom firsts st 0 ix ps = out ++ makeFrom firsts st k (ix + out.length) (ps.drop k))) (fun _ i _ => ps.length - (intOf i).toNat)
  case atStart => exact ⟨0, [], Nat.zero_le _, rfl, Own.nil _ _, G.refl _, by simpa using hn, by simp [Hid]⟩
  case round =>
    obtain ⟨k, out, hk, rfl, hown, hg, hcnt, hh⟩ := hrel
    by_cases hlt : k < ps.length
    · obtain ⟨p, hp⟩ : ∃ p, ps[k]? = some p := ⟨_, List.getElem?_eq_getElem hlt⟩
      obtain ⟨sm, pe, pA, pc, dat⟩ := p
      obtain ⟨b, o, rfl, hbB, hcells⟩ := hs.1.get hp
      have hpm := List.mem_of_getElem? hp
      have hcp : out.length + dat.length + evCount (ps.drop (k + 1)) ≤ 1099511627776 := by rw [evCount_drop ps k _ hp] at hcnt; simpa [Nat.add_assoc] using hcnt
      have hfd := Lib.hid (makeFrom_drop firsts st (ix + out.length) ps k _ hp)
      clear hcnt
      have hdat : ∀ w', G W0 w' → Sl strC 1 w' B pA dat := fun w' h => (hs.2 _ hpm).g (by have := hG0.size; omega) h
      have hc0 : ∀ w', G W0 w' → w'.cell? ⟨b, o + k * 3, none⟩ = some (.string sm) := fun w' h => (h.cell (by have := hG0.size; omega)).trans (hcells 0 _ rfl)
      have hc2 : ∀ w', G W0 w' → w'.cell? ⟨b, o + k * 3 + 2, none⟩ = some (.slice pA dat.length pc) := fun w' h => (h.cell (by have := hG0.size; omega)).trans (hcells 2 _ rfl)
      clear hcells hs hp
      by_cases hkf : k < firsts.length
      · obtain ⟨f, hf1⟩ : ∃ f, firsts[k]? = some f := ⟨_, List.getElem?_eq_getElem hkf⟩
        obtain ⟨b2, o2, rfl, hb2, hcf⟩ := hs2.int hf1
        replace hcf := (hg.cell (by have := hG0.size; omega)).trans hcf
        obtain ⟨hf2, hf3⟩ := hf f (List.mem_of_getElem? hf1)
        replace hf1 := Lib.hid hf1
        clear hf
        go_wp2_with fail
        obtain ⟨wo, rfl⟩ : ∃ wo : World, wo = wr := ⟨_, rfl⟩
        go_loopw [9, 12] (fun v i wr => ∃ (j : Nat) (o2 : List Ev), j ≤ dat.length ∧ i = .int .i64 j ∧ Own wr W0.heap.size v o2 ∧ G W0 wr ∧ o2.length = out.length + j ∧ Hid (o2 = out ++ (makePut ⟨sm, pe, pA, pc, dat⟩ f 1 st (ix + out.length)).take j)) (fun _ i _ => dat.length - (intOf i).toNat)
        case atStart => exact ⟨0, out, Nat.zero_le _, rfl, hown, hg, rfl, by simp [Hid]⟩
        case round =>
          obtain ⟨j, o2, hj, rfl, hown2, hg2, hlen2, hh2⟩ := hrel
          obtain ⟨Ao, co, rfl, _⟩ := hown2.sl
          have hle2 : o2.length ≤ out.length + dat.length := by omega
          replace hlen2 := Lib.hid hlen2
          by_cases hjl : j < dat.length
          · obtain ⟨d, hd⟩ : ∃ d, dat[j]? = some d := ⟨_, List.getElem?_eq_getElem hjl⟩
            obtain ⟨bd, od, rfl, hbd, _⟩ := (hdat wr hg2).str hd
            have hcd : ∀ w', G W0 w' → w'.cell? ⟨bd, od + j, none⟩ = some (.string d) := fun w' h => by
              obtain ⟨bd', od', e, _, hcd⟩ := (hdat w' h).str hd
              cases e
              exact hcd
            replace hd := Lib.hid hd
            clear hdat
            go_wp2_with fail
            have hwr : IntKind.i64.wrap (ix + ↑o2.length) = ix + ↑o2.length := IntWalk.i64_in _ (by omega)
            go_region_held3 (fun w' => G W0 w') (first | exact hg2.drew | exact G.alloc (by assumption) _ | exact hkeep.g (hg2.alloc _).drew | fail) (first | (refine step_append_ev _ rfl (.tmp 47) (.tmp 70) rfl W0.heap.size _ o2 rfl (hown2.g (G.new wr _).drew) ⟨sm, f + j, d, st, ix + o2.length⟩ _ 1 rfl (blk_new wr _ _) (by clear hwr; omega) (by clear hwr; have := hg2.size; simp; omega) ?_; intro v' w' hown' hkeep))
            clear hwr
            go_wp2_with fail
            go_roundw
            case rel =>
              refine ⟨j + 1, _, by omega, by go_num, hown', hkeep.g (hg2.alloc _).drew, by simp [hlen2.out]; omega, ?_⟩
              unfold Hid
              rw [makePut_succ _ _ _ _ _ j d hd.out, ← List.append_assoc, ← hh2.out, hlen2.out]
              congr 3
              simp
              try omega
            case measure => simp [intOf]; omega
          · go_wp2_with fail
            go_roundw
            case rel =>
              have hj2 : j = dat.length := by omega
              have ho2 : o2 = out ++ makePut ⟨sm, pe, pA, pc, dat⟩ f 1 st (ix + out.length) := by
                rw [hh2.out, List.take_of_length_le (by rw [makePut_length]; simp; omega)]
              refine ⟨k + 1, o2, by omega, by go_num, hown2, hg2, by rw [hlen2.out]; omega, ?_⟩
              unfold Hid
              rw [hh.out, hfd.out, ho2, List.append_assoc, List.length_append, makePut_length]
              rw [List.getD_eq_getElem?_getD, hf1.out, Option.getD_some, if_pos hkf]
              congr 3
              simp; omega
            case measure => simp [intOf]; omega
      · go_wp2_with fail
        obtain ⟨wo, rfl⟩ : ∃ wo : World, wo = wr := ⟨_, rfl⟩
        go_loopw [9, 12] (fun v i wr => ∃ (j : Nat) (o2 : List Ev), j ≤ dat.length ∧ i = .int .i64 j ∧ Own wr W0.heap.size v o2 ∧ G W0 wr ∧ o2.length = out.length + j ∧ Hid (o2 = out ++ (makePut ⟨sm, pe, pA, pc, dat⟩ 0 0 st (ix + out.length)).take j)) (fun _ i _ => dat.length - (intOf i).toNat)
        case atStart => exact ⟨0, out, Nat.zero_le _, rfl, hown, hg, rfl, by simp [Hid]⟩
        case round =>
          obtain ⟨j, o2, hj, rfl, hown2, hg2, hlen2, hh2⟩ := hrel
          obtain ⟨Ao, co, rfl, _⟩ := hown2.sl
          have hle2 : o2.length ≤ out.length + dat.length := by omega
          replace hlen2 := Lib.hid hlen2
          by_cases hjl : j < dat.length
          · obtain ⟨d, hd⟩ : ∃ d, dat[j]? = some d := ⟨_, List.getElem?_eq_getElem hjl⟩
            obtain ⟨bd, od, rfl, hbd, _⟩ := (hdat wr hg2).str hd
            have hcd : ∀ w', G W0 w' → w'.cell? ⟨bd, od + j, none⟩ = some (.string d) := fun w' h => by
              obtain ⟨bd', od', e, _, hcd⟩ := (hdat w' h).str hd
              cases e
              exact hcd
            replace hd := Lib.hid hd
            clear hdat
            go_wp2_with fail
            have hwr : IntKind.i64.wrap (ix + ↑o2.length) = ix + ↑o2.length := IntWalk.i64_in _ (by omega)
            go_region_held3 (fun w' => G W0 w') (first | exact hg2.drew | exact G.alloc (by assumption) _ | exact hkeep.g (hg2.alloc _).drew | fail) (first | (refine step_append_ev _ rfl (.tmp 47) (.tmp 70) rfl W0.heap.size _ o2 rfl (hown2.g (G.new wr _).drew) ⟨sm, 0, d, st, ix + o2.length⟩ _ 1 rfl (blk_new wr _ _) (by clear hwr; omega) (by clear hwr; have := hg2.size; simp; omega) ?_; intro v' w' hown' hkeep))
            clear hwr
            go_wp2_with fail
            go_roundw
            case rel =>
              refine ⟨j + 1, _, by omega, by go_num, hown', hkeep.g (hg2.alloc _).drew, by simp [hlen2.out]; omega, ?_⟩
              unfold Hid
              rw [makePut_succ _ _ _ _ _ j d hd.out, ← List.append_assoc, ← hh2.out, hlen2.out]
              congr 3
              simp
              try omega
            case measure => simp [intOf]; omega
          · go_wp2_with fail
            go_roundw
            case rel =>
              have hj2 : j = dat.length := by omega
              have ho2 : o2 = out ++ makePut ⟨sm, pe, pA, pc, dat⟩ 0 0 st (ix + out.length) := by
                rw [hh2.out, List.take_of_length_le (by rw [makePut_length]; simp; omega)]
              refine ⟨k + 1, o2, by omega, by go_num, hown2, hg2, by rw [hlen2.out]; omega, ?_⟩
              unfold Hid
              rw [hh.out, hfd.out, ho2, List.append_assoc, List.length_append, makePut_length]
              rw [List.getD_eq_getElem?_getD, List.getElem?_eq_none (by omega), Option.getD_none, if_neg hkf]
              congr 3
              simp; omega
            case measure => simp [intOf]; omega
    · go_wp2_with fail
      go_ret
      have he : makeFrom firsts st 0 ix ps = out := by rw [hh.out, List.drop_eq_nil_of_le (by omega)]; simp [makeFrom]
      exact ⟨u9, rfl, he ▸ hown.mono hG0.size, hG0.trans hg⟩
end Go.Proofs.Ytgoodlbkjciloaa

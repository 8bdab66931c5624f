/- penstocklaw20's awake. Condition: the decoder's tables lie as the library lays them. -/
import Derived.Test.YthhhobfdlgmjlaaDoorFeedTwinsQFeedTwo
import Derived.Test.YthhhobfdlgmjlaaDoorM47FeedTwo
namespace Go.Proofs.YthhhobfdlgmjlaaDoor
open Go.RowKit

def evA20 : Ev := ⟨⟨#[97]⟩, 1, ⟨#[]⟩, ⟨5, 0, 2⟩, 0⟩
theorem st1_ok : patOk st1 = true := by
  rw [patOk_of (P := [star]) (b := false) (by decide +kernel) (by decide +kernel) (show parseL (runesL st1) = ([star], false) by kernel_rfl)]
  rfl
theorem st1_a : matchB st1 ⟨#[97]⟩ = true := match_st1 (by decide +kernel)
theorem first20 (L : List LogM) (hL : ∀ y, inLogs L y ↔ y = evA20) (out : List Ev) (h : IsFirst (mergeF L ⟨9, 0, 0⟩ cu0) 10 out) : out = [evA20] := by
  refine h.unique (b := [evA20]) ?_
  have hm : ∀ y, mergeF L ⟨9, 0, 0⟩ cu0 y ↔ y ∈ [evA20] := by
    intro y
    simp only [mergeF, List.mem_singleton, hL]
    constructor
    · rintro ⟨h, _⟩; exact h
    · rintro rfl
      exact ⟨rfl, by decide +kernel⟩
  exact ⟨by simp, fun o ho => (hm o).2 ho, fun y hy => .inl ((hm y).1 hy), .inl (by simp), fun _ y hy => (hm y).1 hy⟩
theorem TabTo.all {ls : List LogM} {xs : List St} {off : Nat} {ps : List PeerM} (h : TabTo ls xs off ls.length ps) {Q : List Ev → Prop} (h0 : Q []) (hQ : ∀ l ∈ ls, Q l.es) : ∀ p ∈ ps, Q p.es := by
  intro p hp
  obtain ⟨i, hi⟩ := List.getElem?_of_mem hp
  rcases Nat.lt_or_ge i off with h1 | h1
  · rw [h.first i h1] at hi
    cases hi
    exact h0
  · obtain ⟨k, rfl⟩ : ∃ k, i = k + off := ⟨i - off, by omega⟩
    have hk : k < ls.length := by
      have := (List.getElem?_eq_some_iff.1 hi).1
      have := h.len
      omega
    obtain ⟨p', hp', he, _⟩ := h.told k ls[k] (List.getElem?_eq_getElem hk) hk
    rw [hp'] at hi
    cases hi
    rw [he]
    exact hQ _ (List.getElem_mem hk)
theorem made_L {ls : List LogM} {xs : List St} {ps : List PeerM} (h : TabTo ls xs 2 ls.length ps) (A : Option Addr) (c : Nat) (own : List Ev) (y : Ev) : inLogs (⟨A, c, own⟩ :: ls) y ↔ TabEvs ps own y := by
  rw [← tab_logs (A := A) (c := c) (tl := ls) h.evs.symm y]
  unfold inLogs
  constructor
  · rintro ⟨l, hl, hy⟩
    rcases List.mem_cons.1 hl with rfl | hl
    · exact ⟨_, List.mem_append.2 (.inr (by simp)), hy⟩
    · exact ⟨l, List.mem_append.2 (.inl hl), hy⟩
  · rintro ⟨l, hl, hy⟩
    rcases List.mem_append.1 hl with hl | hl
    · exact ⟨l, List.mem_cons.2 (.inr hl), hy⟩
    · rw [List.mem_singleton] at hl
      subst hl
      exact ⟨_, List.mem_cons.2 (.inl rfl), hy⟩
/-- The one log of awake, the one mark. -/
def lsA (b : Nat) : List LogM := [⟨some ⟨b, 0, none⟩, 1, [evA20]⟩]
def xsA : List St := [⟨9, 0, 0⟩]
/-- What made answers of them. -/
theorem madeA (w : World) : Calls Tryd.prog 11 #[.slice (some ⟨w.heap.size + 1, 0, none⟩) 1 1, .slice (some ⟨w.heap.size + 1 + 1, 0, none⟩) 1 1] (((w.alloc (.cells evA20.cells.toArray 32)).alloc (.cells #[.slice (some ⟨w.heap.size, 0, none⟩) 1 1] 24)).alloc (.cells #[.int .i64 9, .int .i64 0, .int .i64 0] 26))
    (MadePost (lsA w.heap.size) xsA (((w.alloc (.cells evA20.cells.toArray 32)).alloc (.cells #[.slice (some ⟨w.heap.size, 0, none⟩) 1 1] 24)).alloc (.cells #[.int .i64 9, .int .i64 0, .int .i64 0] 26))) :=
  made_any (lsA w.heap.size) (some ⟨w.heap.size + 1, 0, none⟩) 1 (w.heap.size + 3) xsA (some ⟨w.heap.size + 1 + 1, 0, none⟩) 1 _ (by simp) (by simp [lsA]) (by simp [lsA])
    ⟨Sl.of_blk LogM.cells_len _ ((G.new _ _).blk (blk_new' _ _ _ _ (by simp))) rfl (by omega), fun l hl => by
      simp [lsA] at hl
      subst hl
      exact ⟨Sl.of_blk Ev.cells_len _ (((G.new _ _).alloc _).blk (blk_new w _ _)) rfl (by omega), by simp, by simp⟩⟩
    (by simp [xsA]) (Sl.of_blk St.cells_len _ (blk_new' _ _ _ _ (by simp)) rfl (by omega))
/-- What Poll answers of that table. -/
theorem pollA {w : World} {base T g c b : Nat} {ps : List PeerM} (ht : TabAt 93 98 w base T g c ps) (hp : TabTo (lsA b) xsA 2 1 ps) (cx cy cz ci : Int) (cs p : ByteArray) (max : Int) (hps : p.size ≤ 1073741824) (hT : Tabs w) (hok : pollOk p ⟨⟨cx, cy, cz⟩, ci, cs⟩ max = true) :
    Calls Tryd.prog 12 #[.pointer (some ⟨T, 0, none⟩), .slice none 0 0, .agg #[.int .i64 9, .int .i64 0, .int .i64 0], .agg #[.int .i64 cx, .int .i64 cy, .int .i64 cz, .int .i64 ci, .string cs], .string p, .int .i64 max] w
      (PollPost (mergeF (⟨none, 0, []⟩ :: lsA b) ⟨9, 0, 0⟩ ⟨⟨cx, cy, cz⟩, ci, cs⟩) p ⟨⟨cx, cy, cz⟩, ci, cs⟩ max w) := by
  have hp' : TabTo (lsA b) xsA 2 (lsA b).length ps := hp
  have hm : wmOf ⟨9, 0, 0⟩ ((ps.drop 2).map (·.mark)) = ⟨9, 0, 0⟩ := by
    rw [hp'.marks]
    show wmOf ⟨9, 0, 0⟩ ((List.range 1).map (mkOf xsA)) = ⟨9, 0, 0⟩
    decide +kernel
  have := poll_any ht (by rw [hp'.len]; simp [lsA]) (hp'.all (Q := fun es => es.length ≤ 8000) (by simp) (by simp [lsA])) (hp'.all (Q := fun es => ∀ x ∈ es, x.stream.size ≤ 1073741824) (by simp) (by simp [lsA, evA20]; decide))
    [] none 0 w.heap.size (Nat.le_refl _) Sl.nil (by simp) (by simp) (by omega) (by simp) 9 0 0 cx cy cz ci cs p max hps hT hok (⟨none, 0, []⟩ :: lsA b) (made_L hp' _ _ _)
  rwa [hm] at this
theorem logsA (b : Nat) (y : Ev) : inLogs (⟨none, 0, []⟩ :: lsA b) y ↔ y = evA20 := by
  unfold inLogs lsA
  constructor
  · rintro ⟨l, hl, hy⟩
    simp at hl
    rcases hl with rfl | rfl
    · cases hy
    · simpa using hy
  · rintro rfl
    exact ⟨⟨some ⟨b, 0, none⟩, 1, [evA20]⟩, by simp, by simp⟩
set_option maxRecDepth 100000 in
set_option maxHeartbeats 2000000 in
theorem awake20_any (w : World) (hT : Tabs w) : Calls Tryd.prog 9 #[] w fun e w' => e = .returned (.bool true) ∧ G w w' := by
  have hm := madeA w
  replace hT := Lib.hid hT
  replace hm := Lib.hid hm
  go_enter Tryd.func9, Tryd.ntmps9
  go_wp2_with fail
  refine Calls.mono hm.out ?_
  rintro e w1 ⟨T, g, c, T2, g2, c2, ps, ms, rfl, ht, _, hp, _, hg1⟩
  have hg01 : G w w1 := (((G.new w _).alloc _).alloc _).trans hg1
  have hpo := pollA ht (show TabTo (lsA w.heap.size) xsA 2 1 ps from hp) 0 0 0 0 ⟨#[]⟩ st1 10 (by decide) (hT.out.g hg01) (by unfold pollOk; rw [st1_ok]; rfl)
  clear hm ht hp hg1
  replace hpo := Lib.hid hpo
  go_wp2_with fail
  refine Calls.mono hpo.out ?_
  rintro e w2 ⟨out, A, m, hf, he, hown, hg2⟩
  obtain rfl := first20 _ (logsA _) out hf
  have e1 : onlyL st1 [evA20] = [evA20] := by unfold onlyL; simp [evA20, st1_a]
  rw [e1] at he hown
  have he' : e = .returned (.tuple #[.slice A 1 m, .agg #[.int .i64 5, .int .i64 0, .int .i64 2, .int .i64 0, .string ⟨#[97]⟩], .int .i64 0]) := he
  subst he'
  clear he hf
  obtain ⟨A', c', e3, _, _, hsl⟩ := OwnL.sl Ev.cells_len hown
  cases e3
  obtain ⟨b, o, rfl, hb, _, _, _, c3, c4, c5, _⟩ := hsl.ev (k := 0) rfl
  simp only [evA20, Nat.zero_mul, Nat.add_zero] at c3 c4 c5
  have hgw2 := hg01.trans hg2
  have hnq := @st_eql
  have d3 : ∀ x, (w2.alloc x).cell? ⟨b, o + 3, none⟩ = some (.int .i64 5) := fun x => ((G.new w2 x).cell (by omega)).trans c3
  have d4 : ∀ x, (w2.alloc x).cell? ⟨b, o + 3 + 1, none⟩ = some (.int .i64 0) := fun x => ((G.new w2 x).cell (by omega)).trans c4
  have d5 : ∀ x, (w2.alloc x).cell? ⟨b, o + 3 + 2, none⟩ = some (.int .i64 2) := fun x => ((G.new w2 x).cell (by omega)).trans c5
  clear c3 c4 c5 hown hsl hpo hg2
  go_wp2_with fail
  go_quiet (fail)
  go_wp2_with fail
  go_ret
  exact ⟨rfl, (hgw2.alloc _).drewN _⟩
end Go.Proofs.YthhhobfdlgmjlaaDoor

/- Several texts in one: RefAll, GlobTexts, FeedAwake. -/
import Derived.Test.YthhhobfdlgmjlaaDoorAllQWholeRow
import Derived.Test.YthhhobfdlgmjlaaDoorM40WholeRow
import Derived.Test.YthhhobfdlgmjlaaDoorM41WholeRow
import Derived.Test.YthhhobfdlgmjlaaDoorM39WholeRow
/- penstockref1.Valid, Count: what they answer. Condition: the length is at most 2^30. -/
namespace Go.Proofs.YthhhobfdlgmjlaaDoor
open Go.RowKit

section
variable {w w1 : World} {B : Nat} {A : Option Addr} {l : List UInt8} {k : Nat} {c : Ck}
theorem Sl.ruG (h : Sl Ru.cells 4 w1 B A (allL l (cks l).length)) (hB : B ≤ w1.heap.size) (hc : (cks l)[k]? = some c) :
    ∃ b o, A = some ⟨b, o, none⟩ ∧ b < B ∧ (∀ w', G w1 w' → w'.cell? ⟨b, o + k * 4, none⟩ = some (.int .i32 c.r)) ∧ (∀ w', G w1 w' → w'.cell? ⟨b, o + k * 4 + 1, none⟩ = some (.int .i64 (off l k)))
      ∧ (∀ w', G w1 w' → w'.cell? ⟨b, o + k * 4 + 2, none⟩ = some (.int .i64 (off l (k + 1)))) ∧ ∀ w', G w1 w' → w'.cell? ⟨b, o + k * 4 + 3, none⟩ = some (.bool c.bad) := by
  have hk : k < (cks l).length := (List.getElem?_eq_some_iff.1 hc).1
  have hx := allL_get l (cks l).length k hk
  rw [if_pos hk, rAt_eq hc, badAt_eq hc] at hx
  obtain ⟨b, o, e, hb, h2⟩ := h.get hx
  have hlt : b < w1.heap.size := by omega
  refine ⟨b, o, e, hb, fun w' hg => (hg.cell hlt).trans ?_, fun w' hg => (hg.cell hlt).trans ?_, fun w' hg => (hg.cell hlt).trans ?_, fun w' hg => (hg.cell hlt).trans ?_⟩
  · exact h2 0 _ rfl
  · exact h2 1 _ rfl
  · exact h2 2 _ rfl
  · exact h2 3 _ rfl
end
theorem validB_not {s : ByteArray} {k : Nat} {c : Ck} (h : (cks s.data.toList)[k]? = some c) (hb : c.bad = true) : validB s = false := by
  unfold validB
  rw [List.all_eq_false]
  exact ⟨c, List.mem_of_getElem? h, by rw [hb]; simp⟩
theorem validB_end {s : ByteArray} (h : ∀ (j : Nat) (c : Ck), (cks s.data.toList)[j]? = some c → c.bad = false) : validB s = true := by
  unfold validB
  rw [List.all_eq_true]
  intro c hc
  obtain ⟨j, hj⟩ := List.getElem?_of_mem hc
  rw [h j c hj]; rfl
/-- What held of the pieces ahead holds of one more. -/
theorem all_more {l : List Ck} {k : Nat} {c : Ck} {p : Ck → Prop} (h : ∀ (j : Nat) (c : Ck), j < k → l[j]? = some c → p c) (hc : l[k]? = some c) (hp : p c) : ∀ (j : Nat) (c : Ck), j < k + 1 → l[j]? = some c → p c := fun j c' hj h' => by
  rcases Nat.lt_or_ge j k with h1 | h1
  · exact h j c' h1 h'
  · obtain rfl : j = k := by omega
    rw [hc] at h'
    cases h'
    exact hp
set_option maxHeartbeats 1000000 in
theorem refValid_any (s : ByteArray) (w : World) (hs : s.size ≤ 1073741824) :
    Calls Tryd.prog 17 #[.string s] w fun e w' => e = .returned (.bool (validB s)) ∧ G w w' := by
  have hall := all_any s w hs
  have hl : (cks s.data.toList).length ≤ 1073741824 := Nat.le_trans (cks_length_le _) (by simpa using hs)
  go_enter Tryd.func17, Tryd.ntmps17
  go_wp2_with fail
  refine hall.mono ?_
  clear hall
  rintro e w1 ⟨A, c8, rfl, hsl, hg⟩
  go_wp2_with fail
  go_loop [4] (fun i => ∃ k : Nat, k ≤ (cks s.data.toList).length ∧ i = .int .i64 k ∧ Hid (∀ j c, j < k → (cks s.data.toList)[j]? = some c → c.bad = false)) (fun i => (cks s.data.toList).length - (intOf i).toNat)
  case atStart => exact ⟨0, Nat.zero_le _, rfl, by intro j c h; omega⟩
  case round =>
    obtain ⟨k, hk, rfl, hh⟩ := hrel
    by_cases hlt : k < (cks s.data.toList).length
    · obtain ⟨c, hc⟩ := piece_at hlt
      obtain ⟨b, o, rfl, hb, c0, c1, c2, c3⟩ := hsl.ruG (Nat.le_refl _) hc
      replace c3 := c3 _ (G.refl _)
      have n1 : (0 : Int) ≤ ↑k := by omega
      have n2 : (k : Int) < ↑(cks s.data.toList).length := by omega
      clear c0 c1 c2 hsl
      cases hbd : c.bad with
      | true =>
        have hf := validB_not hc hbd
        rw [hbd] at c3
        replace hf := Lib.hid hf
        replace hbd := Lib.hid hbd
        clear hc
        go_wp2_with fail
        go_ret
        exact ⟨by rw [hf.out]; rfl, hg⟩
      | false =>
        have hh2 := all_more hh.out hc hbd
        rw [hbd] at c3
        replace hh2 := Lib.hid hh2
        replace hbd := Lib.hid hbd
        clear hc
        go_wp2_with fail
        go_round
        case rel => exact ⟨k + 1, by omega, by go_num, hh2⟩
        case measure => (simp [intOf] <;> omega)
    · have hf : validB s = true := validB_end fun j c h => hh.out j c (by have := (List.getElem?_eq_some_iff.1 h).1; omega) h
      replace hf := Lib.hid hf
      clear hsl
      go_wp2_with fail
      go_ret
      exact ⟨by rw [hf.out]; rfl, hg⟩
end Go.Proofs.YthhhobfdlgmjlaaDoor
/- Texts as patterns; penstocklaw2.plain. Condition: a length that fits an int. -/
namespace Go.Proofs.YthhhobfdlgmjlaaDoor
open Go.RowKit

/-- A byte that is a sign of patterns. -/
def signB (c : UInt8) : Bool := decide (c.toNat = 42) || (decide (c.toNat = 63) || (decide (c.toNat = 91) || decide (c.toNat = 92)))
def plainB (s : ByteArray) : Bool := s.data.toList.all fun c => !signB c
theorem plain_runes {s : ByteArray} (h : plainB s = true) : ∀ c ∈ runesL s, c ≠ 42 ∧ c ≠ 63 ∧ c ≠ 91 ∧ c ≠ 92 := by
  intro r hr
  obtain ⟨c, hc, rfl⟩ := List.mem_map.1 hr
  have hok := cks_ok _ c hc
  have hmem : ∀ b ∈ c.bs, b ∈ s.data.toList := by
    intro b hb
    rw [← flat_cks s.data.toList]
    exact List.mem_flatMap.2 ⟨c, hc, hb⟩
  have key : ∀ n, c.r = n → n < 128 → signB (UInt8.ofNat n) = false := by
    intro n hn hlt
    have h1 := hok.small (by omega)
    rw [hn] at h1
    unfold plainB at h
    rw [List.all_eq_true] at h
    have := h (UInt8.ofNat n) (hmem _ (by rw [h1]; simp))
    simpa using this
  refine ⟨fun h => ?_, fun h => ?_, fun h => ?_, fun h => ?_⟩
  all_goals
    have := key _ h (by omega)
    revert this
    decide
theorem parse_plain {s : ByteArray} (h : plainB s = true) : parseL (runesL s) = ((runesL s).map lit, false) := parse_lits _ (plain_runes h)
theorem goodS {s : ByteArray} (h : validB s = true) : goodL s.data.toList := (goodL_iff s).1 h
/-- Two texts that are UTF-8 have the same runes where they are the same. -/
theorem text_inj {s t : ByteArray} (hs : validB s = true) (ht : validB t = true) (h : runesL s = runesL t) : s = t := by
  have := runes_inj (goodS hs) (goodS ht) h
  rw [← strOf_self s, this, strOf_self]
theorem toList_ne {a b : ByteArray} (h : a ≠ b) : (a.toList == b.toList) = false := by
  rw [beq_eq_false_iff_ne, ByteArray.toList_eq, ByteArray.toList_eq]
  intro e
  exact h (by rw [← strOf_self a, e, strOf_self])
theorem toList_same (a : ByteArray) : (a.toList == a.toList) = true := by simp
theorem match_bad {p s : ByteArray} (h : validB s = false) : matchB p s = false := by unfold matchB; rw [h, Bool.and_false]; rfl
theorem patOk_parts {p : ByteArray} (h : patOk p = true) : validB p = true ∧ (cks p.data.toList).length ≤ 40 ∧ (parseL (runesL p)).2 = false := by
  unfold patOk at h
  rw [Bool.and_eq_true, Bool.and_eq_true] at h
  have h1 := of_decide_eq_true h.1.2
  exact ⟨h.1.1, by omega, by simpa using h.2⟩
/-- A plain text takes itself alone. -/
theorem match_plain {s t : ByteArray} (hp : plainB s = true) (ho : patOk s = true) (hv : validB t = true) : matchB s t = decide (s = t) := by
  obtain ⟨h1, h2, _⟩ := patOk_parts ho
  rw [matchB_of t h1 h2 (parse_plain hp), hv, Bool.true_and]
  by_cases h : s = t
  · subst h
    rw [decide_eq_true rfl]
    exact matchL_t ((Mt.lits _ _).2 rfl)
  · rw [decide_eq_false h]
    exact matchL_f fun hm => h (text_inj h1 hv ((Mt.lits _ _).1 hm).symm)
def st1 : ByteArray := ⟨#[42]⟩
def st2 : ByteArray := ⟨#[42, 42]⟩
theorem match_st1 {t : ByteArray} (hv : validB t = true) : matchB st1 t = true := by
  rw [matchB_of t (by decide +kernel) (by decide +kernel) (show parseL (runesL st1) = ([star], false) by kernel_rfl), hv, Bool.true_and]
  exact matchL_t (Mt.star _)
theorem match_st2 {t : ByteArray} (hv : validB t = true) : matchB st2 t = true := by
  rw [matchB_of t (by decide +kernel) (by decide +kernel) (show parseL (runesL st2) = ([star, star], false) by kernel_rfl), hv, Bool.true_and]
  exact matchL_t (.any _ _ [] _ rfl (Mt.star _))
end Go.Proofs.YthhhobfdlgmjlaaDoor
/- penstocklaw20's awake. Condition: the decoder's tables lie as the library lays them. -/
namespace Go.Proofs.YthhhobfdlgmjlaaDoor
open Go.RowKit

def evA20 : Ev := ⟨⟨#[97]⟩, 1, ⟨#[]⟩, ⟨5, 0, 2⟩, 0⟩
theorem st1_ok : patOk st1 = true := by
  rw [patOk_of (P := [star]) (b := false) (by decide +kernel) (by decide +kernel) (show parseL (runesL st1) = ([star], false) by kernel_rfl)]
  rfl
theorem st1_a : matchB st1 ⟨#[97]⟩ = true := match_st1 (by decide +kernel)
theorem first20 (L : List LogM) (hL : ∀ y, inLogs L y ↔ y = evA20) (out : List Ev) (h : IsFirst (mergeF L ⟨9, 0, 0⟩ cu0) 10 out) : out = [evA20] := by
  refine h.unique (b := [evA20]) ?_
  have hm : ∀ y, mergeF L ⟨9, 0, 0⟩ cu0 y ↔ y ∈ [evA20] := by
    intro y
    simp only [mergeF, List.mem_singleton, hL]
    constructor
    · rintro ⟨h, _⟩; exact h
    · rintro rfl
      exact ⟨rfl, by decide +kernel⟩
  exact ⟨by simp, fun o ho => (hm o).2 ho, fun y hy => .inl ((hm y).1 hy), .inl (by simp), fun _ y hy => (hm y).1 hy⟩
theorem TabTo.all {ls : List LogM} {xs : List St} {off : Nat} {ps : List PeerM} (h : TabTo ls xs off ls.length ps) {Q : List Ev → Prop} (h0 : Q []) (hQ : ∀ l ∈ ls, Q l.es) : ∀ p ∈ ps, Q p.es := by
  intro p hp
  obtain ⟨i, hi⟩ := List.getElem?_of_mem hp
  rcases Nat.lt_or_ge i off with h1 | h1
  · rw [h.first i h1] at hi
    cases hi
    exact h0
  · obtain ⟨k, rfl⟩ : ∃ k, i = k + off := ⟨i - off, by omega⟩
    have hk : k < ls.length := by
      have := (List.getElem?_eq_some_iff.1 hi).1
      have := h.len
      omega
    obtain ⟨p', hp', he, _⟩ := h.told k ls[k] (List.getElem?_eq_getElem hk) hk
    rw [hp'] at hi
    cases hi
    rw [he]
    exact hQ _ (List.getElem_mem hk)
theorem made_L {ls : List LogM} {xs : List St} {ps : List PeerM} (h : TabTo ls xs 2 ls.length ps) (A : Option Addr) (c : Nat) (own : List Ev) (y : Ev) : inLogs (⟨A, c, own⟩ :: ls) y ↔ TabEvs ps own y := by
  rw [← tab_logs (A := A) (c := c) (tl := ls) h.evs.symm y]
  unfold inLogs
  constructor
  · rintro ⟨l, hl, hy⟩
    rcases List.mem_cons.1 hl with rfl | hl
    · exact ⟨_, List.mem_append.2 (.inr (by simp)), hy⟩
    · exact ⟨l, List.mem_append.2 (.inl hl), hy⟩
  · rintro ⟨l, hl, hy⟩
    rcases List.mem_append.1 hl with hl | hl
    · exact ⟨l, List.mem_cons.2 (.inr hl), hy⟩
    · rw [List.mem_singleton] at hl
      subst hl
      exact ⟨_, List.mem_cons.2 (.inl rfl), hy⟩
/-- The one log of awake, the one mark. -/
def lsA (b : Nat) : List LogM := [⟨some ⟨b, 0, none⟩, 1, [evA20]⟩]
def xsA : List St := [⟨9, 0, 0⟩]
/-- What made answers of them. -/
theorem madeA (w : World) : Calls Tryd.prog 11 #[.slice (some ⟨w.heap.size + 1, 0, none⟩) 1 1, .slice (some ⟨w.heap.size + 1 + 1, 0, none⟩) 1 1] (((w.alloc (.cells evA20.cells.toArray 32)).alloc (.cells #[.slice (some ⟨w.heap.size, 0, none⟩) 1 1] 24)).alloc (.cells #[.int .i64 9, .int .i64 0, .int .i64 0] 26))
    (MadePost (lsA w.heap.size) xsA (((w.alloc (.cells evA20.cells.toArray 32)).alloc (.cells #[.slice (some ⟨w.heap.size, 0, none⟩) 1 1] 24)).alloc (.cells #[.int .i64 9, .int .i64 0, .int .i64 0] 26))) :=
  made_any (lsA w.heap.size) (some ⟨w.heap.size + 1, 0, none⟩) 1 (w.heap.size + 3) xsA (some ⟨w.heap.size + 1 + 1, 0, none⟩) 1 _ (by simp) (by simp [lsA]) (by simp [lsA])
    ⟨Sl.of_blk LogM.cells_len _ ((G.new _ _).blk (blk_new' _ _ _ _ (by simp))) rfl (by omega), fun l hl => by
      simp [lsA] at hl
      subst hl
      exact ⟨Sl.of_blk Ev.cells_len _ (((G.new _ _).alloc _).blk (blk_new w _ _)) rfl (by omega), by simp, by simp⟩⟩
    (by simp [xsA]) (Sl.of_blk St.cells_len _ (blk_new' _ _ _ _ (by simp)) rfl (by omega))
/-- What Poll answers of that table. -/
theorem pollA {w : World} {base T g c b : Nat} {ps : List PeerM} (ht : TabAt 93 98 w base T g c ps) (hp : TabTo (lsA b) xsA 2 1 ps) (cx cy cz ci : Int) (cs p : ByteArray) (max : Int) (hps : p.size ≤ 1073741824) (hT : Tabs w) (hok : pollOk p ⟨⟨cx, cy, cz⟩, ci, cs⟩ max = true) :
    Calls Tryd.prog 12 #[.pointer (some ⟨T, 0, none⟩), .slice none 0 0, .agg #[.int .i64 9, .int .i64 0, .int .i64 0], .agg #[.int .i64 cx, .int .i64 cy, .int .i64 cz, .int .i64 ci, .string cs], .string p, .int .i64 max] w
      (PollPost (mergeF (⟨none, 0, []⟩ :: lsA b) ⟨9, 0, 0⟩ ⟨⟨cx, cy, cz⟩, ci, cs⟩) p ⟨⟨cx, cy, cz⟩, ci, cs⟩ max w) := by
  have hp' : TabTo (lsA b) xsA 2 (lsA b).length ps := hp
  have hm : wmOf ⟨9, 0, 0⟩ ((ps.drop 2).map (·.mark)) = ⟨9, 0, 0⟩ := by
    rw [hp'.marks]
    show wmOf ⟨9, 0, 0⟩ ((List.range 1).map (mkOf xsA)) = ⟨9, 0, 0⟩
    decide +kernel
  have := poll_any ht (by rw [hp'.len]; simp [lsA]) (hp'.all (Q := fun es => es.length ≤ 8000) (by simp) (by simp [lsA])) (hp'.all (Q := fun es => ∀ x ∈ es, x.stream.size ≤ 1073741824) (by simp) (by simp [lsA, evA20]; decide))
    [] none 0 w.heap.size (Nat.le_refl _) Sl.nil (by simp) (by simp) (by omega) (by simp) 9 0 0 cx cy cz ci cs p max hps hT hok (⟨none, 0, []⟩ :: lsA b) (made_L hp' _ _ _)
  rwa [hm] at this
theorem logsA (b : Nat) (y : Ev) : inLogs (⟨none, 0, []⟩ :: lsA b) y ↔ y = evA20 := by
  unfold inLogs lsA
  constructor
  · rintro ⟨l, hl, hy⟩
    simp at hl
    rcases hl with rfl | rfl
    · cases hy
    · simpa using hy
  · rintro rfl
    exact ⟨⟨some ⟨b, 0, none⟩, 1, [evA20]⟩, by simp, by simp⟩
set_option maxRecDepth 100000 in
set_option maxHeartbeats 2000000 in
theorem awake20_any (w : World) (hT : Tabs w) : Calls Tryd.prog 9 #[] w fun e w' => e = .returned (.bool true) ∧ G w w' := by
  have hm := madeA w
  replace hT := Lib.hid hT
  replace hm := Lib.hid hm
  go_enter Tryd.func9, Tryd.ntmps9
  go_wp2_with fail
  refine Calls.mono hm.out ?_
  rintro e w1 ⟨T, g, c, T2, g2, c2, ps, ms, rfl, ht, _, hp, _, hg1⟩
  have hg01 : G w w1 := (((G.new w _).alloc _).alloc _).trans hg1
  have hpo := pollA ht (show TabTo (lsA w.heap.size) xsA 2 1 ps from hp) 0 0 0 0 ⟨#[]⟩ st1 10 (by decide) (hT.out.g hg01) (by unfold pollOk; rw [st1_ok]; rfl)
  clear hm ht hp hg1
  replace hpo := Lib.hid hpo
  go_wp2_with fail
  refine Calls.mono hpo.out ?_
  rintro e w2 ⟨out, A, m, hf, he, hown, hg2⟩
  obtain rfl := first20 _ (logsA _) out hf
  have e1 : onlyL st1 [evA20] = [evA20] := by unfold onlyL; simp [evA20, st1_a]
  rw [e1] at he hown
  have he' : e = .returned (.tuple #[.slice A 1 m, .agg #[.int .i64 5, .int .i64 0, .int .i64 2, .int .i64 0, .string ⟨#[97]⟩], .int .i64 0]) := he
  subst he'
  clear he hf
  obtain ⟨A', c', e3, _, _, hsl⟩ := OwnL.sl Ev.cells_len hown
  cases e3
  obtain ⟨b, o, rfl, hb, _, _, _, c3, c4, c5, _⟩ := hsl.ev (k := 0) rfl
  simp only [evA20, Nat.zero_mul, Nat.add_zero] at c3 c4 c5
  have hgw2 := hg01.trans hg2
  have hnq := @st_eql
  have d3 : ∀ x, (w2.alloc x).cell? ⟨b, o + 3, none⟩ = some (.int .i64 5) := fun x => ((G.new w2 x).cell (by omega)).trans c3
  have d4 : ∀ x, (w2.alloc x).cell? ⟨b, o + 3 + 1, none⟩ = some (.int .i64 0) := fun x => ((G.new w2 x).cell (by omega)).trans c4
  have d5 : ∀ x, (w2.alloc x).cell? ⟨b, o + 3 + 2, none⟩ = some (.int .i64 2) := fun x => ((G.new w2 x).cell (by omega)).trans c5
  clear c3 c4 c5 hown hsl hpo hg2
  go_wp2_with fail
  go_quiet (fail)
  go_wp2_with fail
  go_ret
  exact ⟨rfl, (hgw2.alloc _).drewN _⟩
end Go.Proofs.YthhhobfdlgmjlaaDoor

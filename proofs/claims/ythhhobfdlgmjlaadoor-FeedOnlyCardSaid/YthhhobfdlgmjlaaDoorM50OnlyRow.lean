/- Several texts in one: CkLaw, GlobTexts, FeedAwake. -/
import Derived.Test.YthhhobfdlgmjlaaDoorM49OnlyRow
import Derived.Test.YthhhobfdlgmjlaaDoorRefAllQOnlyRow
import Derived.Test.YthhhobfdlgmjlaaDoorFeedTwinsQOnlyRow
/- What a text's pieces are made of. Plain mathematics, no program. No condition. -/
namespace Go.Proofs.YthhhobfdlgmjlaaDoor
open Go.Lib

/-- A rune's bytes: itself, or none of them is a small one. -/
theorem bytes_big {r : Int} (h : 128 ≤ r) : ∀ b ∈ encodeRune r, 128 ≤ b.toNat := by
  have key : ∀ x ∈ encodeRuneZ r, 128 ≤ x ∧ x < 256 := by
    intro x hx
    refine ⟨?_, (encodeRuneZ_byte r x hx).2⟩
    by_cases h1 : r ≤ 2047
    · rw [encodeRuneZ_two h h1] at hx
      simp at hx
      omega
    · by_cases h2 : (2048 ≤ r ∧ r < 55296) ∨ (57343 < r ∧ r ≤ 65535)
      · rw [encodeRuneZ_three h2] at hx
        simp at hx
        omega
      · by_cases h3 : 65536 ≤ r ∧ r ≤ 1114111
        · rw [encodeRuneZ_four h3.1 h3.2] at hx
          simp at hx
          omega
        · rw [encodeRuneZ_bad (by omega)] at hx
          simp at hx
          omega
  intro b hb
  obtain ⟨x, hx, rfl⟩ := List.mem_map.1 hb
  have := key x hx
  simp
  omega
theorem encode_small {r : Nat} (h : r < 128) : encodeRune (r : Int) = [UInt8.ofNat r] := by
  unfold encodeRune
  rw [encodeRuneZ_one (by omega) (by omega)]
  simp
theorem Ck.ok.small {c : Ck} (h : c.ok) (hr : c.r < 128) : c.bs = [UInt8.ofNat c.r] := by
  rcases h with ⟨h, _⟩ | ⟨_, h, _⟩
  · unfold Ck.bad at h
    have := of_decide_eq_true h
    omega
  · rw [h, encode_small hr]
/-- A piece's bytes are small ones alone where it is one. -/
theorem Ck.ok.byte {c : Ck} (h : c.ok) {b : UInt8} (hb : b ∈ c.bs) : b.toNat = c.r ∧ c.bs = [b] ∨ 128 ≤ b.toNat := by
  by_cases hr : c.r < 128
  · have h1 := h.small hr
    rw [h1, List.mem_singleton] at hb
    subst hb
    left
    refine ⟨?_, h1⟩
    rw [UInt8.toNat_ofNat']
    omega
  · right
    rcases h with ⟨_, b', h, h2⟩ | ⟨_, h, _⟩
    · rw [h, List.mem_singleton] at hb
      subst hb
      exact h2
    · rw [h] at hb
      exact bytes_big (by omega) b hb
/-- Texts without a bad byte are their runes. -/
theorem bs_of_good {c : Ck} (h : c.ok) (hb : c.bad = false) : c.bs = encodeRune (c.r : Int) := by
  rcases h with ⟨h, _⟩ | ⟨_, h, _⟩
  · rw [hb] at h; cases h
  · exact h
theorem runes_inj {a b : List UInt8} (ha : goodL a) (hb : goodL b) (h : (cks a).map Ck.r = (cks b).map Ck.r) : a = b := by
  have key : ∀ (x y : List Ck), (∀ c ∈ x, c.ok ∧ c.bad = false) → (∀ c ∈ y, c.ok ∧ c.bad = false) → x.map Ck.r = y.map Ck.r → x = y := by
    intro x
    induction x with
    | nil =>
      intro y _ _ h
      cases y with
      | nil => rfl
      | cons c y => simp at h
    | cons c x ih =>
      intro y hx hy h
      cases y with
      | nil => simp at h
      | cons d y =>
        simp only [List.map_cons, List.cons.injEq] at h
        have h1 := bs_of_good (hx c (by simp)).1 (hx c (by simp)).2
        have h2 := bs_of_good (hy d (by simp)).1 (hy d (by simp)).2
        rw [ih y (fun z hz => hx z (by simp [hz])) (fun z hz => hy z (by simp [hz])) h.2]
        congr 1
        cases c; cases d
        simp only at h h1 h2
        rw [Ck.mk.injEq]
        exact ⟨by rw [h1, h2, h.1], h.1⟩
  have h1 := key (cks a) (cks b) (fun c hc => ⟨cks_ok a c hc, ha c hc⟩) (fun c hc => ⟨cks_ok b c hc, hb c hc⟩) h
  rw [← flat_cks a, ← flat_cks b, h1]
end Go.Proofs.YthhhobfdlgmjlaaDoor
/- Texts as patterns; penstocklaw2.plain. Condition: a length that fits an int. -/
namespace Go.Proofs.YthhhobfdlgmjlaaDoor
open Go.RowKit

/-- A byte that is a sign of patterns. -/
def signB (c : UInt8) : Bool := decide (c.toNat = 42) || (decide (c.toNat = 63) || (decide (c.toNat = 91) || decide (c.toNat = 92)))
def plainB (s : ByteArray) : Bool := s.data.toList.all fun c => !signB c
theorem plain_runes {s : ByteArray} (h : plainB s = true) : ∀ c ∈ runesL s, c ≠ 42 ∧ c ≠ 63 ∧ c ≠ 91 ∧ c ≠ 92 := by
  intro r hr
  obtain ⟨c, hc, rfl⟩ := List.mem_map.1 hr
  have hok := cks_ok _ c hc
  have hmem : ∀ b ∈ c.bs, b ∈ s.data.toList := by
    intro b hb
    rw [← flat_cks s.data.toList]
    exact List.mem_flatMap.2 ⟨c, hc, hb⟩
  have key : ∀ n, c.r = n → n < 128 → signB (UInt8.ofNat n) = false := by
    intro n hn hlt
    have h1 := hok.small (by omega)
    rw [hn] at h1
    unfold plainB at h
    rw [List.all_eq_true] at h
    have := h (UInt8.ofNat n) (hmem _ (by rw [h1]; simp))
    simpa using this
  refine ⟨fun h => ?_, fun h => ?_, fun h => ?_, fun h => ?_⟩
  all_goals
    have := key _ h (by omega)
    revert this
    decide
theorem parse_plain {s : ByteArray} (h : plainB s = true) : parseL (runesL s) = ((runesL s).map lit, false) := parse_lits _ (plain_runes h)
theorem goodS {s : ByteArray} (h : validB s = true) : goodL s.data.toList := (goodL_iff s).1 h
/-- Two texts that are UTF-8 have the same runes where they are the same. -/
theorem text_inj {s t : ByteArray} (hs : validB s = true) (ht : validB t = true) (h : runesL s = runesL t) : s = t := by
  have := runes_inj (goodS hs) (goodS ht) h
  rw [← strOf_self s, this, strOf_self]
theorem toList_ne {a b : ByteArray} (h : a ≠ b) : (a.toList == b.toList) = false := by
  rw [beq_eq_false_iff_ne, ByteArray.toList_eq, ByteArray.toList_eq]
  intro e
  exact h (by rw [← strOf_self a, e, strOf_self])
theorem toList_same (a : ByteArray) : (a.toList == a.toList) = true := by simp
theorem match_bad {p s : ByteArray} (h : validB s = false) : matchB p s = false := by unfold matchB; rw [h, Bool.and_false]; rfl
theorem patOk_parts {p : ByteArray} (h : patOk p = true) : validB p = true ∧ (cks p.data.toList).length ≤ 40 ∧ (parseL (runesL p)).2 = false := by
  unfold patOk at h
  rw [Bool.and_eq_true, Bool.and_eq_true] at h
  have h1 := of_decide_eq_true h.1.2
  exact ⟨h.1.1, by omega, by simpa using h.2⟩
/-- A plain text takes itself alone. -/
theorem match_plain {s t : ByteArray} (hp : plainB s = true) (ho : patOk s = true) (hv : validB t = true) : matchB s t = decide (s = t) := by
  obtain ⟨h1, h2, _⟩ := patOk_parts ho
  rw [matchB_of t h1 h2 (parse_plain hp), hv, Bool.true_and]
  by_cases h : s = t
  · subst h
    rw [decide_eq_true rfl]
    exact matchL_t ((Mt.lits _ _).2 rfl)
  · rw [decide_eq_false h]
    exact matchL_f fun hm => h (text_inj h1 hv ((Mt.lits _ _).1 hm).symm)
def st1 : ByteArray := ⟨#[42]⟩
def st2 : ByteArray := ⟨#[42, 42]⟩
theorem match_st1 {t : ByteArray} (hv : validB t = true) : matchB st1 t = true := by
  rw [matchB_of t (by decide +kernel) (by decide +kernel) (show parseL (runesL st1) = ([star], false) by kernel_rfl), hv, Bool.true_and]
  exact matchL_t (Mt.star _)
theorem match_st2 {t : ByteArray} (hv : validB t = true) : matchB st2 t = true := by
  rw [matchB_of t (by decide +kernel) (by decide +kernel) (show parseL (runesL st2) = ([star, star], false) by kernel_rfl), hv, Bool.true_and]
  exact matchL_t (.any _ _ [] _ rfl (Mt.star _))
end Go.Proofs.YthhhobfdlgmjlaaDoor
/- penstocklaw20's awake. Condition: the decoder's tables lie as the library lays them. -/
namespace Go.Proofs.YthhhobfdlgmjlaaDoor
open Go.RowKit

def evA20 : Ev := ⟨⟨#[97]⟩, 1, ⟨#[]⟩, ⟨5, 0, 2⟩, 0⟩
theorem st1_ok : patOk st1 = true := by
  rw [patOk_of (P := [star]) (b := false) (by decide +kernel) (by decide +kernel) (show parseL (runesL st1) = ([star], false) by kernel_rfl)]
  rfl
theorem st1_a : matchB st1 ⟨#[97]⟩ = true := match_st1 (by decide +kernel)
theorem first20 (L : List LogM) (hL : ∀ y, inLogs L y ↔ y = evA20) (out : List Ev) (h : IsFirst (mergeF L ⟨9, 0, 0⟩ cu0) 10 out) : out = [evA20] := by
  refine h.unique (b := [evA20]) ?_
  have hm : ∀ y, mergeF L ⟨9, 0, 0⟩ cu0 y ↔ y ∈ [evA20] := by
    intro y
    simp only [mergeF, List.mem_singleton, hL]
    constructor
    · rintro ⟨h, _⟩; exact h
    · rintro rfl
      exact ⟨rfl, by decide +kernel⟩
  exact ⟨by simp, fun o ho => (hm o).2 ho, fun y hy => .inl ((hm y).1 hy), .inl (by simp), fun _ y hy => (hm y).1 hy⟩
theorem TabTo.all {ls : List LogM} {xs : List St} {off : Nat} {ps : List PeerM} (h : TabTo ls xs off ls.length ps) {Q : List Ev → Prop} (h0 : Q []) (hQ : ∀ l ∈ ls, Q l.es) : ∀ p ∈ ps, Q p.es := by
  intro p hp
  obtain ⟨i, hi⟩ := List.getElem?_of_mem hp
  rcases Nat.lt_or_ge i off with h1 | h1
  · rw [h.first i h1] at hi
    cases hi
    exact h0
  · obtain ⟨k, rfl⟩ : ∃ k, i = k + off := ⟨i - off, by omega⟩
    have hk : k < ls.length := by
      have := (List.getElem?_eq_some_iff.1 hi).1
      have := h.len
      omega
    obtain ⟨p', hp', he, _⟩ := h.told k ls[k] (List.getElem?_eq_getElem hk) hk
    rw [hp'] at hi
    cases hi
    rw [he]
    exact hQ _ (List.getElem_mem hk)
theorem made_L {ls : List LogM} {xs : List St} {ps : List PeerM} (h : TabTo ls xs 2 ls.length ps) (A : Option Addr) (c : Nat) (own : List Ev) (y : Ev) : inLogs (⟨A, c, own⟩ :: ls) y ↔ TabEvs ps own y := by
  rw [← tab_logs (A := A) (c := c) (tl := ls) h.evs.symm y]
  unfold inLogs
  constructor
  · rintro ⟨l, hl, hy⟩
    rcases List.mem_cons.1 hl with rfl | hl
    · exact ⟨_, List.mem_append.2 (.inr (by simp)), hy⟩
    · exact ⟨l, List.mem_append.2 (.inl hl), hy⟩
  · rintro ⟨l, hl, hy⟩
    rcases List.mem_append.1 hl with hl | hl
    · exact ⟨l, List.mem_cons.2 (.inr hl), hy⟩
    · rw [List.mem_singleton] at hl
      subst hl
      exact ⟨_, List.mem_cons.2 (.inl rfl), hy⟩
/-- The one log of awake, the one mark. -/
def lsA (b : Nat) : List LogM := [⟨some ⟨b, 0, none⟩, 1, [evA20]⟩]
def xsA : List St := [⟨9, 0, 0⟩]
/-- What made answers of them. -/
theorem madeA (w : World) : Calls Tryd.prog 11 #[.slice (some ⟨w.heap.size + 1, 0, none⟩) 1 1, .slice (some ⟨w.heap.size + 1 + 1, 0, none⟩) 1 1] (((w.alloc (.cells evA20.cells.toArray 32)).alloc (.cells #[.slice (some ⟨w.heap.size, 0, none⟩) 1 1] 24)).alloc (.cells #[.int .i64 9, .int .i64 0, .int .i64 0] 26))
    (MadePost (lsA w.heap.size) xsA (((w.alloc (.cells evA20.cells.toArray 32)).alloc (.cells #[.slice (some ⟨w.heap.size, 0, none⟩) 1 1] 24)).alloc (.cells #[.int .i64 9, .int .i64 0, .int .i64 0] 26))) :=
  made_any (lsA w.heap.size) (some ⟨w.heap.size + 1, 0, none⟩) 1 (w.heap.size + 3) xsA (some ⟨w.heap.size + 1 + 1, 0, none⟩) 1 _ (by simp) (by simp [lsA]) (by simp [lsA])
    ⟨Sl.of_blk LogM.cells_len _ ((G.new _ _).blk (blk_new' _ _ _ _ (by simp))) rfl (by omega), fun l hl => by
      simp [lsA] at hl
      subst hl
      exact ⟨Sl.of_blk Ev.cells_len _ (((G.new _ _).alloc _).blk (blk_new w _ _)) rfl (by omega), by simp, by simp⟩⟩
    (by simp [xsA]) (Sl.of_blk St.cells_len _ (blk_new' _ _ _ _ (by simp)) rfl (by omega))
/-- What Poll answers of that table. -/
theorem pollA {w : World} {base T g c b : Nat} {ps : List PeerM} (ht : TabAt 93 98 w base T g c ps) (hp : TabTo (lsA b) xsA 2 1 ps) (cx cy cz ci : Int) (cs p : ByteArray) (max : Int) (hps : p.size ≤ 1073741824) (hT : Tabs w) (hok : pollOk p ⟨⟨cx, cy, cz⟩, ci, cs⟩ max = true) :
    Calls Tryd.prog 12 #[.pointer (some ⟨T, 0, none⟩), .slice none 0 0, .agg #[.int .i64 9, .int .i64 0, .int .i64 0], .agg #[.int .i64 cx, .int .i64 cy, .int .i64 cz, .int .i64 ci, .string cs], .string p, .int .i64 max] w
      (PollPost (mergeF (⟨none, 0, []⟩ :: lsA b) ⟨9, 0, 0⟩ ⟨⟨cx, cy, cz⟩, ci, cs⟩) p ⟨⟨cx, cy, cz⟩, ci, cs⟩ max w) := by
  have hp' : TabTo (lsA b) xsA 2 (lsA b).length ps := hp
  have hm : wmOf ⟨9, 0, 0⟩ ((ps.drop 2).map (·.mark)) = ⟨9, 0, 0⟩ := by
    rw [hp'.marks]
    show wmOf ⟨9, 0, 0⟩ ((List.range 1).map (mkOf xsA)) = ⟨9, 0, 0⟩
    decide +kernel
  have := poll_any ht (by rw [hp'.len]; simp [lsA]) (hp'.all (Q := fun es => es.length ≤ 8000) (by simp) (by simp [lsA])) (hp'.all (Q := fun es => ∀ x ∈ es, x.stream.size ≤ 1073741824) (by simp) (by simp [lsA, evA20]; decide))
    [] none 0 w.heap.size (Nat.le_refl _) Sl.nil (by simp) (by simp) (by omega) (by simp) 9 0 0 cx cy cz ci cs p max hps hT hok (⟨none, 0, []⟩ :: lsA b) (made_L hp' _ _ _)
  rwa [hm] at this
theorem logsA (b : Nat) (y : Ev) : inLogs (⟨none, 0, []⟩ :: lsA b) y ↔ y = evA20 := by
  unfold inLogs lsA
  constructor
  · rintro ⟨l, hl, hy⟩
    simp at hl
    rcases hl with rfl | rfl
    · cases hy
    · simpa using hy
  · rintro rfl
    exact ⟨⟨some ⟨b, 0, none⟩, 1, [evA20]⟩, by simp, by simp⟩
set_option maxRecDepth 100000 in
set_option maxHeartbeats 2000000 in
theorem awake20_any (w : World) (hT : Tabs w) : Calls Tryd.prog 9 #[] w fun e w' => e = .returned (.bool true) ∧ G w w' := by
  have hm := madeA w
  replace hT := Lib.hid hT
  replace hm := Lib.hid hm
  go_enter Tryd.func9, Tryd.ntmps9
  go_wp2_with fail
  refine Calls.mono hm.out ?_
  rintro e w1 ⟨T, g, c, T2, g2, c2, ps, ms, rfl, ht, _, hp, _, hg1⟩
  have hg01 : G w w1 := (((G.new w _).alloc _).alloc _).trans hg1
  have hpo := pollA ht (show TabTo (lsA w.heap.size) xsA 2 1 ps from hp) 0 0 0 0 ⟨#[]⟩ st1 10 (by decide) (hT.out.g hg01) (by unfold pollOk; rw [st1_ok]; rfl)
  clear hm ht hp hg1
  replace hpo := Lib.hid hpo
  go_wp2_with fail
  refine Calls.mono hpo.out ?_
  rintro e w2 ⟨out, A, m, hf, he, hown, hg2⟩
  obtain rfl := first20 _ (logsA _) out hf
  have e1 : onlyL st1 [evA20] = [evA20] := by unfold onlyL; simp [evA20, st1_a]
  rw [e1] at he hown
  have he' : e = .returned (.tuple #[.slice A 1 m, .agg #[.int .i64 5, .int .i64 0, .int .i64 2, .int .i64 0, .string ⟨#[97]⟩], .int .i64 0]) := he
  subst he'
  clear he hf
  obtain ⟨A', c', e3, _, _, hsl⟩ := OwnL.sl Ev.cells_len hown
  cases e3
  obtain ⟨b, o, rfl, hb, _, _, _, c3, c4, c5, _⟩ := hsl.ev (k := 0) rfl
  simp only [evA20, Nat.zero_mul, Nat.add_zero] at c3 c4 c5
  have hgw2 := hg01.trans hg2
  have hnq := @st_eql
  have d3 : ∀ x, (w2.alloc x).cell? ⟨b, o + 3, none⟩ = some (.int .i64 5) := fun x => ((G.new w2 x).cell (by omega)).trans c3
  have d4 : ∀ x, (w2.alloc x).cell? ⟨b, o + 3 + 1, none⟩ = some (.int .i64 0) := fun x => ((G.new w2 x).cell (by omega)).trans c4
  have d5 : ∀ x, (w2.alloc x).cell? ⟨b, o + 3 + 2, none⟩ = some (.int .i64 2) := fun x => ((G.new w2 x).cell (by omega)).trans c5
  clear c3 c4 c5 hown hsl hpo hg2
  go_wp2_with fail
  go_quiet (fail)
  go_wp2_with fail
  go_ret
  exact ⟨rfl, (hgw2.alloc _).drewN _⟩
end Go.Proofs.YthhhobfdlgmjlaaDoor

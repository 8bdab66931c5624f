/- feed.Poll, where it may be asked. Conditions: at most six nodes, at most 8000 events each, texts of at most 2^30 bytes. -/
import Derived.Test.YthhhobfdlgmjlaaDoorFeedPollQWholeRow
import Derived.Deep.RegionLaw
namespace Go.Proofs.YthhhobfdlgmjlaaDoor
open Go.RowKit

/-- What Poll answers where it may be asked. -/
def PollPost (F : Ev → Prop) (p : ByteArray) (c : Cu) (max : Int) (w : World) (e : Ending) (w' : World) : Prop :=
  ∃ out A m, IsFirst F max out ∧ e = .returned (.tuple #[.slice A (onlyL p out).length m, .agg (cuCs (curOf c out)), .int .i64 0]) ∧ OwnL 32 7 Ev.cells w' w.heap.size (.slice A (onlyL p out).length m) (onlyL p out) ∧ G w w'
/-- The events of a table's others, and one's own. -/
def TabEvs (ps : List PeerM) (own : List Ev) (y : Ev) : Prop := (∃ q ∈ ps.drop 2, y ∈ q.es) ∨ y ∈ own
theorem tab_logs {ps : List PeerM} {own : List Ev} {tl : List LogM} {A : Option Addr} {c : Nat} (h : tl.map (·.es) = (ps.drop 2).map (·.es)) (y : Ev) : inLogs (tl ++ [⟨A, c, own⟩]) y ↔ TabEvs ps own y := by
  have h1 : (∃ l ∈ tl, y ∈ l.es) ↔ ∃ e ∈ tl.map (·.es), y ∈ e := by
    constructor
    · rintro ⟨l, hl, hy⟩; exact ⟨_, List.mem_map.2 ⟨l, hl, rfl⟩, hy⟩
    · rintro ⟨e, he, hy⟩
      obtain ⟨l, hl, rfl⟩ := List.mem_map.1 he
      exact ⟨l, hl, hy⟩
  have h2 : (∃ q ∈ ps.drop 2, y ∈ q.es) ↔ ∃ e ∈ (ps.drop 2).map (·.es), y ∈ e := by
    constructor
    · rintro ⟨l, hl, hy⟩; exact ⟨_, List.mem_map.2 ⟨l, hl, rfl⟩, hy⟩
    · rintro ⟨e, he, hy⟩
      obtain ⟨l, hl, rfl⟩ := List.mem_map.1 he
      exact ⟨l, hl, hy⟩
  unfold inLogs TabEvs
  rw [h2, ← h, ← h1]
  constructor
  · rintro ⟨l, hl, hy⟩
    rcases List.mem_append.1 hl with hl | hl
    · exact .inl ⟨l, hl, hy⟩
    · rw [List.mem_singleton] at hl
      subst hl
      exact .inr hy
  · rintro (⟨l, hl, hy⟩ | hy)
    · exact ⟨l, List.mem_append.2 (.inl hl), hy⟩
    · exact ⟨⟨A, c, own⟩, List.mem_append.2 (.inr (by simp)), hy⟩
theorem tab_tally {ps : List PeerM} {own : List Ev} {tl : List LogM} {A : Option Addr} {c : Nat} (h : tl.map (·.es) = (ps.drop 2).map (·.es)) (hl : ps.length ≤ 6) (hes : ∀ p ∈ ps, p.es.length ≤ 8000) (ho : own.length ≤ 8000) : evTally (tl ++ [⟨A, c, own⟩]) ≤ 40000 := by
  have h1 : tl.map (fun l => l.es.length) = (ps.drop 2).map fun l => l.es.length := by
    have := congrArg (List.map List.length) h
    simpa [Function.comp_def] using this
  unfold evTally
  rw [List.map_append, h1, List.sum_append]
  have h2 : ∀ qs : List PeerM, (∀ q ∈ qs, q.es.length ≤ 8000) → (qs.map fun l => l.es.length).sum ≤ qs.length * 8000 := by
    intro qs
    induction qs with
    | nil => intro _; simp
    | cons q qs ih =>
      intro hq
      have := ih fun x hx => hq x (by simp [hx])
      have := hq q (by simp)
      simp only [List.map_cons, List.sum_cons, List.length_cons]
      omega
  have h3 := h2 (ps.drop 2) fun q hq => hes q (List.mem_of_mem_drop hq)
  have h4 : (ps.drop 2).length ≤ 4 := by rw [List.length_drop]; omega
  simp only [List.map_cons, List.map_nil, List.sum_cons, List.sum_nil]
  omega
theorem first_len {ls : List LogM} {st : St} {c : Cu} {max : Int} {out : List Ev} (h : IsFirst (mergeF ls st c) max out) (hm : max ≤ 100) : out.length ≤ 100 := by
  rcases h.2.2.2.1 with h1 | h1
  · omega
  · subst h1; simp
set_option maxRecDepth 100000 in
set_option maxHeartbeats 4000000 in
theorem poll_any {w : World} {base T g c : Nat} {ps : List PeerM} (ht : TabAt 93 98 w base T g c ps) (hl : ps.length ≤ 6) (hes : ∀ p ∈ ps, p.es.length ≤ 8000) (hst : ∀ q ∈ ps, ∀ x ∈ q.es, x.stream.size ≤ 1073741824)
    (own : List Ev) (A : Option Addr) (co B : Nat) (hB : B ≤ w.heap.size) (hown : Sl Ev.cells 7 w B A own) (hol : own.length ≤ 8000) (hoc : own.length ≤ co) (hoc2 : co ≤ 9223372036854775807) (hos : ∀ x ∈ own, x.stream.size ≤ 1073741824)
    (ax ay az cx cy cz ci : Int) (cs p : ByteArray) (max : Int) (hp : p.size ≤ 1073741824) (hT : Tabs w) (hok : pollOk p ⟨⟨cx, cy, cz⟩, ci, cs⟩ max = true) (L : List LogM) (hL : ∀ y, inLogs L y ↔ TabEvs ps own y) :
    Calls Tryd.prog 12 #[.pointer (some ⟨T, 0, none⟩), .slice A own.length co, .agg #[.int .i64 ax, .int .i64 ay, .int .i64 az], .agg #[.int .i64 cx, .int .i64 cy, .int .i64 cz, .int .i64 ci, .string cs], .string p, .int .i64 max] w
      (PollPost (mergeF L (wmOf ⟨ax, ay, az⟩ ((ps.drop 2).map (·.mark))) ⟨⟨cx, cy, cz⟩, ci, cs⟩) p ⟨⟨cx, cy, cz⟩, ci, cs⟩ max w) := by
  unfold pollOk at hok
  rw [Bool.and_eq_true, Bool.and_eq_true, Bool.and_eq_true, decide_eq_true_eq, decide_eq_true_eq] at hok
  obtain ⟨h1, h2, h3, h4, h5⟩ := hok
  dsimp only at h2 h3
  have n3 : ¬ ci < 0 := by omega
  have n4 : ¬ max < 1 := by omega
  have n5 : ¬ 100 < max := by omega
  go_enter Tryd.func12, Tryd.ntmps12
  go_upto_region 1 with fail
  generalize hW0 : (((w.alloc (.cells #[.int .i64 ax, .int .i64 ay, .int .i64 az] 26)).alloc (.cells #[.int .i64 cx, .int .i64 cy, .int .i64 cz, .int .i64 ci, .string cs] 38)).alloc (.cells #[.int .i64 0, .int .i64 0, .int .i64 0, .int .i64 0, .string ⟨#[]⟩] 38)) = W0
  have hM0 : W0.heap[w.heap.size]? = some (.cells #[.int .i64 ax, .int .i64 ay, .int .i64 az] 26 (0, 0)) := by rw [← hW0]; exact ((G.new _ _).alloc _).blk (blk_new w _ _)
  have hC0 : W0.heap[w.heap.size + 1]? = some (.cells #[.int .i64 cx, .int .i64 cy, .int .i64 cz, .int .i64 ci, .string cs] 38 (0, 0)) := by rw [← hW0]; exact (G.new _ _).blk (blk_new' _ _ _ _ (by simp))
  have hR0 : W0.heap[w.heap.size + 1 + 1]? = some (.cells #[.int .i64 0, .int .i64 0, .int .i64 0, .int .i64 0, .string ⟨#[]⟩] 38 (0, 0)) := by rw [← hW0]; exact blk_new' _ _ _ _ (by simp)
  have hG0 : G w W0 := by rw [← hW0]; exact ((G.new _ _).alloc _).alloc _
  clear hW0
  have hchk := check_any p W0 hp (hT.g hG0)
  rw [h1] at hchk
  have q0 : ∀ w', G W0 w' → w'.cell? ⟨w.heap.size, 0, none⟩ = some (.int .i64 ax) := fun w' h => (blk_cell (h.blk hM0) 0).trans rfl
  have q1 : ∀ w', G W0 w' → w'.cell? ⟨w.heap.size, 1, none⟩ = some (.int .i64 ay) := fun w' h => (blk_cell (h.blk hM0) 1).trans rfl
  have q2 : ∀ w', G W0 w' → w'.cell? ⟨w.heap.size, 2, none⟩ = some (.int .i64 az) := fun w' h => (blk_cell (h.blk hM0) 2).trans rfl
  have q3 : ∀ w', G W0 w' → w'.cell? ⟨w.heap.size + 1, 0, none⟩ = some (.int .i64 cx) := fun w' h => (blk_cell (h.blk hC0) 0).trans rfl
  have q4 : ∀ w', G W0 w' → w'.cell? ⟨w.heap.size + 1, 1, none⟩ = some (.int .i64 cy) := fun w' h => (blk_cell (h.blk hC0) 1).trans rfl
  have q5 : ∀ w', G W0 w' → w'.cell? ⟨w.heap.size + 1, 2, none⟩ = some (.int .i64 cz) := fun w' h => (blk_cell (h.blk hC0) 2).trans rfl
  have q6 : ∀ w', G W0 w' → w'.cell? ⟨w.heap.size + 1, 3, none⟩ = some (.int .i64 ci) := fun w' h => (blk_cell (h.blk hC0) 3).trans rfl
  have q7 : ∀ w', G W0 w' → w'.cell? ⟨w.heap.size + 1, 4, none⟩ = some (.string cs) := fun w' h => (blk_cell (h.blk hC0) 4).trans rfl
  replace hchk := Lib.hid hchk
  replace hM0 := Lib.hid hM0
  replace hC0 := Lib.hid hC0
  replace hR0 := Lib.hid hR0
  replace hT := Lib.hid hT
  go_wp2_with fail
  refine Calls.mono hchk.out ?_
  rintro e w1 ⟨rfl, hg1⟩
  clear hchk
  rw [show chkI true = 0 from rfl]
  have k0 := q3 _ hg1
  have k1 := q4 _ hg1
  have k2 := q5 _ hg1
  have hsd := sound_any cx cy cz w1
  rw [h2] at hsd
  unfold stV at hsd
  replace hsd := Lib.hid hsd
  replace h1 := Lib.hid h1
  replace h2 := Lib.hid h2
  go_wp2_with fail
  refine Calls.mono hsd.out ?_
  rintro e w2 ⟨rfl, hg2⟩
  clear hsd k0 k1 k2
  replace hg2 := hg1.trans hg2
  have k3 := q6 _ hg2
  clear hg1
  go_wp2_with fail
  have hlog := fun w' (hg : G W0 w') => watLogs_any (ht.grow (hG0.trans hg)) hl hes
  have hwat := fun w' (hg : G W0 w') => watWater_any (ht.grow (hG0.trans hg)) hl ax ay az
  obtain ⟨⟨r1, r2, r3⟩, hr⟩ : ∃ r, wmOf ⟨ax, ay, az⟩ ((ps.drop 2).map (·.mark)) = r := ⟨_, rfl⟩
  rw [hr] at hwat
  dsimp only at hwat
  have hmg : ∀ (tl : List LogM) (n4 : Nat) (A4 : Option Addr) (c4 B4 : Nat) (w5 : World), tl.length = n4 → B4 ≤ w5.heap.size → evTally tl ≤ 40000 → tl.length ≤ 10 → LogsIn w5 B4 A4 tl → Calls Tryd.prog 32 #[.slice A4 n4 c4, .agg #[.int .i64 r1, .int .i64 r2, .int .i64 r3], .agg #[.int .i64 cx, .int .i64 cy, .int .i64 cz, .int .i64 ci, .string cs], .int .i64 max] w5 (Merged w5 (mergeF tl ⟨r1, r2, r3⟩ ⟨⟨cx, cy, cz⟩, ci, cs⟩) (evTally tl) max) :=
    fun tl n4 A4 c4 B4 w5 hn4 hb4 ht1 ht2 ht3 => by subst hn4; exact merge_any tl A4 c4 B4 r1 r2 r3 cx cy cz ci cs max w5 hb4 (by omega) (by omega) ht3
  have hown' := fun w' (hg : G W0 w') => hown.g hB (hG0.trans hg)
  replace hlog := Lib.hid hlog
  replace hwat := Lib.hid hwat
  replace hmg := Lib.hid hmg
  replace hr := Lib.hid hr
  replace hown' := Lib.hid hown'
  replace hL := Lib.hid hL
  go_cut [15] (fun v wx => ∃ out A6 c6, v = .slice A6 out.length c6 ∧ Hid (IsFirst (mergeF L ⟨r1, r2, r3⟩ ⟨⟨cx, cy, cz⟩, ci, cs⟩) max out) ∧ out.length ≤ 40000 ∧ Hid (OwnL 32 7 Ev.cells wx W0.heap.size (.slice A6 out.length c6) out) ∧ G W0 wx)
  case first =>
    go_region_held3 (fun w' => G W0 w') (first | exact hg2.drew | exact hgm.keep (by assumption) | exact hg4.out | exact G.alloc (by assumption) _ | fail)
      (first
        | (go_at_call 33; (with_reducible refine Calls.mono (hlog.out _ (by assumption)) ?_); rintro e w3 ⟨A1, c1, tl, rfl, hown1, hlo1, htl1, hgm⟩; have hg3 : G W0 w3 := G.trans (by assumption) hgm; have hgL := hgm; have htlen : tl.length ≤ 4 := (by have := congrArg List.length htl1; simp at this; omega); replace hlo1 := Lib.hid hlo1; replace htl1 := Lib.hid htl1)
        | (go_at_call 34; (with_reducible refine Calls.mono (hwat.out _ (by assumption)) ?_); rintro e w5 ⟨rfl, hgm⟩; have hg5 := hg4.out.trans hgm; have hlogs5 := hlogs4.out.g (Nat.le_refl _) hgm; have hz45 := hgm.size; replace hlogs5 := Lib.hid hlogs5)
        | (refine step_append_list log_elem _ rfl (.tmp 41) (.tmp 43) rfl w2.drew.heap.size _ tl rfl (hown1.g (G.new _ _)) (w3.heap.size + 1) (some ⟨w3.heap.size, 0, none⟩) 1 [⟨A, co, own⟩] rfl (by intro h; cases h) (Sl.of_blk LogM.cells_len _ (blk_new _ _ _) (by simp [LogM.cells]) (by omega)) (by simp; omega) (by simp; omega) (Nat.le_trans hgm.size (by simp)) ?_; intro v4 w4 hown4 hkeep4 _; have hg4 : G W0 w4 := hg2.drew.trans (hkeep4.g (hgm.alloc _)); have hlo4 : ∀ l ∈ tl ++ [(⟨A, co, own⟩ : LogM)], l.ok w4 w4.heap.size := (fun l hl => (List.mem_append.1 hl).elim (((hlo1.out.g (G.new _ _)).keepT hkeep4 (by decide)).ok l) (fun hl => (by rw [List.mem_singleton] at hl; subst hl; exact ⟨(hown'.out _ hg4).more (Nat.le_trans hB (hG0.trans hg4).size), hoc, hoc2⟩))); obtain ⟨A4, c4, e4, _, _, hs4⟩ := OwnL.sl LogM.cells_len hown4; subst e4; have hlogs4 : LogsIn w4 w4.heap.size A4 (tl ++ [(⟨A, co, own⟩ : LogM)]) := ⟨hs4, hlo4⟩; replace hlogs4 := Lib.hid hlogs4; replace hg4 := Lib.hid hg4; clear hown4 hkeep4 hlo4 hs4)
        | (refine step_append_list log_elem _ rfl (.tmp 41) (.tmp 43) rfl _ _ tl rfl hown1 w3.heap.size (some ⟨w2.heap.size, 0, none⟩) 1 [⟨A, co, own⟩] rfl (by intro h; cases h) (Sl.of_blk LogM.cells_len _ (hgL.blk (blk_new w2 _ _)) (by simp [LogM.cells]) (Nat.lt_of_lt_of_le (show w2.heap.size < (w2.alloc _).heap.size by simp) hgL.size)) (by simp; omega) (by simp; omega) hgL.size ?_; intro v4 w4 hown4 hkeep4 _; have hg4 : G W0 w4 := (hg2.alloc _).drew.trans (hkeep4.g hgL); have hlo4 : ∀ l ∈ tl ++ [(⟨A, co, own⟩ : LogM)], l.ok w4 w4.heap.size := (fun l hl => (List.mem_append.1 hl).elim ((hlo1.out.keepT hkeep4 (by decide)).ok l) (fun hl => (by rw [List.mem_singleton] at hl; subst hl; exact ⟨(hown'.out _ hg4).more (Nat.le_trans hB (hG0.trans hg4).size), hoc, hoc2⟩))); obtain ⟨A4, c4, e4, _, _, hs4⟩ := OwnL.sl LogM.cells_len hown4; subst e4; have hlogs4 : LogsIn w4 w4.heap.size A4 (tl ++ [(⟨A, co, own⟩ : LogM)]) := ⟨hs4, hlo4⟩; replace hlogs4 := Lib.hid hlogs4; replace hg4 := Lib.hid hg4; clear hown4 hkeep4 hlo4 hs4)
        | (go_at_call 32; (with_reducible refine Calls.mono (hmg.out (tl ++ [(⟨A, co, own⟩ : LogM)]) _ A4 c4 w4.heap.size _ (by simp) hz45 (tab_tally htl1.out hl hes hol) (by simp; omega) hlogs5.out) ?_); rintro e w6 ⟨out, hfirst, hol6, v6, rfl, hown6, hgm⟩; have hg6 := hg5.trans hgm; have hfirst2 : IsFirst (mergeF L ⟨r1, r2, r3⟩ ⟨⟨cx, cy, cz⟩, ci, cs⟩) max out := hfirst.iff (fun y => and_congr_left fun _ => (tab_logs htl1.out y).trans (hL.out y).symm); have hol7 : out.length ≤ 40000 := Nat.le_trans hol6 (tab_tally htl1.out hl hes hol); obtain ⟨A6, c6, e6, _, _, _⟩ := OwnL.sl Ev.cells_len (show OwnL 32 7 Ev.cells w6 w5.heap.size v6 out from hown6); subst e6; have hown7 := OwnL.mono (show OwnL 32 7 Ev.cells w6 w5.heap.size (.slice A6 out.length c6) out from hown6) hg5.size; replace hown7 := Lib.hid hown7; replace hfirst2 := Lib.hid hfirst2; clear hfirst hown6))
    all_goals
      go_wp2_with fail
      go_meet
      exact ⟨out, A6, c6, rfl, hfirst2, hol7, hown7, hg6⟩
  case rest =>
    obtain ⟨out, A6, c6, rfl, hfirst, hol6, hown6, hgc⟩ := hcut
    clear hlog hwat hmg hown' q0 q1 q2 hg2 k3 hM0
    have k0 := q3 _ hgc
    have k1 := q4 _ hgc
    have k2 := q5 _ hgc
    have k3 := q6 _ hgc
    have k4 := q7 _ hgc
    have hC1 := hgc.blk hC0.out
    obtain ⟨W2, SR, C2, hb2, hG2⟩ := store_blk (P := Tryd.prog) (T := 38) (cs := #[.int .i64 cx, .int .i64 cy, .int .i64 cz, .int .i64 ci, .string cs]) (hgc.blk hR0.out) rfl (by kernel_rfl) (by kernel_rfl)
    have hGw2 := hG2 _ (hG0.trans hgc) (by omega)
    have hown2 := hown6.out.but' hb2 fun k hk e => by
      have := (hown6.out.blk hk).1
      have := blk_lt hR0.out
      omega
    have hol100 := first_len hfirst.out h5
    have hxo : ∀ x ∈ out, x.stream.size ≤ 1073741824 := fun x hx => by
      have h7 := (hL.out x).1 (hfirst.out.2.1 x hx).1
      rcases h7 with ⟨q, hq, hxq⟩ | h7
      · exact hst q (List.mem_of_mem_drop hq) x hxq
      · exact hos x h7
    clear hG2 hb2 hC1
    replace C2 := Lib.hid C2
    replace hxo := Lib.hid hxo
    obtain ⟨A7, c7, e7, _, _, hsl⟩ := OwnL.sl Ev.cells_len hown2
    cases e7
    have hcu : curOf ⟨⟨cx, cy, cz⟩, ci, cs⟩ out = curOf ⟨⟨cx, cy, cz⟩, ci, cs⟩ out := rfl
    go_upto_region 5 with (refine wpList_store_at (ty := 38) (x := .tmp 13) rfl (by kernel_rfl) (p := .pointer (some ⟨w.heap.size + 1 + 1, 0, none⟩)) (v := .agg #[.int .i64 cx, .int .i64 cy, .int .i64 cz, .int .i64 ci, .string cs]) rfl rfl SR ?_; clear SR)
    rcases List.eq_nil_or_concat out with hnil | ⟨out', x, hx⟩
    · have hcur : curOf ⟨⟨cx, cy, cz⟩, ci, cs⟩ out = ⟨⟨cx, cy, cz⟩, ci, cs⟩ := by rw [hnil]; rfl
      have hlen0 : ¬ (0 : Int) < (out.length : Int) := by rw [hnil]; simp
      clear k0 k1 k2 k3 k4
      replace hnil := Lib.hid hnil
      replace hcur := Lib.hid hcur
      go_wp2_with fail
      have r0 := (blk_cell C2.out 0).trans (show _ = some (Value.int .i64 (cx)) from rfl)
      have r1 := (blk_cell C2.out 1).trans (show _ = some (Value.int .i64 (cy)) from rfl)
      have r2 := (blk_cell C2.out 2).trans (show _ = some (Value.int .i64 (cz)) from rfl)
      have r3 := (blk_cell C2.out 3).trans (show _ = some (Value.int .i64 (ci)) from rfl)
      have r4 := (blk_cell C2.out 4).trans (show _ = some (Value.string (cs)) from rfl)
      have hcall := only_any out _ c6 (W2).heap.size p (W2).drew (Nat.le_refl _) (by omega) (hsl) hp hxo.out (hT.out.g ((hGw2).drew))
      replace hcall := Lib.hid hcall
      have hGd := (hGw2).drew
      clear hxo
      go_region_law (go_simp; go_at_call 20; (with_reducible refine Calls.mono hcall.out ?_); rintro e w8 ⟨v8, rfl, hown8, hg8⟩; obtain ⟨A8, c8, e8, _, _, _⟩ := OwnL.sl Ev.cells_len (show OwnL 32 7 Ev.cells w8 (W2).drew.heap.size v8 (onlyL p out) from hown8); subst e8; have hR8 := (hg8.blk (show (W2).drew.heap[w.heap.size + 1 + 1]? = _ from C2.out)); have s0 := (blk_cell hR8 0).trans (show _ = some (Value.int .i64 (cx)) from rfl); have s1 := (blk_cell hR8 1).trans (show _ = some (Value.int .i64 (cy)) from rfl); have s2 := (blk_cell hR8 2).trans (show _ = some (Value.int .i64 (cz)) from rfl); have s3 := (blk_cell hR8 3).trans (show _ = some (Value.int .i64 (ci)) from rfl); have s4 := (blk_cell hR8 4).trans (show _ = some (Value.string (cs)) from rfl); have z0 := own_free hR8 0; have z1 := own_free hR8 1; have z2 := own_free hR8 2; have z3 := own_free hR8 3; have z4 := own_free hR8 4; replace hR8 := Lib.hid hR8; replace hown8 := Lib.hid hown8; replace hg8 := Lib.hid hg8)
      all_goals
        go_wp2_with fail
        have e5 := (set_blk (set_blk (set_blk (set_blk (set_blk hR8.out 0 (.int .i64 (cx))) 1 (.int .i64 (cy))) 2 (.int .i64 (cz))) 3 (.int .i64 (ci))) 4 (.string (cs))).trans (show _ = some (Obj.cells #[.int .i64 (cx), .int .i64 (cy), .int .i64 (cz), .int .i64 (ci), .string (cs)] 38 (0, 0)) from rfl)
        have hb5 := (((((But.refl (fun j => j = w.heap.size + 1 + 1) w8).set (p := ⟨w.heap.size + 1 + 1, 0, none⟩) (.inr rfl) (.int .i64 (cx))).set (p := ⟨w.heap.size + 1 + 1, 1, none⟩) (.inr rfl) (.int .i64 (cy))).set (p := ⟨w.heap.size + 1 + 1, 2, none⟩) (.inr rfl) (.int .i64 (cz))).set (p := ⟨w.heap.size + 1 + 1, 3, none⟩) (.inr rfl) (.int .i64 (ci))).set (p := ⟨w.heap.size + 1 + 1, 4, none⟩) (.inr rfl) (.string (cs))
        have hzR : w.heap.size + 1 + 1 < (W2).drew.heap.size := blk_lt C2.out
        refine bodyPost_ret (v := .tuple #[.slice A8 (onlyL p out).length c8, .agg #[.int .i64 (cx), .int .i64 (cy), .int .i64 (cz), .int .i64 (ci), .string (cs)], .int .i64 0]) (results_tct (i := 13) (j := 14) (k := 12) rfl rfl rfl rfl e5 Tryd.underlying38 rfl (by kernel_rfl)) rfl ?_
        have hrow : OwnL 32 7 Ev.cells w8 (W2).drew.heap.size (.slice A8 (onlyL p out).length c8) (onlyL p out) := hown8.out
        refine ⟨out, A8, c8, by rw [hr.out]; exact hfirst.out, by rw [hcur.out]; rfl, (hrow.but' hb5 fun k hk e => ?_).mono hGd.size, Below.trans (hGd.trans hg8.out) (hb5.below (hGd.trans hg8.out).size fun k _ e => by rw [e]; omega)⟩
        have := (hrow.blk hk).1
        omega
    · rw [List.concat_eq_append] at hx
      have hlen1 : out.length = out'.length + 1 := by rw [hx]; simp
      have hcur : curOf ⟨⟨cx, cy, cz⟩, ci, cs⟩ out = plOf x := by rw [hx, curOf_snoc]
      have hxa : out[out'.length]? = some x := by rw [hx]; simp
      obtain ⟨xs, xv, xd, ⟨xx, xy, xz⟩, xi⟩ := x
      obtain ⟨b9, o9, rfl, hb9, c0, c1, c2, c3, c4, c5, c6'⟩ := hsl.ev hxa
      dsimp only at c0 c1 c2 c3 c4 c5 c6'
      have n1 : (0 : Int) < (out.length : Int) := by omega
      have hm1 : IntKind.i64.wrap ((out.length : Int) - 1) = (out'.length : Int) := by rw [IntKind.wrap_i64]; omega
      have n2 : (0 : Int) ≤ (out'.length : Int) := by omega
      have n6 : (out'.length : Int) < (out.length : Int) := by omega
      clear hlen1 k0 k1 k2 k3 k4
      replace hx := Lib.hid hx
      replace hxa := Lib.hid hxa
      replace hcur := Lib.hid hcur
      go_wp2_with fail
      refine (of_any _ _ _ _ _ _ _ _).mono ?_
      rintro e w7 ⟨rfl, hg7⟩
      obtain ⟨W3, SR3, C3, hb3, hG3⟩ := store_blk (P := Tryd.prog) (T := 38) (cs := #[.int .i64 xx, .int .i64 xy, .int .i64 xz, .int .i64 xi, .string xs]) (hg7.blk C2.out) rfl (by kernel_rfl) (by kernel_rfl)
      have hGw3 := hG3 _ (hGw2.trans hg7) (by omega)
      have hown3 := (hown2.g hg7).but' hb3 fun k hk e => by
        have := (hown2.blk hk).1
        have := blk_lt hR0.out
        omega
      obtain ⟨A7, c7, e7, _, _, hsl3⟩ := OwnL.sl Ev.cells_len hown3
      cases e7
      clear hb3 hG3 hg7 c0 c1 c2 c3 c4 c5 c6' hsl
      replace C3 := Lib.hid C3
      go_upto_region 8 with (refine wpList_store_at (ty := 38) (x := .tmp 13) rfl (by kernel_rfl) (p := .pointer (some ⟨w.heap.size + 1 + 1, 0, none⟩)) (v := .agg #[.int .i64 xx, .int .i64 xy, .int .i64 xz, .int .i64 xi, .string xs]) rfl rfl SR3 ?_; clear SR3)
      have r0 := (blk_cell C3.out 0).trans (show _ = some (Value.int .i64 (xx)) from rfl)
      have r1 := (blk_cell C3.out 1).trans (show _ = some (Value.int .i64 (xy)) from rfl)
      have r2 := (blk_cell C3.out 2).trans (show _ = some (Value.int .i64 (xz)) from rfl)
      have r3 := (blk_cell C3.out 3).trans (show _ = some (Value.int .i64 (xi)) from rfl)
      have r4 := (blk_cell C3.out 4).trans (show _ = some (Value.string (xs)) from rfl)
      have hcall := only_any out _ c6 (W3).heap.size p (W3).drew (Nat.le_refl _) (by omega) (hsl3) hp hxo.out (hT.out.g ((hGw3).drew))
      replace hcall := Lib.hid hcall
      have hGd := (hGw3).drew
      clear hxo
      go_region_law (go_simp; go_at_call 20; (with_reducible refine Calls.mono hcall.out ?_); rintro e w8 ⟨v8, rfl, hown8, hg8⟩; obtain ⟨A8, c8, e8, _, _, _⟩ := OwnL.sl Ev.cells_len (show OwnL 32 7 Ev.cells w8 (W3).drew.heap.size v8 (onlyL p out) from hown8); subst e8; have hR8 := (hg8.blk (show (W3).drew.heap[w.heap.size + 1 + 1]? = _ from C3.out)); have s0 := (blk_cell hR8 0).trans (show _ = some (Value.int .i64 (xx)) from rfl); have s1 := (blk_cell hR8 1).trans (show _ = some (Value.int .i64 (xy)) from rfl); have s2 := (blk_cell hR8 2).trans (show _ = some (Value.int .i64 (xz)) from rfl); have s3 := (blk_cell hR8 3).trans (show _ = some (Value.int .i64 (xi)) from rfl); have s4 := (blk_cell hR8 4).trans (show _ = some (Value.string (xs)) from rfl); have z0 := own_free hR8 0; have z1 := own_free hR8 1; have z2 := own_free hR8 2; have z3 := own_free hR8 3; have z4 := own_free hR8 4; replace hR8 := Lib.hid hR8; replace hown8 := Lib.hid hown8; replace hg8 := Lib.hid hg8)
      all_goals
        go_wp2_with fail
        have e5 := (set_blk (set_blk (set_blk (set_blk (set_blk hR8.out 0 (.int .i64 (xx))) 1 (.int .i64 (xy))) 2 (.int .i64 (xz))) 3 (.int .i64 (xi))) 4 (.string (xs))).trans (show _ = some (Obj.cells #[.int .i64 (xx), .int .i64 (xy), .int .i64 (xz), .int .i64 (xi), .string (xs)] 38 (0, 0)) from rfl)
        have hb5 := (((((But.refl (fun j => j = w.heap.size + 1 + 1) w8).set (p := ⟨w.heap.size + 1 + 1, 0, none⟩) (.inr rfl) (.int .i64 (xx))).set (p := ⟨w.heap.size + 1 + 1, 1, none⟩) (.inr rfl) (.int .i64 (xy))).set (p := ⟨w.heap.size + 1 + 1, 2, none⟩) (.inr rfl) (.int .i64 (xz))).set (p := ⟨w.heap.size + 1 + 1, 3, none⟩) (.inr rfl) (.int .i64 (xi))).set (p := ⟨w.heap.size + 1 + 1, 4, none⟩) (.inr rfl) (.string (xs))
        have hzR : w.heap.size + 1 + 1 < (W3).drew.heap.size := blk_lt C3.out
        refine bodyPost_ret (v := .tuple #[.slice A8 (onlyL p out).length c8, .agg #[.int .i64 (xx), .int .i64 (xy), .int .i64 (xz), .int .i64 (xi), .string (xs)], .int .i64 0]) (results_tct (i := 13) (j := 14) (k := 12) rfl rfl rfl rfl e5 Tryd.underlying38 rfl (by kernel_rfl)) rfl ?_
        have hrow : OwnL 32 7 Ev.cells w8 (W3).drew.heap.size (.slice A8 (onlyL p out).length c8) (onlyL p out) := hown8.out
        refine ⟨out, A8, c8, by rw [hr.out]; exact hfirst.out, by rw [hcur.out]; rfl, (hrow.but' hb5 fun k hk e => ?_).mono hGd.size, Below.trans (hGd.trans hg8.out) (hb5.below (hGd.trans hg8.out).size fun k _ e => by rw [e]; omega)⟩
        have := (hrow.blk hk).1
        omega
end Go.Proofs.YthhhobfdlgmjlaaDoor

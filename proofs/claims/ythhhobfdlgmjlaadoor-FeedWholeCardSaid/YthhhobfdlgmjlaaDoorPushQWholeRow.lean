/- (*heap.pile).push: one event more in the pile. Condition: the pile has at most 2^32 events. -/
import Derived.Test.YthhhobfdlgmjlaaDoorM22WholeRow
import Derived.BigRegion
import Derived.Deep.AppendLies
import Derived.Deep.RegionLaw
namespace Go.Proofs.YthhhobfdlgmjlaaDoor
open Go.RowKit

/-- append of one event, that lies in a block of its own, onto a row: at a step of a region that draws. -/
theorem step_append_row {ops : Array Oper} {o : Oper} {a : Act} {K : Act → World → Prop} {Q : Exit → Act → World → Prop} {E : Prop} (w : World) (hgd : o.guard = none) (s x : Operand) (t : TypeId) (ht : Tryd.prog.underlying t = some (.slice 32))
    (ho : o.op = .call { callee := .builtin .append, args := #[s, x], argTypes := #[t, t] })
    (base : Nat) (v : Value) (es : List Ev) (hs : a.eval s = v) (hown : OwnL 32 7 Ev.cells w base v es) (e : Ev) (b c : Nat) (hx : a.eval x = .slice (some ⟨b, 0, none⟩) 1 c)
    (hb : w.heap[b]? = some (.cells e.cells.toArray 32 (0, 0))) (hlen : es.length + 1 ≤ 1099511627777) (hbase : base ≤ w.heap.size)
    (h : ∀ g c' w', Row w' g c' (es ++ [e]) → base ≤ g → But (fun k => some k = v.ownBlock) w w' → (v.ownBlock = some g ∨ w.heap.size ≤ g) → K (a.put o.dst (.slice (some ⟨g, 0, none⟩) (es.length + 1) c')) w') :
    if Region.wanted o (yielded ops a.tmps) = true then Oper.wp Tryd.prog o a w K Q else E := by
  obtain ⟨i0, hi, hz0, hz1, hz2⟩ := info_parts ev_info
  refine step_append_lies w hgd s x t ho base 32 i0 _ 7 72 ht hi hz0 hz1 hz2 rfl (by omega) v es.length (es.flatMap Ev.cells) hs hown ⟨b, 0, none⟩ 1 c e.cells hx rfl
    (World.news_of_block hb) (by intro u hu; simp [Ev.cells] at hu; rcases hu with rfl | rfl | rfl | rfl | rfl | rfl | rfl <;> rfl) (by omega) (by simp only [maxLen]; omega) (by omega) hbase w.heap.size rfl ?_
  intro g cap w' h2 h3 h4 _
  have h5 : OwnL 32 7 Ev.cells w' base (.slice (some ⟨g, 0, none⟩) (es ++ [e]).length cap) (es ++ [e]) := by
    show w'.ownsRow _ _ _ _ _ _
    rw [List.flatMap_append, List.length_append]
    simpa using h2
  rcases h5.row with ⟨h6, _⟩ | ⟨g', c', h6, h7, h8⟩
  · cases h6
  · cases h6
    exact h g cap w' h8 h7 (.of_grown h3 fun k hk => hk.symm) (h4.imp id (fun e => by omega))
theorem blk_set {w : World} {b : Nat} {cs : Array Value} {t : TypeId} {fz : Nat × Nat} (h : w.heap[b]? = some (.cells cs t fz)) (o : Nat) (u : Value) : (w.setCell ⟨b, o, none⟩ u).heap[b]? = some (.cells (cs.setIfInBounds o u) t fz) := by
  rw [setCell_eq_setRow w b o cs t fz u h]
  exact setRow_heap w b cs _ t _ h
/-- The pile behind a pointer: its block holds the row's slice. -/
def PileAt (w : World) (pb g c : Nat) (xs : List Ev) : Prop := w.heap[pb]? = some (.cells #[.slice (some ⟨g, 0, none⟩) xs.length c] 104 (0, 0)) ∧ Row w g c xs
theorem PileAt.ne {w : World} {pb g c : Nat} {xs : List Ev} (h : PileAt w pb g c xs) : pb ≠ g := by
  rintro rfl
  obtain ⟨h1, cur, h2, _⟩ := h
  rw [h1] at h2
  simp at h2
theorem Row.set_far {w : World} {g c : Nat} {xs : List Ev} (h : Row w g c xs) {p : Addr} (hp : g ≠ p.block) (u : Value) : Row (w.setCell p u) g c xs := by
  obtain ⟨cur, h1, h2⟩ := h
  exact ⟨cur, (Below.heap_setCell _ _ _ _ hp).trans h1, h2⟩
theorem Row.ne {w : World} {pb g c : Nat} {xs : List Ev} {cs : Array Value} {fz : Nat × Nat} (h : Row w g c xs) (hp : w.heap[pb]? = some (.cells cs 104 fz)) : g ≠ pb := by
  rintro rfl
  obtain ⟨cur, h2, _⟩ := h
  rw [hp] at h2
  simp at h2
theorem Row.ev {w : World} {g c : Nat} {xs : List Ev} (h : Row w g c xs) {k : Nat} {x : Ev} (hx : xs[k]? = some x) :
    w.cell? ⟨g, k * 7, none⟩ = some (.string x.stream) ∧ w.cell? ⟨g, k * 7 + 1, none⟩ = some (.int .i64 x.version) ∧ w.cell? ⟨g, k * 7 + 2, none⟩ = some (.string x.data) ∧ w.cell? ⟨g, k * 7 + 3, none⟩ = some (.int .i64 x.st.wall) ∧
      w.cell? ⟨g, k * 7 + 4, none⟩ = some (.int .i64 x.st.logic) ∧ w.cell? ⟨g, k * 7 + 5, none⟩ = some (.int .i64 x.st.node) ∧ w.cell? ⟨g, k * 7 + 6, none⟩ = some (.int .i64 x.index) := by
  obtain ⟨b, o, e, _, hc⟩ := h.sl.get hx
  cases e
  refine ⟨?_, ?_, ?_, ?_, ?_, ?_, ?_⟩
  · simpa using hc 0 _ rfl
  · simpa using hc 1 _ rfl
  · simpa using hc 2 _ rfl
  · simpa using hc 3 _ rfl
  · simpa using hc 4 _ rfl
  · simpa using hc 5 _ rfl
  · simpa using hc 6 _ rfl
theorem Row.frz {w : World} {g c : Nat} {xs : List Ev} (h : Row w g c xs) (o : Nat) : w.frozen? ⟨g, o, none⟩ = false := by
  obtain ⟨cur, h1, _⟩ := h
  simp [World.frozen?, h1]
/-- What a push leaves. -/
def Pushed (w : World) (pb base : Nat) (v : Value) (xs : List Ev) (x : Ev) (w' : World) : Prop :=
  ∃ g c ys, PileAt w' pb g c ys ∧ ys.length = xs.length + 1 ∧ base ≤ g ∧ (∀ y, y ∈ ys ↔ y = x ∨ y ∈ xs) ∧ HeapOk ys ∧ But (fun k => k = pb ∨ some k = v.ownBlock) w w'
set_option maxHeartbeats 2000000 in
theorem push_any (xs : List Ev) (v : Value) (pb base : Nat) (s d : ByteArray) (ver x y z i : Int) (w : World) (hbase : base ≤ w.heap.size) (hp : w.heap[pb]? = some (.cells #[v] 104 (0, 0))) (hown : OwnL 32 7 Ev.cells w base v xs) (hl : xs.length ≤ 4294967296) (hok : HeapOk xs) :
    Calls Tryd.prog 50 #[.pointer (some ⟨pb, 0, none⟩), .agg #[.string s, .int .i64 ver, .string d, .int .i64 x, .int .i64 y, .int .i64 z, .int .i64 i]] w
      fun e w' => e = .returned (.tuple #[]) ∧ Pushed w pb base v xs ⟨s, ver, d, ⟨x, y, z⟩, i⟩ w' := by
  go_enter Tryd.func50, Tryd.ntmps50
  go_wp2_with fail
  generalize hW0 : w.alloc (.cells #[.string s, .int .i64 ver, .string d, .int .i64 x, .int .i64 y, .int .i64 z, .int .i64 i] 32) = W0
  have hG0 : G w W0 := by rw [← hW0]; exact G.new _ _
  have hsz : W0.heap.size = w.heap.size + 1 := by rw [← hW0]; simp
  have hpl := blk_lt hp
  have hp0 := hG0.blk hp
  have hown0 := hown.g hG0
  have q0 : ∀ j, j < 7 → ∀ w', G W0 w' → w'.cell? ⟨w.heap.size, j, none⟩ = (⟨s, ver, d, ⟨x, y, z⟩, i⟩ : Ev).cells[j]? := fun j _ w' hg => by
    rw [hg.cell (by omega), ← hW0, blk_cell (blk_new _ _ _)]; exact List.getElem?_toArray
  have c0 : W0.cell? ⟨w.heap.size, 0, none⟩ = some (.string s) := q0 0 (by omega) _ (G.refl _)
  have c1 : W0.cell? ⟨w.heap.size, 1, none⟩ = some (.int .i64 ver) := q0 1 (by omega) _ (G.refl _)
  have c2 : W0.cell? ⟨w.heap.size, 2, none⟩ = some (.string d) := q0 2 (by omega) _ (G.refl _)
  have c3 : W0.cell? ⟨w.heap.size, 3, none⟩ = some (.int .i64 x) := q0 3 (by omega) _ (G.refl _)
  have c4 : W0.cell? ⟨w.heap.size, 4, none⟩ = some (.int .i64 y) := q0 4 (by omega) _ (G.refl _)
  have c5 : W0.cell? ⟨w.heap.size, 5, none⟩ = some (.int .i64 z) := q0 5 (by omega) _ (G.refl _)
  have c6 : W0.cell? ⟨w.heap.size, 6, none⟩ = some (.int .i64 i) := q0 6 (by omega) _ (G.refl _)
  have c7 : W0.cell? ⟨pb, 0, none⟩ = some v := by rw [blk_cell hp0]; rfl
  have c8 : ∀ o, (W0.alloc o).cell? ⟨pb, 0, none⟩ = some v := fun o => by rw [(G.new W0 o).cell (by omega)]; exact c7
  have hne : ¬ some pb = v.ownBlock := by
    intro e
    rcases hown.row with ⟨rfl, _⟩ | ⟨g, c', rfl, _, cur, h1, _⟩
    · cases e
    · cases e
      rw [hp] at h1
      simp at h1
  clear hW0 q0
  replace hp := Lib.hid hp
  replace hp0 := Lib.hid hp0
  replace hown := Lib.hid hown
  replace hown0 := Lib.hid hown0
  replace hok := Lib.hid hok
  go_cut [] (fun wx => ∃ g c', PileAt wx pb g c' (xs ++ [(⟨s, ver, d, ⟨x, y, z⟩, i⟩ : Ev)]) ∧ base ≤ g ∧ But (fun k => k = pb ∨ some k = v.ownBlock) w wx ∧ (v.ownBlock = some g ∨ w.heap.size ≤ g))
  case first =>
    go_region_law (refine step_append_row _ rfl (.tmp 9) (.tmp 11) 104 (by kernel_rfl) rfl base v xs rfl (hown0.out.g (G.new _ _).drew) ⟨s, ver, d, ⟨x, y, z⟩, i⟩ (w.heap.size + 1) 1 rfl (blk_new' _ _ _ _ hsz.symm) (by omega) (by simp; omega) ?_; intro g c' w2 hrow hbg hbut hwh; have hp2 := hbut.blk ((G.new W0 _).drew.blk hp0.out) hne; have hpc : w2.cell? ⟨pb, 0, none⟩ = some v := (by rw [blk_cell hp2]; rfl); have hpf : w2.frozen? ⟨pb, 0, none⟩ = false := (by simp [World.frozen?, hp2]); replace hp2 := Lib.hid hp2)
    all_goals
      go_wp2_with fail
      go_meet
      refine ⟨g, c', ⟨?_, hrow.set_far (hrow.ne hp2.out) _⟩, hbg, ?_, hwh.imp id (fun h => Nat.le_trans ?_ h)⟩
      · rw [List.length_append]
        exact blk_set hp2.out 0 _
      · exact (((But.of_g hG0).g (G.new _ _).drew).trans (hbut.mono fun k _ h => .inr h)).set (.inr (.inl rfl)) _
      · exact (hG0.trans (G.new _ _).drew).size
  case rest =>
    obtain ⟨g, c', ⟨hp1, hrow⟩, hbg, hbut, hwh⟩ := hcut
    have hp2 : wc.cell? ⟨pb, 0, none⟩ = some (.slice (some ⟨g, 0, none⟩) (xs.length + 1) c') := by
      rw [blk_cell hp1, List.length_append]; rfl
    have hS : ∀ k, k = g → (w.heap.size ≤ k ∨ (k = pb ∨ some k = v.ownBlock)) := by
      rintro k rfl
      rcases hwh with h | h
      · exact .inr (.inr h.symm)
      · exact .inl h
    have hup : UpOk (xs ++ [(⟨s, ver, d, ⟨x, y, z⟩, i⟩ : Ev)]) xs.length := UpOk.start hok.out _
    have hmem : ∀ t, t ∈ xs ++ [(⟨s, ver, d, ⟨x, y, z⟩, i⟩ : Ev)] ↔ t = ⟨s, ver, d, ⟨x, y, z⟩, i⟩ ∨ t ∈ xs := fun t => by simp [or_comm]
    have hlen : (xs ++ [(⟨s, ver, d, ⟨x, y, z⟩, i⟩ : Ev)]).length = xs.length + 1 := by simp
    generalize xs ++ [(⟨s, ver, d, ⟨x, y, z⟩, i⟩ : Ev)] = zs at *
    replace hup := Lib.hid hup
    replace hmem := Lib.hid hmem
    replace hlen := Lib.hid hlen
    replace hp1 := Lib.hid hp1
    replace hS := Lib.hid hS
    clear hwh hown hown0 hp hp0 hne c0 c1 c2 c3 c4 c5 c6 c7 c8 hsz hG0 hpl
    go_wp2_with fail
    go_loopw [5] (fun i5 wr => ∃ (k : Nat) (ys : List Ev), k ≤ xs.length ∧ i5 = .int .i64 k ∧ Hid (ys.length = xs.length + 1) ∧ Hid (wr.heap[pb]? = some (.cells #[.slice (some ⟨g, 0, none⟩) (xs.length + 1) c'] 104 (0, 0))) ∧ Row wr g c' ys ∧ But (fun k => k = pb ∨ some k = v.ownBlock) w wr ∧ Hid (UpOk ys k) ∧ Hid (∀ t, t ∈ ys ↔ t = ⟨s, ver, d, ⟨x, y, z⟩, i⟩ ∨ t ∈ xs)) (fun i5 _ => (intOf i5).toNat)
    case atStart => exact ⟨xs.length, zs, Nat.le_refl _, rfl, hlen, by have := hp1.out; rw [hlen.out] at this; exact this, hrow, hbut, hup, hmem⟩
    case round =>
      obtain ⟨k, ys, hk, rfl, hyl, hpr, hrr, hbr, hupr, hmr⟩ := hrel
      have hfin : HeapOk ys → Pushed w pb base v xs ⟨s, ver, d, ⟨x, y, z⟩, i⟩ wr := fun h => ⟨g, c', ys, ⟨by rw [hyl.out]; exact hpr.out, hrr⟩, hyl.out, hbg, hmr.out, h, hbr⟩
      replace hfin := Lib.hid hfin
      by_cases hk0 : k = 0
      · subst hk0
        go_wp2_with fail
        go_end0
        exact ⟨rfl, hfin.out hupr.out.root⟩
      · obtain ⟨a, ha⟩ : ∃ a, ys[k]? = some a := ⟨_, List.getElem?_eq_getElem (by rw [hyl.out]; omega)⟩
        obtain ⟨b, hb⟩ : ∃ b, ys[(k - 1) / 2]? = some b := ⟨_, List.getElem?_eq_getElem (by rw [hyl.out]; omega)⟩
        obtain ⟨q, hq⟩ : ∃ q, (k - 1) / 2 = q := ⟨_, rfl⟩
        have n1 : (0 : Int) < ↑k := by omega
        have n2 : IntKind.i64.wrap (↑k - 1) = ↑k - 1 := IntWalk.i64_in _ (by omega)
        have n3 : ((k : Int) - 1).tdiv 2 = ↑q := by rw [Int.tdiv_eq_ediv_of_nonneg (by omega)]; omega
        have hlst := least_any ys (some ⟨g, 0, none⟩) c' wr.heap.size wr (Nat.le_refl _) (by rw [hyl.out]; omega) hrr.sl k ((k - 1) / 2) a b ha hb
        rw [hyl.out, hq] at hlst
        go_wp2_with fail
        refine hlst.mono ?_
        rintro e w2 ⟨rfl, hg2⟩
        cases hfl : fl a b with
        | false =>
          have hfin2 : Pushed w pb base v xs ⟨s, ver, d, ⟨x, y, z⟩, i⟩ w2 := ⟨g, c', ys, ⟨by rw [hyl.out]; exact hg2.blk hpr.out, hrr.g hg2⟩, hyl.out, hbg, hmr.out, hupr.out.stop ha hb hfl, hbr.g hg2⟩
          go_wp2_with fail
          go_end0
          exact ⟨rfl, hfin2⟩
        | true =>
          go_wp2_with fail
          have hr2 := hrr.g hg2
          obtain ⟨a0, a1, a2, a3, a4, a5, a6⟩ := hr2.ev ha
          obtain ⟨b0, b1, b2, b3, b4, b5, b6⟩ := hr2.ev hb
          have hfz := hr2.frz
          rw [hq] at b0 b1 b2 b3 b4 b5 b6
          have m1 : (0 : Int) ≤ ↑k := by clear n2 n3; omega
          have m2 : (k : Int) < ↑xs.length + 1 := by clear n2 n3; omega
          have m3 : (0 : Int) ≤ ↑q := by clear n2 n3; omega
          have m4 : (q : Int) < ↑xs.length + 1 := by clear n2 n3; omega
          have m5 : q < k := by clear n2 n3; omega
          replace ha := Lib.hid ha
          replace hb := Lib.hid hb
          replace hq := Lib.hid hq
          replace hrr := Lib.hid hrr
          replace hr2 := Lib.hid hr2
          clear hlst hp2
          go_region
          have hr3 : Row (st7 (st7 w2 g (k * 7) b) g (q * 7) a).drew g c' (swp ys k q a b) := ((hr2.out.st7 (by rw [hyl.out]; omega) b).st7 (by rw [List.length_set, hyl.out]; omega) a).g (G.refl _).drew
          have hb3 : But (fun k => k = g) w2 (st7 (st7 w2 g (k * 7) b) g (q * 7) a).drew := ((st7_but _ _ _ _).trans (st7_but _ _ _ _)).drew
          change Exit.inBlock 1 (Exit.then _ _) Exit.normal _ (st7 (st7 w2 g (k * 7) b) g (q * 7) a).drew
          generalize (st7 (st7 w2 g (k * 7) b) g (q * 7) a).drew = W3 at hr3 hb3 ⊢
          have hp3 : W3.heap[pb]? = some (.cells #[.slice (some ⟨g, 0, none⟩) (xs.length + 1) c'] 104 (0, 0)) := hb3.blk (hg2.blk hpr.out) (fun e => hrr.out.ne hpr.out e.symm)
          have hbw : But (fun k => k = pb ∨ some k = v.ownBlock) w W3 := (hbr.g hg2).over hb3 hS.out
          have hu3 : UpOk (swp ys k q a b) q := by rw [← hq.out]; exact hupr.out.go (by omega) ha.out hb.out hfl
          have hm3 : ∀ t, t ∈ swp ys k q a b ↔ t = ⟨s, ver, d, ⟨x, y, z⟩, i⟩ ∨ t ∈ xs := fun t => (swp_mem ha.out (by rw [← hq.out]; exact hb.out) t).trans (hmr.out t)
          have hl3 : (swp ys k q a b).length = xs.length + 1 := by rw [swp_length]; exact hyl.out
          replace hp3 := Lib.hid hp3
          replace hu3 := Lib.hid hu3
          replace hm3 := Lib.hid hm3
          replace hl3 := Lib.hid hl3
          clear hb3 a0 a1 a2 a3 a4 a5 a6 b0 b1 b2 b3 b4 b5 b6 hfz
          go_wp2_with fail
          go_roundw
          case rel => exact ⟨q, swp ys k q a b, by clear n2 n3; omega, rfl, hl3, hp3, hr3, hbw, hu3, hm3⟩
          case measure => simp [intOf]; omega
end Go.Proofs.YthhhobfdlgmjlaaDoor

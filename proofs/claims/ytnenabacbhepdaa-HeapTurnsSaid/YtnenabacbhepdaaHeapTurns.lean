/- penstocklaw18.HeapTurns returns true for every input and leaves its arguments as they were. No condition. -/
import Derived.Test.YtnenabacbhepdaaPlaces
import Derived.Test.YtnenabacbhepdaaReadLogs
import Derived.Test.YtnenabacbhepdaaRows
namespace Go.Proofs.Ytnenabacbhepdaa.heapTurns
open Go.RowKit

theorem log_elem : IsElem Try.prog 34 31 1 24 LogM.cells :=
  isElem_of (z := .slice none 0 0) Try.underlying34 (by kernel_rfl) rfl (by omega) LogM.cells_len (by intro x u hu; simp [LogM.cells] at hu; subst hu; rfl)
theorem ev_keepT {e' : TypeId} {base base' : Nat} {w w' : World} {v : Value} {xs : List Ev} (h : OwnL 44 7 Ev.cells w base v xs) (k : KeepT e' base' w w') (hne : 44 ≠ e') : OwnL 44 7 Ev.cells w' base v xs := by
  refine ⟨h.1, ?_⟩
  rcases h.2 with h1 | ⟨g, cap, cur, hv, hb, hh, hr⟩
  · exact .inl h1
  · exact .inr ⟨g, cap, cur, hv, hb, k.2 g cur _ _ hne hh, hr⟩
theorem own_sl {w : World} {base : Nat} {A : Option Addr} {c : Nat} {xs : List Ev} (h : OwnL 44 7 Ev.cells w base (.slice A xs.length c) xs) : Sl Ev.cells 7 w w.heap.size A xs := by
  obtain ⟨A', c', e, _, _, h2⟩ := OwnL.sl Ev.cells_len h
  cases e
  exact h2
/-- Logs of the call's own. -/
def LogsOwn (w : World) (base : Nat) (tl : List LogM) : Prop := ∀ l ∈ tl, OwnL 44 7 Ev.cells w base (.slice l.A l.es.length l.c) l.es
theorem LogsOwn.ok {w : World} {base : Nat} {tl : List LogM} (h : LogsOwn w base tl) : ∀ l ∈ tl, l.ok w w.heap.size := fun l hl => by
  obtain ⟨A, c, e, h1, h2, h3⟩ := OwnL.sl Ev.cells_len (h l hl)
  cases e
  exact ⟨h3, h1, h2⟩
theorem LogsOwn.g {w w' : World} {base : Nat} {tl : List LogM} (h : LogsOwn w base tl) (hg : G w w') : LogsOwn w' base tl := fun l hl => (h l hl).g hg
theorem LogsOwn.keepT {e' : TypeId} {w w' : World} {base base' : Nat} {tl : List LogM} (h : LogsOwn w base tl) (hk : KeepT e' base' w w') (hne : 44 ≠ e') : LogsOwn w' base tl := fun l hl => ev_keepT (h l hl) hk hne
/-- The logs turned, each of them turned. -/
def Turned (ls tl : List LogM) : Prop := tl.map (fun l => l.es) = ls.reverse.map fun l => l.es.reverse
theorem Turned.snoc {ls tl : List LogM} {m : Nat} {l x : LogM} (hl : ls[m]? = some l) (hx : x.es = l.es.reverse) (h : Turned (ls.drop (m + 1)) tl) : Turned (ls.drop m) (tl ++ [x]) := by
  obtain ⟨hk, rfl⟩ := List.getElem?_eq_some_iff.1 hl
  unfold Turned at *
  rw [List.drop_eq_getElem_cons hk, List.reverse_cons, List.map_append, List.map_append, h]
  simp [hx]
theorem Turned.mem {ls tl : List LogM} (h : Turned ls tl) (y : Ev) : inLogs tl y ↔ inLogs ls y := by
  have h1 : inLogs tl y ↔ ∃ e ∈ tl.map (fun l => l.es), y ∈ e := by
    unfold inLogs
    constructor
    · rintro ⟨l, hl, hy⟩; exact ⟨_, List.mem_map.2 ⟨l, hl, rfl⟩, hy⟩
    · rintro ⟨e, he, hy⟩
      obtain ⟨l, hl, rfl⟩ := List.mem_map.1 he
      exact ⟨l, hl, hy⟩
  rw [h1, h]
  unfold inLogs
  constructor
  · rintro ⟨e, he, hy⟩
    obtain ⟨l, hl, rfl⟩ := List.mem_map.1 he
    exact ⟨l, List.mem_reverse.1 hl, List.mem_reverse.1 hy⟩
  · rintro ⟨l, hl, hy⟩
    exact ⟨_, List.mem_map.2 ⟨l, List.mem_reverse.2 hl, rfl⟩, List.mem_reverse.2 hy⟩
theorem Turned.length {ls tl : List LogM} (h : Turned ls tl) : tl.length = ls.length := by
  have := congrArg List.length h
  simpa using this
theorem sum_rev (l : List Nat) : l.reverse.sum = l.sum := by
  induction l with
  | nil => rfl
  | cons a l ih => rw [List.reverse_cons, List.sum_append, ih]; simp; omega
theorem Turned.tally {ls tl : List LogM} (h : Turned ls tl) : evTally tl = evTally ls := by
  have h1 : ∀ ls : List LogM, evTally ls = ((ls.map fun l => l.es).map List.length).sum := fun ls => by simp [evTally, Function.comp_def]
  rw [h1, h, evTally, List.map_map, List.map_reverse, sum_rev]
  simp [Function.comp_def]
theorem inLogs_append (a b : List LogM) (y : Ev) : inLogs (a ++ b) y ↔ inLogs a y ∨ inLogs b y := by
  simp only [inLogs, List.mem_append]
  constructor
  · rintro ⟨l, h1 | h1, h2⟩
    · exact .inl ⟨l, h1, h2⟩
    · exact .inr ⟨l, h1, h2⟩
  · rintro (⟨l, h1, h2⟩ | ⟨l, h1, h2⟩)
    · exact ⟨l, .inl h1, h2⟩
    · exact ⟨l, .inr h1, h2⟩
theorem evTally_append (a b : List LogM) : evTally (a ++ b) = evTally a + evTally b := by simp [evTally]
theorem rev_snoc {es : List Ev} {p : Nat} {x : Ev} (h : es[p]? = some x) : (es.drop p).reverse = (es.drop (p + 1)).reverse ++ [x] := by
  obtain ⟨hk, rfl⟩ := List.getElem?_eq_some_iff.1 h
  rw [List.drop_eq_getElem_cons hk, List.reverse_cons]
/-- append inside a guarded part. -/
theorem step_append_guarded {α : Type} {P : Program} {t e : TypeId} {sz bytes : Nat} {f : α → List Value} (he : IsElem P t e sz bytes f) {ops : Array Oper} {o : Oper} {a : Act} {K : Act → World → Prop} {Q : Exit → Act → World → Prop} {E : Prop} (w : World) (hgd : Region.wanted o (yielded ops a.tmps) = true) (s x : Operand)
    (ho : o.op = .call { callee := .builtin .append, args := #[s, x], argTypes := #[t, t] })
    (base : Nat) (v : Value) (xs : List α) (hv : a.eval s = v) (hown : OwnL e sz f w base v xs) (B : Nat) (A : Option Addr) (c : Nat) (ys : List α) (hx : a.eval x = .slice A ys.length c) (hA : A = none → ys = [])
    (hs : Sl f sz w B A ys) (hlen : xs.length + ys.length ≤ 9223372036854775807) (hby : (xs.length + ys.length) * bytes ≤ 140737488355328) (hbase : base ≤ w.heap.size)
    (h : ∀ v' w', OwnL e sz f w' base v' (xs ++ ys) → KeepT e base w w' → (v ≠ .slice none 0 0 → v' ≠ .slice none 0 0) → K (a.put o.dst v') w') :
    if Region.wanted o (yielded ops a.tmps) = true then Oper.wp P o a w K Q else E := by
  rw [if_pos hgd]
  exact wp_append_list he w s x ho base v xs hv hown B A c ys hx hA hs hlen hby hbase h
set_option maxHeartbeats 2000000 in
theorem walk (ls : List LogM) (A : Option Addr) (c : Nat) (ax ay az cx cy cz ci : Int) (cs : ByteArray) (max : Int) (w : World) (hl : ls.length ≤ 9223372036854775807) (hx : ∀ l ∈ ls, EvsOk l.es) (hs : LogsIn w w.heap.size A ls) (hcs : cs.size ≤ 9223372036854775807) :
    Calls Try.prog 5 #[.slice A ls.length c, .agg #[.int .i64 ax, .int .i64 ay, .int .i64 az], .agg #[.int .i64 cx, .int .i64 cy, .int .i64 cz, .int .i64 ci, .string cs], .int .i64 max] w fun e w' => e = .returned (.bool true) ∧ G w w' := by
  go_enter Try.func5, Try.ntmps5
  go_wp2_with fail
  generalize hW0 : (w.alloc (.cells #[.int .i64 ax, .int .i64 ay, .int .i64 az] 27)).alloc (.cells #[.int .i64 cx, .int .i64 cy, .int .i64 cz, .int .i64 ci, .string cs] 42) = W0
  have hz : w.heap.size + 1 < W0.heap.size := by rw [← hW0]; simp
  have hG0 : G w W0 := by rw [← hW0]; exact (G.new _ _).alloc _
  have r0 : W0.cell? ⟨w.heap.size, 0, none⟩ = some (.int .i64 ax) := by rw [← hW0]; simp
  have r1 : W0.cell? ⟨w.heap.size, 1, none⟩ = some (.int .i64 ay) := by rw [← hW0]; simp
  have r2 : W0.cell? ⟨w.heap.size, 2, none⟩ = some (.int .i64 az) := by rw [← hW0]; simp
  have r3 : W0.cell? ⟨w.heap.size + 1, 0, none⟩ = some (.int .i64 cx) := by rw [← hW0]; simp
  have r4 : W0.cell? ⟨w.heap.size + 1, 1, none⟩ = some (.int .i64 cy) := by rw [← hW0]; simp
  have r5 : W0.cell? ⟨w.heap.size + 1, 2, none⟩ = some (.int .i64 cz) := by rw [← hW0]; simp
  have r6 : W0.cell? ⟨w.heap.size + 1, 3, none⟩ = some (.int .i64 ci) := by rw [← hW0]; simp
  have r7 : W0.cell? ⟨w.heap.size + 1, 4, none⟩ = some (.string cs) := by rw [← hW0]; simp
  clear hW0
  have q0 : ∀ w', G W0 w' → w'.cell? ⟨w.heap.size, 0, none⟩ = some (.int .i64 ax) := fun w' h => (h.cell (by omega)).trans r0
  have q1 : ∀ w', G W0 w' → w'.cell? ⟨w.heap.size, 1, none⟩ = some (.int .i64 ay) := fun w' h => (h.cell (by omega)).trans r1
  have q2 : ∀ w', G W0 w' → w'.cell? ⟨w.heap.size, 2, none⟩ = some (.int .i64 az) := fun w' h => (h.cell (by omega)).trans r2
  have q3 : ∀ w', G W0 w' → w'.cell? ⟨w.heap.size + 1, 0, none⟩ = some (.int .i64 cx) := fun w' h => (h.cell (by omega)).trans r3
  have q4 : ∀ w', G W0 w' → w'.cell? ⟨w.heap.size + 1, 1, none⟩ = some (.int .i64 cy) := fun w' h => (h.cell (by omega)).trans r4
  have q5 : ∀ w', G W0 w' → w'.cell? ⟨w.heap.size + 1, 2, none⟩ = some (.int .i64 cz) := fun w' h => (h.cell (by omega)).trans r5
  have q6 : ∀ w', G W0 w' → w'.cell? ⟨w.heap.size + 1, 3, none⟩ = some (.int .i64 ci) := fun w' h => (h.cell (by omega)).trans r6
  have q7 : ∀ w', G W0 w' → w'.cell? ⟨w.heap.size + 1, 4, none⟩ = some (.string cs) := fun w' h => (h.cell (by omega)).trans r7
  clear r0 r1 r2 r3 r4 r5 r6 r7
  refine (small18_any ls A c w.heap.size W0 (by omega) (by omega) hx (hs.g (Nat.le_refl _) hG0)).mono ?_
  rintro e w1 ⟨rfl, hg1⟩
  have hlen : smallB 150 10 ls = true → evTally ls ≤ 150 ∧ ls.length ≤ 10 := fun h => by
    have := small_len (by omega) (by omega) h
    refine ⟨?_, by omega⟩
    rw [tally_int]; omega
  replace hlen := Lib.hid hlen
  cases hsm : smallB 150 10 ls with
  | false =>
    go_wp2_with fail
    refine (awake18_any _).mono ?_
    rintro e w9 ⟨rfl, hg9⟩
    go_wp2_with fail
    go_ret
    exact ⟨rfl, hG0.trans (hg1.trans hg9)⟩
  | true =>
    obtain ⟨htl, hl10⟩ := hlen.out hsm
    by_cases h300 : (300 : Int) < cs.size
    · go_wp2_with fail
      refine (awake18_any _).mono ?_
      rintro e w9 ⟨rfl, hg9⟩
      go_wp2_with fail
      go_ret
      exact ⟨rfl, hG0.trans (hg1.trans hg9)⟩
    · go_wp2_with fail
      go_loopw [9, 10] (fun v i wr => ∃ (j : Nat) (z : Int) (tl : List LogM), Hid (z = (j : Int) - 1) ∧ -1 ≤ z ∧ z < ls.length ∧ i = .int .i64 z ∧ OwnL 31 1 LogM.cells wr W0.heap.size v tl ∧ Hid (LogsOwn wr W0.heap.size tl) ∧ Hid (Turned (ls.drop j) tl) ∧ tl.length ≤ ls.length ∧ G W0 wr) (fun _ i _ => (intOf i + 1).toNat)
      case atStart => exact ⟨ls.length, _, [], rfl, by omega, by omega, rfl, OwnL.nil, by simp [Hid, LogsOwn], by simp [Hid, Turned], by simp, hg1⟩
      case round =>
        obtain ⟨j, z, tl, hz, hz1, hz2, rfl, hown, hlo, htu, htll, hg⟩ := hrel
        by_cases hz0 : 0 ≤ z
        · obtain ⟨m, rfl⟩ := Int.eq_ofNat_of_zero_le hz0
          obtain rfl : j = m + 1 := by have := hz.out; omega
          have htll2 : tl.length < ls.length := by
            have := htu.out.length
            rw [List.length_drop] at this
            omega
          obtain ⟨⟨lA, lc, les⟩, hl1⟩ : ∃ l, ls[m]? = some l := ⟨_, List.getElem?_eq_getElem (by omega)⟩
          obtain ⟨b, o, rfl, hb, hcell, hok⟩ := hs.at_ (Nat.le_refl _) hl1
          have hcw := hcell wr (hG0.trans hg)
          obtain ⟨hls, hlc, hlm⟩ := hok w (G.refl _)
          have hlel : les.length ≤ 150 := by
            have h1 := evTally_take hl1
            have h2 := evTally_le ls (m + 1)
            dsimp only at h1
            omega
          replace hl1 := Lib.hid hl1
          clear hok
          dsimp only at hcw hls hlc hlm hcell
          go_wp2_with fail
          obtain ⟨wq, rfl⟩ : ∃ wq : World, wq = wr := ⟨_, rfl⟩
          go_loopw [11, 12] (fun v i wr => ∃ (q : Nat) (z : Int), Hid (z = (q : Int) - 1) ∧ -1 ≤ z ∧ z < les.length ∧ i = .int .i64 z ∧ OwnL 44 7 Ev.cells wr wq.heap.size v (les.drop q).reverse ∧ G wq wr) (fun _ i _ => (intOf i + 1).toNat)
          case atStart => exact ⟨les.length, _, rfl, by omega, by omega, rfl, by simp; exact OwnL.nil, G.refl _⟩
          case round =>
            obtain ⟨q, z, hzq, hq1, hq2, rfl, hox, hgq⟩ := hrel
            have hcw2 := hcell wr (hG0.trans (hg.trans hgq))
            have hll : (les.drop q).reverse.length ≤ 150 := by simp; omega
            by_cases hq0 : 0 ≤ z
            · obtain ⟨p, rfl⟩ := Int.eq_ofNat_of_zero_le hq0
              obtain rfl : q = p + 1 := by have := hzq.out; omega
              obtain ⟨⟨es, ev, ed, ⟨ex, ey, ez⟩, ei⟩, hx1⟩ : ∃ x, les[p]? = some x := ⟨_, List.getElem?_eq_getElem (by omega)⟩
              have hsn := rev_snoc hx1
              obtain ⟨eb, eo, rfl, heb, c0, c1, c2, c3, c4, c5, c6⟩ := hls.evG (Nat.le_refl _) hx1
              have hgw := hG0.trans (hg.trans hgq)
              replace c0 := c0 _ hgw
              replace c1 := c1 _ hgw
              replace c2 := c2 _ hgw
              replace c3 := c3 _ hgw
              replace c4 := c4 _ hgw
              replace c5 := c5 _ hgw
              replace c6 := c6 _ hgw
              dsimp only at c0 c1 c2 c3 c4 c5 c6
              replace hsn := Lib.hid hsn
              replace hx1 := Lib.hid hx1
              generalize (les.drop (p + 1)).reverse = rv at *
              have hpl : (p : Int) < les.length := by omega
              go_wp2_with (at_builtin; refine wpList_append_list ev_elem _ rfl (.tmp 41) (.tmp 49) rfl wq.heap.size _ rv rfl (hox.g (G.new _ _)) (wr.heap.size + 1) (some ⟨wr.heap.size, 0, none⟩) 1 [⟨es, ev, ed, ⟨ex, ey, ez⟩, ei⟩] rfl (by intro h; cases h) (Sl.of_blk Ev.cells_len _ (blk_new _ _ _) rfl (by omega)) (by simp; omega) (by simp; omega) (by have := hgq.size; simp; omega) ?_; intro v' w' hown' hkeep _)
              go_roundw
              case rel => exact ⟨p, _, rfl, by omega, by omega, rfl, by rw [hsn.out]; exact hown', hkeep.g (hgq.alloc _)⟩
              case measure => (simp [intOf] <;> omega)
            · obtain rfl : q = 0 := by have := hzq.out; omega
              rw [List.drop_zero] at hox hll
              obtain ⟨xA, xc, rfl, hxc, hxm, hxs⟩ := OwnL.sl Ev.cells_len hox
              have hox2 := hox.mono hg.size
              go_wp2_with (at_builtin; refine wpList_append_list log_elem _ rfl (.tmp 51) (.tmp 53) rfl W0.heap.size _ tl rfl ((hown.g hgq).g (G.new _ _)) (wr.heap.size + 1) (some ⟨wr.heap.size, 0, none⟩) 1 [⟨xA, xc, les.reverse⟩] rfl (by intro h; cases h) (Sl.of_blk LogM.cells_len _ (blk_new _ _ _) (by simp [LogM.cells]) (by omega)) (by simp; omega) (by simp; omega) (by have := (hg.trans hgq).size; simp; omega) ?_; intro v' w' hown' hkeep _)
              have hlo2 : LogsOwn w' W0.heap.size (tl ++ [⟨xA, xc, les.reverse⟩]) := by
                intro l hl
                rcases List.mem_append.1 hl with hl | hl
                · exact (((hlo.out.g hgq).g (G.new _ _)).keepT hkeep (by decide)) l hl
                · rw [List.mem_singleton] at hl
                  subst hl
                  exact ev_keepT (hox2.g (G.new _ _)) hkeep (by decide)
              have htu2 : Turned (ls.drop m) (tl ++ [⟨xA, xc, les.reverse⟩]) := htu.out.snoc hl1.out rfl
              replace hlo2 := Lib.hid hlo2
              replace htu2 := Lib.hid htu2
              go_roundw
              case rel => exact ⟨m, _, _, rfl, by omega, by omega, rfl, hown', hlo2, htu2, by simp; omega, hkeep.g ((hg.trans hgq).alloc _)⟩
              case measure => (simp [intOf] <;> omega)
        · obtain rfl : j = 0 := by have := hz.out; omega
          rw [List.drop_zero] at htu
          have htl2 := htu.out.tally
          have hmem := htu.out.mem
          replace hmem := Lib.hid hmem
          obtain ⟨tA, tc, rfl, htc, htm, hts⟩ := OwnL.sl LogM.cells_len hown
          have hgw := hG0.trans hg
          go_wp2_with fail
          refine (one18_any ls A c w.heap.size wr hgw.size hl (by omega) (hs.g (Nat.le_refl _) hgw)).mono ?_
          rintro e w3 ⟨b1, rfl, _, hg3⟩
          cases b1 with
          | false =>
            have hg03 := hg.trans hg3
            go_wp2_with fail
            refine (awake18_any _).mono ?_
            rintro e w9 ⟨rfl, hg9⟩
            go_wp2_with fail
            go_ret
            exact ⟨rfl, hG0.trans (hg03.trans hg9)⟩
          | true =>
            have hg03 := hg.trans hg3
            go_wp2_with fail
            refine (merge_any ls A c w.heap.size ax ay az cx cy cz ci cs max w3 (hG0.trans hg03).size hl (by omega) (hs.g (Nat.le_refl _) (hG0.trans hg03))).mono ?_
            rintro e w5 ⟨xs, hfx, hxl, vx, rfl, hox, hg4⟩
            have hg35 := hg3.trans hg4
            have hg05 := hg.trans hg35
            obtain ⟨xA, xc, rfl, hxc, hxm, hsx⟩ := OwnL.sl Ev.cells_len hox
            have hT : ∀ w', G w5 w' → LogsIn w' w'.heap.size tA tl := fun w' h =>
              ⟨(hts.g (Nat.le_refl _) (hg35.trans h)).more (hg35.trans h).size, (hlo.out.g (hg35.trans h)).ok⟩
            have hX : ∀ w', G w5 w' → OwnL 44 7 Ev.cells w' w3.heap.size (.slice xA xs.length xc) xs := fun w' h => hox.g h
            have hO : ∀ w', G w5 w' → OwnL 31 1 LogM.cells w' W0.heap.size (.slice tA tl.length tc) tl := fun w' h => hown.g (hg35.trans h)
            have hL : ∀ w', G w5 w' → LogsOwn w' W0.heap.size tl := fun w' h => hlo.out.g (hg35.trans h)
            have hS : ∀ w', G W0 w' → LogsIn w' w.heap.size A ls := fun w' h => hs.g (Nat.le_refl _) (hG0.trans h)
            have hN : A = none → ls = [] := fun h => by
              have := hs.1
              rw [h] at this
              exact this.of_none
            have hU : ∀ out, IsFirst (mergeF tl ⟨ax, ay, az⟩ ⟨⟨cx, cy, cz⟩, ci, cs⟩) max out → xs = out := fun out h => (IsFirst.same_logs (fun y => (hmem.out y).symm) hfx h).symm
            have hU2 : ∀ out, IsFirst (mergeF (tl ++ ls) ⟨ax, ay, az⟩ ⟨⟨cx, cy, cz⟩, ci, cs⟩) max out → xs = out := fun out h => (IsFirst.same_logs (fun y => by rw [inLogs_append, hmem.out y, or_self]) hfx h).symm
            replace hT := Lib.hid hT
            replace hX := Lib.hid hX
            replace hO := Lib.hid hO
            replace hL := Lib.hid hL
            replace hS := Lib.hid hS
            replace hN := Lib.hid hN
            replace hU := Lib.hid hU
            replace hU2 := Lib.hid hU2
            have htal : evTally (tl ++ ls) ≤ 4294967295 := by rw [evTally_append]; omega
            clear hown hlo htu hmem hs hx hfx hox hsx hts hg35 hg4 hg3 hg03 hz hg1 hg
            go_wp2_with fail
            go_region_held3? (fun w' => G W0 w') (first | exact hg05.drew | exact hgm.keep (by assumption) | exact hkeep.g (by assumption) | fail)
              (first
                | (go_at_call 26; (with_reducible refine (merge_any tl tA tc (w5.drew).heap.size ax ay az cx cy cz ci cs max w5.drew (Nat.le_refl _) (by omega) (by omega) (hT.out _ (G.refl w5).drew)).mono ?_); rintro e w6 ⟨out, hf, _, v6, rfl, ho6, hgm⟩; obtain rfl := hU.out _ hf; have hg56 := (G.refl w5).drew.trans hgm; obtain ⟨A6, c6, rfl, hc6, hm6, hs6⟩ := OwnL.sl Ev.cells_len ho6; clear hf ho6)
                | (go_at_call 14; (with_reducible refine (sameEvents_self xs xA A6 xc c6 w6.heap.size w6 (Nat.le_refl _) (by omega) (own_sl (hX.out _ hg56)) hs6).mono ?_); rintro e w7 ⟨rfl, hgm⟩; have hg57 := hg56.trans hgm; clear hs6)
                | (go_at_call 14; (with_reducible refine (sameEvents_self xs xA A9 xc c9 w9.heap.size w9 (Nat.le_refl _) (by omega) (own_sl (hx8.g hgm)) hs9).mono ?_); rintro e w10 ⟨rfl, hgm⟩; clear hs9 hx8)
                | (go_at_call 24; refine (awake18_any _).mono ?_; rintro e wz ⟨rfl, hgm⟩)
                | (refine step_append_guarded log_elem _ rfl (.tmp 73) (.tmp 74) rfl W0.heap.size (.slice tA tl.length tc) tl rfl (hO.out _ hg57) w.heap.size A c ls rfl hN.out (hS.out _ (hg05.trans hg57)).1 (by omega) (by omega) (hg05.trans hg57).size ?_; intro v8 w8 hown8 hkeep _; have hg58 : G W0 w8 := hkeep.g (hg05.trans hg57); have hl8 := (hL.out _ hg57).keepT hkeep (by decide); have hx8 := ev_keepT (hX.out _ hg57) hkeep (by decide); obtain ⟨tt, htt⟩ : ∃ tt, tl ++ ls = tt := ⟨_, rfl⟩; rw [htt] at hown8; replace htt := Lib.hid htt; have httl : tt.length ≤ 20 := Nat.le_trans (Nat.le_of_eq ((congrArg List.length htt.out.symm).trans List.length_append)) (show tl.length + ls.length ≤ 20 from Nat.add_le_add (Nat.le_trans htll hl10) hl10); have hlo8 : ∀ l ∈ tt, l.ok w8 w8.heap.size := fun l hl => (by rw [← htt.out] at hl; exact (List.mem_append.1 hl).elim (hl8.ok l) (fun hl => (by obtain ⟨h1, h2⟩ := (hS.out _ hg58).2 l hl; exact ⟨h1.more (hG0.trans hg58).size, h2⟩))); obtain ⟨A8, c8, rfl, hc8, hm8, hs8⟩ := OwnL.sl LogM.cells_len hown8; have hlogs8 : LogsIn w8 w8.heap.size A8 tt := ⟨hs8, hlo8⟩; clear hown8 hs8 hlo8)
                | (go_at_call 26; (with_reducible refine (merge_any tt A8 c8 w8.heap.size ax ay az cx cy cz ci cs max w8 (Nat.le_refl _) (by omega) (by rw [← htt.out]; exact htal) hlogs8).mono ?_); rintro e w9 ⟨out, hf, _, v9, rfl, ho9, hgm⟩; obtain rfl := hU2.out _ (by rw [htt.out]; exact hf); have hg89 := hgm; obtain ⟨A9, c9, rfl, hc9, hm9, hs9⟩ := OwnL.sl Ev.cells_len ho9; clear hf ho9))
            go_wp2_with fail
            go_ret
            exact ⟨rfl, hG0.trans (by assumption)⟩

/-! The row's step, by the guide's shell. -/
open Go.ChangeShapes Go.WideShapes Go.ChangeAt
theorem own : ownKnob Try.prog.godebug = none := by kernel_rfl
theorem laidOut : laidOutB Try.prog = true := by kernel_rfl
set_option maxRecDepth 100000 in
theorem lifted (os : Os) (started : os.Started) (H : Type) (enc : TypeId × Value → H) :
    ReturnsInHanded {} Try.checked os 5 .any (Rows.heapTurnsSpec.pre6 enc Try.prog Try.f5 Rows.heapTurnsRow.domain false) (Rows.heapTurnsSpec.post enc Try.prog Try.f5 false true false false) := by
  refine returnsInHanded_of_change (C := Try.checked) own started (by kernel_rfl) Try.func5
    (ChangeSpec.witness6 (enc := enc) (C := Try.checked) false ⟨#[], #[.slice none 0 0, .agg #[.int .i64 0, .int .i64 0, .int .i64 0], .agg #[.int .i64 0, .int .i64 0, .int .i64 0, .int .i64 0, .string ByteArray.empty], .int .i64 0], []⟩ 8 (by kernel_rfl) (by kernel_rfl) (by kernel_rfl) (by kernel_rfl)) ?_
  intro W base args ds gs before hval0 hW hcnd _
  have hval : ∀ (j : Nat) t v, Try.f5.params[j]? = some t → args[j]? = some v → Value.okWide Try.prog W .any base t v := hval0
  have hW' := hW
  obtain ⟨p, q, hA0, hV, rfl, hfz, hnd⟩ := hW
  have hA : DataW.TrodAll enc Try.prog W 0 (fun _ => true) true Try.f5.params.toList args.toList ds p := hA0
  rw [Try.params5] at hA hval
  obtain ⟨v0, vs0, d0, ds0, p0, q0, hargs, rfl, rfl, h0, r0⟩ := trodAll_cons hA
  obtain ⟨v1, vs1, d1, ds1, p1, q1, rfl, rfl, rfl, h1, r1⟩ := trodAll_cons r0
  obtain ⟨v2, vs2, d2, ds2, p2, q2, rfl, rfl, rfl, h2, r2⟩ := trodAll_cons r1
  obtain ⟨v3, vs3, d3, ds3, p3, q3, rfl, rfl, rfl, h3, r3⟩ := trodAll_cons r2
  obtain ⟨rfl, rfl, rfl⟩ := trodAll_nil r3
  obtain rfl : args = #[v0, v1, v2, v3] := by cases args; simp_all
  obtain ⟨rfl, rfl⟩ := trodVars_none hV
  have lt0 : ∀ x ∈ p0, x.block < W.heap.size := by obtain ⟨m, hm⟩ := h0; exact DataW.trod_lt m _ _ _ hm
  have lt1 : ∀ x ∈ p1, x.block < W.heap.size := by obtain ⟨m, hm⟩ := h1; exact DataW.trod_lt m _ _ _ hm
  have lt2 : ∀ x ∈ p2, x.block < W.heap.size := by obtain ⟨m, hm⟩ := h2; exact DataW.trod_lt m _ _ _ hm
  have lt3 : ∀ x ∈ p3, x.block < W.heap.size := by obtain ⟨m, hm⟩ := h3; exact DataW.trod_lt m _ _ _ hm
  obtain ⟨A, c, ls, rfl, hs, hx, hl1, hl2⟩ := in_logs (hval 0 _ _ rfl rfl) h0
  obtain ⟨a, rfl, ha⟩ := in_st (hval 1 _ _ rfl rfl) h1
  obtain ⟨cu, rfl, hcu⟩ := in_cu (hval 2 _ _ rfl rfl) h2
  obtain ⟨m, rfl, hm⟩ := in_int (hval 3 _ _ rfl rfl) h3
  clear hA0 hval0
  refine (walk ls A c _ _ _ _ _ _ _ _ m W (by omega) (fun l hl => evsOk_of (hx l hl)) hs hcu.2.2).mono fun e W' ⟨he, hg⟩ => ?_
  have bel : Below W.heap.size W W' := hg
  subst he
  exact ⟨_, rfl, _, _, _, [], _, [], hW', trodAll_mk1 (shut_bool Try.underlying4 _), (trodAll_cons_mk (Below.trod laidOut (by kernel_rfl) (of_decide_eq_true (by kernel_rfl)) h0 bel lt0) (trodAll_cons_mk (Below.trod laidOut (by kernel_rfl) (of_decide_eq_true (by kernel_rfl)) h1 bel lt1) (trodAll_cons_mk (Below.trod laidOut (by kernel_rfl) (of_decide_eq_true (by kernel_rfl)) h2 bel lt2) (trodAll_cons_mk (Below.trod laidOut (by kernel_rfl) (of_decide_eq_true (by kernel_rfl)) h3 bel lt3) (trodAll_mk0))))), rfl, bel.frame _, fun h => by cases h⟩

theorem over : Rows.heapTurnsRow.holds Try.pinned (OpenSpec.ofChange Rows.heapTurnsSpec) :=
  OpenClaim.holds_of_wide 5 Try.f5 rfl rfl rfl rfl rfl rfl rfl ⟨rfl, rfl, rfl, rfl, rfl⟩ rfl rfl rfl rfl rfl (by kernel_rfl) Try.func5 (by kernel_rfl)
    (of_decide_eq_true (by kernel_rfl)) (by unfold Func.isWrapper; first | (rw [if_pos (by decide +kernel)]; kernel_rfl) | (rw [if_neg (by decide +kernel)]; exact ⟨rfl, rfl⟩))
    (fun os started H enc _ => lifted os started H enc)

theorem proved : Rows.HeapTurnsSaid := over
#print axioms proved
end Go.Proofs.Ytnenabacbhepdaa.heapTurns

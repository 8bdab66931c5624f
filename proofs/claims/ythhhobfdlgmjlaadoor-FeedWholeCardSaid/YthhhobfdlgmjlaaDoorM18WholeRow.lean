/- Several texts in one: FeedOnly, Cmp. -/
import Derived.Test.YthhhobfdlgmjlaaDoorM5WholeRow
import Derived.Test.YthhhobfdlgmjlaaDoorGlobMatchQWholeRow
import Derived.Test.YthhhobfdlgmjlaaDoorEv
/- feed.Only: those events whose stream a pattern stands for. Conditions: at most 40000 events, texts of at most 2^30 bytes. -/
namespace Go.Proofs.YthhhobfdlgmjlaaDoor
open Go.RowKit

/-- What a pattern takes. -/
def onlyL (p : ByteArray) (es : List Ev) : List Ev := es.filter fun x => matchB p x.stream
theorem onlyL_snoc {p : ByteArray} {es : List Ev} {k : Nat} {x : Ev} (h : es[k]? = some x) : onlyL p (es.take (k + 1)) = onlyL p (es.take k) ++ (if matchB p x.stream = true then [x] else []) := by
  unfold onlyL
  rw [List.take_add_one, h, List.filter_append]
  simp only [Option.toList]
  cases hm : matchB p x.stream <;> simp [hm]
theorem onlyL_len (p : ByteArray) (es : List Ev) : (onlyL p es).length ≤ es.length := List.length_filter_le _ _
set_option maxRecDepth 100000 in
set_option maxHeartbeats 2000000 in
theorem only_any (es : List Ev) (A : Option Addr) (c B : Nat) (p : ByteArray) (w : World) (hB : B ≤ w.heap.size) (hl : es.length ≤ 40000) (hs : Sl Ev.cells 7 w B A es) (hp : p.size ≤ 1073741824) (hx : ∀ x ∈ es, x.stream.size ≤ 1073741824) (hT : Tabs w) :
    Calls Tryd.prog 20 #[.slice A es.length c, .string p] w (RetEvs w (onlyL p es)) := by
  replace hT := Lib.hid hT
  replace hx := Lib.hid hx
  go_enter Tryd.func20, Tryd.ntmps20
  go_wp2_with fail
  go_loopw [4, 9] (fun v i wr => ∃ (k : Nat) (fs : List Ev), k ≤ es.length ∧ i = .int .i64 k ∧ Hid (fs = onlyL p (es.take k)) ∧ fs.length ≤ k ∧ OwnL 32 7 Ev.cells wr w.heap.size v fs ∧ G w wr) (fun _ i _ => es.length - (intOf i).toNat)
  case atStart => exact ⟨0, [], Nat.zero_le _, rfl, rfl, Nat.le_refl _, OwnL.nil, G.refl _⟩
  case round =>
    obtain ⟨k, fs, hk, rfl, hfs, hfl, hown, hg⟩ := hrel
    by_cases hlt : k < es.length
    · obtain ⟨⟨rs, rv, rd, ⟨rx, ry, rz⟩, ri⟩, hx1⟩ : ∃ x, es[k]? = some x := ⟨_, List.getElem?_eq_getElem hlt⟩
      obtain ⟨b, o, rfl, hb, c0, c1, c2, c3, c4, c5, c6⟩ := (hs.g hB hg).evG (Nat.le_trans hB hg.size) hx1
      have hrs := hx.out _ (List.mem_of_getElem? hx1)
      have hsn := onlyL_snoc (p := p) hx1
      rw [← hfs.out] at hsn
      dsimp only at hrs hsn
      replace c0 := c0 wr (G.refl _)
      replace c1 := c1 wr (G.refl _)
      replace c2 := c2 wr (G.refl _)
      replace c3 := c3 wr (G.refl _)
      replace c4 := c4 wr (G.refl _)
      replace c5 := c5 wr (G.refl _)
      replace c6 := c6 wr (G.refl _)
      dsimp only at c0 c1 c2 c3 c4 c5 c6
      have n1 : (0 : Int) ≤ (k : Int) := by omega
      have n2 : (k : Int) < (es.length : Int) := by omega
      replace hx1 := Lib.hid hx1
      replace hsn := Lib.hid hsn
      have hcall := match_any p rs (wr.alloc (.cells #[.string rs, .int .i64 rv, .string rd, .int .i64 rx, .int .i64 ry, .int .i64 rz, .int .i64 ri] 32)) hp hrs (hT.out.g (hg.alloc _))
      replace hcall := Lib.hid hcall
      go_wp2_with fail
      refine Calls.mono hcall.out ?_
      rintro e w2 ⟨rfl, hg2⟩
      have hE := hg2.blk (blk_new wr #[.string rs, .int .i64 rv, .string rd, .int .i64 rx, .int .i64 ry, .int .i64 rz, .int .i64 ri] 32)
      have hgw := (hg.alloc (.cells #[.string rs, .int .i64 rv, .string rd, .int .i64 rx, .int .i64 ry, .int .i64 rz, .int .i64 ri] 32)).trans hg2
      have hown2 := hown.g ((G.new wr _).trans hg2)
      clear hcall hg2 c0 c1 c2 c3 c4 c5 c6 hown
      cases hm : matchB p rs with
      | false =>
        rw [hm] at hsn
        have hsn2 : fs = onlyL p (es.take (k + 1)) := by rw [hsn.out]; simp
        replace hsn2 := Lib.hid hsn2
        replace hE := Lib.hid hE
        go_wp2_with fail
        go_roundw
        case rel => exact ⟨k + 1, fs, by omega, by go_num, hsn2, by omega, hown2, hgw⟩
        case measure => simp [intOf]; omega
      | true =>
        rw [hm] at hsn
        have hsn2 : fs ++ [⟨rs, rv, rd, ⟨rx, ry, rz⟩, ri⟩] = onlyL p (es.take (k + 1)) := by rw [hsn.out]; simp
        replace hsn2 := Lib.hid hsn2
        have d0 := (blk_cell hE 0).trans (show _ = some (Value.string rs) from rfl)
        have d1 := (blk_cell hE 1).trans (show _ = some (Value.int .i64 rv) from rfl)
        have d2 := (blk_cell hE 2).trans (show _ = some (Value.string rd) from rfl)
        have d3 := (blk_cell hE 3).trans (show _ = some (Value.int .i64 rx) from rfl)
        have d4 := (blk_cell hE 4).trans (show _ = some (Value.int .i64 ry) from rfl)
        have d5 := (blk_cell hE 5).trans (show _ = some (Value.int .i64 rz) from rfl)
        have d6 := (blk_cell hE 6).trans (show _ = some (Value.int .i64 ri) from rfl)
        replace hE := Lib.hid hE
        go_wp2_with (at_builtin; refine wpList_append_list ev_elem _ rfl (.tmp 17) (.tmp 19) rfl w.heap.size _ fs rfl (hown2.g (G.new _ _)) (w2.heap.size + 1) (some ⟨w2.heap.size, 0, none⟩) 1 [⟨rs, rv, rd, ⟨rx, ry, rz⟩, ri⟩] rfl (by intro h; cases h) (Sl.of_blk Ev.cells_len _ (blk_new _ _ _) rfl (by omega)) (by simp; omega) (by simp; omega) (by have := hgw.size; simp; omega) ?_; intro v' w' hown' hkeep _)
        go_roundw
        case rel => exact ⟨k + 1, _, by omega, by go_num, hsn2, by simp; omega, hown', hkeep.g (hgw.alloc _)⟩
        case measure => simp [intOf]; omega
    · obtain rfl : k = es.length := by omega
      rw [List.take_length] at hfs
      replace hown := Lib.hid hown
      go_wp2_with fail
      go_ret
      exact ⟨_, rfl, by rw [← hfs.out]; exact hown.out, hg⟩
end Go.Proofs.YthhhobfdlgmjlaaDoor
/- cmp.Compare and cmp.Or at int and string; the orders of stamps. No condition. -/
namespace Go.Proofs.YthhhobfdlgmjlaaDoor
open Go.RowKit

def cmpI (a b : Int) : Int := if a < b then -1 else if b < a then 1 else 0
def ltS (a b : ByteArray) : Bool := Op.bytesLess a.toList b.toList
def cmpS (a b : ByteArray) : Int := if ltS a b = true then -1 else if a = b then 0 else 1
def orOf : List Int → Int
  | [] => 0
  | x :: l => if x = 0 then orOf l else x
/-- A stamp is less than another one. -/
def stLt (a b : St) : Bool := if a.wall = b.wall then (if a.logic = b.logic then decide (a.node < b.node) else decide (a.logic < b.logic)) else decide (a.wall < b.wall)
/-- How two stamps compare, as a number. -/
def stCmp (a b : St) : Int := orOf [cmpI a.wall b.wall, cmpI a.logic b.logic, cmpI a.node b.node]
theorem cmpI_lt (a b : Int) : (cmpI a b < 0) ↔ a < b := by unfold cmpI; split <;> (try split) <;> omega
theorem cmpI_eq (a b : Int) : cmpI a b = 0 ↔ a = b := by unfold cmpI; split <;> (try split) <;> omega
theorem cmpI_b (a b : Int) : -1 ≤ cmpI a b ∧ cmpI a b ≤ 1 := by unfold cmpI; split <;> (try split) <;> omega
theorem cmpS_b (a b : ByteArray) : -1 ≤ cmpS a b ∧ cmpS a b ≤ 1 := by unfold cmpS; split <;> (try split) <;> omega
theorem stCmp_lt (a b : St) : decide (stCmp a b < 0) = stLt a b := by
  unfold stCmp stLt
  simp only [orOf, cmpI_eq]
  split
  · split
    · split
      · rename_i h1 h2 h3; simp [h3]
      · simp [cmpI_lt]
    · simp [cmpI_lt]
  · simp [cmpI_lt]

set_option maxHeartbeats 400000 in
theorem cmpI_any (a b : Int) (w : World) : Calls Tryd.prog 65 #[.int .i64 a, .int .i64 b] w fun e w' => e = .returned (.int .i64 (cmpI a b)) ∧ w = w' := by
  rcases Int.lt_trichotomy a b with h | h | h
  · go_enter Tryd.func65, Tryd.ntmps65
    go_wp2
    go_ret
    exact ⟨ret_int (by unfold cmpI; rw [if_pos h]), rfl⟩
  · subst h
    go_enter Tryd.func65, Tryd.ntmps65
    go_wp2
    go_ret
    exact ⟨ret_int (by unfold cmpI; simp), rfl⟩
  · have h2 : ¬ a < b := by omega
    go_enter Tryd.func65, Tryd.ntmps65
    go_wp2
    go_ret
    exact ⟨ret_int (by unfold cmpI; rw [if_neg (by omega), if_pos h]), rfl⟩

set_option maxHeartbeats 400000 in
theorem cmpS_any (a b : ByteArray) (w : World) : Calls Tryd.prog 66 #[.string a, .string b] w fun e w' => e = .returned (.int .i64 (cmpS a b)) ∧ w = w' := by
  by_cases hl : Op.bytesLess a.toList b.toList = true
  · go_enter Tryd.func66, Tryd.ntmps66
    go_wp2
    go_ret
    exact ⟨ret_int (by unfold cmpS ltS; rw [if_pos hl]), rfl⟩
  · have hl' : Op.bytesLess a.toList b.toList = false := by simpa using hl
    by_cases he : a = b
    · have he' : (a.toList == b.toList) = true := by rw [bytes_beq]; simp [he]
      replace he := Lib.hid he
      clear hl
      go_enter Tryd.func66, Tryd.ntmps66
      go_wp2
      go_ret
      exact ⟨ret_int (by unfold cmpS ltS; rw [hl', if_neg (by simp), if_pos he.out]), rfl⟩
    · have he' : (a.toList == b.toList) = false := by rw [bytes_beq]; simp [he]
      replace he := Lib.hid he
      clear hl
      go_enter Tryd.func66, Tryd.ntmps66
      go_wp2
      go_ret
      exact ⟨ret_int (by unfold cmpS ltS; rw [hl', if_neg (by simp), if_neg he.out]), rfl⟩

theorem orOf_drop (xs : List Int) (k : Nat) (x : Int) (h : xs[k]? = some x) : orOf (xs.drop k) = if x = 0 then orOf (xs.drop (k + 1)) else x := by
  obtain ⟨hk, rfl⟩ := List.getElem?_eq_some_iff.1 h
  rw [List.drop_eq_getElem_cons hk]
  rfl
set_option maxHeartbeats 400000 in
theorem or_any (xs : List Int) (A : Option Addr) (c B : Nat) (w : World) (hl : xs.length ≤ 9223372036854775807) (hs : Sl intC 1 w B A xs) :
    Calls Tryd.prog 64 #[.slice A xs.length c] w fun e w' => e = .returned (.int .i64 (orOf xs)) ∧ w = w' := by
  go_enter Tryd.func64, Tryd.ntmps64
  go_wp2
  go_loop [8] (fun i => ∃ (k : Nat), k ≤ xs.length ∧ i = .int .i64 k ∧ Hid (orOf xs = orOf (xs.drop k))) (fun i => xs.length - (intOf i).toNat)
  case atStart => exact ⟨0, Nat.zero_le _, rfl, by simp [Hid]⟩
  case round =>
    obtain ⟨k, hk, rfl, hh⟩ := hrel
    by_cases hlt : k < xs.length
    · obtain ⟨x, hxk⟩ : ∃ x, xs[k]? = some x := ⟨_, List.getElem?_eq_getElem hlt⟩
      obtain ⟨b, o, rfl, hb, hcell⟩ := hs.int hxk
      have hsd := Lib.hid (orOf_drop xs k x hxk)
      clear hs hxk
      by_cases hx0 : x = 0
      · subst hx0
        go_wp2
        go_round
        case rel => exact ⟨k + 1, by omega, by go_num, by unfold Hid; rw [hh.out, hsd.out, if_pos rfl]⟩
        case measure => simp [intOf]; omega
      · have hx1 : (x != 0) = true := by rw [bne_iff_ne]; exact hx0
        replace hx0 := Lib.hid hx0
        go_wp2
        go_ret
        exact ⟨ret_int (by rw [hh.out, hsd.out, if_neg hx0.out]), rfl⟩
    · go_wp2
      go_ret
      exact ⟨ret_int (by rw [hh.out, List.drop_eq_nil_of_le (by omega)]; rfl), rfl⟩
/-- A row of numbers in a block of its own. -/
theorem or_2 (x y : Int) (b : Nat) (w : World) (h0 : w.cell? ⟨b, 0, none⟩ = some (.int .i64 x)) (h1 : w.cell? ⟨b, 1, none⟩ = some (.int .i64 y)) :
    Calls Tryd.prog 64 #[.slice (some ⟨b, 0, none⟩) 2 2] w fun e w' => e = .returned (.int .i64 (orOf [x, y])) ∧ w = w' :=
  or_any [x, y] _ 2 (b + 1) w (by simp) (fun _ => ⟨b, 0, rfl, by omega, fun k x hx j u hu => by
    rcases j with _ | j
    · rcases k with _ | _ | k
      · simp at hx; subst hx; simp [intC] at hu; subst hu; exact h0
      · simp at hx; subst hx; simp [intC] at hu; subst hu; exact h1
      · simp at hx
    · simp [intC] at hu⟩)
theorem or_3 (x y z : Int) (b : Nat) (w : World) (h0 : w.cell? ⟨b, 0, none⟩ = some (.int .i64 x)) (h1 : w.cell? ⟨b, 1, none⟩ = some (.int .i64 y)) (h2 : w.cell? ⟨b, 2, none⟩ = some (.int .i64 z)) :
    Calls Tryd.prog 64 #[.slice (some ⟨b, 0, none⟩) 3 3] w fun e w' => e = .returned (.int .i64 (orOf [x, y, z])) ∧ w = w' :=
  or_any [x, y, z] _ 3 (b + 1) w (by simp) (fun _ => ⟨b, 0, rfl, by omega, fun k x hx j u hu => by
    rcases j with _ | j
    · rcases k with _ | _ | _ | k
      · simp at hx; subst hx; simp [intC] at hu; subst hu; exact h0
      · simp at hx; subst hx; simp [intC] at hu; subst hu; exact h1
      · simp at hx; subst hx; simp [intC] at hu; subst hu; exact h2
      · simp at hx
    · simp [intC] at hu⟩)

set_option maxHeartbeats 400000 in
/-- penstockref7.Less. -/
theorem refLess_any (x y z x' y' z' : Int) (w : World) :
    Calls Tryd.prog 16 #[.agg #[.int .i64 x, .int .i64 y, .int .i64 z], .agg #[.int .i64 x', .int .i64 y', .int .i64 z']] w fun e w' => e = .returned (.bool (stLt ⟨x, y, z⟩ ⟨x', y', z'⟩)) ∧ G w w' := by
  by_cases hx : x = x'
  · subst hx
    by_cases hy : y = y'
    · subst hy
      go_enter Tryd.func16, Tryd.ntmps16
      go_wp2
      go_ret
      exact ⟨ret_bool (by simp [stLt]), (G.new _ _).alloc _⟩
    · have hy1 : (y != y') = true := by rw [bne_iff_ne]; exact hy
      replace hy := Lib.hid hy
      go_enter Tryd.func16, Tryd.ntmps16
      go_wp2
      go_ret
      exact ⟨ret_bool (by simp [stLt, hy.out]), (G.new _ _).alloc _⟩
  · have hx1 : (x != x') = true := by rw [bne_iff_ne]; exact hx
    replace hx := Lib.hid hx
    go_enter Tryd.func16, Tryd.ntmps16
    go_wp2
    go_ret
    exact ⟨ret_bool (by simp [stLt, hx.out]), (G.new _ _).alloc _⟩

set_option maxHeartbeats 1000000 in
/-- stamp.order. -/
theorem stOrder_any (x y z x' y' z' : Int) (w : World) :
    Calls Tryd.prog 63 #[.agg #[.int .i64 x, .int .i64 y, .int .i64 z], .agg #[.int .i64 x', .int .i64 y', .int .i64 z']] w fun e w' => e = .returned (.int .i64 (stCmp ⟨x, y, z⟩ ⟨x', y', z'⟩)) ∧ G w w' := by
  go_enter Tryd.func63, Tryd.ntmps63
  go_wp2_with fail
  generalize hW0 : (w.alloc (.cells #[.int .i64 x, .int .i64 y, .int .i64 z] 26)).alloc (.cells #[.int .i64 x', .int .i64 y', .int .i64 z'] 26) = W0
  have hz : w.heap.size + 1 < W0.heap.size := by rw [← hW0]; simp
  have hG0 : G w W0 := by rw [← hW0]; exact (G.new _ _).alloc _
  have h0 : W0.cell? ⟨w.heap.size, 0, none⟩ = some (.int .i64 x) := by rw [← hW0]; simp
  have h1 : W0.cell? ⟨w.heap.size, 1, none⟩ = some (.int .i64 y) := by rw [← hW0]; simp
  have h2 : W0.cell? ⟨w.heap.size, 2, none⟩ = some (.int .i64 z) := by rw [← hW0]; simp
  have h3 : W0.cell? ⟨w.heap.size + 1, 0, none⟩ = some (.int .i64 x') := by rw [← hW0]; simp
  have h4 : W0.cell? ⟨w.heap.size + 1, 1, none⟩ = some (.int .i64 y') := by rw [← hW0]; simp
  have h5 : W0.cell? ⟨w.heap.size + 1, 2, none⟩ = some (.int .i64 z') := by rw [← hW0]; simp
  clear hW0
  have q0 : ∀ w', G W0 w' → w'.cell? ⟨w.heap.size, 0, none⟩ = some (.int .i64 x) := fun w' h => (h.cell (by omega)).trans h0
  have q1 : ∀ w', G W0 w' → w'.cell? ⟨w.heap.size, 1, none⟩ = some (.int .i64 y) := fun w' h => (h.cell (by omega)).trans h1
  have q2 : ∀ w', G W0 w' → w'.cell? ⟨w.heap.size, 2, none⟩ = some (.int .i64 z) := fun w' h => (h.cell (by omega)).trans h2
  have q3 : ∀ w', G W0 w' → w'.cell? ⟨w.heap.size + 1, 0, none⟩ = some (.int .i64 x') := fun w' h => (h.cell (by omega)).trans h3
  have q4 : ∀ w', G W0 w' → w'.cell? ⟨w.heap.size + 1, 1, none⟩ = some (.int .i64 y') := fun w' h => (h.cell (by omega)).trans h4
  have q5 : ∀ w', G W0 w' → w'.cell? ⟨w.heap.size + 1, 2, none⟩ = some (.int .i64 z') := fun w' h => (h.cell (by omega)).trans h5
  clear h0 h1 h2 h3 h4 h5
  go_region_held3 (fun w' => G W0 w') (first | exact (G.refl _).drew | exact G.alloc (by assumption) _ | assumption | fail) (first | (go_at_call 65; refine (cmpI_any _ _ _).mono ?_; rintro e wm ⟨rfl, rfl⟩) | (go_at_call 64; refine (or_3 _ _ _ _ _ (by simp; rfl) (by simp; rfl) (by simp; rfl)).mono ?_; rintro e wm ⟨rfl, rfl⟩))
  all_goals (go_wp2_with fail; go_ret; exact ⟨rfl, hG0.trans (by assumption)⟩)
end Go.Proofs.YthhhobfdlgmjlaaDoor

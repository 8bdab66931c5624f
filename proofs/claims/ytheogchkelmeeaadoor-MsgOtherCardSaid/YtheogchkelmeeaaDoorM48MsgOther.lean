/- Several texts in one: MsgOtherW, ReadStr. -/
import Derived.Test.YtheogchkelmeeaaDoorM47MsgOther
import Derived.Test.YtheogchkelmeeaaDoorM30MsgOther
import Derived.Test.YtheogchkelmeeaaDoorM7MsgOther
import Derived.Test.YtheogchkelmeeaaDoorMap
import Derived.Lib.ConvBytes
import Derived.Test.YtheogchkelmeeaaDoorM5MsgOther
import Derived.Test.YtheogchkelmeeaaDoorRows
import Derived.ProofKit
import Derived.OpenShut
import Derived.PinnedBridge
import Derived.Lib.LaidU8T
import Derived.Lay
import Derived.SevenTiedAt
import Derived.LaidMore
/- penstocklaw10.MsgOther: the walk. No condition beyond lengths. -/
namespace Go.Proofs.YtheogchkelmeeaaDoor
open Go.RowKit

section
variable {ops : Array Oper} {rest : List Oper} {o : Oper} {a : Act} {Q : Exit → Act → World → Prop}
theorem G.bytes (w : World) (e : TypeId) (s : ByteArray) : G w (Lib.bytesWorld w e s) := ⟨rfl, rfl, rfl, by rw [Lib.bytesWorld_size]; omega, fun j hj => Lib.bytesWorld_at_old w e s j hj⟩
set_option maxRecDepth 100000 in
theorem wpList_conv (w : World) (hg : o.guard = none) (x : Operand) (hop : o.op = Op.convert 9 50 x) (s : ByteArray) (hx : a.eval x = .string s)
    (hK : ∀ (c : Nat) (w' : World), G w w' → wpList Tryd.prog ops Q rest (a.put o.dst (.slice (some ⟨w.heap.size, 0, none⟩) s.size c)) w') : wpList Tryd.prog ops Q (o :: rest) a w := by
  refine wpList_plain hg fun K' hK' => ?_
  have hrun := Lib.run_convert_string_bytes (P := Tryd.prog) w 9 50 5 s Tryd.underlying9 Tryd.underlying50 Tryd.underlying5
  unfold Oper.wp
  simp [execOp, hop, hx, hrun, Result.andThen]
  exact hK' _ _ (hK _ _ (G.bytes w _ s))
set_option maxRecDepth 100000 in
theorem wpList_map_ins (w : World) (hg : o.guard = none) (m x v : Operand) (hop : o.op = Op.insert 66 m x v) (b n : Nat) (g : ByteArray → Int) (hm : a.eval m = .map (some b)) (hown : MapIs w b n g) (hn : n < 9223372036854775807)
    (s : ByteArray) (hx : a.eval x = .string s) (hs : s.size ≤ 9223372036854775807) (c : Int) (hv : a.eval v = .int .i64 c) (hc : (Lit.int .i64 c).wf = true)
    (hK : ∀ w', MapIs w' b (n + 1) (upd g s c) → w.grownBy w' (some b) → wpList Tryd.prog ops Q rest (a.put o.dst undef) w') : wpList Tryd.prog ops Q (o :: rest) a w := by
  refine wpList_plain hg fun K' hK' => ?_
  obtain ⟨w', hrun, r1, r2⟩ := hown.put hn s hs c hc
  unfold Oper.wp
  simp [execOp, hop, hm, hx, hv, hrun, Result.andThen]
  exact hK' _ _ (hK w' r1 r2)
end
def anyC (v : Value) : List Value := [v]
theorem anyC_len (v : Value) : (anyC v).length = 1 := rfl
/-- Ten values that are no messages, in a block of their own. -/
def AnyRow (w : World) (q : Nat) (cs : Array Value) (v : Value) (wx : World) : Prop := ∃ (b : Nat) (vs : Array Value) (T : TypeId), v = .slice (some ⟨b, 0, none⟩) 10 10 ∧ wx.heap[b]? = some (.cells vs T (0, 0)) ∧ (∀ k, k < 10 → ∃ v, vs[k]? = some v ∧ NoMsg v) ∧ G w wx ∧ wx.heap[q]? = some (.cells cs 63 (0, 0))
theorem encN_any {v : Value} (h : NoMsg v) (w : World) : Calls Tryd.prog 18 #[v] w fun e w' => ∃ A c, e = .returned (.tuple #[.slice A 0 c, .int .i64 12]) ∧ G w w' := by
  refine (enc_noMsg h w).mono ?_
  rintro e w' ⟨A, c, rfl, _, hg⟩
  exact ⟨A, c, rfl, hg⟩
set_option maxRecDepth 100000 in
set_option maxHeartbeats 8000000 in
theorem msgOther_walk (n : Int) (s : ByteArray) (x1 x2 x3 : Int) (w : World) (hn : -9223372036854775808 ≤ n ∧ n ≤ 9223372036854775807) (hs : s.size ≤ 9223372036854775807) :
    Calls Tryd.prog 5 #[.int .i64 n, .string s, .agg #[.int .i64 x1, .int .i64 x2, .int .i64 x3]] w fun e w' => e = .returned (.bool true) ∧ G w w' := by
  have haw := fun w' => awake10_any w'
  replace haw := Lib.hid haw
  by_cases hbig : 300 < s.size
  · have t1 : decide (300 < (s.size : Int)) = true := decide_eq_true (by omega)
    have hg0 := G.new w (.cells #[.int .i64 x1, .int .i64 x2, .int .i64 x3] 23)
    replace hg0 := Lib.hid hg0
    go_enter Tryd.func5, Tryd.ntmps5
    go_wp2_with ((go_at_call 9; (with_reducible refine Calls.mono (haw.out _) ?_); rintro e w2 ⟨rfl, hg2⟩))
    go_ret
    exact ⟨rfl, hg0.out.trans hg2⟩
  · have t1 : decide (300 < (s.size : Int)) = false := decide_eq_false (by omega)
    have hmm := @run_makeMap Tryd.prog
    have hwf := wf_i64 hn.1 hn.2
    replace hwf := Lib.hid hwf
    replace hn := Lib.hid hn
    replace hs := Lib.hid hs
    have hg0 := ((G.new w (.cells #[.int .i64 x1, .int .i64 x2, .int .i64 x3] 23)).alloc (.cells #[.int .i64 x1, .int .i64 x2, .int .i64 x3] 63))
    have BD := blk_new' (w.alloc (.cells #[.int .i64 x1, .int .i64 x2, .int .i64 x3] 23)) #[.int .i64 x1, .int .i64 x2, .int .i64 x3] 63 (w.heap.size + 1) (by simp)
    replace hg0 := Lib.hid hg0
    replace BD := Lib.hid BD
    go_enter Tryd.func5, Tryd.ntmps5
    go_upto_region 4 with fail
    go_cut [8] (fun v wx => AnyRow w (w.heap.size + 1) #[.int .i64 x1, .int .i64 x2, .int .i64 x3] v wx)
    case first =>
      go_wp2_with (first
        | (refine wpList_conv _ rfl (.tmp 36) rfl s rfl ?_; intro c5 w5 hg5; clear hmm; have hmm := @run_makeMap Tryd.prog)
        | (refine wpList_map_ins _ rfl (.tmp 39) (.tmp 40) (.tmp 41) rfl _ 0 (fun _ => 0) rfl (MapIs.made _) (by omega) s rfl hs.out n rfl hwf.out ?_; intro w6 hm6 hg6))
      go_meet
      have hG5 : G ((w.alloc (.cells #[.int .i64 x1, .int .i64 x2, .int .i64 x3] 23)).alloc (.cells #[.int .i64 x1, .int .i64 x2, .int .i64 x3] 63)) w5 := (G.new _ _).trans hg5
      have hG6 : G w w6 := ((hg0.out.trans hG5).trans (G.new _ _)).mapped hg6 (by have := (hg0.out.trans hG5).size; omega)
      refine ⟨_, _, _, rfl, blk_new _ _ _, ?_, hG6.trans (G.new _ _), ?_⟩
      · intro k hk
        rcases k with _ | _ | _ | _ | _ | _ | _ | _ | _ | _ | k
        all_goals first
          | exact ⟨_, rfl, .inl rfl⟩
          | exact ⟨_, rfl, .inr ⟨_, _, rfl, by unfold OtherT; decide⟩⟩
          | omega
      · have h5 := (G.mapped ((hG5).trans (G.new w5 (.map #[] 0))) hg6 (by have := hG5.size; simp at this; simp; omega)).blk BD.out
        exact (G.new w6 _).blk h5
    case rest =>
      obtain ⟨b, vs, T, rfl, hB, hno, hGw, hD⟩ := hcut
      have hbz := blk_lt hB
      have hdz := blk_lt hD
      replace hno := Lib.hid hno
      clear hmm
      go_wp2_with fail
      go_loopw [9] (fun i wr => ∃ k : Nat, k ≤ 10 ∧ i = .int .i64 k ∧ G wc wr) (fun i _ => 10 - (intOf i).toNat)
      case atStart => exact ⟨0, by omega, rfl, G.refl _⟩
      case round =>
        obtain ⟨wo, rfl⟩ : ∃ wo : World, wo = wr := ⟨_, rfl⟩
        obtain ⟨k, hk, rfl, hg⟩ := hrel
        by_cases hlt : k < 10
        · obtain ⟨v, hv, hnv⟩ := hno.out k hlt
          have hc : ∀ w', G wc w' → w'.cell? ⟨b, k, none⟩ = some v := fun w' h => (blk_cell (h.blk hB) k).trans hv
          have n1 : (0 : Int) ≤ (k : Int) := by omega
          have n2 : (k : Int) < 10 := by omega
          have y0 := hc _ hg
          have a1 := fun w' => encN_any hnv w'
          have a2 := fun w' => asFeed_noMsg hnv w'
          have a3 := fun w' => kind_noMsg hnv w'
          have a4 := fun w' => name_noMsg hnv w'
          unfold feedZ at a2
          replace a1 := Lib.hid a1
          replace a2 := Lib.hid a2
          replace a3 := Lib.hid a3
          replace a4 := Lib.hid a4
          replace hc := Lib.hid hc
          clear hv hnv
          go_wp2_with (first
            | (go_at_call 18; (with_reducible refine Calls.mono (a1.out _) ?_); rintro e w1 ⟨A1, d1, rfl, hg1⟩; have hG1 := hg.trans hg1; clear hg1; have y1 := hc.out _ hG1)
            | (go_at_call 12; (with_reducible refine Calls.mono (a2.out _) ?_); rintro e w2 ⟨rfl, hg2⟩; have hG2 := hG1.trans hg2; clear hg2; have hG2' := hG2.trans (G.new w2 (.cells #[.int .i64 0, .int .i64 0, .slice none 0 0, .int .i64 0, .int .i64 0, .int .i64 0, .slice none 0 0] 42)); have y2 := hc.out _ hG2')
            | (go_at_call 19; (with_reducible refine Calls.mono (a3.out _) ?_); rintro e w3 ⟨rfl, hg3⟩; have hG3 := hG2'.trans hg3; clear hg3; have y3 := hc.out _ hG3)
            | (go_at_call 20; (with_reducible refine Calls.mono (a4.out _) ?_); rintro e w4 ⟨rfl, hg4⟩; have hG4 := hG3.trans hg4; clear hg4))
          go_roundw
          case rel => exact ⟨k + 1, by omega, by go_num, hG4⟩
          case measure => simp [intOf]; omega
        · have n2 : ¬ (k : Int) < 10 := by omega
          have hk4 := fun w' => kind4_any (.agg #[.int .i64 x1, .int .i64 x2, .int .i64 x3]) w'
          have hd1 := hg.blk hD
          have d0 := (blk_cell hd1 0).trans (show _ = some (.int .i64 x1) from rfl)
          have d1 := (blk_cell hd1 1).trans (show _ = some (.int .i64 x2) from rfl)
          have d2 := (blk_cell hd1 2).trans (show _ = some (.int .i64 x3) from rfl)
          replace hk4 := Lib.hid hk4
          replace hd1 := Lib.hid hd1
          go_wp2_with (first
            | (go_at_call 19; (with_reducible refine Calls.mono (hk4.out _) ?_); rintro e w3 ⟨rfl, hg3⟩)
            | (go_at_call 9; (with_reducible refine Calls.mono (haw.out _) ?_); rintro e w4 ⟨rfl, hg4⟩))
          go_ret
          exact ⟨rfl, ((hGw.trans hg).trans hg3).trans hg4⟩
end Go.Proofs.YtheogchkelmeeaaDoor
/- How texts, numbers and bools read as the laws' arguments; what the listed tables give. No condition. -/
namespace Go.Proofs.YtheogchkelmeeaaDoor
open Go.RowKit Go.ChangeShapes Go.WideShapes Go.Lib

/-- An int of 64 bits. -/
def I64 (n : Int) : Prop := -9223372036854775808 ≤ n ∧ n ≤ 9223372036854775807
section
variable {H : Type} {enc : TypeId × Value → H} {w : World} {base b0 : Nat} {spare : Nat → Bool} {held : Bool} {fuel : Nat} {cs : List Value} {x : DataW H × List MemPlace} {r : Reach} {v : Value} {d : DataW H} {p : List MemPlace}
theorem i64_of_wf {n : Int} (h : (Lit.int .i64 n).wf = true) : I64 n := by
  have := bounds_i64 h
  exact ⟨by omega, by omega⟩
set_option maxRecDepth 100000 in
theorem in_int (hv : Value.okWide Tryd.prog w r b0 3 v) (h : DataW.Trod enc Tryd.prog w base spare held 3 v d p) : ∃ n, v = .int .i64 n ∧ I64 n := by
  obtain ⟨n, rfl⟩ := okWide_int Tryd.underlying3 hv
  obtain ⟨fuel, hf⟩ := h
  obtain ⟨n', e, _, hn⟩ := DataW.trod_int Tryd.underlying3 hf
  simp [Value.cells] at e
  subst e
  exact ⟨n, rfl, i64_of_wf hn⟩
set_option maxRecDepth 100000 in
theorem in_str (hv : Value.okWide Tryd.prog w r b0 9 v) (h : DataW.Trod enc Tryd.prog w base spare held 9 v d p) : ∃ s, v = .string s ∧ s.size ≤ 9223372036854775807 := by
  obtain ⟨s, rfl⟩ := okWide_string Tryd.underlying9 hv
  obtain ⟨fuel, hf⟩ := h
  obtain ⟨s', e, _, hn⟩ := DataW.trod_string Tryd.underlying9 hf
  simp [Value.cells] at e
  subst e
  exact ⟨s, rfl, by simpa [maxLen] using hn⟩
set_option maxRecDepth 100000 in
theorem in_bool (hv : Value.okWide Tryd.prog w r b0 4 v) (_h : DataW.Trod enc Tryd.prog w base spare held 4 v d p) : ∃ b, v = .bool b ∧ b = b := by
  obtain ⟨b, rfl⟩ := okWide_bool Tryd.underlying4 hv
  exact ⟨b, rfl, rfl⟩
end
theorem u8Extra : U8Extra Tryd.prog Tryd.lays196_ren := ⟨by kernel_rfl, by kernel_rfl, by kernel_rfl, by kernel_rfl, by kernel_rfl, by kernel_rfl, by kernel_rfl⟩
theorem accept_eq : (Rows.laid_unicode_utf8_acceptRanges : DataW Unit) = acceptData := by kernel_rfl
/-- Where the two tables are listed they lie so. -/
theorem tabs_of_laid {w : World} (h : laidMet Tryd.prog [("unicode/utf8.acceptRanges", Rows.laid_unicode_utf8_acceptRanges), ("unicode/utf8.first", Rows.laid_unicode_utf8_first)] w) : Tabs w :=
  utf8Tabs_of_readsT (U8Types.of196 Tryd.lays196) u8Extra (Pinned.utf8First_eq ▸ Lib.laidMet.reads h (.tail _ (.head _))) (accept_eq ▸ Lib.laidMet.reads h (.head _))
end Go.Proofs.YtheogchkelmeeaaDoor

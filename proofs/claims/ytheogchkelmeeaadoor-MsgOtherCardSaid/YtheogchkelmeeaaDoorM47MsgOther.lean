/- Several texts in one: Cell2, AsFeed, MsgNo, Awake10. -/
import Derived.Test.YtheogchkelmeeaaDoorM46MsgOther
import Derived.Test.YtheogchkelmeeaaDoorMsgMadeQMsgOther
/- Two results, of which the first is a struct in a block of its own. No condition. -/
namespace Go.Proofs.YtheogchkelmeeaaDoor
open Go.RowKit

theorem results_cell2 {P : Program} {fn : Func} {tmps : Array Value} {W : World} {i j b : Nat} {cs : Array Value} {v : Value} {t T : TypeId} {fz : Nat × Nat} {d : TypeDesc} (hr : fn.results = #[.cell i T, .tmp j]) (hp : tmps.getD i undef = .pointer (some ⟨b, 0, none⟩)) (hv : tmps.getD j undef = v) (h : W.heap[b]? = some (.cells cs t fz)) (hu : P.underlying T = some d) (hd : d.isRow = true) (hi : (P.info? T).map (·.size) = some cs.size) :
    (results fn tmps).run P W = .ok (.tuple #[.agg cs, v]) W := by
  have h2 := run_loadVar_mid (P := P) W b 0 T cs.toList d (fun j v hv => by rw [Nat.zero_add, blk_cell h]; simpa using hv) hu hd (by simpa using hi)
  have h3 : (asAddr (tmps.getD i undef)).run P W = .ok ⟨b, 0, none⟩ W := by rw [hp]; rfl
  unfold results
  rw [hr]
  simp only [List.mapM_toArray, List.mapM_cons, List.mapM_nil, Sem.run_bind, Sem.run_pure, Functor.map, hv]
  have h5 : ∀ (m : Sem (List Value)) (w1 : World), (m.bind (Sem.pure ∘ List.toArray)).run P w1 = (m.run P w1).andThen fun a w' => .ok a.toArray w' := fun m w1 => by
    show (m >>= fun a => pure a.toArray).run P w1 = _
    simp only [Sem.run_bind, Sem.run_pure]
  rw [h5]
  simp only [Sem.run_bind, Sem.run_pure, Result.andThen_ok, h3, h2]
  rfl
end Go.Proofs.YtheogchkelmeeaaDoor
/- msg.AsFeed, MustFeed: what they answer. No condition. -/
namespace Go.Proofs.YtheogchkelmeeaaDoor
open Go.RowKit

def feedZ : Array Value := #[.int .i64 0, .int .i64 0, .slice none 0 0, .int .i64 0, .int .i64 0, .int .i64 0, .slice none 0 0]
set_option maxRecDepth 100000 in
set_option maxHeartbeats 1000000 in
theorem asFeed_of (v : Value) (b : Bool) (x0 x1 x2 x3 x4 x5 x6 : Value) (ho : (#[x0, x1, x2, x3, x4, x5, x6] : Array Value).all (·.oneCell') = true) (w : World) (ha : ∀ w, (Instr.typeAssert v 20 42 true).run Tryd.prog w = .ok (.tuple #[.agg #[x0, x1, x2, x3, x4, x5, x6], .bool b]) w) :
    Calls Tryd.prog 12 #[v] w fun e w' => e = .returned (.tuple #[.agg #[x0, x1, x2, x3, x4, x5, x6], .bool b]) ∧ G w w' := by
  have hg0 := G.new w (.cells #[.int .i64 0, .int .i64 0, .slice none 0 0, .int .i64 0, .int .i64 0, .int .i64 0, .slice none 0 0] 42)
  have B0 := blk_new w #[.int .i64 0, .int .i64 0, .slice none 0 0, .int .i64 0, .int .i64 0, .int .i64 0, .slice none 0 0] 42
  go_enter Tryd.func12, Tryd.ntmps12
  go_upto_region 1 with fail
  generalize w.alloc (.cells #[.int .i64 0, .int .i64 0, .slice none 0 0, .int .i64 0, .int .i64 0, .int .i64 0, .slice none 0 0] 42) = W0 at *
  obtain ⟨W1, SR1, C1, hb1, hG1⟩ := store_blk (P := Tryd.prog) (T := 42) (cs := #[x0, x1, x2, x3, x4, x5, x6]) (blk_new W0 #[.int .i64 0, .int .i64 0, .slice none 0 0, .int .i64 0, .int .i64 0, .int .i64 0, .slice none 0 0] 42) rfl (by kernel_rfl) ho
  have hz := blk_lt B0
  have hg1 := hG1 w (hg0.trans (G.new W0 _)) hg0.size
  have B1 := hb1.blk ((G.new W0 _).blk B0) (by omega)
  obtain ⟨W2, SR2, C2, hb2, hG2⟩ := store_blk (P := Tryd.prog) (T := 42) (cs := #[x0, x1, x2, x3, x4, x5, x6]) B1 rfl (by kernel_rfl) ho
  have hg2 := hG2 w hg1 (Nat.le_refl _)
  have LR := load_blk (P := Tryd.prog) (T := 42) C1 Tryd.underlying42 rfl (by kernel_rfl)
  replace C2 := Lib.hid C2
  replace hg2 := Lib.hid hg2
  clear hb1 hG1 hb2 hG2 B0 B1 C1 hg0 hg1 ho
  go_wp2_with (first
    | (refine wpList_store_at (ty := 42) rfl (by kernel_rfl) (p := .pointer (some ⟨W0.heap.size, 0, none⟩)) rfl rfl SR1 ?_; clear SR1)
    | (refine wpList_load_at (ty := 42) rfl (by kernel_rfl) (p := .pointer (some ⟨W0.heap.size, 0, none⟩)) rfl LR ?_; clear LR)
    | (refine wpList_store_at (ty := 42) rfl (by kernel_rfl) (p := .pointer (some ⟨w.heap.size, 0, none⟩)) rfl rfl SR2 ?_; clear SR2))
  refine bodyPost_ret (v := .tuple #[.agg #[x0, x1, x2, x3, x4, x5, x6], .bool b]) (results_cell2 (i := 2) (j := 3) rfl rfl rfl C2.out Tryd.underlying42 rfl (by kernel_rfl)) rfl ?_
  exact ⟨rfl, hg2.out⟩
end Go.Proofs.YtheogchkelmeeaaDoor
/- What is no message: what msg's functions answer of it. No condition. -/
namespace Go.Proofs.YtheogchkelmeeaaDoor
open Go.RowKit

theorem kind_noMsg {v : Value} (h : NoMsg v) (w : World) : Calls Tryd.prog 19 #[v] w fun e w' => e = .returned (.int .i64 0) ∧ G w w' := by
  rcases h with rfl | ⟨t, u, rfl, ht⟩
  · exact kindNil_any w
  · exact kindNo_any t u w ht
theorem enc_noMsg {v : Value} (h : NoMsg v) (w : World) : Calls Tryd.prog 18 #[v] w (RetM 12 w none) := msgEnc_no v w fun w' => kind_noMsg h w'
theorem check_noMsg {v : Value} (h : NoMsg v) (w : World) : Calls Tryd.prog 21 #[v] w fun e w' => e = .returned (.int .i64 12) ∧ G w w' := msgCheck_of v 12 none w (enc_noMsg h w)
theorem name_noMsg {v : Value} (h : NoMsg v) (w : World) : Calls Tryd.prog 20 #[v] w fun e w' => e = .returned (.string ⟨#[]⟩) ∧ G w w' := msgName0 v w (kind_noMsg h w)
set_option maxRecDepth 100000 in
theorem asFeed_noMsg {v : Value} (h : NoMsg v) (w : World) : Calls Tryd.prog 12 #[v] w fun e w' => e = .returned (.tuple #[.agg feedZ, .bool false]) ∧ G w w' := by
  refine asFeed_of v false (.int .i64 0) (.int .i64 0) (.slice none 0 0) (.int .i64 0) (.int .i64 0) (.int .i64 0) (.slice none 0 0) (by kernel_rfl) w fun w => ?_
  rcases h with rfl | ⟨t, u, rfl, ht⟩
  · kernel_rfl
  · exact ta_miss Tryd.underlying42 rfl (by kernel_rfl) ht.2.2.2.2.2.2.2.2
end Go.Proofs.YtheogchkelmeeaaDoor
/- penstocklaw10.awake answers true. No condition. -/
namespace Go.Proofs.YtheogchkelmeeaaDoor
open Go.RowKit

set_option maxRecDepth 100000 in
theorem awakeF_any (w : World) : Calls Tryd.prog 32 #[] w fun e w' => ∃ u pv, e = .panicked [{ v := .iface u pv, recovered := false }] ∧ G w w' := by
  have hm := fun w' => mustFeed_no 3 (.int .i64 7) w' (by decide)
  replace hm := Lib.hid hm
  go_enter Tryd.func32, Tryd.ntmps32
  go_wp2_with fail
  (with_reducible refine Calls.mono (hm.out _) ?_)
  rintro e w1 ⟨u, pv, rfl, hg⟩
  go_wp2_with fail
  exact ⟨rfl, u, pv, rfl, hg⟩
set_option maxRecDepth 100000 in
set_option maxHeartbeats 1000000 in
theorem awake10_any (w : World) : Calls Tryd.prog 9 #[] w fun e w' => e = .returned (.bool true) ∧ G w w' := by
  have he := fun w' => msgEnc_no .nilIface w' kindNil_any
  have hk := fun w' => kind4_any (.agg #[.int .i64 0, .int .i64 0, .int .i64 0]) w'
  have hp := fun w' => panics_yes 32 #[] w' (fun w => by kernel_rfl) (fun w'' _ => awakeF_any w'')
  replace he := Lib.hid he
  replace hk := Lib.hid hk
  replace hp := Lib.hid hp
  go_enter Tryd.func9, Tryd.ntmps9
  go_wp2_with (first
    | (go_at_call 18; (with_reducible refine Calls.mono (he.out _) ?_); rintro e w1 ⟨A1, c1, rfl, _, hg1⟩)
    | (go_at_call 19; (with_reducible refine Calls.mono (hk.out _) ?_); rintro e w2 ⟨rfl, hg2⟩)
    | (go_at_call 15; (with_reducible refine Calls.mono (hp.out _) ?_); rintro e w3 ⟨rfl, hg3⟩))
  go_ret
  exact ⟨rfl, (hg1.trans hg2).trans hg3⟩
end Go.Proofs.YtheogchkelmeeaaDoor

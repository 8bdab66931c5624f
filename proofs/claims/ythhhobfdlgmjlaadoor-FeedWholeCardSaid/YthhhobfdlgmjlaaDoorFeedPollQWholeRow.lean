/- feed.Poll: what it answers. Conditions: at most six nodes, at most 8000 events each, texts of at most 2^30 bytes. -/
import Derived.Test.YthhhobfdlgmjlaaDoorM18WholeRow
import Derived.Test.YthhhobfdlgmjlaaDoorM36WholeRow
namespace Go.Proofs.YthhhobfdlgmjlaaDoor
open Go.RowKit

theorem results_tct {P : Program} {fn : Func} {tmps : Array Value} {W : World} {i j k b : Nat} {cs : Array Value} {u v : Value} {t T : TypeId} {fz : Nat × Nat} {d : TypeDesc} (hr : fn.results = #[.tmp k, .cell i T, .tmp j]) (hk : tmps.getD k undef = u) (hp : tmps.getD i undef = .pointer (some ⟨b, 0, none⟩)) (hv : tmps.getD j undef = v) (h : W.heap[b]? = some (.cells cs t fz)) (hu : P.underlying T = some d) (hd : d.isRow = true) (hi : (P.info? T).map (·.size) = some cs.size) :
    (results fn tmps).run P W = .ok (.tuple #[u, .agg cs, v]) W := by
  have h2 := run_loadVar_mid (P := P) W b 0 T cs.toList d (fun j v hv => by rw [Nat.zero_add, blk_cell h]; simpa using hv) hu hd (by simpa using hi)
  have h3 : (asAddr (tmps.getD i undef)).run P W = .ok ⟨b, 0, none⟩ W := by rw [hp]; rfl
  unfold results
  rw [hr]
  simp only [List.mapM_toArray, List.mapM_cons, List.mapM_nil, Sem.run_bind, Sem.run_pure, Functor.map, hv, hk]
  have h5 : ∀ (m : Sem (List Value)) (w1 : World), (m.bind (Sem.pure ∘ List.toArray)).run P w1 = (m.run P w1).andThen fun a w' => .ok a.toArray w' := fun m w1 => by
    show (m >>= fun a => pure a.toArray).run P w1 = _
    simp only [Sem.run_bind, Sem.run_pure]
  rw [h5]
  simp only [Sem.run_bind, Sem.run_pure, Result.andThen_ok, h3, h2]
  rfl
/-- A place's value. -/
def cuCs (c : Cu) : Array Value := #[.int .i64 c.st.wall, .int .i64 c.st.logic, .int .i64 c.st.node, .int .i64 c.index, .string c.stream]
def cu0 : Cu := ⟨⟨0, 0, 0⟩, 0, ⟨#[]⟩⟩
set_option maxRecDepth 100000 in
theorem of_any (s d : ByteArray) (v x y z i : Int) (w : World) : Calls Tryd.prog 35 #[.agg #[.string s, .int .i64 v, .string d, .int .i64 x, .int .i64 y, .int .i64 z, .int .i64 i]] w fun e w' => e = .returned (.agg #[.int .i64 x, .int .i64 y, .int .i64 z, .int .i64 i, .string s]) ∧ G w w' := by
  go_enter Tryd.func35, Tryd.ntmps35
  go_upto_region 1 with fail
  generalize hW0 : (w.alloc (.cells #[.string s, .int .i64 v, .string d, .int .i64 x, .int .i64 y, .int .i64 z, .int .i64 i] 32)).alloc (.cells #[.int .i64 0, .int .i64 0, .int .i64 0, .int .i64 0, .string ⟨#[]⟩] 38) = W0
  have hb3 : W0.heap[w.heap.size]? = some (.cells #[.string s, .int .i64 v, .string d, .int .i64 x, .int .i64 y, .int .i64 z, .int .i64 i] 32 (0, 0)) := by rw [← hW0]; exact (G.new _ _).blk (blk_new w _ _)
  have hb4 : W0.heap[w.heap.size + 1]? = some (.cells #[.int .i64 0, .int .i64 0, .int .i64 0, .int .i64 0, .string ⟨#[]⟩] 38 (0, 0)) := by rw [← hW0]; exact blk_new' _ _ _ _ (by simp)
  have hG0 : G w W0 := by rw [← hW0]; exact (G.new _ _).alloc _
  clear hW0
  have z0 := (blk_cell hb3 0).trans (show _ = some (Value.string s) from rfl)
  have z3 := (blk_cell hb3 3).trans (show _ = some (Value.int .i64 x) from rfl)
  have z4 := (blk_cell hb3 4).trans (show _ = some (Value.int .i64 y) from rfl)
  have z5 := (blk_cell hb3 5).trans (show _ = some (Value.int .i64 z) from rfl)
  have z6 := (blk_cell hb3 6).trans (show _ = some (Value.int .i64 i) from rfl)
  obtain ⟨W2, SR, C2, hb2, hG2⟩ := store_blk (P := Tryd.prog) (T := 38) (cs := #[.int .i64 x, .int .i64 y, .int .i64 z, .int .i64 i, .string s]) hb4 rfl (by kernel_rfl) (by kernel_rfl)
  replace hG2 := hG2 _ hG0 (by omega)
  replace C2 := Lib.hid C2
  clear hb2 hb3 hb4
  go_wp2_with (refine wpList_store_at (ty := 38) (x := .tmp 2) rfl (by kernel_rfl) (p := .pointer (some ⟨w.heap.size + 1, 0, none⟩)) (v := .agg #[.int .i64 x, .int .i64 y, .int .i64 z, .int .i64 i, .string s]) rfl rfl SR ?_; clear SR)
  refine bodyPost_ret (v := .agg #[.int .i64 x, .int .i64 y, .int .i64 z, .int .i64 i, .string s]) (results_cell (i := 2) rfl rfl C2.out Tryd.underlying38 rfl (by kernel_rfl)) rfl ?_
  exact ⟨rfl, hG2⟩
def pollOk (p : ByteArray) (c : Cu) (max : Int) : Bool := patOk p && (soundB c.st.wall c.st.logic c.st.node && (decide (0 ≤ c.index) && decide (1 ≤ max ∧ max ≤ 100)))
set_option maxRecDepth 100000 in
set_option maxHeartbeats 2000000 in
theorem poll_bad (t own : Value) (ax ay az cx cy cz ci : Int) (cs p : ByteArray) (max : Int) (w : World) (hp : p.size ≤ 1073741824) (hT : Tabs w) (hok : pollOk p ⟨⟨cx, cy, cz⟩, ci, cs⟩ max = false) :
    Calls Tryd.prog 12 #[t, own, .agg #[.int .i64 ax, .int .i64 ay, .int .i64 az], .agg #[.int .i64 cx, .int .i64 cy, .int .i64 cz, .int .i64 ci, .string cs], .string p, .int .i64 max] w
      fun e w' => e = .returned (.tuple #[.slice none 0 0, .agg #[.int .i64 0, .int .i64 0, .int .i64 0, .int .i64 0, .string ⟨#[]⟩], .int .i64 1]) ∧ G w w' := by
  go_enter Tryd.func12, Tryd.ntmps12
  go_upto_region 1 with fail
  generalize hW0 : (((w.alloc (.cells #[.int .i64 ax, .int .i64 ay, .int .i64 az] 26)).alloc (.cells #[.int .i64 cx, .int .i64 cy, .int .i64 cz, .int .i64 ci, .string cs] 38)).alloc (.cells #[.int .i64 0, .int .i64 0, .int .i64 0, .int .i64 0, .string ⟨#[]⟩] 38)) = W0
  have hM0 : W0.heap[w.heap.size]? = some (.cells #[.int .i64 ax, .int .i64 ay, .int .i64 az] 26 (0, 0)) := by rw [← hW0]; exact ((G.new _ _).alloc _).blk (blk_new w _ _)
  have hC0 : W0.heap[w.heap.size + 1]? = some (.cells #[.int .i64 cx, .int .i64 cy, .int .i64 cz, .int .i64 ci, .string cs] 38 (0, 0)) := by rw [← hW0]; exact (G.new _ _).blk (blk_new' _ _ _ _ (by simp))
  have hR0 : W0.heap[w.heap.size + 1 + 1]? = some (.cells #[.int .i64 0, .int .i64 0, .int .i64 0, .int .i64 0, .string ⟨#[]⟩] 38 (0, 0)) := by rw [← hW0]; exact blk_new' _ _ _ _ (by simp)
  have hG0 : G w W0 := by rw [← hW0]; exact ((G.new _ _).alloc _).alloc _
  clear hW0
  have hchk := check_any p W0 hp (hT.g hG0)
  unfold pollOk at hok
  dsimp only at hok
  cases h1 : patOk p with
  | false =>
    rw [h1] at hchk
    replace hchk := Lib.hid hchk
    clear hok
    go_wp2_with fail
    refine Calls.mono hchk.out ?_
    rintro e w1 ⟨rfl, hg1⟩
    clear hchk
    rw [show chkI false = 1 from rfl]
    obtain ⟨W9, SR, C9, hb9, hG9⟩ := store_blk (P := Tryd.prog) (T := 38) (cs := #[.int .i64 0, .int .i64 0, .int .i64 0, .int .i64 0, .string ⟨#[]⟩]) ((hg1).blk hR0) rfl (by kernel_rfl) (by kernel_rfl)
    replace hG9 := hG9 _ (hG0.trans (hg1)) (by omega)
    replace C9 := Lib.hid C9
    clear hb9 hR0
    go_wp2_with (refine wpList_store_at (ty := 38) (x := .tmp 13) rfl (by kernel_rfl) (p := .pointer (some ⟨w.heap.size + 1 + 1, 0, none⟩)) (v := .agg #[.int .i64 0, .int .i64 0, .int .i64 0, .int .i64 0, .string ⟨#[]⟩]) rfl rfl SR ?_; clear SR)
    refine bodyPost_ret (v := .tuple #[.slice none 0 0, .agg #[.int .i64 0, .int .i64 0, .int .i64 0, .int .i64 0, .string ⟨#[]⟩], .int .i64 1]) (results_tct (i := 13) (j := 14) (k := 12) rfl rfl rfl rfl C9.out Tryd.underlying38 rfl (by kernel_rfl)) rfl ?_
    exact ⟨rfl, hG9⟩
  | true =>
    rw [h1, Bool.true_and] at hok
    rw [h1] at hchk
    replace hchk := Lib.hid hchk
    go_wp2_with fail
    refine Calls.mono hchk.out ?_
    rintro e w1 ⟨rfl, hg1⟩
    clear hchk
    rw [show chkI true = 0 from rfl]
    have hC1 := hg1.blk hC0
    have k0 := (blk_cell hC1 0).trans (show _ = some (Value.int .i64 cx) from rfl)
    have k1 := (blk_cell hC1 1).trans (show _ = some (Value.int .i64 cy) from rfl)
    have k2 := (blk_cell hC1 2).trans (show _ = some (Value.int .i64 cz) from rfl)
    have hsd := sound_any cx cy cz w1
    unfold stV at hsd
    replace hsd := Lib.hid hsd
    go_wp2_with fail
    refine Calls.mono hsd.out ?_
    rintro e w2 ⟨rfl, hg2⟩
    clear hsd k0 k1 k2
    have hC2 := hg2.blk hC1
    have k3 := (blk_cell hC2 3).trans (show _ = some (Value.int .i64 ci) from rfl)
    cases h2 : soundB cx cy cz with
    | false =>
      clear hok
      obtain ⟨W9, SR, C9, hb9, hG9⟩ := store_blk (P := Tryd.prog) (T := 38) (cs := #[.int .i64 0, .int .i64 0, .int .i64 0, .int .i64 0, .string ⟨#[]⟩]) ((hg1.trans hg2).blk hR0) rfl (by kernel_rfl) (by kernel_rfl)
      replace hG9 := hG9 _ (hG0.trans (hg1.trans hg2)) (by omega)
      replace C9 := Lib.hid C9
      clear hb9 hR0
      go_wp2_with (refine wpList_store_at (ty := 38) (x := .tmp 13) rfl (by kernel_rfl) (p := .pointer (some ⟨w.heap.size + 1 + 1, 0, none⟩)) (v := .agg #[.int .i64 0, .int .i64 0, .int .i64 0, .int .i64 0, .string ⟨#[]⟩]) rfl rfl SR ?_; clear SR)
      refine bodyPost_ret (v := .tuple #[.slice none 0 0, .agg #[.int .i64 0, .int .i64 0, .int .i64 0, .int .i64 0, .string ⟨#[]⟩], .int .i64 1]) (results_tct (i := 13) (j := 14) (k := 12) rfl rfl rfl rfl C9.out Tryd.underlying38 rfl (by kernel_rfl)) rfl ?_
      exact ⟨rfl, hG9⟩
    | true =>
      rw [h2, Bool.true_and] at hok
      by_cases h3 : ci < 0
      · clear hok
        obtain ⟨W9, SR, C9, hb9, hG9⟩ := store_blk (P := Tryd.prog) (T := 38) (cs := #[.int .i64 0, .int .i64 0, .int .i64 0, .int .i64 0, .string ⟨#[]⟩]) ((hg1.trans hg2).blk hR0) rfl (by kernel_rfl) (by kernel_rfl)
        replace hG9 := hG9 _ (hG0.trans (hg1.trans hg2)) (by omega)
        replace C9 := Lib.hid C9
        clear hb9 hR0
        go_wp2_with (refine wpList_store_at (ty := 38) (x := .tmp 13) rfl (by kernel_rfl) (p := .pointer (some ⟨w.heap.size + 1 + 1, 0, none⟩)) (v := .agg #[.int .i64 0, .int .i64 0, .int .i64 0, .int .i64 0, .string ⟨#[]⟩]) rfl rfl SR ?_; clear SR)
        refine bodyPost_ret (v := .tuple #[.slice none 0 0, .agg #[.int .i64 0, .int .i64 0, .int .i64 0, .int .i64 0, .string ⟨#[]⟩], .int .i64 1]) (results_tct (i := 13) (j := 14) (k := 12) rfl rfl rfl rfl C9.out Tryd.underlying38 rfl (by kernel_rfl)) rfl ?_
        exact ⟨rfl, hG9⟩
      · by_cases h4 : max < 1
        · clear hok
          obtain ⟨W9, SR, C9, hb9, hG9⟩ := store_blk (P := Tryd.prog) (T := 38) (cs := #[.int .i64 0, .int .i64 0, .int .i64 0, .int .i64 0, .string ⟨#[]⟩]) ((hg1.trans hg2).blk hR0) rfl (by kernel_rfl) (by kernel_rfl)
          replace hG9 := hG9 _ (hG0.trans (hg1.trans hg2)) (by omega)
          replace C9 := Lib.hid C9
          clear hb9 hR0
          go_wp2_with (refine wpList_store_at (ty := 38) (x := .tmp 13) rfl (by kernel_rfl) (p := .pointer (some ⟨w.heap.size + 1 + 1, 0, none⟩)) (v := .agg #[.int .i64 0, .int .i64 0, .int .i64 0, .int .i64 0, .string ⟨#[]⟩]) rfl rfl SR ?_; clear SR)
          refine bodyPost_ret (v := .tuple #[.slice none 0 0, .agg #[.int .i64 0, .int .i64 0, .int .i64 0, .int .i64 0, .string ⟨#[]⟩], .int .i64 1]) (results_tct (i := 13) (j := 14) (k := 12) rfl rfl rfl rfl C9.out Tryd.underlying38 rfl (by kernel_rfl)) rfl ?_
          exact ⟨rfl, hG9⟩
        · by_cases h5 : 100 < max
          · clear hok
            obtain ⟨W9, SR, C9, hb9, hG9⟩ := store_blk (P := Tryd.prog) (T := 38) (cs := #[.int .i64 0, .int .i64 0, .int .i64 0, .int .i64 0, .string ⟨#[]⟩]) ((hg1.trans hg2).blk hR0) rfl (by kernel_rfl) (by kernel_rfl)
            replace hG9 := hG9 _ (hG0.trans (hg1.trans hg2)) (by omega)
            replace C9 := Lib.hid C9
            clear hb9 hR0
            go_wp2_with (refine wpList_store_at (ty := 38) (x := .tmp 13) rfl (by kernel_rfl) (p := .pointer (some ⟨w.heap.size + 1 + 1, 0, none⟩)) (v := .agg #[.int .i64 0, .int .i64 0, .int .i64 0, .int .i64 0, .string ⟨#[]⟩]) rfl rfl SR ?_; clear SR)
            refine bodyPost_ret (v := .tuple #[.slice none 0 0, .agg #[.int .i64 0, .int .i64 0, .int .i64 0, .int .i64 0, .string ⟨#[]⟩], .int .i64 1]) (results_tct (i := 13) (j := 14) (k := 12) rfl rfl rfl rfl C9.out Tryd.underlying38 rfl (by kernel_rfl)) rfl ?_
            exact ⟨rfl, hG9⟩
          · exfalso
            rw [decide_eq_true (by omega), decide_eq_true (by omega)] at hok
            cases hok
end Go.Proofs.YthhhobfdlgmjlaaDoor

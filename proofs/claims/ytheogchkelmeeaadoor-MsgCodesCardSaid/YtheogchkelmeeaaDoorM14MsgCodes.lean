/- Several texts in one: MsgWr, MsgMany, OwnSet, AllLaw. -/
import Derived.Test.YtheogchkelmeeaaDoorM10MsgCodes
import Derived.Deep.RegionLaw
import Derived.BigRegion
import Derived.Test.YtheogchkelmeeaaDoorM3MsgCodes
import Derived.Test.YtheogchkelmeeaaDoorM1MsgCodes
/- msg.writer's methods: nums, some. Conditions: lengths that an append bears. -/
namespace Go.Proofs.YtheogchkelmeeaaDoor
open Go.RowKit

theorem mwT : 98 ≠ 5 := by decide
set_option maxRecDepth 100000 in
set_option maxHeartbeats 4000000 in
theorem mNums_any (R base n : Nat) (st : Option (List UInt8)) (ns : List Int) (A : Option Addr) (c B : Nat) (w : World) (hw : WrS 98 R base n st w) (hR : base ≤ R) (hn : n + ns.length * 10 ≤ 1099511627776) (hns : ∀ x ∈ ns, -9223372036854775808 ≤ x ∧ x ≤ 9223372036854775807) (hs : ∀ w', Kw R base w w' → Sl intC 1 w' B A ns) :
    Calls Tryd.prog 61 #[.pointer (some ⟨R, 0, none⟩), .slice A ns.length c] w (WrPost 98 R base (n + ns.length * 10) (addNs 1099511627776 ns st) w) := by
  have hRw := hw.lt
  have hv : ∀ (n : Nat) (w' : World), n < 2 ^ 64 → Calls Tryd.prog 90 #[.int .u64 n] w' (RetBytes w' (vL n)) := fun n w' h => varint_any n w' h
  replace hv := Lib.hid hv
  replace hns := Lib.hid hns
  replace hs := Lib.hid hs
  replace hw := Lib.hid hw
  go_enter Tryd.func61, Tryd.ntmps61
  go_wp2_with fail
  go_loopw [8] (fun i wr => ∃ (k : Nat) (sk : Option (List UInt8)), i = .int .i64 k ∧ k ≤ ns.length ∧ Hid (WrS 98 R base (n + k * 10) sk wr) ∧ Hid (Kw R base w wr) ∧ (k = 0 ∧ sk = st ∨ ∃ l, st = some l ∧ sk = some (l ++ nLs (ns.take k)) ∧ okIs 1099511627776 (ns.take k) = true)) (fun i _ => ns.length - (intOf i).toNat)
  case atStart => exact ⟨0, st, rfl, Nat.zero_le _, (by simpa [Hid] using hw.out), Kw.refl _ _ _, .inl ⟨rfl, rfl⟩⟩
  case round =>
    obtain ⟨k, sk, rfl, hkl, hwr, hkw, hst⟩ := hrel
    have hc1 := hwr.out.c1
    have hfr := hwr.out.free 1
    have hRr := hwr.out.lt
    by_cases hlt : k < ns.length
    · obtain ⟨x, hx⟩ : ∃ x, ns[k]? = some x := ⟨_, List.getElem?_eq_getElem hlt⟩
      obtain ⟨b, o, rfl, hb, hcx⟩ := (hs.out _ hkw.out).int hx
      have hx64 := hns.out x (List.mem_of_getElem? hx)
      have n1 : (0 : Int) ≤ (k : Int) := by omega
      have n2 : (k : Int) < (ns.length : Int) := by omega
      cases sk with
      | none =>
        have hfin : addNs 1099511627776 ns st = none := by
          rcases hst with ⟨_, h⟩ | ⟨l, _, h, _⟩
          · rw [← h]; rfl
          · cases h
        have h2 := hwr.out.turn mwT
        have h2c := h2.c1
        have h2w := h2.more (n' := n + ns.length * 10) (by omega)
        have hk2 := hkw.out.trans (Kw.set hR 1 (.bool true))
        simp only [Option.isNone_none] at hc1 h2c
        replace h2 := Lib.hid h2
        replace h2w := Lib.hid h2w
        replace hk2 := Lib.hid hk2
        replace hfin := Lib.hid hfin
        replace hx := Lib.hid hx
        clear hst
        go_wp2_with fail
        (try simp only [Exit.inBlock, Exit.then])
        refine bodyPost_ret (results_none rfl _ _ _) rfl ?_
        exact ⟨rfl, by rw [hfin.out]; exact h2w.out, hk2.out⟩
      | some m =>
        simp only [Option.isNone_some] at hc1
        by_cases hx0 : 0 ≤ x
        case neg =>
          have t1 : decide (x < 0) = true := decide_eq_true (by omega)
          have t1' : x < 0 := by omega
          have hfin : addNs 1099511627776 ns st = none := addNs_no (okIs_not hx (by unfold okI; exact decide_eq_false (by omega)))
          have h2 := hwr.out.turn mwT
          have h2c := h2.c1
          have h2w := h2.more (n' := n + ns.length * 10) (by omega)
          have hk2 := hkw.out.trans (Kw.set hR 1 (.bool true))
          simp only [Option.isNone_none] at h2c
          replace h2 := Lib.hid h2
          replace h2w := Lib.hid h2w
          replace hk2 := Lib.hid hk2
          replace hfin := Lib.hid hfin
          replace hx := Lib.hid hx
          clear hst hx0
          go_wp2_with fail
          (try simp only [Exit.inBlock, Exit.then])
          refine bodyPost_ret (results_none rfl _ _ _) rfl ?_
          exact ⟨rfl, by rw [hfin.out]; exact h2w.out, hk2.out⟩
        have t1 : decide (x < 0) = false := decide_eq_false (by omega)
        by_cases hx1 : x ≤ 1099511627776
        case neg =>
          have t2 : decide (1099511627776 < x) = true := decide_eq_true (by omega)
          have t2' : 1099511627776 < x := by omega
          have hfin : addNs 1099511627776 ns st = none := addNs_no (okIs_not hx (by unfold okI; exact decide_eq_false (by omega)))
          have h2 := hwr.out.turn mwT
          have h2c := h2.c1
          have h2w := h2.more (n' := n + ns.length * 10) (by omega)
          have hk2 := hkw.out.trans (Kw.set hR 1 (.bool true))
          simp only [Option.isNone_none] at h2c
          replace h2 := Lib.hid h2
          replace h2w := Lib.hid h2w
          replace hk2 := Lib.hid hk2
          replace hfin := Lib.hid hfin
          replace hx := Lib.hid hx
          clear hst hx1
          go_wp2_with fail
          (try simp only [Exit.inBlock, Exit.then])
          refine bodyPost_ret (results_none rfl _ _ _) rfl ?_
          exact ⟨rfl, by rw [hfin.out]; exact h2w.out, hk2.out⟩
        have t2 : decide (1099511627776 < x) = false := decide_eq_false (by omega)
        obtain ⟨q, rfl⟩ : ∃ q : Nat, x = q := ⟨x.toNat, by omega⟩
        have hst2 : ∃ l, st = some l ∧ some (m ++ vL q) = some (l ++ nLs (ns.take (k + 1))) ∧ okIs 1099511627776 (ns.take (k + 1)) = true := by
          have hoq : okI 1099511627776 (q : Int) = true := by unfold okI; exact decide_eq_true (by omega)
          have hnq : nL (q : Int) = vL q := by unfold nL; rw [Int.toNat_natCast]
          rcases hst with ⟨rfl, h⟩ | ⟨l, h1, h2, h3⟩
          · exact ⟨m, h.symm, by rw [nLs_take hx, hnq]; rfl, okIs_take hx (by rfl) hoq⟩
          · refine ⟨l, h1, ?_, okIs_take hx h3 hoq⟩
            cases h2
            rw [nLs_take hx, hnq, List.append_assoc]
        have h2 := (hwr.out.stay mwT).g (G.refl _).drew
        obtain ⟨A8, c8, r1, r2, r3⟩ := h2.row
        have h2c := (hwr.out.stay mwT).c1
        have x0 := (blk_cell r1 0).trans (show _ = some (.slice A8 m.length c8) from rfl)
        have hk2 := hkw.out.trans ((Kw.set hR 1 (.bool false)).trans (Kw.of_g (G.refl _).drew (by have := hwr.out.lt; simp; omega)))
        simp only [Option.isNone_some] at h2c h2 r1 r2 x0
        have hvl := vL_len q
        have hv1 := fun w' => hv.out q w' (by omega)
        obtain ⟨m2, hm2⟩ : ∃ m2, m ++ vL q = m2 := ⟨_, rfl⟩
        rw [hm2] at hst2
        replace hm2 := Lib.hid hm2
        have hwq : IntKind.u64.wrap (q : Int) = (q : Int) := by rw [IntKind.wrap_u64]; omega
        have hz2 := h2.lt
        replace hst2 := Lib.hid hst2
        replace h2 := Lib.hid h2
        replace hk2 := Lib.hid hk2
        replace hx := Lib.hid hx
        replace r1 := Lib.hid r1
        replace r2 := Lib.hid r2
        replace hv1 := Lib.hid hv1
        clear hst
        go_upto_region 5 with fail
        go_region_law (first
          | (go_simp; go_at_call 90; refine Calls.mono (hv1.out _) ?_; rintro e w5 ⟨A5, c5, rfl, hown5, hg5⟩; have hsl5 := OwnL.self byteC_len hown5; have hA5 : A5 = none → vL q = [] := (fun h => (h ▸ hsl5).of_none); have x5 := (blk_cell (hg5.blk r1.out) 0).trans (show _ = some (.slice A8 m.length c8) from rfl))
          | (refine step_append_but byte_elem _ (by kernel_rfl) (.tmp 35) (.tmp 38) rfl base (.slice A8 m.length c8) m rfl (r2.out.g hg5) w5.heap.size A5 c5 (vL q) rfl hA5 hsl5 (by omega) (by omega) (by have := hg5.size; omega) ?_; intro v6 w6 hown6 hk6 hb6; rw [hm2.out] at hown6; obtain ⟨A6, c6, e6, _, _, _⟩ := OwnL.sl byteC_len hown6; subst e6; have r6 := hk6.2 _ _ _ _ mwT (hg5.blk r1.out); have y6 := (blk_cell r6 0).trans (show _ = some (.slice A8 m.length c8) from rfl); have x6 := (show w6.frozen? ⟨R, 0, none⟩ = false by simp [World.frozen?, r6]); have s6 := Lib.hid (WrS.put (st := some m2) (b := false) (n := n + (k + 1) * 10) mwT rfl r6 rfl hown6 (by rw [← hm2.out, List.length_append]; omega) (fun l' e => by cases e; rfl)); have k6 := Lib.hid ((hk2.out.trans (Kw.of_g hg5 (by omega))).trans ((Kw.of_keep hk6).trans (Kw.set hR 0 (.slice A6 m2.length c6)))); clear hown6 hk6 hb6))
        all_goals
          go_wp2_with fail
          go_roundw
          case rel => exact ⟨k + 1, some m2, by go_num, by omega, s6, k6, .inr hst2.out⟩
          case measure => (simp [intOf] <;> omega)
    · have hfin : addNs 1099511627776 ns st = sk := by
        rcases hst with ⟨hk0, h⟩ | ⟨l, h1, h2, h3⟩
        · have : ns = [] := List.eq_nil_of_length_eq_zero (by omega)
          subst this
          subst h
          cases sk with
          | none => rfl
          | some l => simp [addNs, okIs, nLs]
        · rw [List.take_of_length_le (by omega)] at h2 h3
          rw [h1, h2, addNs_yes h3]
      have h2w := hwr.out.more (n' := n + ns.length * 10) (by omega)
      replace hfin := Lib.hid hfin
      replace h2w := Lib.hid h2w
      clear hst
      go_wp2_with fail
      go_end0
      exact ⟨rfl, by rw [hfin.out]; exact h2w.out, hkw.out⟩

set_option maxRecDepth 100000 in
set_option maxHeartbeats 1000000 in
theorem mSome_any (R base n : Nat) (st : Option (List UInt8)) (l : List UInt8) (A : Option Addr) (c B : Nat) (w : World) (hw : WrS 98 R base n st w) (hR : base ≤ R) (hn : n + l.length ≤ 1099511627776) (hs : Sl byteC 1 w B A l) (hA : A = none → l = [])
    (hs2 : ∀ u, Sl byteC 1 (w.setCell ⟨R, 1, none⟩ u) B A l) :
    Calls Tryd.prog 58 #[.pointer (some ⟨R, 0, none⟩), .slice A l.length c] w (WrPost 98 R base (n + l.length) (addB l st) w) := by
  have hc1 := hw.c1
  have hfr := hw.free 1
  have hRw := hw.lt
  obtain ⟨nw, hnw⟩ : ∃ nw, addB l st = nw := ⟨_, rfl⟩
  obtain ⟨bb, hbb⟩ : ∃ bb, nw.isNone = bb := ⟨_, rfl⟩
  have hcond : (st.isNone = true ∧ bb = true) ∨ (st.isNone = false ∧ ((l.length : Int) == 0) = bb) := by
    cases st with
    | none => exact .inl ⟨rfl, by rw [← hbb, ← hnw]; rfl⟩
    | some m =>
      refine .inr ⟨rfl, ?_⟩
      rw [← hbb, ← hnw]
      unfold addB
      by_cases hl : l = []
      · subst hl; rfl
      · have : 0 < l.length := List.length_pos_iff.2 hl
        simp only [Option.bind_some, if_neg hl, Option.isNone_some, beq_eq_false_iff_ne]
        omega
  have hws : ∃ v m, (w.setCell ⟨R, 1, none⟩ (.bool bb)).heap[R]? = some (.cells #[v, .bool bb] 98 (0, 0)) ∧ OwnL 5 1 byteC (w.setCell ⟨R, 1, none⟩ (.bool bb)) base v m ∧ m.length ≤ n ∧ (∀ l', nw = some l' → l' = m ++ l) := by
    obtain ⟨v, m, h1, h2, h3, h4⟩ := hw
    refine ⟨v, m, by rw [blk_put h1]; rfl, h2.but' (but_set w R 1 _) (own_ne mwT h1 h2), h3, fun l' e => ?_⟩
    rw [← hnw] at e
    cases st with
    | none => cases e
    | some m' =>
      cases h4 m' rfl
      unfold addB at e
      by_cases hl : l = []
      · simp [hl] at e
      · simp [hl] at e
        exact e.symm
  obtain ⟨v, m, h1, h2, h3, h4⟩ := hws
  obtain ⟨A8, c8, rfl, _, _, _⟩ := OwnL.sl byteC_len h2
  have hsl := hs2 (.bool bb)
  have hz : R < (w.setCell ⟨R, 1, none⟩ (.bool bb)).heap.size := blk_lt h1
  have x0 := (blk_cell h1 0).trans (show _ = some (.slice A8 m.length c8) from rfl)
  have hk1 := Kw.set (w := w) hR 1 (.bool bb)
  obtain ⟨m2, hm2⟩ : ∃ m2, m ++ l = m2 := ⟨_, rfl⟩
  rw [hm2] at h4
  replace hm2 := Lib.hid hm2
  replace h1 := Lib.hid h1
  replace h2 := Lib.hid h2
  replace h4 := Lib.hid h4
  replace hk1 := Lib.hid hk1
  replace hsl := Lib.hid hsl
  replace hw := Lib.hid hw
  rw [hnw]
  replace hnw := Lib.hid hnw
  replace hbb := Lib.hid hbb
  clear hs hs2
  rcases hcond with ⟨hb1, rfl⟩ | ⟨hb1, hb2⟩
  all_goals
    rw [hb1] at hc1
    clear hb1
    go_enter Tryd.func58, Tryd.ntmps58
    go_wp2_with (at_builtin; refine wpList_append_but byte_elem _ rfl (.tmp 20) (.tmp 21) rfl base (.slice A8 m.length c8) m rfl h2.out B A c l rfl hA hsl.out (by omega) (by omega) (by omega) ?_; intro v6 w6 hown6 hk6 hb6; rw [hm2.out] at hown6; obtain ⟨A6, c6, e6, _, _, _⟩ := OwnL.sl byteC_len hown6; subst e6; have r6 := hk6.2 _ _ _ _ mwT h1.out; have y6 := (blk_cell r6 0).trans (show _ = some (.slice A8 m.length c8) from rfl); have x6 := (show w6.frozen? ⟨R, 0, none⟩ = false by simp [World.frozen?, r6]); have s6 := Lib.hid (WrS.put (st := nw) (n := n + l.length) mwT hbb.out.symm r6 rfl hown6 (by rw [← hm2.out, List.length_append]; omega) h4.out); have k6 := Lib.hid (hk1.out.trans ((Kw.of_keep hk6).trans (Kw.set hR 0 (.slice A6 m2.length c6)))); clear hown6 hk6 hb6)
    go_end0
    exact ⟨rfl, s6.out, k6.out⟩

theorem mintC_map (ns : List Int) : (ns.map fun n => Value.int .i64 n) = ns.flatMap intC := by
  induction ns with
  | nil => rfl
  | cons x l ih => rw [List.map_cons, List.flatMap_cons, ih]; rfl
/-- A slice in a block of its own, of another type than bytes: it stays. -/
theorem mkInts {R base b : Nat} {ns : List Int} {w : World} {t : TypeId} (ht : t ≠ 5) (hb : w.heap[b]? = some (.cells (ns.map fun n => Value.int .i64 n).toArray t (0, 0))) (hR : b ≠ R) : ∀ w', Kw R base w w' → Sl intC 1 w' (b + 1) (some ⟨b, 0, none⟩) ns := fun w' hk => by
  exact Sl.of_blk intC_len ns (hk.2 _ _ _ _ ht hR hb) (mintC_map ns) (Nat.lt_succ_self _)
/-- some, of a row that a call has made. -/
theorem mSome_own {R base n base' : Nat} {st : Option (List UInt8)} {l : List UInt8} {A : Option Addr} {c : Nat} {w : World} (hw : WrS 98 R base n st w) (hR : base ≤ R) (hn : n + l.length ≤ 1099511627776) (ho : OwnL 5 1 byteC w base' (.slice A l.length c) l) :
    Calls Tryd.prog 58 #[.pointer (some ⟨R, 0, none⟩), .slice A l.length c] w (WrPost 98 R base (n + l.length) (addB l st) w) := by
  have hsl := OwnL.self byteC_len ho
  refine mSome_any R base n st l A c w.heap.size w hw hR hn hsl (fun h => (h ▸ hsl).of_none) fun u => ?_
  obtain ⟨v, m, h1, _⟩ := hw
  have h2 := ho.but' (but_set w R 1 u) (own_ne mwT h1 ho)
  have h3 := OwnL.self byteC_len h2
  have hz := (but_set w R 1 u).size
  intro hne
  obtain ⟨b, o, e, hb, hc⟩ := h3 hne
  exact ⟨b, o, e, by simpa using hb, hc⟩
end Go.Proofs.YtheogchkelmeeaaDoor
/- msg.writer.many. Conditions: lengths that an append bears. -/
namespace Go.Proofs.YtheogchkelmeeaaDoor
open Go.RowKit

set_option maxRecDepth 100000 in
set_option maxHeartbeats 1000000 in
theorem mMany_any (R base n k : Nat) (st : Option (List UInt8)) (w : World) (hw : WrS 98 R base n st w) (hR : base ≤ R) (hn : n + 10 ≤ 1099511627776) (hk : k ≤ 9223372036854775807) :
    Calls Tryd.prog 91 #[.pointer (some ⟨R, 0, none⟩), .int .i64 k] w (WrPost 98 R base (n + 10) (addMany 1099511627776 k st) w) := by
  have hc1 := hw.c1
  have hfr := hw.free 1
  have hRw := hw.lt
  obtain ⟨s1, hs1⟩ : ∃ s1, (if k ≤ 1000 then st else none) = s1 := ⟨_, rfl⟩
  have hfin : addMany 1099511627776 k st = addNs 1099511627776 [(k : Int)] s1 := by
    rw [← hs1]
    unfold addMany
    cases st with
    | none => split <;> rfl
    | some l => by_cases h : k ≤ 1000 <;> simp [h, addNs]
  obtain ⟨bb, hbb⟩ : ∃ bb, s1.isNone = bb := ⟨_, rfl⟩
  have hcond : (st.isNone = true ∧ bb = true) ∨ (st.isNone = false ∧ decide ((1000 : Int) < (k : Int)) = bb) := by
    cases st with
    | none => exact .inl ⟨rfl, by rw [← hbb, ← hs1]; split <;> rfl⟩
    | some m =>
      refine .inr ⟨rfl, ?_⟩
      rw [← hbb, ← hs1]
      by_cases h : k ≤ 1000
      · rw [if_pos h]; exact decide_eq_false (by omega)
      · rw [if_neg h]; exact decide_eq_true (by omega)
  have hws : WrS 98 R base n s1 (w.setCell ⟨R, 1, none⟩ (.bool bb)) := by
    rw [← hbb, ← hs1]
    split
    · exact hw.stay mwT
    · exact hw.turn mwT
  have hk1 := Kw.set (w := w) hR 1 (.bool bb)
  have hz := hws.lt
  have hse : (w.setCell ⟨R, 1, none⟩ (.bool bb)).heap.size = w.heap.size := by simp
  have hg1 := G.new (w.setCell ⟨R, 1, none⟩ (.bool bb)) (.cells #[.int .i64 k] 3)
  have hN := blk_new (w.setCell ⟨R, 1, none⟩ (.bool bb)) #[.int .i64 k] 3
  rw [hse] at hN hz
  have hnums : Calls Tryd.prog 61 #[.pointer (some ⟨R, 0, none⟩), .slice (some ⟨w.heap.size, 0, none⟩) 1 1] ((w.setCell ⟨R, 1, none⟩ (.bool bb)).alloc (.cells #[.int .i64 k] 3)) (WrPost 98 R base (n + 10) (addNs 1099511627776 [(k : Int)] s1) ((w.setCell ⟨R, 1, none⟩ (.bool bb)).alloc (.cells #[.int .i64 k] 3))) := mNums_any R base n s1 [(k : Int)] (some ⟨w.heap.size, 0, none⟩) 1 _ _ (hws.g hg1) hR (by simp; omega) (by simp; omega) (mkInts (base := base) (ns := [(k : Int)]) (by decide : 3 ≠ 5) hN (by omega))
  have hkg := hk1.trans (Kw.of_g (base := base) hg1 (by rw [hse]; omega))
  rw [hfin]
  clear hse
  replace hfin := Lib.hid hfin
  replace hnums := Lib.hid hnums
  replace hkg := Lib.hid hkg
  replace hs1 := Lib.hid hs1
  replace hbb := Lib.hid hbb
  replace hws := Lib.hid hws
  replace hw := Lib.hid hw
  clear hN hg1
  rcases hcond with ⟨hb1, rfl⟩ | ⟨hb1, hb2⟩
  all_goals
    rw [hb1] at hc1
    clear hb1
    go_enter Tryd.func91, Tryd.ntmps91
    go_wp2_with (go_at_call 61; refine Calls.mono hnums.out ?_; rintro e w3 ⟨rfl, hw3, hk3⟩; have hk3' := Lib.hid (hkg.out.trans hk3); replace hw3 := Lib.hid hw3; clear hk3)
    go_end0
    exact ⟨rfl, hw3.out, hk3'.out⟩
end Go.Proofs.YtheogchkelmeeaaDoor
/- A store into a row of the call's own. No condition. -/
namespace Go.Proofs.YtheogchkelmeeaaDoor
open Go.RowKit

section
variable {α : Type} {e : TypeId} {sz : Nat} {f : α → List Value} {w w' : World} {base : Nat} {xs : List α}
theorem flat_set (hf : ∀ x, (f x).length = sz) {j : Nat} (hj : j < sz) {u : Value} {y : α} : ∀ (xs : List α) (k : Nat) (x : α), xs[k]? = some x → f y = (f x).set j u → (xs.flatMap f).set (k * sz + j) u = (xs.set k y).flatMap f
  | [], k, x, h, _ => by simp at h
  | a :: xs, 0, x, h, hy => by
    simp only [List.getElem?_cons_zero, Option.some.injEq] at h
    subst h
    rw [List.set_cons_zero, List.flatMap_cons, List.flatMap_cons, hy, Nat.zero_mul, Nat.zero_add, List.set_append_left _ _ (by rw [hf]; exact hj)]
  | a :: xs, k + 1, x, h, hy => by
    rw [List.getElem?_cons_succ] at h
    have hm : (k + 1) * sz + j = sz + (k * sz + j) := by rw [Nat.succ_mul]; omega
    rw [List.set_cons_succ, List.flatMap_cons, List.flatMap_cons, List.set_append_right _ _ (by rw [hf, hm]; omega), hf, hm, Nat.add_sub_cancel_left, flat_set hf hj xs k x h hy]
theorem OwnL.put (hf : ∀ x, (f x).length = sz) {g c : Nat} (h : OwnL e sz f w base (.slice (some ⟨g, 0, none⟩) xs.length c) xs) {k j : Nat} {x y : α} {u : Value} (hx : xs[k]? = some x) (hj : j < sz) (hy : f y = (f x).set j u) :
    OwnL e sz f (w.setCell ⟨g, k * sz + j, none⟩ u) base (.slice (some ⟨g, 0, none⟩) xs.length c) (xs.set k y) := by
  have hl : (xs.set k y).length = xs.length := by simp
  have hfs := flat_set hf hj xs k x hx hy
  refine ⟨by rw [flat_length hf], ?_⟩
  rcases h.2 with ⟨h1, _⟩ | ⟨b, cap, cur, hv, hb, hh, hn, hc, hsz, hr⟩
  · cases h1
  · cases hv
    have e1 : (w.setCell ⟨g, k * sz + j, none⟩ u).heap[g]? = some (.cells (cur.setIfInBounds (k * sz + j) u) e (0, 0)) := by
      rw [setCell_eq_setRow w g (k * sz + j) cur e (0, 0) u hh]
      exact setRow_heap w g cur _ e _ hh
    refine .inr ⟨g, c, _, by rw [hl], hb, e1, by rw [hl]; exact hn, hc, by simpa using hsz, ?_⟩
    rw [Array.toList_setIfInBounds, hl, List.take_set, hr, hfs]
end
end Go.Proofs.YtheogchkelmeeaaDoor
/- What penstockref1.All lists: the runes of a text. No condition. -/
namespace Go.Proofs.YtheogchkelmeeaaDoor
open Go.RowKit

/-- One of a text's runes. -/
structure Ru where
  r : Nat
  beg : Nat
  en : Nat
  no : Bool
def Ru.cells (x : Ru) : List Value := [.int .i32 x.r, .int .i64 x.beg, .int .i64 x.en, .bool x.no]
theorem Ru.cells_len (x : Ru) : x.cells.length = 4 := rfl
theorem ru_elem : IsElem Tryd.prog 156 159 4 32 Ru.cells :=
  isElem_of (z := .agg #[.int .i32 0, .int .i64 0, .int .i64 0, .bool false]) Tryd.underlying156 (by kernel_rfl) rfl (by omega) (fun _ => rfl) (fun x u hu => by
    simp only [Ru.cells, List.mem_cons, List.not_mem_nil, or_false] at hu
    rcases hu with rfl | rfl | rfl | rfl <;> rfl)
def rAt (l : List UInt8) (i : Nat) : Nat := ((cks l)[i]?.map Ck.r).getD 0
def badAt (l : List UInt8) (i : Nat) : Bool := ((cks l)[i]?.map Ck.bad).getD false
theorem rAt_eq {l : List UInt8} {k : Nat} {c : Ck} (h : (cks l)[k]? = some c) : rAt l k = c.r := by simp [rAt, h]
theorem badAt_eq {l : List UInt8} {k : Nat} {c : Ck} (h : (cks l)[k]? = some c) : badAt l k = c.bad := by simp [badAt, h]
/-- The runes ahead of the k-th, whose ends are known. -/
def baseL (l : List UInt8) (k : Nat) : List Ru := (List.range k).map fun i => ⟨rAt l i, off l i, off l (i + 1), false⟩
/-- All's list behind k runes. -/
def preL (l : List UInt8) : Nat → List Ru
  | 0 => []
  | k + 1 => baseL l k ++ [⟨rAt l k, off l k, l.length, false⟩]
/-- All's list, with j runes told whether they begin nothing. -/
def allL (l : List UInt8) (j : Nat) : List Ru := (List.range (cks l).length).map fun i => ⟨rAt l i, off l i, off l (i + 1), if i < j then badAt l i else false⟩
theorem baseL_len (l : List UInt8) (k : Nat) : (baseL l k).length = k := by simp [baseL]
theorem preL_len (l : List UInt8) : ∀ k, (preL l k).length = k
  | 0 => rfl
  | k + 1 => by rw [preL, List.length_append, baseL_len]; rfl
theorem allL_len (l : List UInt8) (j : Nat) : (allL l j).length = (cks l).length := by simp [allL]
theorem baseL_succ (l : List UInt8) (k : Nat) : baseL l (k + 1) = baseL l k ++ [⟨rAt l k, off l k, off l (k + 1), false⟩] := by
  unfold baseL
  rw [List.range_succ, List.map_append]
  rfl
theorem preL_last (l : List UInt8) (k : Nat) : (preL l (k + 1))[k]? = some ⟨rAt l k, off l k, l.length, false⟩ := by
  rw [preL, List.getElem?_append_right (by rw [baseL_len]; omega), baseL_len, Nat.sub_self]
  rfl
theorem preL_put (l : List UInt8) (k : Nat) : (preL l (k + 1)).set k ⟨rAt l k, off l k, off l (k + 1), false⟩ ++ [⟨rAt l (k + 1), off l (k + 1), l.length, false⟩] = preL l (k + 2) := by
  rw [preL, preL, baseL_succ, List.set_append_right _ _ (by rw [baseL_len]; omega), baseL_len, Nat.sub_self]
  rfl
theorem preL_all (l : List UInt8) : preL l (cks l).length = allL l 0 := by
  have h0 : allL l 0 = baseL l (cks l).length := by
    unfold allL baseL
    refine List.map_congr_left fun i _ => ?_
    rw [if_neg (by omega)]
  rw [h0]
  rcases hn : (cks l).length with _ | n
  · rfl
  · rw [preL, baseL_succ, ← hn, off_end]
theorem allL_get (l : List UInt8) (j i : Nat) (h : i < (cks l).length) : (allL l j)[i]? = some ⟨rAt l i, off l i, off l (i + 1), if i < j then badAt l i else false⟩ := by
  unfold allL
  rw [List.getElem?_map, List.getElem?_range h]
  rfl
theorem allL_put (l : List UInt8) (j : Nat) (h : j < (cks l).length) : (allL l j).set j ⟨rAt l j, off l j, off l (j + 1), badAt l j⟩ = allL l (j + 1) := by
  refine List.ext_getElem? fun i => ?_
  rw [List.getElem?_set, allL_len]
  by_cases hi : j = i
  · subst hi
    rw [if_pos rfl, if_pos h, allL_get _ _ _ h, if_pos (by omega)]
  · rw [if_neg hi]
    rcases Nat.lt_or_ge i (cks l).length with h1 | h1
    · rw [allL_get _ _ _ h1, allL_get _ _ _ h1]
      by_cases h2 : i < j
      · rw [if_pos h2, if_pos (by omega)]
      · rw [if_neg h2, if_neg (by omega)]
    · rw [List.getElem?_eq_none (by rw [allL_len]; exact h1), List.getElem?_eq_none (by rw [allL_len]; exact h1)]
end Go.Proofs.YtheogchkelmeeaaDoor

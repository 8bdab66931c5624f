/- Several texts in one: MPuts, Load, Canon. -/
import Derived.Test.YtheogchkelmeeaaDoorM33MsgCodes
import Derived.Test.YtheogchkelmeeaaDoorMsgPiecesQMsgCodes
import Derived.Test.YtheogchkelmeeaaDoorRefSmEncQMsgCodes
import Derived.Test.YtheogchkelmeeaaDoorM3MsgCodes
import Derived.Deep.MidRow
import Derived.Test.YtheogchkelmeeaaDoorBatLawQMsgCodes
/- penstockref10's ints and streams: lists behind a row. Conditions: lengths that an append bears; the decoder's tables lie as the library lays them. -/
namespace Go.Proofs.YtheogchkelmeeaaDoor
open Go.RowKit

set_option maxRecDepth 100000 in
set_option maxHeartbeats 1000000 in
theorem ints10_any (ns : List Int) (l : List UInt8) (A0 An : Option Addr) (c0 cn base B : Nat) (w : World) (hown : OwnL 5 1 byteC w base (.slice A0 l.length c0) l) (hbase : base ≤ w.heap.size) (hl : l.length ≤ 1099000000000) (hnl : ns.length ≤ 1000000) (hns : ∀ x ∈ ns, 0 ≤ x ∧ x ≤ 4611686018427387904)
    (hs : ∀ w', KeepT 5 base w w' → Sl intC 1 w' B An ns) :
    Calls Tryd.prog 44 #[.slice A0 l.length c0, .slice An ns.length cn] w (PostW w (.slice A0 l.length c0) base ((l ++ vL ns.length) ++ nLs ns)) := by
  obtain ⟨m1, hm1⟩ : ∃ m, l ++ vL ns.length = m := ⟨_, rfl⟩
  have hm1l : m1.length ≤ l.length + 10 := by rw [← hm1, List.length_append]; have := vL_len ns.length; omega
  rw [hm1]
  have hc := num10_own (Lib.hid hm1) (by omega) (by omega) hown hbase
  replace hc := Lib.hid hc
  replace hs := Lib.hid hs
  replace hns := Lib.hid hns
  clear hm1 hown
  go_enter Tryd.func44, Tryd.ntmps44
  go_wp2_with (go_at_call 45; refine Calls.mono hc.out ?_; rintro e w1 ⟨A1, d1, rfl, ho1, hk1, ht1⟩; replace ho1 := Lib.hid ho1; replace hk1 := Lib.hid hk1; replace ht1 := Lib.hid ht1)
  clear hc
  go_loopw [0, 5] (fun v i wr => ∃ (k : Nat) (m : List UInt8) (A8 : Option Addr) (c8 : Nat), v = .slice A8 m.length c8 ∧ i = .int .i64 k ∧ k ≤ ns.length ∧ Hid (m = m1 ++ nLs (ns.take k)) ∧ Hid (OwnL 5 1 byteC wr base (.slice A8 m.length c8) m) ∧ Hid (KeepT 5 base w wr) ∧ Hid (Turn w (.slice A0 l.length c0) (.slice A8 m.length c8) wr)) (fun _ i _ => ns.length - (intOf i).toNat)
  case atStart => exact ⟨0, m1, A1, d1, rfl, rfl, Nat.zero_le _, by simp [Hid, nLs], ho1, hk1, ht1⟩
  case round =>
    clear ho1 hk1 ht1
    obtain ⟨k, m, A8, c8, rfl, rfl, hkl, hm, ho, hk, ht⟩ := hrel
    by_cases hlt : k < ns.length
    · obtain ⟨x, hx⟩ : ∃ x, ns[k]? = some x := ⟨_, List.getElem?_eq_getElem hlt⟩
      obtain ⟨b, o, rfl, hb, hcx⟩ := (hs.out _ hk.out).int hx
      have hx0 := hns.out x (List.mem_of_getElem? hx)
      obtain ⟨q, rfl⟩ : ∃ q : Nat, x = q := ⟨x.toNat, by omega⟩
      have htk := nLs_take hx
      have hnq : nL (q : Int) = vL q := by unfold nL; rw [Int.toNat_natCast]
      rw [hnq] at htk
      have hml : m.length ≤ l.length + 10 + k * 10 := by
        rw [hm.out, List.length_append]
        have := nLs_len (ns.take k)
        rw [List.length_take] at this
        omega
      have n1 : (0 : Int) ≤ (k : Int) := by omega
      have n2 : (k : Int) < (ns.length : Int) := by omega
      obtain ⟨m2, hm2⟩ : ∃ m2, m ++ vL q = m2 := ⟨_, rfl⟩
      have hm3 : m2 = m1 ++ nLs (ns.take (k + 1)) := by rw [← hm2, hm.out, htk, List.append_assoc]
      have hz := keepT_sz hk.out
      have hc := num10_own (Lib.hid hm2) (by omega) (by omega) ho.out (Nat.le_trans hbase hz)
      replace hc := Lib.hid hc
      replace hm3 := Lib.hid hm3
      replace hx := Lib.hid hx
      clear htk hm2 hnq hml
      go_wp2_with (go_at_call 45; refine Calls.mono hc.out ?_; rintro e w2 ⟨A2, d2, rfl, ho2, hk2, ht2⟩; have hk3 := Lib.hid (hk.out.trans hk2); have ht3 := Lib.hid (ht.out.trans ht2); replace ho2 := Lib.hid ho2; clear hk2 ht2)
      go_roundw
      case rel => exact ⟨k + 1, m2, A2, d2, rfl, by go_num, by omega, hm3, ho2, hk3, ht3⟩
      case measure => (simp [intOf] <;> omega)
    · have hfin : m1 ++ nLs ns = m := by
        have := hm.out
        rw [List.take_of_length_le (by omega)] at this
        exact this.symm
      replace hfin := Lib.hid hfin
      go_wp2_with fail
      go_ret
      rw [hfin.out]
      exact ⟨A8, c8, rfl, ho.out, hk.out, ht.out⟩
set_option maxRecDepth 100000 in
set_option maxHeartbeats 2000000 in
theorem streams10_any (sms : List SmM) (l : List UInt8) (A0 As : Option Addr) (c0 cs base B : Nat) (w : World) (hown : OwnL 5 1 byteC w base (.slice A0 l.length c0) l) (hbase : base ≤ w.heap.size) (hl : l.length ≤ 599000000000) (hnl : sms.length ≤ 1000000) (hsm : ∀ s ∈ sms, SmSmall s.name s.es s.ks ∧ (smL s.sm).length ≤ 500000)
    (hs : ∀ w', KeepT 5 base w w' → SmsIn w' B As sms) (hB : B ≤ w.heap.size) (hT : ∀ w', KeepT 5 base w w' → Tabs w') :
    Calls Tryd.prog 47 #[.slice A0 l.length c0, .slice As sms.length cs] w (PostW w (.slice A0 l.length c0) base ((l ++ vL sms.length) ++ (sms.map SmM.sm).flatMap smL)) := by
  obtain ⟨m1, hm1⟩ : ∃ m, l ++ vL sms.length = m := ⟨_, rfl⟩
  have hm1l : m1.length ≤ l.length + 10 := by rw [← hm1, List.length_append]; have := vL_len sms.length; omega
  rw [hm1]
  have hc := num10_own (Lib.hid hm1) (by omega) (by omega) hown hbase
  replace hc := Lib.hid hc
  replace hs := Lib.hid hs
  replace hT := Lib.hid hT
  replace hsm := Lib.hid hsm
  clear hm1 hown
  go_enter Tryd.func47, Tryd.ntmps47
  go_wp2_with (go_at_call 45; refine Calls.mono hc.out ?_; rintro e w1 ⟨A1, d1, rfl, ho1, hk1, ht1⟩; replace ho1 := Lib.hid ho1; replace hk1 := Lib.hid hk1; replace ht1 := Lib.hid ht1)
  clear hc
  go_loopw [0, 5] (fun v i wr => ∃ (k : Nat) (m : List UInt8) (A8 : Option Addr) (c8 : Nat), v = .slice A8 m.length c8 ∧ i = .int .i64 k ∧ k ≤ sms.length ∧ m.length ≤ l.length + 10 + k * 500000 ∧ Hid (m = m1 ++ ((sms.map SmM.sm).take k).flatMap smL) ∧ Hid (OwnL 5 1 byteC wr base (.slice A8 m.length c8) m) ∧ Hid (KeepT 5 base w wr) ∧ Hid (Turn w (.slice A0 l.length c0) (.slice A8 m.length c8) wr)) (fun _ i _ => sms.length - (intOf i).toNat)
  case atStart => exact ⟨0, m1, A1, d1, rfl, rfl, Nat.zero_le _, by omega, by simp [Hid], ho1, hk1, ht1⟩
  case round =>
    clear ho1 hk1 ht1
    obtain ⟨k, m, A8, c8, rfl, rfl, hkl, hml, hm, ho, hk, ht⟩ := hrel
    have hz := keepT_sz hk.out
    by_cases hlt : k < sms.length
    · obtain ⟨⟨sn, Ae, ce, es, Ak, ck, ks⟩, hx⟩ : ∃ x, sms[k]? = some x := ⟨_, List.getElem?_eq_getElem hlt⟩
      have hmem := List.mem_of_getElem? hx
      obtain ⟨hss, hsl⟩ := hsm.out _ hmem
      have hsi := (hs.out _ hk.out).2 _ hmem
      obtain ⟨bb, o, rfl, hb, c0', c1, c2⟩ := (hs.out _ hk.out).1.smc hx
      have htk := flat_take_succ smL (l := sms.map SmM.sm) (k := k) (x := ⟨sn, es, ks⟩) (by rw [List.getElem?_map, hx]; rfl)
      unfold SmM.sm at hsl
      dsimp only at c0' c1 c2 hss hsl hsi
      have n1 : (0 : Int) ≤ (k : Int) := by omega
      have n2 : (k : Int) < (sms.length : Int) := by omega
      obtain ⟨sL, hsL⟩ : ∃ sL, smL ⟨sn, es, ks⟩ = sL := ⟨_, rfl⟩
      obtain ⟨m2, hm2⟩ : ∃ m2, m ++ sL = m2 := ⟨_, rfl⟩
      have hm3 : m2 = m1 ++ ((sms.map SmM.sm).take (k + 1)).flatMap smL := by rw [htk, hsL, ← hm2, hm.out, List.append_assoc]
      have hm2l : m2.length = m.length + sL.length := by rw [← hm2, List.length_append]
      have hc := refSmEnc_any sn es ks Ae Ak ce ck wr (SmIn.more hsi (Nat.le_trans hB hz)) hss (hT.out _ hk.out)
      rw [hsL] at hc hsl
      replace hc := Lib.hid hc
      replace hm3 := Lib.hid hm3
      replace hm2 := Lib.hid hm2
      replace hm2l := Lib.hid hm2l
      replace hx := Lib.hid hx
      replace hsi := Lib.hid hsi
      replace hss := Lib.hid hss
      replace hsL := Lib.hid hsL
      clear htk hmem
      go_wp2_with (first
        | (go_at_call 53; refine Calls.mono hc.out ?_; rintro e5 w5 ⟨A5, c5, rfl, hob, hgb, _⟩; have hsl5 := OwnL.self byteC_len hob; have hA5 : A5 = none → sL = [] := (fun h => (h ▸ hsl5).of_none); have ho5 := Lib.hid (ho.out.g hgb); have hk5 := Lib.hid (hk.out.trans (KeepT.of_g hgb (Nat.le_trans hbase hz))); have ht5 := Lib.hid (ht.out.after hgb); have hz5 := hgb.size; clear hob hgb)
        | (at_builtin; refine wpList_append_w byte_elem _ rfl (.tmp 16) (.tmp 21) rfl base (.slice A8 m.length c8) m rfl ho5.out w5.heap.size A5 c5 sL rfl hA5 hsl5 (by omega) (by omega) (by omega) ?_; intro v6 w6 hown6 hk6 hb6 hw6; rw [hm2.out] at hown6; obtain ⟨A6, c6, e6, _, _, _⟩ := OwnL.sl byteC_len hown6; subst e6; have hk7 := Lib.hid (hk5.out.trans hk6); have ht7 := Lib.hid (ht5.out.trans (Turn.of_app hb6 hw6)); replace hown6 := Lib.hid hown6; clear hk6 hb6 hw6))
      go_roundw
      case rel => exact ⟨k + 1, m2, A6, c6, rfl, by go_num, by omega, by have := hm2l.out; omega, hm3, hown6, hk7, ht7⟩
      case measure => (simp [intOf] <;> omega)
    · have hfin : m1 ++ (sms.map SmM.sm).flatMap smL = m := by
        have := hm.out
        rw [List.take_of_length_le (by rw [List.length_map]; omega)] at this
        exact this.symm
      replace hfin := Lib.hid hfin
      go_wp2_with fail
      go_ret
      rw [hfin.out]
      exact ⟨A8, c8, rfl, ho.out, hk.out, ht.out⟩
end Go.Proofs.YtheogchkelmeeaaDoor
/- A struct that is a block of its own is loaded whole. No condition. -/
namespace Go.Proofs.YtheogchkelmeeaaDoor
open Go.RowKit

theorem load_blk {P : Program} {W : World} {b : Nat} {cs : Array Value} {t T : TypeId} {fz : Nat × Nat} {d : TypeDesc} (h : W.heap[b]? = some (.cells cs t fz)) (hu : P.underlying T = some d) (hd : d.isRow = true) (hi : (P.info? T).map (·.size) = some cs.size) :
    (Instr.loadAt T (.pointer (some ⟨b, 0, none⟩))).run P W = .ok (.agg cs) W := by
  have := run_loadAt_mid (P := P) W b 0 T cs.toList d (fun j v hv => by rw [Nat.zero_add, blk_cell h]; simpa using hv) hu hd (by simpa using hi)
  simpa using this
/-- The operation, by what the load answers: an arm of the walk's. -/
theorem wp_load_at {P : Program} {op : Oper} {a : Act} {w : World} {K : Act → World → Prop} {Q : Exit → Act → World → Prop} {ty : TypeId} {x : Operand} (ho : op.op = .load ty x) {p v : Value} (hx : a.eval x = p) (hl : (Instr.loadAt ty p).run P w = .ok v w)
    (h : K (a.put op.dst v) w) : op.wp P a w K Q := by
  unfold Oper.wp execOp
  simp only [ho, hx, Sem.run_bind, Sem.run_pure, Result.andThen_ok, hl]
  exact h
/-- The same, at a list of operations: guarded or not. -/
theorem wpList_load_at {P : Program} {ops : Array Oper} {rest : List Oper} {op : Oper} {a : Act} {w : World} {Q : Exit → Act → World → Prop} {ty : TypeId} {x : Operand} (ho : op.op = .load ty x) (hg : Region.wanted op (yielded ops a.tmps) = true) {p v : Value} (hx : a.eval x = p)
    (hl : (Instr.loadAt ty p).run P w = .ok v w) (h : wpList P ops Q rest (a.put op.dst v) w) : wpList P ops Q (op :: rest) a w :=
  wpList_step fun K hK => by
    rw [if_pos hg]
    exact wp_load_at ho hx hl (hK _ _ h)
theorem setCells_stc (b : Nat) : ∀ (vs : List Value) (o : Nat) (w : World), w.setCells b o vs = stc w b o vs
  | [], _, _ => rfl
  | v :: r, o, w => setCells_stc b r (o + 1) (w.setCell ⟨b, o, none⟩ v)
/-- A struct is laid whole into a block of its own. -/
theorem store_blk {P : Program} {W : World} {b : Nat} {old cs : Array Value} {t T : TypeId} (h : W.heap[b]? = some (.cells old t (0, 0))) (hz : old.size = cs.size) (hi : (P.info? T).map (·.size) = some cs.size) (h1 : cs.all (·.oneCell') = true) :
    ∃ W', (Instr.storeAt T (.pointer (some ⟨b, 0, none⟩)) (.agg cs)).run P W = .ok () W' ∧ W'.heap[b]? = some (.cells cs t (0, 0)) ∧ But (fun k => k = b) W W' ∧ ∀ w0, G w0 W → w0.heap.size ≤ b → G w0 W' := by
  refine ⟨_, run_storeAt_mid (P := P) W b 0 T cs (fun j hj => ?_) hi h1, ?_, ?_, ?_⟩
  · rw [Nat.zero_add, blk_cell h]
    refine ⟨?_, by simp [World.frozen?, h]⟩
    rw [Array.getElem?_eq_getElem (by omega)]
    rfl
  · rw [setCells_stc, stc_blk cs.toList h (by simpa using hz)]
  · rw [setCells_stc]
    exact stc_but (fun k => k = b) b rfl cs.toList W W 0 (But.refl _ _)
  · intro w0 hg hb
    rw [setCells_stc]
    exact G.stc cs.toList hg hb
theorem wp_store_at {P : Program} {op : Oper} {a : Act} {w w' : World} {K : Act → World → Prop} {Q : Exit → Act → World → Prop} {ty : TypeId} {x y : Operand} (ho : op.op = .store ty x y) {p v : Value} (hx : a.eval x = p) (hy : a.eval y = v) (hl : (Instr.storeAt ty p v).run P w = .ok () w')
    (h : K (a.put op.dst undef) w') : op.wp P a w K Q := by
  unfold Oper.wp execOp
  simp only [ho, hx, hy, Sem.run_bind, Sem.run_pure, Result.andThen_ok, hl]
  exact h
theorem wpList_store_at {P : Program} {ops : Array Oper} {rest : List Oper} {op : Oper} {a : Act} {w w' : World} {Q : Exit → Act → World → Prop} {ty : TypeId} {x y : Operand} (ho : op.op = .store ty x y) (hg : Region.wanted op (yielded ops a.tmps) = true) {p v : Value} (hx : a.eval x = p) (hy : a.eval y = v)
    (hl : (Instr.storeAt ty p v).run P w = .ok () w') (h : wpList P ops Q rest (a.put op.dst undef) w') : wpList P ops Q (op :: rest) a w :=
  wpList_step fun K hK => by
    rw [if_pos hg]
    exact wp_store_at ho hx hy hl (hK _ _ h)
/-- A struct result that is a block of its own. -/
theorem results_cell {P : Program} {fn : Func} {tmps : Array Value} {W : World} {i b : Nat} {cs : Array Value} {t T : TypeId} {fz : Nat × Nat} {d : TypeDesc} (hr : fn.results = #[.cell i T]) (hp : tmps.getD i undef = .pointer (some ⟨b, 0, none⟩)) (h : W.heap[b]? = some (.cells cs t fz)) (hu : P.underlying T = some d) (hd : d.isRow = true) (hi : (P.info? T).map (·.size) = some cs.size) :
    (results fn tmps).run P W = .ok (.agg cs) W := by
  have h2 := run_loadVar_mid (P := P) W b 0 T cs.toList d (fun j v hv => by rw [Nat.zero_add, blk_cell h]; simpa using hv) hu hd (by simpa using hi)
  have h3 : (asAddr (tmps.getD i undef)).run P W = .ok ⟨b, 0, none⟩ W := by rw [hp]; rfl
  have h4 : (tmps[i]?.getD undef) = tmps.getD i undef := by simp [Array.getD_eq_getD_getElem?]
  unfold results
  rw [hr]
  simp only [List.mapM_toArray, List.mapM_cons, List.mapM_nil, Sem.run_bind, Sem.run_pure, Functor.map]
  have h5 : ∀ (m : Sem (List Value)) (w1 : World), (m.bind (Sem.pure ∘ List.toArray)).run P w1 = (m.run P w1).andThen fun a w' => .ok a.toArray w' := fun m w1 => by
    show (m >>= fun a => pure a.toArray).run P w1 = _
    simp only [Sem.run_bind, Sem.run_pure]
  rw [h5]
  simp only [Sem.run_bind, Sem.run_pure, Result.andThen_ok, h3, h2]
  rfl
end Go.Proofs.YtheogchkelmeeaaDoor
/- What is read is what would be written: each reader takes just the bytes that its writer writes. Plain mathematics. No condition. -/
namespace Go.Proofs.YtheogchkelmeeaaDoor
open Go.RowKit

theorem uF_canon : ∀ (l : List UInt8) (i acc v n : Nat), uF i acc l = some (v, n) → acc < 2 ^ (7 * i) → ∃ u, v = acc + u * 2 ^ (7 * i) ∧ l = vF (10 - i) u ++ l.drop (n - i) ∧ (0 < i → 0 < u)
  | [], _, _, _, _, h, _ => by simp [uF] at h
  | x :: l, i, acc, v, n, h, hacc => by
    unfold uF at h
    by_cases hi : 10 ≤ i
    · rw [if_pos hi] at h; cases h
    rw [if_neg hi] at h
    have hx := x.toNat_lt
    obtain ⟨m, hm⟩ : ∃ m, 10 - i = m + 1 := ⟨9 - i, by omega⟩
    by_cases h1 : 127 < x.toNat
    · rw [if_pos h1] at h
      have hp := pow_step i
      have hacc' : acc + (x.toNat - 128) * 2 ^ (7 * i) < 2 ^ (7 * (i + 1)) := by
        rw [hp]
        have : (x.toNat - 128) * 2 ^ (7 * i) ≤ 127 * 2 ^ (7 * i) := Nat.mul_le_mul_right _ (by omega)
        omega
      obtain ⟨u, e1, e2, e3⟩ := uF_canon l (i + 1) _ v n h hacc'
      have hb := uF_bd l (i + 1) _ v n h hacc'
      have hu := e3 (by omega)
      refine ⟨(x.toNat - 128) + u * 128, ?_, ?_, fun _ => by omega⟩
      · rw [e1, hp, Nat.add_mul, Nat.mul_assoc]
        omega
      · rw [hm]
        unfold vF
        rw [if_neg (by omega)]
        have a1 : (x.toNat - 128 + u * 128) % 128 + 128 = x.toNat := by omega
        have a2 : (x.toNat - 128 + u * 128) / 128 = u := by omega
        rw [a1, a2, UInt8.ofNat_toNat, List.cons_append]
        have a3 : n - i = (n - (i + 1)) + 1 := by omega
        rw [a3, List.drop_succ_cons]
        have a4 : 10 - (i + 1) = m := by omega
        rw [a4] at e2
        rw [← e2]
    · rw [if_neg h1] at h
      split at h
      · cases h
      · rename_i h2
        simp only [Option.some.injEq, Prod.mk.injEq] at h
        obtain ⟨rfl, rfl⟩ := h
        refine ⟨x.toNat, rfl, ?_, fun h3 => by omega⟩
        rw [hm]
        unfold vF
        rw [if_pos (by omega), UInt8.ofNat_toNat]
        simp
theorem uL_canon {l : List UInt8} {v n : Nat} (h : uL l = some (v, n)) : l = vL v ++ l.drop n := by
  obtain ⟨u, e1, e2, _⟩ := uF_canon l 0 0 v n h (by simp)
  simp at e1
  subst e1
  exact e2
/-- A reader that takes just what f writes. -/
def Cn {α : Type} (d : Reader α) (f : α → List UInt8) : Prop := ∀ l x r, d l = some (x, r) → l = f x ++ r
theorem cn_num : Cn dNum vL := fun l x r h => by
  unfold dNum at h
  split at h
  · rename_i v n h1
    simp only [Option.some.injEq, Prod.mk.injEq] at h
    obtain ⟨rfl, rfl⟩ := h
    exact uL_canon h1
  · cases h
theorem cn_count (m : Nat) : Cn (dCount m) vL := fun l x r h => cn_num l x r (dCount_num h).1
theorem cn_text : Cn dText textL := fun l x r h => by
  unfold dText at h
  split at h
  · rename_i s n h1
    simp only [Option.some.injEq, Prod.mk.injEq] at h
    obtain ⟨rfl, rfl⟩ := h
    unfold tL at h1
    split at h1
    · rename_i v k h2
      have hb := uL_bd h2
      split at h1
      · rename_i h3
        simp only [Option.some.injEq, Prod.mk.injEq] at h1
        obtain ⟨rfl, rfl⟩ := h1
        have hl : ((l.drop k).take v).length = v := by rw [List.length_take, List.length_drop]; omega
        unfold textL
        rw [hl, List.append_assoc, ← List.drop_drop, List.take_append_drop]
        exact uL_canon h2
      · cases h1
    · cases h1
  · cases h
section
variable {α β γ : Type}
theorem Cn.bind {d : Reader α} {f : α → List UInt8} {k : α → Reader β} {g : β → List UInt8} (hd : Cn d f) (hk : ∀ l x r y q, d l = some (x, r) → k x r = some (y, q) → f x ++ r = g y ++ q) : Cn (rb d k) g := fun l y q h => by
  obtain ⟨x, r, h1, h2⟩ := rb_inv h
  rw [hd l x r h1]
  exact hk l x r y q h1 h2
theorem cn_many {d : Reader α} {f : α → List UInt8} (hd : Cn d f) : ∀ n, Cn (dMany d n) (fun xs => xs.flatMap f)
  | 0 => fun l x r h => by
    obtain ⟨rfl, rfl⟩ := rp_inv h
    rfl
  | n + 1 => fun l xs r h => by
    obtain ⟨x, r1, h1, h2⟩ := rb_inv h
    obtain ⟨ys, r2, h3, h4⟩ := rb_inv h2
    obtain ⟨rfl, rfl⟩ := rp_inv h4
    rw [hd l x r1 h1, cn_many hd n r1 ys r2 h3]
    simp [List.flatMap_cons, List.append_assoc]
end
theorem strOf_data (s : List UInt8) : (strOf s).data.toList = s := rfl
theorem cn_stamp : Cn dStamp stL := fun l x q h => by
  obtain ⟨a, r1, h1, h⟩ := rb_inv h
  obtain ⟨b, r2, h2, h⟩ := rb_inv h
  obtain ⟨c, r3, h3, h⟩ := rb_inv h
  obtain ⟨rfl, rfl⟩ := rp_inv h
  rw [cn_count _ _ _ _ h1, cn_count _ _ _ _ h2, cn_count _ _ _ _ h3]
  simp [stL, List.append_assoc]
theorem cn_event : Cn dEvent evL := fun l x q h => by
  have hok := dEvent_ok h
  obtain ⟨s, r1, h1, h⟩ := rb_inv h
  obtain ⟨v, r2, h2, h⟩ := rb_inv h
  obtain ⟨d, r3, h3, h⟩ := rb_inv h
  obtain ⟨t, r4, h4, h⟩ := rb_inv h
  obtain ⟨i, r5, h5, h⟩ := rb_inv h
  obtain ⟨_, rfl, rfl⟩ := rif_inv h
  rw [evL_some hok, cn_text _ _ _ h1, cn_count _ _ _ _ h2, cn_text _ _ _ h3, cn_stamp _ _ _ h4, cn_count _ _ _ _ h5]
  simp [evBytes, strOf_data, List.append_assoc]
theorem zig_zag (v : Nat) : zigN (zagI v) = v := by
  unfold zagI zigN
  split <;> split <;> omega
theorem cn_put {l r : List UInt8} {p : PutP} (h : dPut l = some (p, r)) (hp : putOk p = true) : l = putBytes p ++ r := by
  obtain ⟨s, r1, h1, h⟩ := rb_inv h
  obtain ⟨v, r2, h2, h⟩ := rb_inv h
  obtain ⟨m, r3, h3, h⟩ := rb_inv h
  obtain ⟨ds, r4, h4, h⟩ := rb_inv h
  obtain ⟨rfl, rfl⟩ := rp_inv h
  have hz : zigN (zagI v) = v := zig_zag v
  have hl := (dMany_len eats_text _ _ _ _ h4).1
  rw [cn_text _ _ _ h1, cn_num _ _ _ h2, cn_count _ _ _ _ h3, cn_many cn_text _ _ _ _ h4]
  unfold putBytes
  simp only [strOf_data, hz, List.length_map, hl, List.append_assoc]
  congr 4
  rw [List.flatMap_map]
  rfl
theorem cn_puts : ∀ (n : Nat) (l : List UInt8) (ps : List PutP) (r : List UInt8), dMany dPut n l = some (ps, r) → (∀ p ∈ ps, putOk p = true) → l = ps.flatMap putBytes ++ r
  | 0, l, ps, r, h, _ => by
    obtain ⟨rfl, rfl⟩ := rp_inv h
    rfl
  | n + 1, l, ps, r, h, hp => by
    obtain ⟨x, r1, h1, h2⟩ := rb_inv h
    obtain ⟨ys, r2, h3, h4⟩ := rb_inv h2
    obtain ⟨rfl, rfl⟩ := rp_inv h4
    rw [cn_put h1 (hp x (by simp)), cn_puts n r1 ys r2 h3 fun p h5 => hp p (by simp [h5]), List.flatMap_cons, List.append_assoc]
theorem cn_batch {l r : List UInt8} {key : ByteArray} {ps : List PutP} (h : dBatch l = some ((key, ps), r)) : l = batL key ps ++ r := by
  have hok := dBatch_ok h
  obtain ⟨s, r1, h1, h⟩ := rb_inv h
  obtain ⟨n, r2, h2, h⟩ := rb_inv h
  obtain ⟨qs, r3, h3, h⟩ := rb_inv h
  obtain ⟨_, e, rfl⟩ := rif_inv h
  simp only [Prod.mk.injEq] at e
  obtain ⟨rfl, rfl⟩ := e
  have hl := (dMany_len eats_put _ _ _ _ h3).1
  rw [batL_ok hok, cn_text _ _ _ h1, cn_count _ _ _ _ h2, cn_puts _ _ _ _ h3 fun p hp => argB_put ((chkN_ok _ _).1 hok).1 hp]
  simp [batBytes, strOf_data, hl, List.append_assoc]
theorem cn_known : Cn dKnown knBytes := fun l x q h => by
  obtain ⟨s, r1, h1, h⟩ := rb_inv h
  obtain ⟨v, r2, h2, h⟩ := rb_inv h
  obtain ⟨t, r3, h3, h⟩ := rb_inv h
  obtain ⟨rfl, rfl⟩ := rp_inv h
  rw [cn_text _ _ _ h1, cn_count _ _ _ _ h2, cn_stamp _ _ _ h3]
  simp [knBytes, strOf_data, List.append_assoc]
theorem cn_stream : Cn dStream smL := fun l x q h => by
  have hok := dStream_ok h
  obtain ⟨s, r1, h1, h⟩ := rb_inv h
  obtain ⟨n, r2, h2, h⟩ := rb_inv h
  obtain ⟨es, r3, h3, h⟩ := rb_inv h
  obtain ⟨m, r4, h4, h⟩ := rb_inv h
  obtain ⟨ks, r5, h5, h⟩ := rb_inv h
  obtain ⟨_, rfl, rfl⟩ := rif_inv h
  have hl := (dMany_len eats_event _ _ _ _ h3).1
  have hl2 := (dMany_len eats_known _ _ _ _ h5).1
  rw [smL_ok hok, cn_text _ _ _ h1, cn_num _ _ _ h2, cn_many cn_event _ _ _ _ h3, cn_num _ _ _ h4, cn_many cn_known _ _ _ _ h5]
  simp [smBytes, strOf_data, hl, hl2, List.append_assoc]
end Go.Proofs.YtheogchkelmeeaaDoor

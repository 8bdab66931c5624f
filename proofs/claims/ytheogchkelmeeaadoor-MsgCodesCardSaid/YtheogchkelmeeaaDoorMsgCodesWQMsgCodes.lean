/- penstocklaw10.MsgCodes: the walk. Condition: the decoder's tables lie as the library lays them. -/
import Derived.Test.YtheogchkelmeeaaDoorRefMEnc9QMsgCodes
import Derived.Test.YtheogchkelmeeaaDoorM47MsgCodes
import Derived.Test.YtheogchkelmeeaaDoorM29MsgCodes
import Derived.Test.YtheogchkelmeeaaDoorMsgOnlyQMsgCodes
import Derived.Test.YtheogchkelmeeaaDoorM49MsgCodes
import Derived.Test.YtheogchkelmeeaaDoorM19MsgCodes
namespace Go.Proofs.YtheogchkelmeeaaDoor
open Go.RowKit


/-- The load of a struct that is a block of its own, as an operation of a region that draws. -/
theorem exec_loadM {P : Program} {op : Oper} {ev : Operand → Value} {w : World} {ty : TypeId} {x : Operand} (ho : op.op = .load ty x) {p v : Value} (hx : ev x = p) (hl : (Instr.loadAt ty p).run P w = .ok v w) : (execOp ev op).run P w = .ok (.value v) w := by
  unfold execOp
  simp only [ho, hx, Sem.run_bind, Sem.run_pure, Result.andThen_ok, hl]
set_option maxRecDepth 100000 in
set_option maxHeartbeats 1000000 in
theorem refMName1 (w : World) : Calls Tryd.prog 24 #[.int .i64 1] w fun e w' => e = .returned (.string (nmM 1)) ∧ G w w' := by
  go_enter Tryd.func24, Tryd.ntmps24
  go_wp2_with fail
  go_ret
  exact ⟨rfl, G.new _ _⟩
set_option maxRecDepth 100000 in
set_option maxHeartbeats 1000000 in
theorem refMName2 (w : World) : Calls Tryd.prog 24 #[.int .i64 2] w fun e w' => e = .returned (.string (nmM 2)) ∧ G w w' := by
  go_enter Tryd.func24, Tryd.ntmps24
  go_wp2_with fail
  go_ret
  exact ⟨rfl, G.new _ _⟩
set_option maxRecDepth 100000 in
set_option maxHeartbeats 1000000 in
theorem refMName3 (w : World) : Calls Tryd.prog 24 #[.int .i64 3] w fun e w' => e = .returned (.string (nmM 3)) ∧ G w w' := by
  go_enter Tryd.func24, Tryd.ntmps24
  go_wp2_with fail
  go_ret
  exact ⟨rfl, G.new _ _⟩
set_option maxRecDepth 100000 in
set_option maxHeartbeats 1000000 in
theorem refMName4 (w : World) : Calls Tryd.prog 24 #[.int .i64 4] w fun e w' => e = .returned (.string (nmM 4)) ∧ G w w' := by
  go_enter Tryd.func24, Tryd.ntmps24
  go_wp2_with fail
  go_ret
  exact ⟨rfl, G.new _ _⟩
set_option maxRecDepth 100000 in
set_option maxHeartbeats 1000000 in
theorem refMName5 (w : World) : Calls Tryd.prog 24 #[.int .i64 5] w fun e w' => e = .returned (.string (nmM 5)) ∧ G w w' := by
  go_enter Tryd.func24, Tryd.ntmps24
  go_wp2_with fail
  go_ret
  exact ⟨rfl, G.new _ _⟩
set_option maxRecDepth 100000 in
set_option maxHeartbeats 1000000 in
theorem refMName6 (w : World) : Calls Tryd.prog 24 #[.int .i64 6] w fun e w' => e = .returned (.string (nmM 6)) ∧ G w w' := by
  go_enter Tryd.func24, Tryd.ntmps24
  go_wp2_with fail
  go_ret
  exact ⟨rfl, G.new _ _⟩
set_option maxRecDepth 100000 in
set_option maxHeartbeats 1000000 in
theorem refMName7 (w : World) : Calls Tryd.prog 24 #[.int .i64 7] w fun e w' => e = .returned (.string (nmM 7)) ∧ G w w' := by
  go_enter Tryd.func24, Tryd.ntmps24
  go_wp2_with fail
  go_ret
  exact ⟨rfl, G.new _ _⟩
set_option maxRecDepth 100000 in
set_option maxHeartbeats 1000000 in
theorem refMName8 (w : World) : Calls Tryd.prog 24 #[.int .i64 8] w fun e w' => e = .returned (.string (nmM 8)) ∧ G w w' := by
  go_enter Tryd.func24, Tryd.ntmps24
  go_wp2_with fail
  go_ret
  exact ⟨rfl, G.new _ _⟩
set_option maxRecDepth 100000 in
set_option maxHeartbeats 1000000 in
theorem refMName9 (w : World) : Calls Tryd.prog 24 #[.int .i64 9] w fun e w' => e = .returned (.string (nmM 9)) ∧ G w w' := by
  go_enter Tryd.func24, Tryd.ntmps24
  go_wp2_with fail
  go_ret
  exact ⟨rfl, G.new _ _⟩
theorem refMName_any (k : Int) (w : World) (hk : kOk k = true) : Calls Tryd.prog 24 #[.int .i64 k] w fun e w' => e = .returned (.string (nmM k)) ∧ G w w' := by
  rcases mkind_cases2 hk with rfl | rfl | rfl | rfl | rfl | rfl | rfl | rfl | rfl
  · exact refMName1 w
  · exact refMName2 w
  · exact refMName3 w
  · exact refMName4 w
  · exact refMName5 w
  · exact refMName6 w
  · exact refMName7 w
  · exact refMName8 w
  · exact refMName9 w
theorem encM_len {r : MsgM} (hs : r.Small) (ho : r.only = r) : (((encM r.p).getD [] : List UInt8)).length ≤ 1099511627776 := by
  have hp : r.p = r.p.only := by rw [← MsgM.only_p, ho]
  rw [hp, encM_eq, ← hp]
  cases hc : chkM r.p with
  | false => simp [opt]
  | true =>
    have fn := mfine_of hc
    have h1 := nLs_len [r.x1, r.x2, r.x3]
    have h2 := nLs_len [r.z1, r.z2, r.z3, r.z4]
    have h3 := nL_len r.code
    have h4 := nL_len r.src
    have h5 := nLs_len r.firsts
    have h6 := fn.firstsL
    have h7 := vL_len r.firsts.length
    have h8 := stL_len r.st
    have h9 := hs.bat
    have h10 := flatLe smL 500000 (r.sms.map SmM.sm) fun m hm => by
      obtain ⟨s, hs', rfl⟩ := List.mem_map.1 hm
      exact (hs.sms s hs').2
    have h11 := vL_len (r.sms.map SmM.sm).length
    have h12 := fn.smsL
    rw [List.length_map] at h10 h11
    have h13 : ([if r.yes = true then 1 else 0] : List UInt8).length = 1 := rfl
    have h14 : ([UInt8.ofNat r.kind.toNat] : List UInt8).length = 1 := rfl
    have h15 := nLs_len [r.src, r.total]
    have h16 := vL_len r.es.length
    have h17 := flatLe evL 500000 r.es fun e he => (hs.es e he).2
    have h18 := fn.esL
    have h19 := vL_len r.rgs.length
    have h20 := flatLe (fun g => nLs (rgNs g)) 40 r.rgs fun g _ => by
      have := nLs_len (rgNs g)
      rw [show (rgNs g).length = 4 from rfl] at this
      omega
    have h21 := fn.rgsL
    rw [show [r.x1, r.x2, r.x3].length = 3 from rfl] at h1
    rw [show [r.z1, r.z2, r.z3, r.z4].length = 4 from rfl] at h2
    rw [show [r.src, r.total].length = 2 from rfl] at h15
    show (docM r.p).length ≤ _
    unfold docM MsgM.p
    dsimp only
    repeat' split
    all_goals (simp only [List.length_append, List.length_map, List.length_cons, List.length_nil]; omega)
set_option maxRecDepth 100000 in
set_option maxHeartbeats 8000000 in
theorem msgCodes_walk (r : MsgM) (w : World) (hin : r.In w) (hi : r.Wide) (hT : Tabs w) : Calls Tryd.prog 4 #[.agg r.cells] w fun e w' => e = .returned (.bool true) ∧ G w w' := by
  have hg0 := G.new w (.cells r.cells 36)
  have B0 := blk_new w r.cells 36
  have LR0 := load_blk (P := Tryd.prog) (T := 36) B0 Tryd.underlying36 rfl (by kernel_rfl)
  have hsm := small10_any r (w.alloc (.cells r.cells 36)) (hin.g hg0) hi
  have haw := fun w' => awake10_any w'
  replace haw := Lib.hid haw
  replace hg0 := Lib.hid hg0
  replace B0 := Lib.hid B0
  cases hb : decide (msgBulk r ≤ 6000) with
  | false =>
    rw [hb] at hsm
    replace hb := Lib.hid hb
    replace hin := Lib.hid hin
    replace hi := Lib.hid hi
    replace hT := Lib.hid hT
    replace hsm := Lib.hid hsm
    go_enter Tryd.func4, Tryd.ntmps4
    go_upto_region 1 with fail
    generalize w.alloc (.cells r.cells 36) = W0 at *
    go_wp2_with (first | (refine wpList_load_at rfl (by kernel_rfl) (p := .pointer (some ⟨_, 0, none⟩)) rfl LR0 ?_) | (go_at_call 8; (with_reducible refine Calls.mono hsm.out ?_); rintro e w1 ⟨rfl, hg1⟩) | (go_at_call 9; (with_reducible refine Calls.mono (haw.out _) ?_); rintro e w2 ⟨rfl, hg2⟩))
    go_ret
    exact ⟨rfl, (hg0.out.trans hg1).trans hg2⟩
  | true =>
    rw [hb] at hsm
    have hok := (msg_small hi (of_decide_eq_true hb)).only
    have hin' : ∀ w', G w w' → r.only.In w' := fun w' hg => (hin.g hg).only
    have honly := r.only_only
    have hon := fun w' => monly_any r w'
    generalize r.only = m at *
    have hmd := fun w' => made_any m w'
    unfold MadeV at hmd
    replace hb := Lib.hid hb
    replace hin := Lib.hid hin
    replace hi := Lib.hid hi
    replace hsm := Lib.hid hsm
    replace hon := Lib.hid hon
    cases hk : kOk m.kind with
    | false =>
      have hmd' : ∀ w', Calls Tryd.prog 11 #[.agg m.cells] w' fun e w'' => ∃ v, e = .returned v ∧ G w' w'' ∧ NoMsg v := fun w' => by
        refine (hmd w').mono ?_
        rintro e w'' ⟨v, rfl, hg, ⟨h, _⟩ | ⟨_, h⟩⟩
        · rw [hk] at h; cases h
        · exact ⟨v, rfl, hg, h⟩
      clear hmd
      have hk0 := kOk_no hk
      replace hmd' := Lib.hid hmd'
      replace hk := Lib.hid hk
      replace hok := Lib.hid hok
      replace hin' := Lib.hid hin'
      replace honly := Lib.hid honly
      replace hT := Lib.hid hT
      replace hk0 := Lib.hid hk0
      go_enter Tryd.func4, Tryd.ntmps4
      go_upto_region 1 with fail
      generalize w.alloc (.cells r.cells 36) = W0 at *
      go_upto_region 3 with (first | (refine wpList_load_at rfl (by kernel_rfl) (p := .pointer (some ⟨_, 0, none⟩)) rfl LR0 ?_) | (go_at_call 8; (with_reducible refine Calls.mono hsm.out ?_); rintro e w1 ⟨rfl, hg1⟩))
      clear LR0 hsm
      have B1 := hg1.blk B0.out
      have hG1 := hg0.out.trans hg1
      have LR1 := load_blk (P := Tryd.prog) (T := 36) B1 Tryd.underlying36 rfl (by kernel_rfl)
      replace B1 := Lib.hid B1
      go_upto_region 4 with (first | (refine wpList_load_at rfl (by kernel_rfl) (p := .pointer (some ⟨_, 0, none⟩)) rfl LR1 ?_) | (go_at_call 10; (with_reducible refine Calls.mono (hon.out _) ?_); rintro e w2 ⟨rfl, hg2⟩; have B2 := hg2.blk B1.out; obtain ⟨w3, SR3, C3, hb3, hG3⟩ := store_blk (P := Tryd.prog) (T := 36) (cs := m.cells) B2 rfl (by kernel_rfl) (by kernel_rfl); have hG3' := hG3 w (hG1.trans hg2) (Nat.le_refl _); replace hG3' := Lib.hid hG3'; clear hb3 hG3 B2) | (refine wpList_store_at (ty := 36) rfl (by kernel_rfl) (p := .pointer (some ⟨w.heap.size, 0, none⟩)) (v := .agg m.cells) rfl rfl SR3 ?_; clear SR3))
      clear LR1 hon
      have hGw3 := hG3'.out
      have LR3 := load_blk (P := Tryd.prog) (T := 36) C3 Tryd.underlying36 rfl (by kernel_rfl)
      replace C3 := Lib.hid C3
      go_upto_region 5 with (first
        | (refine wpList_load_at rfl (by kernel_rfl) (p := .pointer (some ⟨w.heap.size, 0, none⟩)) rfl LR3 ?_; clear LR3)
        | (go_at_call 11; (with_reducible refine Calls.mono (hmd'.out _) ?_); rintro e w4 ⟨v, rfl, hg4, hnv⟩))
      have he : ∀ w', Calls Tryd.prog 18 #[v] w' fun e w'' => ∃ A c, e = .returned (.tuple #[.slice A 0 c, .int .i64 12]) ∧ G w' w'' := fun w' => by
        refine (enc_noMsg hnv w').mono ?_
        rintro e w'' ⟨A, c, rfl, _, hg⟩
        exact ⟨A, c, rfl, hg⟩
      have hkn := fun w' => kind_noMsg hnv w'
      have hnm := fun w' => name_noMsg hnv w'
      have hck := fun w' => check_noMsg hnv w'
      replace he := Lib.hid he
      replace hkn := Lib.hid hkn
      replace hnm := Lib.hid hnm
      replace hck := Lib.hid hck
      replace hnv := Lib.hid hnv
      go_upto_region 6 with (go_at_call 18; (with_reducible refine Calls.mono (he.out _) ?_); rintro e w5 ⟨A5, c5, rfl, hg5⟩)
      have hG5 := (hGw3.trans hg4).trans hg5
      have k0 := (blk_cell (hg5.blk (hg4.blk C3.out)) 0).trans (show _ = some (.int .i64 m.kind) from rfl)
      have hkc : m.kind < 1 ∨ 9 < m.kind := by have := hk0.out; omega
      have t7 : ∀ (P : Prop), (decide (m.kind < 1) = true → P) → (decide (m.kind < 1) = false → decide (9 < m.kind) = true → P) → P := fun P h1 h2 => by
        by_cases h : m.kind < 1
        · exact h1 (decide_eq_true h)
        · exact h2 (decide_eq_false h) (decide_eq_true (by omega))
      refine t7 _ (fun t8 => ?_) (fun t8 t9 => ?_)
      all_goals
        clear t7 hkc
        go_wp2_with (first
          | (go_at_call 19; (with_reducible refine Calls.mono (hkn.out _) ?_); rintro e w6 ⟨rfl, hg6⟩)
          | (go_at_call 20; (with_reducible refine Calls.mono (hnm.out _) ?_); rintro e w7 ⟨rfl, hg7⟩)
          | (go_at_call 21; (with_reducible refine Calls.mono (hck.out _) ?_); rintro e w8 ⟨rfl, hg8⟩)
          | (go_at_call 9; (with_reducible refine Calls.mono (haw.out _) ?_); rintro e w9 ⟨rfl, hg9⟩))
        go_ret
        exact ⟨rfl, (((hG5.trans hg6).trans hg7).trans hg8).trans hg9⟩
    | true =>
      have hmd' : ∀ w', Calls Tryd.prog 11 #[.agg m.cells] w' fun e w'' => e = .returned m.iface ∧ G w' w'' := fun w' => by
        refine (hmd w').mono ?_
        rintro e w'' ⟨v, rfl, hg, ⟨_, rfl⟩ | ⟨h, _⟩⟩
        · exact ⟨rfl, hg⟩
        · rw [hk] at h; cases h
      clear hmd
      have hk0 : 1 ≤ m.kind ∧ m.kind ≤ 9 := of_decide_eq_true hk
      have t1 : decide (m.kind < 1) = false := decide_eq_false (by omega)
      have t2 : decide (9 < m.kind) = false := decide_eq_false (by omega)
      have hlen := encM_len hok honly
      have hc1 : ∀ w', G w w' → Calls Tryd.prog 18 #[m.iface] w' (RetM 1 w' (encM m.p)) := fun w' hg => by
        have h := msgEnc_any m w' hk (hin' w' hg) hok (hT.g hg)
        rw [honly] at h
        exact h
      have hc2 : ∀ w', G w w' → Calls Tryd.prog 22 #[.agg m.cells] w' (RetM 1 w' (encM m.p)) := fun w' hg => refMEnc_any m w' (hin' w' hg) hok (hT.g hg) hk honly
      have hk1 : ∀ w', G w w' → Calls Tryd.prog 21 #[m.iface] w' fun e w'' => e = .returned (.int .i64 (codeM 1 (encM m.p))) ∧ G w' w'' := fun w' hg => by
        have h := msgCheck_any m w' hk (hin' w' hg) hok (hT.g hg)
        rw [honly] at h
        exact h
      have hk2 : ∀ w', G w w' → Calls Tryd.prog 25 #[.agg m.cells] w' fun e w'' => e = .returned (.int .i64 (codeM 1 (encM m.p))) ∧ G w' w'' := fun w' hg => by
        have h := refMChk_any m w' (hin' w' hg) hok (hT.g hg)
        have hp : m.p = m.p.only := by rw [← MsgM.only_p, honly]
        rw [hp, encM_eq, ← hp]
        unfold chkC at h
        rw [if_neg (by rw [hk]; decide)] at h
        cases hc : chkM m.p <;> (rw [hc] at h; exact h)
      have hn1 : ∀ w', Calls Tryd.prog 20 #[m.iface] w' fun e w'' => e = .returned (.string (nmM m.kind)) ∧ G w' w'' := fun w' => msgName_any m w' hk
      have hn2 : ∀ w', Calls Tryd.prog 24 #[.int .i64 m.kind] w' fun e w'' => e = .returned (.string (nmM m.kind)) ∧ G w' w'' := fun w' => refMName_any m.kind w' hk
      have hkd : ∀ w', Calls Tryd.prog 19 #[m.iface] w' fun e w'' => e = .returned (.int .i64 m.kind) ∧ G w' w'' := fun w' => msgKind_any m w' hk
      obtain ⟨o, ho⟩ : ∃ o, encM m.p = o := ⟨_, rfl⟩
      rw [ho] at hc1 hc2 hk1 hk2 hlen
      obtain ⟨l, hl⟩ : ∃ l, (o.getD [] : List UInt8) = l := ⟨_, rfl⟩
      have hc1' : ∀ w', G w w' → Calls Tryd.prog 18 #[m.iface] w' (fun e w'' => ∃ A c, e = .returned (.tuple #[.slice A l.length c, .int .i64 (codeM 1 o)]) ∧ OwnL 5 1 byteC w'' w'.heap.size (.slice A l.length c) l ∧ G w' w'') := fun w' hg => by have h := hc1 w' hg; unfold RetM at h; rw [hl] at h; exact h
      have hc2' : ∀ w', G w w' → Calls Tryd.prog 22 #[.agg m.cells] w' (fun e w'' => ∃ A c, e = .returned (.tuple #[.slice A l.length c, .int .i64 (codeM 1 o)]) ∧ OwnL 5 1 byteC w'' w'.heap.size (.slice A l.length c) l ∧ G w' w'') := fun w' hg => by have h := hc2 w' hg; unfold RetM at h; rw [hl] at h; exact h
      rw [hl] at hlen
      generalize codeM 1 o = cd at *
      generalize nmM m.kind = nm at *
      clear hc1 hc2 ho hl
      generalize hiv : m.iface = iv at *
      replace hiv := Lib.hid hiv
      replace hc1' := Lib.hid hc1'
      replace hc2' := Lib.hid hc2'
      replace hk1 := Lib.hid hk1
      replace hk2 := Lib.hid hk2
      replace hn1 := Lib.hid hn1
      replace hn2 := Lib.hid hn2
      replace hkd := Lib.hid hkd
      replace hmd' := Lib.hid hmd'
      replace hk := Lib.hid hk
      replace hok := Lib.hid hok
      replace hin' := Lib.hid hin'
      replace honly := Lib.hid honly
      replace hT := Lib.hid hT
      replace hk0 := Lib.hid hk0
      go_enter Tryd.func4, Tryd.ntmps4
      go_upto_region 1 with fail
      generalize w.alloc (.cells r.cells 36) = W0 at *
      go_upto_region 3 with (first | (refine wpList_load_at rfl (by kernel_rfl) (p := .pointer (some ⟨_, 0, none⟩)) rfl LR0 ?_) | (go_at_call 8; (with_reducible refine Calls.mono hsm.out ?_); rintro e w1 ⟨rfl, hg1⟩))
      clear LR0 hsm
      have B1 := hg1.blk B0.out
      have hG1 := hg0.out.trans hg1
      have LR1 := load_blk (P := Tryd.prog) (T := 36) B1 Tryd.underlying36 rfl (by kernel_rfl)
      replace B1 := Lib.hid B1
      go_upto_region 4 with (first | (refine wpList_load_at rfl (by kernel_rfl) (p := .pointer (some ⟨_, 0, none⟩)) rfl LR1 ?_) | (go_at_call 10; (with_reducible refine Calls.mono (hon.out _) ?_); rintro e w2 ⟨rfl, hg2⟩; have B2 := hg2.blk B1.out; obtain ⟨w3, SR3, C3, hb3, hG3⟩ := store_blk (P := Tryd.prog) (T := 36) (cs := m.cells) B2 rfl (by kernel_rfl) (by kernel_rfl); have hG3' := hG3 w (hG1.trans hg2) (Nat.le_refl _); replace hG3' := Lib.hid hG3'; clear hb3 hG3 B2) | (refine wpList_store_at (ty := 36) rfl (by kernel_rfl) (p := .pointer (some ⟨w.heap.size, 0, none⟩)) (v := .agg m.cells) rfl rfl SR3 ?_; clear SR3))
      clear LR1 hon
      have hGw3 := hG3'.out
      have LR3 := load_blk (P := Tryd.prog) (T := 36) C3 Tryd.underlying36 rfl (by kernel_rfl)
      replace C3 := Lib.hid C3
      go_upto_region 5 with (first
        | (refine wpList_load_at rfl (by kernel_rfl) (p := .pointer (some ⟨w.heap.size, 0, none⟩)) rfl LR3 ?_; clear LR3)
        | (go_at_call 11; (with_reducible refine Calls.mono (hmd'.out _) ?_); rintro e w4 ⟨rfl, hg4⟩))
      have hG4 := hGw3.trans hg4
      go_upto_region 6 with (go_at_call 18; (with_reducible refine Calls.mono (hc1'.out _ hG4) ?_); rintro e w5 ⟨A1, d1, rfl, ho1, hg5⟩)
      have hG5 := hG4.trans hg5
      have C5 := hg5.blk (hg4.blk C3.out)
      have k0 := (blk_cell C5 0).trans (show _ = some (.int .i64 m.kind) from rfl)
      replace ho1 := Lib.hid ho1
      go_upto_region 8 with fail
      have LR5 := load_blk (P := Tryd.prog) (T := 36) C5 Tryd.underlying36 rfl (by kernel_rfl)
      replace C5 := Lib.hid C5
      clear k0
      go_upto_region 9 with (first
        | (refine wpList_load_at rfl (by kernel_rfl) (p := .pointer (some ⟨w.heap.size, 0, none⟩)) rfl LR5 ?_; clear LR5)
        | (go_at_call 22; (with_reducible refine Calls.mono (hc2'.out _ hG5) ?_); rintro e W5 ⟨A2, d2, rfl, ho2, hg6⟩))
      have hG6 := hG5.trans hg6
      have B5 := hg6.blk C5.out
      have LR : ∀ w', G W5 w' → (Instr.loadAt 36 (.pointer (some ⟨w.heap.size, 0, none⟩))).run Tryd.prog w' = .ok (.agg m.cells) w' := fun w' h => load_blk (h.blk B5) Tryd.underlying36 rfl (by kernel_rfl)
      have q0 : ∀ w', G W5 w' → w'.cell? ⟨w.heap.size, 0, none⟩ = some (.int .i64 m.kind) := fun w' h => (blk_cell (h.blk B5) 0).trans rfl
      have hs1 := (ho1.out.g hg6).self byteC_len
      have hs2 := ho2.self byteC_len
      have hby : ∀ w', G W5 w' → Calls Tryd.prog 23 #[.slice A1 l.length d1, .slice A2 l.length d2] w' fun e w'' => e = .returned (.bool true) ∧ G w' w'' := fun w' h => bytesSelf_any l A1 A2 d1 d2 W5.heap.size w' h.size (hs1.g (Nat.le_refl _) h) (hs2.g (Nat.le_refl _) h) (by omega)
      have hGw : ∀ w', G W5 w' → G w w' := fun w' h => hG6.trans h
      replace LR := Lib.hid LR
      replace hby := Lib.hid hby
      replace hGw := Lib.hid hGw
      clear hs1 hs2 ho1 ho2 B5 C5 C3 B1 B0 hG6 hG5 hG4 hG1 hGw3 hg0 hg1 hg2 hG3' hg4 hg5 hg6
      refine wp_region_held_drew (S := fun w' => G W5 w') (by kernel_rfl) ((G.refl _).drew) (fun hHeld => ?_)
      refine lin_take 0 (some 59) (v := ?_) (by kernel_rfl) (by kernel_rfl) (by kernel_rfl) (by kernel_rfl) (fun _ _ _ h => h) (by kernel_rfl) ?_ (by assumption) ?_; rotate_left; focus (intro w hSw; (try dsimp only at hSw); simp only [List.getElem?_toArray, List.getElem?_cons_zero, Option.map_some, Option.some.injEq]; go_simp; (first | done | with_reducible rfl))
      try simp only [Act.put, List.setIfInBounds_toArray, List.set_cons_zero, List.set_cons_succ]
      refine lin_take 1 (some 60) (v := ?_) (by kernel_rfl) (by kernel_rfl) (by kernel_rfl) (by kernel_rfl) (fun _ _ _ h => h) (by kernel_rfl) ?_ (by assumption) ?_; rotate_left; focus (intro w hSw; (try dsimp only at hSw); simp only [List.getElem?_toArray, List.getElem?_cons_zero, List.getElem?_cons_succ, Option.map_some, Option.some.injEq]; go_simp; (first | done | with_reducible rfl))
      try simp only [Act.put, List.setIfInBounds_toArray, List.set_cons_zero, List.set_cons_succ]
      refine wpAnyH_ready (rs := [2]) (by kernel_rfl) (by simp) ?_
      refine AllReadyH.cons (i := 2) rfl (fun K hK => ?_) AllReadyH.nil
      go_simp
      refine Calls.mono (hby.out _ (by assumption)) ?_
      rintro e v1 ⟨rfl, hg1'⟩
      go_wp2_with fail
      refine hK.out _ _ (hg1'.keep (by assumption)) (fun hHeld => ?_)
      clear hK K
      try simp only [Act.put, List.setIfInBounds_toArray, List.set_cons_zero, List.set_cons_succ]
      refine lin_take 3 (some 62) (v := ?_) (by kernel_rfl) (by kernel_rfl) (by kernel_rfl) (by kernel_rfl) (fun _ _ _ h => h) (by kernel_rfl) ?_ (by assumption) ?_; rotate_left; focus (intro w hSw; (try dsimp only at hSw); simp only [List.getElem?_toArray, List.getElem?_cons_zero, List.getElem?_cons_succ, Option.map_some, Option.some.injEq]; go_simp; (first | done | with_reducible rfl))
      try simp only [Act.put, List.setIfInBounds_toArray, List.set_cons_zero, List.set_cons_succ]
      refine lin_take 4 (some 63) (v := ?_) (by kernel_rfl) (by kernel_rfl) (by kernel_rfl) (by kernel_rfl) (fun _ _ _ h => h) (by kernel_rfl) ?_ (by assumption) ?_; rotate_left; focus (intro w hSw; (try dsimp only at hSw); simp only [List.getElem?_toArray, List.getElem?_cons_zero, List.getElem?_cons_succ, Option.map_some, Option.some.injEq]; go_simp; (first | done | with_reducible rfl))
      try simp only [Act.put, List.setIfInBounds_toArray, List.set_cons_zero, List.set_cons_succ]
      refine lin_take 5 (some 64) (v := ?_) (by kernel_rfl) (by kernel_rfl) (by kernel_rfl) (by kernel_rfl) (fun _ _ _ h => h) (by kernel_rfl) ?_ (by assumption) ?_; rotate_left; focus (intro w hSw; (try dsimp only at hSw); simp only [List.getElem?_toArray, List.getElem?_cons_zero, List.getElem?_cons_succ, Option.map_some, Option.some.injEq]; go_simp; (first | done | with_reducible rfl))
      try simp only [Act.put, List.setIfInBounds_toArray, List.set_cons_zero, List.set_cons_succ]
      refine lin_take 6 (some 65) (v := ?_) (by kernel_rfl) (by kernel_rfl) (by kernel_rfl) (by kernel_rfl) (fun _ _ _ h => h) (by kernel_rfl) ?_ (by assumption) ?_; rotate_left; focus (intro w hSw; (try dsimp only at hSw); simp only [List.getElem?_toArray, List.getElem?_cons_zero, List.getElem?_cons_succ, Option.map_some, Option.some.injEq]; go_simp; (first | done | with_reducible rfl))
      try simp only [Act.put, List.setIfInBounds_toArray, List.set_cons_zero, List.set_cons_succ]
      refine lin_take 7 (some 66) (v := ?_) (by kernel_rfl) (by kernel_rfl) (by kernel_rfl) (by kernel_rfl) (fun _ _ _ h => h) (by kernel_rfl) ?_ (by assumption) ?_; rotate_left; focus (intro w hSw; (try dsimp only at hSw); simp only [List.getElem?_toArray, List.getElem?_cons_zero, List.getElem?_cons_succ, Option.map_some, Option.some.injEq]; go_simp; (first | done | with_reducible rfl))
      try simp only [Act.put, List.setIfInBounds_toArray, List.set_cons_zero, List.set_cons_succ]
      refine lin_take 8 (some 67) (v := ?_) (by kernel_rfl) (by kernel_rfl) (by kernel_rfl) (by kernel_rfl) (fun _ _ _ h => h) (by kernel_rfl) ?_ (by assumption) ?_; rotate_left; focus (intro w hSw; (try dsimp only at hSw); simp only [List.getElem?_toArray, List.getElem?_cons_zero, List.getElem?_cons_succ, Option.map_some, Option.some.injEq]; go_simp; (first | done | with_reducible rfl))
      try simp only [Act.put, List.setIfInBounds_toArray, List.set_cons_zero, List.set_cons_succ]
      refine lin_take 9 (some 68) (v := ?_) (by kernel_rfl) (by kernel_rfl) (by kernel_rfl) (by kernel_rfl) (fun _ _ _ h => h) (by kernel_rfl) ?_ (by assumption) ?_; rotate_left; focus (intro w hSw; (try dsimp only at hSw); simp only [List.getElem?_toArray, List.getElem?_cons_zero, List.getElem?_cons_succ, Option.map_some, Option.some.injEq]; go_simp; (first | done | with_reducible rfl))
      try simp only [Act.put, List.setIfInBounds_toArray, List.set_cons_zero, List.set_cons_succ]
      refine lin_take 11 (some 70) (v := ?_) (by kernel_rfl) (by kernel_rfl) (by kernel_rfl) (by kernel_rfl) (fun _ _ _ h => h) (by kernel_rfl) ?_ (by assumption) ?_; rotate_left; focus (intro w hSw; (try dsimp only at hSw); simp only [List.getElem?_toArray, List.getElem?_cons_zero, List.getElem?_cons_succ, Option.map_some, Option.some.injEq]; go_simp; (first | done | with_reducible rfl))
      try simp only [Act.put, List.setIfInBounds_toArray, List.set_cons_zero, List.set_cons_succ]
      refine lin_take 12 (some 71) (v := ?_) (by kernel_rfl) (by kernel_rfl) (by kernel_rfl) (by kernel_rfl) (fun _ _ _ h => h) (by kernel_rfl) ?_ (by assumption) ?_; rotate_left; focus (intro w hSw; (try dsimp only at hSw); simp only [List.getElem?_toArray, List.getElem?_cons_zero, List.getElem?_cons_succ, Option.map_some, Option.some.injEq]; go_simp; (first | done | with_reducible rfl))
      try simp only [Act.put, List.setIfInBounds_toArray, List.set_cons_zero, List.set_cons_succ]
      refine wpAnyH_ready (rs := [10]) (by kernel_rfl) (by simp) ?_
      refine AllReadyH.cons (i := 10) rfl (fun K hK => ?_) AllReadyH.nil
      go_simp
      refine Calls.mono (hkd.out _) ?_
      rintro e v2 ⟨rfl, hg2'⟩
      go_wp2_with fail
      refine hK.out _ _ (hg2'.keep (by assumption)) (fun hHeld => ?_)
      clear hK K
      try simp only [Act.put, List.setIfInBounds_toArray, List.set_cons_zero, List.set_cons_succ]
      refine lin_take 13 (some 72) (v := ?_) (by kernel_rfl) (by kernel_rfl) (by kernel_rfl) (by kernel_rfl) (fun _ _ _ h => h) (by kernel_rfl) ?_ (by assumption) ?_; rotate_left; focus (intro w hSw; (try dsimp only at hSw); simp only [List.getElem?_toArray, List.getElem?_cons_zero, List.getElem?_cons_succ, Option.map_some, Option.some.injEq]; go_simp; (first | done | with_reducible rfl))
      try simp only [Act.put, List.setIfInBounds_toArray, List.set_cons_zero, List.set_cons_succ]
      refine lin_take 14 (some 73) (v := ?_) (by kernel_rfl) (by kernel_rfl) (by kernel_rfl) (by kernel_rfl) (fun _ _ _ h => h) (by kernel_rfl) ?_ (by assumption) ?_; rotate_left; focus (intro w hSw; (try dsimp only at hSw); simp only [List.getElem?_toArray, List.getElem?_cons_zero, List.getElem?_cons_succ, Option.map_some, Option.some.injEq]; go_simp; (first | done | with_reducible rfl))
      try simp only [Act.put, List.setIfInBounds_toArray, List.set_cons_zero, List.set_cons_succ]
      refine lin_take 15 (some 74) (v := ?_) (by kernel_rfl) (by kernel_rfl) (by kernel_rfl) (by kernel_rfl) (fun _ _ _ h => h) (by kernel_rfl) ?_ (by assumption) ?_; rotate_left; focus (intro w hSw; (try dsimp only at hSw); simp only [List.getElem?_toArray, List.getElem?_cons_zero, List.getElem?_cons_succ, Option.map_some, Option.some.injEq]; go_simp; (first | done | with_reducible rfl))
      try simp only [Act.put, List.setIfInBounds_toArray, List.set_cons_zero, List.set_cons_succ]
      refine lin_take 16 (some 75) (v := ?_) (by kernel_rfl) (by kernel_rfl) (by kernel_rfl) (by kernel_rfl) (fun _ _ _ h => h) (by kernel_rfl) ?_ (by assumption) ?_; rotate_left; focus (intro w hSw; (try dsimp only at hSw); simp only [List.getElem?_toArray, List.getElem?_cons_zero, List.getElem?_cons_succ, Option.map_some, Option.some.injEq]; go_simp; (first | done | with_reducible rfl))
      try simp only [Act.put, List.setIfInBounds_toArray, List.set_cons_zero, List.set_cons_succ]
      refine lin_take 18 (some 77) (v := ?_) (by kernel_rfl) (by kernel_rfl) (by kernel_rfl) (by kernel_rfl) (fun _ _ _ h => h) (by kernel_rfl) ?_ (by assumption) ?_; rotate_left; focus (intro w hSw; (try dsimp only at hSw); simp only [List.getElem?_toArray, List.getElem?_cons_zero, List.getElem?_cons_succ, Option.map_some, Option.some.injEq]; go_simp; (first | done | with_reducible rfl))
      try simp only [Act.put, List.setIfInBounds_toArray, List.set_cons_zero, List.set_cons_succ]
      refine lin_take 19 (some 78) (v := ?_) (by kernel_rfl) (by kernel_rfl) (by kernel_rfl) (by kernel_rfl) (fun _ _ _ h => h) (by kernel_rfl) ?_ (by assumption) ?_; rotate_left; focus (intro w hSw; (try dsimp only at hSw); simp only [List.getElem?_toArray, List.getElem?_cons_zero, List.getElem?_cons_succ, Option.map_some, Option.some.injEq]; go_simp; (first | done | with_reducible rfl))
      try simp only [Act.put, List.setIfInBounds_toArray, List.set_cons_zero, List.set_cons_succ]
      refine wpAnyH_ready (rs := [17]) (by kernel_rfl) (by simp) ?_
      refine AllReadyH.cons (i := 17) rfl (fun K hK => ?_) AllReadyH.nil
      go_simp
      refine Calls.mono (hn1.out _) ?_
      rintro e v3 ⟨rfl, hg3'⟩
      go_wp2_with fail
      refine hK.out _ _ (hg3'.keep (by assumption)) (fun hHeld => ?_)
      clear hK K
      try simp only [Act.put, List.setIfInBounds_toArray, List.set_cons_zero, List.set_cons_succ]
      refine wpAnyH_ready (rs := [20]) (by kernel_rfl) (by simp) ?_
      refine AllReadyH.cons (i := 20) rfl (fun K hK => ?_) AllReadyH.nil
      go_simp
      refine Calls.mono (hn2.out _) ?_
      rintro e v4 ⟨rfl, hg4'⟩
      go_wp2_with fail
      refine hK.out _ _ (hg4'.keep (by assumption)) (fun hHeld => ?_)
      clear hK K
      try simp only [Act.put, List.setIfInBounds_toArray, List.set_cons_zero, List.set_cons_succ]
      refine lin_take 21 (some 80) (v := ?_) (by kernel_rfl) (by kernel_rfl) (by kernel_rfl) (by kernel_rfl) (fun _ _ _ h => h) (by kernel_rfl) ?_ (by assumption) ?_; rotate_left; focus (intro w hSw; (try dsimp only at hSw); simp only [List.getElem?_toArray, List.getElem?_cons_zero, List.getElem?_cons_succ, Option.map_some, Option.some.injEq]; go_simp; (first | done | with_reducible rfl))
      try simp only [Act.put, List.setIfInBounds_toArray, List.set_cons_zero, List.set_cons_succ]
      refine lin_take 22 (some 81) (v := ?_) (by kernel_rfl) (by kernel_rfl) (by kernel_rfl) (by kernel_rfl) (fun _ _ _ h => h) (by kernel_rfl) ?_ (by assumption) ?_; rotate_left; focus (intro w hSw; (try dsimp only at hSw); simp only [List.getElem?_toArray, List.getElem?_cons_zero, List.getElem?_cons_succ, Option.map_some, Option.some.injEq]; go_simp; (first | done | with_reducible rfl))
      try simp only [Act.put, List.setIfInBounds_toArray, List.set_cons_zero, List.set_cons_succ]
      refine lin_take 23 (some 82) (v := ?_) (by kernel_rfl) (by kernel_rfl) (by kernel_rfl) (by kernel_rfl) (fun _ _ _ h => h) (by kernel_rfl) ?_ (by assumption) ?_; rotate_left; focus (intro w hSw; (try dsimp only at hSw); simp only [List.getElem?_toArray, List.getElem?_cons_zero, List.getElem?_cons_succ, Option.map_some, Option.some.injEq]; go_simp; (first | done | with_reducible rfl))
      try simp only [Act.put, List.setIfInBounds_toArray, List.set_cons_zero, List.set_cons_succ]
      refine lin_take 24 (some 83) (v := ?_) (by kernel_rfl) (by kernel_rfl) (by kernel_rfl) (by kernel_rfl) (fun _ _ _ h => h) (by kernel_rfl) ?_ (by assumption) ?_; rotate_left; focus (intro w hSw; (try dsimp only at hSw); simp only [List.getElem?_toArray, List.getElem?_cons_zero, List.getElem?_cons_succ, Option.map_some, Option.some.injEq]; go_simp; (first | done | with_reducible rfl))
      try simp only [Act.put, List.setIfInBounds_toArray, List.set_cons_zero, List.set_cons_succ]
      refine lin_take 26 (some 85) (v := .agg m.cells) (by kernel_rfl) (by kernel_rfl) (by kernel_rfl) (by kernel_rfl) (fun _ _ _ h => h) (by kernel_rfl) (fun w' hSw => ?_) (by assumption) ?_
      · simp only [List.getElem?_toArray, List.getElem?_cons_zero, List.getElem?_cons_succ, Option.map_some, Option.some.injEq]
        exact exec_loadM rfl rfl (LR.out w' hSw)
      try simp only [Act.put, List.setIfInBounds_toArray, List.set_cons_zero, List.set_cons_succ]
      refine wpAnyH_ready (rs := [25]) (by kernel_rfl) (by simp) ?_
      refine AllReadyH.cons (i := 25) rfl (fun K hK => ?_) AllReadyH.nil
      go_simp
      refine Calls.mono (hk1.out _ (hGw.out _ (by assumption))) ?_
      rintro e v5 ⟨rfl, hg5'⟩
      go_wp2_with fail
      refine hK.out _ _ (hg5'.keep (by assumption)) (fun hHeld => ?_)
      clear hK K
      try simp only [Act.put, List.setIfInBounds_toArray, List.set_cons_zero, List.set_cons_succ]
      refine wpAnyH_ready (rs := [27]) (by kernel_rfl) (by simp) ?_
      refine AllReadyH.cons (i := 27) rfl (fun K hK => ?_) AllReadyH.nil
      go_simp
      refine Calls.mono (hk2.out _ (hGw.out _ (by assumption))) ?_
      rintro e v6 ⟨rfl, hg6'⟩
      go_wp2_with fail
      refine hK.out _ _ (hg6'.keep (by assumption)) (fun hHeld => ?_)
      clear hK K
      try simp only [Act.put, List.setIfInBounds_toArray, List.set_cons_zero, List.set_cons_succ]
      refine lin_take 28 (some 87) (v := ?_) (by kernel_rfl) (by kernel_rfl) (by kernel_rfl) (by kernel_rfl) (fun _ _ _ h => h) (by kernel_rfl) ?_ (by assumption) ?_; rotate_left; focus (intro w hSw; (try dsimp only at hSw); simp only [List.getElem?_toArray, List.getElem?_cons_zero, List.getElem?_cons_succ, Option.map_some, Option.some.injEq]; go_simp; (first | done | with_reducible rfl))
      try simp only [Act.put, List.setIfInBounds_toArray, List.set_cons_zero, List.set_cons_succ]
      refine lin_take 29 (some 88) (v := ?_) (by kernel_rfl) (by kernel_rfl) (by kernel_rfl) (by kernel_rfl) (fun _ _ _ h => h) (by kernel_rfl) ?_ (by assumption) ?_; rotate_left; focus (intro w hSw; (try dsimp only at hSw); simp only [List.getElem?_toArray, List.getElem?_cons_zero, List.getElem?_cons_succ, Option.map_some, Option.some.injEq]; go_simp; (first | done | with_reducible rfl))
      try simp only [Act.put, List.setIfInBounds_toArray, List.set_cons_zero, List.set_cons_succ]
      refine lin_take 30 (some 89) (v := ?_) (by kernel_rfl) (by kernel_rfl) (by kernel_rfl) (by kernel_rfl) (fun _ _ _ h => h) (by kernel_rfl) ?_ (by assumption) ?_; rotate_left; focus (intro w hSw; (try dsimp only at hSw); simp only [List.getElem?_toArray, List.getElem?_cons_zero, List.getElem?_cons_succ, Option.map_some, Option.some.injEq]; go_simp; (first | done | with_reducible rfl))
      try simp only [Act.put, List.setIfInBounds_toArray, List.set_cons_zero, List.set_cons_succ]
      refine wpAnyH_ready (rs := [31]) (by kernel_rfl) (by simp) ?_
      refine AllReadyH.cons (i := 31) rfl (fun K hK => ?_) AllReadyH.nil
      go_simp
      refine Calls.mono (haw.out _) ?_
      rintro e v7 ⟨rfl, hg7'⟩
      go_wp2_with fail
      refine hK.out _ _ (hg7'.keep (by assumption)) (fun hHeld => ?_)
      clear hK K
      try simp only [Act.put, List.setIfInBounds_toArray, List.set_cons_zero, List.set_cons_succ]
      refine lin_take 32 (some 91) (v := ?_) (by kernel_rfl) (by kernel_rfl) (by kernel_rfl) (by kernel_rfl) (fun _ _ _ h => h) (by kernel_rfl) ?_ (by assumption) ?_; rotate_left; focus (intro w hSw; (try dsimp only at hSw); simp only [List.getElem?_toArray, List.getElem?_cons_zero, List.getElem?_cons_succ, Option.map_some, Option.some.injEq]; go_simp; (first | done | with_reducible rfl))
      try simp only [Act.put, List.setIfInBounds_toArray, List.set_cons_zero, List.set_cons_succ]
      refine lin_take 33 (some 2) (v := ?_) (by kernel_rfl) (by kernel_rfl) (by kernel_rfl) (by kernel_rfl) (fun _ _ _ h => h) (by kernel_rfl) ?_ (by assumption) ?_; rotate_left; focus (intro w hSw; (try dsimp only at hSw); simp only [List.getElem?_toArray, List.getElem?_cons_zero, List.getElem?_cons_succ, Option.map_some, Option.some.injEq]; go_simp; (first | done | with_reducible rfl))
      try simp only [Act.put, List.setIfInBounds_toArray, List.set_cons_zero, List.set_cons_succ]
      refine wpAnyH_done (by kernel_rfl) ?_ _
      have hGe : G W5 v7 := by assumption
      go_wp2_with fail
      go_ret
      exact ⟨rfl, hGw.out _ hGe⟩
end Go.Proofs.YtheogchkelmeeaaDoor

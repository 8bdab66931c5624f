/- Several texts in one: MsgOnlyLaw, MsgFeed, BatSmall. -/
import Derived.Test.YtheogchkelmeeaaDoorMsgMQMsgAs
import Derived.Test.YtheogchkelmeeaaDoorM40MsgAs
import Derived.Test.YtheogchkelmeeaaDoorMsgFlatQMsgAs
import Derived.Test.YtheogchkelmeeaaDoorM26MsgAs
import Derived.Test.YtheogchkelmeeaaDoorMayQMsgAs
/- A message with the fields alone that its kind names: it lies as it lay, is as small, and is itself once more. No condition. -/
namespace Go.Proofs.YtheogchkelmeeaaDoor
open Go.RowKit

theorem mzero_in (k : Int) (w : World) : (MsgM.zero k).In w := ⟨⟨Sl.nil, fun _ h => by cases h⟩, Sl.nil, ⟨Sl.nil, fun _ h => by cases h⟩, Sl.nil, Sl.nil⟩
theorem i64_0 : Int64 0 := ⟨by omega, by omega⟩
theorem mzero_small (k : Int) (hk : Int64 k) : (MsgM.zero k).Small where
  kind := hk
  x1 := i64_0
  x2 := i64_0
  x3 := i64_0
  code := i64_0
  firsts := fun _ h => by cases h
  z1 := i64_0
  z2 := i64_0
  z3 := i64_0
  z4 := i64_0
  src := i64_0
  total := i64_0
  rgs := fun _ h => by cases h
  firstsL := by simp [MsgM.zero]
  key := by show (⟨#[]⟩ : ByteArray).size ≤ _; decide
  ps := ⟨by simp [MsgM.zero], fun _ h => by cases h⟩
  bat := by
    show (batL ByteArray.empty []).length ≤ _
    rw [show batL ByteArray.empty [] = [] from batL_no (by decide)]
    simp
  smsL := by simp [MsgM.zero]
  sms := fun _ h => by cases h
  esL := by simp [MsgM.zero]
  es := fun _ h => by cases h
  rgsL := by simp [MsgM.zero]
section
variable {m : MsgM}
theorem MsgM.In.only {w : World} (h : m.In w) : m.only.In w := by
  have z := mzero_in m.kind w
  rcases mkind_cases m.kind with k | k | k | k | k | k | k | k | k | k
  · rw [MsgM.only_1 k]; exact ⟨h.ps, z.firsts, z.sms, z.es, z.rgs⟩
  · rw [MsgM.only_2 k]; exact ⟨z.ps, h.firsts, z.sms, z.es, z.rgs⟩
  · rw [MsgM.only_3 k]; exact ⟨z.ps, z.firsts, z.sms, z.es, z.rgs⟩
  · rw [MsgM.only_4 k]; exact ⟨z.ps, z.firsts, z.sms, z.es, z.rgs⟩
  · rw [MsgM.only_5 k]; exact ⟨z.ps, h.firsts, z.sms, z.es, z.rgs⟩
  · rw [MsgM.only_6 k]; exact ⟨z.ps, z.firsts, h.sms, z.es, z.rgs⟩
  · rw [MsgM.only_7 k]; exact ⟨z.ps, z.firsts, z.sms, z.es, z.rgs⟩
  · rw [MsgM.only_8 k]; exact ⟨z.ps, z.firsts, z.sms, z.es, z.rgs⟩
  · rw [MsgM.only_9 k]; exact ⟨z.ps, z.firsts, z.sms, h.es, h.rgs⟩
  · rw [MsgM.only_no k]; exact z
theorem MsgM.Small.only (h : m.Small) : m.only.Small := by
  have z := mzero_small m.kind h.kind
  rcases mkind_cases m.kind with k | k | k | k | k | k | k | k | k | k
  · rw [MsgM.only_1 k]; exact { kind := h.kind, x1 := h.x1, x2 := h.x2, x3 := h.x3, code := z.code, firsts := z.firsts, z1 := z.z1, z2 := z.z2, z3 := z.z3, z4 := z.z4, src := z.src, total := z.total, rgs := z.rgs, firstsL := z.firstsL, key := h.key, ps := h.ps, bat := h.bat, smsL := z.smsL, sms := z.sms, esL := z.esL, es := z.es, rgsL := z.rgsL }
  · rw [MsgM.only_2 k]; exact { kind := h.kind, x1 := h.x1, x2 := h.x2, x3 := h.x3, code := h.code, firsts := h.firsts, z1 := z.z1, z2 := z.z2, z3 := z.z3, z4 := z.z4, src := z.src, total := z.total, rgs := z.rgs, firstsL := h.firstsL, key := z.key, ps := z.ps, bat := z.bat, smsL := z.smsL, sms := z.sms, esL := z.esL, es := z.es, rgsL := z.rgsL }
  · rw [MsgM.only_3 k]; exact { kind := h.kind, x1 := h.x1, x2 := h.x2, x3 := h.x3, code := z.code, firsts := z.firsts, z1 := z.z1, z2 := z.z2, z3 := z.z3, z4 := z.z4, src := z.src, total := z.total, rgs := z.rgs, firstsL := z.firstsL, key := z.key, ps := z.ps, bat := z.bat, smsL := z.smsL, sms := z.sms, esL := z.esL, es := z.es, rgsL := z.rgsL }
  · rw [MsgM.only_4 k]; exact { kind := h.kind, x1 := h.x1, x2 := h.x2, x3 := h.x3, code := z.code, firsts := z.firsts, z1 := z.z1, z2 := z.z2, z3 := z.z3, z4 := z.z4, src := z.src, total := z.total, rgs := z.rgs, firstsL := z.firstsL, key := z.key, ps := z.ps, bat := z.bat, smsL := z.smsL, sms := z.sms, esL := z.esL, es := z.es, rgsL := z.rgsL }
  · rw [MsgM.only_5 k]; exact { kind := h.kind, x1 := h.x1, x2 := h.x2, x3 := h.x3, code := z.code, firsts := h.firsts, z1 := z.z1, z2 := z.z2, z3 := z.z3, z4 := z.z4, src := z.src, total := z.total, rgs := z.rgs, firstsL := h.firstsL, key := z.key, ps := z.ps, bat := z.bat, smsL := z.smsL, sms := z.sms, esL := z.esL, es := z.es, rgsL := z.rgsL }
  · rw [MsgM.only_6 k]; exact { kind := h.kind, x1 := z.x1, x2 := z.x2, x3 := z.x3, code := z.code, firsts := z.firsts, z1 := h.z1, z2 := h.z2, z3 := h.z3, z4 := h.z4, src := z.src, total := z.total, rgs := z.rgs, firstsL := z.firstsL, key := z.key, ps := z.ps, bat := z.bat, smsL := h.smsL, sms := h.sms, esL := z.esL, es := z.es, rgsL := z.rgsL }
  · rw [MsgM.only_7 k]; exact { kind := h.kind, x1 := z.x1, x2 := z.x2, x3 := z.x3, code := z.code, firsts := z.firsts, z1 := h.z1, z2 := h.z2, z3 := h.z3, z4 := h.z4, src := z.src, total := z.total, rgs := z.rgs, firstsL := z.firstsL, key := z.key, ps := z.ps, bat := z.bat, smsL := z.smsL, sms := z.sms, esL := z.esL, es := z.es, rgsL := z.rgsL }
  · rw [MsgM.only_8 k]; exact { kind := h.kind, x1 := z.x1, x2 := z.x2, x3 := z.x3, code := z.code, firsts := z.firsts, z1 := z.z1, z2 := z.z2, z3 := z.z3, z4 := z.z4, src := h.src, total := z.total, rgs := z.rgs, firstsL := z.firstsL, key := z.key, ps := z.ps, bat := z.bat, smsL := z.smsL, sms := z.sms, esL := z.esL, es := z.es, rgsL := z.rgsL }
  · rw [MsgM.only_9 k]; exact { kind := h.kind, x1 := z.x1, x2 := z.x2, x3 := z.x3, code := z.code, firsts := z.firsts, z1 := z.z1, z2 := z.z2, z3 := z.z3, z4 := z.z4, src := h.src, total := h.total, rgs := h.rgs, firstsL := z.firstsL, key := z.key, ps := z.ps, bat := z.bat, smsL := z.smsL, sms := z.sms, esL := h.esL, es := h.es, rgsL := h.rgsL }
  · rw [MsgM.only_no k]; exact z
theorem MsgM.only_only (m : MsgM) : m.only.only = m.only := by
  rcases mkind_cases m.kind with k | k | k | k | k | k | k | k | k | k
  · rw [MsgM.only_1 k, MsgM.only_1 (show m.o1.kind = 1 from k)]; rfl
  · rw [MsgM.only_2 k, MsgM.only_2 (show m.o2.kind = 2 from k)]; rfl
  · rw [MsgM.only_3 k, MsgM.only_3 (show m.o3.kind = 3 from k)]; rfl
  · rw [MsgM.only_4 k, MsgM.only_4 (show m.o4.kind = 4 from k)]; rfl
  · rw [MsgM.only_5 k, MsgM.only_5 (show m.o5.kind = 5 from k)]; rfl
  · rw [MsgM.only_6 k, MsgM.only_6 (show m.o6.kind = 6 from k)]; rfl
  · rw [MsgM.only_7 k, MsgM.only_7 (show m.o7.kind = 7 from k)]; rfl
  · rw [MsgM.only_8 k, MsgM.only_8 (show m.o8.kind = 8 from k)]; rfl
  · rw [MsgM.only_9 k, MsgM.only_9 (show m.o9.kind = 9 from k)]; rfl
  · rw [MsgM.only_no k, MsgM.only_no (show kOk (MsgM.zero m.kind).kind = false from k)]; rfl
end
end Go.Proofs.YtheogchkelmeeaaDoor
/- msg.AsFeed, MustFeed of any message, and of what is no Feed. No condition. -/
namespace Go.Proofs.YtheogchkelmeeaaDoor
open Go.RowKit

/-- A value that is no Feed. -/
def NotFeed (v : Value) : Prop := v = .nilIface ∨ ∃ t u, v = .iface t u ∧ t ≠ 42
theorem NoMsg.notFeed {v : Value} (h : NoMsg v) : NotFeed v := by
  rcases h with rfl | ⟨t, u, rfl, ht⟩
  · exact .inl rfl
  · exact .inr ⟨t, u, rfl, ht.2.2.2.2.2.2.2.2⟩
theorem iface_notFeed (m : MsgM) (hk : kOk m.kind = true) (h9 : m.kind ≠ 9) : NotFeed m.iface := by
  have h0 : 1 ≤ m.kind ∧ m.kind ≤ 9 := of_decide_eq_true hk
  have tab : m.kind = 1 ∨ m.kind = 2 ∨ m.kind = 3 ∨ m.kind = 4 ∨ m.kind = 5 ∨ m.kind = 6 ∨ m.kind = 7 ∨ m.kind = 8 := by omega
  rcases tab with h | h | h | h | h | h | h | h
  · rw [MsgM.iface_1 h]; exact .inr ⟨_, _, rfl, by decide⟩
  · rw [MsgM.iface_2 h]; exact .inr ⟨_, _, rfl, by decide⟩
  · rw [MsgM.iface_3 h]; exact .inr ⟨_, _, rfl, by decide⟩
  · rw [MsgM.iface_4 h]; exact .inr ⟨_, _, rfl, by decide⟩
  · rw [MsgM.iface_5 h]; exact .inr ⟨_, _, rfl, by decide⟩
  · rw [MsgM.iface_6 h]; exact .inr ⟨_, _, rfl, by decide⟩
  · rw [MsgM.iface_7 h]; exact .inr ⟨_, _, rfl, by decide⟩
  · rw [MsgM.iface_8 h]; exact .inr ⟨_, _, rfl, by decide⟩
set_option maxRecDepth 100000 in
theorem asFeed_not {v : Value} (h : NotFeed v) (w : World) : Calls Tryd.prog 12 #[v] w fun e w' => e = .returned (.tuple #[.agg feedZ, .bool false]) ∧ G w w' := by
  refine asFeed_of v false (.int .i64 0) (.int .i64 0) (.slice none 0 0) (.int .i64 0) (.int .i64 0) (.int .i64 0) (.slice none 0 0) (by kernel_rfl) w fun w => ?_
  rcases h with rfl | ⟨t, u, rfl, ht⟩
  · kernel_rfl
  · exact ta_miss Tryd.underlying42 rfl (by kernel_rfl) ht
set_option maxRecDepth 100000 in
theorem asFeed_yes (m : MsgM) (w : World) : Calls Tryd.prog 12 #[.iface 42 m.val9] w fun e w' => e = .returned (.tuple #[m.val9, .bool true]) ∧ G w w' :=
  asFeed_of (.iface 42 m.val9) true (.int .i64 m.src) (.int .i64 m.total) (.slice m.Ae m.es.length m.ce) (.int .i64 m.st.wall) (.int .i64 m.st.logic) (.int .i64 m.st.node) (.slice m.Ag m.rgs.length m.cg) (by kernel_rfl) w fun w => by kernel_rfl
set_option maxRecDepth 100000 in
theorem ta_panic_nil (w : World) : ∃ T cs u pv, (Instr.typeAssert .nilIface 20 42 false).run Tryd.prog w = .halt (.panic (.iface u pv)) (w.alloc (.cells cs T)) := by
  refine ⟨199, #[typeHandle Tryd.prog 20, .pointer none, typeHandle Tryd.prog 42, strVal ""], Tryd.prog.rt.typeAssertionError, .pointer (some ⟨w.heap.size, 0, none⟩), ?_⟩
  unfold Instr.typeAssert
  simp only [Sem.run_bind, run_underlying Tryd.underlying42, Result.andThen_ok]
  kernel_rfl
set_option maxRecDepth 100000 in
theorem mustFeed_not {v : Value} (h : NotFeed v) (w : World) : Calls Tryd.prog 17 #[v] w fun e w' => ∃ u pv, e = .panicked [{ v := .iface u pv, recovered := false }] ∧ G w w' := by
  rcases h with rfl | ⟨t, u, rfl, ht⟩
  · have hp := ta_panic_nil (w.alloc (.cells #[.int .i64 0, .int .i64 0, .slice none 0 0, .int .i64 0, .int .i64 0, .int .i64 0, .slice none 0 0] 42))
    obtain ⟨T, cs, u, pv, hp⟩ := hp
    go_enter Tryd.func17, Tryd.ntmps17
    go_wp2_with fail
    exact ⟨rfl, u, pv, rfl, ((G.new _ _).trans (G.new _ _))⟩
  · exact mustFeed_no t u w ht
set_option maxRecDepth 100000 in
theorem mustFeed_yes (m : MsgM) (w : World) : Calls Tryd.prog 17 #[.iface 42 m.val9] w fun e w' => e = .returned m.val9 ∧ G w w' := by
  have ha : ∀ w, (Instr.typeAssert (.iface 42 (.agg #[.int .i64 m.src, .int .i64 m.total, .slice m.Ae m.es.length m.ce, .int .i64 m.st.wall, .int .i64 m.st.logic, .int .i64 m.st.node, .slice m.Ag m.rgs.length m.cg])) 20 42 false).run Tryd.prog w = .ok (.agg #[.int .i64 m.src, .int .i64 m.total, .slice m.Ae m.es.length m.ce, .int .i64 m.st.wall, .int .i64 m.st.logic, .int .i64 m.st.node, .slice m.Ag m.rgs.length m.cg]) w := fun w => by kernel_rfl
  have hg0 := G.new w (.cells #[.int .i64 0, .int .i64 0, .slice none 0 0, .int .i64 0, .int .i64 0, .int .i64 0, .slice none 0 0] 42)
  have B0 := blk_new w #[.int .i64 0, .int .i64 0, .slice none 0 0, .int .i64 0, .int .i64 0, .int .i64 0, .slice none 0 0] 42
  unfold MsgM.val9
  obtain ⟨W1, SR1, C1, hb1, hG1⟩ := store_blk (P := Tryd.prog) (T := 42) (cs := #[.int .i64 m.src, .int .i64 m.total, .slice m.Ae m.es.length m.ce, .int .i64 m.st.wall, .int .i64 m.st.logic, .int .i64 m.st.node, .slice m.Ag m.rgs.length m.cg]) B0 rfl (by kernel_rfl) (by kernel_rfl)
  have hg1 := hG1 w hg0 (Nat.le_refl _)
  replace C1 := Lib.hid C1
  replace hg1 := Lib.hid hg1
  clear hb1 hG1 B0 hg0
  go_enter Tryd.func17, Tryd.ntmps17
  go_upto_region 1 with fail
  generalize w.alloc (.cells #[.int .i64 0, .int .i64 0, .slice none 0 0, .int .i64 0, .int .i64 0, .int .i64 0, .slice none 0 0] 42) = W0 at *
  go_wp2_with (refine wpList_store_at (ty := 42) rfl (by kernel_rfl) (p := .pointer (some ⟨w.heap.size, 0, none⟩)) rfl rfl SR1 ?_; clear SR1)
  refine bodyPost_ret (v := .agg #[.int .i64 m.src, .int .i64 m.total, .slice m.Ae m.es.length m.ce, .int .i64 m.st.wall, .int .i64 m.st.logic, .int .i64 m.st.node, .slice m.Ag m.rgs.length m.cg]) (results_cell (i := 2) rfl rfl C1.out Tryd.underlying42 rfl (by kernel_rfl)) rfl ?_
  exact ⟨rfl, hg1.out⟩
/-- A function that asserts what is no Feed panics, and is seen to. -/
theorem asF_any (v : Value) (hv : NotFeed v) (q : Addr) (w : World) (hc : w.cell? q = some v) : Calls Tryd.prog 16 #[.pointer (some q)] w fun e w' => ∃ u pv, e = .panicked [{ v := .iface u pv, recovered := false }] ∧ G w w' := by
  have hm := fun w' => mustFeed_not hv w'
  replace hm := Lib.hid hm
  go_enter Tryd.func16, Tryd.ntmps16
  go_wp2_with fail
  (with_reducible refine Calls.mono (hm.out _) ?_)
  rintro e w1 ⟨u, pv, rfl, hg⟩
  go_wp2_with fail
  exact ⟨rfl, u, pv, rfl, hg⟩
end Go.Proofs.YtheogchkelmeeaaDoor
/- What a small bulk says of a batch. Plain mathematics, no program. No condition. -/
namespace Go.Proofs.YtheogchkelmeeaaDoor
open Go.RowKit

theorem sumTo_le_two {n a b top : Int} (_ha : 0 ≤ a) (_hb : 0 ≤ b) (ht : top < 1099511627776) (h : sumTo n [a, b] ≤ top) : n + a + b ≤ top := by
  unfold sumTo at h
  split at h
  · unfold sumTo at h
    split at h
    · unfold sumTo at h; omega
    · omega
  · omega
theorem sumTo_le_one {n a top : Int} (ht : top < 1099511627776) (h : sumTo n [a] ≤ top) : n + a ≤ top := by
  unfold sumTo at h
  split at h
  · unfold sumTo at h; omega
  · omega
theorem upTo_small {top : Int} (ht : top < 1099511627776) : ∀ (l : List Int) (n : Int), (∀ m ∈ l, 0 ≤ m) → 0 ≤ n → upTo top n l ≤ top → n ≤ top ∧ ∀ m ∈ l, m ≤ top
  | [], n, _, _, h => ⟨h, fun _ h => by cases h⟩
  | m :: l, n, hl, hn, h => by
    have hm := hl m (by simp)
    unfold upTo at h
    split at h
    · have h1 := upTo_small ht l (sumTo n [m]) (fun k hk => hl k (by simp [hk])) (by
        unfold sumTo
        split
        · unfold sumTo; omega
        · omega) h
      have h2 := sumTo_le_one ht h1.1
      refine ⟨by omega, fun k hk => ?_⟩
      rcases List.mem_cons.1 hk with rfl | hk
      · omega
      · exact h1.2 k hk
    · omega
theorem total_small {top : Int} (ht : top < 1099511627776) {ss : List ByteArray} (h : totalOf top ss ≤ top) : (ss.length : Int) ≤ top ∧ ∀ s ∈ ss, (s.size : Int) ≤ top := by
  unfold totalOf at h
  have h1 := upTo_small ht _ _ (fun m hm => by simp at hm; obtain ⟨s, _, rfl⟩ := hm; omega) (by
    unfold sumTo
    split
    · unfold sumTo; omega
    · omega) h
  have h2 := sumTo_le_one ht h1.1
  exact ⟨by omega, fun s hs => h1.2 _ (List.mem_map.2 ⟨s, hs, rfl⟩)⟩
theorem bulkTo_small {top : Int} (ht : top < 1099511627776) : ∀ (ps : List PutM) (n : Int), bulkTo top n ps ≤ top → n ≤ top ∧ (0 ≤ n → ∀ p ∈ ps, (p.stream.size : Int) ≤ top ∧ totalOf top p.data ≤ top)
  | [], n, h => ⟨h, fun _ _ h => by cases h⟩
  | p :: l, n, h => by
    unfold bulkTo at h
    split at h
    · have h1 := bulkTo_small ht l _ h
      have h0 := (totalOf_le top p.data).1
      have h2 := sumTo_le_two (by omega) h0 ht h1.1
      refine ⟨by omega, fun hn q hq => ?_⟩
      rcases List.mem_cons.1 hq with rfl | hq
      · exact ⟨by omega, by omega⟩
      · refine h1.2 ?_ q hq
        unfold sumTo
        split
        · unfold sumTo
          split
          · unfold sumTo; omega
          · omega
        · omega
    · omega
theorem bat_small_at {top : Int} (htop : top ≤ 40000) {key : ByteArray} {ps : List PutM} (h : batchOf top key ps ≤ top) (he : ∀ p ∈ ps, -9223372036854775808 ≤ p.expect ∧ p.expect ≤ 9223372036854775807) : key.size ≤ 40000 ∧ PutsSmall ps := by
  unfold batchOf at h
  have h1 := bulkTo_small (by omega) _ _ h
  have h2 := sumTo_le_two (by omega) (by omega) (by omega) h1.1
  have h3 := h1.2 (by
    unfold sumTo
    split
    · unfold sumTo
      split
      · unfold sumTo; omega
      · omega
    · omega)
  refine ⟨by omega, by omega, fun p hp => ?_⟩
  have h4 := h3 p hp
  have h5 := total_small (by omega) h4.2
  exact ⟨by omega, he p hp, by omega, fun s hs => by have := h5.2 s hs; omega⟩
theorem bat_small {key : ByteArray} {ps : List PutM} (h : batchOf 40000 key ps ≤ 40000) (he : ∀ p ∈ ps, -9223372036854775808 ≤ p.expect ∧ p.expect ≤ 9223372036854775807) : key.size ≤ 40000 ∧ PutsSmall ps := bat_small_at (Int.le_refl _) h he
end Go.Proofs.YtheogchkelmeeaaDoor

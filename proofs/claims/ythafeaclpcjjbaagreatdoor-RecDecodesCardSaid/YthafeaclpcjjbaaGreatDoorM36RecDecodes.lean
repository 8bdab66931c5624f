/- Several texts in one: RecDecBk, RecHead. -/
import Derived.Test.YthafeaclpcjjbaaGreatDoorM35RecDecodes
import Derived.Test.YthafeaclpcjjbaaGreatDoorM29RecDecodes
/- Records that are read: cut short or with more behind they are none; what is read is what would be written. Plain mathematics. No condition. -/
namespace Go.Proofs.YthafeaclpcjjbaaGreatDoor
open Go.RowKit
theorem kind_byte {k : Int} (hk : fOk k = true) : ((UInt8.ofNat k.toNat).toNat : Int) = k := by
 have := of_decide_eq_true hk
 rw [UInt8.toNat_ofNat']
 omega
section
variable {r : RecP} (hc : chkR r = true)
include hc
theorem chk_kind : fOk r.kind = true := by
 unfold chkR at hc
 simp only [Bool.and_eq_true] at hc
 exact hc.1
theorem decR_back (hf : r.Fits) : decR (docR r) = some r := by
 have hk := chk_kind hc
 have h1 := dRecB_w hc hf []
 rw [List.append_nil] at h1
 rw [docR_body r hk]
 unfold decR
 simp only [kind_byte hk]
 rw [h1]
 simp [hc, hk]
end
section
variable {f : Fl} {p p' : RecP} {l q : List UInt8}
theorem cR_c {v : Nat} (h : cR l = some (v, q)) : l = nL (v : Int) ++ q := by
 have := cn_count _ _ _ _ h
 unfold nL
 simpa using this
theorem dH1_c (h : dH1 f p l = some (p', q)) : ∃ n, l = pc f.n (nL n) ++ q ∧ p' = { p with n := if f.n = true then n else p.n } := by
 unfold dH1 at h
 cases hf : f.n with
 | false =>
  rw [hf] at h
  obtain ⟨rfl, rfl⟩ := rp_inv h
  exact ⟨0, rfl, rfl⟩
 | true =>
  rw [if_pos hf] at h
  obtain ⟨v, r1, h1, h2⟩ := rb_inv h
  obtain ⟨rfl, rfl⟩ := rp_inv h2
  exact ⟨v, cR_c h1, rfl⟩
theorem dH6_c (h : dH6 f p l = some (p', q)) : ∃ n, l = pc f.dst (nL n) ++ q ∧ p' = { p with dst := if f.dst = true then n else p.dst } := by
 unfold dH6 at h
 cases hf : f.dst with
 | false =>
  rw [hf] at h
  obtain ⟨rfl, rfl⟩ := rp_inv h
  exact ⟨0, rfl, rfl⟩
 | true =>
  rw [if_pos hf] at h
  obtain ⟨v, r1, h1, h2⟩ := rb_inv h
  obtain ⟨rfl, rfl⟩ := rp_inv h2
  exact ⟨v, cR_c h1, rfl⟩
theorem dH2_c (h : dH2 f p l = some (p', q)) : ∃ a b c, l = pc f.tx (nLs [a, b, c]) ++ q ∧ p' = { p with x1 := if f.tx = true then a else p.x1, x2 := if f.tx = true then b else p.x2, x3 := if f.tx = true then c else p.x3 } := by
 unfold dH2 at h
 cases hf : f.tx with
 | false =>
  rw [hf] at h
  obtain ⟨rfl, rfl⟩ := rp_inv h
  exact ⟨0, 0, 0, rfl, rfl⟩
 | true =>
  rw [if_pos hf] at h
  obtain ⟨a, r1, h1, h⟩ := rb_inv h
  obtain ⟨b, r2, h2, h⟩ := rb_inv h
  obtain ⟨c, r3, h3, h⟩ := rb_inv h
  obtain ⟨rfl, rfl⟩ := rp_inv h
  refine ⟨a, b, c, ?_, rfl⟩
  rw [cR_c h1, cR_c h2, cR_c h3]
  simp [pc, nLs, List.append_assoc]
theorem dH5_c (h : dH5 f p l = some (p', q)) : ∃ a b c d, l = pc f.span (nLs [a, b, c, d]) ++ q ∧ p' = { p with r1 := if f.span = true then a else p.r1, r2 := if f.span = true then b else p.r2, r3 := if f.span = true then c else p.r3, r4 := if f.span = true then d else p.r4 } := by
 unfold dH5 at h
 cases hf : f.span with
 | false =>
  rw [hf] at h
  obtain ⟨rfl, rfl⟩ := rp_inv h
  exact ⟨0, 0, 0, 0, rfl, rfl⟩
 | true =>
  rw [if_pos hf] at h
  obtain ⟨a, r1, h1, h⟩ := rb_inv h
  obtain ⟨b, r2, h2, h⟩ := rb_inv h
  obtain ⟨c, r3, h3, h⟩ := rb_inv h
  obtain ⟨d, r4, h4, h⟩ := rb_inv h
  obtain ⟨rfl, rfl⟩ := rp_inv h
  refine ⟨a, b, c, d, ?_, rfl⟩
  rw [cR_c h1, cR_c h2, cR_c h3, cR_c h4]
  simp [pc, nLs, List.append_assoc]
theorem flag_c {v : Nat} (h : dCount 1 l = some (v, q)) : l = [if decide (v = 1) = true then 1 else 0] ++ q := by
 have h1 := cn_count _ _ _ _ h
 have h2 := (dCount_num h).2
 have h3 : v = 0 ∨ v = 1 := by omega
 rcases h3 with rfl | rfl
 ·exact h1
 ·exact h1
theorem dH3_c (h : dH3 f p l = some (p', q)) : ∃ b : Bool, l = pc f.yes [if b = true then 1 else 0] ++ q ∧ p' = { p with yes := if f.yes = true then b else p.yes } := by
 unfold dH3 at h
 cases hf : f.yes with
 | false =>
  rw [hf] at h
  obtain ⟨rfl, rfl⟩ := rp_inv h
  exact ⟨false, rfl, rfl⟩
 | true =>
  rw [if_pos hf] at h
  obtain ⟨v, r1, h1, h⟩ := rb_inv h
  obtain ⟨rfl, rfl⟩ := rp_inv h
  exact ⟨decide (v = 1), flag_c h1, rfl⟩
theorem dH4_c (h : dH4 f p l = some (p', q)) : ∃ key ps, l = pc f.bat (batL key ps) ++ q ∧ p' = { p with key := if f.bat = true then key else p.key, ps := if f.bat = true then ps else p.ps } := by
 unfold dH4 at h
 cases hf : f.bat with
 | false =>
  rw [hf] at h
  obtain ⟨rfl, rfl⟩ := rp_inv h
  exact ⟨ByteArray.empty, [], rfl, rfl⟩
 | true =>
  rw [if_pos hf] at h
  obtain ⟨⟨key, ps⟩, r1, h1, h⟩ := rb_inv h
  obtain ⟨rfl, rfl⟩ := rp_inv h
  exact ⟨key, ps, cn_batch h1, rfl⟩
theorem dH7_c (h : dH7 f p l = some (p', q)) : ∃ s, l = pc f.st (stL s) ++ q ∧ p' = { p with st := if f.st = true then s else p.st } := by
 unfold dH7 at h
 cases hf : f.st with
 | false =>
  rw [hf] at h
  obtain ⟨rfl, rfl⟩ := rp_inv h
  exact ⟨⟨0, 0, 0⟩, rfl, rfl⟩
 | true =>
  rw [if_pos hf] at h
  obtain ⟨s, r1, h1, h⟩ := rb_inv h
  obtain ⟨rfl, rfl⟩ := rp_inv h
  exact ⟨s, cn_stamp _ _ _ h1, rfl⟩
theorem dL1_c (h : dL1 f p l = some (p', q)) : ∃ ns, l = pc f.nodes (vL ns.length ++ nLs ns) ++ q ∧ p' = { p with nodes := if f.nodes = true then ns else p.nodes } := by
 unfold dL1 at h
 cases hf : f.nodes with
 | false =>
  rw [hf] at h
  obtain ⟨rfl, rfl⟩ := rp_inv h
  exact ⟨[], rfl, rfl⟩
 | true =>
  rw [if_pos hf] at h
  obtain ⟨n, r1, h1, h⟩ := rb_inv h
  obtain ⟨ns, r2, h2, h⟩ := rb_inv h
  obtain ⟨rfl, rfl⟩ := rp_inv h
  refine ⟨ofN ns, ?_, rfl⟩
  have h3 := (dMany_len (eats_count _) _ _ _ _ h2).1
  rw [cn_count _ _ _ _ h1, cn_many (cn_count _) _ _ _ _ h2]
  have e : nLs (ofN ns) = ns.flatMap vL := by unfold nLs ofN; rw [List.flatMap_map]; simp [nL]
  rw [e]
  simp [pc, ofN, h3, List.append_assoc]
theorem dL2_c (h : dL2 f p l = some (p', q)) : ∃ ss, l = pc f.sms (vL ss.length ++ ss.flatMap smL) ++ q ∧ p' = { p with sms := if f.sms = true then ss else p.sms } := by
 unfold dL2 at h
 cases hf : f.sms with
 | false =>
  rw [hf] at h
  obtain ⟨rfl, rfl⟩ := rp_inv h
  exact ⟨[], rfl, rfl⟩
 | true =>
  rw [if_pos hf] at h
  obtain ⟨n, r1, h1, h⟩ := rb_inv h
  obtain ⟨ss, r2, h2, h⟩ := rb_inv h
  obtain ⟨rfl, rfl⟩ := rp_inv h
  refine ⟨ss, ?_, rfl⟩
  have h3 := (dMany_len eats_stream _ _ _ _ h2).1
  rw [cn_count _ _ _ _ h1, cn_many cn_stream _ _ _ _ h2]
  simp [pc, h3, List.append_assoc]
end
theorem pc_if {α : Type} (b : Bool) (g : α → List UInt8) (x y : α) : pc b (g (if b = true then x else y)) = pc b (g x) := by cases b <;> rfl
theorem dRecB_c {k : Int} {l q : List UInt8} {p : RecP} (h : dRecB k l = some (p, q)) : l = bodyF (flOf k) p ++ q := by
 unfold dRecB dHead dLists at h
 obtain ⟨p7, l7, h, h8⟩ := rb_inv h
 obtain ⟨p6, l6, h, h7⟩ := rb_inv h
 obtain ⟨p5, l5, h, h6⟩ := rb_inv h
 obtain ⟨p4, l4, h, h5⟩ := rb_inv h
 obtain ⟨p3, l3, h, h4⟩ := rb_inv h
 obtain ⟨p2, l2, h, h3⟩ := rb_inv h
 obtain ⟨p1, l1, h1, h2⟩ := rb_inv h
 obtain ⟨p8, l8, h8, h9⟩ := rb_inv h8
 generalize flOf k = f at *
 obtain ⟨n, rfl, e1⟩ := dH1_c h1
 unfold p0 at e1
 dsimp only at e1
 subst e1
 obtain ⟨a, b, c, rfl, e2⟩ := dH2_c h2
 dsimp only at e2
 subst e2
 obtain ⟨yes, rfl, e3⟩ := dH3_c h3
 dsimp only at e3
 subst e3
 obtain ⟨key, ps, rfl, e4⟩ := dH4_c h4
 dsimp only at e4
 subst e4
 obtain ⟨z1, z2, z3, z4, rfl, e5⟩ := dH5_c h5
 dsimp only at e5
 subst e5
 obtain ⟨dst, rfl, e6⟩ := dH6_c h6
 dsimp only at e6
 subst e6
 obtain ⟨st, rfl, e7⟩ := dH7_c h7
 dsimp only at e7
 subst e7
 obtain ⟨ns, rfl, e8⟩ := dL1_c h8
 dsimp only at e8
 subst e8
 obtain ⟨ss, rfl, e9⟩ := dL2_c h9
 dsimp only at e9
 subst e9
 unfold bodyF
 dsimp only
 simp only [List.append_assoc]
 rw [pc_if f.n nL, pc_if f.dst nL, pc_if f.yes (fun y : Bool => [if y = true then 1 else 0]), pc_if f.st stL, pc_if f.nodes (fun ns : List Int => vL ns.length ++ nLs ns), pc_if f.sms (fun ss : List Sm => vL ss.length ++ ss.flatMap smL)]
 obtain ⟨f0, f1, f2, f3, f4, f5, f6, f7, f8⟩ := f
 dsimp only
 cases f4 <;> cases f6 <;> cases f7 <;> rfl
theorem decR_canon {l : List UInt8} {p : RecP} (h : decR l = some p) : chkR p = true ∧ l = docR p := by
 unfold decR at h
 split at h
 ·cases h
 ·rename_i b q
  split at h
  ·rename_i p' hd
   split at h
   ·rename_i hc
    cases h
    refine ⟨hc.2, ?_⟩
    have hk := (good_rec (q.length) _ _ _ _ (Nat.le_refl _) hd).1.kind
    have hb := dRecB_c hd
    rw [List.append_nil] at hb
    rw [docR_body p (chk_kind hc.2), hk, ← hb]
    simp
   ·cases h
  ·cases h
end Go.Proofs.YthafeaclpcjjbaaGreatDoor
/- rec.writer.head: the fields that have no list. Conditions: lengths that an append bears; the decoder's tables lie as the library lays them. -/
namespace Go.Proofs.YthafeaclpcjjbaaGreatDoor
open Go.RowKit
set_option maxRecDepth 100000 in
set_option maxHeartbeats 4000000 in
theorem recHead_any (r : RecM) (f : Fl) (R base n : Nat) (st : Option (List UInt8)) (wE w : World) (hw : WrS 77 R base n st w) (hR : base ≤ R) (hGE : G wE w) (hbE : wE.heap.size ≤ base) (hin : r.In wE) (hok : r.Small) (hT : Tabs wE) (hn : n + 600000 ≤ 1099511627776) :
  Calls Tryz.prog 27 #[.pointer (some ⟨R, 0, none⟩), .agg r.cells, .agg f.cells] w (WrPost 77 R base (n + 600000) (headS r.p f st) w) := by
 obtain ⟨kind, rn, dst, yes, ⟨a, b, c⟩, x1, x2, x3, An, cn, nodes, key, Ap, cp, ps, z1, z2, z3, z4, As, cs, sms⟩ := r
 obtain ⟨f0, f1, f2, f3, f4, f5, f6, f7, f8⟩ := f
 obtain ⟨_, k1, k2, k3, k4, k5, k6, k7, k8, k9, _, _, k10, k11, k12, _, _⟩ := hok
 obtain ⟨_, hps, _⟩ := hin
 unfold RecM.cells Fl.cells
 unfold RecM.p headS
 dsimp only at k1 k2 k3 k4 k5 k6 k7 k8 k9 k10 k11 k12 hps ⊢
 obtain ⟨s1, hs1⟩ : ∃ s, (if f0 = true then addNs 1125899906842624 [rn] st else st) = s := ⟨_, rfl⟩
 rw [hs1]
 obtain ⟨s2, hs2⟩ : ∃ s, (if f4 = true then addNs 1125899906842624 [x1, x2, x3] s1 else s1) = s := ⟨_, rfl⟩
 rw [hs2]
 obtain ⟨s3, hs3⟩ : ∃ s, (if f2 = true then s2.map (fun l => l ++ [if yes = true then 1 else 0]) else s2) = s := ⟨_, rfl⟩
 rw [hs3]
 obtain ⟨s4, hs4⟩ : ∃ s, (if f6 = true then addB (batL key (ps.map PutM.p)) s3 else s3) = s := ⟨_, rfl⟩
 rw [hs4]
 obtain ⟨s5, hs5⟩ : ∃ s, (if f7 = true then addNs 1125899906842624 [z1, z2, z3, z4] s4 else s4) = s := ⟨_, rfl⟩
 rw [hs5]
 obtain ⟨s6, hs6⟩ : ∃ s, (if f1 = true then addNs 1125899906842624 [dst] s5 else s5) = s := ⟨_, rfl⟩
 rw [hs6]
 obtain ⟨s7, hs7⟩ : ∃ s, (if f3 = true then addB (stE ⟨a, b, c⟩) s6 else s6) = s := ⟨_, rfl⟩
 rw [hs7]
 replace hs1 := Lib.hid hs1
 replace hs2 := Lib.hid hs2
 replace hs3 := Lib.hid hs3
 replace hs4 := Lib.hid hs4
 replace hs5 := Lib.hid hs5
 replace hs6 := Lib.hid hs6
 replace hs7 := Lib.hid hs7
 have hRw := hw.lt
 replace hw := Lib.hid hw
 replace hT := Lib.hid hT
 replace hGE := Lib.hid hGE
 replace hps := Lib.hid hps
 go_enter Tryz.func27, Tryz.ntmps27
 go_upto_region 1 with fail
 have hgw := (G.new w (.cells #[.int .i64 kind, .int .i64 rn, .int .i64 dst, .bool yes, .int .i64 a, .int .i64 b, .int .i64 c, .int .i64 x1, .int .i64 x2, .int .i64 x3, .slice An nodes.length cn, .string key, .slice Ap ps.length cp, .int .i64 z1, .int .i64 z2, .int .i64 z3, .int .i64 z4, .slice As sms.length cs] 36)).alloc (.cells #[.bool f0, .bool f1, .bool f2, .bool f3, .bool f4, .bool f5, .bool f6, .bool f7, .bool f8] 48)
 have B1 := (G.new (w.alloc (.cells #[.int .i64 kind, .int .i64 rn, .int .i64 dst, .bool yes, .int .i64 a, .int .i64 b, .int .i64 c, .int .i64 x1, .int .i64 x2, .int .i64 x3, .slice An nodes.length cn, .string key, .slice Ap ps.length cp, .int .i64 z1, .int .i64 z2, .int .i64 z3, .int .i64 z4, .slice As sms.length cs] 36)) (.cells #[.bool f0, .bool f1, .bool f2, .bool f3, .bool f4, .bool f5, .bool f6, .bool f7, .bool f8] 48)).blk (blk_new w #[.int .i64 kind, .int .i64 rn, .int .i64 dst, .bool yes, .int .i64 a, .int .i64 b, .int .i64 c, .int .i64 x1, .int .i64 x2, .int .i64 x3, .slice An nodes.length cn, .string key, .slice Ap ps.length cp, .int .i64 z1, .int .i64 z2, .int .i64 z3, .int .i64 z4, .slice As sms.length cs] 36)
 have B2 := blk_new' (w.alloc (.cells #[.int .i64 kind, .int .i64 rn, .int .i64 dst, .bool yes, .int .i64 a, .int .i64 b, .int .i64 c, .int .i64 x1, .int .i64 x2, .int .i64 x3, .slice An nodes.length cn, .string key, .slice Ap ps.length cp, .int .i64 z1, .int .i64 z2, .int .i64 z3, .int .i64 z4, .slice As sms.length cs] 36)) #[.bool f0, .bool f1, .bool f2, .bool f3, .bool f4, .bool f5, .bool f6, .bool f7, .bool f8] 48 (w.heap.size + 1) (by simp)
 have hw0 := hw.out.g hgw
 have hkA := Kw.of_g (R := R) (base := base) hgw (by omega)
 generalize (w.alloc (.cells #[.int .i64 kind, .int .i64 rn, .int .i64 dst, .bool yes, .int .i64 a, .int .i64 b, .int .i64 c, .int .i64 x1, .int .i64 x2, .int .i64 x3, .slice An nodes.length cn, .string key, .slice Ap ps.length cp, .int .i64 z1, .int .i64 z2, .int .i64 z3, .int .i64 z4, .slice As sms.length cs] 36)).alloc (.cells #[.bool f0, .bool f1, .bool f2, .bool f3, .bool f4, .bool f5, .bool f6, .bool f7, .bool f8] 48) = W0 at *
 replace B1 := Lib.hid B1
 replace B2 := Lib.hid B2
 have hk0 := Kw.refl R base W0
 have hGE0 := hGE.out.trans hgw
 replace hGE0 := Lib.hid hGE0
 replace hkA := Lib.hid hkA
 clear hgw
 have gf := (blk_cell (B2.out) 0).trans (show _ = some (.bool f0) from rfl)
 have g1 := (blk_cell (B1.out) 1).trans (show _ = some (.int .i64 rn) from rfl)
 go_upto_if 8 with fail
 replace hw0 := Lib.hid hw0
 replace hk0 := Lib.hid hk0
 go_cut [] (fun wx => WrS 77 R base (n + 10) s1 wx ∧ Kw R base W0 wx)
 case first =>
  cases f0 with
  | false =>
   have e : st = s1 := hs1.out
   have hwe := hw0.out.more (n' := n + 10) (by omega)
   rw [e] at hwe
   replace hwe := Lib.hid hwe
   clear e
   go_wp2_with fail
   go_meet
   exact ⟨hwe.out, hk0.out⟩
  | true =>
   have hc := Lib.hid (wrNums1 rn hw0.out hR (by omega) k1)
   have e : addNs 1125899906842624 [rn] st = s1 := hs1.out
   rw [e] at hc
   clear e
   go_wp2_with (go_at_call 49; refine Calls.mono hc.out ?_; rintro e w3 ⟨rfl, hw3, hk3⟩; have hk3' := Lib.hid (hk0.out.trans hk3); replace hw3 := Lib.hid hw3; clear hk3)
   go_meet
   exact ⟨hw3.out, hk3'.out⟩
 case rest =>
  clear gf g1 hw0 hk0
  obtain ⟨hw1, hk1⟩ := hcut
  have hz1 := hk1.size
  have gf := (blk_cell (hk1.blk (by decide) (by omega) B2.out) 4).trans (show _ = some (.bool f4) from rfl)
  have g7 := (blk_cell (hk1.blk (by decide) (by omega) B1.out) 7).trans (show _ = some (.int .i64 x1) from rfl)
  have g8 := (blk_cell (hk1.blk (by decide) (by omega) B1.out) 8).trans (show _ = some (.int .i64 x2) from rfl)
  have g9 := (blk_cell (hk1.blk (by decide) (by omega) B1.out) 9).trans (show _ = some (.int .i64 x3) from rfl)
  go_upto_if 15 with fail
  replace hw1 := Lib.hid hw1
  replace hk1 := Lib.hid hk1
  go_cut [] (fun wx => WrS 77 R base (n + 40) s2 wx ∧ Kw R base W0 wx)
  case first =>
   cases f4 with
   | false =>
    have e : s1 = s2 := hs2.out
    have hwe := hw1.out.more (n' := n + 40) (by omega)
    rw [e] at hwe
    replace hwe := Lib.hid hwe
    clear e
    go_wp2_with fail
    go_meet
    exact ⟨hwe.out, hk1.out⟩
   | true =>
    have hc := Lib.hid (wrNums3 x1 x2 x3 hw1.out hR (by omega) k3 k4 k5)
    have e : addNs 1125899906842624 [x1, x2, x3] s1 = s2 := hs2.out
    rw [e] at hc
    clear e
    go_wp2_with (go_at_call 49; refine Calls.mono hc.out ?_; rintro e w3 ⟨rfl, hw3, hk3⟩; have hk3' := Lib.hid (hk1.out.trans hk3); replace hw3 := Lib.hid hw3; clear hk3)
    go_meet
    exact ⟨hw3.out, hk3'.out⟩
  case rest =>
   clear gf g7 g8 g9 hw1 hk1
   obtain ⟨hw2, hk2⟩ := hcut
   have hz2 := hk2.size
   have gf := (blk_cell (hk2.blk (by decide) (by omega) B2.out) 2).trans (show _ = some (.bool f2) from rfl)
   have g3 := (blk_cell (hk2.blk (by decide) (by omega) B1.out) 3).trans (show _ = some (.bool yes) from rfl)
   go_upto_if 29 with fail
   replace hw2 := Lib.hid hw2
   replace hk2 := Lib.hid hk2
   go_cut [] (fun wx => WrS 77 R base (n + 41) s3 wx ∧ Kw R base W0 wx)
   case first =>
    cases f2 with
    | false =>
     have e : s2 = s3 := hs3.out
     have hwe := hw2.out.more (n' := n + 41) (by omega)
     rw [e] at hwe
     replace hwe := Lib.hid hwe
     clear e
     go_wp2_with fail
     go_meet
     exact ⟨hwe.out, hk2.out⟩
    | true =>
     have e : s2.map (fun l => l ++ [if yes = true then 1 else 0]) = s3 := hs3.out
     obtain ⟨A8, c8, m, r1, r2, r3, r4⟩ := hw2.out.rowN
     have x0 := (blk_cell r1 0).trans (show _ = some (.slice A8 m.length c8) from rfl)
     have hzR := blk_lt r1
     have hwz := hk2.out.size
     have hse : s2.isNone = s3.isNone := by rw [← e]; cases s2 <;> rfl
     have hl4 : ∀ l', s3 = some l' → l' = m ++ [if yes = true then 1 else 0] := fun l' h => by
      rw [← e] at h
      cases hs : s2 with
      | none => rw [hs] at h; cases h
      | some l0 => rw [hs] at h; cases h; rw [r4 l0 hs]
     clear e
     replace hl4 := Lib.hid hl4
     replace hse := Lib.hid hse
     replace r1 := Lib.hid r1
     replace r2 := Lib.hid r2
     replace r4 := Lib.hid r4
     cases yes with
     | true =>
      obtain ⟨m2, hm2⟩ : ∃ m2, m ++ [1] = m2 := ⟨_, rfl⟩
      have hl5 : ∀ l', s3 = some l' → l' = m2 := by rw [← hm2]; exact hl4.out
      have hm2l : m2.length = m.length + 1 := by rw [← hm2]; simp
      replace hm2 := Lib.hid hm2
      replace hm2l := Lib.hid hm2l
      replace hl5 := Lib.hid hl5
      go_wp2_with (at_builtin; refine wpList_append_but byte_elem _ rfl (.tmp 36) (.tmp 38) rfl base (.slice A8 m.length c8) m rfl (r2.out.g (G.new _ _)) (wc.heap.size + 1) (some ⟨wc.heap.size, 0, none⟩) 1 [1] rfl (by intro h; cases h) (Sl.of_blk byteC_len _ (blk_new _ _ _) rfl (by omega)) (by simp; omega) (by simp; omega) (by simp; omega) ?_; intro v6 w6 hown6 hk6 hb6; rw [hm2.out] at hown6; obtain ⟨A6, c6, e6, _, _, _⟩ := OwnL.sl byteC_len hown6; subst e6; have r6 := hk6.2 _ _ _ _ wrT ((G.new _ _).blk r1.out); have y6 := (blk_cell r6 0).trans (show _ = some (.slice A8 m.length c8) from rfl); have x6 := (show w6.frozen? ⟨R, 0, none⟩ = false by simp [World.frozen?, r6]); have s6 := Lib.hid (WrS.put (st := s3) (n := n + 41) wrT hse.out r6 rfl hown6 (by have := hm2l.out; omega) hl5.out); have k6 := Lib.hid ((hk2.out.trans (Kw.of_g (G.new _ _) (by omega))).trans ((Kw.of_keep hk6).trans (Kw.set hR 0 (.slice A6 m2.length c6)))); clear hown6 hk6 hb6)
      go_meet
      exact ⟨s6.out, k6.out⟩
     | false =>
      obtain ⟨m2, hm2⟩ : ∃ m2, m ++ [0] = m2 := ⟨_, rfl⟩
      have hl5 : ∀ l', s3 = some l' → l' = m2 := by rw [← hm2]; exact hl4.out
      have hm2l : m2.length = m.length + 1 := by rw [← hm2]; simp
      replace hm2 := Lib.hid hm2
      replace hm2l := Lib.hid hm2l
      replace hl5 := Lib.hid hl5
      go_wp2_with (at_builtin; refine wpList_append_but byte_elem _ rfl (.tmp 36) (.tmp 38) rfl base (.slice A8 m.length c8) m rfl (r2.out.g (G.new _ _)) (wc.heap.size + 1) (some ⟨wc.heap.size, 0, none⟩) 1 [0] rfl (by intro h; cases h) (Sl.of_blk byteC_len _ (blk_new _ _ _) rfl (by omega)) (by simp; omega) (by simp; omega) (by simp; omega) ?_; intro v6 w6 hown6 hk6 hb6; rw [hm2.out] at hown6; obtain ⟨A6, c6, e6, _, _, _⟩ := OwnL.sl byteC_len hown6; subst e6; have r6 := hk6.2 _ _ _ _ wrT ((G.new _ _).blk r1.out); have y6 := (blk_cell r6 0).trans (show _ = some (.slice A8 m.length c8) from rfl); have x6 := (show w6.frozen? ⟨R, 0, none⟩ = false by simp [World.frozen?, r6]); have s6 := Lib.hid (WrS.put (st := s3) (n := n + 41) wrT hse.out r6 rfl hown6 (by have := hm2l.out; omega) hl5.out); have k6 := Lib.hid ((hk2.out.trans (Kw.of_g (G.new _ _) (by omega))).trans ((Kw.of_keep hk6).trans (Kw.set hR 0 (.slice A6 m2.length c6)))); clear hown6 hk6 hb6)
      go_meet
      exact ⟨s6.out, k6.out⟩
   case rest =>
    clear gf g3 hw2 hk2
    obtain ⟨hw3, hk3⟩ := hcut
    have hz3 := hk3.size
    have gf := (blk_cell (hk3.blk (by decide) (by omega) B2.out) 6).trans (show _ = some (.bool f6) from rfl)
    have g11 := (blk_cell (hk3.blk (by decide) (by omega) B1.out) 11).trans (show _ = some (.string key) from rfl)
    have g12 := (blk_cell (hk3.blk (by decide) (by omega) B1.out) 12).trans (show _ = some (.slice Ap ps.length cp) from rfl)
    go_upto_if 43 with fail
    replace hw3 := Lib.hid hw3
    replace hk3 := Lib.hid hk3
    go_cut [] (fun wx => WrS 77 R base (n + 500041) s4 wx ∧ Kw R base W0 wx)
    case first =>
     cases f6 with
     | false =>
      have e : s3 = s4 := hs4.out
      have hwe := hw3.out.more (n' := n + 500041) (by omega)
      rw [e] at hwe
      replace hwe := Lib.hid hwe
      clear e
      go_wp2_with fail
      go_meet
      exact ⟨hwe.out, hk3.out⟩
     | true =>
      have e : addB (batL key (ps.map PutM.p)) s3 = s4 := hs4.out
      have hgE := hk3.out.ge hGE0.out hbE
      have hc := Lib.hid (batEnc_any key ps Ap cp wc (PutsIn.more (hps.out.g (Nat.le_refl _) hgE) hgE.size) k10 k11 (hT.out.g hgE))
      replace e := Lib.hid e
      have hbw : base ≤ wc.heap.size := by have := hw3.out.lt; omega
      go_wp2_with (first | (go_at_call 51; refine Calls.mono hc.out ?_; rintro e5 w5 ⟨Ab, cb, rfl, hob, hgb, _⟩; have hc2 := wrSome_own (hw3.out.g hgb) hR (by omega) hob; rw [e.out] at hc2; replace hc2 := Lib.hid hc2; have hk5 := Lib.hid (hk3.out.trans (Kw.of_g hgb hbw)); clear hob hgb) | (go_at_call 50; refine Calls.mono hc2.out ?_; rintro e6 w6 ⟨rfl, hw6, hk6⟩; have hw7 := Lib.hid (hw6.more (n' := n + 500041) (by omega)); have hk7 := Lib.hid (hk5.out.trans hk6); clear hw6 hk6))
      go_meet
      exact ⟨hw7.out, hk7.out⟩
    case rest =>
     clear gf g11 g12 hw3 hk3
     obtain ⟨hw4, hk4⟩ := hcut
     have hz4 := hk4.size
     have gf := (blk_cell (hk4.blk (by decide) (by omega) B2.out) 7).trans (show _ = some (.bool f7) from rfl)
     have g13 := (blk_cell (hk4.blk (by decide) (by omega) B1.out) 13).trans (show _ = some (.int .i64 z1) from rfl)
     have g14 := (blk_cell (hk4.blk (by decide) (by omega) B1.out) 14).trans (show _ = some (.int .i64 z2) from rfl)
     have g15 := (blk_cell (hk4.blk (by decide) (by omega) B1.out) 15).trans (show _ = some (.int .i64 z3) from rfl)
     have g16 := (blk_cell (hk4.blk (by decide) (by omega) B1.out) 16).trans (show _ = some (.int .i64 z4) from rfl)
     go_upto_if 50 with fail
     replace hw4 := Lib.hid hw4
     replace hk4 := Lib.hid hk4
     go_cut [] (fun wx => WrS 77 R base (n + 500081) s5 wx ∧ Kw R base W0 wx)
     case first =>
      cases f7 with
      | false =>
       have e : s4 = s5 := hs5.out
       have hwe := hw4.out.more (n' := n + 500081) (by omega)
       rw [e] at hwe
       replace hwe := Lib.hid hwe
       clear e
       go_wp2_with fail
       go_meet
       exact ⟨hwe.out, hk4.out⟩
      | true =>
       have hc := Lib.hid (wrNums4 z1 z2 z3 z4 hw4.out hR (by omega) k6 k7 k8 k9)
       have e : addNs 1125899906842624 [z1, z2, z3, z4] s4 = s5 := hs5.out
       rw [e] at hc
       clear e
       go_wp2_with (go_at_call 49; refine Calls.mono hc.out ?_; rintro e w3 ⟨rfl, hw3, hk3⟩; have hk3' := Lib.hid (hk4.out.trans hk3); replace hw3 := Lib.hid hw3; clear hk3)
       go_meet
       exact ⟨hw3.out, hk3'.out⟩
     case rest =>
      clear gf g13 g14 g15 g16 hw4 hk4
      obtain ⟨hw5, hk5⟩ := hcut
      have hz5 := hk5.size
      have gf := (blk_cell (hk5.blk (by decide) (by omega) B2.out) 1).trans (show _ = some (.bool f1) from rfl)
      have g2 := (blk_cell (hk5.blk (by decide) (by omega) B1.out) 2).trans (show _ = some (.int .i64 dst) from rfl)
      go_upto_if 67 with fail
      replace hw5 := Lib.hid hw5
      replace hk5 := Lib.hid hk5
      go_cut [] (fun wx => WrS 77 R base (n + 500091) s6 wx ∧ Kw R base W0 wx)
      case first =>
       cases f1 with
       | false =>
        have e : s5 = s6 := hs6.out
        have hwe := hw5.out.more (n' := n + 500091) (by omega)
        rw [e] at hwe
        replace hwe := Lib.hid hwe
        clear e
        go_wp2_with fail
        go_meet
        exact ⟨hwe.out, hk5.out⟩
       | true =>
        have hc := Lib.hid (wrNums1 dst hw5.out hR (by omega) k2)
        have e : addNs 1125899906842624 [dst] s5 = s6 := hs6.out
        rw [e] at hc
        clear e
        go_wp2_with (go_at_call 49; refine Calls.mono hc.out ?_; rintro e w3 ⟨rfl, hw3, hk3⟩; have hk3' := Lib.hid (hk5.out.trans hk3); replace hw3 := Lib.hid hw3; clear hk3)
        go_meet
        exact ⟨hw3.out, hk3'.out⟩
      case rest =>
       clear gf g2 hw5 hk5
       obtain ⟨hw6, hk6⟩ := hcut
       have hz6 := hk6.size
       have gf := (blk_cell (hk6.blk (by decide) (by omega) B2.out) 3).trans (show _ = some (.bool f3) from rfl)
       have g4 := (blk_cell (hk6.blk (by decide) (by omega) B1.out) 4).trans (show _ = some (.int .i64 a) from rfl)
       have g5 := (blk_cell (hk6.blk (by decide) (by omega) B1.out) 5).trans (show _ = some (.int .i64 b) from rfl)
       have g6 := (blk_cell (hk6.blk (by decide) (by omega) B1.out) 6).trans (show _ = some (.int .i64 c) from rfl)
       replace hw6 := Lib.hid hw6
       replace hk6 := Lib.hid hk6
       cases f3 with
       | false =>
        have e : s6 = s7 := hs7.out
        have hwe := hw6.out.more (n' := n + 500121) (by omega)
        rw [e] at hwe
        replace hwe := Lib.hid hwe
        clear e
        have hw8 := Lib.hid (hwe.out.more (n' := n + 600000) (by omega))
        have hk8 := Lib.hid (hkA.out.trans hk6.out)
        go_wp2_with fail
        go_end0
        exact ⟨rfl, hw8.out, hk8.out⟩
       | true =>
        have e : addB (stE ⟨a, b, c⟩) s6 = s7 := hs7.out
        have hc := Lib.hid (stEnc_any ⟨a, b, c⟩ wc)
        have hls := stE_len ⟨a, b, c⟩
        replace e := Lib.hid e
        have hbw : base ≤ wc.heap.size := by have := hw6.out.lt; omega
        go_wp2_with (first | (go_at_call 52; refine Calls.mono hc.out ?_; rintro e5 w5 ⟨Ab, cb, rfl, hob, hgb⟩; have hc2 := wrSome_own (hw6.out.g hgb) hR (by omega) hob; rw [e.out] at hc2; replace hc2 := Lib.hid hc2; have hk5 := Lib.hid (hk6.out.trans (Kw.of_g hgb hbw)); clear hob hgb) | (go_at_call 50; refine Calls.mono hc2.out ?_; rintro e6 w6 ⟨rfl, hw6, hk6⟩; have hw7 := Lib.hid (hw6.more (n' := n + 500121) (by omega)); have hk7 := Lib.hid (hk5.out.trans hk6); clear hw6 hk6))
        go_end0
        exact ⟨rfl, hw7.out.more (by omega), hkA.out.trans hk7.out⟩
end Go.Proofs.YthafeaclpcjjbaaGreatDoor

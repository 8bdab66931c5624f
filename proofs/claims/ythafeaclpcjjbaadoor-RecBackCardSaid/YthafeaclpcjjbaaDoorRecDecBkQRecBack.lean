/- Records that are read: cut short or with more behind they are none; what is read is what would be written. Plain mathematics. No condition. -/
import Derived.Test.YthafeaclpcjjbaaDoorRecDecLawQRecBack
namespace Go.Proofs.YthafeaclpcjjbaaDoor
open Go.RowKit

theorem Rd.cond {α : Type} {b : Bool} {d d' : Reader α} (h : Rd d) (h' : Rd d') : Rd (if b = true then d else d') := by
  cases b
  · exact h'
  · exact h
theorem rd_rec (k : Int) : Rd (dRecB k) := by
  have c := rd_count 1125899906842624
  unfold dRecB dHead dLists
  refine Rd.bind (Rd.bind (Rd.bind (Rd.bind (Rd.bind (Rd.bind (Rd.bind ?_ fun p => ?_) fun p => ?_) fun p => ?_) fun p => ?_) fun p => ?_) fun p => ?_) fun p => Rd.bind ?_ fun p => ?_
  · exact Rd.cond (c.bind fun _ => Rd.pure _) (Rd.pure _)
  · exact Rd.cond (c.bind fun _ => c.bind fun _ => c.bind fun _ => Rd.pure _) (Rd.pure _)
  · exact Rd.cond ((rd_count 1).bind fun _ => Rd.pure _) (Rd.pure _)
  · exact Rd.cond (rd_batch.bind fun _ => Rd.pure _) (Rd.pure _)
  · exact Rd.cond (c.bind fun _ => c.bind fun _ => c.bind fun _ => c.bind fun _ => Rd.pure _) (Rd.pure _)
  · exact Rd.cond (c.bind fun _ => Rd.pure _) (Rd.pure _)
  · exact Rd.cond (rd_stamp.bind fun _ => Rd.pure _) (Rd.pure _)
  · exact Rd.cond (c.bind fun n => (Rd.many c n).bind fun _ => Rd.pure _) (Rd.pure _)
  · exact Rd.cond (c.bind fun n => (Rd.many rd_stream n).bind fun _ => Rd.pure _) (Rd.pure _)
theorem kind_byte {k : Int} (hk : fOk k = true) : ((UInt8.ofNat k.toNat).toNat : Int) = k := by
  have := of_decide_eq_true hk
  rw [UInt8.toNat_ofNat']
  omega
section
variable {r : RecP} (hc : chkR r = true)
include hc
theorem chk_kind : fOk r.kind = true := by
  unfold chkR at hc
  simp only [Bool.and_eq_true] at hc
  exact hc.1
theorem decR_back (hf : r.Fits) : decR (docR r) = some r := by
  have hk := chk_kind hc
  have h1 := dRecB_w hc hf []
  rw [List.append_nil] at h1
  rw [docR_body r hk]
  unfold decR
  simp only [kind_byte hk]
  rw [h1]
  simp [hc, hk]
theorem decR_cut (hf : r.Fits) {k : Nat} (h : k < (docR r).length) : decR ((docR r).take k) = none := by
  have hk := chk_kind hc
  have h1 := dRecB_w hc hf []
  rw [List.append_nil] at h1
  rw [docR_body r hk] at h ⊢
  cases k with
  | zero => rfl
  | succ k =>
    rw [List.take_succ_cons]
    unfold decR
    simp only [kind_byte hk]
    rw [(rd_rec r.kind).cut h1 (by simpa using h)]
theorem decR_more (hf : r.Fits) (x : UInt8) : decR (docR r ++ [x]) = none := by
  have hk := chk_kind hc
  have h1 := dRecB_w hc hf [x]
  rw [docR_body r hk, List.cons_append]
  unfold decR
  simp only [kind_byte hk]
  rw [h1]
end
section
variable {f : Fl} {p p' : RecP} {l q : List UInt8}
theorem cR_c {v : Nat} (h : cR l = some (v, q)) : l = nL (v : Int) ++ q := by
  have := cn_count _ _ _ _ h
  unfold nL
  simpa using this
theorem dH1_c (h : dH1 f p l = some (p', q)) : ∃ n, l = pc f.n (nL n) ++ q ∧ p' = { p with n := if f.n = true then n else p.n } := by
  unfold dH1 at h
  cases hf : f.n with
  | false =>
    rw [hf] at h
    obtain ⟨rfl, rfl⟩ := rp_inv h
    exact ⟨0, rfl, rfl⟩
  | true =>
    rw [if_pos hf] at h
    obtain ⟨v, r1, h1, h2⟩ := rb_inv h
    obtain ⟨rfl, rfl⟩ := rp_inv h2
    exact ⟨v, cR_c h1, rfl⟩
theorem dH6_c (h : dH6 f p l = some (p', q)) : ∃ n, l = pc f.dst (nL n) ++ q ∧ p' = { p with dst := if f.dst = true then n else p.dst } := by
  unfold dH6 at h
  cases hf : f.dst with
  | false =>
    rw [hf] at h
    obtain ⟨rfl, rfl⟩ := rp_inv h
    exact ⟨0, rfl, rfl⟩
  | true =>
    rw [if_pos hf] at h
    obtain ⟨v, r1, h1, h2⟩ := rb_inv h
    obtain ⟨rfl, rfl⟩ := rp_inv h2
    exact ⟨v, cR_c h1, rfl⟩
theorem dH2_c (h : dH2 f p l = some (p', q)) : ∃ a b c, l = pc f.tx (nLs [a, b, c]) ++ q ∧ p' = { p with x1 := if f.tx = true then a else p.x1, x2 := if f.tx = true then b else p.x2, x3 := if f.tx = true then c else p.x3 } := by
  unfold dH2 at h
  cases hf : f.tx with
  | false =>
    rw [hf] at h
    obtain ⟨rfl, rfl⟩ := rp_inv h
    exact ⟨0, 0, 0, rfl, rfl⟩
  | true =>
    rw [if_pos hf] at h
    obtain ⟨a, r1, h1, h⟩ := rb_inv h
    obtain ⟨b, r2, h2, h⟩ := rb_inv h
    obtain ⟨c, r3, h3, h⟩ := rb_inv h
    obtain ⟨rfl, rfl⟩ := rp_inv h
    refine ⟨a, b, c, ?_, rfl⟩
    rw [cR_c h1, cR_c h2, cR_c h3]
    simp [pc, nLs, List.append_assoc]
theorem dH5_c (h : dH5 f p l = some (p', q)) : ∃ a b c d, l = pc f.span (nLs [a, b, c, d]) ++ q ∧ p' = { p with r1 := if f.span = true then a else p.r1, r2 := if f.span = true then b else p.r2, r3 := if f.span = true then c else p.r3, r4 := if f.span = true then d else p.r4 } := by
  unfold dH5 at h
  cases hf : f.span with
  | false =>
    rw [hf] at h
    obtain ⟨rfl, rfl⟩ := rp_inv h
    exact ⟨0, 0, 0, 0, rfl, rfl⟩
  | true =>
    rw [if_pos hf] at h
    obtain ⟨a, r1, h1, h⟩ := rb_inv h
    obtain ⟨b, r2, h2, h⟩ := rb_inv h
    obtain ⟨c, r3, h3, h⟩ := rb_inv h
    obtain ⟨d, r4, h4, h⟩ := rb_inv h
    obtain ⟨rfl, rfl⟩ := rp_inv h
    refine ⟨a, b, c, d, ?_, rfl⟩
    rw [cR_c h1, cR_c h2, cR_c h3, cR_c h4]
    simp [pc, nLs, List.append_assoc]
theorem flag_c {v : Nat} (h : dCount 1 l = some (v, q)) : l = [if decide (v = 1) = true then 1 else 0] ++ q := by
  have h1 := cn_count _ _ _ _ h
  have h2 := (dCount_num h).2
  have h3 : v = 0 ∨ v = 1 := by omega
  rcases h3 with rfl | rfl
  · exact h1
  · exact h1
theorem dH3_c (h : dH3 f p l = some (p', q)) : ∃ b : Bool, l = pc f.yes [if b = true then 1 else 0] ++ q ∧ p' = { p with yes := if f.yes = true then b else p.yes } := by
  unfold dH3 at h
  cases hf : f.yes with
  | false =>
    rw [hf] at h
    obtain ⟨rfl, rfl⟩ := rp_inv h
    exact ⟨false, rfl, rfl⟩
  | true =>
    rw [if_pos hf] at h
    obtain ⟨v, r1, h1, h⟩ := rb_inv h
    obtain ⟨rfl, rfl⟩ := rp_inv h
    exact ⟨decide (v = 1), flag_c h1, rfl⟩
theorem dH4_c (h : dH4 f p l = some (p', q)) : ∃ key ps, l = pc f.bat (batL key ps) ++ q ∧ p' = { p with key := if f.bat = true then key else p.key, ps := if f.bat = true then ps else p.ps } := by
  unfold dH4 at h
  cases hf : f.bat with
  | false =>
    rw [hf] at h
    obtain ⟨rfl, rfl⟩ := rp_inv h
    exact ⟨ByteArray.empty, [], rfl, rfl⟩
  | true =>
    rw [if_pos hf] at h
    obtain ⟨⟨key, ps⟩, r1, h1, h⟩ := rb_inv h
    obtain ⟨rfl, rfl⟩ := rp_inv h
    exact ⟨key, ps, cn_batch h1, rfl⟩
theorem dH7_c (h : dH7 f p l = some (p', q)) : ∃ s, l = pc f.st (stL s) ++ q ∧ p' = { p with st := if f.st = true then s else p.st } := by
  unfold dH7 at h
  cases hf : f.st with
  | false =>
    rw [hf] at h
    obtain ⟨rfl, rfl⟩ := rp_inv h
    exact ⟨⟨0, 0, 0⟩, rfl, rfl⟩
  | true =>
    rw [if_pos hf] at h
    obtain ⟨s, r1, h1, h⟩ := rb_inv h
    obtain ⟨rfl, rfl⟩ := rp_inv h
    exact ⟨s, cn_stamp _ _ _ h1, rfl⟩
theorem dL1_c (h : dL1 f p l = some (p', q)) : ∃ ns, l = pc f.nodes (vL ns.length ++ nLs ns) ++ q ∧ p' = { p with nodes := if f.nodes = true then ns else p.nodes } := by
  unfold dL1 at h
  cases hf : f.nodes with
  | false =>
    rw [hf] at h
    obtain ⟨rfl, rfl⟩ := rp_inv h
    exact ⟨[], rfl, rfl⟩
  | true =>
    rw [if_pos hf] at h
    obtain ⟨n, r1, h1, h⟩ := rb_inv h
    obtain ⟨ns, r2, h2, h⟩ := rb_inv h
    obtain ⟨rfl, rfl⟩ := rp_inv h
    refine ⟨ofN ns, ?_, rfl⟩
    have h3 := (dMany_len (eats_count _) _ _ _ _ h2).1
    rw [cn_count _ _ _ _ h1, cn_many (cn_count _) _ _ _ _ h2]
    have e : nLs (ofN ns) = ns.flatMap vL := by unfold nLs ofN; rw [List.flatMap_map]; simp [nL]
    rw [e]
    simp [pc, ofN, h3, List.append_assoc]
theorem dL2_c (h : dL2 f p l = some (p', q)) : ∃ ss, l = pc f.sms (vL ss.length ++ ss.flatMap smL) ++ q ∧ p' = { p with sms := if f.sms = true then ss else p.sms } := by
  unfold dL2 at h
  cases hf : f.sms with
  | false =>
    rw [hf] at h
    obtain ⟨rfl, rfl⟩ := rp_inv h
    exact ⟨[], rfl, rfl⟩
  | true =>
    rw [if_pos hf] at h
    obtain ⟨n, r1, h1, h⟩ := rb_inv h
    obtain ⟨ss, r2, h2, h⟩ := rb_inv h
    obtain ⟨rfl, rfl⟩ := rp_inv h
    refine ⟨ss, ?_, rfl⟩
    have h3 := (dMany_len eats_stream _ _ _ _ h2).1
    rw [cn_count _ _ _ _ h1, cn_many cn_stream _ _ _ _ h2]
    simp [pc, h3, List.append_assoc]
end
theorem pc_if {α : Type} (b : Bool) (g : α → List UInt8) (x y : α) : pc b (g (if b = true then x else y)) = pc b (g x) := by cases b <;> rfl
theorem dRecB_c {k : Int} {l q : List UInt8} {p : RecP} (h : dRecB k l = some (p, q)) : l = bodyF (flOf k) p ++ q := by
  unfold dRecB dHead dLists at h
  obtain ⟨p7, l7, h, h8⟩ := rb_inv h
  obtain ⟨p6, l6, h, h7⟩ := rb_inv h
  obtain ⟨p5, l5, h, h6⟩ := rb_inv h
  obtain ⟨p4, l4, h, h5⟩ := rb_inv h
  obtain ⟨p3, l3, h, h4⟩ := rb_inv h
  obtain ⟨p2, l2, h, h3⟩ := rb_inv h
  obtain ⟨p1, l1, h1, h2⟩ := rb_inv h
  obtain ⟨p8, l8, h8, h9⟩ := rb_inv h8
  generalize flOf k = f at *
  obtain ⟨n, rfl, e1⟩ := dH1_c h1
  unfold p0 at e1
  dsimp only at e1
  subst e1
  obtain ⟨a, b, c, rfl, e2⟩ := dH2_c h2
  dsimp only at e2
  subst e2
  obtain ⟨yes, rfl, e3⟩ := dH3_c h3
  dsimp only at e3
  subst e3
  obtain ⟨key, ps, rfl, e4⟩ := dH4_c h4
  dsimp only at e4
  subst e4
  obtain ⟨z1, z2, z3, z4, rfl, e5⟩ := dH5_c h5
  dsimp only at e5
  subst e5
  obtain ⟨dst, rfl, e6⟩ := dH6_c h6
  dsimp only at e6
  subst e6
  obtain ⟨st, rfl, e7⟩ := dH7_c h7
  dsimp only at e7
  subst e7
  obtain ⟨ns, rfl, e8⟩ := dL1_c h8
  dsimp only at e8
  subst e8
  obtain ⟨ss, rfl, e9⟩ := dL2_c h9
  dsimp only at e9
  subst e9
  unfold bodyF
  dsimp only
  simp only [List.append_assoc]
  rw [pc_if f.n nL, pc_if f.dst nL, pc_if f.yes (fun y : Bool => [if y = true then 1 else 0]), pc_if f.st stL, pc_if f.nodes (fun ns : List Int => vL ns.length ++ nLs ns), pc_if f.sms (fun ss : List Sm => vL ss.length ++ ss.flatMap smL)]
  obtain ⟨f0, f1, f2, f3, f4, f5, f6, f7, f8⟩ := f
  dsimp only
  cases f4 <;> cases f6 <;> cases f7 <;> rfl
theorem decR_canon {l : List UInt8} {p : RecP} (h : decR l = some p) : chkR p = true ∧ l = docR p := by
  unfold decR at h
  split at h
  · cases h
  · rename_i b q
    split at h
    · rename_i p' hd
      split at h
      · rename_i hc
        cases h
        refine ⟨hc.2, ?_⟩
        have hk := (good_rec (q.length) _ _ _ _ (Nat.le_refl _) hd).1.kind
        have hb := dRecB_c hd
        rw [List.append_nil] at hb
        rw [docR_body p (chk_kind hc.2), hk, ← hb]
        simp
      · cases h
    · cases h
end Go.Proofs.YthafeaclpcjjbaaDoor

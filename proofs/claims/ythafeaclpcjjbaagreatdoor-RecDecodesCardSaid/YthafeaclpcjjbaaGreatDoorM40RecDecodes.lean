/- Several texts in one: ByteLaw, EyeByte, RefDecLaw, DkSt. -/
import Derived.Test.YthafeaclpcjjbaaGreatDoorM5RecDecodes
import Derived.Test.YthafeaclpcjjbaaGreatDoorM6RecDecodes
import Derived.Test.YthafeaclpcjjbaaGreatDoorM36RecDecodes
import Derived.Test.YthafeaclpcjjbaaGreatDoorM26RecDecodes
import Derived.Test.YthafeaclpcjjbaaGreatDoorRecDecQRecDecodes
import Derived.Test.YthafeaclpcjjbaaGreatDoorRefDecBatchQRecDecodes
/- One byte as a reader. Plain mathematics. No condition. -/
namespace Go.Proofs.YthafeaclpcjjbaaGreatDoor
open Go.RowKit
/-- One byte. -/
def dByte : Reader Nat := fun l => match l with
 | [] => none
 | b :: q => some (b.toNat, q)
theorem dByte_flag (b : Bool) (q : List UInt8) : dByte ([if b = true then 1 else 0] ++ q) = some (if b = true then 1 else 0, q) := by cases b <;> rfl
theorem eats_byte : Eats dByte := fun l x r h => by
 cases l with
 | nil => cases h
 | cons b q =>
  cases h
  simp
end Go.Proofs.YthafeaclpcjjbaaGreatDoor
/- penstockref7.Eye.Byte: what it answers. Condition: at most 2^30 bytes. -/
namespace Go.Proofs.YthafeaclpcjjbaaGreatDoor
open Go.RowKit
set_option maxRecDepth 100000 in
set_option maxHeartbeats 2000000 in
theorem eyeByte_any (R : Nat) (A : Option Addr) (c8 : Nat) (l0 : List UInt8) (st : Option (List UInt8)) (w : World) (h : RdS 59 R A c8 l0 st w) (hl : l0.length ≤ 1073741824) (_hcap : l0.length ≤ c8) :
  Calls Tryz.prog 14 #[.pointer (some ⟨R, 0, none⟩)] w (RdPost 59 R A c8 l0 w (.int .i64 (gv 0 dByte st).1) (gv 0 dByte st).2) := by
 obtain ⟨p, hp, hst, hr⟩ := h
 have c0 := hr.c0
 have c1 := hr.c1
 have c2 := hr.c2
 have f2 := hr.free 2
 have hb2 := hr.bad true
 have hbut2 := but_set w R 2 (.bool true)
 cases st with
 | none =>
  clear hst c0 c1
  show Calls _ _ _ _ (RdPost _ _ _ _ _ _ (.int .i64 0) none)
  unfold Option.isNone at c2
  have hend := hb2.g (G.refl _)
  replace hr := Lib.hid hr
  replace hend := Lib.hid hend
  replace hbut2 := Lib.hid hbut2
  clear hb2
  go_enter Tryz.func14, Tryz.ntmps14
  go_upto_region 1 with fail
  go_quiet (fail)
  generalize hwd : w.drewN _ = wd
  have hgd : G w wd := by rw [← hwd]; exact (G.refl _).drewN _
  clear hwd
  have hr2 := hr.out.g hgd
  have f2' := hr2.free 2
  have c2w := hr2.c2
  have hend2 := hr2.bad true
  have hbut3 := (But.of_g hgd).trans (but_set wd R 2 (.bool true))
  replace hr2 := Lib.hid hr2
  replace hend2 := Lib.hid hend2
  replace hbut3 := Lib.hid hbut3
  go_wp2_with fail
  go_ret
  exact ⟨rfl, ⟨p, hp, (fun _ h => by cases h), hend2.out⟩, hbut3.out⟩
 | some l1 =>
  obtain rfl := hst l1 rfl
  clear hst
  unfold Option.isNone at c2
  rcases Nat.lt_or_ge p l0.length with hlt | hge
  ·obtain ⟨x, hx⟩ : ∃ x, l0[p]? = some x := ⟨_, List.getElem?_eq_getElem hlt⟩
   have hdr : l0.drop p = x :: l0.drop (p + 1) := by
    rw [List.drop_eq_getElem_cons hlt]
    have := (List.getElem?_eq_some_iff.1 hx).2
    rw [this]
   rw [hdr]
   show Calls _ _ _ _ (RdPost _ _ _ _ _ _ (.int .i64 (x.toNat : Int)) (some (l0.drop (p + 1))))
   have hxb := x.toNat_lt
   have hwr : IntKind.i64.wrap (x.toNat : Int) = (x.toNat : Int) := IntWalk.i64_in _ (by omega)
   have n1 : ¬ ((l0.length : Int) ≤ (p : Int)) := by omega
   have hpl : (p : Int) < (l0.length : Int) := by omega
   have hpn : p ≤ 1073741824 := by omega
   have d1 : decide ((l0.length : Int) ≤ (p : Int)) = false := decide_eq_false n1
   clear hb2 hbut2
   replace hr := Lib.hid hr
   replace hdr := Lib.hid hdr
   go_enter Tryz.func14, Tryz.ntmps14
   go_upto_region 1 with fail
   go_quiet (fail)
   generalize hwd : w.drewN _ = wd
   have hgd : G w wd := by rw [← hwd]; exact (G.refl _).drewN _
   clear hwd c0 c1 c2 f2
   have hr2 := hr.out.g hgd
   have c1 := hr2.c1
   have f1 := hr2.free 1
   have h3 := hr2.at (p + 1)
   have hbut := (But.of_g hgd).trans (but_set wd R 1 (.int .i64 ((p + 1 : Nat) : Int)))
   have ep : ((p + 1 : Nat) : Int) = (p : Int) + 1 := by omega
   rw [ep] at h3 hbut
   have k0 := h3.c0
   have k1 := h3.c1
   rw [ep] at k1
   obtain ⟨bb, o, hA, hbB, hcell⟩ := h3.2.get (k := p) hx
   have cb := hcell 0 _ rfl
   simp only [Nat.mul_one, Nat.add_zero] at cb
   subst hA
   have hw1 : IntKind.i64.wrap ((p : Int) + 1) = (p : Int) + 1 := IntWalk.i64_in _ (by omega)
   have hw2 : IntKind.i64.wrap ((p : Int) + 1 - 1) = (p : Int) := by rw [IntWalk.i64_in _ (by omega)]; omega
   have hp0 : (0 : Int) ≤ (p : Int) := by omega
   replace hr2 := Lib.hid hr2
   replace h3 := Lib.hid h3
   replace hbut := Lib.hid hbut
   replace hcell := Lib.hid hcell
   clear hr
   go_upto_region 5 with fail
   go_quiet (fail)
   generalize hwd : World.drewN _ _ = we
   have hge : G (wd.setCell ⟨R, 1, none⟩ (.int .i64 ((p : Int) + 1))) we := by rw [← hwd]; exact (G.refl _).drewN _
   clear hwd
   go_wp2_with fail
   go_ret
   have h4 := h3.out.g hge
   exact ⟨rfl, ⟨p + 1, by omega, (fun _ h => by cases h; rfl), h4⟩, hbut.out.g hge⟩
  ·have hdr : l0.drop p = [] := List.drop_of_length_le hge
   rw [hdr]
   show Calls _ _ _ _ (RdPost _ _ _ _ _ _ (.int .i64 0) none)
   have n1 : ((l0.length : Int) ≤ (p : Int)) := by omega
   have d1 : decide ((l0.length : Int) ≤ (p : Int)) = true := decide_eq_true n1
   clear hb2 hbut2
   replace hr := Lib.hid hr
   go_enter Tryz.func14, Tryz.ntmps14
   go_upto_region 1 with fail
   go_quiet (fail)
   generalize hwd : w.drewN _ = wd
   have hgd : G w wd := by rw [← hwd]; exact (G.refl _).drewN _
   clear hwd
   have hr2 := hr.out.g hgd
   have f2' := hr2.free 2
   have c2w := hr2.c2
   have hend2 := hr2.bad true
   have hbut3 := (But.of_g hgd).trans (but_set wd R 2 (.bool true))
   replace hr2 := Lib.hid hr2
   replace hend2 := Lib.hid hend2
   replace hbut3 := Lib.hid hbut3
   go_wp2_with fail
   go_ret
   exact ⟨rfl, ⟨p, hp, (fun _ h => by cases h), hend2.out⟩, hbut3.out⟩
end Go.Proofs.YthafeaclpcjjbaaGreatDoor
/- The document's reading of a record: what it reads of what was written. Plain mathematics. No condition. -/
namespace Go.Proofs.YthafeaclpcjjbaaGreatDoor
open Go.RowKit
def dY3 (f : Fl) (p : RecP) : Reader RecP := if f.yes = true then rb dByte fun v => rp { p with yes := decide (v = 1) } else rp p
def dY8 (f : Fl) (p : RecP) : Reader RecP := if f.nodes = true then rb (dCount 1000) fun n => rb (dMany cR n) fun ns => rp { p with nodes := ofN ns } else rp p
def dY9 (f : Fl) (p : RecP) : Reader RecP := if f.sms = true then rb (dCount 1000) fun n => rb (dMany dStream n) fun ss => rp { p with sms := ss } else rp p
def dDocF (f : Fl) (p : RecP) : Reader RecP := rb (rb (rb (rb (rb (rb (rb (rb (rb (rp p) (dH1 f)) (dH2 f)) (dY3 f)) (dH4 f)) (dH5 f)) (dH6 f)) (dH7 f)) (dY8 f)) (dY9 f)
section
variable {q : List UInt8} {p : RecP} {f : Fl}
theorem dY3_w {b : Bool} : dY3 f p (pc f.yes [if b = true then 1 else 0] ++ q) = some ({ p with yes := if f.yes = true then b else p.yes }, q) := by
 unfold dY3 pc
 cases hf : f.yes with
 | false => rfl
 | true =>
  rw [if_pos rfl, if_pos rfl, rb_some (dByte_flag b q)]
  cases b <;> rfl
theorem dY8_w {ns : List Int} (h : f.nodes = true → ns.length ≤ 1000 ∧ ∀ x ∈ ns, 0 ≤ x ∧ x ≤ 1125899906842624) : dY8 f p (pc f.nodes (vL ns.length ++ nLs ns) ++ q) = some ({ p with nodes := if f.nodes = true then ns else p.nodes }, q) := by
 unfold dY8 pc
 cases hf : f.nodes with
 | false => rfl
 | true =>
  obtain ⟨h1, h2⟩ := h hf
  have e1 : nLs ns = (ns.map Int.toNat).flatMap vL := by unfold nLs; rw [List.flatMap_map]; rfl
  have e2 := dMany_w (d := cR) (f := vL) (ns.map Int.toNat) (fun x hx q => by
   obtain ⟨y, hy, rfl⟩ := List.mem_map.1 hx
   have := h2 y hy
   exact dCount_v (by omega) (by omega) q) q
  rw [List.length_map] at e2
  rw [if_pos rfl, if_pos rfl, List.append_assoc, rb_some (dCount_v (v := ns.length) (m := 1000) (by omega) (by omega) _), e1, rb_some e2, ofN_toNat h2]
  rfl
theorem dY9_w {ss : List Sm} (h : f.sms = true → ss.length ≤ 1000 ∧ ∀ s ∈ ss, smOk s = true ∧ s.name.size < 2 ^ 64 ∧ s.evs.length < 2 ^ 64 ∧ s.keys.length < 2 ^ 64 ∧ ∀ k ∈ s.keys, k.key.size < 2 ^ 64) : dY9 f p (pc f.sms (vL ss.length ++ ss.flatMap smL) ++ q) = some ({ p with sms := if f.sms = true then ss else p.sms }, q) := by
 unfold dY9 pc
 cases hf : f.sms with
 | false => rfl
 | true =>
  obtain ⟨h1, h2⟩ := h hf
  have e2 := dMany_w (d := dStream) (f := smL) ss (fun s hs q => dStream_w (h2 s hs).1 (h2 s hs).2.1 (h2 s hs).2.2.1 (h2 s hs).2.2.2.1 (h2 s hs).2.2.2.2 q) q
  rw [if_pos rfl, if_pos rfl, List.append_assoc, rb_some (dCount_v (v := ss.length) (m := 1000) (by omega) (by omega) _), rb_some e2]
  rfl
end
theorem dDocF_w {r : RecP} (hc : chkR r = true) (hf : r.Fits) (q : List UInt8) : dDocF (flOf r.kind) (p0 r.kind) (bodyF (flOf r.kind) r ++ q) = some (r, q) := by
 unfold chkR restR at hc
 simp only [Bool.and_eq_true, decide_eq_true_eq, Bool.or_eq_true, Bool.not_eq_true'] at hc
 obtain ⟨hk, hs, h1, h2, h3, h4, h5, h6⟩ := hc
 have hi : ∀ x ∈ [r.n, r.dst, r.x1, r.x2, r.x3, r.r1, r.r2, r.r3, r.r4] ++ r.nodes, 0 ≤ x ∧ x ≤ 1125899906842624 := fun x hx => by
  have := List.all_eq_true.1 h4 x hx
  exact of_decide_eq_true this
 have hb : (flOf r.kind).bat = true → chkN r.key r.ps = 0 := fun h => by
  rcases h6 with h6 | h6
  ·rw [h] at h6; cases h6
  ·exact h6
 unfold bodyF
 simp only [List.append_assoc]
 unfold spareB at hs
 simp only [Bool.and_eq_true, Bool.or_eq_true, decide_eq_true_eq, Bool.not_eq_true'] at hs
 obtain ⟨⟨⟨⟨⟨⟨⟨⟨s1, s2⟩, s3⟩, s4⟩, s5⟩, s6⟩, s7⟩, s8⟩, s9⟩ := hs
 obtain ⟨kind, n, dst, yes, st, x1, x2, x3, nodes, key, ps, r1, r2, r3, r4, sms⟩ := r
 dsimp only at *
 generalize flOf kind = f at *
 have i1 := hi n (by simp)
 have i2 := hi dst (by simp)
 have i3 := hi x1 (by simp)
 have i4 := hi x2 (by simp)
 have i5 := hi x3 (by simp)
 have i6 := hi r1 (by simp)
 have i7 := hi r2 (by simp)
 have i8 := hi r3 (by simp)
 have i9 := hi r4 (by simp)
 have e1 : (if f.n = true then n else 0) = n := by
  rcases s1 with h | h <;> simp [h]
 have e2 : (if f.dst = true then dst else 0) = dst := by
  rcases s2 with h | h <;> simp [h]
 have e3 : (if f.yes = true then yes else false) = yes := by
  rcases s3 with h | h <;> simp [h]
 have e4 : (if f.st = true then st else ⟨0, 0, 0⟩) = st := by
  rcases s4 with h | h <;> simp [h]
 have e5 : (if f.tx = true then x1 else 0) = x1 ∧ (if f.tx = true then x2 else 0) = x2 ∧ (if f.tx = true then x3 else 0) = x3 := by
  rcases s5 with h | h <;> simp [h]
 have e6 : (if f.span = true then r1 else 0) = r1 ∧ (if f.span = true then r2 else 0) = r2 ∧ (if f.span = true then r3 else 0) = r3 ∧ (if f.span = true then r4 else 0) = r4 := by
  rcases s6 with h | h <;> simp [h]
 have e7 : (if f.nodes = true then nodes else []) = nodes := by
  rcases s7 with h | h <;> simp [h]
 have e8 : (if f.sms = true then sms else []) = sms := by
  rcases s8 with h | h
  ·simp [h]
  ·rw [List.eq_nil_of_length_eq_zero h]; simp
 have e9 : (if f.bat = true then key else ByteArray.empty) = key ∧ (if f.bat = true then ps else []) = ps := by
  rcases s9 with h | h
  ·simp [h]
  ·rw [h.1, List.eq_nil_of_length_eq_zero h.2]; simp
 unfold p0
 have c1 := dH1_w (f := f) (p := ⟨kind, 0, 0, false, ⟨0, 0, 0⟩, 0, 0, 0, [], ByteArray.empty, [], 0, 0, 0, 0, []⟩) (n := n) (q := pc f.tx (nLs [x1, x2, x3]) ++ (pc f.yes [if yes = true then 1 else 0] ++ (pc f.bat (batL key ps) ++ (pc f.span (nLs [r1, r2, r3, r4]) ++ (pc f.dst (nL dst) ++ (pc f.st (stL st) ++ (pc f.nodes (vL nodes.length ++ nLs nodes) ++ (pc f.sms (vL sms.length ++ sms.flatMap smL) ++ q)))))))) fun _ => i1
 dsimp only at c1
 rw [e1] at c1
 have c2 := (rb_some (k := dH2 f) c1).trans (dH2_w fun _ => ⟨i3, i4, i5⟩)
 dsimp only at c2
 rw [e5.1, e5.2.1, e5.2.2] at c2
 have c3 := (rb_some (k := dY3 f) c2).trans dY3_w
 dsimp only at c3
 rw [e3] at c3
 have c4 := (rb_some (k := dH4 f) c3).trans (dH4_w fun h => ⟨hb h, hf.1.1, hf.1.2⟩)
 dsimp only at c4
 rw [e9.1, e9.2] at c4
 have c5 := (rb_some (k := dH5 f) c4).trans (dH5_w fun _ => ⟨i6, i7, i8, i9⟩)
 dsimp only at c5
 rw [e6.1, e6.2.1, e6.2.2.1, e6.2.2.2] at c5
 have c6 := (rb_some (k := dH6 f) c5).trans (dH6_w fun _ => i2)
 dsimp only at c6
 rw [e2] at c6
 have c7 := (rb_some (k := dH7 f) c6).trans (dH7_w fun _ => h1)
 dsimp only at c7
 rw [e4] at c7
 have c8 := (rb_some (k := dY8 f) c7).trans (dY8_w (ns := nodes) fun _ => ⟨h2, fun x hx => hi x (List.mem_append.2 (.inr hx))⟩)
 dsimp only at c8
 rw [e7] at c8
 have c9 := (rb_some (k := dY9 f) c8).trans (dY9_w (ss := sms) (q := q) fun _ => ⟨h3, fun s hs => ⟨smL_okB (List.all_eq_true.1 h5 s hs), hf.2 s hs⟩⟩)
 dsimp only at c9
 rw [e8] at c9
 exact c9
section
variable {M : Nat} {k : Int}
theorem goodY3 (f : Fl) {p : RecP} (h : PFine M k p) : Good M k (dY3 f p) := good_if (fun _ => good_bind eats_byte.less (fun _ => True) (fun _ _ _ _ _ => trivial) fun _ _ => good_rp { h with }) (good_rp h)
theorem goodY8 (f : Fl) {p : RecP} (h : PFine M k p) : Good M k (dY8 f p) := good_if (fun _ => good_bind (eats_count 1000).less (fun _ => True) (fun _ _ _ _ _ => trivial) fun n _ => good_bind (Less.many (eats_count _) n) (fun ns => ns.length ≤ M ∧ ∀ v ∈ ns, v ≤ 1125899906842624) (fun l ns r hl he => by
  have h1 := dMany_len (eats_count _) n l ns r he
  exact ⟨by omega, dMany_all (P := (· ≤ 1125899906842624)) (L := M) (eats_count _).less (fun l x r _ h => (dCount_num h).2) n l ns r hl he⟩) fun ns hns => good_rp { h with nodes := ofN_in hns.2, nodesL := by simpa [ofN] using hns.1 }) (good_rp h)
theorem goodY9 (f : Fl) {p : RecP} (h : PFine M k p) : Good M k (dY9 f p) := good_if (fun _ => good_bind (eats_count 1000).less (fun _ => True) (fun _ _ _ _ _ => trivial) fun n _ => good_bind (Less.many eats_stream n) (fun ss => ss.length ≤ M ∧ ∀ s ∈ ss, (smL s).length ≤ M) (fun l ns r hl he => by
  have h1 := dMany_len eats_stream n l ns r he
  exact ⟨by omega, dMany_all (P := fun s => (smL s).length ≤ M) (L := M) eats_stream.less (fun l x r hl h => by
   have h2 := congrArg List.length (cn_stream l x r h)
   rw [List.length_append] at h2
   omega) n l ns r hl he⟩) fun ns hns => good_rp { h with smsL := hns.1, sms := hns.2 }) (good_rp h)
theorem good_docF (f : Fl) : Good M k (dDocF f (p0 k)) := good_seq (good_seq (good_seq (good_seq (good_seq (good_seq (good_seq (good_seq (good_seq (good_rp (pfine0 M k)) fun _ h => good1 _ h) fun _ h => good2 _ h) fun _ h => goodY3 _ h) fun _ h => good4 _ h) fun _ h => good5 _ h) fun _ h => good6 _ h) fun _ h => good7 _ h) fun _ h => goodY8 _ h) fun _ h => goodY9 _ h
end
/-- What the document reads of bytes that are a record. -/
theorem doc_reads {b : UInt8} {q : List UInt8} {p : RecP} (h : decR (b :: q) = some p) (hf : p.Fits) : dDocF (flOf b.toNat) (p0 b.toNat) q = some (p, []) := by
 obtain ⟨hc, he⟩ := decR_canon h
 have hk := chk_kind hc
 rw [docR_body p hk] at he
 obtain ⟨rfl, rfl⟩ := List.cons.inj he
 have h1 := dDocF_w hc hf []
 rw [List.append_nil] at h1
 rw [kind_byte hk]
 exact h1
end Go.Proofs.YthafeaclpcjjbaaGreatDoor
/- How the document's reading of a record stands. No condition. -/
namespace Go.Proofs.YthafeaclpcjjbaaGreatDoor
open Go.RowKit
section
variable {α β γ : Type}
theorem rb_assoc (d : Reader α) (k : α → Reader β) (k' : β → Reader γ) : rb (rb d k) k' = rb d fun x => rb (k x) k' := by
 funext l
 cases h : d l with
 | none => rw [rb_none (rb_none h), rb_none h]
 | some y =>
  obtain ⟨x, r⟩ := y
  have e1 : rb d k l = k x r := rb_some h
  have e2 : rb d (fun x => rb (k x) k') l = rb (k x) k' r := rb_some h
  rw [e2]
  cases h2 : k x r with
  | none => rw [rb_none (e1.trans h2), rb_none h2]
  | some z =>
   obtain ⟨y, r2⟩ := z
   rw [rb_some (e1.trans h2), rb_some h2]
theorem rb_ret (x : α) (k : α → Reader β) : rb (rp x) k = k x := by
 funext l
 exact rb_some rfl
theorem Gives.to {d : Reader α} {st st1 : Option (List UInt8)} {x y : α} (h : Gives d st st1 x) (he : x = y) : Gives d st st1 y := he ▸ h
theorem Gives.d3 {m : Nat} {st st1 : Option (List UInt8)} {a b c : Nat} (g : Nat → Nat → Nat → α) (h : Gives (d3 m) st st1 (a, b, c)) : Gives (rb (dCount m) fun a => rb (dCount m) fun b => rb (dCount m) fun c => rp (g a b c)) st st1 (g a b c) := by
 have h1 := h.map (f := fun x : Nat × Nat × Nat => g x.1 x.2.1 x.2.2)
 unfold Go.Proofs.YthafeaclpcjjbaaGreatDoor.d3 at h1
 simp only [rb_assoc, rb_ret] at h1
 exact h1
theorem Gives.d4 {m : Nat} {st st1 : Option (List UInt8)} {a b c d : Nat} (g : Nat → Nat → Nat → Nat → α) (h : Gives (d4 m) st st1 (a, b, c, d)) : Gives (rb (dCount m) fun a => rb (dCount m) fun b => rb (dCount m) fun c => rb (dCount m) fun d => rp (g a b c d)) st st1 (g a b c d) := by
 have h1 := h.map (f := fun x : Nat × Nat × Nat × Nat => g x.1 x.2.1 x.2.2.1 x.2.2.2)
 unfold Go.Proofs.YthafeaclpcjjbaaGreatDoor.d4 at h1
 simp only [rb_assoc, rb_ret] at h1
 exact h1
theorem Gives.dI {m : Nat} {st st1 : Option (List UInt8)} {ns : List Nat} (g : List Nat → α) (h : Gives (dInts m) st st1 ns) : Gives (rb (dCount 1000) fun n => rb (dMany (dCount m) n) fun ns => rp (g ns)) st st1 (g ns) := by
 have h1 := h.map (f := g)
 unfold dInts at h1
 simp only [rb_assoc] at h1
 exact h1
theorem Gives.dS {st st1 : Option (List UInt8)} {ss : List Sm} (g : List Sm → α) (h : Gives dStrs st st1 ss) : Gives (rb (dCount 1000) fun n => rb (dMany dStream n) fun ss => rp (g ss)) st st1 (g ss) := by
 have h1 := h.map (f := g)
 unfold dStrs at h1
 simp only [rb_assoc] at h1
 exact h1
end
section
variable {X base : Nat} {r : RecM} {w w' : World}
/-- .. with other lists. -/
theorem RcSt.setN (h : RcSt X base r w) (hb : But (fun k => k = X) w w') {A' : Option Addr} {c' : Nat} {zs : List Int} (ho : OwnL 3 1 intC w' base (.slice A' zs.length c') zs)
  (hblk : w'.heap[X]? = some (.cells (RecM.cells { r with An := A', cn := c', nodes := zs }) 36 (0, 0))) : RcSt X base { r with An := A', cn := c', nodes := zs } w' := by
 obtain ⟨_, h2, h3⟩ := h.own hb
 exact ⟨hblk, ho, h2, h3, h.key, h.psz, h.smz⟩
theorem RcSt.setS (h : RcSt X base r w) (hb : But (fun k => k = X) w w') {A' : Option Addr} {c' : Nat} {ss : List SmM} (ho : SmsOwn base A' c' ss w') (hz : ∀ s ∈ ss, SmSmall s.name s.es s.ks)
  (hblk : w'.heap[X]? = some (.cells (RecM.cells { r with As := A', cs := c', sms := ss }) 36 (0, 0))) : RcSt X base { r with As := A', cs := c', sms := ss } w' := by
 obtain ⟨h1, h2, _⟩ := h.own hb
 exact ⟨hblk, h1, h2, ho, h.key, h.psz, hz⟩
end
/-- How it stands. -/
structure DkSt (R X E Z : Nat) (A : Option Addr) (c8 : Nat) (l0 : List UInt8) (W : World) (d : Reader RecP) (st0 : Option (List UInt8)) (r : RecM) (st : Option (List UInt8)) (wx : World) : Prop where
 rd : RdS 59 R A c8 l0 st wx
 rc : RcSt X (X + 1) r wx
 eb : wx.heap[E]? = some (.cells #[.pointer (some ⟨R, 0, none⟩)] 61 (0, 0))
 zb : wx.heap[Z]? = some (.cells zR.cells 36 (0, 0))
 gv : Gives d st0 st r.p
 g : G W wx
 lt : Z < R ∧ R < E ∧ E < X ∧ W.heap.size ≤ Z
section
variable {R X E Z : Nat} {A : Option Addr} {c8 : Nat} {l0 : List UInt8} {W wx wy wz : World} {d : Reader RecP} {k : RecP → Reader RecP} {st0 st st1 : Option (List UInt8)} {r r' : RecM}
theorem DkSt.call (h : DkSt R X E Z A c8 l0 W d st0 r st wx) (hb : But (fun k => k = R) wx wy) : RcSt X (X + 1) r wy := h.rc.but hb (by
 rintro k rfl
 exact ⟨by have := h.lt; omega, fun cs t hc => by
  rw [h.rd.tyAt hc]
  decide⟩)
theorem DkSt.skip (h : DkSt R X E Z A c8 l0 W d st0 r st wx) (hk : k r.p = rp r.p) : DkSt R X E Z A c8 l0 W (rb d k) st0 r st wx := ⟨h.rd, h.rc, h.eb, h.zb, h.gv.bind (by rw [hk]; exact Gives.ret _), h.g, h.lt⟩
theorem DkSt.store (h : DkSt R X E Z A c8 l0 W d st0 r st wx) (hr : RdS 59 R A c8 l0 st1 wy) (hb : But (fun k => k = R) wx wy) (hb4 : But (fun k => k = X) wy wz) (hrc : RcSt X (X + 1) r' wz) (hg : Gives (k r.p) st st1 r'.p) : DkSt R X E Z A c8 l0 W (rb d k) st0 r' st1 wz := by
 obtain ⟨h1, h2, h3, h4⟩ := h.lt
 exact ⟨hr.but hb4 (fun k hk e => by omega), hrc, hb4.blk (hb.blk h.eb (by omega)) (by omega), hb4.blk (hb.blk h.zb (by omega)) (by omega), h.gv.bind hg, (h.g.gOf' hb (by rintro k rfl; omega)).gOf' hb4 (by rintro k rfl; omega), h.lt⟩
theorem DkSt.ptr (h : DkSt R X E Z A c8 l0 W d st0 r st wx) : wx.cell? ⟨E, 0, none⟩ = some (.pointer (some ⟨R, 0, none⟩)) := (blk_cell h.eb 0).trans rfl
end
def DkEx (R X E Z : Nat) (A : Option Addr) (c8 : Nat) (l0 : List UInt8) (W : World) (d : Reader RecP) (st0 : Option (List UInt8)) (wx : World) : Prop := ∃ r st, DkSt R X E Z A c8 l0 W d st0 r st wx
end Go.Proofs.YthafeaclpcjjbaaGreatDoor

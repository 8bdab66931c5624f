/- Several texts in one: RecCodeLaw, BatSmall, CutLaw, RecDecLaw. -/
import Derived.Test.YthafeaclpcjjbaaGreatDoorM27RecDecodes
import Derived.Test.YthafeaclpcjjbaaGreatDoorM15RecDecodes
import Derived.Test.YthafeaclpcjjbaaGreatDoorMayQRecDecodes
import Derived.Test.YthafeaclpcjjbaaGreatDoorBatEncQRecDecodes
import Derived.Test.YthafeaclpcjjbaaGreatDoorM26RecDecodes
import Derived.Test.YthafeaclpcjjbaaGreatDoorM31RecDecodes
/- Records: the document's check and its bytes are the program's. Plain mathematics. No condition. -/
namespace Go.Proofs.YthafeaclpcjjbaaGreatDoor
open Go.RowKit
/-- Some bytes, where they may be. -/
def opt (b : Bool) (l : List UInt8) : Option (List UInt8) := if b = true then some l else none
theorem addNs_opt (lim : Int) (ns : List Int) (b : Bool) (l : List UInt8) : addNs lim ns (opt b l) = opt (b && okIs lim ns) (l ++ nLs ns) := by
 cases b
 ·rfl
 ·cases h : okIs lim ns <;> simp [opt, addNs, h]
theorem addB_opt (x : List UInt8) (b : Bool) (l : List UInt8) : addB x (opt b l) = opt (b && decide (x ≠ [])) (l ++ x) := by
 cases b
 ·rfl
 ·by_cases h : x = [] <;> simp [opt, addB, h]
theorem addMany_opt (lim : Int) (hlim : 1000 ≤ lim) (k : Nat) (b : Bool) (l : List UInt8) : addMany lim k (opt b l) = opt (b && decide (k ≤ 1000)) (l ++ vL k) := by
 cases b
 ·rfl
 ·by_cases h : k ≤ 1000
  ·have h1 : okIs lim [(k : Int)] = true := by simp [okIs, okI]; omega
   simp [opt, addMany, addNs, h, h1, nLs, nL]
  ·simp [opt, addMany, h]
theorem addSms_opt : ∀ (sms : List Sm) (b : Bool) (l : List UInt8), addSms sms (opt b l) = opt (b && sms.all fun m => decide (smL m ≠ [])) (l ++ sms.flatMap smL)
 | [], b, l => by simp [addSms]
 | m :: sms, b, l => by
  have h := addSms_opt sms (b && decide (smL m ≠ [])) (l ++ smL m)
  rw [addSms, addB_opt, h]
  simp [Bool.and_assoc]
theorem map_opt (x : List UInt8) (b : Bool) (l : List UInt8) : (opt b l).map (fun l => l ++ x) = opt b (l ++ x) := by cases b <;> rfl
theorem opt_one (l : List UInt8) : some l = opt true l := rfl
/-- What the document asks besides. -/
def restR (r : RecP) : Bool :=
 stOk r.st && (decide (r.nodes.length ≤ 1000) && (decide (r.sms.length ≤ 1000) && (okIs 1125899906842624 ([r.n, r.dst, r.x1, r.x2, r.x3, r.r1, r.r2, r.r3, r.r4] ++ r.nodes) && ((r.sms.all fun m => decide (smL m ≠ [])) && (!(flOf r.kind).bat || decide (chkN r.key r.ps = 0))))))
def chkR (r : RecP) : Bool := fOk r.kind && (spareB r (flOf r.kind) && restR r)
/-- The document's bytes. -/
def docR (r : RecP) : List UInt8 :=
 let k := [UInt8.ofNat r.kind.toNat]
 if r.kind = 1 ∨ r.kind = 2 ∨ r.kind = 8 then k ++ nL r.n
 else if r.kind = 3 then (k ++ batL r.key r.ps) ++ stL r.st
 else if r.kind = 4 then ((k ++ nLs [r.x1, r.x2, r.x3]) ++ batL r.key r.ps) ++ stL r.st
 else if r.kind = 5 then ((k ++ nLs [r.x1, r.x2, r.x3]) ++ [if r.yes = true then 1 else 0]) ++ stL r.st
 else if r.kind = 6 then ((((k ++ nLs [r.x1, r.x2, r.x3]) ++ [if r.yes = true then 1 else 0]) ++ stL r.st) ++ vL r.nodes.length) ++ nLs r.nodes
 else if r.kind = 7 then k ++ nLs [r.x1, r.x2, r.x3]
 else if r.kind = 9 then (k ++ nLs [r.r1, r.r2, r.r3, r.r4]) ++ nL r.dst
 else if r.kind = 10 then (((k ++ nLs [r.r1, r.r2, r.r3, r.r4]) ++ stL r.st) ++ vL r.sms.length) ++ r.sms.flatMap smL
 else k ++ nLs [r.r1, r.r2, r.r3, r.r4]
theorem stE_ne (s : St) : decide (stE s ≠ []) = stOk s := by
 cases h : stOk s
 ·simp [stE_no h]
 ·rw [stE_ok h]
  have : stL s ≠ [] := by
   intro h2
   have := congrArg List.length h2
   unfold stL at this
   rw [List.length_append] at this
   have h3 := vL_pos s.wall.toNat
   rw [List.length_nil] at this
   omega
  simp [this]
theorem stOk_zero : stOk ⟨0, 0, 0⟩ = true := by decide
theorem batL_ne (key : ByteArray) (ps : List PutP) : decide (batL key ps ≠ []) = decide (chkN key ps = 0) := by
 rw [decide_eq_decide]
 constructor
 ·intro h
  by_cases h2 : chkN key ps = 0
  ·exact h2
  ·exact absurd (batL_no h2) h
 ·intro h h2
  rw [batL_ok h] at h2
  have := batBytes_pos key ps
  rw [h2] at this
  simp at this
theorem okI_zero : okI 1125899906842624 0 = true := by decide
theorem okIs_cons (lim n : Int) (l : List Int) : okIs lim (n :: l) = (okI lim n && okIs lim l) := rfl
theorem okIs_nil (lim : Int) : okIs lim [] = true := rfl
theorem nLs_one (n : Int) : nLs [n] = nL n := by simp [nLs]
theorem opt_eq {b b' : Bool} {l l' : List UInt8} (hb : b = b') (hl : b = true → l = l') : opt b l = opt b' l' := by
 subst hb
 cases b
 ·rfl
 ·rw [hl rfl]
theorem fl1 : flOf 1 = { n := true } := by rfl
theorem fl2 : flOf 2 = { n := true } := by rfl
theorem fl8 : flOf 8 = { n := true } := by rfl
theorem fl3 : flOf 3 = { bat := true, st := true } := by rfl
theorem fl4 : flOf 4 = { tx := true, bat := true, st := true } := by rfl
theorem fl5 : flOf 5 = { tx := true, yes := true, st := true } := by rfl
theorem fl6 : flOf 6 = { tx := true, yes := true, st := true, nodes := true } := by rfl
theorem fl7 : flOf 7 = { tx := true } := by rfl
theorem fl9 : flOf 9 = { span := true, dst := true } := by rfl
theorem fl10 : flOf 10 = { span := true, st := true, sms := true } := by rfl
theorem fl11 : flOf 11 = { span := true } := by rfl
set_option maxHeartbeats 4000000 in
theorem encR_eq (r : RecP) : encR r = opt (chkR r) (docR r) := by
 obtain ⟨kind, n, dst, yes, st, x1, x2, x3, nodes, key, ps, r1, r2, r3, r4, sms⟩ := r
 unfold encR chkR
 by_cases hk : fOk kind = true
 ·by_cases hs : spareB ⟨kind, n, dst, yes, st, x1, x2, x3, nodes, key, ps, r1, r2, r3, r4, sms⟩ (flOf kind) = true
  ·rw [if_pos ⟨hk, hs⟩]
   simp only [hk, hs, Bool.true_and]
   rcases kind_cases kind with rfl | rfl | rfl | rfl | rfl | rfl | rfl | rfl | rfl | rfl | rfl | h
   all_goals first
    | (rw [hk] at h; cases h)
    | (simp only [fl1, fl2, fl3, fl4, fl5, fl6, fl7, fl8, fl9, fl10, fl11, spareB, Bool.false_or, Bool.true_or, Bool.true_and, Bool.and_true, Bool.and_eq_true, decide_eq_true_eq, Bool.not_eq_true', List.length_eq_zero_iff] at hs
       simp only [headS, listsS, fl1, fl2, fl3, fl4, fl5, fl6, fl7, fl8, fl9, fl10, fl11, Bool.false_eq_true, if_false, if_true, opt_one, addNs_opt, addB_opt, map_opt, addMany_opt 1125899906842624 (by decide), addSms_opt, stE_ne, batL_ne, restR]
       refine opt_eq ?_ ?_
       ·simp [hs, okIs_cons, okIs_nil, okI_zero, stOk_zero]
        try ac_rfl
       ·intro hb
        simp at hb
        simp [docR, nLs_one, hb, stE_ok]
       )
  ·rw [if_neg (fun h => hs h.2)]
   simp [Bool.eq_false_iff.2 hs, opt]
 ·rw [if_neg (fun h => hk h.1)]
  simp [Bool.eq_false_iff.2 hk, opt]
end Go.Proofs.YthafeaclpcjjbaaGreatDoor
/- What a small bulk says of a batch. Plain mathematics, no program. No condition. -/
namespace Go.Proofs.YthafeaclpcjjbaaGreatDoor
open Go.RowKit
end Go.Proofs.YthafeaclpcjjbaaGreatDoor
/- A first part of bytes: what readers say of it, how it is cut; what the small bulks say of the written bytes' lengths. No condition. -/
namespace Go.Proofs.YthafeaclpcjjbaaGreatDoor
open Go.RowKit
/-! How long what is written may be. -/
end Go.Proofs.YthafeaclpcjjbaaGreatDoor
/- Records that are read: what is read is what was written, and no more. Plain mathematics. No condition. -/
namespace Go.Proofs.YthafeaclpcjjbaaGreatDoor
open Go.RowKit
def p0 (k : Int) : RecP := ⟨k, 0, 0, false, ⟨0, 0, 0⟩, 0, 0, 0, [], ByteArray.empty, [], 0, 0, 0, 0, []⟩
def dRecB (k : Int) : Reader RecP := rb (dHead (flOf k) (p0 k)) (dLists (flOf k))
/-- Bytes as a record; none: they are none. -/
def decR (l : List UInt8) : Option RecP :=
 match l with
 | [] => none
 | b :: q => match dRecB b.toNat q with
  | some (p, []) => if fOk b.toNat = true ∧ chkR p = true then some p else none
  | _ => none
/-- What a record that was read keeps. -/
structure PFine (M : Nat) (k : Int) (p : RecP) : Prop where
 kind : p.kind = k
 n : 0 ≤ p.n ∧ p.n ≤ 1125899906842624
 dst : 0 ≤ p.dst ∧ p.dst ≤ 1125899906842624
 x1 : 0 ≤ p.x1 ∧ p.x1 ≤ 1125899906842624
 x2 : 0 ≤ p.x2 ∧ p.x2 ≤ 1125899906842624
 x3 : 0 ≤ p.x3 ∧ p.x3 ≤ 1125899906842624
 z1 : 0 ≤ p.r1 ∧ p.r1 ≤ 1125899906842624
 z2 : 0 ≤ p.r2 ∧ p.r2 ≤ 1125899906842624
 z3 : 0 ≤ p.r3 ∧ p.r3 ≤ 1125899906842624
 z4 : 0 ≤ p.r4 ∧ p.r4 ≤ 1125899906842624
 nodes : ∀ x ∈ p.nodes, 0 ≤ x ∧ x ≤ 1125899906842624
 nodesL : p.nodes.length ≤ M
 bat : (batL p.key p.ps).length ≤ M
 smsL : p.sms.length ≤ M
 sms : ∀ s ∈ p.sms, (smL s).length ≤ M
theorem batL_zero : batL ByteArray.empty [] = [] := batL_no (by decide)
theorem pfine0 (M : Nat) (k : Int) : PFine M k (p0 k) := by
 refine ⟨rfl, ?_, ?_, ?_, ?_, ?_, ?_, ?_, ?_, ?_, ?_, ?_, ?_, ?_, ?_⟩
 all_goals first
  | (simp [p0]; done)
  | (show (batL ByteArray.empty []).length ≤ M; rw [batL_zero]; simp)
def Good (M : Nat) (k : Int) (d : Reader RecP) : Prop := ∀ l p q, l.length ≤ M → d l = some (p, q) → PFine M k p ∧ q.length ≤ M
section
variable {M : Nat} {k : Int} {α : Type}
theorem good_rp {p : RecP} (h : PFine M k p) : Good M k (rp p) := fun l p' q hl he => by
 obtain ⟨rfl, rfl⟩ := rp_inv he
 exact ⟨h, hl⟩
theorem good_bind {d : Reader α} {kk : α → Reader RecP} (hd : Less d) (P : α → Prop) (hp : ∀ l x r, l.length ≤ M → d l = some (x, r) → P x) (h : ∀ x, P x → Good M k (kk x)) : Good M k (rb d kk) := fun l p q hl he => by
 obtain ⟨x, r, h1, h2⟩ := rb_inv he
 have h3 := hd l x r h1
 exact h x (hp l x r hl h1) r p q (by omega) h2
theorem good_num {kk : Nat → Reader RecP} (h : ∀ v : Nat, v ≤ 1125899906842624 → Good M k (kk v)) : Good M k (rb cR kk) := good_bind (eats_count _).less (· ≤ 1125899906842624) (fun _ _ _ _ h => (dCount_num h).2) h
theorem good_seq {d : Reader RecP} {kk : RecP → Reader RecP} (hd : Good M k d) (h : ∀ p, PFine M k p → Good M k (kk p)) : Good M k (rb d kk) := fun l p q hl he => by
 obtain ⟨x, r, h1, h2⟩ := rb_inv he
 have h3 := hd l x r hl h1
 exact h x h3.1 r p q h3.2 h2
theorem good_if {b : Bool} {d d' : Reader RecP} (h : b = true → Good M k d) (h' : Good M k d') : Good M k (if b = true then d else d') := by
 cases b
 ·exact h'
 ·exact h rfl
theorem good1 (f : Fl) {p : RecP} (h : PFine M k p) : Good M k (dH1 f p) := good_if (fun _ => good_num fun v hv => good_rp { h with n := ⟨by simp, by simp; omega⟩ }) (good_rp h)
theorem good2 (f : Fl) {p : RecP} (h : PFine M k p) : Good M k (dH2 f p) := good_if (fun _ => good_num fun a ha => good_num fun b hb => good_num fun c hc => good_rp { h with x1 := ⟨by simp, by simp; omega⟩, x2 := ⟨by simp, by simp; omega⟩, x3 := ⟨by simp, by simp; omega⟩ }) (good_rp h)
theorem good3 (f : Fl) {p : RecP} (h : PFine M k p) : Good M k (dH3 f p) := good_if (fun _ => good_bind (eats_count _).less (fun _ => True) (fun _ _ _ _ _ => trivial) fun _ _ => good_rp { h with }) (good_rp h)
theorem good4 (f : Fl) {p : RecP} (h : PFine M k p) : Good M k (dH4 f p) := good_if (fun _ => good_bind eats_batch.less (fun b => (batL b.1 b.2).length ≤ M) (fun l x r hl he => by
  have h1 := congrArg List.length (cn_batch (key := x.1) (ps := x.2) he)
  rw [List.length_append] at h1
  omega) fun v hv => good_rp { h with bat := hv }) (good_rp h)
theorem good5 (f : Fl) {p : RecP} (h : PFine M k p) : Good M k (dH5 f p) := good_if (fun _ => good_num fun a ha => good_num fun b hb => good_num fun c hc => good_num fun d hd => good_rp { h with z1 := ⟨by simp, by simp; omega⟩, z2 := ⟨by simp, by simp; omega⟩, z3 := ⟨by simp, by simp; omega⟩, z4 := ⟨by simp, by simp; omega⟩ }) (good_rp h)
theorem good6 (f : Fl) {p : RecP} (h : PFine M k p) : Good M k (dH6 f p) := good_if (fun _ => good_num fun v hv => good_rp { h with dst := ⟨by simp, by simp; omega⟩ }) (good_rp h)
theorem good7 (f : Fl) {p : RecP} (h : PFine M k p) : Good M k (dH7 f p) := good_if (fun _ => good_bind eats_stamp.less (fun _ => True) (fun _ _ _ _ _ => trivial) fun _ _ => good_rp { h with }) (good_rp h)
theorem ofN_in {ns : List Nat} (h : ∀ v ∈ ns, v ≤ 1125899906842624) : ∀ x ∈ ofN ns, 0 ≤ x ∧ x ≤ 1125899906842624 := fun x hx => by
 obtain ⟨v, hv, rfl⟩ := List.mem_map.1 hx
 have := h v hv
 exact ⟨by omega, by omega⟩
theorem good8 (f : Fl) {p : RecP} (h : PFine M k p) : Good M k (dL1 f p) := good_if (fun _ => good_num fun n _ => good_bind (Less.many (eats_count _) n) (fun ns => ns.length ≤ M ∧ ∀ v ∈ ns, v ≤ 1125899906842624) (fun l ns r hl he => by
  have h1 := dMany_len (eats_count _) n l ns r he
  exact ⟨by omega, dMany_all (P := (· ≤ 1125899906842624)) (L := M) (eats_count _).less (fun l x r _ h => (dCount_num h).2) n l ns r hl he⟩) fun ns hns => good_rp { h with nodes := ofN_in hns.2, nodesL := by simpa [ofN] using hns.1 }) (good_rp h)
theorem good9 (f : Fl) {p : RecP} (h : PFine M k p) : Good M k (dL2 f p) := good_if (fun _ => good_num fun n _ => good_bind (Less.many eats_stream n) (fun ss => ss.length ≤ M ∧ ∀ s ∈ ss, (smL s).length ≤ M) (fun l ns r hl he => by
  have h1 := dMany_len eats_stream n l ns r he
  exact ⟨by omega, dMany_all (P := fun s => (smL s).length ≤ M) (L := M) eats_stream.less (fun l x r hl h => by
   have h2 := congrArg List.length (cn_stream l x r h)
   rw [List.length_append] at h2
   omega) n l ns r hl he⟩) fun ns hns => good_rp { h with smsL := hns.1, sms := hns.2 }) (good_rp h)
theorem good_rec (M : Nat) (k : Int) : Good M k (dRecB k) := by
 unfold dRecB dHead dLists
 exact good_seq (good_seq (good_seq (good_seq (good_seq (good_seq (good_seq (good1 _ (pfine0 M k)) fun p h => good2 _ h) fun p h => good3 _ h) fun p h => good4 _ h) fun p h => good5 _ h) fun p h => good6 _ h) fun p h => good7 _ h) fun p h => good_seq (good8 _ h) fun p h => good9 _ h
end
/-- A piece that is there where a flag says so. -/
def pc (b : Bool) (x : List UInt8) : List UInt8 := if b = true then x else []
/-- A record's bytes behind its kind, by the flags. -/
def bodyF (f : Fl) (r : RecP) : List UInt8 :=
 pc f.n (nL r.n) ++ (pc f.tx (nLs [r.x1, r.x2, r.x3]) ++ (pc f.yes [if r.yes = true then 1 else 0] ++ (pc f.bat (batL r.key r.ps) ++ (pc f.span (nLs [r.r1, r.r2, r.r3, r.r4]) ++ (pc f.dst (nL r.dst) ++ (pc f.st (stL r.st) ++ (pc f.nodes (vL r.nodes.length ++ nLs r.nodes) ++ pc f.sms (vL r.sms.length ++ r.sms.flatMap smL))))))))
theorem docR_body (r : RecP) (hk : fOk r.kind = true) : docR r = UInt8.ofNat r.kind.toNat :: bodyF (flOf r.kind) r := by
 obtain ⟨kind, n, dst, yes, st, x1, x2, x3, nodes, key, ps, r1, r2, r3, r4, sms⟩ := r
 rcases kind_cases kind with rfl | rfl | rfl | rfl | rfl | rfl | rfl | rfl | rfl | rfl | rfl | h
 all_goals first
  | (dsimp only at hk; rw [hk] at h; cases h)
  | (dsimp only
     simp only [fl1, fl2, fl3, fl4, fl5, fl6, fl7, fl8, fl9, fl10, fl11]
     simp [docR, bodyF, pc, List.append_assoc])
section
variable {q : List UInt8} {p : RecP} {f : Fl}
theorem cR_w {n : Int} (h : 0 ≤ n ∧ n ≤ 1125899906842624) (q : List UInt8) : cR (nL n ++ q) = some (n.toNat, q) := dCount_v (by omega) (by omega) q
theorem toNat_in {n : Int} (h : 0 ≤ n ∧ n ≤ 1125899906842624) : (n.toNat : Int) = n := by omega
theorem dH1_w {n : Int} (h : f.n = true → 0 ≤ n ∧ n ≤ 1125899906842624) : dH1 f p (pc f.n (nL n) ++ q) = some ({ p with n := if f.n = true then n else p.n }, q) := by
 unfold dH1 pc
 cases hf : f.n with
 | false => rfl
 | true =>
  rw [if_pos rfl, if_pos rfl, rb_some (cR_w (h hf) q), toNat_in (h hf)]
  rfl
theorem dH6_w {n : Int} (h : f.dst = true → 0 ≤ n ∧ n ≤ 1125899906842624) : dH6 f p (pc f.dst (nL n) ++ q) = some ({ p with dst := if f.dst = true then n else p.dst }, q) := by
 unfold dH6 pc
 cases hf : f.dst with
 | false => rfl
 | true =>
  rw [if_pos rfl, if_pos rfl, rb_some (cR_w (h hf) q), toNat_in (h hf)]
  rfl
theorem dH2_w {a b c : Int} (h : f.tx = true → (0 ≤ a ∧ a ≤ 1125899906842624) ∧ (0 ≤ b ∧ b ≤ 1125899906842624) ∧ (0 ≤ c ∧ c ≤ 1125899906842624)) : dH2 f p (pc f.tx (nLs [a, b, c]) ++ q) = some ({ p with x1 := if f.tx = true then a else p.x1, x2 := if f.tx = true then b else p.x2, x3 := if f.tx = true then c else p.x3 }, q) := by
 unfold dH2 pc
 cases hf : f.tx with
 | false => rfl
 | true =>
  obtain ⟨h1, h2, h3⟩ := h hf
  rw [if_pos rfl, if_pos rfl, show nLs [a, b, c] ++ q = nL a ++ (nL b ++ (nL c ++ q)) from by simp [nLs, List.append_assoc], rb_some (cR_w h1 _), rb_some (cR_w h2 _), rb_some (cR_w h3 _), toNat_in h1, toNat_in h2, toNat_in h3]
  rfl
theorem dH5_w {a b c d : Int} (h : f.span = true → (0 ≤ a ∧ a ≤ 1125899906842624) ∧ (0 ≤ b ∧ b ≤ 1125899906842624) ∧ (0 ≤ c ∧ c ≤ 1125899906842624) ∧ (0 ≤ d ∧ d ≤ 1125899906842624)) : dH5 f p (pc f.span (nLs [a, b, c, d]) ++ q) = some ({ p with r1 := if f.span = true then a else p.r1, r2 := if f.span = true then b else p.r2, r3 := if f.span = true then c else p.r3, r4 := if f.span = true then d else p.r4 }, q) := by
 unfold dH5 pc
 cases hf : f.span with
 | false => rfl
 | true =>
  obtain ⟨h1, h2, h3, h4⟩ := h hf
  rw [if_pos rfl, if_pos rfl, show nLs [a, b, c, d] ++ q = nL a ++ (nL b ++ (nL c ++ (nL d ++ q))) from by simp [nLs, List.append_assoc], rb_some (cR_w h1 _), rb_some (cR_w h2 _), rb_some (cR_w h3 _), rb_some (cR_w h4 _), toNat_in h1, toNat_in h2, toNat_in h3, toNat_in h4]
  rfl
theorem flag_one (b : Bool) (q : List UInt8) : dCount 1 ([if b = true then 1 else 0] ++ q) = some (if b = true then 1 else 0, q) := by
 cases b
 ·exact dCount_v (v := 0) (m := 1) (by decide) (by omega) q
 ·exact dCount_v (v := 1) (m := 1) (by decide) (by omega) q
theorem dH3_w {b : Bool} : dH3 f p (pc f.yes [if b = true then 1 else 0] ++ q) = some ({ p with yes := if f.yes = true then b else p.yes }, q) := by
 unfold dH3 pc
 cases hf : f.yes with
 | false => rfl
 | true =>
  rw [if_pos rfl, if_pos rfl, rb_some (flag_one b q)]
  cases b <;> rfl
theorem dH4_w {key : ByteArray} {ps : List PutP} (h : f.bat = true → chkN key ps = 0 ∧ key.size < 2 ^ 64 ∧ ∀ p ∈ ps, p.stream.size < 2 ^ 64 ∧ ∀ d ∈ p.data, d.size < 2 ^ 64) : dH4 f p (pc f.bat (batL key ps) ++ q) = some ({ p with key := if f.bat = true then key else p.key, ps := if f.bat = true then ps else p.ps }, q) := by
 unfold dH4 pc
 cases hf : f.bat with
 | false => rfl
 | true =>
  obtain ⟨h1, h2, h3⟩ := h hf
  rw [if_pos rfl, if_pos rfl, rb_some (dBatch_w h1 h2 h3 q)]
  rfl
theorem dH7_w {s : St} (h : f.st = true → stOk s = true) : dH7 f p (pc f.st (stL s) ++ q) = some ({ p with st := if f.st = true then s else p.st }, q) := by
 unfold dH7 pc
 cases hf : f.st with
 | false => rfl
 | true =>
  rw [if_pos rfl, if_pos rfl, rb_some (dStamp_w (h hf) q)]
  rfl
theorem ofN_toNat {ns : List Int} (h : ∀ x ∈ ns, 0 ≤ x ∧ x ≤ 1125899906842624) : ofN (ns.map Int.toNat) = ns := by
 unfold ofN
 rw [List.map_map]
 conv => rhs; rw [← List.map_id ns]
 exact List.map_congr_left fun x hx => toNat_in (h x hx)
theorem dL1_w {ns : List Int} (h : f.nodes = true → ns.length ≤ 1000 ∧ ∀ x ∈ ns, 0 ≤ x ∧ x ≤ 1125899906842624) : dL1 f p (pc f.nodes (vL ns.length ++ nLs ns) ++ q) = some ({ p with nodes := if f.nodes = true then ns else p.nodes }, q) := by
 unfold dL1 pc
 cases hf : f.nodes with
 | false => rfl
 | true =>
  obtain ⟨h1, h2⟩ := h hf
  have e1 : nLs ns = (ns.map Int.toNat).flatMap vL := by unfold nLs; rw [List.flatMap_map]; rfl
  have e2 := dMany_w (d := cR) (f := vL) (ns.map Int.toNat) (fun x hx q => by
   obtain ⟨y, hy, rfl⟩ := List.mem_map.1 hx
   have := h2 y hy
   exact dCount_v (by omega) (by omega) q) q
  rw [List.length_map] at e2
  rw [if_pos rfl, if_pos rfl, List.append_assoc, rb_some (dCount_v (v := ns.length) (m := 1125899906842624) (by omega) (by omega) _), e1, rb_some e2, ofN_toNat h2]
  rfl
theorem dL2_w {ss : List Sm} (h : f.sms = true → ss.length ≤ 1000 ∧ ∀ s ∈ ss, smOk s = true ∧ s.name.size < 2 ^ 64 ∧ s.evs.length < 2 ^ 64 ∧ s.keys.length < 2 ^ 64 ∧ ∀ k ∈ s.keys, k.key.size < 2 ^ 64) : dL2 f p (pc f.sms (vL ss.length ++ ss.flatMap smL) ++ q) = some ({ p with sms := if f.sms = true then ss else p.sms }, q) := by
 unfold dL2 pc
 cases hf : f.sms with
 | false => rfl
 | true =>
  obtain ⟨h1, h2⟩ := h hf
  have e2 := dMany_w (d := dStream) (f := smL) ss (fun s hs q => dStream_w (h2 s hs).1 (h2 s hs).2.1 (h2 s hs).2.2.1 (h2 s hs).2.2.2.1 (h2 s hs).2.2.2.2 q) q
  rw [if_pos rfl, if_pos rfl, List.append_assoc, rb_some (dCount_v (v := ss.length) (m := 1125899906842624) (by omega) (by omega) _), rb_some e2]
  rfl
end
/-- Sizes that a record bears which is written and read again. -/
def RecP.Fits (r : RecP) : Prop := (r.key.size < 2 ^ 64 ∧ ∀ p ∈ r.ps, p.stream.size < 2 ^ 64 ∧ ∀ d ∈ p.data, d.size < 2 ^ 64) ∧ ∀ s ∈ r.sms, s.name.size < 2 ^ 64 ∧ s.evs.length < 2 ^ 64 ∧ s.keys.length < 2 ^ 64 ∧ ∀ k ∈ s.keys, k.key.size < 2 ^ 64
theorem smL_okB {s : Sm} (h : decide (smL s ≠ []) = true) : smOk s = true := by
 cases hs : smOk s with
 | true => rfl
 | false => rw [smL_no hs] at h; simp at h
theorem dRecB_w {r : RecP} (hc : chkR r = true) (hf : r.Fits) (q : List UInt8) : dRecB r.kind (bodyF (flOf r.kind) r ++ q) = some (r, q) := by
 unfold chkR restR at hc
 simp only [Bool.and_eq_true, decide_eq_true_eq, Bool.or_eq_true, Bool.not_eq_true'] at hc
 obtain ⟨hk, hs, h1, h2, h3, h4, h5, h6⟩ := hc
 have hi : ∀ x ∈ [r.n, r.dst, r.x1, r.x2, r.x3, r.r1, r.r2, r.r3, r.r4] ++ r.nodes, 0 ≤ x ∧ x ≤ 1125899906842624 := fun x hx => by
  have := List.all_eq_true.1 h4 x hx
  exact of_decide_eq_true this
 have hb : (flOf r.kind).bat = true → chkN r.key r.ps = 0 := fun h => by
  rcases h6 with h6 | h6
  ·rw [h] at h6; cases h6
  ·exact h6
 unfold bodyF
 simp only [List.append_assoc]
 unfold spareB at hs
 simp only [Bool.and_eq_true, Bool.or_eq_true, decide_eq_true_eq, Bool.not_eq_true'] at hs
 obtain ⟨⟨⟨⟨⟨⟨⟨⟨s1, s2⟩, s3⟩, s4⟩, s5⟩, s6⟩, s7⟩, s8⟩, s9⟩ := hs
 obtain ⟨kind, n, dst, yes, st, x1, x2, x3, nodes, key, ps, r1, r2, r3, r4, sms⟩ := r
 dsimp only at *
 unfold dRecB
 generalize flOf kind = f at *
 have i1 := hi n (by simp)
 have i2 := hi dst (by simp)
 have i3 := hi x1 (by simp)
 have i4 := hi x2 (by simp)
 have i5 := hi x3 (by simp)
 have i6 := hi r1 (by simp)
 have i7 := hi r2 (by simp)
 have i8 := hi r3 (by simp)
 have i9 := hi r4 (by simp)
 have e1 : (if f.n = true then n else 0) = n := by
  rcases s1 with h | h <;> simp [h]
 have e2 : (if f.dst = true then dst else 0) = dst := by
  rcases s2 with h | h <;> simp [h]
 have e3 : (if f.yes = true then yes else false) = yes := by
  rcases s3 with h | h <;> simp [h]
 have e4 : (if f.st = true then st else ⟨0, 0, 0⟩) = st := by
  rcases s4 with h | h <;> simp [h]
 have e5 : (if f.tx = true then x1 else 0) = x1 ∧ (if f.tx = true then x2 else 0) = x2 ∧ (if f.tx = true then x3 else 0) = x3 := by
  rcases s5 with h | h <;> simp [h]
 have e6 : (if f.span = true then r1 else 0) = r1 ∧ (if f.span = true then r2 else 0) = r2 ∧ (if f.span = true then r3 else 0) = r3 ∧ (if f.span = true then r4 else 0) = r4 := by
  rcases s6 with h | h <;> simp [h]
 have e7 : (if f.nodes = true then nodes else []) = nodes := by
  rcases s7 with h | h <;> simp [h]
 have e8 : (if f.sms = true then sms else []) = sms := by
  rcases s8 with h | h
  ·simp [h]
  ·rw [List.eq_nil_of_length_eq_zero h]; simp
 have e9 : (if f.bat = true then key else ByteArray.empty) = key ∧ (if f.bat = true then ps else []) = ps := by
  rcases s9 with h | h
  ·simp [h]
  ·rw [h.1, List.eq_nil_of_length_eq_zero h.2]; simp
 unfold p0
 have c1 := dH1_w (f := f) (p := ⟨kind, 0, 0, false, ⟨0, 0, 0⟩, 0, 0, 0, [], ByteArray.empty, [], 0, 0, 0, 0, []⟩) (n := n) (q := pc f.tx (nLs [x1, x2, x3]) ++ (pc f.yes [if yes = true then 1 else 0] ++ (pc f.bat (batL key ps) ++ (pc f.span (nLs [r1, r2, r3, r4]) ++ (pc f.dst (nL dst) ++ (pc f.st (stL st) ++ (pc f.nodes (vL nodes.length ++ nLs nodes) ++ (pc f.sms (vL sms.length ++ sms.flatMap smL) ++ q)))))))) fun _ => i1
 dsimp only at c1
 rw [e1] at c1
 have c2 := (rb_some (k := dH2 f) c1).trans (dH2_w fun _ => ⟨i3, i4, i5⟩)
 dsimp only at c2
 rw [e5.1, e5.2.1, e5.2.2] at c2
 have c3 := (rb_some (k := dH3 f) c2).trans dH3_w
 dsimp only at c3
 rw [e3] at c3
 have c4 := (rb_some (k := dH4 f) c3).trans (dH4_w fun h => ⟨hb h, hf.1.1, hf.1.2⟩)
 dsimp only at c4
 rw [e9.1, e9.2] at c4
 have c5 := (rb_some (k := dH5 f) c4).trans (dH5_w fun _ => ⟨i6, i7, i8, i9⟩)
 dsimp only at c5
 rw [e6.1, e6.2.1, e6.2.2.1, e6.2.2.2] at c5
 have c6 := (rb_some (k := dH6 f) c5).trans (dH6_w fun _ => i2)
 dsimp only at c6
 rw [e2] at c6
 have c7 := (rb_some (k := dH7 f) c6).trans (dH7_w fun _ => h1)
 dsimp only at c7
 rw [e4] at c7
 have c8 := dL1_w (f := f) (p := ⟨kind, n, dst, yes, st, x1, x2, x3, [], key, ps, r1, r2, r3, r4, []⟩) (q := pc f.sms (vL sms.length ++ sms.flatMap smL) ++ q) fun _ => ⟨h2, fun x hx => hi x (List.mem_append.2 (.inr hx))⟩
 dsimp only at c8
 rw [e7] at c8
 have c9 := (rb_some (k := dL2 f) c8).trans (dL2_w fun _ => ⟨h3, fun s hs => ⟨smL_okB (List.all_eq_true.1 h5 s hs), hf.2 s hs⟩⟩)
 dsimp only at c9
 rw [e8] at c9
 have hd : dHead f ⟨kind, 0, 0, false, ⟨0, 0, 0⟩, 0, 0, 0, [], ByteArray.empty, [], 0, 0, 0, 0, []⟩ _ = some (_, _) := c7
 rw [rb_some hd]
 exact c9
end Go.Proofs.YthafeaclpcjjbaaGreatDoor

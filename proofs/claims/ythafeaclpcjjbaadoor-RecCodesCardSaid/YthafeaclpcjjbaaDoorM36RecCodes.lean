/- Several texts in one: RecCodeLaw, RefChkA. -/
import Derived.Test.YthafeaclpcjjbaaDoorM14RecCodes
import Derived.Test.YthafeaclpcjjbaaDoorSameRecQRecCodes
import Derived.Test.YthafeaclpcjjbaaDoorRefOnlyQRecCodes
import Derived.Test.YthafeaclpcjjbaaDoorM34RecCodes
import Derived.Test.YthafeaclpcjjbaaDoorSameSmQRecCodes
/- Records: the document's check and its bytes are the program's. Plain mathematics. No condition. -/
namespace Go.Proofs.YthafeaclpcjjbaaDoor
open Go.RowKit

/-- Some bytes, where they may be. -/
def opt (b : Bool) (l : List UInt8) : Option (List UInt8) := if b = true then some l else none
theorem addNs_opt (lim : Int) (ns : List Int) (b : Bool) (l : List UInt8) : addNs lim ns (opt b l) = opt (b && okIs lim ns) (l ++ nLs ns) := by
  cases b
  · rfl
  · cases h : okIs lim ns <;> simp [opt, addNs, h]
theorem addB_opt (x : List UInt8) (b : Bool) (l : List UInt8) : addB x (opt b l) = opt (b && decide (x ≠ [])) (l ++ x) := by
  cases b
  · rfl
  · by_cases h : x = [] <;> simp [opt, addB, h]
theorem addMany_opt (lim : Int) (hlim : 1000 ≤ lim) (k : Nat) (b : Bool) (l : List UInt8) : addMany lim k (opt b l) = opt (b && decide (k ≤ 1000)) (l ++ vL k) := by
  cases b
  · rfl
  · by_cases h : k ≤ 1000
    · have h1 : okIs lim [(k : Int)] = true := by simp [okIs, okI]; omega
      simp [opt, addMany, addNs, h, h1, nLs, nL]
    · simp [opt, addMany, h]
theorem addSms_opt : ∀ (sms : List Sm) (b : Bool) (l : List UInt8), addSms sms (opt b l) = opt (b && sms.all fun m => decide (smL m ≠ [])) (l ++ sms.flatMap smL)
  | [], b, l => by simp [addSms]
  | m :: sms, b, l => by
    have h := addSms_opt sms (b && decide (smL m ≠ [])) (l ++ smL m)
    rw [addSms, addB_opt, h]
    simp [Bool.and_assoc]
theorem map_opt (x : List UInt8) (b : Bool) (l : List UInt8) : (opt b l).map (fun l => l ++ x) = opt b (l ++ x) := by cases b <;> rfl
theorem opt_one (l : List UInt8) : some l = opt true l := rfl
/-- What the document asks besides. -/
def restR (r : RecP) : Bool :=
  stOk r.st && (decide (r.nodes.length ≤ 1000) && (decide (r.sms.length ≤ 1000) && (okIs 1125899906842624 ([r.n, r.dst, r.x1, r.x2, r.x3, r.r1, r.r2, r.r3, r.r4] ++ r.nodes) && ((r.sms.all fun m => decide (smL m ≠ [])) && (!(flOf r.kind).bat || decide (chkN r.key r.ps = 0))))))
def chkR (r : RecP) : Bool := fOk r.kind && (spareB r (flOf r.kind) && restR r)
/-- The document's bytes. -/
def docR (r : RecP) : List UInt8 :=
  let k := [UInt8.ofNat r.kind.toNat]
  if r.kind = 1 ∨ r.kind = 2 ∨ r.kind = 8 then k ++ nL r.n
  else if r.kind = 3 then (k ++ batL r.key r.ps) ++ stL r.st
  else if r.kind = 4 then ((k ++ nLs [r.x1, r.x2, r.x3]) ++ batL r.key r.ps) ++ stL r.st
  else if r.kind = 5 then ((k ++ nLs [r.x1, r.x2, r.x3]) ++ [if r.yes = true then 1 else 0]) ++ stL r.st
  else if r.kind = 6 then ((((k ++ nLs [r.x1, r.x2, r.x3]) ++ [if r.yes = true then 1 else 0]) ++ stL r.st) ++ vL r.nodes.length) ++ nLs r.nodes
  else if r.kind = 7 then k ++ nLs [r.x1, r.x2, r.x3]
  else if r.kind = 9 then (k ++ nLs [r.r1, r.r2, r.r3, r.r4]) ++ nL r.dst
  else if r.kind = 10 then (((k ++ nLs [r.r1, r.r2, r.r3, r.r4]) ++ stL r.st) ++ vL r.sms.length) ++ r.sms.flatMap smL
  else k ++ nLs [r.r1, r.r2, r.r3, r.r4]
theorem stE_ne (s : St) : decide (stE s ≠ []) = stOk s := by
  cases h : stOk s
  · simp [stE_no h]
  · rw [stE_ok h]
    have : stL s ≠ [] := by
      intro h2
      have := congrArg List.length h2
      unfold stL at this
      rw [List.length_append] at this
      have h3 := vL_pos s.wall.toNat
      rw [List.length_nil] at this
      omega
    simp [this]
theorem stOk_zero : stOk ⟨0, 0, 0⟩ = true := by decide
theorem batL_ne (key : ByteArray) (ps : List PutP) : decide (batL key ps ≠ []) = decide (chkN key ps = 0) := by
  rw [decide_eq_decide]
  constructor
  · intro h
    by_cases h2 : chkN key ps = 0
    · exact h2
    · exact absurd (batL_no h2) h
  · intro h h2
    rw [batL_ok h] at h2
    have := batBytes_pos key ps
    rw [h2] at this
    simp at this
theorem okI_zero : okI 1125899906842624 0 = true := by decide
theorem okIs_cons (lim n : Int) (l : List Int) : okIs lim (n :: l) = (okI lim n && okIs lim l) := rfl
theorem okIs_nil (lim : Int) : okIs lim [] = true := rfl
theorem nLs_one (n : Int) : nLs [n] = nL n := by simp [nLs]
theorem opt_eq {b b' : Bool} {l l' : List UInt8} (hb : b = b') (hl : b = true → l = l') : opt b l = opt b' l' := by
  subst hb
  cases b
  · rfl
  · rw [hl rfl]
theorem stE_of {s : St} {b c : Bool} (h : (b && (stOk s && c)) = true) : stE s = stL s := stE_ok (by simp at h; exact h.2.1)
theorem fl1 : flOf 1 = { n := true } := by rfl
theorem fl2 : flOf 2 = { n := true } := by rfl
theorem fl8 : flOf 8 = { n := true } := by rfl
theorem fl3 : flOf 3 = { bat := true, st := true } := by rfl
theorem fl4 : flOf 4 = { tx := true, bat := true, st := true } := by rfl
theorem fl5 : flOf 5 = { tx := true, yes := true, st := true } := by rfl
theorem fl6 : flOf 6 = { tx := true, yes := true, st := true, nodes := true } := by rfl
theorem fl7 : flOf 7 = { tx := true } := by rfl
theorem fl9 : flOf 9 = { span := true, dst := true } := by rfl
theorem fl10 : flOf 10 = { span := true, st := true, sms := true } := by rfl
theorem fl11 : flOf 11 = { span := true } := by rfl
theorem batL_empty : chkN ByteArray.empty [] ≠ 0 := by decide
set_option maxHeartbeats 4000000 in
theorem encR_eq (r : RecP) : encR r = opt (chkR r) (docR r) := by
  obtain ⟨kind, n, dst, yes, st, x1, x2, x3, nodes, key, ps, r1, r2, r3, r4, sms⟩ := r
  unfold encR chkR
  by_cases hk : fOk kind = true
  · by_cases hs : spareB ⟨kind, n, dst, yes, st, x1, x2, x3, nodes, key, ps, r1, r2, r3, r4, sms⟩ (flOf kind) = true
    · rw [if_pos ⟨hk, hs⟩]
      simp only [hk, hs, Bool.true_and]
      rcases kind_cases kind with rfl | rfl | rfl | rfl | rfl | rfl | rfl | rfl | rfl | rfl | rfl | h
      all_goals first
        | (rw [hk] at h; cases h)
        | (simp only [fl1, fl2, fl3, fl4, fl5, fl6, fl7, fl8, fl9, fl10, fl11, spareB, Bool.false_or, Bool.true_or, Bool.true_and, Bool.and_true, Bool.and_eq_true, decide_eq_true_eq, Bool.not_eq_true', List.length_eq_zero_iff] at hs
           simp only [headS, listsS, fl1, fl2, fl3, fl4, fl5, fl6, fl7, fl8, fl9, fl10, fl11, Bool.false_eq_true, if_false, if_true, opt_one, addNs_opt, addB_opt, map_opt, addMany_opt 1125899906842624 (by decide), addSms_opt, stE_ne, batL_ne, restR]
           refine opt_eq ?_ ?_
           · simp [hs, okIs_cons, okIs_nil, okI_zero, stOk_zero]
             try ac_rfl
           · intro hb
             simp at hb
             simp [docR, nLs_one, hb, stE_ok]
           )
    · rw [if_neg (fun h => hs h.2)]
      simp [Bool.eq_false_iff.2 hs, opt]
  · rw [if_neg (fun h => hk h.1)]
    simp [Bool.eq_false_iff.2 hk, opt]
end Go.Proofs.YthafeaclpcjjbaaDoor
/- penstockref10.CheckRec: words for it, and whether a record with the fields that its kind names alone is itself. Conditions: lengths as told. -/
namespace Go.Proofs.YthafeaclpcjjbaaDoor
open Go.RowKit

/-- The load of a struct that is a block of its own, as an operation of a region that draws. -/
theorem exec_load {P : Program} {op : Oper} {ev : Operand → Value} {w : World} {ty : TypeId} {x : Operand} (ho : op.op = .load ty x) {p v : Value} (hx : ev x = p) (hl : (Instr.loadAt ty p).run P w = .ok v w) : (execOp ev op).run P w = .ok (.value v) w := by
  unfold execOp
  simp only [ho, hx, Sem.run_bind, Sem.run_pure, Result.andThen_ok, hl]
theorem SmsIn.more {w : World} {B B' : Nat} {A : Option Addr} {ss : List SmM} (h : SmsIn w B A ss) (hB : B ≤ B') : SmsIn w B' A ss := ⟨h.1.more hB, fun s hs => (h.2 s hs).more hB⟩
theorem only_any (r : RecM) (w : World) : Calls Tryd.prog 34 #[.agg r.cells] w fun e w' => e = .returned (.agg r.only.cells) ∧ G w w' := by
  rcases kind_cases r.kind with h | h | h | h | h | h | h | h | h | h | h | h
  · exact only1_any r h w
  · exact only2_any r h w
  · exact only3_any r h w
  · exact only4_any r h w
  · exact only5_any r h w
  · exact only6_any r h w
  · exact only7_any r h w
  · exact only8_any r h w
  · exact only9_any r h w
  · exact only10_any r h w
  · exact only11_any r h w
  · exact onlyN_any r h w
theorem if_eqB (b : Bool) (x : Int) : ((if b = true then x else 0) == x) = (b || decide (x = 0)) := by
  cases b
  · rw [Bool.eq_iff_iff]; simp; exact eq_comm
  · simp
theorem recB_only (r : RecM) (f : Fl) : recB (r.onlyF f) r (decide ((r.onlyF f).nodes = r.nodes)) (f.bat || decide (r.key = ByteArray.empty ∧ r.ps.length = 0)) (f.sms || decide (r.sms.length = 0)) = spareB r.p f := by
  obtain ⟨kind, n, dst, yes, ⟨a, b, c⟩, x1, x2, x3, An, cn, nodes, key, Ap, cp, ps, z1, z2, z3, z4, As, cs, sms⟩ := r
  obtain ⟨f0, f1, f2, f3, f4, f5, f6, f7, f8⟩ := f
  have e1 : ∀ y : Bool, ((if y = true then yes else false) == yes) = (y || !yes) := by intro y; cases y <;> cases yes <;> rfl
  have e2 : stB (if f3 = true then ⟨a, b, c⟩ else ⟨0, 0, 0⟩) ⟨a, b, c⟩ = (f3 || decide ((⟨a, b, c⟩ : St) = ⟨0, 0, 0⟩)) := by
    cases f3
    · show decide ((⟨0, 0, 0⟩ : St) = ⟨a, b, c⟩) = decide _
      rw [decide_eq_decide]
      exact eq_comm
    · simp [stB]
  have e3 : txB (if f4 = true then x1 else 0) (if f4 = true then x2 else 0) (if f4 = true then x3 else 0) x1 x2 x3 = (f4 || decide (x1 = 0 ∧ x2 = 0 ∧ x3 = 0)) := by
    cases f4
    · show decide (0 = x1 ∧ 0 = x2 ∧ 0 = x3) = decide _
      rw [decide_eq_decide]
      exact ⟨fun h => ⟨h.1.symm, h.2.1.symm, h.2.2.symm⟩, fun h => ⟨h.1.symm, h.2.1.symm, h.2.2.symm⟩⟩
    · simp [txB]
  have e4 : rgB (if f7 = true then z1 else 0) (if f7 = true then z2 else 0) (if f7 = true then z3 else 0) (if f7 = true then z4 else 0) z1 z2 z3 z4 = (f7 || decide (z1 = 0 ∧ z2 = 0 ∧ z3 = 0 ∧ z4 = 0)) := by
    cases f7
    · show decide (0 = z1 ∧ 0 = z2 ∧ 0 = z3 ∧ 0 = z4) = decide _
      rw [decide_eq_decide]
      exact ⟨fun h => ⟨h.1.symm, h.2.1.symm, h.2.2.1.symm, h.2.2.2.symm⟩, fun h => ⟨h.1.symm, h.2.1.symm, h.2.2.1.symm, h.2.2.2.symm⟩⟩
    · simp [rgB]
  have e5 : decide ((if f5 = true then nodes else []) = nodes) = (f5 || decide (nodes = [])) := by
    cases f5
    · show decide ([] = nodes) = decide _
      rw [decide_eq_decide]
      exact eq_comm
    · simp
  unfold recB spareB RecM.p RecM.onlyF
  simp only [if_eqB, e1, e2, e3, e4, e5, List.length_map, beq_self_eq_true, Bool.true_and]
  ac_rfl
theorem sameOnly_any (r : RecM) (w : World) (hin : r.In w) (hok : r.Small) : Calls Tryd.prog 18 #[.agg r.only.cells, .agg r.cells] w fun e w' => e = .returned (.bool (spareB r.p (flOf r.kind))) ∧ G w w' := by
  obtain ⟨hi1, hi2, hi3⟩ := hin
  unfold RecM.only
  generalize flOf r.kind = f
  rw [← recB_only]
  refine sameRec_any (r.onlyF f) r _ _ _ w (fun w' hg => ?_) (fun w' hg => ?_) (fun w' hg => ?_)
  · have h1 : Sl intC 1 w' w'.heap.size (r.onlyF f).An (r.onlyF f).nodes := by
      unfold RecM.onlyF
      cases f.nodes
      · exact Sl.nil
      · exact (hi1.g (Nat.le_refl _) hg).more hg.size
    have h2 : (r.onlyF f).nodes.length ≤ 1000000 := by
      have := hok.nodesL
      unfold RecM.onlyF
      cases f.nodes
      · simp
      · exact this
    exact sameInts_any _ _ _ _ _ _ _ _ w' (Nat.le_refl _) (Nat.le_refl _) (by omega) (by have := hok.nodesL; omega) h1 ((hi1.g (Nat.le_refl _) hg).more hg.size)
  · by_cases hb : f.bat = true
    · have e1 : (r.onlyF f).key = r.key := by unfold RecM.onlyF; simp [hb]
      have e2 : (r.onlyF f).Ap = r.Ap := by unfold RecM.onlyF; simp [hb]
      have e3 : (r.onlyF f).ps = r.ps := by unfold RecM.onlyF; simp [hb]
      have e4 : (r.onlyF f).cp = r.cp := by unfold RecM.onlyF; simp [hb]
      rw [e1, e2, e3, e4, hb, Bool.true_or]
      have h1 := PutsIn.more (hi2.g (Nat.le_refl _) hg) hg.size
      exact sameBatch_yes r.key r.ps r.ps r.Ap r.Ap r.cp r.cp w' h1 h1 rfl hok.ps
    · have e1 : (r.onlyF f).key = ByteArray.empty := by unfold RecM.onlyF; simp [hb]; rfl
      have e3 : (r.onlyF f).ps = [] := by unfold RecM.onlyF; simp [hb]
      have e5 : f.bat = false := by simpa using hb
      rw [e1, e3, e5, Bool.false_or]
      by_cases h0 : r.key = ByteArray.empty ∧ r.ps.length = 0
      · rw [decide_eq_true h0]
        have h2 : r.ps = [] := List.eq_nil_of_length_eq_zero h0.2
        rw [h0.1, h2]
        exact sameBatch_yes ByteArray.empty [] [] _ _ _ _ w' ⟨Sl.nil, by simp⟩ ⟨Sl.nil, by simp⟩ rfl ⟨by simp, by simp⟩
      · rw [decide_eq_false h0]
        refine sameBatch_no _ _ _ _ _ _ _ _ w' ?_
        by_cases h1 : r.key = ByteArray.empty
        · exact .inr fun e => h0 ⟨h1, e.symm⟩
        · exact .inl fun e => h1 e.symm
  · by_cases hb : f.sms = true
    · have e2 : (r.onlyF f).As = r.As := by unfold RecM.onlyF; simp [hb]
      have e3 : (r.onlyF f).sms = r.sms := by unfold RecM.onlyF; simp [hb]
      have e4 : (r.onlyF f).cs = r.cs := by unfold RecM.onlyF; simp [hb]
      rw [e2, e3, e4, hb, Bool.true_or]
      have h1 := SmsIn.more (hi3.g (Nat.le_refl _) hg) hg.size
      exact sameSms_yes r.sms r.sms r.As r.As r.cs r.cs w' h1 h1 rfl (by have := hok.smsL; omega) fun s hs => by
        have := (hok.sms s hs).1
        exact ⟨by have := this.2.1.1; omega, by have := this.2.2.1; omega⟩
    · have e3 : (r.onlyF f).sms = [] := by unfold RecM.onlyF; simp [hb]
      have e5 : f.sms = false := by simpa using hb
      rw [e3, e5, Bool.false_or]
      by_cases h0 : r.sms.length = 0
      · rw [decide_eq_true h0]
        have h2 : r.sms = [] := List.eq_nil_of_length_eq_zero h0
        rw [h2]
        exact sameSms_yes [] [] _ _ _ _ w' ⟨Sl.nil, by simp⟩ ⟨Sl.nil, by simp⟩ rfl (by simp) (by simp)
      · rw [decide_eq_false h0]
        exact sameSms_no _ _ _ _ _ _ w' fun e => h0 e.symm
end Go.Proofs.YthafeaclpcjjbaaDoor

/- Messages: what they are made of, how they are written; the document's check and its bytes are the program's. Plain mathematics. No condition. -/
import Derived.Test.YtheogchkelmeeaaDoorM16MsgAs
namespace Go.Proofs.YtheogchkelmeeaaDoor
open Go.RowKit

/-- A range. -/
structure Rg where
  a : Int
  b : Int
  c : Int
  d : Int
def Rg.cells (g : Rg) : List Value := [.int .i64 g.a, .int .i64 g.b, .int .i64 g.c, .int .i64 g.d]
theorem Rg.cells_len (g : Rg) : g.cells.length = 4 := rfl
/-- A message as plain data. -/
structure MsgP where
  kind : Int
  x1 : Int
  x2 : Int
  x3 : Int
  key : ByteArray
  ps : List PutP
  st : St
  code : Int
  firsts : List Int
  yes : Bool
  r1 : Int
  r2 : Int
  r3 : Int
  r4 : Int
  sms : List Sm
  src : Int
  total : Int
  es : List Ev
  rgs : List Rg
def mZero (k : Int) : MsgP := ⟨k, 0, 0, 0, ByteArray.empty, [], ⟨0, 0, 0⟩, 0, [], false, 0, 0, 0, 0, [], 0, 0, [], []⟩
def MsgP.only (m : MsgP) : MsgP :=
  if m.kind = 1 then { mZero 1 with x1 := m.x1, x2 := m.x2, x3 := m.x3, key := m.key, ps := m.ps, st := m.st }
  else if m.kind = 2 then { mZero 2 with x1 := m.x1, x2 := m.x2, x3 := m.x3, code := m.code, st := m.st, firsts := m.firsts }
  else if m.kind = 3 then { mZero 3 with x1 := m.x1, x2 := m.x2, x3 := m.x3, yes := m.yes, st := m.st }
  else if m.kind = 4 then { mZero 4 with x1 := m.x1, x2 := m.x2, x3 := m.x3 }
  else if m.kind = 5 then { mZero 5 with x1 := m.x1, x2 := m.x2, x3 := m.x3, st := m.st, firsts := m.firsts }
  else if m.kind = 6 then { mZero 6 with r1 := m.r1, r2 := m.r2, r3 := m.r3, r4 := m.r4, st := m.st, sms := m.sms }
  else if m.kind = 7 then { mZero 7 with r1 := m.r1, r2 := m.r2, r3 := m.r3, r4 := m.r4 }
  else if m.kind = 8 then { mZero 8 with src := m.src }
  else if m.kind = 9 then { mZero 9 with src := m.src, total := m.total, es := m.es, st := m.st, rgs := m.rgs }
  else mZero m.kind
def kOk (k : Int) : Bool := decide (1 ≤ k ∧ k ≤ 9)
theorem mkind_cases (k : Int) : k = 1 ∨ k = 2 ∨ k = 3 ∨ k = 4 ∨ k = 5 ∨ k = 6 ∨ k = 7 ∨ k = 8 ∨ k = 9 ∨ kOk k = false := by
  by_cases h : 1 ≤ k ∧ k ≤ 9
  · omega
  · simp [kOk, h]
/-- Events behind a writer's bytes. -/
def addEvs : List Ev → Option (List UInt8) → Option (List UInt8)
  | [], s => s
  | e :: l, s => addEvs l (addB (evL e) s)
theorem addEvs_none : ∀ l, addEvs l none = none
  | [] => rfl
  | _ :: l => addEvs_none l
theorem addEvs_drop {l : List Ev} {k : Nat} {m : Ev} (h : l[k]? = some m) (s : Option (List UInt8)) : addEvs (l.drop k) s = addEvs (l.drop (k + 1)) (addB (evL m) s) := by
  obtain ⟨hk, rfl⟩ := List.getElem?_eq_some_iff.1 h
  rw [List.drop_eq_getElem_cons hk]
  rfl
def rgNs (g : Rg) : List Int := [g.a, g.b, g.c, g.d]
/-- Ranges behind a writer's bytes. -/
def addRgs : List Rg → Option (List UInt8) → Option (List UInt8)
  | [], s => s
  | g :: l, s => addRgs l (addNs 1099511627776 (rgNs g) s)
theorem addRgs_none : ∀ l, addRgs l none = none
  | [] => rfl
  | _ :: l => addRgs_none l
theorem addRgs_drop {l : List Rg} {k : Nat} {m : Rg} (h : l[k]? = some m) (s : Option (List UInt8)) : addRgs (l.drop k) s = addRgs (l.drop (k + 1)) (addNs 1099511627776 (rgNs m) s) := by
  obtain ⟨hk, rfl⟩ := List.getElem?_eq_some_iff.1 h
  rw [List.drop_eq_getElem_cons hk]
  rfl
def addIf (b : Bool) (s : Option (List UInt8)) : Option (List UInt8) := if b = true then s else none
def addTx (m : MsgP) (s : Option (List UInt8)) : Option (List UInt8) := addNs 1099511627776 [m.x1, m.x2, m.x3] s
def addSpan (m : MsgP) (s : Option (List UInt8)) : Option (List UInt8) := addNs 1099511627776 [m.r1, m.r2, m.r3, m.r4] s
def addInts (l : List Int) (s : Option (List UInt8)) : Option (List UInt8) := addNs 1099511627776 l (addMany 1099511627776 l.length s)
def addFlag (b : Bool) (s : Option (List UInt8)) : Option (List UInt8) := s.map fun l => l ++ [if b = true then 1 else 0]
/-- A message's fields, behind a writer's bytes. -/
def fieldsM (m : MsgP) (s : Option (List UInt8)) : Option (List UInt8) :=
  if m.kind = 1 then addB (stE m.st) (addB (batL m.key m.ps) (addTx m s))
  else if m.kind = 2 then addInts m.firsts (addB (stE m.st) (addNs 1099511627776 [m.code] (addIf (decide (m.code ≤ 12)) (addTx m s))))
  else if m.kind = 3 then addB (stE m.st) (addFlag m.yes (addTx m s))
  else if m.kind = 4 then addTx m s
  else if m.kind = 5 then addInts m.firsts (addB (stE m.st) (addTx m s))
  else if m.kind = 6 then addSms m.sms (addMany 1099511627776 m.sms.length (addB (stE m.st) (addSpan m s)))
  else if m.kind = 7 then addSpan m s
  else if m.kind = 8 then addNs 1099511627776 [m.src] s
  else addRgs m.rgs (addMany 1099511627776 m.rgs.length (addB (stE m.st) (addEvs m.es (addMany 1099511627776 m.es.length (addNs 1099511627776 [m.src, m.total] s)))))
/-- A message as bytes; none: it is none. -/
def encM (m : MsgP) : Option (List UInt8) := if kOk m.kind = true then fieldsM m (some [UInt8.ofNat m.kind.toNat]) else none
def inB (l : List Int) : Bool := okIs 1099511627776 l && decide (l.length ≤ 1000)
def rgsB (l : List Rg) : Bool := (l.all fun g => inB (rgNs g)) && decide (l.length ≤ 1000)
/-- What the document asks. -/
def chkM (m : MsgP) : Bool :=
  kOk m.kind && ((((((((((inB [m.x1, m.x2, m.x3, m.src, m.total] && inB m.firsts) && decide (0 ≤ m.code)) && decide (m.code ≤ 12)) && stOk m.st) && rgsB m.rgs) && rgsB [⟨m.r1, m.r2, m.r3, m.r4⟩]) && decide (m.es.length ≤ 1000)) && decide (m.sms.length ≤ 1000)) && (m.es.all fun e => decide (evL e ≠ []))) && (m.sms.all fun s => decide (smL s ≠ []))) && (!decide (m.kind = 1) || decide (chkN m.key m.ps = 0))
/-- The document's bytes. -/
def docM (m : MsgP) : List UInt8 :=
  let k := [UInt8.ofNat m.kind.toNat]
  if m.kind = 1 then ((k ++ nLs [m.x1, m.x2, m.x3]) ++ batL m.key m.ps) ++ stL m.st
  else if m.kind = 2 then ((((k ++ nLs [m.x1, m.x2, m.x3]) ++ nL m.code) ++ stL m.st) ++ vL m.firsts.length) ++ nLs m.firsts
  else if m.kind = 3 then ((k ++ nLs [m.x1, m.x2, m.x3]) ++ [if m.yes = true then 1 else 0]) ++ stL m.st
  else if m.kind = 4 then k ++ nLs [m.x1, m.x2, m.x3]
  else if m.kind = 5 then (((k ++ nLs [m.x1, m.x2, m.x3]) ++ stL m.st) ++ vL m.firsts.length) ++ nLs m.firsts
  else if m.kind = 6 then (((k ++ nLs [m.r1, m.r2, m.r3, m.r4]) ++ stL m.st) ++ vL m.sms.length) ++ m.sms.flatMap smL
  else if m.kind = 7 then k ++ nLs [m.r1, m.r2, m.r3, m.r4]
  else if m.kind = 8 then k ++ nL m.src
  else (((((k ++ nLs [m.src, m.total]) ++ vL m.es.length) ++ m.es.flatMap evL) ++ stL m.st) ++ vL m.rgs.length) ++ m.rgs.flatMap fun g => nLs (rgNs g)
theorem addEvs_opt : ∀ (es : List Ev) (b : Bool) (l : List UInt8), addEvs es (opt b l) = opt (b && es.all fun m => decide (evL m ≠ [])) (l ++ es.flatMap evL)
  | [], b, l => by simp [addEvs]
  | m :: es, b, l => by
    have h := addEvs_opt es (b && decide (evL m ≠ [])) (l ++ evL m)
    rw [addEvs, addB_opt, h]
    simp [Bool.and_assoc]
theorem addRgs_opt : ∀ (gs : List Rg) (b : Bool) (l : List UInt8), addRgs gs (opt b l) = opt (b && gs.all fun g => okIs 1099511627776 (rgNs g)) (l ++ gs.flatMap fun g => nLs (rgNs g))
  | [], b, l => by simp [addRgs]
  | m :: gs, b, l => by
    have h := addRgs_opt gs (b && okIs 1099511627776 (rgNs m)) (l ++ nLs (rgNs m))
    rw [addRgs, addNs_opt, h]
    simp [Bool.and_assoc]
theorem addIf_opt (c b : Bool) (l : List UInt8) : addIf c (opt b l) = opt (b && c) l := by cases b <;> cases c <;> rfl
theorem addFlag_opt (c b : Bool) (l : List UInt8) : addFlag c (opt b l) = opt b (l ++ [if c = true then 1 else 0]) := by cases b <;> rfl
theorem inRg (g : Rg) : inB (rgNs g) = okIs 1099511627776 (rgNs g) := by simp [inB, rgNs]
theorem okF_zero : okI 1099511627776 0 = true := by decide
theorem okI_code {n : Int} : (decide (n ≤ 12) && okI 1099511627776 n) = (decide (0 ≤ n) && decide (n ≤ 12)) := by
  unfold okI
  by_cases h1 : 0 ≤ n <;> by_cases h2 : n ≤ 12 <;> simp [h1, h2] <;> omega
set_option maxHeartbeats 4000000 in
theorem encM_eq (m : MsgP) : encM m.only = opt (chkM m.only) (docM m.only) := by
  obtain ⟨kind, x1, x2, x3, key, ps, st, code, firsts, yes, r1, r2, r3, r4, sms, src, total, es, rgs⟩ := m
  rcases mkind_cases kind with rfl | rfl | rfl | rfl | rfl | rfl | rfl | rfl | rfl | h
  all_goals first
    | (have e : kOk kind = false := h
       have hk : ¬ (1 ≤ kind ∧ kind ≤ 9) := of_decide_eq_false e
       have h1 : (MsgP.only ⟨kind, x1, x2, x3, key, ps, st, code, firsts, yes, r1, r2, r3, r4, sms, src, total, es, rgs⟩).kind = kind := by
         unfold MsgP.only
         repeat rw [if_neg (by dsimp only; omega)]
         rfl
       unfold encM chkM
       rw [h1, e]
       rfl)
    | (simp only [MsgP.only, mZero, encM, fieldsM, kOk, addTx, addSpan, addInts, opt_one, addNs_opt, addB_opt, addFlag_opt, addIf_opt, addMany_opt 1099511627776 (by decide), addSms_opt, addEvs_opt, addRgs_opt, stE_ne, batL_ne, if_true, if_false, Int.reduceEq, Int.reduceLE, and_self, decide_true]
       refine opt_eq ?_ ?_
       · simp [chkM, kOk, inB, rgsB, okIs_cons, okIs_nil, okF_zero, stOk_zero, rgNs]
         first
           | done
           | ac_rfl
           | (rw [Bool.eq_iff_iff]
              simp only [Bool.and_eq_true, decide_eq_true_eq, show (okI 1099511627776 code = true) = (0 ≤ code ∧ code ≤ 1099511627776) from by simp [okI]]
              constructor <;> (intro h; simp only [h, and_self, and_true, true_and] <;> omega))
       · intro hb
         simp at hb
         simp [docM, nLs_one, hb, stE_ok])
end Go.Proofs.YtheogchkelmeeaaDoor

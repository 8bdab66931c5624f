/- Several texts in one: RecLaw, RecCodeLaw, MsgLaw. -/
import Derived.Test.YtheogchkelmeeaaDoorM10MsgCodes
import Derived.Test.YtheogchkelmeeaaDoorBatLawQMsgCodes
import Derived.Test.YtheogchkelmeeaaDoorStEncQMsgCodes
/- Records: what they are made of, which fields a kind names, how they are written. Plain mathematics. No condition. -/
namespace Go.Proofs.YtheogchkelmeeaaDoor
open Go.RowKit

/-- The fields that a kind names. -/
structure Fl where
  n : Bool := false
  dst : Bool := false
  yes : Bool := false
  st : Bool := false
  tx : Bool := false
  nodes : Bool := false
  bat : Bool := false
  span : Bool := false
  sms : Bool := false
def Fl.cells (f : Fl) : Array Value := #[.bool f.n, .bool f.dst, .bool f.yes, .bool f.st, .bool f.tx, .bool f.nodes, .bool f.bat, .bool f.span, .bool f.sms]
def flOf (k : Int) : Fl :=
  if k = 1 ∨ k = 2 ∨ k = 8 then { n := true } else if k = 3 then { bat := true, st := true } else if k = 4 then { tx := true, bat := true, st := true } else if k = 5 then { tx := true, yes := true, st := true }
  else if k = 6 then { tx := true, yes := true, st := true, nodes := true } else if k = 7 then { tx := true } else if k = 9 then { span := true, dst := true } else if k = 10 then { span := true, st := true, sms := true } else if k = 11 then { span := true } else {}
def fOk (k : Int) : Bool := decide (1 ≤ k ∧ k ≤ 11)
theorem kind_cases (k : Int) : k = 1 ∨ k = 2 ∨ k = 3 ∨ k = 4 ∨ k = 5 ∨ k = 6 ∨ k = 7 ∨ k = 8 ∨ k = 9 ∨ k = 10 ∨ k = 11 ∨ fOk k = false := by
  by_cases h : 1 ≤ k ∧ k ≤ 11
  · omega
  · simp [fOk, h]
theorem fOk_no {k : Int} (h : fOk k = false) : ¬ (1 ≤ k ∧ k ≤ 11) := of_decide_eq_false h
/-- A record as plain data. -/
structure RecP where
  kind : Int
  n : Int
  dst : Int
  yes : Bool
  st : St
  x1 : Int
  x2 : Int
  x3 : Int
  nodes : List Int
  key : ByteArray
  ps : List PutP
  r1 : Int
  r2 : Int
  r3 : Int
  r4 : Int
  sms : List Sm
/-- Are the fields zero that are not named? -/
def spareB (r : RecP) (f : Fl) : Bool :=
  (f.n || decide (r.n = 0)) && (f.dst || decide (r.dst = 0)) && (f.yes || !r.yes) && (f.st || decide (r.st = ⟨0, 0, 0⟩)) && (f.tx || decide (r.x1 = 0 ∧ r.x2 = 0 ∧ r.x3 = 0)) && (f.span || decide (r.r1 = 0 ∧ r.r2 = 0 ∧ r.r3 = 0 ∧ r.r4 = 0))
    && (f.nodes || decide (r.nodes = [])) && (f.sms || decide (r.sms.length = 0)) && (f.bat || decide (r.key = ByteArray.empty ∧ r.ps.length = 0))
def rLim : Int := 1125899906842624
/-- The fields that have no list, behind a writer's bytes. -/
def headS (r : RecP) (f : Fl) (s : Option (List UInt8)) : Option (List UInt8) :=
  let s := if f.n = true then addNs 1125899906842624 [r.n] s else s
  let s := if f.tx = true then addNs 1125899906842624 [r.x1, r.x2, r.x3] s else s
  let s := if f.yes = true then s.map (fun l => l ++ [if r.yes = true then 1 else 0]) else s
  let s := if f.bat = true then addB (batL r.key r.ps) s else s
  let s := if f.span = true then addNs 1125899906842624 [r.r1, r.r2, r.r3, r.r4] s else s
  let s := if f.dst = true then addNs 1125899906842624 [r.dst] s else s
  if f.st = true then addB (stE r.st) s else s
/-- Streams behind a writer's bytes. -/
def addSms : List Sm → Option (List UInt8) → Option (List UInt8)
  | [], s => s
  | m :: l, s => addSms l (addB (smL m) s)
theorem addSms_none : ∀ l, addSms l none = none
  | [] => rfl
  | _ :: l => addSms_none l
theorem addSms_drop {l : List Sm} {k : Nat} {m : Sm} (h : l[k]? = some m) (s : Option (List UInt8)) : addSms (l.drop k) s = addSms (l.drop (k + 1)) (addB (smL m) s) := by
  obtain ⟨hk, rfl⟩ := List.getElem?_eq_some_iff.1 h
  rw [List.drop_eq_getElem_cons hk]
  rfl
def listsS (r : RecP) (f : Fl) (s : Option (List UInt8)) : Option (List UInt8) :=
  let s := if f.nodes = true then addNs 1125899906842624 r.nodes (addMany 1125899906842624 r.nodes.length s) else s
  if f.sms = true then addSms r.sms (addMany 1125899906842624 r.sms.length s) else s
/-- A record as bytes; none: it is none. -/
def encR (r : RecP) : Option (List UInt8) :=
  if fOk r.kind = true ∧ spareB r (flOf r.kind) = true then listsS r (flOf r.kind) (headS r (flOf r.kind) (some [UInt8.ofNat r.kind.toNat])) else none
end Go.Proofs.YtheogchkelmeeaaDoor
/- Records: the document's check and its bytes are the program's. Plain mathematics. No condition. -/
namespace Go.Proofs.YtheogchkelmeeaaDoor
open Go.RowKit

/-- Some bytes, where they may be. -/
def opt (b : Bool) (l : List UInt8) : Option (List UInt8) := if b = true then some l else none
theorem addNs_opt (lim : Int) (ns : List Int) (b : Bool) (l : List UInt8) : addNs lim ns (opt b l) = opt (b && okIs lim ns) (l ++ nLs ns) := by
  cases b
  · rfl
  · cases h : okIs lim ns <;> simp [opt, addNs, h]
theorem addB_opt (x : List UInt8) (b : Bool) (l : List UInt8) : addB x (opt b l) = opt (b && decide (x ≠ [])) (l ++ x) := by
  cases b
  · rfl
  · by_cases h : x = [] <;> simp [opt, addB, h]
theorem addMany_opt (lim : Int) (hlim : 1000 ≤ lim) (k : Nat) (b : Bool) (l : List UInt8) : addMany lim k (opt b l) = opt (b && decide (k ≤ 1000)) (l ++ vL k) := by
  cases b
  · rfl
  · by_cases h : k ≤ 1000
    · have h1 : okIs lim [(k : Int)] = true := by simp [okIs, okI]; omega
      simp [opt, addMany, addNs, h, h1, nLs, nL]
    · simp [opt, addMany, h]
theorem addSms_opt : ∀ (sms : List Sm) (b : Bool) (l : List UInt8), addSms sms (opt b l) = opt (b && sms.all fun m => decide (smL m ≠ [])) (l ++ sms.flatMap smL)
  | [], b, l => by simp [addSms]
  | m :: sms, b, l => by
    have h := addSms_opt sms (b && decide (smL m ≠ [])) (l ++ smL m)
    rw [addSms, addB_opt, h]
    simp [Bool.and_assoc]
theorem map_opt (x : List UInt8) (b : Bool) (l : List UInt8) : (opt b l).map (fun l => l ++ x) = opt b (l ++ x) := by cases b <;> rfl
theorem opt_one (l : List UInt8) : some l = opt true l := rfl
/-- What the document asks besides. -/
def restR (r : RecP) : Bool :=
  stOk r.st && (decide (r.nodes.length ≤ 1000) && (decide (r.sms.length ≤ 1000) && (okIs 1125899906842624 ([r.n, r.dst, r.x1, r.x2, r.x3, r.r1, r.r2, r.r3, r.r4] ++ r.nodes) && ((r.sms.all fun m => decide (smL m ≠ [])) && (!(flOf r.kind).bat || decide (chkN r.key r.ps = 0))))))
def chkR (r : RecP) : Bool := fOk r.kind && (spareB r (flOf r.kind) && restR r)
/-- The document's bytes. -/
def docR (r : RecP) : List UInt8 :=
  let k := [UInt8.ofNat r.kind.toNat]
  if r.kind = 1 ∨ r.kind = 2 ∨ r.kind = 8 then k ++ nL r.n
  else if r.kind = 3 then (k ++ batL r.key r.ps) ++ stL r.st
  else if r.kind = 4 then ((k ++ nLs [r.x1, r.x2, r.x3]) ++ batL r.key r.ps) ++ stL r.st
  else if r.kind = 5 then ((k ++ nLs [r.x1, r.x2, r.x3]) ++ [if r.yes = true then 1 else 0]) ++ stL r.st
  else if r.kind = 6 then ((((k ++ nLs [r.x1, r.x2, r.x3]) ++ [if r.yes = true then 1 else 0]) ++ stL r.st) ++ vL r.nodes.length) ++ nLs r.nodes
  else if r.kind = 7 then k ++ nLs [r.x1, r.x2, r.x3]
  else if r.kind = 9 then (k ++ nLs [r.r1, r.r2, r.r3, r.r4]) ++ nL r.dst
  else if r.kind = 10 then (((k ++ nLs [r.r1, r.r2, r.r3, r.r4]) ++ stL r.st) ++ vL r.sms.length) ++ r.sms.flatMap smL
  else k ++ nLs [r.r1, r.r2, r.r3, r.r4]
theorem stE_ne (s : St) : decide (stE s ≠ []) = stOk s := by
  cases h : stOk s
  · simp [stE_no h]
  · rw [stE_ok h]
    have : stL s ≠ [] := by
      intro h2
      have := congrArg List.length h2
      unfold stL at this
      rw [List.length_append] at this
      have h3 := vL_pos s.wall.toNat
      rw [List.length_nil] at this
      omega
    simp [this]
theorem stOk_zero : stOk ⟨0, 0, 0⟩ = true := by decide
theorem batL_ne (key : ByteArray) (ps : List PutP) : decide (batL key ps ≠ []) = decide (chkN key ps = 0) := by
  rw [decide_eq_decide]
  constructor
  · intro h
    by_cases h2 : chkN key ps = 0
    · exact h2
    · exact absurd (batL_no h2) h
  · intro h h2
    rw [batL_ok h] at h2
    have := batBytes_pos key ps
    rw [h2] at this
    simp at this
theorem okI_zero : okI 1125899906842624 0 = true := by decide
theorem okIs_cons (lim n : Int) (l : List Int) : okIs lim (n :: l) = (okI lim n && okIs lim l) := rfl
theorem okIs_nil (lim : Int) : okIs lim [] = true := rfl
theorem nLs_one (n : Int) : nLs [n] = nL n := by simp [nLs]
theorem opt_eq {b b' : Bool} {l l' : List UInt8} (hb : b = b') (hl : b = true → l = l') : opt b l = opt b' l' := by
  subst hb
  cases b
  · rfl
  · rw [hl rfl]
theorem stE_of {s : St} {b c : Bool} (h : (b && (stOk s && c)) = true) : stE s = stL s := stE_ok (by simp at h; exact h.2.1)
theorem fl1 : flOf 1 = { n := true } := by rfl
theorem fl2 : flOf 2 = { n := true } := by rfl
theorem fl8 : flOf 8 = { n := true } := by rfl
theorem fl3 : flOf 3 = { bat := true, st := true } := by rfl
theorem fl4 : flOf 4 = { tx := true, bat := true, st := true } := by rfl
theorem fl5 : flOf 5 = { tx := true, yes := true, st := true } := by rfl
theorem fl6 : flOf 6 = { tx := true, yes := true, st := true, nodes := true } := by rfl
theorem fl7 : flOf 7 = { tx := true } := by rfl
theorem fl9 : flOf 9 = { span := true, dst := true } := by rfl
theorem fl10 : flOf 10 = { span := true, st := true, sms := true } := by rfl
theorem fl11 : flOf 11 = { span := true } := by rfl
theorem batL_empty : chkN ByteArray.empty [] ≠ 0 := by decide
set_option maxHeartbeats 4000000 in
theorem encR_eq (r : RecP) : encR r = opt (chkR r) (docR r) := by
  obtain ⟨kind, n, dst, yes, st, x1, x2, x3, nodes, key, ps, r1, r2, r3, r4, sms⟩ := r
  unfold encR chkR
  by_cases hk : fOk kind = true
  · by_cases hs : spareB ⟨kind, n, dst, yes, st, x1, x2, x3, nodes, key, ps, r1, r2, r3, r4, sms⟩ (flOf kind) = true
    · rw [if_pos ⟨hk, hs⟩]
      simp only [hk, hs, Bool.true_and]
      rcases kind_cases kind with rfl | rfl | rfl | rfl | rfl | rfl | rfl | rfl | rfl | rfl | rfl | h
      all_goals first
        | (rw [hk] at h; cases h)
        | (simp only [fl1, fl2, fl3, fl4, fl5, fl6, fl7, fl8, fl9, fl10, fl11, spareB, Bool.false_or, Bool.true_or, Bool.true_and, Bool.and_true, Bool.and_eq_true, decide_eq_true_eq, Bool.not_eq_true', List.length_eq_zero_iff] at hs
           simp only [headS, listsS, fl1, fl2, fl3, fl4, fl5, fl6, fl7, fl8, fl9, fl10, fl11, Bool.false_eq_true, if_false, if_true, opt_one, addNs_opt, addB_opt, map_opt, addMany_opt 1125899906842624 (by decide), addSms_opt, stE_ne, batL_ne, restR]
           refine opt_eq ?_ ?_
           · simp [hs, okIs_cons, okIs_nil, okI_zero, stOk_zero]
             try ac_rfl
           · intro hb
             simp at hb
             simp [docR, nLs_one, hb, stE_ok]
           )
    · rw [if_neg (fun h => hs h.2)]
      simp [Bool.eq_false_iff.2 hs, opt]
  · rw [if_neg (fun h => hk h.1)]
    simp [Bool.eq_false_iff.2 hk, opt]
end Go.Proofs.YtheogchkelmeeaaDoor
/- Messages: what they are made of, how they are written; the document's check and its bytes are the program's. Plain mathematics. No condition. -/
namespace Go.Proofs.YtheogchkelmeeaaDoor
open Go.RowKit

/-- A range. -/
structure Rg where
  a : Int
  b : Int
  c : Int
  d : Int
def Rg.cells (g : Rg) : List Value := [.int .i64 g.a, .int .i64 g.b, .int .i64 g.c, .int .i64 g.d]
theorem Rg.cells_len (g : Rg) : g.cells.length = 4 := rfl
/-- A message as plain data. -/
structure MsgP where
  kind : Int
  x1 : Int
  x2 : Int
  x3 : Int
  key : ByteArray
  ps : List PutP
  st : St
  code : Int
  firsts : List Int
  yes : Bool
  r1 : Int
  r2 : Int
  r3 : Int
  r4 : Int
  sms : List Sm
  src : Int
  total : Int
  es : List Ev
  rgs : List Rg
def mZero (k : Int) : MsgP := ⟨k, 0, 0, 0, ByteArray.empty, [], ⟨0, 0, 0⟩, 0, [], false, 0, 0, 0, 0, [], 0, 0, [], []⟩
def MsgP.only (m : MsgP) : MsgP :=
  if m.kind = 1 then { mZero 1 with x1 := m.x1, x2 := m.x2, x3 := m.x3, key := m.key, ps := m.ps, st := m.st }
  else if m.kind = 2 then { mZero 2 with x1 := m.x1, x2 := m.x2, x3 := m.x3, code := m.code, st := m.st, firsts := m.firsts }
  else if m.kind = 3 then { mZero 3 with x1 := m.x1, x2 := m.x2, x3 := m.x3, yes := m.yes, st := m.st }
  else if m.kind = 4 then { mZero 4 with x1 := m.x1, x2 := m.x2, x3 := m.x3 }
  else if m.kind = 5 then { mZero 5 with x1 := m.x1, x2 := m.x2, x3 := m.x3, st := m.st, firsts := m.firsts }
  else if m.kind = 6 then { mZero 6 with r1 := m.r1, r2 := m.r2, r3 := m.r3, r4 := m.r4, st := m.st, sms := m.sms }
  else if m.kind = 7 then { mZero 7 with r1 := m.r1, r2 := m.r2, r3 := m.r3, r4 := m.r4 }
  else if m.kind = 8 then { mZero 8 with src := m.src }
  else if m.kind = 9 then { mZero 9 with src := m.src, total := m.total, es := m.es, st := m.st, rgs := m.rgs }
  else mZero m.kind
def kOk (k : Int) : Bool := decide (1 ≤ k ∧ k ≤ 9)
theorem mkind_cases (k : Int) : k = 1 ∨ k = 2 ∨ k = 3 ∨ k = 4 ∨ k = 5 ∨ k = 6 ∨ k = 7 ∨ k = 8 ∨ k = 9 ∨ kOk k = false := by
  by_cases h : 1 ≤ k ∧ k ≤ 9
  · omega
  · simp [kOk, h]
/-- Events behind a writer's bytes. -/
def addEvs : List Ev → Option (List UInt8) → Option (List UInt8)
  | [], s => s
  | e :: l, s => addEvs l (addB (evL e) s)
theorem addEvs_none : ∀ l, addEvs l none = none
  | [] => rfl
  | _ :: l => addEvs_none l
theorem addEvs_drop {l : List Ev} {k : Nat} {m : Ev} (h : l[k]? = some m) (s : Option (List UInt8)) : addEvs (l.drop k) s = addEvs (l.drop (k + 1)) (addB (evL m) s) := by
  obtain ⟨hk, rfl⟩ := List.getElem?_eq_some_iff.1 h
  rw [List.drop_eq_getElem_cons hk]
  rfl
def rgNs (g : Rg) : List Int := [g.a, g.b, g.c, g.d]
/-- Ranges behind a writer's bytes. -/
def addRgs : List Rg → Option (List UInt8) → Option (List UInt8)
  | [], s => s
  | g :: l, s => addRgs l (addNs 1099511627776 (rgNs g) s)
theorem addRgs_none : ∀ l, addRgs l none = none
  | [] => rfl
  | _ :: l => addRgs_none l
theorem addRgs_drop {l : List Rg} {k : Nat} {m : Rg} (h : l[k]? = some m) (s : Option (List UInt8)) : addRgs (l.drop k) s = addRgs (l.drop (k + 1)) (addNs 1099511627776 (rgNs m) s) := by
  obtain ⟨hk, rfl⟩ := List.getElem?_eq_some_iff.1 h
  rw [List.drop_eq_getElem_cons hk]
  rfl
def addIf (b : Bool) (s : Option (List UInt8)) : Option (List UInt8) := if b = true then s else none
def addTx (m : MsgP) (s : Option (List UInt8)) : Option (List UInt8) := addNs 1099511627776 [m.x1, m.x2, m.x3] s
def addSpan (m : MsgP) (s : Option (List UInt8)) : Option (List UInt8) := addNs 1099511627776 [m.r1, m.r2, m.r3, m.r4] s
def addInts (l : List Int) (s : Option (List UInt8)) : Option (List UInt8) := addNs 1099511627776 l (addMany 1099511627776 l.length s)
def addFlag (b : Bool) (s : Option (List UInt8)) : Option (List UInt8) := s.map fun l => l ++ [if b = true then 1 else 0]
/-- A message's fields, behind a writer's bytes. -/
def fieldsM (m : MsgP) (s : Option (List UInt8)) : Option (List UInt8) :=
  if m.kind = 1 then addB (stE m.st) (addB (batL m.key m.ps) (addTx m s))
  else if m.kind = 2 then addInts m.firsts (addB (stE m.st) (addNs 1099511627776 [m.code] (addIf (decide (m.code ≤ 12)) (addTx m s))))
  else if m.kind = 3 then addB (stE m.st) (addFlag m.yes (addTx m s))
  else if m.kind = 4 then addTx m s
  else if m.kind = 5 then addInts m.firsts (addB (stE m.st) (addTx m s))
  else if m.kind = 6 then addSms m.sms (addMany 1099511627776 m.sms.length (addB (stE m.st) (addSpan m s)))
  else if m.kind = 7 then addSpan m s
  else if m.kind = 8 then addNs 1099511627776 [m.src] s
  else addRgs m.rgs (addMany 1099511627776 m.rgs.length (addB (stE m.st) (addEvs m.es (addMany 1099511627776 m.es.length (addNs 1099511627776 [m.src, m.total] s)))))
/-- A message as bytes; none: it is none. -/
def encM (m : MsgP) : Option (List UInt8) := if kOk m.kind = true then fieldsM m (some [UInt8.ofNat m.kind.toNat]) else none
def inB (l : List Int) : Bool := okIs 1099511627776 l && decide (l.length ≤ 1000)
def rgsB (l : List Rg) : Bool := (l.all fun g => inB (rgNs g)) && decide (l.length ≤ 1000)
/-- What the document asks. -/
def chkM (m : MsgP) : Bool :=
  kOk m.kind && ((((((((((inB [m.x1, m.x2, m.x3, m.src, m.total] && inB m.firsts) && decide (0 ≤ m.code)) && decide (m.code ≤ 12)) && stOk m.st) && rgsB m.rgs) && rgsB [⟨m.r1, m.r2, m.r3, m.r4⟩]) && decide (m.es.length ≤ 1000)) && decide (m.sms.length ≤ 1000)) && (m.es.all fun e => decide (evL e ≠ []))) && (m.sms.all fun s => decide (smL s ≠ []))) && (!decide (m.kind = 1) || decide (chkN m.key m.ps = 0))
/-- The document's bytes. -/
def docM (m : MsgP) : List UInt8 :=
  let k := [UInt8.ofNat m.kind.toNat]
  if m.kind = 1 then ((k ++ nLs [m.x1, m.x2, m.x3]) ++ batL m.key m.ps) ++ stL m.st
  else if m.kind = 2 then ((((k ++ nLs [m.x1, m.x2, m.x3]) ++ nL m.code) ++ stL m.st) ++ vL m.firsts.length) ++ nLs m.firsts
  else if m.kind = 3 then ((k ++ nLs [m.x1, m.x2, m.x3]) ++ [if m.yes = true then 1 else 0]) ++ stL m.st
  else if m.kind = 4 then k ++ nLs [m.x1, m.x2, m.x3]
  else if m.kind = 5 then (((k ++ nLs [m.x1, m.x2, m.x3]) ++ stL m.st) ++ vL m.firsts.length) ++ nLs m.firsts
  else if m.kind = 6 then (((k ++ nLs [m.r1, m.r2, m.r3, m.r4]) ++ stL m.st) ++ vL m.sms.length) ++ m.sms.flatMap smL
  else if m.kind = 7 then k ++ nLs [m.r1, m.r2, m.r3, m.r4]
  else if m.kind = 8 then k ++ nL m.src
  else (((((k ++ nLs [m.src, m.total]) ++ vL m.es.length) ++ m.es.flatMap evL) ++ stL m.st) ++ vL m.rgs.length) ++ m.rgs.flatMap fun g => nLs (rgNs g)
theorem addEvs_opt : ∀ (es : List Ev) (b : Bool) (l : List UInt8), addEvs es (opt b l) = opt (b && es.all fun m => decide (evL m ≠ [])) (l ++ es.flatMap evL)
  | [], b, l => by simp [addEvs]
  | m :: es, b, l => by
    have h := addEvs_opt es (b && decide (evL m ≠ [])) (l ++ evL m)
    rw [addEvs, addB_opt, h]
    simp [Bool.and_assoc]
theorem addRgs_opt : ∀ (gs : List Rg) (b : Bool) (l : List UInt8), addRgs gs (opt b l) = opt (b && gs.all fun g => okIs 1099511627776 (rgNs g)) (l ++ gs.flatMap fun g => nLs (rgNs g))
  | [], b, l => by simp [addRgs]
  | m :: gs, b, l => by
    have h := addRgs_opt gs (b && okIs 1099511627776 (rgNs m)) (l ++ nLs (rgNs m))
    rw [addRgs, addNs_opt, h]
    simp [Bool.and_assoc]
theorem addIf_opt (c b : Bool) (l : List UInt8) : addIf c (opt b l) = opt (b && c) l := by cases b <;> cases c <;> rfl
theorem addFlag_opt (c b : Bool) (l : List UInt8) : addFlag c (opt b l) = opt b (l ++ [if c = true then 1 else 0]) := by cases b <;> rfl
theorem inRg (g : Rg) : inB (rgNs g) = okIs 1099511627776 (rgNs g) := by simp [inB, rgNs]
theorem okF_zero : okI 1099511627776 0 = true := by decide
theorem okI_code {n : Int} : (decide (n ≤ 12) && okI 1099511627776 n) = (decide (0 ≤ n) && decide (n ≤ 12)) := by
  unfold okI
  by_cases h1 : 0 ≤ n <;> by_cases h2 : n ≤ 12 <;> simp [h1, h2] <;> omega
set_option maxHeartbeats 4000000 in
theorem encM_eq (m : MsgP) : encM m.only = opt (chkM m.only) (docM m.only) := by
  obtain ⟨kind, x1, x2, x3, key, ps, st, code, firsts, yes, r1, r2, r3, r4, sms, src, total, es, rgs⟩ := m
  rcases mkind_cases kind with rfl | rfl | rfl | rfl | rfl | rfl | rfl | rfl | rfl | h
  all_goals first
    | (have e : kOk kind = false := h
       have hk : ¬ (1 ≤ kind ∧ kind ≤ 9) := of_decide_eq_false e
       have h1 : (MsgP.only ⟨kind, x1, x2, x3, key, ps, st, code, firsts, yes, r1, r2, r3, r4, sms, src, total, es, rgs⟩).kind = kind := by
         unfold MsgP.only
         repeat rw [if_neg (by dsimp only; omega)]
         rfl
       unfold encM chkM
       rw [h1, e]
       rfl)
    | (simp only [MsgP.only, mZero, encM, fieldsM, kOk, addTx, addSpan, addInts, opt_one, addNs_opt, addB_opt, addFlag_opt, addIf_opt, addMany_opt 1099511627776 (by decide), addSms_opt, addEvs_opt, addRgs_opt, stE_ne, batL_ne, if_true, if_false, Int.reduceEq, Int.reduceLE, and_self, decide_true]
       refine opt_eq ?_ ?_
       · simp [chkM, kOk, inB, rgsB, okIs_cons, okIs_nil, okF_zero, stOk_zero, rgNs]
         first
           | done
           | ac_rfl
           | (rw [Bool.eq_iff_iff]
              simp only [Bool.and_eq_true, decide_eq_true_eq, show (okI 1099511627776 code = true) = (0 ≤ code ∧ code ≤ 1099511627776) from by simp [okI]]
              constructor <;> (intro h; simp only [h, and_self, and_true, true_and] <;> omega))
       · intro hb
         simp at hb
         simp [docM, nLs_one, hb, stE_ok])
end Go.Proofs.YtheogchkelmeeaaDoor

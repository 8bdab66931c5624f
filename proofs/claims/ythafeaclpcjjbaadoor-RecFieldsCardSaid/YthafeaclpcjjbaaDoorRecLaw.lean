/- Records: what they are made of, which fields a kind names, how they are written. Plain mathematics. No condition. -/
import Derived.Test.YthafeaclpcjjbaaDoorWr
import Derived.Test.YthafeaclpcjjbaaDoorBatLaw
import Derived.Test.YthafeaclpcjjbaaDoorStEnc
namespace Go.Proofs.YthafeaclpcjjbaaDoor
open Go.RowKit

/-- The fields that a kind names. -/
structure Fl where
  n : Bool := false
  dst : Bool := false
  yes : Bool := false
  st : Bool := false
  tx : Bool := false
  nodes : Bool := false
  bat : Bool := false
  span : Bool := false
  sms : Bool := false
def Fl.cells (f : Fl) : Array Value := #[.bool f.n, .bool f.dst, .bool f.yes, .bool f.st, .bool f.tx, .bool f.nodes, .bool f.bat, .bool f.span, .bool f.sms]
def flOf (k : Int) : Fl :=
  if k = 1 ∨ k = 2 ∨ k = 8 then { n := true } else if k = 3 then { bat := true, st := true } else if k = 4 then { tx := true, bat := true, st := true } else if k = 5 then { tx := true, yes := true, st := true }
  else if k = 6 then { tx := true, yes := true, st := true, nodes := true } else if k = 7 then { tx := true } else if k = 9 then { span := true, dst := true } else if k = 10 then { span := true, st := true, sms := true } else if k = 11 then { span := true } else {}
def fOk (k : Int) : Bool := decide (1 ≤ k ∧ k ≤ 11)
theorem kind_cases (k : Int) : k = 1 ∨ k = 2 ∨ k = 3 ∨ k = 4 ∨ k = 5 ∨ k = 6 ∨ k = 7 ∨ k = 8 ∨ k = 9 ∨ k = 10 ∨ k = 11 ∨ fOk k = false := by
  by_cases h : 1 ≤ k ∧ k ≤ 11
  · omega
  · simp [fOk, h]
theorem fOk_no {k : Int} (h : fOk k = false) : ¬ (1 ≤ k ∧ k ≤ 11) := of_decide_eq_false h
/-- A record as plain data. -/
structure RecP where
  kind : Int
  n : Int
  dst : Int
  yes : Bool
  st : St
  x1 : Int
  x2 : Int
  x3 : Int
  nodes : List Int
  key : ByteArray
  ps : List PutP
  r1 : Int
  r2 : Int
  r3 : Int
  r4 : Int
  sms : List Sm
/-- Are the fields zero that are not named? -/
def spareB (r : RecP) (f : Fl) : Bool :=
  (f.n || decide (r.n = 0)) && (f.dst || decide (r.dst = 0)) && (f.yes || !r.yes) && (f.st || decide (r.st = ⟨0, 0, 0⟩)) && (f.tx || decide (r.x1 = 0 ∧ r.x2 = 0 ∧ r.x3 = 0)) && (f.span || decide (r.r1 = 0 ∧ r.r2 = 0 ∧ r.r3 = 0 ∧ r.r4 = 0))
    && (f.nodes || decide (r.nodes = [])) && (f.sms || decide (r.sms.length = 0)) && (f.bat || decide (r.key = ByteArray.empty ∧ r.ps.length = 0))
def rLim : Int := 1125899906842624
/-- The fields that have no list, behind a writer's bytes. -/
def headS (r : RecP) (f : Fl) (s : Option (List UInt8)) : Option (List UInt8) :=
  let s := if f.n = true then addNs 1125899906842624 [r.n] s else s
  let s := if f.tx = true then addNs 1125899906842624 [r.x1, r.x2, r.x3] s else s
  let s := if f.yes = true then s.map (fun l => l ++ [if r.yes = true then 1 else 0]) else s
  let s := if f.bat = true then addB (batL r.key r.ps) s else s
  let s := if f.span = true then addNs 1125899906842624 [r.r1, r.r2, r.r3, r.r4] s else s
  let s := if f.dst = true then addNs 1125899906842624 [r.dst] s else s
  if f.st = true then addB (stE r.st) s else s
/-- Streams behind a writer's bytes. -/
def addSms : List Sm → Option (List UInt8) → Option (List UInt8)
  | [], s => s
  | m :: l, s => addSms l (addB (smL m) s)
theorem addSms_none : ∀ l, addSms l none = none
  | [] => rfl
  | _ :: l => addSms_none l
theorem addSms_drop {l : List Sm} {k : Nat} {m : Sm} (h : l[k]? = some m) (s : Option (List UInt8)) : addSms (l.drop k) s = addSms (l.drop (k + 1)) (addB (smL m) s) := by
  obtain ⟨hk, rfl⟩ := List.getElem?_eq_some_iff.1 h
  rw [List.drop_eq_getElem_cons hk]
  rfl
def listsS (r : RecP) (f : Fl) (s : Option (List UInt8)) : Option (List UInt8) :=
  let s := if f.nodes = true then addNs 1125899906842624 r.nodes (addMany 1125899906842624 r.nodes.length s) else s
  if f.sms = true then addSms r.sms (addMany 1125899906842624 r.sms.length s) else s
/-- A record as bytes; none: it is none. -/
def encR (r : RecP) : Option (List UInt8) :=
  if fOk r.kind = true ∧ spareB r (flOf r.kind) = true then listsS r (flOf r.kind) (headS r (flOf r.kind) (some [UInt8.ofNat r.kind.toNat])) else none
end Go.Proofs.YthafeaclpcjjbaaDoor

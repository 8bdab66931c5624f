/- Messages as they lie. No condition. -/
import Derived.Test.YtheogchkelmeeaaDoorMsgLawQMsgAs
import Derived.Test.YtheogchkelmeeaaDoorM19MsgAs
import Derived.Test.YtheogchkelmeeaaDoorBatEncQMsgAs
import Derived.Test.YtheogchkelmeeaaDoorSmEncQMsgAs
import Derived.Test.YtheogchkelmeeaaDoorAlikeSmQMsgAs
namespace Go.Proofs.YtheogchkelmeeaaDoor
open Go.RowKit

/-- A message as it lies. -/
structure MsgM where
  kind : Int
  x1 : Int
  x2 : Int
  x3 : Int
  key : ByteArray
  Ap : Option Addr
  cp : Nat
  ps : List PutM
  st : St
  code : Int
  An : Option Addr
  cn : Nat
  firsts : List Int
  yes : Bool
  z1 : Int
  z2 : Int
  z3 : Int
  z4 : Int
  As : Option Addr
  cs : Nat
  sms : List SmM
  src : Int
  total : Int
  Ae : Option Addr
  ce : Nat
  es : List Ev
  Ag : Option Addr
  cg : Nat
  rgs : List Rg
def MsgM.cells (r : MsgM) : Array Value := #[.int .i64 r.kind, .int .i64 r.x1, .int .i64 r.x2, .int .i64 r.x3, .string r.key, .slice r.Ap r.ps.length r.cp, .int .i64 r.st.wall, .int .i64 r.st.logic, .int .i64 r.st.node, .int .i64 r.code, .slice r.An r.firsts.length r.cn, .bool r.yes, .int .i64 r.z1, .int .i64 r.z2, .int .i64 r.z3, .int .i64 r.z4, .slice r.As r.sms.length r.cs, .int .i64 r.src, .int .i64 r.total, .slice r.Ae r.es.length r.ce, .slice r.Ag r.rgs.length r.cg]
def MsgM.p (r : MsgM) : MsgP := ⟨r.kind, r.x1, r.x2, r.x3, r.key, r.ps.map PutM.p, r.st, r.code, r.firsts, r.yes, r.z1, r.z2, r.z3, r.z4, r.sms.map SmM.sm, r.src, r.total, r.es, r.rgs⟩
structure MsgM.In (r : MsgM) (w : World) : Prop where
  ps : PutsIn w w.heap.size r.Ap r.ps
  firsts : Sl intC 1 w w.heap.size r.An r.firsts
  sms : SmsIn w w.heap.size r.As r.sms
  es : Sl Ev.cells 7 w w.heap.size r.Ae r.es
  rgs : Sl Rg.cells 4 w w.heap.size r.Ag r.rgs
theorem SmsIn.more {w : World} {B B' : Nat} {A : Option Addr} {ss : List SmM} (h : SmsIn w B A ss) (hB : B ≤ B') : SmsIn w B' A ss := ⟨h.1.more hB, fun s hs => (h.2 s hs).more hB⟩
def Int64 (n : Int) : Prop := -9223372036854775808 ≤ n ∧ n ≤ 9223372036854775807
structure MsgM.I64 (r : MsgM) : Prop where
  kind : Int64 r.kind
  x1 : Int64 r.x1
  x2 : Int64 r.x2
  x3 : Int64 r.x3
  code : Int64 r.code
  firsts : ∀ x ∈ r.firsts, Int64 x
  z1 : Int64 r.z1
  z2 : Int64 r.z2
  z3 : Int64 r.z3
  z4 : Int64 r.z4
  src : Int64 r.src
  total : Int64 r.total
  rgs : ∀ g ∈ r.rgs, Int64 g.a ∧ Int64 g.b ∧ Int64 g.c ∧ Int64 g.d
structure MsgM.Small (r : MsgM) : Prop extends MsgM.I64 r where
  firstsL : r.firsts.length ≤ 1000000
  key : r.key.size ≤ 1073741824
  ps : PutsSmall r.ps
  bat : (batL r.key (r.ps.map PutM.p)).length ≤ 500000
  smsL : r.sms.length ≤ 1000000
  sms : ∀ s ∈ r.sms, SmSmall s.name s.es s.ks ∧ (smL s.sm).length ≤ 500000
  esL : r.es.length ≤ 1000000
  es : ∀ e ∈ r.es, (e.stream.size ≤ 1073741824 ∧ e.data.size ≤ 1073741824) ∧ (evL e).length ≤ 500000
  rgsL : r.rgs.length ≤ 1000000
theorem MsgM.In.g {r : MsgM} {w w' : World} (h : r.In w) (hg : G w w') : r.In w' :=
  ⟨PutsIn.more (h.ps.g (Nat.le_refl _) hg) hg.size, (h.firsts.g (Nat.le_refl _) hg).more hg.size, SmsIn.more (h.sms.g (Nat.le_refl _) hg) hg.size, (h.es.g (Nat.le_refl _) hg).more hg.size, (h.rgs.g (Nat.le_refl _) hg).more hg.size⟩
def MsgM.zero (k : Int) : MsgM := ⟨k, 0, 0, 0, ⟨#[]⟩, none, 0, [], ⟨0, 0, 0⟩, 0, none, 0, [], false, 0, 0, 0, 0, none, 0, [], 0, 0, none, 0, [], none, 0, []⟩
def MsgM.o1 (m : MsgM) : MsgM := { MsgM.zero m.kind with x1 := m.x1, x2 := m.x2, x3 := m.x3, key := m.key, Ap := m.Ap, cp := m.cp, ps := m.ps, st := m.st }
def MsgM.o2 (m : MsgM) : MsgM := { MsgM.zero m.kind with x1 := m.x1, x2 := m.x2, x3 := m.x3, code := m.code, st := m.st, An := m.An, cn := m.cn, firsts := m.firsts }
def MsgM.o3 (m : MsgM) : MsgM := { MsgM.zero m.kind with x1 := m.x1, x2 := m.x2, x3 := m.x3, yes := m.yes, st := m.st }
def MsgM.o4 (m : MsgM) : MsgM := { MsgM.zero m.kind with x1 := m.x1, x2 := m.x2, x3 := m.x3 }
def MsgM.o5 (m : MsgM) : MsgM := { MsgM.zero m.kind with x1 := m.x1, x2 := m.x2, x3 := m.x3, st := m.st, An := m.An, cn := m.cn, firsts := m.firsts }
def MsgM.o6 (m : MsgM) : MsgM := { MsgM.zero m.kind with z1 := m.z1, z2 := m.z2, z3 := m.z3, z4 := m.z4, st := m.st, As := m.As, cs := m.cs, sms := m.sms }
def MsgM.o7 (m : MsgM) : MsgM := { MsgM.zero m.kind with z1 := m.z1, z2 := m.z2, z3 := m.z3, z4 := m.z4 }
def MsgM.o8 (m : MsgM) : MsgM := { MsgM.zero m.kind with src := m.src }
def MsgM.o9 (m : MsgM) : MsgM := { MsgM.zero m.kind with src := m.src, total := m.total, Ae := m.Ae, ce := m.ce, es := m.es, st := m.st, Ag := m.Ag, cg := m.cg, rgs := m.rgs }
/-- The fields that its kind names. -/
def MsgM.only (m : MsgM) : MsgM := if m.kind = 1 then m.o1 else if m.kind = 2 then m.o2 else if m.kind = 3 then m.o3 else if m.kind = 4 then m.o4 else if m.kind = 5 then m.o5 else if m.kind = 6 then m.o6 else if m.kind = 7 then m.o7 else if m.kind = 8 then m.o8 else if m.kind = 9 then m.o9 else MsgM.zero m.kind
theorem kOk_no {k : Int} (h : kOk k = false) : ¬ (1 ≤ k ∧ k ≤ 9) := of_decide_eq_false h
section
variable {m : MsgM}
theorem MsgM.only_1 (h : m.kind = 1) : m.only = m.o1 := by unfold MsgM.only; rw [if_pos h]
theorem MsgM.only_2 (h : m.kind = 2) : m.only = m.o2 := by unfold MsgM.only; rw [if_neg (by omega), if_pos h]
theorem MsgM.only_3 (h : m.kind = 3) : m.only = m.o3 := by unfold MsgM.only; rw [if_neg (by omega), if_neg (by omega), if_pos h]
theorem MsgM.only_4 (h : m.kind = 4) : m.only = m.o4 := by unfold MsgM.only; rw [if_neg (by omega), if_neg (by omega), if_neg (by omega), if_pos h]
theorem MsgM.only_5 (h : m.kind = 5) : m.only = m.o5 := by unfold MsgM.only; rw [if_neg (by omega), if_neg (by omega), if_neg (by omega), if_neg (by omega), if_pos h]
theorem MsgM.only_6 (h : m.kind = 6) : m.only = m.o6 := by unfold MsgM.only; rw [if_neg (by omega), if_neg (by omega), if_neg (by omega), if_neg (by omega), if_neg (by omega), if_pos h]
theorem MsgM.only_7 (h : m.kind = 7) : m.only = m.o7 := by unfold MsgM.only; rw [if_neg (by omega), if_neg (by omega), if_neg (by omega), if_neg (by omega), if_neg (by omega), if_neg (by omega), if_pos h]
theorem MsgM.only_8 (h : m.kind = 8) : m.only = m.o8 := by unfold MsgM.only; rw [if_neg (by omega), if_neg (by omega), if_neg (by omega), if_neg (by omega), if_neg (by omega), if_neg (by omega), if_neg (by omega), if_pos h]
theorem MsgM.only_9 (h : m.kind = 9) : m.only = m.o9 := by unfold MsgM.only; rw [if_neg (by omega), if_neg (by omega), if_neg (by omega), if_neg (by omega), if_neg (by omega), if_neg (by omega), if_neg (by omega), if_neg (by omega), if_pos h]
theorem MsgM.only_no (h : kOk m.kind = false) : m.only = MsgM.zero m.kind := by
  have h0 := kOk_no h
  unfold MsgM.only
  repeat rw [if_neg (by omega)]
theorem MsgM.only_p (m : MsgM) : m.only.p = m.p.only := by
  have hk : m.p.kind = m.kind := rfl
  rcases mkind_cases m.kind with h | h | h | h | h | h | h | h | h | h
  · rw [MsgM.only_1 h]; unfold MsgP.only; rw [if_pos (by omega)]; unfold MsgM.o1 MsgM.zero; rw [h]; rfl
  · rw [MsgM.only_2 h]; unfold MsgP.only; rw [if_neg (by omega), if_pos (by omega)]; unfold MsgM.o2 MsgM.zero; rw [h]; rfl
  · rw [MsgM.only_3 h]; unfold MsgP.only; rw [if_neg (by omega), if_neg (by omega), if_pos (by omega)]; unfold MsgM.o3 MsgM.zero; rw [h]; rfl
  · rw [MsgM.only_4 h]; unfold MsgP.only; rw [if_neg (by omega), if_neg (by omega), if_neg (by omega), if_pos (by omega)]; unfold MsgM.o4 MsgM.zero; rw [h]; rfl
  · rw [MsgM.only_5 h]; unfold MsgP.only; rw [if_neg (by omega), if_neg (by omega), if_neg (by omega), if_neg (by omega), if_pos (by omega)]; unfold MsgM.o5 MsgM.zero; rw [h]; rfl
  · rw [MsgM.only_6 h]; unfold MsgP.only; rw [if_neg (by omega), if_neg (by omega), if_neg (by omega), if_neg (by omega), if_neg (by omega), if_pos (by omega)]; unfold MsgM.o6 MsgM.zero; rw [h]; rfl
  · rw [MsgM.only_7 h]; unfold MsgP.only; rw [if_neg (by omega), if_neg (by omega), if_neg (by omega), if_neg (by omega), if_neg (by omega), if_neg (by omega), if_pos (by omega)]; unfold MsgM.o7 MsgM.zero; rw [h]; rfl
  · rw [MsgM.only_8 h]; unfold MsgP.only; rw [if_neg (by omega), if_neg (by omega), if_neg (by omega), if_neg (by omega), if_neg (by omega), if_neg (by omega), if_neg (by omega), if_pos (by omega)]; unfold MsgM.o8 MsgM.zero; rw [h]; rfl
  · rw [MsgM.only_9 h]; unfold MsgP.only; rw [if_neg (by omega), if_neg (by omega), if_neg (by omega), if_neg (by omega), if_neg (by omega), if_neg (by omega), if_neg (by omega), if_neg (by omega), if_pos (by omega)]; unfold MsgM.o9 MsgM.zero; rw [h]; rfl
  · have h0 := kOk_no h
    rw [MsgM.only_no h]; unfold MsgP.only; rw [if_neg (by omega), if_neg (by omega), if_neg (by omega), if_neg (by omega), if_neg (by omega), if_neg (by omega), if_neg (by omega), if_neg (by omega), if_neg (by omega)]; rfl
theorem MsgM.only_kind (m : MsgM) : m.only.kind = m.kind := by
  rcases mkind_cases m.kind with h | h | h | h | h | h | h | h | h | h
  · rw [MsgM.only_1 h]; rfl
  · rw [MsgM.only_2 h]; rfl
  · rw [MsgM.only_3 h]; rfl
  · rw [MsgM.only_4 h]; rfl
  · rw [MsgM.only_5 h]; rfl
  · rw [MsgM.only_6 h]; rfl
  · rw [MsgM.only_7 h]; rfl
  · rw [MsgM.only_8 h]; rfl
  · rw [MsgM.only_9 h]; rfl
  · rw [MsgM.only_no h]; rfl
end
theorem Kw.ge {R base : Nat} {wE w w' : World} (h : Kw R base w w') (hG : G wE w) (hb : wE.heap.size ≤ base) : G wE w' := Below.trans hG (Below.mono h.1 hb)
end Go.Proofs.YtheogchkelmeeaaDoor

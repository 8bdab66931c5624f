/- Several texts in one: MsgLaw, Same, EvBulk, SmLaw. -/
import Derived.Test.YtheogchkelmeeaaDoorM28MsgFirst
import Derived.Test.YtheogchkelmeeaaDoorM6MsgFirst
import Derived.Test.YtheogchkelmeeaaDoorM22MsgFirst
import Derived.Test.YtheogchkelmeeaaDoorM20MsgFirst
/- Messages: what they are made of, how they are written; the document's check and its bytes are the program's. Plain mathematics. No condition. -/
namespace Go.Proofs.YtheogchkelmeeaaDoor
open Go.RowKit

/-- A range. -/
structure Rg where
  a : Int
  b : Int
  c : Int
  d : Int
def Rg.cells (g : Rg) : List Value := [.int .i64 g.a, .int .i64 g.b, .int .i64 g.c, .int .i64 g.d]
theorem Rg.cells_len (g : Rg) : g.cells.length = 4 := rfl
/-- A message as plain data. -/
structure MsgP where
  kind : Int
  x1 : Int
  x2 : Int
  x3 : Int
  key : ByteArray
  ps : List PutP
  st : St
  code : Int
  firsts : List Int
  yes : Bool
  r1 : Int
  r2 : Int
  r3 : Int
  r4 : Int
  sms : List Sm
  src : Int
  total : Int
  es : List Ev
  rgs : List Rg
def mZero (k : Int) : MsgP := ⟨k, 0, 0, 0, ByteArray.empty, [], ⟨0, 0, 0⟩, 0, [], false, 0, 0, 0, 0, [], 0, 0, [], []⟩
def MsgP.only (m : MsgP) : MsgP :=
  if m.kind = 1 then { mZero 1 with x1 := m.x1, x2 := m.x2, x3 := m.x3, key := m.key, ps := m.ps, st := m.st }
  else if m.kind = 2 then { mZero 2 with x1 := m.x1, x2 := m.x2, x3 := m.x3, code := m.code, st := m.st, firsts := m.firsts }
  else if m.kind = 3 then { mZero 3 with x1 := m.x1, x2 := m.x2, x3 := m.x3, yes := m.yes, st := m.st }
  else if m.kind = 4 then { mZero 4 with x1 := m.x1, x2 := m.x2, x3 := m.x3 }
  else if m.kind = 5 then { mZero 5 with x1 := m.x1, x2 := m.x2, x3 := m.x3, st := m.st, firsts := m.firsts }
  else if m.kind = 6 then { mZero 6 with r1 := m.r1, r2 := m.r2, r3 := m.r3, r4 := m.r4, st := m.st, sms := m.sms }
  else if m.kind = 7 then { mZero 7 with r1 := m.r1, r2 := m.r2, r3 := m.r3, r4 := m.r4 }
  else if m.kind = 8 then { mZero 8 with src := m.src }
  else if m.kind = 9 then { mZero 9 with src := m.src, total := m.total, es := m.es, st := m.st, rgs := m.rgs }
  else mZero m.kind
def kOk (k : Int) : Bool := decide (1 ≤ k ∧ k ≤ 9)
theorem mkind_cases (k : Int) : k = 1 ∨ k = 2 ∨ k = 3 ∨ k = 4 ∨ k = 5 ∨ k = 6 ∨ k = 7 ∨ k = 8 ∨ k = 9 ∨ kOk k = false := by
  by_cases h : 1 ≤ k ∧ k ≤ 9
  · omega
  · simp [kOk, h]
/-- Events behind a writer's bytes. -/
def addEvs : List Ev → Option (List UInt8) → Option (List UInt8)
  | [], s => s
  | e :: l, s => addEvs l (addB (evL e) s)
theorem addEvs_none : ∀ l, addEvs l none = none
  | [] => rfl
  | _ :: l => addEvs_none l
theorem addEvs_drop {l : List Ev} {k : Nat} {m : Ev} (h : l[k]? = some m) (s : Option (List UInt8)) : addEvs (l.drop k) s = addEvs (l.drop (k + 1)) (addB (evL m) s) := by
  obtain ⟨hk, rfl⟩ := List.getElem?_eq_some_iff.1 h
  rw [List.drop_eq_getElem_cons hk]
  rfl
def rgNs (g : Rg) : List Int := [g.a, g.b, g.c, g.d]
/-- Ranges behind a writer's bytes. -/
def addRgs : List Rg → Option (List UInt8) → Option (List UInt8)
  | [], s => s
  | g :: l, s => addRgs l (addNs 1099511627776 (rgNs g) s)
theorem addRgs_none : ∀ l, addRgs l none = none
  | [] => rfl
  | _ :: l => addRgs_none l
theorem addRgs_drop {l : List Rg} {k : Nat} {m : Rg} (h : l[k]? = some m) (s : Option (List UInt8)) : addRgs (l.drop k) s = addRgs (l.drop (k + 1)) (addNs 1099511627776 (rgNs m) s) := by
  obtain ⟨hk, rfl⟩ := List.getElem?_eq_some_iff.1 h
  rw [List.drop_eq_getElem_cons hk]
  rfl
def addIf (b : Bool) (s : Option (List UInt8)) : Option (List UInt8) := if b = true then s else none
def addTx (m : MsgP) (s : Option (List UInt8)) : Option (List UInt8) := addNs 1099511627776 [m.x1, m.x2, m.x3] s
def addSpan (m : MsgP) (s : Option (List UInt8)) : Option (List UInt8) := addNs 1099511627776 [m.r1, m.r2, m.r3, m.r4] s
def addInts (l : List Int) (s : Option (List UInt8)) : Option (List UInt8) := addNs 1099511627776 l (addMany 1099511627776 l.length s)
def addFlag (b : Bool) (s : Option (List UInt8)) : Option (List UInt8) := s.map fun l => l ++ [if b = true then 1 else 0]
/-- A message's fields, behind a writer's bytes. -/
def fieldsM (m : MsgP) (s : Option (List UInt8)) : Option (List UInt8) :=
  if m.kind = 1 then addB (stE m.st) (addB (batL m.key m.ps) (addTx m s))
  else if m.kind = 2 then addInts m.firsts (addB (stE m.st) (addNs 1099511627776 [m.code] (addIf (decide (m.code ≤ 12)) (addTx m s))))
  else if m.kind = 3 then addB (stE m.st) (addFlag m.yes (addTx m s))
  else if m.kind = 4 then addTx m s
  else if m.kind = 5 then addInts m.firsts (addB (stE m.st) (addTx m s))
  else if m.kind = 6 then addSms m.sms (addMany 1099511627776 m.sms.length (addB (stE m.st) (addSpan m s)))
  else if m.kind = 7 then addSpan m s
  else if m.kind = 8 then addNs 1099511627776 [m.src] s
  else addRgs m.rgs (addMany 1099511627776 m.rgs.length (addB (stE m.st) (addEvs m.es (addMany 1099511627776 m.es.length (addNs 1099511627776 [m.src, m.total] s)))))
/-- A message as bytes; none: it is none. -/
def encM (m : MsgP) : Option (List UInt8) := if kOk m.kind = true then fieldsM m (some [UInt8.ofNat m.kind.toNat]) else none
def inB (l : List Int) : Bool := okIs 1099511627776 l && decide (l.length ≤ 1000)
def rgsB (l : List Rg) : Bool := (l.all fun g => inB (rgNs g)) && decide (l.length ≤ 1000)
/-- What the document asks. -/
def chkM (m : MsgP) : Bool :=
  kOk m.kind && ((((((((((inB [m.x1, m.x2, m.x3, m.src, m.total] && inB m.firsts) && decide (0 ≤ m.code)) && decide (m.code ≤ 12)) && stOk m.st) && rgsB m.rgs) && rgsB [⟨m.r1, m.r2, m.r3, m.r4⟩]) && decide (m.es.length ≤ 1000)) && decide (m.sms.length ≤ 1000)) && (m.es.all fun e => decide (evL e ≠ []))) && (m.sms.all fun s => decide (smL s ≠ []))) && (!decide (m.kind = 1) || decide (chkN m.key m.ps = 0))
/-- The document's bytes. -/
def docM (m : MsgP) : List UInt8 :=
  let k := [UInt8.ofNat m.kind.toNat]
  if m.kind = 1 then ((k ++ nLs [m.x1, m.x2, m.x3]) ++ batL m.key m.ps) ++ stL m.st
  else if m.kind = 2 then ((((k ++ nLs [m.x1, m.x2, m.x3]) ++ nL m.code) ++ stL m.st) ++ vL m.firsts.length) ++ nLs m.firsts
  else if m.kind = 3 then ((k ++ nLs [m.x1, m.x2, m.x3]) ++ [if m.yes = true then 1 else 0]) ++ stL m.st
  else if m.kind = 4 then k ++ nLs [m.x1, m.x2, m.x3]
  else if m.kind = 5 then (((k ++ nLs [m.x1, m.x2, m.x3]) ++ stL m.st) ++ vL m.firsts.length) ++ nLs m.firsts
  else if m.kind = 6 then (((k ++ nLs [m.r1, m.r2, m.r3, m.r4]) ++ stL m.st) ++ vL m.sms.length) ++ m.sms.flatMap smL
  else if m.kind = 7 then k ++ nLs [m.r1, m.r2, m.r3, m.r4]
  else if m.kind = 8 then k ++ nL m.src
  else (((((k ++ nLs [m.src, m.total]) ++ vL m.es.length) ++ m.es.flatMap evL) ++ stL m.st) ++ vL m.rgs.length) ++ m.rgs.flatMap fun g => nLs (rgNs g)
theorem addEvs_opt : ∀ (es : List Ev) (b : Bool) (l : List UInt8), addEvs es (opt b l) = opt (b && es.all fun m => decide (evL m ≠ [])) (l ++ es.flatMap evL)
  | [], b, l => by simp [addEvs]
  | m :: es, b, l => by
    have h := addEvs_opt es (b && decide (evL m ≠ [])) (l ++ evL m)
    rw [addEvs, addB_opt, h]
    simp [Bool.and_assoc]
theorem addRgs_opt : ∀ (gs : List Rg) (b : Bool) (l : List UInt8), addRgs gs (opt b l) = opt (b && gs.all fun g => okIs 1099511627776 (rgNs g)) (l ++ gs.flatMap fun g => nLs (rgNs g))
  | [], b, l => by simp [addRgs]
  | m :: gs, b, l => by
    have h := addRgs_opt gs (b && okIs 1099511627776 (rgNs m)) (l ++ nLs (rgNs m))
    rw [addRgs, addNs_opt, h]
    simp [Bool.and_assoc]
theorem addIf_opt (c b : Bool) (l : List UInt8) : addIf c (opt b l) = opt (b && c) l := by cases b <;> cases c <;> rfl
theorem addFlag_opt (c b : Bool) (l : List UInt8) : addFlag c (opt b l) = opt b (l ++ [if c = true then 1 else 0]) := by cases b <;> rfl
theorem inRg (g : Rg) : inB (rgNs g) = okIs 1099511627776 (rgNs g) := by simp [inB, rgNs]
theorem okF_zero : okI 1099511627776 0 = true := by decide
theorem okI_code {n : Int} : (decide (n ≤ 12) && okI 1099511627776 n) = (decide (0 ≤ n) && decide (n ≤ 12)) := by
  unfold okI
  by_cases h1 : 0 ≤ n <;> by_cases h2 : n ≤ 12 <;> simp [h1, h2] <;> omega
set_option maxHeartbeats 4000000 in
theorem encM_eq (m : MsgP) : encM m.only = opt (chkM m.only) (docM m.only) := by
  obtain ⟨kind, x1, x2, x3, key, ps, st, code, firsts, yes, r1, r2, r3, r4, sms, src, total, es, rgs⟩ := m
  rcases mkind_cases kind with rfl | rfl | rfl | rfl | rfl | rfl | rfl | rfl | rfl | h
  all_goals first
    | (have e : kOk kind = false := h
       have hk : ¬ (1 ≤ kind ∧ kind ≤ 9) := of_decide_eq_false e
       have h1 : (MsgP.only ⟨kind, x1, x2, x3, key, ps, st, code, firsts, yes, r1, r2, r3, r4, sms, src, total, es, rgs⟩).kind = kind := by
         unfold MsgP.only
         repeat rw [if_neg (by dsimp only; omega)]
         rfl
       unfold encM chkM
       rw [h1, e]
       rfl)
    | (simp only [MsgP.only, mZero, encM, fieldsM, kOk, addTx, addSpan, addInts, opt_one, addNs_opt, addB_opt, addFlag_opt, addIf_opt, addMany_opt 1099511627776 (by decide), addSms_opt, addEvs_opt, addRgs_opt, stE_ne, batL_ne, if_true, if_false, Int.reduceEq, Int.reduceLE, and_self, decide_true]
       refine opt_eq ?_ ?_
       · simp [chkM, kOk, inB, rgsB, okIs_cons, okIs_nil, okF_zero, stOk_zero, rgNs]
         first
           | done
           | ac_rfl
           | (rw [Bool.eq_iff_iff]
              simp only [Bool.and_eq_true, decide_eq_true_eq, show (okI 1099511627776 code = true) = (0 ≤ code ∧ code ≤ 1099511627776) from by simp [okI]]
              constructor <;> (intro h; simp only [h, and_self, and_true, true_and] <;> omega))
       · intro hb
         simp at hb
         simp [docM, nLs_one, hb, stE_ok])
end Go.Proofs.YtheogchkelmeeaaDoor
/- penstockref7.SameEvents: whether two lists of events are one. Condition: the lengths fit an int. -/
namespace Go.Proofs.YtheogchkelmeeaaDoor
open Go.RowKit

def evsB (es fs : List Ev) : Bool := decide (es = fs)
theorem Sl.ev {w : World} {B : Nat} {A : Option Addr} {xs : List Ev} {k : Nat} {x : Ev} (h : Sl Ev.cells 7 w B A xs) (hx : xs[k]? = some x) :
    ∃ b o, A = some ⟨b, o, none⟩ ∧ b < B ∧ w.cell? ⟨b, o + k * 7, none⟩ = some (.string x.stream) ∧ w.cell? ⟨b, o + k * 7 + 1, none⟩ = some (.int .i64 x.version) ∧ w.cell? ⟨b, o + k * 7 + 2, none⟩ = some (.string x.data) ∧
      w.cell? ⟨b, o + k * 7 + 3, none⟩ = some (.int .i64 x.st.wall) ∧ w.cell? ⟨b, o + k * 7 + 4, none⟩ = some (.int .i64 x.st.logic) ∧ w.cell? ⟨b, o + k * 7 + 5, none⟩ = some (.int .i64 x.st.node) ∧ w.cell? ⟨b, o + k * 7 + 6, none⟩ = some (.int .i64 x.index) := by
  obtain ⟨b, o, e, hb, hc⟩ := h.get hx
  exact ⟨b, o, e, hb, hc 0 _ rfl, hc 1 _ rfl, hc 2 _ rfl, hc 3 _ rfl, hc 4 _ rfl, hc 5 _ rfl, hc 6 _ rfl⟩

/-- The cells of an event that is there, in every world that has grown from this one. -/
theorem Sl.evG {w : World} {B : Nat} {A : Option Addr} {xs : List Ev} {k : Nat} {x : Ev} (h : Sl Ev.cells 7 w B A xs) (hB : B ≤ w.heap.size) (hx : xs[k]? = some x) :
    ∃ b o, A = some ⟨b, o, none⟩ ∧ b < w.heap.size ∧ (∀ w', G w w' → w'.cell? ⟨b, o + k * 7, none⟩ = some (.string x.stream)) ∧ (∀ w', G w w' → w'.cell? ⟨b, o + k * 7 + 1, none⟩ = some (.int .i64 x.version)) ∧ (∀ w', G w w' → w'.cell? ⟨b, o + k * 7 + 2, none⟩ = some (.string x.data)) ∧
      (∀ w', G w w' → w'.cell? ⟨b, o + k * 7 + 3, none⟩ = some (.int .i64 x.st.wall)) ∧ (∀ w', G w w' → w'.cell? ⟨b, o + k * 7 + 4, none⟩ = some (.int .i64 x.st.logic)) ∧ (∀ w', G w w' → w'.cell? ⟨b, o + k * 7 + 5, none⟩ = some (.int .i64 x.st.node)) ∧ (∀ w', G w w' → w'.cell? ⟨b, o + k * 7 + 6, none⟩ = some (.int .i64 x.index)) := by
  obtain ⟨b, o, e, hb, c0, c1, c2, c3, c4, c5, c6⟩ := h.ev hx
  have hb' : b < w.heap.size := by omega
  exact ⟨b, o, e, hb', fun w' hg => (hg.cell hb').trans c0, fun w' hg => (hg.cell hb').trans c1, fun w' hg => (hg.cell hb').trans c2, fun w' hg => (hg.cell hb').trans c3, fun w' hg => (hg.cell hb').trans c4, fun w' hg => (hg.cell hb').trans c5, fun w' hg => (hg.cell hb').trans c6⟩

set_option maxHeartbeats 1000000 in
theorem sameEvents_any (es fs : List Ev) (A A2 : Option Addr) (c c2 B : Nat) (w : World) (hB : B ≤ w.heap.size) (_hl : es.length ≤ 9223372036854775807) (_hl2 : fs.length ≤ 9223372036854775807)
    (hs : Sl Ev.cells 7 w B A es) (hs2 : Sl Ev.cells 7 w B A2 fs) :
    Calls Tryd.prog 36 #[.slice A es.length c, .slice A2 fs.length c2] w fun e w' => e = .returned (.bool (evsB es fs)) ∧ G w w' := by
  by_cases hlen : es.length = fs.length
  · have hlb : ((es.length : Int) != (fs.length : Int)) = false := by rw [bne_eq_false_iff_eq]; omega
    go_enter Tryd.func36, Tryd.ntmps36
    have hle : es.length ≤ fs.length := by omega
    replace hlen := Lib.hid hlen
    go_wp2_with fail
    go_loopw [5] (fun i wr => ∃ (k : Nat), k ≤ es.length ∧ i = .int .i64 k ∧ G w wr ∧ Hid (es.take k = fs.take k)) (fun i _ => es.length - (intOf i).toNat)
    case atStart => exact ⟨0, Nat.zero_le _, rfl, G.refl _, by simp [Hid]⟩
    case round =>
      obtain ⟨k, hk, rfl, hg, hh⟩ := hrel
      by_cases hlt : k < es.length
      · obtain ⟨⟨s1, v1, d1, ⟨x1, y1, z1⟩, i1⟩, ha⟩ : ∃ a, es[k]? = some a := ⟨_, List.getElem?_eq_getElem hlt⟩
        obtain ⟨⟨s2, v2, d2, ⟨x2, y2, z2⟩, i2⟩, hb⟩ : ∃ b, fs[k]? = some b := ⟨_, List.getElem?_eq_getElem (by omega)⟩
        obtain ⟨b1, o1, rfl, hb1, _⟩ := hs.ev ha
        obtain ⟨b2, o2, rfl, hb2, _⟩ := hs2.ev hb
        obtain ⟨_, _, e1, _, c10, c11, c12, c13, c14, c15, c16⟩ := (hs.g hB hg).ev ha
        cases e1
        obtain ⟨_, _, e1, _, c20, c21, c22, c23, c24, c25, c26⟩ := (hs2.g hB hg).ev hb
        cases e1
        have hnq := @ev_neq
        replace ha := Lib.hid ha
        replace hb := Lib.hid hb
        clear hs hs2
        go_wp2_with fail
        go_quiet (fail)
        clear hnq
        go_wp2_with fail
        · go_ret
          rename_i hq
          refine ⟨ret_bool ?_, hg.drewN _⟩
          unfold evsB
          rw [decide_eq_false]
          rintro rfl
          have h3 := ha.out.symm.trans hb.out
          simp [evB] at hq
          simp at h3
          simp [h3] at hq
        · rename_i hq
          go_roundw
          case rel =>
            refine ⟨k + 1, by omega, by go_num, hg.drewN _, ?_⟩
            unfold Hid
            have he : es[k]? = fs[k]? := by
              rw [ha.out, hb.out]
              simp [evB] at hq
              simp [hq]
            rw [List.take_add_one, List.take_add_one, hh.out, he]
          case measure => simp [intOf]; omega
      · go_wp2_with fail
        go_ret
        exact ⟨ret_bool (by
          unfold evsB
          rw [decide_eq_true]
          have h1 : es.take k = es := List.take_of_length_le (by omega)
          have h2 : fs.take k = fs := List.take_of_length_le (by have := hlen.out; omega)
          rw [← h1, ← h2]; exact hh.out), hg⟩
  · have hlb : ((es.length : Int) != (fs.length : Int)) = true := by rw [bne_iff_ne]; omega
    go_enter Tryd.func36, Tryd.ntmps36
    go_wp2_with fail
    go_ret
    exact ⟨ret_bool (by unfold evsB; rw [decide_eq_false]; intro h; exact hlen (by rw [h])), G.refl _⟩

theorem sameEvents_self (es : List Ev) (A A2 : Option Addr) (c c2 B : Nat) (w : World) (hB : B ≤ w.heap.size) (hl : es.length ≤ 9223372036854775807)
    (hs : Sl Ev.cells 7 w B A es) (hs2 : Sl Ev.cells 7 w B A2 es) :
    Calls Tryd.prog 36 #[.slice A es.length c, .slice A2 es.length c2] w fun e w' => e = .returned (.bool true) ∧ G w w' :=
  (sameEvents_any es es A A2 c c2 B w hB hl hl hs hs2).mono fun _ _ ⟨he, hg⟩ => ⟨by rw [he]; unfold evsB; simp, hg⟩
end Go.Proofs.YtheogchkelmeeaaDoor
/- penstockalike.Events: what it answers. Condition: lengths fit an int. -/
namespace Go.Proofs.YtheogchkelmeeaaDoor
open Go.RowKit

/-- Events' loop. -/
def evBulkTo (top : Int) (n : Int) : List Ev → Int
  | [] => n
  | e :: l => if n ≤ top then evBulkTo top (sumTo n [(e.stream.size : Int), (e.data.size : Int)]) l else n
def evBulk (top : Int) (es : List Ev) : Int := evBulkTo top (sumTo 0 [(es.length : Int)]) es
theorem evBulkTo_drop (top n : Int) (xs : List Ev) (k : Nat) (x : Ev) (h : xs[k]? = some x) :
    evBulkTo top n (xs.drop k) = if n ≤ top then evBulkTo top (sumTo n [(x.stream.size : Int), (x.data.size : Int)]) (xs.drop (k + 1)) else n := by
  obtain ⟨hk, rfl⟩ := List.getElem?_eq_some_iff.1 h
  rw [List.drop_eq_getElem_cons hk]
  rfl
theorem evBulkTo_le (top n : Int) (h0 : 0 ≤ n) (h : n ≤ 1099511627776) : ∀ l : List Ev, 0 ≤ evBulkTo top n l ∧ evBulkTo top n l ≤ 1099511627776 := by
  intro l
  induction l generalizing n with
  | nil => exact ⟨h0, h⟩
  | cons m l ih =>
    have h3 := sumTo_le2 n m.stream.size m.data.size h0 h (by omega) (by omega)
    simp only [evBulkTo]
    split
    · exact ih _ h3.1 h3.2
    · omega
theorem evBulk_le (top : Int) (es : List Ev) : 0 ≤ evBulk top es ∧ evBulk top es ≤ 1099511627776 := by
  have h := sumTo_le1 0 es.length (by omega) (by omega) (by omega)
  exact evBulkTo_le top _ h.1 h.2 _
def EvsOk (es : List Ev) : Prop := ∀ e ∈ es, e.stream.size ≤ 9223372036854775807 ∧ e.data.size ≤ 9223372036854775807

set_option maxHeartbeats 1000000 in
theorem events_any (top : Int) (es : List Ev) (A : Option Addr) (c B : Nat) (w : World) (hB : B ≤ w.heap.size) (hl : es.length ≤ 9223372036854775807) (hx : EvsOk es)
    (hs : Sl Ev.cells 7 w B A es) :
    Calls Tryd.prog 31 #[.slice A es.length c, .int .i64 top] w fun e w' => e = .returned (.int .i64 (evBulk top es)) ∧ G w w' := by
  have HX := Lib.hid hx
  clear hx
  unfold evBulk
  go_enter Tryd.func31, Tryd.ntmps31
  go_wp2_with fail
  refine (sum_1 0 es.length _ _ (by omega) (by omega) (by omega) (by omega) (by simp)).mono ?_
  rintro e w1 ⟨rfl, rfl⟩
  have hq := sumTo_le1 0 es.length (by omega) (by omega) (by omega)
  generalize hn0 : sumTo 0 [(es.length : Int)] = n0 at *
  have HN := Lib.hid hn0
  clear hn0
  go_wp2_with fail
  go_loopw [5, 6] (fun t i wr => ∃ (k : Nat) (m : Int), k ≤ es.length ∧ i = .int .i64 k ∧ t = .int .i64 m ∧ 0 ≤ m ∧ m ≤ 1099511627776 ∧ Hid (evBulkTo top n0 es = evBulkTo top m (es.drop k)) ∧ G w wr) (fun _ i _ => es.length - (intOf i).toNat)
  case atStart => exact ⟨0, n0, Nat.zero_le _, rfl, rfl, hq.1, hq.2, by simp [Hid], G.new _ _⟩
  case round =>
    obtain ⟨k, m, hk, rfl, rfl, hm0, hm1, hh, hg⟩ := hrel
    by_cases hlt : k < es.length
    · obtain ⟨x, hx1⟩ : ∃ x, es[k]? = some x := ⟨_, List.getElem?_eq_getElem hlt⟩
      have hsd := Lib.hid (evBulkTo_drop top m es k x hx1)
      obtain ⟨hz0, hz2⟩ := HX.out x (List.mem_of_getElem? hx1)
      obtain ⟨xs, xv, xd, xt, xi⟩ := x
      obtain ⟨b, o, rfl, hb, c0, _, c2, _⟩ := hs.evG hB hx1
      replace hx1 := Lib.hid hx1
      clear hs
      dsimp only at hz0 hz2 c0 c2 hsd
      by_cases htop : m ≤ top
      · go_wp2_with fail
        go_region_held3 (fun w' => G w w') (first | exact hg.drew | exact G.alloc (by assumption) _ | assumption | fail) (first | (go_at_call 28; refine (sum_2 m xs.size xd.size _ _ (by omega) (by omega) (by omega) (by omega) (by omega) (by omega) (by simp) (by simp)).mono ?_; rintro e w2 ⟨rfl, rfl⟩))
        go_wp2_with fail
        go_roundw
        case rel =>
          have hq2 := sumTo_le2 m xs.size xd.size (by omega) (by omega) (by omega) (by omega)
          exact ⟨k + 1, _, by omega, by go_num, rfl, hq2.1, hq2.2, by unfold Hid; rw [hh.out, hsd.out, if_pos (by omega)], by assumption⟩
        case measure => simp [intOf]; omega
      · go_wp2_with fail
        go_ret
        exact ⟨ret_int (by rw [HN.out, hh.out, hsd.out, if_neg (by omega)]), hg⟩
    · go_wp2_with fail
      go_ret
      exact ⟨ret_int (by rw [HN.out, hh.out, List.drop_eq_nil_of_le (by omega)]; rfl), hg⟩
end Go.Proofs.YtheogchkelmeeaaDoor
/- Streams: how they lie, their sizes; what is written of them. Plain mathematics. No condition. -/
namespace Go.Proofs.YtheogchkelmeeaaDoor
open Go.RowKit

/-- A stream's events and keys as they lie. -/
def SmIn (w : World) (B : Nat) (A A2 : Option Addr) (es : List Ev) (ks : List Kn) : Prop := Sl Ev.cells 7 w B A es ∧ Sl Kn.cells 5 w B A2 ks
theorem SmIn.g {w w' : World} {B : Nat} {A A2 : Option Addr} {es : List Ev} {ks : List Kn} (h : SmIn w B A A2 es ks) (hB : B ≤ w.heap.size) (hg : G w w') : SmIn w' B A A2 es ks := ⟨h.1.g hB hg, h.2.g hB hg⟩
theorem SmIn.more {w : World} {B B' : Nat} {A A2 : Option Addr} {es : List Ev} {ks : List Kn} (h : SmIn w B A A2 es ks) (hB : B ≤ B') : SmIn w B' A A2 es ks := ⟨h.1.more hB, h.2.more hB⟩
/-- A stream that is not too great. -/
def SmSmall (n : ByteArray) (es : List Ev) (ks : List Kn) : Prop := n.size ≤ 524288 ∧ (es.length ≤ 524289 ∧ ∀ e ∈ es, e.stream.size ≤ 524288 ∧ e.data.size ≤ 524288) ∧ ks.length ≤ 524289 ∧ ∀ k ∈ ks, k.key.size ≤ 524288
theorem text_len (s : ByteArray) : (textL s.data.toList).length ≤ s.size + 10 := by
  unfold textL
  rw [List.length_append, data_len]
  have := vL_len s.size
  omega
theorem st_len (s : St) : (stL s).length ≤ 30 := by
  unfold stL
  simp only [List.length_append]
  have := vL_len s.wall.toNat
  have := vL_len s.logic.toNat
  have := vL_len s.node.toNat
  omega
theorem evL_len (e : Ev) : (evL e).length ≤ e.stream.size + e.data.size + 80 := by
  unfold evL
  split
  · unfold evBytes
    simp only [List.length_append]
    have := text_len e.stream
    have := text_len e.data
    have := vL_len e.version.toNat
    have := vL_len e.index.toNat
    have := st_len e.st
    omega
  · simp
theorem knBytes_len (k : Kn) : (knBytes k).length ≤ k.key.size + 50 := by
  unfold knBytes
  simp only [List.length_append]
  have := text_len k.key
  have := vL_len k.first.toNat
  have := st_len k.st
  omega
/-- A stream's head: its name, how many events. -/
def smHead (n : ByteArray) (k : Nat) : List UInt8 := textL n.data.toList ++ vL k
theorem smL_bad {n : ByteArray} {es : List Ev} {ks : List Kn} (h : nameB n = false ∨ (∃ e ∈ es, smEv n e = false) ∨ ∃ k ∈ ks, knOk k = false) : smL ⟨n, es, ks⟩ = [] := by
  refine smL_no ?_
  cases hs : smOk ⟨n, es, ks⟩ with
  | false => rfl
  | true =>
    rw [smOk_iff] at hs
    simp only at hs
    rcases h with h | ⟨e, he, h⟩ | ⟨k, hk, h⟩
    · rw [hs.1] at h; cases h
    · have := hs.2.1 e he
      unfold smEv at h
      rw [this.1, decide_eq_true this.2] at h
      cases h
    · have := hs.2.2 k hk
      rw [this] at h
      cases h
theorem smL_all {n : ByteArray} {es : List Ev} {ks : List Kn} (h1 : nameB n = true) (h2 : ∀ e ∈ es, smEv n e = true) (h3 : ∀ k ∈ ks, knOk k = true) : smL ⟨n, es, ks⟩ = ((smHead n es.length ++ es.flatMap evL) ++ vL ks.length) ++ ks.flatMap knBytes ∧ smL ⟨n, es, ks⟩ ≠ [] := by
  have hs : smOk ⟨n, es, ks⟩ = true := by
    unfold smOk
    simp only [Bool.and_eq_true, List.all_eq_true]
    exact ⟨⟨h1, h2⟩, h3⟩
  constructor
  · rw [smL_ok hs]
    unfold smBytes smHead
    simp only [List.append_assoc]
  · rw [smL_ok hs]
    intro h
    have := smBytes_pos ⟨n, es, ks⟩
    rw [h] at this
    simp at this
theorem flatLe {α : Type} (f : α → List UInt8) (M : Nat) : ∀ (l : List α), (∀ x ∈ l, (f x).length ≤ M) → (l.flatMap f).length ≤ l.length * M
  | [], _ => by simp
  | x :: l, h => by
    have h1 := flatLe f M l fun y hy => h y (by simp [hy])
    have h2 := h x (by simp)
    rw [List.flatMap_cons, List.length_append, List.length_cons, Nat.succ_mul]
    omega
theorem smL_small {n : ByteArray} {es : List Ev} {ks : List Kn} (h : SmSmall n es ks) : (smL ⟨n, es, ks⟩).length ≤ 1099511627776 := by
  obtain ⟨h0, ⟨h1, h2⟩, h3, h4⟩ := h
  unfold smL
  split
  · unfold smBytes
    have a1 := flatLe evL 1048700 es fun e he => by
      have := evL_len e
      have := h2 e he
      omega
    have a2 := flatLe knBytes 524400 ks fun k hk => by
      have := knBytes_len k
      have := h4 k hk
      omega
    have b1 := Nat.mul_le_mul_right 1048700 h1
    have b2 := Nat.mul_le_mul_right 524400 h3
    have := text_len n
    have := vL_len es.length
    have := vL_len ks.length
    simp only [List.length_append]
    omega
  · simp
end Go.Proofs.YtheogchkelmeeaaDoor

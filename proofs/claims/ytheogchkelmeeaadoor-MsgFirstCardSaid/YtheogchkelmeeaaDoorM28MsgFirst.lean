/- Several texts in one: Wr, RecLaw, RecCodeLaw. -/
import Derived.Test.YtheogchkelmeeaaDoorM8MsgFirst
import Derived.Test.YtheogchkelmeeaaDoorM12MsgFirst
import Derived.Test.YtheogchkelmeeaaDoorM20MsgFirst
import Derived.Test.YtheogchkelmeeaaDoorM13MsgFirst
/- Writers of bytes behind a pointer: what they hold, how they stand. No condition. -/
namespace Go.Proofs.YtheogchkelmeeaaDoor
open Go.RowKit

/-- What a writer's call leaves: all below the base, and each block of another type than bytes but its own. -/
def Kw (R base : Nat) (w w' : World) : Prop := Below base w w' ∧ ∀ (k : Nat) (cs : Array Value) (t : TypeId) (fz : Nat × Nat), t ≠ 5 → k ≠ R → w.heap[k]? = some (.cells cs t fz) → w'.heap[k]? = some (.cells cs t fz)
theorem Kw.refl (R base : Nat) (w : World) : Kw R base w w := ⟨Below.refl _ _, fun _ _ _ _ _ _ h => h⟩
theorem Kw.trans {R base : Nat} {a b c : World} (h : Kw R base a b) (k : Kw R base b c) : Kw R base a c := ⟨h.1.trans k.1, fun g cs t fz ht hr hh => k.2 g cs t fz ht hr (h.2 g cs t fz ht hr hh)⟩
theorem Kw.size {R base : Nat} {a b : World} (h : Kw R base a b) : a.heap.size ≤ b.heap.size := h.1.size
theorem Kw.of_g {R base : Nat} {a b : World} (h : G a b) (hb : base ≤ a.heap.size) : Kw R base a b := ⟨Below.mono h hb, fun _ _ _ _ _ _ hh => h.blk hh⟩
theorem Kw.of_keep {R base : Nat} {a b : World} (h : KeepT 5 base a b) : Kw R base a b := ⟨h.1, fun k cs t fz ht _ hh => h.2 k cs t fz ht hh⟩
theorem Kw.blk {R base : Nat} {a b : World} (h : Kw R base a b) {k : Nat} {cs : Array Value} {t : TypeId} {fz : Nat × Nat} (ht : t ≠ 5) (hr : k ≠ R) (hh : a.heap[k]? = some (.cells cs t fz)) : b.heap[k]? = some (.cells cs t fz) := h.2 k cs t fz ht hr hh
theorem Kw.set {R base : Nat} {w : World} (hR : base ≤ R) (o : Nat) (u : Value) : Kw R base w (w.setCell ⟨R, o, none⟩ u) := by
  have hb := but_set w R o u
  exact ⟨⟨hb.os, hb.tape, hb.output, hb.size, fun k hk => by
    refine Below.heap_setCell _ _ _ _ ?_
    show k ≠ R
    omega⟩, fun k cs t fz _ hr hh => hb.blk hh hr⟩
/-- A slice below the base stays. -/
theorem Kw.sl {α : Type} {f : α → List Value} {sz R base B : Nat} {A : Option Addr} {xs : List α} {w w' : World} (h : Kw R base w w') (hs : Sl f sz w B A xs) (hB : B ≤ base) : Sl f sz w' B A xs := fun hn => by
  obtain ⟨b, o, e, hb, hc⟩ := hs hn
  exact ⟨b, o, e, hb, fun k x hx j u hu => (World.cell?_of_block (w := w) (h.1.block b (by omega))).trans (hc k x hx j u hu)⟩
/-- The writer holds these bytes; none: it is bad. At most n bytes lie there. -/
def WrS (T : TypeId) (R base n : Nat) (st : Option (List UInt8)) (w : World) : Prop :=
  ∃ v l, w.heap[R]? = some (.cells #[v, .bool st.isNone] T (0, 0)) ∧ OwnL 5 1 byteC w base v l ∧ l.length ≤ n ∧ (∀ l', st = some l' → l' = l)
section
variable {T : TypeId} {R base n : Nat} {st : Option (List UInt8)} {w w' : World}
theorem WrS.lt (h : WrS T R base n st w) : R < w.heap.size := by obtain ⟨v, l, h1, _⟩ := h; exact blk_lt h1
theorem WrS.g (h : WrS T R base n st w) (hg : G w w') : WrS T R base n st w' := by
  obtain ⟨v, l, h1, h2, h3, h4⟩ := h
  exact ⟨v, l, hg.blk h1, h2.g hg, h3, h4⟩
theorem WrS.more {n' : Nat} (h : WrS T R base n st w) (hn : n ≤ n') : WrS T R base n' st w := by
  obtain ⟨v, l, h1, h2, h3, h4⟩ := h
  exact ⟨v, l, h1, h2, by omega, h4⟩
theorem WrS.c1 (h : WrS T R base n st w) : w.cell? ⟨R, 1, none⟩ = some (.bool st.isNone) := by obtain ⟨v, l, h1, _⟩ := h; rw [blk_cell h1]; rfl
theorem WrS.free (h : WrS T R base n st w) (o : Nat) : w.frozen? ⟨R, o, none⟩ = false := by obtain ⟨v, l, h1, _⟩ := h; simp [World.frozen?, h1]
/-- Its row is no block of the writer's own. -/
theorem own_ne {v : Value} {l : List UInt8} {cs : Array Value} (hT : T ≠ 5) (h1 : w.heap[R]? = some (.cells cs T (0, 0))) (h2 : OwnL 5 1 byteC w base v l) : ∀ k, v.ownBlock = some k → ¬ k = R := by
  rintro k hk rfl
  obtain ⟨_, _, cs', h3⟩ := h2.blk hk
  rw [h1] at h3
  cases h3
  exact hT rfl
theorem WrS.turn (hT : T ≠ 5) (h : WrS T R base n st w) : WrS T R base n none (w.setCell ⟨R, 1, none⟩ (.bool true)) := by
  obtain ⟨v, l, h1, h2, h3, h4⟩ := h
  exact ⟨v, l, by rw [blk_put h1]; rfl, h2.but' (but_set w R 1 _) (own_ne hT h1 h2), h3, fun l' e => by cases e⟩
theorem WrS.stay (hT : T ≠ 5) (h : WrS T R base n st w) : WrS T R base n st (w.setCell ⟨R, 1, none⟩ (.bool st.isNone)) := by
  obtain ⟨v, l, h1, h2, h3, h4⟩ := h
  exact ⟨v, l, by rw [blk_put h1]; rfl, h2.but' (but_set w R 1 _) (own_ne hT h1 h2), h3, h4⟩
/-- A writer that is good, with its row shown. -/
theorem WrS.row {l : List UInt8} (h : WrS T R base n (some l) w) : ∃ A c, w.heap[R]? = some (.cells #[.slice A l.length c, .bool false] T (0, 0)) ∧ OwnL 5 1 byteC w base (.slice A l.length c) l ∧ l.length ≤ n := by
  obtain ⟨v, l', h1, h2, h3, h4⟩ := h
  obtain rfl := h4 l rfl
  obtain ⟨A, c, rfl, _⟩ := OwnL.sl byteC_len h2
  exact ⟨A, c, h1, h2, h3⟩
theorem WrS.rowN (h : WrS T R base n st w) : ∃ A c l, w.heap[R]? = some (.cells #[.slice A l.length c, .bool st.isNone] T (0, 0)) ∧ OwnL 5 1 byteC w base (.slice A l.length c) l ∧ l.length ≤ n ∧ (∀ l', st = some l' → l' = l) := by
  obtain ⟨v, l, h1, h2, h3, h4⟩ := h
  obtain ⟨A, c, rfl, _⟩ := OwnL.sl byteC_len h2
  exact ⟨A, c, l, h1, h2, h3, h4⟩
/-- A longer row is laid into it. -/
theorem WrS.put {v : Value} {l : List UInt8} {cs : Array Value} {b : Bool} (hT : T ≠ 5) (hst : b = st.isNone) (h1 : w.heap[R]? = some (.cells cs T (0, 0))) (hcs : cs = #[cs[0]!, .bool b]) (h2 : OwnL 5 1 byteC w base v l) (hl : l.length ≤ n) (hs : ∀ l', st = some l' → l' = l) : WrS T R base n st (w.setCell ⟨R, 0, none⟩ v) := by
  subst hst
  refine ⟨v, l, ?_, h2.but' (but_set w R 0 _) (own_ne hT h1 h2), hl, hs⟩
  rw [blk_put h1, hcs]
  rfl
end
/-- Numbers of a writer's: from 0 to lim. -/
def okI (lim n : Int) : Bool := decide (0 ≤ n ∧ n ≤ lim)
def okIs (lim : Int) (ns : List Int) : Bool := ns.all (okI lim)
def nL (n : Int) : List UInt8 := vL n.toNat
def nLs (ns : List Int) : List UInt8 := ns.flatMap nL
/-- A writer's bytes with numbers behind. -/
def addNs (lim : Int) (ns : List Int) (st : Option (List UInt8)) : Option (List UInt8) := st.bind fun l => if okIs lim ns = true then some (l ++ nLs ns) else none
def addB (b : List UInt8) (st : Option (List UInt8)) : Option (List UInt8) := st.bind fun l => if b = [] then none else some (l ++ b)
def addMany (lim : Int) (k : Nat) (st : Option (List UInt8)) : Option (List UInt8) := st.bind fun l => if k ≤ 1000 then addNs lim [(k : Int)] (some l) else none
theorem nL_len (n : Int) : (nL n).length ≤ 10 := vL_len _
theorem nLs_len (ns : List Int) : (nLs ns).length ≤ ns.length * 10 := by
  unfold nLs
  induction ns with
  | nil => simp
  | cons x l ih =>
    rw [List.flatMap_cons, List.length_append, List.length_cons]
    have := nL_len x
    omega
theorem nLs_take {ns : List Int} {k : Nat} {x : Int} (h : ns[k]? = some x) : nLs (ns.take (k + 1)) = nLs (ns.take k) ++ nL x := flat_take_succ nL h
theorem okIs_take {lim : Int} {ns : List Int} {k : Nat} {x : Int} (h : ns[k]? = some x) (h1 : okIs lim (ns.take k) = true) (h2 : okI lim x = true) : okIs lim (ns.take (k + 1)) = true := by
  unfold okIs at *
  rw [List.take_add_one, h, List.all_append, h1]
  simpa using h2
theorem okIs_not {lim : Int} {ns : List Int} {k : Nat} {x : Int} (h : ns[k]? = some x) (h2 : okI lim x = false) : okIs lim ns = false := by
  unfold okIs
  rw [List.all_eq_false]
  exact ⟨x, List.mem_of_getElem? h, by simp [h2]⟩
theorem addNs_none (lim : Int) (ns : List Int) : addNs lim ns none = none := rfl
theorem addNs_no {lim : Int} {ns : List Int} {st : Option (List UInt8)} (h : okIs lim ns = false) : addNs lim ns st = none := by
  cases st with
  | none => rfl
  | some l => simp [addNs, h]
theorem addNs_yes {lim : Int} {ns : List Int} {l : List UInt8} (h : okIs lim ns = true) : addNs lim ns (some l) = some (l ++ nLs ns) := by simp [addNs, h]
/-- What a writer's call answers. -/
def WrPost (T : TypeId) (R base n : Nat) (st : Option (List UInt8)) (w : World) (e : Ending) (w' : World) : Prop := e = .returned (.tuple #[]) ∧ WrS T R base n st w' ∧ Kw R base w w'
end Go.Proofs.YtheogchkelmeeaaDoor
/- Records: what they are made of, which fields a kind names, how they are written. Plain mathematics. No condition. -/
namespace Go.Proofs.YtheogchkelmeeaaDoor
open Go.RowKit

/-- The fields that a kind names. -/
structure Fl where
  n : Bool := false
  dst : Bool := false
  yes : Bool := false
  st : Bool := false
  tx : Bool := false
  nodes : Bool := false
  bat : Bool := false
  span : Bool := false
  sms : Bool := false
def Fl.cells (f : Fl) : Array Value := #[.bool f.n, .bool f.dst, .bool f.yes, .bool f.st, .bool f.tx, .bool f.nodes, .bool f.bat, .bool f.span, .bool f.sms]
def flOf (k : Int) : Fl :=
  if k = 1 ∨ k = 2 ∨ k = 8 then { n := true } else if k = 3 then { bat := true, st := true } else if k = 4 then { tx := true, bat := true, st := true } else if k = 5 then { tx := true, yes := true, st := true }
  else if k = 6 then { tx := true, yes := true, st := true, nodes := true } else if k = 7 then { tx := true } else if k = 9 then { span := true, dst := true } else if k = 10 then { span := true, st := true, sms := true } else if k = 11 then { span := true } else {}
def fOk (k : Int) : Bool := decide (1 ≤ k ∧ k ≤ 11)
theorem kind_cases (k : Int) : k = 1 ∨ k = 2 ∨ k = 3 ∨ k = 4 ∨ k = 5 ∨ k = 6 ∨ k = 7 ∨ k = 8 ∨ k = 9 ∨ k = 10 ∨ k = 11 ∨ fOk k = false := by
  by_cases h : 1 ≤ k ∧ k ≤ 11
  · omega
  · simp [fOk, h]
theorem fOk_no {k : Int} (h : fOk k = false) : ¬ (1 ≤ k ∧ k ≤ 11) := of_decide_eq_false h
/-- A record as plain data. -/
structure RecP where
  kind : Int
  n : Int
  dst : Int
  yes : Bool
  st : St
  x1 : Int
  x2 : Int
  x3 : Int
  nodes : List Int
  key : ByteArray
  ps : List PutP
  r1 : Int
  r2 : Int
  r3 : Int
  r4 : Int
  sms : List Sm
/-- Are the fields zero that are not named? -/
def spareB (r : RecP) (f : Fl) : Bool :=
  (f.n || decide (r.n = 0)) && (f.dst || decide (r.dst = 0)) && (f.yes || !r.yes) && (f.st || decide (r.st = ⟨0, 0, 0⟩)) && (f.tx || decide (r.x1 = 0 ∧ r.x2 = 0 ∧ r.x3 = 0)) && (f.span || decide (r.r1 = 0 ∧ r.r2 = 0 ∧ r.r3 = 0 ∧ r.r4 = 0))
    && (f.nodes || decide (r.nodes = [])) && (f.sms || decide (r.sms.length = 0)) && (f.bat || decide (r.key = ByteArray.empty ∧ r.ps.length = 0))
def rLim : Int := 1125899906842624
/-- The fields that have no list, behind a writer's bytes. -/
def headS (r : RecP) (f : Fl) (s : Option (List UInt8)) : Option (List UInt8) :=
  let s := if f.n = true then addNs 1125899906842624 [r.n] s else s
  let s := if f.tx = true then addNs 1125899906842624 [r.x1, r.x2, r.x3] s else s
  let s := if f.yes = true then s.map (fun l => l ++ [if r.yes = true then 1 else 0]) else s
  let s := if f.bat = true then addB (batL r.key r.ps) s else s
  let s := if f.span = true then addNs 1125899906842624 [r.r1, r.r2, r.r3, r.r4] s else s
  let s := if f.dst = true then addNs 1125899906842624 [r.dst] s else s
  if f.st = true then addB (stE r.st) s else s
/-- Streams behind a writer's bytes. -/
def addSms : List Sm → Option (List UInt8) → Option (List UInt8)
  | [], s => s
  | m :: l, s => addSms l (addB (smL m) s)
theorem addSms_none : ∀ l, addSms l none = none
  | [] => rfl
  | _ :: l => addSms_none l
theorem addSms_drop {l : List Sm} {k : Nat} {m : Sm} (h : l[k]? = some m) (s : Option (List UInt8)) : addSms (l.drop k) s = addSms (l.drop (k + 1)) (addB (smL m) s) := by
  obtain ⟨hk, rfl⟩ := List.getElem?_eq_some_iff.1 h
  rw [List.drop_eq_getElem_cons hk]
  rfl
def listsS (r : RecP) (f : Fl) (s : Option (List UInt8)) : Option (List UInt8) :=
  let s := if f.nodes = true then addNs 1125899906842624 r.nodes (addMany 1125899906842624 r.nodes.length s) else s
  if f.sms = true then addSms r.sms (addMany 1125899906842624 r.sms.length s) else s
/-- A record as bytes; none: it is none. -/
def encR (r : RecP) : Option (List UInt8) :=
  if fOk r.kind = true ∧ spareB r (flOf r.kind) = true then listsS r (flOf r.kind) (headS r (flOf r.kind) (some [UInt8.ofNat r.kind.toNat])) else none
end Go.Proofs.YtheogchkelmeeaaDoor
/- Records: the document's check and its bytes are the program's. Plain mathematics. No condition. -/
namespace Go.Proofs.YtheogchkelmeeaaDoor
open Go.RowKit

/-- Some bytes, where they may be. -/
def opt (b : Bool) (l : List UInt8) : Option (List UInt8) := if b = true then some l else none
theorem addNs_opt (lim : Int) (ns : List Int) (b : Bool) (l : List UInt8) : addNs lim ns (opt b l) = opt (b && okIs lim ns) (l ++ nLs ns) := by
  cases b
  · rfl
  · cases h : okIs lim ns <;> simp [opt, addNs, h]
theorem addB_opt (x : List UInt8) (b : Bool) (l : List UInt8) : addB x (opt b l) = opt (b && decide (x ≠ [])) (l ++ x) := by
  cases b
  · rfl
  · by_cases h : x = [] <;> simp [opt, addB, h]
theorem addMany_opt (lim : Int) (hlim : 1000 ≤ lim) (k : Nat) (b : Bool) (l : List UInt8) : addMany lim k (opt b l) = opt (b && decide (k ≤ 1000)) (l ++ vL k) := by
  cases b
  · rfl
  · by_cases h : k ≤ 1000
    · have h1 : okIs lim [(k : Int)] = true := by simp [okIs, okI]; omega
      simp [opt, addMany, addNs, h, h1, nLs, nL]
    · simp [opt, addMany, h]
theorem addSms_opt : ∀ (sms : List Sm) (b : Bool) (l : List UInt8), addSms sms (opt b l) = opt (b && sms.all fun m => decide (smL m ≠ [])) (l ++ sms.flatMap smL)
  | [], b, l => by simp [addSms]
  | m :: sms, b, l => by
    have h := addSms_opt sms (b && decide (smL m ≠ [])) (l ++ smL m)
    rw [addSms, addB_opt, h]
    simp [Bool.and_assoc]
theorem map_opt (x : List UInt8) (b : Bool) (l : List UInt8) : (opt b l).map (fun l => l ++ x) = opt b (l ++ x) := by cases b <;> rfl
theorem opt_one (l : List UInt8) : some l = opt true l := rfl
/-- What the document asks besides. -/
def restR (r : RecP) : Bool :=
  stOk r.st && (decide (r.nodes.length ≤ 1000) && (decide (r.sms.length ≤ 1000) && (okIs 1125899906842624 ([r.n, r.dst, r.x1, r.x2, r.x3, r.r1, r.r2, r.r3, r.r4] ++ r.nodes) && ((r.sms.all fun m => decide (smL m ≠ [])) && (!(flOf r.kind).bat || decide (chkN r.key r.ps = 0))))))
def chkR (r : RecP) : Bool := fOk r.kind && (spareB r (flOf r.kind) && restR r)
/-- The document's bytes. -/
def docR (r : RecP) : List UInt8 :=
  let k := [UInt8.ofNat r.kind.toNat]
  if r.kind = 1 ∨ r.kind = 2 ∨ r.kind = 8 then k ++ nL r.n
  else if r.kind = 3 then (k ++ batL r.key r.ps) ++ stL r.st
  else if r.kind = 4 then ((k ++ nLs [r.x1, r.x2, r.x3]) ++ batL r.key r.ps) ++ stL r.st
  else if r.kind = 5 then ((k ++ nLs [r.x1, r.x2, r.x3]) ++ [if r.yes = true then 1 else 0]) ++ stL r.st
  else if r.kind = 6 then ((((k ++ nLs [r.x1, r.x2, r.x3]) ++ [if r.yes = true then 1 else 0]) ++ stL r.st) ++ vL r.nodes.length) ++ nLs r.nodes
  else if r.kind = 7 then k ++ nLs [r.x1, r.x2, r.x3]
  else if r.kind = 9 then (k ++ nLs [r.r1, r.r2, r.r3, r.r4]) ++ nL r.dst
  else if r.kind = 10 then (((k ++ nLs [r.r1, r.r2, r.r3, r.r4]) ++ stL r.st) ++ vL r.sms.length) ++ r.sms.flatMap smL
  else k ++ nLs [r.r1, r.r2, r.r3, r.r4]
theorem stE_ne (s : St) : decide (stE s ≠ []) = stOk s := by
  cases h : stOk s
  · simp [stE_no h]
  · rw [stE_ok h]
    have : stL s ≠ [] := by
      intro h2
      have := congrArg List.length h2
      unfold stL at this
      rw [List.length_append] at this
      have h3 := vL_pos s.wall.toNat
      rw [List.length_nil] at this
      omega
    simp [this]
theorem stOk_zero : stOk ⟨0, 0, 0⟩ = true := by decide
theorem batL_ne (key : ByteArray) (ps : List PutP) : decide (batL key ps ≠ []) = decide (chkN key ps = 0) := by
  rw [decide_eq_decide]
  constructor
  · intro h
    by_cases h2 : chkN key ps = 0
    · exact h2
    · exact absurd (batL_no h2) h
  · intro h h2
    rw [batL_ok h] at h2
    have := batBytes_pos key ps
    rw [h2] at this
    simp at this
theorem okI_zero : okI 1125899906842624 0 = true := by decide
theorem okIs_cons (lim n : Int) (l : List Int) : okIs lim (n :: l) = (okI lim n && okIs lim l) := rfl
theorem okIs_nil (lim : Int) : okIs lim [] = true := rfl
theorem nLs_one (n : Int) : nLs [n] = nL n := by simp [nLs]
theorem opt_eq {b b' : Bool} {l l' : List UInt8} (hb : b = b') (hl : b = true → l = l') : opt b l = opt b' l' := by
  subst hb
  cases b
  · rfl
  · rw [hl rfl]
theorem stE_of {s : St} {b c : Bool} (h : (b && (stOk s && c)) = true) : stE s = stL s := stE_ok (by simp at h; exact h.2.1)
theorem fl1 : flOf 1 = { n := true } := by rfl
theorem fl2 : flOf 2 = { n := true } := by rfl
theorem fl8 : flOf 8 = { n := true } := by rfl
theorem fl3 : flOf 3 = { bat := true, st := true } := by rfl
theorem fl4 : flOf 4 = { tx := true, bat := true, st := true } := by rfl
theorem fl5 : flOf 5 = { tx := true, yes := true, st := true } := by rfl
theorem fl6 : flOf 6 = { tx := true, yes := true, st := true, nodes := true } := by rfl
theorem fl7 : flOf 7 = { tx := true } := by rfl
theorem fl9 : flOf 9 = { span := true, dst := true } := by rfl
theorem fl10 : flOf 10 = { span := true, st := true, sms := true } := by rfl
theorem fl11 : flOf 11 = { span := true } := by rfl
theorem batL_empty : chkN ByteArray.empty [] ≠ 0 := by decide
set_option maxHeartbeats 4000000 in
theorem encR_eq (r : RecP) : encR r = opt (chkR r) (docR r) := by
  obtain ⟨kind, n, dst, yes, st, x1, x2, x3, nodes, key, ps, r1, r2, r3, r4, sms⟩ := r
  unfold encR chkR
  by_cases hk : fOk kind = true
  · by_cases hs : spareB ⟨kind, n, dst, yes, st, x1, x2, x3, nodes, key, ps, r1, r2, r3, r4, sms⟩ (flOf kind) = true
    · rw [if_pos ⟨hk, hs⟩]
      simp only [hk, hs, Bool.true_and]
      rcases kind_cases kind with rfl | rfl | rfl | rfl | rfl | rfl | rfl | rfl | rfl | rfl | rfl | h
      all_goals first
        | (rw [hk] at h; cases h)
        | (simp only [fl1, fl2, fl3, fl4, fl5, fl6, fl7, fl8, fl9, fl10, fl11, spareB, Bool.false_or, Bool.true_or, Bool.true_and, Bool.and_true, Bool.and_eq_true, decide_eq_true_eq, Bool.not_eq_true', List.length_eq_zero_iff] at hs
           simp only [headS, listsS, fl1, fl2, fl3, fl4, fl5, fl6, fl7, fl8, fl9, fl10, fl11, Bool.false_eq_true, if_false, if_true, opt_one, addNs_opt, addB_opt, map_opt, addMany_opt 1125899906842624 (by decide), addSms_opt, stE_ne, batL_ne, restR]
           refine opt_eq ?_ ?_
           · simp [hs, okIs_cons, okIs_nil, okI_zero, stOk_zero]
             try ac_rfl
           · intro hb
             simp at hb
             simp [docR, nLs_one, hb, stE_ok]
           )
    · rw [if_neg (fun h => hs h.2)]
      simp [Bool.eq_false_iff.2 hs, opt]
  · rw [if_neg (fun h => hk h.1)]
    simp [Bool.eq_false_iff.2 hk, opt]
end Go.Proofs.YtheogchkelmeeaaDoor

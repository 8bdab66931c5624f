/- Several texts in one: Wr, RecLaw, RecNamed. -/
import Derived.Test.YthafeaclpcjjbaaDoorM8RecBack
import Derived.Test.YthafeaclpcjjbaaDoorM12RecBack
import Derived.Test.YthafeaclpcjjbaaDoorM19RecBack
import Derived.Test.YthafeaclpcjjbaaDoorM13RecBack
/- Writers of bytes behind a pointer: what they hold, how they stand. No condition. -/
namespace Go.Proofs.YthafeaclpcjjbaaDoor
open Go.RowKit

/-- What a writer's call leaves: all below the base, and each block of another type than bytes but its own. -/
def Kw (R base : Nat) (w w' : World) : Prop := Below base w w' ∧ ∀ (k : Nat) (cs : Array Value) (t : TypeId) (fz : Nat × Nat), t ≠ 5 → k ≠ R → w.heap[k]? = some (.cells cs t fz) → w'.heap[k]? = some (.cells cs t fz)
theorem Kw.refl (R base : Nat) (w : World) : Kw R base w w := ⟨Below.refl _ _, fun _ _ _ _ _ _ h => h⟩
theorem Kw.trans {R base : Nat} {a b c : World} (h : Kw R base a b) (k : Kw R base b c) : Kw R base a c := ⟨h.1.trans k.1, fun g cs t fz ht hr hh => k.2 g cs t fz ht hr (h.2 g cs t fz ht hr hh)⟩
theorem Kw.size {R base : Nat} {a b : World} (h : Kw R base a b) : a.heap.size ≤ b.heap.size := h.1.size
theorem Kw.of_g {R base : Nat} {a b : World} (h : G a b) (hb : base ≤ a.heap.size) : Kw R base a b := ⟨Below.mono h hb, fun _ _ _ _ _ _ hh => h.blk hh⟩
theorem Kw.of_keep {R base : Nat} {a b : World} (h : KeepT 5 base a b) : Kw R base a b := ⟨h.1, fun k cs t fz ht _ hh => h.2 k cs t fz ht hh⟩
theorem Kw.blk {R base : Nat} {a b : World} (h : Kw R base a b) {k : Nat} {cs : Array Value} {t : TypeId} {fz : Nat × Nat} (ht : t ≠ 5) (hr : k ≠ R) (hh : a.heap[k]? = some (.cells cs t fz)) : b.heap[k]? = some (.cells cs t fz) := h.2 k cs t fz ht hr hh
theorem Kw.set {R base : Nat} {w : World} (hR : base ≤ R) (o : Nat) (u : Value) : Kw R base w (w.setCell ⟨R, o, none⟩ u) := by
  have hb := but_set w R o u
  exact ⟨⟨hb.os, hb.tape, hb.output, hb.size, fun k hk => by
    refine Below.heap_setCell _ _ _ _ ?_
    show k ≠ R
    omega⟩, fun k cs t fz _ hr hh => hb.blk hh hr⟩
/-- A slice below the base stays. -/
theorem Kw.sl {α : Type} {f : α → List Value} {sz R base B : Nat} {A : Option Addr} {xs : List α} {w w' : World} (h : Kw R base w w') (hs : Sl f sz w B A xs) (hB : B ≤ base) : Sl f sz w' B A xs := fun hn => by
  obtain ⟨b, o, e, hb, hc⟩ := hs hn
  exact ⟨b, o, e, hb, fun k x hx j u hu => (World.cell?_of_block (w := w) (h.1.block b (by omega))).trans (hc k x hx j u hu)⟩
/-- The writer holds these bytes; none: it is bad. At most n bytes lie there. -/
def WrS (T : TypeId) (R base n : Nat) (st : Option (List UInt8)) (w : World) : Prop :=
  ∃ v l, w.heap[R]? = some (.cells #[v, .bool st.isNone] T (0, 0)) ∧ OwnL 5 1 byteC w base v l ∧ l.length ≤ n ∧ (∀ l', st = some l' → l' = l)
section
variable {T : TypeId} {R base n : Nat} {st : Option (List UInt8)} {w w' : World}
theorem WrS.lt (h : WrS T R base n st w) : R < w.heap.size := by obtain ⟨v, l, h1, _⟩ := h; exact blk_lt h1
theorem WrS.g (h : WrS T R base n st w) (hg : G w w') : WrS T R base n st w' := by
  obtain ⟨v, l, h1, h2, h3, h4⟩ := h
  exact ⟨v, l, hg.blk h1, h2.g hg, h3, h4⟩
theorem WrS.more {n' : Nat} (h : WrS T R base n st w) (hn : n ≤ n') : WrS T R base n' st w := by
  obtain ⟨v, l, h1, h2, h3, h4⟩ := h
  exact ⟨v, l, h1, h2, by omega, h4⟩
theorem WrS.c1 (h : WrS T R base n st w) : w.cell? ⟨R, 1, none⟩ = some (.bool st.isNone) := by obtain ⟨v, l, h1, _⟩ := h; rw [blk_cell h1]; rfl
theorem WrS.free (h : WrS T R base n st w) (o : Nat) : w.frozen? ⟨R, o, none⟩ = false := by obtain ⟨v, l, h1, _⟩ := h; simp [World.frozen?, h1]
/-- Its row is no block of the writer's own. -/
theorem own_ne {v : Value} {l : List UInt8} {cs : Array Value} (hT : T ≠ 5) (h1 : w.heap[R]? = some (.cells cs T (0, 0))) (h2 : OwnL 5 1 byteC w base v l) : ∀ k, v.ownBlock = some k → ¬ k = R := by
  rintro k hk rfl
  obtain ⟨_, _, cs', h3⟩ := h2.blk hk
  rw [h1] at h3
  cases h3
  exact hT rfl
theorem WrS.turn (hT : T ≠ 5) (h : WrS T R base n st w) : WrS T R base n none (w.setCell ⟨R, 1, none⟩ (.bool true)) := by
  obtain ⟨v, l, h1, h2, h3, h4⟩ := h
  exact ⟨v, l, by rw [blk_put h1]; rfl, h2.but' (but_set w R 1 _) (own_ne hT h1 h2), h3, fun l' e => by cases e⟩
theorem WrS.stay (hT : T ≠ 5) (h : WrS T R base n st w) : WrS T R base n st (w.setCell ⟨R, 1, none⟩ (.bool st.isNone)) := by
  obtain ⟨v, l, h1, h2, h3, h4⟩ := h
  exact ⟨v, l, by rw [blk_put h1]; rfl, h2.but' (but_set w R 1 _) (own_ne hT h1 h2), h3, h4⟩
/-- A writer that is good, with its row shown. -/
theorem WrS.row {l : List UInt8} (h : WrS T R base n (some l) w) : ∃ A c, w.heap[R]? = some (.cells #[.slice A l.length c, .bool false] T (0, 0)) ∧ OwnL 5 1 byteC w base (.slice A l.length c) l ∧ l.length ≤ n := by
  obtain ⟨v, l', h1, h2, h3, h4⟩ := h
  obtain rfl := h4 l rfl
  obtain ⟨A, c, rfl, _⟩ := OwnL.sl byteC_len h2
  exact ⟨A, c, h1, h2, h3⟩
theorem WrS.rowN (h : WrS T R base n st w) : ∃ A c l, w.heap[R]? = some (.cells #[.slice A l.length c, .bool st.isNone] T (0, 0)) ∧ OwnL 5 1 byteC w base (.slice A l.length c) l ∧ l.length ≤ n ∧ (∀ l', st = some l' → l' = l) := by
  obtain ⟨v, l, h1, h2, h3, h4⟩ := h
  obtain ⟨A, c, rfl, _⟩ := OwnL.sl byteC_len h2
  exact ⟨A, c, l, h1, h2, h3, h4⟩
/-- A longer row is laid into it. -/
theorem WrS.put {v : Value} {l : List UInt8} {cs : Array Value} {b : Bool} (hT : T ≠ 5) (hst : b = st.isNone) (h1 : w.heap[R]? = some (.cells cs T (0, 0))) (hcs : cs = #[cs[0]!, .bool b]) (h2 : OwnL 5 1 byteC w base v l) (hl : l.length ≤ n) (hs : ∀ l', st = some l' → l' = l) : WrS T R base n st (w.setCell ⟨R, 0, none⟩ v) := by
  subst hst
  refine ⟨v, l, ?_, h2.but' (but_set w R 0 _) (own_ne hT h1 h2), hl, hs⟩
  rw [blk_put h1, hcs]
  rfl
end
/-- Numbers of a writer's: from 0 to lim. -/
def okI (lim n : Int) : Bool := decide (0 ≤ n ∧ n ≤ lim)
def okIs (lim : Int) (ns : List Int) : Bool := ns.all (okI lim)
def nL (n : Int) : List UInt8 := vL n.toNat
def nLs (ns : List Int) : List UInt8 := ns.flatMap nL
/-- A writer's bytes with numbers behind. -/
def addNs (lim : Int) (ns : List Int) (st : Option (List UInt8)) : Option (List UInt8) := st.bind fun l => if okIs lim ns = true then some (l ++ nLs ns) else none
def addB (b : List UInt8) (st : Option (List UInt8)) : Option (List UInt8) := st.bind fun l => if b = [] then none else some (l ++ b)
def addMany (lim : Int) (k : Nat) (st : Option (List UInt8)) : Option (List UInt8) := st.bind fun l => if k ≤ 1000 then addNs lim [(k : Int)] (some l) else none
theorem nL_len (n : Int) : (nL n).length ≤ 10 := vL_len _
theorem nLs_len (ns : List Int) : (nLs ns).length ≤ ns.length * 10 := by
  unfold nLs
  induction ns with
  | nil => simp
  | cons x l ih =>
    rw [List.flatMap_cons, List.length_append, List.length_cons]
    have := nL_len x
    omega
theorem nLs_take {ns : List Int} {k : Nat} {x : Int} (h : ns[k]? = some x) : nLs (ns.take (k + 1)) = nLs (ns.take k) ++ nL x := flat_take_succ nL h
theorem okIs_take {lim : Int} {ns : List Int} {k : Nat} {x : Int} (h : ns[k]? = some x) (h1 : okIs lim (ns.take k) = true) (h2 : okI lim x = true) : okIs lim (ns.take (k + 1)) = true := by
  unfold okIs at *
  rw [List.take_add_one, h, List.all_append, h1]
  simpa using h2
theorem okIs_not {lim : Int} {ns : List Int} {k : Nat} {x : Int} (h : ns[k]? = some x) (h2 : okI lim x = false) : okIs lim ns = false := by
  unfold okIs
  rw [List.all_eq_false]
  exact ⟨x, List.mem_of_getElem? h, by simp [h2]⟩
theorem addNs_none (lim : Int) (ns : List Int) : addNs lim ns none = none := rfl
theorem addNs_no {lim : Int} {ns : List Int} {st : Option (List UInt8)} (h : okIs lim ns = false) : addNs lim ns st = none := by
  cases st with
  | none => rfl
  | some l => simp [addNs, h]
theorem addNs_yes {lim : Int} {ns : List Int} {l : List UInt8} (h : okIs lim ns = true) : addNs lim ns (some l) = some (l ++ nLs ns) := by simp [addNs, h]
/-- What a writer's call answers. -/
def WrPost (T : TypeId) (R base n : Nat) (st : Option (List UInt8)) (w : World) (e : Ending) (w' : World) : Prop := e = .returned (.tuple #[]) ∧ WrS T R base n st w' ∧ Kw R base w w'
end Go.Proofs.YthafeaclpcjjbaaDoor
/- Records: what they are made of, which fields a kind names, how they are written. Plain mathematics. No condition. -/
namespace Go.Proofs.YthafeaclpcjjbaaDoor
open Go.RowKit

/-- The fields that a kind names. -/
structure Fl where
  n : Bool := false
  dst : Bool := false
  yes : Bool := false
  st : Bool := false
  tx : Bool := false
  nodes : Bool := false
  bat : Bool := false
  span : Bool := false
  sms : Bool := false
def Fl.cells (f : Fl) : Array Value := #[.bool f.n, .bool f.dst, .bool f.yes, .bool f.st, .bool f.tx, .bool f.nodes, .bool f.bat, .bool f.span, .bool f.sms]
def flOf (k : Int) : Fl :=
  if k = 1 ∨ k = 2 ∨ k = 8 then { n := true } else if k = 3 then { bat := true, st := true } else if k = 4 then { tx := true, bat := true, st := true } else if k = 5 then { tx := true, yes := true, st := true }
  else if k = 6 then { tx := true, yes := true, st := true, nodes := true } else if k = 7 then { tx := true } else if k = 9 then { span := true, dst := true } else if k = 10 then { span := true, st := true, sms := true } else if k = 11 then { span := true } else {}
def fOk (k : Int) : Bool := decide (1 ≤ k ∧ k ≤ 11)
theorem kind_cases (k : Int) : k = 1 ∨ k = 2 ∨ k = 3 ∨ k = 4 ∨ k = 5 ∨ k = 6 ∨ k = 7 ∨ k = 8 ∨ k = 9 ∨ k = 10 ∨ k = 11 ∨ fOk k = false := by
  by_cases h : 1 ≤ k ∧ k ≤ 11
  · omega
  · simp [fOk, h]
theorem fOk_no {k : Int} (h : fOk k = false) : ¬ (1 ≤ k ∧ k ≤ 11) := of_decide_eq_false h
/-- A record as plain data. -/
structure RecP where
  kind : Int
  n : Int
  dst : Int
  yes : Bool
  st : St
  x1 : Int
  x2 : Int
  x3 : Int
  nodes : List Int
  key : ByteArray
  ps : List PutP
  r1 : Int
  r2 : Int
  r3 : Int
  r4 : Int
  sms : List Sm
/-- Are the fields zero that are not named? -/
def spareB (r : RecP) (f : Fl) : Bool :=
  (f.n || decide (r.n = 0)) && (f.dst || decide (r.dst = 0)) && (f.yes || !r.yes) && (f.st || decide (r.st = ⟨0, 0, 0⟩)) && (f.tx || decide (r.x1 = 0 ∧ r.x2 = 0 ∧ r.x3 = 0)) && (f.span || decide (r.r1 = 0 ∧ r.r2 = 0 ∧ r.r3 = 0 ∧ r.r4 = 0))
    && (f.nodes || decide (r.nodes = [])) && (f.sms || decide (r.sms.length = 0)) && (f.bat || decide (r.key = ByteArray.empty ∧ r.ps.length = 0))
def rLim : Int := 1125899906842624
/-- The fields that have no list, behind a writer's bytes. -/
def headS (r : RecP) (f : Fl) (s : Option (List UInt8)) : Option (List UInt8) :=
  let s := if f.n = true then addNs 1125899906842624 [r.n] s else s
  let s := if f.tx = true then addNs 1125899906842624 [r.x1, r.x2, r.x3] s else s
  let s := if f.yes = true then s.map (fun l => l ++ [if r.yes = true then 1 else 0]) else s
  let s := if f.bat = true then addB (batL r.key r.ps) s else s
  let s := if f.span = true then addNs 1125899906842624 [r.r1, r.r2, r.r3, r.r4] s else s
  let s := if f.dst = true then addNs 1125899906842624 [r.dst] s else s
  if f.st = true then addB (stE r.st) s else s
/-- Streams behind a writer's bytes. -/
def addSms : List Sm → Option (List UInt8) → Option (List UInt8)
  | [], s => s
  | m :: l, s => addSms l (addB (smL m) s)
theorem addSms_none : ∀ l, addSms l none = none
  | [] => rfl
  | _ :: l => addSms_none l
theorem addSms_drop {l : List Sm} {k : Nat} {m : Sm} (h : l[k]? = some m) (s : Option (List UInt8)) : addSms (l.drop k) s = addSms (l.drop (k + 1)) (addB (smL m) s) := by
  obtain ⟨hk, rfl⟩ := List.getElem?_eq_some_iff.1 h
  rw [List.drop_eq_getElem_cons hk]
  rfl
def listsS (r : RecP) (f : Fl) (s : Option (List UInt8)) : Option (List UInt8) :=
  let s := if f.nodes = true then addNs 1125899906842624 r.nodes (addMany 1125899906842624 r.nodes.length s) else s
  if f.sms = true then addSms r.sms (addMany 1125899906842624 r.sms.length s) else s
/-- A record as bytes; none: it is none. -/
def encR (r : RecP) : Option (List UInt8) :=
  if fOk r.kind = true ∧ spareB r (flOf r.kind) = true then listsS r (flOf r.kind) (headS r (flOf r.kind) (some [UInt8.ofNat r.kind.toNat])) else none
end Go.Proofs.YthafeaclpcjjbaaDoor
/- rec.named: the fields that a kind names. No condition. -/
namespace Go.Proofs.YthafeaclpcjjbaaDoor
open Go.RowKit

theorem fl_of {k : Int} (h : fOk k = false) : flOf k = {} := by
  have := fOk_no h
  unfold flOf
  rw [if_neg (by omega), if_neg (by omega), if_neg (by omega), if_neg (by omega), if_neg (by omega), if_neg (by omega), if_neg (by omega), if_neg (by omega), if_neg (by omega)]
set_option maxRecDepth 100000 in
set_option maxHeartbeats 1000000 in
theorem recNamed_any (k : Int) (w : World) : Calls Tryd.prog 22 #[.int .i64 k] w fun e w' => e = .returned (.tuple #[.agg (flOf k).cells, .bool (fOk k)]) ∧ G w w' := by
  rcases kind_cases k with rfl | rfl | rfl | rfl | rfl | rfl | rfl | rfl | rfl | rfl | rfl | hno
  case inr.inr.inr.inr.inr.inr.inr.inr.inr.inr.inr =>
    rw [fl_of hno, hno]
    have h0 := fOk_no hno
    have t1 : (k == 1) = false := by rw [beq_eq_false_iff_ne]; omega
    have t2 : (k == 2) = false := by rw [beq_eq_false_iff_ne]; omega
    have t3 : (k == 3) = false := by rw [beq_eq_false_iff_ne]; omega
    have t4 : (k == 4) = false := by rw [beq_eq_false_iff_ne]; omega
    have t5 : (k == 5) = false := by rw [beq_eq_false_iff_ne]; omega
    have t6 : (k == 6) = false := by rw [beq_eq_false_iff_ne]; omega
    have t7 : (k == 7) = false := by rw [beq_eq_false_iff_ne]; omega
    have t8 : (k == 8) = false := by rw [beq_eq_false_iff_ne]; omega
    have t9 : (k == 9) = false := by rw [beq_eq_false_iff_ne]; omega
    have t10 : (k == 10) = false := by rw [beq_eq_false_iff_ne]; omega
    have t11 : (k == 11) = false := by rw [beq_eq_false_iff_ne]; omega
    clear h0 hno
    go_enter Tryd.func22, Tryd.ntmps22
    go_wp2_with fail
    refine bodyPost_ret (v := .tuple #[.agg (Fl.cells {}), .bool false]) (by simp [results, Tryd.results22, go_sem, Fl.cells]) rfl ?_
    exact ⟨rfl, G.new _ _⟩
  all_goals
    go_enter Tryd.func22, Tryd.ntmps22
    go_wp2_with fail
    refine bodyPost_ret ?_ rfl ⟨rfl, G.new _ _⟩
    simp [results, Tryd.results22, go_sem, Fl.cells, flOf, fOk]
end Go.Proofs.YthafeaclpcjjbaaDoor

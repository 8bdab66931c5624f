/- Several texts in one: Wr, Zig. -/
import Derived.Test.YtheogchkelmeeaaDoorM8MsgCodes
import Derived.Test.YtheogchkelmeeaaDoorTextOfQMsgCodes
import Derived.Test.YtheogchkelmeeaaDoorM0MsgCodes
import Derived.Laws.Bits64b
import Derived.Laws.Bits64
/- Writers of bytes behind a pointer: what they hold, how they stand. No condition. -/
namespace Go.Proofs.YtheogchkelmeeaaDoor
open Go.RowKit

/-- What a writer's call leaves: all below the base, and each block of another type than bytes but its own. -/
def Kw (R base : Nat) (w w' : World) : Prop := Below base w w' ∧ ∀ (k : Nat) (cs : Array Value) (t : TypeId) (fz : Nat × Nat), t ≠ 5 → k ≠ R → w.heap[k]? = some (.cells cs t fz) → w'.heap[k]? = some (.cells cs t fz)
theorem Kw.refl (R base : Nat) (w : World) : Kw R base w w := ⟨Below.refl _ _, fun _ _ _ _ _ _ h => h⟩
theorem Kw.trans {R base : Nat} {a b c : World} (h : Kw R base a b) (k : Kw R base b c) : Kw R base a c := ⟨h.1.trans k.1, fun g cs t fz ht hr hh => k.2 g cs t fz ht hr (h.2 g cs t fz ht hr hh)⟩
theorem Kw.size {R base : Nat} {a b : World} (h : Kw R base a b) : a.heap.size ≤ b.heap.size := h.1.size
theorem Kw.of_g {R base : Nat} {a b : World} (h : G a b) (hb : base ≤ a.heap.size) : Kw R base a b := ⟨Below.mono h hb, fun _ _ _ _ _ _ hh => h.blk hh⟩
theorem Kw.of_keep {R base : Nat} {a b : World} (h : KeepT 5 base a b) : Kw R base a b := ⟨h.1, fun k cs t fz ht _ hh => h.2 k cs t fz ht hh⟩
theorem Kw.blk {R base : Nat} {a b : World} (h : Kw R base a b) {k : Nat} {cs : Array Value} {t : TypeId} {fz : Nat × Nat} (ht : t ≠ 5) (hr : k ≠ R) (hh : a.heap[k]? = some (.cells cs t fz)) : b.heap[k]? = some (.cells cs t fz) := h.2 k cs t fz ht hr hh
theorem Kw.set {R base : Nat} {w : World} (hR : base ≤ R) (o : Nat) (u : Value) : Kw R base w (w.setCell ⟨R, o, none⟩ u) := by
  have hb := but_set w R o u
  exact ⟨⟨hb.os, hb.tape, hb.output, hb.size, fun k hk => by
    refine Below.heap_setCell _ _ _ _ ?_
    show k ≠ R
    omega⟩, fun k cs t fz _ hr hh => hb.blk hh hr⟩
/-- A slice below the base stays. -/
theorem Kw.sl {α : Type} {f : α → List Value} {sz R base B : Nat} {A : Option Addr} {xs : List α} {w w' : World} (h : Kw R base w w') (hs : Sl f sz w B A xs) (hB : B ≤ base) : Sl f sz w' B A xs := fun hn => by
  obtain ⟨b, o, e, hb, hc⟩ := hs hn
  exact ⟨b, o, e, hb, fun k x hx j u hu => (World.cell?_of_block (w := w) (h.1.block b (by omega))).trans (hc k x hx j u hu)⟩
/-- The writer holds these bytes; none: it is bad. At most n bytes lie there. -/
def WrS (T : TypeId) (R base n : Nat) (st : Option (List UInt8)) (w : World) : Prop :=
  ∃ v l, w.heap[R]? = some (.cells #[v, .bool st.isNone] T (0, 0)) ∧ OwnL 5 1 byteC w base v l ∧ l.length ≤ n ∧ (∀ l', st = some l' → l' = l)
section
variable {T : TypeId} {R base n : Nat} {st : Option (List UInt8)} {w w' : World}
theorem WrS.lt (h : WrS T R base n st w) : R < w.heap.size := by obtain ⟨v, l, h1, _⟩ := h; exact blk_lt h1
theorem WrS.g (h : WrS T R base n st w) (hg : G w w') : WrS T R base n st w' := by
  obtain ⟨v, l, h1, h2, h3, h4⟩ := h
  exact ⟨v, l, hg.blk h1, h2.g hg, h3, h4⟩
theorem WrS.more {n' : Nat} (h : WrS T R base n st w) (hn : n ≤ n') : WrS T R base n' st w := by
  obtain ⟨v, l, h1, h2, h3, h4⟩ := h
  exact ⟨v, l, h1, h2, by omega, h4⟩
theorem WrS.c1 (h : WrS T R base n st w) : w.cell? ⟨R, 1, none⟩ = some (.bool st.isNone) := by obtain ⟨v, l, h1, _⟩ := h; rw [blk_cell h1]; rfl
theorem WrS.free (h : WrS T R base n st w) (o : Nat) : w.frozen? ⟨R, o, none⟩ = false := by obtain ⟨v, l, h1, _⟩ := h; simp [World.frozen?, h1]
/-- Its row is no block of the writer's own. -/
theorem own_ne {v : Value} {l : List UInt8} {cs : Array Value} (hT : T ≠ 5) (h1 : w.heap[R]? = some (.cells cs T (0, 0))) (h2 : OwnL 5 1 byteC w base v l) : ∀ k, v.ownBlock = some k → ¬ k = R := by
  rintro k hk rfl
  obtain ⟨_, _, cs', h3⟩ := h2.blk hk
  rw [h1] at h3
  cases h3
  exact hT rfl
theorem WrS.turn (hT : T ≠ 5) (h : WrS T R base n st w) : WrS T R base n none (w.setCell ⟨R, 1, none⟩ (.bool true)) := by
  obtain ⟨v, l, h1, h2, h3, h4⟩ := h
  exact ⟨v, l, by rw [blk_put h1]; rfl, h2.but' (but_set w R 1 _) (own_ne hT h1 h2), h3, fun l' e => by cases e⟩
theorem WrS.stay (hT : T ≠ 5) (h : WrS T R base n st w) : WrS T R base n st (w.setCell ⟨R, 1, none⟩ (.bool st.isNone)) := by
  obtain ⟨v, l, h1, h2, h3, h4⟩ := h
  exact ⟨v, l, by rw [blk_put h1]; rfl, h2.but' (but_set w R 1 _) (own_ne hT h1 h2), h3, h4⟩
/-- A writer that is good, with its row shown. -/
theorem WrS.row {l : List UInt8} (h : WrS T R base n (some l) w) : ∃ A c, w.heap[R]? = some (.cells #[.slice A l.length c, .bool false] T (0, 0)) ∧ OwnL 5 1 byteC w base (.slice A l.length c) l ∧ l.length ≤ n := by
  obtain ⟨v, l', h1, h2, h3, h4⟩ := h
  obtain rfl := h4 l rfl
  obtain ⟨A, c, rfl, _⟩ := OwnL.sl byteC_len h2
  exact ⟨A, c, h1, h2, h3⟩
theorem WrS.rowN (h : WrS T R base n st w) : ∃ A c l, w.heap[R]? = some (.cells #[.slice A l.length c, .bool st.isNone] T (0, 0)) ∧ OwnL 5 1 byteC w base (.slice A l.length c) l ∧ l.length ≤ n ∧ (∀ l', st = some l' → l' = l) := by
  obtain ⟨v, l, h1, h2, h3, h4⟩ := h
  obtain ⟨A, c, rfl, _⟩ := OwnL.sl byteC_len h2
  exact ⟨A, c, l, h1, h2, h3, h4⟩
/-- A longer row is laid into it. -/
theorem WrS.put {v : Value} {l : List UInt8} {cs : Array Value} {b : Bool} (hT : T ≠ 5) (hst : b = st.isNone) (h1 : w.heap[R]? = some (.cells cs T (0, 0))) (hcs : cs = #[cs[0]!, .bool b]) (h2 : OwnL 5 1 byteC w base v l) (hl : l.length ≤ n) (hs : ∀ l', st = some l' → l' = l) : WrS T R base n st (w.setCell ⟨R, 0, none⟩ v) := by
  subst hst
  refine ⟨v, l, ?_, h2.but' (but_set w R 0 _) (own_ne hT h1 h2), hl, hs⟩
  rw [blk_put h1, hcs]
  rfl
end
/-- Numbers of a writer's: from 0 to lim. -/
def okI (lim n : Int) : Bool := decide (0 ≤ n ∧ n ≤ lim)
def okIs (lim : Int) (ns : List Int) : Bool := ns.all (okI lim)
def nL (n : Int) : List UInt8 := vL n.toNat
def nLs (ns : List Int) : List UInt8 := ns.flatMap nL
/-- A writer's bytes with numbers behind. -/
def addNs (lim : Int) (ns : List Int) (st : Option (List UInt8)) : Option (List UInt8) := st.bind fun l => if okIs lim ns = true then some (l ++ nLs ns) else none
def addB (b : List UInt8) (st : Option (List UInt8)) : Option (List UInt8) := st.bind fun l => if b = [] then none else some (l ++ b)
def addMany (lim : Int) (k : Nat) (st : Option (List UInt8)) : Option (List UInt8) := st.bind fun l => if k ≤ 1000 then addNs lim [(k : Int)] (some l) else none
theorem nL_len (n : Int) : (nL n).length ≤ 10 := vL_len _
theorem nLs_len (ns : List Int) : (nLs ns).length ≤ ns.length * 10 := by
  unfold nLs
  induction ns with
  | nil => simp
  | cons x l ih =>
    rw [List.flatMap_cons, List.length_append, List.length_cons]
    have := nL_len x
    omega
theorem nLs_take {ns : List Int} {k : Nat} {x : Int} (h : ns[k]? = some x) : nLs (ns.take (k + 1)) = nLs (ns.take k) ++ nL x := flat_take_succ nL h
theorem okIs_take {lim : Int} {ns : List Int} {k : Nat} {x : Int} (h : ns[k]? = some x) (h1 : okIs lim (ns.take k) = true) (h2 : okI lim x = true) : okIs lim (ns.take (k + 1)) = true := by
  unfold okIs at *
  rw [List.take_add_one, h, List.all_append, h1]
  simpa using h2
theorem okIs_not {lim : Int} {ns : List Int} {k : Nat} {x : Int} (h : ns[k]? = some x) (h2 : okI lim x = false) : okIs lim ns = false := by
  unfold okIs
  rw [List.all_eq_false]
  exact ⟨x, List.mem_of_getElem? h, by simp [h2]⟩
theorem addNs_none (lim : Int) (ns : List Int) : addNs lim ns none = none := rfl
theorem addNs_no {lim : Int} {ns : List Int} {st : Option (List UInt8)} (h : okIs lim ns = false) : addNs lim ns st = none := by
  cases st with
  | none => rfl
  | some l => simp [addNs, h]
theorem addNs_yes {lim : Int} {ns : List Int} {l : List UInt8} (h : okIs lim ns = true) : addNs lim ns (some l) = some (l ++ nLs ns) := by simp [addNs, h]
/-- What a writer's call answers. -/
def WrPost (T : TypeId) (R base n : Nat) (st : Option (List UInt8)) (w : World) (e : Ending) (w' : World) : Prop := e = .returned (.tuple #[]) ∧ WrS T R base n st w' ∧ Kw R base w w'
end Go.Proofs.YtheogchkelmeeaaDoor
/- bits.Zig, bits.Zag, penstockref3.Zig, penstockref3.Zag: what they answer. Conditions: a number of 64 bits; of Zig one from -1 to 2^40. -/
namespace Go.Proofs.YtheogchkelmeeaaDoor
open Go.RowKit

/-- A number with its sign as its last digit, and back. -/
def zigN (n : Int) : Nat := if n < 0 then (-(n + 1)).toNat * 2 + 1 else n.toNat * 2
def zagI (v : Nat) : Int := if v % 2 = 1 then -((v / 2 : Nat) : Int) - 1 else ((v / 2 : Nat) : Int)
theorem zag_zig (n : Int) : zagI (zigN n) = n := by
  unfold zagI zigN
  by_cases h : n < 0
  · rw [if_pos h, if_pos (by omega)]; omega
  · rw [if_neg h, if_neg (by omega)]; omega
theorem zig_lt {n : Int} (h : -1 ≤ n) (h2 : n ≤ 1099511627776) : zigN n < 2 ^ 64 := by
  unfold zigN
  split <;> omega
theorem zag_i64 {v : Nat} (h : v < 2 ^ 64) : -9223372036854775808 ≤ zagI v ∧ zagI v ≤ 9223372036854775807 := by
  unfold zagI
  split <;> omega
theorem xor_m1 (a : Nat) (h : a < 9223372036854775808) : bits .xor .i64 (a : Int) (-1) = -(a : Int) - 1 := by
  show IntKind.i64.wrap ((BitVec.ofInt 64 (a : Int) ^^^ BitVec.ofInt 64 (-1)).toNat : Int) = _
  rw [show (BitVec.ofInt 64 (-1)) = BitVec.allOnes 64 by decide, BitVec.xor_allOnes, BitVec.toNat_not, BitVec.ofInt_natCast, BitVec.toNat_ofNat, Nat.mod_eq_of_lt (by omega)]
  obtain ⟨c, hc⟩ : ∃ c, 2 ^ 64 - 1 - a = c := ⟨_, rfl⟩
  rw [hc]
  unfold IntKind.wrap
  simp [IntKind.bits, IntKind.signed]
  omega
theorem xor_0 (a : Nat) (h : a < 9223372036854775808) : bits .xor .i64 (a : Int) 0 = (a : Int) := by
  show IntKind.i64.wrap ((BitVec.ofInt 64 (a : Int) ^^^ BitVec.ofInt 64 0).toNat : Int) = _
  rw [show (BitVec.ofInt 64 0) = 0#64 by decide, BitVec.xor_zero, BitVec.ofInt_natCast, BitVec.toNat_ofNat, Nat.mod_eq_of_lt (by omega)]
  exact IntWalk.i64_in _ (by omega)
theorem and_1 (v : Nat) (h : v < 2 ^ 64) : bits .and .u64 (v : Int) 1 = ((v % 2 : Nat) : Int) := by
  have := bits_and_u64_nat v 1 (by simpa using h) (by omega)
  rw [show ((1 : Nat) : Int) = 1 from rfl] at this
  rw [this, Nat.and_one_is_mod]
theorem zag_any (v : Nat) (w : World) (h : v < 2 ^ 64) : Calls Tryd.prog 110 #[.int .u64 v] w fun e w' => e = .returned (.int .i64 (zagI v)) ∧ w = w' := by
  obtain ⟨Q, hQ⟩ : ∃ Q, v / 2 = Q := ⟨_, rfl⟩
  have hq : (v : Int) / 2 = (Q : Int) := by omega
  have hl : Q < 9223372036854775808 := by omega
  have hw : IntKind.i64.wrap (Q : Int) = (Q : Int) := IntWalk.i64_in _ (by omega)
  have h1 := xor_m1 Q hl
  have h0 := xor_0 Q hl
  have ha := and_1 v h
  by_cases hm : v % 2 = 1
  · have hz : zagI v = -(Q : Int) - 1 := by unfold zagI; rw [if_pos hm, hQ]
    rw [hm] at ha
    replace hz := Lib.hid hz
    replace hQ := Lib.hid hQ
    replace hm := Lib.hid hm
    clear h0 hl h
    go_enter Tryd.func110, Tryd.ntmps110
    go_wp2_with fail
    go_ret
    exact ⟨by rw [hz.out]; rfl, rfl⟩
  · have hz : zagI v = (Q : Int) := by unfold zagI; rw [if_neg hm, hQ]
    rw [show v % 2 = 0 by omega] at ha
    replace hz := Lib.hid hz
    replace hQ := Lib.hid hQ
    clear h1 hl h hm
    go_enter Tryd.func110, Tryd.ntmps110
    go_wp2_with fail
    go_ret
    exact ⟨by rw [hz.out]; rfl, rfl⟩
theorem zig_any (n : Int) (w : World) (h : -1 ≤ n) (h2 : n ≤ 1099511627776) : Calls Tryd.prog 88 #[.int .i64 n] w fun e w' => e = .returned (.int .u64 (zigN n)) ∧ w = w' := by
  by_cases hn : n = -1
  · subst hn
    go_enter Tryd.func88, Tryd.ntmps88
    go_wp2_with fail
    go_ret
    exact ⟨rfl, rfl⟩
  · obtain ⟨m, rfl⟩ : ∃ m : Nat, n = m := ⟨n.toNat, by omega⟩
    have hz : ((zigN (m : Int) : Nat) : Int) = (m : Int) * 2 := by unfold zigN; rw [if_neg (by omega)]; omega
    have e1 : IntKind.u64.wrap (m : Int) = (m : Int) := by rw [IntKind.wrap_u64]; omega
    have e3 : (m : Int) / 9223372036854775808 = 0 := by omega
    have e4 := bits_xor_u64_nat (m * 2) 0 (by omega) (by omega)
    rw [Nat.xor_zero, show ((m * 2 : Nat) : Int) = (m : Int) * 2 by omega, show ((0 : Nat) : Int) = 0 from rfl] at e4
    replace hz := Lib.hid hz
    clear hn h
    go_enter Tryd.func88, Tryd.ntmps88
    go_wp2_with fail
    go_ret
    exact ⟨by rw [hz.out]; rfl, rfl⟩
theorem refZig_any (n : Int) (w : World) (h : -1 ≤ n) (h2 : n ≤ 1099511627776) : Calls Tryd.prog 71 #[.int .i64 n] w fun e w' => e = .returned (.int .u64 (zigN n)) ∧ w = w' := by
  by_cases hn : n = -1
  · subst hn
    go_enter Tryd.func71, Tryd.ntmps71
    go_wp2_with fail
    go_ret
    exact ⟨rfl, rfl⟩
  · obtain ⟨m, rfl⟩ : ∃ m : Nat, n = m := ⟨n.toNat, by omega⟩
    have hz : ((zigN (m : Int) : Nat) : Int) = (m : Int) * 2 := by unfold zigN; rw [if_neg (by omega)]; omega
    have e1 : IntKind.u64.wrap (m : Int) = (m : Int) := by rw [IntKind.wrap_u64]; omega
    replace hz := Lib.hid hz
    clear hn h
    go_enter Tryd.func71, Tryd.ntmps71
    go_wp2_with fail
    go_ret
    exact ⟨by rw [hz.out]; rfl, rfl⟩
end Go.Proofs.YtheogchkelmeeaaDoor

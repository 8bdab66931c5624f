/- Several texts in one: Canon, RecSt. -/
import Derived.Test.YthafeaclpcjjbaaGreatDoorM15RecDecodes
import Derived.Test.YthafeaclpcjjbaaGreatDoorM27RecDecodes
import Derived.Test.YthafeaclpcjjbaaGreatDoorM29RecDecodes
import Derived.Test.YthafeaclpcjjbaaGreatDoorDecBatchQRecDecodes
import Derived.Test.YthafeaclpcjjbaaGreatDoorDecSmQRecDecodes
import Derived.Test.YthafeaclpcjjbaaGreatDoorM26RecDecodes
/- What is read is what would be written: each reader takes just the bytes that its writer writes. Plain mathematics. No condition. -/
namespace Go.Proofs.YthafeaclpcjjbaaGreatDoor
open Go.RowKit
theorem uF_canon : ∀ (l : List UInt8) (i acc v n : Nat), uF i acc l = some (v, n) → acc < 2 ^ (7 * i) → ∃ u, v = acc + u * 2 ^ (7 * i) ∧ l = vF (10 - i) u ++ l.drop (n - i) ∧ (0 < i → 0 < u)
 | [], _, _, _, _, h, _ => by simp [uF] at h
 | x :: l, i, acc, v, n, h, hacc => by
  unfold uF at h
  by_cases hi : 10 ≤ i
  ·rw [if_pos hi] at h; cases h
  rw [if_neg hi] at h
  have hx := x.toNat_lt
  obtain ⟨m, hm⟩ : ∃ m, 10 - i = m + 1 := ⟨9 - i, by omega⟩
  by_cases h1 : 127 < x.toNat
  ·rw [if_pos h1] at h
   have hp := pow_step i
   have hacc' : acc + (x.toNat - 128) * 2 ^ (7 * i) < 2 ^ (7 * (i + 1)) := by
    rw [hp]
    have : (x.toNat - 128) * 2 ^ (7 * i) ≤ 127 * 2 ^ (7 * i) := Nat.mul_le_mul_right _ (by omega)
    omega
   obtain ⟨u, e1, e2, e3⟩ := uF_canon l (i + 1) _ v n h hacc'
   have hb := uF_bd l (i + 1) _ v n h hacc'
   have hu := e3 (by omega)
   refine ⟨(x.toNat - 128) + u * 128, ?_, ?_, fun _ => by omega⟩
   ·rw [e1, hp, Nat.add_mul, Nat.mul_assoc]
    omega
   ·rw [hm]
    unfold vF
    rw [if_neg (by omega)]
    have a1 : (x.toNat - 128 + u * 128) % 128 + 128 = x.toNat := by omega
    have a2 : (x.toNat - 128 + u * 128) / 128 = u := by omega
    rw [a1, a2, UInt8.ofNat_toNat, List.cons_append]
    have a3 : n - i = (n - (i + 1)) + 1 := by omega
    rw [a3, List.drop_succ_cons]
    have a4 : 10 - (i + 1) = m := by omega
    rw [a4] at e2
    rw [← e2]
  ·rw [if_neg h1] at h
   split at h
   ·cases h
   ·rename_i h2
    simp only [Option.some.injEq, Prod.mk.injEq] at h
    obtain ⟨rfl, rfl⟩ := h
    refine ⟨x.toNat, rfl, ?_, fun h3 => by omega⟩
    rw [hm]
    unfold vF
    rw [if_pos (by omega), UInt8.ofNat_toNat]
    simp
theorem uL_canon {l : List UInt8} {v n : Nat} (h : uL l = some (v, n)) : l = vL v ++ l.drop n := by
 obtain ⟨u, e1, e2, _⟩ := uF_canon l 0 0 v n h (by simp)
 simp at e1
 subst e1
 exact e2
/-- A reader that takes just what f writes. -/
def Cn {α : Type} (d : Reader α) (f : α → List UInt8) : Prop := ∀ l x r, d l = some (x, r) → l = f x ++ r
theorem cn_num : Cn dNum vL := fun l x r h => by
 unfold dNum at h
 split at h
 ·rename_i v n h1
  simp only [Option.some.injEq, Prod.mk.injEq] at h
  obtain ⟨rfl, rfl⟩ := h
  exact uL_canon h1
 ·cases h
theorem cn_count (m : Nat) : Cn (dCount m) vL := fun l x r h => cn_num l x r (dCount_num h).1
theorem cn_text : Cn dText textL := fun l x r h => by
 unfold dText at h
 split at h
 ·rename_i s n h1
  simp only [Option.some.injEq, Prod.mk.injEq] at h
  obtain ⟨rfl, rfl⟩ := h
  unfold tL at h1
  split at h1
  ·rename_i v k h2
   have hb := uL_bd h2
   split at h1
   ·rename_i h3
    simp only [Option.some.injEq, Prod.mk.injEq] at h1
    obtain ⟨rfl, rfl⟩ := h1
    have hl : ((l.drop k).take v).length = v := by rw [List.length_take, List.length_drop]; omega
    unfold textL
    rw [hl, List.append_assoc, ← List.drop_drop, List.take_append_drop]
    exact uL_canon h2
   ·cases h1
  ·cases h1
 ·cases h
section
variable {α β γ : Type}
theorem cn_many {d : Reader α} {f : α → List UInt8} (hd : Cn d f) : ∀ n, Cn (dMany d n) (fun xs => xs.flatMap f)
 | 0 => fun l x r h => by
  obtain ⟨rfl, rfl⟩ := rp_inv h
  rfl
 | n + 1 => fun l xs r h => by
  obtain ⟨x, r1, h1, h2⟩ := rb_inv h
  obtain ⟨ys, r2, h3, h4⟩ := rb_inv h2
  obtain ⟨rfl, rfl⟩ := rp_inv h4
  rw [hd l x r1 h1, cn_many hd n r1 ys r2 h3]
  simp [List.flatMap_cons, List.append_assoc]
end
theorem strOf_data (s : List UInt8) : (strOf s).data.toList = s := rfl
theorem cn_stamp : Cn dStamp stL := fun l x q h => by
 obtain ⟨a, r1, h1, h⟩ := rb_inv h
 obtain ⟨b, r2, h2, h⟩ := rb_inv h
 obtain ⟨c, r3, h3, h⟩ := rb_inv h
 obtain ⟨rfl, rfl⟩ := rp_inv h
 rw [cn_count _ _ _ _ h1, cn_count _ _ _ _ h2, cn_count _ _ _ _ h3]
 simp [stL, List.append_assoc]
theorem cn_event : Cn dEvent evL := fun l x q h => by
 have hok := dEvent_ok h
 obtain ⟨s, r1, h1, h⟩ := rb_inv h
 obtain ⟨v, r2, h2, h⟩ := rb_inv h
 obtain ⟨d, r3, h3, h⟩ := rb_inv h
 obtain ⟨t, r4, h4, h⟩ := rb_inv h
 obtain ⟨i, r5, h5, h⟩ := rb_inv h
 obtain ⟨_, rfl, rfl⟩ := rif_inv h
 rw [evL_some hok, cn_text _ _ _ h1, cn_count _ _ _ _ h2, cn_text _ _ _ h3, cn_stamp _ _ _ h4, cn_count _ _ _ _ h5]
 simp [evBytes, strOf_data, List.append_assoc]
theorem zig_zag (v : Nat) : zigN (zagI v) = v := by
 unfold zagI zigN
 split <;> split <;> omega
theorem cn_put {l r : List UInt8} {p : PutP} (h : dPut l = some (p, r)) (hp : putOk p = true) : l = putBytes p ++ r := by
 obtain ⟨s, r1, h1, h⟩ := rb_inv h
 obtain ⟨v, r2, h2, h⟩ := rb_inv h
 obtain ⟨m, r3, h3, h⟩ := rb_inv h
 obtain ⟨ds, r4, h4, h⟩ := rb_inv h
 obtain ⟨rfl, rfl⟩ := rp_inv h
 have hz : zigN (zagI v) = v := zig_zag v
 have hl := (dMany_len eats_text _ _ _ _ h4).1
 rw [cn_text _ _ _ h1, cn_num _ _ _ h2, cn_count _ _ _ _ h3, cn_many cn_text _ _ _ _ h4]
 unfold putBytes
 simp only [strOf_data, hz, List.length_map, hl, List.append_assoc]
 congr 4
 rw [List.flatMap_map]
 rfl
theorem cn_puts : ∀ (n : Nat) (l : List UInt8) (ps : List PutP) (r : List UInt8), dMany dPut n l = some (ps, r) → (∀ p ∈ ps, putOk p = true) → l = ps.flatMap putBytes ++ r
 | 0, l, ps, r, h, _ => by
  obtain ⟨rfl, rfl⟩ := rp_inv h
  rfl
 | n + 1, l, ps, r, h, hp => by
  obtain ⟨x, r1, h1, h2⟩ := rb_inv h
  obtain ⟨ys, r2, h3, h4⟩ := rb_inv h2
  obtain ⟨rfl, rfl⟩ := rp_inv h4
  rw [cn_put h1 (hp x (by simp)), cn_puts n r1 ys r2 h3 fun p h5 => hp p (by simp [h5]), List.flatMap_cons, List.append_assoc]
theorem cn_batch {l r : List UInt8} {key : ByteArray} {ps : List PutP} (h : dBatch l = some ((key, ps), r)) : l = batL key ps ++ r := by
 have hok := dBatch_ok h
 obtain ⟨s, r1, h1, h⟩ := rb_inv h
 obtain ⟨n, r2, h2, h⟩ := rb_inv h
 obtain ⟨qs, r3, h3, h⟩ := rb_inv h
 obtain ⟨_, e, rfl⟩ := rif_inv h
 simp only [Prod.mk.injEq] at e
 obtain ⟨rfl, rfl⟩ := e
 have hl := (dMany_len eats_put _ _ _ _ h3).1
 rw [batL_ok hok, cn_text _ _ _ h1, cn_count _ _ _ _ h2, cn_puts _ _ _ _ h3 fun p hp => argB_put ((chkN_ok _ _).1 hok).1 hp]
 simp [batBytes, strOf_data, hl, List.append_assoc]
theorem cn_known : Cn dKnown knBytes := fun l x q h => by
 obtain ⟨s, r1, h1, h⟩ := rb_inv h
 obtain ⟨v, r2, h2, h⟩ := rb_inv h
 obtain ⟨t, r3, h3, h⟩ := rb_inv h
 obtain ⟨rfl, rfl⟩ := rp_inv h
 rw [cn_text _ _ _ h1, cn_count _ _ _ _ h2, cn_stamp _ _ _ h3]
 simp [knBytes, strOf_data, List.append_assoc]
theorem cn_stream : Cn dStream smL := fun l x q h => by
 have hok := dStream_ok h
 obtain ⟨s, r1, h1, h⟩ := rb_inv h
 obtain ⟨n, r2, h2, h⟩ := rb_inv h
 obtain ⟨es, r3, h3, h⟩ := rb_inv h
 obtain ⟨m, r4, h4, h⟩ := rb_inv h
 obtain ⟨ks, r5, h5, h⟩ := rb_inv h
 obtain ⟨_, rfl, rfl⟩ := rif_inv h
 have hl := (dMany_len eats_event _ _ _ _ h3).1
 have hl2 := (dMany_len eats_known _ _ _ _ h5).1
 rw [smL_ok hok, cn_text _ _ _ h1, cn_num _ _ _ h2, cn_many cn_event _ _ _ _ h3, cn_num _ _ _ h4, cn_many cn_known _ _ _ _ h5]
 simp [smBytes, strOf_data, hl, hl2, List.append_assoc]
end Go.Proofs.YthafeaclpcjjbaaGreatDoor
/- Records that are being read: how one lies, and the readers of its fields. No condition. -/
namespace Go.Proofs.YthafeaclpcjjbaaGreatDoor
open Go.RowKit
/-- A record that is being read lies in block X, its lists are the call's own. -/
structure RcSt (X base : Nat) (r : RecM) (w : World) : Prop where
 blk : w.heap[X]? = some (.cells r.cells 36 (0, 0))
 nodes : OwnL 3 1 intC w base (.slice r.An r.nodes.length r.cn) r.nodes
 puts : PutsOwn base r.Ap r.cp r.ps w
 sms : SmsOwn base r.As r.cs r.sms w
 key : r.key.size ≤ 1073741824
 psz : PutsSmall r.ps
 smz : ∀ s ∈ r.sms, SmSmall s.name s.es s.ks
/-- A block whose cells are none of a record's. -/
def Alien (X : Nat) (w : World) (k : Nat) : Prop := k ≠ X ∧ ∀ (cs : Array Value) (t : TypeId), w.heap[k]? = some (.cells cs t (0, 0)) → t ≠ 3 ∧ (t ≠ 96 ∧ t ≠ 9) ∧ t ≠ 87 ∧ t ≠ 124 ∧ t ≠ 111
section
variable {X base : Nat} {r r' : RecM} {w w' : World}
theorem RcSt.but {S : Nat → Prop} (h : RcSt X base r w) (hb : But S w w') (hS : ∀ k, S k → Alien X w k) : RcSt X base r w' :=
 ⟨hb.blk h.blk fun hk => (hS X hk).1 rfl, h.nodes.but' hb fun k hk hSk => by
  obtain ⟨_, _, c, hc⟩ := h.nodes.blk hk
  exact ((hS k hSk).2 c _ hc).1 rfl, h.puts.but hb fun k c t hSk hc => ((hS k hSk).2 c t hc).2.1, h.sms.but hb fun k c t hSk hc => ((hS k hSk).2 c t hc).2.2, h.key, h.psz, h.smz⟩
theorem RcSt.g (h : RcSt X base r w) (hg : G w w') : RcSt X base r w' := h.but (But.of_g (S := fun _ => False) hg) fun _ hk => hk.elim
theorem RcSt.free (h : RcSt X base r w) (o : Nat) : w.frozen? ⟨X, o, none⟩ = false := by simp [World.frozen?, h.blk]
theorem RcSt.lt (h : RcSt X base r w) : X < w.heap.size := blk_lt h.blk
/-- Its own block is turned: its lists stay, where the new cells say the same lists. -/
theorem RcSt.own (h : RcSt X base r w) (hb : But (fun k => k = X) w w') : OwnL 3 1 intC w' base (.slice r.An r.nodes.length r.cn) r.nodes ∧ PutsOwn base r.Ap r.cp r.ps w' ∧ SmsOwn base r.As r.cs r.sms w' := by
 have ht : ∀ (k : Nat) (cs : Array Value) (t : TypeId), k = X → w.heap[k]? = some (.cells cs t (0, 0)) → t = 36 := by
  rintro k cs t rfl hc
  rw [h.blk] at hc
  simp at hc
  exact hc.2.symm
 refine ⟨h.nodes.but' hb fun k hk hSk => ?_, h.puts.but hb fun k c t hSk hc => ?_, h.sms.but hb fun k c t hSk hc => ?_⟩
 ·obtain ⟨_, _, c, hc⟩ := h.nodes.blk hk
  have := ht k c _ hSk hc
  revert this
  decide
 ·rw [ht k c t hSk hc]
  decide
 ·rw [ht k c t hSk hc]
  decide
/-- .. with other numbers. -/
theorem RcSt.nums (h : RcSt X base r w) (hb : But (fun k => k = X) w w') (kind n dst : Int) (yes : Bool) (st : St) (x1 x2 x3 z1 z2 z3 z4 : Int)
  (hblk : w'.heap[X]? = some (.cells (RecM.cells ⟨kind, n, dst, yes, st, x1, x2, x3, r.An, r.cn, r.nodes, r.key, r.Ap, r.cp, r.ps, z1, z2, z3, z4, r.As, r.cs, r.sms⟩) 36 (0, 0))) :
  RcSt X base ⟨kind, n, dst, yes, st, x1, x2, x3, r.An, r.cn, r.nodes, r.key, r.Ap, r.cp, r.ps, z1, z2, z3, z4, r.As, r.cs, r.sms⟩ w' := by
 obtain ⟨h1, h2, h3⟩ := h.own hb
 exact ⟨hblk, h1, h2, h3, h.key, h.psz, h.smz⟩
/-- .. with another batch. -/
theorem RcSt.bat (h : RcSt X base r w) (hb : But (fun k => k = X) w w') {key : ByteArray} {Ap : Option Addr} {cp : Nat} {ps : List PutM} (hk : key.size ≤ 1073741824) (hz : PutsSmall ps) (hp : PutsOwn base Ap cp ps w')
  (hblk : w'.heap[X]? = some (.cells (RecM.cells { r with key := key, Ap := Ap, cp := cp, ps := ps }) 36 (0, 0))) : RcSt X base { r with key := key, Ap := Ap, cp := cp, ps := ps } w' := by
 obtain ⟨h1, _, h3⟩ := h.own hb
 exact ⟨hblk, h1, hp, h3, hk, hz, h.smz⟩
end
/-- The readers of a record's fields. -/
abbrev cR : Reader Nat := dCount 1125899906842624
def dH1 (f : Fl) (p : RecP) : Reader RecP := if f.n = true then rb cR fun v => rp { p with n := v } else rp p
def dH2 (f : Fl) (p : RecP) : Reader RecP := if f.tx = true then rb cR fun a => rb cR fun b => rb cR fun c => rp { p with x1 := a, x2 := b, x3 := c } else rp p
def dH3 (f : Fl) (p : RecP) : Reader RecP := if f.yes = true then rb (dCount 1) fun v => rp { p with yes := decide (v = 1) } else rp p
def dH4 (f : Fl) (p : RecP) : Reader RecP := if f.bat = true then rb dBatch fun b => rp { p with key := b.1, ps := b.2 } else rp p
def dH5 (f : Fl) (p : RecP) : Reader RecP := if f.span = true then rb cR fun a => rb cR fun b => rb cR fun c => rb cR fun d => rp { p with r1 := a, r2 := b, r3 := c, r4 := d } else rp p
def dH6 (f : Fl) (p : RecP) : Reader RecP := if f.dst = true then rb cR fun v => rp { p with dst := v } else rp p
def dH7 (f : Fl) (p : RecP) : Reader RecP := if f.st = true then rb dStamp fun s => rp { p with st := s } else rp p
def dL1 (f : Fl) (p : RecP) : Reader RecP := if f.nodes = true then rb cR fun n => rb (dMany cR n) fun ns => rp { p with nodes := ofN ns } else rp p
def dL2 (f : Fl) (p : RecP) : Reader RecP := if f.sms = true then rb cR fun n => rb (dMany dStream n) fun ss => rp { p with sms := ss } else rp p
def dHead (f : Fl) (p : RecP) : Reader RecP := rb (rb (rb (rb (rb (rb (dH1 f p) (dH2 f)) (dH3 f)) (dH4 f)) (dH5 f)) (dH6 f)) (dH7 f)
def dLists (f : Fl) (p : RecP) : Reader RecP := rb (dL1 f p) (dL2 f)
/-- What a piece that is read leaves of the bytes. -/
def tk (st : Option (List UInt8)) (n : Nat) : Option (List UInt8) := st.bind fun l => if n = 0 then none else some (l.drop n)
theorem tk_gives {α : Type} {d : Reader α} {st : Option (List UInt8)} {n : Nat} {x : α} (h : ∀ l, st = some l → (d l = none ∧ n = 0) ∨ ∃ r, d l = some (x, r) ∧ 0 < n ∧ l.drop n = r) : Gives d st (tk st n) x := by
 cases st with
 | none => exact .inl ⟨rfl, rfl⟩
 | some l =>
  rcases h l rfl with ⟨h1, rfl⟩ | ⟨r, h1, h2, h3⟩
  ·exact .inl ⟨rfl, h1⟩
  ·refine .inr ⟨l, r, rfl, h1, ?_⟩
   show (if n = 0 then none else some (l.drop n)) = some r
   rw [if_neg (by omega), h3]
/-- Of a reader that takes what f writes: how much it took. -/
theorem cn_took {α : Type} {d : Reader α} {f : α → List UInt8} (hd : Cn d f) (he : Eats d) {l r : List UInt8} {x : α} (h : d l = some (x, r)) : 0 < l.length - r.length ∧ l.length - r.length ≤ l.length ∧ l.drop (l.length - r.length) = r := by
 have h1 := hd l x r h
 have h2 := he l x r h
 refine ⟨by omega, by omega, ?_⟩
 have h3 : l.length - r.length = (f x).length := by rw [h1]; simp
 rw [h3]
 conv => lhs; rw [h1]
 simp
def TookPost (T : TypeId) (R D L : Nat) (w : World) (st : Option (List UInt8)) (e : Ending) (w' : World) : Prop := ∃ b, e = .returned (.bool b) ∧ BrS T R D L st w' ∧ But (fun k => k = R) w w'
theorem recTake_any (R D L : Nat) (st : Option (List UInt8)) (n : Nat) (w : World) (h : BrS 53 R D L st w) (hl : ∀ l, st = some l → n ≤ l.length) (hL : L ≤ 1073741824) :
  Calls Tryz.prog 31 #[.pointer (some ⟨R, 0, none⟩), .int .i64 n] w (TookPost 53 R D L w (tk st n)) := by
 cases st with
 | none => exact (recTook_bad R D L none n w h (.inl rfl)).mono fun e w' ⟨h1, h2, h3⟩ => ⟨_, h1, h2, h3⟩
 | some l =>
  by_cases hn : n = 0
  ·have e : tk (some l) n = none := by unfold tk; simp [hn]
   rw [e]
   exact (recTook_bad R D L _ n w h (.inr hn)).mono fun e w' ⟨h1, h2, h3⟩ => ⟨_, h1, h2, h3⟩
  ·have e : tk (some l) n = some (l.drop n) := by unfold tk; simp [hn]
   rw [e]
   exact (recTook_ok R D L l n w h (by omega) (hl l rfl) hL).mono fun e w' ⟨h1, h2, h3⟩ => ⟨_, h1, h2, h3⟩
/-- How it stands behind a part of the fields. -/
structure HdSt (R X D L base : Nat) (w0 : World) (d : Reader RecP) (st0 : Option (List UInt8)) (r : RecM) (st : Option (List UInt8)) (wx : World) : Prop where
 rd : BrS 53 R D L st wx
 rc : RcSt X base r wx
 gv : Gives d st0 st r.p
 but : But (fun k => k = R ∨ k = X) w0 wx
 ls : r.nodes = [] ∧ r.sms = []
def HdEx (R X D L base : Nat) (w0 : World) (d : Reader RecP) (st0 : Option (List UInt8)) (wx : World) : Prop := ∃ r st, HdSt R X D L base w0 d st0 r st wx
section
variable {R X D L base : Nat} {w0 wx wy : World} {d d' : Reader RecP} {st0 st st' : Option (List UInt8)} {r r' : RecM}
theorem reader_alien (h : BrS 53 R D L st wx) (hRX : R ≠ X) : ∀ k, k = R → Alien X wx k := by
 rintro k rfl
 refine ⟨hRX, fun cs t hc => ?_⟩
 obtain ⟨c, h1⟩ := h.blk
 rw [h1] at hc
 simp at hc
 rw [← hc.2]
 decide
theorem RcSt.reader (h : RcSt X base r wx) (hr : BrS 53 R D L st wx) (hRX : R ≠ X) (hb : But (fun k => k = R) wx wy) : RcSt X base r wy := h.but hb (reader_alien hr hRX)
theorem But.left {S T : Nat → Prop} {a b c : World} (h : But (fun k => S k ∨ T k) a b) (k : But S b c) : But (fun k => S k ∨ T k) a c := h.trans (k.mono fun _ _ h => .inl h)
theorem But.right {S T : Nat → Prop} {a b c : World} (h : But (fun k => S k ∨ T k) a b) (k : But T b c) : But (fun k => S k ∨ T k) a c := h.trans (k.mono fun _ _ h => .inr h)
end
end Go.Proofs.YthafeaclpcjjbaaGreatDoor

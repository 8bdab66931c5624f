/- penstockref10.Encode: words for it. Conditions: lengths as told. -/
import Derived.Test.YtheogchkelmeeaaDoorRefMChkQMsgCodes
import Derived.Test.YtheogchkelmeeaaDoorM34MsgCodes
import Derived.Test.YtheogchkelmeeaaDoorM19MsgCodes
import Derived.Test.YtheogchkelmeeaaDoorBatEncQMsgCodes
import Derived.Test.YtheogchkelmeeaaDoorMsgDecLawQMsgCodes
import Derived.Test.YtheogchkelmeeaaDoorMsgEncQMsgCodes
namespace Go.Proofs.YtheogchkelmeeaaDoor
open Go.RowKit

/-- What a message that may be keeps. -/
structure MsgM.Fine (r : MsgM) : Prop where
  x1 : 0 ≤ r.x1 ∧ r.x1 ≤ 1125899906842624
  x2 : 0 ≤ r.x2 ∧ r.x2 ≤ 1125899906842624
  x3 : 0 ≤ r.x3 ∧ r.x3 ≤ 1125899906842624
  z1 : 0 ≤ r.z1 ∧ r.z1 ≤ 1125899906842624
  z2 : 0 ≤ r.z2 ∧ r.z2 ≤ 1125899906842624
  z3 : 0 ≤ r.z3 ∧ r.z3 ≤ 1125899906842624
  z4 : 0 ≤ r.z4 ∧ r.z4 ≤ 1125899906842624
  src : 0 ≤ r.src ∧ r.src ≤ 1125899906842624
  total : 0 ≤ r.total ∧ r.total ≤ 1125899906842624
  code : 0 ≤ r.code ∧ r.code ≤ 1125899906842624
  firsts : ∀ x ∈ r.firsts, 0 ≤ x ∧ x ≤ 1125899906842624
  firstsL : r.firsts.length ≤ 1000
  smsL : r.sms.length ≤ 1000
  esL : r.es.length ≤ 1000
  rgsL : r.rgs.length ≤ 1000
  rgs : ∀ g ∈ r.rgs, (0 ≤ g.a ∧ g.a ≤ 1125899906842624) ∧ (0 ≤ g.b ∧ g.b ≤ 1125899906842624) ∧ (0 ≤ g.c ∧ g.c ≤ 1125899906842624) ∧ (0 ≤ g.d ∧ g.d ≤ 1125899906842624)
  st : stOk r.st = true
theorem inM.wide {x : Int} (h : inM x) : 0 ≤ x ∧ x ≤ 1125899906842624 := ⟨h.1, by have := h.2; omega⟩
theorem mfine_of {r : MsgM} (hc : chkM r.p = true) : r.Fine := by
  unfold chkM at hc
  simp only [Bool.and_eq_true, Bool.or_eq_true, Bool.not_eq_true', decide_eq_false_iff_not, decide_eq_true_eq, inB, rgsB, okIs_in, List.all_eq_true] at hc
  obtain ⟨⟨_, ⟨⟨⟨⟨⟨⟨⟨⟨⟨⟨c1, c2⟩, c3⟩, c4⟩, c5⟩, c6⟩, c7⟩, c8⟩, c9⟩, c10⟩, c11⟩⟩, c12⟩ := hc
  have i1 : ∀ x ∈ [r.x1, r.x2, r.x3, r.src, r.total], inM x := c1.1
  have i2 : ∀ x ∈ [r.z1, r.z2, r.z3, r.z4], inM x := (c7.1 ⟨r.z1, r.z2, r.z3, r.z4⟩ (by simp [MsgM.p])).1
  have k3 : ∀ g ∈ r.rgs, (0 ≤ g.a ∧ g.a ≤ 1125899906842624) ∧ (0 ≤ g.b ∧ g.b ≤ 1125899906842624) ∧ (0 ≤ g.c ∧ g.c ≤ 1125899906842624) ∧ (0 ≤ g.d ∧ g.d ≤ 1125899906842624) := fun g hg => by
    have := (c6.1 g hg).1
    exact ⟨(this _ (by simp [rgNs])).wide, (this _ (by simp [rgNs])).wide, (this _ (by simp [rgNs])).wide, (this _ (by simp [rgNs])).wide⟩
  have k4 : (r.sms.map SmM.sm).length ≤ 1000 := c9
  rw [List.length_map] at k4
  have k5 : 0 ≤ r.code := c3
  have k6 : r.code ≤ 12 := c4
  exact { x1 := (i1 _ (by simp)).wide, x2 := (i1 _ (by simp)).wide, x3 := (i1 _ (by simp)).wide, z1 := (i2 _ (by simp)).wide, z2 := (i2 _ (by simp)).wide, z3 := (i2 _ (by simp)).wide, z4 := (i2 _ (by simp)).wide, src := (i1 _ (by simp)).wide, total := (i1 _ (by simp)).wide, code := ⟨k5, by omega⟩, firsts := fun x hx => (c2.1 x hx).wide, firstsL := c2.2, smsL := k4, esL := c8, rgsL := c6.2, rgs := k3, st := c5 }
section
variable {l m : List UInt8} {A : Option Addr} {c base : Nat} {w : World}
theorem num10_int (x : Int) (hm : Hid (l ++ nL x = m)) (hl : l.length ≤ 1099511627000) (hx : 0 ≤ x ∧ x ≤ 1125899906842624) (hbase : base ≤ w.heap.size) (hown : OwnL 5 1 byteC w base (.slice A l.length c) l) :
    Calls Tryd.prog 45 #[.slice A l.length c, .int .i64 x] w (PostW w (.slice A l.length c) base m) := by
  obtain ⟨q, rfl⟩ : ∃ q : Nat, x = q := ⟨x.toNat, by omega⟩
  have h1 := hm.out
  unfold nL at h1
  rw [Int.toNat_natCast] at h1
  exact num10_own (Lib.hid h1) (by omega) (by omega) hown hbase
theorem tx10_int (x y z : Int) (hm : Hid (l ++ nLs [x, y, z] = m)) (hl : l.length ≤ 1099511627000) (hx : 0 ≤ x ∧ x ≤ 1125899906842624) (hy : 0 ≤ y ∧ y ≤ 1125899906842624) (hz : 0 ≤ z ∧ z ≤ 1125899906842624) (hbase : base ≤ w.heap.size) (hown : OwnL 5 1 byteC w base (.slice A l.length c) l) :
    Calls Tryd.prog 42 #[.slice A l.length c, .agg #[.int .i64 x, .int .i64 y, .int .i64 z]] w (PostW w (.slice A l.length c) base m) := by
  obtain ⟨a, rfl⟩ : ∃ q : Nat, x = q := ⟨x.toNat, by omega⟩
  obtain ⟨b, rfl⟩ : ∃ q : Nat, y = q := ⟨y.toNat, by omega⟩
  obtain ⟨d, rfl⟩ : ∃ q : Nat, z = q := ⟨z.toNat, by omega⟩
  rw [← hm.out]
  exact tx10_any a b d l A c base w hown hbase hl (by omega) (by omega) (by omega)
theorem rng10_int (x y z t : Int) (hm : Hid (l ++ nLs [x, y, z, t] = m)) (hl : l.length ≤ 1099511627000) (hx : 0 ≤ x ∧ x ≤ 1125899906842624) (hy : 0 ≤ y ∧ y ≤ 1125899906842624) (hz : 0 ≤ z ∧ z ≤ 1125899906842624) (ht : 0 ≤ t ∧ t ≤ 1125899906842624) (hbase : base ≤ w.heap.size) (hown : OwnL 5 1 byteC w base (.slice A l.length c) l) :
    Calls Tryd.prog 48 #[.slice A l.length c, .agg #[.int .i64 x, .int .i64 y, .int .i64 z, .int .i64 t]] w (PostW w (.slice A l.length c) base m) := by
  obtain ⟨a, rfl⟩ : ∃ q : Nat, x = q := ⟨x.toNat, by omega⟩
  obtain ⟨b, rfl⟩ : ∃ q : Nat, y = q := ⟨y.toNat, by omega⟩
  obtain ⟨d, rfl⟩ : ∃ q : Nat, z = q := ⟨z.toNat, by omega⟩
  obtain ⟨e, rfl⟩ : ∃ q : Nat, t = q := ⟨t.toNat, by omega⟩
  rw [← hm.out]
  exact rng10_any a b d e l A c base w hown hbase hl (by omega) (by omega) (by omega) (by omega)
theorem flag10_own (yes : Bool) (hm : Hid (l ++ [if yes = true then 1 else 0] = m)) (hl : l.length ≤ 1099511627000) (hbase : base ≤ w.heap.size) (hown : OwnL 5 1 byteC w base (.slice A l.length c) l) :
    Calls Tryd.prog 46 #[.slice A l.length c, .bool yes] w (PostW w (.slice A l.length c) base m) := by
  rw [← hm.out]
  exact flag10_any yes l A c base w hown hbase (by omega)
theorem ints10_own (ns : List Int) (An : Option Addr) (cn B : Nat) (hm : Hid ((l ++ vL ns.length) ++ nLs ns = m)) (hl : l.length ≤ 1099000000000) (hnl : ns.length ≤ 1000) (hns : ∀ x ∈ ns, 0 ≤ x ∧ x ≤ 1125899906842624) (hB : B ≤ base) (hs : Sl intC 1 w B An ns) (hbase : base ≤ w.heap.size) (hown : OwnL 5 1 byteC w base (.slice A l.length c) l) :
    Calls Tryd.prog 44 #[.slice A l.length c, .slice An ns.length cn] w (PostW w (.slice A l.length c) base m) := by
  rw [← hm.out]
  exact ints10_any ns l A An c cn base B w hown hbase hl (by omega) (fun x hx => by have := hns x hx; omega) fun w' hk => hs.keep fun b o hb => hk.1.cell (p := ⟨b, o, none⟩) (by show b < base; omega)
theorem streams10_own (sms : List SmM) (As : Option Addr) (cs B : Nat) (hm : Hid ((l ++ vL sms.length) ++ (sms.map SmM.sm).flatMap smL = m)) (hl : l.length ≤ 599000000000) (hnl : sms.length ≤ 1000) (hsm : ∀ s ∈ sms, SmSmall s.name s.es s.ks ∧ (smL s.sm).length ≤ 500000) (hB : B ≤ base) (hs : SmsIn w B As sms) (hT : ∀ w', Below base w w' → Tabs w') (hbase : base ≤ w.heap.size) (hown : OwnL 5 1 byteC w base (.slice A l.length c) l) :
    Calls Tryd.prog 47 #[.slice A l.length c, .slice As sms.length cs] w (PostW w (.slice A l.length c) base m) := by
  rw [← hm.out]
  have hkp : ∀ {α : Type} {f : α → List Value} {sz : Nat} {A : Option Addr} {xs : List α} {w' : World}, KeepT 5 base w w' → Sl f sz w B A xs → Sl f sz w' B A xs := fun hk h => h.keep fun b o hb => hk.1.cell (p := ⟨b, o, none⟩) (by show b < base; omega)
  exact streams10_any sms l A As c cs base B w hown hbase hl (by omega) hsm (fun w' hk => ⟨hkp hk hs.1, fun s hS => ⟨hkp hk (hs.2 s hS).1, hkp hk (hs.2 s hS).2⟩⟩) (by omega) fun w' hk => hT w' hk.1
end
/-- An own row's address is none of an elder block. -/
theorem OwnL.ne {α : Type} {e : TypeId} {sz : Nat} {f : α → List Value} {w : World} {base n c : Nat} {A : Option Addr} {xs : List α} (h : OwnL e sz f w base (.slice A n c) xs) {b0 : Nat} (hb : b0 < base) : ∀ b o, A = some ⟨b, o, none⟩ → (some b0 : Option Nat) ≠ some b := by
  rintro b o rfl h2
  cases h2
  have := (h.blk (k := b0) rfl).1
  omega
theorem OwnL.nn {α : Type} {e : TypeId} {sz : Nat} {f : α → List Value} {w : World} {base c : Nat} {A : Option Addr} {xs : List α} (hf : ∀ x, (f x).length = sz) (h : OwnL e sz f w base (.slice A xs.length c) xs) : A = none → xs = [] := fun e => by
  have := h.self hf
  rw [e] at this
  exact this.of_none
end Go.Proofs.YtheogchkelmeeaaDoor

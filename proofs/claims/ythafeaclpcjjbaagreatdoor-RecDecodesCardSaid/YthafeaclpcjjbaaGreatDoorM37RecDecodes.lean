/- Several texts in one: RecEnc, RecName, Awake12, Cell2. -/
import Derived.Test.YthafeaclpcjjbaaGreatDoorM36RecDecodes
import Derived.Test.YthafeaclpcjjbaaGreatDoorRecListsQRecDecodes
import Derived.Test.YthafeaclpcjjbaaGreatDoorM20RecDecodes
import Derived.Test.YthafeaclpcjjbaaGreatDoorRecSpareQRecDecodes
/- rec.Encode, rec.Check: what they answer. Conditions: lengths that an append bears; the decoder's tables lie as the library lays them. -/
namespace Go.Proofs.YthafeaclpcjjbaaGreatDoor
open Go.RowKit
def codeO {α : Type} (no : Int) (o : Option α) : Int := if o.isSome = true then 0 else no
/-- Bytes that a call has made and a number; none: no bytes. -/
def RetEnc (no : Int) (w : World) (o : Option (List UInt8)) (e : Ending) (w' : World) : Prop := ∃ A c, e = .returned (.tuple #[.slice A (o.getD []).length c, .int .i64 (codeO no o)]) ∧ OwnL 5 1 byteC w' w.heap.size (.slice A (o.getD []).length c) (o.getD []) ∧ G w w'
theorem spare_eq (kind n dst a b c x1 x2 x3 z1 z2 z3 z4 : Int) (yes : Bool) (key : ByteArray) (nodes : List Int) (ps : List PutP) (sms : List Sm) (nn np ns : Nat) (hn : nodes.length = nn) (hp : ps.length = np) (hs : sms.length = ns) (f0 f1 f2 f3 f4 f5 f6 f7 f8 : Bool) :
  (!((!f0 && decide (n ≠ 0)) || (!f1 && decide (dst ≠ 0)) || (!f2 && yes) || (!f3 && !stB ⟨a, b, c⟩ ⟨0, 0, 0⟩) || (!f4 && !txB x1 x2 x3 0 0 0) || (!f7 && !rgB z1 z2 z3 z4 0 0 0 0) || (!f5 && decide (0 < nn)) || (!f8 && decide (0 < ns)) || (!f6 && (decide (key ≠ ByteArray.empty) || decide (0 < np)))))
   = spareB ⟨kind, n, dst, yes, ⟨a, b, c⟩, x1, x2, x3, nodes, key, ps, z1, z2, z3, z4, sms⟩ ⟨f0, f1, f2, f3, f4, f5, f6, f7, f8⟩ := by
 subst hn hp hs
 have e1 : decide (nodes = []) = !decide (0 < nodes.length) := by cases nodes <;> simp
 have e2 : decide (sms.length = 0) = !decide (0 < sms.length) := by cases sms <;> simp
 have e3 : decide (ps.length = 0) = !decide (0 < ps.length) := by cases ps <;> simp
 unfold spareB stB txB rgB
 dsimp only
 rw [e1, e2, Bool.decide_and (key = ByteArray.empty), e3]
 simp only [Bool.not_or, Bool.not_and, Bool.not_not, decide_not]
theorem fOk_in {k : Int} (h : fOk k = true) : 1 ≤ k ∧ k ≤ 11 := of_decide_eq_true h
set_option maxRecDepth 100000 in
set_option maxHeartbeats 4000000 in
theorem recEnc_any (r : RecM) (w : World) (hin : r.In w) (hok : r.Small) (hT : Tabs w) : Calls Tryz.prog 8 #[.agg r.cells] w (RetEnc 1 w (encR r.p)) := by
 obtain ⟨o, ho⟩ : ∃ o, encR r.p = o := ⟨_, rfl⟩
 rw [ho]
 have hhead := fun (f : Fl) (R base n : Nat) (st : Option (List UInt8)) (w1 : World) => recHead_any r f R base n st w w1
 have hlists := fun (f : Fl) (R base n : Nat) (st : Option (List UInt8)) (w1 : World) => recLists_any r f R base n st w w1
 have hkk := hok.kind
 replace hhead := fun (f : Fl) (R base n : Nat) (st : Option (List UInt8)) (w1 : World) (h1 : WrS 77 R base n st w1) (h2 : base ≤ R) (h3 : G w w1) (h4 : w.heap.size ≤ base) (h5 : n + 600000 ≤ 1099511627776) => hhead f R base n st w1 h1 h2 h3 h4 hin hok hT h5
 replace hlists := fun (f : Fl) (R base n : Nat) (st : Option (List UInt8)) (w1 : World) (h1 : WrS 77 R base n st w1) (h2 : base ≤ R) (h3 : G w w1) (h4 : w.heap.size ≤ base) (h5 : n + 520000000000 ≤ 1099511627776) => hlists f R base n st w1 h1 h2 h3 h4 hin hok hT h5
 clear hin hok hT
 obtain ⟨kind, rn, dst, yes, ⟨a, b, c⟩, x1, x2, x3, An, cn, nodes, key, Ap, cp, ps, z1, z2, z3, z4, As, cs, sms⟩ := r
 unfold encR at ho
 unfold RecM.p at ho hhead hlists
 unfold RecM.cells at hhead hlists ⊢
 dsimp only at ho hhead hlists hkk ⊢
 have hnm := fun w' => recNamed_any kind w'
 generalize flOf kind = f at *
 obtain ⟨f0, f1, f2, f3, f4, f5, f6, f7, f8⟩ := f
 have hsp := fun w' => recSpare_any kind rn dst a b c x1 x2 x3 z1 z2 z3 z4 yes key An Ap As cn cp cs nodes.length ps.length sms.length f0 f1 f2 f3 f4 f5 f6 f7 f8 w'
 rw [spare_eq kind rn dst a b c x1 x2 x3 z1 z2 z3 z4 yes key nodes (ps.map PutM.p) (sms.map SmM.sm) nodes.length ps.length sms.length rfl (by rw [List.length_map]) (by rw [List.length_map])] at hsp
 unfold Fl.cells at hnm
 dsimp only at hnm
 replace hhead := fun R base n st w1 => hhead ⟨f0, f1, f2, f3, f4, f5, f6, f7, f8⟩ R base n st w1
 replace hlists := fun R base n st w1 => hlists ⟨f0, f1, f2, f3, f4, f5, f6, f7, f8⟩ R base n st w1
 unfold Fl.cells at hhead hlists
 dsimp only at hhead hlists
 generalize spareB ⟨kind, rn, dst, yes, ⟨a, b, c⟩, x1, x2, x3, nodes, key, ps.map PutM.p, z1, z2, z3, z4, sms.map SmM.sm⟩ ⟨f0, f1, f2, f3, f4, f5, f6, f7, f8⟩ = sp at *
 obtain ⟨k, hfk⟩ : ∃ k, fOk kind = k := ⟨_, rfl⟩
 rw [hfk] at ho hnm
 replace hfk := Lib.hid hfk
 replace hnm := Lib.hid hnm
 replace hsp := Lib.hid hsp
 replace hhead := Lib.hid hhead
 replace hlists := Lib.hid hlists
 go_enter Tryz.func8, Tryz.ntmps8
 go_upto_region 1 with fail
 have hG0 := G.new w (.cells #[.int .i64 kind, .int .i64 rn, .int .i64 dst, .bool yes, .int .i64 a, .int .i64 b, .int .i64 c, .int .i64 x1, .int .i64 x2, .int .i64 x3, .slice An nodes.length cn, .string key, .slice Ap ps.length cp, .int .i64 z1, .int .i64 z2, .int .i64 z3, .int .i64 z4, .slice As sms.length cs] 36)
 have B0 := blk_new w #[.int .i64 kind, .int .i64 rn, .int .i64 dst, .bool yes, .int .i64 a, .int .i64 b, .int .i64 c, .int .i64 x1, .int .i64 x2, .int .i64 x3, .slice An nodes.length cn, .string key, .slice Ap ps.length cp, .int .i64 z1, .int .i64 z2, .int .i64 z3, .int .i64 z4, .slice As sms.length cs] 36
 generalize w.alloc (.cells #[.int .i64 kind, .int .i64 rn, .int .i64 dst, .bool yes, .int .i64 a, .int .i64 b, .int .i64 c, .int .i64 x1, .int .i64 x2, .int .i64 x3, .slice An nodes.length cn, .string key, .slice Ap ps.length cp, .int .i64 z1, .int .i64 z2, .int .i64 z3, .int .i64 z4, .slice As sms.length cs] 36) = W0 at *
 have g0 := (blk_cell B0 0).trans (show _ = some (.int .i64 kind) from rfl)
 replace B0 := Lib.hid B0
 cases k with
 | false =>
  have hfin : o = none := by rw [← ho]; rfl
  replace hfin := Lib.hid hfin
  go_wp2_with (go_at_call 10; refine Calls.mono (hnm.out _) ?_; rintro e w1 ⟨rfl, hg1⟩)
  go_ret2
  exact ⟨none, 0, by rw [hfin.out]; rfl, by rw [hfin.out]; exact OwnL.nil, hG0.trans (hg1.trans (G.new _ _))⟩
 | true =>
  go_upto_region 2 with (go_at_call 10; refine Calls.mono (hnm.out _) ?_; rintro e w1 ⟨rfl, hg1⟩)
  have hgn := G.new w1 (.cells #[.bool f0, .bool f1, .bool f2, .bool f3, .bool f4, .bool f5, .bool f6, .bool f7, .bool f8] 48)
  have F1 := blk_new w1 #[.bool f0, .bool f1, .bool f2, .bool f3, .bool f4, .bool f5, .bool f6, .bool f7, .bool f8] 48
  have hz1 := hg1.size
  have hz0 := blk_lt B0.out
  generalize w1.alloc (.cells #[.bool f0, .bool f1, .bool f2, .bool f3, .bool f4, .bool f5, .bool f6, .bool f7, .bool f8] 48) = W1 at *
  generalize hX : w1.heap.size = X at *
  replace hX := Lib.hid hX
  have hG1 := hG0.trans (hg1.trans hgn)
  have B1 := hgn.blk (hg1.blk B0.out)
  clear g0
  have LR := load_blk (P := Tryz.prog) (T := 36) B1 Tryz.underlying36 rfl (by kernel_rfl)
  have LF := load_blk (P := Tryz.prog) (T := 48) F1 Tryz.underlying48 rfl (by kernel_rfl)
  replace B1 := Lib.hid B1
  replace F1 := Lib.hid F1
  have hz2 := hgn.size
  clear hgn hg1
  cases sp with
  | false =>
   have hfin : o = none := by rw [← ho]; rfl
   replace hfin := Lib.hid hfin
   go_wp2_with (first | (refine wpList_load_at rfl (by kernel_rfl) (p := .pointer (some ⟨_, 0, none⟩)) rfl (by assumption) ?_) | (go_at_call 26; refine Calls.mono (hsp.out _) ?_; rintro e w2 ⟨rfl, hg2⟩))
   go_ret2
   exact ⟨none, 0, by rw [hfin.out]; rfl, by rw [hfin.out]; exact OwnL.nil, hG1.trans hg2⟩
  | true =>
   simp only [and_self, if_true] at ho
   go_upto_region 4 with (first | (refine wpList_load_at rfl (by kernel_rfl) (p := .pointer (some ⟨_, 0, none⟩)) rfl (by assumption) ?_) | (go_at_call 26; refine Calls.mono (hsp.out _) ?_; rintro e w2 ⟨rfl, hg2⟩))
   clear LR LF
   have hG2 := hG1.trans hg2
   have B2 := hg2.blk B1.out
   have F2 := hg2.blk F1.out
   have g0 := (blk_cell B2 0).trans (show _ = some (.int .i64 kind) from rfl)
   have hkb := fOk_in hfk.out
   have hwk : IntKind.u8.wrap kind = kind := by
    obtain ⟨kn, rfl⟩ : ∃ kn : Nat, kind = kn := ⟨kind.toNat, by omega⟩
    rw [wrap_u8]
    omega
   have hub : ((UInt8.ofNat kind.toNat).toNat : Int) = kind := by rw [UInt8.toNat_ofNat']; omega
   have hzB := hg2.size
   have hzb1 := blk_lt B2
   have hzb2 := blk_lt F2
   go_upto_region 5 with fail
   clear g0 hwk
   have hgw := (G.new w2 (.cells #[.int .u8 kind] 5)).alloc (.cells #[.slice (some ⟨w2.heap.size, 0, none⟩) 1 1, .bool false] 77)
   have hY1 := (G.new (w2.alloc (.cells #[.int .u8 kind] 5)) (.cells #[.slice (some ⟨w2.heap.size, 0, none⟩) 1 1, .bool false] 77)).blk (blk_new w2 #[.int .u8 kind] 5)
   have hY2 := blk_new' (w2.alloc (.cells #[.int .u8 kind] 5)) #[.slice (some ⟨w2.heap.size, 0, none⟩) 1 1, .bool false] 77 (w2.heap.size + 1) (by simp)
   generalize (w2.alloc (.cells #[.int .u8 kind] 5)).alloc (.cells #[.slice (some ⟨w2.heap.size, 0, none⟩) 1 1, .bool false] 77) = W3 at *
   have hG3 := hG2.trans hgw
   have B3 := hgw.blk B2
   have F3 := hgw.blk F2
   have hzG := hG2.size
   have hzR := blk_lt hY2
   generalize w2.heap.size = base at *
   have hw3 : WrS 77 (base + 1) base 1 (some [UInt8.ofNat kind.toNat]) W3 := ⟨_, [UInt8.ofNat kind.toNat], hY2, OwnL.made byteC_len [UInt8.ofNat kind.toNat] hY1 (by simp only [List.flatMap_cons, List.flatMap_nil, byteC, hub]; rfl) (Nat.le_refl _) (by simp), by simp, fun l' e => by cases e; rfl⟩
   have hh1 := hhead.out (base + 1) base 1 _ W3 hw3 (by omega) hG3 (by omega) (by omega)
   obtain ⟨s1, hs1⟩ : ∃ s1, headS ⟨kind, rn, dst, yes, ⟨a, b, c⟩, x1, x2, x3, nodes, key, ps.map PutM.p, z1, z2, z3, z4, sms.map SmM.sm⟩ ⟨f0, f1, f2, f3, f4, f5, f6, f7, f8⟩ (some [UInt8.ofNat kind.toNat]) = s1 := ⟨_, rfl⟩
   rw [hs1] at hh1 ho
   have hl1 := fun (w4 : World) (h1 : WrS 77 (base + 1) base 600001 s1 w4) (h2 : G w w4) => hlists.out (base + 1) base 600001 s1 w4 h1 (by omega) h2 (by omega) (by omega)
   rw [ho] at hl1
   replace hl1 := Lib.hid hl1
   replace hh1 := Lib.hid hh1
   clear hgw hw3 hY1 hY2 hs1 hub
   have LR := load_blk (P := Tryz.prog) (T := 36) B3 Tryz.underlying36 rfl (by kernel_rfl)
   have LF := load_blk (P := Tryz.prog) (T := 48) F3 Tryz.underlying48 rfl (by kernel_rfl)
   replace B2 := Lib.hid B2
   replace F2 := Lib.hid F2
   replace B3 := Lib.hid B3
   replace F3 := Lib.hid F3
   go_upto_region 6 with (first | (refine wpList_load_at rfl (by kernel_rfl) (p := .pointer (some ⟨_, 0, none⟩)) rfl (by assumption) ?_) | (go_at_call 27; refine Calls.mono hh1.out ?_; rintro e w4 ⟨rfl, hw4, hk4⟩))
   clear LR LF
   have hG4 := hk4.ge hG3 (by omega)
   have B4 := hk4.blk (by decide) (by omega) B3.out
   have F4 := hk4.blk (by decide) (by omega) F3.out
   have LR := load_blk (P := Tryz.prog) (T := 36) B4 Tryz.underlying36 rfl (by kernel_rfl)
   have LF := load_blk (P := Tryz.prog) (T := 48) F4 Tryz.underlying48 rfl (by kernel_rfl)
   replace B4 := Lib.hid B4
   replace F4 := Lib.hid F4
   have hl2 := Lib.hid (hl1.out w4 hw4 hG4)
   clear hw4
   go_upto_region 7 with (first | (refine wpList_load_at rfl (by kernel_rfl) (p := .pointer (some ⟨_, 0, none⟩)) rfl (by assumption) ?_) | (go_at_call 28; refine Calls.mono hl2.out ?_; rintro e w5 ⟨rfl, hw5, hk5⟩))
   clear LR LF
   have hG5 := (hk4.trans hk5).ge hG3 (by omega)
   have hc1 := hw5.c1
   cases o with
   | none =>
    simp only [Option.isNone_none] at hc1
    go_wp2_with fail
    go_ret2
    exact ⟨none, 0, rfl, OwnL.nil, hG5⟩
   | some l =>
    simp only [Option.isNone_some] at hc1
    obtain ⟨A8, c8, r1, r2, r3⟩ := hw5.row
    have hc0 := (blk_cell r1 0).trans (show _ = some (.slice A8 l.length c8) from rfl)
    clear hw5
    go_wp2_with fail
    go_ret2
    exact ⟨A8, c8, rfl, r2.mono (by omega), hG5⟩
end Go.Proofs.YthafeaclpcjjbaaGreatDoor
/- rec.Name and penstockref10.RecName: a kind's name. No condition. -/
namespace Go.Proofs.YthafeaclpcjjbaaGreatDoor
open Go.RowKit
def nmOf (k : Int) : ByteArray :=
 if k = 1 then ⟨#[108, 105, 102, 101]⟩ else if k = 2 then ⟨#[99, 101, 105, 108, 105, 110, 103]⟩ else if k = 3 then ⟨#[99, 111, 109, 109, 105, 116]⟩ else if k = 4 then ⟨#[112, 114, 101, 112, 97, 114, 101]⟩
 else if k = 5 then ⟨#[100, 101, 99, 105, 100, 101]⟩ else if k = 6 then ⟨#[111, 117, 116, 99, 111, 109, 101]⟩ else if k = 7 then ⟨#[102, 111, 114, 103, 101, 116]⟩ else if k = 8 then ⟨#[115, 112, 108, 105, 116]⟩
 else if k = 9 then ⟨#[102, 114, 101, 101, 122, 101]⟩ else if k = 10 then ⟨#[105, 110, 115, 116, 97, 108, 108]⟩ else if k = 11 then ⟨#[114, 101, 108, 101, 97, 115, 101]⟩ else ⟨#[]⟩
theorem nm_of {k : Int} (h : fOk k = false) : nmOf k = ⟨#[]⟩ := by
 have := fOk_no h
 unfold nmOf
 rw [if_neg (by omega), if_neg (by omega), if_neg (by omega), if_neg (by omega), if_neg (by omega), if_neg (by omega), if_neg (by omega), if_neg (by omega), if_neg (by omega), if_neg (by omega), if_neg (by omega)]
set_option maxRecDepth 100000 in
set_option maxHeartbeats 1000000 in
theorem recName_any (k : Int) (w : World) : Calls Tryz.prog 9 #[.int .i64 k] w fun e w' => e = .returned (.string (nmOf k)) ∧ G w w' := by
 rcases kind_cases k with rfl | rfl | rfl | rfl | rfl | rfl | rfl | rfl | rfl | rfl | rfl | hno
 case inr.inr.inr.inr.inr.inr.inr.inr.inr.inr.inr =>
  rw [nm_of hno]
  have h0 := fOk_no hno
  have t1 : (k == 1) = false := by rw [beq_eq_false_iff_ne]; omega
  have t2 : (k == 2) = false := by rw [beq_eq_false_iff_ne]; omega
  have t3 : (k == 3) = false := by rw [beq_eq_false_iff_ne]; omega
  have t4 : (k == 4) = false := by rw [beq_eq_false_iff_ne]; omega
  have t5 : (k == 5) = false := by rw [beq_eq_false_iff_ne]; omega
  have t6 : (k == 6) = false := by rw [beq_eq_false_iff_ne]; omega
  have t7 : (k == 7) = false := by rw [beq_eq_false_iff_ne]; omega
  have t8 : (k == 8) = false := by rw [beq_eq_false_iff_ne]; omega
  have t9 : (k == 9) = false := by rw [beq_eq_false_iff_ne]; omega
  have t10 : (k == 10) = false := by rw [beq_eq_false_iff_ne]; omega
  have t11 : (k == 11) = false := by rw [beq_eq_false_iff_ne]; omega
  clear h0 hno
  go_enter Tryz.func9, Tryz.ntmps9
  go_wp2_with fail
  go_ret
  exact ⟨rfl, G.refl _⟩
 all_goals
  go_enter Tryz.func9, Tryz.ntmps9
  go_wp2_with fail
  go_ret
  exact ⟨rfl, G.refl _⟩
end Go.Proofs.YthafeaclpcjjbaaGreatDoor
/- rec.Check; penstocklaw12.awake answers true. Condition: the decoder's tables lie as the library lays them. -/
namespace Go.Proofs.YthafeaclpcjjbaaGreatDoor
open Go.RowKit
set_option maxRecDepth 100000 in
set_option maxHeartbeats 1000000 in
theorem recCheck_any (r : RecM) (w : World) (hin : r.In w) (hok : r.Small) (hT : Tabs w) : Calls Tryz.prog 13 #[.agg r.cells] w fun e w' => e = .returned (.int .i64 (codeO 1 (encR r.p))) ∧ G w w' := by
 have henc := fun (w' : World) (hg : G w w') => recEnc_any r w' ⟨(hin.1.g (Nat.le_refl _) hg).more hg.size, PutsIn.more (hin.2.1.g (Nat.le_refl _) hg) hg.size, ⟨(hin.2.2.1.g (Nat.le_refl _) hg).more hg.size, fun s hs => SmIn.more ((hin.2.2.2 s hs).g (Nat.le_refl _) hg) hg.size⟩⟩ hok (hT.g hg)
 generalize encR r.p = o at *
 clear hin hok hT
 obtain ⟨kind, rn, dst, yes, ⟨a, b, c⟩, x1, x2, x3, An, cn, nodes, key, Ap, cp, ps, z1, z2, z3, z4, As, cs, sms⟩ := r
 unfold RecM.cells at henc ⊢
 dsimp only at henc ⊢
 replace henc := Lib.hid henc
 go_enter Tryz.func13, Tryz.ntmps13
 go_upto_region 1 with fail
 have hG0 := G.new w (.cells #[.int .i64 kind, .int .i64 rn, .int .i64 dst, .bool yes, .int .i64 a, .int .i64 b, .int .i64 c, .int .i64 x1, .int .i64 x2, .int .i64 x3, .slice An nodes.length cn, .string key, .slice Ap ps.length cp, .int .i64 z1, .int .i64 z2, .int .i64 z3, .int .i64 z4, .slice As sms.length cs] 36)
 have LR := load_blk (P := Tryz.prog) (T := 36) (blk_new w #[.int .i64 kind, .int .i64 rn, .int .i64 dst, .bool yes, .int .i64 a, .int .i64 b, .int .i64 c, .int .i64 x1, .int .i64 x2, .int .i64 x3, .slice An nodes.length cn, .string key, .slice Ap ps.length cp, .int .i64 z1, .int .i64 z2, .int .i64 z3, .int .i64 z4, .slice As sms.length cs] 36) Tryz.underlying36 rfl (by kernel_rfl)
 generalize w.alloc (.cells #[.int .i64 kind, .int .i64 rn, .int .i64 dst, .bool yes, .int .i64 a, .int .i64 b, .int .i64 c, .int .i64 x1, .int .i64 x2, .int .i64 x3, .slice An nodes.length cn, .string key, .slice Ap ps.length cp, .int .i64 z1, .int .i64 z2, .int .i64 z3, .int .i64 z4, .slice As sms.length cs] 36) = W0 at *
 have hc := henc.out W0 hG0
 replace hc := Lib.hid hc
 go_wp2_with (first | (refine wpList_load_at rfl (by kernel_rfl) (p := .pointer (some ⟨_, 0, none⟩)) rfl (by assumption) ?_) | (go_at_call 8; refine Calls.mono hc.out ?_; rintro e w2 ⟨A2, c2, rfl, _, hg2⟩))
 go_ret
 exact ⟨rfl, hG0.trans hg2⟩
set_option maxRecDepth 100000 in
set_option maxHeartbeats 1000000 in
theorem awake12_any (w : World) (hT : Tabs w) : Calls Tryz.prog 4 #[] w fun e w' => e = .returned (.bool true) ∧ G w w' := by
 have hen := recEnc_any ⟨1, 1, 0, false, ⟨0, 0, 0⟩, 0, 0, 0, none, 0, [], ⟨#[]⟩, none, 0, [], 0, 0, 0, 0, none, 0, []⟩ w ⟨Sl.nil, ⟨Sl.nil, fun p h => by cases h⟩, ⟨Sl.nil, fun s h => by cases h⟩⟩
  ⟨by unfold Int64; decide, by unfold Int64; decide, by unfold Int64; decide, by unfold Int64; decide, by unfold Int64; decide, by unfold Int64; decide, by unfold Int64; decide, by unfold Int64; decide, by unfold Int64; decide, by unfold Int64; decide, (fun x h => by cases h), by simp, by decide, ⟨by simp, fun p h => by cases h⟩, by decide, by simp, fun s h => by cases h⟩ hT
 rw [show encR (RecM.p ⟨1, 1, 0, false, ⟨0, 0, 0⟩, 0, 0, 0, none, 0, [], ⟨#[]⟩, none, 0, [], 0, 0, 0, 0, none, 0, []⟩) = some [1, 1] from by decide] at hen
 unfold RecM.cells at hen
 dsimp only [List.length_nil] at hen
 have hnm := fun w' => recName_any 9 w'
 rw [show nmOf 9 = ⟨#[102, 114, 101, 101, 122, 101]⟩ from rfl] at hnm
 replace hnm := Lib.hid hnm
 replace hen := Lib.hid hen
 go_enter Tryz.func4, Tryz.ntmps4
 go_wp2_with (first
  | (go_at_call 8; refine Calls.mono hen.out ?_; rintro e w2 ⟨A2, c2, rfl, hown2, hg2⟩; have hsl := OwnL.self byteC_len hown2; obtain ⟨bb, o, rfl, hb, e0⟩ := hsl.byte (k := 0) (x := 1) rfl; obtain ⟨_, _, ee, hb2, e1⟩ := hsl.byte (k := 1) (x := 1) rfl; cases ee; have e0' : w2.cell? ⟨bb, o, none⟩ = some (.int .u8 1) := e0; have e1' : w2.cell? ⟨bb, o + 1, none⟩ = some (.int .u8 1) := e1; clear hown2 hsl e0 e1)
  | (go_at_call 9; refine Calls.mono (hnm.out _) ?_; rintro e w3 ⟨rfl, hg3⟩))
 go_ret
 exact ⟨ret_bool (by rfl), hg2.trans hg3⟩
end Go.Proofs.YthafeaclpcjjbaaGreatDoor
/- Two results, of which the first is a struct in a block of its own. No condition. -/
namespace Go.Proofs.YthafeaclpcjjbaaGreatDoor
open Go.RowKit
theorem results_cell2 {P : Program} {fn : Func} {tmps : Array Value} {W : World} {i j b : Nat} {cs : Array Value} {v : Value} {t T : TypeId} {fz : Nat × Nat} {d : TypeDesc} (hr : fn.results = #[.cell i T, .tmp j]) (hp : tmps.getD i undef = .pointer (some ⟨b, 0, none⟩)) (hv : tmps.getD j undef = v) (h : W.heap[b]? = some (.cells cs t fz)) (hu : P.underlying T = some d) (hd : d.isRow = true) (hi : (P.info? T).map (·.size) = some cs.size) :
  (results fn tmps).run P W = .ok (.tuple #[.agg cs, v]) W := by
 have h2 := run_loadVar_mid (P := P) W b 0 T cs.toList d (fun j v hv => by rw [Nat.zero_add, blk_cell h]; simpa using hv) hu hd (by simpa using hi)
 have h3 : (asAddr (tmps.getD i undef)).run P W = .ok ⟨b, 0, none⟩ W := by rw [hp]; rfl
 unfold results
 rw [hr]
 simp only [List.mapM_toArray, List.mapM_cons, List.mapM_nil, Sem.run_bind, Sem.run_pure, Functor.map, hv]
 have h5 : ∀ (m : Sem (List Value)) (w1 : World), (m.bind (Sem.pure ∘ List.toArray)).run P w1 = (m.run P w1).andThen fun a w' => .ok a.toArray w' := fun m w1 => by
  show (m >>= fun a => pure a.toArray).run P w1 = _
  simp only [Sem.run_bind, Sem.run_pure]
 rw [h5]
 simp only [Sem.run_bind, Sem.run_pure, Result.andThen_ok, h3, h2]
 rfl
end Go.Proofs.YthafeaclpcjjbaaGreatDoor

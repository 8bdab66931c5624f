/- Several texts in one: SameYes, RecDecodesW, ReadStr, ReadD. -/
import Derived.Test.YthafeaclpcjjbaaGreatDoorSameRecQRecDecodes
import Derived.Test.YthafeaclpcjjbaaGreatDoorM43RecDecodes
import Derived.Test.YthafeaclpcjjbaaGreatDoorRefRecDecQRecDecodes
import Derived.Test.YthafeaclpcjjbaaGreatDoorM1RecDecodes
import Derived.Test.YthafeaclpcjjbaaGreatDoorRows
import Derived.ProofKit
import Derived.OpenShut
import Derived.PinnedBridge
import Derived.Lib.LaidU8T
import Derived.Lay
import Derived.SevenTiedAt
import Derived.LaidMore
import Derived.Test.YthafeaclpcjjbaaGreatDoorM4RecDecodes
import Derived.Test.YthafeaclpcjjbaaGreatDoorM15RecDecodes
import Derived.Test.YthafeaclpcjjbaaGreatDoorM2RecDecodes
import Derived.Deep.Slices
/- penstockref10.SameRec of two records alike: true. Condition: lengths as told. -/
namespace Go.Proofs.YthafeaclpcjjbaaGreatDoor
open Go.RowKit
theorem RecM.In.g {r : RecM} {w w' : World} (h : r.In w) (hg : G w w') : r.In w' := ⟨(h.1.g (Nat.le_refl _) hg).more hg.size, PutsIn.more (h.2.1.g (Nat.le_refl _) hg) hg.size, SmsIn.more (h.2.2.g (Nat.le_refl _) hg) hg.size⟩
theorem sameRec_yes (r q : RecM) (w : World) (hr : r.In w) (hq : q.In w) (he : r.p = q.p) (hs : r.Small) :
  Calls Tryz.prog 7 #[.agg r.cells, .agg q.cells] w fun e w' => e = .returned (.bool true) ∧ G w w' := by
 have e1 : r.nodes = q.nodes := congrArg RecP.nodes he
 have e2 : r.key = q.key := congrArg RecP.key he
 have e3 : r.ps.map PutM.p = q.ps.map PutM.p := congrArg RecP.ps he
 have e4 : r.sms.map SmM.sm = q.sms.map SmM.sm := congrArg RecP.sms he
 have hb : recB r q true true true = true := by
  have a1 : r.kind = q.kind := congrArg RecP.kind he
  have a2 : r.n = q.n := congrArg RecP.n he
  have a3 : r.dst = q.dst := congrArg RecP.dst he
  have a4 : r.yes = q.yes := congrArg RecP.yes he
  have a5 : r.st = q.st := congrArg RecP.st he
  have a6 : r.x1 = q.x1 := congrArg RecP.x1 he
  have a7 : r.x2 = q.x2 := congrArg RecP.x2 he
  have a8 : r.x3 = q.x3 := congrArg RecP.x3 he
  have b1 : r.z1 = q.z1 := congrArg RecP.r1 he
  have b2 : r.z2 = q.z2 := congrArg RecP.r2 he
  have b3 : r.z3 = q.z3 := congrArg RecP.r3 he
  have b4 : r.z4 = q.z4 := congrArg RecP.r4 he
  unfold recB
  rw [a1, a2, a3, a4, a5, a6, a7, a8, b1, b2, b3, b4]
  simp [stB, txB, rgB]
 rw [← hb]
 refine sameRec_any r q true true true w (fun w' hg => ?_) (fun w' hg => ?_) (fun w' hg => ?_)
 ·have h := sameInts_any r.nodes q.nodes r.An q.An r.cn q.cn w'.heap.size w'.heap.size w' (Nat.le_refl _) (Nat.le_refl _) (by have := hs.nodesL; omega) (by rw [← e1]; have := hs.nodesL; omega) (hr.g hg).1 (hq.g hg).1
  rw [decide_eq_true e1] at h
  exact h
 ·have h := sameBatch_yes r.key r.ps q.ps r.Ap q.Ap r.cp q.cp w' (hr.g hg).2.1 (hq.g hg).2.1 e3 hs.ps
  rw [← e2]
  exact h
 ·exact sameSms_yes r.sms q.sms r.As q.As r.cs q.cs w' (hr.g hg).2.2 (hq.g hg).2.2 e4 (by have := hs.smsL; omega) fun s hm => by
   have := (hs.sms s hm).1
   exact ⟨by have := this.2.1.1; omega, by have := this.2.2.1; omega⟩
end Go.Proofs.YthafeaclpcjjbaaGreatDoor
/- penstocklaw12.RecDecodes: the walk. Condition: the decoder's tables lie as the library lays them. -/
namespace Go.Proofs.YthafeaclpcjjbaaGreatDoor
open Go.RowKit
theorem zR_small : zR.Small :=
 ⟨by unfold Int64; decide, by unfold Int64; decide, by unfold Int64; decide, by unfold Int64; decide, by unfold Int64; decide, by unfold Int64; decide, by unfold Int64; decide, by unfold Int64; decide, by unfold Int64; decide, by unfold Int64; decide, (fun x h => by cases h), by decide, by decide, ⟨by simp [zR], fun _ h => by cases h⟩, by show (batL ByteArray.empty []).length ≤ 500000; rw [batL_zero]; simp, by decide, fun _ h => by cases h⟩
set_option maxRecDepth 100000 in
set_option maxHeartbeats 4000000 in
theorem recDecodes_walk (l : List UInt8) (A : Option Addr) (c : Nat) (w : World) (hs : Sl byteC 1 w w.heap.size A l) (hcap : l.length ≤ c) (hT : Tabs w) :
  Calls Tryz.prog 3 #[.slice A l.length c] w fun e w' => e = .returned (.bool true) ∧ G w w' := by
 have haw := fun (w' : World) (hg : G w w') => awake12_any w' (hT.g hg)
 by_cases hbig : 6000 < l.length
 ·have t1 : decide ((6000 : Int) < (l.length : Int)) = true := decide_eq_true (by omega)
  have t1' : (6000 : Int) < (l.length : Int) := by omega
  have ha := haw w (G.refl _)
  replace hbig := Lib.hid hbig
  replace haw := Lib.hid ha
  clear ha
  go_enter Tryz.func3, Tryz.ntmps3
  go_wp2_with (go_at_call 4; (with_reducible refine Calls.mono haw.out ?_); rintro e w1 ⟨rfl, hg1⟩)
  go_ret
  exact ⟨rfl, hg1⟩
 ·have t1' : ¬ (6000 : Int) < (l.length : Int) := by omega
  have hl : l.length ≤ 500000 := by omega
  have hd := recDec_any l A c w hs hl hcap hT
  replace hd := Lib.hid hd
  replace hs := Lib.hid hs
  replace haw := Lib.hid haw
  replace hbig := Lib.hid hbig
  go_enter Tryz.func3, Tryz.ntmps3
  have hB : ∀ (u : World) (r : RecM), ∃ W', (Instr.storeAt 36 (.pointer (some ⟨u.heap.size, 0, none⟩)) (.agg r.cells)).run Tryz.prog (u.alloc (.cells #[.int .i64 0, .int .i64 0, .int .i64 0, .bool false, .int .i64 0, .int .i64 0, .int .i64 0, .int .i64 0, .int .i64 0, .int .i64 0, .slice none 0 0, .string ⟨#[]⟩, .slice none 0 0, .int .i64 0, .int .i64 0, .int .i64 0, .int .i64 0, .slice none 0 0] 36)) = .ok () W' ∧ W'.heap[u.heap.size]? = some (.cells r.cells 36 (0, 0)) ∧ G u W' := fun u r => by
   obtain ⟨W9, SR9, C9, hb9, hG9⟩ := store_blk (P := Tryz.prog) (T := 36) (cs := r.cells) (blk_new u #[.int .i64 0, .int .i64 0, .int .i64 0, .bool false, .int .i64 0, .int .i64 0, .int .i64 0, .int .i64 0, .int .i64 0, .int .i64 0, .slice none 0 0, .string ⟨#[]⟩, .slice none 0 0, .int .i64 0, .int .i64 0, .int .i64 0, .int .i64 0, .slice none 0 0] 36) rfl (by kernel_rfl) (by kernel_rfl)
   exact ⟨W9, SR9, C9, hG9 u (G.new u _) (Nat.le_refl _)⟩
  go_upto_region 4 with (first
   | (refine wpList_store_at (ty := 36) rfl (by kernel_rfl) (p := .pointer (some ⟨u1.heap.size, 0, none⟩)) (v := .agg r.cells) rfl rfl SR1 ?_; clear SR1)
   | (go_at_call 5; (with_reducible refine Calls.mono hd.out ?_); rintro e u1 ⟨r, cd, rfl, hr, hin, hg1⟩; obtain ⟨w1, SR1, C1, hgx⟩ := hB u1 r; replace C1 := Lib.hid C1; clear hd))
  have hG1 := hg1.trans hgx
  have hF : ∀ p, decR l = some p → p.Fits := fun p h => by
   rcases hr with ⟨h1, _, h2⟩ | ⟨h1, _⟩
   ·rw [h1] at h
    cases h
    exact rec_fits2 h2
   ·rw [h1] at h
    cases h
  have hd := refDecRec_any l A c w1 ((hs.out.g (Nat.le_refl _) hG1).more hG1.size) hl hcap (hT.g hG1) hF
  replace hd := Lib.hid hd
  replace hF := Lib.hid hF
  replace hr := Lib.hid hr
  replace hin := Lib.hid hin
  replace hgx := Lib.hid hgx
  replace hG1 := Lib.hid hG1
  generalize u1.heap.size = b1 at *
  go_upto_region 5 with (first
   | (refine wpList_store_at (ty := 36) rfl (by kernel_rfl) (p := .pointer (some ⟨u2.heap.size, 0, none⟩)) (v := .agg x.cells) rfl rfl SR2 ?_; clear SR2)
   | (go_at_call 6; (with_reducible refine Calls.mono hd.out ?_); rintro e u2 ⟨x, cx, rfl, hx, hinx, hg2⟩; obtain ⟨w2, SR2, C2, hgy⟩ := hB u2 x; replace C2 := Lib.hid C2; clear hd))
  have hG2 := (hG1.out.trans hg2).trans hgy
  have B1 := hgy.blk (hg2.blk C1.out)
  have LR1 := load_blk (P := Tryz.prog) (T := 36) B1 Tryz.underlying36 rfl (by kernel_rfl)
  have LR2 := load_blk (P := Tryz.prog) (T := 36) C2.out Tryz.underlying36 rfl (by kernel_rfl)
  have hboth : r.p = x.p ∧ r.Small ∧ cd = cx := by
   rcases hr.out with ⟨h1, h2, h3⟩ | ⟨h1, h2, h3⟩
   ·rcases hx with ⟨k1, k2, k3⟩ | ⟨k1, k2, k3⟩
    ·rw [h1] at k1
     exact ⟨Option.some.inj k1, h3, h2.trans k2.symm⟩
    ·rw [h1] at k1
     cases k1
   ·rcases hx with ⟨k1, k2, k3⟩ | ⟨k1, k2, k3⟩
    ·rw [h1] at k1
     cases k1
    ·subst h3
     subst k3
     exact ⟨rfl, zR_small, h2.trans k2.symm⟩
  obtain ⟨hp, hsm, rfl⟩ := hboth
  have hsr := sameRec_yes r x w2 ((hin.out.g hgx.out).g (hg2.trans hgy)) (hinx.g hgy) hp hsm
  have haw2 : ∀ w', G w2 w' → Calls Tryz.prog 4 #[] w' fun e w'' => e = .returned (.bool true) ∧ G w' w'' := fun w' h => haw.out w' (hG2.trans h)
  generalize u2.heap.size = b2 at *
  replace hsr := Lib.hid hsr
  replace haw := Lib.hid haw2
  replace hG2 := Lib.hid hG2
  clear haw2 hp hsm hx hinx hr hF B1 C1 C2 hB hg1 hg2 hgx hgy hin hG1
  go_wp2_with (first
   | (refine wpList_load_at (ty := 36) rfl (by kernel_rfl) (p := .pointer (some ⟨b1, 0, none⟩)) rfl LR1 ?_; clear LR1)
   | (refine wpList_load_at (ty := 36) rfl (by kernel_rfl) (p := .pointer (some ⟨b2, 0, none⟩)) rfl LR2 ?_; clear LR2)
   | (go_at_call 7; (with_reducible refine Calls.mono hsr.out ?_); rintro e w3 ⟨rfl, hg3⟩; clear hsr)
   | (go_at_call 4; (with_reducible refine Calls.mono (haw.out _ hg3) ?_); rintro e w4 ⟨rfl, hg4⟩))
  go_ret
  exact ⟨rfl, (hG2.out.trans hg3).trans hg4⟩
end Go.Proofs.YthafeaclpcjjbaaGreatDoor
/- How texts, numbers and bools read as the laws' arguments; what the listed tables give. No condition. -/
namespace Go.Proofs.YthafeaclpcjjbaaGreatDoor
open Go.RowKit Go.ChangeShapes Go.WideShapes Go.Lib
/-- An int of 64 bits. -/
def I64 (n : Int) : Prop := -9223372036854775808 ≤ n ∧ n ≤ 9223372036854775807
section
variable {H : Type} {enc : TypeId × Value → H} {w : World} {base b0 : Nat} {spare : Nat → Bool} {held : Bool} {fuel : Nat} {cs : List Value} {x : DataW H × List MemPlace} {r : Reach} {v : Value} {d : DataW H} {p : List MemPlace}
theorem i64_of_wf {n : Int} (h : (Lit.int .i64 n).wf = true) : I64 n := by
 have := bounds_i64 h
 exact ⟨by omega, by omega⟩
end
theorem u8Extra : U8Extra Tryz.prog Tryz.lays196_ren := ⟨by kernel_rfl, by kernel_rfl, by kernel_rfl, by kernel_rfl, by kernel_rfl, by kernel_rfl, by kernel_rfl⟩
theorem accept_eq : (Rows.laid_unicode_utf8_acceptRanges : DataW Unit) = acceptData := by kernel_rfl
/-- Where the two tables are listed they lie so. -/
theorem tabs_of_laid {w : World} (h : laidMet Tryz.prog [("unicode/utf8.acceptRanges", Rows.laid_unicode_utf8_acceptRanges), ("unicode/utf8.first", Rows.laid_unicode_utf8_first)] w) : Tabs w :=
 utf8Tabs_of_readsT (U8Types.of196 Tryz.lays196) u8Extra (Pinned.utf8First_eq ▸ Lib.laidMet.reads h (.tail _ (.head _))) (accept_eq ▸ Lib.laidMet.reads h (.head _))
end Go.Proofs.YthafeaclpcjjbaaGreatDoor
/- Door seats: how the arguments of the laws read: texts, numbers, stamps, events, puts, batches, lists of these. No condition. -/
namespace Go.Proofs.YthafeaclpcjjbaaGreatDoor
open Go.RowKit Go.ChangeShapes Go.WideShapes Go.Deep
instance : Inhabited St := ⟨⟨0, 0, 0⟩⟩
instance : Inhabited Ev := ⟨⟨ByteArray.empty, 0, ByteArray.empty, default, 0⟩⟩
instance : Inhabited PutM := ⟨⟨ByteArray.empty, 0, none, 0, []⟩⟩
section
variable {H : Type} {enc : TypeId × Value → H} {w : World} {base : Nat} {spare : Nat → Bool} {held : Bool} {fuel : Nat} {cs : List Value} {x : DataW H × List MemPlace}
set_option maxRecDepth 100000 in
theorem rdv_int (h : DataW.trod enc Tryz.prog w base spare held fuel 3 cs = some x) : ∃ n, cs = intC n ∧ I64 n := by
 obtain ⟨n, rfl, _, hw⟩ := DataW.trod_int Tryz.underlying3 h
 exact ⟨n, rfl, i64_of_wf hw⟩
set_option maxRecDepth 100000 in
theorem cells_int : Tryz.prog.cellsOf 3 = 1 := by kernel_rfl
set_option maxRecDepth 100000 in
/-- A slice is read as the list of what its elements read as. -/
theorem rdv_slice {α : Type} [Inhabited α] {f : α → List Value} {sz : Nat} {ok : α → Prop} {t e : TypeId} (ht : Tryz.prog.underlying t = some (.slice e)) (hc : Tryz.prog.cellsOf e = sz) (hsz : 0 < sz) (hf : ∀ x, (f x).length = sz)
  (hrd : ∀ (n : Nat) (cs : List Value) (y : DataW H × List MemPlace), DataW.trod enc Tryz.prog w base spare held n e cs = some y → ∃ a, cs = f a ∧ ok a)
  (h : DataW.trod enc Tryz.prog w base spare held fuel t cs = some x) :
  ∃ (A : Option Addr) (c : Nat) (xs : List α), cs = [.slice A xs.length c] ∧ Sl f sz w w.heap.size A xs ∧ (∀ a ∈ xs, ok a) ∧ xs.length ≤ c ∧ c ≤ 9223372036854775807 := by
 rcases open_slice ht h with ⟨rfl, _⟩ | ⟨a, len, cap, m, n, D, Pl, rfl, _, hl, hm, hmm, _, hi⟩
 ·exact ⟨none, 0, [], rfl, Sl.nil, by simp, by simp, by simp⟩
 have hlm : len ≤ m := by rw [hmm]; split <;> omega
 rw [hc] at hi
 obtain ⟨F, hF⟩ := choose_lt (α := α) (p := fun i y => w.cells? base (a.add (i * sz)) sz = some (f y) ∧ ok y) (n := len) (fun i hil => by
  obtain ⟨cs', h1, h2⟩ := hi i (by omega)
  obtain ⟨y, rfl, hy⟩ := hrd _ _ _ h2
  exact ⟨y, h1, hy⟩)
 refine ⟨some a, cap, (List.range len).map F, by simp, fun hne => ?_, fun y hy => ?_, by simpa using hl, by simpa [maxLen] using hm⟩
 ·have hpos : 0 < len := by
   rcases Nat.eq_zero_or_pos len with h0 | h0
   ·subst h0; simp at hne
   ·exact h0
  obtain ⟨_, _, hcell0⟩ := World.cells?_some (hF 0 hpos).1
  have h00 := hcell0 0 hsz
  rw [List.getElem?_eq_getElem (by rw [hf]; exact hsz)] at h00
  rw [Nat.zero_mul, add_add] at h00
  have hspot : a.spot = none := by
   obtain ⟨b, o, spot⟩ := a
   simpa [Addr.add] using World.cell?_spot h00
  obtain ⟨b, o, spot⟩ := a
  simp only at hspot
  subst hspot
  refine ⟨b, o, rfl, ?_, fun k y hk j u hu => ?_⟩
  ·simp only [Addr.add_lit, World.cell?] at h00
   rcases Nat.lt_or_ge b w.heap.size with h1 | h1
   ·exact h1
   ·rw [Array.getElem?_eq_none h1] at h00; simp at h00
  ·obtain ⟨hkl, rfl⟩ := List.getElem?_eq_some_iff.1 hk
   simp only [List.length_map, List.length_range] at hkl
   simp only [List.getElem_map, List.getElem_range] at hu
   have hj : j < sz := by rw [← hf (F k)]; exact (List.getElem?_eq_some_iff.1 hu).1
   obtain ⟨_, _, hcell⟩ := World.cells?_some (hF k hkl).1
   have := hcell j hj
   rw [add_add, Addr.add_lit, ← Nat.add_assoc] at this
   rw [this, hu]
 ·simp only [List.mem_map, List.mem_range] at hy
  obtain ⟨i, hil, rfl⟩ := hy
  exact (hF i hil).2
set_option maxRecDepth 100000 in
theorem rdv_ints (h : DataW.trod enc Tryz.prog w base spare held fuel 28 cs = some x) :
  ∃ (A : Option Addr) (c : Nat) (xs : List Int), cs = [.slice A xs.length c] ∧ Sl intC 1 w w.heap.size A xs ∧ (∀ a ∈ xs, I64 a) ∧ xs.length ≤ c ∧ c ≤ 9223372036854775807 :=
 rdv_slice Tryz.underlying28 cells_int (by omega) intC_len (fun _ _ _ h => rdv_int h) h
set_option maxRecDepth 100000 in
theorem cells_u8 : Tryz.prog.cellsOf 5 = 1 := by kernel_rfl
instance : Inhabited Kn := ⟨⟨ByteArray.empty, 0, default⟩⟩
set_option maxRecDepth 100000 in
theorem rdv_u8 (h : DataW.trod enc Tryz.prog w base spare held fuel 5 cs = some x) : ∃ b : UInt8, cs = byteC b ∧ True := by
 obtain ⟨n, rfl, _, hw⟩ := DataW.trod_int Tryz.underlying5 h
 have h1 := bounds_u8 hw
 refine ⟨UInt8.ofNat n.toNat, ?_, trivial⟩
 unfold byteC
 rw [nat_u8 (by omega)]
 congr 2
 omega
set_option maxRecDepth 100000 in
theorem rdv_bytes (h : DataW.trod enc Tryz.prog w base spare held fuel 22 cs = some x) :
  ∃ (A : Option Addr) (c : Nat) (xs : List UInt8), cs = [.slice A xs.length c] ∧ Sl byteC 1 w w.heap.size A xs ∧ xs.length ≤ c ∧ c ≤ 9223372036854775807 := by
 obtain ⟨A, c, xs, e, h1, _, h2, h3⟩ := rdv_slice (ok := fun _ : UInt8 => True) Tryz.underlying22 cells_u8 (by omega) byteC_len (fun _ _ _ h => rdv_u8 h) h
 exact ⟨A, c, xs, e, h1, h2, h3⟩
end
/-! The values of the parameters themselves. -/
section
variable {H : Type} {enc : TypeId × Value → H} {w : World} {base b0 : Nat} {spare : Nat → Bool} {held : Bool} {r : Reach} {v : Value} {d : DataW H} {p : List MemPlace}
set_option maxRecDepth 100000 in
theorem in_bytes (hv : Value.okWide Tryz.prog w r b0 22 v) (h : DataW.Trod enc Tryz.prog w base spare held 22 v d p) :
  ∃ (A : Option Addr) (c : Nat) (xs : List UInt8), v = .slice A xs.length c ∧ Sl byteC 1 w w.heap.size A xs ∧ xs.length ≤ c ∧ c ≤ 9223372036854775807 := by
 obtain ⟨A, n, c, rfl⟩ := okWide_slice Tryz.underlying22 hv
 obtain ⟨fuel, hf⟩ := h
 obtain ⟨A', c', xs, e, hr⟩ := rdv_bytes hf
 simp [Value.cells] at e
 obtain ⟨rfl, rfl, rfl⟩ := e
 exact ⟨_, _, xs, rfl, hr⟩
end
end Go.Proofs.YthafeaclpcjjbaaGreatDoor

/- penstockref7's Eye: Num, Text, Stamp: what they give and leave. Conditions: lengths of at most 2^30. -/
import Derived.Test.YtilfgafdkiaaaaaDoorRdNum
namespace Go.Proofs.YtilfgafdkiaaaaaDoor
open Go.RowKit

set_option maxRecDepth 100000 in
set_option maxHeartbeats 1000000 in
theorem eyeNum_any (R : Nat) (A : Option Addr) (c8 : Nat) (l0 : List UInt8) (st : Option (List UInt8)) (w : World) (h : RdS 81 R A c8 l0 st w) (hl : l0.length ≤ 1073741824) (hcap : l0.length ≤ c8) (mi : Int) (m : Nat) (hm : mi = m) (hm2 : m ≤ 4611686018427387904) :
    Calls Tryd.prog 67 #[.pointer (some ⟨R, 0, none⟩), .int .i64 mi] w (RdPost 81 R A c8 l0 w (.int .i64 (gv 0 (dCount m) st).1) (gv 0 (dCount m) st).2) := by
  subst hm
  have hw : IntKind.u64.wrap (m : Int) = (m : Int) := by rw [wrap_u64]; omega
  obtain ⟨p, hp, hst, hr⟩ := h
  cases st with
  | none =>
    clear hst
    show Calls _ _ _ _ (RdPost _ _ _ _ _ _ (.int .i64 0) none)
    have c2 := hr.c2
    unfold Option.isNone at c2
    replace hr := Lib.hid hr
    go_enter Tryd.func67, Tryd.ntmps67
    go_wp2_with fail
    go_ret
    exact ⟨rfl, ⟨p, hp, (fun _ h => by cases h), hr.out⟩, But.refl _ _⟩
  | some l1 =>
    obtain rfl := hst l1 rfl
    clear hst
    obtain ⟨A', hrun, hsl⟩ := run_tail l0 A c8 p hp hcap
    have hrun2 : ∀ w, (Instr.sliceAt 26 (.slice A l0.length c8) (some (.int .i64 p)) none none).run Tryd.prog w = .ok (.slice A' (l0.drop p).length (c8 - p)) w := fun w => by rw [run_sliceAt_slice _ _ _ _ _ _ (show Tryd.prog.underlying 26 = some (.slice (Tryd.prog.elem 26)) by kernel_rfl)]; exact hrun w
    have hu : ∀ n, Calls Tryd.prog 87 #[.slice A' (l0.drop p).length (c8 - p)] (w.drewN n) fun e w' => e = .returned (uT (uL (l0.drop p))) ∧ w' = w.drewN n := fun n =>
      (refUnvarint_any (l0.drop p) A' (c8 - p) (w.drewN n) (((hsl w R hr.2).more (Nat.le_of_lt hr.lt)).g (Nat.le_refl _) ((G.refl w).drewN n)) (by rw [List.length_drop]; omega) ).mono fun e w' ⟨h1, h2⟩ => ⟨h1, h2.symm⟩
    have hll : (l0.drop p).length = l0.length - p := List.length_drop
    generalize hdr : l0.drop p = l at *
    replace hdr := Lib.hid hdr
    unfold Option.isNone at hr
    cases hx : uL l with
    | none =>
      rw [hx] at hu
      unfold uT at hu
      rw [gv_none (dCount_none (dNum_none hx))]
      clear hx
      show Calls _ _ _ _ (RdPost _ _ _ _ _ _ (.int .i64 0) none)
      replace hll := Lib.hid hll
      replace hp := Lib.hid hp
      replace hcap := Lib.hid hcap
      replace hl := Lib.hid hl
      have c0 := hr.c0
      have c1 := hr.c1
      have c2 := hr.c2
      replace hr := Lib.hid hr
      go_enter Tryd.func67, Tryd.ntmps67
      go_wp2_with fail
      go_quiet ((go_at_call 87; exact Calls.quiet_of_same (hu _)))
      clear hu hrun hrun2 hsl c0 c1 c2
      generalize hwd : w.drewN _ = wd
      have hgd : G w wd := by rw [← hwd]; exact (G.refl _).drewN _
      clear hwd
      replace hr := hr.out.g hgd
      have c2 := hr.c2
      have hf := hr.free 2
      have hend := hr.bad true
      have hbut := (But.of_g hgd).trans (but_set wd R 2 (.bool true))
      replace hr := Lib.hid hr
      replace hend := Lib.hid hend
      replace hbut := Lib.hid hbut
      go_wp2_with fail
      go_ret
      exact ⟨rfl, ⟨p, hp.out, (fun _ h => by cases h), hend.out⟩, hbut.out⟩
    | some y =>
      obtain ⟨v, n⟩ := y
      rw [hx] at hu
      unfold uT at hu
      have hbd := uL_bd hx
      have hd := dCount_some (m := m) (dNum_some hx)
      have t2 : ((n : Int) == 0) = false := by rw [beq_eq_false_iff_ne]; omega
      by_cases hvm : v ≤ m
      · rw [if_pos hvm] at hd
        rw [gv_some hd]
        have t1 : ¬ (m : Int) < (v : Int) := by omega
        have hw2 : IntKind.i64.wrap (v : Int) = (v : Int) := IntWalk.i64_in _ (by omega)
        clear hx hd hvm
        show Calls _ _ _ _ (RdPost _ _ _ _ _ _ (.int .i64 v) (some (l.drop n)))
        replace hll := Lib.hid hll
        replace hp := Lib.hid hp
        replace hcap := Lib.hid hcap
        replace hl := Lib.hid hl
        have c0 := hr.c0
        have c1 := hr.c1
        have c2 := hr.c2
        replace hr := Lib.hid hr
        go_enter Tryd.func67, Tryd.ntmps67
        go_wp2_with fail
        go_quiet ((go_at_call 87; exact Calls.quiet_of_same (hu _)))
        clear hu hrun hrun2 hsl c0 c1 c2
        generalize hwd : w.drewN _ = wd
        have hgd : G w wd := by rw [← hwd]; exact (G.refl _).drewN _
        clear hwd
        replace hr := hr.out.g hgd
        have c1 := hr.c1
        have hf := hr.free 1
        have hend := hr.at (p + n)
        have hbut := (But.of_g hgd).trans (but_set wd R 1 (.int .i64 ((p + n : Nat) : Int)))
        have ep : ((p + n : Nat) : Int) = (p : Int) + n := by omega
        have hnl : p + n ≤ l0.length := by have := hp.out; have := hll.out; omega
        have hpn : p + n ≤ 1073741824 := by have := hl.out; omega
        rw [ep] at hend hbut
        replace hnl := Lib.hid hnl
        replace hr := Lib.hid hr
        replace hend := Lib.hid hend
        replace hbut := Lib.hid hbut
        clear ep
        go_wp2_with fail
        go_ret
        exact ⟨rfl, ⟨p + n, hnl.out, (fun _ h => by cases h; rw [← List.drop_drop]; exact congrArg _ hdr.out), hend.out⟩, hbut.out⟩
      · rw [if_neg hvm] at hd
        rw [gv_none hd]
        have t1 : (m : Int) < (v : Int) := by omega
        clear hx hd hvm
        show Calls _ _ _ _ (RdPost _ _ _ _ _ _ (.int .i64 0) none)
        replace hll := Lib.hid hll
        replace hp := Lib.hid hp
        replace hcap := Lib.hid hcap
        replace hl := Lib.hid hl
        have c0 := hr.c0
        have c1 := hr.c1
        have c2 := hr.c2
        replace hr := Lib.hid hr
        go_enter Tryd.func67, Tryd.ntmps67
        go_wp2_with fail
        go_quiet ((go_at_call 87; exact Calls.quiet_of_same (hu _)))
        clear hu hrun hrun2 hsl c0 c1 c2
        generalize hwd : w.drewN _ = wd
        have hgd : G w wd := by rw [← hwd]; exact (G.refl _).drewN _
        clear hwd
        replace hr := hr.out.g hgd
        have c2 := hr.c2
        have hf := hr.free 2
        have hend := hr.bad true
        have hbut := (But.of_g hgd).trans (but_set wd R 2 (.bool true))
        replace hr := Lib.hid hr
        replace hend := Lib.hid hend
        replace hbut := Lib.hid hbut
        go_wp2_with fail
        go_ret
        exact ⟨rfl, ⟨p, hp.out, (fun _ h => by cases h), hend.out⟩, hbut.out⟩
set_option maxRecDepth 100000 in
set_option maxHeartbeats 1000000 in
theorem eyeText_any (R : Nat) (A : Option Addr) (c8 : Nat) (l0 : List UInt8) (st : Option (List UInt8)) (w : World) (h : RdS 81 R A c8 l0 st w) (hl : l0.length ≤ 1073741824) (hcap : l0.length ≤ c8) :
    Calls Tryd.prog 66 #[.pointer (some ⟨R, 0, none⟩)] w (RdPost 81 R A c8 l0 w (.string (strOf (gv [] dText st).1)) (gv [] dText st).2) := by
  obtain ⟨p, hp, hst, hr⟩ := h
  cases st with
  | none =>
    clear hst
    show Calls _ _ _ _ (RdPost _ _ _ _ _ _ (.string ByteArray.empty) none)
    have c2 := hr.c2
    unfold Option.isNone at c2
    replace hr := Lib.hid hr
    go_enter Tryd.func66, Tryd.ntmps66
    go_wp2_with fail
    go_ret
    exact ⟨rfl, ⟨p, hp, (fun _ h => by cases h), hr.out⟩, But.refl _ _⟩
  | some l1 =>
    obtain rfl := hst l1 rfl
    clear hst
    obtain ⟨A', hrun, hsl⟩ := run_tail l0 A c8 p hp hcap
    have hrun2 : ∀ w, (Instr.sliceAt 26 (.slice A l0.length c8) (some (.int .i64 p)) none none).run Tryd.prog w = .ok (.slice A' (l0.drop p).length (c8 - p)) w := fun w => by rw [run_sliceAt_slice _ _ _ _ _ _ (show Tryd.prog.underlying 26 = some (.slice (Tryd.prog.elem 26)) by kernel_rfl)]; exact hrun w
    have hu : ∀ n, Calls Tryd.prog 86 #[.slice A' (l0.drop p).length (c8 - p)] (w.drewN n) fun e w' => e = .returned (tT (tL (l0.drop p))) ∧ w' = w.drewN n := fun n =>
      (refTake_any (l0.drop p) A' (c8 - p) (w.drewN n) (((hsl w R hr.2).more (Nat.le_of_lt hr.lt)).g (Nat.le_refl _) ((G.refl w).drewN n)) (by rw [List.length_drop]; omega) (by rw [List.length_drop]; omega)).mono fun e w' ⟨h1, h2⟩ => ⟨h1, h2.symm⟩
    have hll : (l0.drop p).length = l0.length - p := List.length_drop
    generalize hdr : l0.drop p = l at *
    replace hdr := Lib.hid hdr
    unfold Option.isNone at hr
    cases hx : tL l with
    | none =>
      rw [hx] at hu
      unfold tT at hu
      rw [gv_none (dText_none hx)]
      clear hx
      show Calls _ _ _ _ (RdPost _ _ _ _ _ _ (.string ByteArray.empty) none)
      replace hll := Lib.hid hll
      replace hp := Lib.hid hp
      replace hcap := Lib.hid hcap
      replace hl := Lib.hid hl
      have c0 := hr.c0
      have c1 := hr.c1
      have c2 := hr.c2
      replace hr := Lib.hid hr
      go_enter Tryd.func66, Tryd.ntmps66
      go_wp2_with fail
      go_quiet ((go_at_call 86; exact Calls.quiet_of_same (hu _)))
      clear hu hrun hrun2 hsl c0 c1 c2
      generalize hwd : w.drewN _ = wd
      have hgd : G w wd := by rw [← hwd]; exact (G.refl _).drewN _
      clear hwd
      replace hr := hr.out.g hgd
      have c2 := hr.c2
      have hf := hr.free 2
      have h2 := hr.bad true
      have c1 := h2.c1
      have hf2 := h2.free 1
      have hend := h2.at p
      have hbut := ((But.of_g hgd).trans (but_set wd R 2 (.bool true))).trans (but_set _ R 1 (.int .i64 p))
      have hpn : p ≤ 1073741824 := by have := hl.out; have := hp.out; omega
      replace hr := Lib.hid hr
      replace h2 := Lib.hid h2
      replace hend := Lib.hid hend
      replace hbut := Lib.hid hbut
      go_wp2_with fail
      go_ret
      exact ⟨rfl, ⟨p, hp.out, (fun _ h => by cases h), hend.out⟩, hbut.out⟩
    | some y =>
      obtain ⟨s, n⟩ := y
      rw [hx] at hu
      unfold tT at hu
      have hbd := tL_bd hx
      have t2 : ((n : Int) == 0) = false := by rw [beq_eq_false_iff_ne]; omega
      rw [gv_some (dText_some hx)]
      clear hx
      show Calls _ _ _ _ (RdPost _ _ _ _ _ _ (.string (strOf s)) (some (l.drop n)))
      replace hll := Lib.hid hll
      replace hp := Lib.hid hp
      replace hcap := Lib.hid hcap
      replace hl := Lib.hid hl
      have c0 := hr.c0
      have c1 := hr.c1
      have c2 := hr.c2
      replace hr := Lib.hid hr
      go_enter Tryd.func66, Tryd.ntmps66
      go_wp2_with fail
      go_quiet ((go_at_call 86; exact Calls.quiet_of_same (hu _)))
      clear hu hrun hrun2 hsl c0 c1 c2
      generalize hwd : w.drewN _ = wd
      have hgd : G w wd := by rw [← hwd]; exact (G.refl _).drewN _
      clear hwd
      replace hr := hr.out.g hgd
      have c1 := hr.c1
      have hf := hr.free 1
      have hend := hr.at (p + n)
      have hbut := (But.of_g hgd).trans (but_set wd R 1 (.int .i64 ((p + n : Nat) : Int)))
      have ep : ((p + n : Nat) : Int) = (p : Int) + n := by omega
      have hnl : p + n ≤ l0.length := by have := hp.out; have := hll.out; omega
      have hpn : p + n ≤ 1073741824 := by have := hl.out; omega
      rw [ep] at hend hbut
      replace hnl := Lib.hid hnl
      replace hr := Lib.hid hr
      replace hend := Lib.hid hend
      replace hbut := Lib.hid hbut
      clear ep
      go_wp2_with fail
      go_ret
      exact ⟨rfl, ⟨p + n, hnl.out, (fun _ h => by cases h; rw [← List.drop_drop]; exact congrArg _ hdr.out), hend.out⟩, hbut.out⟩
end Go.Proofs.YtilfgafdkiaaaaaDoor

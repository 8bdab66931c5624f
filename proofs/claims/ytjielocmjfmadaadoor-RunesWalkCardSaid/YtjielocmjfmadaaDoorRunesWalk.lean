/- penstocklaw1.RunesWalk returns true for every text and leaves it as it was; the card is tied to the program's text. No condition beyond the card's own: utf8's two tables lie as the library lays them. -/
import Derived.Test.YtjielocmjfmadaaDoorAwake1
import Derived.Test.YtjielocmjfmadaaDoorReadStr
import Derived.Test.YtjielocmjfmadaaDoorTie
import Derived.Test.YtjielocmjfmadaaDoorCards
namespace Go.Proofs.YtjielocmjfmadaaDoor.runesWalk
open Go.RowKit

theorem empty_iff (s : ByteArray) : s.toList.isEmpty = ((((cks s.data.toList).length : Nat) : Int) == 0) := by
  rw [ByteArray.toList_eq]
  rcases h : s.data.toList with _ | ⟨b, l⟩
  · rfl
  · have h1 := cks_step (l := b :: l) (by simp)
    rw [h1]
    simp
    omega
set_option maxHeartbeats 1000000 in
theorem walk (s : ByteArray) (w : World) (hs : s.size ≤ 9223372036854775807) (hT : Tabs w) :
    Calls Tryd.prog 3 #[.string s] w fun e w' => e = .returned (.bool true) ∧ G w w' := by
  by_cases hbig : (1000 : Int) < s.size
  · go_enter Tryd.func3, Tryd.ntmps3
    go_wp2_with fail
    refine (awake1_any w hT).mono ?_
    rintro e w1 ⟨rfl, hg⟩
    go_wp2_with fail
    go_ret
    exact ⟨rfl, hg⟩
  have hdl : s.data.toList.length = s.size := by simp
  have hlen : (cks s.data.toList).length ≤ 1000 := Nat.le_trans (cks_length_le _) (by omega)
  clear hdl
  have hem := empty_iff s
  have hco := count_any s w hs
  have hat : ∀ (k : Int) w', _ := fun k w' => at_any s k w' hs
  replace hT := Lib.hid hT
  replace hat := Lib.hid hat
  replace hem := Lib.hid hem
  go_enter Tryd.func3, Tryd.ntmps3
  go_wp2_with fail
  refine hco.mono ?_
  clear hco
  rintro e W1 ⟨rfl, hg1⟩
  go_wp2_with fail
  go_loopw [4, 5] (fun v4 v5 wr => ∃ (k : Nat) (z : Int), v4 = .int .i64 z ∧ v5 = .int .i64 k ∧ k ≤ (cks s.data.toList).length ∧ Hid (IterAt wr W1.heap.size s k) ∧ z < off s.data.toList k ∧ G W1 wr) (fun _ v5 _ => (cks s.data.toList).length - (intOf v5).toNat)
  case atStart => exact ⟨0, -1, rfl, rfl, Nat.zero_le _, IterAt.start W1 s, by rw [off_zero]; omega, G.iter _ _ _⟩
  case round =>
    obtain ⟨k, z, rfl, rfl, hk, hit, hz, hg⟩ := hrel
    by_cases hlt : k < (cks s.data.toList).length
    · obtain ⟨c, hc⟩ := piece_at hlt
      obtain ⟨w2, hnx, hit1, hbt, hsz1⟩ := run_next_piece (P := Tryd.prog) hit.out hc
      have hg2 := hg.next hbt (Nat.le_refl _)
      have ha := hat.out k w2
      rw [atV_some hc] at ha
      have hos := off_succ hc
      have hbs := (cks_ok _ c (List.mem_of_getElem? hc)).len
      generalize off s.data.toList k = p at *
      have hz1 : decide ((p : Int) ≤ z) = false := decide_eq_false (by omega)
      have hz2 : (p : Int) < off s.data.toList (k + 1) := by omega
      replace hz2 := Lib.hid hz2
      replace hit1 := Lib.hid hit1
      clear hc hit hbt hos hbs hsz1 hz
      go_wp2_with fail
      refine ha.mono ?_
      clear ha
      rintro e w3 ⟨rfl, hg3⟩
      go_wp2_with fail
      go_roundw
      case rel => exact ⟨k + 1, p, rfl, by go_num, by omega, hit1.out.g hg3, hz2.out, hg2.trans hg3⟩
      case measure => (simp [intOf] <;> omega)
    · have hnx := fun ty => run_next_over (P := Tryd.prog) ty hit.out (by omega)
      obtain rfl : k = (cks s.data.toList).length := by omega
      have ha := hat.out ((cks s.data.toList).length : Int) wr
      rw [atV_none (by omega)] at ha
      have haw : ∀ w', G W1 w' → _ := fun w' h => awake1_any w' (hT.out.g (hg1.trans h))
      replace haw := Lib.hid haw
      have hem2 := hem.out
      generalize (cks s.data.toList).length = n at *
      clear hz hit
      cases hb : ((n : Int) == 0)
      all_goals
        rw [hb] at hem2
        go_wp2_with fail
        refine ha.mono ?_
        rintro e w3 ⟨rfl, hg3⟩
        go_wp2_with fail
        refine (haw.out _ (hg.trans hg3)).mono ?_
        rintro e w4 ⟨rfl, hg4⟩
        go_wp2_with fail
        go_ret
        exact ⟨rfl, hg1.trans (hg.trans (hg3.trans hg4))⟩

/-! The row's step, by the guide's shell. -/
open Go.ChangeShapes Go.WideShapes Go.ChangeAt
theorem own : ownKnob Tryd.prog.godebug = none := by kernel_rfl
theorem laidOut : laidOutB Tryd.prog = true := by kernel_rfl
set_option maxRecDepth 100000 in
theorem lifted (os : Os) (started : os.Started) (H : Type) (enc : TypeId × Value → H) :
    ReturnsInHanded {} Tryd.checked os 3 .any (fun w args => (Rows.runesWalkSpec.pre enc Tryd.prog Tryd.f3 [] false w args ∧ laidMetH Tryd.prog Rows.runesWalkRow.laid w) ∧ sizedMet enc Tryd.prog Tryd.f3 (OpenSpec.ofChange Rows.runesWalkSpec) false w args) (Rows.runesWalkSpec.post enc Tryd.prog Tryd.f3 false true false false) := by
  refine returnsInHanded_of_change_and (C := Tryd.checked) (X := fun w _ => laidMetH Tryd.prog Rows.runesWalkRow.laid w) (fun _ _ _ hh h => h.of_heap hh) own started (by kernel_rfl) Tryd.func3
    (ChangeSpec.witness_shaped (enc := enc) (C := Tryd.checked) (os := os) (X := fun w _ => laidMetH Tryd.prog Rows.runesWalkRow.laid w) false (World.laidAll Tryd.prog os Rows.runesWalkRow.laid) #[.string ByteArray.empty] 8 (World.laidAll_os _ _ _)
      (World.shaped_of_ZipB (by kernel_rfl) (by kernel_rfl)) (by kernel_rfl) (by kernel_rfl) (by kernel_rfl)
      (by rw [MakeChecks.laidMetH_plain _ _ _ (by kernel_rfl)]; exact laidMet_laidAll _ (by kernel_rfl) (by kernel_rfl))) ?_
  intro W base args ds gs before hval0 hW _ _ hL _
  have hval : ∀ (j : Nat) t v, Tryd.f3.params[j]? = some t → args[j]? = some v → Value.okWide Tryd.prog W .any base t v := hval0
  have hW' := hW
  obtain ⟨p, q, hA0, hV, rfl, hfz, hnd⟩ := hW
  have hA : DataW.TrodAll enc Tryd.prog W 0 (fun _ => true) true Tryd.f3.params.toList args.toList ds p := hA0
  rw [Tryd.params3] at hA hval
  obtain ⟨v0, vs0, d0, ds0, p0, q0, hargs, rfl, rfl, h0, r0⟩ := trodAll_cons hA
  obtain ⟨rfl, rfl, rfl⟩ := trodAll_nil r0
  obtain rfl : args = #[v0] := by cases args; simp_all
  obtain ⟨rfl, rfl⟩ := trodVars_none hV
  have lt0 : ∀ x ∈ p0, x.block < W.heap.size := by obtain ⟨m, hm⟩ := h0; exact DataW.trod_lt m _ _ _ hm
  obtain ⟨s, rfl, hs⟩ := in_str (hval 0 _ _ rfl rfl) h0
  have hT : Tabs W := tabs_of_laid (by rw [MakeChecks.laidMetH_plain _ _ _ (by kernel_rfl)] at hL; exact hL)
  clear hA0 hval0
  refine (walk s W hs hT).mono fun e W' ⟨he, hg⟩ => ?_
  have bel : Below W.heap.size W W' := hg
  subst he
  exact ⟨_, rfl, _, _, _, [], _, [], hW', trodAll_mk1 (shut_bool Tryd.underlying4 _), (trodAll_cons_mk (Below.trod laidOut (by kernel_rfl) (of_decide_eq_true (by kernel_rfl)) h0 bel lt0) (trodAll_mk0)), rfl, bel.frame _, fun h => by cases h⟩

theorem over : Rows.runesWalkRow.holds Tryd.pinned (OpenSpec.ofChange Rows.runesWalkSpec) :=
  OpenClaim.holds_of_wide 3 Tryd.f3 rfl rfl rfl rfl rfl rfl rfl ⟨rfl, rfl, rfl, rfl, rfl⟩ rfl rfl rfl rfl rfl (by kernel_rfl) Tryd.func3 (by kernel_rfl)
    (of_decide_eq_true (by kernel_rfl)) (by unfold Func.isWrapper; first | (rw [if_pos (by decide +kernel)]; kernel_rfl) | (rw [if_neg (by decide +kernel)]; exact ⟨rfl, rfl⟩))
    (fun os started H enc _ => lifted os started H enc)

/-- The card. -/
theorem proved : Rows.RunesWalkCardSaid :=
  Claim7.holds_tied_plain_at .later [] _ _ _ _ over (fun _ h => by cases h) (by kernel_rfl) (fun _ h => by cases h) runesWalk_row_tie rfl ⟨rfl, rfl⟩ (by kernel_rfl) rfl
    (fun f fn hf hfn => by
      obtain rfl : f = 3 := Option.some.inj ((show Tryd.prog.funcNamed "penstock/penstocklaw1.RunesWalk" = some 3 by kernel_rfl).symm.trans hf) |>.symm
      obtain rfl : fn = Tryd.f3 := (Option.some.inj (Tryd.func3.symm.trans hfn)).symm
      exact ⟨by kernel_rfl, fun j t ht => by
        have hall : (Tryd.f3.params.toList.all fun u => !Tryd.prog.wantsStandIn u) = true := by kernel_rfl
        have hm : t ∈ Tryd.f3.params.toList := by simpa using Array.mem_of_getElem? ht
        exact (show Tryd.prog.wantsStandIn t = false by simpa using List.all_eq_true.1 hall t hm)⟩)
    (by kernel_rfl)
#print axioms proved
end Go.Proofs.YtjielocmjfmadaaDoor.runesWalk

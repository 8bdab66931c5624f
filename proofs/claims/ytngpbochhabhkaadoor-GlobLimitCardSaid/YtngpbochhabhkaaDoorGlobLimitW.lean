/- penstocklaw2.GlobLimit: the walk. Condition: utf8's two tables lie as the library lays them. -/
import Derived.Test.YtngpbochhabhkaaDoorGlobTexts
import Derived.Laws.Concat
namespace Go.Proofs.YtngpbochhabhkaaDoor.globLimit
open Go.RowKit

/-- A text some times over. -/
def repL (x : List UInt8) (n : Nat) : List UInt8 := (List.replicate n x).flatten
theorem repL_succ (x : List UInt8) (n : Nat) : repL x (n + 1) = repL x n ++ x := by
  unfold repL
  rw [List.replicate_succ', List.flatten_append]
  simp
theorem repL_len (x : List UInt8) : ∀ n, (repL x n).length = n * x.length
  | 0 => by simp [repL]
  | n + 1 => by rw [repL_succ, List.length_append, repL_len x n, Nat.succ_mul]
theorem cks_rep {x : List UInt8} {c : Ck} (h : cks x = [c]) (hb : c.bad = false) : ∀ n, cks (repL x n) = List.replicate n c ∧ goodL (repL x n)
  | 0 => ⟨rfl, fun c hc => by cases hc⟩
  | n + 1 => by
    obtain ⟨h1, h2⟩ := cks_rep h hb n
    have hg : goodL x := fun d hd => by
      rw [h, List.mem_singleton] at hd
      rw [hd, hb]
    rw [repL_succ]
    exact ⟨by rw [cks_app h2, h1, h, List.replicate_succ'], goodL_app h2 hg⟩
theorem runes_rep {x : List UInt8} {c : Ck} (h : cks x = [c]) (hb : c.bad = false) (n : Nat) : runesL (strOf (repL x n)) = List.replicate n c.r := by
  unfold runesL
  rw [strOf_list, (cks_rep h hb n).1, List.map_replicate]
theorem valid_rep {x : List UInt8} {c : Ck} (h : cks x = [c]) (hb : c.bad = false) (n : Nat) : validB (strOf (repL x n)) = true := by
  rw [goodL_iff, strOf_list]
  exact (cks_rep h hb n).2
theorem count_rep {x : List UInt8} {c : Ck} (h : cks x = [c]) (hb : c.bad = false) (n : Nat) : (cks (strOf (repL x n)).data.toList).length = n := by
  rw [strOf_list, (cks_rep h hb n).1, List.length_replicate]
theorem parse_quests : ∀ n, parseL (List.replicate n 63) = (List.replicate n quest, false)
  | 0 => rfl
  | n + 1 => by
    rw [List.replicate_succ, parseL_one (one_quest _), parse_quests n]
    rfl
theorem mt_quests : ∀ n, Mt (List.replicate n quest) (List.replicate n 63)
  | 0 => .nil
  | n + 1 => by rw [List.replicate_succ, List.replicate_succ]; exact .one _ _ _ _ rfl rfl (mt_quests n)
theorem ask {x : List UInt8} {c : Ck} (h : cks x = [c]) (hb : c.bad = false) {P : List Pc} (n : Nat) (hP : parseL (List.replicate n c.r) = (P, false)) (hM : Mt P (List.replicate n c.r)) :
    patOk (strOf (repL x n)) = decide (n ≤ 40) ∧ matchB (strOf (repL x n)) (strOf (repL x n)) = decide (n ≤ 40) := by
  have hr := runes_rep h hb n
  have hv := valid_rep h hb n
  have hc := count_rep h hb n
  have h1 : patOk (strOf (repL x n)) = decide (n ≤ 40) := by
    unfold patOk
    rw [hv, hc, hr, hP]
    simp
    omega
  refine ⟨h1, ?_⟩
  unfold matchB patP
  rw [h1, hv, hr, hP, matchL_t hM]
  simp
theorem cks_e : cks [195, 169] = [⟨[195, 169], 233⟩] := by decide +kernel
theorem cks_q : cks [63] = [⟨[63], 63⟩] := by decide +kernel
theorem ask_e (n : Nat) : patOk (strOf (repL [195, 169] n)) = decide (n ≤ 40) ∧ matchB (strOf (repL [195, 169] n)) (strOf (repL [195, 169] n)) = decide (n ≤ 40) :=
  ask cks_e (by decide) n (parse_lits _ (fun c hc => by have := List.eq_of_mem_replicate hc; simp only at this; omega)) ((Mt.lits _ _).2 rfl)
theorem ask_q (n : Nat) : patOk (strOf (repL [63] n)) = decide (n ≤ 40) ∧ matchB (strOf (repL [63] n)) (strOf (repL [63] n)) = decide (n ≤ 40) :=
  ask cks_q (by decide) n (parse_quests n) (mt_quests n)
set_option maxRecDepth 100000 in
set_option maxHeartbeats 1000000 in
theorem walk (z : Int) (b : Bool) (w : World) (hz : -9223372036854775808 ≤ z ∧ z ≤ 9223372036854775807) (hT : Tabs w) :
    Calls Tryd.prog 9 #[.int .i64 z, .bool b] w fun e w' => e = .returned (.bool true) ∧ G w w' := by
  replace hT := Lib.hid hT
  by_cases hin : ¬ (0 ≤ z ∧ z ≤ 60)
  · by_cases h1 : z < 0
    all_goals
      go_enter Tryd.func9, Tryd.ntmps9
      go_wp2_with fail
      refine (awake2_any _ hT.out).mono ?_
      rintro e w6 ⟨rfl, hg6⟩
      go_wp2_with fail
      go_ret
      exact ⟨rfl, hg6⟩
  rw [Classical.not_not] at hin
  obtain ⟨n, rfl⟩ := Int.eq_ofNat_of_zero_le hin.1
  have hn : n ≤ 60 := by omega
  clear hin hz
  cases b with
  | true =>
    have hadd : ∀ j, j < n → ∀ w, (Op.stringOp .add (strOf (repL [195, 169] j)) { data := #[195, 169] }).run Tryd.prog w = .ok (.string (strOf (repL [195, 169] (j + 1)))) w := fun j hj w => by
      have h := run_string_add_sum (P := Tryd.prog) w (strOf (repL [195, 169] j)) (strOf [195, 169]) (by rw [strOf_size, strOf_size, repL_len]; simp; omega)
      rw [show strOf (repL [195, 169] j) ++ strOf [195, 169] = strOf (repL [195, 169] (j + 1)) by rw [repL_succ]; exact ByteArray.mk_append_mk _ _] at h
      exact h
    have hw0 : (strOf (repL [195, 169] 0)) = { data := #[] } := rfl
    replace hw0 := Lib.hid hw0
    replace hadd := Lib.hid hadd
    go_enter Tryd.func9, Tryd.ntmps9
    go_wp2_with fail
    go_loopw [5, 6] (fun t i wr => ∃ j : Nat, j ≤ n ∧ i = .int .i64 j ∧ t = .string (strOf (repL [195, 169] j)) ∧ G w wr) (fun _ i _ => n - (intOf i).toNat)
    case atStart => exact ⟨0, Nat.zero_le _, rfl, by rw [hw0.out], G.refl _⟩
    case round =>
      obtain ⟨j, hj, rfl, rfl, hg⟩ := hrel
      by_cases hlt : j < n
      · have ha := hadd.out j hlt
        generalize strOf (repL [195, 169] j) = P1 at *
        generalize hP2 : strOf (repL [195, 169] (j + 1)) = P2 at *
        replace hP2 := Lib.hid hP2.symm
        go_wp2_with fail
        go_roundw
        case rel => exact ⟨j + 1, by omega, by go_num, by rw [hP2.out], hg⟩
        case measure => (simp [intOf] <;> omega)
      · obtain rfl : j = n := by omega
        have ha := ask_e j
        have hz : (strOf (repL [195, 169] j)).size ≤ 1073741824 := by rw [strOf_size, repL_len]; simp; omega
        have hck : ∀ w', G w w' → _ := fun w' h => check_any (strOf (repL [195, 169] j)) w' hz (hT.out.g h)
        have hma : ∀ w', G w w' → _ := fun w' h => match_any (strOf (repL [195, 169] j)) (strOf (repL [195, 169] j)) w' hz hz (hT.out.g h)
        have haw : ∀ w', G w w' → _ := fun w' h => awake2_any w' (hT.out.g h)
        rw [ha.1] at hck
        rw [ha.2] at hma
        generalize strOf (repL [195, 169] j) = S at *
        replace hma := Lib.hid hma
        replace haw := Lib.hid haw
        clear ha hz hadd hlt
        by_cases h40 : j ≤ 40
        · have t40 : (j : Int) ≤ 40 := by omega
          rw [decide_eq_true h40] at hck
          unfold chkI at hck
          replace hma := hma.out
          rw [decide_eq_true h40] at hma
          replace hck := Lib.hid hck
          replace hma := Lib.hid hma
          clear h40
          go_wp2_with fail
          refine (hck.out wr hg).mono ?_
          rintro e w3 ⟨rfl, hg3⟩
          replace hg3 := hg.trans hg3
          go_wp2_with fail
          refine (hma.out w3 hg3).mono ?_
          rintro e w4 ⟨rfl, hg4⟩
          replace hg4 := hg3.trans hg4
          go_wp2_with fail
          refine (haw.out w4 hg4).mono ?_
          rintro e w5 ⟨rfl, hg5⟩
          go_wp2_with fail
          go_ret
          first
          | exact ⟨rfl, hg4.trans hg5⟩
          | exact ⟨ret_bool (by rw [decide_eq_false (by omega)]; rfl), hg4.trans hg5⟩
        · have t40 : ¬ (j : Int) ≤ 40 := by omega
          rw [decide_eq_false h40] at hck
          unfold chkI at hck
          replace hma := hma.out
          rw [decide_eq_false h40] at hma
          replace hck := Lib.hid hck
          replace hma := Lib.hid hma
          clear h40
          go_wp2_with fail
          refine (hck.out wr hg).mono ?_
          rintro e w3 ⟨rfl, hg3⟩
          replace hg3 := hg.trans hg3
          go_wp2_with fail
          refine (hma.out w3 hg3).mono ?_
          rintro e w4 ⟨rfl, hg4⟩
          replace hg4 := hg3.trans hg4
          go_wp2_with fail
          refine (haw.out w4 hg4).mono ?_
          rintro e w5 ⟨rfl, hg5⟩
          go_wp2_with fail
          go_ret
          first
          | exact ⟨rfl, hg4.trans hg5⟩
          | exact ⟨ret_bool (by rw [decide_eq_false (by omega)]; rfl), hg4.trans hg5⟩
  | false =>
    have hadd : ∀ j, j < n → ∀ w, (Op.stringOp .add (strOf (repL [63] j)) { data := #[63] }).run Tryd.prog w = .ok (.string (strOf (repL [63] (j + 1)))) w := fun j hj w => by
      have h := run_string_add_sum (P := Tryd.prog) w (strOf (repL [63] j)) (strOf [63]) (by rw [strOf_size, strOf_size, repL_len]; simp; omega)
      rw [show strOf (repL [63] j) ++ strOf [63] = strOf (repL [63] (j + 1)) by rw [repL_succ]; exact ByteArray.mk_append_mk _ _] at h
      exact h
    have hw0 : (strOf (repL [63] 0)) = { data := #[] } := rfl
    replace hw0 := Lib.hid hw0
    replace hadd := Lib.hid hadd
    go_enter Tryd.func9, Tryd.ntmps9
    go_wp2_with fail
    go_loopw [5, 6] (fun t i wr => ∃ j : Nat, j ≤ n ∧ i = .int .i64 j ∧ t = .string (strOf (repL [63] j)) ∧ G w wr) (fun _ i _ => n - (intOf i).toNat)
    case atStart => exact ⟨0, Nat.zero_le _, rfl, by rw [hw0.out], G.refl _⟩
    case round =>
      obtain ⟨j, hj, rfl, rfl, hg⟩ := hrel
      by_cases hlt : j < n
      · have ha := hadd.out j hlt
        generalize strOf (repL [63] j) = P1 at *
        generalize hP2 : strOf (repL [63] (j + 1)) = P2 at *
        replace hP2 := Lib.hid hP2.symm
        go_wp2_with fail
        go_roundw
        case rel => exact ⟨j + 1, by omega, by go_num, by rw [hP2.out], hg⟩
        case measure => (simp [intOf] <;> omega)
      · obtain rfl : j = n := by omega
        have ha := ask_q j
        have hz : (strOf (repL [63] j)).size ≤ 1073741824 := by rw [strOf_size, repL_len]; simp; omega
        have hck : ∀ w', G w w' → _ := fun w' h => check_any (strOf (repL [63] j)) w' hz (hT.out.g h)
        have hma : ∀ w', G w w' → _ := fun w' h => match_any (strOf (repL [63] j)) (strOf (repL [63] j)) w' hz hz (hT.out.g h)
        have haw : ∀ w', G w w' → _ := fun w' h => awake2_any w' (hT.out.g h)
        rw [ha.1] at hck
        rw [ha.2] at hma
        generalize strOf (repL [63] j) = S at *
        replace hma := Lib.hid hma
        replace haw := Lib.hid haw
        clear ha hz hadd hlt
        by_cases h40 : j ≤ 40
        · have t40 : (j : Int) ≤ 40 := by omega
          rw [decide_eq_true h40] at hck
          unfold chkI at hck
          replace hma := hma.out
          rw [decide_eq_true h40] at hma
          replace hck := Lib.hid hck
          replace hma := Lib.hid hma
          clear h40
          go_wp2_with fail
          refine (hck.out wr hg).mono ?_
          rintro e w3 ⟨rfl, hg3⟩
          replace hg3 := hg.trans hg3
          go_wp2_with fail
          refine (hma.out w3 hg3).mono ?_
          rintro e w4 ⟨rfl, hg4⟩
          replace hg4 := hg3.trans hg4
          go_wp2_with fail
          refine (haw.out w4 hg4).mono ?_
          rintro e w5 ⟨rfl, hg5⟩
          go_wp2_with fail
          go_ret
          first
          | exact ⟨rfl, hg4.trans hg5⟩
          | exact ⟨ret_bool (by rw [decide_eq_false (by omega)]; rfl), hg4.trans hg5⟩
        · have t40 : ¬ (j : Int) ≤ 40 := by omega
          rw [decide_eq_false h40] at hck
          unfold chkI at hck
          replace hma := hma.out
          rw [decide_eq_false h40] at hma
          replace hck := Lib.hid hck
          replace hma := Lib.hid hma
          clear h40
          go_wp2_with fail
          refine (hck.out wr hg).mono ?_
          rintro e w3 ⟨rfl, hg3⟩
          replace hg3 := hg.trans hg3
          go_wp2_with fail
          refine (hma.out w3 hg3).mono ?_
          rintro e w4 ⟨rfl, hg4⟩
          replace hg4 := hg3.trans hg4
          go_wp2_with fail
          refine (haw.out w4 hg4).mono ?_
          rintro e w5 ⟨rfl, hg5⟩
          go_wp2_with fail
          go_ret
          first
          | exact ⟨rfl, hg4.trans hg5⟩
          | exact ⟨ret_bool (by rw [decide_eq_false (by omega)]; rfl), hg4.trans hg5⟩
end Go.Proofs.YtngpbochhabhkaaDoor.globLimit

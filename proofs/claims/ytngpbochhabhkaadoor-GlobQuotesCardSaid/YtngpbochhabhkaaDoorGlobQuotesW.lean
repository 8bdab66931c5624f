/- penstocklaw2.GlobQuotes: the walk. Condition: utf8's two tables lie as the library lays them. -/
import Derived.Test.YtngpbochhabhkaaDoorGlobTexts
import Derived.Test.YtngpbochhabhkaaDoorRuneStr
import Derived.Laws.Concat
namespace Go.Proofs.YtngpbochhabhkaaDoor.globQuotes
open Go.RowKit

open Go.Lib in
theorem rune_ok {c : Ck} (h : c.ok) : RuneN c.r := by
  unfold RuneN
  rcases h with ⟨h, _⟩ | ⟨_, _, h⟩
  · unfold Ck.bad at h
    have := of_decide_eq_true h
    omega
  · unfold validRune at h
    have := of_decide_eq_true h
    omega
/-- A pattern of some runes, each behind a backslash. -/
def backL (l : List Ck) : List UInt8 := l.flatMap fun c => 92 :: encL c.r
theorem backL_snoc (l : List Ck) (c : Ck) : backL (l ++ [c]) = backL l ++ (92 :: encL c.r) := by simp [backL]
theorem encL_len (r : Nat) : (encL r).length ≤ 4 := by
  unfold encL
  repeat' split
  all_goals simp
theorem backL_len : ∀ l : List Ck, (backL l).length ≤ 5 * l.length
  | [] => by simp [backL]
  | c :: l => by
    have h1 := backL_len l
    have h2 := encL_len c.r
    simp only [backL, List.flatMap_cons, List.length_append, List.length_cons] at *
    omega
theorem back_cks : ∀ l : List Ck, (∀ c ∈ l, c.ok) → goodL (backL l) ∧ (cks (backL l)).map Ck.r = (l.map Ck.r).flatMap (fun c => [92, c]) ∧ (cks (backL l)).length = 2 * l.length
  | [], _ => ⟨(fun c hc => by cases hc), rfl, rfl⟩
  | c :: l, h => by
    obtain ⟨h1, h2, h3⟩ := back_cks l fun x hx => h x (by simp [hx])
    have hr := rune_ok (h c (by simp))
    have hb : goodL [92] := fun d hd => by
      rw [show cks [92] = [⟨[92], 92⟩] by decide +kernel, List.mem_singleton] at hd
      subst hd
      rfl
    have hg : goodL (92 :: encL c.r) := goodL_app (a := [92]) hb (good_enc hr)
    have e : backL (c :: l) = [92] ++ (encL c.r ++ backL l) := by simp [backL]
    have hc : cks (backL (c :: l)) = ⟨[92], 92⟩ :: ⟨encL c.r, c.r⟩ :: cks (backL l) := by
      rw [e, cks_app hb, cks_app (good_enc hr), cks_enc hr, show cks [92] = [⟨[92], 92⟩] by decide +kernel]
      rfl
    refine ⟨by rw [e]; exact goodL_app hb (goodL_app (good_enc hr) h1), ?_, ?_⟩
    · rw [hc, List.map_cons, List.map_cons, h2]
      rfl
    · rw [hc, List.length_cons, List.length_cons, h3, List.length_cons]
      omega
theorem ask {s : ByteArray} (_hv : validB s = true) (h40 : 2 * (cks s.data.toList).length ≤ 40) : patOk (strOf (backL (cks s.data.toList))) = true ∧ ∀ t, matchB (strOf (backL (cks s.data.toList))) t = (validB t && matchL ((runesL s).map lit) (runesL t)) := by
  obtain ⟨h1, h2, h3⟩ := back_cks (cks s.data.toList) (cks_ok _)
  have hv2 : validB (strOf (backL (cks s.data.toList))) = true := by rw [goodL_iff, strOf_list]; exact h1
  have hc : (cks (strOf (backL (cks s.data.toList))).data.toList).length ≤ 40 := by rw [strOf_list, h3]; exact h40
  have hr : runesL (strOf (backL (cks s.data.toList))) = (runesL s).flatMap fun c => [92, c] := by
    unfold runesL
    rw [strOf_list, h2]
  have hP := parse_backs (runesL s)
  rw [← hr] at hP
  exact ⟨by rw [patOk_of hv2 hc hP]; rfl, fun t => matchB_of t hv2 hc hP⟩
theorem lits_self (l : List Nat) : matchL (l.map lit) l = true := matchL_t ((Mt.lits _ _).2 rfl)
theorem ask_t {s t : ByteArray} (hv : validB s = true) : (validB t && matchL ((runesL s).map lit) (runesL t)) = decide (s = t) := by
  by_cases h : s = t
  · subst h
    rw [hv, lits_self, decide_eq_true rfl]; rfl
  · rw [decide_eq_false h]
    cases ht : validB t with
    | false => rfl
    | true =>
      rw [Bool.true_and]
      exact matchL_f fun hm => h (text_inj hv ht ((Mt.lits _ _).1 hm).symm)
set_option maxRecDepth 100000 in
set_option maxHeartbeats 2000000 in
theorem walk (s t : ByteArray) (w : World) (hs : s.size ≤ 9223372036854775807) (ht : t.size ≤ 9223372036854775807) (hT : Tabs w) :
    Calls Tryd.prog 6 #[.string s, .string t] w fun e w' => e = .returned (.bool true) ∧ G w w' := by
  have aw : ∀ w', G w w' → _ := fun w' h => awake2_any w' (hT.g h)
  replace aw := Lib.hid aw
  by_cases c1 : (60 : Int) < s.size
  · go_enter Tryd.func6, Tryd.ntmps6
    go_wp2_with fail
    refine (aw.out _ (G.refl w)).mono ?_
    rintro e wz ⟨rfl, hgz⟩
    go_wp2_with fail
    go_ret
    exact ⟨rfl, (G.refl w).trans hgz⟩
  by_cases c2 : (300 : Int) < t.size
  · go_enter Tryd.func6, Tryd.ntmps6
    go_wp2_with fail
    refine (aw.out _ (G.refl w)).mono ?_
    rintro e wz ⟨rfl, hgz⟩
    go_wp2_with fail
    go_ret
    exact ⟨rfl, (G.refl w).trans hgz⟩
  have hv := refValid_any s w (by omega)
  have hc : ∀ w', _ := fun w' => refCount_any s w' (by omega)
  cases hvs : validB s with
  | false =>
    rw [hvs] at hv
    replace hvs := Lib.hid hvs
    clear hc
    go_enter Tryd.func6, Tryd.ntmps6
    go_wp2_with fail
    refine hv.mono ?_
    clear hv
    rintro e w1 ⟨rfl, hg1⟩
    go_wp2_with fail
    refine (aw.out _ (hg1)).mono ?_
    rintro e wz ⟨rfl, hgz⟩
    go_wp2_with fail
    go_ret
    exact ⟨rfl, (hg1).trans hgz⟩
  | true =>
    rw [hvs] at hv
    have hlen := cks_length_le s.data.toList
    rw [show s.data.toList.length = s.size by simp] at hlen
    have hl60 : (cks s.data.toList).length ≤ 60 := by omega
    clear hlen
    by_cases h40 : 2 * (cks s.data.toList).length ≤ 40
    · obtain ⟨a1, a2⟩ := ask hvs h40
      have hz : (strOf (backL (cks s.data.toList))).size ≤ 1073741824 := by rw [strOf_size]; have := backL_len (cks s.data.toList); omega
      have hck : ∀ w', G w w' → _ := fun w' h => check_any (strOf (backL (cks s.data.toList))) w' hz (hT.g h)
      rw [a1] at hck
      unfold chkI at hck
      have hms : ∀ w', G w w' → _ := fun w' h => match_any (strOf (backL (cks s.data.toList))) s w' hz (by omega) (hT.g h)
      rw [a2, hvs, lits_self] at hms
      have hmt : ∀ w', G w w' → _ := fun w' h => match_any (strOf (backL (cks s.data.toList))) t w' hz (by omega) (hT.g h)
      rw [a2, ask_t hvs] at hmt
      have hadd : ∀ (j : Nat) (c : Ck), (cks s.data.toList)[j]? = some c → ∃ T, (∀ w, (Op.stringOp .add (strOf (backL ((cks s.data.toList).take j))) { data := #[92] }).run Tryd.prog w = .ok (.string T) w) ∧ ∀ w, (Op.stringOp .add T (Utf8.encode (c.r : Int))).run Tryd.prog w = .ok (.string (strOf (backL ((cks s.data.toList).take (j + 1))))) w := fun j c hj => by
        have h1 := backL_len ((cks s.data.toList).take j)
        rw [List.length_take] at h1
        have hr := rune_ok (cks_ok _ c (List.mem_of_getElem? hj))
        have he : Utf8.encode (c.r : Int) = strOf (encL c.r) := by rw [← enc_list hr, strOf_self]
        refine ⟨strOf (backL ((cks s.data.toList).take j) ++ [92]), fun w => ?_, fun w => ?_⟩
        · have h := run_string_add_sum (P := Tryd.prog) w (strOf (backL ((cks s.data.toList).take j))) (strOf [92]) (by rw [strOf_size, strOf_size]; simp; omega)
          rw [show strOf (backL ((cks s.data.toList).take j)) ++ strOf [92] = strOf (backL ((cks s.data.toList).take j) ++ [92]) from ByteArray.mk_append_mk _ _] at h
          exact h
        · have h2 := encL_len c.r
          have h := run_string_add_sum (P := Tryd.prog) w (strOf (backL ((cks s.data.toList).take j) ++ [92])) (strOf (encL c.r)) (by rw [strOf_size, strOf_size, List.length_append]; simp; omega)
          rw [show strOf (backL ((cks s.data.toList).take j) ++ [92]) ++ strOf (encL c.r) = strOf (backL ((cks s.data.toList).take j) ++ [92] ++ encL c.r) from ByteArray.mk_append_mk _ _] at h
          have e : backL ((cks s.data.toList).take (j + 1)) = backL ((cks s.data.toList).take j) ++ [92] ++ encL c.r := by rw [take_snoc' hj, backL_snoc]; simp
          rw [he, e]
          exact h
      have t1 : ¬ (40 : Int) < 2 * ((cks s.data.toList).length : Int) := by omega
      replace hvs := Lib.hid hvs
      replace hck := Lib.hid hck
      replace hms := Lib.hid hms
      replace hmt := Lib.hid hmt
      replace hadd := Lib.hid hadd
      replace hc := Lib.hid hc
      have hb0 : Hid (strOf (backL ((cks s.data.toList).take 0)) = { data := #[] }) := rfl
      clear a1 a2 hz
      go_enter Tryd.func6, Tryd.ntmps6
      go_wp2_with fail
      refine hv.mono ?_
      clear hv
      rintro e w1 ⟨rfl, hg1⟩
      go_wp2_with fail
      refine (hc.out w1).mono ?_
      rintro e w2 ⟨rfl, hg2⟩
      replace hg2 := hg1.trans hg2
      go_wp2_with fail
      go_loopw [5] (fun v wr => ∃ k : Nat, k ≤ (cks s.data.toList).length ∧ v = .string (strOf (backL ((cks s.data.toList).take k))) ∧ Hid (IterAt wr w2.heap.size s k) ∧ Hid (G w wr)) (fun _ wr => s.size - wr.iterPos w2.heap.size)
      case atStart => exact ⟨0, Nat.zero_le _, by rw [hb0.out], IterAt.start w2 s, hg2.trans (G.iter _ _ _)⟩
      case round =>
        obtain ⟨k, hk, rfl, hit, hg⟩ := hrel
        have hIw := hg2.size
        by_cases hlt : k < (cks s.data.toList).length
        · obtain ⟨c, hpc⟩ := piece_at hlt
          obtain ⟨T, ha1, ha2⟩ := hadd.out k c hpc
          have hpos := hit.out.pos
          have hless := off_less hpc
          obtain ⟨w6, hnx, hit6, hbt6, hsz6⟩ := run_next_piece (P := Tryd.prog) hit.out hpc
          have hg6 := hg.out.next hbt6 hIw
          obtain ⟨cb, cr⟩ := c
          dsimp only at hnx ha2
          generalize strOf (backL ((cks s.data.toList).take k)) = P1 at *
          generalize hP2 : strOf (backL ((cks s.data.toList).take (k + 1))) = P2 at *
          replace hP2 := Lib.hid hP2.symm
          replace hpos := Lib.hid hpos
          replace hless := Lib.hid hless
          replace hit6 := Lib.hid hit6
          replace hg6 := Lib.hid hg6
          clear hit hg hbt6 hsz6 hpc
          go_wp2_with fail
          go_roundw
          case rel => exact ⟨k + 1, by omega, by rw [hP2.out], hit6, hg6⟩
          case measure => rw [hpos.out, hit6.out.pos]; exact hless.out
        · have hnx := fun ty => run_next_over (P := Tryd.prog) ty hit.out (by omega)
          rw [List.take_of_length_le (by omega)]
          generalize strOf (backL (cks s.data.toList)) = P at *
          by_cases hst : s = t
          · have hb3 : (s.toList == t.toList) = true := by rw [hst]; exact toList_same t
            have hmt := hmt.out
            rw [decide_eq_true hst] at hmt
            replace hmt := Lib.hid hmt
            replace hst := Lib.hid hst
            go_wp2_with fail
            refine (hck.out wr hg.out).mono ?_
            rintro e w3 ⟨rfl, hg3⟩
            replace hg3 := hg.out.trans hg3
            go_wp2_with fail
            refine (hms.out w3 hg3).mono ?_
            rintro e w4 ⟨rfl, hg4⟩
            replace hg4 := hg3.trans hg4
            go_wp2_with fail
            refine (hmt.out w4 hg4).mono ?_
            rintro e w5 ⟨rfl, hg5⟩
            replace hg5 := hg4.trans hg5
            go_wp2_with fail
            refine (aw.out _ (hg5)).mono ?_
            rintro e wz ⟨rfl, hgz⟩
            go_wp2_with fail
            go_ret
            exact ⟨rfl, (hg5).trans hgz⟩
          · have hb3 := toList_ne hst
            have hmt := hmt.out
            rw [decide_eq_false hst] at hmt
            replace hmt := Lib.hid hmt
            replace hst := Lib.hid hst
            go_wp2_with fail
            refine (hck.out wr hg.out).mono ?_
            rintro e w3 ⟨rfl, hg3⟩
            replace hg3 := hg.out.trans hg3
            go_wp2_with fail
            refine (hms.out w3 hg3).mono ?_
            rintro e w4 ⟨rfl, hg4⟩
            replace hg4 := hg3.trans hg4
            go_wp2_with fail
            refine (hmt.out w4 hg4).mono ?_
            rintro e w5 ⟨rfl, hg5⟩
            replace hg5 := hg4.trans hg5
            go_wp2_with fail
            refine (aw.out _ (hg5)).mono ?_
            rintro e wz ⟨rfl, hgz⟩
            go_wp2_with fail
            go_ret
            exact ⟨rfl, (hg5).trans hgz⟩
    · have t1 : (40 : Int) < 2 * ((cks s.data.toList).length : Int) := by omega
      replace hvs := Lib.hid hvs
      replace hc := Lib.hid hc
      go_enter Tryd.func6, Tryd.ntmps6
      go_wp2_with fail
      refine hv.mono ?_
      clear hv
      rintro e w1 ⟨rfl, hg1⟩
      go_wp2_with fail
      refine (hc.out w1).mono ?_
      rintro e w2 ⟨rfl, hg2⟩
      replace hg2 := hg1.trans hg2
      go_wp2_with fail
      refine (aw.out _ (hg2)).mono ?_
      rintro e wz ⟨rfl, hgz⟩
      go_wp2_with fail
      go_ret
      exact ⟨rfl, (hg2).trans hgz⟩
end Go.Proofs.YtngpbochhabhkaaDoor.globQuotes

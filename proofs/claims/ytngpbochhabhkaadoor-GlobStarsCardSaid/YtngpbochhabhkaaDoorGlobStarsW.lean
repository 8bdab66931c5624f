/- penstocklaw2.GlobStars: the walk. Condition: utf8's two tables lie as the library lays them. -/
import Derived.Test.YtngpbochhabhkaaDoorGlobTexts
import Derived.Test.YtngpbochhabhkaaDoorStarLaw
import Derived.Laws.Concat
namespace Go.Proofs.YtngpbochhabhkaaDoor.globStars
open Go.RowKit

theorem toList_eqb (a b : ByteArray) : (a.toList == b.toList) = decide (a = b) := by
  by_cases h : a = b
  · rw [decide_eq_true h, h]; exact toList_same b
  · rw [decide_eq_false h, toList_ne h]
theorem ext_list (s : ByteArray) (p q : Nat) : (s.extract p q).data.toList = (s.data.toList.drop p).take (q - p) := by
  simp [ByteArray.data_extract, Array.toList_extract, List.extract_eq_take_drop]
theorem list_size (s : ByteArray) : s.data.toList.length = s.size := by simp
theorem eq_of_list {a b : ByteArray} (h : a.data.toList = b.data.toList) : a = b := by rw [← strOf_self a, h, strOf_self]
/-- Does a text stand in another one at a place? -/
def eqAt (t s : ByteArray) (j : Nat) : Bool := decide (t.extract j (j + s.size) = s)
def hasK (t s : ByteArray) : Nat → Bool
  | 0 => false
  | k + 1 => hasK t s k || eqAt t s k
theorem hasK_iff (t s : ByteArray) : ∀ k, hasK t s k = true ↔ ∃ j, j < k ∧ eqAt t s j = true
  | 0 => by simp [hasK]
  | k + 1 => by
    rw [hasK, Bool.or_eq_true, hasK_iff t s k]
    constructor
    · rintro (⟨j, h1, h2⟩ | h)
      · exact ⟨j, by omega, h2⟩
      · exact ⟨k, by omega, h⟩
    · rintro ⟨j, h1, h2⟩
      by_cases h : j = k
      · subst h; exact .inr h2
      · exact .inl ⟨j, by omega, h2⟩
theorem eqAt_iff {t s : ByteArray} {j : Nat} (h : j + s.size ≤ t.size) : eqAt t s j = true ↔ ∃ x y, t.data.toList = x ++ (s.data.toList ++ y) ∧ x.length = j := by
  unfold eqAt
  rw [decide_eq_true_iff]
  constructor
  · intro e
    have e1 : (t.extract j (j + s.size)).data.toList = s.data.toList := by rw [e]
    rw [ext_list, Nat.add_sub_cancel_left] at e1
    refine ⟨t.data.toList.take j, t.data.toList.drop (j + s.size), ?_, by rw [List.length_take, list_size]; omega⟩
    rw [← e1, ← List.drop_drop, List.take_append_drop, List.take_append_drop]
  · rintro ⟨x, y, e, rfl⟩
    apply eq_of_list
    rw [ext_list, e, List.drop_left, Nat.add_sub_cancel_left, ← list_size, List.take_left]
def endsV (s t : ByteArray) : Bool := decide (s.size ≤ t.size) && eqAt t s (t.size - s.size)
def begV (s t : ByteArray) : Bool := decide (s.size ≤ t.size) && eqAt t s 0
def hasV (s t : ByteArray) : Bool := decide (s.size ≤ t.size) && hasK t s (t.size - s.size + 1)
theorem bool_iff {a b : Bool} (h : a = true ↔ b = true) : a = b := by cases a <;> cases b <;> simp_all
theorem has_iff (s t : ByteArray) : hasV s t = true ↔ ∃ x y, t.data.toList = x ++ (s.data.toList ++ y) := by
  unfold hasV
  rw [Bool.and_eq_true, decide_eq_true_iff, hasK_iff]
  constructor
  · rintro ⟨h1, j, h2, h3⟩
    obtain ⟨x, y, e, _⟩ := (eqAt_iff (by omega)).1 h3
    exact ⟨x, y, e⟩
  · rintro ⟨x, y, e⟩
    have h := congrArg List.length e
    rw [list_size, List.length_append, List.length_append, list_size] at h
    exact ⟨by omega, x.length, by omega, (eqAt_iff (by omega)).2 ⟨x, y, e, rfl⟩⟩
theorem ends_iff (s t : ByteArray) : endsV s t = true ↔ ∃ x, t.data.toList = x ++ s.data.toList := by
  unfold endsV
  rw [Bool.and_eq_true, decide_eq_true_iff]
  constructor
  · rintro ⟨h1, h2⟩
    obtain ⟨x, y, e, hx⟩ := (eqAt_iff (by omega)).1 h2
    have h := congrArg List.length e
    rw [list_size, List.length_append, List.length_append, list_size] at h
    have hy : y = [] := List.eq_nil_of_length_eq_zero (by omega)
    subst hy
    exact ⟨x, by rw [e, List.append_nil]⟩
  · rintro ⟨x, e⟩
    have h := congrArg List.length e
    rw [list_size, List.length_append, list_size] at h
    exact ⟨by omega, (eqAt_iff (by omega)).2 ⟨x, [], by rw [e, List.append_nil], by omega⟩⟩
theorem beg_iff (s t : ByteArray) : begV s t = true ↔ ∃ y, t.data.toList = s.data.toList ++ y := by
  unfold begV
  rw [Bool.and_eq_true, decide_eq_true_iff]
  constructor
  · rintro ⟨h1, h2⟩
    obtain ⟨x, y, e, hx⟩ := (eqAt_iff (by omega)).1 h2
    have hx2 : x = [] := List.eq_nil_of_length_eq_zero hx
    subst hx2
    exact ⟨y, e⟩
  · rintro ⟨y, e⟩
    have h := congrArg List.length e
    rw [list_size, List.length_append, list_size] at h
    exact ⟨by omega, (eqAt_iff (by omega)).2 ⟨[], y, e, rfl⟩⟩
section
variable {s t : ByteArray} (hs : validB s = true) (ht : validB t = true)
include hs ht
theorem mt_ends : Mt (star :: (runesL s).map lit) (runesL t) ↔ endsV s t = true := by
  rw [ends_iff s t]
  constructor
  · intro h
    obtain ⟨a, b, e, hb⟩ := h.inv_any star_any
    rw [(Mt.lits _ _).1 hb] at e
    obtain ⟨x, y, e2, _, h2⟩ := bytes_of_runes (b := []) (goodS ht) (goodS hs) (by rw [List.append_nil]; exact e)
    rw [h2 rfl, List.append_nil] at e2
    exact ⟨x, e2⟩
  · rintro ⟨x, e⟩
    obtain ⟨a, b, e2, h2⟩ := runes_of_bytes (y := []) (goodS ht) (goodS hs) (by rw [List.append_nil]; exact e)
    rw [h2 rfl, List.append_nil] at e2
    show Mt _ ((cks t.data.toList).map Ck.r)
    rw [e2]
    exact .any _ _ _ _ rfl ((Mt.lits _ _).2 rfl)
theorem mt_beg : Mt ((runesL s).map lit ++ [star]) (runesL t) ↔ begV s t = true := by
  rw [beg_iff s t]
  constructor
  · intro h
    obtain ⟨a, b, e, ha, _⟩ := h.split
    rw [(Mt.lits _ _).1 ha] at e
    obtain ⟨x, y, e2, h2, _⟩ := bytes_of_runes (a := []) (goodS ht) (goodS hs) e
    rw [h2 rfl] at e2
    exact ⟨y, e2⟩
  · rintro ⟨y, e⟩
    have e2 : runesL t = runesL s ++ (cks y).map Ck.r := by
      unfold runesL
      rw [e, cks_app (goodS hs), List.map_append]
    rw [e2]
    exact ((Mt.lits _ _).2 rfl).append (Mt.star _)
theorem mt_has : Mt (star :: ((runesL s).map lit ++ [star])) (runesL t) ↔ hasV s t = true := by
  rw [has_iff s t]
  constructor
  · intro h
    obtain ⟨a, u, e, hu⟩ := h.inv_any star_any
    obtain ⟨b, c, e2, hb, _⟩ := hu.split
    rw [(Mt.lits _ _).1 hb] at e2
    rw [e2] at e
    obtain ⟨x, y, e3, _, _⟩ := bytes_of_runes (goodS ht) (goodS hs) e
    exact ⟨x, y, e3⟩
  · rintro ⟨x, y, e⟩
    obtain ⟨a, b, e2, _⟩ := runes_of_bytes (goodS ht) (goodS hs) e
    show Mt _ ((cks t.data.toList).map Ck.r)
    rw [e2]
    exact .any _ _ _ _ rfl (((Mt.lits _ _).2 rfl).append (Mt.star _))
end
theorem cks_star : cks [42] = [⟨[42], 42⟩] := by decide +kernel
theorem good_star : goodL [42] := fun c hc => by
  rw [cks_star, List.mem_singleton] at hc
  subst hc
  rfl
theorem parse_star_end {l : List Nat} (h : ∀ c ∈ l, c ≠ 42 ∧ c ≠ 63 ∧ c ≠ 91 ∧ c ≠ 92) : parseL (l ++ [42]) = (l.map lit ++ [star], false) := by
  have h1 := parse_lits l h
  have h2 := parse_app _ l [42] (Nat.le_refl _) (by rw [h1])
  rw [h2, h1]
  rfl
theorem ask {s t : ByteArray} (hpl : plainB s = true) (hs : validB s = true) (ht : validB t = true) (h38 : (cks s.data.toList).length ≤ 38) :
    matchB (strOf (42 :: s.data.toList)) t = endsV s t ∧ matchB (strOf (s.data.toList ++ [42])) t = begV s t ∧ matchB (strOf (42 :: s.data.toList ++ [42])) t = hasV s t := by
  have hpr := plain_runes hpl
  have g := goodS hs
  have c1 : cks (42 :: s.data.toList) = ⟨[42], 42⟩ :: cks s.data.toList := by
    rw [show (42 :: s.data.toList) = [42] ++ s.data.toList from rfl, cks_app good_star, cks_star]; rfl
  have g1 : goodL (42 :: s.data.toList) := goodL_app (a := [42]) good_star g
  have c2 : cks (s.data.toList ++ [42]) = cks s.data.toList ++ [⟨[42], 42⟩] := by rw [cks_app g, cks_star]
  have g2 := goodL_app g good_star
  have c3 : cks (42 :: s.data.toList ++ [42]) = ⟨[42], 42⟩ :: (cks s.data.toList ++ [⟨[42], 42⟩]) := by rw [cks_app g1, c1, cks_star]; rfl
  have g3 := goodL_app g1 good_star
  have r1 : runesL (strOf (42 :: s.data.toList)) = 42 :: runesL s := by unfold runesL; rw [strOf_list, c1]; rfl
  have r2 : runesL (strOf (s.data.toList ++ [42])) = runesL s ++ [42] := by unfold runesL; rw [strOf_list, c2, List.map_append]; rfl
  have r3 : runesL (strOf (42 :: s.data.toList ++ [42])) = 42 :: (runesL s ++ [42]) := by unfold runesL; rw [strOf_list, c3, List.map_cons, List.map_append]; rfl
  have p1 : parseL (42 :: runesL s) = (star :: (runesL s).map lit, false) := by rw [parseL_one (one_star _), parse_lits _ hpr]
  have p2 := parse_star_end hpr
  have p3 : parseL (42 :: (runesL s ++ [42])) = (star :: ((runesL s).map lit ++ [star]), false) := by rw [parseL_one (one_star _), p2]
  rw [← r1] at p1
  rw [← r2] at p2
  rw [← r3] at p3
  refine ⟨?_, ?_, ?_⟩
  · rw [matchB_of t (by rw [goodL_iff, strOf_list]; exact g1) (by rw [strOf_list, c1, List.length_cons]; omega) p1, ht, Bool.true_and]
    exact bool_iff ((matchL_iff _ _).trans (mt_ends hs ht))
  · rw [matchB_of t (by rw [goodL_iff, strOf_list]; exact g2) (by rw [strOf_list, c2, List.length_append, List.length_singleton]; omega) p2, ht, Bool.true_and]
    exact bool_iff ((matchL_iff _ _).trans (mt_beg hs ht))
  · rw [matchB_of t (by rw [goodL_iff, strOf_list]; exact g3) (by rw [strOf_list, c3, List.length_cons, List.length_append, List.length_singleton]; omega) p3, ht, Bool.true_and]
    exact bool_iff ((matchL_iff _ _).trans (mt_has hs ht))
set_option maxRecDepth 100000 in
set_option maxHeartbeats 2000000 in
theorem walk (s t : ByteArray) (w : World) (hs : s.size ≤ 9223372036854775807) (_ht : t.size ≤ 9223372036854775807) (hT : Tabs w) :
    Calls Tryd.prog 4 #[.string s, .string t] w fun e w' => e = .returned (.bool true) ∧ G w w' := by
  have aw : ∀ w', G w w' → _ := fun w' h => awake2_any w' (hT.g h)
  replace aw := Lib.hid aw
  by_cases c1 : (100 : Int) < s.size
  · go_enter Tryd.func4, Tryd.ntmps4
    go_wp2_with fail
    refine (aw.out _ (G.refl w)).mono ?_
    rintro e wz ⟨rfl, hgz⟩
    go_wp2_with fail
    go_ret
    exact ⟨rfl, (G.refl w).trans hgz⟩
  by_cases c2 : (300 : Int) < t.size
  · go_enter Tryd.func4, Tryd.ntmps4
    go_wp2_with fail
    refine (aw.out _ (G.refl w)).mono ?_
    rintro e wz ⟨rfl, hgz⟩
    go_wp2_with fail
    go_ret
    exact ⟨rfl, (G.refl w).trans hgz⟩
  have hp := plain_any s w hs
  cases hpl : plainB s with
  | false =>
    rw [hpl] at hp
    replace hpl := Lib.hid hpl
    go_enter Tryd.func4, Tryd.ntmps4
    go_wp2_with fail
    refine hp.mono ?_
    clear hp
    rintro e w1 ⟨rfl, rfl⟩
    go_wp2_with fail
    refine (aw.out _ (G.refl w)).mono ?_
    rintro e wz ⟨rfl, hgz⟩
    go_wp2_with fail
    go_ret
    exact ⟨rfl, (G.refl w).trans hgz⟩
  | true =>
    rw [hpl] at hp
    have v1 := refValid_any s w (by omega)
    cases hvs : validB s with
    | false =>
      rw [hvs] at v1
      replace hpl := Lib.hid hpl
      replace hvs := Lib.hid hvs
      go_enter Tryd.func4, Tryd.ntmps4
      go_wp2_with fail
      refine hp.mono ?_
      clear hp
      rintro e w1 ⟨rfl, rfl⟩
      go_wp2_with fail
      refine v1.mono ?_
      clear v1
      rintro e w1 ⟨rfl, hg1⟩
      go_wp2_with fail
      refine (aw.out _ (hg1)).mono ?_
      rintro e wz ⟨rfl, hgz⟩
      go_wp2_with fail
      go_ret
      exact ⟨rfl, (hg1).trans hgz⟩
    | true =>
      rw [hvs] at v1
      have v2 : ∀ w', _ := fun w' => refValid_any t w' (by omega)
      cases hvt : validB t with
      | false =>
        rw [hvt] at v2
        replace hpl := Lib.hid hpl
        replace hvs := Lib.hid hvs
        replace hvt := Lib.hid hvt
        replace v2 := Lib.hid v2
        go_enter Tryd.func4, Tryd.ntmps4
        go_wp2_with fail
        refine hp.mono ?_
        clear hp
        rintro e w1 ⟨rfl, rfl⟩
        go_wp2_with fail
        refine v1.mono ?_
        clear v1
        rintro e w1 ⟨rfl, hg1⟩
        go_wp2_with fail
        refine (v2.out w1).mono ?_
        rintro e w2 ⟨rfl, hg2⟩
        replace hg2 := hg1.trans hg2
        go_wp2_with fail
        refine (aw.out _ (hg2)).mono ?_
        rintro e wz ⟨rfl, hgz⟩
        go_wp2_with fail
        go_ret
        exact ⟨rfl, (hg2).trans hgz⟩
      | true =>
        rw [hvt] at v2
        have n1 : ∀ w', _ := fun w' => refCount_any s w' (by omega)
        by_cases h38 : (cks s.data.toList).length ≤ 38
        · obtain ⟨k1, k2, k3⟩ := ask hpl hvs hvt h38
          have hls := list_size s
          have m1 : ∀ w', G w w' → _ := fun w' h => match_any (strOf (42 :: s.data.toList)) t w' (by rw [strOf_size, List.length_cons]; omega) (by omega) (hT.g h)
          have m2 : ∀ w', G w w' → _ := fun w' h => match_any (strOf (s.data.toList ++ [42])) t w' (by rw [strOf_size, List.length_append, List.length_singleton]; omega) (by omega) (hT.g h)
          have m3 : ∀ w', G w w' → _ := fun w' h => match_any (strOf (42 :: s.data.toList ++ [42])) t w' (by rw [strOf_size, List.length_append, List.length_cons, List.length_singleton]; omega) (by omega) (hT.g h)
          rw [k1] at m1
          rw [k2] at m2
          rw [k3] at m3
          have s1 : ∀ w, (Op.stringOp .add { data := #[42] } s).run Tryd.prog w = .ok (.string (strOf (42 :: s.data.toList))) w := fun w => by
            have h := run_string_add_sum (P := Tryd.prog) w (strOf [42]) (strOf s.data.toList) (by rw [strOf_size, strOf_size]; simp; omega)
            rw [show strOf [42] ++ strOf s.data.toList = strOf (42 :: s.data.toList) from ByteArray.mk_append_mk _ _, strOf_self] at h
            exact h
          have s2 : ∀ w, (Op.stringOp .add s { data := #[42] }).run Tryd.prog w = .ok (.string (strOf (s.data.toList ++ [42]))) w := fun w => by
            have h := run_string_add_sum (P := Tryd.prog) w (strOf s.data.toList) (strOf [42]) (by rw [strOf_size, strOf_size]; simp; omega)
            rw [show strOf s.data.toList ++ strOf [42] = strOf (s.data.toList ++ [42]) from ByteArray.mk_append_mk _ _, strOf_self] at h
            exact h
          have s3 : ∀ w, (Op.stringOp .add (strOf (42 :: s.data.toList)) { data := #[42] }).run Tryd.prog w = .ok (.string (strOf (42 :: s.data.toList ++ [42]))) w := fun w => by
            have h := run_string_add_sum (P := Tryd.prog) w (strOf (42 :: s.data.toList)) (strOf [42]) (by rw [strOf_size, strOf_size]; simp; omega)
            rw [show strOf (42 :: s.data.toList) ++ strOf [42] = strOf (42 :: s.data.toList ++ [42]) from ByteArray.mk_append_mk _ _] at h
            exact h
          have x38 : ¬ (38 : Int) < ((cks s.data.toList).length : Int) := by omega
          generalize strOf (42 :: s.data.toList ++ [42]) = P3 at *
          generalize strOf (42 :: s.data.toList) = P1 at *
          generalize strOf (s.data.toList ++ [42]) = P2 at *
          generalize (cks s.data.toList).length = NN at *
          obtain ⟨E5, h5⟩ : ∃ E, endsV s t = E := ⟨_, rfl⟩
          obtain ⟨E6, h6⟩ : ∃ E, begV s t = E := ⟨_, rfl⟩
          obtain ⟨E7, h7⟩ : ∃ E, hasV s t = E := ⟨_, rfl⟩
          rw [h5] at m1
          rw [h6] at m2
          rw [h7] at m3
          replace hpl := Lib.hid hpl
          replace hvs := Lib.hid hvs
          replace hvt := Lib.hid hvt
          replace v2 := Lib.hid v2
          replace n1 := Lib.hid n1
          replace m1 := Lib.hid m1
          replace m2 := Lib.hid m2
          replace m3 := Lib.hid m3
          replace s1 := Lib.hid s1
          replace s2 := Lib.hid s2
          replace s3 := Lib.hid s3
          clear k1 k2 k3 h38 hls
          by_cases hle : s.size ≤ t.size
          · obtain ⟨D, hD⟩ : ∃ D, t.size - s.size = D := ⟨_, rfl⟩
            have hd : (t.size : Int) - (s.size : Int) = (D : Int) := by omega
            have q1 : (s.size : Int) ≤ (t.size : Int) := by omega
            have q2 : (D : Int) ≤ (t.size : Int) := by omega
            have q3 : (0 : Int) ≤ (D : Int) := by omega
            have e5 : ((t.extract D t.size).toList == s.toList) = E5 := by
              rw [toList_eqb, ← h5]
              unfold endsV eqAt
              rw [hD, show D + s.size = t.size by omega, decide_eq_true hle]
              rfl
            have e6 : ((t.extract 0 s.size).toList == s.toList) = E6 := by
              rw [toList_eqb, ← h6]
              unfold begV eqAt
              rw [Nat.zero_add, decide_eq_true hle]
              rfl
            obtain ⟨N, hNN⟩ : ∃ N, D + 1 = N := ⟨_, rfl⟩
            have hN : ∀ k, (k < N ↔ k + s.size ≤ t.size) := fun k => by omega
            have hNb : N ≤ 301 := by omega
            have h7 : Hid (hasK t s N = E7) := by
              show _ = _
              rw [← h7]
              unfold hasV
              rw [hD, hNN, decide_eq_true hle]
              rfl
            replace hN := Lib.hid hN
            replace h5 := Lib.hid h5
            replace h6 := Lib.hid h6
            replace hD := Lib.hid hD
            replace hNN := Lib.hid hNN
            clear hle
            go_enter Tryd.func4, Tryd.ntmps4
            go_wp2_with fail
            refine hp.mono ?_
            clear hp
            rintro e w1 ⟨rfl, rfl⟩
            go_wp2_with fail
            refine v1.mono ?_
            clear v1
            rintro e w1 ⟨rfl, hg1⟩
            go_wp2_with fail
            refine (v2.out w1).mono ?_
            rintro e w2 ⟨rfl, hg2⟩
            replace hg2 := hg1.trans hg2
            go_wp2_with fail
            refine (n1.out w2).mono ?_
            rintro e w3 ⟨rfl, hg3⟩
            replace hg3 := hg2.trans hg3
            go_wp2_with fail
            clear e5 e6 hd
            go_loop [7, 8] (fun v i => ∃ k : Nat, k ≤ N ∧ i = .int .i64 k ∧ v = .bool (hasK t s k)) (fun _ i => N - (intOf i).toNat)
            case atStart => exact ⟨0, Nat.zero_le _, rfl, rfl⟩
            case round =>
              obtain ⟨k, hk, rfl, rfl⟩ := hrel
              by_cases hlt : k < N
              · have hks := (hN.out k).1 hlt
                have t1 : (k : Int) + (s.size : Int) ≤ (t.size : Int) := by omega
                have t2 : (0 : Int) ≤ (k : Int) := by omega
                have hq := toList_eqb (t.extract k (k + s.size)) s
                have hh : Hid (hasK t s (k + 1) = (hasK t s k || eqAt t s k)) := rfl
                have he : Hid (eqAt t s k = decide (t.extract k (k + s.size) = s)) := rfl
                generalize decide (t.extract k (k + s.size) = s) = d at *
                cases hb : hasK t s k with
                | true =>
                  replace hb := Lib.hid hb
                  replace hq := Lib.hid hq
                  go_wp2_with fail
                  go_round
                  case rel => exact ⟨k + 1, by omega, by go_num, by rw [hh.out, hb.out]; rfl⟩
                  case measure => (simp [intOf] <;> omega)
                | false =>
                  replace hb := Lib.hid hb
                  go_wp2_with fail
                  go_round
                  case rel => exact ⟨k + 1, by omega, by go_num, by rw [hh.out, hb.out, he.out]; rfl⟩
                  case measure => (simp [intOf] <;> omega)
              · have hks : ¬ k + s.size ≤ t.size := fun h => hlt ((hN.out k).2 h)
                have t1 : ¬ (k : Int) + (s.size : Int) ≤ (t.size : Int) := by omega
                obtain rfl : k = N := by omega
                have tb : (k : Int) ≤ 301 := by omega
                have hv : Hid (hasK t s k = E7) := h7
                rw [hv.out]
                have s1 := s1.out
                go_wp2_with fail
                refine (m1.out w3 hg3).mono ?_
                rintro e w4 ⟨rfl, hg4⟩
                replace hg4 := hg3.trans hg4
                have s2 := s2.out
                go_wp2_with fail
                refine (m2.out w4 hg4).mono ?_
                rintro e w5 ⟨rfl, hg5⟩
                replace hg5 := hg4.trans hg5
                have s3 := s3.out
                go_wp2_with fail
                refine (m3.out w5 hg5).mono ?_
                rintro e w6 ⟨rfl, hg6⟩
                replace hg6 := hg5.trans hg6
                go_wp2_with fail
                refine (aw.out _ (hg6)).mono ?_
                rintro e wz ⟨rfl, hgz⟩
                go_wp2_with fail
                go_ret
                exact ⟨rfl, (hg6).trans hgz⟩
          · have q1 : ¬ (s.size : Int) ≤ (t.size : Int) := by omega
            have e5 : E5 = false := by rw [← h5]; unfold endsV; rw [decide_eq_false hle]; rfl
            have e6 : E6 = false := by rw [← h6]; unfold begV; rw [decide_eq_false hle]; rfl
            subst e5 e6
            obtain ⟨N, hNN⟩ : ∃ N, 0 = N := ⟨_, rfl⟩
            have hN : ∀ k, (k < N ↔ k + s.size ≤ t.size) := fun k => by omega
            have hNb : N ≤ 301 := by omega
            have h7 : Hid (hasK t s N = E7) := by
              show _ = _
              rw [← h7, ← hNN]
              unfold hasV
              rw [decide_eq_false hle]
              rfl
            replace hN := Lib.hid hN
            replace h5 := Lib.hid h5
            replace h6 := Lib.hid h6
            replace hNN := Lib.hid hNN
            clear hle
            go_enter Tryd.func4, Tryd.ntmps4
            go_wp2_with fail
            refine hp.mono ?_
            clear hp
            rintro e w1 ⟨rfl, rfl⟩
            go_wp2_with fail
            refine v1.mono ?_
            clear v1
            rintro e w1 ⟨rfl, hg1⟩
            go_wp2_with fail
            refine (v2.out w1).mono ?_
            rintro e w2 ⟨rfl, hg2⟩
            replace hg2 := hg1.trans hg2
            go_wp2_with fail
            refine (n1.out w2).mono ?_
            rintro e w3 ⟨rfl, hg3⟩
            replace hg3 := hg2.trans hg3
            go_wp2_with fail
            go_loop [7, 8] (fun v i => ∃ k : Nat, k ≤ N ∧ i = .int .i64 k ∧ v = .bool (hasK t s k)) (fun _ i => N - (intOf i).toNat)
            case atStart => exact ⟨0, Nat.zero_le _, rfl, rfl⟩
            case round =>
              obtain ⟨k, hk, rfl, rfl⟩ := hrel
              by_cases hlt : k < N
              · have hks := (hN.out k).1 hlt
                have t1 : (k : Int) + (s.size : Int) ≤ (t.size : Int) := by omega
                have t2 : (0 : Int) ≤ (k : Int) := by omega
                have hq := toList_eqb (t.extract k (k + s.size)) s
                have hh : Hid (hasK t s (k + 1) = (hasK t s k || eqAt t s k)) := rfl
                have he : Hid (eqAt t s k = decide (t.extract k (k + s.size) = s)) := rfl
                generalize decide (t.extract k (k + s.size) = s) = d at *
                cases hb : hasK t s k with
                | true =>
                  replace hb := Lib.hid hb
                  replace hq := Lib.hid hq
                  go_wp2_with fail
                  go_round
                  case rel => exact ⟨k + 1, by omega, by go_num, by rw [hh.out, hb.out]; rfl⟩
                  case measure => (simp [intOf] <;> omega)
                | false =>
                  replace hb := Lib.hid hb
                  go_wp2_with fail
                  go_round
                  case rel => exact ⟨k + 1, by omega, by go_num, by rw [hh.out, hb.out, he.out]; rfl⟩
                  case measure => (simp [intOf] <;> omega)
              · have hks : ¬ k + s.size ≤ t.size := fun h => hlt ((hN.out k).2 h)
                have t1 : ¬ (k : Int) + (s.size : Int) ≤ (t.size : Int) := by omega
                obtain rfl : k = N := by omega
                have tb : (k : Int) ≤ 301 := by omega
                have hv : Hid (hasK t s k = E7) := h7
                rw [hv.out]
                have s1 := s1.out
                go_wp2_with fail
                refine (m1.out w3 hg3).mono ?_
                rintro e w4 ⟨rfl, hg4⟩
                replace hg4 := hg3.trans hg4
                have s2 := s2.out
                go_wp2_with fail
                refine (m2.out w4 hg4).mono ?_
                rintro e w5 ⟨rfl, hg5⟩
                replace hg5 := hg4.trans hg5
                have s3 := s3.out
                go_wp2_with fail
                refine (m3.out w5 hg5).mono ?_
                rintro e w6 ⟨rfl, hg6⟩
                replace hg6 := hg5.trans hg6
                go_wp2_with fail
                refine (aw.out _ (hg6)).mono ?_
                rintro e wz ⟨rfl, hgz⟩
                go_wp2_with fail
                go_ret
                exact ⟨rfl, (hg6).trans hgz⟩
        · have x38 : (38 : Int) < ((cks s.data.toList).length : Int) := by omega
          replace hpl := Lib.hid hpl
          replace hvs := Lib.hid hvs
          replace hvt := Lib.hid hvt
          replace v2 := Lib.hid v2
          replace n1 := Lib.hid n1
          go_enter Tryd.func4, Tryd.ntmps4
          go_wp2_with fail
          refine hp.mono ?_
          clear hp
          rintro e w1 ⟨rfl, rfl⟩
          go_wp2_with fail
          refine v1.mono ?_
          clear v1
          rintro e w1 ⟨rfl, hg1⟩
          go_wp2_with fail
          refine (v2.out w1).mono ?_
          rintro e w2 ⟨rfl, hg2⟩
          replace hg2 := hg1.trans hg2
          go_wp2_with fail
          refine (n1.out w2).mono ?_
          rintro e w3 ⟨rfl, hg3⟩
          replace hg3 := hg2.trans hg3
          go_wp2_with fail
          refine (aw.out _ (hg3)).mono ?_
          rintro e wz ⟨rfl, hgz⟩
          go_wp2_with fail
          go_ret
          exact ⟨rfl, (hg3).trans hgz⟩
end Go.Proofs.YtngpbochhabhkaaDoor.globStars

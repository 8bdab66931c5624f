/- penstockref27.One, Streams, alike: what they answer. Conditions: lengths fit an int. -/
import Derived.Test.YtgoodlbkjciloaaAskLaw
import Derived.Test.YtgoodlbkjciloaaOne
namespace Go.Proofs.Ytgoodlbkjciloaa
open Go.RowKit

set_option maxHeartbeats 1000000 in
theorem alike_any (s d s' d' : ByteArray) (v x y z i v' x' y' z' i' : Int) (w : World) :
    Calls Try.prog 29 #[.agg #[.string s, .int .i64 v, .string d, .int .i64 x, .int .i64 y, .int .i64 z, .int .i64 i], .agg #[.string s', .int .i64 v', .string d', .int .i64 x', .int .i64 y', .int .i64 z', .int .i64 i']] w fun e w' => e = .returned (.bool (alB ⟨s, v, d, ⟨x, y, z⟩, i⟩ ⟨s', v', d', ⟨x', y', z'⟩, i'⟩)) ∧ G w w' := by
  have hq := @st_eql
  obtain ⟨r, hr⟩ : ∃ r, alB ⟨s, v, d, ⟨x, y, z⟩, i⟩ ⟨s', v', d', ⟨x', y', z'⟩, i'⟩ = r := ⟨_, rfl⟩
  rw [hr]
  have hr' := hr
  unfold alB at hr'
  have hgg := (G.new w (.cells #[.string s, .int .i64 v, .string d, .int .i64 x, .int .i64 y, .int .i64 z, .int .i64 i] 35)).alloc (.cells #[.string s', .int .i64 v', .string d', .int .i64 x', .int .i64 y', .int .i64 z', .int .i64 i'] 35)
  replace hgg := Lib.hid hgg
  by_cases h1 : s = s'
  case neg =>
    have t1 : (s.toList == s'.toList) = false := by rw [bytes_beq]; exact decide_eq_false h1
    have t2 : r = false := by rw [← hr']; exact decide_eq_false fun h => h1 h.1
    subst t2
    clear hr hr' h1
    go_enter Try.func29, Try.ntmps29
    go_wp2_with fail
    go_ret
    exact ⟨rfl, hgg.out⟩
  have t1 : (s.toList == s'.toList) = true := by rw [bytes_beq]; exact decide_eq_true h1
  by_cases h2 : v = v'
  case neg =>
    have t2 : r = false := by rw [← hr']; exact decide_eq_false fun h => h2 h.2.1
    have t3 : (v == v') = false := by rw [beq_eq_false_iff_ne]; exact h2
    subst t2
    clear hr hr' h1
    go_enter Try.func29, Try.ntmps29
    go_wp2_with fail
    go_ret
    exact ⟨rfl, hgg.out⟩
  have t2 : (v == v') = true := by rw [beq_iff_eq]; exact h2
  by_cases h3 : d = d'
  case neg =>
    have t3 : (d.toList == d'.toList) = false := by rw [bytes_beq]; exact decide_eq_false h3
    have t4 : r = false := by rw [← hr']; exact decide_eq_false fun h => h3 h.2.2.1
    subst t4
    clear hr hr' h1 h2
    go_enter Try.func29, Try.ntmps29
    go_wp2_with fail
    go_ret
    exact ⟨rfl, hgg.out⟩
  have t3 : (d.toList == d'.toList) = true := by rw [bytes_beq]; exact decide_eq_true h3
  have t4 : r = stB ⟨x, y, z⟩ ⟨x', y', z'⟩ := by
    rw [← hr']
    unfold stB
    simp only [h1, h2, h3, true_and]
  subst t4
  clear hr hr' h1 h2 h3
  go_enter Try.func29, Try.ntmps29
  go_wp2_with fail
  go_ret
  exact ⟨rfl, hgg.out⟩

set_option maxHeartbeats 1000000 in
theorem refStreams_any (es : List Ev) (A : Option Addr) (c B : Nat) (w : World) (hB : B ≤ w.heap.size) (hl : es.length ≤ 9223372036854775806) (hs : Sl Ev.cells 7 w B A es) :
    Calls Try.prog 14 #[.slice A es.length c] w fun e w' => e = .returned (.bool (streamsB es)) ∧ G w w' := by
  go_enter Try.func14, Try.ntmps14
  go_wp2_with fail
  go_loopw [3] (fun i wr => ∃ k : Nat, i = .int .i64 k ∧ k ≤ es.length ∧ G w wr ∧ Hid (streamsB es = streamsFrom (fun s => (countS (es.take k) s : Int)) (es.drop k))) (fun i _ => es.length - (intOf i).toNat)
  case atStart => exact ⟨0, rfl, Nat.zero_le _, G.refl _, rfl⟩
  case round =>
    obtain ⟨wo, rfl⟩ : ∃ wo : World, wo = wr := ⟨_, rfl⟩
    obtain ⟨k, rfl, hkl, hgr, hh⟩ := hrel
    by_cases hlt : k < es.length
    · obtain ⟨⟨s1, v1, d1, st1, i1⟩, hx⟩ : ∃ x, es[k]? = some x := ⟨_, List.getElem?_eq_getElem hlt⟩
      have hsd := streamsFrom_drop (fun s => (countS (es.take k) s : Int)) es k _ hx
      have hup := countS_upd hx
      have hcl := countS_le es k s1
      dsimp only at hsd hup
      replace hsd := Lib.hid hsd
      replace hup := Lib.hid hup
      have hx2 := Lib.hid hx
      clear hx
      go_wp2_with fail
      go_loopw [4, 5] (fun n j wr => ∃ q m : Nat, n = .int .i64 ((m : Int) + 1) ∧ j = .int .i64 q ∧ q ≤ k ∧ m ≤ q ∧ Hid (countS (es.take q) s1 = m) ∧ G wo wr) (fun _ j _ => k - (intOf j).toNat)
      case atStart => exact ⟨0, 0, rfl, rfl, Nat.zero_le _, Nat.le_refl _, rfl, G.refl _⟩
      case round =>
        obtain ⟨q, m, rfl, rfl, hqk, hmq, hcn, hgw⟩ := hrel
        have hgt := hgr.trans hgw
        obtain ⟨b, o, rfl, hb, e0, e1, _⟩ := (hs.g hB hgt).ev hx2.out
        dsimp only at e0 e1
        by_cases hql : q < k
        · obtain ⟨⟨s2, v2, d2, st2, i2⟩, hy⟩ : ∃ x, es[q]? = some x := ⟨_, List.getElem?_eq_getElem (by omega)⟩
          have hct := countS_take hy s1
          obtain ⟨_, _, ee, hb2, f0, _⟩ := (hs.g hB hgt).ev hy
          cases ee
          dsimp only at f0 hct
          have n1 : (0 : Int) ≤ (q : Int) := by omega
          have n2 : (q : Int) < (es.length : Int) := by omega
          have n3 : (0 : Int) ≤ (k : Int) := by omega
          have n4 : (k : Int) < (es.length : Int) := by omega
          have n5 : (q : Int) < (k : Int) := by omega
          replace hy := Lib.hid hy
          by_cases hse : s2 = s1
          · have t1 : (s2.toList == s1.toList) = true := by rw [bytes_beq]; exact decide_eq_true hse
            rw [if_pos hse, hcn.out] at hct
            replace hct := Lib.hid hct
            replace hse := Lib.hid hse
            go_upto_region 8 with fail
            go_quiet (fail)
            go_wp2_with fail
            go_roundw
            case rel => exact ⟨q + 1, m + 1, by go_num, by go_num, by omega, by omega, hct.out, by first | exact hgw | exact hgw.drew | exact hgw.drewN _⟩
            case measure => (simp [intOf] <;> omega)
          · have t1 : (s2.toList == s1.toList) = false := by rw [bytes_beq]; exact decide_eq_false hse
            rw [if_neg hse, hcn.out] at hct
            replace hct := Lib.hid hct
            replace hse := Lib.hid hse
            go_upto_region 8 with fail
            go_quiet (fail)
            go_wp2_with fail
            go_roundw
            case rel => exact ⟨q + 1, m, by go_num, by go_num, by omega, by omega, hct.out, by first | exact hgw | exact hgw.drew | exact hgw.drewN _⟩
            case measure => (simp [intOf] <;> omega)
        · obtain rfl : q = k := by omega
          have hsd1 := hsd.out
          have hup1 := hup.out
          rw [hcn.out] at hsd1 hup1
          rw [hup1] at hsd1
          have n3 : (0 : Int) ≤ (q : Int) := by omega
          have n4 : (q : Int) < (es.length : Int) := by omega
          clear hsd hup hup1
          by_cases hv : v1 = (m : Int) + 1
          · have t1 : (v1 != (m : Int) + 1) = false := by rw [bne_eq_false_iff_eq]; exact hv
            rw [if_pos hv] at hsd1
            replace hsd1 := Lib.hid hsd1
            replace hv := Lib.hid hv
            go_wp2_with fail
            go_roundw
            case rel => exact ⟨q + 1, by go_num, by omega, hgt, hh.out.trans hsd1.out⟩
            case measure => (simp [intOf] <;> omega)
          · have t1 : (v1 != (m : Int) + 1) = true := by rw [bne_iff_ne]; exact hv
            rw [if_neg hv] at hsd1
            replace hsd1 := Lib.hid hsd1
            replace hv := Lib.hid hv
            go_wp2_with fail
            go_ret
            exact ⟨by rw [hh.out, hsd1.out]; rfl, hgt⟩
    · have hfin : streamsB es = true := by rw [hh.out, List.drop_eq_nil_of_le (by omega)]; rfl
      replace hfin := Lib.hid hfin
      clear hh
      go_wp2_with fail
      go_ret
      exact ⟨by rw [hfin.out]; rfl, hgr⟩

set_option maxHeartbeats 1000000 in
theorem refOne_any (ls : List LogM) (A : Option Addr) (c B : Nat) (w : World) (hB : B ≤ w.heap.size) (hl : ls.length ≤ 9223372036854775806) (hlen : ∀ l ∈ ls, l.es.length ≤ 1099511627776) (hs : LogsIn w B A ls) :
    Calls Try.prog 11 #[.slice A ls.length c] w fun e w' => e = .returned (.tuple #[.slice (longOf ls).A (longOf ls).es.length (longOf ls).c, .bool (allPre ls (longOf ls).es && sortedB (longOf ls).es)]) ∧ G w w' := by
  go_enter Try.func11, Try.ntmps11
  go_wp2_with fail
  go_loop [4, 5] (fun v i => ∃ (k : Nat) (x : LogM), k ≤ ls.length ∧ i = .int .i64 k ∧ v = .slice x.A x.es.length x.c ∧ (x.ok w B ∧ x.es.length ≤ 1099511627776) ∧ Hid (x = longOf (ls.take k))) (fun _ i => ls.length - (intOf i).toNat)
  case atStart => exact ⟨0, ⟨none, 0, []⟩, Nat.zero_le _, rfl, rfl, ⟨⟨Sl.nil, by simp, by simp⟩, by simp⟩, rfl⟩
  case round =>
    obtain ⟨k, ⟨xA, xc, xes⟩, hk, rfl, rfl, hx, hh⟩ := hrel
    by_cases hlt : k < ls.length
    · obtain ⟨⟨lA, lc, les⟩, hl1⟩ : ∃ l, ls[k]? = some l := ⟨_, List.getElem?_eq_getElem hlt⟩
      obtain ⟨b, o, rfl, hb, hcell, hok⟩ := hs.at_ hB hl1
      have hcell := hcell w (G.refl _)
      have hok := hok w (G.refl _)
      have hln := hlen _ (List.mem_of_getElem? hl1)
      replace hl1 := Lib.hid hl1
      clear hs hlen
      dsimp only at hcell hln ⊢
      by_cases hlong : xes.length < les.length
      · go_wp2_with fail
        go_round
        case rel =>
          refine ⟨k + 1, ⟨lA, lc, les⟩, by omega, by go_num, rfl, ⟨hok, hln⟩, ?_⟩
          unfold Hid longOf
          rw [take_snoc hl1.out, List.foldl_append]
          show _ = longer (longOf (ls.take k)) _
          rw [← hh.out]
          unfold longer
          rw [if_pos hlong]
        case measure => (simp [intOf] <;> omega)
      · go_wp2_with fail
        go_round
        case rel =>
          refine ⟨k + 1, ⟨xA, xc, xes⟩, by omega, by go_num, rfl, hx, ?_⟩
          unfold Hid longOf
          rw [take_snoc hl1.out, List.foldl_append]
          show _ = longer (longOf (ls.take k)) _
          rw [← hh.out]
          unfold longer
          rw [if_neg (by simp; omega)]
        case measure => (simp [intOf] <;> omega)
    · have hx2 : longOf ls = ⟨xA, xc, xes⟩ := by
        have := hh.out
        rw [List.take_of_length_le (by omega)] at this
        exact this.symm
      replace hx2 := Lib.hid hx2
      obtain ⟨⟨hxs, hxc, hxm⟩, hxl⟩ := hx
      dsimp only at hxs hxc hxm hxl ⊢
      clear hh
      go_wp2_with (go_at_call 27; refine (refSorted_any xes xA xc B w hB (by omega) hxs).mono ?_; rintro e w1 ⟨rfl, hg1⟩)
      go_loopw [6, 7] (fun v i wr => ∃ (k : Nat), k ≤ ls.length ∧ i = .int .i64 k ∧ G w wr ∧ v = .bool (allPre (ls.take k) xes && sortedB xes)) (fun _ i _ => ls.length - (intOf i).toNat)
      case atStart => exact ⟨0, Nat.zero_le _, rfl, hg1, rfl⟩
      case round =>
        obtain ⟨k, hk, rfl, hg, rfl⟩ := hrel
        by_cases hlt : k < ls.length
        · obtain ⟨⟨lA, lc, les⟩, hl1⟩ : ∃ l, ls[k]? = some l := ⟨_, List.getElem?_eq_getElem hlt⟩
          obtain ⟨b, o, rfl, hb, hcell, hok⟩ := hs.at_ hB hl1
          have hcell := hcell wr hg
          obtain ⟨hls, hlc, hlm⟩ := hok wr hg
          have hxs2 := hxs.g hB hg
          have hsn : allPre (ls.take (k + 1)) xes = (allPre (ls.take k) xes && prefB les xes) := by
            rw [take_snoc hl1]
            simp only [allPre, List.all_append, List.all_cons, List.all_nil, Bool.and_true]
          replace hl1 := Lib.hid hl1
          have hBr : B ≤ wr.heap.size := by have := hg.size; omega
          clear hs hlen
          dsimp only at hcell hls hlc hlm ⊢
          have n1 : (0 : Int) ≤ (k : Int) := by omega
          have n2 : (k : Int) < (ls.length : Int) := by omega
          obtain ⟨p, hp⟩ : ∃ p, allPre (ls.take k) xes = p := ⟨_, rfl⟩
          obtain ⟨so, hso⟩ : ∃ so, sortedB xes = so := ⟨_, rfl⟩
          rw [hp, hso]
          rw [hp] at hsn
          replace hp := Lib.hid hp
          replace hso := Lib.hid hso
          replace hsn := Lib.hid hsn
          have hpre := refPrefix_any les xes lA xA lc xc B wr hBr (by omega) hxc hxm hls hxs2
          cases hps : (p && so) with
          | false =>
            go_wp2_with fail
            go_roundw
            case rel => exact ⟨k + 1, by omega, by go_num, hg, by rw [hsn.out]; cases p <;> cases so <;> first | (simp; done) | (simp at hps; done)⟩
            case measure => (simp [intOf] <;> omega)
          | true =>
            go_wp2_with (go_at_call 16; refine hpre.mono ?_; rintro e w3 ⟨rfl, hg3⟩)
            go_roundw
            case rel => exact ⟨k + 1, by omega, by go_num, hg.trans hg3, by rw [hsn.out]; cases p <;> cases so <;> first | (simp; done) | (simp at hps; done)⟩
            case measure => (simp [intOf] <;> omega)
        · have hall : allPre (ls.take k) xes = allPre ls xes := by rw [List.take_of_length_le (by omega)]
          replace hall := Lib.hid hall
          go_wp2_with fail
          go_ret2
          exact ⟨by rw [hx2.out, hall.out]; rfl, hg⟩
end Go.Proofs.Ytgoodlbkjciloaa

/- glob.parse, glob.Check: what they answer. Condition: at most 2^30 bytes; the decoder's tables lie as the library lays them. -/
import Derived.Test.YthhhobfdlgmjlaaDoorGlobParseQWholeRow
import Derived.Test.YthhhobfdlgmjlaaDoorCountQWholeRow
namespace Go.Proofs.YthhhobfdlgmjlaaDoor
open Go.RowKit

/-- Is a text a pattern? -/
def patOk (s : ByteArray) : Bool := validB s && decide (((cks s.data.toList).length : Int) ≤ 40) && !(parseL (runesL s)).2
/-- Its pieces. -/
def patP (s : ByteArray) : List Pc := (parseL (runesL s)).1
/-- Pieces that read in a world, each set a row of its own. -/
def PcsAt (w : World) (base : Nat) (A : Option Addr) (n c : Nat) (ms : List PcM) : Prop :=
  n = ms.length ∧ OwnL 112 4 PcM.cells w base (.slice A n c) ms ∧ ∀ m ∈ ms, OwnL 124 2 spanC w base (.slice m.A m.p.set.length m.c) m.p.set
def ParsePost (s : ByteArray) (w : World) (e : Ending) (w' : World) : Prop :=
  ∃ A n c, e = .returned (.tuple #[.slice A n c, .bool (patOk s)]) ∧ (patOk s = true → ∃ ms, ms.map PcM.p = patP s ∧ PcsAt w' w.heap.size A n c ms) ∧ G w w'
structure ParSt (R : Nat) (A : Option Addr) (c8 : Nat) (ls : List Nat) (w : World) (F : List Pc × Bool) (n : Nat) (ms : List PcM) (l : List Nat) (b : Bool) (v : Value) (wr : World) : Prop where
  fst : ms.map PcM.p ++ (parseF n l b).1 = F.1
  snd : (parseF n l b).2 = F.2
  fuel : l.length < n
  few : ms.length + n ≤ 41
  own : OwnL 112 4 PcM.cells wr (R + 1) v ms
  sets : ∀ m ∈ ms, OwnL 124 2 spanC wr w.heap.size (.slice m.A m.p.set.length m.c) m.p.set
  rd : RdTo R A c8 ls l b wr
  g : G w wr
theorem ParSt.over {R : Nat} {A : Option Addr} {c8 : Nat} {ls : List Nat} {w : World} {F : List Pc × Bool} {n : Nat} {ms : List PcM} {l : List Nat} {b : Bool} {v : Value} {wr : World}
    (h : ParSt R A c8 ls w F n ms l b v wr) (he : l = [] ∨ b = true) : F = (ms.map PcM.p, b) := by
  obtain ⟨m, rfl⟩ : ∃ m, n = m + 1 := ⟨n - 1, by have := h.fuel; omega⟩
  have h1 := h.fst
  have h2 := h.snd
  rw [parseF, if_pos he] at h1 h2
  rw [List.append_nil] at h1
  exact Prod.ext h1.symm h2.symm
set_option maxHeartbeats 4000000 in
theorem parse_any (s : ByteArray) (w : World) (hs : s.size ≤ 1073741824) (hT : Tabs w) :
    Calls Tryd.prog 46 #[.string s] w (ParsePost s w) := by
  have hva := valid_any s w (by omega) hT
  have hco : ∀ w', _ := fun w' => count_any s w' (by omega)
  have hli : ∀ w', _ := fun w' => list_any s w' hs
  replace hli := Lib.hid hli
  cases hv : validB s with
  | false =>
    rw [hv] at hva
    have hok : patOk s = false := by unfold patOk; rw [hv]; rfl
    replace hv := Lib.hid hv
    replace hok := Lib.hid hok
    clear hco
    go_enter Tryd.func46, Tryd.ntmps46
    go_wp2_with fail
    refine hva.mono ?_
    clear hva
    rintro e w1 ⟨rfl, hg1⟩
    go_wp2_with fail
    go_ret2
    exact ⟨none, 0, 0, by rw [hok.out]; rfl, (fun h => by rw [hok.out] at h; cases h), hg1⟩
  | true =>
    rw [hv] at hva
    replace hv := Lib.hid hv
    by_cases hc40 : ((cks s.data.toList).length : Int) ≤ 40
    · have hlen := runesL_len s
      obtain ⟨F, hF⟩ : ∃ F, parseL (runesL s) = F := ⟨_, rfl⟩
      replace hF := Lib.hid hF
      have hl40 : (runesL s).length ≤ 40 := by omega
      have t40 : ¬ (40 : Int) < ((cks s.data.toList).length : Int) := by omega
      replace hlen := Lib.hid hlen
      replace hco := Lib.hid hco
      replace hc40 := Lib.hid hc40
      go_enter Tryd.func46, Tryd.ntmps46
      go_wp2_with fail
      refine hva.mono ?_
      clear hva
      rintro e w1 ⟨rfl, hg1⟩
      go_wp2_with fail
      refine (hco.out w1).mono ?_
      clear hco
      rintro e w2 ⟨rfl, hg2⟩
      replace hg2 := hg1.trans hg2
      clear hg1
      go_wp2_with fail
      refine (hli.out w2).mono ?_
      clear hli
      rintro e w3 ⟨A, c8, rfl, hsl, hg3⟩
      replace hg3 := hg2.trans hg3
      have hz3 := hg3.size
      have hst : ParSt w3.heap.size A c8 (runesL s) w F ((runesL s).length + 1) [] (runesL s) false (.slice none 0 0) (w3.alloc (.cells #[.slice A (runesL s).length c8, .int .i64 0, .bool false] 118)) := by
        refine ⟨by rw [List.map_nil, List.nil_append]; exact congrArg Prod.fst hF.out, congrArg Prod.snd hF.out, by omega, by simp; omega, OwnL.nil, (fun m hm => by cases hm), ⟨0, Nat.zero_le _, rfl, blk_new _ _ _, hsl.g (Nat.le_refl _) (G.new _ _)⟩, hg3.alloc _⟩
      replace hst := Lib.hid hst
      clear hg2 hsl hg3
      generalize hls : runesL s = ls at *
      replace hls := Lib.hid hls
      go_wp2_with fail
      go_loopg [2] (ls.length + 1) (fun n v wr => ∃ (ms : List PcM) (l : List Nat) (b : Bool) (A8 : Option Addr) (n8 c2 : Nat), v = .slice A8 n8 c2 ∧ Hid (n8 = ms.length) ∧ Hid (ParSt w3.heap.size A c8 ls w F n ms l b (.slice A8 n8 c2) wr))
      case atStart => exact ⟨[], ls, false, none, 0, 0, rfl, rfl, hst⟩
      case round =>
        clear hst
        obtain ⟨ms, l, b, A8, n8, c2, rfl, hn8, hst⟩ := hrel
        obtain ⟨p, hp, hdr, hrp⟩ := hst.out.rd
        have he := end_any w3.heap.size A c8 ls p b wr hrp
        by_cases hnil : l = []
        · rw [decide_eq_true (by
            have := congrArg List.length hdr
            rw [hnil, List.length_drop] at this
            simp at this
            omega)] at he
          replace hnil := Lib.hid hnil
          replace hdr := Lib.hid hdr
          clear hrp
          go_wp2_with fail
          refine he.mono ?_
          clear he
          rintro e w4 ⟨rfl, hg4⟩
          cases b with
          | true =>
            obtain rfl : F = (ms.map PcM.p, true) := hst.out.over (.inr rfl)
            have hok : patOk s = !true := by
              unfold patOk
              rw [hls.out, hF.out, hv.out, decide_eq_true hc40.out]
              rfl
            have hpp : patP s = ms.map PcM.p := by unfold patP; rw [hls.out, hF.out]
            obtain ⟨pp, _, _, hrp⟩ := hst.out.rd.g (hg4)
            have d2 := hrp.c2
            clear hrp
            replace hok := Lib.hid hok
            replace hpp := Lib.hid hpp
            go_wp2_with fail
            go_quiet (fail)
            go_wp2_with fail
            go_ret2
            refine ⟨A8, n8, c2, by rw [hok.out]; rfl, fun _ => ⟨ms, hpp.out.symm, ?_, ?_, ?_⟩, ?_⟩
            · exact hn8.out
            · exact ((hst.out.own.g (hg4)).g ((G.refl _).drewN _)).mono (by omega)
            · exact fun m hm => ((hst.out.sets m hm).g (hg4)).g ((G.refl _).drewN _)
            · exact (hst.out.g.trans (hg4)).drewN _
          | false =>
            obtain rfl : F = (ms.map PcM.p, false) := hst.out.over (.inl hnil.out)
            have hok : patOk s = !false := by
              unfold patOk
              rw [hls.out, hF.out, hv.out, decide_eq_true hc40.out]
              rfl
            have hpp : patP s = ms.map PcM.p := by unfold patP; rw [hls.out, hF.out]
            obtain ⟨pp, _, _, hrp⟩ := hst.out.rd.g (hg4)
            have d2 := hrp.c2
            clear hrp
            replace hok := Lib.hid hok
            replace hpp := Lib.hid hpp
            go_wp2_with fail
            go_quiet (fail)
            go_wp2_with fail
            go_ret2
            refine ⟨A8, n8, c2, by rw [hok.out]; rfl, fun _ => ⟨ms, hpp.out.symm, ?_, ?_, ?_⟩, ?_⟩
            · exact hn8.out
            · exact ((hst.out.own.g (hg4)).g ((G.refl _).drewN _)).mono (by omega)
            · exact fun m hm => ((hst.out.sets m hm).g (hg4)).g ((G.refl _).drewN _)
            · exact (hst.out.g.trans (hg4)).drewN _
        · rw [decide_eq_false (by
            intro h
            rw [List.drop_of_length_le h] at hdr
            exact hnil hdr.symm)] at he
          replace hnil := Lib.hid hnil
          replace hdr := Lib.hid hdr
          clear hrp
          go_wp2_with fail
          refine he.mono ?_
          clear he
          rintro e w4 ⟨rfl, hg4⟩
          obtain ⟨pq, _, _, hrq⟩ := hst.out.rd.g hg4
          have d3 := hrq.c2
          clear hrq
          cases b with
          | true =>
            clear d3
            obtain rfl : F = (ms.map PcM.p, true) := hst.out.over (.inr rfl)
            have hok : patOk s = !true := by
              unfold patOk
              rw [hls.out, hF.out, hv.out, decide_eq_true hc40.out]
              rfl
            have hpp : patP s = ms.map PcM.p := by unfold patP; rw [hls.out, hF.out]
            obtain ⟨pp, _, _, hrp⟩ := hst.out.rd.g (hg4)
            have d2 := hrp.c2
            clear hrp
            replace hok := Lib.hid hok
            replace hpp := Lib.hid hpp
            go_wp2_with fail
            go_quiet (fail)
            go_wp2_with fail
            go_ret2
            refine ⟨A8, n8, c2, by rw [hok.out]; rfl, fun _ => ⟨ms, hpp.out.symm, ?_, ?_, ?_⟩, ?_⟩
            · exact hn8.out
            · exact ((hst.out.own.g (hg4)).g ((G.refl _).drewN _)).mono (by omega)
            · exact fun m hm => ((hst.out.sets m hm).g (hg4)).g ((G.refl _).drewN _)
            · exact (hst.out.g.trans (hg4)).drewN _
          | false =>
            obtain ⟨m, hm⟩ : ∃ m, gk = m + 1 := ⟨gk - 1, by have := hst.out.fuel; omega⟩
            have hfst := hst.out.fst
            have hsnd := hst.out.snd
            rw [hm, parseF, if_neg (by rw [not_or]; exact ⟨hnil.out, by simp⟩)] at hfst hsnd
            dsimp only at hfst hsnd
            have hle := oneS_le l hnil.out
            have hfu := hst.out.fuel
            have hfw := hst.out.few
            have ho := one_any w3.heap.size A c8 ls l false w4 (hst.out.rd.g hg4) (by omega) (by omega)
            obtain ⟨p1, l1, b1, hone⟩ : ∃ p1 l1 b1, oneS l false = (p1, l1, b1) := ⟨_, _, _, rfl⟩
            rw [hone] at ho hfst hsnd hle
            dsimp only at ho hfst hsnd hle
            have hown4 := hst.out.own.g hg4
            have hsets4 : ∀ m ∈ ms, OwnL 124 2 spanC w4 w.heap.size (.slice m.A m.p.set.length m.c) m.p.set := fun m hm => (hst.out.sets m hm).g hg4
            have hG4 := hst.out.g.trans hg4
            replace hfst := Lib.hid hfst
            replace hsnd := Lib.hid hsnd
            replace hown4 := Lib.hid hown4
            replace hsets4 := Lib.hid hsets4
            replace hm := Lib.hid hm
            replace hone := Lib.hid hone
            go_wp2_with fail
            refine ho.mono ?_
            clear ho
            rintro e w5 ⟨pm, hpm, rfl, hset5, hr5, hb5⟩
            have hRz : w3.heap.size < w4.heap.size := by obtain ⟨_, _, _, h1⟩ := hst.out.rd.g hg4; exact h1.lt
            have hRb : ∀ (k : Nat) (cs : Array Value) (t : TypeId), w4.heap[k]? = some (.cells cs t (0, 0)) → t ≠ 118 → k ≠ w3.heap.size := fun k cs t h1 h2 e => by
              obtain ⟨_, _, _, h3⟩ := hst.out.rd.g hg4
              rw [e, h3.1] at h1
              cases h1
              exact h2 rfl
            have hown5 : OwnL 112 4 PcM.cells w5 (w3.heap.size + 1) (.slice A8 n8 c2) ms := hown4.out.but' hb5 (fun k hk e => by have := (hown4.out.blk hk).1; omega)
            have hsets5 : ∀ m ∈ ms, OwnL 124 2 spanC w5 w.heap.size (.slice m.A m.p.set.length m.c) m.p.set := fun m hm => (hsets4.out m hm).but' hb5 (fun k hk e => by
              obtain ⟨_, _, cs, h1⟩ := (hsets4.out m hm).blk hk
              exact hRb k cs _ h1 (by decide) e)
            have hG5 := hG4.next hb5 hz3
            subst hpm
            have hset6 := hset5.mono hG4.size
            replace hset6 := Lib.hid hset6
            replace hr5 := Lib.hid hr5
            replace hown5 := Lib.hid hown5
            replace hsets5 := Lib.hid hsets5
            have hz5 := hb5.size
            clear hset5 hb5 hRb d3 hG4
            obtain ⟨⟨k0, r0, st, no⟩, Am, cm⟩ := pm
            unfold PcM.cells
            go_wp2_with (at_builtin; refine wpList_append_but pc_elem _ rfl (.tmp 27) (.tmp 30) rfl (w3.heap.size + 1) _ ms rfl (hown5.out.g (G.new _ _)) (w5.heap.size + 1) (some ⟨w5.heap.size, 0, none⟩) 1 [⟨⟨k0, r0, st, no⟩, Am, cm⟩] rfl (by intro h; cases h) (Sl.of_blk PcM.cells_len _ (blk_new _ _ _) rfl (by omega)) (by simp; omega) (by simp; omega) (by simp; omega) ?_; intro v' w6 hown6 hkeep hbut6; obtain ⟨A9, c9, e9, _, _, _⟩ := OwnL.sl PcM.cells_len hown6; subst e9; replace hown6 := Lib.hid hown6; replace hkeep := Lib.hid hkeep; replace hbut6 := Lib.hid hbut6)
            have e1 : (ms ++ [(⟨⟨k0, r0, st, no⟩, Am, cm⟩ : PcM)]).length = ms.length + 1 := by simp
            rw [e1] at hown6
            have hm2 := hm.out
            have hlast : ParSt w3.heap.size A c8 ls w F m (ms ++ [(⟨⟨k0, r0, st, no⟩, Am, cm⟩ : PcM)]) l1 b1 (.slice A9 (ms.length + 1) c9) w6 := by
              have hRl : ∀ k, k ≤ w3.heap.size → ¬ some k = (Value.slice A8 n8 c2).ownBlock := fun k hk e => by
                have := (hown5.out.blk e.symm).1
                omega
              refine ⟨?_, hsnd.out, by omega, by rw [List.length_append, List.length_singleton]; omega, hown6.out, ?_, (hr5.out.g (G.new _ _)).but hbut6.out (hRl _ (Nat.le_refl _)) (fun k hk => hRl k (by omega)), ?_⟩
              · rw [← hfst.out, List.map_append, List.append_assoc]; rfl
              · intro x hx
                rcases List.mem_append.1 hx with hx | hx
                · exact ((hsets5.out x hx).g (G.new _ _)).keepT hkeep.out (by decide)
                · rw [List.mem_singleton] at hx
                  subst hx
                  exact (hset6.out.g (G.new _ _)).keepT hkeep.out (by decide)
              · exact Below.trans (hG5.alloc _) (hkeep.out.1.mono (by omega))
            replace hlast := Lib.hid hlast
            go_roundg m
            case measure => omega
            case rel => exact ⟨ms ++ [(⟨⟨k0, r0, st, no⟩, Am, cm⟩ : PcM)], l1, b1, A9, _, c9, rfl, e1.symm, hlast⟩
    · have hok : patOk s = false := by unfold patOk; rw [decide_eq_false hc40, Bool.and_false]; rfl
      have t40 : (40 : Int) < ((cks s.data.toList).length : Int) := by omega
      replace hok := Lib.hid hok
      replace hco := Lib.hid hco
      clear hc40
      go_enter Tryd.func46, Tryd.ntmps46
      go_wp2_with fail
      refine hva.mono ?_
      clear hva
      rintro e w1 ⟨rfl, hg1⟩
      go_wp2_with fail
      refine (hco.out w1).mono ?_
      clear hco
      rintro e w2 ⟨rfl, hg2⟩
      replace hg2 := hg1.trans hg2
      go_wp2_with fail
      go_ret2
      exact ⟨none, 0, 0, by rw [hok.out]; rfl, (fun h => by rw [hok.out] at h; cases h), hg2⟩
/-- What Check answers. -/
def chkI (b : Bool) : Int := if b = true then 0 else 1
set_option maxHeartbeats 400000 in
theorem check_any (s : ByteArray) (w : World) (hs : s.size ≤ 1073741824) (hT : Tabs w) :
    Calls Tryd.prog 30 #[.string s] w fun e w' => e = .returned (.int .i64 (chkI (patOk s))) ∧ G w w' := by
  have hp := parse_any s w hs hT
  go_enter Tryd.func30, Tryd.ntmps30
  go_wp2_with fail
  refine hp.mono ?_
  clear hp
  rintro e w1 ⟨A, n, c, rfl, hok, hg⟩
  clear hok
  cases hb : patOk s with
  | true =>
    replace hb := Lib.hid hb
    go_wp2_with fail
    go_ret
    exact ⟨by rw [hb.out]; rfl, hg⟩
  | false =>
    replace hb := Lib.hid hb
    go_wp2_with fail
    go_ret
    exact ⟨by rw [hb.out]; rfl, hg⟩
end Go.Proofs.YthhhobfdlgmjlaaDoor

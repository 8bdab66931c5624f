/- water's Logs, Water: what is known of the others. Conditions: at most six nodes, at most 8000 events each. -/
import Derived.Test.YthhhobfdlgmjlaaDoorWatMadeQWholeRow
namespace Go.Proofs.YthhhobfdlgmjlaaDoor
open Go.RowKit

theorem log_elem : IsElem Tryd.prog 22 24 1 24 LogM.cells :=
  isElem_of (z := .slice none 0 0) Tryd.underlying22 (by kernel_rfl) rfl (by omega) LogM.cells_len (by intro x u hu; simp [LogM.cells] at hu; subst hu; rfl)
/-- Logs of the call's own. -/
def LogsOwn (w : World) (base : Nat) (tl : List LogM) : Prop := ∀ l ∈ tl, OwnL 32 7 Ev.cells w base (.slice l.A l.es.length l.c) l.es
theorem LogsOwn.ok {w : World} {base : Nat} {tl : List LogM} (h : LogsOwn w base tl) : ∀ l ∈ tl, l.ok w w.heap.size := fun l hl => by
  obtain ⟨A, c, e, h1, h2, h3⟩ := OwnL.sl Ev.cells_len (h l hl)
  cases e
  exact ⟨h3, h1, h2⟩
theorem LogsOwn.g {w w' : World} {base : Nat} {tl : List LogM} (h : LogsOwn w base tl) (hg : G w w') : LogsOwn w' base tl := fun l hl => (h l hl).g hg
theorem LogsOwn.keepT {e' : TypeId} {w w' : World} {base base' : Nat} {tl : List LogM} (h : LogsOwn w base tl) (hk : KeepT e' base' w w') (hne : 32 ≠ e') : LogsOwn w' base tl := fun l hl => (h l hl).keepT hk hne
/-- What Logs answers. -/
def LogsPost (ps : List PeerM) (w : World) (e : Ending) (w' : World) : Prop :=
  ∃ A c tl, e = .returned (.slice A tl.length c) ∧ OwnL 24 1 LogM.cells w' w.heap.size (.slice A tl.length c) tl ∧ LogsOwn w' w.heap.size tl ∧ tl.map (·.es) = (ps.drop 2).map (·.es) ∧ G w w'
theorem drop_take_snoc {α : Type} {ps : List α} {k : Nat} {p : α} (h2 : 2 ≤ k) (hp : ps[k]? = some p) : (ps.take (k + 1)).drop 2 = (ps.take k).drop 2 ++ [p] := by
  obtain ⟨hk, rfl⟩ := List.getElem?_eq_some_iff.1 hp
  rw [List.take_succ_eq_append_getElem hk, List.drop_append_of_le_length (by rw [List.length_take]; omega)]
set_option maxRecDepth 100000 in
set_option maxHeartbeats 2000000 in
theorem watLogs_any {w : World} {base T g c : Nat} {ps : List PeerM} (h : TabAt 93 98 w base T g c ps) (hl : ps.length ≤ 6) (hes : ∀ p ∈ ps, p.es.length ≤ 8000) :
    Calls Tryd.prog 33 #[.pointer (some ⟨T, 0, none⟩)] w (LogsPost ps w) := by
  have c1 := h.row
  have hoth := fun w' (hg : G w w') (k : Nat) hk => watOther_any (h.grow hg) k hk hl
  replace hoth := Lib.hid hoth
  go_enter Tryd.func33, Tryd.ntmps33
  go_wp2_with fail
  go_loopw [2, 11] (fun v i wr => ∃ (k : Nat) (tl : List LogM), k ≤ ps.length ∧ i = .int .i64 k ∧ OwnL 24 1 LogM.cells wr w.heap.size v tl ∧ Hid (LogsOwn wr w.heap.size tl) ∧ Hid (tl.map (·.es) = ((ps.take k).drop 2).map (·.es)) ∧ tl.length ≤ k ∧ G w wr) (fun _ i _ => ps.length - (intOf i).toNat)
  case atStart => exact ⟨0, [], Nat.zero_le _, rfl, OwnL.nil, by simp [Hid, LogsOwn], by simp [Hid], Nat.le_refl _, G.refl _⟩
  case round =>
    obtain ⟨k, tl, hk, rfl, hown, hlo, htl, hkl, hg⟩ := hrel
    by_cases hlt : k < ps.length
    · obtain ⟨p, hp⟩ : ∃ p, ps[k]? = some p := ⟨_, List.getElem?_eq_getElem hlt⟩
      have ho := hoth.out wr hg k (by omega)
      have hrow := (h.grow hg).row
      obtain ⟨d0, _, _, _⟩ := (h.grow hg).cells hp
      have n1 : (0 : Int) ≤ (k : Int) := by omega
      have n2 : (k : Int) < (ps.length : Int) := by omega
      have hpl := hes p (List.mem_of_getElem? hp)
      have hsl := ((h.grow hg).o p (List.mem_of_getElem? hp)).self Ev.cells_len
      by_cases h2 : 2 ≤ k
      · rw [decide_eq_true ⟨h2, hlt⟩] at ho
        have hdt := congrArg (List.map (·.es)) (drop_take_snoc h2 hp)
        rw [List.map_append, ← htl.out] at hdt
        replace hdt := Lib.hid hdt
        replace hp := Lib.hid hp
        obtain ⟨pA, pc, pes, pm⟩ := p
        dsimp only at d0 hpl hsl hdt
        replace ho := Lib.hid ho
        go_wp2_with fail
        refine Calls.mono ho.out ?_
        rintro e w1 ⟨rfl, rfl⟩
        clear ho
        go_wp2_with fail
        refine (clone_any pes pA pc wr.heap.size wr (Nat.le_refl _) (by omega) hsl).mono ?_
        rintro e w1 ⟨v1, rfl, hown1, hg1⟩
        obtain ⟨xA, xc, e1, hxc, hxm, hxs⟩ := OwnL.sl Ev.cells_len (show OwnL 32 7 Ev.cells w1 wr.heap.size v1 pes from hown1)
        subst e1
        have hox2 := OwnL.mono (show OwnL 32 7 Ev.cells w1 wr.heap.size (.slice xA pes.length xc) pes from hown1) hg.size
        replace hox2 := Lib.hid hox2
        replace hdt := Lib.hid hdt
        have hsz1 := (hg.trans hg1).size
        go_wp2_with (at_builtin; refine wpList_append_list log_elem _ rfl (.tmp 17) (.tmp 27) rfl w.heap.size _ tl rfl ((hown.g hg1).g (G.new _ _)) (w1.heap.size + 1) (some ⟨w1.heap.size, 0, none⟩) 1 [⟨xA, xc, pes⟩] rfl (by intro h; cases h) (Sl.of_blk LogM.cells_len _ (blk_new _ _ _) (by simp [LogM.cells]) (by omega)) (by simp; omega) (by simp; omega) (by simp; omega) ?_; intro v' w' hown' hkeep _)
        have hlo2 : LogsOwn w' w.heap.size (tl ++ [⟨xA, xc, pes⟩]) := by
          intro l hl
          rcases List.mem_append.1 hl with hl | hl
          · exact (((hlo.out.g hg1).g (G.new _ _)).keepT hkeep (by decide)) l hl
          · rw [List.mem_singleton] at hl
            subst hl
            exact (hox2.out.g (G.new _ _)).keepT hkeep (by decide)
        have htl2 : (tl ++ [(⟨xA, xc, pes⟩ : LogM)]).map (·.es) = ((ps.take (k + 1)).drop 2).map (·.es) := by
          rw [hdt.out.out, List.map_append]
          rfl
        replace hlo2 := Lib.hid hlo2
        replace htl2 := Lib.hid htl2
        go_roundw
        case rel => exact ⟨k + 1, _, by omega, by go_num, hown', hlo2, htl2, by simp; omega, hkeep.g ((hg.trans hg1).alloc _)⟩
        case measure => simp [intOf]; omega
      · rw [decide_eq_false (by omega)] at ho
        have hdt : ((ps.take (k + 1)).drop 2) = ((ps.take k).drop 2) := by
          rw [List.drop_eq_nil_of_le (by rw [List.length_take]; omega), List.drop_eq_nil_of_le (by rw [List.length_take]; omega)]
        rw [← hdt] at htl
        replace hdt := Lib.hid hdt
        replace ho := Lib.hid ho
        clear d0 hrow hsl
        go_wp2_with fail
        refine Calls.mono ho.out ?_
        rintro e w1 ⟨rfl, rfl⟩
        clear ho
        go_wp2_with fail
        go_roundw
        case rel => exact ⟨k + 1, tl, by omega, by go_num, hown, hlo, htl, by omega, hg⟩
        case measure => simp [intOf]; omega
    · obtain rfl : k = ps.length := by omega
      rw [List.take_length] at htl
      obtain ⟨xA, xc, rfl, _, _, _⟩ := OwnL.sl LogM.cells_len hown
      replace hown := Lib.hid hown
      go_wp2_with fail
      go_ret
      exact ⟨xA, xc, tl, rfl, hown.out, hlo.out, htl.out, hg⟩
end Go.Proofs.YthhhobfdlgmjlaaDoor

/- watch.One: the longest feed, and whether all are first parts of it. Condition: lengths at most 2^40. -/
import Derived.Test.YtgoodlbkjciloaaPrefix
import Derived.Test.YtgoodlbkjciloaaSorted
namespace Go.Proofs.Ytgoodlbkjciloaa
open Go.RowKit

/-- A list of events as it lies: its address and capacity beside what it holds. -/
structure LogM where
  A : Option Addr
  c : Nat
  es : List Ev
def LogM.cells (l : LogM) : List Value := [.slice l.A l.es.length l.c]
theorem LogM.cells_len (l : LogM) : l.cells.length = 1 := rfl
def LogM.ok (w : World) (B : Nat) (l : LogM) : Prop := Sl Ev.cells 7 w B l.A l.es ∧ l.es.length ≤ l.c ∧ l.c ≤ 9223372036854775807
/-- A list of lists of events. -/
def LogsIn (w : World) (B : Nat) (A : Option Addr) (ls : List LogM) : Prop := Sl LogM.cells 1 w B A ls ∧ ∀ l ∈ ls, l.ok w B
theorem LogM.ok.g {w w' : World} {B : Nat} {l : LogM} (h : l.ok w B) (hB : B ≤ w.heap.size) (hg : G w w') : l.ok w' B := ⟨h.1.g hB hg, h.2⟩
theorem LogsIn.g {w w' : World} {B : Nat} {A : Option Addr} {ls : List LogM} (h : LogsIn w B A ls) (hB : B ≤ w.heap.size) (hg : G w w') : LogsIn w' B A ls :=
  ⟨h.1.g hB hg, fun l hl => (h.2 l hl).g hB hg⟩
theorem LogsIn.at_ {w : World} {B : Nat} {A : Option Addr} {ls : List LogM} {k : Nat} {l : LogM} (h : LogsIn w B A ls) (hB : B ≤ w.heap.size) (hl : ls[k]? = some l) :
    ∃ b o, A = some ⟨b, o, none⟩ ∧ b < w.heap.size ∧ (∀ w', G w w' → w'.cell? ⟨b, o + k, none⟩ = some (.slice l.A l.es.length l.c)) ∧ ∀ w', G w w' → l.ok w' B := by
  obtain ⟨b, o, e, hb, hc⟩ := Sl.get1 (g := fun l : LogM => Value.slice l.A l.es.length l.c) h.1 hl
  exact ⟨b, o, e, by omega, fun w' hg => (hg.cell (by omega)).trans hc, fun w' hg => (h.2 l (List.mem_of_getElem? hl)).g hB hg⟩

def longer (a b : LogM) : LogM := if a.es.length < b.es.length then b else a
def longOf (ls : List LogM) : LogM := ls.foldl longer ⟨none, 0, []⟩
/-- Are all first parts of one? -/
def allPre (ls : List LogM) (x : List Ev) : Bool := ls.all fun l => prefB l.es x
theorem take_snoc {α : Type} {l : List α} {k : Nat} {x : α} (h : l[k]? = some x) : l.take (k + 1) = l.take k ++ [x] := by
  rw [List.take_add_one, h]; rfl
theorem longOf_mem (ls : List LogM) : longOf ls = ⟨none, 0, []⟩ ∨ longOf ls ∈ ls := by
  unfold longOf
  suffices h : ∀ a, ls.foldl longer a = a ∨ ls.foldl longer a ∈ ls from h _
  induction ls with
  | nil => intro a; exact .inl rfl
  | cons x l ih =>
    intro a
    rw [List.foldl_cons]
    rcases ih (longer a x) with h | h
    · rw [h]
      unfold longer
      split
      · exact .inr (by simp)
      · exact .inl rfl
    · exact .inr (by simp [h])
/-- A call answers a list of events of its own, and a bool. -/
def RetEvsB (w : World) (es : List Ev) (b : Bool) (e : Ending) (w' : World) : Prop := ∃ v, e = .returned (.tuple #[v, .bool b]) ∧ Own w' w.heap.size v es ∧ G w w'

set_option maxHeartbeats 1000000 in
theorem one_any (ls : List LogM) (A : Option Addr) (c B : Nat) (w : World) (hB : B ≤ w.heap.size) (hl : ls.length ≤ 9223372036854775807) (hlen : ∀ l ∈ ls, l.es.length ≤ 1099511627776) (hs : LogsIn w B A ls) :
    Calls Try.prog 10 #[.slice A ls.length c] w (RetEvsB w (longOf ls).es (allPre ls (longOf ls).es && sortedB (longOf ls).es)) := by
  go_enter Try.func10, Try.ntmps10
  go_wp2_with fail
  go_loop [2, 10] (fun v i => ∃ (k : Nat) (x : LogM), k ≤ ls.length ∧ i = .int .i64 k ∧ v = .slice x.A x.es.length x.c ∧ (x.ok w B ∧ x.es.length ≤ 1099511627776) ∧ Hid (x = longOf (ls.take k))) (fun _ i => ls.length - (intOf i).toNat)
  case atStart => exact ⟨0, ⟨none, 0, []⟩, Nat.zero_le _, rfl, rfl, ⟨⟨Sl.nil, by simp, by simp⟩, by simp⟩, rfl⟩
  case round =>
    obtain ⟨k, ⟨xA, xc, xes⟩, hk, rfl, rfl, hx, hh⟩ := hrel
    by_cases hlt : k < ls.length
    · obtain ⟨⟨lA, lc, les⟩, hl1⟩ : ∃ l, ls[k]? = some l := ⟨_, List.getElem?_eq_getElem hlt⟩
      obtain ⟨b, o, rfl, hb, hcell, hok⟩ := hs.at_ hB hl1
      have hcell := hcell w (G.refl _)
      have hok := hok w (G.refl _)
      have hln := hlen _ (List.mem_of_getElem? hl1)
      replace hl1 := Lib.hid hl1
      clear hs hlen
      dsimp only at hcell hln ⊢
      by_cases hlong : xes.length < les.length
      · go_wp2_with fail
        go_round
        case rel =>
          refine ⟨k + 1, ⟨lA, lc, les⟩, by omega, by go_num, rfl, ⟨hok, hln⟩, ?_⟩
          unfold Hid longOf
          rw [take_snoc hl1.out, List.foldl_append]
          show _ = longer (longOf (ls.take k)) _
          rw [← hh.out]
          unfold longer
          rw [if_pos hlong]
        case measure => simp [intOf]; omega
      · go_wp2_with fail
        go_round
        case rel =>
          refine ⟨k + 1, ⟨xA, xc, xes⟩, by omega, by go_num, rfl, hx, ?_⟩
          unfold Hid longOf
          rw [take_snoc hl1.out, List.foldl_append]
          show _ = longer (longOf (ls.take k)) _
          rw [← hh.out]
          unfold longer
          rw [if_neg (by simp; omega)]
        case measure => simp [intOf]; omega
    · have hx2 : longOf ls = ⟨xA, xc, xes⟩ := by
        have := hh.out
        rw [List.take_of_length_le (by omega)] at this
        exact this.symm
      replace hx2 := Lib.hid hx2
      obtain ⟨⟨hxs, hxc, hxm⟩, hxl⟩ := hx
      dsimp only at hxs hxc hxm hxl ⊢
      go_wp2_with fail
      go_loopw [2, 23] (fun v i wr => ∃ (k : Nat), k ≤ ls.length ∧ i = .int .i64 k ∧ v = .slice xA xes.length xc ∧ G w wr ∧ Hid (allPre (ls.take k) xes = true)) (fun _ i _ => ls.length - (intOf i).toNat)
      case atStart => exact ⟨0, Nat.zero_le _, rfl, rfl, G.refl _, rfl⟩
      case round =>
        obtain ⟨k, hk, rfl, rfl, hg, hh⟩ := hrel
        by_cases hlt : k < ls.length
        · obtain ⟨⟨lA, lc, les⟩, hl1⟩ : ∃ l, ls[k]? = some l := ⟨_, List.getElem?_eq_getElem hlt⟩
          obtain ⟨b, o, rfl, hb, hcell, hok⟩ := hs.at_ hB hl1
          have hcell := hcell wr hg
          obtain ⟨hls, hlc, hlm⟩ := hok wr hg
          have hxs2 := hxs.g hB hg
          replace hl1 := Lib.hid hl1
          have hBr : B ≤ wr.heap.size := by have := hg.size; omega
          clear hs hlen
          dsimp only at hcell hls hlc hlm ⊢
          go_wp2_with fail
          refine (prefix_any les xes lA xA lc xc B wr hBr (by omega) hxc hxm hls hxs2).mono ?_
          rintro e w1 ⟨rfl, hg1⟩
          have hxs3 := hxs2.g hBr hg1
          replace hg1 := hg.trans hg1
          by_cases hp : prefB les xes = true
          · go_wp2_with fail
            go_roundw
            case rel =>
              refine ⟨k + 1, by omega, by go_num, rfl, hg1, ?_⟩
              unfold Hid
              rw [take_snoc hl1.out]
              simp only [allPre, List.all_append, List.all_cons, List.all_nil, Bool.and_true, hp]
              exact hh.out
            case measure => simp [intOf]; omega
          · have hp' : prefB les xes = false := by simpa using hp
            clear hp
            go_wp2_with fail
            refine (clone_any xes xA xc B w1 (by have := hg1.size; omega) (by omega) hxs3).mono ?_
            rintro e w2 ⟨v2, rfl, hown2, hg2⟩
            go_wp2_with fail
            go_ret2
            have hres : (allPre ls xes && sortedB xes) = false := by
              have : allPre ls xes = false := by
                unfold allPre
                rw [List.all_eq_false]
                exact ⟨_, List.mem_of_getElem? hl1.out, by simp [hp']⟩
              rw [this]; rfl
            refine ⟨v2, ?_, ?_, hg1.trans hg2⟩
            · rw [hx2.out, hres]; rfl
            · rw [hx2.out]; exact hown2.mono hg1.size
        · have hall : allPre ls xes = true := by
            have := hh.out
            rwa [List.take_of_length_le (by omega)] at this
          replace hall := Lib.hid hall
          have hBr : B ≤ wr.heap.size := by have := hg.size; omega
          have hxs2 := hxs.g hB hg
          go_wp2_with fail
          refine (clone_any xes xA xc B wr hBr (by omega) hxs2).mono ?_
          rintro e w2 ⟨v2, rfl, hown2, hg2⟩
          have hxs3 := hxs2.g hBr hg2
          go_wp2_with fail
          refine (heapSorted_any xes xA xc B w2 (by have := hg2.size; omega) (by omega) hxs3).mono ?_
          rintro e w3 ⟨rfl, hg3⟩
          go_wp2_with fail
          go_ret2
          refine ⟨v2, ?_, ?_, hg.trans (hg2.trans hg3)⟩
          · rw [hx2.out, hall.out, Bool.true_and]; rfl
          · rw [hx2.out]; exact (hown2.mono hg.size).g hg3
end Go.Proofs.Ytgoodlbkjciloaa

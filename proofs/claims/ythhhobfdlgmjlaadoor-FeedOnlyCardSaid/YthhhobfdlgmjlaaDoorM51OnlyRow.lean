/- Several texts in one: OnlyW, ReadStr. -/
import Derived.Test.YthhhobfdlgmjlaaDoorRefMatchQOnlyRow
import Derived.Test.YthhhobfdlgmjlaaDoorM25OnlyRow
import Derived.Test.YthhhobfdlgmjlaaDoorM50OnlyRow
import Derived.Test.YthhhobfdlgmjlaaDoorFeedBulkQOnlyRow
import Derived.Test.YthhhobfdlgmjlaaDoorM24OnlyRow
import Derived.BigQuiet
import Derived.Test.YthhhobfdlgmjlaaDoorM13OnlyRow
import Derived.Test.YthhhobfdlgmjlaaDoorRows
import Derived.ProofKit
import Derived.OpenShut
import Derived.PinnedBridge
import Derived.Lib.LaidU8T
import Derived.Lay
import Derived.SevenTiedAt
import Derived.LaidMore
/- penstocklaw20.FeedOnly: the walk. Condition: the decoder's tables lie as the library lays them. -/
namespace Go.Proofs.YthhhobfdlgmjlaaDoor
open Go.RowKit

theorem onlyL_at {p : ByteArray} {es : List Ev} {i : Nat} {x : Ev} (h : es[i]? = some x) (hm : matchB p x.stream = true) : (onlyL p es)[(onlyL p (es.take i)).length]? = some x := by
  obtain ⟨hi, rfl⟩ := List.getElem?_eq_some_iff.1 h
  have h1 : es = es.take i ++ (es[i] :: es.drop (i + 1)) := by rw [← List.drop_eq_getElem_cons hi, List.take_append_drop]
  have h2 : onlyL p es = onlyL p (es.take i) ++ onlyL p (es[i] :: es.drop (i + 1)) := by
    conv => lhs; rw [h1]
    unfold onlyL
    rw [List.filter_append]
  rw [h2, List.getElem?_append_right (Nat.le_refl _), Nat.sub_self]
  unfold onlyL
  rw [List.filter_cons, if_pos hm]
  rfl
theorem onlyL_twice (p : ByteArray) (es : List Ev) : onlyL p (onlyL p es) = onlyL p es := by unfold onlyL; rw [List.filter_filter]; simp
set_option maxRecDepth 100000 in
set_option maxHeartbeats 8000000 in
theorem onlyW_walk (es : List Ev) (A : Option Addr) (c : Nat) (p : ByteArray) (w : World) (hlc : es.length ≤ c) (hlm : c ≤ 9223372036854775807) (hs : Sl Ev.cells 7 w w.heap.size A es) (hx : EvsOk es) (_hp : p.size ≤ 9223372036854775807) (hT : Tabs w) :
    Calls Tryd.prog 4 #[.slice A es.length c, .string p] w fun e w' => e = .returned (.bool true) ∧ G w w' := by
  have hev := events_any 8000 es A c w.heap.size w (Nat.le_refl _) (by omega) hx hs
  replace hT := Lib.hid hT
  replace hev := Lib.hid hev
  go_enter Tryd.func4, Tryd.ntmps4
  go_wp2_with fail
  refine Calls.mono hev.out ?_
  rintro e w1 ⟨rfl, hg1⟩
  clear hev
  have hbulk : evBulk 8000 es ≤ 8000 → es.length ≤ 8000 ∧ ∀ x ∈ es, x.stream.size ≤ 8000 := fun h => by
    obtain ⟨h1, h2⟩ := evBulk_ge (by omega) h
    exact ⟨by omega, fun x hx => by have := h2 x hx; omega⟩
  generalize evBulk 8000 es = ob at *
  by_cases h1 : 8000 < ob
  · clear hbulk
    have hawk := awake20_any w1 (hT.out.g (hg1))
    replace hawk := Lib.hid hawk
    go_wp2_with fail
    refine Calls.mono hawk.out ?_
    rintro e w9 ⟨rfl, hg9⟩
    go_wp2_with fail
    go_ret
    exact ⟨rfl, (hg1).trans hg9⟩
  · obtain ⟨hl8, hs8⟩ := hbulk (by omega)
    clear hbulk
    replace hs8 := Lib.hid hs8
    by_cases h2 : 300 < p.size
    · have h3 : (300 : Int) < (p.size : Int) := by omega
      have hawk := awake20_any w1 (hT.out.g (hg1))
      replace hawk := Lib.hid hawk
      go_wp2_with fail
      refine Calls.mono hawk.out ?_
      rintro e w9 ⟨rfl, hg9⟩
      go_wp2_with fail
      go_ret
      exact ⟨rfl, (hg1).trans hg9⟩
    · have h3 : ¬ (300 : Int) < (p.size : Int) := by omega
      have hon := only_any es A c w.heap.size p w1 hg1.size (by omega) (hs.g (Nat.le_refl _) hg1) (by omega) (fun x hx => by have := hs8.out x hx; omega) (hT.out.g hg1)
      replace hon := Lib.hid hon
      go_wp2_with fail
      refine Calls.mono hon.out ?_
      rintro e w2 ⟨v, rfl, hown, hg2⟩
      clear hon
      obtain ⟨A2, c2, rfl, hc1, hc2, hsx⟩ := OwnL.sl Ev.cells_len hown
      clear hown
      have hgw2 := hg1.trans hg2
      have hat : ∀ (i : Nat) (x : Ev), es[i]? = some x → matchB p x.stream = true → (onlyL p es)[(onlyL p (es.take i)).length]? = some x := fun i x h h' => onlyL_at h h'
      have htw := onlyL_twice p es
      have hsn : ∀ (i : Nat) (x : Ev), es[i]? = some x → (onlyL p (es.take (i + 1))).length = (onlyL p (es.take i)).length + (if matchB p x.stream = true then 1 else 0) := fun i x h => by
        rw [onlyL_snoc h, List.length_append]
        split <;> rfl
      have hfl : (onlyL p (es.take es.length)).length = (onlyL p es).length := by rw [List.take_length]
      have hol := onlyL_len p es
      have hmem : ∀ x ∈ onlyL p es, x ∈ es := fun x hx => (List.mem_filter.1 hx).1
      obtain ⟨xs, hxs⟩ : ∃ xs, onlyL p es = xs := ⟨_, rfl⟩
      obtain ⟨F, hF⟩ : ∃ F : Nat → Nat, ∀ i, (onlyL p (es.take i)).length = F i := ⟨_, fun _ => rfl⟩
      rw [hxs] at hat htw hfl hol hmem hsx hc1
      rw [hxs]
      simp only [hF] at hat hsn hfl
      have hF0 : F 0 = 0 := by rw [← hF]; rfl
      replace hF := Lib.hid hF
      replace hxs := Lib.hid hxs
      replace hat := Lib.hid hat
      replace htw := Lib.hid htw
      replace hsn := Lib.hid hsn
      replace hmem := Lib.hid hmem
      replace hF0 := Lib.hid hF0
      replace hfl := Lib.hid hfl
      go_wp2_with fail
      go_loopw [6, 7] (fun v i wr => ∃ k : Nat, k ≤ es.length ∧ v = .int .i64 (F k : Int) ∧ i = .int .i64 k ∧ F k ≤ k ∧ Hid (G w2 wr)) (fun _ i _ => es.length - (intOf i).toNat)
      case atStart => exact ⟨0, Nat.zero_le _, by rw [hF0.out]; rfl, rfl, by rw [hF0.out]; exact Nat.le_refl _, G.refl _⟩
      case round =>
        obtain ⟨k, hk, rfl, rfl, hfk, hg⟩ := hrel
        by_cases hlt : k < es.length
        · obtain ⟨⟨s1, v1, d1, ⟨x1, y1, z1⟩, i1⟩, ha⟩ : ∃ a, es[k]? = some a := ⟨_, List.getElem?_eq_getElem hlt⟩
          have hgw := hgw2.trans hg.out
          obtain ⟨b1, o1, rfl, _, c0, c1, c2', c3, c4, c5, c6⟩ := (hs.g (Nat.le_refl _) hgw).evG hgw.size ha
          have hsz := hs8.out _ (List.mem_of_getElem? ha)
          have hcall := refMatch_any p s1 wr (by omega) (by dsimp only at hsz; omega)
          have hsn1 := hsn.out k _ ha
          have hat1 := hat.out k _ ha
          dsimp only at hsn1 hat1 hsz c0 c1 c2' c3 c4 c5 c6
          have r0 := c0 wr (G.refl _)
          have n1 : (0 : Int) ≤ (k : Int) := by omega
          have n2 : (k : Int) < (es.length : Int) := by omega
          replace hcall := Lib.hid hcall
          replace ha := Lib.hid ha
          replace c0 := Lib.hid c0
          replace c1 := Lib.hid c1
          replace c2' := Lib.hid c2'
          replace c3 := Lib.hid c3
          replace c4 := Lib.hid c4
          replace c5 := Lib.hid c5
          replace c6 := Lib.hid c6
          replace hgw := Lib.hid hgw
          cases hm : matchB p s1 with
          | false =>
            rw [hm] at hcall hsn1
            have hsn2 : F (k + 1) = F k := hsn1
            replace hsn1 := Lib.hid hsn1
            replace hsn2 := Lib.hid hsn2
            replace hat1 := Lib.hid hat1
            replace hm := Lib.hid hm
            go_wp2_with fail
            refine Calls.mono hcall.out ?_
            rintro e w3 ⟨rfl, hg3⟩
            clear hcall
            have hgx := hg.out.trans hg3
            replace hgx := Lib.hid hgx
            clear hg hg3
            go_wp2_with fail
            go_roundw
            case rel => exact ⟨k + 1, by omega, by rw [hsn2.out], by go_num, by rw [hsn2.out]; omega, hgx⟩
            case measure => (simp [intOf] <;> omega)
          | true =>
            rw [hm] at hcall hsn1
            have hsn2 : F (k + 1) = F k + 1 := hsn1
            have hb := hat1 hm
            have hFx : F k < xs.length := (List.getElem?_eq_some_iff.1 hb).1
            replace hsn1 := Lib.hid hsn1
            replace hsn2 := Lib.hid hsn2
            replace hat1 := Lib.hid hat1
            replace hm := Lib.hid hm
            go_wp2_with fail
            refine Calls.mono hcall.out ?_
            rintro e w3 ⟨rfl, hg3⟩
            clear hcall r0
            have hgx := hg.out.trans hg3
            obtain ⟨b2, o2, rfl, _, e0, e1, e2, e3, e4, e5, e6⟩ := (hsx.g (Nat.le_refl _) hgx).ev hb
            replace c0 := c0.out w3 hg3
            replace c1 := c1.out w3 hg3
            replace c2' := c2'.out w3 hg3
            replace c3 := c3.out w3 hg3
            replace c4 := c4.out w3 hg3
            replace c5 := c5.out w3 hg3
            replace c6 := c6.out w3 hg3
            dsimp only at e0 e1 e2 e3 e4 e5 e6
            have hnq := @ev_neq
            have t1 : decide ((xs.length : Int) ≤ (F k : Int)) = false := decide_eq_false (by omega)
            have m1 : (0 : Int) ≤ (F k : Int) := by omega
            have m2 : (F k : Int) < (xs.length : Int) := by omega
            have hes : evB ⟨s1, v1, d1, ⟨x1, y1, z1⟩, i1⟩ ⟨s1, v1, d1, ⟨x1, y1, z1⟩, i1⟩ = true := by simp [evB]
            replace hgx := Lib.hid hgx
            replace hb := Lib.hid hb
            clear hg hg3
            go_wp2_with fail
            go_quiet (fail)
            clear hnq
            go_wp2_with fail
            go_roundw
            case rel => exact ⟨k + 1, by omega, by rw [hsn2.out]; go_num, by go_num, by rw [hsn2.out]; omega, hgx.out.drewN _⟩
            case measure => (simp [intOf] <;> omega)
        · have hke : k = es.length := by omega
          have hfe : F k = xs.length := by rw [hke, hfl.out]
          have hfi : ((F k : Int) == (xs.length : Int)) = true := by rw [beq_iff_eq]; omega
          have n2 : ¬ (k : Int) < (es.length : Int) := by omega
          have hon : Hid (∀ w', G wr w' → Calls Tryd.prog 20 #[.slice A2 xs.length c2, .string p] w' (RetEvs w' xs)) := fun w' hg' => by
            have h := only_any xs A2 c2 w2.heap.size p w' (hg.out.trans hg').size (by omega) (hsx.g (Nat.le_refl _) (hg.out.trans hg')) (by omega) (fun x hx => by have := hs8.out x (hmem.out x hx); omega) (hT.out.g (hgw2.trans (hg.out.trans hg')))
            rwa [htw.out] at h
          have hon0 := hon.out wr (G.refl _)
          replace hon0 := Lib.hid hon0
          replace hfe := Lib.hid hfe
          replace hke := Lib.hid hke
          go_wp2_with fail
          refine Calls.mono hon0.out ?_
          rintro e w3 ⟨v3, rfl, hown3, hg3⟩
          obtain ⟨A3, c3, rfl, _, _, hs3⟩ := OwnL.sl Ev.cells_len hown3
          clear hown3 hon0
          have hg23 := hg.out.trans hg3
          have hse := sameEvents_any xs xs A3 A2 c3 c2 w3.heap.size w3 (Nat.le_refl _) (by omega) (by omega) hs3 ((hsx.g (Nat.le_refl _) hg23).more hg23.size)
          rw [show evsB xs xs = true from decide_eq_true rfl] at hse
          replace hse := Lib.hid hse
          go_wp2_with fail
          refine Calls.mono hse.out ?_
          rintro e w4 ⟨rfl, hg4⟩
          have hgw4 := hgw2.trans (hg23.trans hg4)
          clear hse
          have hawk := awake20_any w4 (hT.out.g (hgw4))
          replace hawk := Lib.hid hawk
          go_wp2_with fail
          refine Calls.mono hawk.out ?_
          rintro e w9 ⟨rfl, hg9⟩
          go_wp2_with fail
          go_ret
          exact ⟨rfl, (hgw4).trans hg9⟩
end Go.Proofs.YthhhobfdlgmjlaaDoor
/- How texts, numbers and bools read as the laws' arguments; what the listed tables give. No condition. -/
namespace Go.Proofs.YthhhobfdlgmjlaaDoor
open Go.RowKit Go.ChangeShapes Go.WideShapes Go.Lib

/-- An int of 64 bits. -/
def I64 (n : Int) : Prop := -9223372036854775808 ≤ n ∧ n ≤ 9223372036854775807
section
variable {H : Type} {enc : TypeId × Value → H} {w : World} {base b0 : Nat} {spare : Nat → Bool} {held : Bool} {fuel : Nat} {cs : List Value} {x : DataW H × List MemPlace} {r : Reach} {v : Value} {d : DataW H} {p : List MemPlace}
theorem i64_of_wf {n : Int} (h : (Lit.int .i64 n).wf = true) : I64 n := by
  have := bounds_i64 h
  exact ⟨by omega, by omega⟩
set_option maxRecDepth 100000 in
theorem in_int (hv : Value.okWide Tryd.prog w r b0 3 v) (h : DataW.Trod enc Tryd.prog w base spare held 3 v d p) : ∃ n, v = .int .i64 n ∧ I64 n := by
  obtain ⟨n, rfl⟩ := okWide_int Tryd.underlying3 hv
  obtain ⟨fuel, hf⟩ := h
  obtain ⟨n', e, _, hn⟩ := DataW.trod_int Tryd.underlying3 hf
  simp [Value.cells] at e
  subst e
  exact ⟨n, rfl, i64_of_wf hn⟩
set_option maxRecDepth 100000 in
theorem in_str (hv : Value.okWide Tryd.prog w r b0 9 v) (h : DataW.Trod enc Tryd.prog w base spare held 9 v d p) : ∃ s, v = .string s ∧ s.size ≤ 9223372036854775807 := by
  obtain ⟨s, rfl⟩ := okWide_string Tryd.underlying9 hv
  obtain ⟨fuel, hf⟩ := h
  obtain ⟨s', e, _, hn⟩ := DataW.trod_string Tryd.underlying9 hf
  simp [Value.cells] at e
  subst e
  exact ⟨s, rfl, by simpa [maxLen] using hn⟩
set_option maxRecDepth 100000 in
theorem in_bool (hv : Value.okWide Tryd.prog w r b0 4 v) (_h : DataW.Trod enc Tryd.prog w base spare held 4 v d p) : ∃ b, v = .bool b ∧ b = b := by
  obtain ⟨b, rfl⟩ := okWide_bool Tryd.underlying4 hv
  exact ⟨b, rfl, rfl⟩
end
theorem u8Extra : U8Extra Tryd.prog Tryd.lays196_ren := ⟨by kernel_rfl, by kernel_rfl, by kernel_rfl, by kernel_rfl, by kernel_rfl, by kernel_rfl, by kernel_rfl⟩
theorem accept_eq : (Rows.laid_unicode_utf8_acceptRanges : DataW Unit) = acceptData := by kernel_rfl
/-- Where the two tables are listed they lie so. -/
theorem tabs_of_laid {w : World} (h : laidMet Tryd.prog [("unicode/utf8.acceptRanges", Rows.laid_unicode_utf8_acceptRanges), ("unicode/utf8.first", Rows.laid_unicode_utf8_first)] w) : Tabs w :=
  utf8Tabs_of_readsT (U8Types.of196 Tryd.lays196) u8Extra (Pinned.utf8First_eq ▸ Lib.laidMet.reads h (.tail _ (.head _))) (accept_eq ▸ Lib.laidMet.reads h (.head _))
end Go.Proofs.YthhhobfdlgmjlaaDoor

/- runes.Unquote: what it answers. Conditions: a length of at most 2^30; the decoder's tables lie as the library lays them. -/
import Derived.Test.YtjielocmjfmadaaDoorEscaped
import Derived.Test.YtjielocmjfmadaaDoorRefQuote
namespace Go.Proofs.YtjielocmjfmadaaDoor
open Go.RowKit

/-- How long a text in a slot is. -/
def szOf : Value → Nat
  | .string s => s.size
  | _ => 0
theorem strOf_inj {a b : List UInt8} (h : strOf a = strOf b) : a = b := by rw [← strOf_list a, h, strOf_list]
theorem toList_ne {a b : ByteArray} (h : a ≠ b) : (a.toList == b.toList) = false := by
  rw [beq_eq_false_iff_ne, ByteArray.toList_eq, ByteArray.toList_eq]
  intro e
  exact h (by rw [← strOf_self a, e, strOf_self])
theorem strOf_cut (l : List UInt8) (n : Nat) : (strOf l).extract n (strOf l).size = strOf (l.drop n) := by
  rw [strOf_size]
  unfold strOf
  rw [ByteArray.extract_mk, List.take_of_length_le (by simp)]
/-- A text of two bytes or more: its first, its last, and what stands between. -/
theorem ends_of (s : ByteArray) (h : 2 ≤ s.size) : ∃ (a b : UInt8) (m : List UInt8), s.data.toList = a :: (m ++ [b]) ∧ m.length + 2 = s.size ∧ s.extract 1 (s.size - 1) = strOf m := by
  have hl : s.data.toList.length = s.size := by simp
  rcases hd : s.data.toList with _ | ⟨a, t⟩
  · rw [hd] at hl; simp at hl; omega
  · rw [hd, List.length_cons] at hl
    have hne : t ≠ [] := by rintro rfl; simp at hl; omega
    obtain ⟨m, b, rfl⟩ : ∃ m b, t = m ++ [b] := ⟨t.dropLast, t.getLast hne, (List.dropLast_concat_getLast hne).symm⟩
    rw [List.length_append, List.length_singleton] at hl
    refine ⟨a, b, m, rfl, by omega, ?_⟩
    apply ByteArray.ext
    apply Array.toList_inj.1
    rw [extract_list, hd, strOf_list, List.drop_succ_cons, List.drop_zero, show s.size - 1 - 1 = m.length by omega, List.take_left]
theorem last_byte (s : ByteArray) {a b : UInt8} {m : List UInt8} (h : s.data.toList = a :: (m ++ [b])) (h2 : m.length + 2 = s.size) : s.data.toList[s.size - 1]? = some b := by
  rw [h, ← h2, show m.length + 2 - 1 = m.length + 1 by omega, List.getElem?_cons_succ, List.getElem?_append_right (Nat.le_refl _), Nat.sub_self]
  rfl
theorem ret_unq {a b : ByteArray} {p q : Bool} (h : a = b) (h2 : p = q) : Ending.returned (.tuple #[.string a, .bool p]) = .returned (.tuple #[.string b, .bool q]) := by rw [h, h2]
set_option maxRecDepth 100000 in
set_option maxHeartbeats 2000000 in
theorem unquote_any (s : ByteArray) (T : List UInt8) (B : Bool) (w : World) (hs : s.size ≤ 1073741824) (hT : Tabs w) (hu : Unq s.data.toList T B) :
    Calls Tryd.prog 18 #[.string s] w fun e w' => e = .returned (.tuple #[.string (strOf T), .bool B]) ∧ G w w' := by
  replace hT := Lib.hid hT
  by_cases h2 : s.size < 2
  · obtain ⟨rfl, rfl⟩ := hu.short (.inl (by simpa using h2))
    have t1 : (s.size : Int) < 2 := by omega
    clear hu h2
    go_enter Tryd.func18, Tryd.ntmps18
    go_wp2_with fail
    go_ret2
    exact ⟨rfl, G.refl _⟩
  obtain ⟨a, b, m, hm, hml, hex⟩ := ends_of s (by omega)
  have i0 : ∀ w', (Instr.index 9 (.string s) (.int .i64 0)).run Tryd.prog w' = .ok (.int .u8 a.toNat) w' := fun w' => run_byte w' s 0 a (by rw [hm]; rfl)
  have i1 : ∀ w', (Instr.index 9 (.string s) (.int .i64 ((s.size : Int) - 1))).run Tryd.prog w' = .ok (.int .u8 b.toNat) w' := fun w' => by
    have := run_byte w' s _ b (last_byte s hm hml)
    rwa [show ((s.size - 1 : Nat) : Int) = (s.size : Int) - 1 by omega] at this
  have t2 : ¬ (s.size : Int) < 2 := by omega
  by_cases ha : a.toNat = 34
  · by_cases hb : b.toNat = 34
    · obtain rfl : a = 34 := UInt8.toNat_inj.1 ha
      obtain rfl : b = 34 := UInt8.toNat_inj.1 hb
      clear ha hb h2
      rw [hm] at hu
      have e34 : UInt8.toNat 34 = 34 := rfl
      rw [e34] at i0 i1
      clear e34
      replace hm := Lib.hid hm
      replace hml := Lib.hid hml
      replace hu := Lib.hid hu
      replace hex := Lib.hid hex
      go_enter Tryd.func18, Tryd.ntmps18
      go_wp2_with fail
      go_loopw [4, 5] (fun v t wr => ∃ (acc rest : List UInt8) (A8 : Option Addr) (n8 c8 : Nat), v = .slice A8 n8 c8 ∧ t = .string (strOf rest) ∧ Hid (OwnL 5 1 byteC wr w.heap.size (.slice A8 n8 c8) acc) ∧ Hid (Ahead escV m acc rest) ∧ acc.length + rest.length ≤ 1073741824 ∧ G w wr) (fun _ t _ => szOf t)
      case atStart =>
        refine ⟨[], m, none, 0, 0, rfl, ?_, OwnL.nil, Ahead.start _ _, ?_, G.refl _⟩
        · rw [← hex.out]
        · have := hml.out; simp; omega
      case round =>
        obtain ⟨acc, rest, A8, n8, c8, rfl, rfl, hown, hah, hln, hg⟩ := hrel
        rcases rest with _ | ⟨c, r⟩
        · have hun := hah.out.over
          obtain ⟨A2, c2, e2, _, _, hsl⟩ := OwnL.sl byteC_len hown.out
          cases e2
          have hcv := conv_back (c := c8) hsl
          have hq := quote_any (strOf acc) wr (by rw [strOf_size]; simp at hln; omega) (hT.out.g hg)
          rw [strOf_list] at hq
          have hS : (strOf []).toList.isEmpty = true := by rw [ByteArray.toList_eq, strOf_list]; rfl
          have hway := hu.out.of_some isEsc_V hun
          generalize hn : acc.length = n at *
          replace hn := Lib.hid hn
          clear hun hah hown hsl hln
          generalize strOf [] = S at *
          rcases hway with ⟨h1, rfl, rfl⟩ | ⟨h1, rfl, rfl⟩
          · have he : strOf (quoteL T) = s := by
              rw [h1, ← hm.out, strOf_self]
            rw [he] at hq
            replace he := Lib.hid he
            clear h1
            go_wp2_with fail
            refine hq.mono ?_
            clear hq hcv
            rintro e w2 ⟨rfl, hg2⟩
            go_wp2_with fail
            go_ret2
            exact ⟨rfl, hg.trans hg2⟩
          · have he : strOf (quoteL acc) ≠ s := by
              rw [← strOf_self s, hm.out]
              exact fun h => h1 (strOf_inj h)
            clear h1
            generalize strOf (quoteL acc) = Q at *
            have he2 : (Q.toList == s.toList) = false := toList_ne he
            have he3 : (Q.toList != s.toList) = true := by unfold bne; rw [he2]; rfl
            replace he := Lib.hid he
            go_wp2_with fail
            refine hq.mono ?_
            clear hq hcv
            rintro e w2 ⟨rfl, hg2⟩
            go_wp2_with fail
            go_ret2
            exact ⟨rfl, hg.trans hg2⟩
        · have hS : (strOf (c :: r)).toList.isEmpty = false := by rw [ByteArray.toList_eq, strOf_list]; rfl
          have j0 : ∀ w', (Instr.index 9 (.string (strOf (c :: r))) (.int .i64 0)).run Tryd.prog w' = .ok (.int .u8 c.toNat) w' := fun w' => run_byte w' _ 0 c (by rw [strOf_list]; rfl)
          have hsz : (strOf (c :: r)).size = r.length + 1 := by rw [strOf_size, List.length_cons]
          have hx1 : (strOf (c :: r)).extract 1 (strOf (c :: r)).size = strOf r := strOf_cut _ 1
          have hxk : ∀ k : Nat, (strOf (c :: r)).extract (1 + k) (strOf (c :: r)).size = strOf (r.drop k) := fun k => by rw [strOf_cut, Nat.add_comm, List.drop_succ_cons]
          rw [List.length_cons] at hln
          by_cases hc : c.toNat = 92
          · obtain rfl : c = 92 := UInt8.toNat_inj.1 hc
            have hes := escaped_any (strOf r) wr (by rw [strOf_size]; omega)
            rw [strOf_list, ← hx1] at hes
            rw [show (UInt8.toNat 92) = 92 from rfl] at j0
            clear hc
            generalize strOf (92 :: r) = S at *
            have n1 : (1 : Int) ≤ (S.size : Int) := by omega
            replace hx1 := Lib.hid hx1
            replace hxk := Lib.hid hxk
            cases hev : escV r with
            | none =>
              obtain ⟨rfl, rfl⟩ := hu.out.of_none isEsc_V (hah.out.no hev)
              rw [escT_none hev] at hes
              replace hev := Lib.hid hev
              replace hsz := Lib.hid hsz
              go_wp2_with fail
              refine hes.mono ?_
              clear hes
              rintro e w2 ⟨rfl, rfl⟩
              go_wp2_with fail
              go_ret2
              exact ⟨rfl, hg⟩
            | some xk =>
              obtain ⟨x, k⟩ := xk
              have hah2 := hah.out.esc hev
              have hkl := escV_len hev
              rw [escT_some hev] at hes
              replace hev := Lib.hid hev
              replace hah2 := Lib.hid hah2
              have hl2 : (acc ++ [x]).length + (r.drop k).length ≤ 1073741824 := by rw [List.length_append, List.length_singleton, List.length_drop]; omega
              have hl3 : (r.drop k).length < r.length + 1 := by rw [List.length_drop]; omega
              have hkk := hxk.out k
              have hown1 := hown.out
              have hb0 : ((k : Int) == 0) = false := by rw [beq_eq_false_iff_ne]; omega
              have hxl := x.toNat_lt
              clear hown hah
              have k1 : (1 : Int) + (k : Int) ≤ (S.size : Int) := by omega
              have k2 : (0 : Int) ≤ (k : Int) := by omega
              have k3 : (k : Int) ≤ 3 := by omega
              replace hkk := Lib.hid hkk
              replace hl2 := Lib.hid hl2
              replace hl3 := Lib.hid hl3
              have hal : acc.length ≤ 1073741824 := by omega
              replace hsz := Lib.hid hsz
              clear hln hkl
              go_wp2_with fail
              refine hes.mono ?_
              clear hes
              rintro e w2 ⟨rfl, rfl⟩
              go_wp2_with fail
              have hwr : IntKind.i64.wrap (1 + (k : Int)) = 1 + (k : Int) := IntWalk.i64_in _ (by omega)
              have htn : (1 + (k : Int)).toNat = 1 + k := by omega
              have hnn : (0 : Int) ≤ 1 + (k : Int) := by clear hwr htn; omega
              go_region_held3 (fun w' => G w w') (first | exact hg.drew | exact G.alloc (by assumption) _ | exact hkeep.g ((hg.alloc _).drew) | fail) (first | (refine step_append_but byte_elem _ rfl (.tmp 50) (.tmp 52) rfl w.heap.size (.slice A8 n8 c8) acc rfl (hown1.g (G.new wr _).drew) (wr.heap.size + 1) (some ⟨wr.heap.size, 0, none⟩) 1 [x] rfl (by intro h; cases h) (Sl.of_blk byteC_len _ (blk_new wr _ _) rfl (by omega)) (by clear hwr htn; simp; omega) (by clear hwr htn; simp; omega) (by clear hwr htn; have := hg.size; simp; omega) ?_; intro v' w2 hown2 hkeep hbut) | fail)
              all_goals
                clear hwr htn
                have hg2 : G w w2 := hkeep.g ((hg.alloc _).drew)
                obtain ⟨A2, c2, e2, _, _, _⟩ := OwnL.sl byteC_len hown2
                subst e2
                replace hown2 := Lib.hid hown2
                clear hkeep hbut
                go_wp2_with fail
                go_roundw
                case rel => exact ⟨acc ++ [x], r.drop k, A2, _, c2, rfl, by rw [← hkk.out], hown2, hah2, hl2.out, hg2⟩
                case measure =>
                  show (S.extract (1 + k) S.size).size < S.size
                  have e1 := congrArg ByteArray.size hkk.out
                  rw [strOf_size] at e1
                  have e2 := hsz.out
                  have e3 := hl3.out
                  omega
          · have hah2 := hah.out.plain (by rintro rfl; exact hc rfl)
            have hl2 : (acc ++ [c]).length + r.length ≤ 1073741824 := by rw [List.length_append, List.length_singleton]; omega
            have b1 : ((c.toNat : Int) != 92) = true := by rw [bne_iff_ne]; omega
            have hxl := c.toNat_lt
            have hal : acc.length ≤ 1073741824 := by omega
            have hown1 := hown.out
            clear hown hah hxk hln
            generalize strOf (c :: r) = S at *
            have n1 : (1 : Int) ≤ (S.size : Int) := by omega
            replace hah2 := Lib.hid hah2
            replace hx1 := Lib.hid hx1
            replace hl2 := Lib.hid hl2
            replace hsz := Lib.hid hsz
            replace hc := Lib.hid hc
            go_wp2_with fail
            go_region_held3 (fun w' => G w w') (first | exact hg.drew | exact G.alloc (by assumption) _ | exact hkeep.g ((hg.alloc _).drew) | fail) (first | (refine step_append_but byte_elem _ rfl (.tmp 35) (.tmp 38) rfl w.heap.size (.slice A8 n8 c8) acc rfl (hown1.g (G.new wr _).drew) (wr.heap.size + 1) (some ⟨wr.heap.size, 0, none⟩) 1 [c] rfl (by intro h; cases h) (Sl.of_blk byteC_len _ (blk_new wr _ _) rfl (by omega)) (by simp; omega) (by simp; omega) (by have := hg.size; simp; omega) ?_; intro v' w2 hown2 hkeep hbut) | fail)
            all_goals
              have hg2 : G w w2 := hkeep.g ((hg.alloc _).drew)
              obtain ⟨A2, c2, e2, _, _, _⟩ := OwnL.sl byteC_len hown2
              subst e2
              replace hown2 := Lib.hid hown2
              clear hkeep hbut
              go_wp2_with fail
              go_roundw
              case rel => exact ⟨acc ++ [c], r, A2, _, c2, rfl, by rw [← hx1.out], hown2, hah2, hl2.out, hg2⟩
              case measure =>
                show (S.extract 1 S.size).size < S.size
                have e1 := congrArg ByteArray.size hx1.out
                rw [strOf_size] at e1
                have e2 := hsz.out
                omega
    · obtain ⟨rfl, rfl⟩ := hu.short (.inr (.inr (by
        rw [hm, List.getLast?_cons]
        simp
        rintro rfl
        exact hb rfl)))
      have b1 : ((b.toNat : Int) != 34) = true := by rw [bne_iff_ne]; omega
      rw [ha] at i0
      clear hm hml hex hu hb h2 ha
      go_enter Tryd.func18, Tryd.ntmps18
      go_wp2_with fail
      go_ret2
      exact ⟨rfl, G.refl _⟩
  · obtain ⟨rfl, rfl⟩ := hu.short (.inr (.inl (by
      rw [hm]
      simp
      rintro rfl
      exact ha rfl)))
    have b1 : ((a.toNat : Int) != 34) = true := by rw [bne_iff_ne]; omega
    clear hm hml hex hu h2 ha i1
    go_enter Tryd.func18, Tryd.ntmps18
    go_wp2_with fail
    go_ret2
    exact ⟨rfl, G.refl _⟩
end Go.Proofs.YtjielocmjfmadaaDoor

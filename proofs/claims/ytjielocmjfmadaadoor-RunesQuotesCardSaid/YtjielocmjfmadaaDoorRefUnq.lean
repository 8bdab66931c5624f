/- penstockref1.Unquote: what it answers. Condition: a length of at most 2^30. -/
import Derived.Test.YtjielocmjfmadaaDoorUnq
namespace Go.Proofs.YtjielocmjfmadaaDoor
open Go.RowKit

theorem escR_n (l : List UInt8) : escR (110 :: l) = some (10, 1) := rfl
theorem escR_d {c : UInt8} (h1 : c.toNat ≠ 110) (h2 : c.toNat ≠ 120) (l : List UInt8) : escR (c :: l) = some (c, 1) := by
  have n1 : c ≠ 110 := by rintro rfl; exact h1 rfl
  have n2 : c ≠ 120 := by rintro rfl; exact h2 rfl
  simp only [escR, n1, n2, if_false]
theorem escR_x0 (l : List UInt8) (h : l.length < 2) : escR (120 :: l) = none := by
  rcases l with _ | ⟨a, _ | ⟨b, l⟩⟩
  · rfl
  · rfl
  · simp at h; omega
theorem escR_x {a b : UInt8} (l : List UInt8) : escR (120 :: a :: b :: l) = (match digV a, digV b with
        | some x, some y => some (UInt8.ofNat (x * 16 + y), 3)
        | _, _ => none) := rfl
theorem drop_at {m : List UInt8} {p : Nat} (h : p < m.length) : ∃ c, m[p]? = some c ∧ m.drop p = c :: m.drop (p + 1) := ⟨m[p], List.getElem?_eq_getElem h, List.drop_eq_getElem_cons h⟩
set_option maxRecDepth 100000 in
set_option maxHeartbeats 4000000 in
theorem refUnquote_any (s : ByteArray) (T : List UInt8) (B : Bool) (w : World) (hs : s.size ≤ 1073741824) (hu : Unq s.data.toList T B) (hsm : s.size ≤ 1000000) :
    Calls Tryd.prog 19 #[.string s] w fun e w' => e = .returned (.tuple #[.string (strOf T), .bool B]) ∧ G w w' := by
  by_cases h2 : s.size < 2
  · obtain ⟨rfl, rfl⟩ := hu.short (.inl (by simpa using h2))
    have t1 : (s.size : Int) < 2 := by omega
    clear hu h2
    go_enter Tryd.func19, Tryd.ntmps19
    go_wp2_with fail
    go_ret2
    exact ⟨rfl, G.refl _⟩
  obtain ⟨a, b, m, hm, hml, hex⟩ := ends_of s (by omega)
  have i0 : ∀ w', (Instr.index 9 (.string s) (.int .i64 0)).run Tryd.prog w' = .ok (.int .u8 a.toNat) w' := fun w' => run_byte w' s 0 a (by rw [hm]; rfl)
  have i1 : ∀ w', (Instr.index 9 (.string s) (.int .i64 ((s.size : Int) - 1))).run Tryd.prog w' = .ok (.int .u8 b.toNat) w' := fun w' => by
    have := run_byte w' s _ b (last_byte s hm hml)
    rwa [show ((s.size - 1 : Nat) : Int) = (s.size : Int) - 1 by omega] at this
  have t2 : ¬ (s.size : Int) < 2 := by omega
  by_cases ha : a.toNat = 34
  · by_cases hb : b.toNat = 34
    · obtain rfl : a = 34 := UInt8.toNat_inj.1 ha
      obtain rfl : b = 34 := UInt8.toNat_inj.1 hb
      clear ha hb h2
      rw [hm] at hu
      have e34 : UInt8.toNat 34 = 34 := rfl
      rw [e34] at i0 i1
      clear e34
      have hmz : (s.extract 1 (s.size - 1)).size = m.length := by rw [hex, strOf_size]
      have hix : ∀ (p : Nat) (c : UInt8), m[p]? = some c → ∀ w', (Instr.index 9 (.string (s.extract 1 (s.size - 1))) (.int .i64 p)).run Tryd.prog w' = .ok (.int .u8 c.toNat) w' := fun p c h w' => run_byte w' _ p c (by rw [hex, strOf_list]; exact h)
      replace hix := Lib.hid hix
      replace hm := Lib.hid hm
      replace hml := Lib.hid hml
      replace hu := Lib.hid hu
      replace hex := Lib.hid hex
      replace hmz := Lib.hid hmz
      go_enter Tryd.func19, Tryd.ntmps19
      go_wp2_with fail
      go_loopw [5, 6] (fun v i wr => ∃ (acc : List UInt8) (p : Nat) (A8 : Option Addr) (n8 c8 : Nat), v = .slice A8 n8 c8 ∧ i = .int .i64 p ∧ p ≤ m.length ∧ Hid (OwnL 5 1 byteC wr w.heap.size (.slice A8 n8 c8) acc) ∧ Hid (Ahead escR m acc (m.drop p)) ∧ acc.length ≤ p ∧ G w wr) (fun _ i _ => m.length - (Go.RowKit.intOf i).toNat)
      case atStart => exact ⟨[], 0, none, 0, 0, rfl, rfl, Nat.zero_le _, OwnL.nil, Ahead.start _ _, Nat.le_refl _, G.refl _⟩
      case round =>
        obtain ⟨acc, p, A8, n8, c8, rfl, rfl, hpm, hown, hah, hln, hg⟩ := hrel
        have hmq := hml.out
        have hms : m.length ≤ 1000000 := by omega
        clear hmq
        have hmz2 := hmz.out
        generalize s.extract 1 (s.size - 1) = S at *
        by_cases hlt : p < m.length
        · obtain ⟨c, hc, hdr⟩ := drop_at hlt
          have j0 := hix.out p c hc
          have hah1 := hah.out
          rw [hdr] at hah1
          have hown1 := hown.out
          have hxl := c.toNat_lt
          have t3 : (p : Int) < (m.length : Int) := by omega
          clear hah hown hdr hc hlt
          by_cases h92 : c.toNat = 92
          · obtain rfl : c = 92 := UInt8.toNat_inj.1 h92
            rw [show (UInt8.toNat 92) = 92 from rfl] at j0
            clear hxl h92
            by_cases hend : p + 1 = m.length
            · rw [hend, List.drop_length] at hah1
              obtain ⟨rfl, rfl⟩ := hu.out.of_none isEsc_R (hah1.no rfl)
              have t4 : ((p : Int) + 1 == (m.length : Int)) = true := by rw [beq_iff_eq]; omega
              replace hend := Lib.hid hend
              clear hah1 hown1
              go_wp2_with fail
              go_ret2
              exact ⟨rfl, hg⟩
            have t4 : ((p : Int) + 1 == (m.length : Int)) = false := by rw [beq_eq_false_iff_ne]; omega
            have hlt1 : p + 1 < m.length := by omega
            obtain ⟨d, hd, hdr⟩ := drop_at hlt1
            rw [hdr] at hah1
            have j1 : ∀ w', (Instr.index 9 (.string S) (.int .i64 ((p : Int) + 1))).run Tryd.prog w' = .ok (.int .u8 d.toNat) w' := hix.out (p + 1) d hd
            have hxl := d.toNat_lt
            clear hend hd hdr
            by_cases h110 : d.toNat = 110
            · obtain rfl : d = 110 := UInt8.toNat_inj.1 h110
              have hah2 := hah1.esc (escR_n _)
              rw [List.drop_succ_cons, List.drop_zero] at hah2
              rw [show (UInt8.toNat 110) = 110 from rfl] at j1
              have hl2 : Hid ((acc ++ [10]).length ≤ p + 2) := by show _ ≤ _; rw [List.length_append, List.length_singleton]; omega
              replace hah2 := Lib.hid hah2
              clear hxl h110 hah1
              go_wp2_with (at_builtin; refine wpList_append_but byte_elem _ rfl (.tmp 61) (.tmp 62) rfl w.heap.size _ acc rfl (hown1.g (G.new _ _)) (wr.heap.size + 1) (some ⟨wr.heap.size, 0, none⟩) 1 [10] rfl (by intro h; cases h) (Sl.of_blk byteC_len _ (blk_new _ _ _) rfl (by omega)) (by simp; omega) (by simp; omega) (by have := hg.size; simp; omega) ?_; intro v' w2 hown2 hkeep hbut)
              obtain ⟨A2, c2, e2, _, _, _⟩ := OwnL.sl byteC_len hown2
              subst e2
              replace hown2 := Lib.hid hown2
              have hg2 : G w w2 := hkeep.g (hg.alloc _)
              clear hkeep hbut
              go_wp2_with fail
              go_roundw
              case rel => exact ⟨acc ++ [10], p + 2, A2, _, c2, rfl, by go_num, by omega, hown2, hah2, hl2.out, hg2⟩
              case measure => (simp [Go.RowKit.intOf] <;> omega)
            · by_cases h120 : d.toNat = 120
              · obtain rfl : d = 120 := UInt8.toNat_inj.1 h120
                rw [show (UInt8.toNat 120) = 120 from rfl] at j1
                clear hxl h110 h120
                by_cases h3 : m.length < p + 4
                · have hno : escR (120 :: m.drop (p + 1 + 1)) = none := escR_x0 _ (by rw [List.length_drop]; omega)
                  obtain ⟨rfl, rfl⟩ := hu.out.of_none isEsc_R (hah1.no hno)
                  have t5 : (m.length : Int) - ((p : Int) + 1) < 3 := by omega
                  clear hah1 hown1 hno
                  go_wp2_with fail
                  go_ret2
                  exact ⟨rfl, hg⟩
                obtain ⟨a, ha, hdr⟩ := drop_at (m := m) (p := p + 1 + 1) (by omega)
                rw [hdr] at hah1
                obtain ⟨b, hb, hdr2⟩ := drop_at (m := m) (p := p + 1 + 1 + 1) (by omega)
                rw [hdr2] at hah1
                have j2 : ∀ w', (Instr.index 9 (.string S) (.int .i64 ((p : Int) + 1 + 1))).run Tryd.prog w' = .ok (.int .u8 a.toNat) w' := hix.out (p + 1 + 1) a ha
                have j3 : ∀ w', (Instr.index 9 (.string S) (.int .i64 ((p : Int) + 1 + 2))).run Tryd.prog w' = .ok (.int .u8 b.toNat) w' := hix.out (p + 1 + 1 + 1) b hb
                have da : ∀ w', _ := fun w' => refDigit_any a w'
                have db : ∀ w', _ := fun w' => refDigit_any b w'
                have t5 : ¬ (m.length : Int) - ((p : Int) + 1) < 3 := by omega
                clear ha hb hdr hdr2 h3
                have hx := escR_x (a := a) (b := b) (m.drop (p + 1 + 1 + 1 + 1))
                cases hda : digV a with
                | none =>
                  rw [hda] at hx da
                  obtain ⟨rfl, rfl⟩ := hu.out.of_none isEsc_R (hah1.no hx)
                  replace hda := Lib.hid hda
                  replace da := Lib.hid da
                  clear hah1 hown1 hx db
                  unfold digI at da
                  go_wp2_with fail
                  refine (da.out _).mono ?_
                  rintro e w1 ⟨rfl, rfl⟩
                  go_wp2_with fail
                  go_ret2
                  exact ⟨rfl, hg⟩
                | some x =>
                  have hx16 := digV_lt hda
                  rw [hda] at hx da
                  replace hda := Lib.hid hda
                  replace da := Lib.hid da
                  unfold digI at da
                  cases hdb : digV b with
                  | none =>
                    rw [hdb] at hx db
                    obtain ⟨rfl, rfl⟩ := hu.out.of_none isEsc_R (hah1.no hx)
                    replace hdb := Lib.hid hdb
                    replace db := Lib.hid db
                    clear hah1 hown1 hx
                    unfold digI at db
                    go_wp2_with fail
                    refine (da.out _).mono ?_
                    rintro e w1 ⟨rfl, rfl⟩
                    go_wp2_with fail
                    refine (db.out _).mono ?_
                    rintro e w1 ⟨rfl, rfl⟩
                    go_wp2_with fail
                    go_ret2
                    exact ⟨rfl, hg⟩
                  | some y =>
                    have hy16 := digV_lt hdb
                    rw [hdb] at hx db
                    have hah2 := hah1.esc hx
                    replace hdb := Lib.hid hdb
                    replace db := Lib.hid db
                    unfold digI at db
                    rw [show (120 :: a :: b :: m.drop (p + 1 + 1 + 1 + 1)).drop 3 = m.drop (p + 4) from rfl] at hah2
                    have hbt : ((UInt8.ofNat (x * 16 + y)).toNat : Nat) = x * 16 + y := by rw [UInt8.toNat_ofNat']; omega
                    generalize UInt8.ofNat (x * 16 + y) = z at *
                    have hl2 : Hid ((acc ++ [z]).length ≤ p + 4) := by show _ ≤ _; rw [List.length_append, List.length_singleton]; omega
                    replace hah2 := Lib.hid hah2
                    replace hbt := Lib.hid hbt
                    clear hah1 hx
                    go_wp2_with fail
                    refine (da.out _).mono ?_
                    rintro e w1 ⟨rfl, rfl⟩
                    go_wp2_with fail
                    refine (db.out _).mono ?_
                    rintro e w1 ⟨rfl, rfl⟩
                    go_wp2_with fail
                    have q1 : IntKind.i64.wrap ((p : Int) + 1 + 1) = (p : Int) + 1 + 1 := IntWalk.i64_in _ (by omega)
                    have q2 : IntKind.i64.wrap ((p : Int) + 1 + 2) = (p : Int) + 1 + 2 := IntWalk.i64_in _ (by omega)
                    have q3 : IntKind.i64.wrap ((x : Int) * 16) = (x : Int) * 16 := IntWalk.i64_in _ (by omega)
                    have q4 : IntKind.i64.wrap ((x : Int) * 16 + (y : Int)) = (x : Int) * 16 + (y : Int) := IntWalk.i64_in _ (by omega)
                    have q5 : IntKind.u8.wrap ((x : Int) * 16 + (y : Int)) = (z.toNat : Int) := by
                      rw [hbt.out]
                      unfold IntKind.wrap
                      simp [IntKind.signed, IntKind.bits]
                      omega
                    go_region_held3 (fun w' => G w w') (first | exact hg.drew | exact G.alloc (by assumption) _ | exact hkeep.g ((hg.alloc _).drew) | fail) (first
                      | (go_at_call 34; first | ((with_reducible refine (da.out _).mono ?_); rintro e wm ⟨rfl, rfl⟩) | ((with_reducible refine (db.out _).mono ?_); rintro e wm ⟨rfl, rfl⟩))
                      | (refine step_append_but byte_elem _ rfl (.tmp 87) (.tmp 101) rfl w.heap.size (.slice A8 n8 c8) acc rfl (hown1.g (G.new wr _).drew) (wr.heap.size + 1) (some ⟨wr.heap.size, 0, none⟩) 1 [z] rfl (by intro h; cases h) (Sl.of_blk byteC_len _ (blk_new wr _ _) rfl (by omega)) (by clear q1 q2 q3 q4 q5; simp; omega) (by clear q1 q2 q3 q4 q5; simp; omega) (by clear q1 q2 q3 q4 q5; have := hg.size; simp; omega) ?_; intro v' w2 hown2 hkeep hbut) | fail)
                    all_goals
                      clear q1 q2 q3 q4 q5
                      obtain ⟨A2, c2, e2, _, _, _⟩ := OwnL.sl byteC_len hown2
                      subst e2
                      replace hown2 := Lib.hid hown2
                      have hg2 : G w w2 := hkeep.g (((hg.alloc _).drew))
                      clear hkeep hbut
                      go_wp2_with fail
                      go_roundw
                      case rel => exact ⟨acc ++ [z], p + 4, A2, _, c2, rfl, by go_num, by omega, hown2, hah2, hl2.out, hg2⟩
                      case measure => (simp [Go.RowKit.intOf] <;> omega)
              · have hah2 := hah1.esc (escR_d h110 h120 _)
                rw [List.drop_succ_cons, List.drop_zero] at hah2
                have b1 : ((d.toNat : Int) == 110) = false := by rw [beq_eq_false_iff_ne]; omega
                have b2 : ((d.toNat : Int) == 120) = false := by rw [beq_eq_false_iff_ne]; omega
                have hl2 : Hid ((acc ++ [d]).length ≤ p + 2) := by show _ ≤ _; rw [List.length_append, List.length_singleton]; omega
                replace hah2 := Lib.hid hah2
                replace h110 := Lib.hid h110
                replace h120 := Lib.hid h120
                clear hah1
                go_wp2_with (at_builtin; refine wpList_append_but byte_elem _ rfl (.tmp 53) (.tmp 57) rfl w.heap.size _ acc rfl (hown1.g (G.new _ _)) (wr.heap.size + 1) (some ⟨wr.heap.size, 0, none⟩) 1 [d] rfl (by intro h; cases h) (Sl.of_blk byteC_len _ (blk_new _ _ _) rfl (by omega)) (by simp; omega) (by simp; omega) (by have := hg.size; simp; omega) ?_; intro v' w2 hown2 hkeep hbut)
                obtain ⟨A2, c2, e2, _, _, _⟩ := OwnL.sl byteC_len hown2
                subst e2
                replace hown2 := Lib.hid hown2
                have hg2 : G w w2 := hkeep.g (hg.alloc _)
                clear hkeep hbut
                go_wp2_with fail
                go_roundw
                case rel => exact ⟨acc ++ [d], p + 2, A2, _, c2, rfl, by go_num, by omega, hown2, hah2, hl2.out, hg2⟩
                case measure => (simp [Go.RowKit.intOf] <;> omega)
          · have hah2 := hah1.plain (by rintro rfl; exact h92 rfl)
            have b1 : ((c.toNat : Int) != 92) = true := by rw [bne_iff_ne]; omega
            have hl2 : Hid ((acc ++ [c]).length ≤ p + 1) := by show _ ≤ _; rw [List.length_append, List.length_singleton]; omega
            replace hah2 := Lib.hid hah2
            replace h92 := Lib.hid h92
            clear hah1
            go_wp2_with (at_builtin; refine wpList_append_but byte_elem _ rfl (.tmp 38) (.tmp 42) rfl w.heap.size _ acc rfl (hown1.g (G.new _ _)) (wr.heap.size + 1) (some ⟨wr.heap.size, 0, none⟩) 1 [c] rfl (by intro h; cases h) (Sl.of_blk byteC_len _ (blk_new _ _ _) rfl (by omega)) (by simp; omega) (by simp; omega) (by have := hg.size; simp; omega) ?_; intro v' w2 hown2 hkeep hbut)
            obtain ⟨A2, c2, e2, _, _, _⟩ := OwnL.sl byteC_len hown2
            subst e2
            replace hown2 := Lib.hid hown2
            have hg2 : G w w2 := hkeep.g (hg.alloc _)
            clear hkeep hbut
            go_wp2_with fail
            go_roundw
            case rel => exact ⟨acc ++ [c], p + 1, A2, _, c2, rfl, by go_num, by omega, hown2, hah2, hl2.out, hg2⟩
            case measure => (simp [Go.RowKit.intOf] <;> omega)
        · obtain rfl : p = m.length := by omega
          have hah1 := hah.out
          rw [List.drop_length] at hah1
          have hun := hah1.over
          obtain ⟨A2, c2, e2, _, _, hsl⟩ := OwnL.sl byteC_len hown.out
          cases e2
          have hcv := conv_back (c := c8) hsl
          have hcv2 : ∀ w', G wr w' → (convert 39 9 (.slice A8 acc.length c8)).run Tryd.prog w' = .ok (.string (strOf acc)) w' := fun w' h => conv_back (c := c8) (hsl.g (Nat.le_refl _) h)
          have hq := refQuote_any (strOf acc) wr (by rw [strOf_size]; omega)
          rw [strOf_list] at hq
          have hway := hu.out.of_some isEsc_R hun
          generalize hn : acc.length = n at *
          replace hn := Lib.hid hn
          clear hun hah1 hah hown hsl hln hlt
          replace hcv2 := Lib.hid hcv2
          rcases hway with ⟨h1, rfl, rfl⟩ | ⟨h1, rfl, rfl⟩
          · have he : strOf (quoteL T) = s := by
              rw [h1, ← hm.out, strOf_self]
            rw [he] at hq
            replace he := Lib.hid he
            clear h1
            go_wp2_with fail
            refine hq.mono ?_
            clear hq hcv
            rintro e w2 ⟨rfl, hg2⟩
            have hcv3 := hcv2.out w2 hg2
            go_wp2_with fail
            go_ret2
            exact ⟨rfl, hg.trans hg2⟩
          · have he : strOf (quoteL acc) ≠ s := by
              rw [← strOf_self s, hm.out]
              exact fun h => h1 (strOf_inj h)
            clear h1
            generalize strOf (quoteL acc) = Q at *
            have he2 : (Q.toList == s.toList) = false := toList_ne he
            have he3 : (Q.toList != s.toList) = true := by unfold bne; rw [he2]; rfl
            replace he := Lib.hid he
            go_wp2_with fail
            refine hq.mono ?_
            clear hq hcv
            rintro e w2 ⟨rfl, hg2⟩
            go_wp2_with fail
            go_ret2
            exact ⟨rfl, hg.trans hg2⟩
    · obtain ⟨rfl, rfl⟩ := hu.short (.inr (.inr (by
        rw [hm, List.getLast?_cons]
        simp
        rintro rfl
        exact hb rfl)))
      have b1 : ((b.toNat : Int) != 34) = true := by rw [bne_iff_ne]; omega
      rw [ha] at i0
      clear hm hml hex hu hb h2 ha
      go_enter Tryd.func19, Tryd.ntmps19
      go_wp2_with fail
      go_ret2
      exact ⟨rfl, G.refl _⟩
  · obtain ⟨rfl, rfl⟩ := hu.short (.inr (.inl (by
      rw [hm]
      simp
      rintro rfl
      exact ha rfl)))
    have b1 : ((a.toNat : Int) != 34) = true := by rw [bne_iff_ne]; omega
    clear hm hml hex hu h2 ha i1
    go_enter Tryd.func19, Tryd.ntmps19
    go_wp2_with fail
    go_ret2
    exact ⟨rfl, G.refl _⟩
end Go.Proofs.YtjielocmjfmadaaDoor

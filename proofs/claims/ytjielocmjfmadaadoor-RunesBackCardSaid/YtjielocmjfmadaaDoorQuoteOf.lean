/- runes.Quote: what it answers. Conditions: a length of at most 2^32; the decoder's tables lie as the library lays them. -/
import Derived.Test.YtjielocmjfmadaaDoorQuote
namespace Go.Proofs.YtjielocmjfmadaaDoor
open Go.RowKit Go.Lib

/-- A hex digit. -/
def hexC (n : Nat) : UInt8 := if n < 10 then UInt8.ofNat (48 + n) else UInt8.ofNat (87 + n)
/-- Is a piece written as a byte's number? -/
def Ck.esc (c : Ck) : Bool := ctl c.r || c.bad
/-- A piece's first byte. -/
def Ck.b0 (c : Ck) : Nat := (c.bs.getD 0 0).toNat
/-- How a piece is quoted. -/
def qPiece (c : Ck) : List UInt8 :=
  if c.r = 34 then [92, 34] else if c.r = 92 then [92, 92] else if c.r = 10 then [92, 110] else if c.esc = true then [92, 120, hexC (c.b0 / 16), hexC (c.b0 % 16)] else c.bs
def quoteL (l : List UInt8) : List UInt8 := 34 :: ((cks l).flatMap qPiece ++ [34])
theorem qPiece_le {c : Ck} (h : c.ok) : (qPiece c).length ≤ 4 := by
  unfold qPiece
  repeat' split
  all_goals first | simp | exact h.len.2
theorem qPieces_le {cs : List Ck} (h : ∀ c ∈ cs, c.ok) : (cs.flatMap qPiece).length ≤ 4 * cs.length := by
  induction cs with
  | nil => simp
  | cons c cs ih =>
    have h1 := qPiece_le (h c (by simp))
    have h2 := ih fun x hx => h x (by simp [hx])
    rw [List.flatMap_cons, List.length_append, List.length_cons]
    omega
theorem quoteL_le (l : List UInt8) : (quoteL l).length ≤ 4 * l.length + 2 := by
  have h1 := qPieces_le (cks_ok l)
  have h2 := cks_length_le l
  unfold quoteL
  rw [List.length_cons, List.length_append, List.length_singleton]
  omega
theorem piece_byte {l : List UInt8} {k : Nat} {c : Ck} (h : (cks l)[k]? = some c) : l[off l k]? = some (c.bs.getD 0 0) := by
  have h1 := off_drop l k
  have hk : k < (cks l).length := (List.getElem?_eq_some_iff.1 h).1
  have hok := (cks_ok l c (List.mem_of_getElem? h)).len
  rw [List.drop_eq_getElem_cons hk] at h1
  have h2 : (cks l)[k] = c := by
    have := List.getElem?_eq_getElem hk
    rw [h] at this
    exact (Option.some.inj this).symm
  rw [h2, flat_cons] at h1
  have h3 := congrArg (·[0]?) h1
  simp only [List.getElem?_drop, Nat.add_zero] at h3
  rw [h3, List.getElem?_append_left (by omega), List.getD_eq_getElem?_getD]
  rw [List.getElem?_eq_getElem (by omega)]
  rfl
/-- The hex digits as the program has them. -/
abbrev hexes : ByteArray := ⟨#[48, 49, 50, 51, 52, 53, 54, 55, 56, 57, 97, 98, 99, 100, 101, 102]⟩
theorem hexes_at : ∀ (n : Fin 16) (h : n.val < hexes.size), hexes[n.val]'h = hexC n.val := by decide
set_option maxRecDepth 100000 in
theorem and15 : ∀ X : Fin 256, bits .and .u8 ((X.val : Nat) : Int) 15 = ((X.val % 16 : Nat) : Int) := by decide
theorem run_hexes (w : World) (n : Nat) (h : n < 16) : (Instr.index 9 (.string hexes) (.int .u8 n)).run Tryd.prog w = .ok (.int .u8 (hexC n).toNat) w := by
  have h2 : n < hexes.size := h
  rw [run_index_string _ _ _ _ _ Tryd.underlying9, dif_pos (by constructor <;> omega)]
  have e : hexes[(n : Int).toNat]'(by simpa using h2) = hexC n := hexes_at ⟨n, h⟩ h2
  rw [e]
theorem run_byte (w : World) (s : ByteArray) (p : Nat) (b : UInt8) (h : s.data.toList[p]? = some b) : (Instr.index 9 (.string s) (.int .i64 p)).run Tryd.prog w = .ok (.int .u8 b.toNat) w := by
  obtain ⟨h1, h2⟩ := List.getElem?_eq_some_iff.1 h
  have h3 : p < s.size := by simpa using h1
  rw [run_index_string _ _ _ _ _ Tryd.underlying9, dif_pos (by constructor <;> omega)]
  rw [← h2]
  rfl
theorem byteCells_flat (l : List UInt8) : byteCells l = l.flatMap byteC := by
  unfold byteCells
  induction l with
  | nil => rfl
  | cons x l ih => simp [byteC, ih]
set_option maxHeartbeats 2000000 in
theorem quote_any (s : ByteArray) (w : World) (hs : s.size ≤ 4294967296) (hT : Tabs w) :
    Calls Tryd.prog 20 #[.string s] w fun e w' => e = .returned (.string (strOf (quoteL s.data.toList))) ∧ G w w' := by
  have hl : (cks s.data.toList).length ≤ 4294967296 := Nat.le_trans (cks_length_le _) (by simpa using hs)
  replace hT := Lib.hid hT
  go_enter Tryd.func20, Tryd.ntmps20
  go_wp2_with fail
  go_loopw [3] (fun v wr => ∃ (k : Nat) (A8 : Option Addr) (n8 c8 : Nat), v = .slice A8 n8 c8 ∧ k ≤ (cks s.data.toList).length ∧ Hid (IterAt wr (w.heap.size + 1) s k) ∧ Hid (OwnL 5 1 byteC wr w.heap.size (.slice A8 n8 c8) (34 :: ((cks s.data.toList).take k).flatMap qPiece)) ∧ G w wr) (fun _ wr => s.size - wr.iterPos (w.heap.size + 1))
  case atStart =>
    refine ⟨0, _, _, _, rfl, Nat.zero_le _, ?_, ?_, (G.new _ _).trans (G.iter _ _ _)⟩
    · have := IterAt.start (w.alloc (.cells #[.int .u8 34] 5)) s
      simpa [Hid] using this
    · exact (OwnL.made byteC_len [34] ((G.iter _ _ _).blk (blk_new _ _ _)) rfl (Nat.le_refl _) (by simp) : OwnL _ _ _ ((w.alloc (.cells #[.int .u8 34] 5)).iter s 0) _ _ _)
  case round =>
    obtain ⟨k, A8, n8, c8, rfl, hk, hit, hown, hg⟩ := hrel
    have hsep : ∀ j, (Value.slice A8 n8 c8).ownBlock = some j → j ≠ w.heap.size + 1 := by
      rintro j hj rfl
      obtain ⟨_, _, cs, h1⟩ := hown.out.blk hj
      have h2 : wr.heap[w.heap.size + 1]? = some (.stringIter s _) := hit.out
      rw [h2] at h1
      cases h1
    by_cases hlt : k < (cks s.data.toList).length
    · obtain ⟨c, hc⟩ := piece_at hlt
      have hok := cks_ok _ c (List.mem_of_getElem? hc)
      have hpos := hit.out.pos
      have hless := off_less hc
      have hp3 := (decode_off hc).2.2
      have hby := piece_byte hc
      have htk := take_snoc' hc
      have hwr : ∀ w', G w w' → _ := fun w' h => wrong_any s k c w' (by omega) (hT.out.g h) hc
      obtain ⟨w1, hnx, hit1, hbt, hsz1⟩ := run_next_piece (P := Tryd.prog) hit.out hc
      clear hsz1
      have hg1 := hg.next hbt (by omega)
      have hown1 := hown.out.but' hbt hsep
      have hle := qPieces_le (cs := (cks s.data.toList).take k) fun x hx => cks_ok _ x (List.mem_of_mem_take hx)
      have hle2 : (((cks s.data.toList).take k).flatMap qPiece).length ≤ 17179869184 := by rw [List.length_take] at hle; omega
      obtain ⟨cb, cr⟩ := c
      have hq : qPiece ⟨cb, cr⟩ = if cr = 34 then [92, 34] else if cr = 92 then [92, 92] else if cr = 10 then [92, 110] else if (ctl cr || (⟨cb, cr⟩ : Ck).bad) = true then [92, 120, hexC ((cb.getD 0 0).toNat / 16), hexC ((cb.getD 0 0).toNat % 16)] else cb := rfl
      have hqs : ((cks s.data.toList).take (k + 1)).flatMap qPiece = ((cks s.data.toList).take k).flatMap qPiece ++ qPiece ⟨cb, cr⟩ := by rw [htk, List.flatMap_append]; simp
      generalize ((cks s.data.toList).take k).flatMap qPiece = qs at *
      generalize off s.data.toList k = p at *
      replace hq := Lib.hid hq
      replace hqs := Lib.hid hqs
      replace hwr := Lib.hid hwr
      replace hby := Lib.hid hby
      replace hpos := Lib.hid hpos
      replace hless := Lib.hid hless
      replace hok := Lib.hid hok
      replace hsep := Lib.hid hsep
      clear hle hit hown hbt htk hc
      dsimp only at hnx
      by_cases h34 : cr = 34
      · subst h34
        go_wp2_with (at_builtin; refine wpList_append_but byte_elem _ rfl (.tmp 23) (.tmp 26) rfl w.heap.size _ (34 :: qs) rfl (hown1.g (G.new _ _)) (w1.heap.size + 1) (some ⟨w1.heap.size, 0, none⟩) 2 [92, 34] rfl (by intro h; cases h) (Sl.of_blk byteC_len _ (blk_new _ _ _) rfl (by omega)) (by simp; omega) (by simp; omega) (by have := hg1.size; simp; omega) ?_; intro v' w2 hown2 hkeep hbut)
        have it2 : IterAt w2 (w.heap.size + 1) s (k + 1) := (hit1.g (G.new _ _)).but hbut (fun e => hsep.out _ e.symm rfl)
        have hg2 : G w w2 := hkeep.g (hg1.alloc _)
        have hown3 : OwnL 5 1 byteC w2 w.heap.size v' (34 :: ((cks s.data.toList).take (k + 1)).flatMap qPiece) := by
          rw [hqs.out, hq.out, if_pos rfl]
          exact hown2
        replace it2 := Lib.hid it2
        replace hown3 := Lib.hid hown3
        clear hown2 hkeep hbut hown1
        obtain ⟨A2, c2, e2, _, _, _⟩ := OwnL.sl byteC_len hown3.out
        subst e2
        go_roundw
        case rel => exact ⟨k + 1, A2, _, c2, rfl, by omega, it2, hown3, hg2⟩
        case measure => rw [hpos.out, it2.out.pos]; exact hless.out
      · by_cases h92 : cr = 92
        · subst h92
          go_wp2_with (at_builtin; refine wpList_append_but byte_elem _ rfl (.tmp 23) (.tmp 26) rfl w.heap.size _ (34 :: qs) rfl (hown1.g (G.new _ _)) (w1.heap.size + 1) (some ⟨w1.heap.size, 0, none⟩) 2 [92, 92] rfl (by intro h; cases h) (Sl.of_blk byteC_len _ (blk_new _ _ _) rfl (by omega)) (by simp; omega) (by simp; omega) (by have := hg1.size; simp; omega) ?_; intro v' w2 hown2 hkeep hbut)
          have it2 : IterAt w2 (w.heap.size + 1) s (k + 1) := (hit1.g (G.new _ _)).but hbut (fun e => hsep.out _ e.symm rfl)
          have hg2 : G w w2 := hkeep.g (hg1.alloc _)
          have hown3 : OwnL 5 1 byteC w2 w.heap.size v' (34 :: ((cks s.data.toList).take (k + 1)).flatMap qPiece) := by
            rw [hqs.out, hq.out, if_neg (by omega), if_pos rfl]
            exact hown2
          replace it2 := Lib.hid it2
          replace hown3 := Lib.hid hown3
          clear hown2 hkeep hbut hown1
          obtain ⟨A2, c2, e2, _, _, _⟩ := OwnL.sl byteC_len hown3.out
          subst e2
          go_roundw
          case rel => exact ⟨k + 1, A2, _, c2, rfl, by omega, it2, hown3, hg2⟩
          case measure => rw [hpos.out, it2.out.pos]; exact hless.out
        · by_cases h10 : cr = 10
          · subst h10
            go_wp2_with (at_builtin; refine wpList_append_but byte_elem _ rfl (.tmp 31) (.tmp 32) rfl w.heap.size _ (34 :: qs) rfl (hown1.g (G.new _ _)) (w1.heap.size + 1) (some ⟨w1.heap.size, 0, none⟩) 2 [92, 110] rfl (by intro h; cases h) (Sl.of_blk byteC_len _ (blk_new _ _ _) rfl (by omega)) (by simp; omega) (by simp; omega) (by have := hg1.size; simp; omega) ?_; intro v' w2 hown2 hkeep hbut)
            have it2 : IterAt w2 (w.heap.size + 1) s (k + 1) := (hit1.g (G.new _ _)).but hbut (fun e => hsep.out _ e.symm rfl)
            have hg2 : G w w2 := hkeep.g (hg1.alloc _)
            have hown3 : OwnL 5 1 byteC w2 w.heap.size v' (34 :: ((cks s.data.toList).take (k + 1)).flatMap qPiece) := by
              rw [hqs.out, hq.out, if_neg (by omega), if_neg (by omega), if_pos rfl]
              exact hown2
            replace it2 := Lib.hid it2
            replace hown3 := Lib.hid hown3
            clear hown2 hkeep hbut hown1
            obtain ⟨A2, c2, e2, _, _, _⟩ := OwnL.sl byteC_len hown3.out
            subst e2
            go_roundw
            case rel => exact ⟨k + 1, A2, _, c2, rfl, by omega, it2, hown3, hg2⟩
            case measure => rw [hpos.out, it2.out.pos]; exact hless.out
          · have b34 : ((cr : Int) == 34) = false := by rw [beq_eq_false_iff_ne]; omega
            have b92 : ((cr : Int) == 92) = false := by rw [beq_eq_false_iff_ne]; omega
            have b10 : ((cr : Int) == 10) = false := by rw [beq_eq_false_iff_ne]; omega
            have hcr : cr ≤ 1114111 := hok.out.rune
            replace h34 := Lib.hid h34
            replace h92 := Lib.hid h92
            replace h10 := Lib.hid h10
            cases hct : ctl cr with
            | true =>
              have hco := control_any cr w1
              rw [hct] at hco
              replace hct := Lib.hid hct
              go_wp2_with fail
              refine hco.mono ?_
              clear hco
              rintro e wz ⟨rfl, rfl⟩
              go_wp2_with fail
              have hesc : (ctl (cr : Int) || (⟨cb, cr⟩ : Ck).bad) = true := by rw [hct.out]; rfl
              have hb1 := fun w' => run_byte w' s p _ hby.out
              obtain ⟨x, hx⟩ : ∃ x : UInt8, cb.getD 0 0 = x := ⟨_, rfl⟩
              have hx1 : x.toNat < 256 := x.toNat_lt
              rw [hx] at hb1
              obtain ⟨hi, hhi⟩ : ∃ hi, x.toNat / 16 = hi := ⟨_, rfl⟩
              obtain ⟨lo, hlo⟩ : ∃ lo, x.toNat % 16 = lo := ⟨_, rfl⟩
              have ha15 := and15 ⟨x.toNat, hx1⟩
              dsimp only at ha15
              rw [hlo] at ha15
              have hsh : (x.toNat : Int) / 16 = (hi : Int) := by omega
              have hh1 := fun w' => run_hexes w' hi (by omega)
              have hh2 := fun w' => run_hexes w' lo (by omega)
              have hqq : qPiece ⟨cb, cr⟩ = [92, 120, hexC hi, hexC lo] := by
                rw [hq.out, if_neg h34.out, if_neg h92.out, if_neg h10.out, if_pos hesc, hx, hhi, hlo]
              replace hhi := Lib.hid hhi
              replace hlo := Lib.hid hlo
              replace hx := Lib.hid hx
              replace hqq := Lib.hid hqq
              replace hesc := Lib.hid hesc
              go_region_held3 (fun w' => G w w') (first | exact hg1.drew | exact G.alloc (by assumption) _ | exact hkeep.g ((hg1.alloc _).drew) | fail) (first | (refine step_append_but byte_elem _ rfl (.tmp 43) (.tmp 54) rfl w.heap.size (.slice A8 n8 c8) (34 :: qs) rfl (hown1.g (G.new w1 _).drew) (w1.heap.size + 1) (some ⟨w1.heap.size, 0, none⟩) 4 [92, 120, hexC hi, hexC lo] rfl (by intro h; cases h) (Sl.of_blk byteC_len _ (blk_new w1 _ _) rfl (by omega)) (by clear hsh ha15; simp; omega) (by clear hsh ha15; simp; omega) (by clear hsh ha15; have := hg1.size; simp; omega) ?_; intro v' w2 hown2 hkeep hbut) | fail)
              all_goals
                clear hsh ha15 hb1 hh1 hh2
                go_wp2_with fail
                have it2 : IterAt w2 (w.heap.size + 1) s (k + 1) := (hit1.g (G.new w1 _).drew).but hbut (fun e => hsep.out _ e.symm rfl)
                have hg2 : G w w2 := hkeep.g ((hg1.alloc _).drew)
                have hown3 : OwnL 5 1 byteC w2 w.heap.size v' (34 :: ((cks s.data.toList).take (k + 1)).flatMap qPiece) := by
                  rw [hqs.out, hqq.out]
                  exact hown2
                replace it2 := Lib.hid it2
                replace hown3 := Lib.hid hown3
                clear hown2 hkeep hbut hown1
                obtain ⟨A2, c2, e2, _, _, _⟩ := OwnL.sl byteC_len hown3.out
                subst e2
                go_roundw
                case rel => exact ⟨k + 1, A2, _, c2, rfl, by omega, it2, hown3, hg2⟩
                case measure => rw [hpos.out, it2.out.pos]; exact hless.out
            | false =>
              have hco := control_any cr w1
              rw [hct] at hco
              go_wp2_with fail
              refine hco.mono ?_
              clear hco
              rintro e wz ⟨rfl, rfl⟩
              go_wp2_with fail
              refine (hwr.out _ hg1).mono ?_
              rintro e w3 ⟨rfl, hg3⟩
              cases hbd : (⟨cb, cr⟩ : Ck).bad with
              | true =>
                have hesc : (ctl (cr : Int) || (⟨cb, cr⟩ : Ck).bad) = true := by rw [hbd, Bool.or_true]
                replace hct := Lib.hid hct
                replace hbd := Lib.hid hbd
                have hown4 := hown1.g hg3
                have hit4 := hit1.g hg3
                have hg4 := hg1.trans hg3
                go_wp2_with fail
                have hb1 := fun w' => run_byte w' s p _ hby.out
                obtain ⟨x, hx⟩ : ∃ x : UInt8, cb.getD 0 0 = x := ⟨_, rfl⟩
                have hx1 : x.toNat < 256 := x.toNat_lt
                rw [hx] at hb1
                obtain ⟨hi, hhi⟩ : ∃ hi, x.toNat / 16 = hi := ⟨_, rfl⟩
                obtain ⟨lo, hlo⟩ : ∃ lo, x.toNat % 16 = lo := ⟨_, rfl⟩
                have ha15 := and15 ⟨x.toNat, hx1⟩
                dsimp only at ha15
                rw [hlo] at ha15
                have hsh : (x.toNat : Int) / 16 = (hi : Int) := by omega
                have hh1 := fun w' => run_hexes w' hi (by omega)
                have hh2 := fun w' => run_hexes w' lo (by omega)
                have hqq : qPiece ⟨cb, cr⟩ = [92, 120, hexC hi, hexC lo] := by
                  rw [hq.out, if_neg h34.out, if_neg h92.out, if_neg h10.out, if_pos hesc, hx, hhi, hlo]
                replace hhi := Lib.hid hhi
                replace hlo := Lib.hid hlo
                replace hx := Lib.hid hx
                replace hqq := Lib.hid hqq
                replace hesc := Lib.hid hesc
                go_region_held3 (fun w' => G w w') (first | exact hg4.drew | exact G.alloc (by assumption) _ | exact hkeep.g ((hg4.alloc _).drew) | fail) (first | (refine step_append_but byte_elem _ rfl (.tmp 43) (.tmp 54) rfl w.heap.size (.slice A8 n8 c8) (34 :: qs) rfl (hown4.g (G.new w3 _).drew) (w3.heap.size + 1) (some ⟨w3.heap.size, 0, none⟩) 4 [92, 120, hexC hi, hexC lo] rfl (by intro h; cases h) (Sl.of_blk byteC_len _ (blk_new w3 _ _) rfl (by omega)) (by clear hsh ha15; simp; omega) (by clear hsh ha15; simp; omega) (by clear hsh ha15; have := hg4.size; simp; omega) ?_; intro v' w2 hown2 hkeep hbut) | fail)
                all_goals
                  clear hsh ha15 hb1 hh1 hh2
                  go_wp2_with fail
                  have it2 : IterAt w2 (w.heap.size + 1) s (k + 1) := (hit4.g (G.new w3 _).drew).but hbut (fun e => hsep.out _ e.symm rfl)
                  have hg2 : G w w2 := hkeep.g ((hg4.alloc _).drew)
                  have hown3 : OwnL 5 1 byteC w2 w.heap.size v' (34 :: ((cks s.data.toList).take (k + 1)).flatMap qPiece) := by
                    rw [hqs.out, hqq.out]
                    exact hown2
                  replace it2 := Lib.hid it2
                  replace hown3 := Lib.hid hown3
                  clear hown2 hkeep hbut hown1
                  obtain ⟨A2, c2, e2, _, _, _⟩ := OwnL.sl byteC_len hown3.out
                  subst e2
                  go_roundw
                  case rel => exact ⟨k + 1, A2, _, c2, rfl, by omega, it2, hown3, hg2⟩
                  case measure => rw [hpos.out, it2.out.pos]; exact hless.out
              | false =>
                have hcb : cb = encodeRune (cr : Int) := by
                  rcases hok.out with ⟨h1, _⟩ | ⟨_, h1, _⟩
                  · rw [hbd] at h1; cases h1
                  · exact h1
                have hap := Tryd.utf8_AppendRune_plain w.heap.size (.slice A8 n8 c8) (34 :: qs).length ((34 :: qs).flatMap byteC) cr (by omega) (by omega) w3 (hown1.g hg3) (by rw [List.length_cons]; omega) ((hg1.trans hg3).size)
                have hrc : Lib.runeCells (cr : Int) = cb.flatMap byteC := by
                  rw [← byteCells_encodeRune, ← hcb, byteCells_flat]
                rw [hrc] at hap
                replace hcb := Lib.hid hcb
                replace hrc := Lib.hid hrc
                replace hbd := Lib.hid hbd
                replace hct := Lib.hid hct
                go_wp2_with fail
                refine hap.mono ?_
                clear hap
                rintro e w2 ⟨v', rfl, hown2', o, hgr⟩
                have hown2 : OwnL 5 1 byteC w2 w.heap.size v' (34 :: qs ++ cb) := by
                  show w2.ownsRow _ _ _ _ _ _
                  rw [List.flatMap_append, List.length_append]
                  rw [flat_length byteC_len, Nat.mul_one] at hown2'
                  exact hown2'
                have hg13 := hg1.trans hg3
                have hbut : But (fun k => some k = (Value.slice A8 n8 c8).ownBlock) (w3.alloc o) w2 := .of_grown hgr fun k hk => hk.symm
                have hkeep : ∀ {W : World}, W = w → G W (w3.alloc o) → G W w2 := fun {W} e h => by
                  subst e
                  exact Below.trans h (hbut.below h.size fun k _ e => (hown1.blk e.symm).1)
                have hesc : ¬ (ctl (cr : Int) || (⟨cb, cr⟩ : Ck).bad) = true := by rw [hct.out, hbd.out]; simp
                go_wp2_with fail
                have it2 : IterAt w2 (w.heap.size + 1) s (k + 1) := ((hit1.g hg3).g (G.new _ _)).but hbut (fun e => hsep.out _ e.symm rfl)
                have hg2 : G w w2 := hkeep rfl (hg13.alloc _)
                have hown3 : OwnL 5 1 byteC w2 w.heap.size v' (34 :: ((cks s.data.toList).take (k + 1)).flatMap qPiece) := by
                  rw [hqs.out, hq.out, if_neg h34.out, if_neg h92.out, if_neg h10.out, if_neg hesc]
                  exact hown2
                replace it2 := Lib.hid it2
                replace hown3 := Lib.hid hown3
                clear hown2 hkeep hbut hown1
                obtain ⟨A2, c2, e2, _, _, _⟩ := OwnL.sl byteC_len hown3.out
                subst e2
                go_roundw
                case rel => exact ⟨k + 1, A2, _, c2, rfl, by omega, it2, hown3, hg2⟩
                case measure => rw [hpos.out, it2.out.pos]; exact hless.out
    · have hnx := fun ty => run_next_over (P := Tryd.prog) ty hit.out (by omega)
      have hkl : k = (cks s.data.toList).length := by omega
      have hall := qPieces_le (cks_ok s.data.toList)
      have hown1 : OwnL 5 1 byteC wr w.heap.size (.slice A8 n8 c8) (34 :: (cks s.data.toList).flatMap qPiece) := by
        have := hown.out
        rwa [hkl, List.take_length] at this
      have hfin : ∀ A c w', OwnL 5 1 byteC w' w.heap.size (.slice A (34 :: (cks s.data.toList).flatMap qPiece ++ [34]).length c) (34 :: (cks s.data.toList).flatMap qPiece ++ [34]) → (convert 39 9 (.slice A (34 :: (cks s.data.toList).flatMap qPiece ++ [34]).length c)).run Tryd.prog w' = .ok (.string (strOf (quoteL s.data.toList))) w' := fun A c w' h => conv_back (OwnL.self byteC_len h)
      generalize hqs : (cks s.data.toList).flatMap qPiece = qs at *
      replace hqs := Lib.hid hqs
      replace hfin := Lib.hid hfin
      clear hown hsep hkl
      go_wp2_with (at_builtin; refine wpList_append_but byte_elem _ rfl (.tmp 56) (.tmp 57) rfl w.heap.size _ (34 :: qs) rfl (hown1.g (G.new _ _)) (wr.heap.size + 1) (some ⟨wr.heap.size, 0, none⟩) 1 [34] rfl (by intro h; cases h) (Sl.of_blk byteC_len _ (blk_new _ _ _) rfl (by omega)) (by simp; omega) (by simp; omega) (by have := hg.size; simp; omega) ?_; intro v' w2 hown2 hkeep hbut; obtain ⟨A2, c2, e2, _, _, _⟩ := OwnL.sl byteC_len hown2; subst e2; have hcv := hfin.out A2 c2 w2 hown2; generalize hn2 : (34 :: qs ++ [34]).length = n2 at hcv ⊢; replace hn2 := Lib.hid hn2; have hg2 : G w w2 := hkeep.g (hg.alloc _))
      go_ret
      exact ⟨rfl, hg2⟩
end Go.Proofs.YtjielocmjfmadaaDoor

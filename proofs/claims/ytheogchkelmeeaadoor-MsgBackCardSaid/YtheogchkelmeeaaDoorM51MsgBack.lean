/- Several texts in one: Round, MsgBackW, ReadStr. -/
import Derived.Test.YtheogchkelmeeaaDoorM0MsgBack
import Derived.Test.YtheogchkelmeeaaDoorM47MsgBack
import Derived.Test.YtheogchkelmeeaaDoorMsgFlatQMsgBack
import Derived.Test.YtheogchkelmeeaaDoorSameMsgQMsgBack
import Derived.Test.YtheogchkelmeeaaDoorM1MsgBack
import Derived.Test.YtheogchkelmeeaaDoorRows
import Derived.ProofKit
import Derived.OpenShut
import Derived.PinnedBridge
import Derived.Lib.LaidU8T
import Derived.Lay
import Derived.SevenTiedAt
import Derived.LaidMore
/- penstockalike.Round: what it answers. Condition: the second number is above 0. -/
namespace Go.Proofs.YtheogchkelmeeaaDoor
open Go.RowKit

set_option maxHeartbeats 400000 in
theorem round_any (k n : Int) (w : World) (hn : 1 ≤ n) (hn2 : n ≤ 9223372036854775807) (_hk : -9223372036854775808 ≤ k) (_hk2 : k ≤ 9223372036854775807) :
    Calls Tryd.prog 27 #[.int .i64 k, .int .i64 n] w fun e w' => e = .returned (.int .i64 (k % n)) ∧ w = w' := by
  have h1 := Int.tmod_lt_of_pos k (show 0 < n by omega)
  have h2 : -n < k.tmod n := by
    have := Int.lt_tmod_of_pos k (show 0 < n by omega)
    omega
  have h3 : k % n = if k.tmod n < 0 then k.tmod n + n else k.tmod n := by
    rw [Int.tmod_eq_emod]
    have h4 := Int.emod_nonneg k (show n ≠ 0 by omega)
    have h5 := Int.emod_lt_of_pos k (show 0 < n by omega)
    split <;> (try split) <;> omega
  replace h3 := Lib.hid h3
  generalize hm : k.tmod n = m at *
  go_enter Tryd.func27, Tryd.ntmps27
  go_wp2
  all_goals (go_ret; exact ⟨ret_int (by rw [h3.out]; split <;> omega), rfl⟩)
end Go.Proofs.YtheogchkelmeeaaDoor
/- penstocklaw10.MsgBack: the walk. Condition: the decoder's tables lie as the library lays them. -/
namespace Go.Proofs.YtheogchkelmeeaaDoor
open Go.RowKit

theorem mod_natM (k : Int) {n : Nat} (hn : 0 < n) : ∃ r : Nat, k % (n : Int) = r ∧ r < n := by
  have h1 := Int.emod_nonneg k (show (n : Int) ≠ 0 by omega)
  have h2 := Int.emod_lt_of_pos k (show (0 : Int) < n by omega)
  exact ⟨(k % (n : Int)).toNat, by omega, by omega⟩
set_option maxRecDepth 100000 in
set_option maxHeartbeats 8000000 in
theorem msgBack_walk (r : MsgM) (cut : Int) (w : World) (hin : r.In w) (hi : r.Wide) (hcut : Int64 cut) (hT : Tabs w) : Calls Tryd.prog 6 #[.agg r.cells, .int .i64 cut] w fun e w' => e = .returned (.bool true) ∧ G w w' := by
  have hg0 := G.new w (.cells r.cells 36)
  have B0 := blk_new w r.cells 36
  have LR0 := load_blk (P := Tryd.prog) (T := 36) B0 Tryd.underlying36 rfl (by kernel_rfl)
  have hsm := small10_any r (w.alloc (.cells r.cells 36)) (hin.g hg0) hi
  have haw := fun w' => awake10_any w'
  replace haw := Lib.hid haw
  replace hg0 := Lib.hid hg0
  replace B0 := Lib.hid B0
  cases hb : decide (msgBulk r ≤ 6000) with
  | false =>
    rw [hb] at hsm
    replace hb := Lib.hid hb
    replace hin := Lib.hid hin
    replace hi := Lib.hid hi
    replace hT := Lib.hid hT
    replace hsm := Lib.hid hsm
    go_enter Tryd.func6, Tryd.ntmps6
    go_upto_region 1 with fail
    generalize w.alloc (.cells r.cells 36) = W0 at *
    go_wp2_with (first | (refine wpList_load_at rfl (by kernel_rfl) (p := .pointer (some ⟨_, 0, none⟩)) rfl LR0 ?_) | (go_at_call 8; (with_reducible refine Calls.mono hsm.out ?_); rintro e w1 ⟨rfl, hg1⟩) | (go_at_call 9; (with_reducible refine Calls.mono (haw.out _) ?_); rintro e w2 ⟨rfl, hg2⟩))
    go_ret
    exact ⟨rfl, (hg0.out.trans hg1).trans hg2⟩
  | true =>
    rw [hb] at hsm
    have hbk6 : msgBulk r ≤ 6000 := of_decide_eq_true hb
    have hok := (msg_small hi hbk6).only
    have hin' : ∀ w', G w w' → r.only.In w' := fun w' hg => (hin.g hg).only
    have honly := r.only_only
    have hon := fun w' => monly_any r w'
    have hdl : kOk r.only.kind = true → (docM r.only.p).length ≤ 490000 := fun hk => docM_len hbk6 (by rw [MsgM.only_kind] at hk; exact hk)
    generalize r.only = m at *
    replace hb := Lib.hid hb
    replace hbk6 := Lib.hid hbk6
    replace hin := Lib.hid hin
    replace hi := Lib.hid hi
    replace hsm := Lib.hid hsm
    replace hon := Lib.hid hon
    by_cases hgood : kOk m.kind = true ∧ chkM m.p = true
    case neg =>
      obtain ⟨cd, hcd, hmd⟩ := made_bad w hin' hok honly (fun w' hg => hT.g hg) (fun hk => by
        cases hc : chkM m.p with
        | false => rfl
        | true => exact absurd ⟨hk, hc⟩ hgood)
      replace hmd := Lib.hid hmd
      replace hok := Lib.hid hok
      replace hin' := Lib.hid hin'
      replace honly := Lib.hid honly
      replace hT := Lib.hid hT
      replace hdl := Lib.hid hdl
      clear hgood
      go_enter Tryd.func6, Tryd.ntmps6
      go_upto_region 1 with fail
      generalize w.alloc (.cells r.cells 36) = W0 at *
      go_upto_region 3 with (first | (refine wpList_load_at rfl (by kernel_rfl) (p := .pointer (some ⟨_, 0, none⟩)) rfl LR0 ?_) | (go_at_call 8; (with_reducible refine Calls.mono hsm.out ?_); rintro e w1 ⟨rfl, hg1⟩))
      clear LR0 hsm
      have B1 := hg1.blk B0.out
      have hG1 := hg0.out.trans hg1
      have LR1 := load_blk (P := Tryd.prog) (T := 36) B1 Tryd.underlying36 rfl (by kernel_rfl)
      replace B1 := Lib.hid B1
      go_upto_region 4 with (first | (refine wpList_load_at rfl (by kernel_rfl) (p := .pointer (some ⟨_, 0, none⟩)) rfl LR1 ?_) | (go_at_call 10; (with_reducible refine Calls.mono (hon.out _) ?_); rintro e w2 ⟨rfl, hg2⟩; have B2 := hg2.blk B1.out; obtain ⟨w3, SR3, C3, hb3, hG3⟩ := store_blk (P := Tryd.prog) (T := 36) (cs := m.cells) B2 rfl (by kernel_rfl) (by kernel_rfl); have hG3' := hG3 w (hG1.trans hg2) (Nat.le_refl _); replace hG3' := Lib.hid hG3'; clear hb3 hG3 B2) | (refine wpList_store_at (ty := 36) rfl (by kernel_rfl) (p := .pointer (some ⟨w.heap.size, 0, none⟩)) (v := .agg m.cells) rfl rfl SR3 ?_; clear SR3))
      clear LR1 hon
      have hGw3 := hG3'.out
      have LR3 := load_blk (P := Tryd.prog) (T := 36) C3 Tryd.underlying36 rfl (by kernel_rfl)
      replace C3 := Lib.hid C3
      go_wp2_with (first
        | (refine wpList_load_at rfl (by kernel_rfl) (p := .pointer (some ⟨w.heap.size, 0, none⟩)) rfl LR3 ?_; clear LR3)
        | (go_at_call 11; (with_reducible refine Calls.mono (hmd.out _ hGw3) ?_); rintro e w4 ⟨v, rfl, hg4, hen⟩; replace hen := Lib.hid hen; have hG4 := hGw3.trans hg4)
        | (go_at_call 18; (with_reducible refine Calls.mono (hen.out _ hG4) ?_); rintro e w5 ⟨A5, c5, rfl, hg5⟩)
        | (go_at_call 9; (with_reducible refine Calls.mono (haw.out _) ?_); rintro e w9 ⟨rfl, hg9⟩))
      go_ret
      exact ⟨rfl, (hG4.trans hg5).trans hg9⟩
    obtain ⟨hk, hck⟩ := hgood
    have hll := hdl hk
    have hpos := docM_pos m.p
    have hpo : m.p.only = m.p := by rw [← MsgM.only_p, honly]
    have hbk := decM_back hck (msg_fits hok) hpo
    have hcu := fun (k : Nat) (h : k < (docM m.p).length) => decM_cut hck (msg_fits hok) hpo h
    have hmo := decM_more hck (msg_fits hok) hpo 0
    have hen : ∀ w', G w w' → Calls Tryd.prog 18 #[m.iface] w' fun e w'' => ∃ A c, e = .returned (.tuple #[.slice A (docM m.p).length c, .int .i64 0]) ∧ OwnL 5 1 byteC w'' w'.heap.size (.slice A (docM m.p).length c) (docM m.p) ∧ G w' w'' := fun w' hg => enc_good hk honly hck w' (hin' w' hg) hok (hT.g hg)
    have hmd := fun w' => made_good hk w'
    generalize docM m.p = l at *
    obtain ⟨k, hkk, hkl⟩ := mod_natM cut hpos
    have hcuk := hcu k hkl
    have hrd := fun (w' : World) => round_any cut l.length w' (by omega) (by omega) hcut.1 hcut.2
    rw [hkk] at hrd
    have t2 : ((l.length : Int) == 0) = false := by rw [beq_eq_false_iff_ne]; omega
    obtain ⟨n, hn⟩ : ∃ n, l ++ [0] = n := ⟨_, rfl⟩
    have hml : n.length = l.length + 1 := by rw [← hn]; simp
    have hml2 : n.length ≤ 500000 := by omega
    have hml3 : l.length ≤ 500000 := by omega
    have hltk : (l.take k).length = k := by rw [List.length_take]; omega
    rw [hn] at hmo
    obtain ⟨iv, hiv⟩ : ∃ v, m.iface = v := ⟨_, rfl⟩
    rw [hiv] at hen hmd
    replace hiv := Lib.hid hiv
    replace hen := Lib.hid hen
    replace hmd := Lib.hid hmd
    replace hck := Lib.hid hck
    replace hok := Lib.hid hok
    replace hbk := Lib.hid hbk
    replace hcuk := Lib.hid hcuk
    replace hmo := Lib.hid hmo
    replace hrd := Lib.hid hrd
    replace hn := Lib.hid hn
    replace hml := Lib.hid hml
    replace hltk := Lib.hid hltk
    replace hkk := Lib.hid hkk
    replace hk := Lib.hid hk
    replace hin' := Lib.hid hin'
    replace honly := Lib.hid honly
    replace hpo := Lib.hid hpo
    replace hT := Lib.hid hT
    replace hdl := Lib.hid hdl
    clear hcu
    go_enter Tryd.func6, Tryd.ntmps6
    go_upto_region 1 with fail
    generalize w.alloc (.cells r.cells 36) = W0 at *
    go_upto_region 3 with (first | (refine wpList_load_at rfl (by kernel_rfl) (p := .pointer (some ⟨_, 0, none⟩)) rfl LR0 ?_) | (go_at_call 8; (with_reducible refine Calls.mono hsm.out ?_); rintro e w1 ⟨rfl, hg1⟩))
    clear LR0 hsm
    have B1 := hg1.blk B0.out
    have hG1 := hg0.out.trans hg1
    have LR1 := load_blk (P := Tryd.prog) (T := 36) B1 Tryd.underlying36 rfl (by kernel_rfl)
    replace B1 := Lib.hid B1
    go_upto_region 4 with (first | (refine wpList_load_at rfl (by kernel_rfl) (p := .pointer (some ⟨_, 0, none⟩)) rfl LR1 ?_) | (go_at_call 10; (with_reducible refine Calls.mono (hon.out _) ?_); rintro e w2 ⟨rfl, hg2⟩; have B2 := hg2.blk B1.out; obtain ⟨w3, SR3, C3, hb3, hG3⟩ := store_blk (P := Tryd.prog) (T := 36) (cs := m.cells) B2 rfl (by kernel_rfl) (by kernel_rfl); have hG3' := hG3 w (hG1.trans hg2) (Nat.le_refl _); replace hG3' := Lib.hid hG3'; clear hb3 hG3 B2) | (refine wpList_store_at (ty := 36) rfl (by kernel_rfl) (p := .pointer (some ⟨w.heap.size, 0, none⟩)) (v := .agg m.cells) rfl rfl SR3 ?_; clear SR3))
    clear LR1 hon
    have hGw3 := hG3'.out
    have LR3 := load_blk (P := Tryd.prog) (T := 36) C3 Tryd.underlying36 rfl (by kernel_rfl)
    replace C3 := Lib.hid C3
    go_upto_region 9 with (first
      | (refine wpList_load_at rfl (by kernel_rfl) (p := .pointer (some ⟨w.heap.size, 0, none⟩)) rfl LR3 ?_; clear LR3)
      | (go_at_call 11; (with_reducible refine Calls.mono (hmd.out _) ?_); rintro e w4 ⟨rfl, hg4⟩; have hG4 := hGw3.trans hg4)
      | (go_at_call 18; (with_reducible refine Calls.mono (hen.out _ hG4) ?_); rintro e w5 ⟨A1, d1, rfl, ho1, hg5⟩))
    have hG5 := hG4.trans hg5
    have B5 := hg5.blk (hg4.blk C3.out)
    have hs1 := ho1.self byteC_len
    obtain ⟨_, _, ee, hcd, hcd2, _⟩ := OwnL.sl byteC_len ho1
    cases ee
    have hd1 := Lib.hid (msgDec_yes hbk.out A1 d1 w5 hs1 hml3 hcd (hT.out.g hG5))
    replace B5 := Lib.hid B5
    replace ho1 := Lib.hid ho1
    go_upto_region 10 with (go_at_call 26; (with_reducible refine Calls.mono hd1.out ?_); rintro e w6 ⟨x, rfl, hg6, hxp, hxs, hxo, hxk, hxi⟩)
    clear hd1
    have hfl : ∀ w', Calls Tryd.prog 13 #[x.iface] w' fun e w'' => e = .returned (.tuple #[.agg x.cells, .bool true]) ∧ G w' w'' := fun w' => by
      have h := flat_any x w' hxk
      rw [hxo] at h
      exact h
    generalize x.iface = xv at *
    have hG6 := hG5.trans hg6
    replace hfl := Lib.hid hfl
    replace hxp := Lib.hid hxp
    replace hxs := Lib.hid hxs
    replace hxo := Lib.hid hxo
    replace hxk := Lib.hid hxk
    replace hxi := Lib.hid hxi
    go_upto_region 11 with (first
      | (go_at_call 13; (with_reducible refine Calls.mono (hfl.out _) ?_); rintro e w7 ⟨rfl, hg7⟩; have CZ := blk_new w7 #[.int .i64 0, .int .i64 0, .int .i64 0, .int .i64 0, .string ⟨#[]⟩, .slice none 0 0, .int .i64 0, .int .i64 0, .int .i64 0, .int .i64 0, .slice none 0 0, .bool false, .int .i64 0, .int .i64 0, .int .i64 0, .int .i64 0, .slice none 0 0, .int .i64 0, .int .i64 0, .slice none 0 0, .slice none 0 0] 36; obtain ⟨w8, SR8, C8, hb8, hG8⟩ := store_blk (P := Tryd.prog) (T := 36) (cs := x.cells) CZ rfl (by kernel_rfl) (by kernel_rfl); have hG8' := hG8 w7 (G.new w7 _) (Nat.le_refl _); replace hG8' := Lib.hid hG8'; replace C8 := Lib.hid C8; clear hb8 hG8 CZ)
      | (refine wpList_store_at (ty := 36) rfl (by kernel_rfl) (p := .pointer (some ⟨w7.heap.size, 0, none⟩)) (v := .agg x.cells) rfl rfl SR8 ?_; clear SR8))
    have hg58 := (hg6.trans hg7).trans hG8'.out
    have hG8 := hG5.trans hg58
    have hs8 := (hs1.g (Nat.le_refl _) hg58).more hg58.size
    have hne : l ≠ [] := by rintro rfl; simp at hpos
    have hfr := run_front hs8 hne d1 k (by omega)
    have hc2 := msgDec_no hcuk.out A1 d1 w8 (hs8.first k) (by rw [hltk.out]; omega) (by rw [hltk.out]; omega) (hT.out.g hG8)
    rw [hltk.out] at hc2
    replace hc2 := Lib.hid hc2
    replace hne := Lib.hid hne
    clear hfl
    go_upto_region 12 with (first
      | (go_at_call 27; refine Calls.mono (hrd.out _) ?_; rintro e v5 ⟨rfl, rfl⟩)
      | (go_at_call 26; (with_reducible refine Calls.mono hc2.out ?_); rintro e w9 ⟨rfl, hg9⟩))
    clear hc2 hfr
    have hG9 := hG8.trans hg9
    have hs9 := (hs8.g (Nat.le_refl _) hg9).more hg9.size
    have hA1 : A1 = none → l = [] := fun h => (h ▸ hs9).of_none
    replace hA1 := Lib.hid hA1
    clear hs8
    go_upto_region 13 with (first
      | (at_builtin; refine wpList_append_but byte_elem _ rfl (.tmp 59) (.tmp 60) rfl w9.heap.size _ [] rfl (OwnL.empty _ (blk_new _ _ _) (Nat.le_refl _)) w9.heap.size A1 d1 l rfl hA1.out (hs9.g (Nat.le_refl _) (G.new _ _)) (by simp; omega) (by simp; omega) (by simp) ?_; intro va wa howna hka hba; rw [List.nil_append] at howna; have hg9a := KeepT.g hka (G.new w9 (.cells #[] 5)); obtain ⟨Aa, ca, ea, _, _, _⟩ := OwnL.sl byteC_len howna; subst ea; have hza := hg9a.size; replace howna := Lib.hid howna; clear hka hba)
      | (at_builtin; refine wpList_append_but byte_elem _ rfl (.tmp 61) (.tmp 62) rfl w9.heap.size _ l rfl (howna.out.g (G.new _ _)) (wa.heap.size + 1) (some ⟨wa.heap.size, 0, none⟩) 1 [0] rfl (by intro h; cases h) (Sl.of_blk byteC_len [(0 : UInt8)] (blk_new _ _ _) rfl (by omega)) (by simp; omega) (by simp; omega) (by simp; omega) ?_; intro vb wb hownb hkb hbb; rw [hn.out] at hownb; obtain ⟨Ab, cb', eb, hcb, _, hslb⟩ := OwnL.sl byteC_len hownb; subst eb; have hg9b := KeepT.g hkb (hg9a.trans (G.new wa _)); have hd9 := Lib.hid (msgDec_no hmo.out Ab cb' wb hslb hml2 hcb (hT.out.g (hG9.trans hg9b))); clear hkb hbb hownb hslb)
      | (go_at_call 26; (with_reducible refine Calls.mono hd9.out ?_); rintro e wc ⟨rfl, hgc⟩))
    clear hd9 hs9 howna
    have hgx := hg9b.trans hgc
    have hGX := hG9.trans hgx
    have hsr := Lib.hid (sameMsg_yes x m wc (hxi.out.g ((((hg7.trans hG8'.out).trans hg9)).trans hgx)) (hin'.out _ hGX) hxp.out hxs.out)
    have CX := hgx.blk (hg9.blk C8.out)
    have BX := ((hg58.trans hg9).trans hgx).blk B5.out
    have LRX := load_blk (P := Tryd.prog) (T := 36) CX Tryd.underlying36 rfl (by kernel_rfl)
    have LRB := load_blk (P := Tryd.prog) (T := 36) BX Tryd.underlying36 rfl (by kernel_rfl)
    replace CX := Lib.hid CX
    replace BX := Lib.hid BX
    go_wp2_with (first
      | (refine wpList_load_at (ty := 36) rfl (by kernel_rfl) (p := .pointer (some ⟨w7.heap.size, 0, none⟩)) rfl LRX ?_)
      | (refine wpList_load_at (ty := 36) rfl (by kernel_rfl) (p := .pointer (some ⟨w.heap.size, 0, none⟩)) rfl LRB ?_)
      | (go_at_call 14; (with_reducible refine Calls.mono hsr.out ?_); rintro e we ⟨rfl, hge⟩)
      | (go_at_call 9; (with_reducible refine Calls.mono (haw.out _) ?_); rintro e wf ⟨rfl, hgf⟩))
    go_ret
    exact ⟨rfl, (hGX.trans hge).trans hgf⟩
end Go.Proofs.YtheogchkelmeeaaDoor
/- How texts, numbers and bools read as the laws' arguments; what the listed tables give. No condition. -/
namespace Go.Proofs.YtheogchkelmeeaaDoor
open Go.RowKit Go.ChangeShapes Go.WideShapes Go.Lib

/-- An int of 64 bits. -/
def I64 (n : Int) : Prop := -9223372036854775808 ≤ n ∧ n ≤ 9223372036854775807
section
variable {H : Type} {enc : TypeId × Value → H} {w : World} {base b0 : Nat} {spare : Nat → Bool} {held : Bool} {fuel : Nat} {cs : List Value} {x : DataW H × List MemPlace} {r : Reach} {v : Value} {d : DataW H} {p : List MemPlace}
theorem i64_of_wf {n : Int} (h : (Lit.int .i64 n).wf = true) : I64 n := by
  have := bounds_i64 h
  exact ⟨by omega, by omega⟩
set_option maxRecDepth 100000 in
theorem in_int (hv : Value.okWide Tryd.prog w r b0 3 v) (h : DataW.Trod enc Tryd.prog w base spare held 3 v d p) : ∃ n, v = .int .i64 n ∧ I64 n := by
  obtain ⟨n, rfl⟩ := okWide_int Tryd.underlying3 hv
  obtain ⟨fuel, hf⟩ := h
  obtain ⟨n', e, _, hn⟩ := DataW.trod_int Tryd.underlying3 hf
  simp [Value.cells] at e
  subst e
  exact ⟨n, rfl, i64_of_wf hn⟩
set_option maxRecDepth 100000 in
theorem in_str (hv : Value.okWide Tryd.prog w r b0 9 v) (h : DataW.Trod enc Tryd.prog w base spare held 9 v d p) : ∃ s, v = .string s ∧ s.size ≤ 9223372036854775807 := by
  obtain ⟨s, rfl⟩ := okWide_string Tryd.underlying9 hv
  obtain ⟨fuel, hf⟩ := h
  obtain ⟨s', e, _, hn⟩ := DataW.trod_string Tryd.underlying9 hf
  simp [Value.cells] at e
  subst e
  exact ⟨s, rfl, by simpa [maxLen] using hn⟩
set_option maxRecDepth 100000 in
theorem in_bool (hv : Value.okWide Tryd.prog w r b0 4 v) (_h : DataW.Trod enc Tryd.prog w base spare held 4 v d p) : ∃ b, v = .bool b ∧ b = b := by
  obtain ⟨b, rfl⟩ := okWide_bool Tryd.underlying4 hv
  exact ⟨b, rfl, rfl⟩
end
theorem u8Extra : U8Extra Tryd.prog Tryd.lays196_ren := ⟨by kernel_rfl, by kernel_rfl, by kernel_rfl, by kernel_rfl, by kernel_rfl, by kernel_rfl, by kernel_rfl⟩
theorem accept_eq : (Rows.laid_unicode_utf8_acceptRanges : DataW Unit) = acceptData := by kernel_rfl
/-- Where the two tables are listed they lie so. -/
theorem tabs_of_laid {w : World} (h : laidMet Tryd.prog [("unicode/utf8.acceptRanges", Rows.laid_unicode_utf8_acceptRanges), ("unicode/utf8.first", Rows.laid_unicode_utf8_first)] w) : Tabs w :=
  utf8Tabs_of_readsT (U8Types.of196 Tryd.lays196) u8Extra (Pinned.utf8First_eq ▸ Lib.laidMet.reads h (.tail _ (.head _))) (accept_eq ▸ Lib.laidMet.reads h (.head _))
end Go.Proofs.YtheogchkelmeeaaDoor

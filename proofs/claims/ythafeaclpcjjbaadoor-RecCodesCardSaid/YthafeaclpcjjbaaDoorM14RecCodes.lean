/- Several texts in one: StEnc, RecLaw, RecNamed. -/
import Derived.Test.YthafeaclpcjjbaaDoorTextOfQRecCodes
import Derived.Test.YthafeaclpcjjbaaDoorEvLawQRecCodes
import Derived.Test.YthafeaclpcjjbaaDoorM12RecCodes
import Derived.Test.YthafeaclpcjjbaaDoorBatLawQRecCodes
/- stamp.Encode, penstockref7.Encode: what they answer. No condition. -/
namespace Go.Proofs.YthafeaclpcjjbaaDoor
open Go.RowKit

/-- What Encode answers. -/
def stE (s : St) : List UInt8 := if stOk s = true then stL s else []
theorem stE_ok {s : St} (h : stOk s = true) : stE s = stL s := if_pos h
theorem stE_no {s : St} (h : stOk s = false) : stE s = [] := if_neg (by rw [h]; simp)
theorem stL_len (s : St) : (stL s).length ≤ 30 := by
  unfold stL
  rw [List.length_append, List.length_append]
  have := vL_len s.wall.toNat
  have := vL_len s.logic.toNat
  have := vL_len s.node.toNat
  omega
theorem stL_pos (s : St) : 0 < (stL s).length := by
  unfold stL
  rw [List.length_append]
  have := vL_pos s.wall.toNat
  omega
theorem stE_len (s : St) : (stE s).length ≤ 30 := by
  unfold stE
  split
  · exact stL_len s
  · simp
set_option maxRecDepth 100000 in
set_option maxHeartbeats 1000000 in
theorem stEnc_any (s : St) (w : World) : Calls Tryd.prog 48 #[stV s.wall s.logic s.node] w (RetBytes w (stE s)) := by
  have hs := fun w' => sound_any s.wall s.logic s.node w'
  cases hok : stOk s with
  | false =>
    rw [stE_no hok]
    unfold stOk at hok
    rw [hok] at hs
    obtain ⟨a, b, c⟩ := s
    unfold stV at *
    clear hok
    go_enter Tryd.func48, Tryd.ntmps48
    go_wp2_with fail
    refine (hs _).mono ?_
    clear hs
    rintro e w1 ⟨rfl, hg⟩
    go_wp2_with fail
    go_ret
    exact ⟨none, 0, rfl, OwnL.nil, (G.new _ _).trans hg⟩
  | true =>
    rw [stE_ok hok]
    have hb := (stOk_iff s).1 hok
    unfold stOk at hok
    rw [hok] at hs
    clear hok
    obtain ⟨a, b, c⟩ := s
    simp only at hb hs
    obtain ⟨a, rfl⟩ : ∃ n : Nat, a = n := ⟨a.toNat, by omega⟩
    obtain ⟨b, rfl⟩ : ∃ n : Nat, b = n := ⟨b.toNat, by omega⟩
    obtain ⟨c, rfl⟩ : ∃ n : Nat, c = n := ⟨c.toNat, by omega⟩
    have hL : stL ⟨(a : Int), (b : Int), (c : Int)⟩ = vL a ++ (vL b ++ vL c) := rfl
    rw [hL]
    clear hL
    have hv : ∀ (n : Nat) (w' : World), n < 2 ^ 64 → Calls Tryd.prog 65 #[.int .u64 n] w' (RetBytes w' (vL n)) := fun n w' h => varint_any n w' h
    replace hv := Lib.hid hv
    unfold stV at *
    have i0 : ∀ w, (Instr.index 118 (.agg #[.int .i64 a, .int .i64 b, .int .i64 c]) (.int .i64 0)).run Tryd.prog w = .ok (.int .i64 a) w := fun _ => by kernel_rfl
    have i1 : ∀ w, (Instr.index 118 (.agg #[.int .i64 a, .int .i64 b, .int .i64 c]) (.int .i64 1)).run Tryd.prog w = .ok (.int .i64 b) w := fun _ => by kernel_rfl
    have i2 : ∀ w, (Instr.index 118 (.agg #[.int .i64 a, .int .i64 b, .int .i64 c]) (.int .i64 2)).run Tryd.prog w = .ok (.int .i64 c) w := fun _ => by kernel_rfl
    go_enter Tryd.func48, Tryd.ntmps48
    go_wp2_with fail
    refine (hs _).mono ?_
    clear hs
    rintro e w1 ⟨rfl, hg1⟩
    have hg : G w w1 := (G.new _ _).trans hg1
    have c0 := (hg1.cell (b := w.heap.size) (o := 0) (by simp)).trans (show _ = some (.int .i64 a) by rw [blk_cell (blk_new _ _ _)]; rfl)
    have c1 := (hg1.cell (b := w.heap.size) (o := 1) (by simp)).trans (show _ = some (.int .i64 b) by rw [blk_cell (blk_new _ _ _)]; rfl)
    have c2 := (hg1.cell (b := w.heap.size) (o := 2) (by simp)).trans (show _ = some (.int .i64 c) by rw [blk_cell (blk_new _ _ _)]; rfl)
    clear hg1
    go_wp2_with fail
    clear c0 c1 c2
    go_loopw [2, 15] (fun v i wr => ∃ (k : Nat) (m : List UInt8) (A8 : Option Addr) (c8 : Nat), v = .slice A8 m.length c8 ∧ i = .int .i64 k ∧ k ≤ 3 ∧ m.length ≤ k * 10 ∧ Hid (m = ([vL a, vL b, vL c].take k).flatten) ∧ Hid (OwnL 5 1 byteC wr w.heap.size (.slice A8 m.length c8) m) ∧ G w wr) (fun _ i _ => 3 - (intOf i).toNat)
    case atStart => exact ⟨0, [], none, 0, rfl, rfl, by omega, by simp, rfl, OwnL.nil, hg⟩
    case round =>
      clear hg
      obtain ⟨k, m, A8, c8, rfl, rfl, hk, hml, hm, hown, hg⟩ := hrel
      have hk4 : k = 0 ∨ k = 1 ∨ k = 2 ∨ k = 3 := by omega
      rcases hk4 with rfl | rfl | rfl | rfl
      · have hv1 := hv.out a wr (by omega)
        have hvl := vL_len a
        obtain ⟨m2, hm2⟩ : ∃ m2, m ++ vL a = m2 := ⟨_, rfl⟩
        have hm2l : m2.length = m.length + (vL a).length := by rw [← hm2, List.length_append]
        replace hm2 := Lib.hid hm2
        replace hm2l := Lib.hid hm2l
        have hw : IntKind.u64.wrap (a : Int) = (a : Int) := by rw [IntKind.wrap_u64]; omega
        go_wp2_with fail
        refine hv1.mono ?_
        clear hv1
        rintro e w1 ⟨A2, c2, rfl, hown2, hg2⟩
        have hsl2 := OwnL.self byteC_len hown2
        have hown3 := hown.out.g hg2
        have hz2 := hg2.size
        have hA2 : A2 = none → vL a = [] := fun h => (h ▸ hsl2).of_none
        replace hown3 := Lib.hid hown3
        have hg3 := hg.trans hg2
        have hz3 := hg3.size
        clear hown2 hown hg2
        go_wp2_with (at_builtin; refine wpList_append_but byte_elem _ rfl (.tmp 18) (.tmp 21) rfl w.heap.size _ m rfl hown3.out w1.heap.size A2 c2 (vL a) rfl hA2 hsl2 (by omega) (by omega) (by omega) ?_; intro v3 w3 hown4 hkeep3 hbut; clear hbut hA2 hsl2 hown3; rw [hm2.out] at hown4; obtain ⟨A3, c3, e3, _, _, _⟩ := OwnL.sl byteC_len hown4; subst e3; replace hown4 := Lib.hid hown4; replace hkeep3 := hkeep3.g hg3)
        go_roundw
        case rel => exact ⟨0 + 1, m2, A3, c3, rfl, by rfl, by omega, by have := hm2l.out; omega, by unfold Hid; rw [← hm2.out, hm.out]; simp, hown4, hkeep3⟩
        case measure => (simp [intOf] <;> omega)
      · have hv1 := hv.out b wr (by omega)
        have hvl := vL_len b
        obtain ⟨m2, hm2⟩ : ∃ m2, m ++ vL b = m2 := ⟨_, rfl⟩
        have hm2l : m2.length = m.length + (vL b).length := by rw [← hm2, List.length_append]
        replace hm2 := Lib.hid hm2
        replace hm2l := Lib.hid hm2l
        have hw : IntKind.u64.wrap (b : Int) = (b : Int) := by rw [IntKind.wrap_u64]; omega
        go_wp2_with fail
        refine hv1.mono ?_
        clear hv1
        rintro e w1 ⟨A2, c2, rfl, hown2, hg2⟩
        have hsl2 := OwnL.self byteC_len hown2
        have hown3 := hown.out.g hg2
        have hz2 := hg2.size
        have hA2 : A2 = none → vL b = [] := fun h => (h ▸ hsl2).of_none
        replace hown3 := Lib.hid hown3
        have hg3 := hg.trans hg2
        have hz3 := hg3.size
        clear hown2 hown hg2
        go_wp2_with (at_builtin; refine wpList_append_but byte_elem _ rfl (.tmp 18) (.tmp 21) rfl w.heap.size _ m rfl hown3.out w1.heap.size A2 c2 (vL b) rfl hA2 hsl2 (by omega) (by omega) (by omega) ?_; intro v3 w3 hown4 hkeep3 hbut; clear hbut hA2 hsl2 hown3; rw [hm2.out] at hown4; obtain ⟨A3, c3, e3, _, _, _⟩ := OwnL.sl byteC_len hown4; subst e3; replace hown4 := Lib.hid hown4; replace hkeep3 := hkeep3.g hg3)
        go_roundw
        case rel => exact ⟨1 + 1, m2, A3, c3, rfl, by rfl, by omega, by have := hm2l.out; omega, by unfold Hid; rw [← hm2.out, hm.out]; simp, hown4, hkeep3⟩
        case measure => (simp [intOf] <;> omega)
      · have hv1 := hv.out c wr (by omega)
        have hvl := vL_len c
        obtain ⟨m2, hm2⟩ : ∃ m2, m ++ vL c = m2 := ⟨_, rfl⟩
        have hm2l : m2.length = m.length + (vL c).length := by rw [← hm2, List.length_append]
        replace hm2 := Lib.hid hm2
        replace hm2l := Lib.hid hm2l
        have hw : IntKind.u64.wrap (c : Int) = (c : Int) := by rw [IntKind.wrap_u64]; omega
        go_wp2_with fail
        refine hv1.mono ?_
        clear hv1
        rintro e w1 ⟨A2, c2, rfl, hown2, hg2⟩
        have hsl2 := OwnL.self byteC_len hown2
        have hown3 := hown.out.g hg2
        have hz2 := hg2.size
        have hA2 : A2 = none → vL c = [] := fun h => (h ▸ hsl2).of_none
        replace hown3 := Lib.hid hown3
        have hg3 := hg.trans hg2
        have hz3 := hg3.size
        clear hown2 hown hg2
        go_wp2_with (at_builtin; refine wpList_append_but byte_elem _ rfl (.tmp 18) (.tmp 21) rfl w.heap.size _ m rfl hown3.out w1.heap.size A2 c2 (vL c) rfl hA2 hsl2 (by omega) (by omega) (by omega) ?_; intro v3 w3 hown4 hkeep3 hbut; clear hbut hA2 hsl2 hown3; rw [hm2.out] at hown4; obtain ⟨A3, c3, e3, _, _, _⟩ := OwnL.sl byteC_len hown4; subst e3; replace hown4 := Lib.hid hown4; replace hkeep3 := hkeep3.g hg3)
        go_roundw
        case rel => exact ⟨2 + 1, m2, A3, c3, rfl, by rfl, by omega, by have := hm2l.out; omega, by unfold Hid; rw [← hm2.out, hm.out]; simp, hown4, hkeep3⟩
        case measure => (simp [intOf] <;> omega)
      · have he : vL a ++ (vL b ++ vL c) = m := by rw [hm.out]; simp
        replace he := Lib.hid he
        go_wp2_with fail
        go_ret
        rw [he.out]
        exact ⟨A8, c8, rfl, hown.out, hg⟩
theorem num7_own {v0 : Value} {l m : List UInt8} {base n : Nat} {w : World} (hown : OwnL 5 1 byteC w base v0 l) (hbase : base ≤ w.heap.size) (hl : l.length ≤ 1099511627776) (hn : n ≤ 4611686018427387904) (hm : Hid (l ++ vL n = m)) :
    Calls Tryd.prog 51 #[v0, .int .i64 n] w (GrownBytes w base m) := hm.out ▸ num7_any v0 l base n w hown hbase hl n rfl hn
set_option maxRecDepth 100000 in
set_option maxHeartbeats 1000000 in
theorem refStEnc_any (s : St) (w : World) : Calls Tryd.prog 26 #[stV s.wall s.logic s.node] w (RetBytes w (stE s)) := by
  have hs := fun w' => refSound_any s.wall s.logic s.node w'
  cases hok : stOk s with
  | false =>
    rw [stE_no hok]
    unfold stOk at hok
    rw [hok] at hs
    obtain ⟨a, b, c⟩ := s
    unfold stV at *
    clear hok
    go_enter Tryd.func26, Tryd.ntmps26
    go_wp2_with fail
    refine (hs _).mono ?_
    clear hs
    rintro e w1 ⟨rfl, hg⟩
    go_wp2_with fail
    go_ret
    exact ⟨none, 0, rfl, OwnL.nil, (G.new _ _).trans hg⟩
  | true =>
    rw [stE_ok hok]
    have hb := (stOk_iff s).1 hok
    unfold stOk at hok
    rw [hok] at hs
    clear hok
    obtain ⟨a, b, c⟩ := s
    simp only at hb hs
    obtain ⟨a, rfl⟩ : ∃ n : Nat, a = n := ⟨a.toNat, by omega⟩
    obtain ⟨b, rfl⟩ : ∃ n : Nat, b = n := ⟨b.toNat, by omega⟩
    obtain ⟨c, rfl⟩ : ∃ n : Nat, c = n := ⟨c.toNat, by omega⟩
    have hL : stL ⟨(a : Int), (b : Int), (c : Int)⟩ = vL a ++ vL b ++ vL c := by rw [List.append_assoc]; rfl
    obtain ⟨m1, hm1⟩ : ∃ m, vL a = m := ⟨_, rfl⟩
    obtain ⟨m2, hm2⟩ : ∃ m, m1 ++ vL b = m := ⟨_, rfl⟩
    obtain ⟨m3, hm3⟩ : ∃ m, m2 ++ vL c = m := ⟨_, rfl⟩
    rw [hL, hm1, hm2, hm3]
    have l1 : m1.length ≤ 10 := by rw [← hm1]; exact vL_len a
    have l2 : m2.length ≤ 20 := by rw [← hm2, List.length_append]; have := vL_len b; omega
    have h1 : Hid ([] ++ vL a = m1) := hm1
    replace hm1 := Lib.hid hm1
    replace hm2 := Lib.hid hm2
    replace hm3 := Lib.hid hm3
    clear hL
    unfold stV at *
    go_enter Tryd.func26, Tryd.ntmps26
    go_wp2_with fail
    refine (hs _).mono ?_
    clear hs
    rintro e w1 ⟨rfl, hg1⟩
    have hg : G w w1 := (G.new _ _).trans hg1
    have hlt : w.heap.size < w1.heap.size := by have := hg1.size; simp at this; omega
    have c0 : ∀ w', G w1 w' → w'.cell? ⟨w.heap.size, 0, none⟩ = some (.int .i64 a) := fun w' h => ((hg1.trans h).cell (by simp)).trans (by rw [blk_cell (blk_new _ _ _)]; rfl)
    have c1 : ∀ w', G w1 w' → w'.cell? ⟨w.heap.size, 1, none⟩ = some (.int .i64 b) := fun w' h => ((hg1.trans h).cell (by simp)).trans (by rw [blk_cell (blk_new _ _ _)]; rfl)
    have c2 : ∀ w', G w1 w' → w'.cell? ⟨w.heap.size, 2, none⟩ = some (.int .i64 c) := fun w' h => ((hg1.trans h).cell (by simp)).trans (by rw [blk_cell (blk_new _ _ _)]; rfl)
    replace hg := Lib.hid hg
    clear hg1
    go_wp2_with fail
    go_region_held3 (fun w' => G w1 w') (first | exact (G.refl _).drew | exact hk1 | exact hk2 | exact hk3 | fail) (first
      | (go_at_call 51; (with_reducible refine (num7_own (base := w1.heap.size) OwnL.nil (by simp) (by simp) (by omega) h1).mono ?_); rintro e u1 ⟨A1, d1, rfl, hown1, hk1⟩; replace hk1 := KeepT.g hk1 (G.refl w1).drew; have hu1 := hk1.size; replace hown1 := Lib.hid hown1)
      | (go_at_call 51; (with_reducible refine (num7_own (base := w1.heap.size) hown1.out hu1 (by omega) (by omega) hm2).mono ?_); rintro e u2 ⟨A2, d2, rfl, hown2, hk2⟩; replace hk2 := KeepT.g hk2 hk1; have hu2 := hk2.size; replace hown2 := Lib.hid hown2)
      | (go_at_call 51; (with_reducible refine (num7_own (base := w1.heap.size) hown2.out hu2 (by omega) (by omega) hm3).mono ?_); rintro e u3 ⟨A3, d3, rfl, hown3, hk3⟩; replace hk3 := KeepT.g hk3 hk2; replace hown3 := Lib.hid hown3))
    all_goals
      go_wp2_with fail
      go_ret
      exact ⟨A3, d3, rfl, OwnL.mono hown3.out hg.out.size, hg.out.trans hk3⟩
end Go.Proofs.YthafeaclpcjjbaaDoor
/- Records: what they are made of, which fields a kind names, how they are written. Plain mathematics. No condition. -/
namespace Go.Proofs.YthafeaclpcjjbaaDoor
open Go.RowKit

/-- The fields that a kind names. -/
structure Fl where
  n : Bool := false
  dst : Bool := false
  yes : Bool := false
  st : Bool := false
  tx : Bool := false
  nodes : Bool := false
  bat : Bool := false
  span : Bool := false
  sms : Bool := false
def Fl.cells (f : Fl) : Array Value := #[.bool f.n, .bool f.dst, .bool f.yes, .bool f.st, .bool f.tx, .bool f.nodes, .bool f.bat, .bool f.span, .bool f.sms]
def flOf (k : Int) : Fl :=
  if k = 1 ∨ k = 2 ∨ k = 8 then { n := true } else if k = 3 then { bat := true, st := true } else if k = 4 then { tx := true, bat := true, st := true } else if k = 5 then { tx := true, yes := true, st := true }
  else if k = 6 then { tx := true, yes := true, st := true, nodes := true } else if k = 7 then { tx := true } else if k = 9 then { span := true, dst := true } else if k = 10 then { span := true, st := true, sms := true } else if k = 11 then { span := true } else {}
def fOk (k : Int) : Bool := decide (1 ≤ k ∧ k ≤ 11)
theorem kind_cases (k : Int) : k = 1 ∨ k = 2 ∨ k = 3 ∨ k = 4 ∨ k = 5 ∨ k = 6 ∨ k = 7 ∨ k = 8 ∨ k = 9 ∨ k = 10 ∨ k = 11 ∨ fOk k = false := by
  by_cases h : 1 ≤ k ∧ k ≤ 11
  · omega
  · simp [fOk, h]
theorem fOk_no {k : Int} (h : fOk k = false) : ¬ (1 ≤ k ∧ k ≤ 11) := of_decide_eq_false h
/-- A record as plain data. -/
structure RecP where
  kind : Int
  n : Int
  dst : Int
  yes : Bool
  st : St
  x1 : Int
  x2 : Int
  x3 : Int
  nodes : List Int
  key : ByteArray
  ps : List PutP
  r1 : Int
  r2 : Int
  r3 : Int
  r4 : Int
  sms : List Sm
/-- Are the fields zero that are not named? -/
def spareB (r : RecP) (f : Fl) : Bool :=
  (f.n || decide (r.n = 0)) && (f.dst || decide (r.dst = 0)) && (f.yes || !r.yes) && (f.st || decide (r.st = ⟨0, 0, 0⟩)) && (f.tx || decide (r.x1 = 0 ∧ r.x2 = 0 ∧ r.x3 = 0)) && (f.span || decide (r.r1 = 0 ∧ r.r2 = 0 ∧ r.r3 = 0 ∧ r.r4 = 0))
    && (f.nodes || decide (r.nodes = [])) && (f.sms || decide (r.sms.length = 0)) && (f.bat || decide (r.key = ByteArray.empty ∧ r.ps.length = 0))
def rLim : Int := 1125899906842624
/-- The fields that have no list, behind a writer's bytes. -/
def headS (r : RecP) (f : Fl) (s : Option (List UInt8)) : Option (List UInt8) :=
  let s := if f.n = true then addNs 1125899906842624 [r.n] s else s
  let s := if f.tx = true then addNs 1125899906842624 [r.x1, r.x2, r.x3] s else s
  let s := if f.yes = true then s.map (fun l => l ++ [if r.yes = true then 1 else 0]) else s
  let s := if f.bat = true then addB (batL r.key r.ps) s else s
  let s := if f.span = true then addNs 1125899906842624 [r.r1, r.r2, r.r3, r.r4] s else s
  let s := if f.dst = true then addNs 1125899906842624 [r.dst] s else s
  if f.st = true then addB (stE r.st) s else s
/-- Streams behind a writer's bytes. -/
def addSms : List Sm → Option (List UInt8) → Option (List UInt8)
  | [], s => s
  | m :: l, s => addSms l (addB (smL m) s)
theorem addSms_none : ∀ l, addSms l none = none
  | [] => rfl
  | _ :: l => addSms_none l
theorem addSms_drop {l : List Sm} {k : Nat} {m : Sm} (h : l[k]? = some m) (s : Option (List UInt8)) : addSms (l.drop k) s = addSms (l.drop (k + 1)) (addB (smL m) s) := by
  obtain ⟨hk, rfl⟩ := List.getElem?_eq_some_iff.1 h
  rw [List.drop_eq_getElem_cons hk]
  rfl
def listsS (r : RecP) (f : Fl) (s : Option (List UInt8)) : Option (List UInt8) :=
  let s := if f.nodes = true then addNs 1125899906842624 r.nodes (addMany 1125899906842624 r.nodes.length s) else s
  if f.sms = true then addSms r.sms (addMany 1125899906842624 r.sms.length s) else s
/-- A record as bytes; none: it is none. -/
def encR (r : RecP) : Option (List UInt8) :=
  if fOk r.kind = true ∧ spareB r (flOf r.kind) = true then listsS r (flOf r.kind) (headS r (flOf r.kind) (some [UInt8.ofNat r.kind.toNat])) else none
end Go.Proofs.YthafeaclpcjjbaaDoor
/- rec.named: the fields that a kind names. No condition. -/
namespace Go.Proofs.YthafeaclpcjjbaaDoor
open Go.RowKit

theorem fl_of {k : Int} (h : fOk k = false) : flOf k = {} := by
  have := fOk_no h
  unfold flOf
  rw [if_neg (by omega), if_neg (by omega), if_neg (by omega), if_neg (by omega), if_neg (by omega), if_neg (by omega), if_neg (by omega), if_neg (by omega), if_neg (by omega)]
set_option maxRecDepth 100000 in
set_option maxHeartbeats 1000000 in
theorem recNamed_any (k : Int) (w : World) : Calls Tryd.prog 22 #[.int .i64 k] w fun e w' => e = .returned (.tuple #[.agg (flOf k).cells, .bool (fOk k)]) ∧ G w w' := by
  rcases kind_cases k with rfl | rfl | rfl | rfl | rfl | rfl | rfl | rfl | rfl | rfl | rfl | hno
  case inr.inr.inr.inr.inr.inr.inr.inr.inr.inr.inr =>
    rw [fl_of hno, hno]
    have h0 := fOk_no hno
    have t1 : (k == 1) = false := by rw [beq_eq_false_iff_ne]; omega
    have t2 : (k == 2) = false := by rw [beq_eq_false_iff_ne]; omega
    have t3 : (k == 3) = false := by rw [beq_eq_false_iff_ne]; omega
    have t4 : (k == 4) = false := by rw [beq_eq_false_iff_ne]; omega
    have t5 : (k == 5) = false := by rw [beq_eq_false_iff_ne]; omega
    have t6 : (k == 6) = false := by rw [beq_eq_false_iff_ne]; omega
    have t7 : (k == 7) = false := by rw [beq_eq_false_iff_ne]; omega
    have t8 : (k == 8) = false := by rw [beq_eq_false_iff_ne]; omega
    have t9 : (k == 9) = false := by rw [beq_eq_false_iff_ne]; omega
    have t10 : (k == 10) = false := by rw [beq_eq_false_iff_ne]; omega
    have t11 : (k == 11) = false := by rw [beq_eq_false_iff_ne]; omega
    clear h0 hno
    go_enter Tryd.func22, Tryd.ntmps22
    go_wp2_with fail
    refine bodyPost_ret (v := .tuple #[.agg (Fl.cells {}), .bool false]) (by simp [results, Tryd.results22, go_sem, Fl.cells]) rfl ?_
    exact ⟨rfl, G.new _ _⟩
  all_goals
    go_enter Tryd.func22, Tryd.ntmps22
    go_wp2_with fail
    refine bodyPost_ret ?_ rfl ⟨rfl, G.new _ _⟩
    simp [results, Tryd.results22, go_sem, Fl.cells, flOf, fOk]
end Go.Proofs.YthafeaclpcjjbaaDoor

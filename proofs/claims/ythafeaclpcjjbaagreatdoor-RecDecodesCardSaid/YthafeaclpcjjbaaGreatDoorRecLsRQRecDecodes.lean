/- rec.reader.lists: the lists. Conditions: at most 2^19 bytes; the decoder's tables lie as the library lays them, be the reader and the record turned. -/
import Derived.Test.YthafeaclpcjjbaaGreatDoorRecHdRQRecDecodes
import Derived.Test.YthafeaclpcjjbaaGreatDoorRecListsQRecDecodes
import Derived.Test.YthafeaclpcjjbaaGreatDoorM26RecDecodes
namespace Go.Proofs.YthafeaclpcjjbaaGreatDoor
open Go.RowKit
/-- What the reading of the lists leaves as it was. -/
def Kl (R X base : Nat) (w w' : World) : Prop := But (fun k => k = R ∨ k = X ∨ base ≤ k) w w' ∧ ∀ (k : Nat) (cs : Array Value) (t : TypeId), t ≠ 3 → t ≠ 87 → k ≠ R → k ≠ X → w.heap[k]? = some (.cells cs t (0, 0)) → w'.heap[k]? = some (.cells cs t (0, 0))
theorem Kl.refl (R X base : Nat) (w : World) : Kl R X base w w := ⟨But.refl _ _, fun _ _ _ _ _ _ _ h => h⟩
theorem Kl.trans {R X base : Nat} {a b c : World} (h : Kl R X base a b) (k : Kl R X base b c) : Kl R X base a c := ⟨h.1.trans k.1, fun i cs t h1 h2 h3 h4 hc => k.2 i cs t h1 h2 h3 h4 (h.2 i cs t h1 h2 h3 h4 hc)⟩
theorem Kl.of_g {R X base : Nat} {a b : World} (h : G a b) : Kl R X base a b := ⟨But.of_g h, fun _ _ _ _ _ _ _ hc => h.blk hc⟩
theorem Kl.of_but {R X base : Nat} {a b : World} (h : But (fun k => k = R ∨ k = X) a b) : Kl R X base a b := ⟨h.mono fun _ _ hk => hk.imp id .inl, fun k _ _ _ _ h1 h2 hc => h.blk hc (by rintro (e | e); exact h1 e; exact h2 e)⟩
section
variable {R X D L base : Nat} {w0 wx wz : World} {d : Reader RecP} {st0 st st1 : Option (List UInt8)} {r : RecM}
/-- Numbers are put behind the record's. -/
theorem RcSt.pushN (h : RcSt X base r wx) {ns' : List Int} {A' : Option Addr} {c' : Nat} (hown : OwnL 3 1 intC wz base (.slice A' ns'.length c') ns') (hk : KeepT 3 base wx wz) (hb : But (fun k => some k = (Value.slice r.An r.nodes.length r.cn).ownBlock) wx wz) :
  wz.frozen? ⟨X, 10, none⟩ = false ∧ (∃ u, wz.cell? ⟨X, 10, none⟩ = some u) ∧ RcSt X base { r with An := A', cn := c', nodes := ns' } (wz.setCell ⟨X, 10, none⟩ (.slice A' ns'.length c')) ∧ But (fun k => k = X ∨ base ≤ k) wx (wz.setCell ⟨X, 10, none⟩ (.slice A' ns'.length c')) ∧ Kl R X base wx (wz.setCell ⟨X, 10, none⟩ (.slice A' ns'.length c')) := by
 have hX := hk.2 _ _ _ _ (by decide) h.blk
 have hty : ∀ (k : Nat) (cs : Array Value) (t : TypeId), some k = (Value.slice r.An r.nodes.length r.cn).ownBlock → wx.heap[k]? = some (.cells cs t (0, 0)) → t = 3 := fun k cs t hk' hc => by
  obtain ⟨_, _, c, hc2⟩ := h.nodes.blk hk'.symm
  rw [hc] at hc2
  simp at hc2
  exact hc2.2
 have hx := but_set wz X 10 (.slice A' ns'.length c')
 have hxt : ∀ (k : Nat) (cs : Array Value) (t : TypeId), k = X → wz.heap[k]? = some (.cells cs t (0, 0)) → t = 36 := by
  rintro k cs t rfl hc
  rw [hX] at hc
  simp at hc
  exact hc.2.symm
 refine ⟨by simp [World.frozen?, hX], ⟨_, (blk_cell hX 10).trans rfl⟩, ⟨?_, ?_, ?_, ?_, h.key, h.psz, h.smz⟩, (hb.mono fun k _ hS => .inr (h.nodes.blk hS.symm).1).trans (hx.mono fun k _ hS => .inl hS), ?_⟩
 ·rw [blk_put hX]
  rfl
 ·exact hown.but' hx fun k hk' e => by
   obtain ⟨_, _, c, hc2⟩ := hown.blk hk'
   have := hxt k c _ e hc2
   revert this
   decide
 ·exact (h.puts.but hb fun k cs t hS hc => by rw [hty k cs t hS hc]; decide).but hx fun k cs t hS hc => by rw [hxt k cs t hS hc]; decide
 ·exact (h.sms.but hb fun k cs t hS hc => by rw [hty k cs t hS hc]; decide).but hx fun k cs t hS hc => by rw [hxt k cs t hS hc]; decide
 ·exact ⟨(hb.mono fun k _ hS => .inr (.inr (h.nodes.blk hS.symm).1)).trans (hx.mono fun k _ hS => .inr (.inl hS)), fun k cs t h1 _ _ h4 hc => (hx.blk (hk.2 _ _ _ _ h1 hc) h4)⟩
/-- A stream is put behind the record's. -/
theorem RcSt.pushS (h : RcSt X base r wx) {ss' : List SmM} {A' : Option Addr} {c' : Nat} (hown : OwnL 87 3 SmM.cells wz base (.slice A' ss'.length c') ss') (hk : KeepT 87 base wx wz) (hb : But (fun k => some k = (Value.slice r.As r.sms.length r.cs).ownBlock) wx wz)
  (hall : ∀ s ∈ ss', SmOwn base s.Ae s.ce s.es s.Ak s.ck s.ks wx ∧ SmSmall s.name s.es s.ks) :
  wz.frozen? ⟨X, 17, none⟩ = false ∧ (∃ u, wz.cell? ⟨X, 17, none⟩ = some u) ∧ RcSt X base { r with As := A', cs := c', sms := ss' } (wz.setCell ⟨X, 17, none⟩ (.slice A' ss'.length c')) ∧ But (fun k => k = X ∨ base ≤ k) wx (wz.setCell ⟨X, 17, none⟩ (.slice A' ss'.length c')) ∧ Kl R X base wx (wz.setCell ⟨X, 17, none⟩ (.slice A' ss'.length c')) := by
 have hX := hk.2 _ _ _ _ (by decide) h.blk
 have hty : ∀ (k : Nat) (cs : Array Value) (t : TypeId), some k = (Value.slice r.As r.sms.length r.cs).ownBlock → wx.heap[k]? = some (.cells cs t (0, 0)) → t = 87 := fun k cs t hk' hc => by
  obtain ⟨_, _, c, hc2⟩ := h.sms.row.blk hk'.symm
  rw [hc] at hc2
  simp at hc2
  exact hc2.2
 have hx := but_set wz X 17 (.slice A' ss'.length c')
 have hxt : ∀ (k : Nat) (cs : Array Value) (t : TypeId), k = X → wz.heap[k]? = some (.cells cs t (0, 0)) → t = 36 := by
  rintro k cs t rfl hc
  rw [hX] at hc
  simp at hc
  exact hc.2.symm
 refine ⟨by simp [World.frozen?, hX], ⟨_, (blk_cell hX 17).trans rfl⟩, ⟨?_, ?_, ?_, ⟨?_, fun s hs => ?_⟩, h.key, h.psz, fun s hs => (hall s hs).2⟩, (hb.mono fun k _ hS => .inr (h.sms.row.blk hS.symm).1).trans (hx.mono fun k _ hS => .inl hS), ?_⟩
 ·rw [blk_put hX]
  rfl
 ·exact (h.nodes.keepT hk (by decide)).but' hx fun k hk' e => by
   obtain ⟨_, _, c, hc2⟩ := (h.nodes.keepT hk (by decide)).blk hk'
   have := hxt k c _ e hc2
   revert this
   decide
 ·exact (h.puts.but hb fun k cs t hS hc => by rw [hty k cs t hS hc]; decide).but hx fun k cs t hS hc => by rw [hxt k cs t hS hc]; decide
 ·exact hown.but' hx fun k hk' e => by
   obtain ⟨_, _, c, hc2⟩ := hown.blk hk'
   have := hxt k c _ e hc2
   revert this
   decide
 ·exact ((hall s hs).1.but hb fun k cs t hS hc => by rw [hty k cs t hS hc]; decide).but hx fun k cs t hS hc => by rw [hxt k cs t hS hc]; decide
 ·exact ⟨(hb.mono fun k _ hS => .inr (.inr (h.sms.row.blk hS.symm).1)).trans (hx.mono fun k _ hS => .inr (.inl hS)), fun k cs t _ h1 _ h4 hc => (hx.blk (hk.2 _ _ _ _ h1 hc) h4)⟩
end
theorem rec_strm {R D L : Nat} {st : Option (List UInt8)} {w : World} {cs : Array Value} (h : BrS 53 R D L st w) (hk : w.heap[R]? = some (.cells cs 87 (0, 0))) : False := by
 obtain ⟨c, h1⟩ := h.blk
 rw [h1] at hk
 simp at hk
/-- How the lists stand at a loop's head. -/
structure LsSt (R X D L base : Nat) (w0 : World) (r : RecM) (st : Option (List UInt8)) (wx : World) : Prop where
 rd : BrS 53 R D L st wx
 rc : RcSt X base r wx
 but : Kl R X base w0 wx
def LsEx (R X D L base : Nat) (w0 : World) (d : Reader RecP) (st0 : Option (List UInt8)) (wx : World) : Prop := ∃ r st, LsSt R X D L base w0 r st wx ∧ Gives d st0 st r.p
def LsEx0 (R X D L base : Nat) (w0 : World) (d : Reader RecP) (st0 : Option (List UInt8)) (wx : World) : Prop := ∃ r st, LsSt R X D L base w0 r st wx ∧ Gives d st0 st r.p ∧ r.sms = []
section
variable {R X D L base : Nat} {w0 wx wy wz : World} {st st1 : Option (List UInt8)} {r r' : RecM}
theorem LsSt.call (h : LsSt R X D L base w0 r st wx) (hRX : R ≠ X) (hr : BrS 53 R D L st1 wy) (hb : But (fun k => k = R) wx wy) : LsSt R X D L base w0 r st1 wy := ⟨hr, h.rc.reader h.rd hRX hb, h.but.trans (.of_but (hb.mono fun _ _ h => .inl h))⟩
theorem LsSt.g (h : LsSt R X D L base w0 r st wx) (hg : G wx wy) : LsSt R X D L base w0 r st wy := ⟨h.rd.g hg, h.rc.g hg, h.but.trans (.of_g hg)⟩
theorem LsSt.own (h : LsSt R X D L base w0 r st wx) (hRX : R ≠ X) (hDX : D ≤ X) (hDb : D ≤ base) (hRb : R < base) (hrc : RcSt X base r' wz) (hb : But (fun k => k = X ∨ base ≤ k) wx wz) (hk : Kl R X base wx wz) : LsSt R X D L base w0 r' st wz :=
 ⟨h.rd.but hb fun k hk => by
  rcases hk with rfl | hk
  ·exact ⟨hDX, fun e => hRX e.symm⟩
  ·exact ⟨by omega, by omega⟩, hrc, h.but.trans hk⟩
end
def LsPost (R X D L base : Nat) (w : World) (d : Reader RecP) (st0 : Option (List UInt8)) (e : Ending) (w' : World) : Prop := e = .returned (.tuple #[]) ∧ ∃ w0, G w w0 ∧ LsEx R X D L base w0 d st0 w'
set_option maxRecDepth 100000 in
set_option maxHeartbeats 8000000 in
theorem recLsR_any (f : Fl) (R X D L base : Nat) (r0 : RecM) (st0 : Option (List UInt8)) (w : World) (hrd : BrS 53 R D L st0 w) (hrc : RcSt X base r0 w) (h0n : r0.nodes = []) (h0s : r0.sms = []) (hRX : R ≠ X) (hDX : D ≤ X) (hDb : D ≤ base) (hRb : R < base) (hbase : base ≤ w.heap.size) (hL : L ≤ 524288) (hT : ∀ w1 w2, G w w1 → Kl R X base w1 w2 → Tabs w2) :
  Calls Tryz.prog 12 #[.pointer (some ⟨R, 0, none⟩), .pointer (some ⟨X, 0, none⟩), .agg f.cells] w (LsPost R X D L base w (dLists f r0.p) st0) := by
 have hg0 := G.new w (.cells f.cells 48)
 have BF := blk_new w f.cells 48
 have hR := hrd.lt
 have hX := hrc.lt
 have hDR := hrd.le
 have hs : LsSt R X D L base (w.alloc (.cells f.cells 48)) r0 st0 (w.alloc (.cells f.cells 48)) := ⟨hrd.g hg0, hrc.g hg0, Kl.refl _ _ _ _⟩
 have hTw : ∀ w', Kl R X base (w.alloc (.cells f.cells 48)) w' → Tabs w' := fun w' h => hT _ _ hg0 h
 have hzb := hg0.size
 have hzw : (w.alloc (.cells f.cells 48)).heap.size = w.heap.size + 1 := by simp
 obtain ⟨l0, hl0⟩ : ∃ l0 : List UInt8, l0.length = L := ⟨List.replicate L 0, by simp⟩
 clear hrd hrc hT
 replace hs := Lib.hid hs
 replace hTw := Lib.hid hTw
 replace hg0 := Lib.hid hg0
 replace BF := Lib.hid BF
 replace hzw := Lib.hid hzw
 replace hl0 := Lib.hid hl0
 replace h0n := Lib.hid h0n
 replace h0s := Lib.hid h0s
 go_enter Tryz.func12, Tryz.ntmps12
 go_upto_region 1 with fail
 have gf := (blk_cell BF.out 5).trans (show _ = some (.bool f.nodes) from rfl)
 generalize w.alloc (.cells f.cells 48) = W0 at *
 go_upto_if 12 with fail
 go_cut [] (fun wz => LsEx0 R X D L base W0 (rb (rp r0.p) (dL1 f)) st0 wz)
 case first =>
  cases hf : f.nodes with
  | false =>
   rw [hf] at gf
   have hs' := Lib.hid (⟨r0, st0, hs.out, (Gives.ret r0.p).bind (by unfold dL1; rw [hf]; exact Gives.ret _), h0s.out⟩ : LsEx0 R X D L base W0 (rb (rp r0.p) (dL1 f)) st0 W0)
   replace hf := Lib.hid hf
   clear hs
   go_wp2_with fail
   go_meet
   exact hs'.out
  | true =>
   rw [hf] at gf
   replace hf := Lib.hid hf
   obtain ⟨N, s1, hN⟩ : ∃ v s, gv 0 cR st0 = (v, s) := ⟨_, _, rfl⟩
   have hNb : N ≤ 1125899906842624 := gv_bound (P := (· ≤ 1125899906842624)) hN (by decide) (fun l y r h => (dCount_num h).2)
   have hc := recNum_any R D L st0 _ hs.out.rd (by omega)
   rw [hN] at hc
   replace hc := Lib.hid hc
   have hgN := Lib.hid (gv_gives hN)
   replace hN := Lib.hid hN
   go_wp2_with (go_at_call 29; (with_reducible refine Calls.mono hc.out ?_); rintro e w3 ⟨rfl, hr3, hb3⟩; have hs3 := Lib.hid (hs.out.call hRX hr3 hb3); clear hr3 hb3)
   have hlf : Hid (Left l0 0 s1) := Lib.hid (Left.start fun l' e => by have := hs3.out.rd; rw [e] at this; have := this.len; rw [hl0.out]; omega)
   clear hs hc gf
   go_loopw [6] (fun i wr => ∃ (k : Nat) (An : Option Addr) (cn : Nat) (ns : List Nat) (st : Option (List UInt8)), i = .int .i64 k ∧ k ≤ 1125899906842624 ∧ Hid (Left l0 ns.length st) ∧ Hid (LsSt R X D L base W0 { r0 with An := An, cn := cn, nodes := ofN ns } st wr) ∧ Hid (More cR N k s1 st ns)) (fun i _ => (intOf i).toNat)
   case atStart =>
    refine ⟨N, r0.An, r0.cn, [], s1, rfl, hNb, hlf, ?_, More.start _ _ _⟩
    have h := hs3.out
    rw [show r0 = { r0 with An := r0.An, cn := r0.cn, nodes := ofN [] } from by rw [show ofN [] = r0.nodes from h0n.out.symm]] at h
    exact Lib.hid h
   case round =>
    obtain ⟨wo, rfl⟩ : ∃ wo : World, wo = wr := ⟨_, rfl⟩
    clear hs3 hlf
    obtain ⟨k, An, cn, ns, st, rfl, hkb, hlf, hs, hmo⟩ := hrel
    have q1 := hs.out.rd.c1
    cases st with
    | none =>
     have hend := Lib.hid (⟨{ r0 with An := An, cn := cn, nodes := ofN ns }, none, hs.out, (Gives.ret r0.p).bind (by unfold dL1; rw [if_pos hf.out]; exact hgN.out.bind ((hmo.out.end (.inr rfl)).bind (Gives.ret _))), h0s.out⟩ : LsEx0 R X D L base W0 (rb (rp r0.p) (dL1 f)) st0 wo)
     simp only [Option.isNone_none] at q1
     by_cases hk : k = 0
     ·subst hk
      go_wp2_with fail
      go_meet
      exact hend.out
     ·have hk' : 0 < (k : Int) := by omega
      go_wp2_with fail
      go_meet
      exact hend.out
    | some lx =>
     simp only [Option.isNone_some] at q1
     by_cases hk : k = 0
     ·have hend := Lib.hid (⟨{ r0 with An := An, cn := cn, nodes := ofN ns }, some lx, hs.out, (Gives.ret r0.p).bind (by unfold dL1; rw [if_pos hf.out]; exact hgN.out.bind ((hmo.out.end (.inl hk)).bind (Gives.ret _))), h0s.out⟩ : LsEx0 R X D L base W0 (rb (rp r0.p) (dL1 f)) st0 wo)
      replace hmo := Lib.hid hmo
      subst hk
      go_wp2_with fail
      go_meet
      exact hend.out
     ·obtain ⟨j, rfl⟩ : ∃ j, k = j + 1 := ⟨k - 1, by omega⟩
      have hk' : 0 < ((j + 1 : Nat) : Int) := by omega
      have hid := hs.out.g (G.refl wo).drew
      have x1 := (blk_cell hid.rc.blk 10).trans (show _ = some (.slice An (ofN ns).length cn) from rfl)
      have x1w := (blk_cell hs.out.rc.blk 10).trans (show _ = some (.slice An (ofN ns).length cn) from rfl)
      have hlen : (ofN ns).length ≤ 524289 := by rw [ofN_len]; exact hlf.out.1
      obtain ⟨v, s2, hv⟩ : ∃ v s, gv 0 cR (some lx) = (v, s) := ⟨_, _, rfl⟩
      have hc := recNum_any R D L (some lx) _ hid.rd (by omega)
      rw [hv] at hc
      have hg2 := gv_gives hv
      have hmo2 := hmo.out.step hg2
      have hlf2 := Left.step hlf.out (by rw [hl0.out]; exact hL) (eats_count _) hg2
      obtain ⟨ns', hns⟩ : ∃ ns', ns ++ [v] = ns' := ⟨_, rfl⟩
      have hel : ns.length + 1 = ns'.length := by rw [← hns]; simp
      have hes : ofN ns ++ [(v : Int)] = ofN ns' := by rw [← hns]; exact ofN_snoc ns v
      rw [hns] at hmo2
      rw [hel] at hlf2
      replace hv := Lib.hid hv
      replace hg2 := Lib.hid hg2
      replace hmo2 := Lib.hid hmo2
      replace hlf2 := Lib.hid hlf2
      replace hns := Lib.hid hns
      replace hel := Lib.hid hel
      replace hes := Lib.hid hes
      replace hid := Lib.hid hid
      replace hc := Lib.hid hc
      clear hk hs
      go_upto_region 5 with fail
      go_region_law (first
       | (refine step_append_but int_elem10 _ (by kernel_rfl) (.tmp 30) (.tmp 33) rfl base _ (ofN ns) rfl (hi5.out.rc.nodes.g (G.new _ _)) (w5.heap.size + 1) (some ⟨w5.heap.size, 0, none⟩) 1 [(v : Int)] rfl (by intro h; cases h) (Sl.of_blk intC_len _ (blk_new _ _ _) rfl (by omega)) (by simp; omega) (by simp; omega) (by have := hz5; simp; omega) ?_; intro v6 w6 hown6 hk6 hb6; rw [hes.out] at hown6; obtain ⟨A6, c6, e6, _, _, _⟩ := OwnL.sl intC_len hown6; subst e6; obtain ⟨zf, ⟨u, zc⟩, hd6, hbx, hkl⟩ := (hi5.out.rc.g (G.new _ _)).pushN (R := R) hown6 hk6 hb6; have hd7 := Lib.hid ((hi5.out.g (G.new _ _)).own hRX hDX hDb hRb hd6 hbx hkl); clear hd6 hbx hkl hown6 hk6 hb6)
       | (go_simp; go_at_call 29; refine Calls.mono hc.out ?_; rintro e w5 ⟨rfl, hr5, hb5⟩; have hi5 := hid.out.call hRX hr5 hb5; have x5 := (blk_cell hi5.rc.blk 10).trans (show _ = some (.slice An (ofN ns).length cn) from rfl); have x5b := (blk_cell (hi5.rc.g (G.new w5 (.cells #[.int .i64 v] 3))).blk 10).trans (show _ = some (.slice An (ofN ns).length cn) from rfl); have hz5 : base ≤ w5.heap.size := (by have := hi5.but.1.size; omega); replace hi5 := Lib.hid hi5; clear hr5 hb5))
      all_goals
       go_wp2_with fail
       go_roundw
       case rel => exact ⟨j, A6, c6, ns', s2, by first | go_num | rfl, by omega, hlf2, hd7, hmo2⟩
       case measure => (simp [intOf] <;> omega)
 case rest =>
  clear gf hs
  obtain ⟨r, st, hs, hg1, hr0s⟩ := hcut
  have BF' := hs.but.2 _ _ _ (by decide) (by decide) (by omega) (by omega) BF.out
  have gf := (blk_cell BF' 8).trans (show _ = some (.bool f.sms) from rfl)
  clear BF'
  replace hs := Lib.hid hs
  replace hg1 := Lib.hid hg1
  replace hr0s := Lib.hid hr0s
  cases hf : f.sms with
  | false =>
   rw [hf] at gf
   have hs' : LsEx R X D L base W0 (dLists f r0.p) st0 wc := ⟨r, st, hs.out, hg1.out.bind (by unfold dL2; rw [hf]; exact Gives.ret _)⟩
   replace hs' := Lib.hid hs'
   replace hf := Lib.hid hf
   clear hs
   go_wp2_with fail
   go_end0
   exact ⟨rfl, W0, hg0.out, hs'.out⟩
  | true =>
   rw [hf] at gf
   replace hf := Lib.hid hf
   obtain ⟨N, s1, hN⟩ : ∃ v s, gv 0 cR st = (v, s) := ⟨_, _, rfl⟩
   have hNb : N ≤ 1125899906842624 := gv_bound (P := (· ≤ 1125899906842624)) hN (by decide) (fun l y r h => (dCount_num h).2)
   have hc := recNum_any R D L st _ hs.out.rd (by omega)
   rw [hN] at hc
   replace hc := Lib.hid hc
   have hgN := Lib.hid (gv_gives hN)
   replace hN := Lib.hid hN
   go_wp2_with (go_at_call 29; (with_reducible refine Calls.mono hc.out ?_); rintro e w3 ⟨rfl, hr3, hb3⟩; have hs3 := Lib.hid (hs.out.call hRX hr3 hb3); clear hr3 hb3)
   have hlf : Hid (Left l0 0 s1) := Lib.hid (Left.start fun l' e => by have := hs3.out.rd; rw [e] at this; have := this.len; rw [hl0.out]; omega)
   clear hs hc gf
   have hfin : ∀ (wx : World) (r' : RecM) (st' : Option (List UInt8)) (ss : List Sm), LsSt R X D L base W0 r' st' wx → r'.p = { r.p with sms := ss } → Gives (dMany dStream N) s1 st' ss → LsEx R X D L base W0 (dLists f r0.p) st0 wx := fun wx r' st' ss h1 h2 h3 => ⟨r', st', h1, hg1.out.bind (by unfold dL2; rw [if_pos hf.out, h2]; exact hgN.out.bind (h3.bind (Gives.ret _)))⟩
   replace hfin := Lib.hid hfin
   go_loopw [7] (fun i wr => ∃ (k : Nat) (As : Option Addr) (cs : Nat) (ss : List SmM) (st : Option (List UInt8)), i = .int .i64 k ∧ k ≤ 1125899906842624 ∧ Hid (Left l0 ss.length st) ∧ Hid (LsSt R X D L base W0 { r with As := As, cs := cs, sms := ss } st wr) ∧ Hid (More dStream N k s1 st (ss.map SmM.sm))) (fun i _ => (intOf i).toNat)
   case atStart =>
    refine ⟨N, r.As, r.cs, [], s1, rfl, hNb, hlf, ?_, More.start _ _ _⟩
    have h := hs3.out
    rw [show r = { r with As := r.As, cs := r.cs, sms := [] } from by rw [← hr0s.out]] at h
    exact Lib.hid h
   case round =>
    obtain ⟨wo, rfl⟩ : ∃ wo : World, wo = wr := ⟨_, rfl⟩
    clear hs3 hlf
    obtain ⟨k, As, cs, ss, st, rfl, hkb, hlf, hs, hmo⟩ := hrel
    have q1 := hs.out.rd.c1
    cases st with
    | none =>
     have hend := Lib.hid (hfin.out wo _ none (ss.map SmM.sm) hs.out rfl (hmo.out.end (.inr rfl)))
     simp only [Option.isNone_none] at q1
     by_cases hk : k = 0
     ·subst hk
      go_wp2_with fail
      go_end0
      exact ⟨rfl, W0, hg0.out, hend.out⟩
     ·have hk' : 0 < (k : Int) := by omega
      go_wp2_with fail
      go_end0
      exact ⟨rfl, W0, hg0.out, hend.out⟩
    | some lx =>
     simp only [Option.isNone_some] at q1
     by_cases hk : k = 0
     ·have hend := Lib.hid (hfin.out wo _ (some lx) (ss.map SmM.sm) hs.out rfl (hmo.out.end (.inl hk)))
      replace hmo := Lib.hid hmo
      subst hk
      go_wp2_with fail
      go_end0
      exact ⟨rfl, W0, hg0.out, hend.out⟩
     ·obtain ⟨j, rfl⟩ : ∃ j, k = j + 1 := ⟨k - 1, by omega⟩
      have hk' : 0 < ((j + 1 : Nat) : Int) := by omega
      obtain ⟨A, c, g1, g2, g3⟩ := hs.out.rd.row
      have g4 := hs.out.rd.len
      have hzx := hs.out.rd.lt
      have hbw : base ≤ wo.heap.size := by have := hs.out.but.1.size; omega
      have c0 := (blk_cell g1 0).trans (show _ = some (.slice A lx.length c) from rfl)
      have hcb := Lib.hid (decStream_any lx A c wo (g2.more (by omega)) (by omega) g3 (hTw.out _ hs.out.but))
      have hlen : ss.length ≤ 524289 := hlf.out.1
      replace g1 := Lib.hid g1
      clear g2 g3 hk
      go_upto_region 11 with (go_at_call 33; (with_reducible refine Calls.mono hcb.out ?_); rintro e u1 ⟨nm, Ae, Ak, ce, ck, es, ks, n, ec, rfl, hbt, hsz, hso, hg1'⟩; replace hbt := Lib.hid hbt; replace hsz := Lib.hid hsz; replace hso := Lib.hid hso)
      clear c0 hcb g1 q1
      have hG8 := G.new u1 (.cells #[.string nm, .slice Ae es.length ce, .slice Ak ks.length ck] 87)
      have hK8 := blk_new u1 #[.string nm, .slice Ae es.length ce, .slice Ak ks.length ck] 87
      have hd8 := (hs.out.g hg1').g hG8
      have hso8 := (hso.out.mono (base' := base) hbw).g hG8
      generalize u1.alloc (.cells #[.string nm, .slice Ae es.length ce, .slice Ak ks.length ck] 87) = w8 at *
      generalize u1.heap.size = b8 at *
      have hgn : (dStream lx = none ∧ n = 0) ∨ ∃ q, dStream lx = some (⟨nm, es, ks⟩, q) ∧ 0 < n ∧ n ≤ lx.length ∧ lx.drop n = q := by
       have h1 := hbt.out
       cases hd : dStream lx with
       | none =>
        rw [hd] at h1
        simp only [smT, Prod.mk.injEq] at h1
        exact .inl ⟨rfl, h1.2.1.symm⟩
       | some y =>
        obtain ⟨y, q⟩ := y
        rw [hd] at h1
        simp only [smT, Prod.mk.injEq] at h1
        obtain ⟨e1, e2, _⟩ := h1
        have h2 := cn_took cn_stream eats_stream hd
        rw [e1, ← e2]
        exact .inr ⟨q, rfl, h2.1, h2.2.1, h2.2.2⟩
      have htk : ∀ l', some lx = some l' → n ≤ l'.length := fun l' e => by
       cases e
       rcases hgn with ⟨_, h⟩ | ⟨_, _, _, h, _⟩ <;> omega
      have hto := Lib.hid (recTake_any R D L (some lx) n w8 hd8.rd htk (by omega))
      have hgs : Gives dStream (some lx) (tk (some lx) n) ⟨nm, es, ks⟩ := tk_gives fun l' e => by
       cases e
       rcases hgn with ⟨h1, h2⟩ | ⟨q, h1, h2, _, h3⟩
       ·exact .inl ⟨h1, h2⟩
       ·exact .inr ⟨q, h1, h2, h3⟩
      obtain ⟨s2, hs2⟩ : ∃ s, tk (some lx) n = s := ⟨_, rfl⟩
      rw [hs2] at hto hgs
      obtain ⟨y, hy⟩ : ∃ y : SmM, y = ⟨nm, Ae, ce, es, Ak, ck, ks⟩ := ⟨_, rfl⟩
      obtain ⟨ss', hss⟩ : ∃ ss', ss ++ [y] = ss' := ⟨_, rfl⟩
      have hmo2 := hmo.out.step hgs
      rw [show ss.map SmM.sm ++ [(⟨nm, es, ks⟩ : Sm)] = ss'.map SmM.sm from by rw [← hss, hy, List.map_append]; rfl] at hmo2
      have hlf2 := Left.step hlf.out (by rw [hl0.out]; exact hL) eats_stream hgs
      rw [show ss.length + 1 = ss'.length from by rw [← hss]; simp] at hlf2
      replace hs2 := Lib.hid hs2
      replace hy := Lib.hid hy
      replace hss := Lib.hid hss
      replace hmo2 := Lib.hid hmo2
      replace hlf2 := Lib.hid hlf2
      replace hgs := Lib.hid hgs
      replace hgn := Lib.hid hgn
      replace hK8 := Lib.hid hK8
      replace hd8 := Lib.hid hd8
      replace hso8 := Lib.hid hso8
      clear htk hg1' hG8 hs hso
      go_upto_region 12 with (go_at_call 31; (with_reducible refine Calls.mono hto.out ?_); rintro e u2 ⟨b2, rfl, hr2, hb2⟩; have hd2 := Lib.hid (hd8.out.call hRX hr2 hb2); have hK2 := Lib.hid (hb2.blk hK8.out (by intro h; rw [h] at hK8; exact rec_strm hd8.out.rd hK8.out)); have hso2 := Lib.hid (hso8.out.but hb2 (fun k cs t hk hc => ((reader_alien hd8.out.rd hRX k hk).2 cs t hc).2.2.2)); clear hr2 hb2)
      have hGd : G u2 (u2.alloc (.cells #[.string nm, .slice Ae es.length ce, .slice Ak ks.length ck] 87)).drew := ((G.refl u2).alloc _).drew
      have hKd := hK2.out
      have hYd := (G.refl (u2.alloc (.cells #[.string nm, .slice Ae es.length ce, .slice Ak ks.length ck] 87))).drew.blk (blk_new u2 #[.string nm, .slice Ae es.length ce, .slice Ak ks.length ck] 87)
      have x17 := (blk_cell hd2.out.rc.blk 17).trans (show _ = some (.slice As ss.length cs) from rfl)
      have x17b := (blk_cell (hd2.out.rc.g (G.new u2 (.cells #[.string nm, .slice Ae es.length ce, .slice Ak ks.length ck] 87))).blk 17).trans (show _ = some (.slice As ss.length cs) from rfl)
      have k0 := (blk_cell hKd 0).trans (show _ = some (.string nm) from rfl)
      have k1 := (blk_cell hKd 1).trans (show _ = some (.slice Ae es.length ce) from rfl)
      have k2 := (blk_cell hKd 2).trans (show _ = some (.slice Ak ks.length ck) from rfl)
      have hzd : base ≤ u2.heap.size := by have := hd2.out.but.1.size; omega
      have hall : ∀ s ∈ ss', SmOwn base s.Ae s.ce s.es s.Ak s.ck s.ks u2 ∧ SmSmall s.name s.es s.ks := fun s hm => by
       rw [← hss.out] at hm
       rcases List.mem_append.1 hm with h | h
       ·exact ⟨hd2.out.rc.sms.each s h, hd2.out.rc.smz s h⟩
       ·rw [List.mem_singleton] at h
        subst h
        rw [hy.out]
        exact ⟨hso2.out, hsz.out⟩
      have hyc : (#[.string nm, .slice Ae es.length ce, .slice Ak ks.length ck] : Array Value).toList = [y].flatMap SmM.cells := by rw [hy.out]; rfl
      replace hyc := Lib.hid hyc
      replace hKd := Lib.hid hKd
      replace hYd := Lib.hid hYd
      replace hall := Lib.hid hall
      clear hso2 hK2 hK8 hd8 hso8
      go_region_law (refine step_append_but sms_elem _ (by kernel_rfl) (.tmp 68) (.tmp 70) rfl base _ ss rfl (hd2.out.rc.sms.row.g hGd) (u2.heap.size + 1) (some ⟨u2.heap.size, 0, none⟩) 1 [y] rfl (by intro h; cases h) (Sl.of_blk SmM.cells_len _ hYd.out hyc.out (by omega)) (by simp; omega) (by simp; omega) (Nat.le_trans hzd hGd.size) ?_; intro v6 w6 hown6 hk6 hb6; rw [hss.out] at hown6; obtain ⟨A6, c6, e6, _, _, _⟩ := OwnL.sl SmM.cells_len hown6; subst e6; obtain ⟨zf, ⟨u, zc⟩, hd6, hbx, hkl⟩ := (hd2.out.rc.g hGd).pushS (R := R) hown6 hk6 hb6 (fun s hm => ⟨(hall.out s hm).1.g hGd, (hall.out s hm).2⟩); have hd7 := Lib.hid ((hd2.out.g hGd).own hRX hDX hDb hRb hd6 hbx hkl); clear hd6 hbx hkl hown6 hk6 hb6)
      all_goals
       go_wp2_with fail
       go_roundw
       case rel => exact ⟨j, A6, c6, ss', s2, by first | go_num | rfl, by omega, hlf2, hd7, hmo2⟩
       case measure => (simp [intOf] <;> omega)
end Go.Proofs.YthafeaclpcjjbaaGreatDoor

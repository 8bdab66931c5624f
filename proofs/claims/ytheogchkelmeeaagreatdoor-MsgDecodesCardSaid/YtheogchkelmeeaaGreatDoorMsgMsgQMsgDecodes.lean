/- msg.writer.message: a message's fields behind a writer's bytes. Conditions: lengths that an append bears; the decoder's tables lie as the library lays them. -/
import Derived.Test.YtheogchkelmeeaaGreatDoorMsgPiecesQMsgDecodes
import Derived.Deep.CutBlock
namespace Go.Proofs.YtheogchkelmeeaaGreatDoor
open Go.RowKit
def MsgM.val1 (m:MsgM):Value:=.agg #[.int .i64 (m.x1),.int .i64 (m.x2),.int .i64 (m.x3),.string m.key,.slice m.Ap m.ps.length m.cp,.int .i64 (m.st.wall),.int .i64 (m.st.logic),.int .i64 (m.st.node)]
def MsgM.val2 (m:MsgM):Value:=.agg #[.int .i64 (m.x1),.int .i64 (m.x2),.int .i64 (m.x3),.int .i64 (m.code),.int .i64 (m.st.wall),.int .i64 (m.st.logic),.int .i64 (m.st.node),.slice m.An m.firsts.length m.cn]
def MsgM.val3 (m:MsgM):Value:=.agg #[.int .i64 (m.x1),.int .i64 (m.x2),.int .i64 (m.x3),.bool m.yes,.int .i64 (m.st.wall),.int .i64 (m.st.logic),.int .i64 (m.st.node)]
def MsgM.val4 (m:MsgM):Value:=.agg #[.int .i64 (m.x1),.int .i64 (m.x2),.int .i64 (m.x3)]
def MsgM.val5 (m:MsgM):Value:=.agg #[.int .i64 (m.x1),.int .i64 (m.x2),.int .i64 (m.x3),.int .i64 (m.st.wall),.int .i64 (m.st.logic),.int .i64 (m.st.node),.slice m.An m.firsts.length m.cn]
def MsgM.val6 (m:MsgM):Value:=.agg #[.int .i64 (m.z1),.int .i64 (m.z2),.int .i64 (m.z3),.int .i64 (m.z4),.int .i64 (m.st.wall),.int .i64 (m.st.logic),.int .i64 (m.st.node),.slice m.As m.sms.length m.cs]
def MsgM.val7 (m:MsgM):Value:=.agg #[.int .i64 (m.z1),.int .i64 (m.z2),.int .i64 (m.z3),.int .i64 (m.z4)]
def MsgM.val8 (m:MsgM):Value:=.agg #[.int .i64 (m.src)]
def MsgM.val9 (m:MsgM):Value:=.agg #[.int .i64 (m.src),.int .i64 (m.total),.slice m.Ae m.es.length m.ce,.int .i64 (m.st.wall),.int .i64 (m.st.logic),.int .i64 (m.st.node),.slice m.Ag m.rgs.length m.cg]
set_option maxRecDepth 100000 in
set_option maxHeartbeats 2000000 in
theorem mMsg1_any (m : MsgM) (R base n : Nat) (st : Option (List UInt8)) (wE w : World) (hw : WrS 100 R base n st w) (hR : base ≤ R) (hGE : G wE w) (hbE : wE.heap.size ≤ base) (hin : m.In wE) (hok : m.Small) (hT : Tabs wE) (hn : n + 1030000000000 ≤ 1099511627776) :
  Calls Tryz.prog 31 #[.pointer (some ⟨R,0,none⟩),.iface 81 m.val1] w (WrPost 100 R base (n+1030000000000) (addB (stE m.st) (addB (batL m.key (m.ps.map PutM.p)) (addTx m.p st))) w):=by
 have hz:=hw.lt
 have hg:=G.new w (.cells #[.int .i64 (m.x1),.int .i64 (m.x2),.int .i64 (m.x3),.string m.key,.slice m.Ap m.ps.length m.cp,.int .i64 (m.st.wall),.int .i64 (m.st.logic),.int .i64 (m.st.node)] 81)
 have hB:=blk_new w #[.int .i64 (m.x1),.int .i64 (m.x2),.int .i64 (m.x3),.string m.key,.slice m.Ap m.ps.length m.cp,.int .i64 (m.st.wall),.int .i64 (m.st.logic),.int .i64 (m.st.node)] 81
 have hK0:=Kw.of_g (R:=R) (base:=base) hg (by omega)
 have hw0:=hw.g hg
 have hxt:∀u ∈ [m.x1,m.x2,m.x3],Int64 u:=by intro u hu;simp at hu;rcases hu with rfl | rfl | rfl;exact hok.x1;exact hok.x2;exact hok.x3
 unfold MsgM.val1
 replace hGE:=Lib.hid hGE
 replace hin:=Lib.hid hin
 replace hok:=Lib.hid hok
 replace hT:=Lib.hid hT
 replace hw:=Lib.hid hw
 replace hw0:=Lib.hid hw0
 replace hB:=Lib.hid hB
 replace hK0:=Lib.hid hK0
 clear hg
 have a1:∀w,(Instr.typeAssert (.iface 81 (.agg #[.int .i64 (m.x1),.int .i64 (m.x2),.int .i64 (m.x3),.string m.key,.slice m.Ap m.ps.length m.cp,.int .i64 (m.st.wall),.int .i64 (m.st.logic),.int .i64 (m.st.node)])) 20 81 true).run Tryz.prog w=.ok (.tuple #[.agg #[.int .i64 (m.x1),.int .i64 (m.x2),.int .i64 (m.x3),.string m.key,.slice m.Ap m.ps.length m.cp,.int .i64 (m.st.wall),.int .i64 (m.st.logic),.int .i64 (m.st.node)],.bool true]) w:=fun w=>by kernel_rfl
 go_enter Tryz.func31,Tryz.ntmps31
 go_upto_region 3 with fail
 generalize w.alloc (.cells #[.int .i64 (m.x1),.int .i64 (m.x2),.int .i64 (m.x3),.string m.key,.slice m.Ap m.ps.length m.cp,.int .i64 (m.st.wall),.int .i64 (m.st.logic),.int .i64 (m.st.node)] 81)=w0 at *
 clear a1
 have hKz:=Kw.refl R base w0
 have hGE0:=hGE
 replace hGE:=Lib.hid (hK0.out.ge hGE0.out hbE)
 have hz0:=hw0.out.lt
 have hBi:=hKz.blk (by decide) (by omega) hB.out
 have q0:=(blk_cell hBi 0).trans (show _=some (.int .i64 (m.x1)) from rfl)
 have q1:=(blk_cell hBi 1).trans (show _=some (.int .i64 (m.x2)) from rfl)
 have q2:=(blk_cell hBi 2).trans (show _=some (.int .i64 (m.x3)) from rfl)
 have q3:=(blk_cell hBi 3).trans (show _=some (.string m.key) from rfl)
 have q4:=(blk_cell hBi 4).trans (show _=some (.slice m.Ap m.ps.length m.cp) from rfl)
 have q5:=(blk_cell hBi 5).trans (show _=some (.int .i64 (m.st.wall)) from rfl)
 have q6:=(blk_cell hBi 6).trans (show _=some (.int .i64 (m.st.logic)) from rfl)
 have q7:=(blk_cell hBi 7).trans (show _=some (.int .i64 (m.st.node)) from rfl)
 have hc0:=mTx_any R base n st w0 hw0.out hR (by omega) m.x1 m.x2 m.x3 hxt
 replace hc0:=Lib.hid hc0
 replace hKz:=Lib.hid hKz
 clear hBi
 go_wp2_with (first
  | (go_at_call 62;(with_reducible refine Calls.mono hc2.out ?_);rintro e w12 ⟨rfl,hw12,hk12⟩;replace hw12:=Lib.hid hw12;have hK12:=hK11.out.trans hk12;replace hK12:=Lib.hid hK12;clear hk12)
  | (go_at_call 60;(with_reducible refine Calls.mono hc5.out ?_);rintro e w11 ⟨rfl,hw11,hk11⟩;have hbl:=hok.out.bat;replace hw11:=Lib.hid hw11;have hK11:=hK5.out.trans hk11;have hz11:=hw11.out.lt;have hy11:=hK11.size;have hBi:=hK11.blk (by decide) (by omega) hB.out;have q0:=(blk_cell hBi 0).trans (show _=some (.int .i64 (m.x1)) from rfl);have q1:=(blk_cell hBi 1).trans (show _=some (.int .i64 (m.x2)) from rfl);have q2:=(blk_cell hBi 2).trans (show _=some (.int .i64 (m.x3)) from rfl);have q3:=(blk_cell hBi 3).trans (show _=some (.string m.key) from rfl);have q4:=(blk_cell hBi 4).trans (show _=some (.slice m.Ap m.ps.length m.cp) from rfl);have q5:=(blk_cell hBi 5).trans (show _=some (.int .i64 (m.st.wall)) from rfl);have q6:=(blk_cell hBi 6).trans (show _=some (.int .i64 (m.st.logic)) from rfl);have q7:=(blk_cell hBi 7).trans (show _=some (.int .i64 (m.st.node)) from rfl);have hc2:=mStamp_any R base ((n+30)+(batL m.key (m.ps.map PutM.p)).length) (addB (batL m.key (m.ps.map PutM.p)) (addTx m.p st)) w11 hw11.out hR (by omega) m.st;replace hc2:=Lib.hid hc2;clear hBi;replace hK11:=Lib.hid hK11;clear hk11)
  | (go_at_call 61;(with_reducible refine Calls.mono hc1.out ?_);rintro e5 w5 ⟨Ab,cb,rfl,hob,hgb,_⟩;have hc5:=mSome_own (hw10.out.g hgb) hR (by have:=hok.out.bat;omega) hob;replace hc5:=Lib.hid hc5;have hK5:=Lib.hid (hK10.out.trans (Kw.of_g hgb (by omega)));clear hob hgb)
  | (go_at_call 59;(with_reducible refine Calls.mono hc0.out ?_);rintro e w10 ⟨rfl,hw10,hk10⟩;replace hw10:=Lib.hid hw10;have hK10:=hKz.out.trans hk10;have hz10:=hw10.out.lt;have hy10:=hK10.size;have hBi:=hK10.blk (by decide) (by omega) hB.out;have q0:=(blk_cell hBi 0).trans (show _=some (.int .i64 (m.x1)) from rfl);have q1:=(blk_cell hBi 1).trans (show _=some (.int .i64 (m.x2)) from rfl);have q2:=(blk_cell hBi 2).trans (show _=some (.int .i64 (m.x3)) from rfl);have q3:=(blk_cell hBi 3).trans (show _=some (.string m.key) from rfl);have q4:=(blk_cell hBi 4).trans (show _=some (.slice m.Ap m.ps.length m.cp) from rfl);have q5:=(blk_cell hBi 5).trans (show _=some (.int .i64 (m.st.wall)) from rfl);have q6:=(blk_cell hBi 6).trans (show _=some (.int .i64 (m.st.logic)) from rfl);have q7:=(blk_cell hBi 7).trans (show _=some (.int .i64 (m.st.node)) from rfl);have hc1:=batEnc_any m.key m.ps m.Ap m.cp w10 (PutsIn.more (hin.out.ps.g (Nat.le_refl _) (hK10.ge hGE.out hbE)) (hK10.ge hGE.out hbE).size) hok.out.key hok.out.ps (hT.out.g (hK10.ge hGE.out hbE));replace hc1:=Lib.hid hc1;clear hBi;replace hK10:=Lib.hid hK10;clear hk10))
 go_end0
 have hwe:=hw12.out.more (n':=n+1030000000000) (by omega)
 exact ⟨rfl,hwe,hK0.out.trans hK12.out⟩
set_option maxRecDepth 100000 in
set_option maxHeartbeats 2000000 in
theorem mMsg2_any (m : MsgM) (R base n : Nat) (st : Option (List UInt8)) (wE w : World) (hw : WrS 100 R base n st w) (hR : base ≤ R) (hGE : G wE w) (hbE : wE.heap.size ≤ base) (hin : m.In wE) (hok : m.Small) (hT : Tabs wE) (hn : n + 1030000000000 ≤ 1099511627776) :
  Calls Tryz.prog 31 #[.pointer (some ⟨R,0,none⟩),.iface 83 m.val2] w (WrPost 100 R base (n+1030000000000) (addInts m.firsts (addB (stE m.st) (addNs 1099511627776 [m.code] (addIf (decide (m.code≤12)) ((addTx m.p st)))))) w):=by
 have hz:=hw.lt
 have hg:=G.new w (.cells #[.int .i64 (m.x1),.int .i64 (m.x2),.int .i64 (m.x3),.int .i64 (m.code),.int .i64 (m.st.wall),.int .i64 (m.st.logic),.int .i64 (m.st.node),.slice m.An m.firsts.length m.cn] 83)
 have hB:=blk_new w #[.int .i64 (m.x1),.int .i64 (m.x2),.int .i64 (m.x3),.int .i64 (m.code),.int .i64 (m.st.wall),.int .i64 (m.st.logic),.int .i64 (m.st.node),.slice m.An m.firsts.length m.cn] 83
 have hK0:=Kw.of_g (R:=R) (base:=base) hg (by omega)
 have hw0:=hw.g hg
 have hxt:∀u ∈ [m.x1,m.x2,m.x3],Int64 u:=by intro u hu;simp at hu;rcases hu with rfl | rfl | rfl;exact hok.x1;exact hok.x2;exact hok.x3
 unfold MsgM.val2
 replace hGE:=Lib.hid hGE
 replace hin:=Lib.hid hin
 replace hok:=Lib.hid hok
 replace hT:=Lib.hid hT
 replace hw:=Lib.hid hw
 replace hw0:=Lib.hid hw0
 replace hB:=Lib.hid hB
 replace hK0:=Lib.hid hK0
 clear hg
 have a1:∀w,(Instr.typeAssert (.iface 83 (.agg #[.int .i64 (m.x1),.int .i64 (m.x2),.int .i64 (m.x3),.int .i64 (m.code),.int .i64 (m.st.wall),.int .i64 (m.st.logic),.int .i64 (m.st.node),.slice m.An m.firsts.length m.cn])) 20 81 true).run Tryz.prog w=.ok (.tuple #[.agg #[.int .i64 0,.int .i64 0,.int .i64 0,.string ⟨#[]⟩,.slice none 0 0,.int .i64 0,.int .i64 0,.int .i64 0],.bool false]) w:=fun w=>by kernel_rfl
 have a2:∀w,(Instr.typeAssert (.iface 83 (.agg #[.int .i64 (m.x1),.int .i64 (m.x2),.int .i64 (m.x3),.int .i64 (m.code),.int .i64 (m.st.wall),.int .i64 (m.st.logic),.int .i64 (m.st.node),.slice m.An m.firsts.length m.cn])) 20 83 true).run Tryz.prog w=.ok (.tuple #[.agg #[.int .i64 (m.x1),.int .i64 (m.x2),.int .i64 (m.x3),.int .i64 (m.code),.int .i64 (m.st.wall),.int .i64 (m.st.logic),.int .i64 (m.st.node),.slice m.An m.firsts.length m.cn],.bool true]) w:=fun w=>by kernel_rfl
 go_enter Tryz.func31,Tryz.ntmps31
 go_upto_region 8 with fail
 generalize w.alloc (.cells #[.int .i64 (m.x1),.int .i64 (m.x2),.int .i64 (m.x3),.int .i64 (m.code),.int .i64 (m.st.wall),.int .i64 (m.st.logic),.int .i64 (m.st.node),.slice m.An m.firsts.length m.cn] 83)=w0 at *
 clear a1 a2
 have hKz:=Kw.refl R base w0
 have hGE0:=hGE
 replace hGE:=Lib.hid (hK0.out.ge hGE0.out hbE)
 have hz0:=hw0.out.lt
 have hBi:=hKz.blk (by decide) (by omega) hB.out
 have q0:=(blk_cell hBi 0).trans (show _=some (.int .i64 (m.x1)) from rfl)
 have q1:=(blk_cell hBi 1).trans (show _=some (.int .i64 (m.x2)) from rfl)
 have q2:=(blk_cell hBi 2).trans (show _=some (.int .i64 (m.x3)) from rfl)
 have q3:=(blk_cell hBi 3).trans (show _=some (.int .i64 (m.code)) from rfl)
 have q4:=(blk_cell hBi 4).trans (show _=some (.int .i64 (m.st.wall)) from rfl)
 have q5:=(blk_cell hBi 5).trans (show _=some (.int .i64 (m.st.logic)) from rfl)
 have q6:=(blk_cell hBi 6).trans (show _=some (.int .i64 (m.st.node)) from rfl)
 have q7:=(blk_cell hBi 7).trans (show _=some (.slice m.An m.firsts.length m.cn) from rfl)
 have hc0:=mTx_any R base n st w0 hw0.out hR (by omega) m.x1 m.x2 m.x3 hxt
 replace hc0:=Lib.hid hc0
 replace hKz:=Lib.hid hKz
 clear hBi
 go_upto_region 9 with (go_at_call 59;(with_reducible refine Calls.mono hc0.out ?_);rintro e w1 ⟨rfl,hw1,hk1⟩;replace hw1:=Lib.hid hw1;have hK1:=Lib.hid (hKz.out.trans hk1);clear hk1 hc0)
 clear q0 q1 q2 q3 q4 q5 q6 q7
 obtain ⟨s1,hs1⟩:∃s,addTx m.p st=s:=⟨_,rfl⟩
 have e1:addNs 1099511627776 [m.x1,m.x2,m.x3] st=s1:=hs1
 rw [e1] at hw1
 clear e1
 replace hs1:=Lib.hid hs1
 have hBi:=hK1.out.blk (by decide) (by omega) hB.out
 have q0:=(blk_cell hBi 0).trans (show _=some (.int .i64 (m.x1)) from rfl)
 have q1:=(blk_cell hBi 1).trans (show _=some (.int .i64 (m.x2)) from rfl)
 have q2:=(blk_cell hBi 2).trans (show _=some (.int .i64 (m.x3)) from rfl)
 have q3:=(blk_cell hBi 3).trans (show _=some (.int .i64 (m.code)) from rfl)
 have q4:=(blk_cell hBi 4).trans (show _=some (.int .i64 (m.st.wall)) from rfl)
 have q5:=(blk_cell hBi 5).trans (show _=some (.int .i64 (m.st.logic)) from rfl)
 have q6:=(blk_cell hBi 6).trans (show _=some (.int .i64 (m.st.node)) from rfl)
 have q7:=(blk_cell hBi 7).trans (show _=some (.slice m.An m.firsts.length m.cn) from rfl)
 have c1:=hw1.out.c1
 have f1:=hw1.out.free 1
 have hz1:=hw1.out.lt
 clear hBi
 go_cut [] (fun wz=>WrS 100 R base (n+30) (addIf (decide (m.code≤12)) s1) wz∧Kw R base w0 wz)
 case first =>
  cases s1 with
  | none =>
   have hx:=hw1.out.turn mwT
   have e:addIf (decide (m.code≤12)) none=none:=by unfold addIf;split <;> rfl
   have hk:=hK1.out.trans (Kw.set hR 1 (.bool true))
   simp only [Option.isNone_none] at c1
   replace hx:=Lib.hid hx
   replace hk:=Lib.hid hk
   replace e:=Lib.hid e
   go_wp2_with fail
   go_meet
   exact ⟨by rw [e.out];exact hx.out,hk.out⟩
  | some l =>
   simp only [Option.isNone_some] at c1
   by_cases hcd:m.code≤12
   ·have t1:decide ((12:Int) < m.code)=false:=decide_eq_false (by omega)
    have hx:=hw1.out.stay mwT
    have hk:=hK1.out.trans (Kw.set hR 1 (.bool false))
    have e:addIf (decide (m.code≤12)) (some l)=some l:=by rw [decide_eq_true hcd];rfl
    replace e:=Lib.hid e
    simp only [Option.isNone_some] at hx
    replace hx:=Lib.hid hx
    replace hk:=Lib.hid hk
    replace hcd:=Lib.hid hcd
    go_wp2_with fail
    go_meet
    exact ⟨by rw [e.out];exact hx.out,hk.out⟩
   ·have t1:decide ((12:Int) < m.code)=true:=decide_eq_true (by omega)
    have hx:=hw1.out.turn mwT
    have hk:=hK1.out.trans (Kw.set hR 1 (.bool true))
    have e:addIf (decide (m.code≤12)) (some l)=none:=by rw [decide_eq_false hcd];rfl
    replace e:=Lib.hid e
    replace hx:=Lib.hid hx
    replace hk:=Lib.hid hk
    replace hcd:=Lib.hid hcd
    go_wp2_with fail
    go_meet
    exact ⟨by rw [e.out];exact hx.out,hk.out⟩
 case rest =>
  obtain ⟨hw2,hK2⟩:=hcut
  obtain ⟨s2,hs2⟩:∃s,addIf (decide (m.code≤12)) s1=s:=⟨_,rfl⟩
  rw [hs2] at hw2
  replace hs2:=Lib.hid hs2
  clear c1 f1 q0 q1 q2 q3 q4 q5 q6 q7
  have hBi:=hK2.blk (by decide) (by omega) hB.out
  have q0:=(blk_cell hBi 0).trans (show _=some (.int .i64 (m.x1)) from rfl)
  have q1:=(blk_cell hBi 1).trans (show _=some (.int .i64 (m.x2)) from rfl)
  have q2:=(blk_cell hBi 2).trans (show _=some (.int .i64 (m.x3)) from rfl)
  have q3:=(blk_cell hBi 3).trans (show _=some (.int .i64 (m.code)) from rfl)
  have q4:=(blk_cell hBi 4).trans (show _=some (.int .i64 (m.st.wall)) from rfl)
  have q5:=(blk_cell hBi 5).trans (show _=some (.int .i64 (m.st.logic)) from rfl)
  have q6:=(blk_cell hBi 6).trans (show _=some (.int .i64 (m.st.node)) from rfl)
  have q7:=(blk_cell hBi 7).trans (show _=some (.slice m.An m.firsts.length m.cn) from rfl)
  have hz2:=hw2.lt
  have hzz:=hK2.size
  have hc1:=mNumsL (R:=R) (base:=base) (n:=(n+30)) (st:=s2) [m.code] hw2 hR (by simp;omega) (by simpa using hok.out.code) 1 rfl #[.int .i64 (m.code)] rfl
  replace hc1:=Lib.hid hc1
  replace hK2:=Lib.hid hK2
  clear hBi hw1 hw2 hKz hK1
  go_wp2_with (first
   | (go_at_call 64;(with_reducible refine Calls.mono hc3.out ?_);rintro e w13 ⟨rfl,hw13,hk13⟩;replace hw13:=Lib.hid hw13;have hK13:=hK12.out.trans hk13;replace hK13:=Lib.hid hK13;clear hk13)
   | (go_at_call 62;(with_reducible refine Calls.mono hc2.out ?_);rintro e w12 ⟨rfl,hw12,hk12⟩;replace hw12:=Lib.hid hw12;have hK12:=hK11.out.trans hk12;have hz12:=hw12.out.lt;have hy12:=hK12.size;have hBi:=hK12.blk (by decide) (by omega) hB.out;have q0:=(blk_cell hBi 0).trans (show _=some (.int .i64 (m.x1)) from rfl);have q1:=(blk_cell hBi 1).trans (show _=some (.int .i64 (m.x2)) from rfl);have q2:=(blk_cell hBi 2).trans (show _=some (.int .i64 (m.x3)) from rfl);have q3:=(blk_cell hBi 3).trans (show _=some (.int .i64 (m.code)) from rfl);have q4:=(blk_cell hBi 4).trans (show _=some (.int .i64 (m.st.wall)) from rfl);have q5:=(blk_cell hBi 5).trans (show _=some (.int .i64 (m.st.logic)) from rfl);have q6:=(blk_cell hBi 6).trans (show _=some (.int .i64 (m.st.node)) from rfl);have q7:=(blk_cell hBi 7).trans (show _=some (.slice m.An m.firsts.length m.cn) from rfl);have hc3:=mInts_any R base (((n+30)+1 * 10)+50) (addB (stE m.st) (addNs 1099511627776 [m.code] s2)) m.firsts m.An m.cn wE w12 hw12.out hR (hK12.ge hGE.out hbE) hbE hin.out.firsts hok.out.firstsL hok.out.firsts (by omega);replace hc3:=Lib.hid hc3;clear hBi;replace hK12:=Lib.hid hK12;clear hk12)
   | (go_at_call 63;(with_reducible refine Calls.mono hc1.out ?_);rintro e w11 ⟨rfl,hw11,hk11⟩;replace hw11:=Lib.hid hw11;have hK11:=hK2.out.trans hk11;have hz11:=hw11.out.lt;have hy11:=hK11.size;have hBi:=hK11.blk (by decide) (by omega) hB.out;have q0:=(blk_cell hBi 0).trans (show _=some (.int .i64 (m.x1)) from rfl);have q1:=(blk_cell hBi 1).trans (show _=some (.int .i64 (m.x2)) from rfl);have q2:=(blk_cell hBi 2).trans (show _=some (.int .i64 (m.x3)) from rfl);have q3:=(blk_cell hBi 3).trans (show _=some (.int .i64 (m.code)) from rfl);have q4:=(blk_cell hBi 4).trans (show _=some (.int .i64 (m.st.wall)) from rfl);have q5:=(blk_cell hBi 5).trans (show _=some (.int .i64 (m.st.logic)) from rfl);have q6:=(blk_cell hBi 6).trans (show _=some (.int .i64 (m.st.node)) from rfl);have q7:=(blk_cell hBi 7).trans (show _=some (.slice m.An m.firsts.length m.cn) from rfl);have hc2:=mStamp_any R base ((n+30)+1 * 10) (addNs 1099511627776 [m.code] s2) w11 hw11.out hR (by omega) m.st;replace hc2:=Lib.hid hc2;clear hBi;replace hK11:=Lib.hid hK11;clear hk11))
  go_end0
  have hwe:=hw13.out.more (n':=n+1030000000000) (by omega)
  rw [←hs2.out,←hs1.out] at hwe
  exact ⟨rfl,hwe,hK0.out.trans hK13.out⟩
set_option maxRecDepth 100000 in
set_option maxHeartbeats 2000000 in
theorem mMsg3_any (m : MsgM) (R base n : Nat) (st : Option (List UInt8)) (wE w : World) (hw : WrS 100 R base n st w) (hR : base ≤ R) (hGE : G wE w) (hbE : wE.heap.size ≤ base) (hin : m.In wE) (hok : m.Small) (hT : Tabs wE) (hn : n + 1030000000000 ≤ 1099511627776) :
  Calls Tryz.prog 31 #[.pointer (some ⟨R,0,none⟩),.iface 85 m.val3] w (WrPost 100 R base (n+1030000000000) (addB (stE m.st) (addFlag m.yes (addTx m.p st))) w):=by
 have hz:=hw.lt
 have hg:=G.new w (.cells #[.int .i64 (m.x1),.int .i64 (m.x2),.int .i64 (m.x3),.bool m.yes,.int .i64 (m.st.wall),.int .i64 (m.st.logic),.int .i64 (m.st.node)] 85)
 have hB:=blk_new w #[.int .i64 (m.x1),.int .i64 (m.x2),.int .i64 (m.x3),.bool m.yes,.int .i64 (m.st.wall),.int .i64 (m.st.logic),.int .i64 (m.st.node)] 85
 have hK0:=Kw.of_g (R:=R) (base:=base) hg (by omega)
 have hw0:=hw.g hg
 have hxt:∀u ∈ [m.x1,m.x2,m.x3],Int64 u:=by intro u hu;simp at hu;rcases hu with rfl | rfl | rfl;exact hok.x1;exact hok.x2;exact hok.x3
 unfold MsgM.val3
 replace hGE:=Lib.hid hGE
 replace hin:=Lib.hid hin
 replace hok:=Lib.hid hok
 replace hT:=Lib.hid hT
 replace hw:=Lib.hid hw
 replace hw0:=Lib.hid hw0
 replace hB:=Lib.hid hB
 replace hK0:=Lib.hid hK0
 clear hg
 have a1:∀w,(Instr.typeAssert (.iface 85 (.agg #[.int .i64 (m.x1),.int .i64 (m.x2),.int .i64 (m.x3),.bool m.yes,.int .i64 (m.st.wall),.int .i64 (m.st.logic),.int .i64 (m.st.node)])) 20 81 true).run Tryz.prog w=.ok (.tuple #[.agg #[.int .i64 0,.int .i64 0,.int .i64 0,.string ⟨#[]⟩,.slice none 0 0,.int .i64 0,.int .i64 0,.int .i64 0],.bool false]) w:=fun w=>by kernel_rfl
 have a2:∀w,(Instr.typeAssert (.iface 85 (.agg #[.int .i64 (m.x1),.int .i64 (m.x2),.int .i64 (m.x3),.bool m.yes,.int .i64 (m.st.wall),.int .i64 (m.st.logic),.int .i64 (m.st.node)])) 20 83 true).run Tryz.prog w=.ok (.tuple #[.agg #[.int .i64 0,.int .i64 0,.int .i64 0,.int .i64 0,.int .i64 0,.int .i64 0,.int .i64 0,.slice none 0 0],.bool false]) w:=fun w=>by kernel_rfl
 have a3:∀w,(Instr.typeAssert (.iface 85 (.agg #[.int .i64 (m.x1),.int .i64 (m.x2),.int .i64 (m.x3),.bool m.yes,.int .i64 (m.st.wall),.int .i64 (m.st.logic),.int .i64 (m.st.node)])) 20 85 true).run Tryz.prog w=.ok (.tuple #[.agg #[.int .i64 (m.x1),.int .i64 (m.x2),.int .i64 (m.x3),.bool m.yes,.int .i64 (m.st.wall),.int .i64 (m.st.logic),.int .i64 (m.st.node)],.bool true]) w:=fun w=>by kernel_rfl
 go_enter Tryz.func31,Tryz.ntmps31
 go_upto_region 15 with fail
 generalize w.alloc (.cells #[.int .i64 (m.x1),.int .i64 (m.x2),.int .i64 (m.x3),.bool m.yes,.int .i64 (m.st.wall),.int .i64 (m.st.logic),.int .i64 (m.st.node)] 85)=w0 at *
 clear a1 a2 a3
 have hKz:=Kw.refl R base w0
 have hGE0:=hGE
 replace hGE:=Lib.hid (hK0.out.ge hGE0.out hbE)
 have hz0:=hw0.out.lt
 have hBi:=hKz.blk (by decide) (by omega) hB.out
 have q0:=(blk_cell hBi 0).trans (show _=some (.int .i64 (m.x1)) from rfl)
 have q1:=(blk_cell hBi 1).trans (show _=some (.int .i64 (m.x2)) from rfl)
 have q2:=(blk_cell hBi 2).trans (show _=some (.int .i64 (m.x3)) from rfl)
 have q3:=(blk_cell hBi 3).trans (show _=some (.bool m.yes) from rfl)
 have q4:=(blk_cell hBi 4).trans (show _=some (.int .i64 (m.st.wall)) from rfl)
 have q5:=(blk_cell hBi 5).trans (show _=some (.int .i64 (m.st.logic)) from rfl)
 have q6:=(blk_cell hBi 6).trans (show _=some (.int .i64 (m.st.node)) from rfl)
 have hc0:=mTx_any R base n st w0 hw0.out hR (by omega) m.x1 m.x2 m.x3 hxt
 replace hc0:=Lib.hid hc0
 replace hKz:=Lib.hid hKz
 clear hBi
 go_wp2_with (first
  | (go_at_call 62;(with_reducible refine Calls.mono hc2.out ?_);rintro e w12 ⟨rfl,hw12,hk12⟩;replace hw12:=Lib.hid hw12;have hK12:=hK11.out.trans hk12;replace hK12:=Lib.hid hK12;clear hk12)
  | (go_at_call 65;(with_reducible refine Calls.mono hc1.out ?_);rintro e w11 ⟨rfl,hw11,hk11⟩;replace hw11:=Lib.hid hw11;have hK11:=hK10.out.trans hk11;have hz11:=hw11.out.lt;have hy11:=hK11.size;have hBi:=hK11.blk (by decide) (by omega) hB.out;have q0:=(blk_cell hBi 0).trans (show _=some (.int .i64 (m.x1)) from rfl);have q1:=(blk_cell hBi 1).trans (show _=some (.int .i64 (m.x2)) from rfl);have q2:=(blk_cell hBi 2).trans (show _=some (.int .i64 (m.x3)) from rfl);have q3:=(blk_cell hBi 3).trans (show _=some (.bool m.yes) from rfl);have q4:=(blk_cell hBi 4).trans (show _=some (.int .i64 (m.st.wall)) from rfl);have q5:=(blk_cell hBi 5).trans (show _=some (.int .i64 (m.st.logic)) from rfl);have q6:=(blk_cell hBi 6).trans (show _=some (.int .i64 (m.st.node)) from rfl);have hc2:=mStamp_any R base ((n+30)+1) (addFlag m.yes (addTx m.p st)) w11 hw11.out hR (by omega) m.st;replace hc2:=Lib.hid hc2;clear hBi;replace hK11:=Lib.hid hK11;clear hk11)
  | (go_at_call 59;(with_reducible refine Calls.mono hc0.out ?_);rintro e w10 ⟨rfl,hw10,hk10⟩;replace hw10:=Lib.hid hw10;have hK10:=hKz.out.trans hk10;have hz10:=hw10.out.lt;have hy10:=hK10.size;have hBi:=hK10.blk (by decide) (by omega) hB.out;have q0:=(blk_cell hBi 0).trans (show _=some (.int .i64 (m.x1)) from rfl);have q1:=(blk_cell hBi 1).trans (show _=some (.int .i64 (m.x2)) from rfl);have q2:=(blk_cell hBi 2).trans (show _=some (.int .i64 (m.x3)) from rfl);have q3:=(blk_cell hBi 3).trans (show _=some (.bool m.yes) from rfl);have q4:=(blk_cell hBi 4).trans (show _=some (.int .i64 (m.st.wall)) from rfl);have q5:=(blk_cell hBi 5).trans (show _=some (.int .i64 (m.st.logic)) from rfl);have q6:=(blk_cell hBi 6).trans (show _=some (.int .i64 (m.st.node)) from rfl);have hc1:=mFlag_any R base (n+30) (addTx m.p st) w10 hw10.out hR (by omega) m.yes;replace hc1:=Lib.hid hc1;clear hBi;replace hK10:=Lib.hid hK10;clear hk10))
 go_end0
 have hwe:=hw12.out.more (n':=n+1030000000000) (by omega)
 exact ⟨rfl,hwe,hK0.out.trans hK12.out⟩
set_option maxRecDepth 100000 in
set_option maxHeartbeats 2000000 in
theorem mMsg4_any (m : MsgM) (R base n : Nat) (st : Option (List UInt8)) (wE w : World) (hw : WrS 100 R base n st w) (hR : base ≤ R) (hGE : G wE w) (hbE : wE.heap.size ≤ base) (hin : m.In wE) (hok : m.Small) (hT : Tabs wE) (hn : n + 1030000000000 ≤ 1099511627776) :
  Calls Tryz.prog 31 #[.pointer (some ⟨R,0,none⟩),.iface 52 m.val4] w (WrPost 100 R base (n+1030000000000) (addTx m.p st) w):=by
 have hz:=hw.lt
 have hg:=G.new w (.cells #[.int .i64 (m.x1),.int .i64 (m.x2),.int .i64 (m.x3)] 52)
 have hB:=blk_new w #[.int .i64 (m.x1),.int .i64 (m.x2),.int .i64 (m.x3)] 52
 have hK0:=Kw.of_g (R:=R) (base:=base) hg (by omega)
 have hw0:=hw.g hg
 have hxt:∀u ∈ [m.x1,m.x2,m.x3],Int64 u:=by intro u hu;simp at hu;rcases hu with rfl | rfl | rfl;exact hok.x1;exact hok.x2;exact hok.x3
 unfold MsgM.val4
 replace hGE:=Lib.hid hGE
 replace hin:=Lib.hid hin
 replace hok:=Lib.hid hok
 replace hT:=Lib.hid hT
 replace hw:=Lib.hid hw
 replace hw0:=Lib.hid hw0
 replace hB:=Lib.hid hB
 replace hK0:=Lib.hid hK0
 clear hg
 have a1:∀w,(Instr.typeAssert (.iface 52 (.agg #[.int .i64 (m.x1),.int .i64 (m.x2),.int .i64 (m.x3)])) 20 81 true).run Tryz.prog w=.ok (.tuple #[.agg #[.int .i64 0,.int .i64 0,.int .i64 0,.string ⟨#[]⟩,.slice none 0 0,.int .i64 0,.int .i64 0,.int .i64 0],.bool false]) w:=fun w=>by kernel_rfl
 have a2:∀w,(Instr.typeAssert (.iface 52 (.agg #[.int .i64 (m.x1),.int .i64 (m.x2),.int .i64 (m.x3)])) 20 83 true).run Tryz.prog w=.ok (.tuple #[.agg #[.int .i64 0,.int .i64 0,.int .i64 0,.int .i64 0,.int .i64 0,.int .i64 0,.int .i64 0,.slice none 0 0],.bool false]) w:=fun w=>by kernel_rfl
 have a3:∀w,(Instr.typeAssert (.iface 52 (.agg #[.int .i64 (m.x1),.int .i64 (m.x2),.int .i64 (m.x3)])) 20 85 true).run Tryz.prog w=.ok (.tuple #[.agg #[.int .i64 0,.int .i64 0,.int .i64 0,.bool false,.int .i64 0,.int .i64 0,.int .i64 0],.bool false]) w:=fun w=>by kernel_rfl
 have a4:∀w,(Instr.typeAssert (.iface 52 (.agg #[.int .i64 (m.x1),.int .i64 (m.x2),.int .i64 (m.x3)])) 20 52 true).run Tryz.prog w=.ok (.tuple #[.agg #[.int .i64 (m.x1),.int .i64 (m.x2),.int .i64 (m.x3)],.bool true]) w:=fun w=>by kernel_rfl
 go_enter Tryz.func31,Tryz.ntmps31
 go_upto_region 20 with fail
 generalize w.alloc (.cells #[.int .i64 (m.x1),.int .i64 (m.x2),.int .i64 (m.x3)] 52)=w0 at *
 clear a1 a2 a3 a4
 have hKz:=Kw.refl R base w0
 have hGE0:=hGE
 replace hGE:=Lib.hid (hK0.out.ge hGE0.out hbE)
 have hz0:=hw0.out.lt
 have hBi:=hKz.blk (by decide) (by omega) hB.out
 have q0:=(blk_cell hBi 0).trans (show _=some (.int .i64 (m.x1)) from rfl)
 have q1:=(blk_cell hBi 1).trans (show _=some (.int .i64 (m.x2)) from rfl)
 have q2:=(blk_cell hBi 2).trans (show _=some (.int .i64 (m.x3)) from rfl)
 have hc0:=mTx_any R base n st w0 hw0.out hR (by omega) m.x1 m.x2 m.x3 hxt
 replace hc0:=Lib.hid hc0
 replace hKz:=Lib.hid hKz
 clear hBi
 go_wp2_with (first
  | (go_at_call 59;(with_reducible refine Calls.mono hc0.out ?_);rintro e w10 ⟨rfl,hw10,hk10⟩;replace hw10:=Lib.hid hw10;have hK10:=hKz.out.trans hk10;replace hK10:=Lib.hid hK10;clear hk10))
 go_end0
 have hwe:=hw10.out.more (n':=n+1030000000000) (by omega)
 exact ⟨rfl,hwe,hK0.out.trans hK10.out⟩
set_option maxRecDepth 100000 in
set_option maxHeartbeats 2000000 in
theorem mMsg5_any (m : MsgM) (R base n : Nat) (st : Option (List UInt8)) (wE w : World) (hw : WrS 100 R base n st w) (hR : base ≤ R) (hGE : G wE w) (hbE : wE.heap.size ≤ base) (hin : m.In wE) (hok : m.Small) (hT : Tabs wE) (hn : n + 1030000000000 ≤ 1099511627776) :
  Calls Tryz.prog 31 #[.pointer (some ⟨R,0,none⟩),.iface 87 m.val5] w (WrPost 100 R base (n+1030000000000) (addInts m.firsts (addB (stE m.st) (addTx m.p st))) w):=by
 have hz:=hw.lt
 have hg:=G.new w (.cells #[.int .i64 (m.x1),.int .i64 (m.x2),.int .i64 (m.x3),.int .i64 (m.st.wall),.int .i64 (m.st.logic),.int .i64 (m.st.node),.slice m.An m.firsts.length m.cn] 87)
 have hB:=blk_new w #[.int .i64 (m.x1),.int .i64 (m.x2),.int .i64 (m.x3),.int .i64 (m.st.wall),.int .i64 (m.st.logic),.int .i64 (m.st.node),.slice m.An m.firsts.length m.cn] 87
 have hK0:=Kw.of_g (R:=R) (base:=base) hg (by omega)
 have hw0:=hw.g hg
 have hxt:∀u ∈ [m.x1,m.x2,m.x3],Int64 u:=by intro u hu;simp at hu;rcases hu with rfl | rfl | rfl;exact hok.x1;exact hok.x2;exact hok.x3
 unfold MsgM.val5
 replace hGE:=Lib.hid hGE
 replace hin:=Lib.hid hin
 replace hok:=Lib.hid hok
 replace hT:=Lib.hid hT
 replace hw:=Lib.hid hw
 replace hw0:=Lib.hid hw0
 replace hB:=Lib.hid hB
 replace hK0:=Lib.hid hK0
 clear hg
 have a1:∀w,(Instr.typeAssert (.iface 87 (.agg #[.int .i64 (m.x1),.int .i64 (m.x2),.int .i64 (m.x3),.int .i64 (m.st.wall),.int .i64 (m.st.logic),.int .i64 (m.st.node),.slice m.An m.firsts.length m.cn])) 20 81 true).run Tryz.prog w=.ok (.tuple #[.agg #[.int .i64 0,.int .i64 0,.int .i64 0,.string ⟨#[]⟩,.slice none 0 0,.int .i64 0,.int .i64 0,.int .i64 0],.bool false]) w:=fun w=>by kernel_rfl
 have a2:∀w,(Instr.typeAssert (.iface 87 (.agg #[.int .i64 (m.x1),.int .i64 (m.x2),.int .i64 (m.x3),.int .i64 (m.st.wall),.int .i64 (m.st.logic),.int .i64 (m.st.node),.slice m.An m.firsts.length m.cn])) 20 83 true).run Tryz.prog w=.ok (.tuple #[.agg #[.int .i64 0,.int .i64 0,.int .i64 0,.int .i64 0,.int .i64 0,.int .i64 0,.int .i64 0,.slice none 0 0],.bool false]) w:=fun w=>by kernel_rfl
 have a3:∀w,(Instr.typeAssert (.iface 87 (.agg #[.int .i64 (m.x1),.int .i64 (m.x2),.int .i64 (m.x3),.int .i64 (m.st.wall),.int .i64 (m.st.logic),.int .i64 (m.st.node),.slice m.An m.firsts.length m.cn])) 20 85 true).run Tryz.prog w=.ok (.tuple #[.agg #[.int .i64 0,.int .i64 0,.int .i64 0,.bool false,.int .i64 0,.int .i64 0,.int .i64 0],.bool false]) w:=fun w=>by kernel_rfl
 have a4:∀w,(Instr.typeAssert (.iface 87 (.agg #[.int .i64 (m.x1),.int .i64 (m.x2),.int .i64 (m.x3),.int .i64 (m.st.wall),.int .i64 (m.st.logic),.int .i64 (m.st.node),.slice m.An m.firsts.length m.cn])) 20 52 true).run Tryz.prog w=.ok (.tuple #[.agg #[.int .i64 0,.int .i64 0,.int .i64 0],.bool false]) w:=fun w=>by kernel_rfl
 have a5:∀w,(Instr.typeAssert (.iface 87 (.agg #[.int .i64 (m.x1),.int .i64 (m.x2),.int .i64 (m.x3),.int .i64 (m.st.wall),.int .i64 (m.st.logic),.int .i64 (m.st.node),.slice m.An m.firsts.length m.cn])) 20 87 true).run Tryz.prog w=.ok (.tuple #[.agg #[.int .i64 (m.x1),.int .i64 (m.x2),.int .i64 (m.x3),.int .i64 (m.st.wall),.int .i64 (m.st.logic),.int .i64 (m.st.node),.slice m.An m.firsts.length m.cn],.bool true]) w:=fun w=>by kernel_rfl
 go_enter Tryz.func31,Tryz.ntmps31
 go_upto_region 23 with fail
 generalize w.alloc (.cells #[.int .i64 (m.x1),.int .i64 (m.x2),.int .i64 (m.x3),.int .i64 (m.st.wall),.int .i64 (m.st.logic),.int .i64 (m.st.node),.slice m.An m.firsts.length m.cn] 87)=w0 at *
 clear a1 a2 a3 a4 a5
 have hKz:=Kw.refl R base w0
 have hGE0:=hGE
 replace hGE:=Lib.hid (hK0.out.ge hGE0.out hbE)
 have hz0:=hw0.out.lt
 have hBi:=hKz.blk (by decide) (by omega) hB.out
 have q0:=(blk_cell hBi 0).trans (show _=some (.int .i64 (m.x1)) from rfl)
 have q1:=(blk_cell hBi 1).trans (show _=some (.int .i64 (m.x2)) from rfl)
 have q2:=(blk_cell hBi 2).trans (show _=some (.int .i64 (m.x3)) from rfl)
 have q3:=(blk_cell hBi 3).trans (show _=some (.int .i64 (m.st.wall)) from rfl)
 have q4:=(blk_cell hBi 4).trans (show _=some (.int .i64 (m.st.logic)) from rfl)
 have q5:=(blk_cell hBi 5).trans (show _=some (.int .i64 (m.st.node)) from rfl)
 have q6:=(blk_cell hBi 6).trans (show _=some (.slice m.An m.firsts.length m.cn) from rfl)
 have hc0:=mTx_any R base n st w0 hw0.out hR (by omega) m.x1 m.x2 m.x3 hxt
 replace hc0:=Lib.hid hc0
 replace hKz:=Lib.hid hKz
 clear hBi
 go_wp2_with (first
  | (go_at_call 64;(with_reducible refine Calls.mono hc2.out ?_);rintro e w12 ⟨rfl,hw12,hk12⟩;replace hw12:=Lib.hid hw12;have hK12:=hK11.out.trans hk12;replace hK12:=Lib.hid hK12;clear hk12)
  | (go_at_call 62;(with_reducible refine Calls.mono hc1.out ?_);rintro e w11 ⟨rfl,hw11,hk11⟩;replace hw11:=Lib.hid hw11;have hK11:=hK10.out.trans hk11;have hz11:=hw11.out.lt;have hy11:=hK11.size;have hBi:=hK11.blk (by decide) (by omega) hB.out;have q0:=(blk_cell hBi 0).trans (show _=some (.int .i64 (m.x1)) from rfl);have q1:=(blk_cell hBi 1).trans (show _=some (.int .i64 (m.x2)) from rfl);have q2:=(blk_cell hBi 2).trans (show _=some (.int .i64 (m.x3)) from rfl);have q3:=(blk_cell hBi 3).trans (show _=some (.int .i64 (m.st.wall)) from rfl);have q4:=(blk_cell hBi 4).trans (show _=some (.int .i64 (m.st.logic)) from rfl);have q5:=(blk_cell hBi 5).trans (show _=some (.int .i64 (m.st.node)) from rfl);have q6:=(blk_cell hBi 6).trans (show _=some (.slice m.An m.firsts.length m.cn) from rfl);have hc2:=mInts_any R base ((n+30)+50) (addB (stE m.st) (addTx m.p st)) m.firsts m.An m.cn wE w11 hw11.out hR (hK11.ge hGE.out hbE) hbE hin.out.firsts hok.out.firstsL hok.out.firsts (by omega);replace hc2:=Lib.hid hc2;clear hBi;replace hK11:=Lib.hid hK11;clear hk11)
  | (go_at_call 59;(with_reducible refine Calls.mono hc0.out ?_);rintro e w10 ⟨rfl,hw10,hk10⟩;replace hw10:=Lib.hid hw10;have hK10:=hKz.out.trans hk10;have hz10:=hw10.out.lt;have hy10:=hK10.size;have hBi:=hK10.blk (by decide) (by omega) hB.out;have q0:=(blk_cell hBi 0).trans (show _=some (.int .i64 (m.x1)) from rfl);have q1:=(blk_cell hBi 1).trans (show _=some (.int .i64 (m.x2)) from rfl);have q2:=(blk_cell hBi 2).trans (show _=some (.int .i64 (m.x3)) from rfl);have q3:=(blk_cell hBi 3).trans (show _=some (.int .i64 (m.st.wall)) from rfl);have q4:=(blk_cell hBi 4).trans (show _=some (.int .i64 (m.st.logic)) from rfl);have q5:=(blk_cell hBi 5).trans (show _=some (.int .i64 (m.st.node)) from rfl);have q6:=(blk_cell hBi 6).trans (show _=some (.slice m.An m.firsts.length m.cn) from rfl);have hc1:=mStamp_any R base (n+30) (addTx m.p st) w10 hw10.out hR (by omega) m.st;replace hc1:=Lib.hid hc1;clear hBi;replace hK10:=Lib.hid hK10;clear hk10))
 go_end0
 have hwe:=hw12.out.more (n':=n+1030000000000) (by omega)
 exact ⟨rfl,hwe,hK0.out.trans hK12.out⟩
set_option maxRecDepth 100000 in
set_option maxHeartbeats 2000000 in
theorem mMsg6_any (m : MsgM) (R base n : Nat) (st : Option (List UInt8)) (wE w : World) (hw : WrS 100 R base n st w) (hR : base ≤ R) (hGE : G wE w) (hbE : wE.heap.size ≤ base) (hin : m.In wE) (hok : m.Small) (hT : Tabs wE) (hn : n + 1030000000000 ≤ 1099511627776) :
  Calls Tryz.prog 31 #[.pointer (some ⟨R,0,none⟩),.iface 89 m.val6] w (WrPost 100 R base (n+1030000000000) (addSms (m.sms.map SmM.sm) (addMany 1099511627776 m.sms.length (addB (stE m.st) (addSpan m.p st)))) w):=by
 have hz:=hw.lt
 have hg:=G.new w (.cells #[.int .i64 (m.z1),.int .i64 (m.z2),.int .i64 (m.z3),.int .i64 (m.z4),.int .i64 (m.st.wall),.int .i64 (m.st.logic),.int .i64 (m.st.node),.slice m.As m.sms.length m.cs] 89)
 have hB:=blk_new w #[.int .i64 (m.z1),.int .i64 (m.z2),.int .i64 (m.z3),.int .i64 (m.z4),.int .i64 (m.st.wall),.int .i64 (m.st.logic),.int .i64 (m.st.node),.slice m.As m.sms.length m.cs] 89
 have hK0:=Kw.of_g (R:=R) (base:=base) hg (by omega)
 have hw0:=hw.g hg
 have hxs:∀u ∈ [m.z1,m.z2,m.z3,m.z4],Int64 u:=by intro u hu;simp at hu;rcases hu with rfl | rfl | rfl | rfl;exact hok.z1;exact hok.z2;exact hok.z3;exact hok.z4
 unfold MsgM.val6
 replace hGE:=Lib.hid hGE
 replace hin:=Lib.hid hin
 replace hok:=Lib.hid hok
 replace hT:=Lib.hid hT
 replace hw:=Lib.hid hw
 replace hw0:=Lib.hid hw0
 replace hB:=Lib.hid hB
 replace hK0:=Lib.hid hK0
 clear hg
 have a1:∀w,(Instr.typeAssert (.iface 89 (.agg #[.int .i64 (m.z1),.int .i64 (m.z2),.int .i64 (m.z3),.int .i64 (m.z4),.int .i64 (m.st.wall),.int .i64 (m.st.logic),.int .i64 (m.st.node),.slice m.As m.sms.length m.cs])) 20 81 true).run Tryz.prog w=.ok (.tuple #[.agg #[.int .i64 0,.int .i64 0,.int .i64 0,.string ⟨#[]⟩,.slice none 0 0,.int .i64 0,.int .i64 0,.int .i64 0],.bool false]) w:=fun w=>by kernel_rfl
 have a2:∀w,(Instr.typeAssert (.iface 89 (.agg #[.int .i64 (m.z1),.int .i64 (m.z2),.int .i64 (m.z3),.int .i64 (m.z4),.int .i64 (m.st.wall),.int .i64 (m.st.logic),.int .i64 (m.st.node),.slice m.As m.sms.length m.cs])) 20 83 true).run Tryz.prog w=.ok (.tuple #[.agg #[.int .i64 0,.int .i64 0,.int .i64 0,.int .i64 0,.int .i64 0,.int .i64 0,.int .i64 0,.slice none 0 0],.bool false]) w:=fun w=>by kernel_rfl
 have a3:∀w,(Instr.typeAssert (.iface 89 (.agg #[.int .i64 (m.z1),.int .i64 (m.z2),.int .i64 (m.z3),.int .i64 (m.z4),.int .i64 (m.st.wall),.int .i64 (m.st.logic),.int .i64 (m.st.node),.slice m.As m.sms.length m.cs])) 20 85 true).run Tryz.prog w=.ok (.tuple #[.agg #[.int .i64 0,.int .i64 0,.int .i64 0,.bool false,.int .i64 0,.int .i64 0,.int .i64 0],.bool false]) w:=fun w=>by kernel_rfl
 have a4:∀w,(Instr.typeAssert (.iface 89 (.agg #[.int .i64 (m.z1),.int .i64 (m.z2),.int .i64 (m.z3),.int .i64 (m.z4),.int .i64 (m.st.wall),.int .i64 (m.st.logic),.int .i64 (m.st.node),.slice m.As m.sms.length m.cs])) 20 52 true).run Tryz.prog w=.ok (.tuple #[.agg #[.int .i64 0,.int .i64 0,.int .i64 0],.bool false]) w:=fun w=>by kernel_rfl
 have a5:∀w,(Instr.typeAssert (.iface 89 (.agg #[.int .i64 (m.z1),.int .i64 (m.z2),.int .i64 (m.z3),.int .i64 (m.z4),.int .i64 (m.st.wall),.int .i64 (m.st.logic),.int .i64 (m.st.node),.slice m.As m.sms.length m.cs])) 20 87 true).run Tryz.prog w=.ok (.tuple #[.agg #[.int .i64 0,.int .i64 0,.int .i64 0,.int .i64 0,.int .i64 0,.int .i64 0,.slice none 0 0],.bool false]) w:=fun w=>by kernel_rfl
 have a6:∀w,(Instr.typeAssert (.iface 89 (.agg #[.int .i64 (m.z1),.int .i64 (m.z2),.int .i64 (m.z3),.int .i64 (m.z4),.int .i64 (m.st.wall),.int .i64 (m.st.logic),.int .i64 (m.st.node),.slice m.As m.sms.length m.cs])) 20 89 true).run Tryz.prog w=.ok (.tuple #[.agg #[.int .i64 (m.z1),.int .i64 (m.z2),.int .i64 (m.z3),.int .i64 (m.z4),.int .i64 (m.st.wall),.int .i64 (m.st.logic),.int .i64 (m.st.node),.slice m.As m.sms.length m.cs],.bool true]) w:=fun w=>by kernel_rfl
 go_enter Tryz.func31,Tryz.ntmps31
 go_upto_region 28 with fail
 generalize w.alloc (.cells #[.int .i64 (m.z1),.int .i64 (m.z2),.int .i64 (m.z3),.int .i64 (m.z4),.int .i64 (m.st.wall),.int .i64 (m.st.logic),.int .i64 (m.st.node),.slice m.As m.sms.length m.cs] 89)=w0 at *
 clear a1 a2 a3 a4 a5 a6
 have hKz:=Kw.refl R base w0
 have hGE0:=hGE
 replace hGE:=Lib.hid (hK0.out.ge hGE0.out hbE)
 have hz0:=hw0.out.lt
 have hBi:=hKz.blk (by decide) (by omega) hB.out
 have q0:=(blk_cell hBi 0).trans (show _=some (.int .i64 (m.z1)) from rfl)
 have q1:=(blk_cell hBi 1).trans (show _=some (.int .i64 (m.z2)) from rfl)
 have q2:=(blk_cell hBi 2).trans (show _=some (.int .i64 (m.z3)) from rfl)
 have q3:=(blk_cell hBi 3).trans (show _=some (.int .i64 (m.z4)) from rfl)
 have q4:=(blk_cell hBi 4).trans (show _=some (.int .i64 (m.st.wall)) from rfl)
 have q5:=(blk_cell hBi 5).trans (show _=some (.int .i64 (m.st.logic)) from rfl)
 have q6:=(blk_cell hBi 6).trans (show _=some (.int .i64 (m.st.node)) from rfl)
 have q7:=(blk_cell hBi 7).trans (show _=some (.slice m.As m.sms.length m.cs) from rfl)
 have hc0:=mSpan_any R base n st w0 hw0.out hR (by omega) m.z1 m.z2 m.z3 m.z4 hxs
 replace hc0:=Lib.hid hc0
 replace hKz:=Lib.hid hKz
 clear hBi
 go_wp2_with (first
  | (go_at_call 67;(with_reducible refine Calls.mono hc2.out ?_);rintro e w12 ⟨rfl,hw12,hk12⟩;replace hw12:=Lib.hid hw12;have hK12:=hK11.out.trans hk12;replace hK12:=Lib.hid hK12;clear hk12)
  | (go_at_call 62;(with_reducible refine Calls.mono hc1.out ?_);rintro e w11 ⟨rfl,hw11,hk11⟩;replace hw11:=Lib.hid hw11;have hK11:=hK10.out.trans hk11;have hz11:=hw11.out.lt;have hy11:=hK11.size;have hBi:=hK11.blk (by decide) (by omega) hB.out;have q0:=(blk_cell hBi 0).trans (show _=some (.int .i64 (m.z1)) from rfl);have q1:=(blk_cell hBi 1).trans (show _=some (.int .i64 (m.z2)) from rfl);have q2:=(blk_cell hBi 2).trans (show _=some (.int .i64 (m.z3)) from rfl);have q3:=(blk_cell hBi 3).trans (show _=some (.int .i64 (m.z4)) from rfl);have q4:=(blk_cell hBi 4).trans (show _=some (.int .i64 (m.st.wall)) from rfl);have q5:=(blk_cell hBi 5).trans (show _=some (.int .i64 (m.st.logic)) from rfl);have q6:=(blk_cell hBi 6).trans (show _=some (.int .i64 (m.st.node)) from rfl);have q7:=(blk_cell hBi 7).trans (show _=some (.slice m.As m.sms.length m.cs) from rfl);have hc2:=mStreams_any R base ((n+40)+50) (addB (stE m.st) (addSpan m.p st)) m.sms m.As m.cs wE w11 hw11.out hR (hK11.ge hGE.out hbE) hbE hin.out.sms hok.out.sms hok.out.smsL hT.out (by omega);replace hc2:=Lib.hid hc2;clear hBi;replace hK11:=Lib.hid hK11;clear hk11)
  | (go_at_call 66;(with_reducible refine Calls.mono hc0.out ?_);rintro e w10 ⟨rfl,hw10,hk10⟩;replace hw10:=Lib.hid hw10;have hK10:=hKz.out.trans hk10;have hz10:=hw10.out.lt;have hy10:=hK10.size;have hBi:=hK10.blk (by decide) (by omega) hB.out;have q0:=(blk_cell hBi 0).trans (show _=some (.int .i64 (m.z1)) from rfl);have q1:=(blk_cell hBi 1).trans (show _=some (.int .i64 (m.z2)) from rfl);have q2:=(blk_cell hBi 2).trans (show _=some (.int .i64 (m.z3)) from rfl);have q3:=(blk_cell hBi 3).trans (show _=some (.int .i64 (m.z4)) from rfl);have q4:=(blk_cell hBi 4).trans (show _=some (.int .i64 (m.st.wall)) from rfl);have q5:=(blk_cell hBi 5).trans (show _=some (.int .i64 (m.st.logic)) from rfl);have q6:=(blk_cell hBi 6).trans (show _=some (.int .i64 (m.st.node)) from rfl);have q7:=(blk_cell hBi 7).trans (show _=some (.slice m.As m.sms.length m.cs) from rfl);have hc1:=mStamp_any R base (n+40) (addSpan m.p st) w10 hw10.out hR (by omega) m.st;replace hc1:=Lib.hid hc1;clear hBi;replace hK10:=Lib.hid hK10;clear hk10))
 go_end0
 have hwe:=hw12.out.more (n':=n+1030000000000) (by omega)
 exact ⟨rfl,hwe,hK0.out.trans hK12.out⟩
set_option maxRecDepth 100000 in
set_option maxHeartbeats 2000000 in
theorem mMsg7_any (m : MsgM) (R base n : Nat) (st : Option (List UInt8)) (wE w : World) (hw : WrS 100 R base n st w) (hR : base ≤ R) (hGE : G wE w) (hbE : wE.heap.size ≤ base) (hin : m.In wE) (hok : m.Small) (hT : Tabs wE) (hn : n + 1030000000000 ≤ 1099511627776) :
  Calls Tryz.prog 31 #[.pointer (some ⟨R,0,none⟩),.iface 91 m.val7] w (WrPost 100 R base (n+1030000000000) (addSpan m.p st) w):=by
 have hz:=hw.lt
 have hg:=G.new w (.cells #[.int .i64 (m.z1),.int .i64 (m.z2),.int .i64 (m.z3),.int .i64 (m.z4)] 91)
 have hB:=blk_new w #[.int .i64 (m.z1),.int .i64 (m.z2),.int .i64 (m.z3),.int .i64 (m.z4)] 91
 have hK0:=Kw.of_g (R:=R) (base:=base) hg (by omega)
 have hw0:=hw.g hg
 have hxs:∀u ∈ [m.z1,m.z2,m.z3,m.z4],Int64 u:=by intro u hu;simp at hu;rcases hu with rfl | rfl | rfl | rfl;exact hok.z1;exact hok.z2;exact hok.z3;exact hok.z4
 unfold MsgM.val7
 replace hGE:=Lib.hid hGE
 replace hin:=Lib.hid hin
 replace hok:=Lib.hid hok
 replace hT:=Lib.hid hT
 replace hw:=Lib.hid hw
 replace hw0:=Lib.hid hw0
 replace hB:=Lib.hid hB
 replace hK0:=Lib.hid hK0
 clear hg
 have a1:∀w,(Instr.typeAssert (.iface 91 (.agg #[.int .i64 (m.z1),.int .i64 (m.z2),.int .i64 (m.z3),.int .i64 (m.z4)])) 20 81 true).run Tryz.prog w=.ok (.tuple #[.agg #[.int .i64 0,.int .i64 0,.int .i64 0,.string ⟨#[]⟩,.slice none 0 0,.int .i64 0,.int .i64 0,.int .i64 0],.bool false]) w:=fun w=>by kernel_rfl
 have a2:∀w,(Instr.typeAssert (.iface 91 (.agg #[.int .i64 (m.z1),.int .i64 (m.z2),.int .i64 (m.z3),.int .i64 (m.z4)])) 20 83 true).run Tryz.prog w=.ok (.tuple #[.agg #[.int .i64 0,.int .i64 0,.int .i64 0,.int .i64 0,.int .i64 0,.int .i64 0,.int .i64 0,.slice none 0 0],.bool false]) w:=fun w=>by kernel_rfl
 have a3:∀w,(Instr.typeAssert (.iface 91 (.agg #[.int .i64 (m.z1),.int .i64 (m.z2),.int .i64 (m.z3),.int .i64 (m.z4)])) 20 85 true).run Tryz.prog w=.ok (.tuple #[.agg #[.int .i64 0,.int .i64 0,.int .i64 0,.bool false,.int .i64 0,.int .i64 0,.int .i64 0],.bool false]) w:=fun w=>by kernel_rfl
 have a4:∀w,(Instr.typeAssert (.iface 91 (.agg #[.int .i64 (m.z1),.int .i64 (m.z2),.int .i64 (m.z3),.int .i64 (m.z4)])) 20 52 true).run Tryz.prog w=.ok (.tuple #[.agg #[.int .i64 0,.int .i64 0,.int .i64 0],.bool false]) w:=fun w=>by kernel_rfl
 have a5:∀w,(Instr.typeAssert (.iface 91 (.agg #[.int .i64 (m.z1),.int .i64 (m.z2),.int .i64 (m.z3),.int .i64 (m.z4)])) 20 87 true).run Tryz.prog w=.ok (.tuple #[.agg #[.int .i64 0,.int .i64 0,.int .i64 0,.int .i64 0,.int .i64 0,.int .i64 0,.slice none 0 0],.bool false]) w:=fun w=>by kernel_rfl
 have a6:∀w,(Instr.typeAssert (.iface 91 (.agg #[.int .i64 (m.z1),.int .i64 (m.z2),.int .i64 (m.z3),.int .i64 (m.z4)])) 20 89 true).run Tryz.prog w=.ok (.tuple #[.agg #[.int .i64 0,.int .i64 0,.int .i64 0,.int .i64 0,.int .i64 0,.int .i64 0,.int .i64 0,.slice none 0 0],.bool false]) w:=fun w=>by kernel_rfl
 have a7:∀w,(Instr.typeAssert (.iface 91 (.agg #[.int .i64 (m.z1),.int .i64 (m.z2),.int .i64 (m.z3),.int .i64 (m.z4)])) 20 91 true).run Tryz.prog w=.ok (.tuple #[.agg #[.int .i64 (m.z1),.int .i64 (m.z2),.int .i64 (m.z3),.int .i64 (m.z4)],.bool true]) w:=fun w=>by kernel_rfl
 go_enter Tryz.func31,Tryz.ntmps31
 go_upto_region 33 with fail
 generalize w.alloc (.cells #[.int .i64 (m.z1),.int .i64 (m.z2),.int .i64 (m.z3),.int .i64 (m.z4)] 91)=w0 at *
 clear a1 a2 a3 a4 a5 a6 a7
 have hKz:=Kw.refl R base w0
 have hGE0:=hGE
 replace hGE:=Lib.hid (hK0.out.ge hGE0.out hbE)
 have hz0:=hw0.out.lt
 have hBi:=hKz.blk (by decide) (by omega) hB.out
 have q0:=(blk_cell hBi 0).trans (show _=some (.int .i64 (m.z1)) from rfl)
 have q1:=(blk_cell hBi 1).trans (show _=some (.int .i64 (m.z2)) from rfl)
 have q2:=(blk_cell hBi 2).trans (show _=some (.int .i64 (m.z3)) from rfl)
 have q3:=(blk_cell hBi 3).trans (show _=some (.int .i64 (m.z4)) from rfl)
 have hc0:=mSpan_any R base n st w0 hw0.out hR (by omega) m.z1 m.z2 m.z3 m.z4 hxs
 replace hc0:=Lib.hid hc0
 replace hKz:=Lib.hid hKz
 clear hBi
 go_wp2_with (first
  | (go_at_call 66;(with_reducible refine Calls.mono hc0.out ?_);rintro e w10 ⟨rfl,hw10,hk10⟩;replace hw10:=Lib.hid hw10;have hK10:=hKz.out.trans hk10;replace hK10:=Lib.hid hK10;clear hk10))
 go_end0
 have hwe:=hw10.out.more (n':=n+1030000000000) (by omega)
 exact ⟨rfl,hwe,hK0.out.trans hK10.out⟩
set_option maxRecDepth 100000 in
set_option maxHeartbeats 2000000 in
theorem mMsg8_any (m : MsgM) (R base n : Nat) (st : Option (List UInt8)) (wE w : World) (hw : WrS 100 R base n st w) (hR : base ≤ R) (hGE : G wE w) (hbE : wE.heap.size ≤ base) (hin : m.In wE) (hok : m.Small) (hT : Tabs wE) (hn : n + 1030000000000 ≤ 1099511627776) :
  Calls Tryz.prog 31 #[.pointer (some ⟨R,0,none⟩),.iface 93 m.val8] w (WrPost 100 R base (n+1030000000000) (addNs 1099511627776 [m.src] st) w):=by
 have hz:=hw.lt
 have hg:=G.new w (.cells #[.int .i64 (m.src)] 93)
 have hB:=blk_new w #[.int .i64 (m.src)] 93
 have hK0:=Kw.of_g (R:=R) (base:=base) hg (by omega)
 have hw0:=hw.g hg
 unfold MsgM.val8
 replace hGE:=Lib.hid hGE
 replace hin:=Lib.hid hin
 replace hok:=Lib.hid hok
 replace hT:=Lib.hid hT
 replace hw:=Lib.hid hw
 replace hw0:=Lib.hid hw0
 replace hB:=Lib.hid hB
 replace hK0:=Lib.hid hK0
 clear hg
 have a1:∀w,(Instr.typeAssert (.iface 93 (.agg #[.int .i64 (m.src)])) 20 81 true).run Tryz.prog w=.ok (.tuple #[.agg #[.int .i64 0,.int .i64 0,.int .i64 0,.string ⟨#[]⟩,.slice none 0 0,.int .i64 0,.int .i64 0,.int .i64 0],.bool false]) w:=fun w=>by kernel_rfl
 have a2:∀w,(Instr.typeAssert (.iface 93 (.agg #[.int .i64 (m.src)])) 20 83 true).run Tryz.prog w=.ok (.tuple #[.agg #[.int .i64 0,.int .i64 0,.int .i64 0,.int .i64 0,.int .i64 0,.int .i64 0,.int .i64 0,.slice none 0 0],.bool false]) w:=fun w=>by kernel_rfl
 have a3:∀w,(Instr.typeAssert (.iface 93 (.agg #[.int .i64 (m.src)])) 20 85 true).run Tryz.prog w=.ok (.tuple #[.agg #[.int .i64 0,.int .i64 0,.int .i64 0,.bool false,.int .i64 0,.int .i64 0,.int .i64 0],.bool false]) w:=fun w=>by kernel_rfl
 have a4:∀w,(Instr.typeAssert (.iface 93 (.agg #[.int .i64 (m.src)])) 20 52 true).run Tryz.prog w=.ok (.tuple #[.agg #[.int .i64 0,.int .i64 0,.int .i64 0],.bool false]) w:=fun w=>by kernel_rfl
 have a5:∀w,(Instr.typeAssert (.iface 93 (.agg #[.int .i64 (m.src)])) 20 87 true).run Tryz.prog w=.ok (.tuple #[.agg #[.int .i64 0,.int .i64 0,.int .i64 0,.int .i64 0,.int .i64 0,.int .i64 0,.slice none 0 0],.bool false]) w:=fun w=>by kernel_rfl
 have a6:∀w,(Instr.typeAssert (.iface 93 (.agg #[.int .i64 (m.src)])) 20 89 true).run Tryz.prog w=.ok (.tuple #[.agg #[.int .i64 0,.int .i64 0,.int .i64 0,.int .i64 0,.int .i64 0,.int .i64 0,.int .i64 0,.slice none 0 0],.bool false]) w:=fun w=>by kernel_rfl
 have a7:∀w,(Instr.typeAssert (.iface 93 (.agg #[.int .i64 (m.src)])) 20 91 true).run Tryz.prog w=.ok (.tuple #[.agg #[.int .i64 0,.int .i64 0,.int .i64 0,.int .i64 0],.bool false]) w:=fun w=>by kernel_rfl
 have a8:∀w,(Instr.typeAssert (.iface 93 (.agg #[.int .i64 (m.src)])) 20 93 true).run Tryz.prog w=.ok (.tuple #[.agg #[.int .i64 (m.src)],.bool true]) w:=fun w=>by kernel_rfl
 go_enter Tryz.func31,Tryz.ntmps31
 go_upto_region 36 with fail
 generalize w.alloc (.cells #[.int .i64 (m.src)] 93)=w0 at *
 clear a1 a2 a3 a4 a5 a6 a7 a8
 have hKz:=Kw.refl R base w0
 have hGE0:=hGE
 replace hGE:=Lib.hid (hK0.out.ge hGE0.out hbE)
 have hz0:=hw0.out.lt
 have hBi:=hKz.blk (by decide) (by omega) hB.out
 have q0:=(blk_cell hBi 0).trans (show _=some (.int .i64 (m.src)) from rfl)
 have hc0:=mNumsL (R:=R) (base:=base) (n:=n) (st:=st) [m.src] hw0.out hR (by simp;omega) (by simpa using hok.out.src) 1 rfl #[.int .i64 (m.src)] rfl
 replace hc0:=Lib.hid hc0
 replace hKz:=Lib.hid hKz
 clear hBi
 go_wp2_with (first
  | (go_at_call 63;(with_reducible refine Calls.mono hc0.out ?_);rintro e w10 ⟨rfl,hw10,hk10⟩;replace hw10:=Lib.hid hw10;have hK10:=hKz.out.trans hk10;replace hK10:=Lib.hid hK10;clear hk10))
 go_end0
 have hwe:=hw10.out.more (n':=n+1030000000000) (by omega)
 exact ⟨rfl,hwe,hK0.out.trans hK10.out⟩
set_option maxRecDepth 100000 in
set_option maxHeartbeats 2000000 in
theorem mMsg9_any (m : MsgM) (R base n : Nat) (st : Option (List UInt8)) (wE w : World) (hw : WrS 100 R base n st w) (hR : base ≤ R) (hGE : G wE w) (hbE : wE.heap.size ≤ base) (hin : m.In wE) (hok : m.Small) (hT : Tabs wE) (hn : n + 1030000000000 ≤ 1099511627776) :
  Calls Tryz.prog 31 #[.pointer (some ⟨R,0,none⟩),.iface 55 m.val9] w (WrPost 100 R base (n+1030000000000) (addRgs m.rgs (addMany 1099511627776 m.rgs.length (addB (stE m.st) (addEvs m.es (addMany 1099511627776 m.es.length (addNs 1099511627776 [m.src,m.total] st)))))) w):=by
 have hz:=hw.lt
 have hg:=G.new w (.cells #[.int .i64 (m.src),.int .i64 (m.total),.slice m.Ae m.es.length m.ce,.int .i64 (m.st.wall),.int .i64 (m.st.logic),.int .i64 (m.st.node),.slice m.Ag m.rgs.length m.cg] 55)
 have hB:=blk_new w #[.int .i64 (m.src),.int .i64 (m.total),.slice m.Ae m.es.length m.ce,.int .i64 (m.st.wall),.int .i64 (m.st.logic),.int .i64 (m.st.node),.slice m.Ag m.rgs.length m.cg] 55
 have hK0:=Kw.of_g (R:=R) (base:=base) hg (by omega)
 have hw0:=hw.g hg
 unfold MsgM.val9
 replace hGE:=Lib.hid hGE
 replace hin:=Lib.hid hin
 replace hok:=Lib.hid hok
 replace hT:=Lib.hid hT
 replace hw:=Lib.hid hw
 replace hw0:=Lib.hid hw0
 replace hB:=Lib.hid hB
 replace hK0:=Lib.hid hK0
 clear hg
 have a1:∀w,(Instr.typeAssert (.iface 55 (.agg #[.int .i64 (m.src),.int .i64 (m.total),.slice m.Ae m.es.length m.ce,.int .i64 (m.st.wall),.int .i64 (m.st.logic),.int .i64 (m.st.node),.slice m.Ag m.rgs.length m.cg])) 20 81 true).run Tryz.prog w=.ok (.tuple #[.agg #[.int .i64 0,.int .i64 0,.int .i64 0,.string ⟨#[]⟩,.slice none 0 0,.int .i64 0,.int .i64 0,.int .i64 0],.bool false]) w:=fun w=>by kernel_rfl
 have a2:∀w,(Instr.typeAssert (.iface 55 (.agg #[.int .i64 (m.src),.int .i64 (m.total),.slice m.Ae m.es.length m.ce,.int .i64 (m.st.wall),.int .i64 (m.st.logic),.int .i64 (m.st.node),.slice m.Ag m.rgs.length m.cg])) 20 83 true).run Tryz.prog w=.ok (.tuple #[.agg #[.int .i64 0,.int .i64 0,.int .i64 0,.int .i64 0,.int .i64 0,.int .i64 0,.int .i64 0,.slice none 0 0],.bool false]) w:=fun w=>by kernel_rfl
 have a3:∀w,(Instr.typeAssert (.iface 55 (.agg #[.int .i64 (m.src),.int .i64 (m.total),.slice m.Ae m.es.length m.ce,.int .i64 (m.st.wall),.int .i64 (m.st.logic),.int .i64 (m.st.node),.slice m.Ag m.rgs.length m.cg])) 20 85 true).run Tryz.prog w=.ok (.tuple #[.agg #[.int .i64 0,.int .i64 0,.int .i64 0,.bool false,.int .i64 0,.int .i64 0,.int .i64 0],.bool false]) w:=fun w=>by kernel_rfl
 have a4:∀w,(Instr.typeAssert (.iface 55 (.agg #[.int .i64 (m.src),.int .i64 (m.total),.slice m.Ae m.es.length m.ce,.int .i64 (m.st.wall),.int .i64 (m.st.logic),.int .i64 (m.st.node),.slice m.Ag m.rgs.length m.cg])) 20 52 true).run Tryz.prog w=.ok (.tuple #[.agg #[.int .i64 0,.int .i64 0,.int .i64 0],.bool false]) w:=fun w=>by kernel_rfl
 have a5:∀w,(Instr.typeAssert (.iface 55 (.agg #[.int .i64 (m.src),.int .i64 (m.total),.slice m.Ae m.es.length m.ce,.int .i64 (m.st.wall),.int .i64 (m.st.logic),.int .i64 (m.st.node),.slice m.Ag m.rgs.length m.cg])) 20 87 true).run Tryz.prog w=.ok (.tuple #[.agg #[.int .i64 0,.int .i64 0,.int .i64 0,.int .i64 0,.int .i64 0,.int .i64 0,.slice none 0 0],.bool false]) w:=fun w=>by kernel_rfl
 have a6:∀w,(Instr.typeAssert (.iface 55 (.agg #[.int .i64 (m.src),.int .i64 (m.total),.slice m.Ae m.es.length m.ce,.int .i64 (m.st.wall),.int .i64 (m.st.logic),.int .i64 (m.st.node),.slice m.Ag m.rgs.length m.cg])) 20 89 true).run Tryz.prog w=.ok (.tuple #[.agg #[.int .i64 0,.int .i64 0,.int .i64 0,.int .i64 0,.int .i64 0,.int .i64 0,.int .i64 0,.slice none 0 0],.bool false]) w:=fun w=>by kernel_rfl
 have a7:∀w,(Instr.typeAssert (.iface 55 (.agg #[.int .i64 (m.src),.int .i64 (m.total),.slice m.Ae m.es.length m.ce,.int .i64 (m.st.wall),.int .i64 (m.st.logic),.int .i64 (m.st.node),.slice m.Ag m.rgs.length m.cg])) 20 91 true).run Tryz.prog w=.ok (.tuple #[.agg #[.int .i64 0,.int .i64 0,.int .i64 0,.int .i64 0],.bool false]) w:=fun w=>by kernel_rfl
 have a8:∀w,(Instr.typeAssert (.iface 55 (.agg #[.int .i64 (m.src),.int .i64 (m.total),.slice m.Ae m.es.length m.ce,.int .i64 (m.st.wall),.int .i64 (m.st.logic),.int .i64 (m.st.node),.slice m.Ag m.rgs.length m.cg])) 20 93 true).run Tryz.prog w=.ok (.tuple #[.agg #[.int .i64 0],.bool false]) w:=fun w=>by kernel_rfl
 have a9:∀w,(Instr.typeAssert (.iface 55 (.agg #[.int .i64 (m.src),.int .i64 (m.total),.slice m.Ae m.es.length m.ce,.int .i64 (m.st.wall),.int .i64 (m.st.logic),.int .i64 (m.st.node),.slice m.Ag m.rgs.length m.cg])) 20 55 true).run Tryz.prog w=.ok (.tuple #[.agg #[.int .i64 (m.src),.int .i64 (m.total),.slice m.Ae m.es.length m.ce,.int .i64 (m.st.wall),.int .i64 (m.st.logic),.int .i64 (m.st.node),.slice m.Ag m.rgs.length m.cg],.bool true]) w:=fun w=>by kernel_rfl
 go_enter Tryz.func31,Tryz.ntmps31
 go_upto_region 39 with fail
 generalize w.alloc (.cells #[.int .i64 (m.src),.int .i64 (m.total),.slice m.Ae m.es.length m.ce,.int .i64 (m.st.wall),.int .i64 (m.st.logic),.int .i64 (m.st.node),.slice m.Ag m.rgs.length m.cg] 55)=w0 at *
 clear a1 a2 a3 a4 a5 a6 a7 a8 a9
 have hKz:=Kw.refl R base w0
 have hGE0:=hGE
 replace hGE:=Lib.hid (hK0.out.ge hGE0.out hbE)
 have hz0:=hw0.out.lt
 have hBi:=hKz.blk (by decide) (by omega) hB.out
 have q0:=(blk_cell hBi 0).trans (show _=some (.int .i64 (m.src)) from rfl)
 have q1:=(blk_cell hBi 1).trans (show _=some (.int .i64 (m.total)) from rfl)
 have q2:=(blk_cell hBi 2).trans (show _=some (.slice m.Ae m.es.length m.ce) from rfl)
 have q3:=(blk_cell hBi 3).trans (show _=some (.int .i64 (m.st.wall)) from rfl)
 have q4:=(blk_cell hBi 4).trans (show _=some (.int .i64 (m.st.logic)) from rfl)
 have q5:=(blk_cell hBi 5).trans (show _=some (.int .i64 (m.st.node)) from rfl)
 have q6:=(blk_cell hBi 6).trans (show _=some (.slice m.Ag m.rgs.length m.cg) from rfl)
 have hc0:=mNumsL (R:=R) (base:=base) (n:=n) (st:=st) [m.src,m.total] hw0.out hR (by simp;omega) (by intro u hu;simp at hu;rcases hu with rfl | rfl;exact hok.out.src;exact hok.out.total) 2 rfl #[.int .i64 (m.src),.int .i64 (m.total)] rfl
 replace hc0:=Lib.hid hc0
 replace hKz:=Lib.hid hKz
 clear hBi
 go_wp2_with (first
  | (go_at_call 69;(with_reducible refine Calls.mono hc3.out ?_);rintro e w13 ⟨rfl,hw13,hk13⟩;replace hw13:=Lib.hid hw13;have hK13:=hK12.out.trans hk13;replace hK13:=Lib.hid hK13;clear hk13)
  | (go_at_call 62;(with_reducible refine Calls.mono hc2.out ?_);rintro e w12 ⟨rfl,hw12,hk12⟩;replace hw12:=Lib.hid hw12;have hK12:=hK11.out.trans hk12;have hz12:=hw12.out.lt;have hy12:=hK12.size;have hBi:=hK12.blk (by decide) (by omega) hB.out;have q0:=(blk_cell hBi 0).trans (show _=some (.int .i64 (m.src)) from rfl);have q1:=(blk_cell hBi 1).trans (show _=some (.int .i64 (m.total)) from rfl);have q2:=(blk_cell hBi 2).trans (show _=some (.slice m.Ae m.es.length m.ce) from rfl);have q3:=(blk_cell hBi 3).trans (show _=some (.int .i64 (m.st.wall)) from rfl);have q4:=(blk_cell hBi 4).trans (show _=some (.int .i64 (m.st.logic)) from rfl);have q5:=(blk_cell hBi 5).trans (show _=some (.int .i64 (m.st.node)) from rfl);have q6:=(blk_cell hBi 6).trans (show _=some (.slice m.Ag m.rgs.length m.cg) from rfl);have hc3:=mSpans_any R base (((n+2 * 10)+510000000000)+50) (addB (stE m.st) (addEvs m.es (addMany 1099511627776 m.es.length (addNs 1099511627776 [m.src,m.total] st)))) m.rgs m.Ag m.cg wE w12 hw12.out hR (hK12.ge hGE.out hbE) hbE hin.out.rgs hok.out.rgs hok.out.rgsL (by omega);replace hc3:=Lib.hid hc3;clear hBi;replace hK12:=Lib.hid hK12;clear hk12)
  | (go_at_call 68;(with_reducible refine Calls.mono hc1.out ?_);rintro e w11 ⟨rfl,hw11,hk11⟩;replace hw11:=Lib.hid hw11;have hK11:=hK10.out.trans hk11;have hz11:=hw11.out.lt;have hy11:=hK11.size;have hBi:=hK11.blk (by decide) (by omega) hB.out;have q0:=(blk_cell hBi 0).trans (show _=some (.int .i64 (m.src)) from rfl);have q1:=(blk_cell hBi 1).trans (show _=some (.int .i64 (m.total)) from rfl);have q2:=(blk_cell hBi 2).trans (show _=some (.slice m.Ae m.es.length m.ce) from rfl);have q3:=(blk_cell hBi 3).trans (show _=some (.int .i64 (m.st.wall)) from rfl);have q4:=(blk_cell hBi 4).trans (show _=some (.int .i64 (m.st.logic)) from rfl);have q5:=(blk_cell hBi 5).trans (show _=some (.int .i64 (m.st.node)) from rfl);have q6:=(blk_cell hBi 6).trans (show _=some (.slice m.Ag m.rgs.length m.cg) from rfl);have hc2:=mStamp_any R base ((n+2 * 10)+510000000000) (addEvs m.es (addMany 1099511627776 m.es.length (addNs 1099511627776 [m.src,m.total] st))) w11 hw11.out hR (by omega) m.st;replace hc2:=Lib.hid hc2;clear hBi;replace hK11:=Lib.hid hK11;clear hk11)
  | (go_at_call 63;(with_reducible refine Calls.mono hc0.out ?_);rintro e w10 ⟨rfl,hw10,hk10⟩;replace hw10:=Lib.hid hw10;have hK10:=hKz.out.trans hk10;have hz10:=hw10.out.lt;have hy10:=hK10.size;have hBi:=hK10.blk (by decide) (by omega) hB.out;have q0:=(blk_cell hBi 0).trans (show _=some (.int .i64 (m.src)) from rfl);have q1:=(blk_cell hBi 1).trans (show _=some (.int .i64 (m.total)) from rfl);have q2:=(blk_cell hBi 2).trans (show _=some (.slice m.Ae m.es.length m.ce) from rfl);have q3:=(blk_cell hBi 3).trans (show _=some (.int .i64 (m.st.wall)) from rfl);have q4:=(blk_cell hBi 4).trans (show _=some (.int .i64 (m.st.logic)) from rfl);have q5:=(blk_cell hBi 5).trans (show _=some (.int .i64 (m.st.node)) from rfl);have q6:=(blk_cell hBi 6).trans (show _=some (.slice m.Ag m.rgs.length m.cg) from rfl);have hc1:=mEvents_any R base (n+2 * 10) (addNs 1099511627776 [m.src,m.total] st) m.es m.Ae m.ce wE w10 hw10.out hR (hK10.ge hGE.out hbE) hbE hin.out.es hok.out.es hok.out.esL hT.out (by omega);replace hc1:=Lib.hid hc1;clear hBi;replace hK10:=Lib.hid hK10;clear hk10))
 go_end0
 have hwe:=hw13.out.more (n':=n+1030000000000) (by omega)
 exact ⟨rfl,hwe,hK0.out.trans hK13.out⟩
end Go.Proofs.YtheogchkelmeeaaGreatDoor

/- penstockref10.Check: what it answers of a message. Conditions: lengths as told; the decoder's tables lie as the library lays them. -/
import Derived.Test.YtheogchkelmeeaaGreatDoorM40MsgDecodes
import Derived.Test.YtheogchkelmeeaaGreatDoorEvEncQMsgDecodes
import Derived.Test.YtheogchkelmeeaaGreatDoorRefSmEncQMsgDecodes
import Derived.Test.YtheogchkelmeeaaGreatDoorRefCheckQMsgDecodes
import Derived.Test.YtheogchkelmeeaaGreatDoorMsgPiecesQMsgDecodes
namespace Go.Proofs.YtheogchkelmeeaaGreatDoor
open Go.RowKit
theorem sl_5 {w : World} {b : Nat} {m m2 m3 m4 m5 : Int} (hc : w.cell? ⟨b, 0, none⟩ = some (.int .i64 m)) (hc2 : w.cell? ⟨b, 1, none⟩ = some (.int .i64 m2)) (hc3 : w.cell? ⟨b, 2, none⟩ = some (.int .i64 m3)) (hc4 : w.cell? ⟨b, 3, none⟩ = some (.int .i64 m4)) (hc5 : w.cell? ⟨b, 4, none⟩ = some (.int .i64 m5)) :
  Sl intC 1 w (b+1) (some ⟨b,0,none⟩) [m,m2,m3,m4,m5]:=fun _ =>
 ⟨b,0,rfl,by omega,fun k x hx j u hu=>by
  rcases j with _ | j
  ·rcases k with _ | _ | _ | _ | _ | k
   ·simp at hx;subst hx;simp [intC] at hu;subst hu;exact hc
   ·simp at hx;subst hx;simp [intC] at hu;subst hu;exact hc2
   ·simp at hx;subst hx;simp [intC] at hu;subst hu;exact hc3
   ·simp at hx;subst hx;simp [intC] at hu;subst hu;exact hc4
   ·simp at hx;subst hx;simp [intC] at hu;subst hu;exact hc5
   ·simp at hx
  ·simp [intC] at hu⟩
theorem sl_rg {w : World} {b : Nat} {m m2 m3 m4 : Int} (hc : w.cell? ⟨b, 0, none⟩ = some (.int .i64 m)) (hc2 : w.cell? ⟨b, 1, none⟩ = some (.int .i64 m2)) (hc3 : w.cell? ⟨b, 2, none⟩ = some (.int .i64 m3)) (hc4 : w.cell? ⟨b, 3, none⟩ = some (.int .i64 m4)) :
  Sl Rg.cells 4 w (b+1) (some ⟨b,0,none⟩) [⟨m,m2,m3,m4⟩]:=fun _ =>
 ⟨b,0,rfl,by omega,fun k x hx j u hu=>by
  rcases k with _ | k
  ·simp at hx
   subst hx
   rcases j with _ | _ | _ | _ | j
   ·simp [Rg.cells] at hu;subst hu;exact hc
   ·simp [Rg.cells] at hu;subst hu;exact hc2
   ·simp [Rg.cells] at hu;subst hu;exact hc3
   ·simp [Rg.cells] at hu;subst hu;exact hc4
   ·simp [Rg.cells] at hu
  ·simp at hx⟩
theorem ne_len (l:List UInt8):decide (l≠[])=decide (0 < (l.length:Int)):=by
 rw [decide_eq_decide]
 constructor
 ·intro h
  have:=List.length_pos_iff.2 h
  omega
 ·rintro h rfl
  simp at h
theorem step_all {α:Type} {p:α→Bool} {l:List α} {k:Nat} {x:α} {b c:Bool} (h:l[k]?=some x) (h1:true=(b && (l.take k).all p)) (h2:p x=c):c=(b && (l.take (k+1)).all p):=by
 rw [List.take_add_one,h,List.all_append,←Bool.and_assoc,←h1]
 simp [h2]
theorem stop_all {α:Type} {p:α→Bool} {l:List α} {k:Nat} {b:Bool} (h1:false=(b && (l.take k).all p)):(b && l.all p)=false:=by
 cases b with
 | false=>rfl
 | true =>
  rw [Bool.true_and] at h1 ⊢
  rw [List.all_eq_false]
  obtain ⟨x,hxm,hxp⟩:=List.all_eq_false.1 h1.symm
  exact ⟨x,List.mem_of_mem_take hxm,hxp⟩
def ok9 (r:MsgM):Bool:=((((((((inB [r.x1,r.x2,r.x3,r.src,r.total] && inB r.firsts) && decide (0≤r.code)) && decide (r.code≤12)) && stOk r.st) && rgsB r.rgs) && rgsB [⟨r.z1,r.z2,r.z3,r.z4⟩]) && decide (r.es.length≤1000)) && decide (r.sms.length≤1000))
def evP (e:Ev):Bool:=decide (evL e≠[])
def smP (s:Sm):Bool:=decide (smL s≠[])
theorem chkM_ok9 (r:MsgM):chkM r.p=(kOk r.kind && (((ok9 r && r.es.all evP) && (r.sms.map SmM.sm).all smP) && (!decide (r.kind=1) || decide (chkN r.key (r.ps.map PutM.p)=0)))):=by
 unfold chkM MsgM.p ok9
 dsimp only
 rw [List.length_map]
 cases kOk r.kind <;> rfl
def chkC (r:MsgM):Int:=if kOk r.kind=false then 12 else if chkM r.p=true then 0 else 1
set_option maxRecDepth 100000 in
set_option maxHeartbeats 16000000 in
theorem refMChk_any (r:MsgM) (w:World) (hin:r.In w) (hok:r.Small) (hT:Tabs w):Calls Tryz.prog 50 #[.agg r.cells] w fun e w'=>e=.returned (.int .i64 (chkC r))∧G w w':=by
 have hg0:=G.new w (.cells r.cells 41)
 have hB0:=blk_new w r.cells 41
 by_cases hk:kOk r.kind=false
 ·rw [show chkC r=12 from if_pos hk]
  have hk0:=kOk_no hk
  go_enter Tryz.func50,Tryz.ntmps50
  go_upto_region 1 with fail
  generalize w.alloc (.cells r.cells 41)=W0 at *
  have g0:=(blk_cell hB0 0).trans (show _=some (.int .i64 r.kind) from rfl)
  replace hB0:=Lib.hid hB0
  by_cases h1:r.kind < 1
  ·have t1:decide (r.kind < 1)=true:=decide_eq_true h1
   go_wp2_with fail
   go_ret
   exact ⟨rfl,hg0⟩
  ·have t1:decide (r.kind < 1)=false:=decide_eq_false h1
   have t2:decide (9 < r.kind)=true:=decide_eq_true (by omega)
   go_wp2_with fail
   go_ret
   exact ⟨rfl,hg0⟩
 have hkt:kOk r.kind=true:=by simpa using hk
 have hk0:1≤r.kind∧r.kind≤9:=of_decide_eq_true hkt
 have t1:decide (r.kind < 1)=false:=decide_eq_false (by omega)
 have t2:decide (9 < r.kind)=false:=decide_eq_false (by omega)
 obtain ⟨OK9,hOK⟩:∃b,ok9 r=b:=⟨_,rfl⟩
 obtain ⟨CK,hCK⟩:∃b,chkM r.p=b:=⟨_,rfl⟩
 rw [show chkC r=if CK=true then 0 else 1 from by unfold chkC;rw [if_neg hk,hCK]]
 rw [chkM_ok9,hkt,Bool.true_and,hOK] at hCK
 have hIn:∀w',G w w'→r.In w':=fun w' hg=>hin.g hg
 have hI5:∀(b:Nat) (w':World),w'.cell? ⟨b,0,none⟩=some (.int .i64 r.x1)→w'.cell? ⟨b,1,none⟩=some (.int .i64 r.x2)→w'.cell? ⟨b,2,none⟩=some (.int .i64 r.x3)→w'.cell? ⟨b,3,none⟩=some (.int .i64 r.src)→w'.cell? ⟨b,4,none⟩=some (.int .i64 r.total)→Calls Tryz.prog 85 #[.slice (some ⟨b,0,none⟩) 5 5] w' fun e w''=>e=.returned (.bool (inB [r.x1,r.x2,r.x3,r.src,r.total]))∧G w' w'':=fun b w' d0 d1 d2 d3 d4=>in10_any [r.x1,r.x2,r.x3,r.src,r.total] (some ⟨b,0,none⟩) 5 (b+1) w' (by simp) (sl_5 d0 d1 d2 d3 d4)
 have hI2:∀w',G w w'→Calls Tryz.prog 85 #[.slice r.An r.firsts.length r.cn] w' fun e w''=>e=.returned (.bool (inB r.firsts))∧G w' w'':=fun w' hg=>in10_any r.firsts r.An r.cn w'.heap.size w' (by have:=hok.firstsL;omega) (hIn w' hg).firsts
 have hSo:∀w',Calls Tryz.prog 82 #[.agg #[.int .i64 r.st.wall,.int .i64 r.st.logic,.int .i64 r.st.node]] w' fun e w''=>e=.returned (.bool (stOk r.st))∧G w' w'':=fun w'=>refSound_any _ _ _ w'
 have hR6:∀w',G w w'→Calls Tryz.prog 86 #[.slice r.Ag r.rgs.length r.cg] w' fun e w''=>e=.returned (.bool (rgsB r.rgs))∧G w' w'':=fun w' hg=>ranges10_any r.rgs r.Ag r.cg w'.heap.size w' (Nat.le_refl _) (by have:=hok.rgsL;omega) (hIn w' hg).rgs
 have hR7:∀(b:Nat) (w':World),b < w'.heap.size→w'.cell? ⟨b,0,none⟩=some (.int .i64 r.z1)→w'.cell? ⟨b,1,none⟩=some (.int .i64 r.z2)→w'.cell? ⟨b,2,none⟩=some (.int .i64 r.z3)→w'.cell? ⟨b,3,none⟩=some (.int .i64 r.z4)→Calls Tryz.prog 86 #[.slice (some ⟨b,0,none⟩) 1 1] w' fun e w''=>e=.returned (.bool (rgsB [⟨r.z1,r.z2,r.z3,r.z4⟩]))∧G w' w'':=fun b w' hb d0 d1 d2 d3=>ranges10_any [⟨r.z1,r.z2,r.z3,r.z4⟩] (some ⟨b,0,none⟩) 1 (b+1) w' hb (by simp) (sl_rg d0 d1 d2 d3)
 unfold ok9 at hOK
 obtain ⟨b1,e1⟩:∃b,inB [r.x1,r.x2,r.x3,r.src,r.total]=b:=⟨_,rfl⟩
 obtain ⟨b2,e2⟩:∃b,inB r.firsts=b:=⟨_,rfl⟩
 obtain ⟨b3,e3⟩:∃b,decide (0≤r.code)=b:=⟨_,rfl⟩
 obtain ⟨b4,e4⟩:∃b,decide (r.code≤12)=b:=⟨_,rfl⟩
 obtain ⟨b5,e5⟩:∃b,stOk r.st=b:=⟨_,rfl⟩
 obtain ⟨b6,e6⟩:∃b,rgsB r.rgs=b:=⟨_,rfl⟩
 obtain ⟨b7,e7⟩:∃b,rgsB [⟨r.z1,r.z2,r.z3,r.z4⟩]=b:=⟨_,rfl⟩
 obtain ⟨b8,e8⟩:∃b,decide (r.es.length≤1000)=b:=⟨_,rfl⟩
 obtain ⟨b9,e9⟩:∃b,decide (r.sms.length≤1000)=b:=⟨_,rfl⟩
 rw [e1,e2,e3,e4,e5,e6,e7,e8,e9] at hOK
 rw [e1] at hI5
 rw [e2] at hI2
 rw [e5] at hSo
 rw [e6] at hR6
 rw [e7] at hR7
 have hv3:decide (0≤r.code)=b3:=e3
 have hv4:decide (r.code≤12)=b4:=e4
 have hv8:decide ((r.es.length:Int)≤1000)=b8:=by rw [←e8,decide_eq_decide];omega
 have hv9:decide ((r.sms.length:Int)≤1000)=b9:=by rw [←e9,decide_eq_decide];omega
 clear e1
 clear e2
 clear e3
 clear e4
 clear e5
 clear e6
 clear e7
 clear e8
 clear e9
 replace hCK:=Lib.hid hCK
 replace hOK:=Lib.hid hOK
 replace hI5:=Lib.hid hI5
 replace hI2:=Lib.hid hI2
 replace hSo:=Lib.hid hSo
 replace hR6:=Lib.hid hR6
 replace hR7:=Lib.hid hR7
 replace hin:=Lib.hid hin
 replace hok:=Lib.hid hok
 replace hT:=Lib.hid hT
 replace hIn:=Lib.hid hIn
 clear hk hkt
 go_enter Tryz.func50,Tryz.ntmps50
 go_upto_region 1 with fail
 generalize w.alloc (.cells r.cells 41)=W0 at *
 have g0:=(blk_cell hB0 0).trans (show _=some (.int .i64 r.kind) from rfl)
 go_upto_region 3 with fail
 clear t1 t2 g0
 have hz0:w.heap.size < W0.heap.size:=blk_lt hB0
 have q1:∀w',G W0 w'→w'.cell? ⟨w.heap.size,1,none⟩=some (.int .i64 r.x1):=fun w' h=>(blk_cell (h.blk hB0) 1).trans rfl
 have q2:∀w',G W0 w'→w'.cell? ⟨w.heap.size,2,none⟩=some (.int .i64 r.x2):=fun w' h=>(blk_cell (h.blk hB0) 2).trans rfl
 have q3:∀w',G W0 w'→w'.cell? ⟨w.heap.size,3,none⟩=some (.int .i64 r.x3):=fun w' h=>(blk_cell (h.blk hB0) 3).trans rfl
 have q6:∀w',G W0 w'→w'.cell? ⟨w.heap.size,6,none⟩=some (.int .i64 r.st.wall):=fun w' h=>(blk_cell (h.blk hB0) 6).trans rfl
 have q7:∀w',G W0 w'→w'.cell? ⟨w.heap.size,7,none⟩=some (.int .i64 r.st.logic):=fun w' h=>(blk_cell (h.blk hB0) 7).trans rfl
 have q8:∀w',G W0 w'→w'.cell? ⟨w.heap.size,8,none⟩=some (.int .i64 r.st.node):=fun w' h=>(blk_cell (h.blk hB0) 8).trans rfl
 have q9:∀w',G W0 w'→w'.cell? ⟨w.heap.size,9,none⟩=some (.int .i64 r.code):=fun w' h=>(blk_cell (h.blk hB0) 9).trans rfl
 have q10:∀w',G W0 w'→w'.cell? ⟨w.heap.size,10,none⟩=some (.slice r.An r.firsts.length r.cn):=fun w' h=>(blk_cell (h.blk hB0) 10).trans rfl
 have q12:∀w',G W0 w'→w'.cell? ⟨w.heap.size,12,none⟩=some (.int .i64 r.z1):=fun w' h=>(blk_cell (h.blk hB0) 12).trans rfl
 have q13:∀w',G W0 w'→w'.cell? ⟨w.heap.size,13,none⟩=some (.int .i64 r.z2):=fun w' h=>(blk_cell (h.blk hB0) 13).trans rfl
 have q14:∀w',G W0 w'→w'.cell? ⟨w.heap.size,14,none⟩=some (.int .i64 r.z3):=fun w' h=>(blk_cell (h.blk hB0) 14).trans rfl
 have q15:∀w',G W0 w'→w'.cell? ⟨w.heap.size,15,none⟩=some (.int .i64 r.z4):=fun w' h=>(blk_cell (h.blk hB0) 15).trans rfl
 have q16:∀w',G W0 w'→w'.cell? ⟨w.heap.size,16,none⟩=some (.slice r.As r.sms.length r.cs):=fun w' h=>(blk_cell (h.blk hB0) 16).trans rfl
 have q17:∀w',G W0 w'→w'.cell? ⟨w.heap.size,17,none⟩=some (.int .i64 r.src):=fun w' h=>(blk_cell (h.blk hB0) 17).trans rfl
 have q18:∀w',G W0 w'→w'.cell? ⟨w.heap.size,18,none⟩=some (.int .i64 r.total):=fun w' h=>(blk_cell (h.blk hB0) 18).trans rfl
 have q19:∀w',G W0 w'→w'.cell? ⟨w.heap.size,19,none⟩=some (.slice r.Ae r.es.length r.ce):=fun w' h=>(blk_cell (h.blk hB0) 19).trans rfl
 have q20:∀w',G W0 w'→w'.cell? ⟨w.heap.size,20,none⟩=some (.slice r.Ag r.rgs.length r.cg):=fun w' h=>(blk_cell (h.blk hB0) 20).trans rfl
 have q4:∀w',G W0 w'→w'.cell? ⟨w.heap.size,4,none⟩=some (.string r.key):=fun w' h=>(blk_cell (h.blk hB0) 4).trans rfl
 have q5:∀w',G W0 w'→w'.cell? ⟨w.heap.size,5,none⟩=some (.slice r.Ap r.ps.length r.cp):=fun w' h=>(blk_cell (h.blk hB0) 5).trans rfl
 have q0:∀w',G W0 w'→w'.cell? ⟨w.heap.size,0,none⟩=some (.int .i64 r.kind):=fun w' h=>(blk_cell (h.blk hB0) 0).trans rfl
 have g1:=q1 _ (G.refl W0)
 have g2:=q2 _ (G.refl W0)
 have g3:=q3 _ (G.refl W0)
 have g17:=q17 _ (G.refl W0)
 have g18:=q18 _ (G.refl W0)
 replace hB0:=Lib.hid hB0
 go_cut [3] (fun v wz=>v=.bool OK9∧G W0 wz)
 case first =>
  cases b1 with
  | false =>
   obtain rfl:OK9=false:=by rw [←hOK.out];simp
   go_wp2_with (first
     | (go_at_call 85;(with_reducible refine Calls.mono (hI2.out _ (hg0.trans hK1)) ?_);rintro e u2 ⟨rfl,hk2⟩;have hK2:=hK1.trans hk2;clear hk2;have g9:=q9 _ hK2;have g6:=q6 _ hK2;have g7:=q7 _ hK2;have g8:=q8 _ hK2)
     | (go_at_call 85;refine (hI5.out _ _ (by simp) (by simp) (by simp) (by simp) (by simp)).mono ?_;rintro e u1 ⟨rfl,hk1⟩;have hK1:=(G.new _ _).trans hk1;clear hk1;have g10:=q10 _ hK1)
     | (go_at_call 82;(with_reducible refine Calls.mono (hSo.out _) ?_);rintro e u3 ⟨rfl,hk3⟩;have hK3:=hK2.trans hk3;clear hk3;have g20:=q20 _ hK3)
     | (go_at_call 86;(with_reducible refine Calls.mono (hR6.out _ (hg0.trans hK3)) ?_);rintro e u4 ⟨rfl,hk4⟩;have hK4:=hK3.trans hk4;clear hk4;have g12:=q12 _ hK4;have g13:=q13 _ hK4;have g14:=q14 _ hK4;have g15:=q15 _ hK4)
     | (go_at_call 86;refine (hR7.out _ _ (by simp) (by simp) (by simp) (by simp) (by simp)).mono ?_;rintro e u5 ⟨rfl,hk5⟩;have hK5:=(hK4.trans (G.new _ _)).trans hk5;clear hk5;have g19:=q19 _ hK5;have g16:=q16 _ hK5))
   go_meet
   exact ⟨rfl,hK1⟩
  | true =>
   cases b2 with
   | false =>
    obtain rfl:OK9=false:=by rw [←hOK.out];simp
    go_wp2_with (first
      | (go_at_call 85;(with_reducible refine Calls.mono (hI2.out _ (hg0.trans hK1)) ?_);rintro e u2 ⟨rfl,hk2⟩;have hK2:=hK1.trans hk2;clear hk2;have g9:=q9 _ hK2;have g6:=q6 _ hK2;have g7:=q7 _ hK2;have g8:=q8 _ hK2)
      | (go_at_call 85;refine (hI5.out _ _ (by simp) (by simp) (by simp) (by simp) (by simp)).mono ?_;rintro e u1 ⟨rfl,hk1⟩;have hK1:=(G.new _ _).trans hk1;clear hk1;have g10:=q10 _ hK1)
      | (go_at_call 82;(with_reducible refine Calls.mono (hSo.out _) ?_);rintro e u3 ⟨rfl,hk3⟩;have hK3:=hK2.trans hk3;clear hk3;have g20:=q20 _ hK3)
      | (go_at_call 86;(with_reducible refine Calls.mono (hR6.out _ (hg0.trans hK3)) ?_);rintro e u4 ⟨rfl,hk4⟩;have hK4:=hK3.trans hk4;clear hk4;have g12:=q12 _ hK4;have g13:=q13 _ hK4;have g14:=q14 _ hK4;have g15:=q15 _ hK4)
      | (go_at_call 86;refine (hR7.out _ _ (by simp) (by simp) (by simp) (by simp) (by simp)).mono ?_;rintro e u5 ⟨rfl,hk5⟩;have hK5:=(hK4.trans (G.new _ _)).trans hk5;clear hk5;have g19:=q19 _ hK5;have g16:=q16 _ hK5))
    go_meet
    exact ⟨rfl,hK2⟩
   | true =>
    cases b3 with
    | false =>
     obtain rfl:OK9=false:=by rw [←hOK.out];simp
     go_wp2_with (first
       | (go_at_call 85;(with_reducible refine Calls.mono (hI2.out _ (hg0.trans hK1)) ?_);rintro e u2 ⟨rfl,hk2⟩;have hK2:=hK1.trans hk2;clear hk2;have g9:=q9 _ hK2;have g6:=q6 _ hK2;have g7:=q7 _ hK2;have g8:=q8 _ hK2)
       | (go_at_call 85;refine (hI5.out _ _ (by simp) (by simp) (by simp) (by simp) (by simp)).mono ?_;rintro e u1 ⟨rfl,hk1⟩;have hK1:=(G.new _ _).trans hk1;clear hk1;have g10:=q10 _ hK1)
       | (go_at_call 82;(with_reducible refine Calls.mono (hSo.out _) ?_);rintro e u3 ⟨rfl,hk3⟩;have hK3:=hK2.trans hk3;clear hk3;have g20:=q20 _ hK3)
       | (go_at_call 86;(with_reducible refine Calls.mono (hR6.out _ (hg0.trans hK3)) ?_);rintro e u4 ⟨rfl,hk4⟩;have hK4:=hK3.trans hk4;clear hk4;have g12:=q12 _ hK4;have g13:=q13 _ hK4;have g14:=q14 _ hK4;have g15:=q15 _ hK4)
       | (go_at_call 86;refine (hR7.out _ _ (by simp) (by simp) (by simp) (by simp) (by simp)).mono ?_;rintro e u5 ⟨rfl,hk5⟩;have hK5:=(hK4.trans (G.new _ _)).trans hk5;clear hk5;have g19:=q19 _ hK5;have g16:=q16 _ hK5))
     go_meet
     exact ⟨rfl,hK2⟩
    | true =>
     cases b4 with
     | false =>
      obtain rfl:OK9=false:=by rw [←hOK.out];simp
      go_wp2_with (first
        | (go_at_call 85;(with_reducible refine Calls.mono (hI2.out _ (hg0.trans hK1)) ?_);rintro e u2 ⟨rfl,hk2⟩;have hK2:=hK1.trans hk2;clear hk2;have g9:=q9 _ hK2;have g6:=q6 _ hK2;have g7:=q7 _ hK2;have g8:=q8 _ hK2)
        | (go_at_call 85;refine (hI5.out _ _ (by simp) (by simp) (by simp) (by simp) (by simp)).mono ?_;rintro e u1 ⟨rfl,hk1⟩;have hK1:=(G.new _ _).trans hk1;clear hk1;have g10:=q10 _ hK1)
        | (go_at_call 82;(with_reducible refine Calls.mono (hSo.out _) ?_);rintro e u3 ⟨rfl,hk3⟩;have hK3:=hK2.trans hk3;clear hk3;have g20:=q20 _ hK3)
        | (go_at_call 86;(with_reducible refine Calls.mono (hR6.out _ (hg0.trans hK3)) ?_);rintro e u4 ⟨rfl,hk4⟩;have hK4:=hK3.trans hk4;clear hk4;have g12:=q12 _ hK4;have g13:=q13 _ hK4;have g14:=q14 _ hK4;have g15:=q15 _ hK4)
        | (go_at_call 86;refine (hR7.out _ _ (by simp) (by simp) (by simp) (by simp) (by simp)).mono ?_;rintro e u5 ⟨rfl,hk5⟩;have hK5:=(hK4.trans (G.new _ _)).trans hk5;clear hk5;have g19:=q19 _ hK5;have g16:=q16 _ hK5))
      go_meet
      exact ⟨rfl,hK2⟩
     | true =>
      cases b5 with
      | false =>
       obtain rfl:OK9=false:=by rw [←hOK.out];simp
       go_wp2_with (first
         | (go_at_call 85;(with_reducible refine Calls.mono (hI2.out _ (hg0.trans hK1)) ?_);rintro e u2 ⟨rfl,hk2⟩;have hK2:=hK1.trans hk2;clear hk2;have g9:=q9 _ hK2;have g6:=q6 _ hK2;have g7:=q7 _ hK2;have g8:=q8 _ hK2)
         | (go_at_call 85;refine (hI5.out _ _ (by simp) (by simp) (by simp) (by simp) (by simp)).mono ?_;rintro e u1 ⟨rfl,hk1⟩;have hK1:=(G.new _ _).trans hk1;clear hk1;have g10:=q10 _ hK1)
         | (go_at_call 82;(with_reducible refine Calls.mono (hSo.out _) ?_);rintro e u3 ⟨rfl,hk3⟩;have hK3:=hK2.trans hk3;clear hk3;have g20:=q20 _ hK3)
         | (go_at_call 86;(with_reducible refine Calls.mono (hR6.out _ (hg0.trans hK3)) ?_);rintro e u4 ⟨rfl,hk4⟩;have hK4:=hK3.trans hk4;clear hk4;have g12:=q12 _ hK4;have g13:=q13 _ hK4;have g14:=q14 _ hK4;have g15:=q15 _ hK4)
         | (go_at_call 86;refine (hR7.out _ _ (by simp) (by simp) (by simp) (by simp) (by simp)).mono ?_;rintro e u5 ⟨rfl,hk5⟩;have hK5:=(hK4.trans (G.new _ _)).trans hk5;clear hk5;have g19:=q19 _ hK5;have g16:=q16 _ hK5))
       go_meet
       exact ⟨rfl,hK3⟩
      | true =>
       cases b6 with
       | false =>
        obtain rfl:OK9=false:=by rw [←hOK.out];simp
        go_wp2_with (first
          | (go_at_call 85;(with_reducible refine Calls.mono (hI2.out _ (hg0.trans hK1)) ?_);rintro e u2 ⟨rfl,hk2⟩;have hK2:=hK1.trans hk2;clear hk2;have g9:=q9 _ hK2;have g6:=q6 _ hK2;have g7:=q7 _ hK2;have g8:=q8 _ hK2)
          | (go_at_call 85;refine (hI5.out _ _ (by simp) (by simp) (by simp) (by simp) (by simp)).mono ?_;rintro e u1 ⟨rfl,hk1⟩;have hK1:=(G.new _ _).trans hk1;clear hk1;have g10:=q10 _ hK1)
          | (go_at_call 82;(with_reducible refine Calls.mono (hSo.out _) ?_);rintro e u3 ⟨rfl,hk3⟩;have hK3:=hK2.trans hk3;clear hk3;have g20:=q20 _ hK3)
          | (go_at_call 86;(with_reducible refine Calls.mono (hR6.out _ (hg0.trans hK3)) ?_);rintro e u4 ⟨rfl,hk4⟩;have hK4:=hK3.trans hk4;clear hk4;have g12:=q12 _ hK4;have g13:=q13 _ hK4;have g14:=q14 _ hK4;have g15:=q15 _ hK4)
          | (go_at_call 86;refine (hR7.out _ _ (by simp) (by simp) (by simp) (by simp) (by simp)).mono ?_;rintro e u5 ⟨rfl,hk5⟩;have hK5:=(hK4.trans (G.new _ _)).trans hk5;clear hk5;have g19:=q19 _ hK5;have g16:=q16 _ hK5))
        go_meet
        exact ⟨rfl,hK4⟩
       | true =>
        cases b7 with
        | false =>
         obtain rfl:OK9=false:=by rw [←hOK.out];simp
         go_wp2_with (first
           | (go_at_call 85;(with_reducible refine Calls.mono (hI2.out _ (hg0.trans hK1)) ?_);rintro e u2 ⟨rfl,hk2⟩;have hK2:=hK1.trans hk2;clear hk2;have g9:=q9 _ hK2;have g6:=q6 _ hK2;have g7:=q7 _ hK2;have g8:=q8 _ hK2)
           | (go_at_call 85;refine (hI5.out _ _ (by simp) (by simp) (by simp) (by simp) (by simp)).mono ?_;rintro e u1 ⟨rfl,hk1⟩;have hK1:=(G.new _ _).trans hk1;clear hk1;have g10:=q10 _ hK1)
           | (go_at_call 82;(with_reducible refine Calls.mono (hSo.out _) ?_);rintro e u3 ⟨rfl,hk3⟩;have hK3:=hK2.trans hk3;clear hk3;have g20:=q20 _ hK3)
           | (go_at_call 86;(with_reducible refine Calls.mono (hR6.out _ (hg0.trans hK3)) ?_);rintro e u4 ⟨rfl,hk4⟩;have hK4:=hK3.trans hk4;clear hk4;have g12:=q12 _ hK4;have g13:=q13 _ hK4;have g14:=q14 _ hK4;have g15:=q15 _ hK4)
           | (go_at_call 86;refine (hR7.out _ _ (by simp) (by simp) (by simp) (by simp) (by simp)).mono ?_;rintro e u5 ⟨rfl,hk5⟩;have hK5:=(hK4.trans (G.new _ _)).trans hk5;clear hk5;have g19:=q19 _ hK5;have g16:=q16 _ hK5))
         go_meet
         exact ⟨rfl,hK5⟩
        | true =>
         cases b8 with
         | false =>
          obtain rfl:OK9=false:=by rw [←hOK.out];simp
          go_wp2_with (first
            | (go_at_call 85;(with_reducible refine Calls.mono (hI2.out _ (hg0.trans hK1)) ?_);rintro e u2 ⟨rfl,hk2⟩;have hK2:=hK1.trans hk2;clear hk2;have g9:=q9 _ hK2;have g6:=q6 _ hK2;have g7:=q7 _ hK2;have g8:=q8 _ hK2)
            | (go_at_call 85;refine (hI5.out _ _ (by simp) (by simp) (by simp) (by simp) (by simp)).mono ?_;rintro e u1 ⟨rfl,hk1⟩;have hK1:=(G.new _ _).trans hk1;clear hk1;have g10:=q10 _ hK1)
            | (go_at_call 82;(with_reducible refine Calls.mono (hSo.out _) ?_);rintro e u3 ⟨rfl,hk3⟩;have hK3:=hK2.trans hk3;clear hk3;have g20:=q20 _ hK3)
            | (go_at_call 86;(with_reducible refine Calls.mono (hR6.out _ (hg0.trans hK3)) ?_);rintro e u4 ⟨rfl,hk4⟩;have hK4:=hK3.trans hk4;clear hk4;have g12:=q12 _ hK4;have g13:=q13 _ hK4;have g14:=q14 _ hK4;have g15:=q15 _ hK4)
            | (go_at_call 86;refine (hR7.out _ _ (by simp) (by simp) (by simp) (by simp) (by simp)).mono ?_;rintro e u5 ⟨rfl,hk5⟩;have hK5:=(hK4.trans (G.new _ _)).trans hk5;clear hk5;have g19:=q19 _ hK5;have g16:=q16 _ hK5))
          go_meet
          exact ⟨rfl,hK5⟩
         | true =>
          cases b9 with
          | false =>
           obtain rfl:OK9=false:=by rw [←hOK.out];simp
           go_wp2_with (first
             | (go_at_call 85;(with_reducible refine Calls.mono (hI2.out _ (hg0.trans hK1)) ?_);rintro e u2 ⟨rfl,hk2⟩;have hK2:=hK1.trans hk2;clear hk2;have g9:=q9 _ hK2;have g6:=q6 _ hK2;have g7:=q7 _ hK2;have g8:=q8 _ hK2)
             | (go_at_call 85;refine (hI5.out _ _ (by simp) (by simp) (by simp) (by simp) (by simp)).mono ?_;rintro e u1 ⟨rfl,hk1⟩;have hK1:=(G.new _ _).trans hk1;clear hk1;have g10:=q10 _ hK1)
             | (go_at_call 82;(with_reducible refine Calls.mono (hSo.out _) ?_);rintro e u3 ⟨rfl,hk3⟩;have hK3:=hK2.trans hk3;clear hk3;have g20:=q20 _ hK3)
             | (go_at_call 86;(with_reducible refine Calls.mono (hR6.out _ (hg0.trans hK3)) ?_);rintro e u4 ⟨rfl,hk4⟩;have hK4:=hK3.trans hk4;clear hk4;have g12:=q12 _ hK4;have g13:=q13 _ hK4;have g14:=q14 _ hK4;have g15:=q15 _ hK4)
             | (go_at_call 86;refine (hR7.out _ _ (by simp) (by simp) (by simp) (by simp) (by simp)).mono ?_;rintro e u5 ⟨rfl,hk5⟩;have hK5:=(hK4.trans (G.new _ _)).trans hk5;clear hk5;have g19:=q19 _ hK5;have g16:=q16 _ hK5))
           go_meet
           exact ⟨rfl,hK5⟩
          | true =>
           obtain rfl:OK9=true:=by rw [←hOK.out];rfl
           go_wp2_with (first
             | (go_at_call 85;(with_reducible refine Calls.mono (hI2.out _ (hg0.trans hK1)) ?_);rintro e u2 ⟨rfl,hk2⟩;have hK2:=hK1.trans hk2;clear hk2;have g9:=q9 _ hK2;have g6:=q6 _ hK2;have g7:=q7 _ hK2;have g8:=q8 _ hK2)
             | (go_at_call 85;refine (hI5.out _ _ (by simp) (by simp) (by simp) (by simp) (by simp)).mono ?_;rintro e u1 ⟨rfl,hk1⟩;have hK1:=(G.new _ _).trans hk1;clear hk1;have g10:=q10 _ hK1)
             | (go_at_call 82;(with_reducible refine Calls.mono (hSo.out _) ?_);rintro e u3 ⟨rfl,hk3⟩;have hK3:=hK2.trans hk3;clear hk3;have g20:=q20 _ hK3)
             | (go_at_call 86;(with_reducible refine Calls.mono (hR6.out _ (hg0.trans hK3)) ?_);rintro e u4 ⟨rfl,hk4⟩;have hK4:=hK3.trans hk4;clear hk4;have g12:=q12 _ hK4;have g13:=q13 _ hK4;have g14:=q14 _ hK4;have g15:=q15 _ hK4)
             | (go_at_call 86;refine (hR7.out _ _ (by simp) (by simp) (by simp) (by simp) (by simp)).mono ?_;rintro e u5 ⟨rfl,hk5⟩;have hK5:=(hK4.trans (G.new _ _)).trans hk5;clear hk5;have g19:=q19 _ hK5;have g16:=q16 _ hK5))
           go_meet
           exact ⟨rfl,hK5⟩
 case rest =>
  obtain ⟨rfl,hgc⟩:=hcut
  clear hI5 hI2 hSo hR6 hR7 hv3 hv4 hv8 hv9 g1 g2 g3 g17 g18 hOK
  obtain ⟨OE,hOE⟩:∃b,(OK9 && r.es.all evP)=b:=⟨_,rfl⟩
  rw [hOE] at hCK
  replace hCK:=Lib.hid hCK.out
  replace q0:=Lib.hid q0
  replace q4:=Lib.hid q4
  replace q5:=Lib.hid q5
  replace q16:=Lib.hid q16
  replace q19:=Lib.hid q19
  clear q1 q2 q3 q6 q7 q8 q9 q10 q12 q13 q14 q15 q17 q18 q20
  rename_i hKA
  refine hKA _ _ ?_
  refine wp_seq_k fun K2 hK2=>?_
  go_cut [3] (fun v wz=>v=.bool OE∧G W0 wz)
  case first =>
   replace hOE:=Lib.hid hOE
   go_wp2_with fail
   go_loopw [3,4] (fun v i wr=>∃(k:Nat) (ob:Bool),v=.bool ob∧i=.int .i64 k∧k≤r.es.length∧Hid (ob=(OK9 && (r.es.take k).all evP))∧G W0 wr) (fun _ i _=>r.es.length - (intOf i).toNat)
   case atStart=>exact ⟨0,OK9,rfl,rfl,Nat.zero_le _,by simp [Hid],hgc⟩
   case round =>
    obtain ⟨wo,rfl⟩:∃wo:World,wo=wr:=⟨_,rfl⟩
    clear hgc
    obtain ⟨k,ob,rfl,rfl,hkl,hob,hgr⟩:=hrel
    have hGr:=hg0.trans hgr
    have y19:=q19.out _ hgr
    have hzl:=hok.out.esL
    by_cases hlt:k < r.es.length
    ·cases ob with
     | true =>
      obtain ⟨⟨s,v,d,⟨x,y,z⟩,ix⟩,hx⟩:∃x,r.es[k]?=some x:=⟨_,List.getElem?_eq_getElem hlt⟩
      obtain ⟨b,o,hA,hb,c0,c1,c2,c3,c4,c5,c6⟩:=(hIn.out _ hGr).es.ev hx
      rw [hA] at y19
      have hxM:=hok.out.es _ (List.mem_of_getElem? hx)
      have hen:=refEvEnc_any s d v x y z ix wo (by have:=hxM.1.1;exact this) (by have:=hxM.1.2;exact this) (hT.out.g hGr)
      have n1:(0:Int)≤(k:Int):=by omega
      have n2:(k:Int) < (r.es.length:Int):=by omega
      obtain ⟨l,hl⟩:∃l,evL ⟨s,v,d,⟨x,y,z⟩,ix⟩=l:=⟨_,rfl⟩
      rw [hl] at hen
      have hnx:Hid (decide (0 < (l.length:Int))=(OK9 && (r.es.take (k+1)).all evP)):=Lib.hid (step_all hx hob.out (by
       unfold evP
       rw [hl]
       exact ne_len l))
      generalize hLz:decide (0 < (l.length:Int))=lz at hnx
      replace hen:=Lib.hid (show Calls Tryz.prog 49 #[.agg #[.string s,.int .i64 v,.string d,.int .i64 x,.int .i64 y,.int .i64 z,.int .i64 ix]] wo (RetBytesN wo l) from hen)
      replace hx:=Lib.hid hx
      replace hl:=Lib.hid hl
      replace hob:=Lib.hid hob
      clear hA hxM
      go_wp2_with (go_at_call 49;(with_reducible refine Calls.mono hen.out ?_);rintro e w6 ⟨A6,c6,rfl,hown6,hg6,_⟩)
      go_roundw
      case rel=>exact ⟨k+1,lz,(by rw [←hLz];exact congrArg Value.bool (by rw [decide_eq_decide];omega)),by go_num,by omega,hnx,hgr.trans hg6⟩
      case measure=>simp [intOf];omega
     | false =>
      obtain rfl:OE=false:=by rw [←hOE.out];exact stop_all hob.out
      have n2:(k:Int) < (r.es.length:Int):=by omega
      replace hob:=Lib.hid hob
      go_wp2_with fail
      go_meet
      exact ⟨rfl,hgr⟩
    ·obtain rfl:OE=ob:=by rw [←hOE.out,hob.out,List.take_of_length_le (by omega)]
     have n2:¬ (k:Int) < (r.es.length:Int):=by omega
     replace hob:=Lib.hid hob
     go_wp2_with fail
     go_meet
     exact ⟨rfl,hgr⟩
  case rest =>
   obtain ⟨rfl,hgc⟩:=hcut
   replace hOE:=Lib.hid hOE
   obtain ⟨OS,hOS⟩:∃b,(OE && (r.sms.map SmM.sm).all smP)=b:=⟨_,rfl⟩
   have hCK2:=hCK.out
   rw [hOS] at hCK2
   replace hCK:=Lib.hid hCK2
   clear hCK2
   refine hK2 _ _ ?_
   refine wp_seq_k fun K3 hK3=>?_
   go_cut [3] (fun v wz=>v=.bool OS∧G W0 wz)
   case first =>
    replace hOS:=Lib.hid hOS
    go_wp2_with fail
    go_loopw [3,5] (fun v i wr=>∃(k:Nat) (ob:Bool),v=.bool ob∧i=.int .i64 k∧k≤r.sms.length∧Hid (ob=(OE && ((r.sms.map SmM.sm).take k).all smP))∧G W0 wr) (fun _ i _=>r.sms.length - (intOf i).toNat)
    case atStart=>exact ⟨0,OE,rfl,rfl,Nat.zero_le _,by simp [Hid],hgc⟩
    case round =>
     obtain ⟨wo,rfl⟩:∃wo:World,wo=wr:=⟨_,rfl⟩
     clear hgc
     obtain ⟨k,ob,rfl,rfl,hkl,hob,hgr⟩:=hrel
     have hGr:=hg0.trans hgr
     have y16:=q16.out _ hgr
     have hzl:=hok.out.smsL
     by_cases hlt:k < r.sms.length
     ·cases ob with
      | true =>
       obtain ⟨s,hs⟩:∃s,r.sms[k]?=some s:=⟨_,List.getElem?_eq_getElem hlt⟩
       have hx:(r.sms.map SmM.sm)[k]?=some s.sm:=by rw [List.getElem?_map,hs];rfl
       obtain ⟨b6,o6,hA,_,d0,d1,d2⟩:=Sl.smc (hIn.out _ hGr).sms.1 hs
       rw [hA] at y16
       have hsM:=List.mem_of_getElem? hs
       have hen:=refSmEnc_any s.name s.es s.ks s.Ae s.Ak s.ce s.ck wo ((hIn.out _ hGr).sms.2 s hsM) (hok.out.sms s hsM).1 (hT.out.g hGr)
       have n1:(0:Int)≤(k:Int):=by omega
       have n2:(k:Int) < (r.sms.length:Int):=by omega
       obtain ⟨l,hl⟩:∃l,smL s.sm=l:=⟨_,rfl⟩
       have hl':smL ⟨s.name,s.es,s.ks⟩=l:=hl
       rw [hl'] at hen
       have hnx:Hid (decide (0 < (l.length:Int))=(OE && ((r.sms.map SmM.sm).take (k+1)).all smP)):=Lib.hid (step_all hx hob.out (by
        unfold smP
        rw [hl]
        exact ne_len l))
       generalize hLz:decide (0 < (l.length:Int))=lz at hnx
       replace hen:=Lib.hid hen
       replace hx:=Lib.hid hx
       replace hs:=Lib.hid hs
       replace hl:=Lib.hid hl
       replace hl':=Lib.hid hl'
       replace hob:=Lib.hid hob
       clear hA
       go_wp2_with (go_at_call 81;(with_reducible refine Calls.mono hen.out ?_);rintro e w6 ⟨A6,c6,rfl,hown6,hg6,_⟩)
       go_roundw
       case rel=>exact ⟨k+1,lz,(by rw [←hLz];exact congrArg Value.bool (by rw [decide_eq_decide];omega)),by go_num,by omega,hnx,hgr.trans hg6⟩
       case measure=>simp [intOf];omega
      | false =>
       obtain rfl:OS=false:=by rw [←hOS.out];exact stop_all hob.out
       have n2:(k:Int) < (r.sms.length:Int):=by omega
       replace hob:=Lib.hid hob
       go_wp2_with fail
       go_meet
       exact ⟨rfl,hgr⟩
     ·obtain rfl:OS=ob:=by rw [←hOS.out,hob.out,List.take_of_length_le (by rw [List.length_map];omega)]
      have n2:¬ (k:Int) < (r.sms.length:Int):=by omega
      replace hob:=Lib.hid hob
      go_wp2_with fail
      go_meet
      exact ⟨rfl,hgr⟩
   case rest =>
    obtain ⟨rfl,hgc⟩:=hcut
    replace hOS:=Lib.hid hOS
    have hGc:=hg0.trans hgc
    refine hK3 _ _ ?_
    cases OS with
    | false =>
     obtain rfl:CK=false:=by rw [←hCK.out];rfl
     go_wp2_with fail
     go_ret
     exact ⟨rfl,hGc⟩
    | true =>
     have y0:=q0.out _ hgc
     have y4:=q4.out _ hgc
     have y5:=q5.out _ hgc
     have hch:=refCheck_any r.key r.ps r.Ap r.cp wc (hIn.out _ hGc).ps hok.out.key hok.out.ps
     obtain ⟨N,hN⟩:∃N,chkN r.key (r.ps.map PutM.p)=N:=⟨_,rfl⟩
     rw [hN] at hch
     have hCK2:=hCK.out
     rw [hN,Bool.true_and] at hCK2
     replace hN:=Lib.hid hN
     by_cases hk1:r.kind=1
     ·rw [decide_eq_true hk1,Bool.not_true,Bool.false_or] at hCK2
      have m1:(r.kind == 1)=true:=by rw [hk1];rfl
      replace hk1:=Lib.hid hk1
      by_cases hn0:N=0
      ·subst hn0
       obtain rfl:CK=true:=hCK2.symm
       replace hch:=Lib.hid hch
       go_wp2_with (go_at_call 46;(with_reducible refine Calls.mono hch.out ?_);rintro e w6 ⟨rfl,hg6⟩)
       go_ret
       exact ⟨rfl,hGc.trans hg6⟩
      ·obtain rfl:CK=false:=by rw [←hCK2];exact decide_eq_false hn0
       have m3:((N:Int) == 0)=false:=by rw [beq_eq_false_iff_ne];omega
       have m4:((N:Int) != 0)=true:=by rw [bne,m3];rfl
       replace hch:=Lib.hid hch
       go_wp2_with (go_at_call 46;(with_reducible refine Calls.mono hch.out ?_);rintro e w6 ⟨rfl,hg6⟩)
       go_ret
       exact ⟨rfl,hGc.trans hg6⟩
     ·rw [decide_eq_false hk1,Bool.not_false,Bool.true_or] at hCK2
      obtain rfl:CK=true:=hCK2.symm
      have m1:(r.kind == 1)=false:=by rw [beq_eq_false_iff_ne];exact hk1
      clear hch
      go_wp2_with fail
      go_ret
      exact ⟨rfl,hGc⟩
end Go.Proofs.YtheogchkelmeeaaGreatDoor

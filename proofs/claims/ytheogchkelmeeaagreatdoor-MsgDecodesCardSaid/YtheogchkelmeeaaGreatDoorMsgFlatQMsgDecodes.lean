/- penstocklaw10.flat: what it answers of a message. No condition. -/
import Derived.Test.YtheogchkelmeeaaGreatDoorM49MsgDecodes
import Derived.Test.YtheogchkelmeeaaGreatDoorM46MsgDecodes
namespace Go.Proofs.YtheogchkelmeeaaGreatDoor
open Go.RowKit
set_option maxRecDepth 100000 in
set_option maxHeartbeats 2000000 in
theorem flat1_any (m:MsgM) (w:World):Calls Tryz.prog 7 #[.iface 81 m.val1] w fun e w'=>e=.returned (.tuple #[.agg #[.int .i64 1,.int .i64 (m.x1),.int .i64 (m.x2),.int .i64 (m.x3),.string m.key,.slice m.Ap m.ps.length m.cp,.int .i64 (m.st.wall),.int .i64 (m.st.logic),.int .i64 (m.st.node),.int .i64 0,.slice none 0 0,.bool false,.int .i64 0,.int .i64 0,.int .i64 0,.int .i64 0,.slice none 0 0,.int .i64 0,.int .i64 0,.slice none 0 0,.slice none 0 0],.bool true])∧G w w':=by
 have hg:=(G.new w (.cells #[.int .i64 0,.int .i64 0,.int .i64 0,.int .i64 0,.string ⟨#[]⟩,.slice none 0 0,.int .i64 0,.int .i64 0,.int .i64 0,.int .i64 0,.slice none 0 0,.bool false,.int .i64 0,.int .i64 0,.int .i64 0,.int .i64 0,.slice none 0 0,.int .i64 0,.int .i64 0,.slice none 0 0,.slice none 0 0] 41)).alloc (.cells #[.int .i64 (m.x1),.int .i64 (m.x2),.int .i64 (m.x3),.string m.key,.slice m.Ap m.ps.length m.cp,.int .i64 (m.st.wall),.int .i64 (m.st.logic),.int .i64 (m.st.node)] 81)
 have BZ:=(G.new (w.alloc (.cells #[.int .i64 0,.int .i64 0,.int .i64 0,.int .i64 0,.string ⟨#[]⟩,.slice none 0 0,.int .i64 0,.int .i64 0,.int .i64 0,.int .i64 0,.slice none 0 0,.bool false,.int .i64 0,.int .i64 0,.int .i64 0,.int .i64 0,.slice none 0 0,.int .i64 0,.int .i64 0,.slice none 0 0,.slice none 0 0] 41)) (.cells #[.int .i64 (m.x1),.int .i64 (m.x2),.int .i64 (m.x3),.string m.key,.slice m.Ap m.ps.length m.cp,.int .i64 (m.st.wall),.int .i64 (m.st.logic),.int .i64 (m.st.node)] 81)).blk (blk_new w #[.int .i64 0,.int .i64 0,.int .i64 0,.int .i64 0,.string ⟨#[]⟩,.slice none 0 0,.int .i64 0,.int .i64 0,.int .i64 0,.int .i64 0,.slice none 0 0,.bool false,.int .i64 0,.int .i64 0,.int .i64 0,.int .i64 0,.slice none 0 0,.int .i64 0,.int .i64 0,.slice none 0 0,.slice none 0 0] 41)
 have BK:=blk_new' (w.alloc (.cells #[.int .i64 0,.int .i64 0,.int .i64 0,.int .i64 0,.string ⟨#[]⟩,.slice none 0 0,.int .i64 0,.int .i64 0,.int .i64 0,.int .i64 0,.slice none 0 0,.bool false,.int .i64 0,.int .i64 0,.int .i64 0,.int .i64 0,.slice none 0 0,.int .i64 0,.int .i64 0,.slice none 0 0,.slice none 0 0] 41)) #[.int .i64 (m.x1),.int .i64 (m.x2),.int .i64 (m.x3),.string m.key,.slice m.Ap m.ps.length m.cp,.int .i64 (m.st.wall),.int .i64 (m.st.logic),.int .i64 (m.st.node)] 81 (w.heap.size+1) (by simp)
 unfold MsgM.val1
 replace hg:=Lib.hid hg
 replace BZ:=Lib.hid BZ
 replace BK:=Lib.hid BK
 have a1:∀w,(Instr.typeAssert (.iface 81 (.agg #[.int .i64 (m.x1),.int .i64 (m.x2),.int .i64 (m.x3),.string m.key,.slice m.Ap m.ps.length m.cp,.int .i64 (m.st.wall),.int .i64 (m.st.logic),.int .i64 (m.st.node)])) 20 81 true).run Tryz.prog w=.ok (.tuple #[.agg #[.int .i64 (m.x1),.int .i64 (m.x2),.int .i64 (m.x3),.string m.key,.slice m.Ap m.ps.length m.cp,.int .i64 (m.st.wall),.int .i64 (m.st.logic),.int .i64 (m.st.node)],.bool true]) w:=fun w=>by kernel_rfl
 go_enter Tryz.func7,Tryz.ntmps7
 go_upto_region 4 with fail
 generalize (w.alloc (.cells #[.int .i64 0,.int .i64 0,.int .i64 0,.int .i64 0,.string ⟨#[]⟩,.slice none 0 0,.int .i64 0,.int .i64 0,.int .i64 0,.int .i64 0,.slice none 0 0,.bool false,.int .i64 0,.int .i64 0,.int .i64 0,.int .i64 0,.slice none 0 0,.int .i64 0,.int .i64 0,.slice none 0 0,.slice none 0 0] 41)).alloc (.cells #[.int .i64 (m.x1),.int .i64 (m.x2),.int .i64 (m.x3),.string m.key,.slice m.Ap m.ps.length m.cp,.int .i64 (m.st.wall),.int .i64 (m.st.logic),.int .i64 (m.st.node)] 81)=W0 at *
 clear a1
 have q0:=(blk_cell BK.out 0).trans (show _=some (.int .i64 (m.x1)) from rfl)
 have q1:=(blk_cell BK.out 1).trans (show _=some (.int .i64 (m.x2)) from rfl)
 have q2:=(blk_cell BK.out 2).trans (show _=some (.int .i64 (m.x3)) from rfl)
 have q3:=(blk_cell BK.out 3).trans (show _=some (.string m.key) from rfl)
 have q4:=(blk_cell BK.out 4).trans (show _=some (.slice m.Ap m.ps.length m.cp) from rfl)
 have q5:=(blk_cell BK.out 5).trans (show _=some (.int .i64 (m.st.wall)) from rfl)
 have q6:=(blk_cell BK.out 6).trans (show _=some (.int .i64 (m.st.logic)) from rfl)
 have q7:=(blk_cell BK.out 7).trans (show _=some (.int .i64 (m.st.node)) from rfl)
 obtain ⟨W1,SR1,C1,hb1,hG1⟩:=store_blk (P:=Tryz.prog) (T:=41) (cs:=#[.int .i64 1,.int .i64 (m.x1),.int .i64 (m.x2),.int .i64 (m.x3),.string m.key,.slice m.Ap m.ps.length m.cp,.int .i64 (m.st.wall),.int .i64 (m.st.logic),.int .i64 (m.st.node),.int .i64 0,.slice none 0 0,.bool false,.int .i64 0,.int .i64 0,.int .i64 0,.int .i64 0,.slice none 0 0,.int .i64 0,.int .i64 0,.slice none 0 0,.slice none 0 0]) BZ.out rfl (by kernel_rfl) (by kernel_rfl)
 have hg1:=hG1 w hg.out (Nat.le_refl _)
 replace C1:=Lib.hid C1
 replace hg1:=Lib.hid hg1
 clear hb1 hG1
 go_wp2_with (refine wpList_store_at (ty:=41) rfl (by kernel_rfl) (p:=.pointer (some ⟨w.heap.size,0,none⟩)) rfl rfl SR1 ?_;clear SR1)
 refine bodyPost_ret (v:=.tuple #[.agg #[.int .i64 1,.int .i64 (m.x1),.int .i64 (m.x2),.int .i64 (m.x3),.string m.key,.slice m.Ap m.ps.length m.cp,.int .i64 (m.st.wall),.int .i64 (m.st.logic),.int .i64 (m.st.node),.int .i64 0,.slice none 0 0,.bool false,.int .i64 0,.int .i64 0,.int .i64 0,.int .i64 0,.slice none 0 0,.int .i64 0,.int .i64 0,.slice none 0 0,.slice none 0 0],.bool true]) (results_cell2 (i:=2) (j:=3) rfl rfl rfl C1.out Tryz.underlying41 rfl (by kernel_rfl)) rfl ?_
 exact ⟨rfl,hg1.out⟩
set_option maxRecDepth 100000 in
set_option maxHeartbeats 2000000 in
theorem flat2_any (m:MsgM) (w:World):Calls Tryz.prog 7 #[.iface 83 m.val2] w fun e w'=>e=.returned (.tuple #[.agg #[.int .i64 2,.int .i64 (m.x1),.int .i64 (m.x2),.int .i64 (m.x3),.string ⟨#[]⟩,.slice none 0 0,.int .i64 (m.st.wall),.int .i64 (m.st.logic),.int .i64 (m.st.node),.int .i64 (m.code),.slice m.An m.firsts.length m.cn,.bool false,.int .i64 0,.int .i64 0,.int .i64 0,.int .i64 0,.slice none 0 0,.int .i64 0,.int .i64 0,.slice none 0 0,.slice none 0 0],.bool true])∧G w w':=by
 have hg:=(G.new w (.cells #[.int .i64 0,.int .i64 0,.int .i64 0,.int .i64 0,.string ⟨#[]⟩,.slice none 0 0,.int .i64 0,.int .i64 0,.int .i64 0,.int .i64 0,.slice none 0 0,.bool false,.int .i64 0,.int .i64 0,.int .i64 0,.int .i64 0,.slice none 0 0,.int .i64 0,.int .i64 0,.slice none 0 0,.slice none 0 0] 41)).alloc (.cells #[.int .i64 (m.x1),.int .i64 (m.x2),.int .i64 (m.x3),.int .i64 (m.code),.int .i64 (m.st.wall),.int .i64 (m.st.logic),.int .i64 (m.st.node),.slice m.An m.firsts.length m.cn] 83)
 have BZ:=(G.new (w.alloc (.cells #[.int .i64 0,.int .i64 0,.int .i64 0,.int .i64 0,.string ⟨#[]⟩,.slice none 0 0,.int .i64 0,.int .i64 0,.int .i64 0,.int .i64 0,.slice none 0 0,.bool false,.int .i64 0,.int .i64 0,.int .i64 0,.int .i64 0,.slice none 0 0,.int .i64 0,.int .i64 0,.slice none 0 0,.slice none 0 0] 41)) (.cells #[.int .i64 (m.x1),.int .i64 (m.x2),.int .i64 (m.x3),.int .i64 (m.code),.int .i64 (m.st.wall),.int .i64 (m.st.logic),.int .i64 (m.st.node),.slice m.An m.firsts.length m.cn] 83)).blk (blk_new w #[.int .i64 0,.int .i64 0,.int .i64 0,.int .i64 0,.string ⟨#[]⟩,.slice none 0 0,.int .i64 0,.int .i64 0,.int .i64 0,.int .i64 0,.slice none 0 0,.bool false,.int .i64 0,.int .i64 0,.int .i64 0,.int .i64 0,.slice none 0 0,.int .i64 0,.int .i64 0,.slice none 0 0,.slice none 0 0] 41)
 have BK:=blk_new' (w.alloc (.cells #[.int .i64 0,.int .i64 0,.int .i64 0,.int .i64 0,.string ⟨#[]⟩,.slice none 0 0,.int .i64 0,.int .i64 0,.int .i64 0,.int .i64 0,.slice none 0 0,.bool false,.int .i64 0,.int .i64 0,.int .i64 0,.int .i64 0,.slice none 0 0,.int .i64 0,.int .i64 0,.slice none 0 0,.slice none 0 0] 41)) #[.int .i64 (m.x1),.int .i64 (m.x2),.int .i64 (m.x3),.int .i64 (m.code),.int .i64 (m.st.wall),.int .i64 (m.st.logic),.int .i64 (m.st.node),.slice m.An m.firsts.length m.cn] 83 (w.heap.size+1) (by simp)
 unfold MsgM.val2
 replace hg:=Lib.hid hg
 replace BZ:=Lib.hid BZ
 replace BK:=Lib.hid BK
 have a1:∀w,(Instr.typeAssert (.iface 83 (.agg #[.int .i64 (m.x1),.int .i64 (m.x2),.int .i64 (m.x3),.int .i64 (m.code),.int .i64 (m.st.wall),.int .i64 (m.st.logic),.int .i64 (m.st.node),.slice m.An m.firsts.length m.cn])) 20 81 true).run Tryz.prog w=.ok (.tuple #[.agg #[.int .i64 0,.int .i64 0,.int .i64 0,.string ⟨#[]⟩,.slice none 0 0,.int .i64 0,.int .i64 0,.int .i64 0],.bool false]) w:=fun w=>by kernel_rfl
 have a2:∀w,(Instr.typeAssert (.iface 83 (.agg #[.int .i64 (m.x1),.int .i64 (m.x2),.int .i64 (m.x3),.int .i64 (m.code),.int .i64 (m.st.wall),.int .i64 (m.st.logic),.int .i64 (m.st.node),.slice m.An m.firsts.length m.cn])) 20 83 true).run Tryz.prog w=.ok (.tuple #[.agg #[.int .i64 (m.x1),.int .i64 (m.x2),.int .i64 (m.x3),.int .i64 (m.code),.int .i64 (m.st.wall),.int .i64 (m.st.logic),.int .i64 (m.st.node),.slice m.An m.firsts.length m.cn],.bool true]) w:=fun w=>by kernel_rfl
 go_enter Tryz.func7,Tryz.ntmps7
 go_upto_region 7 with fail
 generalize (w.alloc (.cells #[.int .i64 0,.int .i64 0,.int .i64 0,.int .i64 0,.string ⟨#[]⟩,.slice none 0 0,.int .i64 0,.int .i64 0,.int .i64 0,.int .i64 0,.slice none 0 0,.bool false,.int .i64 0,.int .i64 0,.int .i64 0,.int .i64 0,.slice none 0 0,.int .i64 0,.int .i64 0,.slice none 0 0,.slice none 0 0] 41)).alloc (.cells #[.int .i64 (m.x1),.int .i64 (m.x2),.int .i64 (m.x3),.int .i64 (m.code),.int .i64 (m.st.wall),.int .i64 (m.st.logic),.int .i64 (m.st.node),.slice m.An m.firsts.length m.cn] 83)=W0 at *
 clear a1 a2
 have q0:=(blk_cell BK.out 0).trans (show _=some (.int .i64 (m.x1)) from rfl)
 have q1:=(blk_cell BK.out 1).trans (show _=some (.int .i64 (m.x2)) from rfl)
 have q2:=(blk_cell BK.out 2).trans (show _=some (.int .i64 (m.x3)) from rfl)
 have q3:=(blk_cell BK.out 3).trans (show _=some (.int .i64 (m.code)) from rfl)
 have q4:=(blk_cell BK.out 4).trans (show _=some (.int .i64 (m.st.wall)) from rfl)
 have q5:=(blk_cell BK.out 5).trans (show _=some (.int .i64 (m.st.logic)) from rfl)
 have q6:=(blk_cell BK.out 6).trans (show _=some (.int .i64 (m.st.node)) from rfl)
 have q7:=(blk_cell BK.out 7).trans (show _=some (.slice m.An m.firsts.length m.cn) from rfl)
 obtain ⟨W1,SR1,C1,hb1,hG1⟩:=store_blk (P:=Tryz.prog) (T:=41) (cs:=#[.int .i64 2,.int .i64 (m.x1),.int .i64 (m.x2),.int .i64 (m.x3),.string ⟨#[]⟩,.slice none 0 0,.int .i64 (m.st.wall),.int .i64 (m.st.logic),.int .i64 (m.st.node),.int .i64 (m.code),.slice m.An m.firsts.length m.cn,.bool false,.int .i64 0,.int .i64 0,.int .i64 0,.int .i64 0,.slice none 0 0,.int .i64 0,.int .i64 0,.slice none 0 0,.slice none 0 0]) BZ.out rfl (by kernel_rfl) (by kernel_rfl)
 have hg1:=hG1 w hg.out (Nat.le_refl _)
 replace C1:=Lib.hid C1
 replace hg1:=Lib.hid hg1
 clear hb1 hG1
 go_wp2_with (refine wpList_store_at (ty:=41) rfl (by kernel_rfl) (p:=.pointer (some ⟨w.heap.size,0,none⟩)) rfl rfl SR1 ?_;clear SR1)
 refine bodyPost_ret (v:=.tuple #[.agg #[.int .i64 2,.int .i64 (m.x1),.int .i64 (m.x2),.int .i64 (m.x3),.string ⟨#[]⟩,.slice none 0 0,.int .i64 (m.st.wall),.int .i64 (m.st.logic),.int .i64 (m.st.node),.int .i64 (m.code),.slice m.An m.firsts.length m.cn,.bool false,.int .i64 0,.int .i64 0,.int .i64 0,.int .i64 0,.slice none 0 0,.int .i64 0,.int .i64 0,.slice none 0 0,.slice none 0 0],.bool true]) (results_cell2 (i:=2) (j:=3) rfl rfl rfl C1.out Tryz.underlying41 rfl (by kernel_rfl)) rfl ?_
 exact ⟨rfl,hg1.out⟩
set_option maxRecDepth 100000 in
set_option maxHeartbeats 2000000 in
theorem flat3_any (m:MsgM) (w:World):Calls Tryz.prog 7 #[.iface 85 m.val3] w fun e w'=>e=.returned (.tuple #[.agg #[.int .i64 3,.int .i64 (m.x1),.int .i64 (m.x2),.int .i64 (m.x3),.string ⟨#[]⟩,.slice none 0 0,.int .i64 (m.st.wall),.int .i64 (m.st.logic),.int .i64 (m.st.node),.int .i64 0,.slice none 0 0,.bool m.yes,.int .i64 0,.int .i64 0,.int .i64 0,.int .i64 0,.slice none 0 0,.int .i64 0,.int .i64 0,.slice none 0 0,.slice none 0 0],.bool true])∧G w w':=by
 have hg:=(G.new w (.cells #[.int .i64 0,.int .i64 0,.int .i64 0,.int .i64 0,.string ⟨#[]⟩,.slice none 0 0,.int .i64 0,.int .i64 0,.int .i64 0,.int .i64 0,.slice none 0 0,.bool false,.int .i64 0,.int .i64 0,.int .i64 0,.int .i64 0,.slice none 0 0,.int .i64 0,.int .i64 0,.slice none 0 0,.slice none 0 0] 41)).alloc (.cells #[.int .i64 (m.x1),.int .i64 (m.x2),.int .i64 (m.x3),.bool m.yes,.int .i64 (m.st.wall),.int .i64 (m.st.logic),.int .i64 (m.st.node)] 85)
 have BZ:=(G.new (w.alloc (.cells #[.int .i64 0,.int .i64 0,.int .i64 0,.int .i64 0,.string ⟨#[]⟩,.slice none 0 0,.int .i64 0,.int .i64 0,.int .i64 0,.int .i64 0,.slice none 0 0,.bool false,.int .i64 0,.int .i64 0,.int .i64 0,.int .i64 0,.slice none 0 0,.int .i64 0,.int .i64 0,.slice none 0 0,.slice none 0 0] 41)) (.cells #[.int .i64 (m.x1),.int .i64 (m.x2),.int .i64 (m.x3),.bool m.yes,.int .i64 (m.st.wall),.int .i64 (m.st.logic),.int .i64 (m.st.node)] 85)).blk (blk_new w #[.int .i64 0,.int .i64 0,.int .i64 0,.int .i64 0,.string ⟨#[]⟩,.slice none 0 0,.int .i64 0,.int .i64 0,.int .i64 0,.int .i64 0,.slice none 0 0,.bool false,.int .i64 0,.int .i64 0,.int .i64 0,.int .i64 0,.slice none 0 0,.int .i64 0,.int .i64 0,.slice none 0 0,.slice none 0 0] 41)
 have BK:=blk_new' (w.alloc (.cells #[.int .i64 0,.int .i64 0,.int .i64 0,.int .i64 0,.string ⟨#[]⟩,.slice none 0 0,.int .i64 0,.int .i64 0,.int .i64 0,.int .i64 0,.slice none 0 0,.bool false,.int .i64 0,.int .i64 0,.int .i64 0,.int .i64 0,.slice none 0 0,.int .i64 0,.int .i64 0,.slice none 0 0,.slice none 0 0] 41)) #[.int .i64 (m.x1),.int .i64 (m.x2),.int .i64 (m.x3),.bool m.yes,.int .i64 (m.st.wall),.int .i64 (m.st.logic),.int .i64 (m.st.node)] 85 (w.heap.size+1) (by simp)
 unfold MsgM.val3
 replace hg:=Lib.hid hg
 replace BZ:=Lib.hid BZ
 replace BK:=Lib.hid BK
 have a1:∀w,(Instr.typeAssert (.iface 85 (.agg #[.int .i64 (m.x1),.int .i64 (m.x2),.int .i64 (m.x3),.bool m.yes,.int .i64 (m.st.wall),.int .i64 (m.st.logic),.int .i64 (m.st.node)])) 20 81 true).run Tryz.prog w=.ok (.tuple #[.agg #[.int .i64 0,.int .i64 0,.int .i64 0,.string ⟨#[]⟩,.slice none 0 0,.int .i64 0,.int .i64 0,.int .i64 0],.bool false]) w:=fun w=>by kernel_rfl
 have a2:∀w,(Instr.typeAssert (.iface 85 (.agg #[.int .i64 (m.x1),.int .i64 (m.x2),.int .i64 (m.x3),.bool m.yes,.int .i64 (m.st.wall),.int .i64 (m.st.logic),.int .i64 (m.st.node)])) 20 83 true).run Tryz.prog w=.ok (.tuple #[.agg #[.int .i64 0,.int .i64 0,.int .i64 0,.int .i64 0,.int .i64 0,.int .i64 0,.int .i64 0,.slice none 0 0],.bool false]) w:=fun w=>by kernel_rfl
 have a3:∀w,(Instr.typeAssert (.iface 85 (.agg #[.int .i64 (m.x1),.int .i64 (m.x2),.int .i64 (m.x3),.bool m.yes,.int .i64 (m.st.wall),.int .i64 (m.st.logic),.int .i64 (m.st.node)])) 20 85 true).run Tryz.prog w=.ok (.tuple #[.agg #[.int .i64 (m.x1),.int .i64 (m.x2),.int .i64 (m.x3),.bool m.yes,.int .i64 (m.st.wall),.int .i64 (m.st.logic),.int .i64 (m.st.node)],.bool true]) w:=fun w=>by kernel_rfl
 go_enter Tryz.func7,Tryz.ntmps7
 go_upto_region 10 with fail
 generalize (w.alloc (.cells #[.int .i64 0,.int .i64 0,.int .i64 0,.int .i64 0,.string ⟨#[]⟩,.slice none 0 0,.int .i64 0,.int .i64 0,.int .i64 0,.int .i64 0,.slice none 0 0,.bool false,.int .i64 0,.int .i64 0,.int .i64 0,.int .i64 0,.slice none 0 0,.int .i64 0,.int .i64 0,.slice none 0 0,.slice none 0 0] 41)).alloc (.cells #[.int .i64 (m.x1),.int .i64 (m.x2),.int .i64 (m.x3),.bool m.yes,.int .i64 (m.st.wall),.int .i64 (m.st.logic),.int .i64 (m.st.node)] 85)=W0 at *
 clear a1 a2 a3
 have q0:=(blk_cell BK.out 0).trans (show _=some (.int .i64 (m.x1)) from rfl)
 have q1:=(blk_cell BK.out 1).trans (show _=some (.int .i64 (m.x2)) from rfl)
 have q2:=(blk_cell BK.out 2).trans (show _=some (.int .i64 (m.x3)) from rfl)
 have q3:=(blk_cell BK.out 3).trans (show _=some (.bool m.yes) from rfl)
 have q4:=(blk_cell BK.out 4).trans (show _=some (.int .i64 (m.st.wall)) from rfl)
 have q5:=(blk_cell BK.out 5).trans (show _=some (.int .i64 (m.st.logic)) from rfl)
 have q6:=(blk_cell BK.out 6).trans (show _=some (.int .i64 (m.st.node)) from rfl)
 obtain ⟨W1,SR1,C1,hb1,hG1⟩:=store_blk (P:=Tryz.prog) (T:=41) (cs:=#[.int .i64 3,.int .i64 (m.x1),.int .i64 (m.x2),.int .i64 (m.x3),.string ⟨#[]⟩,.slice none 0 0,.int .i64 (m.st.wall),.int .i64 (m.st.logic),.int .i64 (m.st.node),.int .i64 0,.slice none 0 0,.bool m.yes,.int .i64 0,.int .i64 0,.int .i64 0,.int .i64 0,.slice none 0 0,.int .i64 0,.int .i64 0,.slice none 0 0,.slice none 0 0]) BZ.out rfl (by kernel_rfl) (by kernel_rfl)
 have hg1:=hG1 w hg.out (Nat.le_refl _)
 replace C1:=Lib.hid C1
 replace hg1:=Lib.hid hg1
 clear hb1 hG1
 go_wp2_with (refine wpList_store_at (ty:=41) rfl (by kernel_rfl) (p:=.pointer (some ⟨w.heap.size,0,none⟩)) rfl rfl SR1 ?_;clear SR1)
 refine bodyPost_ret (v:=.tuple #[.agg #[.int .i64 3,.int .i64 (m.x1),.int .i64 (m.x2),.int .i64 (m.x3),.string ⟨#[]⟩,.slice none 0 0,.int .i64 (m.st.wall),.int .i64 (m.st.logic),.int .i64 (m.st.node),.int .i64 0,.slice none 0 0,.bool m.yes,.int .i64 0,.int .i64 0,.int .i64 0,.int .i64 0,.slice none 0 0,.int .i64 0,.int .i64 0,.slice none 0 0,.slice none 0 0],.bool true]) (results_cell2 (i:=2) (j:=3) rfl rfl rfl C1.out Tryz.underlying41 rfl (by kernel_rfl)) rfl ?_
 exact ⟨rfl,hg1.out⟩
set_option maxRecDepth 100000 in
set_option maxHeartbeats 2000000 in
theorem flat4_any (m:MsgM) (w:World):Calls Tryz.prog 7 #[.iface 52 m.val4] w fun e w'=>e=.returned (.tuple #[.agg #[.int .i64 4,.int .i64 (m.x1),.int .i64 (m.x2),.int .i64 (m.x3),.string ⟨#[]⟩,.slice none 0 0,.int .i64 0,.int .i64 0,.int .i64 0,.int .i64 0,.slice none 0 0,.bool false,.int .i64 0,.int .i64 0,.int .i64 0,.int .i64 0,.slice none 0 0,.int .i64 0,.int .i64 0,.slice none 0 0,.slice none 0 0],.bool true])∧G w w':=by
 have hg:=(G.new w (.cells #[.int .i64 0,.int .i64 0,.int .i64 0,.int .i64 0,.string ⟨#[]⟩,.slice none 0 0,.int .i64 0,.int .i64 0,.int .i64 0,.int .i64 0,.slice none 0 0,.bool false,.int .i64 0,.int .i64 0,.int .i64 0,.int .i64 0,.slice none 0 0,.int .i64 0,.int .i64 0,.slice none 0 0,.slice none 0 0] 41)).alloc (.cells #[.int .i64 (m.x1),.int .i64 (m.x2),.int .i64 (m.x3)] 52)
 have BZ:=(G.new (w.alloc (.cells #[.int .i64 0,.int .i64 0,.int .i64 0,.int .i64 0,.string ⟨#[]⟩,.slice none 0 0,.int .i64 0,.int .i64 0,.int .i64 0,.int .i64 0,.slice none 0 0,.bool false,.int .i64 0,.int .i64 0,.int .i64 0,.int .i64 0,.slice none 0 0,.int .i64 0,.int .i64 0,.slice none 0 0,.slice none 0 0] 41)) (.cells #[.int .i64 (m.x1),.int .i64 (m.x2),.int .i64 (m.x3)] 52)).blk (blk_new w #[.int .i64 0,.int .i64 0,.int .i64 0,.int .i64 0,.string ⟨#[]⟩,.slice none 0 0,.int .i64 0,.int .i64 0,.int .i64 0,.int .i64 0,.slice none 0 0,.bool false,.int .i64 0,.int .i64 0,.int .i64 0,.int .i64 0,.slice none 0 0,.int .i64 0,.int .i64 0,.slice none 0 0,.slice none 0 0] 41)
 have BK:=blk_new' (w.alloc (.cells #[.int .i64 0,.int .i64 0,.int .i64 0,.int .i64 0,.string ⟨#[]⟩,.slice none 0 0,.int .i64 0,.int .i64 0,.int .i64 0,.int .i64 0,.slice none 0 0,.bool false,.int .i64 0,.int .i64 0,.int .i64 0,.int .i64 0,.slice none 0 0,.int .i64 0,.int .i64 0,.slice none 0 0,.slice none 0 0] 41)) #[.int .i64 (m.x1),.int .i64 (m.x2),.int .i64 (m.x3)] 52 (w.heap.size+1) (by simp)
 unfold MsgM.val4
 replace hg:=Lib.hid hg
 replace BZ:=Lib.hid BZ
 replace BK:=Lib.hid BK
 have a1:∀w,(Instr.typeAssert (.iface 52 (.agg #[.int .i64 (m.x1),.int .i64 (m.x2),.int .i64 (m.x3)])) 20 81 true).run Tryz.prog w=.ok (.tuple #[.agg #[.int .i64 0,.int .i64 0,.int .i64 0,.string ⟨#[]⟩,.slice none 0 0,.int .i64 0,.int .i64 0,.int .i64 0],.bool false]) w:=fun w=>by kernel_rfl
 have a2:∀w,(Instr.typeAssert (.iface 52 (.agg #[.int .i64 (m.x1),.int .i64 (m.x2),.int .i64 (m.x3)])) 20 83 true).run Tryz.prog w=.ok (.tuple #[.agg #[.int .i64 0,.int .i64 0,.int .i64 0,.int .i64 0,.int .i64 0,.int .i64 0,.int .i64 0,.slice none 0 0],.bool false]) w:=fun w=>by kernel_rfl
 have a3:∀w,(Instr.typeAssert (.iface 52 (.agg #[.int .i64 (m.x1),.int .i64 (m.x2),.int .i64 (m.x3)])) 20 85 true).run Tryz.prog w=.ok (.tuple #[.agg #[.int .i64 0,.int .i64 0,.int .i64 0,.bool false,.int .i64 0,.int .i64 0,.int .i64 0],.bool false]) w:=fun w=>by kernel_rfl
 have a4:∀w,(Instr.typeAssert (.iface 52 (.agg #[.int .i64 (m.x1),.int .i64 (m.x2),.int .i64 (m.x3)])) 20 52 true).run Tryz.prog w=.ok (.tuple #[.agg #[.int .i64 (m.x1),.int .i64 (m.x2),.int .i64 (m.x3)],.bool true]) w:=fun w=>by kernel_rfl
 go_enter Tryz.func7,Tryz.ntmps7
 go_upto_region 13 with fail
 generalize (w.alloc (.cells #[.int .i64 0,.int .i64 0,.int .i64 0,.int .i64 0,.string ⟨#[]⟩,.slice none 0 0,.int .i64 0,.int .i64 0,.int .i64 0,.int .i64 0,.slice none 0 0,.bool false,.int .i64 0,.int .i64 0,.int .i64 0,.int .i64 0,.slice none 0 0,.int .i64 0,.int .i64 0,.slice none 0 0,.slice none 0 0] 41)).alloc (.cells #[.int .i64 (m.x1),.int .i64 (m.x2),.int .i64 (m.x3)] 52)=W0 at *
 clear a1 a2 a3 a4
 have q0:=(blk_cell BK.out 0).trans (show _=some (.int .i64 (m.x1)) from rfl)
 have q1:=(blk_cell BK.out 1).trans (show _=some (.int .i64 (m.x2)) from rfl)
 have q2:=(blk_cell BK.out 2).trans (show _=some (.int .i64 (m.x3)) from rfl)
 obtain ⟨W1,SR1,C1,hb1,hG1⟩:=store_blk (P:=Tryz.prog) (T:=41) (cs:=#[.int .i64 4,.int .i64 (m.x1),.int .i64 (m.x2),.int .i64 (m.x3),.string ⟨#[]⟩,.slice none 0 0,.int .i64 0,.int .i64 0,.int .i64 0,.int .i64 0,.slice none 0 0,.bool false,.int .i64 0,.int .i64 0,.int .i64 0,.int .i64 0,.slice none 0 0,.int .i64 0,.int .i64 0,.slice none 0 0,.slice none 0 0]) BZ.out rfl (by kernel_rfl) (by kernel_rfl)
 have hg1:=hG1 w hg.out (Nat.le_refl _)
 replace C1:=Lib.hid C1
 replace hg1:=Lib.hid hg1
 clear hb1 hG1
 go_wp2_with (refine wpList_store_at (ty:=41) rfl (by kernel_rfl) (p:=.pointer (some ⟨w.heap.size,0,none⟩)) rfl rfl SR1 ?_;clear SR1)
 refine bodyPost_ret (v:=.tuple #[.agg #[.int .i64 4,.int .i64 (m.x1),.int .i64 (m.x2),.int .i64 (m.x3),.string ⟨#[]⟩,.slice none 0 0,.int .i64 0,.int .i64 0,.int .i64 0,.int .i64 0,.slice none 0 0,.bool false,.int .i64 0,.int .i64 0,.int .i64 0,.int .i64 0,.slice none 0 0,.int .i64 0,.int .i64 0,.slice none 0 0,.slice none 0 0],.bool true]) (results_cell2 (i:=2) (j:=3) rfl rfl rfl C1.out Tryz.underlying41 rfl (by kernel_rfl)) rfl ?_
 exact ⟨rfl,hg1.out⟩
set_option maxRecDepth 100000 in
set_option maxHeartbeats 2000000 in
theorem flat5_any (m:MsgM) (w:World):Calls Tryz.prog 7 #[.iface 87 m.val5] w fun e w'=>e=.returned (.tuple #[.agg #[.int .i64 5,.int .i64 (m.x1),.int .i64 (m.x2),.int .i64 (m.x3),.string ⟨#[]⟩,.slice none 0 0,.int .i64 (m.st.wall),.int .i64 (m.st.logic),.int .i64 (m.st.node),.int .i64 0,.slice m.An m.firsts.length m.cn,.bool false,.int .i64 0,.int .i64 0,.int .i64 0,.int .i64 0,.slice none 0 0,.int .i64 0,.int .i64 0,.slice none 0 0,.slice none 0 0],.bool true])∧G w w':=by
 have hg:=(G.new w (.cells #[.int .i64 0,.int .i64 0,.int .i64 0,.int .i64 0,.string ⟨#[]⟩,.slice none 0 0,.int .i64 0,.int .i64 0,.int .i64 0,.int .i64 0,.slice none 0 0,.bool false,.int .i64 0,.int .i64 0,.int .i64 0,.int .i64 0,.slice none 0 0,.int .i64 0,.int .i64 0,.slice none 0 0,.slice none 0 0] 41)).alloc (.cells #[.int .i64 (m.x1),.int .i64 (m.x2),.int .i64 (m.x3),.int .i64 (m.st.wall),.int .i64 (m.st.logic),.int .i64 (m.st.node),.slice m.An m.firsts.length m.cn] 87)
 have BZ:=(G.new (w.alloc (.cells #[.int .i64 0,.int .i64 0,.int .i64 0,.int .i64 0,.string ⟨#[]⟩,.slice none 0 0,.int .i64 0,.int .i64 0,.int .i64 0,.int .i64 0,.slice none 0 0,.bool false,.int .i64 0,.int .i64 0,.int .i64 0,.int .i64 0,.slice none 0 0,.int .i64 0,.int .i64 0,.slice none 0 0,.slice none 0 0] 41)) (.cells #[.int .i64 (m.x1),.int .i64 (m.x2),.int .i64 (m.x3),.int .i64 (m.st.wall),.int .i64 (m.st.logic),.int .i64 (m.st.node),.slice m.An m.firsts.length m.cn] 87)).blk (blk_new w #[.int .i64 0,.int .i64 0,.int .i64 0,.int .i64 0,.string ⟨#[]⟩,.slice none 0 0,.int .i64 0,.int .i64 0,.int .i64 0,.int .i64 0,.slice none 0 0,.bool false,.int .i64 0,.int .i64 0,.int .i64 0,.int .i64 0,.slice none 0 0,.int .i64 0,.int .i64 0,.slice none 0 0,.slice none 0 0] 41)
 have BK:=blk_new' (w.alloc (.cells #[.int .i64 0,.int .i64 0,.int .i64 0,.int .i64 0,.string ⟨#[]⟩,.slice none 0 0,.int .i64 0,.int .i64 0,.int .i64 0,.int .i64 0,.slice none 0 0,.bool false,.int .i64 0,.int .i64 0,.int .i64 0,.int .i64 0,.slice none 0 0,.int .i64 0,.int .i64 0,.slice none 0 0,.slice none 0 0] 41)) #[.int .i64 (m.x1),.int .i64 (m.x2),.int .i64 (m.x3),.int .i64 (m.st.wall),.int .i64 (m.st.logic),.int .i64 (m.st.node),.slice m.An m.firsts.length m.cn] 87 (w.heap.size+1) (by simp)
 unfold MsgM.val5
 replace hg:=Lib.hid hg
 replace BZ:=Lib.hid BZ
 replace BK:=Lib.hid BK
 have a1:∀w,(Instr.typeAssert (.iface 87 (.agg #[.int .i64 (m.x1),.int .i64 (m.x2),.int .i64 (m.x3),.int .i64 (m.st.wall),.int .i64 (m.st.logic),.int .i64 (m.st.node),.slice m.An m.firsts.length m.cn])) 20 81 true).run Tryz.prog w=.ok (.tuple #[.agg #[.int .i64 0,.int .i64 0,.int .i64 0,.string ⟨#[]⟩,.slice none 0 0,.int .i64 0,.int .i64 0,.int .i64 0],.bool false]) w:=fun w=>by kernel_rfl
 have a2:∀w,(Instr.typeAssert (.iface 87 (.agg #[.int .i64 (m.x1),.int .i64 (m.x2),.int .i64 (m.x3),.int .i64 (m.st.wall),.int .i64 (m.st.logic),.int .i64 (m.st.node),.slice m.An m.firsts.length m.cn])) 20 83 true).run Tryz.prog w=.ok (.tuple #[.agg #[.int .i64 0,.int .i64 0,.int .i64 0,.int .i64 0,.int .i64 0,.int .i64 0,.int .i64 0,.slice none 0 0],.bool false]) w:=fun w=>by kernel_rfl
 have a3:∀w,(Instr.typeAssert (.iface 87 (.agg #[.int .i64 (m.x1),.int .i64 (m.x2),.int .i64 (m.x3),.int .i64 (m.st.wall),.int .i64 (m.st.logic),.int .i64 (m.st.node),.slice m.An m.firsts.length m.cn])) 20 85 true).run Tryz.prog w=.ok (.tuple #[.agg #[.int .i64 0,.int .i64 0,.int .i64 0,.bool false,.int .i64 0,.int .i64 0,.int .i64 0],.bool false]) w:=fun w=>by kernel_rfl
 have a4:∀w,(Instr.typeAssert (.iface 87 (.agg #[.int .i64 (m.x1),.int .i64 (m.x2),.int .i64 (m.x3),.int .i64 (m.st.wall),.int .i64 (m.st.logic),.int .i64 (m.st.node),.slice m.An m.firsts.length m.cn])) 20 52 true).run Tryz.prog w=.ok (.tuple #[.agg #[.int .i64 0,.int .i64 0,.int .i64 0],.bool false]) w:=fun w=>by kernel_rfl
 have a5:∀w,(Instr.typeAssert (.iface 87 (.agg #[.int .i64 (m.x1),.int .i64 (m.x2),.int .i64 (m.x3),.int .i64 (m.st.wall),.int .i64 (m.st.logic),.int .i64 (m.st.node),.slice m.An m.firsts.length m.cn])) 20 87 true).run Tryz.prog w=.ok (.tuple #[.agg #[.int .i64 (m.x1),.int .i64 (m.x2),.int .i64 (m.x3),.int .i64 (m.st.wall),.int .i64 (m.st.logic),.int .i64 (m.st.node),.slice m.An m.firsts.length m.cn],.bool true]) w:=fun w=>by kernel_rfl
 go_enter Tryz.func7,Tryz.ntmps7
 go_upto_region 16 with fail
 generalize (w.alloc (.cells #[.int .i64 0,.int .i64 0,.int .i64 0,.int .i64 0,.string ⟨#[]⟩,.slice none 0 0,.int .i64 0,.int .i64 0,.int .i64 0,.int .i64 0,.slice none 0 0,.bool false,.int .i64 0,.int .i64 0,.int .i64 0,.int .i64 0,.slice none 0 0,.int .i64 0,.int .i64 0,.slice none 0 0,.slice none 0 0] 41)).alloc (.cells #[.int .i64 (m.x1),.int .i64 (m.x2),.int .i64 (m.x3),.int .i64 (m.st.wall),.int .i64 (m.st.logic),.int .i64 (m.st.node),.slice m.An m.firsts.length m.cn] 87)=W0 at *
 clear a1 a2 a3 a4 a5
 have q0:=(blk_cell BK.out 0).trans (show _=some (.int .i64 (m.x1)) from rfl)
 have q1:=(blk_cell BK.out 1).trans (show _=some (.int .i64 (m.x2)) from rfl)
 have q2:=(blk_cell BK.out 2).trans (show _=some (.int .i64 (m.x3)) from rfl)
 have q3:=(blk_cell BK.out 3).trans (show _=some (.int .i64 (m.st.wall)) from rfl)
 have q4:=(blk_cell BK.out 4).trans (show _=some (.int .i64 (m.st.logic)) from rfl)
 have q5:=(blk_cell BK.out 5).trans (show _=some (.int .i64 (m.st.node)) from rfl)
 have q6:=(blk_cell BK.out 6).trans (show _=some (.slice m.An m.firsts.length m.cn) from rfl)
 obtain ⟨W1,SR1,C1,hb1,hG1⟩:=store_blk (P:=Tryz.prog) (T:=41) (cs:=#[.int .i64 5,.int .i64 (m.x1),.int .i64 (m.x2),.int .i64 (m.x3),.string ⟨#[]⟩,.slice none 0 0,.int .i64 (m.st.wall),.int .i64 (m.st.logic),.int .i64 (m.st.node),.int .i64 0,.slice m.An m.firsts.length m.cn,.bool false,.int .i64 0,.int .i64 0,.int .i64 0,.int .i64 0,.slice none 0 0,.int .i64 0,.int .i64 0,.slice none 0 0,.slice none 0 0]) BZ.out rfl (by kernel_rfl) (by kernel_rfl)
 have hg1:=hG1 w hg.out (Nat.le_refl _)
 replace C1:=Lib.hid C1
 replace hg1:=Lib.hid hg1
 clear hb1 hG1
 go_wp2_with (refine wpList_store_at (ty:=41) rfl (by kernel_rfl) (p:=.pointer (some ⟨w.heap.size,0,none⟩)) rfl rfl SR1 ?_;clear SR1)
 refine bodyPost_ret (v:=.tuple #[.agg #[.int .i64 5,.int .i64 (m.x1),.int .i64 (m.x2),.int .i64 (m.x3),.string ⟨#[]⟩,.slice none 0 0,.int .i64 (m.st.wall),.int .i64 (m.st.logic),.int .i64 (m.st.node),.int .i64 0,.slice m.An m.firsts.length m.cn,.bool false,.int .i64 0,.int .i64 0,.int .i64 0,.int .i64 0,.slice none 0 0,.int .i64 0,.int .i64 0,.slice none 0 0,.slice none 0 0],.bool true]) (results_cell2 (i:=2) (j:=3) rfl rfl rfl C1.out Tryz.underlying41 rfl (by kernel_rfl)) rfl ?_
 exact ⟨rfl,hg1.out⟩
set_option maxRecDepth 100000 in
set_option maxHeartbeats 2000000 in
theorem flat6_any (m:MsgM) (w:World):Calls Tryz.prog 7 #[.iface 89 m.val6] w fun e w'=>e=.returned (.tuple #[.agg #[.int .i64 6,.int .i64 0,.int .i64 0,.int .i64 0,.string ⟨#[]⟩,.slice none 0 0,.int .i64 (m.st.wall),.int .i64 (m.st.logic),.int .i64 (m.st.node),.int .i64 0,.slice none 0 0,.bool false,.int .i64 (m.z1),.int .i64 (m.z2),.int .i64 (m.z3),.int .i64 (m.z4),.slice m.As m.sms.length m.cs,.int .i64 0,.int .i64 0,.slice none 0 0,.slice none 0 0],.bool true])∧G w w':=by
 have hg:=(G.new w (.cells #[.int .i64 0,.int .i64 0,.int .i64 0,.int .i64 0,.string ⟨#[]⟩,.slice none 0 0,.int .i64 0,.int .i64 0,.int .i64 0,.int .i64 0,.slice none 0 0,.bool false,.int .i64 0,.int .i64 0,.int .i64 0,.int .i64 0,.slice none 0 0,.int .i64 0,.int .i64 0,.slice none 0 0,.slice none 0 0] 41)).alloc (.cells #[.int .i64 (m.z1),.int .i64 (m.z2),.int .i64 (m.z3),.int .i64 (m.z4),.int .i64 (m.st.wall),.int .i64 (m.st.logic),.int .i64 (m.st.node),.slice m.As m.sms.length m.cs] 89)
 have BZ:=(G.new (w.alloc (.cells #[.int .i64 0,.int .i64 0,.int .i64 0,.int .i64 0,.string ⟨#[]⟩,.slice none 0 0,.int .i64 0,.int .i64 0,.int .i64 0,.int .i64 0,.slice none 0 0,.bool false,.int .i64 0,.int .i64 0,.int .i64 0,.int .i64 0,.slice none 0 0,.int .i64 0,.int .i64 0,.slice none 0 0,.slice none 0 0] 41)) (.cells #[.int .i64 (m.z1),.int .i64 (m.z2),.int .i64 (m.z3),.int .i64 (m.z4),.int .i64 (m.st.wall),.int .i64 (m.st.logic),.int .i64 (m.st.node),.slice m.As m.sms.length m.cs] 89)).blk (blk_new w #[.int .i64 0,.int .i64 0,.int .i64 0,.int .i64 0,.string ⟨#[]⟩,.slice none 0 0,.int .i64 0,.int .i64 0,.int .i64 0,.int .i64 0,.slice none 0 0,.bool false,.int .i64 0,.int .i64 0,.int .i64 0,.int .i64 0,.slice none 0 0,.int .i64 0,.int .i64 0,.slice none 0 0,.slice none 0 0] 41)
 have BK:=blk_new' (w.alloc (.cells #[.int .i64 0,.int .i64 0,.int .i64 0,.int .i64 0,.string ⟨#[]⟩,.slice none 0 0,.int .i64 0,.int .i64 0,.int .i64 0,.int .i64 0,.slice none 0 0,.bool false,.int .i64 0,.int .i64 0,.int .i64 0,.int .i64 0,.slice none 0 0,.int .i64 0,.int .i64 0,.slice none 0 0,.slice none 0 0] 41)) #[.int .i64 (m.z1),.int .i64 (m.z2),.int .i64 (m.z3),.int .i64 (m.z4),.int .i64 (m.st.wall),.int .i64 (m.st.logic),.int .i64 (m.st.node),.slice m.As m.sms.length m.cs] 89 (w.heap.size+1) (by simp)
 unfold MsgM.val6
 replace hg:=Lib.hid hg
 replace BZ:=Lib.hid BZ
 replace BK:=Lib.hid BK
 have a1:∀w,(Instr.typeAssert (.iface 89 (.agg #[.int .i64 (m.z1),.int .i64 (m.z2),.int .i64 (m.z3),.int .i64 (m.z4),.int .i64 (m.st.wall),.int .i64 (m.st.logic),.int .i64 (m.st.node),.slice m.As m.sms.length m.cs])) 20 81 true).run Tryz.prog w=.ok (.tuple #[.agg #[.int .i64 0,.int .i64 0,.int .i64 0,.string ⟨#[]⟩,.slice none 0 0,.int .i64 0,.int .i64 0,.int .i64 0],.bool false]) w:=fun w=>by kernel_rfl
 have a2:∀w,(Instr.typeAssert (.iface 89 (.agg #[.int .i64 (m.z1),.int .i64 (m.z2),.int .i64 (m.z3),.int .i64 (m.z4),.int .i64 (m.st.wall),.int .i64 (m.st.logic),.int .i64 (m.st.node),.slice m.As m.sms.length m.cs])) 20 83 true).run Tryz.prog w=.ok (.tuple #[.agg #[.int .i64 0,.int .i64 0,.int .i64 0,.int .i64 0,.int .i64 0,.int .i64 0,.int .i64 0,.slice none 0 0],.bool false]) w:=fun w=>by kernel_rfl
 have a3:∀w,(Instr.typeAssert (.iface 89 (.agg #[.int .i64 (m.z1),.int .i64 (m.z2),.int .i64 (m.z3),.int .i64 (m.z4),.int .i64 (m.st.wall),.int .i64 (m.st.logic),.int .i64 (m.st.node),.slice m.As m.sms.length m.cs])) 20 85 true).run Tryz.prog w=.ok (.tuple #[.agg #[.int .i64 0,.int .i64 0,.int .i64 0,.bool false,.int .i64 0,.int .i64 0,.int .i64 0],.bool false]) w:=fun w=>by kernel_rfl
 have a4:∀w,(Instr.typeAssert (.iface 89 (.agg #[.int .i64 (m.z1),.int .i64 (m.z2),.int .i64 (m.z3),.int .i64 (m.z4),.int .i64 (m.st.wall),.int .i64 (m.st.logic),.int .i64 (m.st.node),.slice m.As m.sms.length m.cs])) 20 52 true).run Tryz.prog w=.ok (.tuple #[.agg #[.int .i64 0,.int .i64 0,.int .i64 0],.bool false]) w:=fun w=>by kernel_rfl
 have a5:∀w,(Instr.typeAssert (.iface 89 (.agg #[.int .i64 (m.z1),.int .i64 (m.z2),.int .i64 (m.z3),.int .i64 (m.z4),.int .i64 (m.st.wall),.int .i64 (m.st.logic),.int .i64 (m.st.node),.slice m.As m.sms.length m.cs])) 20 87 true).run Tryz.prog w=.ok (.tuple #[.agg #[.int .i64 0,.int .i64 0,.int .i64 0,.int .i64 0,.int .i64 0,.int .i64 0,.slice none 0 0],.bool false]) w:=fun w=>by kernel_rfl
 have a6:∀w,(Instr.typeAssert (.iface 89 (.agg #[.int .i64 (m.z1),.int .i64 (m.z2),.int .i64 (m.z3),.int .i64 (m.z4),.int .i64 (m.st.wall),.int .i64 (m.st.logic),.int .i64 (m.st.node),.slice m.As m.sms.length m.cs])) 20 89 true).run Tryz.prog w=.ok (.tuple #[.agg #[.int .i64 (m.z1),.int .i64 (m.z2),.int .i64 (m.z3),.int .i64 (m.z4),.int .i64 (m.st.wall),.int .i64 (m.st.logic),.int .i64 (m.st.node),.slice m.As m.sms.length m.cs],.bool true]) w:=fun w=>by kernel_rfl
 go_enter Tryz.func7,Tryz.ntmps7
 go_upto_region 19 with fail
 generalize (w.alloc (.cells #[.int .i64 0,.int .i64 0,.int .i64 0,.int .i64 0,.string ⟨#[]⟩,.slice none 0 0,.int .i64 0,.int .i64 0,.int .i64 0,.int .i64 0,.slice none 0 0,.bool false,.int .i64 0,.int .i64 0,.int .i64 0,.int .i64 0,.slice none 0 0,.int .i64 0,.int .i64 0,.slice none 0 0,.slice none 0 0] 41)).alloc (.cells #[.int .i64 (m.z1),.int .i64 (m.z2),.int .i64 (m.z3),.int .i64 (m.z4),.int .i64 (m.st.wall),.int .i64 (m.st.logic),.int .i64 (m.st.node),.slice m.As m.sms.length m.cs] 89)=W0 at *
 clear a1 a2 a3 a4 a5 a6
 have q0:=(blk_cell BK.out 0).trans (show _=some (.int .i64 (m.z1)) from rfl)
 have q1:=(blk_cell BK.out 1).trans (show _=some (.int .i64 (m.z2)) from rfl)
 have q2:=(blk_cell BK.out 2).trans (show _=some (.int .i64 (m.z3)) from rfl)
 have q3:=(blk_cell BK.out 3).trans (show _=some (.int .i64 (m.z4)) from rfl)
 have q4:=(blk_cell BK.out 4).trans (show _=some (.int .i64 (m.st.wall)) from rfl)
 have q5:=(blk_cell BK.out 5).trans (show _=some (.int .i64 (m.st.logic)) from rfl)
 have q6:=(blk_cell BK.out 6).trans (show _=some (.int .i64 (m.st.node)) from rfl)
 have q7:=(blk_cell BK.out 7).trans (show _=some (.slice m.As m.sms.length m.cs) from rfl)
 obtain ⟨W1,SR1,C1,hb1,hG1⟩:=store_blk (P:=Tryz.prog) (T:=41) (cs:=#[.int .i64 6,.int .i64 0,.int .i64 0,.int .i64 0,.string ⟨#[]⟩,.slice none 0 0,.int .i64 (m.st.wall),.int .i64 (m.st.logic),.int .i64 (m.st.node),.int .i64 0,.slice none 0 0,.bool false,.int .i64 (m.z1),.int .i64 (m.z2),.int .i64 (m.z3),.int .i64 (m.z4),.slice m.As m.sms.length m.cs,.int .i64 0,.int .i64 0,.slice none 0 0,.slice none 0 0]) BZ.out rfl (by kernel_rfl) (by kernel_rfl)
 have hg1:=hG1 w hg.out (Nat.le_refl _)
 replace C1:=Lib.hid C1
 replace hg1:=Lib.hid hg1
 clear hb1 hG1
 go_wp2_with (refine wpList_store_at (ty:=41) rfl (by kernel_rfl) (p:=.pointer (some ⟨w.heap.size,0,none⟩)) rfl rfl SR1 ?_;clear SR1)
 refine bodyPost_ret (v:=.tuple #[.agg #[.int .i64 6,.int .i64 0,.int .i64 0,.int .i64 0,.string ⟨#[]⟩,.slice none 0 0,.int .i64 (m.st.wall),.int .i64 (m.st.logic),.int .i64 (m.st.node),.int .i64 0,.slice none 0 0,.bool false,.int .i64 (m.z1),.int .i64 (m.z2),.int .i64 (m.z3),.int .i64 (m.z4),.slice m.As m.sms.length m.cs,.int .i64 0,.int .i64 0,.slice none 0 0,.slice none 0 0],.bool true]) (results_cell2 (i:=2) (j:=3) rfl rfl rfl C1.out Tryz.underlying41 rfl (by kernel_rfl)) rfl ?_
 exact ⟨rfl,hg1.out⟩
set_option maxRecDepth 100000 in
set_option maxHeartbeats 2000000 in
theorem flat7_any (m:MsgM) (w:World):Calls Tryz.prog 7 #[.iface 91 m.val7] w fun e w'=>e=.returned (.tuple #[.agg #[.int .i64 7,.int .i64 0,.int .i64 0,.int .i64 0,.string ⟨#[]⟩,.slice none 0 0,.int .i64 0,.int .i64 0,.int .i64 0,.int .i64 0,.slice none 0 0,.bool false,.int .i64 (m.z1),.int .i64 (m.z2),.int .i64 (m.z3),.int .i64 (m.z4),.slice none 0 0,.int .i64 0,.int .i64 0,.slice none 0 0,.slice none 0 0],.bool true])∧G w w':=by
 have hg:=(G.new w (.cells #[.int .i64 0,.int .i64 0,.int .i64 0,.int .i64 0,.string ⟨#[]⟩,.slice none 0 0,.int .i64 0,.int .i64 0,.int .i64 0,.int .i64 0,.slice none 0 0,.bool false,.int .i64 0,.int .i64 0,.int .i64 0,.int .i64 0,.slice none 0 0,.int .i64 0,.int .i64 0,.slice none 0 0,.slice none 0 0] 41)).alloc (.cells #[.int .i64 (m.z1),.int .i64 (m.z2),.int .i64 (m.z3),.int .i64 (m.z4)] 91)
 have BZ:=(G.new (w.alloc (.cells #[.int .i64 0,.int .i64 0,.int .i64 0,.int .i64 0,.string ⟨#[]⟩,.slice none 0 0,.int .i64 0,.int .i64 0,.int .i64 0,.int .i64 0,.slice none 0 0,.bool false,.int .i64 0,.int .i64 0,.int .i64 0,.int .i64 0,.slice none 0 0,.int .i64 0,.int .i64 0,.slice none 0 0,.slice none 0 0] 41)) (.cells #[.int .i64 (m.z1),.int .i64 (m.z2),.int .i64 (m.z3),.int .i64 (m.z4)] 91)).blk (blk_new w #[.int .i64 0,.int .i64 0,.int .i64 0,.int .i64 0,.string ⟨#[]⟩,.slice none 0 0,.int .i64 0,.int .i64 0,.int .i64 0,.int .i64 0,.slice none 0 0,.bool false,.int .i64 0,.int .i64 0,.int .i64 0,.int .i64 0,.slice none 0 0,.int .i64 0,.int .i64 0,.slice none 0 0,.slice none 0 0] 41)
 have BK:=blk_new' (w.alloc (.cells #[.int .i64 0,.int .i64 0,.int .i64 0,.int .i64 0,.string ⟨#[]⟩,.slice none 0 0,.int .i64 0,.int .i64 0,.int .i64 0,.int .i64 0,.slice none 0 0,.bool false,.int .i64 0,.int .i64 0,.int .i64 0,.int .i64 0,.slice none 0 0,.int .i64 0,.int .i64 0,.slice none 0 0,.slice none 0 0] 41)) #[.int .i64 (m.z1),.int .i64 (m.z2),.int .i64 (m.z3),.int .i64 (m.z4)] 91 (w.heap.size+1) (by simp)
 unfold MsgM.val7
 replace hg:=Lib.hid hg
 replace BZ:=Lib.hid BZ
 replace BK:=Lib.hid BK
 have a1:∀w,(Instr.typeAssert (.iface 91 (.agg #[.int .i64 (m.z1),.int .i64 (m.z2),.int .i64 (m.z3),.int .i64 (m.z4)])) 20 81 true).run Tryz.prog w=.ok (.tuple #[.agg #[.int .i64 0,.int .i64 0,.int .i64 0,.string ⟨#[]⟩,.slice none 0 0,.int .i64 0,.int .i64 0,.int .i64 0],.bool false]) w:=fun w=>by kernel_rfl
 have a2:∀w,(Instr.typeAssert (.iface 91 (.agg #[.int .i64 (m.z1),.int .i64 (m.z2),.int .i64 (m.z3),.int .i64 (m.z4)])) 20 83 true).run Tryz.prog w=.ok (.tuple #[.agg #[.int .i64 0,.int .i64 0,.int .i64 0,.int .i64 0,.int .i64 0,.int .i64 0,.int .i64 0,.slice none 0 0],.bool false]) w:=fun w=>by kernel_rfl
 have a3:∀w,(Instr.typeAssert (.iface 91 (.agg #[.int .i64 (m.z1),.int .i64 (m.z2),.int .i64 (m.z3),.int .i64 (m.z4)])) 20 85 true).run Tryz.prog w=.ok (.tuple #[.agg #[.int .i64 0,.int .i64 0,.int .i64 0,.bool false,.int .i64 0,.int .i64 0,.int .i64 0],.bool false]) w:=fun w=>by kernel_rfl
 have a4:∀w,(Instr.typeAssert (.iface 91 (.agg #[.int .i64 (m.z1),.int .i64 (m.z2),.int .i64 (m.z3),.int .i64 (m.z4)])) 20 52 true).run Tryz.prog w=.ok (.tuple #[.agg #[.int .i64 0,.int .i64 0,.int .i64 0],.bool false]) w:=fun w=>by kernel_rfl
 have a5:∀w,(Instr.typeAssert (.iface 91 (.agg #[.int .i64 (m.z1),.int .i64 (m.z2),.int .i64 (m.z3),.int .i64 (m.z4)])) 20 87 true).run Tryz.prog w=.ok (.tuple #[.agg #[.int .i64 0,.int .i64 0,.int .i64 0,.int .i64 0,.int .i64 0,.int .i64 0,.slice none 0 0],.bool false]) w:=fun w=>by kernel_rfl
 have a6:∀w,(Instr.typeAssert (.iface 91 (.agg #[.int .i64 (m.z1),.int .i64 (m.z2),.int .i64 (m.z3),.int .i64 (m.z4)])) 20 89 true).run Tryz.prog w=.ok (.tuple #[.agg #[.int .i64 0,.int .i64 0,.int .i64 0,.int .i64 0,.int .i64 0,.int .i64 0,.int .i64 0,.slice none 0 0],.bool false]) w:=fun w=>by kernel_rfl
 have a7:∀w,(Instr.typeAssert (.iface 91 (.agg #[.int .i64 (m.z1),.int .i64 (m.z2),.int .i64 (m.z3),.int .i64 (m.z4)])) 20 91 true).run Tryz.prog w=.ok (.tuple #[.agg #[.int .i64 (m.z1),.int .i64 (m.z2),.int .i64 (m.z3),.int .i64 (m.z4)],.bool true]) w:=fun w=>by kernel_rfl
 go_enter Tryz.func7,Tryz.ntmps7
 go_upto_region 22 with fail
 generalize (w.alloc (.cells #[.int .i64 0,.int .i64 0,.int .i64 0,.int .i64 0,.string ⟨#[]⟩,.slice none 0 0,.int .i64 0,.int .i64 0,.int .i64 0,.int .i64 0,.slice none 0 0,.bool false,.int .i64 0,.int .i64 0,.int .i64 0,.int .i64 0,.slice none 0 0,.int .i64 0,.int .i64 0,.slice none 0 0,.slice none 0 0] 41)).alloc (.cells #[.int .i64 (m.z1),.int .i64 (m.z2),.int .i64 (m.z3),.int .i64 (m.z4)] 91)=W0 at *
 clear a1 a2 a3 a4 a5 a6 a7
 have q0:=(blk_cell BK.out 0).trans (show _=some (.int .i64 (m.z1)) from rfl)
 have q1:=(blk_cell BK.out 1).trans (show _=some (.int .i64 (m.z2)) from rfl)
 have q2:=(blk_cell BK.out 2).trans (show _=some (.int .i64 (m.z3)) from rfl)
 have q3:=(blk_cell BK.out 3).trans (show _=some (.int .i64 (m.z4)) from rfl)
 obtain ⟨W1,SR1,C1,hb1,hG1⟩:=store_blk (P:=Tryz.prog) (T:=41) (cs:=#[.int .i64 7,.int .i64 0,.int .i64 0,.int .i64 0,.string ⟨#[]⟩,.slice none 0 0,.int .i64 0,.int .i64 0,.int .i64 0,.int .i64 0,.slice none 0 0,.bool false,.int .i64 (m.z1),.int .i64 (m.z2),.int .i64 (m.z3),.int .i64 (m.z4),.slice none 0 0,.int .i64 0,.int .i64 0,.slice none 0 0,.slice none 0 0]) BZ.out rfl (by kernel_rfl) (by kernel_rfl)
 have hg1:=hG1 w hg.out (Nat.le_refl _)
 replace C1:=Lib.hid C1
 replace hg1:=Lib.hid hg1
 clear hb1 hG1
 go_wp2_with (refine wpList_store_at (ty:=41) rfl (by kernel_rfl) (p:=.pointer (some ⟨w.heap.size,0,none⟩)) rfl rfl SR1 ?_;clear SR1)
 refine bodyPost_ret (v:=.tuple #[.agg #[.int .i64 7,.int .i64 0,.int .i64 0,.int .i64 0,.string ⟨#[]⟩,.slice none 0 0,.int .i64 0,.int .i64 0,.int .i64 0,.int .i64 0,.slice none 0 0,.bool false,.int .i64 (m.z1),.int .i64 (m.z2),.int .i64 (m.z3),.int .i64 (m.z4),.slice none 0 0,.int .i64 0,.int .i64 0,.slice none 0 0,.slice none 0 0],.bool true]) (results_cell2 (i:=2) (j:=3) rfl rfl rfl C1.out Tryz.underlying41 rfl (by kernel_rfl)) rfl ?_
 exact ⟨rfl,hg1.out⟩
set_option maxRecDepth 100000 in
set_option maxHeartbeats 2000000 in
theorem flat8_any (m:MsgM) (w:World):Calls Tryz.prog 7 #[.iface 93 m.val8] w fun e w'=>e=.returned (.tuple #[.agg #[.int .i64 8,.int .i64 0,.int .i64 0,.int .i64 0,.string ⟨#[]⟩,.slice none 0 0,.int .i64 0,.int .i64 0,.int .i64 0,.int .i64 0,.slice none 0 0,.bool false,.int .i64 0,.int .i64 0,.int .i64 0,.int .i64 0,.slice none 0 0,.int .i64 (m.src),.int .i64 0,.slice none 0 0,.slice none 0 0],.bool true])∧G w w':=by
 have hg:=(G.new w (.cells #[.int .i64 0,.int .i64 0,.int .i64 0,.int .i64 0,.string ⟨#[]⟩,.slice none 0 0,.int .i64 0,.int .i64 0,.int .i64 0,.int .i64 0,.slice none 0 0,.bool false,.int .i64 0,.int .i64 0,.int .i64 0,.int .i64 0,.slice none 0 0,.int .i64 0,.int .i64 0,.slice none 0 0,.slice none 0 0] 41)).alloc (.cells #[.int .i64 (m.src)] 93)
 have BZ:=(G.new (w.alloc (.cells #[.int .i64 0,.int .i64 0,.int .i64 0,.int .i64 0,.string ⟨#[]⟩,.slice none 0 0,.int .i64 0,.int .i64 0,.int .i64 0,.int .i64 0,.slice none 0 0,.bool false,.int .i64 0,.int .i64 0,.int .i64 0,.int .i64 0,.slice none 0 0,.int .i64 0,.int .i64 0,.slice none 0 0,.slice none 0 0] 41)) (.cells #[.int .i64 (m.src)] 93)).blk (blk_new w #[.int .i64 0,.int .i64 0,.int .i64 0,.int .i64 0,.string ⟨#[]⟩,.slice none 0 0,.int .i64 0,.int .i64 0,.int .i64 0,.int .i64 0,.slice none 0 0,.bool false,.int .i64 0,.int .i64 0,.int .i64 0,.int .i64 0,.slice none 0 0,.int .i64 0,.int .i64 0,.slice none 0 0,.slice none 0 0] 41)
 have BK:=blk_new' (w.alloc (.cells #[.int .i64 0,.int .i64 0,.int .i64 0,.int .i64 0,.string ⟨#[]⟩,.slice none 0 0,.int .i64 0,.int .i64 0,.int .i64 0,.int .i64 0,.slice none 0 0,.bool false,.int .i64 0,.int .i64 0,.int .i64 0,.int .i64 0,.slice none 0 0,.int .i64 0,.int .i64 0,.slice none 0 0,.slice none 0 0] 41)) #[.int .i64 (m.src)] 93 (w.heap.size+1) (by simp)
 unfold MsgM.val8
 replace hg:=Lib.hid hg
 replace BZ:=Lib.hid BZ
 replace BK:=Lib.hid BK
 have a1:∀w,(Instr.typeAssert (.iface 93 (.agg #[.int .i64 (m.src)])) 20 81 true).run Tryz.prog w=.ok (.tuple #[.agg #[.int .i64 0,.int .i64 0,.int .i64 0,.string ⟨#[]⟩,.slice none 0 0,.int .i64 0,.int .i64 0,.int .i64 0],.bool false]) w:=fun w=>by kernel_rfl
 have a2:∀w,(Instr.typeAssert (.iface 93 (.agg #[.int .i64 (m.src)])) 20 83 true).run Tryz.prog w=.ok (.tuple #[.agg #[.int .i64 0,.int .i64 0,.int .i64 0,.int .i64 0,.int .i64 0,.int .i64 0,.int .i64 0,.slice none 0 0],.bool false]) w:=fun w=>by kernel_rfl
 have a3:∀w,(Instr.typeAssert (.iface 93 (.agg #[.int .i64 (m.src)])) 20 85 true).run Tryz.prog w=.ok (.tuple #[.agg #[.int .i64 0,.int .i64 0,.int .i64 0,.bool false,.int .i64 0,.int .i64 0,.int .i64 0],.bool false]) w:=fun w=>by kernel_rfl
 have a4:∀w,(Instr.typeAssert (.iface 93 (.agg #[.int .i64 (m.src)])) 20 52 true).run Tryz.prog w=.ok (.tuple #[.agg #[.int .i64 0,.int .i64 0,.int .i64 0],.bool false]) w:=fun w=>by kernel_rfl
 have a5:∀w,(Instr.typeAssert (.iface 93 (.agg #[.int .i64 (m.src)])) 20 87 true).run Tryz.prog w=.ok (.tuple #[.agg #[.int .i64 0,.int .i64 0,.int .i64 0,.int .i64 0,.int .i64 0,.int .i64 0,.slice none 0 0],.bool false]) w:=fun w=>by kernel_rfl
 have a6:∀w,(Instr.typeAssert (.iface 93 (.agg #[.int .i64 (m.src)])) 20 89 true).run Tryz.prog w=.ok (.tuple #[.agg #[.int .i64 0,.int .i64 0,.int .i64 0,.int .i64 0,.int .i64 0,.int .i64 0,.int .i64 0,.slice none 0 0],.bool false]) w:=fun w=>by kernel_rfl
 have a7:∀w,(Instr.typeAssert (.iface 93 (.agg #[.int .i64 (m.src)])) 20 91 true).run Tryz.prog w=.ok (.tuple #[.agg #[.int .i64 0,.int .i64 0,.int .i64 0,.int .i64 0],.bool false]) w:=fun w=>by kernel_rfl
 have a8:∀w,(Instr.typeAssert (.iface 93 (.agg #[.int .i64 (m.src)])) 20 93 true).run Tryz.prog w=.ok (.tuple #[.agg #[.int .i64 (m.src)],.bool true]) w:=fun w=>by kernel_rfl
 go_enter Tryz.func7,Tryz.ntmps7
 go_upto_region 25 with fail
 generalize (w.alloc (.cells #[.int .i64 0,.int .i64 0,.int .i64 0,.int .i64 0,.string ⟨#[]⟩,.slice none 0 0,.int .i64 0,.int .i64 0,.int .i64 0,.int .i64 0,.slice none 0 0,.bool false,.int .i64 0,.int .i64 0,.int .i64 0,.int .i64 0,.slice none 0 0,.int .i64 0,.int .i64 0,.slice none 0 0,.slice none 0 0] 41)).alloc (.cells #[.int .i64 (m.src)] 93)=W0 at *
 clear a1 a2 a3 a4 a5 a6 a7 a8
 have q0:=(blk_cell BK.out 0).trans (show _=some (.int .i64 (m.src)) from rfl)
 obtain ⟨W1,SR1,C1,hb1,hG1⟩:=store_blk (P:=Tryz.prog) (T:=41) (cs:=#[.int .i64 8,.int .i64 0,.int .i64 0,.int .i64 0,.string ⟨#[]⟩,.slice none 0 0,.int .i64 0,.int .i64 0,.int .i64 0,.int .i64 0,.slice none 0 0,.bool false,.int .i64 0,.int .i64 0,.int .i64 0,.int .i64 0,.slice none 0 0,.int .i64 (m.src),.int .i64 0,.slice none 0 0,.slice none 0 0]) BZ.out rfl (by kernel_rfl) (by kernel_rfl)
 have hg1:=hG1 w hg.out (Nat.le_refl _)
 replace C1:=Lib.hid C1
 replace hg1:=Lib.hid hg1
 clear hb1 hG1
 go_wp2_with (refine wpList_store_at (ty:=41) rfl (by kernel_rfl) (p:=.pointer (some ⟨w.heap.size,0,none⟩)) rfl rfl SR1 ?_;clear SR1)
 refine bodyPost_ret (v:=.tuple #[.agg #[.int .i64 8,.int .i64 0,.int .i64 0,.int .i64 0,.string ⟨#[]⟩,.slice none 0 0,.int .i64 0,.int .i64 0,.int .i64 0,.int .i64 0,.slice none 0 0,.bool false,.int .i64 0,.int .i64 0,.int .i64 0,.int .i64 0,.slice none 0 0,.int .i64 (m.src),.int .i64 0,.slice none 0 0,.slice none 0 0],.bool true]) (results_cell2 (i:=2) (j:=3) rfl rfl rfl C1.out Tryz.underlying41 rfl (by kernel_rfl)) rfl ?_
 exact ⟨rfl,hg1.out⟩
set_option maxRecDepth 100000 in
set_option maxHeartbeats 2000000 in
theorem flat9_any (m:MsgM) (w:World):Calls Tryz.prog 7 #[.iface 55 m.val9] w fun e w'=>e=.returned (.tuple #[.agg #[.int .i64 9,.int .i64 0,.int .i64 0,.int .i64 0,.string ⟨#[]⟩,.slice none 0 0,.int .i64 (m.st.wall),.int .i64 (m.st.logic),.int .i64 (m.st.node),.int .i64 0,.slice none 0 0,.bool false,.int .i64 0,.int .i64 0,.int .i64 0,.int .i64 0,.slice none 0 0,.int .i64 (m.src),.int .i64 (m.total),.slice m.Ae m.es.length m.ce,.slice m.Ag m.rgs.length m.cg],.bool true])∧G w w':=by
 have hg:=(G.new w (.cells #[.int .i64 0,.int .i64 0,.int .i64 0,.int .i64 0,.string ⟨#[]⟩,.slice none 0 0,.int .i64 0,.int .i64 0,.int .i64 0,.int .i64 0,.slice none 0 0,.bool false,.int .i64 0,.int .i64 0,.int .i64 0,.int .i64 0,.slice none 0 0,.int .i64 0,.int .i64 0,.slice none 0 0,.slice none 0 0] 41)).alloc (.cells #[.int .i64 (m.src),.int .i64 (m.total),.slice m.Ae m.es.length m.ce,.int .i64 (m.st.wall),.int .i64 (m.st.logic),.int .i64 (m.st.node),.slice m.Ag m.rgs.length m.cg] 55)
 have BZ:=(G.new (w.alloc (.cells #[.int .i64 0,.int .i64 0,.int .i64 0,.int .i64 0,.string ⟨#[]⟩,.slice none 0 0,.int .i64 0,.int .i64 0,.int .i64 0,.int .i64 0,.slice none 0 0,.bool false,.int .i64 0,.int .i64 0,.int .i64 0,.int .i64 0,.slice none 0 0,.int .i64 0,.int .i64 0,.slice none 0 0,.slice none 0 0] 41)) (.cells #[.int .i64 (m.src),.int .i64 (m.total),.slice m.Ae m.es.length m.ce,.int .i64 (m.st.wall),.int .i64 (m.st.logic),.int .i64 (m.st.node),.slice m.Ag m.rgs.length m.cg] 55)).blk (blk_new w #[.int .i64 0,.int .i64 0,.int .i64 0,.int .i64 0,.string ⟨#[]⟩,.slice none 0 0,.int .i64 0,.int .i64 0,.int .i64 0,.int .i64 0,.slice none 0 0,.bool false,.int .i64 0,.int .i64 0,.int .i64 0,.int .i64 0,.slice none 0 0,.int .i64 0,.int .i64 0,.slice none 0 0,.slice none 0 0] 41)
 have BK:=blk_new' (w.alloc (.cells #[.int .i64 0,.int .i64 0,.int .i64 0,.int .i64 0,.string ⟨#[]⟩,.slice none 0 0,.int .i64 0,.int .i64 0,.int .i64 0,.int .i64 0,.slice none 0 0,.bool false,.int .i64 0,.int .i64 0,.int .i64 0,.int .i64 0,.slice none 0 0,.int .i64 0,.int .i64 0,.slice none 0 0,.slice none 0 0] 41)) #[.int .i64 (m.src),.int .i64 (m.total),.slice m.Ae m.es.length m.ce,.int .i64 (m.st.wall),.int .i64 (m.st.logic),.int .i64 (m.st.node),.slice m.Ag m.rgs.length m.cg] 55 (w.heap.size+1) (by simp)
 unfold MsgM.val9
 replace hg:=Lib.hid hg
 replace BZ:=Lib.hid BZ
 replace BK:=Lib.hid BK
 have a1:∀w,(Instr.typeAssert (.iface 55 (.agg #[.int .i64 (m.src),.int .i64 (m.total),.slice m.Ae m.es.length m.ce,.int .i64 (m.st.wall),.int .i64 (m.st.logic),.int .i64 (m.st.node),.slice m.Ag m.rgs.length m.cg])) 20 81 true).run Tryz.prog w=.ok (.tuple #[.agg #[.int .i64 0,.int .i64 0,.int .i64 0,.string ⟨#[]⟩,.slice none 0 0,.int .i64 0,.int .i64 0,.int .i64 0],.bool false]) w:=fun w=>by kernel_rfl
 have a2:∀w,(Instr.typeAssert (.iface 55 (.agg #[.int .i64 (m.src),.int .i64 (m.total),.slice m.Ae m.es.length m.ce,.int .i64 (m.st.wall),.int .i64 (m.st.logic),.int .i64 (m.st.node),.slice m.Ag m.rgs.length m.cg])) 20 83 true).run Tryz.prog w=.ok (.tuple #[.agg #[.int .i64 0,.int .i64 0,.int .i64 0,.int .i64 0,.int .i64 0,.int .i64 0,.int .i64 0,.slice none 0 0],.bool false]) w:=fun w=>by kernel_rfl
 have a3:∀w,(Instr.typeAssert (.iface 55 (.agg #[.int .i64 (m.src),.int .i64 (m.total),.slice m.Ae m.es.length m.ce,.int .i64 (m.st.wall),.int .i64 (m.st.logic),.int .i64 (m.st.node),.slice m.Ag m.rgs.length m.cg])) 20 85 true).run Tryz.prog w=.ok (.tuple #[.agg #[.int .i64 0,.int .i64 0,.int .i64 0,.bool false,.int .i64 0,.int .i64 0,.int .i64 0],.bool false]) w:=fun w=>by kernel_rfl
 have a4:∀w,(Instr.typeAssert (.iface 55 (.agg #[.int .i64 (m.src),.int .i64 (m.total),.slice m.Ae m.es.length m.ce,.int .i64 (m.st.wall),.int .i64 (m.st.logic),.int .i64 (m.st.node),.slice m.Ag m.rgs.length m.cg])) 20 52 true).run Tryz.prog w=.ok (.tuple #[.agg #[.int .i64 0,.int .i64 0,.int .i64 0],.bool false]) w:=fun w=>by kernel_rfl
 have a5:∀w,(Instr.typeAssert (.iface 55 (.agg #[.int .i64 (m.src),.int .i64 (m.total),.slice m.Ae m.es.length m.ce,.int .i64 (m.st.wall),.int .i64 (m.st.logic),.int .i64 (m.st.node),.slice m.Ag m.rgs.length m.cg])) 20 87 true).run Tryz.prog w=.ok (.tuple #[.agg #[.int .i64 0,.int .i64 0,.int .i64 0,.int .i64 0,.int .i64 0,.int .i64 0,.slice none 0 0],.bool false]) w:=fun w=>by kernel_rfl
 have a6:∀w,(Instr.typeAssert (.iface 55 (.agg #[.int .i64 (m.src),.int .i64 (m.total),.slice m.Ae m.es.length m.ce,.int .i64 (m.st.wall),.int .i64 (m.st.logic),.int .i64 (m.st.node),.slice m.Ag m.rgs.length m.cg])) 20 89 true).run Tryz.prog w=.ok (.tuple #[.agg #[.int .i64 0,.int .i64 0,.int .i64 0,.int .i64 0,.int .i64 0,.int .i64 0,.int .i64 0,.slice none 0 0],.bool false]) w:=fun w=>by kernel_rfl
 have a7:∀w,(Instr.typeAssert (.iface 55 (.agg #[.int .i64 (m.src),.int .i64 (m.total),.slice m.Ae m.es.length m.ce,.int .i64 (m.st.wall),.int .i64 (m.st.logic),.int .i64 (m.st.node),.slice m.Ag m.rgs.length m.cg])) 20 91 true).run Tryz.prog w=.ok (.tuple #[.agg #[.int .i64 0,.int .i64 0,.int .i64 0,.int .i64 0],.bool false]) w:=fun w=>by kernel_rfl
 have a8:∀w,(Instr.typeAssert (.iface 55 (.agg #[.int .i64 (m.src),.int .i64 (m.total),.slice m.Ae m.es.length m.ce,.int .i64 (m.st.wall),.int .i64 (m.st.logic),.int .i64 (m.st.node),.slice m.Ag m.rgs.length m.cg])) 20 93 true).run Tryz.prog w=.ok (.tuple #[.agg #[.int .i64 0],.bool false]) w:=fun w=>by kernel_rfl
 have a9:∀w,(Instr.typeAssert (.iface 55 (.agg #[.int .i64 (m.src),.int .i64 (m.total),.slice m.Ae m.es.length m.ce,.int .i64 (m.st.wall),.int .i64 (m.st.logic),.int .i64 (m.st.node),.slice m.Ag m.rgs.length m.cg])) 20 55 true).run Tryz.prog w=.ok (.tuple #[.agg #[.int .i64 (m.src),.int .i64 (m.total),.slice m.Ae m.es.length m.ce,.int .i64 (m.st.wall),.int .i64 (m.st.logic),.int .i64 (m.st.node),.slice m.Ag m.rgs.length m.cg],.bool true]) w:=fun w=>by kernel_rfl
 go_enter Tryz.func7,Tryz.ntmps7
 go_upto_region 28 with fail
 generalize (w.alloc (.cells #[.int .i64 0,.int .i64 0,.int .i64 0,.int .i64 0,.string ⟨#[]⟩,.slice none 0 0,.int .i64 0,.int .i64 0,.int .i64 0,.int .i64 0,.slice none 0 0,.bool false,.int .i64 0,.int .i64 0,.int .i64 0,.int .i64 0,.slice none 0 0,.int .i64 0,.int .i64 0,.slice none 0 0,.slice none 0 0] 41)).alloc (.cells #[.int .i64 (m.src),.int .i64 (m.total),.slice m.Ae m.es.length m.ce,.int .i64 (m.st.wall),.int .i64 (m.st.logic),.int .i64 (m.st.node),.slice m.Ag m.rgs.length m.cg] 55)=W0 at *
 clear a1 a2 a3 a4 a5 a6 a7 a8 a9
 have q0:=(blk_cell BK.out 0).trans (show _=some (.int .i64 (m.src)) from rfl)
 have q1:=(blk_cell BK.out 1).trans (show _=some (.int .i64 (m.total)) from rfl)
 have q2:=(blk_cell BK.out 2).trans (show _=some (.slice m.Ae m.es.length m.ce) from rfl)
 have q3:=(blk_cell BK.out 3).trans (show _=some (.int .i64 (m.st.wall)) from rfl)
 have q4:=(blk_cell BK.out 4).trans (show _=some (.int .i64 (m.st.logic)) from rfl)
 have q5:=(blk_cell BK.out 5).trans (show _=some (.int .i64 (m.st.node)) from rfl)
 have q6:=(blk_cell BK.out 6).trans (show _=some (.slice m.Ag m.rgs.length m.cg) from rfl)
 obtain ⟨W1,SR1,C1,hb1,hG1⟩:=store_blk (P:=Tryz.prog) (T:=41) (cs:=#[.int .i64 9,.int .i64 0,.int .i64 0,.int .i64 0,.string ⟨#[]⟩,.slice none 0 0,.int .i64 (m.st.wall),.int .i64 (m.st.logic),.int .i64 (m.st.node),.int .i64 0,.slice none 0 0,.bool false,.int .i64 0,.int .i64 0,.int .i64 0,.int .i64 0,.slice none 0 0,.int .i64 (m.src),.int .i64 (m.total),.slice m.Ae m.es.length m.ce,.slice m.Ag m.rgs.length m.cg]) BZ.out rfl (by kernel_rfl) (by kernel_rfl)
 have hg1:=hG1 w hg.out (Nat.le_refl _)
 replace C1:=Lib.hid C1
 replace hg1:=Lib.hid hg1
 clear hb1 hG1
 go_wp2_with (refine wpList_store_at (ty:=41) rfl (by kernel_rfl) (p:=.pointer (some ⟨w.heap.size,0,none⟩)) rfl rfl SR1 ?_;clear SR1)
 refine bodyPost_ret (v:=.tuple #[.agg #[.int .i64 9,.int .i64 0,.int .i64 0,.int .i64 0,.string ⟨#[]⟩,.slice none 0 0,.int .i64 (m.st.wall),.int .i64 (m.st.logic),.int .i64 (m.st.node),.int .i64 0,.slice none 0 0,.bool false,.int .i64 0,.int .i64 0,.int .i64 0,.int .i64 0,.slice none 0 0,.int .i64 (m.src),.int .i64 (m.total),.slice m.Ae m.es.length m.ce,.slice m.Ag m.rgs.length m.cg],.bool true]) (results_cell2 (i:=2) (j:=3) rfl rfl rfl C1.out Tryz.underlying41 rfl (by kernel_rfl)) rfl ?_
 exact ⟨rfl,hg1.out⟩
theorem flat_any (m:MsgM) (w:World) (hk:kOk m.kind=true):Calls Tryz.prog 7 #[m.iface] w fun e w'=>e=.returned (.tuple #[.agg m.only.cells,.bool true])∧G w w':=by
 have h0:1≤m.kind∧m.kind≤9:=of_decide_eq_true hk
 have tab:m.kind=1∨m.kind=2∨m.kind=3∨m.kind=4∨m.kind=5∨m.kind=6∨m.kind=7∨m.kind=8∨m.kind=9:=by omega
 rcases tab with h | h | h | h | h | h | h | h | h
 ·have h1:=flat1_any m w
  rw [MsgM.iface_1 h,MsgM.only_1 h]
  unfold MsgM.o1 MsgM.zero MsgM.cells
  rw [h]
  exact h1
 ·have h1:=flat2_any m w
  rw [MsgM.iface_2 h,MsgM.only_2 h]
  unfold MsgM.o2 MsgM.zero MsgM.cells
  rw [h]
  exact h1
 ·have h1:=flat3_any m w
  rw [MsgM.iface_3 h,MsgM.only_3 h]
  unfold MsgM.o3 MsgM.zero MsgM.cells
  rw [h]
  exact h1
 ·have h1:=flat4_any m w
  rw [MsgM.iface_4 h,MsgM.only_4 h]
  unfold MsgM.o4 MsgM.zero MsgM.cells
  rw [h]
  exact h1
 ·have h1:=flat5_any m w
  rw [MsgM.iface_5 h,MsgM.only_5 h]
  unfold MsgM.o5 MsgM.zero MsgM.cells
  rw [h]
  exact h1
 ·have h1:=flat6_any m w
  rw [MsgM.iface_6 h,MsgM.only_6 h]
  unfold MsgM.o6 MsgM.zero MsgM.cells
  rw [h]
  exact h1
 ·have h1:=flat7_any m w
  rw [MsgM.iface_7 h,MsgM.only_7 h]
  unfold MsgM.o7 MsgM.zero MsgM.cells
  rw [h]
  exact h1
 ·have h1:=flat8_any m w
  rw [MsgM.iface_8 h,MsgM.only_8 h]
  unfold MsgM.o8 MsgM.zero MsgM.cells
  rw [h]
  exact h1
 ·have h1:=flat9_any m w
  rw [MsgM.iface_9 h,MsgM.only_9 h]
  unfold MsgM.o9 MsgM.zero MsgM.cells
  rw [h]
  exact h1
end Go.Proofs.YtheogchkelmeeaaGreatDoor

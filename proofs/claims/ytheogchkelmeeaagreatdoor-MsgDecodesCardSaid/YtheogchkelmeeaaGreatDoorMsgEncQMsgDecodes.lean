/- msg.Kind, Encode, Check, Name: what they answer. Conditions: lengths that an append bears; the decoder's tables lie as the library lays them. -/
import Derived.Test.YtheogchkelmeeaaGreatDoorMsgMsgQMsgDecodes
namespace Go.Proofs.YtheogchkelmeeaaGreatDoor
open Go.RowKit
def codeM (no:Int) (o:Option (List UInt8)):Int:=match o with
 | none=>no
 | some _=>0
def RetM (no:Int) (w:World) (o:Option (List UInt8)) (e:Ending) (w':World):Prop:=∃A c,e=.returned (.tuple #[.slice A (o.getD []).length c,.int .i64 (codeM no o)])∧OwnL 5 1 byteC w' w.heap.size (.slice A (o.getD []).length c) (o.getD [])∧G w w'
set_option maxRecDepth 100000 in
theorem kind1_any (v:Value) (w:World):Calls Tryz.prog 10 #[.iface 81 v] w fun e w'=>e=.returned (.int .i64 1)∧G w w':=by
 have a1:∀w,(Instr.typeAssert (.iface 81 v) 20 81 true).run Tryz.prog w=.ok (.tuple #[v,.bool true]) w:=fun w=>by kernel_rfl
 go_enter Tryz.func10,Tryz.ntmps10
 go_wp2_with fail
 go_ret
 exact ⟨rfl,G.refl _⟩
set_option maxRecDepth 100000 in
theorem kind2_any (v:Value) (w:World):Calls Tryz.prog 10 #[.iface 83 v] w fun e w'=>e=.returned (.int .i64 2)∧G w w':=by
 have a1:∀w,(Instr.typeAssert (.iface 83 v) 20 81 true).run Tryz.prog w=.ok (.tuple #[.agg #[.int .i64 0,.int .i64 0,.int .i64 0,.string ⟨#[]⟩,.slice none 0 0,.int .i64 0,.int .i64 0,.int .i64 0],.bool false]) w:=fun w=>by kernel_rfl
 have a2:∀w,(Instr.typeAssert (.iface 83 v) 20 83 true).run Tryz.prog w=.ok (.tuple #[v,.bool true]) w:=fun w=>by kernel_rfl
 go_enter Tryz.func10,Tryz.ntmps10
 go_wp2_with fail
 go_ret
 exact ⟨rfl,G.refl _⟩
set_option maxRecDepth 100000 in
theorem kind3_any (v:Value) (w:World):Calls Tryz.prog 10 #[.iface 85 v] w fun e w'=>e=.returned (.int .i64 3)∧G w w':=by
 have a1:∀w,(Instr.typeAssert (.iface 85 v) 20 81 true).run Tryz.prog w=.ok (.tuple #[.agg #[.int .i64 0,.int .i64 0,.int .i64 0,.string ⟨#[]⟩,.slice none 0 0,.int .i64 0,.int .i64 0,.int .i64 0],.bool false]) w:=fun w=>by kernel_rfl
 have a2:∀w,(Instr.typeAssert (.iface 85 v) 20 83 true).run Tryz.prog w=.ok (.tuple #[.agg #[.int .i64 0,.int .i64 0,.int .i64 0,.int .i64 0,.int .i64 0,.int .i64 0,.int .i64 0,.slice none 0 0],.bool false]) w:=fun w=>by kernel_rfl
 have a3:∀w,(Instr.typeAssert (.iface 85 v) 20 85 true).run Tryz.prog w=.ok (.tuple #[v,.bool true]) w:=fun w=>by kernel_rfl
 go_enter Tryz.func10,Tryz.ntmps10
 go_wp2_with fail
 go_ret
 exact ⟨rfl,G.refl _⟩
set_option maxRecDepth 100000 in
theorem kind4_any (v:Value) (w:World):Calls Tryz.prog 10 #[.iface 52 v] w fun e w'=>e=.returned (.int .i64 4)∧G w w':=by
 have a1:∀w,(Instr.typeAssert (.iface 52 v) 20 81 true).run Tryz.prog w=.ok (.tuple #[.agg #[.int .i64 0,.int .i64 0,.int .i64 0,.string ⟨#[]⟩,.slice none 0 0,.int .i64 0,.int .i64 0,.int .i64 0],.bool false]) w:=fun w=>by kernel_rfl
 have a2:∀w,(Instr.typeAssert (.iface 52 v) 20 83 true).run Tryz.prog w=.ok (.tuple #[.agg #[.int .i64 0,.int .i64 0,.int .i64 0,.int .i64 0,.int .i64 0,.int .i64 0,.int .i64 0,.slice none 0 0],.bool false]) w:=fun w=>by kernel_rfl
 have a3:∀w,(Instr.typeAssert (.iface 52 v) 20 85 true).run Tryz.prog w=.ok (.tuple #[.agg #[.int .i64 0,.int .i64 0,.int .i64 0,.bool false,.int .i64 0,.int .i64 0,.int .i64 0],.bool false]) w:=fun w=>by kernel_rfl
 have a4:∀w,(Instr.typeAssert (.iface 52 v) 20 52 true).run Tryz.prog w=.ok (.tuple #[v,.bool true]) w:=fun w=>by kernel_rfl
 go_enter Tryz.func10,Tryz.ntmps10
 go_wp2_with fail
 go_ret
 exact ⟨rfl,G.refl _⟩
set_option maxRecDepth 100000 in
theorem kind5_any (v:Value) (w:World):Calls Tryz.prog 10 #[.iface 87 v] w fun e w'=>e=.returned (.int .i64 5)∧G w w':=by
 have a1:∀w,(Instr.typeAssert (.iface 87 v) 20 81 true).run Tryz.prog w=.ok (.tuple #[.agg #[.int .i64 0,.int .i64 0,.int .i64 0,.string ⟨#[]⟩,.slice none 0 0,.int .i64 0,.int .i64 0,.int .i64 0],.bool false]) w:=fun w=>by kernel_rfl
 have a2:∀w,(Instr.typeAssert (.iface 87 v) 20 83 true).run Tryz.prog w=.ok (.tuple #[.agg #[.int .i64 0,.int .i64 0,.int .i64 0,.int .i64 0,.int .i64 0,.int .i64 0,.int .i64 0,.slice none 0 0],.bool false]) w:=fun w=>by kernel_rfl
 have a3:∀w,(Instr.typeAssert (.iface 87 v) 20 85 true).run Tryz.prog w=.ok (.tuple #[.agg #[.int .i64 0,.int .i64 0,.int .i64 0,.bool false,.int .i64 0,.int .i64 0,.int .i64 0],.bool false]) w:=fun w=>by kernel_rfl
 have a4:∀w,(Instr.typeAssert (.iface 87 v) 20 52 true).run Tryz.prog w=.ok (.tuple #[.agg #[.int .i64 0,.int .i64 0,.int .i64 0],.bool false]) w:=fun w=>by kernel_rfl
 have a5:∀w,(Instr.typeAssert (.iface 87 v) 20 87 true).run Tryz.prog w=.ok (.tuple #[v,.bool true]) w:=fun w=>by kernel_rfl
 go_enter Tryz.func10,Tryz.ntmps10
 go_wp2_with fail
 go_ret
 exact ⟨rfl,G.refl _⟩
set_option maxRecDepth 100000 in
theorem kind6_any (v:Value) (w:World):Calls Tryz.prog 10 #[.iface 89 v] w fun e w'=>e=.returned (.int .i64 6)∧G w w':=by
 have a1:∀w,(Instr.typeAssert (.iface 89 v) 20 81 true).run Tryz.prog w=.ok (.tuple #[.agg #[.int .i64 0,.int .i64 0,.int .i64 0,.string ⟨#[]⟩,.slice none 0 0,.int .i64 0,.int .i64 0,.int .i64 0],.bool false]) w:=fun w=>by kernel_rfl
 have a2:∀w,(Instr.typeAssert (.iface 89 v) 20 83 true).run Tryz.prog w=.ok (.tuple #[.agg #[.int .i64 0,.int .i64 0,.int .i64 0,.int .i64 0,.int .i64 0,.int .i64 0,.int .i64 0,.slice none 0 0],.bool false]) w:=fun w=>by kernel_rfl
 have a3:∀w,(Instr.typeAssert (.iface 89 v) 20 85 true).run Tryz.prog w=.ok (.tuple #[.agg #[.int .i64 0,.int .i64 0,.int .i64 0,.bool false,.int .i64 0,.int .i64 0,.int .i64 0],.bool false]) w:=fun w=>by kernel_rfl
 have a4:∀w,(Instr.typeAssert (.iface 89 v) 20 52 true).run Tryz.prog w=.ok (.tuple #[.agg #[.int .i64 0,.int .i64 0,.int .i64 0],.bool false]) w:=fun w=>by kernel_rfl
 have a5:∀w,(Instr.typeAssert (.iface 89 v) 20 87 true).run Tryz.prog w=.ok (.tuple #[.agg #[.int .i64 0,.int .i64 0,.int .i64 0,.int .i64 0,.int .i64 0,.int .i64 0,.slice none 0 0],.bool false]) w:=fun w=>by kernel_rfl
 have a6:∀w,(Instr.typeAssert (.iface 89 v) 20 89 true).run Tryz.prog w=.ok (.tuple #[v,.bool true]) w:=fun w=>by kernel_rfl
 go_enter Tryz.func10,Tryz.ntmps10
 go_wp2_with fail
 go_ret
 exact ⟨rfl,G.refl _⟩
set_option maxRecDepth 100000 in
theorem kind7_any (v:Value) (w:World):Calls Tryz.prog 10 #[.iface 91 v] w fun e w'=>e=.returned (.int .i64 7)∧G w w':=by
 have a1:∀w,(Instr.typeAssert (.iface 91 v) 20 81 true).run Tryz.prog w=.ok (.tuple #[.agg #[.int .i64 0,.int .i64 0,.int .i64 0,.string ⟨#[]⟩,.slice none 0 0,.int .i64 0,.int .i64 0,.int .i64 0],.bool false]) w:=fun w=>by kernel_rfl
 have a2:∀w,(Instr.typeAssert (.iface 91 v) 20 83 true).run Tryz.prog w=.ok (.tuple #[.agg #[.int .i64 0,.int .i64 0,.int .i64 0,.int .i64 0,.int .i64 0,.int .i64 0,.int .i64 0,.slice none 0 0],.bool false]) w:=fun w=>by kernel_rfl
 have a3:∀w,(Instr.typeAssert (.iface 91 v) 20 85 true).run Tryz.prog w=.ok (.tuple #[.agg #[.int .i64 0,.int .i64 0,.int .i64 0,.bool false,.int .i64 0,.int .i64 0,.int .i64 0],.bool false]) w:=fun w=>by kernel_rfl
 have a4:∀w,(Instr.typeAssert (.iface 91 v) 20 52 true).run Tryz.prog w=.ok (.tuple #[.agg #[.int .i64 0,.int .i64 0,.int .i64 0],.bool false]) w:=fun w=>by kernel_rfl
 have a5:∀w,(Instr.typeAssert (.iface 91 v) 20 87 true).run Tryz.prog w=.ok (.tuple #[.agg #[.int .i64 0,.int .i64 0,.int .i64 0,.int .i64 0,.int .i64 0,.int .i64 0,.slice none 0 0],.bool false]) w:=fun w=>by kernel_rfl
 have a6:∀w,(Instr.typeAssert (.iface 91 v) 20 89 true).run Tryz.prog w=.ok (.tuple #[.agg #[.int .i64 0,.int .i64 0,.int .i64 0,.int .i64 0,.int .i64 0,.int .i64 0,.int .i64 0,.slice none 0 0],.bool false]) w:=fun w=>by kernel_rfl
 have a7:∀w,(Instr.typeAssert (.iface 91 v) 20 91 true).run Tryz.prog w=.ok (.tuple #[v,.bool true]) w:=fun w=>by kernel_rfl
 go_enter Tryz.func10,Tryz.ntmps10
 go_wp2_with fail
 go_ret
 exact ⟨rfl,G.refl _⟩
set_option maxRecDepth 100000 in
theorem kind8_any (v:Value) (w:World):Calls Tryz.prog 10 #[.iface 93 v] w fun e w'=>e=.returned (.int .i64 8)∧G w w':=by
 have a1:∀w,(Instr.typeAssert (.iface 93 v) 20 81 true).run Tryz.prog w=.ok (.tuple #[.agg #[.int .i64 0,.int .i64 0,.int .i64 0,.string ⟨#[]⟩,.slice none 0 0,.int .i64 0,.int .i64 0,.int .i64 0],.bool false]) w:=fun w=>by kernel_rfl
 have a2:∀w,(Instr.typeAssert (.iface 93 v) 20 83 true).run Tryz.prog w=.ok (.tuple #[.agg #[.int .i64 0,.int .i64 0,.int .i64 0,.int .i64 0,.int .i64 0,.int .i64 0,.int .i64 0,.slice none 0 0],.bool false]) w:=fun w=>by kernel_rfl
 have a3:∀w,(Instr.typeAssert (.iface 93 v) 20 85 true).run Tryz.prog w=.ok (.tuple #[.agg #[.int .i64 0,.int .i64 0,.int .i64 0,.bool false,.int .i64 0,.int .i64 0,.int .i64 0],.bool false]) w:=fun w=>by kernel_rfl
 have a4:∀w,(Instr.typeAssert (.iface 93 v) 20 52 true).run Tryz.prog w=.ok (.tuple #[.agg #[.int .i64 0,.int .i64 0,.int .i64 0],.bool false]) w:=fun w=>by kernel_rfl
 have a5:∀w,(Instr.typeAssert (.iface 93 v) 20 87 true).run Tryz.prog w=.ok (.tuple #[.agg #[.int .i64 0,.int .i64 0,.int .i64 0,.int .i64 0,.int .i64 0,.int .i64 0,.slice none 0 0],.bool false]) w:=fun w=>by kernel_rfl
 have a6:∀w,(Instr.typeAssert (.iface 93 v) 20 89 true).run Tryz.prog w=.ok (.tuple #[.agg #[.int .i64 0,.int .i64 0,.int .i64 0,.int .i64 0,.int .i64 0,.int .i64 0,.int .i64 0,.slice none 0 0],.bool false]) w:=fun w=>by kernel_rfl
 have a7:∀w,(Instr.typeAssert (.iface 93 v) 20 91 true).run Tryz.prog w=.ok (.tuple #[.agg #[.int .i64 0,.int .i64 0,.int .i64 0,.int .i64 0],.bool false]) w:=fun w=>by kernel_rfl
 have a8:∀w,(Instr.typeAssert (.iface 93 v) 20 93 true).run Tryz.prog w=.ok (.tuple #[v,.bool true]) w:=fun w=>by kernel_rfl
 go_enter Tryz.func10,Tryz.ntmps10
 go_wp2_with fail
 go_ret
 exact ⟨rfl,G.refl _⟩
set_option maxRecDepth 100000 in
theorem kind9_any (v:Value) (w:World):Calls Tryz.prog 10 #[.iface 55 v] w fun e w'=>e=.returned (.int .i64 9)∧G w w':=by
 have a1:∀w,(Instr.typeAssert (.iface 55 v) 20 81 true).run Tryz.prog w=.ok (.tuple #[.agg #[.int .i64 0,.int .i64 0,.int .i64 0,.string ⟨#[]⟩,.slice none 0 0,.int .i64 0,.int .i64 0,.int .i64 0],.bool false]) w:=fun w=>by kernel_rfl
 have a2:∀w,(Instr.typeAssert (.iface 55 v) 20 83 true).run Tryz.prog w=.ok (.tuple #[.agg #[.int .i64 0,.int .i64 0,.int .i64 0,.int .i64 0,.int .i64 0,.int .i64 0,.int .i64 0,.slice none 0 0],.bool false]) w:=fun w=>by kernel_rfl
 have a3:∀w,(Instr.typeAssert (.iface 55 v) 20 85 true).run Tryz.prog w=.ok (.tuple #[.agg #[.int .i64 0,.int .i64 0,.int .i64 0,.bool false,.int .i64 0,.int .i64 0,.int .i64 0],.bool false]) w:=fun w=>by kernel_rfl
 have a4:∀w,(Instr.typeAssert (.iface 55 v) 20 52 true).run Tryz.prog w=.ok (.tuple #[.agg #[.int .i64 0,.int .i64 0,.int .i64 0],.bool false]) w:=fun w=>by kernel_rfl
 have a5:∀w,(Instr.typeAssert (.iface 55 v) 20 87 true).run Tryz.prog w=.ok (.tuple #[.agg #[.int .i64 0,.int .i64 0,.int .i64 0,.int .i64 0,.int .i64 0,.int .i64 0,.slice none 0 0],.bool false]) w:=fun w=>by kernel_rfl
 have a6:∀w,(Instr.typeAssert (.iface 55 v) 20 89 true).run Tryz.prog w=.ok (.tuple #[.agg #[.int .i64 0,.int .i64 0,.int .i64 0,.int .i64 0,.int .i64 0,.int .i64 0,.int .i64 0,.slice none 0 0],.bool false]) w:=fun w=>by kernel_rfl
 have a7:∀w,(Instr.typeAssert (.iface 55 v) 20 91 true).run Tryz.prog w=.ok (.tuple #[.agg #[.int .i64 0,.int .i64 0,.int .i64 0,.int .i64 0],.bool false]) w:=fun w=>by kernel_rfl
 have a8:∀w,(Instr.typeAssert (.iface 55 v) 20 93 true).run Tryz.prog w=.ok (.tuple #[.agg #[.int .i64 0],.bool false]) w:=fun w=>by kernel_rfl
 have a9:∀w,(Instr.typeAssert (.iface 55 v) 20 55 true).run Tryz.prog w=.ok (.tuple #[v,.bool true]) w:=fun w=>by kernel_rfl
 go_enter Tryz.func10,Tryz.ntmps10
 go_wp2_with fail
 go_ret
 exact ⟨rfl,G.refl _⟩
set_option maxRecDepth 100000 in
theorem kindNil_any (w:World):Calls Tryz.prog 10 #[.nilIface] w fun e w'=>e=.returned (.int .i64 0)∧G w w':=by
 have a1:∀w,(Instr.typeAssert .nilIface 20 81 true).run Tryz.prog w=.ok (.tuple #[.agg #[.int .i64 0,.int .i64 0,.int .i64 0,.string ⟨#[]⟩,.slice none 0 0,.int .i64 0,.int .i64 0,.int .i64 0],.bool false]) w:=fun w=>by kernel_rfl
 have a2:∀w,(Instr.typeAssert .nilIface 20 83 true).run Tryz.prog w=.ok (.tuple #[.agg #[.int .i64 0,.int .i64 0,.int .i64 0,.int .i64 0,.int .i64 0,.int .i64 0,.int .i64 0,.slice none 0 0],.bool false]) w:=fun w=>by kernel_rfl
 have a3:∀w,(Instr.typeAssert .nilIface 20 85 true).run Tryz.prog w=.ok (.tuple #[.agg #[.int .i64 0,.int .i64 0,.int .i64 0,.bool false,.int .i64 0,.int .i64 0,.int .i64 0],.bool false]) w:=fun w=>by kernel_rfl
 have a4:∀w,(Instr.typeAssert .nilIface 20 52 true).run Tryz.prog w=.ok (.tuple #[.agg #[.int .i64 0,.int .i64 0,.int .i64 0],.bool false]) w:=fun w=>by kernel_rfl
 have a5:∀w,(Instr.typeAssert .nilIface 20 87 true).run Tryz.prog w=.ok (.tuple #[.agg #[.int .i64 0,.int .i64 0,.int .i64 0,.int .i64 0,.int .i64 0,.int .i64 0,.slice none 0 0],.bool false]) w:=fun w=>by kernel_rfl
 have a6:∀w,(Instr.typeAssert .nilIface 20 89 true).run Tryz.prog w=.ok (.tuple #[.agg #[.int .i64 0,.int .i64 0,.int .i64 0,.int .i64 0,.int .i64 0,.int .i64 0,.int .i64 0,.slice none 0 0],.bool false]) w:=fun w=>by kernel_rfl
 have a7:∀w,(Instr.typeAssert .nilIface 20 91 true).run Tryz.prog w=.ok (.tuple #[.agg #[.int .i64 0,.int .i64 0,.int .i64 0,.int .i64 0],.bool false]) w:=fun w=>by kernel_rfl
 have a8:∀w,(Instr.typeAssert .nilIface 20 93 true).run Tryz.prog w=.ok (.tuple #[.agg #[.int .i64 0],.bool false]) w:=fun w=>by kernel_rfl
 have a9:∀w,(Instr.typeAssert .nilIface 20 55 true).run Tryz.prog w=.ok (.tuple #[.agg #[.int .i64 0,.int .i64 0,.slice none 0 0,.int .i64 0,.int .i64 0,.int .i64 0,.slice none 0 0],.bool false]) w:=fun w=>by kernel_rfl
 go_enter Tryz.func10,Tryz.ntmps10
 go_wp2_with fail
 go_ret
 exact ⟨rfl,G.refl _⟩
set_option maxRecDepth 100000 in
set_option maxHeartbeats 1000000 in
theorem msgEnc_no (v:Value) (w:World) (hk:∀w',Calls Tryz.prog 10 #[v] w' fun e w''=>e=.returned (.int .i64 0)∧G w' w''):Calls Tryz.prog 9 #[v] w (RetM 12 w none):=by
 replace hk:=Lib.hid hk
 go_enter Tryz.func9,Tryz.ntmps9
 go_wp2_with (go_at_call 10;(with_reducible refine Calls.mono (hk.out _) ?_);rintro e w1 ⟨rfl,hg1⟩)
 go_ret2
 exact ⟨none,0,rfl,OwnL.nil,hg1⟩
set_option maxRecDepth 100000 in
set_option maxHeartbeats 2000000 in
theorem msgEnc_of (v : Value) (k : Int) (hk : 1 ≤ k ∧ k ≤ 9) (o : Option (List UInt8)) (w : World) (hkind : ∀ w', Calls Tryz.prog 10 #[v] w' fun e w'' => e = .returned (.int .i64 k) ∧ G w' w'')
  (hmsg:∀(R base:Nat) (w':World),WrS 100 R base 1 (some [UInt8.ofNat k.toNat]) w'→base≤R→G w w'→w.heap.size≤base→Calls Tryz.prog 31 #[.pointer (some ⟨R,0,none⟩),v] w' (WrPost 100 R base (1+1030000000000) o w')) :
  Calls Tryz.prog 9 #[v] w (RetM 1 w o):=by
 have t0:(k == 0)=false:=by rw [beq_eq_false_iff_ne];omega
 have hwk:IntKind.u8.wrap k=k:=by
  obtain ⟨kn,rfl⟩:∃kn:Nat,k=kn:=⟨k.toNat,by omega⟩
  rw [wrap_u8]
  omega
 have hub:((UInt8.ofNat k.toNat).toNat:Int)=k:=by rw [UInt8.toNat_ofNat'];omega
 replace hkind:=Lib.hid hkind
 replace hmsg:=Lib.hid hmsg
 replace hk:=Lib.hid hk
 go_enter Tryz.func9,Tryz.ntmps9
 go_upto_region 4 with (go_at_call 10;(with_reducible refine Calls.mono (hkind.out _) ?_);rintro e w2 ⟨rfl,hg2⟩)
 go_upto_region 5 with fail
 clear hwk t0
 have hgw:=(G.new w2 (.cells #[.int .u8 k] 5)).alloc (.cells #[.slice (some ⟨w2.heap.size,0,none⟩) 1 1,.bool false] 100)
 have hY1:=(G.new (w2.alloc (.cells #[.int .u8 k] 5)) (.cells #[.slice (some ⟨w2.heap.size,0,none⟩) 1 1,.bool false] 100)).blk (blk_new w2 #[.int .u8 k] 5)
 have hY2:=blk_new' (w2.alloc (.cells #[.int .u8 k] 5)) #[.slice (some ⟨w2.heap.size,0,none⟩) 1 1,.bool false] 100 (w2.heap.size+1) (by simp)
 generalize (w2.alloc (.cells #[.int .u8 k] 5)).alloc (.cells #[.slice (some ⟨w2.heap.size,0,none⟩) 1 1,.bool false] 100)=W3 at *
 have hG3:=hg2.trans hgw
 have hzG:=hg2.size
 have hzR:=blk_lt hY2
 generalize w2.heap.size=base at *
 have hw3:WrS 100 (base+1) base 1 (some [UInt8.ofNat k.toNat]) W3:=⟨_,[UInt8.ofNat k.toNat],hY2,OwnL.made byteC_len [UInt8.ofNat k.toNat] hY1 (by simp only [List.flatMap_cons,List.flatMap_nil,byteC,hub];rfl) (Nat.le_refl _) (by simp),by simp,fun l' e=>by cases e;rfl⟩
 have hm:=hmsg.out (base+1) base W3 hw3 (by omega) hG3 hzG
 replace hm:=Lib.hid hm
 clear hw3 hY1 hY2 hgw hub hmsg hkind hg2
 go_upto_region 6 with (go_at_call 31;(with_reducible refine Calls.mono hm.out ?_);rintro e w5 ⟨rfl,hw5,hk5⟩)
 have hG5:=hk5.ge hG3 hzG
 have c1:=hw5.c1
 cases o with
 | none =>
  simp only [Option.isNone_none] at c1
  clear hm hk5 hw5
  go_wp2_with fail
  go_ret2
  exact ⟨none,0,rfl,OwnL.nil,hG5⟩
 | some l =>
  simp only [Option.isNone_some] at c1
  obtain ⟨A,c,h1,h2,h3⟩:=hw5.row
  have c0:=(blk_cell h1 0).trans (show _=some (.slice A l.length c) from rfl)
  replace h2:=Lib.hid h2
  clear hm hk5 hw5 h1 h3
  go_wp2_with fail
  go_ret2
  exact ⟨A,c,rfl,h2.out.mono hzG,hG5⟩
theorem RetM.code {no:Int} {w:World} {o:Option (List UInt8)} {e:Ending} {w':World} (h:RetM no w o e w'):∃v,e=.returned (.tuple #[v,.int .i64 (codeM no o)])∧G w w':=by
 obtain ⟨A,c,h1,_,h3⟩:=h
 exact ⟨_,h1,h3⟩
set_option maxRecDepth 100000 in
theorem msgCheck_of (v:Value) (no:Int) (o:Option (List UInt8)) (w:World) (h:Calls Tryz.prog 9 #[v] w (RetM no w o)):Calls Tryz.prog 15 #[v] w fun e w'=>e=.returned (.int .i64 (codeM no o))∧G w w':=by
 have h2:Calls Tryz.prog 9 #[v] w fun e w'=>∃u,e=.returned (.tuple #[u,.int .i64 (codeM no o)])∧G w w':=h.mono fun e w' h=>h.code
 replace h2:=Lib.hid h2
 clear h
 generalize codeM no o=cd at *
 go_enter Tryz.func15,Tryz.ntmps15
 go_wp2_with (go_at_call 9;(with_reducible refine Calls.mono h2.out ?_);rintro e w1 ⟨u,rfl,hg1⟩)
 go_ret
 exact ⟨rfl,hg1⟩
/-- The value of a message's own type. -/
def MsgM.iface (m:MsgM):Value:=if m.kind=1 then .iface 81 m.val1 else if m.kind=2 then .iface 83 m.val2 else if m.kind=3 then .iface 85 m.val3 else if m.kind=4 then .iface 52 m.val4 else if m.kind=5 then .iface 87 m.val5 else if m.kind=6 then .iface 89 m.val6 else if m.kind=7 then .iface 91 m.val7 else if m.kind=8 then .iface 93 m.val8 else if m.kind=9 then .iface 55 m.val9 else .nilIface
theorem MsgM.iface_1 {m:MsgM} (h:m.kind=1):m.iface=.iface 81 m.val1:=by unfold MsgM.iface;rw [if_pos h]
theorem MsgM.iface_2 {m:MsgM} (h:m.kind=2):m.iface=.iface 83 m.val2:=by unfold MsgM.iface;rw [if_neg (by omega),if_pos h]
theorem MsgM.iface_3 {m:MsgM} (h:m.kind=3):m.iface=.iface 85 m.val3:=by unfold MsgM.iface;rw [if_neg (by omega),if_neg (by omega),if_pos h]
theorem MsgM.iface_4 {m:MsgM} (h:m.kind=4):m.iface=.iface 52 m.val4:=by unfold MsgM.iface;rw [if_neg (by omega),if_neg (by omega),if_neg (by omega),if_pos h]
theorem MsgM.iface_5 {m:MsgM} (h:m.kind=5):m.iface=.iface 87 m.val5:=by unfold MsgM.iface;rw [if_neg (by omega),if_neg (by omega),if_neg (by omega),if_neg (by omega),if_pos h]
theorem MsgM.iface_6 {m:MsgM} (h:m.kind=6):m.iface=.iface 89 m.val6:=by unfold MsgM.iface;rw [if_neg (by omega),if_neg (by omega),if_neg (by omega),if_neg (by omega),if_neg (by omega),if_pos h]
theorem MsgM.iface_7 {m:MsgM} (h:m.kind=7):m.iface=.iface 91 m.val7:=by unfold MsgM.iface;rw [if_neg (by omega),if_neg (by omega),if_neg (by omega),if_neg (by omega),if_neg (by omega),if_neg (by omega),if_pos h]
theorem MsgM.iface_8 {m:MsgM} (h:m.kind=8):m.iface=.iface 93 m.val8:=by unfold MsgM.iface;rw [if_neg (by omega),if_neg (by omega),if_neg (by omega),if_neg (by omega),if_neg (by omega),if_neg (by omega),if_neg (by omega),if_pos h]
theorem MsgM.iface_9 {m:MsgM} (h:m.kind=9):m.iface=.iface 55 m.val9:=by unfold MsgM.iface;rw [if_neg (by omega),if_neg (by omega),if_neg (by omega),if_neg (by omega),if_neg (by omega),if_neg (by omega),if_neg (by omega),if_neg (by omega),if_pos h]
theorem msgKind_any (m:MsgM) (w:World) (hk:kOk m.kind=true):Calls Tryz.prog 10 #[m.iface] w fun e w'=>e=.returned (.int .i64 m.kind)∧G w w':=by
 rcases mkind_cases m.kind with h | h | h | h | h | h | h | h | h | h
 ·rw [MsgM.iface_1 h,h];exact kind1_any _ w
 ·rw [MsgM.iface_2 h,h];exact kind2_any _ w
 ·rw [MsgM.iface_3 h,h];exact kind3_any _ w
 ·rw [MsgM.iface_4 h,h];exact kind4_any _ w
 ·rw [MsgM.iface_5 h,h];exact kind5_any _ w
 ·rw [MsgM.iface_6 h,h];exact kind6_any _ w
 ·rw [MsgM.iface_7 h,h];exact kind7_any _ w
 ·rw [MsgM.iface_8 h,h];exact kind8_any _ w
 ·rw [MsgM.iface_9 h,h];exact kind9_any _ w
 ·rw [hk] at h;cases h
theorem msgEnc_any (m:MsgM) (w:World) (hk:kOk m.kind=true) (hin:m.In w) (hok:m.Small) (hT:Tabs w):Calls Tryz.prog 9 #[m.iface] w (RetM 1 w (encM m.only.p)):=by
 have hke:kOk m.only.p.kind=true:=by rw [show m.only.p.kind=m.only.kind from rfl,MsgM.only_kind];exact hk
 have hkk:=of_decide_eq_true hk
 unfold encM
 rw [if_pos hke,show m.only.p.kind=m.only.kind from rfl,MsgM.only_kind]
 refine msgEnc_of _ m.kind hkk _ w (fun w'=>msgKind_any m w' hk) (fun R base w' h1 h2 h3 h4=>?_)
 rcases mkind_cases m.kind with h | h | h | h | h | h | h | h | h | h
 ·have hm:=mMsg1_any m R base 1 _ w w' h1 h2 h3 h4 hin hok hT (by omega)
  rw [MsgM.iface_1 h,MsgM.only_1 h]
  unfold fieldsM
  rw [if_pos (show m.o1.p.kind=1 from h)]
  exact hm
 ·have hm:=mMsg2_any m R base 1 _ w w' h1 h2 h3 h4 hin hok hT (by omega)
  rw [MsgM.iface_2 h,MsgM.only_2 h]
  unfold fieldsM
  rw [if_neg (show ¬ m.o2.p.kind=1 from fun e=>by have:m.kind=1:=e;omega),if_pos (show m.o2.p.kind=2 from h)]
  exact hm
 ·have hm:=mMsg3_any m R base 1 _ w w' h1 h2 h3 h4 hin hok hT (by omega)
  rw [MsgM.iface_3 h,MsgM.only_3 h]
  unfold fieldsM
  rw [if_neg (show ¬ m.o3.p.kind=1 from fun e=>by have:m.kind=1:=e;omega),if_neg (show ¬ m.o3.p.kind=2 from fun e=>by have:m.kind=2:=e;omega),if_pos (show m.o3.p.kind=3 from h)]
  exact hm
 ·have hm:=mMsg4_any m R base 1 _ w w' h1 h2 h3 h4 hin hok hT (by omega)
  rw [MsgM.iface_4 h,MsgM.only_4 h]
  unfold fieldsM
  rw [if_neg (show ¬ m.o4.p.kind=1 from fun e=>by have:m.kind=1:=e;omega),if_neg (show ¬ m.o4.p.kind=2 from fun e=>by have:m.kind=2:=e;omega),if_neg (show ¬ m.o4.p.kind=3 from fun e=>by have:m.kind=3:=e;omega),if_pos (show m.o4.p.kind=4 from h)]
  exact hm
 ·have hm:=mMsg5_any m R base 1 _ w w' h1 h2 h3 h4 hin hok hT (by omega)
  rw [MsgM.iface_5 h,MsgM.only_5 h]
  unfold fieldsM
  rw [if_neg (show ¬ m.o5.p.kind=1 from fun e=>by have:m.kind=1:=e;omega),if_neg (show ¬ m.o5.p.kind=2 from fun e=>by have:m.kind=2:=e;omega),if_neg (show ¬ m.o5.p.kind=3 from fun e=>by have:m.kind=3:=e;omega),if_neg (show ¬ m.o5.p.kind=4 from fun e=>by have:m.kind=4:=e;omega),if_pos (show m.o5.p.kind=5 from h)]
  exact hm
 ·have hm:=mMsg6_any m R base 1 _ w w' h1 h2 h3 h4 hin hok hT (by omega)
  rw [MsgM.iface_6 h,MsgM.only_6 h]
  unfold fieldsM
  rw [if_neg (show ¬ m.o6.p.kind=1 from fun e=>by have:m.kind=1:=e;omega),if_neg (show ¬ m.o6.p.kind=2 from fun e=>by have:m.kind=2:=e;omega),if_neg (show ¬ m.o6.p.kind=3 from fun e=>by have:m.kind=3:=e;omega),if_neg (show ¬ m.o6.p.kind=4 from fun e=>by have:m.kind=4:=e;omega),if_neg (show ¬ m.o6.p.kind=5 from fun e=>by have:m.kind=5:=e;omega),if_pos (show m.o6.p.kind=6 from h)]
  rw [show m.o6.p.sms.length=m.sms.length from List.length_map ..]
  exact hm
 ·have hm:=mMsg7_any m R base 1 _ w w' h1 h2 h3 h4 hin hok hT (by omega)
  rw [MsgM.iface_7 h,MsgM.only_7 h]
  unfold fieldsM
  rw [if_neg (show ¬ m.o7.p.kind=1 from fun e=>by have:m.kind=1:=e;omega),if_neg (show ¬ m.o7.p.kind=2 from fun e=>by have:m.kind=2:=e;omega),if_neg (show ¬ m.o7.p.kind=3 from fun e=>by have:m.kind=3:=e;omega),if_neg (show ¬ m.o7.p.kind=4 from fun e=>by have:m.kind=4:=e;omega),if_neg (show ¬ m.o7.p.kind=5 from fun e=>by have:m.kind=5:=e;omega),if_neg (show ¬ m.o7.p.kind=6 from fun e=>by have:m.kind=6:=e;omega),if_pos (show m.o7.p.kind=7 from h)]
  exact hm
 ·have hm:=mMsg8_any m R base 1 _ w w' h1 h2 h3 h4 hin hok hT (by omega)
  rw [MsgM.iface_8 h,MsgM.only_8 h]
  unfold fieldsM
  rw [if_neg (show ¬ m.o8.p.kind=1 from fun e=>by have:m.kind=1:=e;omega),if_neg (show ¬ m.o8.p.kind=2 from fun e=>by have:m.kind=2:=e;omega),if_neg (show ¬ m.o8.p.kind=3 from fun e=>by have:m.kind=3:=e;omega),if_neg (show ¬ m.o8.p.kind=4 from fun e=>by have:m.kind=4:=e;omega),if_neg (show ¬ m.o8.p.kind=5 from fun e=>by have:m.kind=5:=e;omega),if_neg (show ¬ m.o8.p.kind=6 from fun e=>by have:m.kind=6:=e;omega),if_neg (show ¬ m.o8.p.kind=7 from fun e=>by have:m.kind=7:=e;omega),if_pos (show m.o8.p.kind=8 from h)]
  exact hm
 ·have hm:=mMsg9_any m R base 1 _ w w' h1 h2 h3 h4 hin hok hT (by omega)
  rw [MsgM.iface_9 h,MsgM.only_9 h]
  unfold fieldsM
  rw [if_neg (show ¬ m.o9.p.kind=1 from fun e=>by have:m.kind=1:=e;omega),if_neg (show ¬ m.o9.p.kind=2 from fun e=>by have:m.kind=2:=e;omega),if_neg (show ¬ m.o9.p.kind=3 from fun e=>by have:m.kind=3:=e;omega),if_neg (show ¬ m.o9.p.kind=4 from fun e=>by have:m.kind=4:=e;omega),if_neg (show ¬ m.o9.p.kind=5 from fun e=>by have:m.kind=5:=e;omega),if_neg (show ¬ m.o9.p.kind=6 from fun e=>by have:m.kind=6:=e;omega),if_neg (show ¬ m.o9.p.kind=7 from fun e=>by have:m.kind=7:=e;omega),if_neg (show ¬ m.o9.p.kind=8 from fun e=>by have:m.kind=8:=e;omega)]
  exact hm
 ·rw [hk] at h;cases h
theorem msgCheck_any (m:MsgM) (w:World) (hk:kOk m.kind=true) (hin:m.In w) (hok:m.Small) (hT:Tabs w):Calls Tryz.prog 15 #[m.iface] w fun e w'=>e=.returned (.int .i64 (codeM 1 (encM m.only.p)))∧G w w':=msgCheck_of _ 1 _ w (msgEnc_any m w hk hin hok hT)
end Go.Proofs.YtheogchkelmeeaaGreatDoor

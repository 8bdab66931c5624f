/- penstockref10.Encode, kinds 1, 2, 3, 4: what it answers of a message that may be. Conditions: lengths as told; the decoder's tables lie as the library lays them. -/
import Derived.Test.YtheogchkelmeeaaGreatDoorM43MsgDecodes
namespace Go.Proofs.YtheogchkelmeeaaGreatDoor
open Go.RowKit
set_option maxRecDepth 100000 in
set_option maxHeartbeats 4000000 in
theorem refMEnc_1 (r:MsgM) (w:World) (hin:r.In w) (hok:r.Small) (hT:Tabs w) (hk:r.kind=1) (hc:chkM r.p=true):Calls Tryz.prog 25 #[.agg r.cells] w (RetM 1 w (some (docM r.p))):=by
 have hdoc:docM r.p=((([UInt8.ofNat r.kind.toNat])++nLs [r.x1,r.x2,r.x3])++batL r.key (r.ps.map PutM.p))++stL r.st:=by
  have h0:r.p.kind=1:=hk
  unfold docM
  simp only [h0,hk]
  rfl
 rw [hdoc]
 obtain ⟨m0,hm0⟩:∃m,[UInt8.ofNat r.kind.toNat]=m:=⟨_,rfl⟩
 rw [hm0]
 have hl0:m0.length=1:=by rw [←hm0];rfl
 have fn:=mfine_of hc
 have hste:=stE_ok fn.st
 have hbl:=hok.bat
 obtain ⟨m1,hm1⟩:∃m,m0++nLs [r.x1,r.x2,r.x3]=m:=⟨_,rfl⟩
 rw [hm1]
 have hl1:m1.length≤31:=by rw [←hm1,List.length_append];have h1:=nLs_len [r.x1,r.x2,r.x3];rw [show [r.x1,r.x2,r.x3].length=3 from rfl] at h1;omega
 obtain ⟨m2,hm2⟩:∃m,m1++batL r.key (r.ps.map PutM.p)=m:=⟨_,rfl⟩
 rw [hm2]
 have hl2:m2.length≤500031:=by rw [←hm2,List.length_append];have h1:=hbl;omega
 obtain ⟨m3,hm3⟩:∃m,m2++stL r.st=m:=⟨_,rfl⟩
 rw [hm3]
 have hl3:m3.length≤500061:=by rw [←hm3,List.length_append];have h1:=stL_len r.st;omega
 have hg0:=G.new w (.cells r.cells 41)
 have hB0:=blk_new w r.cells 41
 have LR:=load_blk (P:=Tryz.prog) (T:=41) hB0 Tryz.underlying41 rfl (by kernel_rfl)
 have hck:Calls Tryz.prog 50 #[.agg r.cells] (w.alloc (.cells r.cells 41)) fun e w'=>e=.returned (.int .i64 0)∧G (w.alloc (.cells r.cells 41)) w':=by
  have:=refMChk_any r _ (hin.g hg0) hok (hT.g hg0)
  rw [show chkC r=0 from by unfold chkC;rw [if_neg (by rw [hk];decide),if_pos hc]] at this
  exact this
 have hkw:IntKind.u8.wrap r.kind=r.kind:=by rw [hk];rfl
 have hub:((UInt8.ofNat r.kind.toNat).toNat:Int)=r.kind:=by rw [hk];rfl
 have e1:(r.kind == 1)=true:=by rw [hk];rfl
 have hst:∀w',Calls Tryz.prog 51 #[.agg #[.int .i64 r.st.wall,.int .i64 r.st.logic,.int .i64 r.st.node]] w' (RetBytes w' (stE r.st)):=fun w'=>refStEnc_any r.st w'
 rw [hste] at hst
 obtain ⟨sl,hsl⟩:∃l,stL r.st=l:=⟨_,rfl⟩
 obtain ⟨bl,hbl2⟩:∃l,batL r.key (r.ps.map PutM.p)=l:=⟨_,rfl⟩
 have hsll:sl.length≤30:=by rw [←hsl];exact stL_len r.st
 have hbll:bl.length≤500000:=by rw [←hbl2];exact hbl
 rw [hsl] at hst
 rw [hbl2] at hm2
 rw [hsl] at hm3
 replace hst:=Lib.hid hst
 replace hck:=Lib.hid hck
 replace hm0:=Lib.hid hm0
 replace hm1:=Lib.hid hm1
 replace hm2:=Lib.hid hm2
 replace hm3:=Lib.hid hm3
 replace hl0:=Lib.hid hl0
 replace hk:=Lib.hid hk
 replace hdoc:=Lib.hid hdoc
 replace hin:=Lib.hid hin
 replace hok:=Lib.hid hok
 replace hT:=Lib.hid hT
 replace hste:=Lib.hid hste
 replace hub:=Lib.hid hub
 replace hsl:=Lib.hid hsl
 replace hbl2:=Lib.hid hbl2
 replace hc:=Lib.hid hc
 clear hbl
 go_enter Tryz.func25,Tryz.ntmps25
 go_upto_region 1 with fail
 generalize w.alloc (.cells r.cells 41)=W0 at *
 go_upto_region 4 with (first|(refine wpList_load_at rfl (by kernel_rfl) (p:=.pointer (some ⟨_,0,none⟩)) rfl (by assumption) ?_)|(go_at_call 50;refine Calls.mono hck.out ?_;rintro e u1 ⟨rfl,hg1⟩))
 clear LR hck
 have B1:=hg1.blk hB0
 have hz0:w.heap.size < u1.heap.size:=blk_lt B1
 have hG1:=hg0.trans hg1
 have g0:=(blk_cell B1 0).trans (show _=some (.int .i64 r.kind) from rfl)
 go_upto_region 5 with fail
 clear g0 hkw
 have hgy:=G.new u1 (.cells #[.int .u8 r.kind] 5)
 have hY:=blk_new u1 #[.int .u8 r.kind] 5
 have hzz:(u1.alloc (.cells #[.int .u8 r.kind] 5)).heap.size=u1.heap.size+1:=by simp
 generalize u1.alloc (.cells #[.int .u8 r.kind] 5)=W2 at *
 have ho0:OwnL 5 1 byteC W2 u1.heap.size (.slice (some ⟨u1.heap.size,0,none⟩) m0.length 1) m0:=by
  rw [←hm0.out]
  exact OwnL.made byteC_len [UInt8.ofNat r.kind.toNat] hY (by simp only [List.flatMap_cons,List.flatMap_nil,byteC,hub.out];rfl) (Nat.le_refl _) (by simp)
 have B2:=hgy.blk B1
 have hG2:=hG1.trans hgy
 generalize u1.heap.size=b0 at *
 have y4:=(blk_cell B2 6).trans (show _=some (.int .i64 r.st.wall) from rfl)
 have y5:=(blk_cell B2 7).trans (show _=some (.int .i64 r.st.logic) from rfl)
 have y6:=(blk_cell B2 8).trans (show _=some (.int .i64 r.st.node) from rfl)
 replace B1:=Lib.hid B1
 replace B2:=Lib.hid B2
 replace hY:=Lib.hid hY
 replace hzz:=Lib.hid hzz
 go_upto_region 6 with ((go_at_call 51;(with_reducible refine Calls.mono (hst.out _) ?_);rintro e w4 ⟨As,cs,rfl,hos,hg3⟩))
 clear y4 y5 y6 hst
 have B4:=hg3.blk B2.out
 have hG4:=hG2.trans hg3
 have hz3:=hg3.size
 have hns:=hos.ne (b0:=b0) (by rw [hzz.out];omega)
 have hns2:=hos.nn byteC_len
 have hss:=hos.self byteC_len
 have hzb:b0 < w4.heap.size:=by rw [hzz.out] at hz3;omega
 replace ho0:=ho0.g hg3
 have y0:=(blk_cell B4 0).trans (show _=some (.int .i64 r.kind) from rfl)
 replace ho0:=Lib.hid ho0
 replace hns:=Lib.hid hns
 replace hns2:=Lib.hid hns2
 replace hss:=Lib.hid hss
 clear hos hz3 hzz hY B1 B2 hg3 hG1 hG2 hgy hg1 hg0 hB0
 go_upto_region 8 with fail
 clear y0
 have q1:∀w',KeepT 5 b0 w4 w'→w'.cell? ⟨w.heap.size,1,none⟩=some (.int .i64 r.x1):=fun w' h=>(blk_cell (h.2 _ _ _ _ (by decide) B4) 1).trans rfl
 have q2:∀w',KeepT 5 b0 w4 w'→w'.cell? ⟨w.heap.size,2,none⟩=some (.int .i64 r.x2):=fun w' h=>(blk_cell (h.2 _ _ _ _ (by decide) B4) 2).trans rfl
 have q3:∀w',KeepT 5 b0 w4 w'→w'.cell? ⟨w.heap.size,3,none⟩=some (.int .i64 r.x3):=fun w' h=>(blk_cell (h.2 _ _ _ _ (by decide) B4) 3).trans rfl
 have q4:∀w',KeepT 5 b0 w4 w'→w'.cell? ⟨w.heap.size,4,none⟩=some (.string r.key):=fun w' h=>(blk_cell (h.2 _ _ _ _ (by decide) B4) 4).trans rfl
 have q5:∀w',KeepT 5 b0 w4 w'→w'.cell? ⟨w.heap.size,5,none⟩=some (.slice r.Ap r.ps.length r.cp):=fun w' h=>(blk_cell (h.2 _ _ _ _ (by decide) B4) 5).trans rfl
 have hl0':=hl0.out
 have hbt:∀w',KeepT 5 b0 w4 w'→Calls Tryz.prog 53 #[.agg #[.string r.key,.slice r.Ap r.ps.length r.cp]] w' (RetBytesN w' bl):=fun w' hk=>by
  have hkp:∀{α:Type} {f:α→List Value} {sz:Nat} {A:Option Addr} {xs:List α},Sl f sz w4 w.heap.size A xs→Sl f sz w' w.heap.size A xs:=fun h=>h.keep fun b o hb=>hk.1.cell (p:=⟨b,o,none⟩) (by show b < b0;omega)
  have h1:=hin.out.ps.g (Nat.le_refl _) hG4
  have h2:PutsIn w' w.heap.size r.Ap r.ps:=⟨hkp h1.1,fun p hp=>hkp (h1.2 p hp)⟩
  rw [←hbl2.out]
  exact refBatEnc_any r.key r.ps r.Ap r.cp w' (PutsIn.more h2 (by have:=keepT_sz hk;omega)) (by have:=hok.out.key;omega) hok.out.ps
 replace hbt:=Lib.hid hbt
 have hc1:∀w',G w4 w'→Calls Tryz.prog 52 #[.slice (some ⟨b0,0,none⟩) 1 1,.agg #[.int .i64 r.x1,.int .i64 r.x2,.int .i64 r.x3]] w' (PostW w' (.slice (some ⟨b0,0,none⟩) 1 1) b0 m1):=fun w' h=>by
  have h8:=ho0.out.g h
  have h9:=tx10_int r.x1 r.x2 r.x3 hm1 (by omega) fn.x1 fn.x2 fn.x3 (Nat.le_trans (Nat.le_of_lt hzb) h.size) h8
  rw [hl0'] at h9
  exact h9
 replace hc1:=Lib.hid hc1
 have hdr:G w4 w4.drew:=(G.refl _).drew
 have hkd:=KeepT.of_g (e:=5) hdr (Nat.le_of_lt hzb)
 replace B4:=Lib.hid B4
 go_region_held3 (fun w'=>KeepT 5 b0 w4 w') (first | exact hkd | exact hK1 | exact hK2 | exact hK3 | exact hKb | fail) (first
  | (go_at_call 52;(with_reducible refine Calls.mono (hc1.out _ hdr) ?_);rintro e u1 ⟨A1,d1,rfl,ho1,hk1,ht1⟩;have hK1:KeepT 5 b0 w4 u1:=KeepT.trans hkd hk1;have ht1':=Turn.g hdr ht1;clear ht1)
  | (go_at_call 53;(with_reducible refine Calls.mono (hbt.out _ hK1) ?_);rintro e ub ⟨Ab,cb,rfl,hob,hgb,_⟩;have hnb2:=Lib.hid (hob.nn byteC_len);have hsb:=Lib.hid (hob.self byteC_len);replace ho1:=ho1.g hgb;have hKb:=hK1.trans (KeepT.of_g hgb (Nat.le_trans (Nat.le_of_lt hzb) (keepT_sz hK1)));have htb':=ht1'.after hgb;clear hob hgb ht1')
  | (refine step_append_w byte_elem _ (by kernel_rfl) (.tmp 28) (.tmp 31) rfl b0 (.slice A1 m1.length d1) m1 rfl ho1 ub.heap.size Ab cb bl rfl hnb2.out hsb.out (by omega) (by omega) (Nat.le_trans (Nat.le_of_lt hzb) (keepT_sz hKb)) ?_;intro v2 u2 ho2 hk2 hbut hwh;rw [hm2.out] at ho2;obtain ⟨A2,d2,e2,_,_,_⟩:=OwnL.sl byteC_len ho2;subst e2;have hK2:=hKb.trans hk2;have ht2':=htb'.trans (Turn.of_app hbut hwh);clear hbut hwh)
  | (refine step_append_w byte_elem _ (by kernel_rfl) (.tmp 32) (.tmp 33) rfl b0 (.slice A2 m2.length d2) m2 rfl ho2 w4.heap.size As cs sl rfl hns2.out (ht2'.sl hss.out (Nat.le_refl _) hns.out) (by omega) (by omega) (Nat.le_trans (Nat.le_of_lt hzb) (keepT_sz hK2)) ?_;intro v3 u3 ho3 hk3 hbut hwh;rw [hm3.out] at ho3;obtain ⟨A3,d3,e3,_,_,_⟩:=OwnL.sl byteC_len ho3;subst e3;have hK3:=hK2.trans hk3;have ht3':=ht2'.trans (Turn.of_app hbut hwh);clear hbut hwh))
 all_goals
  go_wp2_with fail
  go_ret2
  exact ⟨A3,d3,rfl,ho3.mono (by omega),KeepT.g (hK3.mono (by omega)) hG4⟩
set_option maxRecDepth 100000 in
set_option maxHeartbeats 4000000 in
theorem refMEnc_2 (r:MsgM) (w:World) (hin:r.In w) (hok:r.Small) (hT:Tabs w) (hk:r.kind=2) (hc:chkM r.p=true):Calls Tryz.prog 25 #[.agg r.cells] w (RetM 1 w (some (docM r.p))):=by
 have hdoc:docM r.p=((((([UInt8.ofNat r.kind.toNat])++nLs [r.x1,r.x2,r.x3])++nL r.code)++stL r.st)++vL r.firsts.length)++nLs r.firsts:=by
  have h0:r.p.kind=2:=hk
  unfold docM
  simp only [h0,hk]
  rfl
 rw [hdoc]
 obtain ⟨m0,hm0⟩:∃m,[UInt8.ofNat r.kind.toNat]=m:=⟨_,rfl⟩
 rw [hm0]
 have hl0:m0.length=1:=by rw [←hm0];rfl
 have fn:=mfine_of hc
 have hste:=stE_ok fn.st
 have hbl:=hok.bat
 obtain ⟨m1,hm1⟩:∃m,m0++nLs [r.x1,r.x2,r.x3]=m:=⟨_,rfl⟩
 rw [hm1]
 have hl1:m1.length≤31:=by rw [←hm1,List.length_append];have h1:=nLs_len [r.x1,r.x2,r.x3];rw [show [r.x1,r.x2,r.x3].length=3 from rfl] at h1;omega
 obtain ⟨m2,hm2⟩:∃m,m1++nL r.code=m:=⟨_,rfl⟩
 rw [hm2]
 have hl2:m2.length≤41:=by rw [←hm2,List.length_append];have h1:=nL_len r.code;omega
 obtain ⟨m3,hm3⟩:∃m,m2++stL r.st=m:=⟨_,rfl⟩
 rw [hm3]
 have hl3:m3.length≤71:=by rw [←hm3,List.length_append];have h1:=stL_len r.st;omega
 obtain ⟨m4,hm4⟩:∃m,(m3++vL r.firsts.length)++nLs r.firsts=m:=⟨_,rfl⟩
 rw [hm4]
 have hl4:m4.length≤10081:=by rw [←hm4,List.length_append,List.length_append];have h1:=vL_len r.firsts.length;have h2:=nLs_len r.firsts;have h3:=fn.firstsL;omega
 have hg0:=G.new w (.cells r.cells 41)
 have hB0:=blk_new w r.cells 41
 have LR:=load_blk (P:=Tryz.prog) (T:=41) hB0 Tryz.underlying41 rfl (by kernel_rfl)
 have hck:Calls Tryz.prog 50 #[.agg r.cells] (w.alloc (.cells r.cells 41)) fun e w'=>e=.returned (.int .i64 0)∧G (w.alloc (.cells r.cells 41)) w':=by
  have:=refMChk_any r _ (hin.g hg0) hok (hT.g hg0)
  rw [show chkC r=0 from by unfold chkC;rw [if_neg (by rw [hk];decide),if_pos hc]] at this
  exact this
 have hkw:IntKind.u8.wrap r.kind=r.kind:=by rw [hk];rfl
 have hub:((UInt8.ofNat r.kind.toNat).toNat:Int)=r.kind:=by rw [hk];rfl
 have e1:(r.kind == 1)=false:=by rw [hk];rfl
 have e2:(r.kind == 2)=true:=by rw [hk];rfl
 have hst:∀w',Calls Tryz.prog 51 #[.agg #[.int .i64 r.st.wall,.int .i64 r.st.logic,.int .i64 r.st.node]] w' (RetBytes w' (stE r.st)):=fun w'=>refStEnc_any r.st w'
 rw [hste] at hst
 obtain ⟨sl,hsl⟩:∃l,stL r.st=l:=⟨_,rfl⟩
 obtain ⟨bl,hbl2⟩:∃l,batL r.key (r.ps.map PutM.p)=l:=⟨_,rfl⟩
 have hsll:sl.length≤30:=by rw [←hsl];exact stL_len r.st
 have hbll:bl.length≤500000:=by rw [←hbl2];exact hbl
 rw [hsl] at hst
 rw [hsl] at hm3
 replace hst:=Lib.hid hst
 replace hck:=Lib.hid hck
 replace hm0:=Lib.hid hm0
 replace hm1:=Lib.hid hm1
 replace hm2:=Lib.hid hm2
 replace hm3:=Lib.hid hm3
 replace hm4:=Lib.hid hm4
 replace hl0:=Lib.hid hl0
 replace hk:=Lib.hid hk
 replace hdoc:=Lib.hid hdoc
 replace hin:=Lib.hid hin
 replace hok:=Lib.hid hok
 replace hT:=Lib.hid hT
 replace hste:=Lib.hid hste
 replace hub:=Lib.hid hub
 replace hsl:=Lib.hid hsl
 replace hbl2:=Lib.hid hbl2
 replace hc:=Lib.hid hc
 clear hbl
 go_enter Tryz.func25,Tryz.ntmps25
 go_upto_region 1 with fail
 generalize w.alloc (.cells r.cells 41)=W0 at *
 go_upto_region 4 with (first|(refine wpList_load_at rfl (by kernel_rfl) (p:=.pointer (some ⟨_,0,none⟩)) rfl (by assumption) ?_)|(go_at_call 50;refine Calls.mono hck.out ?_;rintro e u1 ⟨rfl,hg1⟩))
 clear LR hck
 have B1:=hg1.blk hB0
 have hz0:w.heap.size < u1.heap.size:=blk_lt B1
 have hG1:=hg0.trans hg1
 have g0:=(blk_cell B1 0).trans (show _=some (.int .i64 r.kind) from rfl)
 go_upto_region 5 with fail
 clear g0 hkw
 have hgy:=G.new u1 (.cells #[.int .u8 r.kind] 5)
 have hY:=blk_new u1 #[.int .u8 r.kind] 5
 have hzz:(u1.alloc (.cells #[.int .u8 r.kind] 5)).heap.size=u1.heap.size+1:=by simp
 generalize u1.alloc (.cells #[.int .u8 r.kind] 5)=W2 at *
 have ho0:OwnL 5 1 byteC W2 u1.heap.size (.slice (some ⟨u1.heap.size,0,none⟩) m0.length 1) m0:=by
  rw [←hm0.out]
  exact OwnL.made byteC_len [UInt8.ofNat r.kind.toNat] hY (by simp only [List.flatMap_cons,List.flatMap_nil,byteC,hub.out];rfl) (Nat.le_refl _) (by simp)
 have B2:=hgy.blk B1
 have hG2:=hG1.trans hgy
 generalize u1.heap.size=b0 at *
 have y4:=(blk_cell B2 6).trans (show _=some (.int .i64 r.st.wall) from rfl)
 have y5:=(blk_cell B2 7).trans (show _=some (.int .i64 r.st.logic) from rfl)
 have y6:=(blk_cell B2 8).trans (show _=some (.int .i64 r.st.node) from rfl)
 replace B1:=Lib.hid B1
 replace B2:=Lib.hid B2
 replace hY:=Lib.hid hY
 replace hzz:=Lib.hid hzz
 go_upto_region 6 with ((go_at_call 51;(with_reducible refine Calls.mono (hst.out _) ?_);rintro e w4 ⟨As,cs,rfl,hos,hg3⟩))
 clear y4 y5 y6 hst
 have B4:=hg3.blk B2.out
 have hG4:=hG2.trans hg3
 have hz3:=hg3.size
 have hns:=hos.ne (b0:=b0) (by rw [hzz.out];omega)
 have hns2:=hos.nn byteC_len
 have hss:=hos.self byteC_len
 have hzb:b0 < w4.heap.size:=by rw [hzz.out] at hz3;omega
 replace ho0:=ho0.g hg3
 have y0:=(blk_cell B4 0).trans (show _=some (.int .i64 r.kind) from rfl)
 replace ho0:=Lib.hid ho0
 replace hns:=Lib.hid hns
 replace hns2:=Lib.hid hns2
 replace hss:=Lib.hid hss
 clear hos hz3 hzz hY B1 B2 hg3 hG1 hG2 hgy hg1 hg0 hB0
 go_upto_region 10 with fail
 clear y0
 have q1:∀w',KeepT 5 b0 w4 w'→w'.cell? ⟨w.heap.size,1,none⟩=some (.int .i64 r.x1):=fun w' h=>(blk_cell (h.2 _ _ _ _ (by decide) B4) 1).trans rfl
 have q2:∀w',KeepT 5 b0 w4 w'→w'.cell? ⟨w.heap.size,2,none⟩=some (.int .i64 r.x2):=fun w' h=>(blk_cell (h.2 _ _ _ _ (by decide) B4) 2).trans rfl
 have q3:∀w',KeepT 5 b0 w4 w'→w'.cell? ⟨w.heap.size,3,none⟩=some (.int .i64 r.x3):=fun w' h=>(blk_cell (h.2 _ _ _ _ (by decide) B4) 3).trans rfl
 have q9:∀w',KeepT 5 b0 w4 w'→w'.cell? ⟨w.heap.size,9,none⟩=some (.int .i64 r.code):=fun w' h=>(blk_cell (h.2 _ _ _ _ (by decide) B4) 9).trans rfl
 have q10:∀w',KeepT 5 b0 w4 w'→w'.cell? ⟨w.heap.size,10,none⟩=some (.slice r.An r.firsts.length r.cn):=fun w' h=>(blk_cell (h.2 _ _ _ _ (by decide) B4) 10).trans rfl
 have hl0':=hl0.out
 have hnd:∀w',KeepT 5 b0 w4 w'→Sl intC 1 w' w.heap.size r.An r.firsts:=fun w' hk=>(hin.out.firsts.g (Nat.le_refl _) hG4).keep fun b o hb=>hk.1.cell (p:=⟨b,o,none⟩) (by show b < b0;omega)
 replace hnd:=Lib.hid hnd
 have hc1:∀w',G w4 w'→Calls Tryz.prog 52 #[.slice (some ⟨b0,0,none⟩) 1 1,.agg #[.int .i64 r.x1,.int .i64 r.x2,.int .i64 r.x3]] w' (PostW w' (.slice (some ⟨b0,0,none⟩) 1 1) b0 m1):=fun w' h=>by
  have h8:=ho0.out.g h
  have h9:=tx10_int r.x1 r.x2 r.x3 hm1 (by omega) fn.x1 fn.x2 fn.x3 (Nat.le_trans (Nat.le_of_lt hzb) h.size) h8
  rw [hl0'] at h9
  exact h9
 replace hc1:=Lib.hid hc1
 have hdr:G w4 w4.drew:=(G.refl _).drew
 have hkd:=KeepT.of_g (e:=5) hdr (Nat.le_of_lt hzb)
 replace B4:=Lib.hid B4
 go_region_held3 (fun w'=>KeepT 5 b0 w4 w') (first | exact hkd | exact hK1 | exact hK2 | exact hK3 | exact hK4 | fail) (first
  | (go_at_call 52;(with_reducible refine Calls.mono (hc1.out _ hdr) ?_);rintro e u1 ⟨A1,d1,rfl,ho1,hk1,ht1⟩;have hK1:KeepT 5 b0 w4 u1:=KeepT.trans hkd hk1;have ht1':=Turn.g hdr ht1;clear ht1)
  | (go_at_call 55;(with_reducible refine Calls.mono (num10_int r.code hm2 (by omega) fn.code (Nat.le_trans (Nat.le_of_lt hzb) (keepT_sz hK1)) ho1) ?_);rintro e u2 ⟨A2,d2,rfl,ho2,hk2,ht2⟩;have hK2:=hK1.trans hk2;have ht2':=ht1'.trans ht2;clear ht2)
  | (refine step_append_w byte_elem _ (by kernel_rfl) (.tmp 43) (.tmp 44) rfl b0 (.slice A2 m2.length d2) m2 rfl ho2 w4.heap.size As cs sl rfl hns2.out (ht2'.sl hss.out (Nat.le_refl _) hns.out) (by omega) (by omega) (Nat.le_trans (Nat.le_of_lt hzb) (keepT_sz hK2)) ?_;intro v3 u3 ho3 hk3 hbut hwh;rw [hm3.out] at ho3;obtain ⟨A3,d3,e3,_,_,_⟩:=OwnL.sl byteC_len ho3;subst e3;have hK3:=hK2.trans hk3;have ht3':=ht2'.trans (Turn.of_app hbut hwh);clear hbut hwh)
  | (go_at_call 54;(with_reducible refine Calls.mono (ints10_own r.firsts r.An r.cn w.heap.size hm4 (by omega) fn.firstsL fn.firsts (by omega) (hnd.out _ hK3) (Nat.le_trans (Nat.le_of_lt hzb) (keepT_sz hK3)) ho3) ?_);rintro e u4 ⟨A4,d4,rfl,ho4,hk4,ht4⟩;have hK4:=hK3.trans hk4;have ht4':=ht3'.trans ht4;clear ht4))
 all_goals
  go_wp2_with fail
  go_ret2
  exact ⟨A4,d4,rfl,ho4.mono (by omega),KeepT.g (hK4.mono (by omega)) hG4⟩
set_option maxRecDepth 100000 in
set_option maxHeartbeats 4000000 in
theorem refMEnc_3 (r:MsgM) (w:World) (hin:r.In w) (hok:r.Small) (hT:Tabs w) (hk:r.kind=3) (hc:chkM r.p=true):Calls Tryz.prog 25 #[.agg r.cells] w (RetM 1 w (some (docM r.p))):=by
 have hdoc:docM r.p=((([UInt8.ofNat r.kind.toNat])++nLs [r.x1,r.x2,r.x3])++[if r.yes=true then 1 else 0])++stL r.st:=by
  have h0:r.p.kind=3:=hk
  unfold docM
  simp only [h0,hk]
  rfl
 rw [hdoc]
 obtain ⟨m0,hm0⟩:∃m,[UInt8.ofNat r.kind.toNat]=m:=⟨_,rfl⟩
 rw [hm0]
 have hl0:m0.length=1:=by rw [←hm0];rfl
 have fn:=mfine_of hc
 have hste:=stE_ok fn.st
 have hbl:=hok.bat
 obtain ⟨m1,hm1⟩:∃m,m0++nLs [r.x1,r.x2,r.x3]=m:=⟨_,rfl⟩
 rw [hm1]
 have hl1:m1.length≤31:=by rw [←hm1,List.length_append];have h1:=nLs_len [r.x1,r.x2,r.x3];rw [show [r.x1,r.x2,r.x3].length=3 from rfl] at h1;omega
 obtain ⟨m2,hm2⟩:∃m,m1++[if r.yes=true then 1 else 0]=m:=⟨_,rfl⟩
 rw [hm2]
 have hl2:m2.length≤32:=by rw [←hm2,List.length_append];have h1:([if r.yes=true then 1 else 0]:List UInt8).length=1:=rfl;omega
 obtain ⟨m3,hm3⟩:∃m,m2++stL r.st=m:=⟨_,rfl⟩
 rw [hm3]
 have hl3:m3.length≤62:=by rw [←hm3,List.length_append];have h1:=stL_len r.st;omega
 have hg0:=G.new w (.cells r.cells 41)
 have hB0:=blk_new w r.cells 41
 have LR:=load_blk (P:=Tryz.prog) (T:=41) hB0 Tryz.underlying41 rfl (by kernel_rfl)
 have hck:Calls Tryz.prog 50 #[.agg r.cells] (w.alloc (.cells r.cells 41)) fun e w'=>e=.returned (.int .i64 0)∧G (w.alloc (.cells r.cells 41)) w':=by
  have:=refMChk_any r _ (hin.g hg0) hok (hT.g hg0)
  rw [show chkC r=0 from by unfold chkC;rw [if_neg (by rw [hk];decide),if_pos hc]] at this
  exact this
 have hkw:IntKind.u8.wrap r.kind=r.kind:=by rw [hk];rfl
 have hub:((UInt8.ofNat r.kind.toNat).toNat:Int)=r.kind:=by rw [hk];rfl
 have e1:(r.kind == 1)=false:=by rw [hk];rfl
 have e2:(r.kind == 2)=false:=by rw [hk];rfl
 have e3:(r.kind == 3)=true:=by rw [hk];rfl
 have hst:∀w',Calls Tryz.prog 51 #[.agg #[.int .i64 r.st.wall,.int .i64 r.st.logic,.int .i64 r.st.node]] w' (RetBytes w' (stE r.st)):=fun w'=>refStEnc_any r.st w'
 rw [hste] at hst
 obtain ⟨sl,hsl⟩:∃l,stL r.st=l:=⟨_,rfl⟩
 obtain ⟨bl,hbl2⟩:∃l,batL r.key (r.ps.map PutM.p)=l:=⟨_,rfl⟩
 have hsll:sl.length≤30:=by rw [←hsl];exact stL_len r.st
 have hbll:bl.length≤500000:=by rw [←hbl2];exact hbl
 rw [hsl] at hst
 rw [hsl] at hm3
 replace hst:=Lib.hid hst
 replace hck:=Lib.hid hck
 replace hm0:=Lib.hid hm0
 replace hm1:=Lib.hid hm1
 replace hm2:=Lib.hid hm2
 replace hm3:=Lib.hid hm3
 replace hl0:=Lib.hid hl0
 replace hk:=Lib.hid hk
 replace hdoc:=Lib.hid hdoc
 replace hin:=Lib.hid hin
 replace hok:=Lib.hid hok
 replace hT:=Lib.hid hT
 replace hste:=Lib.hid hste
 replace hub:=Lib.hid hub
 replace hsl:=Lib.hid hsl
 replace hbl2:=Lib.hid hbl2
 replace hc:=Lib.hid hc
 clear hbl
 go_enter Tryz.func25,Tryz.ntmps25
 go_upto_region 1 with fail
 generalize w.alloc (.cells r.cells 41)=W0 at *
 go_upto_region 4 with (first|(refine wpList_load_at rfl (by kernel_rfl) (p:=.pointer (some ⟨_,0,none⟩)) rfl (by assumption) ?_)|(go_at_call 50;refine Calls.mono hck.out ?_;rintro e u1 ⟨rfl,hg1⟩))
 clear LR hck
 have B1:=hg1.blk hB0
 have hz0:w.heap.size < u1.heap.size:=blk_lt B1
 have hG1:=hg0.trans hg1
 have g0:=(blk_cell B1 0).trans (show _=some (.int .i64 r.kind) from rfl)
 go_upto_region 5 with fail
 clear g0 hkw
 have hgy:=G.new u1 (.cells #[.int .u8 r.kind] 5)
 have hY:=blk_new u1 #[.int .u8 r.kind] 5
 have hzz:(u1.alloc (.cells #[.int .u8 r.kind] 5)).heap.size=u1.heap.size+1:=by simp
 generalize u1.alloc (.cells #[.int .u8 r.kind] 5)=W2 at *
 have ho0:OwnL 5 1 byteC W2 u1.heap.size (.slice (some ⟨u1.heap.size,0,none⟩) m0.length 1) m0:=by
  rw [←hm0.out]
  exact OwnL.made byteC_len [UInt8.ofNat r.kind.toNat] hY (by simp only [List.flatMap_cons,List.flatMap_nil,byteC,hub.out];rfl) (Nat.le_refl _) (by simp)
 have B2:=hgy.blk B1
 have hG2:=hG1.trans hgy
 generalize u1.heap.size=b0 at *
 have y4:=(blk_cell B2 6).trans (show _=some (.int .i64 r.st.wall) from rfl)
 have y5:=(blk_cell B2 7).trans (show _=some (.int .i64 r.st.logic) from rfl)
 have y6:=(blk_cell B2 8).trans (show _=some (.int .i64 r.st.node) from rfl)
 replace B1:=Lib.hid B1
 replace B2:=Lib.hid B2
 replace hY:=Lib.hid hY
 replace hzz:=Lib.hid hzz
 go_upto_region 6 with ((go_at_call 51;(with_reducible refine Calls.mono (hst.out _) ?_);rintro e w4 ⟨As,cs,rfl,hos,hg3⟩))
 clear y4 y5 y6 hst
 have B4:=hg3.blk B2.out
 have hG4:=hG2.trans hg3
 have hz3:=hg3.size
 have hns:=hos.ne (b0:=b0) (by rw [hzz.out];omega)
 have hns2:=hos.nn byteC_len
 have hss:=hos.self byteC_len
 have hzb:b0 < w4.heap.size:=by rw [hzz.out] at hz3;omega
 replace ho0:=ho0.g hg3
 have y0:=(blk_cell B4 0).trans (show _=some (.int .i64 r.kind) from rfl)
 replace ho0:=Lib.hid ho0
 replace hns:=Lib.hid hns
 replace hns2:=Lib.hid hns2
 replace hss:=Lib.hid hss
 clear hos hz3 hzz hY B1 B2 hg3 hG1 hG2 hgy hg1 hg0 hB0
 go_upto_region 12 with fail
 clear y0
 have q1:∀w',KeepT 5 b0 w4 w'→w'.cell? ⟨w.heap.size,1,none⟩=some (.int .i64 r.x1):=fun w' h=>(blk_cell (h.2 _ _ _ _ (by decide) B4) 1).trans rfl
 have q2:∀w',KeepT 5 b0 w4 w'→w'.cell? ⟨w.heap.size,2,none⟩=some (.int .i64 r.x2):=fun w' h=>(blk_cell (h.2 _ _ _ _ (by decide) B4) 2).trans rfl
 have q3:∀w',KeepT 5 b0 w4 w'→w'.cell? ⟨w.heap.size,3,none⟩=some (.int .i64 r.x3):=fun w' h=>(blk_cell (h.2 _ _ _ _ (by decide) B4) 3).trans rfl
 have q11:∀w',KeepT 5 b0 w4 w'→w'.cell? ⟨w.heap.size,11,none⟩=some (.bool r.yes):=fun w' h=>(blk_cell (h.2 _ _ _ _ (by decide) B4) 11).trans rfl
 have hl0':=hl0.out
 have hc1:∀w',G w4 w'→Calls Tryz.prog 52 #[.slice (some ⟨b0,0,none⟩) 1 1,.agg #[.int .i64 r.x1,.int .i64 r.x2,.int .i64 r.x3]] w' (PostW w' (.slice (some ⟨b0,0,none⟩) 1 1) b0 m1):=fun w' h=>by
  have h8:=ho0.out.g h
  have h9:=tx10_int r.x1 r.x2 r.x3 hm1 (by omega) fn.x1 fn.x2 fn.x3 (Nat.le_trans (Nat.le_of_lt hzb) h.size) h8
  rw [hl0'] at h9
  exact h9
 replace hc1:=Lib.hid hc1
 have hdr:G w4 w4.drew:=(G.refl _).drew
 have hkd:=KeepT.of_g (e:=5) hdr (Nat.le_of_lt hzb)
 replace B4:=Lib.hid B4
 go_region_held3 (fun w'=>KeepT 5 b0 w4 w') (first | exact hkd | exact hK1 | exact hK2 | exact hK3 | fail) (first
  | (go_at_call 52;(with_reducible refine Calls.mono (hc1.out _ hdr) ?_);rintro e u1 ⟨A1,d1,rfl,ho1,hk1,ht1⟩;have hK1:KeepT 5 b0 w4 u1:=KeepT.trans hkd hk1;have ht1':=Turn.g hdr ht1;clear ht1)
  | (go_at_call 56;(with_reducible refine Calls.mono (flag10_own r.yes hm2 (by omega) (Nat.le_trans (Nat.le_of_lt hzb) (keepT_sz hK1)) ho1) ?_);rintro e u2 ⟨A2,d2,rfl,ho2,hk2,ht2⟩;have hK2:=hK1.trans hk2;have ht2':=ht1'.trans ht2;clear ht2)
  | (refine step_append_w byte_elem _ (by kernel_rfl) (.tmp 57) (.tmp 58) rfl b0 (.slice A2 m2.length d2) m2 rfl ho2 w4.heap.size As cs sl rfl hns2.out (ht2'.sl hss.out (Nat.le_refl _) hns.out) (by omega) (by omega) (Nat.le_trans (Nat.le_of_lt hzb) (keepT_sz hK2)) ?_;intro v3 u3 ho3 hk3 hbut hwh;rw [hm3.out] at ho3;obtain ⟨A3,d3,e3,_,_,_⟩:=OwnL.sl byteC_len ho3;subst e3;have hK3:=hK2.trans hk3;have ht3':=ht2'.trans (Turn.of_app hbut hwh);clear hbut hwh))
 all_goals
  go_wp2_with fail
  go_ret2
  exact ⟨A3,d3,rfl,ho3.mono (by omega),KeepT.g (hK3.mono (by omega)) hG4⟩
set_option maxRecDepth 100000 in
set_option maxHeartbeats 4000000 in
theorem refMEnc_4 (r:MsgM) (w:World) (hin:r.In w) (hok:r.Small) (hT:Tabs w) (hk:r.kind=4) (hc:chkM r.p=true):Calls Tryz.prog 25 #[.agg r.cells] w (RetM 1 w (some (docM r.p))):=by
 have hdoc:docM r.p=([UInt8.ofNat r.kind.toNat])++nLs [r.x1,r.x2,r.x3]:=by
  have h0:r.p.kind=4:=hk
  unfold docM
  simp only [h0,hk]
  rfl
 rw [hdoc]
 obtain ⟨m0,hm0⟩:∃m,[UInt8.ofNat r.kind.toNat]=m:=⟨_,rfl⟩
 rw [hm0]
 have hl0:m0.length=1:=by rw [←hm0];rfl
 have fn:=mfine_of hc
 have hste:=stE_ok fn.st
 have hbl:=hok.bat
 obtain ⟨m1,hm1⟩:∃m,m0++nLs [r.x1,r.x2,r.x3]=m:=⟨_,rfl⟩
 rw [hm1]
 have hl1:m1.length≤31:=by rw [←hm1,List.length_append];have h1:=nLs_len [r.x1,r.x2,r.x3];rw [show [r.x1,r.x2,r.x3].length=3 from rfl] at h1;omega
 have hg0:=G.new w (.cells r.cells 41)
 have hB0:=blk_new w r.cells 41
 have LR:=load_blk (P:=Tryz.prog) (T:=41) hB0 Tryz.underlying41 rfl (by kernel_rfl)
 have hck:Calls Tryz.prog 50 #[.agg r.cells] (w.alloc (.cells r.cells 41)) fun e w'=>e=.returned (.int .i64 0)∧G (w.alloc (.cells r.cells 41)) w':=by
  have:=refMChk_any r _ (hin.g hg0) hok (hT.g hg0)
  rw [show chkC r=0 from by unfold chkC;rw [if_neg (by rw [hk];decide),if_pos hc]] at this
  exact this
 have hkw:IntKind.u8.wrap r.kind=r.kind:=by rw [hk];rfl
 have hub:((UInt8.ofNat r.kind.toNat).toNat:Int)=r.kind:=by rw [hk];rfl
 have e1:(r.kind == 1)=false:=by rw [hk];rfl
 have e2:(r.kind == 2)=false:=by rw [hk];rfl
 have e3:(r.kind == 3)=false:=by rw [hk];rfl
 have e4:(r.kind == 4)=true:=by rw [hk];rfl
 have hst:∀w',Calls Tryz.prog 51 #[.agg #[.int .i64 r.st.wall,.int .i64 r.st.logic,.int .i64 r.st.node]] w' (RetBytes w' (stE r.st)):=fun w'=>refStEnc_any r.st w'
 rw [hste] at hst
 obtain ⟨sl,hsl⟩:∃l,stL r.st=l:=⟨_,rfl⟩
 obtain ⟨bl,hbl2⟩:∃l,batL r.key (r.ps.map PutM.p)=l:=⟨_,rfl⟩
 have hsll:sl.length≤30:=by rw [←hsl];exact stL_len r.st
 have hbll:bl.length≤500000:=by rw [←hbl2];exact hbl
 rw [hsl] at hst
 replace hst:=Lib.hid hst
 replace hck:=Lib.hid hck
 replace hm0:=Lib.hid hm0
 replace hm1:=Lib.hid hm1
 replace hl0:=Lib.hid hl0
 replace hk:=Lib.hid hk
 replace hdoc:=Lib.hid hdoc
 replace hin:=Lib.hid hin
 replace hok:=Lib.hid hok
 replace hT:=Lib.hid hT
 replace hste:=Lib.hid hste
 replace hub:=Lib.hid hub
 replace hsl:=Lib.hid hsl
 replace hbl2:=Lib.hid hbl2
 replace hc:=Lib.hid hc
 clear hbl
 go_enter Tryz.func25,Tryz.ntmps25
 go_upto_region 1 with fail
 generalize w.alloc (.cells r.cells 41)=W0 at *
 go_upto_region 4 with (first|(refine wpList_load_at rfl (by kernel_rfl) (p:=.pointer (some ⟨_,0,none⟩)) rfl (by assumption) ?_)|(go_at_call 50;refine Calls.mono hck.out ?_;rintro e u1 ⟨rfl,hg1⟩))
 clear LR hck
 have B1:=hg1.blk hB0
 have hz0:w.heap.size < u1.heap.size:=blk_lt B1
 have hG1:=hg0.trans hg1
 have g0:=(blk_cell B1 0).trans (show _=some (.int .i64 r.kind) from rfl)
 go_upto_region 5 with fail
 clear g0 hkw
 have hgy:=G.new u1 (.cells #[.int .u8 r.kind] 5)
 have hY:=blk_new u1 #[.int .u8 r.kind] 5
 have hzz:(u1.alloc (.cells #[.int .u8 r.kind] 5)).heap.size=u1.heap.size+1:=by simp
 generalize u1.alloc (.cells #[.int .u8 r.kind] 5)=W2 at *
 have ho0:OwnL 5 1 byteC W2 u1.heap.size (.slice (some ⟨u1.heap.size,0,none⟩) m0.length 1) m0:=by
  rw [←hm0.out]
  exact OwnL.made byteC_len [UInt8.ofNat r.kind.toNat] hY (by simp only [List.flatMap_cons,List.flatMap_nil,byteC,hub.out];rfl) (Nat.le_refl _) (by simp)
 have B2:=hgy.blk B1
 have hG2:=hG1.trans hgy
 generalize u1.heap.size=b0 at *
 have y4:=(blk_cell B2 6).trans (show _=some (.int .i64 r.st.wall) from rfl)
 have y5:=(blk_cell B2 7).trans (show _=some (.int .i64 r.st.logic) from rfl)
 have y6:=(blk_cell B2 8).trans (show _=some (.int .i64 r.st.node) from rfl)
 replace B1:=Lib.hid B1
 replace B2:=Lib.hid B2
 replace hY:=Lib.hid hY
 replace hzz:=Lib.hid hzz
 go_upto_region 6 with ((go_at_call 51;(with_reducible refine Calls.mono (hst.out _) ?_);rintro e w4 ⟨As,cs,rfl,hos,hg3⟩))
 clear y4 y5 y6 hst
 have B4:=hg3.blk B2.out
 have hG4:=hG2.trans hg3
 have hz3:=hg3.size
 have hns:=hos.ne (b0:=b0) (by rw [hzz.out];omega)
 have hns2:=hos.nn byteC_len
 have hss:=hos.self byteC_len
 have hzb:b0 < w4.heap.size:=by rw [hzz.out] at hz3;omega
 replace ho0:=ho0.g hg3
 have y0:=(blk_cell B4 0).trans (show _=some (.int .i64 r.kind) from rfl)
 replace ho0:=Lib.hid ho0
 replace hns:=Lib.hid hns
 replace hns2:=Lib.hid hns2
 replace hss:=Lib.hid hss
 clear hos hz3 hzz hY B1 B2 hg3 hG1 hG2 hgy hg1 hg0 hB0
 go_upto_region 14 with fail
 clear y0
 have q1:∀w',KeepT 5 b0 w4 w'→w'.cell? ⟨w.heap.size,1,none⟩=some (.int .i64 r.x1):=fun w' h=>(blk_cell (h.2 _ _ _ _ (by decide) B4) 1).trans rfl
 have q2:∀w',KeepT 5 b0 w4 w'→w'.cell? ⟨w.heap.size,2,none⟩=some (.int .i64 r.x2):=fun w' h=>(blk_cell (h.2 _ _ _ _ (by decide) B4) 2).trans rfl
 have q3:∀w',KeepT 5 b0 w4 w'→w'.cell? ⟨w.heap.size,3,none⟩=some (.int .i64 r.x3):=fun w' h=>(blk_cell (h.2 _ _ _ _ (by decide) B4) 3).trans rfl
 have hl0':=hl0.out
 have hc1:∀w',G w4 w'→Calls Tryz.prog 52 #[.slice (some ⟨b0,0,none⟩) 1 1,.agg #[.int .i64 r.x1,.int .i64 r.x2,.int .i64 r.x3]] w' (PostW w' (.slice (some ⟨b0,0,none⟩) 1 1) b0 m1):=fun w' h=>by
  have h8:=ho0.out.g h
  have h9:=tx10_int r.x1 r.x2 r.x3 hm1 (by omega) fn.x1 fn.x2 fn.x3 (Nat.le_trans (Nat.le_of_lt hzb) h.size) h8
  rw [hl0'] at h9
  exact h9
 replace hc1:=Lib.hid hc1
 have y1:=q1 w4 (KeepT.refl _ _ _)
 have y2:=q2 w4 (KeepT.refl _ _ _)
 have y3:=q3 w4 (KeepT.refl _ _ _)
 replace B4:=Lib.hid B4
 clear q1 q2 q3
 go_wp2_with (first
  | (go_at_call 52;(with_reducible refine Calls.mono (hc1.out _ (G.refl _)) ?_);rintro e u1 ⟨A1,d1,rfl,ho1,hk1,ht1⟩;have hK1:KeepT 5 b0 w4 u1:=hk1;have ht1':=ht1;clear ht1))
 go_ret2
 exact ⟨A1,d1,rfl,ho1.mono (by omega),KeepT.g (hK1.mono (by omega)) hG4⟩
end Go.Proofs.YtheogchkelmeeaaGreatDoor

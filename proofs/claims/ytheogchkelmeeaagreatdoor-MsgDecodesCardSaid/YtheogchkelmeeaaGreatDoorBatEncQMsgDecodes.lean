/- event.Encode, penstockref7.EncodeBatch: what they answer. Conditions: lengths of at most 2^30; the decoder's tables lie as the library lays them. -/
import Derived.Test.YtheogchkelmeeaaGreatDoorEvEncQMsgDecodes
import Derived.Test.YtheogchkelmeeaaGreatDoorRefCheckQMsgDecodes
import Derived.Test.YtheogchkelmeeaaGreatDoorM15MsgDecodes
namespace Go.Proofs.YtheogchkelmeeaaGreatDoor
open Go.RowKit
theorem nums_two {v0 : Value} {l m : List UInt8} {base n n2 b : Nat} {w : World} {t : TypeId} (hm : Hid (l ++ (vL n ++ vL n2) = m)) (hl : l.length ≤ 1099511627776) (hn : n < 2 ^ 64) (hn2 : n2 ≤ 4611686018427387904) (ht : t ≠ 5) (hown : OwnL 5 1 byteC w base v0 l) (hb : w.heap[b]? = some (.cells #[.int .u64 n, .int .u64 n2] t (0, 0))) (hbase : base ≤ w.heap.size) :
  Calls Tryz.prog 90 #[v0,.slice (some ⟨b,0,none⟩) 2 2] w (GrownBytes w base m):=by
 have:=nums_any v0 l (some ⟨b,0,none⟩) 0 2 w.heap.size base [n,n2] w hown hbase hl (Sl.of_blk u64C_len [n,n2] hb rfl (blk_lt hb)) (Nat.le_refl _) (by simp) (by simp;omega) (fun b' o e=>by cases e;exact ⟨_,_,_,hb,ht⟩)
 rw [←hm.out]
 simpa using this
/-- A Put's head, its stream ahead. -/
def putHead (p:PutP):List UInt8:=textL p.stream.data.toList++(vL (zigN p.expect)++vL p.data.length)
theorem putBytes_head (p:PutP):putBytes p=putHead p++p.data.flatMap fun d=>textL d.data.toList:=by
 unfold putBytes putHead
 simp only [List.append_assoc]
theorem chk_small {key:ByteArray} {ps:List PutP} (h:chkN key ps=0):ps.length≤8∧∀p ∈ ps,p.data.length≤20∧(∀s ∈ p.data,s.size≤1000)∧-1≤p.expect∧p.expect≤1099511627776:=by
 have h2:=(chkN_ok _ _).1 h
 have h3:=h2.2
 unfold bigB at h3
 simp only [Bool.or_eq_false_iff,decide_eq_false_iff_not] at h3
 refine ⟨by omega,fun p hp=>?_⟩
 have h4:=(List.any_eq_false.1 h3.1.2) p hp
 have h5:=(putOk_iff p).1 (argB_put h2.1 hp)
 unfold putBig at h4
 simp only [Bool.or_eq_true,decide_eq_true_iff,not_or,List.any_eq_true,not_exists,not_and] at h4
 exact ⟨by omega,fun s hs=>by have:=h4.2 s hs;omega,h5.2.1⟩
set_option maxRecDepth 100000 in
set_option maxHeartbeats 8000000 in
theorem batEnc_any (key : ByteArray) (ps : List PutM) (A : Option Addr) (c : Nat) (w : World) (hin : PutsIn w w.heap.size A ps) (hk : key.size ≤ 1073741824) (hsm : PutsSmall ps) (hT : Tabs w) :
  Calls Tryz.prog 61 #[.agg #[.string key,.slice A ps.length c]] w (RetBytesN w (batL key (ps.map PutM.p))):=by
 have hch:∀w',G w w'→Calls Tryz.prog 89 #[.agg #[.string key,.slice A ps.length c]] w' fun e w''=>e=.returned (.int .i64 (chkN key (ps.map PutM.p)))∧G w' w'':=fun w' hg=>check_any key ps A c w' (PutsIn.more (hin.g (Nat.le_refl _) hg) hg.size) hk hsm (hT.g hg)
 obtain ⟨hs1,hs2⟩:=hsm
 replace hin:=Lib.hid hin
 replace hs2:=Lib.hid hs2
 clear hT
 by_cases hok:chkN key (ps.map PutM.p)=0
 case neg =>
  have hno:=Lib.hid (batL_no hok)
  have t1:(((chkN key (ps.map PutM.p):Nat):Int) != 0)=true:=by rw [bne_iff_ne];omega
  generalize chkN key (ps.map PutM.p)=cn at *
  replace hok:=Lib.hid hok
  go_enter Tryz.func61,Tryz.ntmps61
  go_wp2_with fail
  refine (hch _ (G.new _ _)).mono ?_
  clear hch
  rintro e w1 ⟨rfl,hg⟩
  go_wp2_with fail
  go_ret
  exact ⟨none,0,by rw [hno.out];rfl,by rw [hno.out];exact OwnL.nil,(G.new _ _).trans hg,fun _=>rfl⟩
 have hsmall:=chk_small hok
 rw [List.length_map] at hsmall
 have hl8:=hsmall.1
 simp only [hok] at hch
 obtain ⟨m1,hm1⟩:∃m,textL key.data.toList=m:=⟨_,rfl⟩
 obtain ⟨m2,hm2⟩:∃m,m1++vL ps.length=m:=⟨_,rfl⟩
 have b1:m1.length≤key.size+10:=by rw [←hm1];exact textL_len key
 have b2:m2.length≤key.size+20:=by rw [←hm2,List.length_append];have:=vL_len ps.length;omega
 have hyes:batL key (ps.map PutM.p)=m2++(ps.map PutM.p).flatMap putBytes:=by
  rw [batL_ok hok,←hm2,←hm1]
  unfold batBytes
  rw [List.length_map,List.append_assoc]
 have hpos:batL key (ps.map PutM.p)≠[]:=by
  rw [batL_ok hok]
  intro h
  have:=batBytes_pos key (ps.map PutM.p)
  rw [h] at this
  simp at this
 have hw1:IntKind.u64.wrap (ps.length:Int)=(ps.length:Int):=by rw [IntKind.wrap_u64];omega
 replace hm1:=Lib.hid hm1
 replace hm2:=Lib.hid hm2
 replace hyes:=Lib.hid hyes
 replace hpos:=Lib.hid hpos
 replace hsmall:=Lib.hid hsmall
 clear hok
 go_enter Tryz.func61,Tryz.ntmps61
 go_upto_region 1 with fail
 generalize hW0:w.alloc (.cells #[.string key,.slice A ps.length c] 31)=W0
 have hz:w.heap.size+0 < W0.heap.size:=by rw [←hW0];simp
 have hG0:G w W0:=by rw [←hW0];exact G.new _ _
 have r0:W0.cell? ⟨w.heap.size,0,none⟩=some (.string key):=by rw [←hW0];simp
 have r1:W0.cell? ⟨w.heap.size,1,none⟩=some (.slice A ps.length c):=by rw [←hW0];simp
 clear hW0
 have q0:∀w',G W0 w'→w'.cell? ⟨w.heap.size,0,none⟩=some (.string key):=fun w' h=>(h.cell (by omega)).trans r0
 have q1:∀w',G W0 w'→w'.cell? ⟨w.heap.size,1,none⟩=some (.slice A ps.length c):=fun w' h=>(h.cell (by omega)).trans r1
 clear r0 r1
 have hgr:G W0 W0:=G.refl _
 go_upto_region 3 with (go_at_call 89;refine (hch _ hG0).mono ?_;rintro e w1 ⟨rfl,hg1⟩)
 clear hch hgr
 go_cut [3] (fun v3 wx=>OwnAt W0.heap.size m2 v3 wx∧G W0 wx)
 case first =>
  go_region_held3 (fun w'=>G W0 w') (first | exact hg1.drew | exact hgm.keep (by assumption) | exact G.alloc (by assumption) _ | exact KeepT.g hk2 (by assumption) | fail) (first
   | (go_at_call 91;(with_reducible refine Calls.mono (text_nil hm1 (by omega)) ?_);rintro e u1 ⟨A1,d1,rfl,hown1,hgm⟩;replace hown1:=OwnL.mono hown1 (show W0.heap.size≤_ from G.size (by assumption)))
   | (go_at_call 90;(with_reducible refine Calls.mono (nums_own (t:=112) (base:=W0.heap.size) hm2 (by omega) (by omega) (by decide) (hown1.g (G.new _ _)) (blk_new _ _ _) (G.size (by assumption))) ?_);rintro e u2 ⟨A2,d2,rfl,hown2,hk2⟩)
   | (go_at_call 90;(with_reducible refine Calls.mono (nums_own (t:=112) (base:=W0.heap.size) hm2 (by omega) (by omega) (by decide) hown1 (hgm.blk (blk_new _ _ _)) (G.size (by assumption))) ?_);rintro e u2 ⟨A2,d2,rfl,hown2,hk2⟩))
  all_goals
   have hGe:G W0 u2:=by assumption
   go_wp2_with fail
   go_meet
   exact ⟨⟨_,_,rfl,hown2⟩,hGe⟩
 case rest =>
  obtain ⟨⟨A3,d3,rfl,hown3⟩,hgc⟩:=hcut
  replace hown3:=Lib.hid hown3
  clear hg1
  go_wp2_with fail
  go_loopw [3,23] (fun v i wr=>∃(k:Nat) (m:List UInt8) (A8:Option Addr) (c8:Nat),v=.slice A8 m.length c8∧i=.int .i64 k∧k≤ps.length∧m.length≤1073741850+k * 1073762100∧Hid (m=m2++((ps.map PutM.p).take k).flatMap putBytes)∧Hid (OwnL 5 1 byteC wr W0.heap.size (.slice A8 m.length c8) m)∧G W0 wr) (fun _ i _=>ps.length - (intOf i).toNat)
  case atStart=>exact ⟨0,m2,A3,d3,rfl,rfl,Nat.zero_le _,by omega,by simp [Hid],hown3,hgc⟩
  case round =>
   obtain ⟨wo,rfl⟩:∃wo:World,wo=wr:=⟨_,rfl⟩
   clear hown3 hgc
   obtain ⟨k,m,A8,c8,rfl,rfl,hkl,hml,hm,hown,hgr⟩:=hrel
   have hg:=hG0.trans hgr
   by_cases hlt:k < ps.length
   ·obtain ⟨p,hp⟩:∃p,ps[k]?=some p:=⟨_,List.getElem?_eq_getElem hlt⟩
    have hpm:=List.mem_of_getElem? hp
    obtain ⟨z1,zE,z2,z3⟩:=hs2.out p hpm
    have hsl:=(hin.out.g (Nat.le_refl _) hg).1.get hp
    have hdat:=hin.out.2 p hpm
    have hsy:=hsmall.out.2 p.p (List.mem_map.2 ⟨p,hpm,rfl⟩)
    obtain ⟨pst,pex,pA,pc,pd⟩:=p
    obtain ⟨y1,y2,y3,y4⟩:pd.length≤20∧(∀s ∈ pd,s.size≤1000)∧-1≤pex∧pex≤1099511627776:=hsy
    have hfl:((ps.map PutM.p).take (k+1)).flatMap putBytes=((ps.map PutM.p).take k).flatMap putBytes++putBytes ⟨pst,pex,pd⟩:=flat_take_succ putBytes (puts_take hp)
    simp only at z1 zE z2 z3 hdat
    obtain ⟨b,o,rfl,hb,hc⟩:=hsl
    have c0:=hc 0 _ rfl
    have c1:=hc 1 _ rfl
    have c2:=hc 2 _ rfl
    simp only [Nat.add_zero] at c0
    have n1:(0:Int)≤(k:Int):=by omega
    have n2:(k:Int) < (ps.length:Int):=by omega
    obtain ⟨mT,hmT⟩:∃m',m++textL pst.data.toList=m':=⟨_,rfl⟩
    obtain ⟨mH,hmH⟩:∃m',mT++(vL (zigN pex)++vL pd.length)=m':=⟨_,rfl⟩
    have hH:mH=m++putHead ⟨pst,pex,pd⟩:=by
     rw [←hmH,←hmT]
     unfold putHead
     simp only [List.append_assoc]
    have lT:mT.length≤m.length+pst.size+10:=by rw [←hmT,List.length_append];have:=textL_len pst;omega
    have lH:mH.length≤mT.length+20:=by
     rw [←hmH,List.length_append,List.length_append]
     have:=vL_len (zigN pex)
     have:=vL_len pd.length
     omega
    replace hH:=Lib.hid hH
    replace hmT:=Lib.hid hmT
    replace hmH:=Lib.hid hmH
    replace hfl:=Lib.hid hfl
    have hzg:=fun w'=>zig_any pex w' y3 y4
    have hzb:=zig_lt y3 y4
    have hwz:IntKind.u64.wrap (pd.length:Int)=(pd.length:Int):=by rw [IntKind.wrap_u64];omega
    clear hp hc
    go_upto_region 7 with fail
    have hbx:=blk_new wo #[.string pst,.int .i64 pex,.slice pA pd.length pc] 110
    have hgn:=G.new wo (.cells #[.string pst,.int .i64 pex,.slice pA pd.length pc] 110)
    generalize wo.alloc (.cells #[.string pst,.int .i64 pex,.slice pA pd.length pc] 110)=wx at *
    generalize hX:wo.heap.size=X at *
    replace hX:=Lib.hid hX
    have x0:∀w',G wx w'→w'.cell? ⟨X,0,none⟩=some (.string pst):=fun w' h=>(blk_cell (h.blk hbx) 0).trans rfl
    have x1:∀w',G wx w'→w'.cell? ⟨X,1,none⟩=some (.int .i64 pex):=fun w' h=>(blk_cell (h.blk hbx) 1).trans rfl
    have x2:∀w',G wx w'→w'.cell? ⟨X,2,none⟩=some (.slice pA pd.length pc):=fun w' h=>(blk_cell (h.blk hbx) 2).trans rfl
    have hownx:∀w',G wx w'→OwnL 5 1 byteC w' W0.heap.size (.slice A8 m.length c8) m:=fun w' h=>hown.out.g (hgn.trans h)
    have hdatx:∀w',G wx w'→Sl strC 1 w' w.heap.size pA pd:=fun w' h=>hdat.g (Nat.le_refl _) (hg.trans (hgn.trans h))
    have hgx:G W0 wx:=hgr.trans hgn
    replace hownx:=Lib.hid hownx
    replace hdatx:=Lib.hid hdatx
    replace hbx:=Lib.hid hbx
    clear hgn hown hdat c0 c1 c2 hg
    go_cut [3] (fun v3 wy=>OwnAt wx.heap.size mH v3 wy∧G wx wy)
    case first =>
     go_region_held3 (fun w'=>G wx w') (first | exact (G.refl _).drew | exact hgm.keep (by assumption) | assumption | exact G.alloc (by assumption) _ | exact KeepT.g hk2 (by assumption) | fail) (first
      | (go_at_call 91;(with_reducible refine Calls.mono (textOf_own hmT (by omega) (by omega) (hownx.out _ (by assumption))) ?_);rintro e u1 ⟨A1,d1,rfl,hown1,hgm⟩;replace hown1:=OwnL.mono hown1 (show wx.heap.size≤_ from G.size (by assumption)))
      | (go_at_call 92;(with_reducible refine Calls.mono (hzg _) ?_);rintro e u3 ⟨rfl,rfl⟩)
      | (go_at_call 90;(with_reducible refine Calls.mono (nums_two (t:=112) (base:=wx.heap.size) hmH (by omega) hzb (by omega) (by decide) (hown1.g (G.new _ _)) (blk_new _ _ _) (G.size (by assumption))) ?_);rintro e u2 ⟨A2,d2,rfl,hown2,hk2⟩)
      | (go_at_call 90;(with_reducible refine Calls.mono (nums_two (t:=112) (base:=wx.heap.size) hmH (by omega) hzb (by omega) (by decide) hown1 (hgm.blk (blk_new _ _ _)) (G.size (by assumption))) ?_);rintro e u2 ⟨A2,d2,rfl,hown2,hk2⟩))
     all_goals
      have hGe:G wx u2:=by assumption
      go_wp2_with fail
      go_meet
      exact ⟨⟨_,_,rfl,hown2⟩,hGe⟩
    case rest =>
     obtain ⟨⟨A4,d4,rfl,hown4⟩,hgy⟩:=hcut
     have x2c:=x2 _ hgy
     replace hown4:=Lib.hid hown4
     go_wp2_with fail
     go_loopw [3,43] (fun v j wr=>∃(i:Nat) (n:List UInt8) (A9:Option Addr) (c9:Nat),v=.slice A9 n.length c9∧j=.int .i64 i∧i≤pd.length∧n.length≤mH.length+i * 1010∧Hid (n=mH++(pd.take i).flatMap fun d=>textL d.data.toList)∧Hid (OwnL 5 1 byteC wr wx.heap.size (.slice A9 n.length c9) n)∧G wx wr) (fun _ j _=>pd.length - (intOf j).toNat)
     case atStart=>exact ⟨0,mH,A4,d4,rfl,rfl,Nat.zero_le _,by omega,by simp [Hid],hown4,hgy⟩
     case round =>
      clear hown4 hgy x2c
      obtain ⟨i,n,A9,c9,rfl,rfl,hi,hnl,hn,hown,hgw⟩:=hrel
      by_cases hil:i < pd.length
      ·obtain ⟨s,hs⟩:∃s,pd[i]?=some s:=⟨_,List.getElem?_eq_getElem hil⟩
       have hzs:=y2 s (List.mem_of_getElem? hs)
       obtain ⟨b3,o3,rfl,_,d3⟩:=(hdatx.out _ hgw).str hs
       have hfs:=flat_take_succ (fun d:ByteArray=>textL d.data.toList) hs
       have htl:=textL_len s
       obtain ⟨n2,hn2⟩:∃n2,n++textL s.data.toList=n2:=⟨_,rfl⟩
       have hn2l:n2.length=n.length+(textL s.data.toList).length:=by rw [←hn2,List.length_append]
       have hn2e:n2=mH++(pd.take (i+1)).flatMap fun d=>textL d.data.toList:=by rw [hfs,←List.append_assoc,←hn.out,hn2]
       have hcl:=textOf_own (Lib.hid hn2) (by omega) (by omega:s.size≤1099511627776) hown.out
       have m1':(0:Int)≤(i:Int):=by omega
       have m2':(i:Int) < (pd.length:Int):=by omega
       replace hn2:=Lib.hid hn2
       replace hn2e:=Lib.hid hn2e
       replace hn2l:=Lib.hid hn2l
       replace hfs:=Lib.hid hfs
       clear hs hn hown
       go_wp2_with fail
       refine hcl.mono ?_
       clear hcl
       rintro e w5 ⟨A5,d5,rfl,hown5,hg5⟩
       replace hown5:=Lib.hid (OwnL.mono hown5 hgw.size)
       go_wp2_with fail
       go_roundw
       case rel=>exact ⟨i+1,n2,A5,d5,rfl,by go_num,by omega,by have:=hn2l.out;omega,hn2e,hown5,hgw.trans hg5⟩
       case measure=>(simp [intOf] <;> omega)
      ·have he:n=m2++((ps.map PutM.p).take (k+1)).flatMap putBytes:=by
        rw [hn.out,List.take_of_length_le (by omega),hfl.out,←List.append_assoc,←hm.out,hH.out,putBytes_head,←List.append_assoc]
       replace he:=Lib.hid he
       have hownf:=Lib.hid (OwnL.mono hown.out hgx.size)
       clear hn hown
       go_wp2_with fail
       go_roundw
       case rel=>exact ⟨k+1,n,A9,c9,rfl,by go_num,by omega,by omega,he,hownf,hgx.trans hgw⟩
       case measure=>(simp [intOf] <;> omega)
   ·have he:batL key (ps.map PutM.p)=m:=by rw [hyes.out,hm.out,List.take_of_length_le (by rw [List.length_map];omega)]
    have hne:=hpos.out
    rw [he] at hne
    replace he:=Lib.hid he
    replace hne:=Lib.hid hne
    clear hm
    go_wp2_with fail
    go_ret
    rw [he.out]
    exact ⟨A8,c8,rfl,OwnL.mono hown.out hG0.size,hg,fun h=>absurd h hne.out⟩
set_option maxRecDepth 100000 in
set_option maxHeartbeats 8000000 in
theorem refBatEnc_any (key : ByteArray) (ps : List PutM) (A : Option Addr) (c : Nat) (w : World) (hin : PutsIn w w.heap.size A ps) (hk : key.size ≤ 1073741824) (hsm : PutsSmall ps) :
  Calls Tryz.prog 53 #[.agg #[.string key,.slice A ps.length c]] w (RetBytesN w (batL key (ps.map PutM.p))):=by
 have hch:∀w',G w w'→Calls Tryz.prog 46 #[.agg #[.string key,.slice A ps.length c]] w' fun e w''=>e=.returned (.int .i64 (chkN key (ps.map PutM.p)))∧G w' w'':=fun w' hg=>refCheck_any key ps A c w' (PutsIn.more (hin.g (Nat.le_refl _) hg) hg.size) hk hsm
 obtain ⟨hs1,hs2⟩:=hsm
 replace hin:=Lib.hid hin
 replace hs2:=Lib.hid hs2
 by_cases hok:chkN key (ps.map PutM.p)=0
 case neg =>
  have hno:=Lib.hid (batL_no hok)
  have t1:(((chkN key (ps.map PutM.p):Nat):Int) != 0)=true:=by rw [bne_iff_ne];omega
  generalize chkN key (ps.map PutM.p)=cn at *
  replace hok:=Lib.hid hok
  go_enter Tryz.func53,Tryz.ntmps53
  go_wp2_with fail
  refine (hch _ (G.new _ _)).mono ?_
  clear hch
  rintro e w1 ⟨rfl,hg⟩
  go_wp2_with fail
  go_ret
  exact ⟨none,0,by rw [hno.out];rfl,by rw [hno.out];exact OwnL.nil,(G.new _ _).trans hg,fun _=>rfl⟩
 have hsmall:=chk_small hok
 rw [List.length_map] at hsmall
 have hl8:=hsmall.1
 simp only [hok] at hch
 obtain ⟨m1,hm1⟩:∃m,textL key.data.toList=m:=⟨_,rfl⟩
 obtain ⟨m2,hm2⟩:∃m,m1++vL ps.length=m:=⟨_,rfl⟩
 have b1:m1.length≤key.size+10:=by rw [←hm1];exact textL_len key
 have b2:m2.length≤key.size+20:=by rw [←hm2,List.length_append];have:=vL_len ps.length;omega
 have hyes:batL key (ps.map PutM.p)=m2++(ps.map PutM.p).flatMap putBytes:=by
  rw [batL_ok hok,←hm2,←hm1]
  unfold batBytes
  rw [List.length_map,List.append_assoc]
 have hpos:batL key (ps.map PutM.p)≠[]:=by
  rw [batL_ok hok]
  intro h
  have:=batBytes_pos key (ps.map PutM.p)
  rw [h] at this
  simp at this
 replace hm1:=Lib.hid hm1
 replace hm2:=Lib.hid hm2
 replace hyes:=Lib.hid hyes
 replace hpos:=Lib.hid hpos
 replace hsmall:=Lib.hid hsmall
 clear hok
 go_enter Tryz.func53,Tryz.ntmps53
 go_upto_region 1 with fail
 generalize hW0:w.alloc (.cells #[.string key,.slice A ps.length c] 31)=W0
 have hz:w.heap.size+0 < W0.heap.size:=by rw [←hW0];simp
 have hG0:G w W0:=by rw [←hW0];exact G.new _ _
 have r0:W0.cell? ⟨w.heap.size,0,none⟩=some (.string key):=by rw [←hW0];simp
 have r1:W0.cell? ⟨w.heap.size,1,none⟩=some (.slice A ps.length c):=by rw [←hW0];simp
 clear hW0
 have q0:∀w',G W0 w'→w'.cell? ⟨w.heap.size,0,none⟩=some (.string key):=fun w' h=>(h.cell (by omega)).trans r0
 have q1:∀w',G W0 w'→w'.cell? ⟨w.heap.size,1,none⟩=some (.slice A ps.length c):=fun w' h=>(h.cell (by omega)).trans r1
 clear r0 r1
 have hgr:G W0 W0:=G.refl _
 go_upto_region 3 with (go_at_call 46;refine (hch _ hG0).mono ?_;rintro e w1 ⟨rfl,hg1⟩)
 clear hch hgr
 go_cut [3] (fun v3 wx=>OwnAt W0.heap.size m2 v3 wx∧G W0 wx)
 case first =>
  go_region_held3 (fun w'=>G W0 w') (first | exact hg1.drew | exact hgm.keep (by assumption) | exact KeepT.g hk2 (by assumption) | fail) (first
   | (go_at_call 83;(with_reducible refine Calls.mono (refText_nil hm1 (by omega)) ?_);rintro e u1 ⟨A1,d1,rfl,hown1,hgm⟩;replace hown1:=OwnL.mono hown1 (show W0.heap.size≤_ from G.size (by assumption)))
   | (go_at_call 84;(with_reducible refine Calls.mono (num7_own (base:=W0.heap.size) hown1 (G.size (by assumption)) (by omega) (by omega) hm2) ?_);rintro e u2 ⟨A2,d2,rfl,hown2,hk2⟩))
  all_goals
   have hGe:G W0 u2:=by assumption
   go_wp2_with fail
   go_meet
   exact ⟨⟨_,_,rfl,hown2⟩,hGe⟩
 case rest =>
  obtain ⟨⟨A3,d3,rfl,hown3⟩,hgc⟩:=hcut
  replace hown3:=Lib.hid hown3
  clear hg1
  go_wp2_with fail
  go_loopw [3,4] (fun v i wr=>∃(k:Nat) (m:List UInt8) (A8:Option Addr) (c8:Nat),v=.slice A8 m.length c8∧i=.int .i64 k∧k≤ps.length∧m.length≤1073741850+k * 1073762100∧Hid (m=m2++((ps.map PutM.p).take k).flatMap putBytes)∧Hid (OwnL 5 1 byteC wr W0.heap.size (.slice A8 m.length c8) m)∧G W0 wr) (fun _ i _=>ps.length - (intOf i).toNat)
  case atStart=>exact ⟨0,m2,A3,d3,rfl,rfl,Nat.zero_le _,by omega,by simp [Hid],hown3,hgc⟩
  case round =>
   obtain ⟨wo,rfl⟩:∃wo:World,wo=wr:=⟨_,rfl⟩
   clear hown3 hgc
   obtain ⟨k,m,A8,c8,rfl,rfl,hkl,hml,hm,hown,hgr⟩:=hrel
   have hg:=hG0.trans hgr
   have g1:=q1 wo hgr
   by_cases hlt:k < ps.length
   ·obtain ⟨p,hp⟩:∃p,ps[k]?=some p:=⟨_,List.getElem?_eq_getElem hlt⟩
    have hpm:=List.mem_of_getElem? hp
    obtain ⟨z1,zE,z2,z3⟩:=hs2.out p hpm
    have hsl:=(hin.out.g (Nat.le_refl _) hg).1.get hp
    have hdat:=hin.out.2 p hpm
    have hsy:=hsmall.out.2 p.p (List.mem_map.2 ⟨p,hpm,rfl⟩)
    obtain ⟨pst,pex,pA,pc,pd⟩:=p
    obtain ⟨y1,y2,y3,y4⟩:pd.length≤20∧(∀s ∈ pd,s.size≤1000)∧-1≤pex∧pex≤1099511627776:=hsy
    have hfl:((ps.map PutM.p).take (k+1)).flatMap putBytes=((ps.map PutM.p).take k).flatMap putBytes++putBytes ⟨pst,pex,pd⟩:=flat_take_succ putBytes (puts_take hp)
    simp only at z1 zE z2 z3 hdat
    obtain ⟨b,o,rfl,hb,hc⟩:=hsl
    have c0:=hc 0 _ rfl
    have c1:=hc 1 _ rfl
    have c2:=hc 2 _ rfl
    simp only [Nat.add_zero] at c0
    have n1:(0:Int)≤(k:Int):=by omega
    have n2:(k:Int) < (ps.length:Int):=by omega
    obtain ⟨mT,hmT⟩:∃m',m++textL pst.data.toList=m':=⟨_,rfl⟩
    obtain ⟨mZ,hmZ⟩:∃m',mT++vL (zigN pex)=m':=⟨_,rfl⟩
    obtain ⟨mH,hmH⟩:∃m',mZ++vL pd.length=m':=⟨_,rfl⟩
    have hH:mH=m++putHead ⟨pst,pex,pd⟩:=by
     rw [←hmH,←hmZ,←hmT]
     unfold putHead
     simp only [List.append_assoc]
    have lT:mT.length≤m.length+pst.size+10:=by rw [←hmT,List.length_append];have:=textL_len pst;omega
    have lV:=vL_len (zigN pex)
    have lZ:mZ.length≤mT.length+10:=by rw [←hmZ,List.length_append];omega
    have lH:mH.length≤mZ.length+10:=by rw [←hmH,List.length_append];have:=vL_len pd.length;omega
    replace hH:=Lib.hid hH
    replace hmT:=Lib.hid hmT
    replace hmZ:=Lib.hid hmZ
    replace hmH:=Lib.hid hmH
    replace hfl:=Lib.hid hfl
    have hzg:=fun w'=>refZig_any pex w' y3 y4
    have hzb:=zig_lt y3 y4
    have hzv:=fun w'=>refVarint_any (zigN pex) w' hzb
    clear hp hc
    go_wp2_with fail
    have hbx:=blk_new wo #[.string pst,.int .i64 pex,.slice pA pd.length pc] 110
    have hgn:=G.new wo (.cells #[.string pst,.int .i64 pex,.slice pA pd.length pc] 110)
    generalize wo.alloc (.cells #[.string pst,.int .i64 pex,.slice pA pd.length pc] 110)=wx at *
    generalize hX:wo.heap.size=X at *
    replace hX:=Lib.hid hX
    have x1:∀w',G wx w'→w'.cell? ⟨X,1,none⟩=some (.int .i64 pex):=fun w' h=>(blk_cell (h.blk hbx) 1).trans rfl
    have x2:∀w',G wx w'→w'.cell? ⟨X,2,none⟩=some (.slice pA pd.length pc):=fun w' h=>(blk_cell (h.blk hbx) 2).trans rfl
    have hgx:G W0 wx:=hgr.trans hgn
    have hdatx:∀w',G wx w'→Sl strC 1 w' w.heap.size pA pd:=fun w' h=>hdat.g (Nat.le_refl _) (hg.trans (hgn.trans h))
    have hct:=refTextOf_own hmT (by omega) (by omega:pst.size≤1099511627776) (hown.out.g hgn)
    replace hdatx:=Lib.hid hdatx
    replace hbx:=Lib.hid hbx
    clear hgn hown hdat c0 c1 c2 hg
    refine hct.mono ?_
    clear hct
    rintro e u1 ⟨A1,d1,rfl,hown1,hg1⟩
    have x1u:=x1 _ hg1
    replace hown1:=Lib.hid hown1
    go_wp2_with fail
    refine (hzg _).mono ?_
    clear hzg
    rintro e u2 ⟨rfl,rfl⟩
    go_wp2_with fail
    refine (hzv _).mono ?_
    clear hzv
    rintro e u3 ⟨A2,d2,rfl,hown2,hg2⟩
    have hsl2:=OwnL.self byteC_len hown2
    have hown3:=hown1.out.g hg2
    have hz2:=hg2.size
    have hA2:A2=none→vL (zigN pex)=[]:=fun h=>(h ▸ hsl2).of_none
    have hg3:=hg1.trans hg2
    have hz3:=hg3.size
    replace hown3:=Lib.hid hown3
    clear hown2 hown1 hg2 x1u
    go_wp2_with (at_builtin;refine wpList_append_but byte_elem _ rfl (.tmp 33) (.tmp 37) rfl wx.heap.size _ mT rfl hown3.out u3.heap.size A2 d2 (vL (zigN pex)) rfl hA2 hsl2 (by omega) (by omega) (by omega) ?_;intro v4 u4 hown4 hk4 hbut;clear hbut hA2 hsl2 hown3;rw [hmZ.out] at hown4;obtain ⟨A4,d4,e4,_,_,_⟩:=OwnL.sl byteC_len hown4;subst e4;replace hown4:=Lib.hid hown4;replace hk4:=hk4.g hg3;have x2u:=x2 _ hk4)
    refine (num7_own (base:=wx.heap.size) hown4.out hk4.size (by omega) (by omega) hmH).mono ?_
    rintro e u5 ⟨A5,d5,rfl,hown5,hk5⟩
    have hgy:G wx u5:=KeepT.g hk5 hk4
    replace hown5:=Lib.hid hown5
    clear hown4 hk5 x2u hg3 hg1
    go_wp2_with fail
    go_loopw [3,6] (fun v j wr=>∃(i:Nat) (n:List UInt8) (A9:Option Addr) (c9:Nat),v=.slice A9 n.length c9∧j=.int .i64 i∧i≤pd.length∧n.length≤mH.length+i * 1010∧Hid (n=mH++(pd.take i).flatMap fun d=>textL d.data.toList)∧Hid (OwnL 5 1 byteC wr wx.heap.size (.slice A9 n.length c9) n)∧G wx wr) (fun _ j _=>pd.length - (intOf j).toNat)
    case atStart=>exact ⟨0,mH,A5,d5,rfl,rfl,Nat.zero_le _,by omega,by simp [Hid],hown5,hgy⟩
    case round =>
     clear hown5 hgy hk4
     obtain ⟨i,n,A9,c9,rfl,rfl,hi,hnl,hn,hown,hgw⟩:=hrel
     have x2w:=x2 _ hgw
     by_cases hil:i < pd.length
     ·obtain ⟨s,hs⟩:∃s,pd[i]?=some s:=⟨_,List.getElem?_eq_getElem hil⟩
      have hzs:=y2 s (List.mem_of_getElem? hs)
      obtain ⟨b3,o3,rfl,_,d3⟩:=(hdatx.out _ hgw).str hs
      have hfs:=flat_take_succ (fun d:ByteArray=>textL d.data.toList) hs
      have htl:=textL_len s
      obtain ⟨n2,hn2⟩:∃n2,n++textL s.data.toList=n2:=⟨_,rfl⟩
      have hn2l:n2.length=n.length+(textL s.data.toList).length:=by rw [←hn2,List.length_append]
      have hn2e:n2=mH++(pd.take (i+1)).flatMap fun d=>textL d.data.toList:=by rw [hfs,←List.append_assoc,←hn.out,hn2]
      have hcl:=refTextOf_own (Lib.hid hn2) (by omega) (by omega:s.size≤1099511627776) hown.out
      have m1':(0:Int)≤(i:Int):=by omega
      have m2':(i:Int) < (pd.length:Int):=by omega
      replace hn2:=Lib.hid hn2
      replace hn2e:=Lib.hid hn2e
      replace hn2l:=Lib.hid hn2l
      replace hfs:=Lib.hid hfs
      clear hs hn hown
      go_wp2_with fail
      refine hcl.mono ?_
      clear hcl
      rintro e w5 ⟨A5,d5,rfl,hown5,hg5⟩
      replace hown5:=Lib.hid (OwnL.mono hown5 hgw.size)
      go_wp2_with fail
      go_roundw
      case rel=>exact ⟨i+1,n2,A5,d5,rfl,by go_num,by omega,by have:=hn2l.out;omega,hn2e,hown5,hgw.trans hg5⟩
      case measure=>(simp [intOf] <;> omega)
     ·have he:n=m2++((ps.map PutM.p).take (k+1)).flatMap putBytes:=by
       rw [hn.out,List.take_of_length_le (by omega),hfl.out,←List.append_assoc,←hm.out,hH.out,putBytes_head,←List.append_assoc]
      replace he:=Lib.hid he
      have hownf:=Lib.hid (OwnL.mono hown.out hgx.size)
      clear hn hown
      go_wp2_with fail
      go_roundw
      case rel=>exact ⟨k+1,n,A9,c9,rfl,by go_num,by omega,by omega,he,hownf,hgx.trans hgw⟩
      case measure=>(simp [intOf] <;> omega)
   ·have he:batL key (ps.map PutM.p)=m:=by rw [hyes.out,hm.out,List.take_of_length_le (by rw [List.length_map];omega)]
    have hne:=hpos.out
    rw [he] at hne
    replace he:=Lib.hid he
    replace hne:=Lib.hid hne
    clear hm
    go_wp2_with fail
    go_ret
    rw [he.out]
    exact ⟨A8,c8,rfl,OwnL.mono hown.out hG0.size,hg,fun h=>absurd h hne.out⟩
end Go.Proofs.YtheogchkelmeeaaGreatDoor

/- event.EncodeEvent, penstockref7.EncodeEvent: what they answer. Conditions: texts of at most 2^30 bytes; the decoder's tables lie as the library lays them. -/
import Derived.Test.YtheogchkelmeeaaGreatDoorM10MsgDecodes
import Derived.Test.YtheogchkelmeeaaGreatDoorM11MsgDecodes
namespace Go.Proofs.YtheogchkelmeeaaGreatDoor
open Go.RowKit
/-- A row of bytes that is new; nil, if it is empty. -/
def RetBytesN (w:World) (l:List UInt8) (e:Ending) (w':World):Prop:=∃A c,e=.returned (.slice A l.length c)∧OwnL 5 1 byteC w' w.heap.size (.slice A l.length c) l∧G w w'∧(l=[]→A=none)
theorem KeepT.blk {e:TypeId} {base:Nat} {w w':World} (h:KeepT e base w w') {k:Nat} {cs:Array Value} {t:TypeId} {fz:Nat × Nat} (ht:t≠e) (hb:w.heap[k]?=some (.cells cs t fz)):w'.heap[k]?=some (.cells cs t fz):=h.2 k cs t fz ht hb
theorem textL_len (s:ByteArray):(textL s.data.toList).length≤s.size+10:=by
 unfold textL
 rw [List.length_append,data_len]
 have:=vL_len s.size
 omega
theorem text_nil {m:List UInt8} {s:ByteArray} {w:World} (hm:Hid (textL s.data.toList=m)) (hz:s.size≤1099511627776):Calls Tryz.prog 91 #[.slice none 0 0,.string s] w (RetBytes w m):=hm.out ▸ textOf_any [] none 0 s w Sl.nil (by simp) hz
theorem refText_nil {m:List UInt8} {s:ByteArray} {w:World} (hm:Hid (textL s.data.toList=m)) (hz:s.size≤1099511627776):Calls Tryz.prog 83 #[.slice none 0 0,.string s] w (RetBytes w m):=hm.out ▸ refTextOf_any [] none 0 s w Sl.nil (by simp) hz
/-- A number behind bytes, of a block of one number. -/
theorem nums_one {v0 : Value} {l m : List UInt8} {base n b : Nat} {w : World} {t : TypeId} (hown : OwnL 5 1 byteC w base v0 l) (hbase : base ≤ w.heap.size) (hl : l.length ≤ 1099511627776) (hn : n ≤ 4611686018427387904) (hm : Hid (l ++ vL n = m))
  (hb:w.heap[b]?=some (.cells #[.int .u64 n] t (0,0))) (ht:t≠5) :
  Calls Tryz.prog 90 #[v0,.slice (some ⟨b,0,none⟩) 1 1] w (GrownBytes w base m):=by
 have:=nums_any v0 l (some ⟨b,0,none⟩) 0 1 w.heap.size base [n] w hown hbase hl (Sl.of_blk u64C_len [n] hb rfl (blk_lt hb)) (Nat.le_refl _) (by simp) (by simp;omega) (fun b' o e=>by cases e;exact ⟨_,_,_,hb,ht⟩)
 rw [←hm.out]
 simpa using this
theorem nums_own {v0 : Value} {l m : List UInt8} {base n b : Nat} {w : World} {t : TypeId} (hm : Hid (l ++ vL n = m)) (hl : l.length ≤ 1099511627776) (hn : n ≤ 4611686018427387904) (ht : t ≠ 5) (hown : OwnL 5 1 byteC w base v0 l) (hb : w.heap[b]? = some (.cells #[.int .u64 n] t (0, 0))) (hbase : base ≤ w.heap.size) :
  Calls Tryz.prog 90 #[v0,.slice (some ⟨b,0,none⟩) 1 1] w (GrownBytes w base m):=nums_one hown hbase hl hn hm hb ht
theorem textOf_own {l m : List UInt8} {A : Option Addr} {c base : Nat} {s : ByteArray} {w : World} (hm : Hid (l ++ textL s.data.toList = m)) (hl : l.length ≤ 1099511627776) (hz : s.size ≤ 1099511627776) (hown : OwnL 5 1 byteC w base (.slice A l.length c) l) :
  Calls Tryz.prog 91 #[.slice A l.length c,.string s] w (RetBytes w m):=hm.out ▸ textOf_any l A c s w (OwnL.self byteC_len hown) hl hz
theorem refTextOf_own {l m : List UInt8} {A : Option Addr} {c base : Nat} {s : ByteArray} {w : World} (hm : Hid (l ++ textL s.data.toList = m)) (hl : l.length ≤ 1099511627776) (hz : s.size ≤ 1099511627776) (hown : OwnL 5 1 byteC w base (.slice A l.length c) l) :
  Calls Tryz.prog 83 #[.slice A l.length c,.string s] w (RetBytes w m):=hm.out ▸ refTextOf_any l A c s w (OwnL.self byteC_len hown) hl hz
def OwnAt (base:Nat) (m:List UInt8) (v:Value) (w:World):Prop:=∃A c,v=.slice A m.length c∧OwnL 5 1 byteC w base (.slice A m.length c) m
/-- An event's block, new. -/
theorem ev_box {w W0:World} {s d:ByteArray} {v x y z i:Int} (hW0:w.alloc (.cells #[.string s,.int .i64 v,.string d,.int .i64 x,.int .i64 y,.int .i64 z,.int .i64 i] 76)=W0):w.heap.size+0 < W0.heap.size∧G w W0∧(∀w',G W0 w'→w'.cell? ⟨w.heap.size,0,none⟩=some (.string s))∧(∀w',G W0 w'→w'.cell? ⟨w.heap.size,1,none⟩=some (.int .i64 v))∧(∀w',G W0 w'→w'.cell? ⟨w.heap.size,2,none⟩=some (.string d))∧(∀w',G W0 w'→w'.cell? ⟨w.heap.size,3,none⟩=some (.int .i64 x))∧(∀w',G W0 w'→w'.cell? ⟨w.heap.size,4,none⟩=some (.int .i64 y))∧(∀w',G W0 w'→w'.cell? ⟨w.heap.size,5,none⟩=some (.int .i64 z))∧(∀w',G W0 w'→w'.cell? ⟨w.heap.size,6,none⟩=some (.int .i64 i)):=by
 have hz:w.heap.size+0 < W0.heap.size:=by rw [←hW0];simp
 have r:∀k c,(#[.string s,.int .i64 v,.string d,.int .i64 x,.int .i64 y,.int .i64 z,.int .i64 i]:Array Value)[k]?=some c→W0.cell? ⟨w.heap.size,k,none⟩=some c:=fun k c h=>by
  rw [←hW0]
  exact (blk_cell (blk_new w _ _) k).trans h
 have q:∀k c,(#[.string s,.int .i64 v,.string d,.int .i64 x,.int .i64 y,.int .i64 z,.int .i64 i]:Array Value)[k]?=some c→∀w',G W0 w'→w'.cell? ⟨w.heap.size,k,none⟩=some c:=fun k c h w' hg=>(hg.cell (by omega)).trans (r k c h)
 exact ⟨hz,by rw [←hW0];exact G.new _ _,q 0 _ rfl,q 1 _ rfl,q 2 _ rfl,q 3 _ rfl,q 4 _ rfl,q 5 _ rfl,q 6 _ rfl⟩
set_option maxRecDepth 100000 in
set_option maxHeartbeats 4000000 in
theorem evEnc_any (s d : ByteArray) (v x y z i : Int) (w : World) (hs : s.size ≤ 1073741824) (hd : d.size ≤ 1073741824) (hT : Tabs w) :
  Calls Tryz.prog 97 #[.agg (Ev.cells ⟨s,v,d,⟨x,y,z⟩,i⟩).toArray] w (RetBytesN w (evL ⟨s,v,d,⟨x,y,z⟩,i⟩)):=by
 replace hT:=Lib.hid hT
 have hn:∀w',G w w'→Calls Tryz.prog 108 #[.string s] w' fun e w''=>e=.returned (.bool (nameB s))∧G w' w'':=fun w' hg=>name_any s w' (by omega) (hT.out.g hg)
 have hv:∀w',G w w'→Calls Tryz.prog 110 #[.string d] w' fun e w''=>e=.returned (.bool (validB d))∧G w' w'':=fun w' hg=>valid_any d w' (by omega) (hT.out.g hg)
 have ho:∀w',Calls Tryz.prog 102 #[.agg #[.int .i64 x,.int .i64 y,.int .i64 z]] w' fun e w''=>e=.returned (.bool (stOk ⟨x,y,z⟩))∧G w' w'':=fun w'=>sound_any x y z w'
 have hiff:=evOk_iff ⟨s,v,d,⟨x,y,z⟩,i⟩
 simp only at hiff
 have hfalse:¬ (nameB s=true∧(1≤v∧v≤1099511627776)∧d.size≤1000∧validB d=true∧stOk ⟨x,y,z⟩=true∧(0≤i∧i≤160))→evL ⟨s,v,d,⟨x,y,z⟩,i⟩=[]:=fun h=>evL_none (by
  cases hk:evOk ⟨s,v,d,⟨x,y,z⟩,i⟩ with
  | false=>rfl
  | true=>exact absurd (hiff.1 hk) h)
 replace hfalse:=Lib.hid hfalse
 replace hiff:=Lib.hid hiff
 show Calls _ _ #[.agg #[.string s,.int .i64 v,.string d,.int .i64 x,.int .i64 y,.int .i64 z,.int .i64 i]] _ _
 cases h1:nameB s with
 | false =>
  have hno:Hid (evL ⟨s,v,d,⟨x,y,z⟩,i⟩=[]):=hfalse.out (by simp [h1])
  rw [h1] at hn
  clear h1
  go_enter Tryz.func97,Tryz.ntmps97
  go_wp2_with fail
  generalize hW0:w.alloc (.cells #[.string s,.int .i64 v,.string d,.int .i64 x,.int .i64 y,.int .i64 z,.int .i64 i] 76)=W0
  obtain ⟨hz,hG0,q0,q1,q2,q3,q4,q5,q6⟩:=ev_box hW0
  clear hW0
  refine (hn W0 hG0).mono ?_
  rintro e w1 ⟨rfl,hg1⟩
  go_wp2_with fail
  go_ret
  exact ⟨none,0,by rw [hno.out];rfl,by rw [hno.out];exact OwnL.nil,hG0.trans hg1,fun _=>rfl⟩
 | true =>
  rw [h1] at hn
  replace h1:=Lib.hid h1
  by_cases h2:1≤v
  case neg =>
   have hno:Hid (evL ⟨s,v,d,⟨x,y,z⟩,i⟩=[]):=hfalse.out (by omega)
   have t2:decide (v < 1)=true:=decide_eq_true (by omega)
   have t2':v < 1:=by omega
   clear h2
   go_enter Tryz.func97,Tryz.ntmps97
   go_wp2_with fail
   generalize hW0:w.alloc (.cells #[.string s,.int .i64 v,.string d,.int .i64 x,.int .i64 y,.int .i64 z,.int .i64 i] 76)=W0
   obtain ⟨hz,hG0,q0,q1,q2,q3,q4,q5,q6⟩:=ev_box hW0
   clear hW0
   refine (hn W0 hG0).mono ?_
   rintro e w1 ⟨rfl,hg1⟩
   go_wp2_with fail
   go_ret
   exact ⟨none,0,by rw [hno.out];rfl,by rw [hno.out];exact OwnL.nil,hG0.trans hg1,fun _=>rfl⟩
  have t2:decide (v < 1)=false:=decide_eq_false (by omega)
  by_cases h3:v≤1099511627776
  case neg =>
   have hno:Hid (evL ⟨s,v,d,⟨x,y,z⟩,i⟩=[]):=hfalse.out (by omega)
   have t3:decide (1099511627776 < v)=true:=decide_eq_true (by omega)
   have t3':1099511627776 < v:=by omega
   clear h3
   go_enter Tryz.func97,Tryz.ntmps97
   go_wp2_with fail
   generalize hW0:w.alloc (.cells #[.string s,.int .i64 v,.string d,.int .i64 x,.int .i64 y,.int .i64 z,.int .i64 i] 76)=W0
   obtain ⟨hz,hG0,q0,q1,q2,q3,q4,q5,q6⟩:=ev_box hW0
   clear hW0
   refine (hn W0 hG0).mono ?_
   rintro e w1 ⟨rfl,hg1⟩
   go_wp2_with fail
   go_ret
   exact ⟨none,0,by rw [hno.out];rfl,by rw [hno.out];exact OwnL.nil,hG0.trans hg1,fun _=>rfl⟩
  have t3:decide (1099511627776 < v)=false:=decide_eq_false (by omega)
  by_cases h4:d.size≤1000
  case neg =>
   have hno:Hid (evL ⟨s,v,d,⟨x,y,z⟩,i⟩=[]):=hfalse.out (by omega)
   have t4:decide (1000 < (d.size:Int))=true:=decide_eq_true (by omega)
   have t4':1000 < (d.size:Int):=by omega
   clear h4
   go_enter Tryz.func97,Tryz.ntmps97
   go_wp2_with fail
   generalize hW0:w.alloc (.cells #[.string s,.int .i64 v,.string d,.int .i64 x,.int .i64 y,.int .i64 z,.int .i64 i] 76)=W0
   obtain ⟨hz,hG0,q0,q1,q2,q3,q4,q5,q6⟩:=ev_box hW0
   clear hW0
   refine (hn W0 hG0).mono ?_
   rintro e w1 ⟨rfl,hg1⟩
   go_wp2_with fail
   go_ret
   exact ⟨none,0,by rw [hno.out];rfl,by rw [hno.out];exact OwnL.nil,hG0.trans hg1,fun _=>rfl⟩
  have t4:decide (1000 < (d.size:Int))=false:=decide_eq_false (by omega)
  have t4':¬ 1000 < (d.size:Int):=by omega
  cases h5:validB d with
  | false =>
   have hno:Hid (evL ⟨s,v,d,⟨x,y,z⟩,i⟩=[]):=hfalse.out (by simp [h5])
   rw [h5] at hv
   clear h5
   go_enter Tryz.func97,Tryz.ntmps97
   go_wp2_with fail
   generalize hW0:w.alloc (.cells #[.string s,.int .i64 v,.string d,.int .i64 x,.int .i64 y,.int .i64 z,.int .i64 i] 76)=W0
   obtain ⟨hz,hG0,q0,q1,q2,q3,q4,q5,q6⟩:=ev_box hW0
   clear hW0
   refine (hn W0 hG0).mono ?_
   rintro e w1 ⟨rfl,hg1⟩
   go_wp2_with fail
   refine (hv w1 (hG0.trans hg1)).mono ?_
   rintro e w2 ⟨rfl,hg2⟩
   replace hg2:=hg1.trans hg2
   go_wp2_with fail
   go_ret
   exact ⟨none,0,by rw [hno.out];rfl,by rw [hno.out];exact OwnL.nil,hG0.trans hg2,fun _=>rfl⟩
  | true =>
   rw [h5] at hv
   replace h5:=Lib.hid h5
   cases h6:stOk ⟨x,y,z⟩ with
   | false =>
    have hno:Hid (evL ⟨s,v,d,⟨x,y,z⟩,i⟩=[]):=hfalse.out (by simp [h6])
    rw [h6] at ho
    clear h6
    go_enter Tryz.func97,Tryz.ntmps97
    go_wp2_with fail
    generalize hW0:w.alloc (.cells #[.string s,.int .i64 v,.string d,.int .i64 x,.int .i64 y,.int .i64 z,.int .i64 i] 76)=W0
    obtain ⟨hz,hG0,q0,q1,q2,q3,q4,q5,q6⟩:=ev_box hW0
    clear hW0
    refine (hn W0 hG0).mono ?_
    rintro e w1 ⟨rfl,hg1⟩
    go_wp2_with fail
    refine (hv w1 (hG0.trans hg1)).mono ?_
    rintro e w2 ⟨rfl,hg2⟩
    replace hg2:=hg1.trans hg2
    go_wp2_with fail
    refine (ho w2).mono ?_
    rintro e w3 ⟨rfl,hg3⟩
    replace hg3:=hg2.trans hg3
    go_wp2_with fail
    go_ret
    exact ⟨none,0,by rw [hno.out];rfl,by rw [hno.out];exact OwnL.nil,hG0.trans hg3,fun _=>rfl⟩
   | true =>
    rw [h6] at ho
    replace h6:=Lib.hid h6
    by_cases h7:0≤i
    case neg =>
     have hno:Hid (evL ⟨s,v,d,⟨x,y,z⟩,i⟩=[]):=hfalse.out (by omega)
     have t7:decide (i < 0)=true:=decide_eq_true (by omega)
     have t7':i < 0:=by omega
     clear h7
     go_enter Tryz.func97,Tryz.ntmps97
     go_wp2_with fail
     generalize hW0:w.alloc (.cells #[.string s,.int .i64 v,.string d,.int .i64 x,.int .i64 y,.int .i64 z,.int .i64 i] 76)=W0
     obtain ⟨hz,hG0,q0,q1,q2,q3,q4,q5,q6⟩:=ev_box hW0
     clear hW0
     refine (hn W0 hG0).mono ?_
     rintro e w1 ⟨rfl,hg1⟩
     go_wp2_with fail
     refine (hv w1 (hG0.trans hg1)).mono ?_
     rintro e w2 ⟨rfl,hg2⟩
     replace hg2:=hg1.trans hg2
     go_wp2_with fail
     refine (ho w2).mono ?_
     rintro e w3 ⟨rfl,hg3⟩
     replace hg3:=hg2.trans hg3
     go_wp2_with fail
     go_ret
     exact ⟨none,0,by rw [hno.out];rfl,by rw [hno.out];exact OwnL.nil,hG0.trans hg3,fun _=>rfl⟩
    have t7:decide (i < 0)=false:=decide_eq_false (by omega)
    by_cases h8:i≤160
    case neg =>
     have hno:Hid (evL ⟨s,v,d,⟨x,y,z⟩,i⟩=[]):=hfalse.out (by omega)
     have t8:decide (160 < i)=true:=decide_eq_true (by omega)
     have t8':160 < i:=by omega
     clear h8
     go_enter Tryz.func97,Tryz.ntmps97
     go_wp2_with fail
     generalize hW0:w.alloc (.cells #[.string s,.int .i64 v,.string d,.int .i64 x,.int .i64 y,.int .i64 z,.int .i64 i] 76)=W0
     obtain ⟨hz,hG0,q0,q1,q2,q3,q4,q5,q6⟩:=ev_box hW0
     clear hW0
     refine (hn W0 hG0).mono ?_
     rintro e w1 ⟨rfl,hg1⟩
     go_wp2_with fail
     refine (hv w1 (hG0.trans hg1)).mono ?_
     rintro e w2 ⟨rfl,hg2⟩
     replace hg2:=hg1.trans hg2
     go_wp2_with fail
     refine (ho w2).mono ?_
     rintro e w3 ⟨rfl,hg3⟩
     replace hg3:=hg2.trans hg3
     go_wp2_with fail
     go_ret
     exact ⟨none,0,by rw [hno.out];rfl,by rw [hno.out];exact OwnL.nil,hG0.trans hg3,fun _=>rfl⟩
    have t8:decide (160 < i)=false:=decide_eq_false (by omega)
    have hok:evOk ⟨s,v,d,⟨x,y,z⟩,i⟩=true:=hiff.out.2 ⟨h1.out,⟨h2,h3⟩,h4,h5.out,h6.out,h7,h8⟩
    obtain ⟨vn,rfl⟩:∃n:Nat,v=n:=⟨v.toNat,by omega⟩
    obtain ⟨ix,rfl⟩:∃n:Nat,i=n:=⟨i.toNat,by omega⟩
    obtain ⟨m1,hm1⟩:∃m,textL s.data.toList=m:=⟨_,rfl⟩
    obtain ⟨m2,hm2⟩:∃m,m1++vL vn=m:=⟨_,rfl⟩
    obtain ⟨m3,hm3⟩:∃m,m2++textL d.data.toList=m:=⟨_,rfl⟩
    obtain ⟨m4,hm4⟩:∃m,m3++stE ⟨x,y,z⟩=m:=⟨_,rfl⟩
    obtain ⟨m5,hm5⟩:∃m,m4++vL ix=m:=⟨_,rfl⟩
    have hyes:evL ⟨s,(vn:Int),d,⟨x,y,z⟩,(ix:Int)⟩=m5:=by
     rw [evL_some hok,←hm5,←hm4,←hm3,←hm2,←hm1,stE_ok h6.out]
     unfold evBytes
     simp only [List.append_assoc]
     rfl
    have b1:m1.length≤s.size+10:=by rw [←hm1];exact textL_len s
    have b2:m2.length≤s.size+20:=by rw [←hm2,List.length_append];have:=vL_len vn;omega
    have b3:m3.length≤s.size+d.size+30:=by rw [←hm3,List.length_append];have:=textL_len d;omega
    have b4:m4.length≤s.size+d.size+60:=by rw [←hm4,List.length_append];have:=stE_len ⟨x,y,z⟩;omega
    have hne:m5≠[]:=by rw [←hyes,Ne,evL_nil,hok];simp
    have hen:∀w',Calls Tryz.prog 93 #[.agg #[.int .i64 x,.int .i64 y,.int .i64 z]] w' (RetBytes w' (stE ⟨x,y,z⟩)):=fun w'=>stEnc_any ⟨x,y,z⟩ w'
    have hel:=stE_len ⟨x,y,z⟩
    generalize stE ⟨x,y,z⟩=ste at *
    replace hm1:=Lib.hid hm1
    replace hm2:=Lib.hid hm2
    replace hm3:=Lib.hid hm3
    replace hm4:=Lib.hid hm4
    replace hm5:=Lib.hid hm5
    replace hyes:=Lib.hid hyes
    replace hne:=Lib.hid hne
    replace hen:=Lib.hid hen
    clear hok
    have hw1:IntKind.u64.wrap (vn:Int)=(vn:Int):=by rw [IntKind.wrap_u64];omega
    have hw2:IntKind.u64.wrap (ix:Int)=(ix:Int):=by rw [IntKind.wrap_u64];omega
    go_enter Tryz.func97,Tryz.ntmps97
    go_upto_region 1 with fail
    generalize hW0:w.alloc (.cells #[.string s,.int .i64 vn,.string d,.int .i64 x,.int .i64 y,.int .i64 z,.int .i64 ix] 76)=W0
    have hz:w.heap.size+0 < W0.heap.size:=by rw [←hW0];simp
    have hG0:G w W0:=by rw [←hW0];exact G.new _ _
    have r0:W0.cell? ⟨w.heap.size,0,none⟩=some (.string s):=by rw [←hW0];simp
    have r1:W0.cell? ⟨w.heap.size,1,none⟩=some (.int .i64 vn):=by rw [←hW0];simp
    have r2:W0.cell? ⟨w.heap.size,2,none⟩=some (.string d):=by rw [←hW0];simp
    have r3:W0.cell? ⟨w.heap.size,3,none⟩=some (.int .i64 x):=by rw [←hW0];simp
    have r4:W0.cell? ⟨w.heap.size,4,none⟩=some (.int .i64 y):=by rw [←hW0];simp
    have r5:W0.cell? ⟨w.heap.size,5,none⟩=some (.int .i64 z):=by rw [←hW0];simp
    have r6:W0.cell? ⟨w.heap.size,6,none⟩=some (.int .i64 ix):=by rw [←hW0];simp
    clear hW0
    have q0:∀w',G W0 w'→w'.cell? ⟨w.heap.size,0,none⟩=some (.string s):=fun w' h=>(h.cell (by omega)).trans r0
    have q1:∀w',G W0 w'→w'.cell? ⟨w.heap.size,1,none⟩=some (.int .i64 vn):=fun w' h=>(h.cell (by omega)).trans r1
    have q2:∀w',G W0 w'→w'.cell? ⟨w.heap.size,2,none⟩=some (.string d):=fun w' h=>(h.cell (by omega)).trans r2
    have q3:∀w',G W0 w'→w'.cell? ⟨w.heap.size,3,none⟩=some (.int .i64 x):=fun w' h=>(h.cell (by omega)).trans r3
    have q4:∀w',G W0 w'→w'.cell? ⟨w.heap.size,4,none⟩=some (.int .i64 y):=fun w' h=>(h.cell (by omega)).trans r4
    have q5:∀w',G W0 w'→w'.cell? ⟨w.heap.size,5,none⟩=some (.int .i64 z):=fun w' h=>(h.cell (by omega)).trans r5
    have q6:∀w',G W0 w'→w'.cell? ⟨w.heap.size,6,none⟩=some (.int .i64 ix):=fun w' h=>(h.cell (by omega)).trans r6
    clear r0 r1 r2 r3 r4 r5 r6
    have hgr:G W0 W0:=G.refl _
    go_upto_region 3 with (first
     | (go_at_call 108;refine (hn _ hG0).mono ?_;rintro e w1 ⟨rfl,hg1⟩)
     | (go_at_call 110;refine (hv _ (hG0.trans hg1)).mono ?_;rintro e w2 ⟨rfl,hg2⟩;replace hg2:=hg1.trans hg2)
     | (go_at_call 102;refine (ho _).mono ?_;rintro e w3 ⟨rfl,hg3⟩;replace hg3:=hg2.trans hg3))
    clear hn hv ho hg1 hg2
    go_cut [3] (fun v3 wx=>OwnAt W0.heap.size m3 v3 wx∧G W0 wx)
    case first =>
     go_region_held3 (fun w'=>G W0 w') (first | exact hg3.drew | exact hgm.keep (by assumption) | exact hgn.keep (by assumption) | exact G.alloc (by assumption) _ | exact KeepT.g hk2 (by assumption) | fail) (first
      | (go_at_call 91;(with_reducible refine Calls.mono (text_nil hm1 (by omega)) ?_);rintro e u1 ⟨A1,d1,rfl,hown1,hgm⟩;replace hown1:=OwnL.mono hown1 (show W0.heap.size≤_ from G.size (by assumption)))
      | (go_at_call 90;(with_reducible refine Calls.mono (nums_own (t:=112) (base:=W0.heap.size) hm2 (by omega) (by omega) (by decide) (hown1.g (G.new _ _)) (blk_new _ _ _) (G.size (by assumption))) ?_);rintro e u2 ⟨A2,d2,rfl,hown2,hk2⟩)
      | (go_at_call 90;(with_reducible refine Calls.mono (nums_own (t:=112) (base:=W0.heap.size) hm2 (by omega) (by omega) (by decide) hown1 (hgm.blk (blk_new _ _ _)) (G.size (by assumption))) ?_);rintro e u2 ⟨A2,d2,rfl,hown2,hk2⟩)
      | (go_at_call 91;(with_reducible refine Calls.mono (textOf_own hm3 (by omega) (by omega) hown2) ?_);rintro e u3 ⟨A3,d3,rfl,hown3,hgn⟩;replace hown3:=OwnL.mono hown3 (show W0.heap.size≤_ from G.size (by assumption))))
     all_goals
      go_wp2_with fail
      go_meet
      exact ⟨⟨_,_,rfl,hown3⟩,by assumption⟩
    case rest =>
     obtain ⟨⟨A3,d3,rfl,hown3⟩,hgc⟩:=hcut
     clear hgr
     go_wp2_with fail
     go_region_held3 (fun w'=>G W0 w') (first | exact hgc.drew | exact hgm.keep (by assumption) | exact G.alloc (by assumption) _ | exact KeepT.g hk2 (by assumption) | exact KeepT.g hk4 (by assumption) | fail) (first
      | (go_at_call 93;(with_reducible refine Calls.mono (hen.out _) ?_);rintro e u1 ⟨A1,d1,rfl,hown1,hgm⟩;have hsl1:=OwnL.self byteC_len hown1;have hA1:A1=none→ste=[]:=fun h=>(h ▸ hsl1).of_none;clear hown1)
      | (refine step_append_but byte_elem _ rfl (.tmp 57) (.tmp 60) rfl W0.heap.size (.slice A3 m3.length d3) m3 rfl (hown3.g ((G.refl wc).drew.trans hgm)) u1.heap.size A1 d1 ste rfl hA1 hsl1 (by omega) (by omega) (G.size (by assumption)) ?_;intro v2 u2 hown2 hk2 hbut;rw [hm4.out] at hown2;obtain ⟨A2,d2,e2,_,_,_⟩:=OwnL.sl byteC_len hown2;subst e2;clear hbut)
      | (refine step_append_but byte_elem _ rfl (.tmp 57) (.tmp 60) rfl W0.heap.size (.slice A3 m3.length d3) m3 rfl (hown3.g (((G.refl wc).drew.alloc _).trans hgm)) u1.heap.size A1 d1 ste rfl hA1 hsl1 (by omega) (by omega) (G.size (by assumption)) ?_;intro v2 u2 hown2 hk2 hbut;rw [hm4.out] at hown2;obtain ⟨A2,d2,e2,_,_,_⟩:=OwnL.sl byteC_len hown2;subst e2;clear hbut)
      | (refine step_append_but byte_elem _ rfl (.tmp 57) (.tmp 60) rfl W0.heap.size (.slice A3 m3.length d3) m3 rfl (hown3.g (((G.refl wc).drew.trans hgm).alloc _)) u1.heap.size A1 d1 ste rfl hA1 (hsl1.g (Nat.le_refl _) (G.new _ _)) (by omega) (by omega) (G.size (by assumption)) ?_;intro v2 u2 hown2 hk2 hbut;rw [hm4.out] at hown2;obtain ⟨A2,d2,e2,_,_,_⟩:=OwnL.sl byteC_len hown2;subst e2;clear hbut)
      | (go_at_call 90;(with_reducible refine Calls.mono (nums_own (t:=112) (base:=W0.heap.size) hm5 (by omega) (by omega) (by decide) (hown2.g (G.new _ _)) (blk_new _ _ _) (G.size (by assumption))) ?_);rintro e u4 ⟨A4,d4,rfl,hown4,hk4⟩)
      | (go_at_call 90;(with_reducible refine Calls.mono (nums_own (t:=112) (base:=W0.heap.size) hm5 (by omega) (by omega) (by decide) hown2 (hk2.blk (by decide) (blk_new _ _ _)) (G.size (by assumption))) ?_);rintro e u4 ⟨A4,d4,rfl,hown4,hk4⟩)
      | (go_at_call 90;(with_reducible refine Calls.mono (nums_own (t:=112) (base:=W0.heap.size) hm5 (by omega) (by omega) (by decide) hown2 (hk2.blk (by decide) (hgm.blk (blk_new _ _ _))) (G.size (by assumption))) ?_);rintro e u4 ⟨A4,d4,rfl,hown4,hk4⟩))
     all_goals
      have hGe:G W0 u4:=by assumption
      go_wp2_with fail
      go_ret
      rw [hyes.out]
      exact ⟨A4,d4,rfl,OwnL.mono hown4 hG0.size,hG0.trans hGe,fun h=>absurd h hne.out⟩
set_option maxRecDepth 100000 in
set_option maxHeartbeats 4000000 in
theorem refEvEnc_any (s d : ByteArray) (v x y z i : Int) (w : World) (hs : s.size ≤ 1073741824) (hd : d.size ≤ 1073741824) (hT : Tabs w) :
  Calls Tryz.prog 49 #[.agg (Ev.cells ⟨s,v,d,⟨x,y,z⟩,i⟩).toArray] w (RetBytesN w (evL ⟨s,v,d,⟨x,y,z⟩,i⟩)):=by
 replace hT:=Lib.hid hT
 have hn:∀w',G w w'→Calls Tryz.prog 79 #[.string s] w' fun e w''=>e=.returned (.bool (nameB s))∧G w' w'':=fun w' hg=>refName_any s w' hs
 have hv:∀w',G w w'→Calls Tryz.prog 80 #[.string d] w' fun e w''=>e=.returned (.bool (validB d))∧G w' w'':=fun w' hg=>refValid_any d w' hd
 have ho:∀w',Calls Tryz.prog 82 #[.agg #[.int .i64 x,.int .i64 y,.int .i64 z]] w' fun e w''=>e=.returned (.bool (stOk ⟨x,y,z⟩))∧G w' w'':=fun w'=>refSound_any x y z w'
 have hiff:=evOk_iff ⟨s,v,d,⟨x,y,z⟩,i⟩
 simp only at hiff
 have hfalse:¬ (nameB s=true∧(1≤v∧v≤1099511627776)∧d.size≤1000∧validB d=true∧stOk ⟨x,y,z⟩=true∧(0≤i∧i≤160))→evL ⟨s,v,d,⟨x,y,z⟩,i⟩=[]:=fun h=>evL_none (by
  cases hk:evOk ⟨s,v,d,⟨x,y,z⟩,i⟩ with
  | false=>rfl
  | true=>exact absurd (hiff.1 hk) h)
 replace hfalse:=Lib.hid hfalse
 replace hiff:=Lib.hid hiff
 show Calls _ _ #[.agg #[.string s,.int .i64 v,.string d,.int .i64 x,.int .i64 y,.int .i64 z,.int .i64 i]] _ _
 cases h1:nameB s with
 | false =>
  have hno:Hid (evL ⟨s,v,d,⟨x,y,z⟩,i⟩=[]):=hfalse.out (by simp [h1])
  rw [h1] at hn
  clear h1
  go_enter Tryz.func49,Tryz.ntmps49
  go_wp2_with fail
  generalize hW0:w.alloc (.cells #[.string s,.int .i64 v,.string d,.int .i64 x,.int .i64 y,.int .i64 z,.int .i64 i] 76)=W0
  obtain ⟨hz,hG0,q0,q1,q2,q3,q4,q5,q6⟩:=ev_box hW0
  clear hW0
  refine (hn W0 hG0).mono ?_
  rintro e w1 ⟨rfl,hg1⟩
  go_wp2_with fail
  go_ret
  exact ⟨none,0,by rw [hno.out];rfl,by rw [hno.out];exact OwnL.nil,hG0.trans hg1,fun _=>rfl⟩
 | true =>
  rw [h1] at hn
  replace h1:=Lib.hid h1
  by_cases h2:1≤v
  case neg =>
   have hno:Hid (evL ⟨s,v,d,⟨x,y,z⟩,i⟩=[]):=hfalse.out (by omega)
   have t2:decide (v < 1)=true:=decide_eq_true (by omega)
   have t2':v < 1:=by omega
   clear h2
   go_enter Tryz.func49,Tryz.ntmps49
   go_wp2_with fail
   generalize hW0:w.alloc (.cells #[.string s,.int .i64 v,.string d,.int .i64 x,.int .i64 y,.int .i64 z,.int .i64 i] 76)=W0
   obtain ⟨hz,hG0,q0,q1,q2,q3,q4,q5,q6⟩:=ev_box hW0
   clear hW0
   refine (hn W0 hG0).mono ?_
   rintro e w1 ⟨rfl,hg1⟩
   go_wp2_with fail
   go_ret
   exact ⟨none,0,by rw [hno.out];rfl,by rw [hno.out];exact OwnL.nil,hG0.trans hg1,fun _=>rfl⟩
  have t2:decide (v < 1)=false:=decide_eq_false (by omega)
  by_cases h3:v≤1099511627776
  case neg =>
   have hno:Hid (evL ⟨s,v,d,⟨x,y,z⟩,i⟩=[]):=hfalse.out (by omega)
   have t3:decide (1099511627776 < v)=true:=decide_eq_true (by omega)
   have t3':1099511627776 < v:=by omega
   clear h3
   go_enter Tryz.func49,Tryz.ntmps49
   go_wp2_with fail
   generalize hW0:w.alloc (.cells #[.string s,.int .i64 v,.string d,.int .i64 x,.int .i64 y,.int .i64 z,.int .i64 i] 76)=W0
   obtain ⟨hz,hG0,q0,q1,q2,q3,q4,q5,q6⟩:=ev_box hW0
   clear hW0
   refine (hn W0 hG0).mono ?_
   rintro e w1 ⟨rfl,hg1⟩
   go_wp2_with fail
   go_ret
   exact ⟨none,0,by rw [hno.out];rfl,by rw [hno.out];exact OwnL.nil,hG0.trans hg1,fun _=>rfl⟩
  have t3:decide (1099511627776 < v)=false:=decide_eq_false (by omega)
  by_cases h4:d.size≤1000
  case neg =>
   have hno:Hid (evL ⟨s,v,d,⟨x,y,z⟩,i⟩=[]):=hfalse.out (by omega)
   have t4:decide (1000 < (d.size:Int))=true:=decide_eq_true (by omega)
   have t4':1000 < (d.size:Int):=by omega
   clear h4
   go_enter Tryz.func49,Tryz.ntmps49
   go_wp2_with fail
   generalize hW0:w.alloc (.cells #[.string s,.int .i64 v,.string d,.int .i64 x,.int .i64 y,.int .i64 z,.int .i64 i] 76)=W0
   obtain ⟨hz,hG0,q0,q1,q2,q3,q4,q5,q6⟩:=ev_box hW0
   clear hW0
   refine (hn W0 hG0).mono ?_
   rintro e w1 ⟨rfl,hg1⟩
   go_wp2_with fail
   go_ret
   exact ⟨none,0,by rw [hno.out];rfl,by rw [hno.out];exact OwnL.nil,hG0.trans hg1,fun _=>rfl⟩
  have t4:decide (1000 < (d.size:Int))=false:=decide_eq_false (by omega)
  have t4':¬ 1000 < (d.size:Int):=by omega
  cases h5:validB d with
  | false =>
   have hno:Hid (evL ⟨s,v,d,⟨x,y,z⟩,i⟩=[]):=hfalse.out (by simp [h5])
   rw [h5] at hv
   clear h5
   go_enter Tryz.func49,Tryz.ntmps49
   go_wp2_with fail
   generalize hW0:w.alloc (.cells #[.string s,.int .i64 v,.string d,.int .i64 x,.int .i64 y,.int .i64 z,.int .i64 i] 76)=W0
   obtain ⟨hz,hG0,q0,q1,q2,q3,q4,q5,q6⟩:=ev_box hW0
   clear hW0
   refine (hn W0 hG0).mono ?_
   rintro e w1 ⟨rfl,hg1⟩
   go_wp2_with fail
   refine (hv w1 (hG0.trans hg1)).mono ?_
   rintro e w2 ⟨rfl,hg2⟩
   replace hg2:=hg1.trans hg2
   go_wp2_with fail
   go_ret
   exact ⟨none,0,by rw [hno.out];rfl,by rw [hno.out];exact OwnL.nil,hG0.trans hg2,fun _=>rfl⟩
  | true =>
   rw [h5] at hv
   replace h5:=Lib.hid h5
   cases h6:stOk ⟨x,y,z⟩ with
   | false =>
    have hno:Hid (evL ⟨s,v,d,⟨x,y,z⟩,i⟩=[]):=hfalse.out (by simp [h6])
    rw [h6] at ho
    clear h6
    go_enter Tryz.func49,Tryz.ntmps49
    go_wp2_with fail
    generalize hW0:w.alloc (.cells #[.string s,.int .i64 v,.string d,.int .i64 x,.int .i64 y,.int .i64 z,.int .i64 i] 76)=W0
    obtain ⟨hz,hG0,q0,q1,q2,q3,q4,q5,q6⟩:=ev_box hW0
    clear hW0
    refine (hn W0 hG0).mono ?_
    rintro e w1 ⟨rfl,hg1⟩
    go_wp2_with fail
    refine (hv w1 (hG0.trans hg1)).mono ?_
    rintro e w2 ⟨rfl,hg2⟩
    replace hg2:=hg1.trans hg2
    go_wp2_with fail
    refine (ho w2).mono ?_
    rintro e w3 ⟨rfl,hg3⟩
    replace hg3:=hg2.trans hg3
    go_wp2_with fail
    go_ret
    exact ⟨none,0,by rw [hno.out];rfl,by rw [hno.out];exact OwnL.nil,hG0.trans hg3,fun _=>rfl⟩
   | true =>
    rw [h6] at ho
    replace h6:=Lib.hid h6
    by_cases h7:0≤i
    case neg =>
     have hno:Hid (evL ⟨s,v,d,⟨x,y,z⟩,i⟩=[]):=hfalse.out (by omega)
     have t7:decide (i < 0)=true:=decide_eq_true (by omega)
     have t7':i < 0:=by omega
     clear h7
     go_enter Tryz.func49,Tryz.ntmps49
     go_wp2_with fail
     generalize hW0:w.alloc (.cells #[.string s,.int .i64 v,.string d,.int .i64 x,.int .i64 y,.int .i64 z,.int .i64 i] 76)=W0
     obtain ⟨hz,hG0,q0,q1,q2,q3,q4,q5,q6⟩:=ev_box hW0
     clear hW0
     refine (hn W0 hG0).mono ?_
     rintro e w1 ⟨rfl,hg1⟩
     go_wp2_with fail
     refine (hv w1 (hG0.trans hg1)).mono ?_
     rintro e w2 ⟨rfl,hg2⟩
     replace hg2:=hg1.trans hg2
     go_wp2_with fail
     refine (ho w2).mono ?_
     rintro e w3 ⟨rfl,hg3⟩
     replace hg3:=hg2.trans hg3
     go_wp2_with fail
     go_ret
     exact ⟨none,0,by rw [hno.out];rfl,by rw [hno.out];exact OwnL.nil,hG0.trans hg3,fun _=>rfl⟩
    have t7:decide (i < 0)=false:=decide_eq_false (by omega)
    by_cases h8:i≤160
    case neg =>
     have hno:Hid (evL ⟨s,v,d,⟨x,y,z⟩,i⟩=[]):=hfalse.out (by omega)
     have t8:decide (160 < i)=true:=decide_eq_true (by omega)
     have t8':160 < i:=by omega
     clear h8
     go_enter Tryz.func49,Tryz.ntmps49
     go_wp2_with fail
     generalize hW0:w.alloc (.cells #[.string s,.int .i64 v,.string d,.int .i64 x,.int .i64 y,.int .i64 z,.int .i64 i] 76)=W0
     obtain ⟨hz,hG0,q0,q1,q2,q3,q4,q5,q6⟩:=ev_box hW0
     clear hW0
     refine (hn W0 hG0).mono ?_
     rintro e w1 ⟨rfl,hg1⟩
     go_wp2_with fail
     refine (hv w1 (hG0.trans hg1)).mono ?_
     rintro e w2 ⟨rfl,hg2⟩
     replace hg2:=hg1.trans hg2
     go_wp2_with fail
     refine (ho w2).mono ?_
     rintro e w3 ⟨rfl,hg3⟩
     replace hg3:=hg2.trans hg3
     go_wp2_with fail
     go_ret
     exact ⟨none,0,by rw [hno.out];rfl,by rw [hno.out];exact OwnL.nil,hG0.trans hg3,fun _=>rfl⟩
    have t8:decide (160 < i)=false:=decide_eq_false (by omega)
    have hok:evOk ⟨s,v,d,⟨x,y,z⟩,i⟩=true:=hiff.out.2 ⟨h1.out,⟨h2,h3⟩,h4,h5.out,h6.out,h7,h8⟩
    obtain ⟨vn,rfl⟩:∃n:Nat,v=n:=⟨v.toNat,by omega⟩
    obtain ⟨ix,rfl⟩:∃n:Nat,i=n:=⟨i.toNat,by omega⟩
    obtain ⟨m1,hm1⟩:∃m,textL s.data.toList=m:=⟨_,rfl⟩
    obtain ⟨m2,hm2⟩:∃m,m1++vL vn=m:=⟨_,rfl⟩
    obtain ⟨m3,hm3⟩:∃m,m2++textL d.data.toList=m:=⟨_,rfl⟩
    obtain ⟨m4,hm4⟩:∃m,m3++stE ⟨x,y,z⟩=m:=⟨_,rfl⟩
    obtain ⟨m5,hm5⟩:∃m,m4++vL ix=m:=⟨_,rfl⟩
    have hyes:evL ⟨s,(vn:Int),d,⟨x,y,z⟩,(ix:Int)⟩=m5:=by
     rw [evL_some hok,←hm5,←hm4,←hm3,←hm2,←hm1,stE_ok h6.out]
     unfold evBytes
     simp only [List.append_assoc]
     rfl
    have b1:m1.length≤s.size+10:=by rw [←hm1];exact textL_len s
    have b2:m2.length≤s.size+20:=by rw [←hm2,List.length_append];have:=vL_len vn;omega
    have b3:m3.length≤s.size+d.size+30:=by rw [←hm3,List.length_append];have:=textL_len d;omega
    have b4:m4.length≤s.size+d.size+60:=by rw [←hm4,List.length_append];have:=stE_len ⟨x,y,z⟩;omega
    have hne:m5≠[]:=by rw [←hyes,Ne,evL_nil,hok];simp
    have hen:∀w',Calls Tryz.prog 51 #[.agg #[.int .i64 x,.int .i64 y,.int .i64 z]] w' (RetBytes w' (stE ⟨x,y,z⟩)):=fun w'=>refStEnc_any ⟨x,y,z⟩ w'
    have hel:=stE_len ⟨x,y,z⟩
    generalize stE ⟨x,y,z⟩=ste at *
    replace hm1:=Lib.hid hm1
    replace hm2:=Lib.hid hm2
    replace hm3:=Lib.hid hm3
    replace hm4:=Lib.hid hm4
    replace hm5:=Lib.hid hm5
    replace hyes:=Lib.hid hyes
    replace hne:=Lib.hid hne
    replace hen:=Lib.hid hen
    clear hok
    have hw1:IntKind.u64.wrap (vn:Int)=(vn:Int):=by rw [IntKind.wrap_u64];omega
    have hw2:IntKind.u64.wrap (ix:Int)=(ix:Int):=by rw [IntKind.wrap_u64];omega
    go_enter Tryz.func49,Tryz.ntmps49
    go_upto_region 1 with fail
    generalize hW0:w.alloc (.cells #[.string s,.int .i64 vn,.string d,.int .i64 x,.int .i64 y,.int .i64 z,.int .i64 ix] 76)=W0
    have hz:w.heap.size+0 < W0.heap.size:=by rw [←hW0];simp
    have hG0:G w W0:=by rw [←hW0];exact G.new _ _
    have r0:W0.cell? ⟨w.heap.size,0,none⟩=some (.string s):=by rw [←hW0];simp
    have r1:W0.cell? ⟨w.heap.size,1,none⟩=some (.int .i64 vn):=by rw [←hW0];simp
    have r2:W0.cell? ⟨w.heap.size,2,none⟩=some (.string d):=by rw [←hW0];simp
    have r3:W0.cell? ⟨w.heap.size,3,none⟩=some (.int .i64 x):=by rw [←hW0];simp
    have r4:W0.cell? ⟨w.heap.size,4,none⟩=some (.int .i64 y):=by rw [←hW0];simp
    have r5:W0.cell? ⟨w.heap.size,5,none⟩=some (.int .i64 z):=by rw [←hW0];simp
    have r6:W0.cell? ⟨w.heap.size,6,none⟩=some (.int .i64 ix):=by rw [←hW0];simp
    clear hW0
    have q0:∀w',G W0 w'→w'.cell? ⟨w.heap.size,0,none⟩=some (.string s):=fun w' h=>(h.cell (by omega)).trans r0
    have q1:∀w',G W0 w'→w'.cell? ⟨w.heap.size,1,none⟩=some (.int .i64 vn):=fun w' h=>(h.cell (by omega)).trans r1
    have q2:∀w',G W0 w'→w'.cell? ⟨w.heap.size,2,none⟩=some (.string d):=fun w' h=>(h.cell (by omega)).trans r2
    have q3:∀w',G W0 w'→w'.cell? ⟨w.heap.size,3,none⟩=some (.int .i64 x):=fun w' h=>(h.cell (by omega)).trans r3
    have q4:∀w',G W0 w'→w'.cell? ⟨w.heap.size,4,none⟩=some (.int .i64 y):=fun w' h=>(h.cell (by omega)).trans r4
    have q5:∀w',G W0 w'→w'.cell? ⟨w.heap.size,5,none⟩=some (.int .i64 z):=fun w' h=>(h.cell (by omega)).trans r5
    have q6:∀w',G W0 w'→w'.cell? ⟨w.heap.size,6,none⟩=some (.int .i64 ix):=fun w' h=>(h.cell (by omega)).trans r6
    clear r0 r1 r2 r3 r4 r5 r6
    have hgr:G W0 W0:=G.refl _
    go_upto_region 3 with (first
     | (go_at_call 79;refine (hn _ hG0).mono ?_;rintro e w1 ⟨rfl,hg1⟩)
     | (go_at_call 80;refine (hv _ (hG0.trans hg1)).mono ?_;rintro e w2 ⟨rfl,hg2⟩;replace hg2:=hg1.trans hg2)
     | (go_at_call 82;refine (ho _).mono ?_;rintro e w3 ⟨rfl,hg3⟩;replace hg3:=hg2.trans hg3))
    clear hn hv ho hg1 hg2
    go_cut [3] (fun v3 wx=>OwnAt W0.heap.size m3 v3 wx∧G W0 wx)
    case first =>
     go_region_held3 (fun w'=>G W0 w') (first | exact hg3.drew | exact hgm.keep (by assumption) | exact hgn.keep (by assumption) | exact KeepT.g hk2 (by assumption) | fail) (first
      | (go_at_call 83;(with_reducible refine Calls.mono (refText_nil hm1 (by omega)) ?_);rintro e u1 ⟨A1,d1,rfl,hown1,hgm⟩;replace hown1:=OwnL.mono hown1 (show W0.heap.size≤_ from G.size (by assumption)))
      | (go_at_call 84;(with_reducible refine Calls.mono (num7_own (base:=W0.heap.size) hown1 (G.size (by assumption)) (by omega) (by omega) hm2) ?_);rintro e u2 ⟨A2,d2,rfl,hown2,hk2⟩)
      | (go_at_call 83;(with_reducible refine Calls.mono (refTextOf_own hm3 (by omega) (by omega) hown2) ?_);rintro e u3 ⟨A3,d3,rfl,hown3,hgn⟩;replace hown3:=OwnL.mono hown3 (show W0.heap.size≤_ from G.size (by assumption))))
     all_goals
      go_wp2_with fail
      go_meet
      exact ⟨⟨_,_,rfl,hown3⟩,by assumption⟩
    case rest =>
     obtain ⟨⟨A3,d3,rfl,hown3⟩,hgc⟩:=hcut
     clear hgr
     go_wp2_with fail
     go_region_held3 (fun w'=>G W0 w') (first | exact hgc.drew | exact hgm.keep (by assumption) | exact KeepT.g hk2 (by assumption) | exact KeepT.g hk4 (by assumption) | fail) (first
      | (go_at_call 51;(with_reducible refine Calls.mono (hen.out _) ?_);rintro e u1 ⟨A1,d1,rfl,hown1,hgm⟩;have hsl1:=OwnL.self byteC_len hown1;have hA1:A1=none→ste=[]:=fun h=>(h ▸ hsl1).of_none;clear hown1)
      | (refine step_append_but byte_elem _ rfl (.tmp 55) (.tmp 58) rfl W0.heap.size (.slice A3 m3.length d3) m3 rfl (hown3.g ((G.refl wc).drew.trans hgm)) u1.heap.size A1 d1 ste rfl hA1 hsl1 (by omega) (by omega) (G.size (by assumption)) ?_;intro v2 u2 hown2 hk2 hbut;rw [hm4.out] at hown2;obtain ⟨A2,d2,e2,_,_,_⟩:=OwnL.sl byteC_len hown2;subst e2;clear hbut)
      | (go_at_call 84;(with_reducible refine Calls.mono (num7_own (base:=W0.heap.size) hown2 (G.size (by assumption)) (by omega) (by omega) hm5) ?_);rintro e u4 ⟨A4,d4,rfl,hown4,hk4⟩))
     all_goals
      have hGe:G W0 u4:=by assumption
      go_wp2_with fail
      go_ret
      rw [hyes.out]
      exact ⟨A4,d4,rfl,OwnL.mono hown4 hG0.size,hG0.trans hGe,fun h=>absurd h hne.out⟩
end Go.Proofs.YtheogchkelmeeaaGreatDoor

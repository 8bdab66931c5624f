/- Several texts in one: MsgWr, MsgMany, MsgM. -/
import Derived.Test.YtheogchkelmeeaaGreatDoorM29MsgDecodes
import Derived.Deep.RegionLaw
import Derived.BigRegion
import Derived.Test.YtheogchkelmeeaaGreatDoorM30MsgDecodes
import Derived.Test.YtheogchkelmeeaaGreatDoorBatEncQMsgDecodes
import Derived.Test.YtheogchkelmeeaaGreatDoorSmEncQMsgDecodes
import Derived.Test.YtheogchkelmeeaaGreatDoorM26MsgDecodes
/- msg.writer's methods: nums, some. Conditions: lengths that an append bears. -/
namespace Go.Proofs.YtheogchkelmeeaaGreatDoor
open Go.RowKit
theorem mwT:100≠5:=by decide
set_option maxRecDepth 100000 in
set_option maxHeartbeats 4000000 in
theorem mNums_any (R base n : Nat) (st : Option (List UInt8)) (ns : List Int) (A : Option Addr) (c B : Nat) (w : World) (hw : WrS 100 R base n st w) (hR : base ≤ R) (hn : n + ns.length * 10 ≤ 1099511627776) (hns : ∀ x ∈ ns, -9223372036854775808 ≤ x ∧ x ≤ 9223372036854775807) (hs : ∀ w', Kw R base w w' → Sl intC 1 w' B A ns) :
  Calls Tryz.prog 63 #[.pointer (some ⟨R,0,none⟩),.slice A ns.length c] w (WrPost 100 R base (n+ns.length * 10) (addNs 1099511627776 ns st) w):=by
 have hRw:=hw.lt
 have hv:∀(n:Nat) (w':World),n < 2 ^ 64→Calls Tryz.prog 94 #[.int .u64 n] w' (RetBytes w' (vL n)):=fun n w' h=>varint_any n w' h
 replace hv:=Lib.hid hv
 replace hns:=Lib.hid hns
 replace hs:=Lib.hid hs
 replace hw:=Lib.hid hw
 go_enter Tryz.func63,Tryz.ntmps63
 go_wp2_with fail
 go_loopw [8] (fun i wr=>∃(k:Nat) (sk:Option (List UInt8)),i=.int .i64 k∧k≤ns.length∧Hid (WrS 100 R base (n+k * 10) sk wr)∧Hid (Kw R base w wr)∧(k=0∧sk=st∨∃l,st=some l∧sk=some (l++nLs (ns.take k))∧okIs 1099511627776 (ns.take k)=true)) (fun i _=>ns.length - (intOf i).toNat)
 case atStart=>exact ⟨0,st,rfl,Nat.zero_le _,(by simpa [Hid] using hw.out),Kw.refl _ _ _,.inl ⟨rfl,rfl⟩⟩
 case round =>
  obtain ⟨k,sk,rfl,hkl,hwr,hkw,hst⟩:=hrel
  have hc1:=hwr.out.c1
  have hfr:=hwr.out.free 1
  have hRr:=hwr.out.lt
  by_cases hlt:k < ns.length
  ·obtain ⟨x,hx⟩:∃x,ns[k]?=some x:=⟨_,List.getElem?_eq_getElem hlt⟩
   obtain ⟨b,o,rfl,hb,hcx⟩:=(hs.out _ hkw.out).int hx
   have hx64:=hns.out x (List.mem_of_getElem? hx)
   have n1:(0:Int)≤(k:Int):=by omega
   have n2:(k:Int) < (ns.length:Int):=by omega
   cases sk with
   | none =>
    have hfin:addNs 1099511627776 ns st=none:=by
     rcases hst with ⟨_,h⟩ | ⟨l,_,h,_⟩
     ·rw [←h];rfl
     ·cases h
    have h2:=hwr.out.turn mwT
    have h2c:=h2.c1
    have h2w:=h2.more (n':=n+ns.length * 10) (by omega)
    have hk2:=hkw.out.trans (Kw.set hR 1 (.bool true))
    simp only [Option.isNone_none] at hc1 h2c
    replace h2:=Lib.hid h2
    replace h2w:=Lib.hid h2w
    replace hk2:=Lib.hid hk2
    replace hfin:=Lib.hid hfin
    replace hx:=Lib.hid hx
    clear hst
    go_wp2_with fail
    (try simp only [Exit.inBlock,Exit.then])
    refine bodyPost_ret (results_none rfl _ _ _) rfl ?_
    exact ⟨rfl,by rw [hfin.out];exact h2w.out,hk2.out⟩
   | some m =>
    simp only [Option.isNone_some] at hc1
    by_cases hx0:0≤x
    case neg =>
     have t1:decide (x < 0)=true:=decide_eq_true (by omega)
     have t1':x < 0:=by omega
     have hfin:addNs 1099511627776 ns st=none:=addNs_no (okIs_not hx (by unfold okI;exact decide_eq_false (by omega)))
     have h2:=hwr.out.turn mwT
     have h2c:=h2.c1
     have h2w:=h2.more (n':=n+ns.length * 10) (by omega)
     have hk2:=hkw.out.trans (Kw.set hR 1 (.bool true))
     simp only [Option.isNone_none] at h2c
     replace h2:=Lib.hid h2
     replace h2w:=Lib.hid h2w
     replace hk2:=Lib.hid hk2
     replace hfin:=Lib.hid hfin
     replace hx:=Lib.hid hx
     clear hst hx0
     go_wp2_with fail
     (try simp only [Exit.inBlock,Exit.then])
     refine bodyPost_ret (results_none rfl _ _ _) rfl ?_
     exact ⟨rfl,by rw [hfin.out];exact h2w.out,hk2.out⟩
    have t1:decide (x < 0)=false:=decide_eq_false (by omega)
    by_cases hx1:x≤1099511627776
    case neg =>
     have t2:decide (1099511627776 < x)=true:=decide_eq_true (by omega)
     have t2':1099511627776 < x:=by omega
     have hfin:addNs 1099511627776 ns st=none:=addNs_no (okIs_not hx (by unfold okI;exact decide_eq_false (by omega)))
     have h2:=hwr.out.turn mwT
     have h2c:=h2.c1
     have h2w:=h2.more (n':=n+ns.length * 10) (by omega)
     have hk2:=hkw.out.trans (Kw.set hR 1 (.bool true))
     simp only [Option.isNone_none] at h2c
     replace h2:=Lib.hid h2
     replace h2w:=Lib.hid h2w
     replace hk2:=Lib.hid hk2
     replace hfin:=Lib.hid hfin
     replace hx:=Lib.hid hx
     clear hst hx1
     go_wp2_with fail
     (try simp only [Exit.inBlock,Exit.then])
     refine bodyPost_ret (results_none rfl _ _ _) rfl ?_
     exact ⟨rfl,by rw [hfin.out];exact h2w.out,hk2.out⟩
    have t2:decide (1099511627776 < x)=false:=decide_eq_false (by omega)
    obtain ⟨q,rfl⟩:∃q:Nat,x=q:=⟨x.toNat,by omega⟩
    have hst2:∃l,st=some l∧some (m++vL q)=some (l++nLs (ns.take (k+1)))∧okIs 1099511627776 (ns.take (k+1))=true:=by
     have hoq:okI 1099511627776 (q:Int)=true:=by unfold okI;exact decide_eq_true (by omega)
     have hnq:nL (q:Int)=vL q:=by unfold nL;rw [Int.toNat_natCast]
     rcases hst with ⟨rfl,h⟩ | ⟨l,h1,h2,h3⟩
     ·exact ⟨m,h.symm,by rw [nLs_take hx,hnq];rfl,okIs_take hx (by rfl) hoq⟩
     ·refine ⟨l,h1,?_,okIs_take hx h3 hoq⟩
      cases h2
      rw [nLs_take hx,hnq,List.append_assoc]
    have h2:=(hwr.out.stay mwT).g (G.refl _).drew
    obtain ⟨A8,c8,r1,r2,r3⟩:=h2.row
    have h2c:=(hwr.out.stay mwT).c1
    have x0:=(blk_cell r1 0).trans (show _=some (.slice A8 m.length c8) from rfl)
    have hk2:=hkw.out.trans ((Kw.set hR 1 (.bool false)).trans (Kw.of_g (G.refl _).drew (by have:=hwr.out.lt;simp;omega)))
    simp only [Option.isNone_some] at h2c h2 r1 r2 x0
    have hvl:=vL_len q
    have hv1:=fun w'=>hv.out q w' (by omega)
    obtain ⟨m2,hm2⟩:∃m2,m++vL q=m2:=⟨_,rfl⟩
    rw [hm2] at hst2
    replace hm2:=Lib.hid hm2
    have hwq:IntKind.u64.wrap (q:Int)=(q:Int):=by rw [IntKind.wrap_u64];omega
    have hz2:=h2.lt
    replace hst2:=Lib.hid hst2
    replace h2:=Lib.hid h2
    replace hk2:=Lib.hid hk2
    replace hx:=Lib.hid hx
    replace r1:=Lib.hid r1
    replace r2:=Lib.hid r2
    replace hv1:=Lib.hid hv1
    clear hst
    go_upto_region 5 with fail
    go_region_law (first
     | (go_simp;go_at_call 94;refine Calls.mono (hv1.out _) ?_;rintro e w5 ⟨A5,c5,rfl,hown5,hg5⟩;have hsl5:=OwnL.self byteC_len hown5;have hA5:A5=none→vL q=[]:=(fun h=>(h ▸ hsl5).of_none);have x5:=(blk_cell (hg5.blk r1.out) 0).trans (show _=some (.slice A8 m.length c8) from rfl))
     | (refine step_append_but byte_elem _ (by kernel_rfl) (.tmp 35) (.tmp 38) rfl base (.slice A8 m.length c8) m rfl (r2.out.g hg5) w5.heap.size A5 c5 (vL q) rfl hA5 hsl5 (by omega) (by omega) (by have:=hg5.size;omega) ?_;intro v6 w6 hown6 hk6 hb6;rw [hm2.out] at hown6;obtain ⟨A6,c6,e6,_,_,_⟩:=OwnL.sl byteC_len hown6;subst e6;have r6:=hk6.2 _ _ _ _ mwT (hg5.blk r1.out);have y6:=(blk_cell r6 0).trans (show _=some (.slice A8 m.length c8) from rfl);have x6:=(show w6.frozen? ⟨R,0,none⟩=false by simp [World.frozen?,r6]);have s6:=Lib.hid (WrS.put (st:=some m2) (b:=false) (n:=n+(k+1) * 10) mwT rfl r6 rfl hown6 (by rw [←hm2.out,List.length_append];omega) (fun l' e=>by cases e;rfl));have k6:=Lib.hid ((hk2.out.trans (Kw.of_g hg5 (by omega))).trans ((Kw.of_keep hk6).trans (Kw.set hR 0 (.slice A6 m2.length c6))));clear hown6 hk6 hb6))
    all_goals
     go_wp2_with fail
     go_roundw
     case rel=>exact ⟨k+1,some m2,by go_num,by omega,s6,k6,.inr hst2.out⟩
     case measure=>(simp [intOf] <;> omega)
  ·have hfin:addNs 1099511627776 ns st=sk:=by
    rcases hst with ⟨hk0,h⟩ | ⟨l,h1,h2,h3⟩
    ·have:ns=[]:=List.eq_nil_of_length_eq_zero (by omega)
     subst this
     subst h
     cases sk with
     | none=>rfl
     | some l=>simp [addNs,okIs,nLs]
    ·rw [List.take_of_length_le (by omega)] at h2 h3
     rw [h1,h2,addNs_yes h3]
   have h2w:=hwr.out.more (n':=n+ns.length * 10) (by omega)
   replace hfin:=Lib.hid hfin
   replace h2w:=Lib.hid h2w
   clear hst
   go_wp2_with fail
   go_end0
   exact ⟨rfl,by rw [hfin.out];exact h2w.out,hkw.out⟩
set_option maxRecDepth 100000 in
set_option maxHeartbeats 1000000 in
theorem mSome_any (R base n : Nat) (st : Option (List UInt8)) (l : List UInt8) (A : Option Addr) (c B : Nat) (w : World) (hw : WrS 100 R base n st w) (hR : base ≤ R) (hn : n + l.length ≤ 1099511627776) (hs : Sl byteC 1 w B A l) (hA : A = none → l = [])
  (hs2:∀u,Sl byteC 1 (w.setCell ⟨R,1,none⟩ u) B A l) :
  Calls Tryz.prog 60 #[.pointer (some ⟨R,0,none⟩),.slice A l.length c] w (WrPost 100 R base (n+l.length) (addB l st) w):=by
 have hc1:=hw.c1
 have hfr:=hw.free 1
 have hRw:=hw.lt
 obtain ⟨nw,hnw⟩:∃nw,addB l st=nw:=⟨_,rfl⟩
 obtain ⟨bb,hbb⟩:∃bb,nw.isNone=bb:=⟨_,rfl⟩
 have hcond:(st.isNone=true∧bb=true)∨(st.isNone=false∧((l.length:Int) == 0)=bb):=by
  cases st with
  | none=>exact .inl ⟨rfl,by rw [←hbb,←hnw];rfl⟩
  | some m =>
   refine .inr ⟨rfl,?_⟩
   rw [←hbb,←hnw]
   unfold addB
   by_cases hl:l=[]
   ·subst hl;rfl
   ·have:0 < l.length:=List.length_pos_iff.2 hl
    simp only [Option.bind_some,if_neg hl,Option.isNone_some,beq_eq_false_iff_ne]
    omega
 have hws:∃v m,(w.setCell ⟨R,1,none⟩ (.bool bb)).heap[R]?=some (.cells #[v,.bool bb] 100 (0,0))∧OwnL 5 1 byteC (w.setCell ⟨R,1,none⟩ (.bool bb)) base v m∧m.length≤n∧(∀l',nw=some l'→l'=m++l):=by
  obtain ⟨v,m,h1,h2,h3,h4⟩:=hw
  refine ⟨v,m,by rw [blk_put h1];rfl,h2.but' (but_set w R 1 _) (own_ne mwT h1 h2),h3,fun l' e=>?_⟩
  rw [←hnw] at e
  cases st with
  | none=>cases e
  | some m' =>
   cases h4 m' rfl
   unfold addB at e
   by_cases hl:l=[]
   ·simp [hl] at e
   ·simp [hl] at e
    exact e.symm
 obtain ⟨v,m,h1,h2,h3,h4⟩:=hws
 obtain ⟨A8,c8,rfl,_,_,_⟩:=OwnL.sl byteC_len h2
 have hsl:=hs2 (.bool bb)
 have hz:R < (w.setCell ⟨R,1,none⟩ (.bool bb)).heap.size:=blk_lt h1
 have x0:=(blk_cell h1 0).trans (show _=some (.slice A8 m.length c8) from rfl)
 have hk1:=Kw.set (w:=w) hR 1 (.bool bb)
 obtain ⟨m2,hm2⟩:∃m2,m++l=m2:=⟨_,rfl⟩
 rw [hm2] at h4
 replace hm2:=Lib.hid hm2
 replace h1:=Lib.hid h1
 replace h2:=Lib.hid h2
 replace h4:=Lib.hid h4
 replace hk1:=Lib.hid hk1
 replace hsl:=Lib.hid hsl
 replace hw:=Lib.hid hw
 rw [hnw]
 replace hnw:=Lib.hid hnw
 replace hbb:=Lib.hid hbb
 clear hs hs2
 rcases hcond with ⟨hb1,rfl⟩ | ⟨hb1,hb2⟩
 all_goals
  rw [hb1] at hc1
  clear hb1
  go_enter Tryz.func60,Tryz.ntmps60
  go_wp2_with (at_builtin;refine wpList_append_but byte_elem _ rfl (.tmp 20) (.tmp 21) rfl base (.slice A8 m.length c8) m rfl h2.out B A c l rfl hA hsl.out (by omega) (by omega) (by omega) ?_;intro v6 w6 hown6 hk6 hb6;rw [hm2.out] at hown6;obtain ⟨A6,c6,e6,_,_,_⟩:=OwnL.sl byteC_len hown6;subst e6;have r6:=hk6.2 _ _ _ _ mwT h1.out;have y6:=(blk_cell r6 0).trans (show _=some (.slice A8 m.length c8) from rfl);have x6:=(show w6.frozen? ⟨R,0,none⟩=false by simp [World.frozen?,r6]);have s6:=Lib.hid (WrS.put (st:=nw) (n:=n+l.length) mwT hbb.out.symm r6 rfl hown6 (by rw [←hm2.out,List.length_append];omega) h4.out);have k6:=Lib.hid (hk1.out.trans ((Kw.of_keep hk6).trans (Kw.set hR 0 (.slice A6 m2.length c6))));clear hown6 hk6 hb6)
  go_end0
  exact ⟨rfl,s6.out,k6.out⟩
theorem mintC_map (ns:List Int):(ns.map fun n=>Value.int .i64 n)=ns.flatMap intC:=by
 induction ns with
 | nil=>rfl
 | cons x l ih=>rw [List.map_cons,List.flatMap_cons,ih];rfl
/-- A slice in a block of its own, of another type than bytes: it stays. -/
theorem mkInts {R base b:Nat} {ns:List Int} {w:World} {t:TypeId} (ht:t≠5) (hb:w.heap[b]?=some (.cells (ns.map fun n=>Value.int .i64 n).toArray t (0,0))) (hR:b≠R):∀w',Kw R base w w'→Sl intC 1 w' (b+1) (some ⟨b,0,none⟩) ns:=fun w' hk=>by
 exact Sl.of_blk intC_len ns (hk.2 _ _ _ _ ht hR hb) (mintC_map ns) (Nat.lt_succ_self _)
/-- some, of a row that a call has made. -/
theorem mSome_own {R base n base' : Nat} {st : Option (List UInt8)} {l : List UInt8} {A : Option Addr} {c : Nat} {w : World} (hw : WrS 100 R base n st w) (hR : base ≤ R) (hn : n + l.length ≤ 1099511627776) (ho : OwnL 5 1 byteC w base' (.slice A l.length c) l) :
  Calls Tryz.prog 60 #[.pointer (some ⟨R,0,none⟩),.slice A l.length c] w (WrPost 100 R base (n+l.length) (addB l st) w):=by
 have hsl:=OwnL.self byteC_len ho
 refine mSome_any R base n st l A c w.heap.size w hw hR hn hsl (fun h=>(h ▸ hsl).of_none) fun u=>?_
 obtain ⟨v,m,h1,_⟩:=hw
 have h2:=ho.but' (but_set w R 1 u) (own_ne mwT h1 ho)
 have h3:=OwnL.self byteC_len h2
 have hz:=(but_set w R 1 u).size
 intro hne
 obtain ⟨b,o,e,hb,hc⟩:=h3 hne
 exact ⟨b,o,e,by simpa using hb,hc⟩
end Go.Proofs.YtheogchkelmeeaaGreatDoor
/- msg.writer.many. Conditions: lengths that an append bears. -/
namespace Go.Proofs.YtheogchkelmeeaaGreatDoor
open Go.RowKit
set_option maxRecDepth 100000 in
set_option maxHeartbeats 1000000 in
theorem mMany_any (R base n k : Nat) (st : Option (List UInt8)) (w : World) (hw : WrS 100 R base n st w) (hR : base ≤ R) (hn : n + 10 ≤ 1099511627776) (hk : k ≤ 9223372036854775807) :
  Calls Tryz.prog 95 #[.pointer (some ⟨R,0,none⟩),.int .i64 k] w (WrPost 100 R base (n+10) (addMany 1099511627776 k st) w):=by
 have hc1:=hw.c1
 have hfr:=hw.free 1
 have hRw:=hw.lt
 obtain ⟨s1,hs1⟩:∃s1,(if k≤1000 then st else none)=s1:=⟨_,rfl⟩
 have hfin:addMany 1099511627776 k st=addNs 1099511627776 [(k:Int)] s1:=by
  rw [←hs1]
  unfold addMany
  cases st with
  | none=>split <;> rfl
  | some l=>by_cases h:k≤1000 <;> simp [h,addNs]
 obtain ⟨bb,hbb⟩:∃bb,s1.isNone=bb:=⟨_,rfl⟩
 have hcond:(st.isNone=true∧bb=true)∨(st.isNone=false∧decide ((1000:Int) < (k:Int))=bb):=by
  cases st with
  | none=>exact .inl ⟨rfl,by rw [←hbb,←hs1];split <;> rfl⟩
  | some m =>
   refine .inr ⟨rfl,?_⟩
   rw [←hbb,←hs1]
   by_cases h:k≤1000
   ·rw [if_pos h];exact decide_eq_false (by omega)
   ·rw [if_neg h];exact decide_eq_true (by omega)
 have hws:WrS 100 R base n s1 (w.setCell ⟨R,1,none⟩ (.bool bb)):=by
  rw [←hbb,←hs1]
  split
  ·exact hw.stay mwT
  ·exact hw.turn mwT
 have hk1:=Kw.set (w:=w) hR 1 (.bool bb)
 have hz:=hws.lt
 have hse:(w.setCell ⟨R,1,none⟩ (.bool bb)).heap.size=w.heap.size:=by simp
 have hg1:=G.new (w.setCell ⟨R,1,none⟩ (.bool bb)) (.cells #[.int .i64 k] 3)
 have hN:=blk_new (w.setCell ⟨R,1,none⟩ (.bool bb)) #[.int .i64 k] 3
 rw [hse] at hN hz
 have hnums:Calls Tryz.prog 63 #[.pointer (some ⟨R,0,none⟩),.slice (some ⟨w.heap.size,0,none⟩) 1 1] ((w.setCell ⟨R,1,none⟩ (.bool bb)).alloc (.cells #[.int .i64 k] 3)) (WrPost 100 R base (n+10) (addNs 1099511627776 [(k:Int)] s1) ((w.setCell ⟨R,1,none⟩ (.bool bb)).alloc (.cells #[.int .i64 k] 3))):=mNums_any R base n s1 [(k:Int)] (some ⟨w.heap.size,0,none⟩) 1 _ _ (hws.g hg1) hR (by simp;omega) (by simp;omega) (mkInts (base:=base) (ns:=[(k:Int)]) (by decide:3≠5) hN (by omega))
 have hkg:=hk1.trans (Kw.of_g (base:=base) hg1 (by rw [hse];omega))
 rw [hfin]
 clear hse
 replace hfin:=Lib.hid hfin
 replace hnums:=Lib.hid hnums
 replace hkg:=Lib.hid hkg
 replace hs1:=Lib.hid hs1
 replace hbb:=Lib.hid hbb
 replace hws:=Lib.hid hws
 replace hw:=Lib.hid hw
 clear hN hg1
 rcases hcond with ⟨hb1,rfl⟩ | ⟨hb1,hb2⟩
 all_goals
  rw [hb1] at hc1
  clear hb1
  go_enter Tryz.func95,Tryz.ntmps95
  go_wp2_with (go_at_call 63;refine Calls.mono hnums.out ?_;rintro e w3 ⟨rfl,hw3,hk3⟩;have hk3':=Lib.hid (hkg.out.trans hk3);replace hw3:=Lib.hid hw3;clear hk3)
  go_end0
  exact ⟨rfl,hw3.out,hk3'.out⟩
end Go.Proofs.YtheogchkelmeeaaGreatDoor
/- Messages as they lie. No condition. -/
namespace Go.Proofs.YtheogchkelmeeaaGreatDoor
open Go.RowKit
/-- A message as it lies. -/
structure MsgM where
 kind:Int
 x1:Int
 x2:Int
 x3:Int
 key:ByteArray
 Ap:Option Addr
 cp:Nat
 ps:List PutM
 st:St
 code:Int
 An:Option Addr
 cn:Nat
 firsts:List Int
 yes:Bool
 z1:Int
 z2:Int
 z3:Int
 z4:Int
 As:Option Addr
 cs:Nat
 sms:List SmM
 src:Int
 total:Int
 Ae:Option Addr
 ce:Nat
 es:List Ev
 Ag:Option Addr
 cg:Nat
 rgs:List Rg
def MsgM.cells (r:MsgM):Array Value:=#[.int .i64 r.kind,.int .i64 r.x1,.int .i64 r.x2,.int .i64 r.x3,.string r.key,.slice r.Ap r.ps.length r.cp,.int .i64 r.st.wall,.int .i64 r.st.logic,.int .i64 r.st.node,.int .i64 r.code,.slice r.An r.firsts.length r.cn,.bool r.yes,.int .i64 r.z1,.int .i64 r.z2,.int .i64 r.z3,.int .i64 r.z4,.slice r.As r.sms.length r.cs,.int .i64 r.src,.int .i64 r.total,.slice r.Ae r.es.length r.ce,.slice r.Ag r.rgs.length r.cg]
def MsgM.p (r:MsgM):MsgP:=⟨r.kind,r.x1,r.x2,r.x3,r.key,r.ps.map PutM.p,r.st,r.code,r.firsts,r.yes,r.z1,r.z2,r.z3,r.z4,r.sms.map SmM.sm,r.src,r.total,r.es,r.rgs⟩
structure MsgM.In (r:MsgM) (w:World):Prop where
 ps:PutsIn w w.heap.size r.Ap r.ps
 firsts:Sl intC 1 w w.heap.size r.An r.firsts
 sms:SmsIn w w.heap.size r.As r.sms
 es:Sl Ev.cells 7 w w.heap.size r.Ae r.es
 rgs:Sl Rg.cells 4 w w.heap.size r.Ag r.rgs
theorem SmsIn.more {w:World} {B B':Nat} {A:Option Addr} {ss:List SmM} (h:SmsIn w B A ss) (hB:B≤B'):SmsIn w B' A ss:=⟨h.1.more hB,fun s hs=>(h.2 s hs).more hB⟩
def Int64 (n:Int):Prop:=-9223372036854775808≤n∧n≤9223372036854775807
structure MsgM.I64 (r:MsgM):Prop where
 kind:Int64 r.kind
 x1:Int64 r.x1
 x2:Int64 r.x2
 x3:Int64 r.x3
 code:Int64 r.code
 firsts:∀x ∈ r.firsts,Int64 x
 z1:Int64 r.z1
 z2:Int64 r.z2
 z3:Int64 r.z3
 z4:Int64 r.z4
 src:Int64 r.src
 total:Int64 r.total
 rgs:∀g ∈ r.rgs,Int64 g.a∧Int64 g.b∧Int64 g.c∧Int64 g.d
structure MsgM.Small (r:MsgM):Prop extends MsgM.I64 r where
 firstsL:r.firsts.length≤1000000
 key:r.key.size≤1073741824
 ps:PutsSmall r.ps
 bat:(batL r.key (r.ps.map PutM.p)).length≤500000
 smsL:r.sms.length≤1000000
 sms:∀s ∈ r.sms,SmSmall s.name s.es s.ks∧(smL s.sm).length≤500000
 esL:r.es.length≤1000000
 es:∀e ∈ r.es,(e.stream.size≤1073741824∧e.data.size≤1073741824)∧(evL e).length≤500000
 rgsL:r.rgs.length≤1000000
theorem MsgM.In.g {r:MsgM} {w w':World} (h:r.In w) (hg:G w w'):r.In w' :=
 ⟨PutsIn.more (h.ps.g (Nat.le_refl _) hg) hg.size,(h.firsts.g (Nat.le_refl _) hg).more hg.size,SmsIn.more (h.sms.g (Nat.le_refl _) hg) hg.size,(h.es.g (Nat.le_refl _) hg).more hg.size,(h.rgs.g (Nat.le_refl _) hg).more hg.size⟩
def MsgM.zero (k:Int):MsgM:=⟨k,0,0,0,⟨#[]⟩,none,0,[],⟨0,0,0⟩,0,none,0,[],false,0,0,0,0,none,0,[],0,0,none,0,[],none,0,[]⟩
def MsgM.o1 (m:MsgM):MsgM:={ MsgM.zero m.kind with x1:=m.x1,x2:=m.x2,x3:=m.x3,key:=m.key,Ap:=m.Ap,cp:=m.cp,ps:=m.ps,st:=m.st }
def MsgM.o2 (m:MsgM):MsgM:={ MsgM.zero m.kind with x1:=m.x1,x2:=m.x2,x3:=m.x3,code:=m.code,st:=m.st,An:=m.An,cn:=m.cn,firsts:=m.firsts }
def MsgM.o3 (m:MsgM):MsgM:={ MsgM.zero m.kind with x1:=m.x1,x2:=m.x2,x3:=m.x3,yes:=m.yes,st:=m.st }
def MsgM.o4 (m:MsgM):MsgM:={ MsgM.zero m.kind with x1:=m.x1,x2:=m.x2,x3:=m.x3 }
def MsgM.o5 (m:MsgM):MsgM:={ MsgM.zero m.kind with x1:=m.x1,x2:=m.x2,x3:=m.x3,st:=m.st,An:=m.An,cn:=m.cn,firsts:=m.firsts }
def MsgM.o6 (m:MsgM):MsgM:={ MsgM.zero m.kind with z1:=m.z1,z2:=m.z2,z3:=m.z3,z4:=m.z4,st:=m.st,As:=m.As,cs:=m.cs,sms:=m.sms }
def MsgM.o7 (m:MsgM):MsgM:={ MsgM.zero m.kind with z1:=m.z1,z2:=m.z2,z3:=m.z3,z4:=m.z4 }
def MsgM.o8 (m:MsgM):MsgM:={ MsgM.zero m.kind with src:=m.src }
def MsgM.o9 (m:MsgM):MsgM:={ MsgM.zero m.kind with src:=m.src,total:=m.total,Ae:=m.Ae,ce:=m.ce,es:=m.es,st:=m.st,Ag:=m.Ag,cg:=m.cg,rgs:=m.rgs }
/-- The fields that its kind names. -/
def MsgM.only (m:MsgM):MsgM:=if m.kind=1 then m.o1 else if m.kind=2 then m.o2 else if m.kind=3 then m.o3 else if m.kind=4 then m.o4 else if m.kind=5 then m.o5 else if m.kind=6 then m.o6 else if m.kind=7 then m.o7 else if m.kind=8 then m.o8 else if m.kind=9 then m.o9 else MsgM.zero m.kind
theorem kOk_no {k:Int} (h:kOk k=false):¬ (1≤k∧k≤9):=of_decide_eq_false h
section
variable {m : MsgM}
theorem MsgM.only_1 (h:m.kind=1):m.only=m.o1:=by unfold MsgM.only;rw [if_pos h]
theorem MsgM.only_2 (h:m.kind=2):m.only=m.o2:=by unfold MsgM.only;rw [if_neg (by omega),if_pos h]
theorem MsgM.only_3 (h:m.kind=3):m.only=m.o3:=by unfold MsgM.only;rw [if_neg (by omega),if_neg (by omega),if_pos h]
theorem MsgM.only_4 (h:m.kind=4):m.only=m.o4:=by unfold MsgM.only;rw [if_neg (by omega),if_neg (by omega),if_neg (by omega),if_pos h]
theorem MsgM.only_5 (h:m.kind=5):m.only=m.o5:=by unfold MsgM.only;rw [if_neg (by omega),if_neg (by omega),if_neg (by omega),if_neg (by omega),if_pos h]
theorem MsgM.only_6 (h:m.kind=6):m.only=m.o6:=by unfold MsgM.only;rw [if_neg (by omega),if_neg (by omega),if_neg (by omega),if_neg (by omega),if_neg (by omega),if_pos h]
theorem MsgM.only_7 (h:m.kind=7):m.only=m.o7:=by unfold MsgM.only;rw [if_neg (by omega),if_neg (by omega),if_neg (by omega),if_neg (by omega),if_neg (by omega),if_neg (by omega),if_pos h]
theorem MsgM.only_8 (h:m.kind=8):m.only=m.o8:=by unfold MsgM.only;rw [if_neg (by omega),if_neg (by omega),if_neg (by omega),if_neg (by omega),if_neg (by omega),if_neg (by omega),if_neg (by omega),if_pos h]
theorem MsgM.only_9 (h:m.kind=9):m.only=m.o9:=by unfold MsgM.only;rw [if_neg (by omega),if_neg (by omega),if_neg (by omega),if_neg (by omega),if_neg (by omega),if_neg (by omega),if_neg (by omega),if_neg (by omega),if_pos h]
theorem MsgM.only_no (h:kOk m.kind=false):m.only=MsgM.zero m.kind:=by
 have h0:=kOk_no h
 unfold MsgM.only
 repeat rw [if_neg (by omega)]
theorem MsgM.only_p (m:MsgM):m.only.p=m.p.only:=by
 have hk:m.p.kind=m.kind:=rfl
 rcases mkind_cases m.kind with h | h | h | h | h | h | h | h | h | h
 ·rw [MsgM.only_1 h];unfold MsgP.only;rw [if_pos (by omega)];unfold MsgM.o1 MsgM.zero;rw [h];rfl
 ·rw [MsgM.only_2 h];unfold MsgP.only;rw [if_neg (by omega),if_pos (by omega)];unfold MsgM.o2 MsgM.zero;rw [h];rfl
 ·rw [MsgM.only_3 h];unfold MsgP.only;rw [if_neg (by omega),if_neg (by omega),if_pos (by omega)];unfold MsgM.o3 MsgM.zero;rw [h];rfl
 ·rw [MsgM.only_4 h];unfold MsgP.only;rw [if_neg (by omega),if_neg (by omega),if_neg (by omega),if_pos (by omega)];unfold MsgM.o4 MsgM.zero;rw [h];rfl
 ·rw [MsgM.only_5 h];unfold MsgP.only;rw [if_neg (by omega),if_neg (by omega),if_neg (by omega),if_neg (by omega),if_pos (by omega)];unfold MsgM.o5 MsgM.zero;rw [h];rfl
 ·rw [MsgM.only_6 h];unfold MsgP.only;rw [if_neg (by omega),if_neg (by omega),if_neg (by omega),if_neg (by omega),if_neg (by omega),if_pos (by omega)];unfold MsgM.o6 MsgM.zero;rw [h];rfl
 ·rw [MsgM.only_7 h];unfold MsgP.only;rw [if_neg (by omega),if_neg (by omega),if_neg (by omega),if_neg (by omega),if_neg (by omega),if_neg (by omega),if_pos (by omega)];unfold MsgM.o7 MsgM.zero;rw [h];rfl
 ·rw [MsgM.only_8 h];unfold MsgP.only;rw [if_neg (by omega),if_neg (by omega),if_neg (by omega),if_neg (by omega),if_neg (by omega),if_neg (by omega),if_neg (by omega),if_pos (by omega)];unfold MsgM.o8 MsgM.zero;rw [h];rfl
 ·rw [MsgM.only_9 h];unfold MsgP.only;rw [if_neg (by omega),if_neg (by omega),if_neg (by omega),if_neg (by omega),if_neg (by omega),if_neg (by omega),if_neg (by omega),if_neg (by omega),if_pos (by omega)];unfold MsgM.o9 MsgM.zero;rw [h];rfl
 ·have h0:=kOk_no h
  rw [MsgM.only_no h];unfold MsgP.only;rw [if_neg (by omega),if_neg (by omega),if_neg (by omega),if_neg (by omega),if_neg (by omega),if_neg (by omega),if_neg (by omega),if_neg (by omega),if_neg (by omega)];rfl
theorem MsgM.only_kind (m:MsgM):m.only.kind=m.kind:=by
 rcases mkind_cases m.kind with h | h | h | h | h | h | h | h | h | h
 ·rw [MsgM.only_1 h];rfl
 ·rw [MsgM.only_2 h];rfl
 ·rw [MsgM.only_3 h];rfl
 ·rw [MsgM.only_4 h];rfl
 ·rw [MsgM.only_5 h];rfl
 ·rw [MsgM.only_6 h];rfl
 ·rw [MsgM.only_7 h];rfl
 ·rw [MsgM.only_8 h];rfl
 ·rw [MsgM.only_9 h];rfl
 ·rw [MsgM.only_no h];rfl
end
theorem Kw.ge {R base:Nat} {wE w w':World} (h:Kw R base w w') (hG:G wE w) (hb:wE.heap.size≤base):G wE w':=Below.trans hG (Below.mono h.1 hb)
end Go.Proofs.YtheogchkelmeeaaGreatDoor

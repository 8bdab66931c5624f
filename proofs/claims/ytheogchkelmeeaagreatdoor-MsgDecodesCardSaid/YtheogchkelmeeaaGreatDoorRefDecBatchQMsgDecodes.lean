/- The reader's Batch of penstockref7, penstockref7.DecodeBatch: what they answer. Conditions: at most 2^30 bytes. -/
import Derived.Test.YtheogchkelmeeaaGreatDoorM27MsgDecodes
namespace Go.Proofs.YtheogchkelmeeaaGreatDoor
open Go.RowKit
theorem put_givesR {s0 s1 s2 s3 s4:Option (List UInt8)} {s:List UInt8} {v m:Nat} {xs:List (List UInt8)} (g1:Gives dText s0 s1 s) (g2:Gives (dCount 1125899906842624) s1 s2 v) (g3:Gives (dCount 20) s2 s3 m) (g4:Gives (dMany dText m) s3 s4 xs):Gives dPutR s0 s4 ⟨strOf s,zagI v,xs.map strOf⟩:=g1.bind (g2.bind (g3.bind (g4.bind (Gives.ret _))))
/-- A batch read whole, but for its end. -/
theorem bat_givesR {st0 : Option (List UInt8)} {s : List UInt8} {N : Nat} {st1 st2 st : Option (List UInt8)} {ps : List PutP} (g1 : Gives dText st0 st1 s) (g2 : Gives (dCount 8) st1 st2 N) (g3 : Gives (dMany dPutR N) st2 st ps) :
  ((st=none∨chkN (strOf s) ps≠0)→Gives dBatchR st0 none (⟨#[]⟩,[]))∧(chkN (strOf s) ps=0→Gives dBatchR st0 st (strOf s,ps)):=by
 have key:∀(st':Option (List UInt8)) (x:ByteArray × List PutP),Gives (batEnd (strOf s) ps) st st' x→Gives dBatchR st0 st' x:=fun st' x h=>g1.bind (g2.bind (g3.bind h))
 refine ⟨fun e=>?_,fun hc=>key _ _ (Gives.yes (decide_eq_true hc) _)⟩
 rcases e with rfl | hc
 ·exact key none _ (Gives.bad _)
 ·exact key none _ (Gives.no (decide_eq_false hc) _ _)
/-- The reader's Batch answers so. -/
def RdBat (T:TypeId) (R:Nat) (A:Option Addr) (c8:Nat) (l0:List UInt8) (w:World) (st:Option (List UInt8)) (e:Ending) (w':World):Prop :=
 ∃(key:ByteArray) (Ap:Option Addr) (cp:Nat) (ms:List PutM) (st':Option (List UInt8)),e=.returned (.agg #[.string key,.slice Ap ms.length cp])∧RdS T R A c8 l0 st' w'∧But (fun k=>k=R) w w'∧Gives dBatchR st st' (key,ms.map PutM.p)∧key.size≤1073741824∧PutsSmall ms∧PutsOwn w.heap.size Ap cp ms w'
theorem PutsOwn.z {base Z:Nat} {Ap:Option Addr} {cp:Nat} {ms:List PutM} {w:World} {x0 x1:Value} (h:PutsOwn base Ap cp ms w) (hZ:w.heap[Z]?=some (.cells #[x0,x1] 31 (0,0))) (y0 y1:Value):PutsOwn base Ap cp ms ((w.setCell ⟨Z,0,none⟩ y0).setCell ⟨Z,1,none⟩ y1):=h.but (but2 w Z y0 y1) (fun k cs t e h1=>by
 subst e
 rw [hZ] at h1
 cases h1
 decide)
set_option maxRecDepth 100000 in
set_option maxHeartbeats 8000000 in
theorem eyeBatch_any (R : Nat) (A : Option Addr) (c8 : Nat) (l : List UInt8) (st : Option (List UInt8)) (w : World) (h : RdS 64 R A c8 l st w) (hl : l.length ≤ 1073741824) (hcap : l.length ≤ c8) :
  Calls Tryz.prog 18 #[.pointer (some ⟨R,0,none⟩)] w (RdBat 64 R A c8 l w st):=by
 have hRw:=h.lt
 have hZ0:=blk_new w #[.string ByteArray.empty,.slice none 0 0] 31
 have hg0:=G.new w (.cells #[.string ByteArray.empty,.slice none 0 0] 31)
 have hz0:(w.alloc (.cells #[.string ByteArray.empty,.slice none 0 0] 31)).heap.size=w.heap.size+1:=by simp
 obtain ⟨W0,hW0⟩:∃W0,w.alloc (.cells #[.string ByteArray.empty,.slice none 0 0] 31)=W0:=⟨_,rfl⟩
 rw [hW0] at hZ0 hg0 hz0
 have hr:=h.g hg0
 have hc:=eyeText_any R A c8 l st _ hr hl hcap
 obtain ⟨s,st1,h1⟩:∃s t,gv [] dText st=(s,t):=⟨_,_,rfl⟩
 rw [h1] at hc
 have g1:=gv_gives h1
 have hsz:=strOf_le (gv_text_len h1 (fun l' e=>Nat.le_trans (RdS.len (e ▸ h)) hl)).1
 replace g1:=Lib.hid g1
 replace hg0:=Lib.hid hg0
 replace hZ0:=Lib.hid hZ0
 clear h1 h
 subst hW0
 have hRz:R < (w.alloc (.cells #[.string ByteArray.empty,.slice none 0 0] 31)).heap.size:=by omega
 replace hz0:=Lib.hid hz0
 go_enter Tryz.func18,Tryz.ntmps18
 go_wp2_with fail
 refine hc.mono ?_
 clear hc hr
 rintro e w1 ⟨rfl,hr1,hb1⟩
 generalize w.alloc (.cells #[.string ByteArray.empty,.slice none 0 0] 31)=W0 at *
 have hgn:=G.new w1 (.cells #[.string (strOf s),.slice none 0 0] 31)
 have hd:DecSt 64 R w1.heap.size R A c8 l W0 (strOf s) none 0 [] st1 (w1.alloc (.cells #[.string (strOf s),.slice none 0 0] 31)) :=
  ⟨hr1.g hgn,(hr1.g hgn).sl,blk_new _ _ _,⟨OwnL.nil,fun _ h=>by cases h⟩,hb1.g hgn,Nat.le_refl _,by omega,hb1.size,by decide⟩
 have hc:=eyeNum_any R A c8 l st1 _ hd.rd hl hcap 8 8 rfl (by omega)
 obtain ⟨N,st2,h2⟩:∃v t,gv 0 (dCount 8) st1=(v,t):=⟨_,_,rfl⟩
 rw [h2] at hc
 have g2:=gv_gives h2
 have hN:N≤8:=gv_bound (P:=(·≤8)) h2 (by omega) (fun _ _ _ h=>(dCount_num h).2)
 replace g2:=Lib.hid g2
 replace hd:=Lib.hid hd
 clear hr1 hb1 h2 hgn
 go_wp2_with fail
 refine hc.mono ?_
 clear hc
 rintro e w2 ⟨rfl,hr2,hb2⟩
 replace hd:=Lib.hid (hd.out.call hr2 hb2)
 clear hr2 hb2
 go_wp2_with fail
 go_loopw [5] (fun i wr=>∃(jj k:Nat) (Ap:Option Addr) (cp:Nat) (ms:List PutM) (st:Option (List UInt8)),i=.int .i64 jj∧Hid (jj+k=N)∧k+ms.length≤8∧Hid (DecSt 64 R w1.heap.size R A c8 l W0 (strOf s) Ap cp ms st wr)∧Hid (PutsSmall ms)∧Hid (More dPutR N k st2 st (ms.map PutM.p))) (fun i _=>N - (intOf i).toNat)
 case atStart=>exact ⟨0,N,none,0,[],st2,rfl,Lib.hid (by omega),by simpa using hN,hd,⟨by simp,fun _ h=>by cases h⟩,More.start _ _ _⟩
 case round =>
  obtain ⟨wo,rfl⟩:∃wo:World,wo=wr:=⟨_,rfl⟩
  clear hd
  obtain ⟨jj,k,Ap,cp,ms,st,rfl,hjk,hk8,hd,hsm,hmo⟩:=hrel
  have q2:=hd.out.rd.c2
  cases st with
  | none =>
   unfold Option.isNone at q2
   have hbad:=(bat_givesR g1.out g2.out (hmo.out.end (.inr rfl))).1 (.inl rfl)
   clear hmo hsm
   by_cases hk:k=0
   ·subst hk
    obtain rfl:jj=N:=hjk.out
    replace hbad:=Lib.hid hbad
    have hZ:=hd.out.but.blk hZ0.out (by omega)
    have r2:=hd.out.rd.c2
    have rf:=hd.out.rd.free 2
    have hr:=hd.out.rd.fail
    have hbw:=((But.of_g (S:=fun k=>k=R) hg0.out).trans hd.out.but).set (p:=⟨R,2,none⟩) (.inr rfl) (.bool true)
    have hZ2:=(but_set wo R 2 (.bool true)).blk hZ (by omega)
    have q0:=(blk_cell hZ2 0).trans (show _=some (.string ByteArray.empty) from rfl)
    have q1:=(blk_cell hZ2 1).trans (show _=some (.slice none 0 0) from rfl)
    have fq:∀o,(wo.setCell ⟨R,2,none⟩ (.bool true)).frozen? ⟨w.heap.size,o,none⟩=false:=fun o=>by simp [World.frozen?,hZ2]
    have f0:=fq 0
    have f1:=fq 1
    have hE:=blk2 hZ2 (.string ⟨#[]⟩) (.slice none 0 0)
    have hr':=hr.but (but2 _ w.heap.size (.string ⟨#[]⟩) (.slice none 0 0)) (fun k e=>by omega)
    have hbs:=(hbw.set (p:=⟨w.heap.size,0,none⟩) (.inl (Nat.le_refl _)) (.string ⟨#[]⟩)).set (p:=⟨w.heap.size,1,none⟩) (.inl (Nat.le_refl _)) (.slice none 0 0)
    have e0:=(blk_cell hE 0).trans (show _=some (.string ⟨#[]⟩) from rfl)
    have e1:=(blk_cell hE 1).trans (show _=some (.slice none 0 0) from rfl)
    have hneR:w.heap.size≠R:=by omega
    have hneR':R≠w.heap.size:=by omega
    replace e0:=Lib.hid e0
    replace e1:=Lib.hid e1
    replace hr':=Lib.hid hr'
    replace hbs:=Lib.hid hbs
    replace hd:=Lib.hid hd
    clear hE hZ hZ2 hbw hr fq
    go_wp2_with fail
    have e0:=e0.out
    have e1:=e1.out
    refine bodyPost_ret (v:=.agg #[.string ⟨#[]⟩,.slice none 0 0]) (by simp [results,Tryz.results18,go_sem,e0,e1]) rfl ?_
    exact ⟨⟨#[]⟩,none,0,[],none,rfl,hr'.out,hbs.out,hbad.out,by decide,⟨by simp,fun _ h=>by cases h⟩,⟨OwnL.nil,fun _ h=>by cases h⟩⟩
   ·have hk':(jj:Int) < (N:Int):=by have:=hjk.out;omega
    replace hbad:=Lib.hid hbad
    have hZ:=hd.out.but.blk hZ0.out (by omega)
    have r2:=hd.out.rd.c2
    have rf:=hd.out.rd.free 2
    have hr:=hd.out.rd.fail
    have hbw:=((But.of_g (S:=fun k=>k=R) hg0.out).trans hd.out.but).set (p:=⟨R,2,none⟩) (.inr rfl) (.bool true)
    have hZ2:=(but_set wo R 2 (.bool true)).blk hZ (by omega)
    have q0:=(blk_cell hZ2 0).trans (show _=some (.string ByteArray.empty) from rfl)
    have q1:=(blk_cell hZ2 1).trans (show _=some (.slice none 0 0) from rfl)
    have fq:∀o,(wo.setCell ⟨R,2,none⟩ (.bool true)).frozen? ⟨w.heap.size,o,none⟩=false:=fun o=>by simp [World.frozen?,hZ2]
    have f0:=fq 0
    have f1:=fq 1
    have hE:=blk2 hZ2 (.string ⟨#[]⟩) (.slice none 0 0)
    have hr':=hr.but (but2 _ w.heap.size (.string ⟨#[]⟩) (.slice none 0 0)) (fun k e=>by omega)
    have hbs:=(hbw.set (p:=⟨w.heap.size,0,none⟩) (.inl (Nat.le_refl _)) (.string ⟨#[]⟩)).set (p:=⟨w.heap.size,1,none⟩) (.inl (Nat.le_refl _)) (.slice none 0 0)
    have e0:=(blk_cell hE 0).trans (show _=some (.string ⟨#[]⟩) from rfl)
    have e1:=(blk_cell hE 1).trans (show _=some (.slice none 0 0) from rfl)
    have hneR:w.heap.size≠R:=by omega
    have hneR':R≠w.heap.size:=by omega
    replace e0:=Lib.hid e0
    replace e1:=Lib.hid e1
    replace hr':=Lib.hid hr'
    replace hbs:=Lib.hid hbs
    replace hd:=Lib.hid hd
    clear hE hZ hZ2 hbw hr fq
    go_wp2_with fail
    have e0:=e0.out
    have e1:=e1.out
    refine bodyPost_ret (v:=.agg #[.string ⟨#[]⟩,.slice none 0 0]) (by simp [results,Tryz.results18,go_sem,e0,e1]) rfl ?_
    exact ⟨⟨#[]⟩,none,0,[],none,rfl,hr'.out,hbs.out,hbad.out,by decide,⟨by simp,fun _ h=>by cases h⟩,⟨OwnL.nil,fun _ h=>by cases h⟩⟩
  | some lx =>
   unfold Option.isNone at q2
   by_cases hk:k=0
   ·subst hk
    obtain rfl:jj=N:=hjk.out
    have hgv:=bat_givesR g1.out g2.out (hmo.out.end (.inl rfl))
    have hck:=refCheck_any (strOf s) ms Ap cp wo hd.out.puts.ins hsz hsm.out
    have q0:=hd.out.c0
    have q1:=hd.out.c1
    generalize hcn:chkN (strOf s) (ms.map PutM.p)=cn at hck hgv
    clear hcn hmo
    by_cases hc0:cn=0
    case neg =>
     have hbad:=hgv.1 (.inr hc0)
     have t1:(((cn:Nat):Int) != 0)=true:=by rw [bne_iff_ne];omega
     replace hc0:=Lib.hid hc0
     replace hbad:=Lib.hid hbad
     clear hgv
     go_wp2_with fail
     refine hck.mono ?_
     clear hck
     rintro e w5 ⟨rfl,hg5⟩
     replace hd:=Lib.hid (hd.out.g hg5)
     have hbad:=hbad.out
     clear q0 q1 q2 hg5
     replace hbad:=Lib.hid hbad
     have hZ:=hd.out.but.blk hZ0.out (by omega)
     have r2:=hd.out.rd.c2
     have rf:=hd.out.rd.free 2
     have hr:=hd.out.rd.fail
     have hbw:=((But.of_g (S:=fun k=>k=R) hg0.out).trans hd.out.but).set (p:=⟨R,2,none⟩) (.inr rfl) (.bool true)
     have hZ2:=(but_set w5 R 2 (.bool true)).blk hZ (by omega)
     have q0:=(blk_cell hZ2 0).trans (show _=some (.string ByteArray.empty) from rfl)
     have q1:=(blk_cell hZ2 1).trans (show _=some (.slice none 0 0) from rfl)
     have fq:∀o,(w5.setCell ⟨R,2,none⟩ (.bool true)).frozen? ⟨w.heap.size,o,none⟩=false:=fun o=>by simp [World.frozen?,hZ2]
     have f0:=fq 0
     have f1:=fq 1
     have hE:=blk2 hZ2 (.string ⟨#[]⟩) (.slice none 0 0)
     have hr':=hr.but (but2 _ w.heap.size (.string ⟨#[]⟩) (.slice none 0 0)) (fun k e=>by omega)
     have hbs:=(hbw.set (p:=⟨w.heap.size,0,none⟩) (.inl (Nat.le_refl _)) (.string ⟨#[]⟩)).set (p:=⟨w.heap.size,1,none⟩) (.inl (Nat.le_refl _)) (.slice none 0 0)
     have e0:=(blk_cell hE 0).trans (show _=some (.string ⟨#[]⟩) from rfl)
     have e1:=(blk_cell hE 1).trans (show _=some (.slice none 0 0) from rfl)
     have hneR:w.heap.size≠R:=by omega
     have hneR':R≠w.heap.size:=by omega
     replace e0:=Lib.hid e0
     replace e1:=Lib.hid e1
     replace hr':=Lib.hid hr'
     replace hbs:=Lib.hid hbs
     replace hd:=Lib.hid hd
     clear hE hZ hZ2 hbw hr fq
     go_wp2_with fail
     have e0:=e0.out
     have e1:=e1.out
     refine bodyPost_ret (v:=.agg #[.string ⟨#[]⟩,.slice none 0 0]) (by simp [results,Tryz.results18,go_sem,e0,e1]) rfl ?_
     exact ⟨⟨#[]⟩,none,0,[],none,rfl,hr'.out,hbs.out,hbad.out,by decide,⟨by simp,fun _ h=>by cases h⟩,⟨OwnL.nil,fun _ h=>by cases h⟩⟩
    replace hgv:=hgv.2 hc0
    subst hc0
    replace hgv:=Lib.hid hgv
    go_wp2_with fail
    refine hck.mono ?_
    clear hck
    rintro e w5 ⟨rfl,hg5⟩
    replace hd:=hd.out.g hg5
    clear q0 q1 q2
    have hZ:=hd.but.blk hZ0.out (by omega)
    have q0:=hd.c0
    have q1:=hd.c1
    have z0:=(blk_cell hZ 0).trans (show _=some (.string ByteArray.empty) from rfl)
    have z1:=(blk_cell hZ 1).trans (show _=some (.slice none 0 0) from rfl)
    have fq:∀o,w5.frozen? ⟨w.heap.size,o,none⟩=false:=fun o=>by simp [World.frozen?,hZ]
    have f0:=fq 0
    have f1:=fq 1
    have hE:=blk2 hZ (.string (strOf s)) (.slice Ap ms.length cp)
    have e0:=(blk_cell hE 0).trans (show _=some (.string (strOf s)) from rfl)
    have e1:=(blk_cell hE 1).trans (show _=some (.slice Ap ms.length cp) from rfl)
    have hps:=(hd.puts.z hZ (.string (strOf s)) (.slice Ap ms.length cp)).mono hg0.out.size
    have hr':=hd.rd.but (but2 _ w.heap.size (.string (strOf s)) (.slice Ap ms.length cp)) (fun k e=>by omega)
    have hbs:=(((But.of_g (S:=fun k=>k=R) hg0.out).trans hd.but).set (p:=⟨w.heap.size,0,none⟩) (.inl (Nat.le_refl _)) (.string (strOf s))).set (p:=⟨w.heap.size,1,none⟩) (.inl (Nat.le_refl _)) (.slice Ap ms.length cp)
    replace e0:=Lib.hid e0
    replace e1:=Lib.hid e1
    replace hps:=Lib.hid hps
    replace hr':=Lib.hid hr'
    replace hbs:=Lib.hid hbs
    clear hE hg5 hZ hd fq
    go_wp2_with fail
    have e0:=e0.out
    have e1:=e1.out
    refine bodyPost_ret (v:=.agg #[.string (strOf s),.slice Ap ms.length cp]) (by simp [results,Tryz.results18,go_sem,e0,e1]) rfl ?_
    exact ⟨strOf s,Ap,cp,ms,_,rfl,hr'.out,hbs.out,hgv.out,hsz,hsm.out,hps.out⟩
   ·obtain ⟨j,rfl⟩:∃j,k=j+1:=⟨k - 1,by omega⟩
    have hc:=eyeText_any R A c8 l (some lx) wo hd.out.rd hl hcap
    obtain ⟨sp,st3,h3⟩:∃v t,gv [] dText (some lx)=(v,t):=⟨_,_,rfl⟩
    rw [h3] at hc
    have g3:=gv_gives h3
    have hsp:=strOf_le (gv_text_len h3 (fun l' e=>by cases e;exact Nat.le_trans (RdS.len hd.out.rd) hl)).1
    have hj1:(jj:Int) < (N:Int):=by have:=hjk.out;omega
    replace g3:=Lib.hid g3
    clear h3 hk
    go_wp2_with fail
    refine hc.mono ?_
    clear hc
    rintro e wa ⟨rfl,hr3,hb3⟩
    replace hd:=Lib.hid (hd.out.call hr3 hb3)
    have hi:=InSt.begin (s:=strOf sp) hr3 (by decide)
    have hc:=eyeNum_any R A c8 l st3 _ hi.rd hl hcap 1125899906842624 1125899906842624 rfl (by omega)
    obtain ⟨v,st4,h4⟩:∃v t,gv 0 (dCount 1125899906842624) st3=(v,t):=⟨_,_,rfl⟩
    rw [h4] at hc
    have g4:=gv_gives h4
    have hv50:v≤1125899906842624:=gv_bound (P:=(·≤1125899906842624)) h4 (by omega) (fun _ _ _ h=>(dCount_num h).2)
    have hv:v < 2 ^ 64:=by omega
    have hwv:IntKind.u64.wrap (v:Int)=(v:Int):=by rw [IntKind.wrap_u64];omega
    have hzi:=zag_i64 hv
    replace g4:=Lib.hid g4
    replace hi:=Lib.hid hi
    clear h4 hr3 hb3 q2
    go_wp2_with fail
    refine hc.mono ?_
    clear hc
    rintro e w4 ⟨rfl,hr4,hb4⟩
    replace hi:=hi.out.call hr4 hb4
    have hz4:=refZag_any v w4 hv
    have x1:=hi.c1
    have x1f:=hi.free 1
    replace hi:=hi.expect (zagI v)
    have hc:=eyeNum_any R A c8 l st4 _ hi.rd hl hcap 20 20 rfl (by omega)
    obtain ⟨m,st5,h5⟩:∃v t,gv 0 (dCount 20) st4=(v,t):=⟨_,_,rfl⟩
    rw [h5] at hc
    have g5:=gv_gives h5
    have hm:m≤20:=gv_bound (P:=(·≤20)) h5 (by omega) (fun _ _ _ h=>(dCount_num h).2)
    replace g5:=Lib.hid g5
    replace hi:=Lib.hid hi
    replace hzi:=Lib.hid hzi
    clear h5 hr4 hb4
    go_wp2_with fail
    refine hz4.mono ?_
    clear hz4
    rintro e w4' ⟨rfl,rfl⟩
    go_wp2_with fail
    refine hc.mono ?_
    clear hc
    rintro e w5 ⟨rfl,hr5,hb5⟩
    replace hi:=Lib.hid (hi.out.call hr5 hb5)
    clear hr5 hb5 x1 x1f
    go_wp2_with fail
    go_loopw [8] (fun i wr=>∃(j2 k:Nat) (Ad:Option Addr) (cd:Nat) (xs:List (List UInt8)) (ds:List ByteArray) (st:Option (List UInt8)),i=.int .i64 j2∧Hid (j2+k=m)∧k+ds.length≤20∧Hid (xs.map strOf=ds)∧Hid (InSt 64 R wa.heap.size A c8 l wa (strOf sp) (zagI v) Ad cd ds st wr)∧Hid (∀d ∈ ds,d.size≤1073741824)∧Hid (More dText m k st5 st xs)) (fun i _=>m - (intOf i).toNat)
    case atStart=>exact ⟨0,m,none,0,[],[],st5,rfl,Lib.hid (by omega),by simpa using hm,rfl,hi,fun _ h=>(by cases h),More.start _ _ _⟩
    case round =>
     clear hi
     obtain ⟨j2,k,Ad,cd,xs,ds,st,rfl,hj2,hk20,hds,hi,hdz,hmi⟩:=hrel
     have q2:=hi.out.rd.c2
     cases st with
     | none =>
      unfold Option.isNone at q2
      by_cases hk:k=0
      ·subst hk
       obtain rfl:j2=m:=hj2.out
       have hgd:=put_givesR g3.out g4.out g5.out (hmi.out.end (.inr rfl))
       have hmo2:=hmo.out.step hgd
       rw [hds.out] at hmo2
       have hb:=hi.out.but
       have hws:=hd.out.sizes
       replace hd:=hd.out.call hi.out.rd hb
       have c1:=hd.c1
       have x0:=hi.out.c0
       have x1:=hi.out.c1
       have x2:=hi.out.cell
       obtain ⟨mm,hmm⟩:∃mm:PutM,mm=⟨strOf sp,zagI v,Ad,cd,ds⟩:=⟨_,rfl⟩
       obtain ⟨ms',hms⟩:∃ms',ms++[mm]=ms':=⟨_,rfl⟩
       have hmp:ms'.map PutM.p=ms.map PutM.p++[⟨strOf sp,zagI v,ds⟩]:=by rw [←hms,List.map_append,hmm];rfl
       rw [←hmp] at hmo2
       have hml:ms'.length=ms.length+1:=by rw [←hms];simp
       replace hms:=Lib.hid hms
       have hsm2:=puts_more hsm.out (by omega) (by rw [hmm];exact ⟨hsp,hzi.out,(by show ds.length≤_;omega),hdz.out⟩) hms
       have hrow:OwnL 9 1 strC wr W0.heap.size (.slice mm.A mm.data.length mm.c) mm.data:=by rw [hmm];exact hi.out.row.mono hws
       replace hd:=Lib.hid hd
       replace hmo2:=Lib.hid hmo2
       replace hsm2:=Lib.hid hsm2
       replace hml:=Lib.hid hml
       replace hmm:=Lib.hid hmm
       clear hgd hmo hmp hsm hb hds hdz
       go_wp2_with (at_builtin;refine wpList_append_but put_elem _ rfl (.tmp 56) (.tmp 58) rfl W0.heap.size _ ms rfl (hd.out.puts.row.g (G.new _ _)) (wr.heap.size+1) (some ⟨wr.heap.size,0,none⟩) 1 [mm] rfl (by intro h;cases h) (Sl.of_blk PutM.cells_len _ (blk_new _ _ _) (by rw [hmm.out];rfl) (by omega)) (by simp;omega) (by simp;omega) (by have:=hd.out.but.size;simp;omega) ?_;intro v6 w6 hown6 hk6 hb6;rw [hms.out] at hown6;obtain ⟨A6,c6,e6,_,_,_⟩:=OwnL.sl PutM.cells_len hown6;subst e6;obtain ⟨zf,⟨u,zc⟩,hd6⟩:=(hd.out.g (G.new _ _)).push hms (hrow.g (G.new _ _)) hown6 hk6 hb6;replace hd6:=Lib.hid hd6)
       go_roundw
       case rel=>exact ⟨jj+1,j,A6,c6,ms',_,by go_num,Lib.hid (by have:=hjk.out;omega),by have:=hml.out;omega,hd6,hsm2,hmo2⟩
       case measure=>(simp [intOf] <;> omega)
      ·have hk':(j2:Int) < (m:Int):=by have:=hj2.out;omega
       have hgd:=put_givesR g3.out g4.out g5.out (hmi.out.end (.inr rfl))
       have hmo2:=hmo.out.step hgd
       rw [hds.out] at hmo2
       have hb:=hi.out.but
       have hws:=hd.out.sizes
       replace hd:=hd.out.call hi.out.rd hb
       have c1:=hd.c1
       have x0:=hi.out.c0
       have x1:=hi.out.c1
       have x2:=hi.out.cell
       obtain ⟨mm,hmm⟩:∃mm:PutM,mm=⟨strOf sp,zagI v,Ad,cd,ds⟩:=⟨_,rfl⟩
       obtain ⟨ms',hms⟩:∃ms',ms++[mm]=ms':=⟨_,rfl⟩
       have hmp:ms'.map PutM.p=ms.map PutM.p++[⟨strOf sp,zagI v,ds⟩]:=by rw [←hms,List.map_append,hmm];rfl
       rw [←hmp] at hmo2
       have hml:ms'.length=ms.length+1:=by rw [←hms];simp
       replace hms:=Lib.hid hms
       have hsm2:=puts_more hsm.out (by omega) (by rw [hmm];exact ⟨hsp,hzi.out,(by show ds.length≤_;omega),hdz.out⟩) hms
       have hrow:OwnL 9 1 strC wr W0.heap.size (.slice mm.A mm.data.length mm.c) mm.data:=by rw [hmm];exact hi.out.row.mono hws
       replace hd:=Lib.hid hd
       replace hmo2:=Lib.hid hmo2
       replace hsm2:=Lib.hid hsm2
       replace hml:=Lib.hid hml
       replace hmm:=Lib.hid hmm
       clear hgd hmo hmp hsm hb hds hdz
       go_wp2_with (at_builtin;refine wpList_append_but put_elem _ rfl (.tmp 56) (.tmp 58) rfl W0.heap.size _ ms rfl (hd.out.puts.row.g (G.new _ _)) (wr.heap.size+1) (some ⟨wr.heap.size,0,none⟩) 1 [mm] rfl (by intro h;cases h) (Sl.of_blk PutM.cells_len _ (blk_new _ _ _) (by rw [hmm.out];rfl) (by omega)) (by simp;omega) (by simp;omega) (by have:=hd.out.but.size;simp;omega) ?_;intro v6 w6 hown6 hk6 hb6;rw [hms.out] at hown6;obtain ⟨A6,c6,e6,_,_,_⟩:=OwnL.sl PutM.cells_len hown6;subst e6;obtain ⟨zf,⟨u,zc⟩,hd6⟩:=(hd.out.g (G.new _ _)).push hms (hrow.g (G.new _ _)) hown6 hk6 hb6;replace hd6:=Lib.hid hd6)
       go_roundw
       case rel=>exact ⟨jj+1,j,A6,c6,ms',_,by go_num,Lib.hid (by have:=hjk.out;omega),by have:=hml.out;omega,hd6,hsm2,hmo2⟩
       case measure=>(simp [intOf] <;> omega)
     | some ly =>
      unfold Option.isNone at q2
      by_cases hk:k=0
      ·subst hk
       obtain rfl:j2=m:=hj2.out
       have hgd:=put_givesR g3.out g4.out g5.out (hmi.out.end (.inl rfl))
       have hmo2:=hmo.out.step hgd
       rw [hds.out] at hmo2
       have hb:=hi.out.but
       have hws:=hd.out.sizes
       replace hd:=hd.out.call hi.out.rd hb
       have c1:=hd.c1
       have x0:=hi.out.c0
       have x1:=hi.out.c1
       have x2:=hi.out.cell
       obtain ⟨mm,hmm⟩:∃mm:PutM,mm=⟨strOf sp,zagI v,Ad,cd,ds⟩:=⟨_,rfl⟩
       obtain ⟨ms',hms⟩:∃ms',ms++[mm]=ms':=⟨_,rfl⟩
       have hmp:ms'.map PutM.p=ms.map PutM.p++[⟨strOf sp,zagI v,ds⟩]:=by rw [←hms,List.map_append,hmm];rfl
       rw [←hmp] at hmo2
       have hml:ms'.length=ms.length+1:=by rw [←hms];simp
       replace hms:=Lib.hid hms
       have hsm2:=puts_more hsm.out (by omega) (by rw [hmm];exact ⟨hsp,hzi.out,(by show ds.length≤_;omega),hdz.out⟩) hms
       have hrow:OwnL 9 1 strC wr W0.heap.size (.slice mm.A mm.data.length mm.c) mm.data:=by rw [hmm];exact hi.out.row.mono hws
       replace hd:=Lib.hid hd
       replace hmo2:=Lib.hid hmo2
       replace hsm2:=Lib.hid hsm2
       replace hml:=Lib.hid hml
       replace hmm:=Lib.hid hmm
       clear hgd hmo hmp hsm hb hds hdz
       go_wp2_with (at_builtin;refine wpList_append_but put_elem _ rfl (.tmp 56) (.tmp 58) rfl W0.heap.size _ ms rfl (hd.out.puts.row.g (G.new _ _)) (wr.heap.size+1) (some ⟨wr.heap.size,0,none⟩) 1 [mm] rfl (by intro h;cases h) (Sl.of_blk PutM.cells_len _ (blk_new _ _ _) (by rw [hmm.out];rfl) (by omega)) (by simp;omega) (by simp;omega) (by have:=hd.out.but.size;simp;omega) ?_;intro v6 w6 hown6 hk6 hb6;rw [hms.out] at hown6;obtain ⟨A6,c6,e6,_,_,_⟩:=OwnL.sl PutM.cells_len hown6;subst e6;obtain ⟨zf,⟨u,zc⟩,hd6⟩:=(hd.out.g (G.new _ _)).push hms (hrow.g (G.new _ _)) hown6 hk6 hb6;replace hd6:=Lib.hid hd6)
       go_roundw
       case rel=>exact ⟨jj+1,j,A6,c6,ms',_,by go_num,Lib.hid (by have:=hjk.out;omega),by have:=hml.out;omega,hd6,hsm2,hmo2⟩
       case measure=>(simp [intOf] <;> omega)
      ·obtain ⟨i,rfl⟩:∃i,k=i+1:=⟨k - 1,by omega⟩
       have hid:=hi.out.g (G.refl wr).drew
       have x2:=hid.cell
       have x2w:=hi.out.cell
       have hc:=eyeText_any R A c8 l (some ly) _ hid.rd hl hcap
       obtain ⟨x,st6,h6⟩:∃v t,gv [] dText (some ly)=(v,t):=⟨_,_,rfl⟩
       rw [h6] at hc
       have g6:=gv_gives h6
       have hxz:=strOf_le (gv_text_len h6 (fun l' e=>by cases e;exact Nat.le_trans (RdS.len hid.rd) hl)).1
       have hmi2:=hmi.out.step g6
       obtain ⟨ds',hds'⟩:∃ds',ds++[strOf x]=ds':=⟨_,rfl⟩
       have hdx:(xs++[x]).map strOf=ds':=by rw [List.map_append,hds.out,←hds'];rfl
       have hdl:ds'.length=ds.length+1:=by rw [←hds'];simp
       have hdz2:∀d ∈ ds',d.size≤1073741824:=fun d hd=>by
        rw [←hds',List.mem_append,List.mem_singleton] at hd
        rcases hd with hd | rfl
        ·exact hdz.out d hd
        ·exact hxz
       have hi1:(j2:Int) < (m:Int):=by have:=hj2.out;omega
       have hb5':=hi.out.but.size
       replace hds':=Lib.hid hds'
       replace hdx:=Lib.hid hdx
       replace hdl:=Lib.hid hdl
       replace hdz2:=Lib.hid hdz2
       replace hmi2:=Lib.hid hmi2
       replace hid:=Lib.hid hid
       clear g6 h6 hk hmo hsm hd hmi hdz hds
       go_upto_region 12 with fail
       go_region_law (first
        | (refine step_append_but str_elem _ (by kernel_rfl) (.tmp 49) (.tmp 52) rfl wa.heap.size _ ds rfl (hi5.out.row.g (G.new _ _)) (w5.heap.size+1) (some ⟨w5.heap.size,0,none⟩) 1 [strOf x] rfl (by intro h;cases h) (Sl.of_blk strC_len _ (blk_new _ _ _) rfl (by omega)) (by simp;omega) (by simp;omega) (by have:=hi5.out.but.size;simp;omega) ?_;intro v6 w6 hown6 hk6 hb6;rw [hds'.out] at hown6;obtain ⟨A6,c6,e6,_,_,_⟩:=OwnL.sl strC_len hown6;subst e6;obtain ⟨xc,xf,hi6⟩:=(hi5.out.g (G.new _ _)).push hown6 hk6;replace hi6:=Lib.hid hi6)
        | (go_simp;go_at_call 44;refine Calls.mono hc ?_;rintro e w5 ⟨rfl,hr5,hb5⟩;have hi5:=hid.out.call hr5 hb5;have x5:=hi5.cell;have x5b:=(hi5.g (G.new w5 (.cells #[.string (strOf x)] 9))).cell;replace hi5:=Lib.hid hi5))
       all_goals
        go_wp2_with fail
        go_roundw
        case rel=>exact ⟨j2+1,i,A6,c6,_,ds',_,by go_num,Lib.hid (by have:=hj2.out;omega),by have:=hdl.out;omega,hdx,hi6,hdz2,hmi2⟩
        case measure=>(simp [intOf] <;> omega)
end Go.Proofs.YtheogchkelmeeaaGreatDoor

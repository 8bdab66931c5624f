/- bits.Unvarint, penstockref3.Unvarint: what they answer. Condition: a length that fits an int. -/
import Derived.Test.YtheogchkelmeeaaGreatDoorM2MsgDecodes
namespace Go.Proofs.YtheogchkelmeeaaGreatDoor
open Go.RowKit
/-- What Unvarint answers. -/
def uT:Option (Nat × Nat)→Value
 | some (v,n)=>.tuple #[.int .u64 v,.int .i64 n]
 | none=>.tuple #[.int .u64 0,.int .i64 0]
set_option maxRecDepth 100000 in
theorem and127u8:∀X:Fin 256,bits .and .u8 ((X.val:Nat):Int) 127=((X.val % 128:Nat):Int):=by decide
theorem wrap_u64 (n:Nat):IntKind.u64.wrap (n:Int)=((n % 18446744073709551616:Nat):Int):=by
 unfold IntKind.wrap
 simp [IntKind.signed,IntKind.bits]
theorem or_add {acc p k:Nat} (h:acc < 2 ^ k):acc ||| p * 2 ^ k=acc+p * 2 ^ k:=by
 have:=Nat.two_pow_add_eq_or_of_lt (i:=k) (b:=acc) h p
 rw [Nat.mul_comm,Nat.or_comm,←this,Nat.add_comm]
/-- One byte more: as Go reckons it. -/
theorem var_step {acc p k:Nat} (hk:k≤9) (hacc:acc < 2 ^ (7 * k)) (hp:p < 128) (h9:k=9→p≤1):IntKind.u64.wrap ((p:Int) * 2 ^ (7 * k))=((p * 2 ^ (7 * k):Nat):Int)∧bits .or .u64 (acc:Int) ((p * 2 ^ (7 * k):Nat):Int)=((acc+p * 2 ^ (7 * k):Nat):Int):=by
 have hb:p * 2 ^ (7 * k) < 18446744073709551616:=by
  by_cases h:k=9
  ·subst h
   have:p * 2 ^ (7 * 9)≤1 * 2 ^ (7 * 9):=Nat.mul_le_mul_right _ (h9 rfl)
   omega
  ·have h1:p * 2 ^ (7 * k)≤127 * 2 ^ (7 * k):=Nat.mul_le_mul_right _ (by omega)
   have h2:2 ^ (7 * k)≤2 ^ (7 * 8):=Nat.pow_le_pow_right (by omega) (by omega)
   omega
 have ha:acc < 18446744073709551616:=by
  have h2:2 ^ (7 * k)≤2 ^ (7 * 9):=Nat.pow_le_pow_right (by omega) (by omega)
  omega
 have e:((p:Int) * 2 ^ (7 * k))=((p * 2 ^ (7 * k):Nat):Int):=by simp
 refine ⟨by rw [e,wrap_u64,Nat.mod_eq_of_lt hb],?_⟩
 rw [bits_or_u64_nat acc _ ha hb,or_add hacc]
theorem uF_hi {k acc:Nat} {x:UInt8} {r:List UInt8} (hk:k≤9) (hx:127 < x.toNat):uF k acc (x::r)=uF (k+1) (acc+(x.toNat - 128) * 2 ^ (7 * k)) r:=by
 rw [uF,if_neg (by omega),if_pos hx]
theorem uF_lo {k acc:Nat} {x:UInt8} {r:List UInt8} (hk:k≤9) (hx:x.toNat≤127):uF k acc (x::r)=if (k=9∧1 < x.toNat)∨(0 < k∧x.toNat=0) then none else some (acc+x.toNat * 2 ^ (7 * k),k+1):=by
 rw [uF,if_neg (by omega),if_neg (by omega)]
theorem uF_ten (acc:Nat) (r:List UInt8):uF 10 acc r=none:=by
 cases r with
 | nil=>rfl
 | cons x r=>rw [uF,if_pos (by omega)]
theorem byte_drop {l:List UInt8} {k:Nat} {x:UInt8} (h:l[k]?=some x):l.drop k=x::l.drop (k+1):=by
 obtain ⟨hk,rfl⟩:=List.getElem?_eq_some_iff.1 h
 exact List.drop_eq_getElem_cons hk
set_option maxRecDepth 100000 in
set_option maxHeartbeats 1000000 in
theorem unvarint_any (l : List UInt8) (A : Option Addr) (c : Nat) (w : World) (hs : Sl byteC 1 w w.heap.size A l) (hl : l.length ≤ 9223372036854775807) :
  Calls Tryz.prog 73 #[.slice A l.length c] w fun e w'=>e=.returned (uT (uL l))∧w=w':=by
 obtain ⟨N,hN⟩:∃N,min l.length 10=N:=⟨_,rfl⟩
 have hmin:min (l.length:Int) 10=(N:Int):=by omega
 replace hN:=Lib.hid hN
 go_enter Tryz.func73,Tryz.ntmps73
 go_wp2_with fail
 go_loop [2,9] (fun v i=>∃(k:Nat) (z:Int),v=.int .u64 z∧i=.int .i64 k∧k≤N∧Hid ((k < 10∧∃acc:Nat,z=acc∧uF k acc (l.drop k)=uL l∧acc < 2 ^ (7 * k))∨(k=10∧uL l=none))) (fun _ i=>N - (intOf i).toNat)
 case atStart=>exact ⟨0,0,rfl,rfl,Nat.zero_le _,.inl ⟨by omega,0,rfl,rfl,by simp⟩⟩
 case round =>
  obtain ⟨k,z,rfl,rfl,hk,hh⟩:=hrel
  by_cases hlt:k < N
  ·have hk9:k≤9:=by have:=hN.out;omega
   obtain ⟨acc,rfl,hu,hacc⟩:∃acc:Nat,z=acc∧uF k acc (l.drop k)=uL l∧acc < 2 ^ (7 * k):=by
    rcases hh.out with ⟨_,h⟩ | ⟨h,_⟩
    ·exact h
    ·omega
   have hkl:k < l.length:=by have:=hN.out;omega
   obtain ⟨x,hx⟩:∃x,l[k]?=some x:=⟨_,List.getElem?_eq_getElem hkl⟩
   obtain ⟨b,o,rfl,hb,hc⟩:=hs.byte hx
   have n1:(0:Int)≤(k:Int):=by omega
   have n2:(k:Int) < (l.length:Int):=by omega
   clear hh
   rw [byte_drop hx] at hu
   have hxl:=x.toNat_lt
   have hand:=and127u8 ⟨x.toNat,hxl⟩
   dsimp only at hand
   by_cases hbig:127 < x.toNat
   ·have t1:(127:Int) < (x.toNat:Int):=by omega
    rw [uF_hi hk9 hbig] at hu
    obtain ⟨P,hP⟩:∃P,x.toNat % 128=P:=⟨_,rfl⟩
    have hP2:x.toNat - 128=P:=by omega
    rw [hP] at hand
    rw [hP2] at hu
    have hw1:IntKind.u64.wrap (P:Int)=(P:Int):=by rw [wrap_u64];omega
    replace hP:=Lib.hid hP
    replace hP2:=Lib.hid hP2
    by_cases h9:k=9
    ·have hnone:uL l=none:=by rw [←hu,h9];exact uF_ten _ _
     replace hnone:=Lib.hid hnone
     replace h9:=Lib.hid h9
     clear hu
     go_wp2_with fail
     go_round
     case rel=>exact ⟨k+1,_,rfl,by go_num,by omega,.inr ⟨by have:=h9.out;omega,hnone.out⟩⟩
     case measure=>(simp [intOf] <;> omega)
    ·obtain ⟨h1,h2⟩:=var_step (acc:=acc) (p:=P) hk9 hacc (by have:=hP.out;omega) (fun h=>absurd h h9)
     have hacc2:acc+P * 2 ^ (7 * k) < 2 ^ (7 * (k+1)):=by
      have h3:P * 2 ^ (7 * k)≤127 * 2 ^ (7 * k):=Nat.mul_le_mul_right _ (by have:=hP.out;omega)
      rw [pow_step]
      omega
     obtain ⟨V,hV⟩:∃V,acc+P * 2 ^ (7 * k)=V:=⟨_,rfl⟩
     obtain ⟨S,hS⟩:∃S,P * 2 ^ (7 * k)=S:=⟨_,rfl⟩
     rw [hV] at hacc2 hu
     rw [hS] at h1 h2 hV
     rw [hV] at h2
     have hrel:Hid ((k+1 < 10∧∃acc:Nat,(V:Int)=acc∧uF (k+1) acc (l.drop (k+1))=uL l∧acc < 2 ^ (7 * (k+1)))∨(k+1=10∧uL l=none)):=.inl ⟨by omega,V,rfl,hu,hacc2⟩
     clear hu hacc2 hacc
     replace hV:=Lib.hid hV
     replace hS:=Lib.hid hS
     replace h9:=Lib.hid h9
     go_wp2_with fail
     go_round
     case rel=>exact ⟨k+1,V,rfl,by go_num,by omega,hrel⟩
     case measure=>(simp [intOf] <;> omega)
   ·have t1:¬ (127:Int) < (x.toNat:Int):=by omega
    rw [uF_lo hk9 (by omega)] at hu
    rw [Nat.mod_eq_of_lt (show x.toNat < 128 by omega)] at hand
    have hw1:IntKind.u64.wrap (x.toNat:Int)=(x.toNat:Int):=by rw [wrap_u64];omega
    by_cases hbad:(k=9∧1 < x.toNat)∨(0 < k∧x.toNat=0)
    ·rw [if_pos hbad] at hu
     have hnone:uT (uL l)=.tuple #[.int .u64 0,.int .i64 0]:=by rw [←hu];rfl
     replace hnone:=Lib.hid hnone
     clear hu
     by_cases h9:k=9∧1 < x.toNat
     ·obtain ⟨h9,h1⟩:=h9
      have e1:((k:Int) == 9)=true:=by rw [beq_iff_eq];omega
      have e2:(1:Int) < (x.toNat:Int):=by omega
      replace h9:=Lib.hid h9
      clear hbad h1
      go_wp2_with fail
      go_ret2
      exact ⟨by rw [hnone.out];rfl,rfl⟩
     ·have h0:0 < k∧x.toNat=0:=by omega
      obtain ⟨h0,h1⟩:=h0
      have e3:(0:Int) < (k:Int):=by omega
      rw [h1] at hand hw1 hc
      clear hbad h9 hxl t1 hbig hx
      by_cases h9:k=9
      ·have e1:((k:Int) == 9)=true:=by rw [beq_iff_eq];omega
       replace h9:=Lib.hid h9
       go_wp2_with fail
       go_ret2
       exact ⟨by rw [hnone.out];rfl,rfl⟩
      ·have e1:((k:Int) == 9)=false:=by rw [beq_eq_false_iff_ne];omega
       replace h9:=Lib.hid h9
       go_wp2_with fail
       go_ret2
       exact ⟨by rw [hnone.out];rfl,rfl⟩
    ·rw [if_neg hbad] at hu
     obtain ⟨h1,h2⟩:=var_step (acc:=acc) (p:=x.toNat) hk9 hacc (by omega) (fun h=>by omega)
     obtain ⟨V,hV⟩:∃V,acc+x.toNat * 2 ^ (7 * k)=V:=⟨_,rfl⟩
     obtain ⟨S,hS⟩:∃S,x.toNat * 2 ^ (7 * k)=S:=⟨_,rfl⟩
     rw [hV] at hu
     rw [hS] at h1 h2 hV
     rw [hV] at h2
     have hsome:uT (uL l)=.tuple #[.int .u64 V,.int .i64 ((k+1:Nat):Int)]:=by rw [←hu];rfl
     rw [show (((k+1:Nat):Nat):Int)=(k:Int)+1 by omega] at hsome
     replace hsome:=Lib.hid hsome
     replace hV:=Lib.hid hV
     replace hS:=Lib.hid hS
     clear hu hacc
     by_cases h9:k=9
     ·have e1:((k:Int) == 9)=true:=by rw [beq_iff_eq];omega
      have e2:¬ (1:Int) < (x.toNat:Int):=by omega
      have e3:(0:Int) < (k:Int):=by omega
      have e4:((x.toNat:Int) == 0)=false:=by rw [beq_eq_false_iff_ne];omega
      replace h9:=Lib.hid h9
      clear hbad
      go_wp2_with fail
      go_ret2
      exact ⟨by rw [hsome.out];rfl,rfl⟩
     ·have e1:((k:Int) == 9)=false:=by rw [beq_eq_false_iff_ne];omega
      by_cases h0:0 < k
      ·have e3:(0:Int) < (k:Int):=by omega
       have e4:((x.toNat:Int) == 0)=false:=by rw [beq_eq_false_iff_ne];omega
       replace h9:=Lib.hid h9
       clear hbad
       go_wp2_with fail
       go_ret2
       exact ⟨by rw [hsome.out];rfl,rfl⟩
      ·have e3:¬ (0:Int) < (k:Int):=by omega
       replace h0:=Lib.hid h0
       replace h9:=Lib.hid h9
       clear hbad
       go_wp2_with fail
       go_ret2
       exact ⟨by rw [hsome.out];rfl,rfl⟩
  ·have hnone:uT (uL l)=.tuple #[.int .u64 0,.int .i64 0]:=by
    have h0:uL l=none:=by
     rcases hh.out with ⟨h,acc,_,h2,_⟩ | ⟨_,h⟩
     ·have:=hN.out
      rw [List.drop_of_length_le (by omega)] at h2
      rw [←h2];rfl
     ·exact h
    rw [h0];rfl
   replace hnone:=Lib.hid hnone
   clear hh
   go_wp2_with fail
   go_ret2
   exact ⟨by rw [hnone.out];rfl,rfl⟩
set_option maxRecDepth 100000 in
set_option maxHeartbeats 1000000 in
theorem refUnvarint_any (l : List UInt8) (A : Option Addr) (c : Nat) (w : World) (hs : Sl byteC 1 w w.heap.size A l) (_hl : l.length ≤ 9223372036854775807) :
  Calls Tryz.prog 47 #[.slice A l.length c] w fun e w'=>e=.returned (uT (uL l))∧w=w':=by
 go_enter Tryz.func47,Tryz.ntmps47
 go_wp2_with fail
 go_loop [4,5] (fun v i=>∃(k acc:Nat),v=.int .u64 acc∧i=.int .i64 k∧k≤9∧k≤l.length∧Hid (uF k acc (l.drop k)=uL l∧acc < 2 ^ (7 * k))) (fun _ i=>l.length - (intOf i).toNat)
 case atStart=>exact ⟨0,0,rfl,rfl,Nat.zero_le _,Nat.zero_le _,⟨rfl,by simp⟩⟩
 case round =>
  obtain ⟨k,acc,rfl,rfl,hk9,hk,hh⟩:=hrel
  obtain ⟨hu,hacc⟩:=hh.out
  clear hh
  have t10:(k:Int) < 10:=by omega
  have hk9':=Lib.hid hk9
  clear hk9
  by_cases hkl:k < l.length
  ·obtain ⟨x,hx⟩:∃x,l[k]?=some x:=⟨_,List.getElem?_eq_getElem hkl⟩
   obtain ⟨b,o,rfl,hb,hc⟩:=hs.byte hx
   have n1:(0:Int)≤(k:Int):=by omega
   have n2:(k:Int) < (l.length:Int):=by omega
   rw [byte_drop hx] at hu
   have hxl:=x.toNat_lt
   have hand:=and127u8 ⟨x.toNat,hxl⟩
   dsimp only at hand
   by_cases hno:k=9∧1 < x.toNat
   ·have hnone:uT (uL l)=.tuple #[.int .u64 0,.int .i64 0]:=by
     have:uL l=none:=by
      rw [←hu]
      by_cases hbig:127 < x.toNat
      ·rw [uF_hi hk9'.out hbig,hno.1];exact uF_ten _ _
      ·rw [uF_lo hk9'.out (by omega),if_pos (.inl hno)]
     rw [this];rfl
    obtain ⟨h9,h1⟩:=hno
    have e1:((k:Int) == 9)=true:=by rw [beq_iff_eq];omega
    have e2:(1:Int) < (x.toNat:Int):=by omega
    replace hnone:=Lib.hid hnone
    replace h9:=Lib.hid h9
    clear hu h1
    go_wp2_with fail
    go_ret2
    exact ⟨by rw [hnone.out];rfl,rfl⟩
   ·by_cases hbig:127 < x.toNat
    ·have h9:k≠9:=fun h=>hno ⟨h,by omega⟩
     have e1:((k:Int) == 9)=false:=by rw [beq_eq_false_iff_ne];omega
     have t1:¬ (x.toNat:Int) < (128:Int):=by omega
     rw [uF_hi hk9'.out hbig] at hu
     obtain ⟨P,hP⟩:∃P,x.toNat % 128=P:=⟨_,rfl⟩
     have hP2:x.toNat - 128=P:=by omega
     rw [hP] at hand
     rw [hP2] at hu
     have hw1:IntKind.u64.wrap (P:Int)=(P:Int):=by rw [wrap_u64];omega
     replace hP:=Lib.hid hP
     replace hP2:=Lib.hid hP2
     obtain ⟨h1,h2⟩:=var_step (acc:=acc) (p:=P) hk9'.out hacc (by have:=hP.out;omega) (fun h=>absurd h h9)
     have hacc2:acc+P * 2 ^ (7 * k) < 2 ^ (7 * (k+1)):=by
      have h3:P * 2 ^ (7 * k)≤127 * 2 ^ (7 * k):=Nat.mul_le_mul_right _ (by have:=hP.out;omega)
      rw [pow_step]
      omega
     obtain ⟨V,hV⟩:∃V,acc+P * 2 ^ (7 * k)=V:=⟨_,rfl⟩
     obtain ⟨S,hS⟩:∃S,P * 2 ^ (7 * k)=S:=⟨_,rfl⟩
     rw [hV] at hacc2 hu
     rw [hS] at h1 h2 hV
     rw [hV] at h2
     have hk8:k+1≤9:=by have:=hk9'.out;omega
     have hrel:Hid (uF (k+1) V (l.drop (k+1))=uL l∧V < 2 ^ (7 * (k+1))):=⟨hu,hacc2⟩
     clear hu hacc2 hacc hno
     replace hV:=Lib.hid hV
     replace hS:=Lib.hid hS
     replace h9:=Lib.hid h9
     go_wp2_with fail
     go_round
     case rel=>exact ⟨k+1,V,rfl,by go_num,hk8,by omega,hrel⟩
     case measure=>(simp [intOf] <;> omega)
    ·have t1:(x.toNat:Int) < (128:Int):=by omega
     rw [uF_lo hk9'.out (by omega)] at hu
     rw [Nat.mod_eq_of_lt (show x.toNat < 128 by omega)] at hand
     have hw1:IntKind.u64.wrap (x.toNat:Int)=(x.toNat:Int):=by rw [wrap_u64];omega
     obtain ⟨h1,h2⟩:=var_step (acc:=acc) (p:=x.toNat) hk9'.out hacc (by omega) (fun h=>by omega)
     obtain ⟨V,hV⟩:∃V,acc+x.toNat * 2 ^ (7 * k)=V:=⟨_,rfl⟩
     obtain ⟨S,hS⟩:∃S,x.toNat * 2 ^ (7 * k)=S:=⟨_,rfl⟩
     rw [hV] at hu
     rw [hS] at h1 h2 hV
     rw [hV] at h2
     replace hV:=Lib.hid hV
     replace hS:=Lib.hid hS
     have e12:((k:Int) == 9)=false∨(((k:Int) == 9)=true∧¬ (1:Int) < (x.toNat:Int)):=by
      by_cases h:k=9
      ·right;exact ⟨by rw [beq_iff_eq];omega,by omega⟩
      ·left;rw [beq_eq_false_iff_ne];omega
     by_cases h0:0 < k∧x.toNat=0
     ·rw [if_pos (.inr h0)] at hu
      have hnone:uT (uL l)=.tuple #[.int .u64 0,.int .i64 0]:=by rw [←hu];rfl
      obtain ⟨h0,hx0⟩:=h0
      have e3:(0:Int) < (k:Int):=by omega
      have e4:((x.toNat:Int) == 0)=true:=by rw [beq_iff_eq];omega
      replace hnone:=Lib.hid hnone
      replace hx0:=Lib.hid hx0
      clear hu hacc hno
      rcases e12 with e1 | ⟨e1,e2⟩
      ·go_wp2_with fail
       go_ret2
       exact ⟨by rw [hnone.out];rfl,rfl⟩
      ·go_wp2_with fail
       go_ret2
       exact ⟨by rw [hnone.out];rfl,rfl⟩
     ·rw [if_neg (by omega)] at hu
      have hsome:uT (uL l)=.tuple #[.int .u64 V,.int .i64 ((k+1:Nat):Int)]:=by rw [←hu];rfl
      rw [show (((k+1:Nat):Nat):Int)=(k:Int)+1 by omega] at hsome
      replace hsome:=Lib.hid hsome
      have e34:((x.toNat:Int) == 0)=false∨(((x.toNat:Int) == 0)=true∧¬ (0:Int) < (k:Int)):=by
       by_cases h:x.toNat=0
       ·right;exact ⟨by rw [beq_iff_eq];omega,by omega⟩
       ·left;rw [beq_eq_false_iff_ne];omega
      clear hu hacc hno h0
      rcases e12 with e1 | ⟨e1,e2⟩
      ·rcases e34 with e3 | ⟨e3,e4⟩
       ·go_wp2_with fail
        go_ret2
        exact ⟨by rw [hsome.out];rfl,rfl⟩
       ·go_wp2_with fail
        go_ret2
        exact ⟨by rw [hsome.out];rfl,rfl⟩
      ·rcases e34 with e3 | ⟨e3,e4⟩
       ·go_wp2_with fail
        go_ret2
        exact ⟨by rw [hsome.out];rfl,rfl⟩
       ·go_wp2_with fail
        go_ret2
        exact ⟨by rw [hsome.out];rfl,rfl⟩
  ·have hnone:uT (uL l)=.tuple #[.int .u64 0,.int .i64 0]:=by
    rw [List.drop_of_length_le (by omega)] at hu
    rw [←hu];rfl
   replace hnone:=Lib.hid hnone
   have n2:¬ (k:Int) < (l.length:Int):=by omega
   clear hu hacc
   go_wp2_with fail
   go_ret2
   exact ⟨by rw [hnone.out];rfl,rfl⟩
end Go.Proofs.YtheogchkelmeeaaGreatDoor

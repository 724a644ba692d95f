/- UTF-8 as the reference of chapter 2 reads it, against the model's decoder: plain arithmetic, no program in sight. -/
import Derived.Lib.ValidLaws
set_option linter.all false
set_option maxHeartbeats 32000000
namespace Go.V
open Go Go.Lib

/-- The leading byte without its mark, and the number of bytes. -/
def vu(b:Nat):Nat×Nat:=if 240<=b then (b-240,4) else if 224<=b then (b-224,3) else if 192<=b then (b-192,2) else (b,1)
/-- The bytes of a scalar. -/
def eK(p:Nat):List Nat:=
 if p<128 then [p] else if p<2048 then [192+p/64,128+p%64] else if p<65536 then [224+p/4096,128+p/64%64,128+p%64]
 else [240+p/262144,128+p/4096%64,128+p/64%64,128+p%64]
def uz(p:Nat):Prop:=p<=1114111/\(p<55296\/57343<p)
def Yl(p:Nat)(l:List Nat):Nat:=l.foldl (λp b=>p*64+b%64) p
instance (p:Nat):Decidable (uz p):=by unfold uz;exact inferInstance
/-- The first scalar of n bytes that begin with b0 b1 b2 b3; none: there is none. -/
def Xg(n b0 b1 b2 b3:Nat):Option (Nat×Nat):=
 if n<(vu b0).2 then none
 else if uz (Yl (vu b0).1 ([b1,b2,b3].take ((vu b0).2-1)))/\(eK (Yl (vu b0).1 ([b1,b2,b3].take ((vu b0).2-1)))).map (· % 256)=[b0,b1,b2,b3].take (vu b0).2 then
  some (Yl (vu b0).1 ([b1,b2,b3].take ((vu b0).2-1)),(vu b0).2)
 else none

theorem zbm(n b0 b1 b2 b3:Nat)(F:1<=n)(E:b0<256)(K:b1<256)(J:b2<256)(L:b3<256):
  match Xg n b0 b1 b2 b3 with
  |none=>decodeN n b0 b1 b2 b3=(65533,1)
  |some r=>decodeN n b0 b1 b2 b3=r/\¬(r.1=65533/\r.2=1)/\r.2<=n/\1<=r.2:=by
 by_cases c4:240<=b0
 .have M:vu b0=(b0-240,4):=by simp[vu,c4]
  unfold Xg;rw[M];simp only[Yl,List.take,List.foldl,Nat.reduceSub];by_cases G:n<4
  .rw[if_pos G]
   simp only[decodeN];repeat' rw[if_neg (by omega)]
  rw[if_neg G];generalize O:((b0-240)*64+b1%64)*64+b2%64=q;generalize Q:q*64+b3%64=p;split
  .rename_i r hr
   split at hr
   .cases hr
   .rename_i hbad
    simp only[decodeN];rw[if_neg (by omega),if_neg (by omega),if_neg (by omega)]
    split
    .rename_i hc
     have e:b0%8*262144+b1%64*4096+b2%64*64+b3%64=p:=by omega
     rw[e];split
     .rename_i hd
      refine absurd ⟨⟨by omega,by omega⟩,?_⟩ hbad
      simp only[eK];rw[if_neg (by omega),if_neg (by omega),if_neg (by omega)]
      simp only[List.map_cons,List.map_nil,List.cons.injEq,and_true];refine⟨by omega,by omega,by omega,by omega⟩
     .rfl
    .rfl
  .rename_i r hr
   split at hr
   .rename_i H
    cases hr;obtain⟨hs,T⟩:=H;simp only[eK] at T;split at T
    .simp at T
    .split at T
     .simp at T
     .split at T
      .simp at T
      .simp only[List.map_cons,List.map_nil,List.cons.injEq,and_true] at T
       obtain⟨e0,e1,e2,e3⟩:=T;unfold uz at hs;refine⟨?_,by simp,by simp only;omega,by simp⟩
       simp only[decodeN];rw[if_neg (by omega),if_neg (by omega),if_neg (by omega),if_pos (by refine⟨by omega,⟨by omega,by omega⟩,⟨by omega,by omega⟩,by omega,by omega⟩)]
       have e:b0%8*262144+b1%64*4096+b2%64*64+b3%64=p:=by omega
       rw[e,if_pos (by omega)]
   .cases hr
 by_cases c3:224<=b0
 .have M:vu b0=(b0-224,3):=by simp[vu,c4,c3]
  unfold Xg;rw[M];simp only[Yl,List.take,List.foldl,Nat.reduceSub];by_cases G:n<3
  .rw[if_pos G]
   simp only[decodeN];repeat' rw[if_neg (by omega)]
  rw[if_neg G];generalize O:((b0-224)*64+b1%64)*64+b2%64=p;split
  .rename_i r hr
   split at hr
   .cases hr
   .rename_i hbad
    simp only[decodeN];rw[if_neg (by omega),if_neg (by omega)]
    split
    .rename_i hc
     have e:b0%16*4096+b1%64*64+b2%64=p:=by omega
     rw[e];split
     .rename_i hd
      refine absurd ⟨⟨by omega,by omega⟩,?_⟩ hbad
      simp only[eK];rw[if_neg (by omega),if_neg (by omega),if_pos (by omega)]
      simp only[List.map_cons,List.map_nil,List.cons.injEq,and_true];refine⟨by omega,by omega,by omega⟩
     .rfl
    .rw[if_neg (by omega)]
  .rename_i r hr
   split at hr
   .rename_i H
    cases hr;obtain⟨hs,T⟩:=H;simp only[eK] at T;split at T
    .simp at T
    .split at T
     .simp at T
     .split at T
      .simp only[List.map_cons,List.map_nil,List.cons.injEq,and_true] at T
       obtain⟨e0,e1,e2⟩:=T;unfold uz at hs;refine⟨?_,by simp,by simp only;omega,by simp⟩
       simp only[decodeN];rw[if_neg (by omega),if_neg (by omega),if_pos (by refine⟨by omega,⟨by omega,by omega⟩,by omega,by omega⟩)]
       have e:b0%16*4096+b1%64*64+b2%64=p:=by omega
       rw[e,if_pos (by omega)]
      .simp at T
   .cases hr
 by_cases c2:192<=b0
 .have M:vu b0=(b0-192,2):=by simp[vu,c4,c3,c2]
  unfold Xg;rw[M];simp only[Yl,List.take,List.foldl,Nat.reduceSub];by_cases G:n<2
  .rw[if_pos G]
   simp only[decodeN];repeat' rw[if_neg (by omega)]
  rw[if_neg G];generalize O:(b0-192)*64+b1%64=p;split
  .rename_i r hr
   split at hr
   .cases hr
   .rename_i hbad
    simp only[decodeN];rw[if_neg (by omega)]
    split
    .rename_i hc
     have e:b0%32*64+b1%64=p:=by omega
     rw[e];split
     .rename_i hd
      refine absurd ⟨⟨by omega,by omega⟩,?_⟩ hbad
      simp only[eK];rw[if_neg (by omega),if_pos (by omega)]
      simp only[List.map_cons,List.map_nil,List.cons.injEq,and_true];refine⟨by omega,by omega⟩
     .rfl
    .rw[if_neg (by omega),if_neg (by omega)]
  .rename_i r hr
   split at hr
   .rename_i H
    cases hr;obtain⟨hs,T⟩:=H;simp only[eK] at T;split at T
    .simp at T
    .split at T
     .simp only[List.map_cons,List.map_nil,List.cons.injEq,and_true] at T
      obtain⟨e0,e1⟩:=T;unfold uz at hs;refine⟨?_,by simp,by simp only;omega,by simp⟩
      simp only[decodeN];rw[if_neg (by omega),if_pos (by refine⟨by omega,by omega,by omega⟩)]
      have e:b0%32*64+b1%64=p:=by omega
      rw[e,if_pos (by omega)]
     .split at T
      .simp at T
      .simp at T
   .cases hr
 have M:vu b0=(b0,1):=by simp[vu,c4,c3,c2]
 unfold Xg
 rw[M]
 simp only[Yl,List.take,List.foldl,Nat.reduceSub]
 rw[if_neg (by omega)]
 by_cases ca:b0<128
 .rw[if_pos ⟨⟨by omega,by omega⟩,by simp[eK,ca];omega⟩]
  refine⟨by simp[decodeN,ca],by omega,by simpa using F,by simp⟩
 .rw[if_neg (by rintro⟨_,T⟩;simp only[eK] at T;rw[if_neg ca,if_pos (by omega)] at T;simp at T)]
  simp only[decodeN];rw[if_neg ca,if_neg (by omega),if_neg (by omega),if_neg (by omega)]
end Go.V

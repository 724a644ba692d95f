/- Contracts and plain laws of this seat: part M9. It needs no conditions. -/
import Derived.Test.YtgglheknmlfghaaGreatM8
import Derived.Test.YtgglheknmlfghaaGreatM7
set_option linter.unusedVariables false
set_option linter.unusedSimpArgs false
set_option linter.unusedSectionVars false
set_option maxRecDepth 100000
namespace Go.V
open Go Go.Proofs
theorem zoo (g:Lang) (hg:LightF g) (hc:LangC g) (w:List Int) (hw:w.length≤24) {σ:Type} (C:Clo Tryz.prog g w σ) : ∀ f,WalkC g w C f
 | 0=>z2e g hg hc w hw C
 | f+1=>by
  have ih:=zoo g hg hc w hw C f;exact {call:=fun k x tr a s base hI hk ht hl hs hb hkb=>zx7 g hg hc w hw C f ih k x tr a s base hI hk ht hl hs hb hkb,inv:=fun k x tr a s base hI hk ht hl _ hb hkb=>z5r hg hw ih k x tr a s base hI hk ht hl hb hkb}
section
variable {σ:Type}
def sF (F:σ→List Prt→List Int→σ×Bool):σ×Bool→List (List Prt×List Int)→σ×Bool
 | z,[]=>z
 | z,(p,b)::r=>if z.2=false then z else sF F (F z.1 p b) r
theorem zs5 {F:σ→List Prt→List Int→σ×Bool} {z:σ×Bool} (h:z.2=false) : ∀ l,sF F z l=z
 | []=>rfl
 | (p,b)::r=>by unfold sF;rw [if_pos h]
theorem zop {F:σ→List Prt→List Int→σ×Bool} (z:σ×Bool) (p:List Prt) (b:List Int) (r:List (List Prt×List Int)):sF F z ((p,b)::r)=if z.2=false then z else sF F (F z.1 p b) r:=rfl
theorem zoq {F:σ→List Prt→List Int→σ×Bool} : ∀ (z:σ×Bool) (l r:List (List Prt×List Int)),sF F z (l++r)=sF F (sF F z l) r
 | z,[],r=>rfl
 | z,(p,b)::l,r=>by
  rw [List.cons_append,zop,zop];by_cases h:z.2=false
  ·rw [if_pos h,if_pos h]
   exact (zs5 h r).symm
  ·rw [if_neg h,if_neg h]
   exact zoq _ l r
theorem zs6 {F:σ→List Prt→List Int→σ×Bool} {α β:Type} {pr:β→σ×Bool} {G:β→α→β} {T:α→List (List Prt×List Int)} : ∀ (l:List α) (y:β),(∀ y,∀ e∈l,pr (G y e)=sF F (pr y) (T e))→pr (l.foldl G y)=sF F (pr y) (l.flatMap T)
 | [],y,_=>rfl
 | e::l,y,h=>by
  rw [List.foldl_cons,List.flatMap_cons,zoq,← h y e (List.mem_cons_self ..)];exact zs6 l _ fun y e he=>h y e (List.mem_cons_of_mem _ he)
variable {P:Program} (g:Lang) (w:List Int) (C:Clo P g w σ)
def prS (z:Sst σ):σ×Bool:=(z.1.1,z.2)
def z5s (a:List Prt) (s:Nat) (base:List Int):List (List Prt×List Int):=
 if a≠[]∧s &&& zb1 g.net.final≠0∧w.length≤base.length∧zfh g w base=true then [(a,base)] else []
theorem zz9 (x:σ×List (List Int)) (a:List Prt) (s:Nat) (base:List Int):prS (zeu g w C x a s base)=sF C.F (x.1,true) (z5s g w a s base):=by
 unfold zeu z5s
 by_cases h:a≠[]∧s &&& zb1 g.net.final≠0∧w.length≤base.length
 ·rw [if_pos h]
  by_cases hf:zfh g w base=true
  ·rw [if_pos hf,if_pos ⟨h.1,h.2.1,h.2.2,hf⟩];simp [sF,prS]
  ·rw [if_neg hf,if_neg (fun h'=>hf h'.2.2.2)];rfl
 ·rw [if_neg h,if_neg (fun h'=>h ⟨h'.1,h'.2.1,h'.2.2.1⟩)];rfl
theorem z0a : ∀ (f:Nat) (x:σ×List (List Int)) (a:List Prt) (s:Nat) (base:List Int),prS (zar g w C f x a s base)=sF C.F (x.1,true) (z5s g w a s base++walkT g w f a s base)
 | 0,x,a,s,base=>by
  unfold zar walkT;rw [List.append_nil,zz9]
 | f+1,x,a,s,base=>by
  rw [zoq,← zz9 g w C];unfold zar;by_cases h:(zeu g w C x a s base).2=false
  ·rw [if_pos h,zs5 (z:=prS (zeu g w C x a s base)) h]
  rw [if_neg h];have h':(zeu g w C x a s base).2=true:=by simpa using h
  have e0:prS (zeu g w C x a s base)=prS (((zeu g w C x a s base).1,true):Sst σ):=by unfold prS;rw [h']
  rw [e0];unfold walkT;refine zs6 (F:=C.F) (pr:=prS) g.lex _ fun y e he=>?_
  unfold entS;by_cases hy:y.2=false
  ·rw [if_pos hy]
   exact (zs5 (z:=prS y) hy _).symm
  rw [if_neg hy];by_cases hz:za1 g.net.steps s e.cls=0
  ·rw [if_pos hz,if_neg (fun h=>h hz)];rfl
  rw [if_neg hz,if_pos hz];have hy':y.2=true:=by simpa using hy
  have e1:prS y=prS ((y.1,true):Sst σ):=by unfold prS;rw [hy']
  rw [e1];unfold stepS;refine zs6 (F:=C.F) (pr:=prS) _ _ fun z alt ha=>?_
  unfold altS;by_cases hzz:z.2=false
  ·rw [if_pos hzz]
   exact (zs5 (z:=prS z) hzz _).symm
  rw [if_neg hzz];split
  ·rfl
  have hz':z.2=true:=by simpa using hzz
  have e2:prS z=(z.1.1,true):=by unfold prS;rw [hz']
  rw [e2,z0a f];unfold z5s;have:(a++[(⟨e.id,(alt:Int),0⟩:Prt)])≠[]:=by simp
  simp only [this,ne_eq,not_false_eq_true,true_and]
end
def zby (g:Lang) (w:List Int):List (List Prt):=if w.length=0∨24<w.length then [] else furF g w 4 []
theorem zor {g:Lang} (hg:LightF g) {w:List Int} (h0:¬ w.length=0) (hw:w.length≤24) {σ:Type} {P:Program} (C:Clo P g w σ) (x:σ) :
  prS (zar g w C 4 (x,[]) [] 1 [])=sF C.F (x,true) ((zby g w).map fun b=>(b,zb3 g.lex b)):=by
 rw [z0a]
 have h:=znu hg hw 4 [] rfl (fun p hp=>by cases hp)
 have e1:runS g.net.steps (zba g.lex [])=1:=rfl
 have e2:zb3 g.lex []=[]:=rfl
 rw [e1,e2] at h
 unfold zby
 rw [if_neg (by omega),← h]
 unfold z5s
 rw [if_neg (fun h=>h.1 rfl),List.nil_append]
end Go.V
namespace Go.V
open Go Go.Proofs
theorem zrq {w:World} {E:Nat→Prop} {β:Nat→Value} {j:Nat} (hj:β j = .slice none 0 0) : ∀ {l:List Sym} {i:Nat} {vs:List Value},l[i]?=some .nils→Sms w E β l vs→Sms w E β (l.set i (.ar j)) vs
 | [],i,vs,hi,_=>by simp at hi
 | s::r,0,vs,hi,h=>by
  simp at hi;subst hi
  simp only [Sms,List.set_cons_zero] at h ⊢;obtain ⟨v,vs',rfl,h1,h2⟩:=h;refine ⟨v,vs',rfl,?_,h2⟩
  simp only [Sm] at h1 ⊢;rw [h1,hj]
 | s::r,i+1,vs,hi,h=>by
  simp only [Sms,List.set_cons_succ] at h ⊢;obtain ⟨v,vs',rfl,h1,h2⟩:=h;exact ⟨v,vs',rfl,h1,zrq hj (by simpa using hi) h2⟩
theorem z5t {m:Nat} {s:Sym} (hs:Sym.lo m s) : ∀ {l:List Sym} {i:Nat},Sym.los m l→Sym.los m (l.set i s)
 | [],i,h=>by simp
 | x::r,0,h=>by simp only [List.set_cons_zero,Sym.los] at h ⊢;exact ⟨hs,h.2⟩
 | x::r,i+1,h=>by simp only [List.set_cons_succ,Sym.los] at h ⊢;exact ⟨h.1,z5t hs h.2⟩
theorem zs7 {P:Program} {st:St} {Q:DE→St→Prop} {c:Code} (id i e sz:Nat) {T:Nat} {l:List Sym} (hl:st.look id=some (.box T l)) (hi:l[i]?=some .nils)
  (h:Triple P c Q ((st.new (.arr e sz [])).set id (.box T (l.set i (.ar st.next))))):Triple P c Q st:=by
 intro X w0 β a w hm
 have hm':=hm.z0m e sz
 have hlt:=(hm.obj hl).1
 have ho':(st.new (.arr e sz [])).look id=some (.box T l):=by
  show zaa ((st.next,_)::st.own) id=_
  simp only [zaa];rw [if_neg (by omega)]
  exact hl
 obtain ⟨_,hlo,b,vs,h1,h2,h3,h4,h5⟩:=hm'.obj ho'
 refine h X w0 _ a w (hm'.update ho' (b:=b) (w':=w) (by simp only at h1;rw [h1];rfl) h2 (fun _ _=>rfl) rfl rfl rfl rfl (Drw.refl _) ?_ ⟨b,vs,h1,h2,h3,zrq (by simp) hi h4,h5⟩)
 exact z5t (by simp [Sym.lo,St.new]) hlo
theorem zcr.args {P:Program} {f:Nat} {args args':List Sym} {own:List (Nat×Obj')} {n:Nat} {s:Sym} {nx:Nat} {own':List (Nat×Obj')} {mv:List Nat}
  (ha : ∀ (w:World) (E:Nat→Prop) (β:Nat→Value) (vs:List Value),Sms w E β args' vs→Sms w E β args vs) (h:zcr P f args own n s nx own' mv):zcr P f args' own n s nx own' mv:=
 ⟨h.1,fun X w0 β w vs hβ hm hs=>h.2 X w0 β w vs hβ hm (ha _ _ _ _ hs)⟩
theorem z0b {w:World} {E:Nat→Prop} {β:Nat→Value} {v:Value} (h:Sm w E β .nils v):Sm w E β (.d (.sl [])) v:=by
 simp only [Sm] at h ⊢
 rw [h]
 simp only [R];exact ⟨none,0,rfl,by simp,Nat.zero_le _,fun _=>rfl,fun h=>absurd rfl h⟩
theorem walk_nil {P:Program} {f:Nat} {a s:Sym} {own:List (Nat×Obj')} {n:Nat} {r:Sym} {nx:Nat} {own':List (Nat×Obj')} {mv:List Nat}
  (h:zcr P f [a,.d (zae []),s,.d (ints [])] own n r nx own' mv):zcr P f [a,.nils,s,.nils] own n r nx own' mv:=by
 refine h.args fun w E β vs hs=>?_
 simp only [Sms] at hs ⊢
 obtain ⟨v1,_,rfl,h1,v2,_,rfl,h2,v3,_,rfl,h3,v4,_,rfl,h4,rfl⟩:=hs
 exact ⟨v1,_,rfl,h1,v2,_,rfl,z0b h2,v3,_,rfl,h3,v4,_,rfl,z0b h4,rfl⟩
end Go.V
namespace Go.V
open Go Go.Proofs
def useF (id:Int) (b:Bool) (a:List Prt) (_:List Int):Bool×Bool:=(b || a.any (fun p=>decide (p.entry=id)),!(b || a.any (fun p=>decide (p.entry=id))))
def zcb (id:Int) (b:Bool):List (Nat×Obj'):=[(2,.box 3 [.d (int id)]),(3,.box 4 [.d (.bool b)])]
set_option maxHeartbeats 8000000 in
theorem yal (g:Lang) (w:List Int) (tr:List (List Int)) (id:Int) (b:Bool) (a:List Prt) (ha:a.length≤4) (base:List Int) :
  zcr Tryz.prog 59 [.d (zae a),.d (ints base),.bp 2 0,.bp 3 0] (zai g w tr (.fn 59 [.bp 2 0,.bp 3 0]) (zcb id b)) 4
   (.d (.bool (useF id b a base).2)) 4 (zai g w tr (.fn 59 [.bp 2 0,.bp 3 0]) (zcb id (useF id b a base).1)) []:=by
 refine zbg mixed Tryz.func59 rfl call_59 (by simp [Sym.los,Sym.lo]) ?_
 simp +decide [Tryz.f59,zai,zcb,zak,Lang.d,int,ints,u32,zae]
 refine zaf mixed (fun k:Nat=>{n:=22,next:=4,slots:=[(2,.bp 2 0),(3,.bp 3 0),(9,.d (zae a)),(10,.d (int a.length)),(11,.d (int k))],own:=zai g w tr (.fn 59 [.bp 2 0,.bp 3 0]) (zcb id (b || (a.take k).any (fun p=>decide (p.entry=id)))),base:=4})
  (fun k=>k≤a.length) (fun k=>a.length-k) 0 (by simp) ?_ ?_
 ·simp +decide [zai,zcb,zak,Lang.d,int,ints,u32,zae]
 intro k hk
 by_cases hlt:k<a.length
 case neg=>
  have:k=a.length:=by omega
  subst this;rw [List.take_length];simp +decide [zai,zcb,zak,Lang.d,int,ints,u32,zae,useF]
 have hlt':(k:Int)<a.length:=by omega
 obtain ⟨p,ep⟩ : ∃ p,a[k]=p:=⟨_,rfl⟩
 have e1:a[k]?=some p:=by rw [List.getElem?_eq_getElem hlt,ep]
 have hsn:(a.take (k+1)).any (fun p=>decide (p.entry=id))=((a.take k).any (fun p=>decide (p.entry=id)) || decide (p.entry=id)):=by
  rw [List.take_succ_eq_append_getElem hlt,List.any_append,ep];simp
 generalize (a.take k).any (fun p=>decide (p.entry=id))=m at hsn
 by_cases he:p.entry=id
 ·simp +decide [zai,zcb,zak,Lang.d,int,ints,u32,zae,Prt.row,hlt,hlt',ep,e1,he,I64]
  exact ⟨⟨by omega,by omega⟩,k+1,hlt,by omega,by omega,.inr ⟨p,by rw [List.take_succ_eq_append_getElem hlt,ep];simp,he⟩⟩
 ·simp +decide [zai,zcb,zak,Lang.d,int,ints,u32,zae,Prt.row,hlt,hlt',ep,e1,he,I64]
  exact ⟨⟨by omega,by omega⟩,k+1,hlt,by omega,by omega,by rw [hsn];simp [he]⟩
theorem yam (id:Int) (b:Bool):RestOk 4 (.fn 59 [.bp 2 0,.bp 3 0]) (zcb id b) where
 two:=by omega
 keys:=by simp [zcb]
 ids i o h:=by
  simp only [zcb,List.mem_cons,List.not_mem_nil,or_false] at h;rcases h with h | h <;> (cases h;simp [Obj'.lo,Sym.los,Sym.lo])
 range:=rfl
 thawed k x h:=by
  have h2:¬(2=k):=by omega
  have h3:¬(3=k):=by omega
  simp [zcb,zch,zpc,zj1,thaw,h2,h3]
 thawC k x h:=by
  have h2:¬(2=k):=by omega
  have h3:¬(3=k):=by omega
  simp [thaw,zj1,h2,h3]
 fn:=by simp [Sym.lo,Sym.los]
def useC (g:Lang) (w:List Int) (id:Int):Clo Tryz.prog g w Bool where
 F:=useF id
 rest:=zcb id
 fid:=59
 caps:=[.bp 2 0,.bp 3 0]
 n:=4
 mv:=[]
 mvOk i h:=by cases h
 mvCaps:=by simp [zbl,zan]
 Inv _ _:=True
 ok b:=yam id b
 mono _ _ h:=h
 call k x tr a base _ _ ha _:=⟨yal g w tr id x a ha base,trivial⟩
set_option maxHeartbeats 16000000 in
theorem z2f (g:Lang) (hg:LightF g) (hc:LangC g) (w:List Int) (hw:w.length≤30) (id:Int) (b:Bool) :
  zcr Tryz.prog 41 [.d g.d,.d (ints w),.fn 59 [.bp 0 0,.bp 1 0]] ([(0,.box 3 [.d (int id)]),(1,.box 4 [.d (.bool b)])]) 2
   (.tup []) 2 ([(0,.box 3 [.d (int id)]),(1,.box 4 [.d (.bool (sF (useF id) (b,true) ((zby g w).map fun b=>(b,zb3 g.lex b))).1)])]) []:=by
 refine zbg mixed Tryz.func41 rfl call_41 (by simp [Sym.los,Sym.lo]) ?_
 by_cases h0:w.length=0
 ·have h0':(w.length:Int)=0:=by omega
  simp +decide [Tryz.f41,zak,Lang.d,int,ints,u32,h0,h0',zby,sF,zcb];done
 have h0':¬(w.length:Int)=0:=by omega
 by_cases h1:24<w.length
 ·have h1':(24:Int)<w.length:=by omega
  simp +decide [Tryz.f41,zak,Lang.d,int,ints,u32,h0,h0',h1,h1',zby,sF,zcb];done
 have h1':¬(24:Int)<w.length:=by omega
 simp +decide [Tryz.f41,zak,Lang.d,int,ints,u32,h0,h0',h1,h1',zcb]
 have hR:=(hg.z5a hc).rules
 have hsh:=zq3 g.rules (by have:=hR.2;omega) (fun r hr=>by have h1:=(hR.1 r hr).dst;have h2:=(hR.1 r hr).src;omega)
 refine yb9 mixed 7 [] (by rfl) (by rfl) (by rfl) (by rfl) (by rfl) ?_
 simp +decide [zak,Lang.d,int,ints,u32]
 refine zah (by rfl) (by rfl) hsh (by simp [D.scalar]) ?_
 simp +decide [zak,Lang.d,int,ints,u32]
 refine ⟨by rfl,?_⟩
 have hf:=hg.net'.ok.2.1
 have hfl:g.net.final.length<2^40:=hg.net'.few2
 refine zbp mixed (fun k:Nat=>{n:=46,next:=5,slots:=[(6,.bp 4 0),(28,.d (ints g.net.final)),(29,.d (int g.net.final.length)),(30,.d (int k))],own:=((4,.box 130 (zak g.d++[.d (ints w),.d (.bool (zfj g.rules)),.d (u32 (zb1 (g.net.final.take k))),.mp 3,.fn 59 [.bp 0 0,.bp 1 0]]))::(3,.map 81 [])::[(0,.box 3 [.d (int id)]),(1,.box 4 [.d (.bool b)])]),base:=2})
  (fun k=>k≤g.net.final.length) (fun k=>g.net.final.length-k) 0 (by simp) ?_ ?_
 ·simp +decide [zak,Lang.d,int,ints,u32,zb1,zcb]
 intro k hk
 by_cases hlt:k<g.net.final.length
 ·have hlt':(k:Int)<g.net.final.length:=by omega
  have hsn:zb1 (g.net.final.take (k+1))=zjb (zb1 (g.net.final.take k)) g.net.final[k]:=by unfold zb1;rw [zas hlt,List.foldl_append];rfl
  have hm8:zb1 (g.net.final.take k)<8:=zhr _ 0 (fun x hx=>hf x (List.mem_of_mem_take hx)) (by omega)
  have hq:=hf g.net.final[k] (List.getElem_mem hlt);obtain ⟨c,ec⟩ : ∃ c,g.net.final[k]=c:=⟨_,rfl⟩;have e1:g.net.final[k]?=some c:=by rw [List.getElem?_eq_getElem hlt,ec]
  rw [ec] at hsn hq;generalize zb1 (g.net.final.take k)=mm at hsn hm8;have hwb:=zls hm8 hq.1 (show c<3 by omega)
  refine zaq mixed ?_
  simp +decide [zak,Lang.d,int,ints,u32,hlt,hlt',e1,ec,I64,zcb];refine yca mixed 9 4 (by rfl) rfl rfl rfl rfl (by rfl) (by simp) ?_
  simp +decide [zak,Lang.d,int,ints,u32,hlt,hlt',e1,ec,I64];exact ⟨hq.1,⟨by omega,by omega⟩,k+1,hlt,by omega,by omega,by rw [hsn];exact hwb⟩
 have:k=g.net.final.length:=by omega
 subst this
 rw [List.take_length]
 refine zaq mixed ?_
 simp +decide [zak,Lang.d,int,ints,u32,zcb]
 have hwc:=walk_nil ((zoo g hg hc w (by omega) (useC g w id) 4).call 0 b [] [] 1 [] trivial (by decide) (fun _ h=>by cases h) rfl (by omega) (by simp) (fun _ h=>by cases h))
 have hpl:=zor hg h0 (by omega) (useC g w id) b
 generalize zar g w (useC g w id) 4 (b,[]) [] 1 []=z at hwc hpl
 obtain ⟨⟨zx,zt⟩,zb⟩:=z
 have hzx:(sF (useF id) (b,true) ((zby g w).map fun b=>(b,zb3 g.lex b))).1=zx:=by
  have:=congrArg Prod.fst hpl;exact this.symm
 refine zam.mut [4,3,0,1] [.bp 0 0,.nils,.d (u32 1),.nils] (zai g w [] (.fn 59 [.bp 2 0,.bp 3 0]) (zcb id b)) (by rfl) (by simp [rens,ren,rho,u32]) (by simp) ?_ hwc ?_
 ·simp [Fits,zes,zai,zcb,St.look,zaa,zcd,rens,ren,rho,zak,Lang.d,zks,int,ints,u32,List.range,List.range.loop]
 simp +decide [zai,zak,Lang.d,int,ints,u32,hzx,useC,zcb]
theorem ybz (id:Int) : ∀ (l:List (List Prt)) (f:List Prt→List Int) (b:Bool),(sF (useF id) (b,!b) (l.map fun a=>(a,f a))).1=(b || l.any fun a=>a.any fun p=>decide (p.entry=id))
 | [],f,b=>by simp [sF]
 | a::l,f,b=>by
  rw [List.map_cons,zop];cases b with
  | true=>simp
  | false=>
   rw [if_neg (by simp)]
   have ih:=ybz id l f (false || a.any (fun p=>decide (p.entry=id)))
   unfold useF at ih ⊢;rw [ih];simp
def z2g (g:Lang) (w:List Int) (id:Int):Bool:=(zby g w).any fun a=>a.any fun p=>decide (p.entry=id)
set_option maxHeartbeats 8000000 in
theorem z5u (g:Lang) (hg:LightF g) (hc:LangC g) (w:List Int) (hw:w.length≤30) (id:Int):za2 Tryz.prog 25 [g.d,ints w,int id] (.bool (z2g g w id)):=by
 have hR:=z2f g hg hc w hw id false
 rw [show (sF (useF id) (false,true) ((zby g w).map fun b=>(b,zb3 g.lex b))).1=z2g g w id from by rw [show (true:Bool) = !false from rfl,ybz];simp [z2g]] at hR
 refine zab mixed Tryz.func25 rfl call_25 ?_
 simp +decide [Tryz.f25,zak,Lang.d,int,ints]
 refine zam.mut [1,2] [.d g.d,.d (ints w),.fn 59 [.bp 0 0,.bp 1 0]] [(0,.box 3 [.d (int id)]),(1,.box 4 [.d (.bool false)])] (by rfl) (by simp [rens,ren,rho,Lang.d,int,ints]) (by simp) ?_ hR ?_
 ·simp [Fits,zes,St.look,zaa,zcd,rens,ren,rho,int,List.range,List.range.loop]
 simp +decide [useC,int]
end Go.V
namespace Go.V
open Go Go.Proofs
def posL {α:Type} (lt:α→Bool) (l:List α):Nat→Nat
 | 0=>0
 | i+1=>match l[i]? with
  | some y=>if lt y=true then posL lt l i else i+1
  | none=>i+1
theorem zx8 {α:Type} (lt:α→Bool) (l:List α) : ∀ i,posL lt l i≤i
 | 0=>Nat.le_refl _
 | i+1=>by
  unfold posL;split
  ·split
   ·exact Nat.le_succ_of_le (zx8 lt l i)
   ·exact Nat.le_refl _
  ·exact Nat.le_refl _
def insL {α:Type} (lt:α→Bool) (x:α) (l:List α):List α:=l.take (posL lt l l.length)++x::l.drop (posL lt l l.length)
def shM (R:List (List D)) (nr:List D) (p L:Nat):List (List D):=
 (R++[nr]).take (p+1)++(((((R++[nr]).drop p).take (L+1-p)).take (L-p))++(R++[nr]).drop (p+1+min (L-p) (L+1-p)))
theorem yec (R:List (List D)) (nr:List D) {p L:Nat} (hL:R.length=L) (hp:p<L):shM R nr p L=(R++[nr]).take (p+1)++R.drop p:=by
 subst hL
 unfold shM
 have h1:(R++[nr]).drop (p+1+min (R.length-p) (R.length+1-p))=[]:=by
  refine List.drop_eq_nil_of_le ?_
  simp;omega
 have h2:((R++[nr]).drop p).take (R.length-p)=R.drop p:=by
  rw [List.drop_append_of_le_length (by omega),List.take_append_of_le_length (by simp),List.take_of_length_le (by simp)]
 rw [h1,List.append_nil,List.take_take,show min (R.length-p) (R.length+1-p)=R.length-p by omega,h2]
theorem zvi {R:List (List D)} (hR : ∀ r∈R,r.length=1) {nr:List D} (hn:nr.length=1) (x:D) {p L:Nat} (hL:R.length=L) (hp:p<L) :
  (∀ r∈((R++[nr]).drop p).take (L+1-p),r.length=1)∧1≤((shM R nr p L)[p]?.getD []).length ∧
   (shM R nr p L).set p (x::((shM R nr p L)[p]?.getD []).tail)=R.take p++[x]::R.drop p:=by
 have hall : ∀ r∈R++[nr],r.length=1:=by
  intro r h;rcases List.mem_append.1 h with h | h
  ·exact hR r h
  ·rw [List.mem_singleton.1 h];exact hn
 refine ⟨fun r h=>hall r (List.mem_of_mem_drop (List.mem_of_mem_take h)),?_⟩
 rw [yec R nr hL hp]
 have h1:((R++[nr]).take (p+1)).length=p+1:=by rw [List.length_take];simp;omega
 have hlt:p<((R++[nr]).take (p+1)++R.drop p).length:=by rw [List.length_append];omega
 have hg:((R++[nr]).take (p+1)++R.drop p)[p]?.getD []=R[p]:=by
  rw [List.getElem?_append_left (by omega),List.getElem?_take,if_pos (by omega),List.getElem?_append_left (by omega),List.getElem?_eq_getElem (by omega)];rfl
 rw [hg]
 have hr1:=hR R[p] (List.getElem_mem (by omega))
 refine ⟨by omega,?_⟩
 have ht:(R[p]).tail=[]:=by
  cases h:R[p] with
  | nil=>rfl
  | cons a l=>rw [h] at hr1;simp at hr1;exact hr1
 rw [ht,List.set_append_left _ _ (by omega),List.take_append_of_le_length (by omega),List.take_succ_eq_append_getElem (by omega),List.set_append_right _ _ (by simp;omega)]
 simp
 rw [show p-min p R.length=0 by omega];rfl
noncomputable instance decBytes (k:ByteArray) (l:List ByteArray):Decidable (k∈l):=Classical.propDecidable _
abbrev BasS:=List ByteArray×List (List Int)
noncomputable def basF (x:BasS) (_:List Prt) (base:List Int):BasS×Bool:=(if keyS base∈x.1 then x else (x.1++[keyS base],insL (fun o=>z9m base o) base x.2),true)
theorem zfm {α:Type} {lt:α→Bool} {x y:α} {l:List α}:y∈insL lt x l↔y=x∨y∈l:=by
 unfold insL
 rw [List.mem_append,List.mem_cons]
 constructor
 ·rintro (h | h | h)
  ·exact .inr (List.mem_of_mem_take h)
  ·exact .inl h
  ·exact .inr (List.mem_of_mem_drop h)
 ·rintro (h | h)
  ·exact .inr (.inl h)
  ·rw [← List.take_append_drop (posL lt l l.length) l] at h
   rcases List.mem_append.1 h with h | h
   ·exact .inl h
   ·exact .inr (.inr h)
theorem zkv {α:Type} {lt:α→Bool} {x:α} {l:List α}:(insL lt x l).length=l.length+1:=by
 have:=zx8 lt l l.length
 unfold insL
 rw [List.length_append,List.length_take,List.length_cons,List.length_drop]
 omega
end Go.V
namespace Go.V
open Go Go.Proofs
noncomputable def z0c (g:Lang) (w:List Int):List (List Int):=(sF basF (([],[]),true) ((zby g w).map fun b=>(b,zb3 g.lex b))).1.2
end Go.V

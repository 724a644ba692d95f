/- Contracts and plain laws of this seat: part ME. It needs no conditions. -/
import Derived.Test.YtgglheknmlfghaaGreatMB
import Derived.Test.YtgglheknmlfghaaGreatM1
import Derived.Test.YtgglheknmlfghaaGreatW1
import Derived.Test.YtgglheknmlfghaaGreatMD
set_option linter.unusedVariables false
set_option linter.unusedSimpArgs false
set_option linter.unusedSectionVars false
set_option maxRecDepth 100000
namespace Go.V
open Go Go.Proofs
def zeq (l:List Ent) (d:Int):List Ent:=l.filter fun e=>!decide (e.id=d)
def zgh (g:Lang) (d:Int):Lang:={g with lex:=zeq g.lex d}
theorem zkx {d id:Int} (h:id≠d) : ∀ l:List Ent,getE (zeq l d) id=getE l id
 | []=>rfl
 | e::l=>by
  have ih:=zkx h l;unfold getE zeq at ih ⊢;by_cases e1:e.id=d
  ·rw [List.filter_cons_of_neg (by simp [e1]),List.find?_cons_of_neg (by simp [e1];exact fun e2=>h e2.symm)]
   exact ih
  ·rw [List.filter_cons_of_pos (by simp [e1])]
   by_cases e2:e.id=id
   ·rw [List.find?_cons_of_pos (by simp [e2]),List.find?_cons_of_pos (by simp [e2])]
   ·rw [List.find?_cons_of_neg (by simp [e2]),List.find?_cons_of_neg (by simp [e2])]
    exact ih
theorem zvr {l:List Ent} {d:Int} (hm : ∀ e∈l,e.id≠d→e.main≠d) : ∀ (f:Nat) {id:Int},id≠d→wayR (zeq l d) f id=wayR l f id
 | 0,_,_=>rfl
 | f+1,id,h=>by
  unfold wayR;rw [zkx h];by_cases hg:(getE l id).2=true
  ·have:=hm _ (zkk hg) (by rw [zod hg];exact h)
   rw [zvr hm f this]
  ·rw [if_neg hg,if_neg hg]
theorem ztf {l:List Ent} {s:List Sens} : ∀ {f:Nat} {id:Int},wayR l f id=some s→wayR l (f+1) id=some s
 | 0,id,h=>by cases h
 | f+1,id,h=>by
  rw [wayR] at h ⊢;by_cases h1:(getE l id).2=true
  ·rw [if_pos h1] at h ⊢
   by_cases h2:(getE l id).1.senses≠[]
   ·rw [if_pos h2] at h ⊢;exact h
   ·rw [if_neg h2] at h ⊢
    by_cases h3:(getE l id).1.main=0
    ·rw [if_pos h3] at h;cases h
    ·rw [if_neg h3] at h ⊢;exact ztf h
  ·rw [if_neg h1] at h;cases h
theorem zvs {l:List Ent} {s:List Sens} {f:Nat} {id:Int} (h:wayR l f id=some s) : ∀ k,wayR l (f+k) id=some s
 | 0=>h
 | k+1=>ztf (zvs h k)
theorem zru {l:List Ent} {s:List Sens} : ∀ {f:Nat} {id:Int},wayR l (f+1) id=some s→wayR l f id=none→∃ xs:List Int,xs.length=f+1∧xs.Nodup∧∀ x∈xs,(getE l x).2=true∧wayR l (f+1) x≠none
 | 0,id,h,_=>by
  refine ⟨[id],rfl,by simp,fun x hx=>?_⟩
  rw [List.mem_singleton] at hx;subst hx;refine ⟨?_,by rw [h];simp⟩
  rw [wayR] at h;by_cases h1:(getE l x).2=true
  ·exact h1
  ·rw [if_neg h1] at h;cases h
 | f+1,id,h,hn=>by
  have h0:=h;rw [wayR] at h hn;by_cases h1:(getE l id).2=true
  case neg=>rw [if_neg h1] at h;cases h
  rw [if_pos h1] at h hn;by_cases h2:(getE l id).1.senses≠[]
  ·rw [if_pos h2] at hn;cases hn
  rw [if_neg h2] at h hn;by_cases h3:(getE l id).1.main=0
  ·rw [if_pos h3] at h;cases h
  rw [if_neg h3] at h hn;obtain ⟨xs,hl,hnd,hx⟩:=zru h hn;have hself:wayR l (f+1) id=none:=by rw [wayR,if_pos h1,if_neg h2,if_neg h3];exact hn
  refine ⟨id::xs,by rw [List.length_cons,hl],List.nodup_cons.2 ⟨fun hin=>(hx _ hin).2 hself,hnd⟩,fun x hx'=>?_⟩
  rcases List.mem_cons.1 hx' with e | hx'
  ·subst e;exact ⟨h1,by rw [h0];simp⟩
  ·refine ⟨(hx x hx').1,?_⟩
   cases hw:wayR l (f+1) x with
   | none=>exact absurd hw (hx x hx').2
   | some t=>rw [ztf hw];simp
theorem ztg {α:Type} [DecidableEq α] : ∀ {xs ys:List α},xs.Nodup→(∀ x∈xs,x∈ys)→xs.length≤ys.length
 | [],_,_,_=>Nat.zero_le _
 | x::xs,ys,hn,hs=>by
  rw [List.nodup_cons] at hn;have hx:=hs x (List.mem_cons_self ..);have ih:=ztg (ys:=ys.erase x) hn.2 fun y hy=>by
   have hne:y≠x:=fun e=>hn.1 (e▸hy)
   exact (List.mem_erase_of_ne hne).2 (hs y (List.mem_cons_of_mem _ hy))
  rw [List.length_erase_of_mem hx] at ih;have:=List.length_pos_of_mem hx
  rw [List.length_cons];omega
theorem zox {l:List Ent} {s:List Sens} {id:Int} : ∀ {f:Nat},wayR l f id=some s→wayR l (l.length+1) id=some s
 | 0,h=>by cases h
 | f+1,h=>by
  cases hn:wayR l f id with
  | some t=>
   have:=ztf hn
   rw [h] at this;obtain rfl:=Option.some.inj this;exact zox hn
  | none=>
   obtain ⟨xs,hl,hnd,hx⟩:=zru h hn;have:=ztg (ys:=l.map (·.id)) hnd fun x hx'=>by
    have h1:=(hx x hx').1;exact List.mem_map.2 ⟨_,zkk h1,zod h1⟩
   rw [hl,List.length_map] at this;have h2:=zvs h (l.length-f);rw [show f+1+(l.length-f)=l.length+1 by omega] at h2
   exact h2
theorem zyi {l:List Ent} {d id:Int} (hm : ∀ e∈l,e.id≠d→e.main≠d) (h:id≠d) (hs:zcf l id≠[]):zcf (zeq l d) id=zcf l id:=by
 unfold zcf at hs ⊢
 cases hw:wayR l (l.length+1) id with
 | none=>rw [hw] at hs;exact absurd rfl hs
 | some s=>
  have h1:wayR (zeq l d) (l.length+1) id=some s:=by rw [zvr hm _ h];exact hw
  rw [zox h1]
theorem zmz {α β:Type} {p:α→Bool} {f:α→List β} : ∀ l:List α,(l.filter p).flatMap f=l.flatMap fun x=>if p x=true then f x else []
 | []=>rfl
 | a::l=>by
  rw [List.flatMap_cons,← zmz l];by_cases h:p a=true
  ·rw [List.filter_cons_of_pos h,List.flatMap_cons,if_pos h]
  ·rw [List.filter_cons_of_neg h,if_neg h,List.nil_append]
def noE (d:Int) (b:List Prt):Bool:=b.all fun p=>!decide (p.entry=d)
theorem zvt {g:Lang} {w:List Int} : ∀ {f:Nat} {a:List Prt} {s:Nat} {base:List Int} {x:List Prt×List Int},x∈walkT g w f a s base→∀ p∈a,p∈x.1
 | 0,_,_,_,_,h=>by cases h
 | f+1,a,s,base,x,h=>by
  rw [walkT,List.mem_flatMap] at h;obtain ⟨e,_,h⟩:=h;split at h
  case isFalse=>cases h
  rw [List.mem_flatMap] at h;obtain ⟨alt,_,h⟩:=h;split at h
  case isTrue=>cases h
  intro p hp;rcases List.mem_append.1 h with h | h
  ·split at h
   ·rw [List.mem_singleton] at h;rw [h];exact List.mem_append.2 (.inl hp)
   ·cases h
  ·exact zvt h p (List.mem_append.2 (.inl hp))
theorem zrv {g:Lang} {w:List Int} {d:Int} : ∀ (f:Nat) {a:List Prt} {s:Nat} {base:List Int},noE d a=true→walkT (zgh g d) w f a s base=(walkT g w f a s base).filter fun x=>noE d x.1
 | 0,_,_,_,_=>rfl
 | f+1,a,s,base,ha=>by
  rw [walkT,walkT,show (zgh g d).lex=zeq g.lex d from rfl,zeq,zmz,List.filter_flatMap]
  refine zcn fun e he=>?_
  by_cases hd:e.id=d
  ·rw [if_neg (by simp [hd])]
   symm
   rw [List.filter_eq_nil_iff];intro x hx;have hin : ∃ alt:Nat,(⟨e.id,alt,0⟩:Prt)∈x.1:=by
    split at hx
    case isFalse=>cases hx
    rw [List.mem_flatMap] at hx;obtain ⟨alt,_,hx⟩:=hx;refine ⟨alt,?_⟩
    split at hx
    case isTrue=>cases hx
    rcases List.mem_append.1 hx with hx | hx
    ·split at hx
     ·rw [List.mem_singleton] at hx;rw [hx];exact List.mem_append.2 (.inr (List.mem_singleton.2 rfl))
     ·cases hx
    ·exact zvt hx _ (List.mem_append.2 (.inr (List.mem_singleton.2 rfl)))
   obtain ⟨alt,hin⟩:=hin;unfold noE;rw [List.all_eq_true];intro hall;have:=hall _ hin
   simp [hd] at this
  ·rw [if_pos (by simp [hd])]
   show (if za1 g.net.steps s e.cls≠0 then _ else [])=_
   by_cases hs:za1 g.net.steps s e.cls≠0
   case neg=>rw [if_neg hs,if_neg hs];rfl
   rw [if_pos hs,if_pos hs,List.filter_flatMap];refine zcn fun alt _=>?_
   have ha':noE d (a++[⟨e.id,alt,0⟩])=true:=by
    unfold noE at ha ⊢;rw [List.all_append,ha];simp [hd]
   rw [show zjt (zgh g d) w=zjt g w from rfl,show zfh (zgh g d) w=zfh g w from rfl,zrv f ha']
   show (if _ then _ else (if za1 g.net.steps s e.cls &&& zb1 g.net.final≠0∧_ then _ else [])++_)=_
   by_cases hm:zjt g w<(base++e.forms[alt]?.getD []).length
   ·rw [if_pos hm,if_pos hm];rfl
   rw [if_neg hm,if_neg hm,List.filter_append];congr 1
   by_cases hc:za1 g.net.steps s e.cls &&& zb1 g.net.final≠0∧w.length≤(base++e.forms[alt]?.getD []).length∧zfh g w (base++e.forms[alt]?.getD [])=true
   ·rw [if_pos hc]
    refine Eq.trans (if_pos hc) ?_
    exact (List.filter_cons_of_pos (p:=fun x:List Prt×List Int=>noE d x.1) (a:=(a++[⟨e.id,alt,0⟩],base++e.forms[alt]?.getD [])) (l:=[]) ha').symm
   ·rw [if_neg hc]
    exact Eq.trans (if_neg hc) rfl
theorem zyj {g:Lang} {d:Int} (hg:LightF g) (hh:LightF (zgh g d)) {w:List Int} (hno : ∀ b∈zby g w,noE d b=true):zby (zgh g d) w=zby g w:=by
 unfold zby at hno ⊢
 split
 ·rfl
 ·rename_i h
  rw [if_neg h] at hno;have hw:w.length≤24:=by omega
  have h1:=znu hg hw 4 [] rfl (fun p hp=>by cases hp)
  have h2:=znu hh hw 4 [] rfl (fun p hp=>by cases hp)
  have h3:=zrv (g:=g) (w:=w) (d:=d) 4 (a:=[]) (s:=runS g.net.steps (zba g.lex [])) (base:=zb3 g.lex []) rfl;have e1:walkT (zgh g d) w 4 [] (runS (zgh g d).net.steps (zba (zgh g d).lex [])) (zb3 (zgh g d).lex [])=walkT (zgh g d) w 4 [] (runS g.net.steps (zba g.lex [])) (zb3 g.lex []):=rfl
  rw [e1,h3,h1] at h2;have h4:=congrArg (List.map Prod.fst) h2;rw [List.filter_eq_self.2] at h4
  ·rw [List.map_map,List.map_map] at h4
   have e2 : ∀ (k:Lang) (l:List (List Prt)),List.map (Prod.fst∘fun b=>(b,zb3 k.lex b)) l=l:=fun k l=>by
    rw [show (Prod.fst∘fun b=>(b,zb3 k.lex b))=(fun b:List Prt=>b) from rfl];exact List.map_id' l
   rw [e2,e2] at h4;exact h4.symm
  ·intro x hx
   obtain ⟨b,hb,rfl⟩:=List.mem_map.1 hx;exact hno b hb
theorem zvu {g:Lang} {d:Int} (hm : ∀ e∈g.lex,e.id≠d→e.main≠d) : ∀ {a:List Prt},noE d a=true→(∀ p∈a,zcf g.lex p.entry≠[])→sprL (zgh g d) a=sprL g a
 | [],_,_=>rfl
 | p::ps,ha,hs=>by
  have h1:p.entry≠d:=by
   unfold noE at ha;rw [List.all_cons,Bool.and_eq_true] at ha;simpa using ha.1
  have h2:noE d ps=true:=by
   unfold noE at ha ⊢;rw [List.all_cons,Bool.and_eq_true] at ha;exact ha.2
  rw [sprL,sprL,zvu hm h2 fun q hq=>hs q (List.mem_cons_of_mem _ hq),show (zgh g d).lex=zeq g.lex d from rfl,zyi hm h1 (hs p (List.mem_cons_self ..))]
theorem z6d {g:Lang} {d:Int} (hg:LightF g) (hh:LightF (zgh g d)) (hm : ∀ e∈g.lex,e.id≠d→e.main≠d) {w:List Int} (hno : ∀ b∈zby g w,noE d b=true):allE (zgh g d) w=allE g w:=by
 have hT:allT (zgh g d) w=allT g w:=by
  rw [ztb,ztb,zyj hg hh hno];refine zcn fun a ha=>zvu hm (hno a ha) fun p hp=>?_
  obtain ⟨e,he,alt,hal,rfl⟩:=((ze9 ha).parts p hp).ok hg;exact hg.senses he
 rw [zyb,zyb,hT]
 rfl
end Go.V
namespace Go.V
open Go Go.Proofs
theorem zvv {l:List Ent} {d:Int} (hm : ∀ e∈l,e.id≠d→e.main≠d) : ∀ (f:Nat) {id:Int},id≠d→wayG (zeq l d) f id=wayG l f id
 | 0,_,_=>rfl
 | f+1,id,h=>by
  unfold wayG;rw [zkx h];by_cases hg:(getE l id).2=true
  ·have:=hm _ (zkk hg) (by rw [zod hg];exact h)
   rw [zvv hm f this]
  ·rw [if_neg hg,if_neg hg]
theorem zjw {l:List Ent} : ∀ {f:Nat} {id:Int},(wayG l f id).length<f→∀ F,(wayG l F id).length≤(wayG l f id).length
 | 0,_,h,_=>by omega
 | f+1,id,h,0=>Nat.zero_le _
 | f+1,id,h,F+1=>by
  unfold wayG at h ⊢;by_cases hg:(getE l id).2=true
  ·rw [if_pos hg] at h
   rw [if_pos hg,if_pos hg];by_cases hz:(getE l id).1.main=0
   ·rw [if_pos hz,if_pos hz];exact Nat.le_refl _
   ·rw [if_neg hz] at h
    rw [if_neg hz,if_neg hz,List.length_cons,List.length_cons];rw [List.length_cons] at h;exact Nat.succ_le_succ (zjw (by omega) F)
  ·rw [if_neg hg,if_neg hg];exact Nat.le_refl _
theorem z0i {l:List Ent} : ∀ {f:Nat} {id x:Int},(wayG l f id).length<f→x∈wayG l f id→∀ F,(wayG l F x).length≤(wayG l f id).length
 | 0,_,_,h,_,_=>by omega
 | f+1,id,x,h,hx,F=>by
  have h0:=h;have e0:wayG l (f+1) id=if (getE l id).2=true then id::(if (getE l id).1.main=0 then [] else wayG l f (getE l id).1.main) else []:=rfl
  rw [e0] at h hx;by_cases hg:(getE l id).2=true
  ·rw [if_pos hg] at h hx
   rcases List.mem_cons.1 hx with e | hx
   ·rw [e];exact zjw h0 F
   ·by_cases hz:(getE l id).1.main=0
    ·rw [if_pos hz] at hx;cases hx
    ·rw [if_neg hz] at h hx
     rw [List.length_cons] at h;have:=z0i (by omega) hx F
     rw [e0,if_pos hg,if_neg hz,List.length_cons];omega
  ·rw [if_neg hg] at hx;cases hx
theorem zrx {l:List Ent} : ∀ {f:Nat} {id:Int},(wayG l f id).length<f→(wayG l f id).Nodup∧∀ x∈wayG l f id,x∈l.map (·.id)
 | 0,_,h=>by omega
 | f+1,id,h=>by
  have h0:=h;have e0:wayG l (f+1) id=if (getE l id).2=true then id::(if (getE l id).1.main=0 then [] else wayG l f (getE l id).1.main) else []:=rfl
  rw [e0] at h ⊢;by_cases hg:(getE l id).2=true
  ·rw [if_pos hg] at h ⊢
   have hin:id∈l.map (·.id):=List.mem_map.2 ⟨_,zkk hg,zod hg⟩
   by_cases hz:(getE l id).1.main=0
   ·rw [if_pos hz]
    exact ⟨by simp,fun x hx=>by rw [List.mem_singleton] at hx;rw [hx];exact hin⟩
   ·rw [if_neg hz] at h ⊢
    rw [List.length_cons] at h;obtain ⟨i1,i2⟩:=zrx (l:=l) (f:=f) (id:=(getE l id).1.main) (by omega)
    refine ⟨List.nodup_cons.2 ⟨fun hx=>?_,i1⟩,fun x hx=>?_⟩
    ·have:=z0i (by omega) hx (f+1)
     rw [e0,if_pos hg,if_neg hz,List.length_cons] at this;omega
    ·rcases List.mem_cons.1 hx with e | hx
     ·rw [e];exact hin
     ·exact i2 x hx
  ·rw [if_neg hg]
   exact ⟨List.nodup_nil,fun x hx=>by cases hx⟩
theorem zky {l:List Ent} {d:Int} {e:Ent}:e∈zeq l d↔e∈l∧e.id≠d:=by
 unfold zeq
 rw [List.mem_filter]
 simp
theorem z6e {l:List Ent} {d:Int} (hm : ∀ e∈l,e.id≠d→e.main≠d) (h:MainF l):MainF (zeq l d) where
 main:=fun e he hz=>by
  rw [zky] at he;have h1:=h.main e he.1 hz;have h2:=zkx (hm e he.1 he.2) l;rcases zcv l e.main with ⟨a,_⟩ | ⟨k,hk,_,hg⟩
  ·omega
  ·rcases zcv (zeq l d) e.main with ⟨_,b⟩ | ⟨j,hj,hf,_⟩
   ·rw [b,hg] at h2;exact absurd (congrArg Prod.snd h2) (by simp)
   ·omega
 ends:=fun e he=>by
  rw [zky] at he;have h1:=h.ends e he.1;rw [← zvv hm _ he.2] at h1;obtain ⟨i1,i2⟩:=zrx (l:=zeq l d) (f:=l.length+1) (id:=e.id) (by omega)
  have h2:=ztg i1 i2;rw [List.length_map] at h2;exact Nat.le_trans (zjw (by omega) _) h2
theorem yc1 {l:List Ent} {d:Int} (h : ∀ k (h:k+1<l.length),l[k].id<l[k+1].id) : ∀ k (h:k+1<(zeq l d).length),(zeq l d)[k].id<(zeq l d)[k+1].id:=by
 have hp:l.Pairwise fun a b=>a.id<b.id:=by
  rw [List.pairwise_iff_getElem];intro i j hi hj hij;have:=lex_lt h (j-i-1) i (by omega)
  have e:i+(j-i-1)+1=j:=by omega
  simp only [e] at this;exact this
 have hq:(zeq l d).Pairwise fun a b=>a.id<b.id:=hp.filter _
 intro k hk
 exact (List.pairwise_iff_getElem.1 hq) k (k+1) (by omega) hk (by omega)
theorem z2i {g:Lang} {d:Int} (hm : ∀ e∈g.lex,e.id≠d→e.main≠d) (h:LightF g):LightF (zgh g d) where
 rules:=h.rules
 dsts:=h.dsts
 net:=h.net
 lex:=⟨fun e he=>h.lex.each e (zky.1 he).1,yc1 h.lex.up⟩
 main:=z6e hm h.main
 units1:=h.units1
 small:=⟨Nat.le_trans (List.length_filter_le ..) h.small.few,fun e he=>h.small.forms e (zky.1 he).1⟩
 segs:=h.segs
 units:=h.units
 few:=h.few
 states:=h.states
 steps:=h.steps
 final:=h.final
theorem z2j {g:Lang} {d:Int} (h:LangC g):LangC (zgh g d) where
 inv:=h.inv
 orth:=h.orth
 rules:=h.rules
 steps:=h.steps
 final:=h.final
 lex:=⟨Nat.le_trans (List.length_filter_le ..) h.lex.few,fun e he=>h.lex.each e (zky.1 he).1⟩
end Go.V
namespace Go.V
open Go Go.Proofs
theorem yas {α:Type} {p:α→Bool} {l:List α} {k:Nat} (h:k<l.length) (hp : ∀ e∈l.take k,p e=false) (he:p l[k]=true):l.findIdx? p=some k:=by
 rw [List.findIdx?_eq_some_iff_getElem]
 refine ⟨h,he,fun j hj=>?_⟩
 have:=hp l[j] (by rw [List.mem_take_iff_getElem];exact ⟨j,by omega,rfl⟩)
 rw [this];simp
def idxG {α:Type} (p:α→Bool) (l:List α):Int:=match l.findIdx? p with
 | some k=>k
 | none=>-1
theorem yat {α:Type} (p:α→Bool) (l:List α):decide (0≤idxG p l)=l.any p:=by
 unfold idxG
 cases h:l.findIdx? p with
 | none=>
  rw [List.findIdx?_eq_none_iff] at h;have:l.any p=false:=by rw [List.any_eq_false];intro x hx;rw [h x hx];simp
  rw [this];rfl
 | some k=>
  rw [List.findIdx?_eq_some_iff_getElem] at h;obtain ⟨h1,h2,_⟩:=h;rw [List.any_eq_true.2 ⟨_,List.getElem_mem h1,h2⟩];simp
theorem z6f (x:Lnk) (id:Int):za2 Tryz.prog 69 [.agg x.row,.ptr [int id]] (.bool (decide (x.dst=id))):=by
 refine zab mixed Tryz.func69 rfl call_69 ?_
 simp +decide [Tryz.f69,Lnk.row,int]
def toL (id:Int) (x:Lnk):Bool:=decide (x.dst=id)
theorem z6g (l:List Lnk) (hl:l.length<2^62) (id:Int) :
  za2 Tryz.prog 107 [lnkD l,.fn 69 [.ptr [int id]]] (int (idxG (toL id) l)):=by
 refine zab mixed Tryz.func107 rfl call_107 ?_
 simp [Tryz.f107,lnkD]
 refine zaf mixed (fun k:Nat=>{n:=19,next:=0,slots:=[(0,.d (lnkD l)),(1,.d (.fn 69 [.ptr [int id]])),(6,.d (lnkD l)),(7,.d (.int .i64 l.length)),(8,.d (.int .i64 k))],own:=[]})
  (fun k=>k≤l.length∧∀ e∈l.take k,toL id e=false) (fun k=>l.length-k) 0 (by simp) (by simp [lnkD]) ?_
 intro k ⟨hk,hp⟩
 by_cases hlt:k<l.length
 ·obtain ⟨x,ex⟩ : ∃ x,l[k]=x:=⟨_,rfl⟩
  have e1:l[k]?=some x:=by rw [List.getElem?_eq_getElem hlt,ex]
  have hlt':(k:Int)<l.length:=by omega
  have hX:=z6f x id;simp +decide [lnkD,Lnk.row,int,e1,ex,hlt,hlt',I64];refine zam.pure (by rfl) hX (by simp) ?_
  by_cases h:x.dst=id
  ·have h9:toL id l[k]=true:=by rw [ex];simp [toL,h]
   simp +decide [lnkD,int,h,I64,idxG,yas hlt hp h9]
  ·simp +decide [lnkD,int,h,I64]
   refine ⟨by omega,k+1,⟨hlt,fun e he=>?_⟩,by omega,by omega⟩
   rw [zas hlt] at he;rcases List.mem_append.1 he with h' | h'
   ·exact hp e h'
   ·rw [List.mem_singleton] at h';rw [h',ex];simp [toL,h]
 ·have:k=l.length:=by omega
  subst this;have:l.findIdx? (toL id)=none:=by rw [List.findIdx?_eq_none_iff];simpa using hp
  simp +decide [lnkD,int,idxG,this]
theorem zvw (l:List Lnk) (hl:l.length<2^62) (id:Int) :
  za2 Tryz.prog 68 [lnkD l,.fn 69 [.ptr [int id]]] (.bool (l.any (toL id))):=by
 refine zab mixed Tryz.func68 rfl call_68 ?_
 simp [Tryz.f68,lnkD]
 refine zam.pure (by rfl) (z6g l hl id) (by simp) ?_
 simp [int,← yat]
theorem zvx (e:Ent):za2 Tryz.prog 67 [.agg e.row] (int e.id):=by
 refine zab mixed Tryz.func67 rfl call_67 ?_
 simp +decide [Tryz.f67,Ent.row,int]
def z6h (l:List Ent) (id:Int) (k:Nat):Prop:=k≤l.length∧(∀ j (h:j<l.length),j<k→l[j].id<id)∧∀ j (h:j<l.length),k≤j→id≤l[j].id
set_option maxHeartbeats 8000000 in
theorem z6i (l:List Ent) (id:Int) (hl:l.length<2^40) (hup : ∀ k (h:k+1<l.length),l[k].id<l[k+1].id) :
  zdw Tryz.prog 66 [lexD l,int id,.fn 67 []] (fun x=>∃ k b,x = .tup [int (k:Nat),.bool b]∧z6h l id k∧(b=true↔∃ h:k<l.length,l[k].id=id)):=by
 refine zax mixed Tryz.func66 rfl call_66 ?_
 simp +decide [Tryz.f66,int,lexD]
 refine zbp mixed (fun x:Nat×Nat=>{n:=46,next:=0,slots:=[(0,.d (lexD l)),(1,.d (int id)),(2,.d (.fn 67 [])),(8,.d (int x.1)),(9,.d (int x.2))],own:=[]})
  (fun x=>x.1≤x.2∧x.2≤l.length∧(∀ j (h:j<l.length),j<x.1→l[j].id<id)∧∀ j (h:j<l.length),x.2≤j→id≤l[j].id) (fun x=>x.2-x.1) (0,l.length) ⟨by omega,by omega,fun j _ h=>by omega,fun j h h'=>by omega⟩ ?_ ?_
 ·simp +decide [int,lexD]
 rintro ⟨a,b⟩ ⟨hab,hbl,hlo,hhi⟩
 simp only at hab hbl hlo hhi
 refine zaq mixed ?_
 by_cases hlt:a<b
 case neg=>
  have:b=a:=by omega
  subst this;have hlt':¬(b:Int)<b:=by omega
  have hSP:z6h l id b:=⟨hbl,hlo,hhi⟩
  by_cases hbl':b<l.length
  ·have hbl2:(b:Int)<l.length:=by omega
   obtain ⟨x,ex⟩ : ∃ x,l[b]=x:=⟨_,rfl⟩;have ex1:l[b]?=some x:=by rw [List.getElem?_eq_getElem hbl',ex]
   have hN:=zvx x;simp +decide [int,lexD,hbl',hbl2,ex,ex1,Ent.row];refine zam.pure (by rfl) hN (by simp [D.scalar]) ?_
   by_cases he:x.id=id
   ·simp +decide [int,he]
    exact ⟨b,rfl,hSP,hbl',by rw [ex];exact he⟩
   ·simp +decide [int,he]
    exact ⟨b,rfl,hSP,fun _ e=>he (by rw [← ex];exact e)⟩
  ·have hbl2:¬(b:Int)<l.length:=by omega
   simp +decide [int,lexD,hbl',hbl2];exact ⟨b,rfl,hSP,fun h=>absurd h hbl'⟩
 have hlt':(a:Int)<b:=by omega
 obtain ⟨m,hm⟩ : ∃ m,m=(a+b)/2:=⟨_,rfl⟩
 have hq:((a:Int)+(b:Int)).tdiv 2=(m:Int):=by
  rw [Int.tdiv_eq_ediv_of_nonneg (by omega)]
  omega
 have hml:m<l.length:=by omega
 have hml':(m:Int)<l.length:=by omega
 obtain ⟨x,ex⟩ : ∃ x,l[m]=x:=⟨_,rfl⟩
 have ex1:l[m]?=some x:=by rw [List.getElem?_eq_getElem hml,ex]
 have hN:=zvx x
 simp +decide [int,lexD,hlt,hlt',I64,hq,hml,hml',ex,ex1,Ent.row]
 refine ⟨by omega,by omega,?_⟩
 refine zam.pure (by rfl) hN (by simp [D.scalar]) ?_
 have hlex:=lex_lt hup
 by_cases hc:x.id<id
 ·simp +decide [int,lexD,hc,I64]
  refine ⟨by omega,m+1,b,⟨by omega,hbl,fun j hj h=>?_,hhi⟩,by omega,by omega,rfl⟩
  by_cases hjm:j=m
  ·subst hjm;rw [ex];exact hc
  ·have:=hlex (m-j-1) j (by omega)
   have e:j+(m-j-1)+1=m:=by omega
   simp only [e] at this;rw [ex] at this;omega
 ·simp +decide [int,lexD,hc,I64]
  refine ⟨a,m,⟨by omega,by omega,hlo,fun j hj h=>?_⟩,by omega,rfl,rfl⟩
  by_cases hjm:j=m
  ·subst hjm;rw [ex];omega
  ·have:=hlex (j-m-1) m (by omega)
   have e:m+(j-m-1)+1=j:=by omega
   simp only [e] at this;rw [ex] at this;omega
end Go.V
namespace Go.V
open Go Go.Proofs
theorem z6j (l:List Ent) (hl:l.length≤1048576):ya0 Tryz.prog 71 [lexD l] 59 8 (l.map Ent.row):=by
 refine ztw mixed Tryz.func71 rfl call_71 (by simp [Ent.row]) ?_
 simp [Tryz.f71,lexD,maxLen]
 exact ⟨fun a _=>rfl,by omega,by omega⟩
theorem yc2 (L J X:List (List D)) (k:Nat) (hk:k<L.length):List.take (L.length-1) (List.take k (L++J)++(List.drop (k+1) L++X))=L.eraseIdx k:=by
 rw [List.eraseIdx_eq_take_drop_succ,← List.append_assoc,List.take_append_of_le_length (Nat.le_of_lt hk)]
 exact List.take_left' (by simp;omega)
theorem z6k (l:List Ent) (k:Nat):(l.eraseIdx k).map Ent.row=(l.map Ent.row).eraseIdx k:=by
 rw [List.eraseIdx_eq_take_drop_succ,List.eraseIdx_eq_take_drop_succ,List.map_append,List.map_take,List.map_drop]
set_option maxHeartbeats 4000000 in
theorem z2k (l:List Ent) (k:Nat) (hk:k<l.length) (hl:l.length<2^40) :
  zcr Tryz.prog 70 [.ar 0,.d (int k),.d (int (k+1:Nat))] [(0,.arr 59 8 (l.map Ent.row))] 1 (.d (.sl ((l.eraseIdx k).map Ent.row))) 1 [] [0]:=by
 refine zmi mixed Tryz.func70 rfl call_70 [0] (by simp) ?_
 have hk':(k:Int)<l.length:=by omega
 have hne:¬(k:Int)=k+1:=by omega
 simp +decide [Tryz.f70,int,hk,hk',I64,hne]
 refine ⟨by omega,zy5 0 rfl (by rw [List.length_map];omega) (fun junk hj hm=>?_)⟩
 rw [List.length_map] at hm
 simp +decide [hne]
 have p1:0<l.length+junk.length:=by omega
 refine z03 mixed 6 (by rfl) (by rfl) (by rfl) (by rfl) (by simp) ?_
 by_cases p2:k+1<l.length+junk.length
 ·have q1:k+1+(l.length-(k+1))≤l.length+junk.length:=by omega
  have hsrc:List.take (l.length-(k+1)) (List.drop (k+1) (List.map Ent.row l++junk))=(l.drop (k+1)).map Ent.row:=by
   rw [List.drop_append_of_le_length (by rw [List.length_map];omega),List.take_append_of_le_length (by simp),List.take_of_length_le (by simp),List.map_drop]
  have q2:((k:Int)+((l.length-(k+1):Nat):Int)).toNat=l.length-1:=by omega
  have q3:l.length-(l.length-1)=1:=by omega
  have q4:min k (l.length+junk.length)=k:=by omega
  have q5:l.length-1<k+(l.length-(k+1)+(l.length+junk.length-(k+(l.length-(k+1))))):=by omega
  have q6:k+(l.length-(k+1))≤l.length+junk.length:=by omega
  simp +decide [int,hk,hk',hne,I64,p1,p2,q1,hsrc,q2,q3,q4,q5,q6];have hcm:=yc2 (l.map Ent.row) junk (List.drop (k+(l.length-(k+1))) (List.map Ent.row l++junk)) k (by simpa using hk)
  rw [List.length_map] at hcm;rw [hcm,← z6k];refine ⟨by omega,⟨by omega,by omega,by omega⟩,fun r hr=>?_,⟨by omega,by omega,by omega⟩,by omega,?_⟩
  ·obtain ⟨e,_,rfl⟩:=List.mem_map.1 (List.mem_of_mem_drop hr)
   rfl
  ·have hel:((l.eraseIdx k).map Ent.row).length=k+(l.length-(k+1)):=by rw [List.length_map,List.length_eraseIdx_of_lt hk];omega
   rw [if_pos,List.take_left' hel];refine ⟨by omega,?_⟩
   cases (l.eraseIdx k) with
   | nil=>rfl
   | cons e r=>rfl
 ·have hj0:junk=[]:=List.eq_nil_of_length_eq_zero (by omega)
  subst hj0;have hkl:l.length=k+1:=by simp only [List.length_nil] at p2;omega
  simp +decide [int,hk,hk',hne,I64,hkl];have hdr:l.drop (k+1)=[]:=List.drop_eq_nil_of_le (by omega)
  refine ⟨by omega,by omega,by omega,?_⟩
  rw [if_pos,List.eraseIdx_eq_take_drop_succ,hdr,List.append_nil,List.map_take];rw [← List.map_take];cases l.take k with
  | nil=>rfl
  | cons e r=>rfl
end Go.V
namespace Go.V
open Go Go.Proofs
theorem z2l {l:List Ent} {k:Nat} {id:Int} (h:k<l.length) (he:l[k].id=id) (hup : ∀ j (h:j+1<l.length),l[j].id<l[j+1].id):l.eraseIdx k=zeq l id:=by
 have hlex:=lex_lt hup
 have e1:l=l.take k++l[k]::l.drop (k+1):=by rw [← List.drop_eq_getElem_cons h,List.take_append_drop]
 rw [List.eraseIdx_eq_take_drop_succ]
 have e2:zeq l id=zeq (l.take k++l[k]::l.drop (k+1)) id:=by rw [← e1]
 rw [e2]
 unfold zeq
 rw [List.filter_append,List.filter_cons_of_neg (by simp [he]),List.filter_eq_self.2,List.filter_eq_self.2]
 ·intro a ha
  obtain ⟨j,hj,rfl⟩:=List.mem_drop_iff_getElem.1 ha;have:=hlex j k (by omega)
  have e3:k+j+1=k+1+j:=by omega
  simp only [e3] at this;rw [he] at this;simp
  omega
 ·intro a ha
  obtain ⟨j,hj,rfl⟩:=List.mem_take_iff_getElem.1 ha;have:=hlex (k-j-1) j (by omega)
  have e3:j+(k-j-1)+1=k:=by omega
  simp only [e3] at this;rw [he] at this;simp
  omega
set_option maxHeartbeats 8000000 in
theorem z6l (l:List Ent) (id:Int) (hl:l.length≤1048576) (hk : ∀ e∈l,e.links.length≤1048576) (hup : ∀ k (h:k+1<l.length),l[k].id<l[k+1].id) :
  zdw Tryz.prog 32 [lexD l,int id] (fun x=>∃ y e,x = .tup [y,int e]∧(e=0→y=lexD (zeq l id)∧∀ z∈l,z.id≠id→z.main≠id)):=by
 refine zax mixed Tryz.func32 rfl call_32 ?_
 simp +decide [Tryz.f32,int,lexD]
 refine zam.some (by rfl) (z6i l id (by omega) hup) ?_
 rintro r ⟨at0,b,rfl,⟨hal,hlo,hhi⟩,hb⟩
 cases b with
 | false=>
  simp +decide [int,lexD];exact ⟨_,_,⟨rfl,rfl⟩,fun h=>absurd h (by decide)⟩
 | true=>
  obtain ⟨hat,hid⟩:=hb.1 rfl;simp +decide [int,lexD];refine zbp mixed (fun k:Nat=>{n:=47,next:=1,slots:=[(0,.d (lexD l)),(3,.bp 0 0),(6,.d (int at0)),(18,.d (lexD l)),(19,.d (int l.length)),(20,.d (int k))],own:=[(0,.box 3 [.d (int id)])]})
   (fun k=>k≤l.length∧∀ j (h:j<l.length),j<k→j≠at0→l[j].main≠id) (fun k=>l.length-k) 0 ⟨by omega,fun j _ h=>by omega⟩ ?_ ?_
  ·simp +decide [int,lexD]
  intro k ⟨hk0,hm⟩;refine zaq mixed ?_
  by_cases hlt:k<l.length
  case neg=>
   have:k=l.length:=by omega
   subst this;have hat':(at0:Int)<l.length:=by omega
   have hres:lexD (l.eraseIdx at0)=lexD (zeq l id):=by rw [z2l hat hid hup]
   simp +decide [int,lexD,I64];refine zam.fresh (by rfl) (z6j l hl) (by simp [lexD]) ?_
   simp +decide [int,lexD,I64];refine ⟨by omega,?_⟩
   refine zam.mut [1] [.ar 0,.d (int at0),.d (int (at0+1:Nat))] [(0,.arr 59 8 (l.map Ent.row))] (by rfl) (by simp [int]) (by simp [int]) (by simp [int]) (z2k l at0 hat (by omega)) ?_
   simp +decide [int,lexD,I64];refine ⟨_,0,⟨rfl,rfl⟩,fun _=>⟨hres,fun z hz hzi=>?_⟩⟩
   obtain ⟨j,hj,rfl⟩:=List.mem_iff_getElem.1 hz;exact hm j hj hj fun e=>hzi (by subst e;exact hid)
  have hlt':(k:Int)<l.length:=by omega
  have hkl:=hk l[k] (List.getElem_mem hlt);obtain ⟨e,ee⟩ : ∃ e,l[k]=e:=⟨_,rfl⟩;have e1:l[k]?=some e:=by rw [List.getElem?_eq_getElem hlt,ee]
  rw [ee] at hkl;have hC:=zvw e.links (by omega) id
  by_cases c1:k=at0
  ·subst c1
   simp +decide [int,lexD,Ent.row,I64,hlt,hlt',ee,e1];refine ⟨⟨by omega,by omega⟩,k+1,⟨hlt,fun j hj h h2=>hm j hj (by omega) h2⟩,by omega,by omega⟩
  have c1':¬(k:Int)=at0:=by omega
  by_cases c2:e.main=id
  ·simp +decide [int,lexD,Ent.row,I64,hlt,hlt',ee,e1,c1,c1',c2]
   exact ⟨_,_,⟨rfl,rfl⟩,fun h=>absurd h (by decide)⟩
  simp +decide [int,lexD,Ent.row,I64,hlt,hlt',ee,e1,c1,c1',c2];refine zam.pure (by rfl) hC (by simp [D.scalar]) ?_
  cases hany:e.links.any (toL id) with
  | true=>
   simp +decide [int,lexD,I64];exact ⟨_,_,⟨rfl,rfl⟩,fun h=>absurd h (by decide)⟩
  | false=>
   simp +decide [int,lexD,I64];refine ⟨⟨by omega,by omega⟩,k+1,⟨hlt,fun j hj h h2=>?_⟩,by omega,by omega⟩
   by_cases hjk:j=k
   ·subst hjk;rw [ee];exact c2
   ·exact hm j hj (by omega) h2
theorem yau {g:Lang} {w:List Int} {id:Int} (h:z2g g w id=false) : ∀ b∈zby g w,noE id b=true:=by
 intro b hb
 unfold z2g at h
 rw [List.any_eq_false] at h
 have:=h b hb
 unfold noE
 rw [List.all_eq_true]
 intro p hp
 by_cases hpe:p.entry=id
 ·exact absurd (List.any_eq_true.2 ⟨p,hp,by simp [hpe]⟩) this
 ·simp [hpe]
set_option maxHeartbeats 8000000 in
theorem zyk (g:Lang) (hg:LangC g) (w:List Int) (id:Int) (hw:w.length≤1048576):za2 Tryz.prog 11 [g.d,ints w,int id] (.bool true):=by
 refine zab mixed Tryz.func11 rfl call_11 ?_
 by_cases c1:(30:Int)<w.length
 ·simp +decide [Tryz.f11,int,ints,c1]
  refine zam.pure (by rfl) zoj (by simp) ?_
  simp +decide
 simp +decide [Tryz.f11,int,ints,Lang.d,zak,c1]
 refine zam.some (by rfl) (z18 g hg) ?_
 rintro r ⟨b,rfl,hL⟩
 cases b with
 | false=>
  simp +decide [int];refine zam.pure (by rfl) zoj (by simp) ?_
  simp +decide
 | true=>
  have hL:=hL rfl;have hU:=z5u g hL hg w (by omega) id
  simp +decide [int,ints];refine zam.pure (by rfl) hU (by simp [D.scalar]) ?_
  cases hu:z2g g w id with
  | true=>
   simp +decide [int];refine zam.pure (by rfl) zoj (by simp) ?_
   simp +decide
  | false=>
   simp +decide [int,ints];refine zam.some (by rfl) (z6l g.lex id hg.lex.few (fun e he=>(hg.lex.each e he).links) hL.lex.up) ?_
   rintro r ⟨y,e,rfl,hD⟩
   by_cases he:e=0
   case neg=>
    simp +decide [int,ints,he];refine zam.pure (by rfl) zoj (by simp) ?_
    simp +decide
   obtain ⟨rfl,hm⟩:=hD he;subst he;have h1:=z0e g hL hg w (by omega)
   have hLd:=z2i hm hL;have h2:=z0e (zgh g id) hLd (z2j hg) w (by omega)
   rw [z6d hL hLd hm (yau hu)] at h2;obtain ⟨hn,hA⟩:=yc0 hL w;have hsm:(allE g w).1.length≤200∧∀ q∈(allE g w).1,q.length≤4:=by
    by_cases h0:(allE g w).2=0
    ·exact ⟨(hA h0).few,fun q hq=>((hA h0).form q hq).2.2⟩
    ·rw [hn h0]
     exact ⟨Nat.zero_le _,fun q hq=>by cases hq⟩
   generalize allE g w=z at h1 h2 hsm;obtain ⟨l,e⟩:=z;simp only at h1 h2 hsm
   have hS:=z4a l l (by omega) (fun q hq=>by have:=hsm.2 q hq;omega) (fun q hq=>by have:=hsm.2 q hq;omega)
   rw [decide_eq_true rfl] at hS;simp +decide [int,ints];refine zam.pure (by rfl) h1 (by simp [D.scalar]) ?_
   simp +decide [int,ints,lexD,invD,zbx,zdd,zb0,stepsD];refine zam.pure (by rfl) h2 (by simp [D.scalar,zgh,Lang.d]) ?_
   simp +decide [int,ints,zja];refine zam.pure (by rfl) hS (by simp [D.scalar]) ?_
   simp +decide [int,ints,zja];refine zam.pure (by rfl) zoj (by simp) ?_
   simp +decide
theorem zvy (g:Lang) (c0:CapT 1048576 g.d) (w:List Int) (c1:CapT 1048576 (ints w)) (id:Int) (c2:CapT 1048576 (int id)):za2 Tryz.prog 11 [g.d,ints w,int id] (.bool true):=
 zyk g (z5g c0) w id (yad c1)
end Go.V

/- Contracts and plain laws of this seat: part M4. It needs no conditions. -/
import Derived.Test.YtmpknkjlhapcmaaGreatM3
set_option linter.unusedVariables false
set_option linter.unusedSimpArgs false
set_option linter.unusedSectionVars false
set_option maxRecDepth 100000
namespace Go.V
open Go Go.Proofs
def zff (g:Lang) (ps:List Prt):List Int×Int:=
 if zfe g ps≠0 then ([],zfe g ps) else if (zek g.inv g.rules (zbc g.lex ps)).length=0 then ([],23) else (zek g.inv g.rules (zbc g.lex ps),0)
set_option maxHeartbeats 4000000 in
theorem yfu (g:Lang) (hg:LangOk g) (ps:List Prt) (hp:ps.length<2^20):zam Tryz.prog 77 [g.d,anaD ps] (.tup [ints (zff g ps).1,int (zff g ps).2]):=by
 have hR:=z7x g hg ps hp
 have hB:=yav g hg.lex ps hp
 have hbl:zfe g ps=0→(zbc g.lex ps).length<2^40:=by
  intro h;unfold zfe at h;repeat' split at h
  all_goals first | omega | skip
 have hL:=fun h=>yay g.inv (by have:=hg.inv;omega) g.rules hg.rules.1 hg.rules.2 (zbc g.lex ps) (hbl h)
 have hll:=zgc g.inv g.rules (zbc g.lex ps)
 unfold zff
 generalize zfe g ps=R at hR hL hbl ⊢
 refine zaa mixed Tryz.func77 rfl call_77 ?_
 simp +decide [Tryz.f77,int,Lang.d,anaD,zai]
 refine zaj.pure (by rfl) hR (by simp [Lang.d,anaD,zai,int]) ?_
 by_cases h0:R=0
 ·subst h0
  have hL:=hL rfl;have hbl:=hbl rfl;generalize zek g.inv g.rules (zbc g.lex ps)=v at hL hll ⊢;simp +decide [int,Lang.d,zai];refine zac (by rfl) (by rfl) hB (by simp [Lang.d,anaD,zai]) ?_
  simp +decide [int,Lang.d,zai,ints];refine zac (by rfl) (by rfl) hL (by simp [Lang.d,anaD,zai,ints]) ?_
  by_cases hv:v.length=0
  ·simp +decide [int,Lang.d,zai,ints,hv,List.length_eq_zero_iff.mp hv]
  ·have hv':v≠[]:=fun h=>hv (by rw [h];rfl)
   simp +decide [int,Lang.d,zai,ints,hv,hv']
 ·simp +decide [int,ints,h0]
set_option maxHeartbeats 4000000 in
theorem z1u (g:Lang) (hg:LangOk g) (w:List Int) (hw:w.length<2^40) (ps:List Prt) (hp:ps.length<2^20):zam Tryz.prog 53 [g.d,ints w,anaD ps] (.bool (decide ((zff g ps).2=0∧(zff g ps).1=w))):=by
 have hF:=yfu g hg ps hp
 have hE:=z5a (zff g ps).1 w (by omega)
 generalize zff g ps=q at hF hE ⊢
 obtain ⟨v,e⟩:=q
 refine zaa mixed Tryz.func53 rfl call_53 ?_
 simp +decide [Tryz.f53,int,Lang.d,anaD,zai]
 refine zaj.pure (by rfl) hF (by simp [Lang.d,anaD,zai,int]) ?_
 by_cases h0:e=0
 ·subst h0
  simp +decide [int,ints];refine zaj.pure (by rfl) hE (by simp [ints]) ?_
  simp +decide [int,ints]
 ·simp +decide [int,ints,h0]
end Go.V
namespace Go.V
open Go Go.Proofs
def wayG (l:List Ent):Nat→Int→List Int
 | 0,_=>[]
 | f+1,id=>if (getE l id).2=true then id::(if (getE l id).1.main=0 then [] else wayG l f (getE l id).1.main) else []
theorem z5h (l:List Ent) : ∀ f id,(wayG l f id).length≤f
 | 0,_=>Nat.le_refl _
 | f+1,id=>by
  have:=z5h l f (getE l id).1.main
  unfold wayG;split
  ·split <;> simp <;> omega
  ·simp
theorem yis {l:List Ent} {id:Int} (h:(getE l id).2=true):(getE l id).1.id=id:=by
 unfold getE at h ⊢
 cases hf:l.find? (·.id=id) with
 | none=>rw [hf] at h;cases h
 | some e=>have:=List.find?_some hf;simpa using this
theorem znw (e:Ent) (h:e.alts.length<2^39) (alt:Int):zam Tryz.prog 147 [.agg e.row,int alt] (.bool (decide (0≤alt∧alt<e.forms.length))):=by
 have hF:zam Tryz.prog 148 [.agg e.row] (zbh e.forms):=by
  refine zaa mixed Tryz.func148 rfl call_148 ?_
  simp [Tryz.f148,Ent.row,zbh,ints,Ent.forms,maxLen];omega
 have hfl:e.forms.length=e.alts.length+1:=by simp [Ent.forms]
 refine zaa mixed Tryz.func147 rfl call_147 ?_
 by_cases h0:0≤alt
 ·simp +decide [Tryz.f147,int,Ent.row,h0]
  refine zaj.pure (by rfl) hF (by simp [Ent.row,int]) ?_
  simp +decide [int,zbh]
 ·simp +decide [Tryz.f147,int,Ent.row,h0]
set_option maxHeartbeats 4000000 in
theorem z5i (l:List Ent) (id:Int) (hl:l.length<2^40):zam Tryz.prog 125 [lexD l,int id] (ints (wayG l (l.length+1) id)):=by
 refine zaa mixed Tryz.func125 rfl call_125 ?_
 simp +decide [Tryz.f125,int,ints]
 refine zaj.pure (by rfl) (zl9 l id (by omega)) (by simp [lexD,int]) ?_
 simp +decide [int,ints]
 refine zad mixed (fun x:List Int×Int=>{n:=42,next:=2,slots:=[(0,.d (lexD l)),(5,.ar 1),(6,.d (int (zd1 l x.2)))],own:=[(1,.arr 3 1 (x.1.map fun n=>[int n]))],moved:=[1]})
  (fun x=>x.1++wayG l (l.length+1-x.1.length) x.2=wayG l (l.length+1) id∧x.1.length≤l.length+1) (fun x=>l.length+1-x.1.length) ([],id) (by simp) (by simp +decide [int]) ?_
 rintro ⟨out,x⟩ ⟨hw,hn⟩
 simp only at hw hn
 have hX:zd1 l x<0→(getE l x).2=false:=by
  intro h;rcases zcy l x with ⟨_,h2⟩ | ⟨j,hj,h1,_⟩
  ·rw [h2]
  ·omega
 by_cases hneg:zd1 l x<0
 ·have h0:¬ 0≤zd1 l x:=by omega
  have he:wayG l (l.length+1) id=out:=by
   rw [← hw];have:wayG l (l.length+1-out.length) x=[]:=by
    cases l.length+1-out.length with
    | zero=>rfl
    | succ f=>unfold wayG;rw [if_neg (by rw [hX hneg];decide)]
   rw [this,List.append_nil]
  rw [he];simp +decide [int,ints,h0]
 have h0:0≤zd1 l x:=by omega
 by_cases hfull:out.length≤l.length
 case neg=>
  have:out.length=l.length+1:=by omega
  have he:wayG l (l.length+1) id=out:=by
   rw [← hw,this,Nat.sub_self];exact List.append_nil _
  rw [he];have hf':¬(out.length:Int)≤l.length:=by omega
  simp +decide [int,ints,h0,lexD,hf']
 rcases zcy l x with ⟨h1,_⟩ | ⟨j,hj,h1,h2⟩
 ·exact absurd h1 (by omega)
 have hid:l[j].id=x:=by have:=yis (l:=l) (id:=x) (by rw [h2]);rw [h2] at this;exact this
 obtain ⟨e,ee⟩ : ∃ e,l[j]=e:=⟨_,rfl⟩
 have e1:l[j]?=some e:=by rw [List.getElem?_eq_getElem hj,ee]
 rw [ee] at hid h2
 have hf':(out.length:Int)≤l.length:=by omega
 have hj':(j:Int)<l.length:=by omega
 have hs:wayG l (l.length+1-out.length) x=x::(if e.main=0 then [] else wayG l (l.length+1-(out.length+1)) e.main):=by
  have:l.length+1-out.length=(l.length+1-(out.length+1))+1:=by omega
  rw [this];conv=>lhs;unfold wayG
  rw [if_pos (by rw [h2]),h2]
 rw [hs] at hw
 have hf2:=zl9 l e.main (by omega)
 by_cases hm:e.main=0
 ·rw [if_pos hm] at hw
  rw [← hw];simp +decide [int,ints,h0,lexD,hf',h1,hj,hj',e1,ee,hid,hm,I64,Ent.row];exact ⟨by omega,by unfold maxLen;omega⟩
 ·rw [if_neg hm] at hw
  simp +decide [int,ints,h0,lexD,hf',h1,hj,hj',e1,ee,hid,hm,I64,Ent.row];refine ⟨by omega,by unfold maxLen;omega,zaj.pure (by rfl) hf2 (by simp [lexD,int,Ent.row,ints]) ?_⟩
  simp +decide [int,ints,lexD];exact ⟨out++[x],e.main,⟨by rw [List.length_append,List.append_assoc];exact hw,by simp;omega⟩,by simp;omega,rfl,by simp⟩
def senW (l:List Ent):List Int→List Sens
 | []=>[]
 | x::ws=>if (getE l x).1.senses≠[] then (getE l x).1.senses else senW l ws
theorem zmf (l:List Ent) : ∀ f id,(wayR l f id).getD []=senW l (wayG l f id)
 | 0,_=>rfl
 | f+1,id=>by
  have ih:=zmf l f (getE l id).1.main;unfold wayR wayG;by_cases h:(getE l id).2=true
  ·rw [if_pos h,if_pos h]
   by_cases hs:(getE l id).1.senses≠[]
   ·rw [if_pos hs];unfold senW;rw [if_pos hs];rfl
   ·rw [if_neg hs];unfold senW;rw [if_neg hs]
    by_cases hm:(getE l id).1.main=0
    ·rw [if_pos hm,if_pos hm];rfl
    ·rw [if_neg hm,if_neg hm];exact ih
  ·rw [if_neg h,if_neg h];rfl
theorem zui (l:List Ent) : ∀ f id,∀ x∈wayG l f id,(getE l x).2=true
 | 0,_,x,hx=>by cases hx
 | f+1,id,x,hx=>by
  unfold wayG at hx;split at hx
  ·rename_i h
   rcases List.mem_cons.mp hx with hx | hx
   ·rw [hx];exact h
   ·split at hx
    ·cases hx
    ·exact zui l f _ x hx
  ·cases hx
theorem yaz {l:List Ent} {ws:List Int} {k:Nat} (h:k<ws.length):senW l (ws.drop k)=if (getE l ws[k]).1.senses≠[] then (getE l ws[k]).1.senses else senW l (ws.drop (k+1)):=by
 rw [List.drop_eq_getElem_cons h];rfl
set_option maxHeartbeats 4000000 in
theorem zq7 (l:List Ent) (id:Int) (hl:l.length<2^40):zam Tryz.prog 162 [lexD l,int id] (zbp (zcf l id)):=by
 unfold zcf
 rw [zmf]
 have hW:=z5i l id hl
 have hwl:=z5h l (l.length+1) id
 have hfo:=zui l (l.length+1) id
 generalize wayG l (l.length+1) id=ws at hW hwl hfo ⊢
 refine zaa mixed Tryz.func162 rfl call_162 ?_
 simp +decide [Tryz.f162,int]
 refine zaj.pure (by rfl) hW (by simp [lexD,int]) ?_
 simp +decide [int,ints]
 refine zad mixed (fun k:Nat=>{n:=32,next:=1,slots:=[(0,.d (lexD l)),(5,.d (ints ws)),(6,.d (int k))],own:=[]})
  (fun k=>k≤ws.length∧senW l (ws.drop k)=senW l ws) (fun k=>ws.length-k) 0 (by simp) (by simp +decide [int,ints]) ?_
 intro k ⟨hk,hpe⟩
 by_cases hlt:k<ws.length
 case neg=>
  have:k=ws.length:=by omega
  subst this;rw [List.drop_length] at hpe;rw [← hpe];simp +decide [int,ints,zbp,senW]
 have hlt':(k:Int)<ws.length:=by omega
 have hsn:=yaz (l:=l) hlt
 have hfk:=hfo ws[k] (List.getElem_mem hlt)
 obtain ⟨x,ex⟩ : ∃ x,ws[k]=x:=⟨_,rfl⟩
 have e1:ws[k]?=some x:=by rw [List.getElem?_eq_getElem hlt,ex]
 rw [ex] at hsn hfk
 have hF:=zl9 l x (by omega)
 rcases zcy l x with ⟨h1,h2⟩ | ⟨j,hj,h1,h2⟩
 ·rw [h2] at hfk;cases hfk
 rw [h1] at hF
 obtain ⟨e,ee⟩ : ∃ e,l[j]=e:=⟨_,rfl⟩
 have ej:l[j]?=some e:=by rw [List.getElem?_eq_getElem hj,ee]
 rw [ee] at h2
 rw [h2] at hsn
 have hj':(j:Int)<l.length:=by omega
 simp +decide [int,ints,hlt,hlt',e1,ex,lexD]
 refine zaj.pure (by rfl) hF (by simp [lexD,int]) ?_
 by_cases hs:e.senses=[]
 ·rw [if_neg (by simpa using hs)] at hsn
  simp +decide [int,ints,lexD,hj,hj',ej,ee,hs,Ent.row,zbp];exact ⟨⟨by omega,by omega⟩,k+1,⟨hlt,by rw [← hsn];exact hpe⟩,by omega,by simp⟩
 ·rw [if_pos (by simpa using hs)] at hsn
  rw [← hpe,hsn];simp +decide [int,ints,lexD,hj,hj',ej,ee,hs,Ent.row,zbp]
set_option maxHeartbeats 4000000 in
theorem ya0 (g:Lang) (hg:LexFit g.lex) (p:Prt):zam Tryz.prog 142 [g.d,.agg p.row] (int (zhe g.lex p)):=by
 have hG:=zqc g.lex p.entry (by have:=hg.len;omega)
 have hS:=zq7 g.lex p.entry hg.len
 have hA:=zmc hg p.entry
 unfold zhe zgb
 generalize getE g.lex p.entry=r at hG hA ⊢
 obtain ⟨e,ok⟩:=r
 simp only at hG hA ⊢
 have hF:=znw e hA p.alt
 refine zaa mixed Tryz.func142 rfl call_142 ?_
 simp +decide [Tryz.f142,Lang.d,Prt.row,int]
 refine zaj.pure (by rfl) hG (by simp [lexD,int]) ?_
 cases ok with
 | false=>simp +decide [int,Ent.row]
 | true=>
  simp +decide [int,Ent.row];refine zaj.pure (by rfl) hF (by simp [Ent.row,int]) ?_
  by_cases hf:0≤p.alt∧p.alt<e.forms.length
  ·simp +decide [int,hf]
   refine ⟨fun h1 h2=>absurd h2 (by omega),fun h=>?_⟩
   refine zac (by rfl) (by rfl) hS (by simp [lexD,int]) ?_
   have hn:¬ p.sense<0:=by omega
   by_cases hs:((zcf g.lex p.entry).length:Int)≤p.sense
   ·simp +decide [int,zbp,hn,hs]
   ·simp +decide [int,zbp,hn,hs]
  ·simp +decide [int,hf]
end Go.V
namespace Go.V
open Go Go.Proofs
theorem z5j (l:List Ent) (p:Prt):zgb l p=if (getE l p.entry).2=true∧(0≤p.alt∧p.alt<(getE l p.entry).1.forms.length) then ((getE l p.entry).1,((getE l p.entry).1.forms[p.alt.toNat]?.getD []),true) else ((getE l p.entry).1,[],false):=rfl
theorem zhf {P:Program} {all:List Oper} {n0:Nat} {vl:List Nat} {K:St→List FK→List (Nat×Obj')→Prop} {o:Oper} {r:List Oper} {st:St} {ks:List FK} {hs:List (Nat×Obj')} :
  fseg P all n0 vl K (o::r) st ks hs=(xdst o.dst st.n=true∧fop P all n0 vl o st hs (fun k hs'=>fseg P all n0 vl K r (st.put o.dst k.sym) (k::ks) hs')):=rfl
set_option maxHeartbeats 4000000 in
theorem zmg (g:Lang) (hg:LexFit g.lex) (ps:List Prt) (hp:ps.length<2^20):zam Tryz.prog 144 [g.d,anaD ps] (ints (zas g.lex ps)):=by
 refine zaa mixed Tryz.func144 rfl call_144 ?_
 simp +decide [Tryz.f144,Lang.d,anaD,zab,int]
 refine zad mixed (fun k:Nat=>{n:=45,next:=4,slots:=[(2,.bp 0 0),(3,.bp 1 0),(5,.ar 3),(6,.d (int k))],own:=[(0,.box 56 (zai g.d)),(1,.box 31 [.d (zab ps)]),(3,.arr 3 1 ((zas g.lex (ps.take k)).map fun n=>[int n]))],moved:=[3]})
  (fun k=>k≤ps.length) (fun k=>ps.length-k) 0 (by simp) (by simp +decide [int,zab,zas,zai,Lang.d]) ?_
 intro k hk
 by_cases hlt:k<ps.length
 case neg=>
  have:k=ps.length:=by omega
  subst this;rw [List.take_length];simp +decide [int,ints,zab]
 have hlt':(k:Int)<ps.length:=by omega
 have hsn:=zmd (l:=g.lex) hlt
 have hlen:=zec g.lex (ps.take k)
 rw [List.length_take] at hlen
 obtain ⟨p,ep⟩ : ∃ p,ps[k]=p:=⟨_,rfl⟩
 have e1:ps[k]?=some p:=by rw [List.getElem?_eq_getElem hlt,ep]
 rw [ep,z5j] at hsn
 have hG:=zqc g.lex p.entry (by have:=hg.len;omega)
 have hA:=zmc hg p.entry
 generalize getE g.lex p.entry=r at hG hA hsn
 obtain ⟨e,ok⟩:=r
 simp only at hG hA hsn
 have hF:=znw e hA p.alt
 simp +decide [int,zab,Prt.row,hlt,hlt',e1,ep,I64,zai,Lang.d]
 refine z0s mixed 15 [] (by rfl) (by rfl) (by rfl) (by rfl) ?_
 dsimp only [List.take]
 iterate 8 (rw [zhf];simp +decide [-fseg,int,zab,Prt.row,hlt,hlt',e1,ep,I64,zai,Lang.d])
 rw [zhf]
 simp +decide [-fseg,int,zab,Prt.row,hlt,hlt',e1,ep,I64,zai,Lang.d]
 refine zac (by rfl) (by rfl) hG (by simp [lexD,int]) ?_
 simp +decide [-fseg,int]
 iterate 6 (rw [zhf];simp +decide [-fseg,int,Ent.row])
 refine ⟨by rfl,?_⟩
 cases ok with
 | false=>
  simp only [Bool.false_eq_true,false_and,if_false,List.append_nil] at hsn;simp +decide [int,ints,Ent.row,zab,Prt.row,I64,zai,Lang.d];exact ⟨⟨by omega,by omega⟩,k+1,hlt,by omega,by omega,by rw [hsn]⟩
 | true=>
  simp +decide [int,ints,Ent.row,zab,Prt.row,hlt,hlt',e1,ep,I64,zai,Lang.d];refine zac (by rfl) (by rfl) hF (by simp [Ent.row,int,ints]) ?_
  by_cases hf:0≤p.alt∧p.alt<e.forms.length
  ·simp only [true_and,hf,and_self,if_true] at hsn
   simp +decide [int,ints,Ent.row,zab,Prt.row,I64,zai,Lang.d,hf];exact ⟨by omega,by unfold maxLen;omega,⟨by omega,by omega⟩,k+1,hlt,by omega,by omega,by rw [hsn];simp⟩
  ·simp only [true_and,hf,Bool.false_eq_true,if_false,List.append_nil] at hsn
   simp +decide [int,ints,Ent.row,zab,Prt.row,I64,zai,Lang.d,hf];exact ⟨⟨by omega,by omega⟩,k+1,hlt,by omega,by omega,by rw [hsn]⟩
end Go.V
namespace Go.V
open Go Go.Proofs
theorem zo3 (e:Ent) (h:e.alts.length<2^40):zam Tryz.prog 148 [.agg e.row] (zbh e.forms):=by
 refine zaa mixed Tryz.func148 rfl call_148 ?_
 simp [Tryz.f148,Ent.row,zbh,ints,Ent.forms,maxLen]
 omega
set_option maxHeartbeats 4000000 in
theorem znx (g:Lang) (hg:LexFit g.lex) (ps:List Prt) (hp:ps.length<2^20):zam Tryz.prog 107 [g.d,anaD ps] (ints (zbc g.lex ps)):=by
 refine zaa mixed Tryz.func107 rfl call_107 ?_
 simp +decide [Tryz.f107,Lang.d,anaD,zab,int]
 refine zad mixed (fun k:Nat=>{n:=52,next:=4,slots:=[(2,.bp 0 0),(3,.bp 1 0),(5,.ar 3),(6,.d (int k))],own:=[(0,.box 56 (zai g.d)),(1,.box 31 [.d (zab ps)]),(3,.arr 3 1 ((zbc g.lex (ps.take k)).map fun n=>[int n]))],moved:=[3]})
  (fun k=>k≤ps.length) (fun k=>ps.length-k) 0 (by simp) (by simp +decide [int,zab,zbc,zai,Lang.d]) ?_
 intro k hk
 by_cases hlt:k<ps.length
 case neg=>
  have:k=ps.length:=by omega
  subst this;rw [List.take_length];simp +decide [int,ints,zab]
 have hlt':(k:Int)<ps.length:=by omega
 have hsn:=zuh (l:=g.lex) hlt
 have hlen:=zhd hg (ps.take k)
 rw [List.length_take] at hlen
 obtain ⟨p,ep⟩ : ∃ p,ps[k]=p:=⟨_,rfl⟩
 have e1:ps[k]?=some p:=by rw [List.getElem?_eq_getElem hlt,ep]
 rw [ep,z5j] at hsn
 have hG:=zqc g.lex p.entry (by have:=hg.len;omega)
 have hA:=zmc hg p.entry
 have hwl:(0≤p.alt∧p.alt<(getE g.lex p.entry).1.forms.length)→((getE g.lex p.entry).1.forms[p.alt.toNat]?.getD []).length<2^20:=by
  intro h;by_cases hb:(getE g.lex p.entry).2=true
  ·have:=zq5 hg p
   unfold zgb at this;rw [if_pos ⟨hb,h⟩] at this;exact this
  ·rcases zcy g.lex p.entry with ⟨_,h2⟩ | ⟨j,hj,_,h2⟩
   ·rw [h2] at h ⊢
    have h0:p.alt=0:=by have:=h.2;simp [Ent.zero,Ent.forms] at this;omega
    rw [h0];decide
   ·rw [h2] at hb;exact absurd rfl hb
 generalize getE g.lex p.entry=r at hG hA hsn hwl
 obtain ⟨e,ok⟩:=r
 simp only at hG hA hsn hwl
 have hF:=znw e hA p.alt
 have hL:=zo3 e (by omega)
 simp +decide [int,zab,Prt.row,hlt,hlt',e1,ep,I64,zai,Lang.d]
 refine z0s mixed 15 [] (by rfl) (by rfl) (by rfl) (by rfl) ?_
 dsimp only [List.take]
 iterate 8 (rw [zhf];simp +decide [-fseg,int,zab,Prt.row,hlt,hlt',e1,ep,I64,zai,Lang.d])
 rw [zhf]
 simp +decide [-fseg,int,zab,Prt.row,hlt,hlt',e1,ep,I64,zai,Lang.d]
 refine zac (by rfl) (by rfl) hG (by simp [lexD,int]) ?_
 simp +decide [-fseg,int]
 iterate 6 (rw [zhf];simp +decide [-fseg,int,Ent.row])
 refine ⟨by rfl,?_⟩
 cases ok with
 | false=>
  simp only [Bool.false_eq_true,false_and,if_false,List.append_nil] at hsn;simp +decide [int,ints,Ent.row,zab,Prt.row,I64,zai,Lang.d];exact ⟨⟨by omega,by omega⟩,k+1,hlt,by omega,by omega,by rw [hsn]⟩
 | true=>
  simp +decide [int,ints,Ent.row,zab,Prt.row,hlt,hlt',e1,ep,I64,zai,Lang.d];refine zac (by rfl) (by rfl) hF (by simp [Ent.row,int,ints]) ?_
  by_cases hf:0≤p.alt∧p.alt<e.forms.length
  ·simp only [true_and,hf,and_self,if_true] at hsn
   have h0:p.alt.toNat<e.forms.length:=by omega
   obtain ⟨w,ew⟩ : ∃ w,e.forms[p.alt.toNat]=w:=⟨_,rfl⟩;have ew':e.forms[p.alt.toNat]?=some w:=by rw [List.getElem?_eq_getElem h0,ew]
   rw [ew',Option.getD_some] at hsn hwl;have hwl:=hwl hf;simp +decide [int,ints,Ent.row,zab,Prt.row,I64,zai,Lang.d,hf];refine z0w mixed 11 (by rfl) (by rfl) (by rfl) (by rfl) (by simp) ?_
   simp +decide [int,ints,Ent.row,zab,Prt.row,hlt,hlt',e1,ep,I64,zai,Lang.d,hf];refine zac (by rfl) (by rfl) hL (by simp [Ent.row,int,ints]) ?_
   simp +decide [int,ints,Ent.row,zab,Prt.row,hlt,hlt',e1,ep,I64,zai,Lang.d,hf,zbh,ew',ew,h0];exact ⟨by omega,by unfold maxLen;omega,⟨by omega,by omega⟩,k+1,hlt,by omega,by omega,by rw [hsn];simp⟩
  ·simp only [true_and,hf,Bool.false_eq_true,if_false,List.append_nil] at hsn
   simp +decide [int,ints,Ent.row,zab,Prt.row,I64,zai,Lang.d,hf];exact ⟨⟨by omega,by omega⟩,k+1,hlt,by omega,by omega,by rw [hsn]⟩
end Go.V
namespace Go.V
open Go Go.Proofs
def bls (S m:Nat):List Bool:=(List.range S).map fun q=>m.testBit q
def za7 (l:List Bool):D:=.sl (l.map fun b=>[.bool b])
@[simp] theorem ylk (S m:Nat):(bls S m).length=S:=by simp [bls]
theorem zi8 {S m q:Nat} (h:q<S):(bls S m)[q]?=some (m.testBit q):=by simp [bls,h]
theorem zo4 {S m q:Nat} (h:q<(bls S m).length):(bls S m)[q]=m.testBit q:=by simp [bls]
theorem zqf (S:Nat):bls S 0=List.replicate S false:=by
 apply List.ext_getElem <;> simp [bls]
theorem zi9 (m q j:Nat):(m ||| (1 <<< q)).testBit j=(m.testBit j || decide (q=j)):=by
 rw [Nat.testBit_or,Nat.one_shiftLeft,Nat.testBit_two_pow]
theorem z1v {S m q:Nat} (h:q<S):(bls S m).set q true=bls S (zft m (q:Int)):=by
 apply List.ext_getElem
 ·simp
 ·intro i h1 h2
  have hi:i<S:=by simpa using h2
  rw [List.getElem_set];unfold zft;simp only [bls,List.getElem_map,List.getElem_range,Int.toNat_natCast,zi9];by_cases e:q=i
  ·subst e;simp
  ·simp [e]
structure NetL (n:Nett):Prop where
 lo:1≤n.states
 hi:n.states≤3
 steps : ∀ s∈n.steps,(0≤s.src∧s.src<n.states)∧(0≤s.dst∧s.dst<n.states)∧1≤s.cls
 final : ∀ q∈n.final,0≤q∧q<n.states
 few:n.steps.length<2^40
 few2:n.final.length<2^40
theorem NetL.ok {n:Nett} (h:NetL n):yip n:=by
 refine ⟨fun s hs=>?_,fun q hq=>?_,h.few,h.few2⟩
 ·have:=h.steps s hs;have:=h.hi;omega
 ·have:=h.final q hq;have:=h.hi;omega
set_option maxHeartbeats 4000000 in
theorem zqg (n:Nett) (hn:NetL n) (l:List Int) (hl : ∀ q∈l,0≤q∧q<n.states) (hlen:l.length<2^40) :
  zam Tryz.prog 174 [.agg n.cells,ints l] (za7 (bls n.states.toNat (zbe l))):=by
 have h1:=hn.lo
 have h3:=hn.hi
 refine zaa mixed Tryz.func174 rfl call_174 ?_
 simp +decide [Tryz.f174,Nett.cells,int,ints]
 refine ⟨by omega,by omega,by unfold maxLen;omega,?_⟩
 refine zad mixed (fun k:Nat=>{n:=23,next:=3,slots:=[(1,.d (ints l)),(5,.ar 2),(6,.d (int k))],own:=[(2,.arr 4 1 ((bls n.states.toNat (zbe (l.take k))).map fun b=>[.bool b]))],moved:=[]})
  (fun k=>k≤l.length) (fun k=>l.length-k) 0 (by simp) (by simp +decide [int,ints,zbe,zqf]) ?_
 intro k hk
 by_cases hlt:k<l.length
 case neg=>
  have:k=l.length:=by omega
  subst this;rw [List.take_length];simp +decide [int,ints,za7]
 have hlt':(k:Int)<l.length:=by omega
 have hq:=hl l[k] (List.getElem_mem hlt)
 have hsn:zbe (l.take (k+1))=zft (zbe (l.take k)) l[k]:=by unfold zbe;rw [zal hlt,List.foldl_append];rfl
 obtain ⟨q,eq⟩ : ∃ q,l[k]=q:=⟨_,rfl⟩
 have e1:l[k]?=some q:=by rw [List.getElem?_eq_getElem hlt,eq]
 rw [eq] at hq hsn
 have hst:=z1v (S:=n.states.toNat) (m:=zbe (l.take k)) (q:=q.toNat) (by omega)
 rw [show ((q.toNat:Nat):Int)=q by omega,← hsn] at hst
 have hgt:=zi8 (S:=n.states.toNat) (m:=zbe (l.take k)) (q:=q.toNat) (by omega)
 have hms:(List.map (fun b=>[D.bool b]) (bls n.states.toNat (zbe (l.take k)))).set q.toNat [D.bool true]=List.map (fun b=>[D.bool b]) (bls n.states.toNat (zbe (l.take (k+1)))):=by
  rw [← hst,List.map_set]
 simp +decide [int,ints,hlt,hlt',e1,eq,hq.1,hq.2,hgt]
 exact ⟨by omega,by omega,⟨by omega,by omega⟩,k+1,hlt,by omega,by omega,hms⟩
def zfg (m:Nat) (c:Int) (out:Nat) (s:Stp):Nat:=if hasS m s.src=true∧(c=0∨s.cls=c) then zft out s.dst else out
def zb9 (l:List Stp) (m:Nat) (c:Int):Nat:=l.foldl (zfg m c) 0
set_option maxHeartbeats 4000000 in
theorem zuj (n:Nett) (hn:NetL n) (m:Nat) (c:Int) :
  zam Tryz.prog 187 [.agg n.cells,za7 (bls n.states.toNat m),int c] (za7 (bls n.states.toNat (zb9 n.steps m c))):=by
 have h1:=hn.lo
 have h3:=hn.hi
 have hfew:=hn.few
 refine zaa mixed Tryz.func187 rfl call_187 ?_
 simp +decide [Tryz.f187,Nett.cells,int,ints,za7]
 refine ⟨by omega,by omega,by unfold maxLen;omega,?_⟩
 refine zad mixed (fun k:Nat=>{n:=45,next:=3,slots:=[(1,.d (za7 (bls n.states.toNat m))),(2,.d (int c)),(3,.bp 0 0),(7,.ar 2),(8,.d (int k))],own:=[(0,.box 53 (n.cells.map .d)),(2,.arr 4 1 ((bls n.states.toNat (zb9 (n.steps.take k) m c)).map fun b=>[.bool b]))],moved:=[]})
  (fun k=>k≤n.steps.length) (fun k=>n.steps.length-k) 0 (by simp) (by simp +decide [int,ints,zb9,zqf,Nett.cells,za7]) ?_
 intro k hk
 by_cases hlt:k<n.steps.length
 case neg=>
  have:k=n.steps.length:=by omega
  subst this;rw [List.take_length];simp +decide [int,ints,za7,Nett.cells,stepsD]
 have hlt':(k:Int)<n.steps.length:=by omega
 have hq:=hn.steps n.steps[k] (List.getElem_mem hlt)
 have hsn:zb9 (n.steps.take (k+1)) m c=zfg m c (zb9 (n.steps.take k) m c) n.steps[k]:=by unfold zb9;rw [zal hlt,List.foldl_append];rfl
 obtain ⟨x,eq⟩ : ∃ x,n.steps[k]=x:=⟨_,rfl⟩
 have e1:n.steps[k]?=some x:=by rw [List.getElem?_eq_getElem hlt,eq]
 rw [eq] at hq hsn
 obtain ⟨⟨q1,q2⟩,⟨q3,q4⟩,q5⟩:=hq
 have hb:=zi8 (S:=n.states.toNat) (m:=m) (q:=x.src.toNat) (by omega)
 have hst:=z1v (S:=n.states.toNat) (m:=zb9 (n.steps.take k) m c) (q:=x.dst.toNat) (by omega)
 rw [show ((x.dst.toNat:Nat):Int)=x.dst by omega] at hst
 have hgt:=zi8 (S:=n.states.toNat) (m:=zb9 (n.steps.take k) m c) (q:=x.dst.toNat) (by omega)
 have hms:(List.map (fun b=>[D.bool b]) (bls n.states.toNat (zb9 (n.steps.take k) m c))).set x.dst.toNat [D.bool true]=List.map (fun b=>[D.bool b]) (bls n.states.toNat (zft (zb9 (n.steps.take k) m c) x.dst)):=by
  rw [← hst,List.map_set]
 unfold zfg hasS at hsn
 cases hx:m.testBit x.src.toNat with
 | false=>
  rw [hx] at hb hsn;rw [if_neg (by simp)] at hsn
  simp +decide [int,ints,hlt,hlt',e1,eq,q1,q2,q3,q4,hb,za7,Nett.cells,stepsD,Stp.row];exact ⟨by omega,⟨by omega,by omega⟩,k+1,hlt,by omega,by omega,by rw [hsn]⟩
 | true=>
  rw [hx] at hb hsn;by_cases hc:c=0∨x.cls=c
  ·rw [if_pos ⟨rfl,hc⟩] at hsn
   simp +decide [int,ints,hlt,hlt',e1,eq,q1,q2,q3,q4,hb,za7,Nett.cells,stepsD,Stp.row,hc,hgt];refine ⟨by omega,fun h0=>⟨fun h=>⟨by omega,by omega,⟨by omega,by omega⟩,k+1,hlt,by omega,by omega,by rw [hsn];exact hms⟩,fun h=>absurd hc (by rintro (h' | h');exact h0 h';exact h h')⟩,fun h0=>⟨by omega,by omega,⟨by omega,by omega⟩,k+1,hlt,by omega,by omega,by rw [hsn];exact hms⟩⟩
  ·rw [if_neg (fun h=>hc h.2)] at hsn
   have hc1:¬ c=0:=fun h=>hc (.inl h)
   have hc2:¬ x.cls=c:=fun h=>hc (.inr h)
   simp +decide [int,ints,hlt,hlt',e1,eq,q1,q2,q3,q4,hb,za7,Nett.cells,stepsD,Stp.row,hc1,hc2];exact ⟨by omega,⟨by omega,by omega⟩,k+1,hlt,by omega,by omega,by rw [hsn]⟩
def zi2 (S a b:Nat):Bool:=(List.range S).any fun q=>a.testBit q&&b.testBit q
theorem zq8 (S a b:Nat) (hS:S≤3):zam Tryz.prog 172 [za7 (bls S a),za7 (bls S b)] (.bool (zi2 S a b)):=by
 refine zaa mixed Tryz.func172 rfl call_172 ?_
 simp +decide [Tryz.f172,int,za7]
 refine zad mixed (fun k:Nat=>{n:=22,next:=0,slots:=[(0,.d (za7 (bls S a))),(1,.d (za7 (bls S b))),(5,.d (int k))],own:=[],moved:=[]})
  (fun k=>k≤S∧∀ j,j<k→(a.testBit j&&b.testBit j)=false) (fun k=>S-k) 0 (by simp) (by simp +decide [int,za7]) ?_
 intro k ⟨hk,hp⟩
 by_cases hlt:k<S
 case neg=>
  have:k=S:=by omega
  subst this;have:zi2 k a b=false:=by
   unfold zi2;rw [List.any_eq_false];intro j hj;rw [hp j (List.mem_range.mp hj)];decide
  rw [this];simp +decide [int,za7]
 have hlt':(k:Int)<S:=by omega
 have ha:=zi8 (S:=S) (m:=a) (q:=k) hlt
 have hb:=zi8 (S:=S) (m:=b) (q:=k) hlt
 have hnx:(a.testBit k&&b.testBit k)=false→∀ j,j<k+1→(a.testBit j&&b.testBit j)=false:=by
  intro h j hj;rcases Nat.lt_succ_iff_lt_or_eq.mp hj with h' | h'
  ·exact hp j h'
  ·rw [h'];exact h
 have hyes:(a.testBit k&&b.testBit k)=true→zi2 S a b=true:=by
  intro h;unfold zi2;rw [List.any_eq_true];exact ⟨k,List.mem_range.mpr hlt,h⟩
 cases hx:a.testBit k with
 | false=>
  rw [hx] at ha;simp +decide [int,hlt,hlt',ha,za7,zo4,hx];exact ⟨⟨by omega,by omega⟩,k+1,⟨hlt,fun j hj=>by simpa using hnx (by rw [hx];rfl) j hj⟩,by omega,by omega⟩
 | true=>
  rw [hx] at ha;cases hy:b.testBit k with
  | false=>
   rw [hy] at hb;simp +decide [int,hlt,hlt',ha,hb,za7,zo4,hx,hy];exact ⟨⟨by omega,by omega⟩,k+1,⟨hlt,fun j hj=>by simpa using hnx (by rw [hx,hy];rfl) j hj⟩,by omega,by omega⟩
  | true=>
   rw [hy] at hb;rw [hyes (by rw [hx,hy];rfl)]
   simp +decide [int,hlt,hlt',ha,hb,za7,zo4,hx,hy]
theorem ya1 {S m:Nat} {q:Int} (hm:m<2^S) (h0:0≤q) (h1:q<S):zft m q<2^S:=by
 unfold zft
 refine Nat.or_lt_two_pow hm ?_
 rw [Nat.one_shiftLeft]
 exact Nat.pow_lt_pow_right (by omega) (by omega)
theorem zq9 {n:Nett} (hn:NetL n) (m:Nat) {c:Int} (hc:1≤c):zb9 n.steps m c=zaw n.steps m c:=by
 unfold zb9 zaw
 congr 1
 funext out s
 unfold zfg zbi
 have:¬ c=0:=by omega
 simp [this]
theorem z7y {n:Nett} (hn:NetL n) (m:Nat) {c:Int} (hc:c<1):zaw n.steps m c=0:=by
 unfold zaw
 have key : ∀ l:List Stp,(∀ s∈l,1≤s.cls)→l.foldl (zbi m c) 0=0:=by
  intro l;induction l with
  | nil=>intro _;rfl
  | cons s l ih=>
   intro h;rw [List.foldl_cons];have h1:=h s (List.mem_cons_self ..);have:zbi m c 0 s=0:=by unfold zbi;rw [if_neg (fun h=>by omega)]
   rw [this];exact ih fun x hx=>h x (List.mem_cons_of_mem _ hx)
 exact key _ fun s hs=>(hn.steps s hs).2.2
theorem z5k {m:Nat} {c:Int} {S:Nat} : ∀ (l:List Stp) (out:Nat),(∀ s∈l,0≤s.dst∧s.dst<S)→out<2^S→l.foldl (zbi m c) out<2^S
 | [],out,_,h=>h
 | s::l,out,hl,h=>by
  rw [List.foldl_cons];refine z5k l _ (fun x hx=>hl x (List.mem_cons_of_mem _ hx)) ?_
  have:=hl s (List.mem_cons_self ..)
  unfold zbi;split
  ·exact ya1 h this.1 this.2
  ·exact h
theorem zny {n:Nett} (hn:NetL n) (m:Nat) (c:Int):zaw n.steps m c<2^n.states.toNat:=
 z5k _ _ (fun s hs=>by have:=(hn.steps s hs).2.1;have:=hn.lo;omega) (Nat.two_pow_pos _)
theorem z1w {n:Nett} (c:Int):zaw n.steps 0 c=0:=by
 unfold zaw
 induction n.steps with
 | nil=>rfl
 | cons s l ih=>
  rw [List.foldl_cons];have:zbi 0 c 0 s=0:=by unfold zbi hasS;rw [if_neg (fun h=>by simp at h)]
  rw [this];exact ih
theorem z5l {n:Nett} : ∀ cs:List Int,cs.foldl (fun m c=>zaw n.steps m c) 0=0
 | []=>rfl
 | c::cs=>by rw [List.foldl_cons,z1w];exact z5l cs
theorem yfv {n:Nett} (hn:NetL n) {cs:List Int} {k:Nat} (hk:k<cs.length) (hc:cs[k]<1):runS n.steps cs=0:=by
 unfold runS
 have:cs=cs.take k++cs[k]::cs.drop (k+1):=by rw [← List.drop_eq_getElem_cons hk,List.take_append_drop]
 rw [this,List.foldl_append,List.foldl_cons,z7y hn _ hc]
 exact z5l _
theorem yfw {n:Nett} (hn:NetL n) (cs:List Int):runS n.steps cs<2^n.states.toNat:=by
 unfold runS
 have key : ∀ (cs:List Int) (m:Nat),m<2^n.states.toNat→cs.foldl (fun m c=>zaw n.steps m c) m<2^n.states.toNat:=by
  intro cs;induction cs with
  | nil=>intro m h;exact h
  | cons c cs ih=>intro m h;rw [List.foldl_cons];exact ih _ (zny hn _ _)
 refine key cs 1 ?_
 have:=hn.lo
 exact Nat.one_lt_two_pow (by omega)
end Go.V
namespace Go.V
open Go Go.Proofs
set_option maxHeartbeats 4000000 in
theorem zra (n:Nett) (hn:NetL n) (l:List Int) (hl:l.length<2^40):zam Tryz.prog 173 [.agg n.cells,ints l] (za7 (bls n.states.toNat (runS n.steps l))):=by
 have h1:=hn.lo
 have h3:=hn.hi
 have hS:=zqg n hn [0] (by intro q hq;rw [List.mem_singleton] at hq;omega) (by decide)
 have h0:zbe [0]=1:=by decide
 rw [h0] at hS
 refine zaa mixed Tryz.func173 rfl call_173 ?_
 simp +decide [Tryz.f173,Nett.cells,int,ints,za7]
 refine yee (by rfl) hS (by simp) ?_
 simp +decide [int,ints,za7,Nett.cells]
 refine zad mixed (fun k:Nat=>{n:=32,next:=1,slots:=[(1,.d (ints l)),(2,.bp 0 0),(5,.d (za7 (bls n.states.toNat (runS n.steps (l.take k))))),(6,.d (int k))],own:=[(0,.box 53 (n.cells.map .d))],moved:=[]})
  (fun k=>k≤l.length) (fun k=>l.length-k) 0 (by simp) (by simp +decide [int,ints,runS,za7,Nett.cells]) ?_
 intro k hk
 by_cases hlt:k<l.length
 case neg=>
  have:k=l.length:=by omega
  subst this;rw [List.take_length];simp +decide [int,ints,za7,Nett.cells]
 have hlt':(k:Int)<l.length:=by omega
 have hsn:runS n.steps (l.take (k+1))=zaw n.steps (runS n.steps (l.take k)) l[k]:=by unfold runS;rw [zal hlt,List.foldl_append];rfl
 have hlow:=fun h=>yfv hn hlt h
 obtain ⟨c,ec⟩ : ∃ c,l[k]=c:=⟨_,rfl⟩
 have e1:l[k]?=some c:=by rw [List.getElem?_eq_getElem hlt,ec]
 rw [ec] at hsn hlow
 have hA:=zuj n hn (runS n.steps (l.take k)) c
 by_cases hc:c<1
 ·rw [hlow hc]
  simp +decide [int,ints,hlt,hlt',e1,ec,hc,za7,Nett.cells,zqf];exact ⟨by omega,by omega,by unfold maxLen;omega⟩
 ·rw [zq9 hn _ (by omega),← hsn] at hA
  simp +decide [int,ints,hlt,hlt',e1,ec,hc,za7,Nett.cells];refine zac (by rfl) (by rfl) hA (by simp [int,ints,za7,Nett.cells]) ?_
  simp +decide [int,ints,za7,Nett.cells];exact ⟨⟨by omega,by omega⟩,k+1,hlt,by omega,rfl,by simp⟩
theorem ya2 : ∀ (S:Fin 4) (a b:Fin 8),a.val<2^S.val→zi2 S.val a.val b.val=decide (a.val &&& b.val≠0):=by decide +kernel
set_option maxHeartbeats 4000000 in
theorem zv6 (n:Nett) (hn:NetL n) (cs:List Int) (hc:cs.length<2^40):zam Tryz.prog 143 [.agg n.cells,ints cs] (.bool (zej n cs)):=by
 have h1:=hn.lo
 have h3:=hn.hi
 have hR:=zra n hn cs hc
 have hS:=zqg n hn n.final hn.final hn.few2
 have hB:=zq8 n.states.toNat (runS n.steps cs) (zbe n.final) (by omega)
 have hlt:=yfw hn cs
 have hlt8:runS n.steps cs<8:=Nat.lt_of_lt_of_le hlt (Nat.pow_le_pow_right (by omega) (show n.states.toNat≤3 by omega))
 have hf8:=zga n.final 0 (fun q hq=>hn.ok.2.1 q hq) (by omega)
 have heq:zi2 n.states.toNat (runS n.steps cs) (zbe n.final)=zej n cs:=by
  unfold zej;exact ya2 ⟨n.states.toNat,by omega⟩ ⟨_,hlt8⟩ ⟨_,hf8⟩ hlt
 rw [heq] at hB
 refine zaa mixed Tryz.func143 rfl call_143 ?_
 simp +decide [Tryz.f143,Nett.cells,int,ints]
 refine zac (by rfl) (by rfl) hR (by simp [Nett.cells,int,ints]) ?_
 simp +decide [int,ints,za7,Nett.cells]
 refine zac (by rfl) (by rfl) hS (by simp [Nett.cells,int,ints]) ?_
 simp +decide [int,ints,za7,Nett.cells]
 refine zac (by rfl) (by rfl) hB (by simp [Nett.cells,int,ints,za7]) ?_
 simp +decide [int,ints,za7,Nett.cells]
structure LangL (g:Lang):Prop extends LangOk g where
 light:NetL g.net
set_option maxHeartbeats 8000000 in
theorem zv7 (g:Lang) (hg:LangL g) (ps:List Prt) (hp:ps.length<2^20):zam Tryz.prog 105 [g.d,anaD ps] (int (zfe g ps)):=by
 refine zaa mixed Tryz.func105 rfl call_105 ?_
 obtain ⟨R,hR⟩ : ∃ R,zfe g ps=R:=⟨_,rfl⟩
 rw [hR]
 unfold zfe at hR
 by_cases h0:ps.length=0
 ·rw [if_pos h0] at hR
  subst hR;simp +decide [Tryz.f105,Lang.d,anaD,zab,int,h0];done
 rw [if_neg h0] at hR
 by_cases h4:4<ps.length
 ·rw [if_pos h4] at hR
  subst hR;have h4':(4:Int)<ps.length:=by omega
  have h0':¬(ps.length:Int)=0:=by omega
  simp +decide [Tryz.f105,Lang.d,anaD,zab,int,h0,h0',h4,h4'];done
 rw [if_neg h4] at hR
 have h4':¬(4:Int)<ps.length:=by omega
 have h0':¬(ps.length:Int)=0:=by omega
 simp +decide [Tryz.f105,Lang.d,anaD,zab,int,h0,h0',h4,h4']
 refine zad mixed (fun k:Nat=>{n:=44,next:=2,slots:=[(2,.bp 0 0),(3,.bp 1 0),(5,.d (int k))],own:=[(0,.box 56 (zai g.d)),(1,.box 31 [.d (zab ps)])],moved:=[]})
  (fun k=>k≤ps.length∧zgd g.lex (ps.drop k)=zgd g.lex ps) (fun k=>ps.length-k) 0 (by simp) (by simp +decide [int,zab,zai,Lang.d]) ?_
 intro k ⟨hk,hpe⟩
 by_cases hlt:k<ps.length
 case neg=>
  have:k=ps.length:=by omega
  subst this;rw [List.drop_length] at hpe;rw [← hpe] at hR;have hz:zgd g.lex []=0:=rfl
  rw [hz,if_neg (by simp)] at hR
  have hC:=zmg g hg.lex ps hp;have hB:=znx g hg.lex ps hp;have hcl:=zec g.lex ps;have hA:=zv6 g.net hg.light (zas g.lex ps) (by omega)
  have hbl:=zhd hg.lex ps;simp +decide [int,zab,zai,Lang.d];refine zac (by rfl) (by rfl) hC (by simp [int]) ?_
  simp +decide [int,zab,zai,Lang.d];refine zac (by rfl) (by rfl) hA (by simp [int]) ?_
  cases hac:zej g.net (zas g.lex ps) with
  | false=>
   rw [if_pos hac] at hR;subst hR;simp +decide [int]
  | true=>
   rw [if_neg (by rw [hac];decide)] at hR
   simp +decide [int];refine zaj.pure (by rfl) hB (by simp [int]) ?_
   by_cases hb:24<(zbc g.lex ps).length
   ·rw [if_pos hb] at hR
    subst hR;have hb':(24:Int)<(zbc g.lex ps).length:=by omega
    simp +decide [int,ints,hb,hb']
   ·rw [if_neg hb] at hR
    subst hR;have hb':¬(24:Int)<(zbc g.lex ps).length:=by omega
    simp +decide [int,ints,hb,hb']
 have hlt':(k:Int)<ps.length:=by omega
 have hsn:=zq6 (l:=g.lex) hlt
 rw [hpe] at hsn
 obtain ⟨p,ep⟩ : ∃ p,ps[k]=p:=⟨_,rfl⟩
 have e1:ps[k]?=some p:=by rw [List.getElem?_eq_getElem hlt,ep]
 rw [ep] at hsn
 have hP:=ya0 g hg.lex p
 generalize zhe g.lex p=r at hP hsn
 simp +decide [int,zab,Prt.row,hlt,hlt',e1,ep,I64,zai,Lang.d]
 refine zac (by rfl) (by rfl) hP (by simp [int,Lang.d,Prt.row]) ?_
 by_cases hr:r=0
 ·rw [if_pos hr] at hsn
  subst hr;simp +decide [int,zab,Prt.row,I64,zai,Lang.d];exact ⟨⟨by omega,by omega⟩,k+1,⟨hlt,hsn.symm⟩,by omega,by simp⟩
 ·rw [if_neg hr] at hsn
  have:R=r:=by rw [← hR,hsn,if_pos hr]
  subst this;simp +decide [int,zab,Prt.row,I64,zai,Lang.d,hr]
end Go.V
namespace Go.V
open Go Go.Proofs
section
variable {P:Program}
theorem zmh {f:Nat} {fn:Func} {c:Code} (hf:P.funcs[f]?=some fn) (hb:fn.body=some c) (hcall:callable P f=true) {args:List D} {r:D}
  (h:Triple P c (zp6 (zxf P fn.results.toList r)) (zgw fn.ntmps args)):zam P f args r:=by
 refine ⟨hcall,fun w E vs hE hr=>?_⟩
 refine calls_of_wp hf hb ?_
 refine wp_mono (h E (.of w) _ _ w (Mods.init hE hr)) ?_
 rintro e a' w' ⟨de,st',β',he,hq,hm'⟩
 cases e <;> cases de <;> simp only [exM] at he
 ·obtain ⟨v,h1,h2⟩:=zeo hm' hq
  exact ⟨hm'.defers,v,h1,v,rfl,hm'.below.below,h2⟩
 ·exact hq.elim
 ·obtain ⟨v,h1,h2⟩:=zeo hm' hq
  exact ⟨hm'.defers,v,h1,v,rfl,hm'.below.below,h2⟩
end
theorem z5m (inv:List Phon) (n:Int) (c:Cls) (hl:inv.length<2^62):zam Tryz.prog 194 [.agg [invD inv],int n,.agg c.row] (.bool (zkt inv n c)):=by
 refine zaa mixed Tryz.func194 rfl call_194 ?_
 simp +decide [Tryz.f194,int,Cls.row]
 refine zac (by rfl) (by rfl) (zqb inv n) (by simp) ?_
 by_cases hs:zds inv n=true
 ·have hs':=hs
  simp only [zds,Bool.and_eq_true,decide_eq_true_eq] at hs';have hlt:n.toNat-1<inv.length:=by omega
  have e1:inv[n.toNat-1]?=some inv[n.toNat-1]:=List.getElem?_eq_getElem hlt
  have e2:¬ n<1:=by omega
  simp +decide [invD,hs,hlt,e1,Phon.row,int,I64,zkt];omega
 ·simp +decide [hs,zkt]
theorem zx8 {inv:List Phon} {cs:List Cls} {ws:List Int} (h:ws.length=cs.length):zme inv cs ws=true↔∀ j (h1:j<cs.length) (h2:j<ws.length),zkt inv ws[j] cs[j]=true:=by
 unfold zme
 rw [List.all_eq_true]
 constructor
 ·intro hh j h1 h2
  exact hh (ws[j],cs[j]) (by rw [List.mem_iff_getElem];exact ⟨j,by simp;omega,by simp⟩)
 ·intro hh x hx
  obtain ⟨j,hj,e⟩:=List.mem_iff_getElem.mp hx;rw [← e];simp only [List.length_zip] at hj;simp only [List.getElem_zip];exact hh j (by omega) (by omega)
set_option maxHeartbeats 8000000 in
theorem z7z (inv:List Phon) (hl:inv.length<2^62) (r:Rule) (hr:RuleFit r) (w:List Int) (hw:w.length<2^40) (k:Nat) (hk:k<w.length) :
  zam Tryz.prog 175 [.agg [invD inv],.agg r.row,ints w,int k] (.bool (znu inv r w k)):=by
 obtain ⟨h1,h2,h3⟩:=hr
 obtain ⟨x,ex⟩ : ∃ x,w[k]=x:=⟨_,rfl⟩
 have e1:w[k]?=some x:=by rw [List.getElem?_eq_getElem hk,ex]
 have hk':(k:Int)<w.length:=by omega
 have hH:=zqv r.src x (by omega)
 obtain ⟨R,hR⟩ : ∃ R,znu inv r w k=R:=⟨_,rfl⟩
 rw [hR]
 unfold znu at hR
 rw [e1,Option.getD_some] at hR
 obtain ⟨src,dst,left,right,beg,fin⟩:=r
 simp only at h1 h2 h3 hH hR
 by_cases hall:x∈src∧left.length≤k∧k+1+right.length≤w.length∧¬(beg=true∧left.length<k)∧¬(fin=true∧k+1+right.length<w.length)
 case neg=>
  refine zaa mixed Tryz.func175 rfl call_175 ?_
  simp +decide [Tryz.f175,int,Rule.row,clsD,I64];refine ⟨by omega,by omega,by omega,?_⟩
  simp +decide [ints,e1,ex,hk,hk'];refine zac (by rfl) (by rfl) hH (by simp [int,ints]) ?_
  by_cases hx:x∈src
  case neg=>
   have:R=false:=by rw [← hR];simp [hx]
   subst this;simp +decide [int,hx]
  by_cases hf:left.length≤k
  case neg=>
   have:R=false:=by rw [← hR];simp [hf]
   subst this;have hf':(k:Int)-left.length<0:=by omega
   simp +decide [int,hx,hf,hf']
  have hf':¬(k:Int)-left.length<0:=by omega
  by_cases ht:k+1+right.length≤w.length
  case neg=>
   have:R=false:=by rw [← hR];simp [ht]
   subst this;have ht':(w.length:Int)<k+1+right.length:=by omega
   simp +decide [int,hx,hf,hf',ht,ht']
  have ht':¬(w.length:Int)<k+1+right.length:=by omega
  by_cases hb:beg=true∧left.length<k
  case pos=>
   obtain ⟨hb1,hb2⟩:=hb;subst hb1;have:R=false:=by rw [← hR];simp [hb2]
   subst this;have hb':¬((k:Int)-left.length=0):=by omega
   simp +decide [int,hx,hf,hf',ht,ht',hb',hb2]
  by_cases he:fin=true∧k+1+right.length<w.length
  case pos=>
   obtain ⟨he1,he2⟩:=he;subst he1;have:R=false:=by rw [← hR];simp [he2]
   subst this;have he':¬((k:Int)+1+right.length=w.length):=by omega
   cases beg
   ·simp +decide [int,hx,hf,hf',ht,ht',he',he2]
   ·have hb':(k:Int)-left.length=0:=by simp at hb;omega
    simp +decide [int,hx,hf,hf',ht,ht',he',he2,hb']
  exact absurd ⟨hx,hf,ht,hb,he⟩ hall
 obtain ⟨hx,hf,ht,hb,he⟩:=hall
 have hL1:((w.take k).drop (k-left.length)).length=left.length:=by rw [List.length_drop,List.length_take];omega
 have hR1:((w.take (k+1+right.length)).drop (k+1)).length=right.length:=by rw [List.length_drop,List.length_take];omega
 have gL : ∀ j (h1:j<left.length),∃ h2,((w.take k).drop (k-left.length))[j]'h2=w[k-left.length+j]'(by omega):=fun j h1=>⟨by omega,by rw [List.getElem_drop,List.getElem_take]⟩
 have gR : ∀ j (h1:j<right.length),∃ h2,((w.take (k+1+right.length)).drop (k+1))[j]'h2=w[k+1+j]'(by omega):=fun j h1=>⟨by omega,by rw [List.getElem_drop,List.getElem_take]⟩
 have iL:=zx8 (inv:=inv) hL1
 have iR:=zx8 (inv:=inv) hR1
 have hb2:(beg&&decide (left.length<k))=false:=by
  cases beg
  ·rfl
  ·simp at hb;simp [hb]
 have he2:(fin&&decide (k+1+right.length<w.length))=false:=by
  cases fin
  ·rfl
  ·simp at he;simp [he]
 rw [hb2,he2] at hR
 have hR:R=(zme inv left ((w.take k).drop (k-left.length))&&zme inv right ((w.take (k+1+right.length)).drop (k+1))):=by rw [← hR];simp [hx,hf,ht]
 refine zmh Tryz.func175 rfl call_175 ?_
 let S1:St:={n:=103,next:=2,slots:=[(2,.d (ints w)),(3,.d (int k)),(4,.bp 0 0),(5,.bp 1 0),(9,.d (int ((k:Int)-left.length)))],own:=[(0,.box 44 [.d (invD inv)]),(1,.box 117 [.d (ints src),.d (ints dst),.d (clsD left),.d (clsD right),.d (.bool beg),.d (.bool fin)])]}
 let S2:St:={n:=103,next:=2,slots:=[(2,.d (ints w)),(3,.d (int k)),(4,.bp 0 0),(5,.bp 1 0)],own:=[(0,.box 44 [.d (invD inv)]),(1,.box 117 [.d (ints src),.d (ints dst),.d (clsD left),.d (clsD right),.d (.bool beg),.d (.bool fin)])]}
 have hf':¬(k:Int)-left.length<0:=by omega
 have ht':¬(w.length:Int)<k+1+right.length:=by omega
 refine zfs mixed 3 S1 rfl ?_ ?_
 ·simp +decide [Tryz.f175,zev,int,Rule.row,clsD,I64,S1]
  refine ⟨by omega,by omega,by omega,?_⟩
  simp +decide [ints,e1,ex,hk,hk'];refine zac (by rfl) (by rfl) hH (by simp [int,ints]) ?_
  have hb3:beg=true→(k:Int)-left.length=0:=by intro e;subst e;simp at hb;omega
  have he3:fin=true→(k:Int)+1+right.length=w.length:=by intro e;subst e;simp at he;omega
  cases beg with
  | false=>
   cases fin with
   | false=>simp +decide [int,hx,hf,hf',ht,ht',cutK]
   | true=>
    have he':=he3 rfl;simp +decide [int,hx,hf,hf',ht,ht',he',cutK]
  | true=>
   have hb':=hb3 rfl;cases fin with
   | false=>simp +decide [int,hx,hf,hf',ht,ht',hb',cutK]
   | true=>
    have he':=he3 rfl;simp +decide [int,hx,hf,hf',ht,ht',hb',he',cutK]
 refine zao mixed ?_
 simp +decide [Tryz.f175,zfo,int,ints,clsD,S1]
 refine zad mixed (fun j:Nat=>{n:=103,next:=2,slots:=[(2,.d (ints w)),(3,.d (int k)),(4,.bp 0 0),(5,.bp 1 0),(9,.d (int ((k:Int)-left.length))),(62,.d (int left.length)),(63,.d (int j))],own:=[(0,.box 44 [.d (invD inv)]),(1,.box 117 [.d (ints src),.d (ints dst),.d (clsD left),.d (clsD right),.d (.bool beg),.d (.bool fin)])]})
  (fun j=>j≤left.length∧∀ i (h1:i<left.length) (h2:i<j),zkt inv (w[k-left.length+i]'(by omega)) left[i]=true) (fun j=>left.length-j) 0 (by simp) (by simp +decide [int,ints,clsD]) ?_
 intro j ⟨hj,hp⟩
 by_cases hlt:j<left.length
 ·have hlt':(j:Int)<left.length:=by omega
  obtain ⟨h2,gv⟩:=gL j hlt;have hb0:=hp;obtain ⟨c,ec⟩ : ∃ c,left[j]=c:=⟨_,rfl⟩;have ec1:left[j]?=some c:=by rw [List.getElem?_eq_getElem hlt,ec]
  have hin:k-left.length+j<w.length:=by omega
  obtain ⟨y,ey⟩ : ∃ y,w[k-left.length+j]=y:=⟨_,rfl⟩;have ey1:w[k-left.length+j]?=some y:=by rw [List.getElem?_eq_getElem hin,ey]
  have ix:(k:Int)-left.length+j=((k-left.length+j:Nat):Int):=by omega
  have hI:=z5m inv y c hl;have ixT:((k:Int)-left.length+j).toNat=k-left.length+j:=by omega
  have ix0:0≤(k:Int)-left.length+j:=by omega
  have ix1:(k:Int)-left.length+j<w.length:=by omega
  simp +decide [int,ints,clsD,hlt,hlt',ec,ec1,ixT,ix0,ix1,ey1,hin,ey,Cls.row,I64];refine ⟨⟨by omega,by omega⟩,?_⟩
  refine zac (by rfl) (by rfl) hI (by simp [int,Cls.row]) ?_
  cases hc:zkt inv y c with
  | false=>
   have:R=false:=by
    rw [hR,Bool.and_eq_false_iff];left
    rw [Bool.eq_false_iff,Ne,iL];intro hh;have:=hh j hlt h2
    rw [gv,ey,ec,hc] at this;cases this
   subst this;simp +decide [int]
  | true=>
   simp +decide [int];refine ⟨⟨by omega,by omega⟩,j+1,⟨hlt,fun i h1 h2=>?_⟩,by omega,by simp⟩
   rcases Nat.lt_succ_iff_lt_or_eq.mp h2 with h' | h'
   ·exact hp i h1 h'
   ·subst h'
    rw [ey,ec];exact hc
 ·have:j=left.length:=by omega
  subst this;have hfl:zme inv left ((w.take k).drop (k-left.length))=true:=by
   rw [iL];intro i h1 h2;obtain ⟨h3,gv⟩:=gL i h1;rw [gv];exact hp i h1 h1
  rw [hfl,Bool.true_and] at hR;simp +decide [int,ints,clsD];refine zad mixed (fun j:Nat=>{n:=103,next:=2,slots:=[(2,.d (ints w)),(3,.d (int k)),(4,.bp 0 0),(5,.bp 1 0),(83,.d (int right.length)),(84,.d (int j))],own:=[(0,.box 44 [.d (invD inv)]),(1,.box 117 [.d (ints src),.d (ints dst),.d (clsD left),.d (clsD right),.d (.bool beg),.d (.bool fin)])]})
   (fun j=>j≤right.length∧∀ i (h1:i<right.length) (h2:i<j),zkt inv (w[k+1+i]'(by omega)) right[i]=true) (fun j=>right.length-j) 0 (by simp) (by simp +decide [int,ints,clsD]) ?_
  intro j ⟨hj,hp⟩;by_cases hlt:j<right.length
  ·have hlt':(j:Int)<right.length:=by omega
   obtain ⟨h2,gv⟩:=gR j hlt;obtain ⟨c,ec⟩ : ∃ c,right[j]=c:=⟨_,rfl⟩;have ec1:right[j]?=some c:=by rw [List.getElem?_eq_getElem hlt,ec]
   have hin:k+1+j<w.length:=by omega
   obtain ⟨y,ey⟩ : ∃ y,w[k+1+j]=y:=⟨_,rfl⟩;have ey1:w[k+1+j]?=some y:=by rw [List.getElem?_eq_getElem hin,ey]
   have hI:=z5m inv y c hl;have ixT:((k:Int)+1+j).toNat=k+1+j:=by omega
   have ix0:0≤(k:Int)+1+j:=by omega
   have ix1:(k:Int)+1+j<w.length:=by omega
   simp +decide [int,ints,clsD,hlt,hlt',ec,ec1,ixT,ix0,ix1,ey1,hin,ey,Cls.row,I64];refine ⟨⟨by omega,by omega⟩,⟨by omega,by omega⟩,?_⟩
   refine zac (by rfl) (by rfl) hI (by simp [int,Cls.row]) ?_
   cases hc:zkt inv y c with
   | false=>
    have:R=false:=by
     rw [hR,Bool.eq_false_iff,Ne,iR];intro hh;have:=hh j hlt h2
     rw [gv,ey,ec,hc] at this;cases this
    subst this;simp +decide [int]
   | true=>
    simp +decide [int];refine ⟨⟨by omega,by omega⟩,j+1,⟨hlt,fun i h1 h2=>?_⟩,by omega,by simp⟩
    rcases Nat.lt_succ_iff_lt_or_eq.mp h2 with h' | h'
    ·exact hp i h1 h'
    ·subst h'
     rw [ey,ec];exact hc
  ·have:j=right.length:=by omega
   subst this;have hfr:zme inv right ((w.take (k+1+right.length)).drop (k+1))=true:=by
    rw [iR];intro i h1 h2;obtain ⟨h3,gv⟩:=gR i h1;rw [gv];exact hp i h1 h1
   have:R=true:=by rw [hR,hfr]
   subst this;simp +decide [int,ints,clsD]
end Go.V
namespace Go.V
open Go Go.Proofs
structure RuleL (r:Rule):Prop extends RuleOk r where
 once:r.src.Nodup
def zkz (w:List Int):Prop:=∀ x∈w,x≠0
set_option maxHeartbeats 8000000 in
theorem z1x (inv:List Phon) (hl:inv.length<2^62) (r:Rule) (hr:RuleL r) (w:List Int) (hw:w.length<2^40) (hz:zkz w) :
  zam Tryz.prog 145 [.agg [invD inv],.agg r.row,ints w] (ints (zi7 inv r w)):=by
 rw [← znv]
 refine zaa mixed Tryz.func145 rfl call_145 ?_
 simp +decide [Tryz.f145,int,ints,Rule.row]
 refine zad mixed (fun k:Nat=>{n:=55,next:=4,slots:=[(2,.d (ints w)),(3,.bp 0 0),(4,.bp 1 0),(7,.ar 3),(12,.d (int w.length)),(13,.d (int k))],own:=[(0,.box 44 [.d (invD inv)]),(1,.box 117 (r.row.map .d)),(3,.arr 3 1 ((ziw inv r w k).map fun n=>[int n]))],moved:=[3]})
  (fun k=>k≤w.length) (fun k=>w.length-k) 0 (by simp) (by simp +decide [int,ints,Rule.row,ziw]) ?_
 intro k hk
 by_cases hlt:k<w.length
 case neg=>
  have:k=w.length:=by omega
  subst this;simp +decide [int,ints]
 have hlt':(k:Int)<w.length:=by omega
 have hsn:=zlg (inv:=inv) (r:=r) hlt
 have hlen:=zj7 inv r w k hk
 have hS:=z7z inv hl r hr.toRuleFit w hw k hlt
 have hx0:=hz w[k] (List.getElem_mem hlt)
 obtain ⟨x,ex⟩ : ∃ x,w[k]=x:=⟨_,rfl⟩
 have e1:w[k]?=some x:=by rw [List.getElem?_eq_getElem hlt,ex]
 rw [ex] at hsn hx0
 have hmem:=zv5 r.src x
 have hidx:x∈r.src→∃ j:Nat,∃ hj:j<r.src.length,idxL r.src x=j∧r.src[j]=x:=by
  intro hx;unfold idxL at hmem ⊢;cases hq:r.src.findIdx? (· = x) with
  | none=>rw [hq] at hmem;exact absurd (hmem.2 hx) (by decide)
  | some j=>
   rw [List.findIdx?_eq_some_iff_getElem] at hq;exact ⟨j,hq.1,rfl,by simpa using hq.2.1⟩
 have hsite:znu inv r w k=true→x∈r.src:=by
  intro h;unfold znu at h;simp only [Bool.and_eq_true,decide_eq_true_eq] at h;have:=h.1.1.1.1.1.1
  rwa [e1,Option.getD_some] at this
 have hdst:=hr.dst
 have hsl:=hr.src
 unfold segE at hsn
 simp +decide [int,ints,Rule.row,hlt,hlt',e1,ex,I64]
 refine zaj.pure (by rfl) hS (by simp) ?_
 cases hb:znu inv r w k with
 | false=>
  rw [hb] at hsn;simp only [Bool.false_eq_true,if_false] at hsn;simp +decide [int,ints,Rule.row,I64,hx0];exact ⟨by omega,by unfold maxLen;omega,⟨by omega,by omega⟩,k+1,hlt,by omega,by omega,by rw [hsn];simp⟩
 | true=>
  rw [hb] at hsn;simp only [if_true] at hsn;obtain ⟨j,hj,ej,exj⟩:=hidx (hsite hb);have hjd:j<r.dst.length:=by omega
  obtain ⟨y,ey⟩ : ∃ y,r.dst[j]=y:=⟨_,rfl⟩;have e2:r.dst[j]?=some y:=by rw [List.getElem?_eq_getElem hjd,ey]
  rw [ej,Int.toNat_natCast,e2,Option.getD_some] at hsn;have hj':(j:Int)<r.dst.length:=by omega
  simp +decide [int,ints,Rule.row,I64];refine zad mixed (fun m:Nat=>{n:=55,next:=4,slots:=[(2,.d (ints w)),(3,.bp 0 0),(4,.bp 1 0),(7,.ar 3),(8,.d (int k)),(9,.d (int (if j<m then y else x))),(12,.d (int w.length)),(13,.d (int k)),(27,.d (int r.src.length)),(28,.d (int m))],own:=[(0,.box 44 [.d (invD inv)]),(1,.box 117 (r.row.map .d)),(3,.arr 3 1 ((ziw inv r w k).map fun n=>[int n]))],moved:=[3]})
   (fun m=>m≤r.src.length) (fun m=>r.src.length-m) 0 (by simp) (by simp +decide [int,ints,Rule.row]) ?_
  intro m hm;by_cases hlm:m<r.src.length
  ·have hlm':(m:Int)<r.src.length:=by omega
   have hmd:m<r.dst.length:=by omega
   have hmd':(m:Int)<r.dst.length:=by omega
   obtain ⟨z,ez⟩ : ∃ z,r.src[m]=z:=⟨_,rfl⟩;have ez1:r.src[m]?=some z:=by rw [List.getElem?_eq_getElem hlm,ez]
   by_cases hmj:m=j
   ·subst hmj
    have hzx:z=x:=by rw [← ez,exj]
    subst hzx;simp +decide [int,ints,Rule.row,I64,hlm,hlm',hlt,hlt',e1,ex,ez,ez1,hmd,hmd',e2,ey];exact ⟨⟨by omega,by omega⟩,m+1,hlm,by omega,fun h=>absurd h (by omega),by omega⟩
   ·have hzx:¬ z=x:=by
     intro h;have hp:=List.pairwise_iff_getElem.mp hr.once;rcases Nat.lt_or_gt_of_ne hmj with h' | h'
     ·exact hp m j hlm hj h' (by rw [ez,exj,h])
     ·exact hp j m hj hlm h' (by rw [ez,exj,h])
    have hlj:(j<m+1)↔(j<m):=by omega
    simp +decide [int,ints,Rule.row,I64,hlm,hlm',hlt,hlt',e1,ex,ez,ez1,hmd,hmd',hzx];exact ⟨⟨by omega,by omega⟩,m+1,hlm,by omega,by simp only [hlj],by omega⟩
  ·have:m=r.src.length:=by omega
   subst this;by_cases hy:y=0
   ·rw [if_pos hy,List.append_nil] at hsn
    simp +decide [int,ints,Rule.row,hj,hy,I64];exact ⟨⟨by omega,by omega⟩,k+1,hlt,by omega,by omega,by rw [hsn]⟩
   ·rw [if_neg hy] at hsn
    simp +decide [int,ints,Rule.row,hj,hy,I64];exact ⟨by omega,by unfold maxLen;omega,⟨by omega,by omega⟩,k+1,hlt,by omega,by omega,by rw [hsn];simp⟩
theorem yit {inv:List Phon} {r:Rule} {w:List Int} {k:Nat} {x:Int} (hx:x≠0):zkz (segE inv r w k x):=by
 unfold segE zkz
 intro y hy
 split at hy
 ·split at hy
  ·cases hy
  ·rename_i h;rw [List.mem_singleton] at hy;rw [hy];exact h
 ·rw [List.mem_singleton] at hy;rw [hy];exact hx
theorem ya3 {inv:List Phon} {r:Rule} {w:List Int} (hw:zkz w):zkz (zi7 inv r w):=by
 intro y hy
 unfold zi7 at hy
 rw [List.mem_flatten] at hy
 obtain ⟨l,hl,hy⟩:=hy
 rw [List.mem_map] at hl
 obtain ⟨⟨a,i⟩,ha,rfl⟩:=hl
 refine yit (hw a ?_) y hy
 exact (List.mem_zipIdx' ha).2▸List.getElem_mem _
theorem z5n {inv:List Phon} : ∀ (rs:List Rule) {w:List Int},zkz w→zkz (zek inv rs w)
 | [],_,h=>h
 | r::rs,w,h=>by
  have:=z5n (inv:=inv) rs (ya3 (inv:=inv) (r:=r) h)
  exact this
set_option maxHeartbeats 4000000 in
theorem z8a (inv:List Phon) (hl:inv.length<2^62) (rs:List Rule) (hr : ∀ r∈rs,RuleL r) (hn:rs.length<2^40) (w:List Int) (hw:w.length<2^40) (hz:zkz w) :
  zam Tryz.prog 106 [.agg [invD inv],zbj rs,ints w] (ints (zek inv rs w)):=by
 refine zaa mixed Tryz.func106 rfl call_106 ?_
 simp +decide [Tryz.f106,int,ints,zbj]
 refine zad mixed (fun k:Nat=>{n:=22,next:=2,slots:=[(1,.d (zbj rs)),(2,.d (ints (zek inv (rs.take k) w))),(3,.bp 0 0),(9,.d (int rs.length)),(10,.d (int k))],own:=[(0,.box 44 [.d (invD inv)])],moved:=[]})
  (fun k=>k≤rs.length) (fun k=>rs.length-k) 0 (by simp) (by simp +decide [int,ints,zbj,zek]) ?_
 intro k hk
 by_cases hlt:k<rs.length
 case neg=>
  have:k=rs.length:=by omega
  subst this;rw [List.take_length];simp +decide [int,ints,zbj]
 have hlt':(k:Int)<rs.length:=by omega
 have hsn:zek inv (rs.take (k+1)) w=zi7 inv rs[k] (zek inv (rs.take k) w):=by unfold zek;rw [zal hlt,List.foldl_append];rfl
 have hll:=zgc inv (rs.take k) w
 have hnz:=z5n (inv:=inv) (rs.take k) hz
 have hR:=hr rs[k] (List.getElem_mem hlt)
 obtain ⟨r,er⟩ : ∃ r,rs[k]=r:=⟨_,rfl⟩
 have e1:rs[k]?=some r:=by rw [List.getElem?_eq_getElem hlt,er]
 rw [er] at hsn hR
 generalize zek inv (rs.take k) w=u at hsn hll hnz
 have hA:=z1x inv hl r hR u (by omega) hnz
 simp +decide [int,ints,zbj,hlt,hlt',e1,er,I64,Rule.row]
 refine zac (by rfl) (by rfl) hA (by simp [int,ints,Rule.row]) ?_
 simp +decide [int,ints,zbj]
 exact ⟨⟨by omega,by omega⟩,k+1,hlt,by omega,by rw [hsn],by simp⟩
structure LangR (g:Lang):Prop extends LangL g where
 rulesL : ∀ r∈g.rules,RuleL r
 nz : ∀ e∈g.lex,∀ w∈e.forms,zkz w
theorem yfx {g:Lang} (hg:LangR g) (ps:List Prt):zkz (zbc g.lex ps):=by
 intro x hx
 unfold zbc at hx
 rw [List.mem_flatMap] at hx
 obtain ⟨p,_,hx⟩:=hx
 split at hx
 ·rename_i hf
  unfold zgb at hx hf;split at hx
  ·rename_i hc
   simp only at hx
   obtain ⟨c1,c2,c3⟩:=hc;have hlt:p.alt.toNat<(getE g.lex p.entry).1.forms.length:=by omega
   rw [List.getElem?_eq_getElem hlt,Option.getD_some] at hx;exact hg.nz _ (zqe c1) _ (List.getElem_mem hlt) x hx
  ·cases hx
 ·cases hx
set_option maxHeartbeats 4000000 in
theorem zx9 (g:Lang) (hg:LangR g) (ps:List Prt) (hp:ps.length<2^20):zam Tryz.prog 80 [g.d,anaD ps] (.tup [ints (zff g ps).1,int (zff g ps).2]):=by
 have hR:=zv7 g hg.toLangL ps hp
 have hB:=znx g hg.lex ps hp
 have hbl:zfe g ps=0→(zbc g.lex ps).length<2^40:=by
  intro h;unfold zfe at h;repeat' split at h
  all_goals first | omega | skip
 have hL:=fun h=>z8a g.inv (by have:=hg.inv;omega) g.rules hg.rulesL hg.rules.2 (zbc g.lex ps) (hbl h) (yfx hg ps)
 have hll:=zgc g.inv g.rules (zbc g.lex ps)
 unfold zff
 generalize zfe g ps=R at hR hL hbl ⊢
 refine zaa mixed Tryz.func80 rfl call_80 ?_
 simp +decide [Tryz.f80,int,Lang.d,anaD,zai]
 refine zaj.pure (by rfl) hR (by simp [Lang.d,anaD,zai,int]) ?_
 by_cases h0:R=0
 ·subst h0
  have hL:=hL rfl;have hbl:=hbl rfl;generalize zek g.inv g.rules (zbc g.lex ps)=v at hL hll ⊢;simp +decide [int,Lang.d,zai];refine zac (by rfl) (by rfl) hB (by simp [Lang.d,anaD,zai]) ?_
  simp +decide [int,Lang.d,zai,ints];refine zac (by rfl) (by rfl) hL (by simp [Lang.d,anaD,zai,ints]) ?_
  by_cases hv:v.length=0
  ·simp +decide [int,Lang.d,zai,ints,hv,List.length_eq_zero_iff.mp hv]
  ·have hv':v≠[]:=fun h=>hv (by rw [h];rfl)
   simp +decide [int,Lang.d,zai,ints,hv,hv']
 ·simp +decide [int,ints,h0]
theorem zja (a b:List Int) (ha:a.length<2^62) (hb:b.length<2^62):zam Tryz.prog 81 [ints a,ints b] (.bool (decide (a=b))):=by
 refine zaa mixed Tryz.func81 rfl call_81 ?_
 by_cases hl:a.length=b.length
 case neg=>
  have:¬ a=b:=fun h=>hl (by rw [h])
  have hl':¬(a.length:Int)=b.length:=by omega
  simp +decide [Tryz.f81,ints,int,hl,hl',this]
 have hl':(a.length:Int)=b.length:=by omega
 simp +decide [Tryz.f81,ints,int,hl,hl']
 refine zad mixed (fun k:Nat=>{n:=26,next:=0,slots:=[(0,.d (ints a)),(1,.d (ints b)),(12,.d (int b.length)),(13,.d (int k))],own:=[],moved:=[]})
  (fun k=>k≤a.length∧a.take k=b.take k) (fun k=>a.length-k) 0 (by simp) (by simp +decide [int,ints,hl']) ?_
 intro k ⟨hk,hp⟩
 by_cases hlt:k<a.length
 case neg=>
  have:k=a.length:=by omega
  subst this;rw [List.take_length,hl,List.take_length] at hp;subst hp;simp +decide [int,ints]
 have hlt':(k:Int)<a.length:=by omega
 have hlb:k<b.length:=by omega
 have hlb':(k:Int)<b.length:=by omega
 obtain ⟨x,ex⟩ : ∃ x,a[k]=x:=⟨_,rfl⟩
 obtain ⟨y,ey⟩ : ∃ y,b[k]=y:=⟨_,rfl⟩
 have ex1:a[k]?=some x:=by rw [List.getElem?_eq_getElem hlt,ex]
 have ey1:b[k]?=some y:=by rw [List.getElem?_eq_getElem hlb,ey]
 by_cases hxy:x=y
 ·subst hxy
  simp +decide [int,ints,hlt,hlt',hlb,hlb',ex,ey,ex1,ey1];exact ⟨⟨by omega,by omega⟩,k+1,⟨hlt,by rw [zal hlt,zal hlb,hp,ex,ey]⟩,by omega,by omega⟩
 ·have:¬ a=b:=by
   intro h;subst h;exact hxy (by rw [← ex,← ey])
  simp +decide [int,ints,hlt,hlt',hlb,hlb',ex,ey,ex1,ey1,hxy,this]
def licE (g:Lang) (w:List Int) (ps:List Prt):Bool:=decide ((zff g ps).2=0∧(zff g ps).1=w)
theorem ya4 {g:Lang} (ps:List Prt):(zff g ps).1.length≤(zbc g.lex ps).length:=by
 unfold zff
 have:=zgc g.inv g.rules (zbc g.lex ps)
 repeat' split
 all_goals simp;try omega
set_option maxHeartbeats 4000000 in
theorem zk0 (g:Lang) (hg:LangR g) (w:List Int) (hw:w.length<2^40) (ps:List Prt) (hp:ps.length<2^20):zam Tryz.prog 55 [g.d,ints w,anaD ps] (.bool (licE g w ps)):=by
 have hF:=zx9 g hg ps hp
 have hl:=ya4 (g:=g) ps
 have hb:=zhd hg.lex ps
 have hE:=zja (zff g ps).1 w (by omega) (by omega)
 unfold licE
 generalize zff g ps=q at hF hE ⊢
 obtain ⟨v,e⟩:=q
 refine zaa mixed Tryz.func55 rfl call_55 ?_
 simp +decide [Tryz.f55,int,Lang.d,anaD,zai]
 refine zaj.pure (by rfl) hF (by simp [Lang.d,anaD,zai,int]) ?_
 by_cases h0:e=0
 ·subst h0
  simp +decide [int,ints];refine zaj.pure (by rfl) hE (by simp [ints]) ?_
  simp +decide [int,ints]
 ·simp +decide [int,ints,h0]
end Go.V

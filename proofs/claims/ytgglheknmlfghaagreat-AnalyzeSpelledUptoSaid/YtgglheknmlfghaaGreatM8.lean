/- Contracts and plain laws of this seat: part M8. It needs no conditions. -/
import Derived.Test.YtgglheknmlfghaaGreatM7
set_option linter.unusedVariables false
set_option linter.unusedSimpArgs false
set_option linter.unusedSectionVars false
set_option maxRecDepth 100000
namespace Go.V
open Go Go.Proofs
def keyR (base:List Int):List (List D):=base.map fun x=>[.int .u8 (IntKind.u8.wrap x)]
def keyS (base:List Int):ByteArray:=⟨(base.map fun x=>UInt8.ofNat (IntKind.u8.wrap x).toNat).toArray⟩
theorem zo8 : ∀ base:List Int,bytesOf (base.map fun x=>[D.int .u8 (IntKind.u8.wrap x)])=some (base.map fun x=>UInt8.ofNat (IntKind.u8.wrap x).toNat)
 | []=>rfl
 | x::r=>by
  have:=zo8 r
  simp [bytesOf,this]
set_option maxHeartbeats 4000000 in
theorem key_ok (base:List Int) (hb:base.length≤1048576):zay Tryz.prog 43 [ints base] (.str (keyS base)):=by
 refine zaa mixed Tryz.func43 rfl call_43 ?_
 simp +decide [Tryz.f43,int,ints]
 refine ⟨by omega,by unfold maxLen;omega,?_⟩
 refine zaf mixed (fun k:Nat=>{n:=23,next:=1,slots:=[(3,.ar 0),(9,.d (ints base)),(10,.d (int base.length)),(11,.d (int k))],own:=[(0,.arr 5 1 (keyR (base.take k)))],moved:=[0]})
  (fun k=>k≤base.length) (fun k=>base.length-k) 0 (by simp) (by simp +decide [int,ints,keyR]) ?_
 intro k hk
 by_cases hlt:k<base.length
 ·have hlt':(k:Int)<base.length:=by omega
  have hsn:=zam hlt;obtain ⟨x,ex⟩ : ∃ x,base[k]=x:=⟨_,rfl⟩;have e1:base[k]?=some x:=by rw [List.getElem?_eq_getElem hlt,ex]
  rw [ex] at hsn;have hkl:(keyR (base.take k)).length=k:=by simp [keyR];omega
  simp +decide [int,ints,hlt,hlt',e1,ex,I64,hkl];exact .inl ⟨by omega,by unfold maxLen;omega,⟨by omega,by omega⟩,k+1,hlt,by omega,by omega,by rw [hsn];simp [keyR]⟩
 ·have:k=base.length:=by omega
  subst this;rw [List.take_length];simp +decide [int,ints,keyR,bytesOf,keyS,zc6];rw [zo8]
def zb0 (b:List Int):Prop:=∀ x∈b,0≤x∧x<256
theorem key_inj : ∀ {a b:List Int},zb0 a→zb0 b→keyS a=keyS b→a=b:=by
 intro a b ha hb h
 have h1:(a.map fun x=>UInt8.ofNat (IntKind.u8.wrap x).toNat)=(b.map fun x=>UInt8.ofNat (IntKind.u8.wrap x).toNat):=by
  unfold keyS at h;have:=congrArg (fun s:ByteArray=>s.data.toList) h
  simpa using this
 have hx : ∀ x:Int,0≤x∧x<256→(UInt8.ofNat (IntKind.u8.wrap x).toNat).toNat=x.toNat:=by
  intro x hx;rw [wrap_u8];simp only [UInt8.toNat_ofNat'];omega
 induction a generalizing b with
 | nil=>
  cases b with
  | nil=>rfl
  | cons y b=>simp at h1
 | cons x a ih=>
  cases b with
  | nil=>simp at h1
  | cons y b=>
   simp only [List.map_cons,List.cons.injEq] at h1;have e1:=hx x (ha x (List.mem_cons_self ..));have e2:=hx y (hb y (List.mem_cons_self ..));rw [h1.1,e2] at e1;have b1:=ha x (List.mem_cons_self ..);have b2:=hb y (List.mem_cons_self ..);have hxy:x=y:=by omega
   rw [hxy];congr 1
   refine ih (fun z hz=>ha z (List.mem_cons_of_mem _ hz)) (fun z hz=>hb z (List.mem_cons_of_mem _ hz)) ?_ h1.2
   unfold keyS;rw [h1.2]
def znh (g:Lang) (w:List Int) (tr:List (List Int)):List (List D):=tr.map fun b=>[.str (keyS b),.bool (zfq g w b)]
theorem z6t (g:Lang) (w:List Int) {base:List Int} (hb:zb0 base) : ∀ tr:List (List Int),(∀ b∈tr,zb0 b)→zn9 (.str (keyS base)) (znh g w tr)=some (if base∈tr then some (.bool (zfq g w base)) else none)
 | [],_=>rfl
 | m::r,h=>by
  simp only [znh,List.map_cons,zn9,zwi];by_cases e:base=m
  ·subst e;simp
  ·have:¬ keyS base=keyS m:=fun h'=>e (key_inj hb (h m (List.mem_cons_self ..)) h')
   have ih:=z6t g w hb r fun b hb'=>h b (List.mem_cons_of_mem _ hb')
   simp only [znh] at ih;have this':¬ keyS m=keyS base:=fun h'=>this h'.symm
   simp [this,this',e,ih]
theorem yc1 (g:Lang) (w:List Int) {base:List Int} (hb:zb0 base) : ∀ tr:List (List Int),(∀ b∈tr,zb0 b)→base∉tr→putD (.str (keyS base)) (.bool (zfq g w base)) (znh g w tr)=some (znh g w (tr++[base]))
 | [],_,_=>rfl
 | m::r,h,hn=>by
  simp only [List.mem_cons,not_or] at hn;have:¬ keyS base=keyS m:=fun h'=>hn.1 (key_inj hb (h m (List.mem_cons_self ..)) h')
  have this':¬ keyS m=keyS base:=fun h'=>this h'.symm
  have ih:=yc1 g w hb r (fun b hb'=>h b (List.mem_cons_of_mem _ hb')) hn.2
  simp only [znh] at ih ⊢;simp [putD,zwi,this,this',ih]
def zaj (g:Lang) (w:List Int) (tr:List (List Int)) (fn:Sym) (rest:List (Nat×Obj')):List (Nat×Obj'):=
 (0,.box 130 (zak g.d++[.d (ints w),.d (.bool (zez g.rules)),.d (u32 (zbz g.net.final)),.mp 1,fn]))::(1,.map 81 (znh g w tr))::rest
structure RestOk (n:Nat) (fn:Sym) (rest:List (Nat×Obj')):Prop where
 two:2≤n
 keys:(rest.map (·.1)).Nodup
 ids : ∀ id o,(id,o)∈rest→2≤id∧id<n∧o.lo n
 range:0::1::rest.map (·.1)=List.range n
 thawed : ∀ k x,n≤k→zcl k x rest=rest
 thawC : ∀ k x,n≤k→thaw k x fn=fn
 fn:Sym.lo n fn
theorem zto {α:Type} : ∀ {l:List (Nat×α)} {id:Nat} {o:α},(l.map (·.1)).Nodup→(id,o)∈l→zab l id=some o
 | (k,u)::l,id,o,hn,hm=>by
  simp only [List.map_cons,List.nodup_cons] at hn;simp only [zab];rcases List.mem_cons.1 hm with e | e
  ·cases e;rw [if_pos rfl]
  ·have:¬ k=id:=by
    intro h;subst h;exact hn.1 (List.mem_map.2 ⟨_,e,rfl⟩)
   rw [if_neg this];exact zto hn.2 e
theorem zgl {n:Nat} {fn:Sym} {rest:List (Nat×Obj')} (h:RestOk n fn rest) {st:St} (he : ∀ id,2≤id→id<n→zab st.own id=zab rest id) {m:Nat} (hm:n≤m) (hlo : ∀ o:Obj',o.lo n→o.lo m):zko st m rest:=by
 have key : ∀ l:List (Nat×Obj'),(∀ x∈l,x∈rest)→zko st m l:=by
  intro l;induction l with
  | nil=>intro _;simp [zko]
  | cons x l ih=>
   intro hl;obtain ⟨id,o⟩:=x;have hx:=hl (id,o) (List.mem_cons_self ..);have hi:=h.ids id o hx;simp only [zko];refine ⟨?_,by omega,hlo o hi.2.2,ih fun y hy=>hl y (List.mem_cons_of_mem _ hy)⟩
   rw [he id hi.1 hi.2.1,zto h.keys hx]
 exact key rest fun _ hx=>hx
theorem za2 {n:Nat} {fn:Sym} {rest:List (Nat×Obj')} (h:RestOk n fn rest) {st:St} {a b:Obj'} (he:st.own=(0,a)::(1,b)::rest):zko st n rest:=by
 refine zgl h (fun id h1 h2=>?_) (Nat.le_refl _) (fun _ h=>h)
 rw [he]
 simp only [zab]
 rw [if_neg (by omega),if_neg (by omega)]
theorem zi6 {n:Nat} {fn:Sym} {rest:List (Nat×Obj')} (h:RestOk n fn rest) {st:St} {a b c:Obj'} {k:Nat} (hk:n≤k) (he:st.own=(k,c)::(0,a)::(1,b)::rest):zko st n rest:=by
 refine zgl h (fun id h1 h2=>?_) (Nat.le_refl _) (fun _ h=>h)
 rw [he]
 simp only [zab]
 rw [if_neg (by omega),if_neg (by omega),if_neg (by omega)]
theorem RestOk.zcj {n:Nat} {fn:Sym} {rest:List (Nat×Obj')} (h:RestOk n fn rest):(∀ (x:Obj'),¬(0,x)∈rest)∧(∀ (x:Obj'),¬(1,x)∈rest)∧(List.map (fun x=>x.fst) rest).Nodup:=
 ⟨fun x hx=>by have:=(h.ids 0 x hx).1;omega,fun x hx=>by have:=(h.ids 1 x hx).1;omega,h.keys⟩
set_option maxHeartbeats 8000000 in
theorem zgm (g:Lang) (w:List Int) (tr:List (List Int)) (n:Nat) (fn:Sym) (rest:List (Nat×Obj')) (hr:RestOk n fn rest) (hg:LightF g) (s:Nat) (hs:s<8) (c:Int) :
  zcb Tryz.prog 133 [.bp 0 0,.d (u32 s),.d (int c)] (zaj g w tr fn rest) n (.d (u32 (zax g.net.steps s c))) n (zaj g w tr fn rest) []:=by
 have h2:=hr.two
 have hn0:0<n:=by omega
 refine zbg mixed Tryz.func133 rfl call_133 (by simp [Sym.los,Sym.lo,hn0]) ?_
 have hn1:¬ n=0:=by omega
 have hn2:¬ n=1:=by omega
 have hfew:=hg.net'.few
 have hk3:=hr.zcj
 have hfn:=hr.fn
 have h8 : ∀ k,(g.net.steps.take k).foldl (zbe s c) 0<8:=fun k=>zof (fun x hx=>hg.net'.ok.1 x (List.mem_of_mem_take hx)) (by omega)
 simp +decide [Tryz.f133,zaj,zak,Lang.d,int,ints,stepsD,u32]
 refine zaf mixed (fun k:Nat=>{n:=40,next:=n,slots:=[(1,.d (u32 s)),(2,.d (int c)),(7,.d (u32 ((g.net.steps.take k).foldl (zbe s c) 0))),(15,.d (stepsD g.net.steps)),(16,.d (int g.net.steps.length)),(17,.d (int k))],own:=zaj g w tr fn rest,base:=n})
  (fun k=>k≤g.net.steps.length) (fun k=>g.net.steps.length-k) 0 (by simp) ?_ ?_
 ·simp +decide [zaj,zak,Lang.d,int,ints,stepsD,u32]
  exact ⟨hk3,by omega,⟨by omega,hfn⟩,by omega,za2 hr rfl⟩
 intro k hk
 by_cases hlt:k<g.net.steps.length
 case neg=>
  have:k=g.net.steps.length:=by omega
  subst this;rw [List.take_length];simp +decide [zaj,zak,Lang.d,int,ints,stepsD,u32,zax];exact ⟨hk3,by omega,⟨by omega,hfn⟩,by omega,za2 hr rfl⟩
 have hlt':(k:Int)<g.net.steps.length:=by omega
 have hq:=hg.net'.steps g.net.steps[k] (List.getElem_mem hlt)
 have hS3:=hg.net'.hi
 have hsn:(g.net.steps.take (k+1)).foldl (zbe s c) 0=zbe s c ((g.net.steps.take k).foldl (zbe s c) 0) g.net.steps[k]:=by rw [zam hlt,List.foldl_append];rfl
 obtain ⟨x,ex⟩ : ∃ x,g.net.steps[k]=x:=⟨_,rfl⟩
 have e1:g.net.steps[k]?=some x:=by rw [List.getElem?_eq_getElem hlt,ex]
 rw [ex] at hq hsn
 have h8k:=h8 k
 generalize (g.net.steps.take k).foldl (zbe s c) 0=m at hsn h8k
 have hst:zbe s c m x=if hasS s x.src=true∧x.cls=c then zg5 m x.dst else m:=rfl
 rw [hst] at hsn
 by_cases hc:x.cls=c
 case neg=>
  rw [if_neg (fun h=>hc h.2)] at hsn
  simp +decide [zaj,zak,Lang.d,int,ints,stepsD,u32,hlt,hlt',ex,e1,Stp.row,hn1,hn2,hc,I64];exact ⟨⟨by omega,by omega⟩,k+1,hlt,by omega,hk3,⟨by rw [hsn],by omega⟩,by omega,⟨by omega,hfn⟩,by omega,zi6 hr (Nat.le_refl _) rfl⟩
 have hb:=zu8 hs hq.1.1 (show x.src<3 by omega)
 have hwb:=zmc h8k hq.2.1.1 (show x.dst<3 by omega)
 simp +decide [zaj,zak,Lang.d,int,ints,stepsD,u32,hlt,hlt',ex,e1,Stp.row,hn1,hn2,hc,I64]
 refine ⟨hq.1.1,fun hb1=>?_,fun hb1=>?_⟩
 ·have hyes:hasS s x.src=true:=by rw [← hb];simpa using hb1
  rw [if_pos ⟨hyes,hc⟩] at hsn;exact ⟨hq.2.1.1,⟨by omega,by omega⟩,k+1,hlt,by omega,hk3,⟨by rw [hsn];exact hwb,by omega⟩,by omega,⟨by omega,hfn⟩,by omega,zi6 hr (Nat.le_refl _) rfl⟩
 ·have hno:¬ hasS s x.src=true:=by rw [← hb];simpa using hb1
  rw [if_neg (fun h=>hno h.1)] at hsn
  exact ⟨⟨by omega,by omega⟩,k+1,hlt,by omega,hk3,⟨by rw [hsn],by omega⟩,by omega,⟨by omega,hfn⟩,by omega,zi6 hr (Nat.le_refl _) rfl⟩
def zcr (tr:List (List Int)) (base:List Int):List (List Int):=if base∈tr then tr else tr++[base]
set_option maxHeartbeats 16000000 in
theorem zvs (g:Lang) (w:List Int) (tr:List (List Int)) (n:Nat) (fn:Sym) (rest:List (Nat×Obj')) (hr:RestOk n fn rest) (hg:LightF g) (hc:LangC g) (base:List Int) (hb:base.length≤24) (hw:w.length≤24) (hk:zb0 base) (ht : ∀ b∈tr,zb0 b) :
  zcb Tryz.prog 132 [.bp 0 0,.d (ints base)] (zaj g w tr fn rest) n (.d (.bool (zfq g w base))) n (zaj g w (zcr tr base) fn rest) []:=by
 have h2:=hr.two
 have hn0:0<n:=by omega
 have hn1:¬ n=0:=by omega
 have hn2:¬ n=1:=by omega
 have hk3:=hr.zcj
 have hfn:=hr.fn
 have hR:=hg.z3e hc
 have hK:=key_ok base (by omega)
 have hL:=z6t g w hk tr ht
 have hA:=z5l g.inv (by have:=hR.inv;omega) g.rules hR.rules.1 hR.rules.2 base (by omega)
 have hll:=zgi g.inv g.rules base
 refine zbg mixed Tryz.func132 rfl call_132 (by simp [Sym.los,Sym.lo,hn0]) ?_
 simp +decide [Tryz.f132,zaj,zak,Lang.d,int,ints,u32]
 refine zal.pure (by rfl) hK (by simp [ints]) ?_
 unfold zcr
 by_cases hm:base∈tr
 ·rw [if_pos hm] at hL ⊢
  simp +decide [hL,int];exact ⟨hk3,by omega,⟨by omega,hfn⟩,by omega,za2 hr rfl⟩
 rw [if_neg hm] at hL ⊢
 have hP:=yc1 g w hk tr ht hm
 simp +decide [hL,int]
 have hfd:zfq g w base=(decide (zd6 g.inv g.rules base≠[])&&decide (zd6 g.inv g.rules base=w)):=rfl
 refine zah (by rfl) (by rfl) hA (by simp [int,ints]) ?_
 have hE:=yaf (zd6 g.inv g.rules base) w (by omega)
 generalize zd6 g.inv g.rules base=v at hA hE hll hfd
 by_cases hv:v.length=0
 ·have hv0:v=[]:=List.length_eq_zero_iff.mp hv
  have hff:zfq g w base=false:=by rw [hfd,hv0];rfl
  rw [hff] at hP ⊢;simp +decide [int,ints,hv,hv0,hP];exact ⟨hk3,by omega,⟨by omega,hfn⟩,by omega,za2 hr rfl⟩
 ·have hv0:v≠[]:=fun h=>hv (by rw [h];rfl)
  have hv':(0:Int)<v.length:=by omega
  have hff:zfq g w base=decide (v=w):=by rw [hfd];simp [hv0]
  rw [hff] at hP ⊢;have hvn:0<v.length:=by omega
  simp +decide [int,ints,hv,hv',hv0,hvn];refine zal.pure (by rfl) hE (by simp [ints]) ?_
  simp +decide [int,ints,hP];exact ⟨hk3,by omega,⟨by omega,hfn⟩,by omega,za2 hr rfl⟩
end Go.V
namespace Go.V
open Go Go.Proofs
section
variable {ρ:Nat→Nat} {m:Nat}
mutual
theorem ztp (h : ∀ i,i<m→ρ i=i) : ∀ {s:Sym},Sym.lo m s→ren ρ s=s
 | .bp i o,hl=>by simp only [Sym.lo] at hl;simp only [ren,h i hl]
 | .ar i,hl=>by simp only [Sym.lo] at hl;simp only [ren,h i hl]
 | .ap i s j o,hl=>by simp only [Sym.lo] at hl;simp only [ren,h i hl]
 | .aS i s j o,hl=>by simp only [Sym.lo] at hl;simp only [ren,h i hl]
 | .av i s j o,hl=>by simp only [Sym.lo] at hl;simp only [ren,h i hl]
 | .yd i,hl=>by simp only [Sym.lo] at hl;simp only [ren,h i hl]
 | .mp i,hl=>by simp only [Sym.lo] at hl;simp only [ren,h i hl]
 | .tup l,hl=>by simp only [Sym.lo] at hl;simp only [ren,zeq h hl]
 | .agg l,hl=>by simp only [Sym.lo] at hl;simp only [ren,zeq h hl]
 | .fn f l,hl=>by simp only [Sym.lo] at hl;simp only [ren,zeq h hl]
 | .d x,_=>rfl
 | .nils,_=>rfl
 | .junk,_=>rfl
theorem zeq (h : ∀ i,i<m→ρ i=i) : ∀ {l:List Sym},Sym.los m l→rens ρ l=l
 | [],_=>rfl
 | s::l,hl=>by
  simp only [Sym.los] at hl;simp only [rens,ztp h hl.1,zeq h hl.2]
end
theorem zo9 (h : ∀ i,i<m→ρ i=i) : ∀ {o:Obj'},o.lo m→zcm ρ o=o
 | .box T l,hl=>by simp only [Obj'.lo] at hl;simp only [zcm,zeq h hl]
 | .arr _ _ _,_=>rfl
 | .map _ _,_=>rfl
 | .raw k l,hl=>by simp only [Obj'.lo] at hl;simp only [zcm,zeq h hl]
theorem zkd (h : ∀ i,i<m→ρ i=i) : ∀ {l:List (Nat×Obj')},(∀ i o,(i,o)∈l→i<m∧o.lo m)→zg0 ρ l=l
 | [],_=>rfl
 | (i,o)::l,hl=>by
  have h1:=hl i o (List.mem_cons_self ..);simp only [zg0,h i h1.1,zo9 h h1.2,zkd h fun j p hj=>hl j p (List.mem_cons_of_mem _ hj)]
mutual
theorem zr7 : ∀ (s:Sym),zar [] s=s
 | .bp _ _=>by simp [zar]
 | .ar _=>by simp [zar]
 | .ap _ _ _ _=>by simp [zar]
 | .aS _ _ _ _=>by simp [zar]
 | .av _ _ _ _=>by simp [zar]
 | .yd _=>by simp [zar]
 | .mp _=>by simp [zar]
 | .tup l=>by simp [zar,zea l]
 | .agg l=>by simp [zar,zea l]
 | .fn f l=>by simp [zar,zea l]
 | .d _=>by simp [zar]
 | .nils=>by simp [zar]
 | .junk=>by simp [zar]
theorem zea : ∀ (l:List Sym),zbt [] l=l
 | []=>by simp [zbt]
 | s::l=>by simp [zbt,zr7 s,zea l]
end
theorem zh7 : ∀ (l:List (Nat×Sym)),za8 [] l=l
 | []=>rfl
 | (t,s)::l=>by simp [za8,zr7 s,zh7 l]
theorem ztq : ∀ (o:Obj'),zbl [] o=o
 | .box T l=>by simp [zbl,zea l]
 | .arr _ _ _=>by simp [zbl]
 | .map _ _=>by simp [zbl]
 | .raw k l=>by simp [zbl,zea l]
def za1 (n:Nat):List (Nat×Obj')→List (Nat×Obj')
 | []=>[]
 | (i,o)::r=>if i<n then za1 n r else (i,o)::za1 n r
theorem zk9 (n:Nat) : ∀ l:List (Nat×Obj'),zdb (List.range n) [] l=za1 n l
 | []=>rfl
 | (i,o)::r=>by
  simp only [zdb,za1,List.mem_range,ztq,zk9 n r]
theorem zke {st:St} {n:Nat} : ∀ {l:List (Nat×Obj')},(∀ i o,(i,o)∈l→i<n∧o.lo n∧zab st.own i=some o)→zf0 st (List.range n) l
 | [],_=>trivial
 | (i,o)::r,h=>by
  obtain ⟨h1,h2,h3⟩:=h i o (List.mem_cons_self ..);have hr : ∀ j,j<n→rho (List.range n) j=j:=fun j hj=>by unfold rho;simp [List.getD,hj]
  simp only [zf0,List.length_range];refine ⟨?_,h2,zke fun j p hj=>h j p (List.mem_cons_of_mem _ hj)⟩
  rw [hr i h1];unfold St.look;rw [h3,zo9 hr h2]
end
theorem zeb {P:Program} {st:St} {f:Operand} {xs:List Operand} {dst:Option Tmp} {K:St→Prop} {g:Nat} {caps:List Sym} {n:Nat} {own0 own':List (Nat×Obj')} {s:Sym}
  (hc:zbi (st.val f)=some (g,caps)) (hl:Sym.los n (xs.map st.val++caps)) (hn:n≤st.next) (hkeys:own0.map (·.1)=List.range n) (hfit : ∀ i o,(i,o)∈own0→i<n∧o.lo n∧zab st.own i=some o)
  (hlo : ∀ i o,(i,o)∈own'→i<n∧o.lo n) (hs:Sym.lo n s) (hp:zcb P g (xs.map st.val++caps) own0 n s n own' []) (hk:K (({st with own:=own'++za1 n st.own}).put dst s)):zal P st f xs dst K:=by
 have hr : ∀ j,j<n→rho (List.range n) j=j:=fun j hj=>by unfold rho;simp [List.getD,hj]
 have hr' : ∀ j,j<n→rho' (List.range n) st.next j=j:=fun j hj=>by unfold rho';simp [List.getD,hj]
 refine zal.mut (List.range n) (xs.map st.val++caps) own0 hc (zeq hr hl) (by rw [List.length_range];exact hl) ⟨List.nodup_range,fun id hid=>by have:=List.mem_range.1 hid;omega,by rw [List.length_range];exact hkeys,zke hfit⟩ (by rw [List.length_range];exact hp) ?_
 have e1:st.after (List.range n) n own' [] = {st with own:=own'++za1 n st.own}:=by
  unfold St.after;simp only [List.map_nil,zh7,List.length_range,Nat.sub_self,Nat.add_zero,List.nil_append,zkd hr' hlo,zk9]
 rw [e1,ztp hr' hs]
 exact hk
def zav (n:Nat) (mv:List Nat) (l:List (Nat×Obj')):Prop:=∀ i o,(i,o)∈l→n≤i→zbl mv o=o
theorem zav.nil {n:Nat} {mv:List Nat}:zav n mv []:=fun _ _ h=>by cases h
theorem zav.cons {n:Nat} {mv:List Nat} {i:Nat} {o:Obj'} {l:List (Nat×Obj')} (h:zbl mv o=o) (hl:zav n mv l):zav n mv ((i,o)::l):=by
 intro j p hm hn
 rcases List.mem_cons.1 hm with e | e
 ·cases e;exact h
 ·exact hl j p e hn
theorem zav.under {n:Nat} {mv:List Nat} {i:Nat} {o:Obj'} {l:List (Nat×Obj')} (h:i<n) (hl:zav n mv l):zav n mv ((i,o)::l):=by
 intro j p hm hn
 rcases List.mem_cons.1 hm with e | e
 ·cases e;omega
 ·exact hl j p e hn
theorem zav.app {n:Nat} {mv:List Nat} {l r:List (Nat×Obj')} (h:zav n mv l) (hr:zav n mv r):zav n mv (l++r):=by
 intro j p hm hn
 rcases List.mem_append.1 hm with e | e
 ·exact h j p e hn
 ·exact hr j p e hn
theorem zav.rest {n:Nat} {mv:List Nat} {fn:Sym} {rest:List (Nat×Obj')} (h:RestOk n fn rest):zav n mv rest:=by
 intro j p hm hn
 have:=(h.ids j p hm).2.1
 omega
theorem zav.two {n:Nat} {mv:List Nat} {fn:Sym} {rest:List (Nat×Obj')} (h:RestOk n fn rest) {a b:Obj'}:zav n mv ((0,a)::(1,b)::rest):=
 .under (by have:=h.two;omega) (.under (by have:=h.two;omega) (.rest h))
theorem zjx {n:Nat} {mv:List Nat} : ∀ {l:List (Nat×Obj')},zav n mv l→zdb (List.range n) mv l=za1 n l
 | [],_=>rfl
 | (i,o)::r,h=>by
  have ih:=zjx (l:=r) fun j p hm hn=>h j p (List.mem_cons_of_mem _ hm) hn
  simp only [zdb,za1,List.mem_range,ih];by_cases c:i<n
  ·rw [if_pos c,if_pos c]
  ·rw [if_neg c,if_neg c,h i o (List.mem_cons_self ..) (by omega)]
theorem zft {P:Program} {st:St} {f:Operand} {xs:List Operand} {dst:Option Tmp} {K:St→Prop} {g:Nat} {caps:List Sym} {n:Nat} {own0 own':List (Nat×Obj')} {s:Sym} {mv:List Nat}
  (hmv : ∀ i∈mv,2≤i∧i<n)
  (hc:zbi (st.val f)=some (g,caps)) (hl:Sym.los n (xs.map st.val++caps)) (hn:n≤st.next) (hkeys:own0.map (·.1)=List.range n) (hfit : ∀ i o,(i,o)∈own0→i<n∧o.lo n∧zab st.own i=some o)
  (hlo : ∀ i o,(i,o)∈own'→i<n∧o.lo n) (hs:Sym.lo n s) (hp:zcb P g (xs.map st.val++caps) own0 n s n own' mv) (hsl:za8 mv st.slots=st.slots) (hpo:zav n mv st.own)
  (hk:K (({st with own:=own'++za1 n st.own,moved:=mv++st.moved}).put dst s)):zal P st f xs dst K:=by
 have hr : ∀ j,j<n→rho (List.range n) j=j:=fun j hj=>by unfold rho;simp [List.getD,hj]
 have hr' : ∀ j,j<n→rho' (List.range n) st.next j=j:=fun j hj=>by unfold rho';simp [List.getD,hj]
 refine zal.mut (List.range n) (xs.map st.val++caps) own0 hc (zeq hr hl) (by rw [List.length_range];exact hl) ⟨List.nodup_range,fun id hid=>by have:=List.mem_range.1 hid;omega,by rw [List.length_range];exact hkeys,zke hfit⟩ (by rw [List.length_range];exact hp) ?_
 have em:mv.map (rho' (List.range n) st.next)=mv:=by
  have : ∀ l:List Nat,(∀ i∈l,i∈mv)→l.map (rho' (List.range n) st.next)=l:=by
   intro l;induction l with
   | nil=>intro _;rfl
   | cons i l ih=>
    intro h;rw [List.map_cons,hr' i (hmv i (h i (List.mem_cons_self ..))).2,ih fun j hj=>h j (List.mem_cons_of_mem _ hj)]
  exact this mv fun _ h=>h
 have e1:st.after (List.range n) n own' mv = {st with own:=own'++za1 n st.own,moved:=mv++st.moved}:=by
  unfold St.after;rw [em,hsl,zjx hpo,zkd hr' hlo];simp only [List.length_range,Nat.sub_self,Nat.add_zero]
 rw [e1,ztp hr' hs]
 exact hk
theorem zan {n:Nat} {fn:Sym} {rest:List (Nat×Obj')} (h:RestOk n fn rest):za1 n rest=[]:=by
 have key : ∀ l:List (Nat×Obj'),(∀ x∈l,x∈rest)→za1 n l=[]:=by
  intro l;induction l with
  | nil=>intro _;rfl
  | cons x l ih=>
   intro hl;obtain ⟨i,o⟩:=x;have:=(h.ids i o (hl _ (List.mem_cons_self ..))).2.1
   simp only [za1];rw [if_pos this];exact ih fun y hy=>hl y (List.mem_cons_of_mem _ hy)
 exact key rest fun _ hx=>hx
theorem zgn {n:Nat} {fn:Sym} {rest:List (Nat×Obj')} (h:RestOk n fn rest) {st:St} {a b c:Obj'} {k m:Nat} (hk:n≤k) (hm:n≤m) (he:st.own=(k,c)::(0,a)::(1,b)::rest):zko st m rest:=by
 refine zgl h (fun id h1 h2=>?_) hm (fun _ h=>Obj'.zdi hm h)
 rw [he]
 simp only [zab]
 rw [if_neg (by omega),if_neg (by omega),if_neg (by omega)]
theorem RestOk.zvt {n:Nat} {fn:Sym} {rest:List (Nat×Obj')} (h:RestOk n fn rest):(∀ (x:Obj'),¬(n,x)∈rest)∧(∀ (x:Obj'),¬(0,x)∈rest)∧(∀ (x:Obj'),¬(1,x)∈rest)∧(List.map (fun x=>x.fst) rest).Nodup:=
 ⟨fun x hx=>by have:=(h.ids n x hx).2.1;omega,h.zcj⟩
theorem RestOk.caps {n f:Nat} {l:List Sym} {rest:List (Nat×Obj')} (h:RestOk n (.fn f l) rest) {m:Nat} (hm:n≤m):Sym.los m l:=by
 have:=h.fn
 simp only [Sym.lo] at this
 exact Sym.zhf hm this
theorem zq2 {P:Program} {c:Code} {Q:DE→St→Prop} {st:St} (keep:List Nat) (h : ∀ id∈st.moved,st.base≤id∨id∈keep) (ht:Triple P c Q {st with moved:=keep}):Triple P c Q st:=fun X w0 β a w hm=>
 ht X w0 β a w {hm with still:=⟨hm.still.1,fun id hid hk=>hm.still.2 id hid (fun hmem=>(h id hmem).elim (fun h1=>absurd h1 (Nat.not_le_of_lt hid)) hk)⟩}
theorem zvu {α:Type} {id:Nat} : ∀ {l pre:List (Nat×α)},(∀ x∈pre,x.1≠id)→zab (l++pre) id=zab l id
 | [],pre,h=>by
  induction pre with
  | nil=>rfl
  | cons x pre ih=>
   obtain ⟨k,o⟩:=x;simp only [List.nil_append,zab] at ih ⊢;rw [if_neg (h (k,o) (List.mem_cons_self ..))];have:=ih fun y hy=>h y (List.mem_cons_of_mem _ hy)
   simpa using this
 | (k,o)::l,pre,h=>by
  simp only [List.cons_append,zab];rw [zvu (l:=l) h]
theorem zck {n:Nat} {fn:Sym} {rest:List (Nat×Obj')} (h:RestOk n fn rest) {pre:List (Nat×Obj')} {id:Nat} (hid:n≤id):zab (rest++pre) id=zab pre id:=by
 have key : ∀ l:List (Nat×Obj'),(∀ x∈l,x∈rest)→zab (l++pre) id=zab pre id:=by
  intro l;induction l with
  | nil=>intro _;rfl
  | cons x l ih=>
   intro hl;obtain ⟨k,o⟩:=x;have h1:=(h.ids k o (hl _ (List.mem_cons_self ..))).2.1;simp only [List.cons_append,zab];rw [if_neg (by omega)]
   exact ih fun y hy=>hl y (List.mem_cons_of_mem _ hy)
 exact key rest fun _ hx=>hx
theorem zbw {n:Nat} {fn:Sym} {rest:List (Nat×Obj')} (h:RestOk n fn rest) {st:St} {a b c:Obj'} {k m:Nat} (hk:n≤k) (hm:n≤m) (he:st.own=(0,a)::(1,b)::(rest++[(k,c)])):zko st m rest:=by
 refine zgl h (fun id h1 h2=>?_) hm (fun _ h=>Obj'.zdi hm h)
 rw [he]
 simp only [zab]
 rw [if_neg (by omega),if_neg (by omega)]
 exact zvu fun x hx=>by rw [List.mem_singleton] at hx;rw [hx];show k≠id;omega
mutual
theorem ybi {k m:Nat} (h:m≤k) : ∀ {s:Sym},Sym.lo m s→zbf k s=s
 | .bp i o,hl=>by simp only [Sym.lo] at hl;simp only [zbf];rw [if_neg (by omega)]
 | .ar i,hl=>by simp only [Sym.lo] at hl;simp only [zbf];rw [if_neg (by omega)]
 | .ap i s j o,hl=>by simp only [Sym.lo] at hl;simp only [zbf];rw [if_neg (by omega)]
 | .aS i s j o,hl=>by simp only [Sym.lo] at hl;simp only [zbf];rw [if_neg (by omega)]
 | .av i s j o,hl=>by simp only [Sym.lo] at hl;simp only [zbf];rw [if_neg (by omega)]
 | .yd i,hl=>by simp only [Sym.lo] at hl;simp only [zbf];rw [if_neg (by omega)]
 | .mp i,hl=>by simp only [Sym.lo] at hl;simp only [zbf];rw [if_neg (by omega)]
 | .tup l,hl=>by simp only [Sym.lo] at hl;simp only [zbf,zfh h hl]
 | .agg l,hl=>by simp only [Sym.lo] at hl;simp only [zbf,zfh h hl]
 | .fn f l,hl=>by simp only [Sym.lo] at hl;simp only [zbf,zfh h hl]
 | .d x,_=>rfl
 | .nils,_=>rfl
 | .junk,_=>rfl
theorem zfh {k m:Nat} (h:m≤k) : ∀ {l:List Sym},Sym.los m l→zdx k l=l
 | [],_=>rfl
 | s::l,hl=>by
  simp only [Sym.los] at hl;simp only [zdx,ybi h hl.1,zfh h hl.2]
end
theorem zyo {k m:Nat} (h:m≤k) : ∀ {o:Obj'},o.lo m→zem k o=o
 | .box T l,hl=>by simp only [Obj'.lo] at hl;simp only [zem,zfh h hl]
 | .arr _ _ _,_=>rfl
 | .map _ _,_=>rfl
 | .raw k l,hl=>by simp only [Obj'.lo] at hl;simp only [zem,zfh h hl]
theorem zts {n k:Nat} {fn:Sym} {rest:List (Nat×Obj')} (h:RestOk n fn rest) (hk:n≤k) (o':Obj'):zca k o' rest=rest:=by
 have key : ∀ l:List (Nat×Obj'),(∀ x∈l,x∈rest)→zca k o' l=l:=by
  intro l;induction l with
  | nil=>intro _;rfl
  | cons x l ih=>
   intro hl;obtain ⟨i,o⟩:=x;have h1:=h.ids i o (hl _ (List.mem_cons_self ..));simp only [zca];rw [if_neg (by omega),zyo hk h1.2.2,ih fun y hy=>hl y (List.mem_cons_of_mem _ hy)]
 exact key rest fun _ hx=>hx
theorem zr8 {n:Nat} {fn:Sym} {rest:List (Nat×Obj')} (h:RestOk n fn rest) {st:St} {a b c d:Obj'} {k j m:Nat} (hj:n≤j) (hk:n≤k) (hm:n≤m) (he:st.own=(j,d)::(k,c)::(0,a)::(1,b)::rest):zko st m rest:=by
 refine zgl h (fun id h1 h2=>?_) hm (fun _ h=>Obj'.zdi hm h)
 rw [he]
 simp only [zab]
 rw [if_neg (by omega),if_neg (by omega),if_neg (by omega),if_neg (by omega)]
theorem z3i {n:Nat} {fn:Sym} {rest:List (Nat×Obj')} (h:RestOk n fn rest) {st:St} {a b c d e:Obj'} {i j k m:Nat} (hi:n≤i) (hj:n≤j) (hk:n≤k) (hm:n≤m) (he:st.own=(i,e)::(j,d)::(k,c)::(0,a)::(1,b)::rest):zko st m rest:=by
 refine zgl h (fun id h1 h2=>?_) hm (fun _ h=>Obj'.zdi hm h)
 rw [he]
 simp only [zab]
 rw [if_neg (by omega),if_neg (by omega),if_neg (by omega),if_neg (by omega),if_neg (by omega)]
theorem RestOk.keys6 {n:Nat} {fn:Sym} {rest:List (Nat×Obj')} (h:RestOk n fn rest):(∀ (x:Obj'),¬(n+2,x)∈rest)∧(∀ (x:Obj'),¬(n+1,x)∈rest)∧(∀ (x:Obj'),¬(n,x)∈rest)∧(∀ (x:Obj'),¬(0,x)∈rest)∧(∀ (x:Obj'),¬(1,x)∈rest)∧(List.map (fun x=>x.fst) rest).Nodup:=
 ⟨fun x hx=>by have:=(h.ids _ x hx).2.1;omega,fun x hx=>by have:=(h.ids _ x hx).2.1;omega,h.zvt⟩
theorem RestOk.keys5 {n:Nat} {fn:Sym} {rest:List (Nat×Obj')} (h:RestOk n fn rest):(∀ (x:Obj'),¬(n+1,x)∈rest)∧(∀ (x:Obj'),¬(n,x)∈rest)∧(∀ (x:Obj'),¬(0,x)∈rest)∧(∀ (x:Obj'),¬(1,x)∈rest)∧(List.map (fun x=>x.fst) rest).Nodup:=
 ⟨fun x hx=>by have:=(h.ids _ x hx).2.1;omega,h.zvt⟩
theorem zbo {g:Lang} {w:List Int} {tr:List (List Int)} {n:Nat} {fn:Sym} {rest:List (Nat×Obj')} (h:RestOk n fn rest):(zaj g w tr fn rest).map (·.1)=List.range n:=by
 rw [← h.range];rfl
theorem zbb {g:Lang} {w:List Int} {tr:List (List Int)} {n:Nat} {fn:Sym} {rest:List (Nat×Obj')} (h:RestOk n fn rest) : ∀ i o,(i,o)∈zaj g w tr fn rest→i<n∧o.lo n:=by
 intro i o hm
 have h2:=h.two
 unfold zaj at hm
 rcases List.mem_cons.1 hm with e | e
 ·cases e
  refine ⟨by omega,?_⟩
  simp [Obj'.lo,Sym.los,Sym.lo,zak,Lang.d,h.fn];omega
 ·rcases List.mem_cons.1 e with e | e
  ·cases e;exact ⟨by omega,trivial⟩
  ·have:=h.ids i o e;exact ⟨by omega,this.2.2⟩
theorem zbs {g:Lang} {w:List Int} {tr:List (List Int)} {n:Nat} {fn:Sym} {rest:List (Nat×Obj')} (h:RestOk n fn rest) : ∀ i o,(i,o)∈zaj g w tr fn rest→zab (zaj g w tr fn rest) i=some o:=by
 intro i o hm
 exact zto (by rw [zbo h];exact List.nodup_range) hm
end Go.V
namespace Go.V
open Go Go.Proofs
section
variable {σ:Type}
structure Clo (P:Program) (g:Lang) (w:List Int) (σ:Type) where
 F:σ→List Prt→List Int→σ×Bool
 rest:σ→List (Nat×Obj')
 fid:Nat
 caps:List Sym
 n:Nat
 mv:List Nat
 mvOk : ∀ i∈mv,2≤i∧i<n
 mvCaps:zbt mv caps=caps
 Inv:Nat→σ→Prop
 ok : ∀ x,RestOk n (.fn fid caps) (rest x)
 mono : ∀ k x,Inv k x→Inv (k+1) x
 call : ∀ k x tr a base,Inv k x→k<2^20→a.length≤4→base.length≤24 →
  zcb P fid (.d (zad a) :: .d (ints base)::caps) (zaj g w tr (.fn fid caps) (rest x)) n (.d (.bool (F x a base).2)) n (zaj g w tr (.fn fid caps) (rest (F x a base).1)) mv∧Inv (k+1) (F x a base).1
abbrev Sst (σ:Type):=(σ×List (List Int))×Bool
variable {P:Program} (g:Lang) (w:List Int) (C:Clo P g w σ)
def ze1 (x:σ×List (List Int)) (a:List Prt) (s:Nat) (base:List Int):Sst σ:=
 if a≠[]∧s &&& zbz g.net.final≠0∧w.length≤base.length then
  (if zfq g w base=true then (((C.F x.1 a base).1,zcr x.2 base),(C.F x.1 a base).2) else ((x.1,zcr x.2 base),true)) else (x,true)
def altS (wk:σ×List (List Int)→List Prt→Nat→List Int→Sst σ) (e:Ent) (a:List Prt) (s:Nat) (base:List Int) (z:Sst σ) (alt:Nat):Sst σ:=
 if z.2=false then z else if zkc g w<(base++e.forms[alt]?.getD []).length then z else wk z.1 (a++[⟨e.id,alt,0⟩]) s (base++e.forms[alt]?.getD [])
def stepS (wk:σ×List (List Int)→List Prt→Nat→List Int→Sst σ) (e:Ent) (a:List Prt) (s:Nat) (base:List Int) (x:σ×List (List Int)) (k:Nat):Sst σ:=
 (List.range k).foldl (altS g w wk e a s base) (x,true)
def entS (wk:σ×List (List Int)→List Prt→Nat→List Int→Sst σ) (a:List Prt) (s:Nat) (base:List Int) (y:Sst σ) (e:Ent):Sst σ:=
 if y.2=false then y else if zax g.net.steps s e.cls=0 then y else stepS g w wk e a (zax g.net.steps s e.cls) base y.1 e.forms.length
def zas:Nat→σ×List (List Int)→List Prt→Nat→List Int→Sst σ
 | 0,x,a,s,base=>ze1 g w C x a s base
 | f+1,x,a,s,base=>if (ze1 g w C x a s base).2=false then ze1 g w C x a s base else
   g.lex.foldl (entS g w (fun x a s base=>zas f x a s base) a s base) ((ze1 g w C x a s base).1,true)
theorem zr9 (wk:σ×List (List Int)→List Prt→Nat→List Int→Sst σ) (e:Ent) (a:List Prt) (s:Nat) (base:List Int) (x:σ×List (List Int)) (k:Nat) (h:(stepS g w wk e a s base x k).2=false) : ∀ d,stepS g w wk e a s base x (k+d)=stepS g w wk e a s base x k
 | 0=>rfl
 | d+1=>by
  have ih:=zr9 wk e a s base x k h d;have:stepS g w wk e a s base x (k+d+1)=altS g w wk e a s base (stepS g w wk e a s base x (k+d)) (k+d):=by
   unfold stepS;rw [List.range_succ,List.foldl_append];rfl
  rw [← Nat.add_assoc,this,ih];unfold altS;rw [if_pos h]
def cntW:Nat→Nat
 | 0=>1
 | f+1=>1+10*cntW f
end
structure WalkC (g:Lang) (w:List Int) {σ:Type} (C:Clo Tryz.prog g w σ) (f:Nat):Prop where
 call : ∀ k x tr a s base,C.Inv k x→k+cntW f≤2^20→(∀ b∈tr,zb0 b)→a.length+f=4→s<8→base.length≤24→zb0 base →
  zcb Tryz.prog 84 [.bp 0 0,.d (zad a),.d (u32 s),.d (ints base)] (zaj g w tr (.fn C.fid C.caps) (C.rest x)) C.n
   (.d (.bool (zas g w C f (x,tr) a s base).2)) C.n (zaj g w (zas g w C f (x,tr) a s base).1.2 (.fn C.fid C.caps) (C.rest (zas g w C f (x,tr) a s base).1.1)) C.mv
 inv : ∀ k x tr a s base,C.Inv k x→k+cntW f≤2^20→(∀ b∈tr,zb0 b)→a.length+f=4→s<8→base.length≤24→zb0 base →
  C.Inv (k+cntW f) (zas g w C f (x,tr) a s base).1.1∧∀ b∈(zas g w C f (x,tr) a s base).1.2,zb0 b
theorem zec {P:Program} {g:Lang} {w:List Int} {σ:Type} (C:Clo P g w σ) {k x} (h:C.Inv k x) : ∀ d,C.Inv (k+d) x
 | 0=>h
 | d+1=>C.mono _ _ (zec C h d)
def stS (g:Lang) (w:List Int) {σ:Type} (C:Clo Tryz.prog g w σ) (e:Ent) (a:List Prt) (s:Nat) (base:List Int) (z:Sst σ) (k:Nat):St:=
 {n:=78,next:=C.n+1,slots:=[(0,.bp 0 0),(2,.d (zad a)),(3,.d (u32 s)),(4,.d (ints base)),(6,.bp C.n 0),(27,.d (zbh e.forms)),(28,.d (int e.forms.length)),(29,.d (int k))],own:=(C.n,.box 59 (e.row.map .d))::zaj g w z.1.2 (.fn C.fid C.caps) (C.rest z.1.1),base:=C.n,moved:=C.mv}
set_option maxHeartbeats 16000000 in
theorem zh8 (g:Lang) (hg:LightF g) (hc:LangC g) (w:List Int) (hw:w.length≤24) {σ:Type} (C:Clo Tryz.prog g w σ) (f:Nat) (hW:WalkC g w C f) (e:Ent) (he:e∈g.lex)
  (k0:Nat) (x:σ) (tr:List (List Int)) (a:List Prt) (s:Nat) (base:List Int) (hI:C.Inv k0 x) (hk:k0+2*cntW f≤2^20) (ht : ∀ b∈tr,zb0 b) (hl:a.length+(f+1)=4) (hs:s<8) (hb:base.length≤24) (hkb:zb0 base) :
  zcb Tryz.prog 134 [.bp 0 0,.d (.agg e.row),.d (zad a),.d (u32 s),.d (ints base)] (zaj g w tr (.fn C.fid C.caps) (C.rest x)) C.n
   (.d (.bool (stepS g w (fun x a s base=>zas g w C f x a s base) e a s base (x,tr) e.forms.length).2)) C.n
   (zaj g w (stepS g w (fun x a s base=>zas g w C f x a s base) e a s base (x,tr) e.forms.length).1.2 (.fn C.fid C.caps) (C.rest (stepS g w (fun x a s base=>zas g w C f x a s base) e a s base (x,tr) e.forms.length).1.1)) C.mv:=by
 have hr:=C.ok x
 have h2:=hr.two
 have hn0:0<C.n:=by omega
 have hn1:¬ C.n=0:=by omega
 have hn2:¬ C.n=1:=by omega
 have hmv0:0∉C.mv:=fun h=>by have:=(C.mvOk 0 h).1;omega
 have hmvn:C.n∉C.mv:=fun h=>by have:=(C.mvOk _ h).2;omega
 have hR:=hg.z3e hc
 have hS:=zoy g.lex e.id hR.lex.len hR.lex.senses
 have hL:=zva e (by have:=hR.lex.alts e he;omega)
 have hf2:e.forms.length≤2:=by have:=(hg.small.forms e he).2.1;simp [Ent.forms];omega
 have hsn:¬(zcp g.lex e.id).length=0:=fun h=>hg.senses he (List.length_eq_zero_iff.mp h)
 have hsn':¬((zcp g.lex e.id).length:Int)=0:=by omega
 refine zbg mixed Tryz.func134 rfl call_134 (by simp [Sym.los,Sym.lo,hn0]) ?_
 simp +decide [Tryz.f134,zaj,zak,Lang.d,int,u32,Ent.row,hn1,hn2]
 refine zah (by rfl) (by rfl) hS (by simp [int]) ?_
 simp +decide [int,zbq,hsn,hsn']
 refine zal.pure (by rfl) hL (by simp [Ent.row,int]) ?_
 simp +decide [int,zbh]
 refine zbc mixed (fun k:Nat=>stS g w C e a s base (stepS g w (fun x a s base=>zas g w C f x a s base) e a s base (x,tr) k) k)
  (fun k=>k≤e.forms.length∧(stepS g w (fun x a s base=>zas g w C f x a s base) e a s base (x,tr) k).2=true∧C.Inv (k0+k*cntW f) (stepS g w (fun x a s base=>zas g w C f x a s base) e a s base (x,tr) k).1.1∧∀ b∈(stepS g w (fun x a s base=>zas g w C f x a s base) e a s base (x,tr) k).1.2,zb0 b)
  (fun k=>e.forms.length-k) 0 ⟨by simp,rfl,by simpa [stepS] using hI,ht⟩ ?_ ?_
 ·simp +decide [stS,stepS,zaj,int,ints,u32,zak,Lang.d,Ent.row,zbh,hn1,hn2]
  exact ⟨hr.zvt,rfl,⟨hn0,hr.caps (by omega)⟩,hn0,zgn hr (Nat.le_refl _) (by omega) rfl⟩
 intro k ⟨hkl,hgo,hIk,htk⟩
 have hrz:=C.ok (stepS g w (fun x a s base=>zas g w C f x a s base) e a s base (x,tr) k).1.1
 have hstp:stepS g w (fun x a s base=>zas g w C f x a s base) e a s base (x,tr) (k+1)=altS g w (fun x a s base=>zas g w C f x a s base) e a s base (stepS g w (fun x a s base=>zas g w C f x a s base) e a s base (x,tr) k) k:=by
  unfold stepS;rw [List.range_succ,List.foldl_append];rfl
 by_cases hlt:k<e.forms.length
 case neg=>
  have:k=e.forms.length:=by omega
  subst this;refine zaq mixed ?_
  simp +decide [stS,zaj,int,ints,u32,zak,Lang.d,Ent.row,zbh,hn1,hn2];exact ⟨hgo,hrz.zcj,hn0,⟨by omega,hrz.caps (Nat.le_refl _)⟩,by omega,zi6 hrz (Nat.le_refl _) rfl⟩
 have hlt':(k:Int)<e.forms.length:=by omega
 generalize stepS g w (fun x a s base=>zas g w C f x a s base) e a s base (x,tr) k=z at hgo hIk htk hrz hstp
 obtain ⟨⟨zx,ztr⟩,zb⟩:=z
 simp only at hgo hIk htk hrz
 subst hgo
 obtain ⟨fm,ef⟩ : ∃ fm,e.forms[k]=fm:=⟨_,rfl⟩
 have ef1:e.forms[k]?=some fm:=by rw [List.getElem?_eq_getElem hlt,ef]
 unfold altS at hstp
 simp only [ef1,Option.getD_some,Bool.true_eq_false,if_false] at hstp
 refine zhz mixed 2 (stS g w C e a s base ((zx,ztr),true) k) rfl ?_ ?_
 ·simp +decide [stS,ze4,cutK,zaj,int,ints,u32,zak,Lang.d,Ent.row,zbh,hn1,hn2,hlt']
  exact ⟨hrz.zvt,⟨hn0,hrz.caps (by omega)⟩,hn0,zgn hrz (Nat.le_refl _) (by omega) rfl⟩
 simp only [zfr]
 refine zcu (zco ?_) mixed
 have hInx:C.Inv (k0+(k+1)*cntW f) zx:=by
  have:=zec C hIk (cntW f)
  rwa [Nat.add_mul,Nat.one_mul,← Nat.add_assoc]
 by_cases hmo:zkc g w<(base++fm).length
 ·rw [if_pos hmo] at hstp
  refine zaq mixed ?_
  unfold zkc at hmo;have hls:((base.length:Int)+fm.length)=((base++fm).length:Int):=by simp
  have hfl:fm.length<2^20:=hR.lex.form e he fm (by rw [← ef];exact List.getElem_mem hlt)
  rw [List.length_append] at hmo;cases hsh:zez g.rules with
  | true=>
   rw [if_pos hsh] at hmo;have h24:(24:Int)<(base.length:Int)+fm.length:=by omega
   simp +decide [stS,zaj,int,ints,u32,zak,Lang.d,Ent.row,zbh,hn1,hn2,hlt,hlt',ef,ef1,h24,hsh,I64];refine ⟨⟨by omega,by omega⟩,⟨by omega,by omega⟩,k+1,⟨hlt,by rw [hstp],by rw [hstp];exact hInx,by rw [hstp];exact htk⟩,by omega,?_⟩
   rw [hstp];exact ⟨hrz.zvt,by omega,⟨hn0,hrz.caps (by omega)⟩,rfl,hn0,zgn hrz (Nat.le_refl _) (by omega) rfl⟩
  | false=>
   rw [if_neg (by rw [hsh];decide)] at hmo
   have hwl:(w.length:Int)<(base.length:Int)+fm.length:=by omega
   by_cases h24:(24:Int)<(base.length:Int)+fm.length
   ·simp +decide [stS,zaj,int,ints,u32,zak,Lang.d,Ent.row,zbh,hn1,hn2,hlt,hlt',ef,ef1,h24,hsh,I64]
    refine ⟨⟨by omega,by omega⟩,⟨by omega,by omega⟩,k+1,⟨hlt,by rw [hstp],by rw [hstp];exact hInx,by rw [hstp];exact htk⟩,by omega,?_⟩
    rw [hstp];exact ⟨hrz.zvt,by omega,⟨hn0,hrz.caps (by omega)⟩,rfl,hn0,zgn hrz (Nat.le_refl _) (by omega) rfl⟩
   ·simp +decide [stS,zaj,int,ints,u32,zak,Lang.d,Ent.row,zbh,hn1,hn2,hlt,hlt',ef,ef1,h24,hwl,hsh,I64]
    refine ⟨⟨by omega,by omega⟩,⟨by omega,by omega⟩,k+1,⟨hlt,by rw [hstp],by rw [hstp];exact hInx,by rw [hstp];exact htk⟩,by omega,?_⟩
    rw [hstp];exact ⟨hrz.zvt,by omega,⟨hn0,hrz.caps (by omega)⟩,rfl,hn0,zgn hrz (Nat.le_refl _) (by omega) rfl⟩
 rw [if_neg hmo] at hstp
 have hbn:(base++fm).length≤24:=by
  unfold zkc at hmo;split at hmo <;> omega
 have hpc:zdx (C.n+1) C.caps=C.caps:=zfh (by omega) (hrz.caps (Nat.le_refl _))
 have hrn : ∀ o',zca (C.n+1) o' (C.rest zx)=C.rest zx:=fun o'=>zts hrz (by omega) o'
 let S2:St:={n:=78,next:=C.n+2,slots:=[(0,.bp 0 0),(2,.d (zad a)),(3,.d (u32 s)),(4,.d (ints base)),(6,.bp C.n 0),(11,.d (int k)),(14,.ar (C.n+1)),(27,.d (zbh e.forms)),(28,.d (int e.forms.length)),(29,.d (int k))],own:=(C.n+1,.arr 3 1 ((base++fm).map fun n=>[int n]))::(C.n,.box 59 (e.row.map .d))::zaj g w ztr (.fn C.fid C.caps) (C.rest zx),base:=C.n,moved:=(C.n+1)::C.mv}
 refine zhz mixed 4 S2 rfl ?_ ?_
 ·have h24:¬(24:Int)<(base.length:Int)+fm.length:=by rw [List.length_append] at hbn;omega
  have hfl:fm.length<2^20:=hR.lex.form e he fm (by rw [← ef];exact List.getElem_mem hlt)
  unfold zkc at hmo;rw [List.length_append] at hmo;cases hsh:zez g.rules with
  | true=>
   simp +decide [stS,ze4,cutK,zaj,int,ints,u32,zak,Lang.d,Ent.row,zbh,hn1,hn2,hlt,hlt',ef,ef1,h24,hsh,I64,S2,hpc,hrn];exact ⟨⟨by omega,by omega⟩,by omega,by unfold maxLen;omega,by omega,by unfold maxLen;omega,hrz.keys5,hrz.caps (by omega),zr8 hrz (by omega) (Nat.le_refl _) (by omega) rfl⟩
  | false=>
   rw [if_neg (by rw [hsh];decide)] at hmo
   have hwl:¬(w.length:Int)<(base.length:Int)+fm.length:=by omega
   simp +decide [stS,ze4,cutK,zaj,int,ints,u32,zak,Lang.d,Ent.row,zbh,hn1,hn2,hlt,hlt',ef,ef1,h24,hwl,hsh,I64,S2,hpc,hrn];exact ⟨⟨by omega,by omega⟩,by omega,by unfold maxLen;omega,by omega,by unfold maxLen;omega,hrz.keys5,hrz.caps (by omega),zr8 hrz (by omega) (Nat.le_refl _) (by omega) rfl⟩
 simp only [zfr]
 let S3:St:={n:=78,next:=C.n+3,slots:=[(0,.bp 0 0),(2,.d (zad a)),(3,.d (u32 s)),(4,.d (ints base)),(6,.bp C.n 0),(14,.ar (C.n+1)),(15,.ar (C.n+2)),(27,.d (zbh e.forms)),(28,.d (int e.forms.length)),(29,.d (int k))],own:=(C.n+2,.arr 64 3 ((a++[(⟨e.id,(k:Int),0⟩:Prt)]).map Prt.row))::(C.n+1,.arr 3 1 ((base++fm).map fun n=>[int n]))::(C.n,.box 59 (e.row.map .d))::zaj g w ztr (.fn C.fid C.caps) (C.rest zx),base:=C.n,moved:=(C.n+1)::C.mv}
 refine z4k S3 ?_ ?_
 ·refine yf5 mixed 9 [] (by rfl) (by rfl) (by rfl) (by rfl) ?_
  simp +decide [S2,S3,cutK,zaj,int,ints,u32,zak,Lang.d,Ent.row,Prt.row,zbh,zad,hn1,hn2,I64];refine ⟨⟨by omega,by unfold maxLen;omega⟩,⟨by omega,by unfold maxLen;omega⟩,by rfl,?_⟩
  exact ⟨hrz.keys6,hrz.caps (by omega),z3i hrz (by omega) (by omega) (Nat.le_refl _) (by omega) rfl⟩
 have hth:=hrz.thawed
 refine zq2 C.mv (by intro id hid;simp only [S3,List.mem_cons] at hid ⊢;exact hid.elim (fun h=>.inl (by omega)) .inr) ?_
 refine zjq [C.n+2,C.n+1] ?_
 refine zaq mixed ?_
 simp +decide [S3,zaj,int,ints,u32,zak,Lang.d,Ent.row,zbh,zad,hn1,hn2,I64,hth]
 have hkn:zb0 (base++fm):=by
  intro y hy;rcases List.mem_append.1 hy with h | h
  ·exact hkb y h
  ·have hE:=hg.lex.each e he
   have hwf:WordF g.inv fm:=by
    have hm:fm∈e.forms:=by rw [← ef];exact List.getElem_mem hlt
    rcases List.mem_cons.1 hm with h1 | h1
    ·rw [h1];exact hE.form
    ·exact hE.alts fm h1
   have:=hwf.segs y h
   have hsl:=hg.segs;simp only [zcn,Bool.and_eq_true,decide_eq_true_eq] at this;omega
 have hkc:k*cntW f≤1*cntW f:=Nat.mul_le_mul_right _ (by omega)
 have hcall:=hW.call (k0+k*cntW f) zx ztr (a++[⟨e.id,(k:Int),0⟩]) s (base++fm) hIk (by omega) htk (by simp;omega) hs hbn hkn
 have hinv:=hW.inv (k0+k*cntW f) zx ztr (a++[⟨e.id,(k:Int),0⟩]) s (base++fm) hIk (by omega) htk (by simp;omega) hs hbn hkn
 generalize zas g w C f (zx,ztr) (a++[⟨e.id,(k:Int),0⟩]) s (base++fm)=z2 at hcall hinv hstp
 obtain ⟨⟨z2x,z2t⟩,z2b⟩:=z2
 simp only at hcall hinv
 have hr2:=C.ok z2x
 refine zft C.mvOk (n:=C.n) (s:=.d (.bool z2b)) (caps:=[]) (own0:=zaj g w ztr (.fn C.fid C.caps) (C.rest zx)) (own':=zaj g w z2t (.fn C.fid C.caps) (C.rest z2x)) (by rfl) (by simp [Sym.los,Sym.lo,hn0]) (by simp) (zbo hrz) ?_ (zbb hr2) trivial ?_ (by simp [za8,zar,hmv0,hmvn]) (zav.cons (by simp [zbl,zbt,zar]) (zav.two hrz)) ?_
 ·intro i o hm
  obtain ⟨l1,l2⟩:=zbb hrz i o hm;refine ⟨l1,l2,?_⟩
  change zab ((C.n,_)::zaj g w ztr (.fn C.fid C.caps) (C.rest zx)) i=some o
  simp only [zab];rw [if_neg (by omega)]
  exact zbs hrz i o hm
 ·simpa [zad,ints,int,u32] using hcall
 have hal : ∀ pre:List (Nat×Obj'),zab (C.rest z2x++pre) C.n=zab pre C.n:=fun pre=>zck hr2 (Nat.le_refl _)
 have hn3:1<C.n:=by omega
 cases z2b with
 | false=>
  have hst2:=zr9 g w (fun x a s base=>zas g w C f x a s base) e a s base (x,tr) (k+1) (by rw [hstp]) (e.forms.length-(k+1))
  rw [show k+1+(e.forms.length-(k+1))=e.forms.length by omega,hstp] at hst2
  simp +decide [za1,zan hrz,hn0,hn3,zaj,zak,Lang.d,int,ints,u32,hst2];exact ⟨hr2.zcj,hr2.caps (Nat.le_refl _),zbw hr2 (Nat.le_refl _) (Nat.le_refl _) rfl⟩
 | true=>
  have hn1':¬ 0=C.n:=by omega
  have hn2':¬ 1=C.n:=by omega
  simp +decide [za1,zan hrz,hn0,hn3,zaj,stS,hn1,hn2,hn1',hn2',hal,zak,Lang.d,int,ints,u32,zad,zbh,Ent.row,I64];have hInz:C.Inv (k0+(k+1)*cntW f) z2x:=by
   have:=hinv.1
   rwa [Nat.add_mul,Nat.one_mul,← Nat.add_assoc]
  refine ⟨⟨by omega,by omega⟩,k+1,⟨hlt,by rw [hstp],by rw [hstp];exact hInz,by rw [hstp];exact hinv.2⟩,by omega,?_⟩
  rw [hstp];exact ⟨hr2.zvt,by omega,hr2.caps (by omega),rfl,zbw hr2 (Nat.le_refl _) (by omega) rfl⟩
end Go.V
namespace Go.V
open Go Go.Proofs
theorem z0r {g:Lang} (hg:LightF g) {e:Ent} (he:e∈g.lex) {fm:List Int} (hm:fm∈e.forms):zb0 fm:=by
 intro y h
 have hE:=hg.lex.each e he
 have hwf:WordF g.inv fm:=by
  rcases List.mem_cons.1 hm with h1 | h1
  ·rw [h1];exact hE.form
  ·exact hE.alts fm h1
 have:=hwf.segs y h
 have hsl:=hg.segs
 simp only [zcn,Bool.and_eq_true,decide_eq_true_eq] at this
 omega
theorem zb0.app {a b:List Int} (ha:zb0 a) (hb:zb0 b):zb0 (a++b):=by
 intro y hy
 rcases List.mem_append.1 hy with h | h
 ·exact ha y h
 ·exact hb y h
theorem zvv {g:Lang} (hg:LightF g) {w:List Int} (hw:w.length≤24) {σ:Type} {C:Clo Tryz.prog g w σ} {f:Nat} (hW:WalkC g w C f) {e:Ent} (he:e∈g.lex)
  {k0:Nat} {x:σ} {tr:List (List Int)} {a:List Prt} {s:Nat} {base:List Int} (hI:C.Inv k0 x) (hk:k0+2*cntW f≤2^20) (ht : ∀ b∈tr,zb0 b) (hl:a.length+(f+1)=4) (hs:s<8) (hkb:zb0 base) :
  ∀ k,k≤e.forms.length→C.Inv (k0+k*cntW f) (stepS g w (fun x a s base=>zas g w C f x a s base) e a s base (x,tr) k).1.1∧∀ b∈(stepS g w (fun x a s base=>zas g w C f x a s base) e a s base (x,tr) k).1.2,zb0 b
 | 0,_=>by simpa [stepS] using ⟨hI,ht⟩
 | k+1,hle=>by
  have ih:=zvv hg hw hW he hI hk ht hl hs hkb k (by omega)
  have hf2:e.forms.length≤2:=by have:=(hg.small.forms e he).2.1;simp [Ent.forms];omega
  have hstp:stepS g w (fun x a s base=>zas g w C f x a s base) e a s base (x,tr) (k+1)=altS g w (fun x a s base=>zas g w C f x a s base) e a s base (stepS g w (fun x a s base=>zas g w C f x a s base) e a s base (x,tr) k) k:=by
   unfold stepS;rw [List.range_succ,List.foldl_append];rfl
  rw [hstp];generalize stepS g w (fun x a s base=>zas g w C f x a s base) e a s base (x,tr) k=z at ih
  obtain ⟨⟨zx,zt⟩,zb⟩:=z;simp only at ih
  have hup:C.Inv (k0+(k+1)*cntW f) zx:=by
   have:=zec C ih.1 (cntW f)
   rwa [Nat.add_mul,Nat.one_mul,← Nat.add_assoc]
  have hlt:k<e.forms.length:=by omega
  have hfm:e.forms[k]?.getD []=e.forms[k]:=by rw [List.getElem?_eq_getElem hlt];rfl
  have hkc:k*cntW f≤1*cntW f:=Nat.mul_le_mul_right _ (by omega)
  unfold altS;split
  ·exact ⟨hup,ih.2⟩
  ·split
   ·exact ⟨hup,ih.2⟩
   ·rename_i hmo
    have hb:(base++e.forms[k]?.getD []).length≤24:=by
     unfold zkc at hmo;split at hmo <;> omega
    have:=hW.inv (k0+k*cntW f) zx zt (a++[⟨e.id,(k:Int),0⟩]) s (base++e.forms[k]?.getD []) ih.1 (by omega) ih.2 (by simp;omega) hs hb (hkb.app (by rw [hfm];exact z0r hg he (List.getElem_mem hlt)))
    refine ⟨?_,this.2⟩
    have h1:=this.1;rwa [Nat.add_mul,Nat.one_mul,← Nat.add_assoc]
end Go.V
namespace Go.V
open Go Go.Proofs
theorem zvw : ∀ (a b:Fin 8),(zhb .and .u32 (a.val:Int) (b.val:Int))=((a.val &&& b.val:Nat):Int):=by decide +kernel
set_option maxHeartbeats 16000000 in
theorem zyp (g:Lang) (hg:LightF g) (hc:LangC g) (w:List Int) (hw:w.length≤24) {σ:Type} (C:Clo Tryz.prog g w σ)
  (k0:Nat) (x:σ) (tr:List (List Int)) (a:List Prt) (s:Nat) (base:List Int) (hI:C.Inv k0 x) (hk:k0+cntW 0≤2^20) (ht : ∀ b∈tr,zb0 b) (hl:a.length+0=4) (hs:s<8) (hb:base.length≤24) (hkb:zb0 base) :
  zcb Tryz.prog 84 [.bp 0 0,.d (zad a),.d (u32 s),.d (ints base)] (zaj g w tr (.fn C.fid C.caps) (C.rest x)) C.n
   (.d (.bool (zas g w C 0 (x,tr) a s base).2)) C.n (zaj g w (zas g w C 0 (x,tr) a s base).1.2 (.fn C.fid C.caps) (C.rest (zas g w C 0 (x,tr) a s base).1.1)) C.mv:=by
 have hr:=C.ok x
 have h2:=hr.two
 have hn0:0<C.n:=by omega
 have hn3:1<C.n:=by omega
 have hmv0:0∉C.mv:=fun h=>by have:=(C.mvOk 0 h).1;omega
 have hmc:=C.mvCaps
 have hn1:¬ C.n=0:=by omega
 have hn2:¬ C.n=1:=by omega
 have hal:a.length=4:=by omega
 have hf8:=zgg g.net.final 0 (fun q hq=>hg.net'.ok.2.1 q hq) (by omega)
 have hand:=zvw ⟨s,hs⟩ ⟨zbz g.net.final,hf8⟩
 simp only at hand
 have ha0:a≠[]:=by intro h;rw [h] at hal;cases hal
 unfold zas ze1
 refine zbg mixed Tryz.func84 rfl call_84 (by simp [Sym.los,Sym.lo,hn0]) ?_
 by_cases c1:s &&& zbz g.net.final=0
 ·rw [if_neg (fun h=>h.2.1 c1)]
  simp +decide [Tryz.f84,zaj,zak,Lang.d,int,ints,u32,zad,hn1,hn2,hal,hand,c1];exact ⟨hr.zcj,by omega,⟨by omega,hr.caps (Nat.le_refl _)⟩,by omega,za2 hr rfl⟩
 by_cases c2:w.length≤base.length
 case neg=>
  rw [if_neg (fun h=>c2 h.2.2)]
  simp +decide [Tryz.f84,zaj,zak,Lang.d,int,ints,u32,zad,hn1,hn2,hal,hand,c1,c2];exact ⟨hr.zcj,by omega,⟨by omega,hr.caps (Nat.le_refl _)⟩,by omega,za2 hr rfl⟩
 rw [if_pos ⟨ha0,c1,c2⟩]
 have hF:=zvs g w tr C.n (.fn C.fid C.caps) (C.rest x) hr hg hc base hb hw hkb ht
 simp +decide [Tryz.f84,zaj,zak,Lang.d,int,ints,u32,zad,hn1,hn2,hal,hand,c1,c2]
 refine zeb (n:=C.n) (s:=.d (.bool (zfq g w base))) (caps:=[]) (own0:=zaj g w tr (.fn C.fid C.caps) (C.rest x)) (own':=zaj g w (zcr tr base) (.fn C.fid C.caps) (C.rest x)) (by rfl) (by simp [Sym.los,Sym.lo,hn0]) (by simp) (zbo hr) ?_ (zbb hr) trivial ?_ ?_
 ·intro i o hm
  obtain ⟨l1,l2⟩:=zbb hr i o hm;refine ⟨l1,l2,?_⟩
  change zab (zaj g w tr (.fn C.fid C.caps) (C.rest x)) i=some o
  exact zbs hr i o hm
 ·simpa [zad,ints,int,u32] using hF
 cases hfb:zfq g w base with
 | false=>
  simp +decide [za1,zan hr,hn0,hn3,zaj,zak,Lang.d,int,ints,u32,zad,hn1,hn2,hal,hfb];exact ⟨hr.zcj,hr.caps (Nat.le_refl _),za2 hr rfl⟩
 | true=>
  simp +decide [za1,zan hr,hn0,hn3,zaj,zak,Lang.d,int,ints,u32,zad,hn1,hn2,hal,hfb];have hxr:=C.ok (C.F x a base).1;have hcl:=(C.call k0 x (zcr tr base) a base hI (by unfold cntW at hk;omega) (by omega) hb).1
  generalize C.F x a base=z at hcl hxr;obtain ⟨zx,zb⟩:=z;simp only at hcl hxr
  refine zft C.mvOk (n:=C.n) (s:=.d (.bool zb)) (caps:=C.caps) (own0:=zaj g w (zcr tr base) (.fn C.fid C.caps) (C.rest x)) (own':=zaj g w (zcr tr base) (.fn C.fid C.caps) (C.rest zx)) (by rfl) (by simp [Sym.los,Sym.lo,hr.caps (Nat.le_refl _)]) (by simp) (zbo hr) ?_ (zbb hxr) trivial ?_ (by simp [za8,zar,hmv0,hmc]) (zav.two hr) ?_
  ·intro i o hm
   obtain ⟨l1,l2⟩:=zbb hr i o hm;refine ⟨l1,l2,?_⟩
   change zab (zaj g w (zcr tr base) (.fn C.fid C.caps) (C.rest x)) i=some o
   exact zbs hr i o hm
  ·simpa [zad,ints,int,u32] using hcl
  cases zb with
  | false=>
   simp +decide [za1,zan hr,hn0,hn3,zaj,zak,Lang.d,int,ints,u32,zad,hn1,hn2,hal,hfb];exact ⟨hxr.zcj,hr.caps (Nat.le_refl _),za2 hxr rfl⟩
  | true=>
   simp +decide [za1,zan hr,hn0,hn3,zaj,zak,Lang.d,int,ints,u32,zad,hn1,hn2,hal,hfb];exact ⟨hxr.zcj,hr.caps (Nat.le_refl _),za2 hxr rfl⟩
end Go.V
namespace Go.V
open Go Go.Proofs
theorem zla {tr:List (List Int)} {base:List Int} (ht : ∀ b∈tr,zb0 b) (hb:zb0 base) : ∀ b∈zcr tr base,zb0 b:=by
 intro b h
 unfold zcr at h
 split at h
 ·exact ht b h
 ·rcases List.mem_append.1 h with h | h
  ·exact ht b h
  ·rw [List.mem_singleton.1 h];exact hb
theorem zvx {g:Lang} {w:List Int} {σ:Type} {C:Clo Tryz.prog g w σ} {k0:Nat} {x:σ} {tr:List (List Int)} {a:List Prt} {s:Nat} {base:List Int} (hI:C.Inv k0 x) (hk:k0<2^20) (ht : ∀ b∈tr,zb0 b) (hl:a.length≤4) (hb:base.length≤24) (hkb:zb0 base) :
  C.Inv (k0+1) (ze1 g w C (x,tr) a s base).1.1∧∀ b∈(ze1 g w C (x,tr) a s base).1.2,zb0 b:=by
 unfold ze1
 split
 ·split
  ·exact ⟨(C.call k0 x tr a base hI hk hl hb).2,zla ht hkb⟩
  ·exact ⟨C.mono _ _ hI,zla ht hkb⟩
 ·exact ⟨C.mono _ _ hI,ht⟩
theorem z3j (g:Lang) (hg:LightF g) (hc:LangC g) (w:List Int) (hw:w.length≤24) {σ:Type} (C:Clo Tryz.prog g w σ):WalkC g w C 0 where
 call k x tr a s base hI hk ht hl hs hb hkb:=zyp g hg hc w hw C k x tr a s base hI hk ht hl hs hb hkb
 inv k x tr a s base hI hk ht hl hs hb hkb:=by
  have:=zvx (C:=C) (s:=s) (a:=a) hI (by unfold cntW at hk;omega) ht (by omega) hb hkb
  unfold zas cntW;exact this
theorem zi7 {g:Lang} (hg:LightF g) {w:List Int} (hw:w.length≤24) {σ:Type} {C:Clo Tryz.prog g w σ} {f:Nat} (hW:WalkC g w C f) {e:Ent} (he:e∈g.lex)
  {k0:Nat} {x:σ} {tr:List (List Int)} {b0:Bool} {a:List Prt} {s:Nat} {base:List Int} (hI:C.Inv k0 x) (hk:k0+2*cntW f≤2^20) (ht : ∀ b∈tr,zb0 b) (hl:a.length+(f+1)=4) (hs:zax g.net.steps s e.cls<8) (hkb:zb0 base) :
  C.Inv (k0+2*cntW f) (entS g w (fun x a s base=>zas g w C f x a s base) a s base ((x,tr),b0) e).1.1∧∀ b∈(entS g w (fun x a s base=>zas g w C f x a s base) a s base ((x,tr),b0) e).1.2,zb0 b:=by
 have hf2:e.forms.length≤2:=by have:=(hg.small.forms e he).2.1;simp [Ent.forms];omega
 unfold entS
 split
 ·exact ⟨zec C hI _,ht⟩
 split
 ·exact ⟨zec C hI _,ht⟩
 have h:=zvv hg hw hW he hI hk ht hl hs hkb e.forms.length (Nat.le_refl _)
 refine ⟨?_,h.2⟩
 have h1:=zec C h.1 ((2-e.forms.length)*cntW f)
 rwa [Nat.add_assoc,← Nat.add_mul,show e.forms.length+(2-e.forms.length)=2 by omega] at h1
theorem zvy {g:Lang} (hg:LightF g) {w:List Int} (hw:w.length≤24) {σ:Type} {C:Clo Tryz.prog g w σ} {f:Nat} (hW:WalkC g w C f) {a:List Prt} {s:Nat} {base:List Int} (hl:a.length+(f+1)=4) (hkb:zb0 base) :
  ∀ (l:List Ent),(∀ e∈l,e∈g.lex)→∀ (k0:Nat) (y:Sst σ),C.Inv k0 y.1.1→k0+l.length*(2*cntW f)≤2^20→(∀ b∈y.1.2,zb0 b) →
   C.Inv (k0+l.length*(2*cntW f)) (l.foldl (entS g w (fun x a s base=>zas g w C f x a s base) a s base) y).1.1∧∀ b∈(l.foldl (entS g w (fun x a s base=>zas g w C f x a s base) a s base) y).1.2,zb0 b
 | [],_,k0,y,hI,_,ht=>by simpa using ⟨hI,ht⟩
 | e::l,hm,k0,y,hI,hk,ht=>by
  have hnet:=hg.net'.ok.1;have hs8:zax g.net.steps s e.cls<8:=zfd (fun q hq=>⟨⟨(hnet q hq).1.1,by have:=(hnet q hq).1.2;omega⟩,(hnet q hq).2.1,by have:=(hnet q hq).2.2;omega⟩) s e.cls
  have hlen:(e::l).length*(2*cntW f)=2*cntW f+l.length*(2*cntW f):=by
   rw [List.length_cons,Nat.add_mul,Nat.one_mul,Nat.add_comm]
  rw [hlen] at hk ⊢;obtain ⟨⟨yx,yt⟩,yb⟩:=y;have h1:=zi7 hg hw hW (hm e (List.mem_cons_self ..)) (b0:=yb) (a:=a) (s:=s) hI (by omega) ht hl hs8 hkb
  have h2:=zvy hg hw hW (s:=s) hl hkb l (fun e he=>hm e (List.mem_cons_of_mem _ he)) (k0+2*cntW f) _ h1.1 (by omega) h1.2
  rw [List.foldl_cons,← Nat.add_assoc];exact h2
theorem z6u {g:Lang} (hg:LightF g) {w:List Int} (hw:w.length≤24) {σ:Type} {C:Clo Tryz.prog g w σ} {f:Nat} (hW:WalkC g w C f) (k:Nat) (x:σ) (tr:List (List Int)) (a:List Prt) (s:Nat) (base:List Int)
  (hI:C.Inv k x) (hk:k+cntW (f+1)≤2^20) (ht : ∀ b∈tr,zb0 b) (hl:a.length+(f+1)=4) (hb:base.length≤24) (hkb:zb0 base) :
  C.Inv (k+cntW (f+1)) (zas g w C (f+1) (x,tr) a s base).1.1∧∀ b∈(zas g w C (f+1) (x,tr) a s base).1.2,zb0 b:=by
 have hc1:cntW (f+1)=1+10*cntW f:=by rw [cntW]
 rw [hc1] at hk ⊢
 have h0:=zvx (C:=C) (s:=s) (a:=a) hI (by omega) ht (by omega) hb hkb
 have hm:g.lex.length*(2*cntW f)≤5*(2*cntW f):=Nat.mul_le_mul_right _ hg.small.few
 unfold zas
 split
 ·refine ⟨?_,h0.2⟩
  have:=zec C h0.1 (10*cntW f)
  rwa [Nat.add_assoc] at this
 ·have h:=zvy hg hw hW (s:=s) hl hkb g.lex (fun _ h=>h) (k+1) ((ze1 g w C (x,tr) a s base).1,true) h0.1 (by omega) h0.2
  refine ⟨?_,h.2⟩
  have h1:=zec C h.1 (10*cntW f-g.lex.length*(2*cntW f));rwa [show k+1+g.lex.length*(2*cntW f)+(10*cntW f-g.lex.length*(2*cntW f))=k+(1+10*cntW f) by omega] at h1
theorem zsa {g:Lang} {w:List Int} {σ:Type} {wk:σ×List (List Int)→List Prt→Nat→List Int→Sst σ} {a:List Prt} {s:Nat} {base:List Int} :
  ∀ (l:List Ent) (y:Sst σ),y.2=false→l.foldl (entS g w wk a s base) y=y
 | [],_,_=>rfl
 | e::l,y,h=>by
  have h1:entS g w wk a s base y e=y:=by unfold entS;rw [if_pos h]
  rw [List.foldl_cons,h1];exact zsa l y h
theorem zh9 {α β:Type} (F:β→α→β) (y:β) (l:List α) (k:Nat) (h:k<l.length):(l.take (k+1)).foldl F y=F ((l.take k).foldl F y) l[k]:=by
 rw [List.take_succ_eq_append_getElem h,List.foldl_append];rfl
theorem zia {g:Lang} {w:List Int} {σ:Type} {wk:σ×List (List Int)→List Prt→Nat→List Int→Sst σ} {a:List Prt} {s:Nat} {base:List Int} (l:List Ent) (y:Sst σ) (k:Nat) (h:((l.take k).foldl (entS g w wk a s base) y).2=false) :
  l.foldl (entS g w wk a s base) y=(l.take k).foldl (entS g w wk a s base) y:=by
 conv=>lhs;rw [← List.take_append_drop k l,List.foldl_append]
 exact zsa _ _ h
end Go.V
namespace Go.V
open Go Go.Proofs
theorem ze7 {i:Nat} {o:Obj'} : ∀ {l r:List (Nat×Obj')},zab l i=some o→zab (l++r) i=some o
 | [],_,h=>by simp [zab] at h
 | (j,x)::l,r,h=>by
  simp only [List.cons_append,zab] at h ⊢;by_cases c:j=i
  ·rw [if_pos c] at h ⊢;exact h
  ·rw [if_neg c] at h ⊢;exact ze7 h
theorem zcg {n:Nat} {fn:Sym} {rest:List (Nat×Obj')} (h:RestOk n fn rest) (pre:List (Nat×Obj')):za1 n (rest++pre)=za1 n pre:=by
 have key : ∀ l:List (Nat×Obj'),(∀ x∈l,x∈rest)→za1 n (l++pre)=za1 n pre:=by
  intro l;induction l with
  | nil=>intro _;rfl
  | cons x l ih=>
   intro hl;obtain ⟨i,o⟩:=x;have:=(h.ids i o (hl _ (List.mem_cons_self ..))).2.1
   simp only [List.cons_append,za1];rw [if_pos this];exact ih fun y hy=>hl y (List.mem_cons_of_mem _ hy)
 exact key rest fun _ hx=>hx
set_option maxHeartbeats 16000000 in
theorem zyq (g:Lang) (hg:LightF g) (hc:LangC g) (w:List Int) (hw:w.length≤24) {σ:Type} (C:Clo Tryz.prog g w σ) (f:Nat) (hW:WalkC g w C f)
  (k0:Nat) (x:σ) (tr:List (List Int)) (a:List Prt) (s:Nat) (base:List Int) (hI:C.Inv k0 x) (hk:k0+cntW (f+1)≤2^20) (ht : ∀ b∈tr,zb0 b) (hl:a.length+(f+1)=4) (hs:s<8) (hb:base.length≤24) (hkb:zb0 base) :
  zcb Tryz.prog 84 [.bp 0 0,.d (zad a),.d (u32 s),.d (ints base)] (zaj g w tr (.fn C.fid C.caps) (C.rest x)) C.n
   (.d (.bool (zas g w C (f+1) (x,tr) a s base).2)) C.n (zaj g w (zas g w C (f+1) (x,tr) a s base).1.2 (.fn C.fid C.caps) (C.rest (zas g w C (f+1) (x,tr) a s base).1.1)) C.mv:=by
 have hr:=C.ok x
 have h2:=hr.two
 have hn0:0<C.n:=by omega
 have hn3:1<C.n:=by omega
 have hmv0:0∉C.mv:=fun h=>by have:=(C.mvOk 0 h).1;omega
 have hmvn:C.n∉C.mv:=fun h=>by have:=(C.mvOk _ h).2;omega
 have hmc:=C.mvCaps
 have hn1:¬ C.n=0:=by omega
 have hn2:¬ C.n=1:=by omega
 have hal:¬ a.length=4:=by omega
 have hal':¬(a.length:Int)=4:=by omega
 have hcw:cntW (f+1)=1+10*cntW f:=by rw [cntW]
 have hf8:=zgg g.net.final 0 (fun q hq=>hg.net'.ok.2.1 q hq) (by omega)
 have hand:=zvw ⟨s,hs⟩ ⟨zbz g.net.final,hf8⟩
 simp only at hand
 unfold zas
 refine zbg mixed Tryz.func84 rfl call_84 (by simp [Sym.los,Sym.lo,hn0]) ?_
 by_cases c0:a.length=0
 ·have hap:¬(0:Int)<(a.length:Int):=by omega
  rw [show ze1 g w C (x,tr) a s base=((x,tr),true) from by unfold ze1;rw [if_neg (fun h=>h.1 (List.length_eq_zero_iff.1 c0))]]
  simp +decide [Tryz.f84,zaj,zak,Lang.d,int,ints,u32,zad,hn1,hn2,hal,hal',c0,lexD,hand];have hr0:=C.ok x;refine zbc mixed (fun k:Nat=>{n:=79,next:=C.n,slots:=[(0,.bp 0 0),(1,.d (zad a)),(2,.d (u32 s)),(3,.d (ints base)),(56,.d (lexD g.lex)),(57,.d (int g.lex.length)),(58,.d (int k))],own:=zaj g w ((g.lex.take k).foldl (entS g w (fun x a s base=>zas g w C f x a s base) a s base) ((x,tr),true)).1.2 (.fn C.fid C.caps) (C.rest ((g.lex.take k).foldl (entS g w (fun x a s base=>zas g w C f x a s base) a s base) ((x,tr),true)).1.1),base:=C.n,moved:=C.mv})
   (fun k=>k≤g.lex.length∧((g.lex.take k).foldl (entS g w (fun x a s base=>zas g w C f x a s base) a s base) ((x,tr),true)).2=true∧C.Inv (k0+1+k*(2*cntW f)) ((g.lex.take k).foldl (entS g w (fun x a s base=>zas g w C f x a s base) a s base) ((x,tr),true)).1.1∧∀ b∈((g.lex.take k).foldl (entS g w (fun x a s base=>zas g w C f x a s base) a s base) ((x,tr),true)).1.2,zb0 b) (fun k=>g.lex.length-k) 0 ⟨by simp,rfl,by simpa using C.mono _ _ hI,ht⟩ ?_ ?_
  ·simp +decide [zaj,int,ints,u32,zak,Lang.d,zad,lexD,hn1,hn2]
   exact ⟨hr0.zcj,by omega,⟨by omega,hr0.caps (Nat.le_refl _)⟩,by omega,za2 hr0 rfl⟩
  intro k ⟨hkl,hgo,hIk,htk⟩;have htf:=zh9 (entS g w (fun x a s base=>zas g w C f x a s base) a s base) ((x,tr),true) g.lex k
  have hstop:=zia (wk:=(fun x a s base=>zas g w C f x a s base)) (g:=g) (w:=w) (a:=a) (s:=s) (base:=base) g.lex ((x,tr),true) (k+1)
  by_cases hlk:k<g.lex.length
  case neg=>
   have hke:k=g.lex.length:=by omega
   have hlk':¬(k:Int)<(g.lex.length:Int):=by omega
   have hall:g.lex.take k=g.lex:=by rw [hke,List.take_length]
   rw [hall] at hgo ⊢;have hrz:=C.ok (g.lex.foldl (entS g w (fun x a s base=>zas g w C f x a s base) a s base) ((x,tr),true)).1.1
   have hlk2:¬ g.lex.length<g.lex.length:=by omega
   subst hke;refine zaq mixed ?_
   simp +decide [zaj,int,ints,u32,zak,Lang.d,zad,lexD,hn1,hn2];exact ⟨hgo,hrz.zcj,by omega,⟨by omega,hrz.caps (Nat.le_refl _)⟩,by omega,za2 hrz rfl⟩
  have htf:=htf hlk;have hlk':(k:Int)<g.lex.length:=by omega
  have hrz:=C.ok ((g.lex.take k).foldl (entS g w (fun x a s base=>zas g w C f x a s base) a s base) ((x,tr),true)).1.1
  generalize (g.lex.take k).foldl (entS g w (fun x a s base=>zas g w C f x a s base) a s base) ((x,tr),true)=z at hgo hIk htk hrz htf
  obtain ⟨⟨zx,ztr⟩,zb⟩:=z;simp only at hgo hIk htk hrz
  subst hgo;have he:g.lex[k]∈g.lex:=List.getElem_mem hlk
  obtain ⟨e,ee⟩ : ∃ e,g.lex[k]=e:=⟨_,rfl⟩;have ee1:g.lex[k]?=some e:=by rw [List.getElem?_eq_getElem hlk,ee]
  rw [ee] at he htf;have hent : ∀ y1,entS g w (fun x a s base=>zas g w C f x a s base) a s base (y1,true) e=if zax g.net.steps s e.cls=0 then (y1,true) else stepS g w (fun x a s base=>zas g w C f x a s base) e a (zax g.net.steps s e.cls) base y1 e.forms.length:=fun y1=>by
   unfold entS;simp only [Bool.true_eq_false,if_false]
  rw [hent] at htf;refine zhz mixed 2 {n:=79,next:=C.n,slots:=[(0,.bp 0 0),(1,.d (zad a)),(2,.d (u32 s)),(3,.d (ints base)),(56,.d (lexD g.lex)),(57,.d (int g.lex.length)),(58,.d (int k))],own:=zaj g w ztr (.fn C.fid C.caps) (C.rest zx),base:=C.n,moved:=C.mv} rfl ?_ ?_
  ·simp +decide [ze4,cutK,zaj,int,ints,u32,zak,Lang.d,zad,lexD,hn1,hn2,hlk']
   exact ⟨hrz.zcj,by omega,⟨by omega,hrz.caps (Nat.le_refl _)⟩,by omega,za2 hrz rfl⟩
  simp only [zfr];refine zcu (zco ?_) mixed
  refine zaq mixed ?_
  simp +decide [zaj,int,ints,u32,zak,Lang.d,zad,lexD,Ent.row,hn1,hn2,hlk,hlk',ee,ee1,I64];have hcall:=zgm g w ztr C.n (.fn C.fid C.caps) (C.rest zx) hrz hg s hs e.cls;refine zeb (n:=C.n) (s:=.d (u32 (zax g.net.steps s e.cls))) (caps:=[]) (own0:=zaj g w ztr (.fn C.fid C.caps) (C.rest zx)) (own':=zaj g w ztr (.fn C.fid C.caps) (C.rest zx)) (by rfl) (by simp [Sym.los,Sym.lo,hn0]) (by simp) (zbo hrz) ?_ (zbb hrz) trivial ?_ ?_
  ·intro i o hm
   obtain ⟨l1,l2⟩:=zbb hrz i o hm;refine ⟨l1,l2,?_⟩
   change zab ((C.n,_)::zaj g w ztr (.fn C.fid C.caps) (C.rest zx)) i=some o
   simp only [zab];rw [if_neg (by omega)]
   exact zbs hrz i o hm
  ·simpa [zad,ints,int,u32] using hcall
  have halz : ∀ pre:List (Nat×Obj'),zab (C.rest zx++pre) C.n=zab pre C.n:=fun pre=>zck hrz (Nat.le_refl _)
  have hn1':¬ 0=C.n:=by omega
  have hn2':¬ 1=C.n:=by omega
  by_cases hz:zax g.net.steps s e.cls=0
  ·rw [if_pos hz] at htf
   simp +decide [za1,zan hrz,hn0,hn3,zaj,hn1,hn2,hn1',hn2',halz,zak,Lang.d,int,ints,u32,zad,lexD,Ent.row,hz,I64];have hup:C.Inv (k0+1+(k+1)*(2*cntW f)) zx:=by
    have:=zec C hIk (2*cntW f)
    rwa [Nat.add_mul,Nat.one_mul,← Nat.add_assoc]
   have hmax:=hg.small.few;refine ⟨⟨by omega,by omega⟩,k+1,⟨hlk,by rw [htf],by rw [htf];exact hup,by rw [htf];exact htk⟩,by omega,?_⟩
   rw [htf];exact ⟨hrz.zcj,by omega,hrz.caps (Nat.le_refl _),rfl,zbw hrz (Nat.le_refl _) (Nat.le_refl _) rfl⟩
  rw [if_neg hz] at htf;simp +decide [za1,zan hrz,hn0,hn3,zaj,hn1,hn2,hn1',hn2',halz,zak,Lang.d,int,ints,u32,zad,lexD,Ent.row,hz,I64];have hcm:(k+1)*(2*cntW f)≤5*(2*cntW f):=Nat.mul_le_mul_right _ (by have:=hg.small.few;omega)
  have hcs:(k+1)*(2*cntW f)=k*(2*cntW f)+2*cntW f:=by rw [Nat.add_mul,Nat.one_mul]
  have hs8:zax g.net.steps s e.cls<8:=by
   have hnet:=hg.net'.ok.1;exact zfd (fun q hq=>⟨⟨(hnet q hq).1.1,by have:=(hnet q hq).1.2;omega⟩,(hnet q hq).2.1,by have:=(hnet q hq).2.2;omega⟩) s e.cls
  have hcall2:=zh8 g hg hc w hw C f hW e he (k0+1+k*(2*cntW f)) zx ztr a (zax g.net.steps s e.cls) base hIk (by omega) htk hl hs8 hb hkb
  have hinv2:=zi7 hg hw hW he (b0:=true) (a:=a) (s:=s) hIk (by omega) htk hl hs8 hkb
  rw [hent,if_neg hz] at hinv2;generalize stepS g w (fun x a s base=>zas g w C f x a s base) e a (zax g.net.steps s e.cls) base (zx,ztr) e.forms.length=z2 at hcall2 hinv2 htf
  obtain ⟨⟨z2x,z2t⟩,z2b⟩:=z2;simp only at hcall2 hinv2
  have hr2:=C.ok z2x;have hal2 : ∀ pre:List (Nat×Obj'),zab (C.rest z2x++pre) C.n=zab pre C.n:=fun pre=>zck hr2 (Nat.le_refl _)
  refine zft C.mvOk (n:=C.n) (s:=.d (.bool z2b)) (caps:=[]) (own0:=zaj g w ztr (.fn C.fid C.caps) (C.rest zx)) (own':=zaj g w z2t (.fn C.fid C.caps) (C.rest z2x)) (by rfl) (by simp [Sym.los,Sym.lo,hn0]) (by simp) (zbo hrz) ?_ (zbb hr2) trivial ?_ (by simp [za8,zar,hmv0,hmvn,hmc]) (zav.under hn0 (zav.under hn3 (zav.app (zav.rest hrz) (zav.cons (by simp [zbl,zbt,zar]) zav.nil)))) ?_
  ·intro i o hm
   obtain ⟨l1,l2⟩:=zbb hrz i o hm;refine ⟨l1,l2,?_⟩
   change zab (zaj g w ztr (.fn C.fid C.caps) (C.rest zx)++[(C.n,_)]) i=some o
   exact ze7 (zbs hrz i o hm)
  ·simpa [zad,ints,int,u32,Ent.row] using hcall2
  cases z2b with
  | false=>
   have hst:=hstop (by rw [htf])
   rw [htf] at hst;simp +decide [za1,zan hrz,zcg hrz,hn0,hn3,zaj,zak,Lang.d,int,ints,u32,lexD,hst];exact ⟨hr2.zcj,hr2.caps (Nat.le_refl _),zbw hr2 (Nat.le_refl _) (Nat.le_refl _) rfl⟩
  | true=>
   simp +decide [za1,zan hrz,zcg hrz,hn0,hn3,zaj,zak,Lang.d,int,ints,u32,zad,lexD,Ent.row,hn1,hn2,hn1',hn2',hal2,I64];have hup:C.Inv (k0+1+(k+1)*(2*cntW f)) z2x:=by
    have:=hinv2.1
    rwa [hcs,← Nat.add_assoc]
   have hmax:=hg.small.few;refine ⟨⟨by omega,by omega⟩,k+1,⟨hlk,by rw [htf],by rw [htf];exact hup,by rw [htf];exact hinv2.2⟩,by omega,?_⟩
   rw [htf];exact ⟨hr2.zcj,by omega,hr2.caps (Nat.le_refl _),rfl,zbw hr2 (Nat.le_refl _) (Nat.le_refl _) rfl⟩
 have ha0:a≠[]:=by intro h;rw [h] at c0;exact c0 rfl
 have hap:(0:Int)<(a.length:Int):=by omega
 have hap':0<a.length:=by omega
 by_cases c1:s &&& zbz g.net.final=0
 ·rw [show ze1 g w C (x,tr) a s base=((x,tr),true) from by unfold ze1;rw [if_neg (fun h=>h.2.1 c1)]]
  simp +decide [Tryz.f84,zaj,zak,Lang.d,int,ints,u32,zad,hn1,hn2,hal,hal',hap,hap',lexD,hand,c1];have hr0:=C.ok x;refine zbc mixed (fun k:Nat=>{n:=79,next:=C.n,slots:=[(0,.bp 0 0),(1,.d (zad a)),(2,.d (u32 s)),(3,.d (ints base)),(56,.d (lexD g.lex)),(57,.d (int g.lex.length)),(58,.d (int k))],own:=zaj g w ((g.lex.take k).foldl (entS g w (fun x a s base=>zas g w C f x a s base) a s base) ((x,tr),true)).1.2 (.fn C.fid C.caps) (C.rest ((g.lex.take k).foldl (entS g w (fun x a s base=>zas g w C f x a s base) a s base) ((x,tr),true)).1.1),base:=C.n,moved:=C.mv})
   (fun k=>k≤g.lex.length∧((g.lex.take k).foldl (entS g w (fun x a s base=>zas g w C f x a s base) a s base) ((x,tr),true)).2=true∧C.Inv (k0+1+k*(2*cntW f)) ((g.lex.take k).foldl (entS g w (fun x a s base=>zas g w C f x a s base) a s base) ((x,tr),true)).1.1∧∀ b∈((g.lex.take k).foldl (entS g w (fun x a s base=>zas g w C f x a s base) a s base) ((x,tr),true)).1.2,zb0 b) (fun k=>g.lex.length-k) 0 ⟨by simp,rfl,by simpa using C.mono _ _ hI,ht⟩ ?_ ?_
  ·simp +decide [zaj,int,ints,u32,zak,Lang.d,zad,lexD,hn1,hn2]
   exact ⟨hr0.zcj,by omega,⟨by omega,hr0.caps (Nat.le_refl _)⟩,by omega,za2 hr0 rfl⟩
  intro k ⟨hkl,hgo,hIk,htk⟩;have htf:=zh9 (entS g w (fun x a s base=>zas g w C f x a s base) a s base) ((x,tr),true) g.lex k
  have hstop:=zia (wk:=(fun x a s base=>zas g w C f x a s base)) (g:=g) (w:=w) (a:=a) (s:=s) (base:=base) g.lex ((x,tr),true) (k+1)
  by_cases hlk:k<g.lex.length
  case neg=>
   have hke:k=g.lex.length:=by omega
   have hlk':¬(k:Int)<(g.lex.length:Int):=by omega
   have hall:g.lex.take k=g.lex:=by rw [hke,List.take_length]
   rw [hall] at hgo ⊢;have hrz:=C.ok (g.lex.foldl (entS g w (fun x a s base=>zas g w C f x a s base) a s base) ((x,tr),true)).1.1
   have hlk2:¬ g.lex.length<g.lex.length:=by omega
   subst hke;refine zaq mixed ?_
   simp +decide [zaj,int,ints,u32,zak,Lang.d,zad,lexD,hn1,hn2];exact ⟨hgo,hrz.zcj,by omega,⟨by omega,hrz.caps (Nat.le_refl _)⟩,by omega,za2 hrz rfl⟩
  have htf:=htf hlk;have hlk':(k:Int)<g.lex.length:=by omega
  have hrz:=C.ok ((g.lex.take k).foldl (entS g w (fun x a s base=>zas g w C f x a s base) a s base) ((x,tr),true)).1.1
  generalize (g.lex.take k).foldl (entS g w (fun x a s base=>zas g w C f x a s base) a s base) ((x,tr),true)=z at hgo hIk htk hrz htf
  obtain ⟨⟨zx,ztr⟩,zb⟩:=z;simp only at hgo hIk htk hrz
  subst hgo;have he:g.lex[k]∈g.lex:=List.getElem_mem hlk
  obtain ⟨e,ee⟩ : ∃ e,g.lex[k]=e:=⟨_,rfl⟩;have ee1:g.lex[k]?=some e:=by rw [List.getElem?_eq_getElem hlk,ee]
  rw [ee] at he htf;have hent : ∀ y1,entS g w (fun x a s base=>zas g w C f x a s base) a s base (y1,true) e=if zax g.net.steps s e.cls=0 then (y1,true) else stepS g w (fun x a s base=>zas g w C f x a s base) e a (zax g.net.steps s e.cls) base y1 e.forms.length:=fun y1=>by
   unfold entS;simp only [Bool.true_eq_false,if_false]
  rw [hent] at htf;refine zhz mixed 2 {n:=79,next:=C.n,slots:=[(0,.bp 0 0),(1,.d (zad a)),(2,.d (u32 s)),(3,.d (ints base)),(56,.d (lexD g.lex)),(57,.d (int g.lex.length)),(58,.d (int k))],own:=zaj g w ztr (.fn C.fid C.caps) (C.rest zx),base:=C.n,moved:=C.mv} rfl ?_ ?_
  ·simp +decide [ze4,cutK,zaj,int,ints,u32,zak,Lang.d,zad,lexD,hn1,hn2,hlk']
   exact ⟨hrz.zcj,by omega,⟨by omega,hrz.caps (Nat.le_refl _)⟩,by omega,za2 hrz rfl⟩
  simp only [zfr];refine zcu (zco ?_) mixed
  refine zaq mixed ?_
  simp +decide [zaj,int,ints,u32,zak,Lang.d,zad,lexD,Ent.row,hn1,hn2,hlk,hlk',ee,ee1,I64];have hcall:=zgm g w ztr C.n (.fn C.fid C.caps) (C.rest zx) hrz hg s hs e.cls;refine zeb (n:=C.n) (s:=.d (u32 (zax g.net.steps s e.cls))) (caps:=[]) (own0:=zaj g w ztr (.fn C.fid C.caps) (C.rest zx)) (own':=zaj g w ztr (.fn C.fid C.caps) (C.rest zx)) (by rfl) (by simp [Sym.los,Sym.lo,hn0]) (by simp) (zbo hrz) ?_ (zbb hrz) trivial ?_ ?_
  ·intro i o hm
   obtain ⟨l1,l2⟩:=zbb hrz i o hm;refine ⟨l1,l2,?_⟩
   change zab ((C.n,_)::zaj g w ztr (.fn C.fid C.caps) (C.rest zx)) i=some o
   simp only [zab];rw [if_neg (by omega)]
   exact zbs hrz i o hm
  ·simpa [zad,ints,int,u32] using hcall
  have halz : ∀ pre:List (Nat×Obj'),zab (C.rest zx++pre) C.n=zab pre C.n:=fun pre=>zck hrz (Nat.le_refl _)
  have hn1':¬ 0=C.n:=by omega
  have hn2':¬ 1=C.n:=by omega
  by_cases hz:zax g.net.steps s e.cls=0
  ·rw [if_pos hz] at htf
   simp +decide [za1,zan hrz,hn0,hn3,zaj,hn1,hn2,hn1',hn2',halz,zak,Lang.d,int,ints,u32,zad,lexD,Ent.row,hz,I64];have hup:C.Inv (k0+1+(k+1)*(2*cntW f)) zx:=by
    have:=zec C hIk (2*cntW f)
    rwa [Nat.add_mul,Nat.one_mul,← Nat.add_assoc]
   have hmax:=hg.small.few;refine ⟨⟨by omega,by omega⟩,k+1,⟨hlk,by rw [htf],by rw [htf];exact hup,by rw [htf];exact htk⟩,by omega,?_⟩
   rw [htf];exact ⟨hrz.zcj,by omega,hrz.caps (Nat.le_refl _),rfl,zbw hrz (Nat.le_refl _) (Nat.le_refl _) rfl⟩
  rw [if_neg hz] at htf;simp +decide [za1,zan hrz,hn0,hn3,zaj,hn1,hn2,hn1',hn2',halz,zak,Lang.d,int,ints,u32,zad,lexD,Ent.row,hz,I64];have hcm:(k+1)*(2*cntW f)≤5*(2*cntW f):=Nat.mul_le_mul_right _ (by have:=hg.small.few;omega)
  have hcs:(k+1)*(2*cntW f)=k*(2*cntW f)+2*cntW f:=by rw [Nat.add_mul,Nat.one_mul]
  have hs8:zax g.net.steps s e.cls<8:=by
   have hnet:=hg.net'.ok.1;exact zfd (fun q hq=>⟨⟨(hnet q hq).1.1,by have:=(hnet q hq).1.2;omega⟩,(hnet q hq).2.1,by have:=(hnet q hq).2.2;omega⟩) s e.cls
  have hcall2:=zh8 g hg hc w hw C f hW e he (k0+1+k*(2*cntW f)) zx ztr a (zax g.net.steps s e.cls) base hIk (by omega) htk hl hs8 hb hkb
  have hinv2:=zi7 hg hw hW he (b0:=true) (a:=a) (s:=s) hIk (by omega) htk hl hs8 hkb
  rw [hent,if_neg hz] at hinv2;generalize stepS g w (fun x a s base=>zas g w C f x a s base) e a (zax g.net.steps s e.cls) base (zx,ztr) e.forms.length=z2 at hcall2 hinv2 htf
  obtain ⟨⟨z2x,z2t⟩,z2b⟩:=z2;simp only at hcall2 hinv2
  have hr2:=C.ok z2x;have hal2 : ∀ pre:List (Nat×Obj'),zab (C.rest z2x++pre) C.n=zab pre C.n:=fun pre=>zck hr2 (Nat.le_refl _)
  refine zft C.mvOk (n:=C.n) (s:=.d (.bool z2b)) (caps:=[]) (own0:=zaj g w ztr (.fn C.fid C.caps) (C.rest zx)) (own':=zaj g w z2t (.fn C.fid C.caps) (C.rest z2x)) (by rfl) (by simp [Sym.los,Sym.lo,hn0]) (by simp) (zbo hrz) ?_ (zbb hr2) trivial ?_ (by simp [za8,zar,hmv0,hmvn,hmc]) (zav.under hn0 (zav.under hn3 (zav.app (zav.rest hrz) (zav.cons (by simp [zbl,zbt,zar]) zav.nil)))) ?_
  ·intro i o hm
   obtain ⟨l1,l2⟩:=zbb hrz i o hm;refine ⟨l1,l2,?_⟩
   change zab (zaj g w ztr (.fn C.fid C.caps) (C.rest zx)++[(C.n,_)]) i=some o
   exact ze7 (zbs hrz i o hm)
  ·simpa [zad,ints,int,u32,Ent.row] using hcall2
  cases z2b with
  | false=>
   have hst:=hstop (by rw [htf])
   rw [htf] at hst;simp +decide [za1,zan hrz,zcg hrz,hn0,hn3,zaj,zak,Lang.d,int,ints,u32,lexD,hst];exact ⟨hr2.zcj,hr2.caps (Nat.le_refl _),zbw hr2 (Nat.le_refl _) (Nat.le_refl _) rfl⟩
  | true=>
   simp +decide [za1,zan hrz,zcg hrz,hn0,hn3,zaj,zak,Lang.d,int,ints,u32,zad,lexD,Ent.row,hn1,hn2,hn1',hn2',hal2,I64];have hup:C.Inv (k0+1+(k+1)*(2*cntW f)) z2x:=by
    have:=hinv2.1
    rwa [hcs,← Nat.add_assoc]
   have hmax:=hg.small.few;refine ⟨⟨by omega,by omega⟩,k+1,⟨hlk,by rw [htf],by rw [htf];exact hup,by rw [htf];exact hinv2.2⟩,by omega,?_⟩
   rw [htf];exact ⟨hr2.zcj,by omega,hr2.caps (Nat.le_refl _),rfl,zbw hr2 (Nat.le_refl _) (Nat.le_refl _) rfl⟩
 by_cases c2:w.length≤base.length
 case neg=>
  rw [show ze1 g w C (x,tr) a s base=((x,tr),true) from by unfold ze1;rw [if_neg (fun h=>c2 h.2.2)]]
  simp +decide [Tryz.f84,zaj,zak,Lang.d,int,ints,u32,zad,hn1,hn2,hal,hal',hap,hap',lexD,hand,c1,c2];have hr0:=C.ok x;refine zbc mixed (fun k:Nat=>{n:=79,next:=C.n,slots:=[(0,.bp 0 0),(1,.d (zad a)),(2,.d (u32 s)),(3,.d (ints base)),(56,.d (lexD g.lex)),(57,.d (int g.lex.length)),(58,.d (int k))],own:=zaj g w ((g.lex.take k).foldl (entS g w (fun x a s base=>zas g w C f x a s base) a s base) ((x,tr),true)).1.2 (.fn C.fid C.caps) (C.rest ((g.lex.take k).foldl (entS g w (fun x a s base=>zas g w C f x a s base) a s base) ((x,tr),true)).1.1),base:=C.n,moved:=C.mv})
   (fun k=>k≤g.lex.length∧((g.lex.take k).foldl (entS g w (fun x a s base=>zas g w C f x a s base) a s base) ((x,tr),true)).2=true∧C.Inv (k0+1+k*(2*cntW f)) ((g.lex.take k).foldl (entS g w (fun x a s base=>zas g w C f x a s base) a s base) ((x,tr),true)).1.1∧∀ b∈((g.lex.take k).foldl (entS g w (fun x a s base=>zas g w C f x a s base) a s base) ((x,tr),true)).1.2,zb0 b) (fun k=>g.lex.length-k) 0 ⟨by simp,rfl,by simpa using C.mono _ _ hI,ht⟩ ?_ ?_
  ·simp +decide [zaj,int,ints,u32,zak,Lang.d,zad,lexD,hn1,hn2]
   exact ⟨hr0.zcj,by omega,⟨by omega,hr0.caps (Nat.le_refl _)⟩,by omega,za2 hr0 rfl⟩
  intro k ⟨hkl,hgo,hIk,htk⟩;have htf:=zh9 (entS g w (fun x a s base=>zas g w C f x a s base) a s base) ((x,tr),true) g.lex k
  have hstop:=zia (wk:=(fun x a s base=>zas g w C f x a s base)) (g:=g) (w:=w) (a:=a) (s:=s) (base:=base) g.lex ((x,tr),true) (k+1)
  by_cases hlk:k<g.lex.length
  case neg=>
   have hke:k=g.lex.length:=by omega
   have hlk':¬(k:Int)<(g.lex.length:Int):=by omega
   have hall:g.lex.take k=g.lex:=by rw [hke,List.take_length]
   rw [hall] at hgo ⊢;have hrz:=C.ok (g.lex.foldl (entS g w (fun x a s base=>zas g w C f x a s base) a s base) ((x,tr),true)).1.1
   have hlk2:¬ g.lex.length<g.lex.length:=by omega
   subst hke;refine zaq mixed ?_
   simp +decide [zaj,int,ints,u32,zak,Lang.d,zad,lexD,hn1,hn2];exact ⟨hgo,hrz.zcj,by omega,⟨by omega,hrz.caps (Nat.le_refl _)⟩,by omega,za2 hrz rfl⟩
  have htf:=htf hlk;have hlk':(k:Int)<g.lex.length:=by omega
  have hrz:=C.ok ((g.lex.take k).foldl (entS g w (fun x a s base=>zas g w C f x a s base) a s base) ((x,tr),true)).1.1
  generalize (g.lex.take k).foldl (entS g w (fun x a s base=>zas g w C f x a s base) a s base) ((x,tr),true)=z at hgo hIk htk hrz htf
  obtain ⟨⟨zx,ztr⟩,zb⟩:=z;simp only at hgo hIk htk hrz
  subst hgo;have he:g.lex[k]∈g.lex:=List.getElem_mem hlk
  obtain ⟨e,ee⟩ : ∃ e,g.lex[k]=e:=⟨_,rfl⟩;have ee1:g.lex[k]?=some e:=by rw [List.getElem?_eq_getElem hlk,ee]
  rw [ee] at he htf;have hent : ∀ y1,entS g w (fun x a s base=>zas g w C f x a s base) a s base (y1,true) e=if zax g.net.steps s e.cls=0 then (y1,true) else stepS g w (fun x a s base=>zas g w C f x a s base) e a (zax g.net.steps s e.cls) base y1 e.forms.length:=fun y1=>by
   unfold entS;simp only [Bool.true_eq_false,if_false]
  rw [hent] at htf;refine zhz mixed 2 {n:=79,next:=C.n,slots:=[(0,.bp 0 0),(1,.d (zad a)),(2,.d (u32 s)),(3,.d (ints base)),(56,.d (lexD g.lex)),(57,.d (int g.lex.length)),(58,.d (int k))],own:=zaj g w ztr (.fn C.fid C.caps) (C.rest zx),base:=C.n,moved:=C.mv} rfl ?_ ?_
  ·simp +decide [ze4,cutK,zaj,int,ints,u32,zak,Lang.d,zad,lexD,hn1,hn2,hlk']
   exact ⟨hrz.zcj,by omega,⟨by omega,hrz.caps (Nat.le_refl _)⟩,by omega,za2 hrz rfl⟩
  simp only [zfr];refine zcu (zco ?_) mixed
  refine zaq mixed ?_
  simp +decide [zaj,int,ints,u32,zak,Lang.d,zad,lexD,Ent.row,hn1,hn2,hlk,hlk',ee,ee1,I64];have hcall:=zgm g w ztr C.n (.fn C.fid C.caps) (C.rest zx) hrz hg s hs e.cls;refine zeb (n:=C.n) (s:=.d (u32 (zax g.net.steps s e.cls))) (caps:=[]) (own0:=zaj g w ztr (.fn C.fid C.caps) (C.rest zx)) (own':=zaj g w ztr (.fn C.fid C.caps) (C.rest zx)) (by rfl) (by simp [Sym.los,Sym.lo,hn0]) (by simp) (zbo hrz) ?_ (zbb hrz) trivial ?_ ?_
  ·intro i o hm
   obtain ⟨l1,l2⟩:=zbb hrz i o hm;refine ⟨l1,l2,?_⟩
   change zab ((C.n,_)::zaj g w ztr (.fn C.fid C.caps) (C.rest zx)) i=some o
   simp only [zab];rw [if_neg (by omega)]
   exact zbs hrz i o hm
  ·simpa [zad,ints,int,u32] using hcall
  have halz : ∀ pre:List (Nat×Obj'),zab (C.rest zx++pre) C.n=zab pre C.n:=fun pre=>zck hrz (Nat.le_refl _)
  have hn1':¬ 0=C.n:=by omega
  have hn2':¬ 1=C.n:=by omega
  by_cases hz:zax g.net.steps s e.cls=0
  ·rw [if_pos hz] at htf
   simp +decide [za1,zan hrz,hn0,hn3,zaj,hn1,hn2,hn1',hn2',halz,zak,Lang.d,int,ints,u32,zad,lexD,Ent.row,hz,I64];have hup:C.Inv (k0+1+(k+1)*(2*cntW f)) zx:=by
    have:=zec C hIk (2*cntW f)
    rwa [Nat.add_mul,Nat.one_mul,← Nat.add_assoc]
   have hmax:=hg.small.few;refine ⟨⟨by omega,by omega⟩,k+1,⟨hlk,by rw [htf],by rw [htf];exact hup,by rw [htf];exact htk⟩,by omega,?_⟩
   rw [htf];exact ⟨hrz.zcj,by omega,hrz.caps (Nat.le_refl _),rfl,zbw hrz (Nat.le_refl _) (Nat.le_refl _) rfl⟩
  rw [if_neg hz] at htf;simp +decide [za1,zan hrz,hn0,hn3,zaj,hn1,hn2,hn1',hn2',halz,zak,Lang.d,int,ints,u32,zad,lexD,Ent.row,hz,I64];have hcm:(k+1)*(2*cntW f)≤5*(2*cntW f):=Nat.mul_le_mul_right _ (by have:=hg.small.few;omega)
  have hcs:(k+1)*(2*cntW f)=k*(2*cntW f)+2*cntW f:=by rw [Nat.add_mul,Nat.one_mul]
  have hs8:zax g.net.steps s e.cls<8:=by
   have hnet:=hg.net'.ok.1;exact zfd (fun q hq=>⟨⟨(hnet q hq).1.1,by have:=(hnet q hq).1.2;omega⟩,(hnet q hq).2.1,by have:=(hnet q hq).2.2;omega⟩) s e.cls
  have hcall2:=zh8 g hg hc w hw C f hW e he (k0+1+k*(2*cntW f)) zx ztr a (zax g.net.steps s e.cls) base hIk (by omega) htk hl hs8 hb hkb
  have hinv2:=zi7 hg hw hW he (b0:=true) (a:=a) (s:=s) hIk (by omega) htk hl hs8 hkb
  rw [hent,if_neg hz] at hinv2;generalize stepS g w (fun x a s base=>zas g w C f x a s base) e a (zax g.net.steps s e.cls) base (zx,ztr) e.forms.length=z2 at hcall2 hinv2 htf
  obtain ⟨⟨z2x,z2t⟩,z2b⟩:=z2;simp only at hcall2 hinv2
  have hr2:=C.ok z2x;have hal2 : ∀ pre:List (Nat×Obj'),zab (C.rest z2x++pre) C.n=zab pre C.n:=fun pre=>zck hr2 (Nat.le_refl _)
  refine zft C.mvOk (n:=C.n) (s:=.d (.bool z2b)) (caps:=[]) (own0:=zaj g w ztr (.fn C.fid C.caps) (C.rest zx)) (own':=zaj g w z2t (.fn C.fid C.caps) (C.rest z2x)) (by rfl) (by simp [Sym.los,Sym.lo,hn0]) (by simp) (zbo hrz) ?_ (zbb hr2) trivial ?_ (by simp [za8,zar,hmv0,hmvn,hmc]) (zav.under hn0 (zav.under hn3 (zav.app (zav.rest hrz) (zav.cons (by simp [zbl,zbt,zar]) zav.nil)))) ?_
  ·intro i o hm
   obtain ⟨l1,l2⟩:=zbb hrz i o hm;refine ⟨l1,l2,?_⟩
   change zab (zaj g w ztr (.fn C.fid C.caps) (C.rest zx)++[(C.n,_)]) i=some o
   exact ze7 (zbs hrz i o hm)
  ·simpa [zad,ints,int,u32,Ent.row] using hcall2
  cases z2b with
  | false=>
   have hst:=hstop (by rw [htf])
   rw [htf] at hst;simp +decide [za1,zan hrz,zcg hrz,hn0,hn3,zaj,zak,Lang.d,int,ints,u32,lexD,hst];exact ⟨hr2.zcj,hr2.caps (Nat.le_refl _),zbw hr2 (Nat.le_refl _) (Nat.le_refl _) rfl⟩
  | true=>
   simp +decide [za1,zan hrz,zcg hrz,hn0,hn3,zaj,zak,Lang.d,int,ints,u32,zad,lexD,Ent.row,hn1,hn2,hn1',hn2',hal2,I64];have hup:C.Inv (k0+1+(k+1)*(2*cntW f)) z2x:=by
    have:=hinv2.1
    rwa [hcs,← Nat.add_assoc]
   have hmax:=hg.small.few;refine ⟨⟨by omega,by omega⟩,k+1,⟨hlk,by rw [htf],by rw [htf];exact hup,by rw [htf];exact hinv2.2⟩,by omega,?_⟩
   rw [htf];exact ⟨hr2.zcj,by omega,hr2.caps (Nat.le_refl _),rfl,zbw hr2 (Nat.le_refl _) (Nat.le_refl _) rfl⟩
 rw [show ze1 g w C (x,tr) a s base=(if zfq g w base=true then (((C.F x a base).1,zcr tr base),(C.F x a base).2) else ((x,zcr tr base),true)) from by unfold ze1;rw [if_pos ⟨ha0,c1,c2⟩]]
 have hF:=zvs g w tr C.n (.fn C.fid C.caps) (C.rest x) hr hg hc base hb hw hkb ht
 simp +decide [Tryz.f84,zaj,zak,Lang.d,int,ints,u32,zad,hn1,hn2,hal,hal',hap,hap',lexD,hand,c1,c2]
 refine zeb (n:=C.n) (s:=.d (.bool (zfq g w base))) (caps:=[]) (own0:=zaj g w tr (.fn C.fid C.caps) (C.rest x)) (own':=zaj g w (zcr tr base) (.fn C.fid C.caps) (C.rest x)) (by rfl) (by simp [Sym.los,Sym.lo,hn0]) (by simp) (zbo hr) ?_ (zbb hr) trivial ?_ ?_
 ·intro i o hm
  obtain ⟨l1,l2⟩:=zbb hr i o hm;refine ⟨l1,l2,?_⟩
  change zab (zaj g w tr (.fn C.fid C.caps) (C.rest x)) i=some o
  exact zbs hr i o hm
 ·simpa [zad,ints,int,u32] using hF
 cases hfb:zfq g w base with
 | false=>
  simp +decide [za1,zan hr,hn0,hn3,zaj,zak,Lang.d,int,ints,u32,zad,hn1,hn2,hal,hal',hap,hap',lexD,hfb];have hr0:=C.ok x;refine zbc mixed (fun k:Nat=>{n:=79,next:=C.n,slots:=[(0,.bp 0 0),(1,.d (zad a)),(2,.d (u32 s)),(3,.d (ints base)),(56,.d (lexD g.lex)),(57,.d (int g.lex.length)),(58,.d (int k))],own:=zaj g w ((g.lex.take k).foldl (entS g w (fun x a s base=>zas g w C f x a s base) a s base) ((x,(zcr tr base)),true)).1.2 (.fn C.fid C.caps) (C.rest ((g.lex.take k).foldl (entS g w (fun x a s base=>zas g w C f x a s base) a s base) ((x,(zcr tr base)),true)).1.1),base:=C.n,moved:=C.mv})
   (fun k=>k≤g.lex.length∧((g.lex.take k).foldl (entS g w (fun x a s base=>zas g w C f x a s base) a s base) ((x,(zcr tr base)),true)).2=true∧C.Inv (k0+1+k*(2*cntW f)) ((g.lex.take k).foldl (entS g w (fun x a s base=>zas g w C f x a s base) a s base) ((x,(zcr tr base)),true)).1.1∧∀ b∈((g.lex.take k).foldl (entS g w (fun x a s base=>zas g w C f x a s base) a s base) ((x,(zcr tr base)),true)).1.2,zb0 b) (fun k=>g.lex.length-k) 0 ⟨by simp,rfl,by simpa using C.mono _ _ hI,zla ht hkb⟩ ?_ ?_
  ·simp +decide [zaj,int,ints,u32,zak,Lang.d,zad,lexD,hn1,hn2]
   exact ⟨hr0.zcj,by omega,⟨by omega,hr0.caps (Nat.le_refl _)⟩,by omega,za2 hr0 rfl⟩
  intro k ⟨hkl,hgo,hIk,htk⟩;have htf:=zh9 (entS g w (fun x a s base=>zas g w C f x a s base) a s base) ((x,(zcr tr base)),true) g.lex k
  have hstop:=zia (wk:=(fun x a s base=>zas g w C f x a s base)) (g:=g) (w:=w) (a:=a) (s:=s) (base:=base) g.lex ((x,(zcr tr base)),true) (k+1)
  by_cases hlk:k<g.lex.length
  case neg=>
   have hke:k=g.lex.length:=by omega
   have hlk':¬(k:Int)<(g.lex.length:Int):=by omega
   have hall:g.lex.take k=g.lex:=by rw [hke,List.take_length]
   rw [hall] at hgo ⊢;have hrz:=C.ok (g.lex.foldl (entS g w (fun x a s base=>zas g w C f x a s base) a s base) ((x,(zcr tr base)),true)).1.1
   have hlk2:¬ g.lex.length<g.lex.length:=by omega
   subst hke;refine zaq mixed ?_
   simp +decide [zaj,int,ints,u32,zak,Lang.d,zad,lexD,hn1,hn2];exact ⟨hgo,hrz.zcj,by omega,⟨by omega,hrz.caps (Nat.le_refl _)⟩,by omega,za2 hrz rfl⟩
  have htf:=htf hlk;have hlk':(k:Int)<g.lex.length:=by omega
  have hrz:=C.ok ((g.lex.take k).foldl (entS g w (fun x a s base=>zas g w C f x a s base) a s base) ((x,(zcr tr base)),true)).1.1
  generalize (g.lex.take k).foldl (entS g w (fun x a s base=>zas g w C f x a s base) a s base) ((x,(zcr tr base)),true)=z at hgo hIk htk hrz htf
  obtain ⟨⟨zx,ztr⟩,zb⟩:=z;simp only at hgo hIk htk hrz
  subst hgo;have he:g.lex[k]∈g.lex:=List.getElem_mem hlk
  obtain ⟨e,ee⟩ : ∃ e,g.lex[k]=e:=⟨_,rfl⟩;have ee1:g.lex[k]?=some e:=by rw [List.getElem?_eq_getElem hlk,ee]
  rw [ee] at he htf;have hent : ∀ y1,entS g w (fun x a s base=>zas g w C f x a s base) a s base (y1,true) e=if zax g.net.steps s e.cls=0 then (y1,true) else stepS g w (fun x a s base=>zas g w C f x a s base) e a (zax g.net.steps s e.cls) base y1 e.forms.length:=fun y1=>by
   unfold entS;simp only [Bool.true_eq_false,if_false]
  rw [hent] at htf;refine zhz mixed 2 {n:=79,next:=C.n,slots:=[(0,.bp 0 0),(1,.d (zad a)),(2,.d (u32 s)),(3,.d (ints base)),(56,.d (lexD g.lex)),(57,.d (int g.lex.length)),(58,.d (int k))],own:=zaj g w ztr (.fn C.fid C.caps) (C.rest zx),base:=C.n,moved:=C.mv} rfl ?_ ?_
  ·simp +decide [ze4,cutK,zaj,int,ints,u32,zak,Lang.d,zad,lexD,hn1,hn2,hlk']
   exact ⟨hrz.zcj,by omega,⟨by omega,hrz.caps (Nat.le_refl _)⟩,by omega,za2 hrz rfl⟩
  simp only [zfr];refine zcu (zco ?_) mixed
  refine zaq mixed ?_
  simp +decide [zaj,int,ints,u32,zak,Lang.d,zad,lexD,Ent.row,hn1,hn2,hlk,hlk',ee,ee1,I64];have hcall:=zgm g w ztr C.n (.fn C.fid C.caps) (C.rest zx) hrz hg s hs e.cls;refine zeb (n:=C.n) (s:=.d (u32 (zax g.net.steps s e.cls))) (caps:=[]) (own0:=zaj g w ztr (.fn C.fid C.caps) (C.rest zx)) (own':=zaj g w ztr (.fn C.fid C.caps) (C.rest zx)) (by rfl) (by simp [Sym.los,Sym.lo,hn0]) (by simp) (zbo hrz) ?_ (zbb hrz) trivial ?_ ?_
  ·intro i o hm
   obtain ⟨l1,l2⟩:=zbb hrz i o hm;refine ⟨l1,l2,?_⟩
   change zab ((C.n,_)::zaj g w ztr (.fn C.fid C.caps) (C.rest zx)) i=some o
   simp only [zab];rw [if_neg (by omega)]
   exact zbs hrz i o hm
  ·simpa [zad,ints,int,u32] using hcall
  have halz : ∀ pre:List (Nat×Obj'),zab (C.rest zx++pre) C.n=zab pre C.n:=fun pre=>zck hrz (Nat.le_refl _)
  have hn1':¬ 0=C.n:=by omega
  have hn2':¬ 1=C.n:=by omega
  by_cases hz:zax g.net.steps s e.cls=0
  ·rw [if_pos hz] at htf
   simp +decide [za1,zan hrz,hn0,hn3,zaj,hn1,hn2,hn1',hn2',halz,zak,Lang.d,int,ints,u32,zad,lexD,Ent.row,hz,I64];have hup:C.Inv (k0+1+(k+1)*(2*cntW f)) zx:=by
    have:=zec C hIk (2*cntW f)
    rwa [Nat.add_mul,Nat.one_mul,← Nat.add_assoc]
   have hmax:=hg.small.few;refine ⟨⟨by omega,by omega⟩,k+1,⟨hlk,by rw [htf],by rw [htf];exact hup,by rw [htf];exact htk⟩,by omega,?_⟩
   rw [htf];exact ⟨hrz.zcj,by omega,hrz.caps (Nat.le_refl _),rfl,zbw hrz (Nat.le_refl _) (Nat.le_refl _) rfl⟩
  rw [if_neg hz] at htf;simp +decide [za1,zan hrz,hn0,hn3,zaj,hn1,hn2,hn1',hn2',halz,zak,Lang.d,int,ints,u32,zad,lexD,Ent.row,hz,I64];have hcm:(k+1)*(2*cntW f)≤5*(2*cntW f):=Nat.mul_le_mul_right _ (by have:=hg.small.few;omega)
  have hcs:(k+1)*(2*cntW f)=k*(2*cntW f)+2*cntW f:=by rw [Nat.add_mul,Nat.one_mul]
  have hs8:zax g.net.steps s e.cls<8:=by
   have hnet:=hg.net'.ok.1;exact zfd (fun q hq=>⟨⟨(hnet q hq).1.1,by have:=(hnet q hq).1.2;omega⟩,(hnet q hq).2.1,by have:=(hnet q hq).2.2;omega⟩) s e.cls
  have hcall2:=zh8 g hg hc w hw C f hW e he (k0+1+k*(2*cntW f)) zx ztr a (zax g.net.steps s e.cls) base hIk (by omega) htk hl hs8 hb hkb
  have hinv2:=zi7 hg hw hW he (b0:=true) (a:=a) (s:=s) hIk (by omega) htk hl hs8 hkb
  rw [hent,if_neg hz] at hinv2;generalize stepS g w (fun x a s base=>zas g w C f x a s base) e a (zax g.net.steps s e.cls) base (zx,ztr) e.forms.length=z2 at hcall2 hinv2 htf
  obtain ⟨⟨z2x,z2t⟩,z2b⟩:=z2;simp only at hcall2 hinv2
  have hr2:=C.ok z2x;have hal2 : ∀ pre:List (Nat×Obj'),zab (C.rest z2x++pre) C.n=zab pre C.n:=fun pre=>zck hr2 (Nat.le_refl _)
  refine zft C.mvOk (n:=C.n) (s:=.d (.bool z2b)) (caps:=[]) (own0:=zaj g w ztr (.fn C.fid C.caps) (C.rest zx)) (own':=zaj g w z2t (.fn C.fid C.caps) (C.rest z2x)) (by rfl) (by simp [Sym.los,Sym.lo,hn0]) (by simp) (zbo hrz) ?_ (zbb hr2) trivial ?_ (by simp [za8,zar,hmv0,hmvn,hmc]) (zav.under hn0 (zav.under hn3 (zav.app (zav.rest hrz) (zav.cons (by simp [zbl,zbt,zar]) zav.nil)))) ?_
  ·intro i o hm
   obtain ⟨l1,l2⟩:=zbb hrz i o hm;refine ⟨l1,l2,?_⟩
   change zab (zaj g w ztr (.fn C.fid C.caps) (C.rest zx)++[(C.n,_)]) i=some o
   exact ze7 (zbs hrz i o hm)
  ·simpa [zad,ints,int,u32,Ent.row] using hcall2
  cases z2b with
  | false=>
   have hst:=hstop (by rw [htf])
   rw [htf] at hst;simp +decide [za1,zan hrz,zcg hrz,hn0,hn3,zaj,zak,Lang.d,int,ints,u32,lexD,hst];exact ⟨hr2.zcj,hr2.caps (Nat.le_refl _),zbw hr2 (Nat.le_refl _) (Nat.le_refl _) rfl⟩
  | true=>
   simp +decide [za1,zan hrz,zcg hrz,hn0,hn3,zaj,zak,Lang.d,int,ints,u32,zad,lexD,Ent.row,hn1,hn2,hn1',hn2',hal2,I64];have hup:C.Inv (k0+1+(k+1)*(2*cntW f)) z2x:=by
    have:=hinv2.1
    rwa [hcs,← Nat.add_assoc]
   have hmax:=hg.small.few;refine ⟨⟨by omega,by omega⟩,k+1,⟨hlk,by rw [htf],by rw [htf];exact hup,by rw [htf];exact hinv2.2⟩,by omega,?_⟩
   rw [htf];exact ⟨hr2.zcj,by omega,hr2.caps (Nat.le_refl _),rfl,zbw hr2 (Nat.le_refl _) (Nat.le_refl _) rfl⟩
 | true=>
  simp +decide [za1,zan hr,hn0,hn3,zaj,zak,Lang.d,int,ints,u32,zad,hn1,hn2,hal,hal',hap,hap',lexD,hfb];have hxr:=C.ok (C.F x a base).1;have hcl:=(C.call k0 x (zcr tr base) a base hI (by unfold cntW at hk;omega) (by omega) hb).1
  have hiz:=(C.call k0 x (zcr tr base) a base hI (by unfold cntW at hk;omega) (by omega) hb).2
  generalize C.F x a base=z at hcl hxr hiz;obtain ⟨zx,zb⟩:=z;simp only at hcl hxr hiz
  refine zft C.mvOk (n:=C.n) (s:=.d (.bool zb)) (caps:=C.caps) (own0:=zaj g w (zcr tr base) (.fn C.fid C.caps) (C.rest x)) (own':=zaj g w (zcr tr base) (.fn C.fid C.caps) (C.rest zx)) (by rfl) (by simp [Sym.los,Sym.lo,hr.caps (Nat.le_refl _)]) (by simp) (zbo hr) ?_ (zbb hxr) trivial ?_ (by simp [za8,zar,hmv0,hmc]) (zav.two hr) ?_
  ·intro i o hm
   obtain ⟨l1,l2⟩:=zbb hr i o hm;refine ⟨l1,l2,?_⟩
   change zab (zaj g w (zcr tr base) (.fn C.fid C.caps) (C.rest x)) i=some o
   exact zbs hr i o hm
  ·simpa [zad,ints,int,u32] using hcl
  cases zb with
  | false=>
   simp +decide [za1,zan hr,hn0,hn3,zaj,zak,Lang.d,int,ints,u32,zad,hn1,hn2,hal,hal',hap,hap',lexD,hfb];exact ⟨hxr.zcj,hr.caps (Nat.le_refl _),za2 hxr rfl⟩
  | true=>
   simp +decide [za1,zan hr,hn0,hn3,zaj,zak,Lang.d,int,ints,u32,zad,hn1,hn2,hal,hal',hap,hap',lexD,hfb];have hr0:=C.ok zx;refine zbc mixed (fun k:Nat=>{n:=79,next:=C.n,slots:=[(0,.bp 0 0),(1,.d (zad a)),(2,.d (u32 s)),(3,.d (ints base)),(56,.d (lexD g.lex)),(57,.d (int g.lex.length)),(58,.d (int k))],own:=zaj g w ((g.lex.take k).foldl (entS g w (fun x a s base=>zas g w C f x a s base) a s base) ((zx,(zcr tr base)),true)).1.2 (.fn C.fid C.caps) (C.rest ((g.lex.take k).foldl (entS g w (fun x a s base=>zas g w C f x a s base) a s base) ((zx,(zcr tr base)),true)).1.1),base:=C.n,moved:=C.mv})
    (fun k=>k≤g.lex.length∧((g.lex.take k).foldl (entS g w (fun x a s base=>zas g w C f x a s base) a s base) ((zx,(zcr tr base)),true)).2=true∧C.Inv (k0+1+k*(2*cntW f)) ((g.lex.take k).foldl (entS g w (fun x a s base=>zas g w C f x a s base) a s base) ((zx,(zcr tr base)),true)).1.1∧∀ b∈((g.lex.take k).foldl (entS g w (fun x a s base=>zas g w C f x a s base) a s base) ((zx,(zcr tr base)),true)).1.2,zb0 b) (fun k=>g.lex.length-k) 0 ⟨by simp,rfl,by simpa using hiz,zla ht hkb⟩ ?_ ?_
   ·simp +decide [zaj,int,ints,u32,zak,Lang.d,zad,lexD,hn1,hn2]
    exact ⟨hr0.zcj,by omega,⟨by omega,hr0.caps (Nat.le_refl _)⟩,by omega,za2 hr0 rfl⟩
   intro k ⟨hkl,hgo,hIk,htk⟩;have htf:=zh9 (entS g w (fun x a s base=>zas g w C f x a s base) a s base) ((zx,(zcr tr base)),true) g.lex k
   have hstop:=zia (wk:=(fun x a s base=>zas g w C f x a s base)) (g:=g) (w:=w) (a:=a) (s:=s) (base:=base) g.lex ((zx,(zcr tr base)),true) (k+1)
   by_cases hlk:k<g.lex.length
   case neg=>
    have hke:k=g.lex.length:=by omega
    have hlk':¬(k:Int)<(g.lex.length:Int):=by omega
    have hall:g.lex.take k=g.lex:=by rw [hke,List.take_length]
    rw [hall] at hgo ⊢;have hrz:=C.ok (g.lex.foldl (entS g w (fun x a s base=>zas g w C f x a s base) a s base) ((zx,(zcr tr base)),true)).1.1
    have hlk2:¬ g.lex.length<g.lex.length:=by omega
    subst hke;refine zaq mixed ?_
    simp +decide [zaj,int,ints,u32,zak,Lang.d,zad,lexD,hn1,hn2];exact ⟨hgo,hrz.zcj,by omega,⟨by omega,hrz.caps (Nat.le_refl _)⟩,by omega,za2 hrz rfl⟩
   have htf:=htf hlk;have hlk':(k:Int)<g.lex.length:=by omega
   have hrz:=C.ok ((g.lex.take k).foldl (entS g w (fun x a s base=>zas g w C f x a s base) a s base) ((zx,(zcr tr base)),true)).1.1
   generalize (g.lex.take k).foldl (entS g w (fun x a s base=>zas g w C f x a s base) a s base) ((zx,(zcr tr base)),true)=z at hgo hIk htk hrz htf
   obtain ⟨⟨zx,ztr⟩,zb⟩:=z;simp only at hgo hIk htk hrz
   subst hgo;have he:g.lex[k]∈g.lex:=List.getElem_mem hlk
   obtain ⟨e,ee⟩ : ∃ e,g.lex[k]=e:=⟨_,rfl⟩;have ee1:g.lex[k]?=some e:=by rw [List.getElem?_eq_getElem hlk,ee]
   rw [ee] at he htf;have hent : ∀ y1,entS g w (fun x a s base=>zas g w C f x a s base) a s base (y1,true) e=if zax g.net.steps s e.cls=0 then (y1,true) else stepS g w (fun x a s base=>zas g w C f x a s base) e a (zax g.net.steps s e.cls) base y1 e.forms.length:=fun y1=>by
    unfold entS;simp only [Bool.true_eq_false,if_false]
   rw [hent] at htf;refine zhz mixed 2 {n:=79,next:=C.n,slots:=[(0,.bp 0 0),(1,.d (zad a)),(2,.d (u32 s)),(3,.d (ints base)),(56,.d (lexD g.lex)),(57,.d (int g.lex.length)),(58,.d (int k))],own:=zaj g w ztr (.fn C.fid C.caps) (C.rest zx),base:=C.n,moved:=C.mv} rfl ?_ ?_
   ·simp +decide [ze4,cutK,zaj,int,ints,u32,zak,Lang.d,zad,lexD,hn1,hn2,hlk']
    exact ⟨hrz.zcj,by omega,⟨by omega,hrz.caps (Nat.le_refl _)⟩,by omega,za2 hrz rfl⟩
   simp only [zfr];refine zcu (zco ?_) mixed
   refine zaq mixed ?_
   simp +decide [zaj,int,ints,u32,zak,Lang.d,zad,lexD,Ent.row,hn1,hn2,hlk,hlk',ee,ee1,I64];have hcall:=zgm g w ztr C.n (.fn C.fid C.caps) (C.rest zx) hrz hg s hs e.cls;refine zeb (n:=C.n) (s:=.d (u32 (zax g.net.steps s e.cls))) (caps:=[]) (own0:=zaj g w ztr (.fn C.fid C.caps) (C.rest zx)) (own':=zaj g w ztr (.fn C.fid C.caps) (C.rest zx)) (by rfl) (by simp [Sym.los,Sym.lo,hn0]) (by simp) (zbo hrz) ?_ (zbb hrz) trivial ?_ ?_
   ·intro i o hm
    obtain ⟨l1,l2⟩:=zbb hrz i o hm;refine ⟨l1,l2,?_⟩
    change zab ((C.n,_)::zaj g w ztr (.fn C.fid C.caps) (C.rest zx)) i=some o
    simp only [zab];rw [if_neg (by omega)]
    exact zbs hrz i o hm
   ·simpa [zad,ints,int,u32] using hcall
   have halz : ∀ pre:List (Nat×Obj'),zab (C.rest zx++pre) C.n=zab pre C.n:=fun pre=>zck hrz (Nat.le_refl _)
   have hn1':¬ 0=C.n:=by omega
   have hn2':¬ 1=C.n:=by omega
   by_cases hz:zax g.net.steps s e.cls=0
   ·rw [if_pos hz] at htf
    simp +decide [za1,zan hrz,hn0,hn3,zaj,hn1,hn2,hn1',hn2',halz,zak,Lang.d,int,ints,u32,zad,lexD,Ent.row,hz,I64];have hup:C.Inv (k0+1+(k+1)*(2*cntW f)) zx:=by
     have:=zec C hIk (2*cntW f)
     rwa [Nat.add_mul,Nat.one_mul,← Nat.add_assoc]
    have hmax:=hg.small.few;refine ⟨⟨by omega,by omega⟩,k+1,⟨hlk,by rw [htf],by rw [htf];exact hup,by rw [htf];exact htk⟩,by omega,?_⟩
    rw [htf];exact ⟨hrz.zcj,by omega,hrz.caps (Nat.le_refl _),rfl,zbw hrz (Nat.le_refl _) (Nat.le_refl _) rfl⟩
   rw [if_neg hz] at htf;simp +decide [za1,zan hrz,hn0,hn3,zaj,hn1,hn2,hn1',hn2',halz,zak,Lang.d,int,ints,u32,zad,lexD,Ent.row,hz,I64];have hcm:(k+1)*(2*cntW f)≤5*(2*cntW f):=Nat.mul_le_mul_right _ (by have:=hg.small.few;omega)
   have hcs:(k+1)*(2*cntW f)=k*(2*cntW f)+2*cntW f:=by rw [Nat.add_mul,Nat.one_mul]
   have hs8:zax g.net.steps s e.cls<8:=by
    have hnet:=hg.net'.ok.1;exact zfd (fun q hq=>⟨⟨(hnet q hq).1.1,by have:=(hnet q hq).1.2;omega⟩,(hnet q hq).2.1,by have:=(hnet q hq).2.2;omega⟩) s e.cls
   have hcall2:=zh8 g hg hc w hw C f hW e he (k0+1+k*(2*cntW f)) zx ztr a (zax g.net.steps s e.cls) base hIk (by omega) htk hl hs8 hb hkb
   have hinv2:=zi7 hg hw hW he (b0:=true) (a:=a) (s:=s) hIk (by omega) htk hl hs8 hkb
   rw [hent,if_neg hz] at hinv2;generalize stepS g w (fun x a s base=>zas g w C f x a s base) e a (zax g.net.steps s e.cls) base (zx,ztr) e.forms.length=z2 at hcall2 hinv2 htf
   obtain ⟨⟨z2x,z2t⟩,z2b⟩:=z2;simp only at hcall2 hinv2
   have hr2:=C.ok z2x;have hal2 : ∀ pre:List (Nat×Obj'),zab (C.rest z2x++pre) C.n=zab pre C.n:=fun pre=>zck hr2 (Nat.le_refl _)
   refine zft C.mvOk (n:=C.n) (s:=.d (.bool z2b)) (caps:=[]) (own0:=zaj g w ztr (.fn C.fid C.caps) (C.rest zx)) (own':=zaj g w z2t (.fn C.fid C.caps) (C.rest z2x)) (by rfl) (by simp [Sym.los,Sym.lo,hn0]) (by simp) (zbo hrz) ?_ (zbb hr2) trivial ?_ (by simp [za8,zar,hmv0,hmvn,hmc]) (zav.under hn0 (zav.under hn3 (zav.app (zav.rest hrz) (zav.cons (by simp [zbl,zbt,zar]) zav.nil)))) ?_
   ·intro i o hm
    obtain ⟨l1,l2⟩:=zbb hrz i o hm;refine ⟨l1,l2,?_⟩
    change zab (zaj g w ztr (.fn C.fid C.caps) (C.rest zx)++[(C.n,_)]) i=some o
    exact ze7 (zbs hrz i o hm)
   ·simpa [zad,ints,int,u32,Ent.row] using hcall2
   cases z2b with
   | false=>
    have hst:=hstop (by rw [htf])
    rw [htf] at hst;simp +decide [za1,zan hrz,zcg hrz,hn0,hn3,zaj,zak,Lang.d,int,ints,u32,lexD,hst];exact ⟨hr2.zcj,hr2.caps (Nat.le_refl _),zbw hr2 (Nat.le_refl _) (Nat.le_refl _) rfl⟩
   | true=>
    simp +decide [za1,zan hrz,zcg hrz,hn0,hn3,zaj,zak,Lang.d,int,ints,u32,zad,lexD,Ent.row,hn1,hn2,hn1',hn2',hal2,I64];have hup:C.Inv (k0+1+(k+1)*(2*cntW f)) z2x:=by
     have:=hinv2.1
     rwa [hcs,← Nat.add_assoc]
    have hmax:=hg.small.few;refine ⟨⟨by omega,by omega⟩,k+1,⟨hlk,by rw [htf],by rw [htf];exact hup,by rw [htf];exact hinv2.2⟩,by omega,?_⟩
    rw [htf];exact ⟨hr2.zcj,by omega,hr2.caps (Nat.le_refl _),rfl,zbw hr2 (Nat.le_refl _) (Nat.le_refl _) rfl⟩
end Go.V

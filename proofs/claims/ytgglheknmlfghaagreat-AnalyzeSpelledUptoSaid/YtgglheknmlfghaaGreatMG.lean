/- Contracts and plain laws of this seat: part MG. It needs no conditions. -/
import Derived.Test.YtgglheknmlfghaaGreatSw
import Derived.WalkKit
import Derived.BigCall
import Derived.KernelRfl
import Derived.Shelf.Strings.Builder1
import Derived.Test.YtgglheknmlfghaaGreatS3
import Derived.Test.YtgglheknmlfghaaGreatME
import Derived.Test.YtgglheknmlfghaaGreatMB
set_option linter.unusedVariables false
set_option linter.unusedSimpArgs false
set_option linter.unusedSectionVars false
set_option maxRecDepth 100000
namespace Go.Proofs
open Go.RowKit Go.Shelf
theorem yd6:(Tryz.prog.info? 153).map (·.size)=some 2:=by kernel_rfl
theorem yfj:liesAt Tryz.prog Tryz.prog.depth 153 (2/Tryz.prog.cellsOf 153) 0 153 1=true:=by kernel_rfl
theorem yd7 (b:Nat) (w:World) (h0:w.cell? ⟨b,0,none⟩=some (.pointer (some ⟨b,0,none⟩))) :
  Calls Tryz.prog 150 #[.pointer (some ⟨b,0,none⟩)] w fun e w'=>e = .returned (.tuple #[])∧w'=w:=by
 obtain ⟨j,hj,_⟩:=Option.map_eq_some_iff.1 yd6
 go_enter Tryz.func150,Tryz.ntmps150
 go_wp2
 rw [Lib.run_neq_ptr_same w _ Tryz.underlying151 hj]
 go_wp2
 go_end0
 exact ⟨rfl,rfl⟩
theorem ybs (b:Nat) (w:World) (h0:w.cell? ⟨b,0,none⟩=some (.pointer none)) (hsh:w.shape? b=some (153,2)) (hfz:w.frozen? ⟨b,0,none⟩=false) :
  Calls Tryz.prog 150 #[.pointer (some ⟨b,0,none⟩)] w fun e w'=>e = .returned (.tuple #[])∧w'=w.setCell ⟨b,0,none⟩ (.pointer (some ⟨b,0,none⟩)):=by
 obtain ⟨j,hj,hjs⟩:=Option.map_eq_some_iff.1 yd6
 go_enter Tryz.func150,Tryz.ntmps150
 go_wp2
 rw [Lib.run_to_unsafe w ⟨b,0,none⟩ Tryz.underlying151 Tryz.underlying213 hj (by rw [hjs];decide) hsh (Nat.zero_lt_succ 1)]
 simp only [Result.andThen]
 rw [Oper.upon_value]
 go_wp2
 rw [run_callFunc_extern Tryz.func170 (by kernel_rfl) (by kernel_rfl) (by kernel_rfl) (e:=Extern.AbiNoEscape.same) (by kernel_rfl)]
 rw [Lib.run_noEscape]
 simp only [Result.andThen]
 rw [Oper.upon_value]
 go_wp2
 rw [Lib.run_from_unsafe w ⟨b,0,none⟩ Tryz.underlying213 Tryz.underlying151 hj hsh yfj]
 simp only [Result.andThen]
 rw [Oper.upon_value]
 go_wp2
 go_end0
 exact ⟨rfl,rfl⟩
theorem ygk:Builder.X72 Tryz.prog Tryz.bldStr_ren:=⟨yd6,yfj⟩
theorem bldX:Builder.Extra Tryz.prog Tryz.bldStr_ren:={ygk with
 t5:=Tryz.underlying5
 a5:=Tryz.isAgg5
 z5:=Tryz.sizeOf5
 v5:=Tryz.zeroValue5
 infoByte:=by kernel_rfl
 cellsByte:=by kernel_rfl
 sizeByte:=by kernel_rfl
 neB5:=by decide}
end Go.Proofs
namespace Go.V
open Go Go.Proofs
theorem yc2 (a b:List Int) (hb:b.length<2^62):zay Tryz.prog 73 [ints a,ints b] (.bool (decide (a=b))):=by
 refine zaa mixed Tryz.func73 rfl call_73 ?_
 simp [Tryz.f73,ints]
 refine ⟨fun h e=>h (by rw [e]),fun h=>?_⟩
 refine zaf mixed (fun k:Nat=>{n:=26,next:=0,slots:=[(0,.d (ints a)),(1,.d (ints b)),(12,.d (.int .i64 a.length)),(13,.d (.int .i64 k))],own:=[]})
  (fun k=>k≤a.length∧a.take k=b.take k) (fun k=>a.length-k) 0 (by simp) (by simp [ints]) ?_
 intro k ⟨hk,hp⟩
 have h:a.length=b.length:=by omega
 by_cases hlt:k<a.length
 ·have e1:a[k]?=some a[k]:=List.getElem?_eq_getElem hlt
  have e2:b[k]?=some (b[k]'(by omega)):=List.getElem?_eq_getElem (by omega)
  have hlt':k<b.length:=by omega
  simp +decide [ints,int,e1,e2,hlt,hlt',I64];refine ⟨fun hne e=>by subst e;simp at hne,fun he=>⟨by omega,k+1,⟨hlt,?_⟩,by omega,by omega⟩⟩
  rw [zam hlt,zam hlt',hp,he]
 ·have:k=a.length:=by omega
  subst this;simp +decide [ints];rw [List.take_length,h,List.take_length] at hp;exact hp
def begW (w s:List Int):Bool:=decide (s.length≤w.length)&&decide (s=w.take s.length)
def zkg (us:List Grap) (w:List Int):Nat→Option Nat
 | 0=>none
 | k+1=>match us[k]? with
  | none=>zkg us w k
  | some u=>if begW w u.segs=true then (match zkg us w k with
    | none=>some k
    | some b=>if ((us[b]?.map fun v=>v.segs.length).getD 0)<u.segs.length then some k else some b)
   else zkg us w k
theorem zja {us:List Grap} {w:List Int} : ∀ {k b:Nat},zkg us w k=some b→∃ v,us[b]?=some v∧begW w v.segs=true
 | 0,b,h=>by cases h
 | k+1,b,h=>by
  unfold zkg at h;split at h
  ·exact zja h
  ·rename_i u hu
   split at h
   ·rename_i hb
    split at h
    ·obtain rfl:=Option.some.inj h;exact ⟨u,hu,hb⟩
    ·rename_i b' hb'
     split at h
     ·obtain rfl:=Option.some.inj h;exact ⟨u,hu,hb⟩
     ·obtain rfl:=Option.some.inj h
      exact zja hb'
   ·exact zja h
set_option maxHeartbeats 8000000 in
theorem z7m (o:Orth) (ho:OrthC o) (w:List Int) (hw:w.length<2^40):zay Tryz.prog 108 [.agg o.cells,ints w] (int (optI (zkg o.units w o.units.length))):=by
 have hfew:=ho.few.1
 refine zaa mixed Tryz.func108 rfl call_108 ?_
 simp +decide [Tryz.f108,int,ints,za4,Orth.cells]
 refine zbc mixed (fun k:Nat=>{n:=51,next:=1,slots:=[(1,.d (ints w)),(2,.bp 0 0),(5,.d (int (optI (zkg o.units w k)))),(9,.d (za4 o.units)),(10,.d (int o.units.length)),(11,.d (int k))],own:=[(0,.box 28 (o.cells.map .d))]})
  (fun k=>k≤o.units.length) (fun k=>o.units.length-k) 0 (Nat.zero_le _) ?_ ?_
 ·simp +decide [int,ints,za4,Orth.cells,zkg,optI]
 intro k hk
 refine zaq mixed ?_
 by_cases hlt:k<o.units.length
 case neg=>
  have:k=o.units.length:=by omega
  subst this;simp +decide [int,ints,za4,Orth.cells]
 have hlt':(k:Int)<o.units.length:=by omega
 obtain ⟨u,eu⟩ : ∃ u,o.units[k]=u:=⟨_,rfl⟩
 have eu1:o.units[k]?=some u:=by rw [List.getElem?_eq_getElem hlt,eu]
 have hus:=(ho.units o.units[k] (List.getElem_mem hlt)).2
 rw [eu] at hus
 have hstep:zkg o.units w (k+1)=if begW w u.segs=true then (match zkg o.units w k with
    | none=>some k
    | some b=>if ((o.units[b]?.map fun v=>v.segs.length).getD 0)<u.segs.length then some k else some b)
   else zkg o.units w k:=by rw [zkg,eu1]
 by_cases c1:w.length<u.segs.length
 ·have c1':(w.length:Int)<u.segs.length:=by omega
  have hb:begW w u.segs=false:=by unfold begW;rw [decide_eq_false (by omega)];rfl
  rw [hb,if_neg (by decide)] at hstep
  simp +decide [int,ints,za4,Orth.cells,hlt,hlt',eu,eu1,Grap.row,I64,c1,c1'];exact ⟨by omega,k+1,hlt,by omega,by rw [hstep],by omega⟩
 have c1':¬(w.length:Int)<u.segs.length:=by omega
 have hE:=yc2 u.segs (w.take u.segs.length) (by rw [List.length_take];omega)
 have hbq:begW w u.segs=decide (u.segs=w.take u.segs.length):=by unfold begW;rw [decide_eq_true (by omega)];rfl
 have c2:u.segs.length≤w.length:=by omega
 have c2':(u.segs.length:Int)≤w.length:=by omega
 rw [← hbq] at hE
 simp only [ints,List.map_take] at hE
 simp +decide [int,ints,za4,Orth.cells,hlt,hlt',eu,eu1,Grap.row,I64,c1,c1',c2,c2']
 refine zah (by rfl) (by rfl) hE (by simp [D.scalar]) ?_
 cases hb:begW w u.segs with
 | false=>
  rw [hb,if_neg (by decide)] at hstep
  simp +decide [int,ints,za4,Orth.cells,hlt,hlt',eu,eu1,Grap.row,I64];exact ⟨by omega,k+1,hlt,by omega,by rw [hstep],by omega⟩
 | true=>
  rw [hb,if_pos rfl] at hstep;cases hbb:zkg o.units w k with
  | none=>
   rw [hbb] at hstep;simp only at hstep
   simp +decide [int,ints,za4,Orth.cells,hlt,hlt',eu,eu1,Grap.row,I64,optI];exact ⟨by omega,k+1,hlt,by omega,by rw [hstep],by omega⟩
  | some b=>
   obtain ⟨v,ev1,_⟩:=zja hbb;obtain ⟨hbl,ev⟩:=List.getElem?_eq_some_iff.1 ev1;have hbl':(b:Int)<o.units.length:=by omega
   rw [hbb] at hstep;simp only at hstep
   rw [ev1] at hstep;simp only [Option.map_some,Option.getD_some] at hstep;have hnb:¬(b:Int)<0:=by omega
   by_cases hc:v.segs.length<u.segs.length
   ·have hc':(v.segs.length:Int)<u.segs.length:=by omega
    rw [if_pos hc] at hstep;simp +decide [int,ints,za4,Orth.cells,hlt,hlt',eu,eu1,Grap.row,I64,optI,hbl,hbl',ev,ev1,hc,hc',hnb];exact ⟨by omega,k+1,hlt,by omega,by rw [hstep],by omega⟩
   ·have hc':¬(v.segs.length:Int)<u.segs.length:=by omega
    rw [if_neg hc] at hstep;simp +decide [int,ints,za4,Orth.cells,hlt,hlt',eu,eu1,Grap.row,I64,optI,hbl,hbl',ev,ev1,hc,hc',hnb];exact ⟨by omega,k+1,hlt,by omega,by rw [hstep],by omega⟩
theorem z7n (s:ByteArray) (hs:s.size<2^40) :
  zcb Tryz.prog 109 [.bp 0 0,.d (.str s)] [(0,.box 153 [.d (.val (.pointer none)),.nils])] 1 (.tup [.d (int s.size),.d (.val .nilIface)]) 2 [(1,.arr 5 1 (za7 s)),(0,.box 153 [.bp 0 0,.ar 1])] [1]:=by
 have hC:zcb Tryz.prog 150 [.bp 0 0] [(0,.box 153 [.d (.val (.pointer none)),.nils])] 1 (.d (.tup [])) 1 [(0,.box 153 [.bp 0 0,.nils])] []:=z7p (by rfl) ybs
 refine zbg mixed Tryz.func109 rfl call_109 (by simp [Sym.los,Sym.lo]) ?_
 simp +decide [Tryz.f109,int]
 refine zal.mut [0] [.bp 0 0] [(0,.box 153 [.d (.val (.pointer none)),.nils])] (by rfl) (by simp) (by simp) (by simp) hC ?_
 simp +decide [int,maxLen]
 exact ⟨by omega,by omega⟩
theorem z7o (s:ByteArray) (rows:List (List D)) (hs:rows.length+s.size<2^40) :
  zcb Tryz.prog 109 [.bp 0 0,.d (.str s)] [(0,.box 153 [.bp 0 0,.ar 1]),(1,.arr 5 1 rows)] 2 (.tup [.d (int s.size),.d (.val .nilIface)]) 2 [(0,.box 153 [.bp 0 0,.ar 1]),(1,.arr 5 1 (rows++za7 s))] [1]:=by
 have hC:zcb Tryz.prog 150 [.bp 0 0] [(0,.box 153 [.bp 0 0,.ar 1]),(1,.arr 5 1 rows)] 2 (.d (.tup [])) 2 [(0,.box 153 [.bp 0 0,.ar 1]),(1,.arr 5 1 rows)] []:=ybu (by rfl) yd7 _ _ _
 refine zbg mixed Tryz.func109 rfl call_109 (by simp [Sym.los,Sym.lo]) ?_
 simp +decide [Tryz.f109,int]
 refine zal.mut [0,1] [.bp 0 0] [(0,.box 153 [.bp 0 0,.ar 1]),(1,.arr 5 1 rows)] (by rfl) (by simp) (by simp) (by simp;rfl) hC ?_
 simp +decide [int,maxLen]
 exact ⟨by omega,by omega⟩
theorem yd8 (s:ByteArray) (hs:s.size≠0) :
  zcb Tryz.prog 110 [.bp 0 0] [(0,.box 153 [.bp 0 0,.ar 1]),(1,.arr 5 1 (za7 s))] 2 (.d (.str s)) 2 [] []:=z3t Tryz.yfk bldX (by rfl) s hs
theorem zy2 (a b:ByteArray):za7 (a++b)=za7 a++za7 b:=by
 unfold za7
 simp [ByteArray.data_append]
def zic (us:List Grap) (w:List Int):Nat→Nat→ByteArray→ByteArray×Int×Int
 | 0,_,_=>(.empty,0,0)
 | f+1,at_,acc=>if at_<w.length then (match zkg us (w.drop at_) us.length with
   | none=>(.empty,at_,20)
   | some b=>zic us w f (at_+((us[b]?.map fun v=>v.segs.length).getD 0)) (acc++((us[b]?.map fun v=>v.graph).getD .empty)))
  else (acc,0,0)
def zc3 (us:List Grap) (w:List Int):ByteArray×Int×Int:=
 if w.length=0 then (.empty,0,4) else if 24<w.length then (.empty,0,5) else zic us w (w.length+1) 0 .empty
theorem znj {us:List Grap} (hu : ∀ u∈us,UnitF u) {w:List Int} : ∀ {f at_:Nat} {acc:ByteArray},acc.size≤32*at_→at_≤w.length→(zic us w f at_ acc).1.size≤32*w.length
 | 0,_,_,_,_=>by simp [zic]
 | f+1,at_,acc,h,hat=>by
  unfold zic;split
  ·split
   ·simp
   ·rename_i b hb
    obtain ⟨v,hv,hbeg⟩:=zja hb;have hF:=hu v (List.mem_of_getElem? hv);have hl:v.segs.length≤(w.drop at_).length:=by
     unfold begW at hbeg;rw [Bool.and_eq_true,decide_eq_true_eq] at hbeg;exact hbeg.1
    rw [List.length_drop] at hl;rw [hv];refine znj hu ?_ ?_
    ·have:=hF.size;have:=hF.segs
     rw [ByteArray.size_append];simp only [Option.map_some,Option.getD_some];omega
    ·simp only [Option.map_some,Option.getD_some]
     omega
  ·have:acc.size≤32*w.length:=by omega
   exact this
theorem zpi {us:List Grap} (hu : ∀ u∈us,UnitF u) (w:List Int):(zc3 us w).1.size≤768:=by
 unfold zc3
 split
 ·simp
 ·split
  ·simp
  ·have:=znj hu (w:=w) (f:=w.length+1) (at_:=0) (acc:=.empty) (by simp) (by omega)
   omega
set_option maxHeartbeats 16000000 in
theorem z02 (o:Orth) (ho:OrthC o) (hu : ∀ u∈o.units,UnitF u) (w:List Int) (hw:w.length<2^40) :
  zay Tryz.prog 72 [.agg o.cells,ints w] (.tup [.str (zc3 o.units w).1,int (zc3 o.units w).2.1,int (zc3 o.units w).2.2]):=by
 refine zaa mixed Tryz.func72 rfl call_72 ?_
 by_cases c0:w.length=0
 ·have:w=[]:=List.eq_nil_of_length_eq_zero c0
  subst this;simp +decide [Tryz.f72,int,ints,Orth.cells,zc3]
 have c0':¬(w.length:Int)=0:=by omega
 by_cases c1:24<w.length
 ·have c1':(24:Int)<w.length:=by omega
  have hsp:zc3 o.units w=(.empty,0,5):=by unfold zc3;rw [if_neg c0,if_pos c1]
  rw [hsp];simp +decide [Tryz.f72,int,ints,Orth.cells,c0,c0',c1,c1']
 have c1':¬(24:Int)<w.length:=by omega
 have hsp:zc3 o.units w=zic o.units w (w.length+1) 0 .empty:=by unfold zc3;rw [if_neg c0,if_neg c1]
 simp +decide [Tryz.f72,int,ints,Orth.cells,c0,c0',c1,c1']
 refine zbc mixed (fun x:Bool×Nat×Nat×ByteArray=>if x.1=true
   then {n:=45,next:=2,slots:=[(1,.d (ints w)),(2,.bp 0 0),(7,.bp 1 0),(8,.d (int x.2.2.1))],own:=[(0,.box 28 (o.cells.map .d)),(1,.box 153 [.d (.val (.pointer none)),.nils])]}
   else {n:=45,next:=3,slots:=[(1,.d (ints w)),(2,.bp 0 0),(7,.bp 1 0),(8,.d (int x.2.2.1))],own:=[(0,.box 28 (o.cells.map .d)),(1,.box 153 [.bp 1 0,.ar 2]),(2,.arr 5 1 (za7 x.2.2.2))],moved:=[2]})
  (fun x=>x.2.2.1≤w.length∧w.length<x.2.2.1+x.2.1∧zic o.units w x.2.1 x.2.2.1 x.2.2.2=zc3 o.units w∧x.2.2.2.size≤32*x.2.2.1∧(x.1=true→x.2.2.1=0∧x.2.2.2 = .empty)∧(x.1=false→x.2.2.2.size≠0)) (fun x=>w.length-x.2.2.1)
  (true,w.length+1,0,.empty) ⟨by simp,by simp,hsp.symm,by simp,by simp,by simp⟩ ?_ ?_
 ·simp +decide [int,ints,Orth.cells]
 rintro ⟨fr,f,at_,acc⟩ ⟨hat,hf,hgo,hsz,hfr,hus⟩
 simp only at hat hf hgo hsz hfr hus
 refine zaq mixed ?_
 obtain ⟨f,rfl⟩ : ∃ f',f=f'+1:=⟨f-1,by omega⟩
 unfold zic at hgo
 by_cases hlt:at_<w.length
 case neg=>
  have hlt':¬(at_:Int)<w.length:=by omega
  rw [if_neg hlt] at hgo;cases fr with
  | true=>have:=(hfr rfl).1;omega
  | false=>
   rw [← hgo];simp +decide [int,ints,hlt,hlt',Orth.cells];refine zal.mut [1,2] [.bp 0 0] [(0,.box 153 [.bp 0 0,.ar 1]),(1,.arr 5 1 (za7 acc))] (by rfl) (by simp) (by simp) (by simp;rfl) (yd8 acc (hus rfl)) ?_
   simp +decide [int]
 rw [if_pos hlt] at hgo
 have hlt':(at_:Int)<w.length:=by omega
 have hU:=z7m o ho (w.drop at_) (by rw [List.length_drop];omega)
 simp only [ints,List.map_drop] at hU
 have htk:List.take w.length (w.map fun n=>[D.int .i64 n])=w.map fun n=>[D.int .i64 n]:=List.take_of_length_le (by simp)
 cases hb:zkg o.units (w.drop at_) o.units.length with
 | none=>
  rw [hb] at hgo hU;simp only at hgo
  simp only [optI] at hU;rw [← hgo];cases fr with
  | true=>
   simp +decide [int,ints,hlt,hlt',hat,htk,Orth.cells];refine zah (by rfl) (by rfl) hU (by simp [D.scalar,Orth.cells]) ?_
   simp +decide [int,ints,hlt,hlt',Orth.cells]
  | false=>
   simp +decide [int,ints,hlt,hlt',hat,htk,Orth.cells];refine zah (by rfl) (by rfl) hU (by simp [D.scalar,Orth.cells]) ?_
   simp +decide [int,ints,hlt,hlt',Orth.cells]
 | some b=>
  obtain ⟨v,ev1,hbeg⟩:=zja hb;obtain ⟨hbl,ev⟩:=List.getElem?_eq_some_iff.1 ev1;have hbl':(b:Int)<o.units.length:=by omega
  have hnb:¬(b:Int)<0:=by omega
  have hF:=hu v (List.mem_of_getElem? ev1);have hv32:=hF.size;have hv0:=hF.pos;have hv1:=hF.segs;have hvl:v.segs.length≤w.length-at_:=by
   unfold begW at hbeg;rw [Bool.and_eq_true,decide_eq_true_eq,List.length_drop] at hbeg;exact hbeg.1
  rw [hb] at hgo hU;simp only [ev1,Option.map_some,Option.getD_some] at hgo;simp only [optI] at hU;have hinv:(acc++v.graph).size≤32*(at_+v.segs.length):=by rw [ByteArray.size_append];omega
  have hne:(acc++v.graph).size≠0:=by rw [ByteArray.size_append];omega
  cases fr with
  | true=>
   obtain ⟨h0,hacc⟩:=hfr rfl;subst hacc;simp +decide [int,ints,hlt,hlt',hat,htk,Orth.cells];refine zah (by rfl) (by rfl) hU (by simp [D.scalar,Orth.cells]) ?_
   simp +decide [int,ints,hlt,hlt',Orth.cells,za4,Grap.row,hbl,hbl',ev,ev1,hnb];refine zal.mut [1] [.bp 0 0,.d (.str v.graph)] [(0,.box 153 [.d (.val (.pointer none)),.nils])] (by rfl) (by simp) (by simp) (by simp) (z7n v.graph (by omega)) ?_
   simp +decide [int,ints,hlt,hlt',Orth.cells,za4,Grap.row,hbl,hbl',ev,ev1,hnb,I64];exact ⟨⟨by omega,by omega⟩,f,at_+v.segs.length,ByteArray.empty++v.graph,⟨by omega,by omega,hgo,hinv,fun e=>hne (by rw [e];rfl)⟩,by omega,by omega,by simp⟩
  | false=>
   simp +decide [int,ints,hlt,hlt',hat,htk,Orth.cells];refine zah (by rfl) (by rfl) hU (by simp [D.scalar,Orth.cells]) ?_
   simp +decide [int,ints,hlt,hlt',Orth.cells,za4,Grap.row,hbl,hbl',ev,ev1,hnb];refine zal.mut [1,2] [.bp 0 0,.d (.str v.graph)] [(0,.box 153 [.bp 0 0,.ar 1]),(1,.arr 5 1 (za7 acc))] (by rfl) (by simp) (by simp) (by simp;rfl) (z7o v.graph (za7 acc) (by rw [zhl];omega)) ?_
   simp +decide [int,ints,hlt,hlt',Orth.cells,za4,Grap.row,hbl,hbl',ev,ev1,hnb,I64];exact ⟨⟨by omega,by omega⟩,f,at_+v.segs.length,acc++v.graph,⟨by omega,by omega,hgo,hinv,fun e=>hne (by rw [e];rfl)⟩,by omega,by omega,(zy2 _ _).symm⟩
end Go.V
namespace Go.V
open Go Go.Proofs
def z03 (us:List Grap) (w:List Int):Bool:=decide ((zc3 us w).2.2=0)&&(decide ((zkf us (zc3 us w).1).2.2=0)&&decide ((zkf us (zc3 us w).1).1=w))
theorem ybt (o:Orth) (ho:OrthC o) (hu : ∀ u∈o.units,UnitF u) (w:List Int) (hw:w.length<2^40):zay Tryz.prog 34 [.agg o.cells,ints w] (.bool (z03 o.units w)):=by
 have hS:=z02 o ho hu w hw
 have hz:=zpi hu w
 have hR:=zwe o ho (fun u h=>(hu u h).pos) (zc3 o.units w).1 (by omega)
 have hE:=yc2 (zkf o.units (zc3 o.units w).1).1 w (by omega)
 unfold z03
 refine zaa mixed Tryz.func34 rfl call_34 ?_
 generalize zc3 o.units w=z at *
 obtain ⟨s,p,e⟩:=z
 simp only at hS hR hE ⊢
 generalize zkf o.units s=y at *
 obtain ⟨v,q,f⟩:=y
 simp only at hS hR hE ⊢
 simp +decide [Tryz.f34,int,ints,Orth.cells]
 refine zal.pure (by rfl) hS (by simp [D.scalar,Orth.cells]) ?_
 by_cases he:e=0
 case neg=>simp +decide [int,ints,Orth.cells,he]
 simp +decide [int,ints,Orth.cells,he]
 refine zal.pure (by rfl) hR (by simp [D.scalar,Orth.cells]) ?_
 by_cases hf:f=0
 case neg=>simp +decide [int,ints,Orth.cells,hf]
 simp +decide [int,ints,Orth.cells,hf]
 refine zal.pure (by rfl) hE (by simp [D.scalar]) ?_
 simp +decide [int,ints]
def zha (g:Lang) (a:List Prt):ByteArray×Int:=if (zb1 g a).2≠0 then (.empty,(zb1 g a).2) else ((zc3 g.orth.units (zb1 g a).1).1,(zc3 g.orth.units (zb1 g a).1).2.2)
theorem z04 {g:Lang} {a:List Prt} (hz:(zb1 g a).2=0):(zb1 g a).1.length≤24:=by
 have:=z5o (g:=g) a
 have:=zsf (zse hz)
 omega
theorem z3s (g:Lang) (hL:LightF g) (hg:LangC g) (a:List Prt) (ha:a.length<2^20):zay Tryz.prog 33 [g.d,anaD a] (.tup [.str (zha g a).1,int (zha g a).2]):=by
 have hR:=hL.z3e hg
 have hF:=z0j g hR.toLangOk a ha
 have h24:=z04 (g:=g) (a:=a)
 unfold zha
 refine zaa mixed Tryz.func33 rfl call_33 ?_
 generalize zb1 g a=z at *
 obtain ⟨w,e⟩:=z
 simp only at hF h24 ⊢
 simp +decide [Tryz.f33,int,Lang.d,anaD,zak]
 refine zal.pure (by rfl) hF (by simp [Lang.d,anaD,zak,int]) ?_
 by_cases he:e=0
 case neg=>simp +decide [int,ints,he]
 have hS:=z02 g.orth hg.orth hL.units1 w (by have:=h24 he;omega)
 subst he
 simp +decide [int,ints]
 refine zal.pure (by rfl) hS (by simp [D.scalar,Orth.cells]) ?_
 simp +decide [int,ints]
set_option maxHeartbeats 16000000 in
theorem zy3 (g:Lang) (hg:LangC g) (a:List Prt) (ha:a.length≤1048576):zay Tryz.prog 12 [g.d,anaD a] (.bool true):=by
 refine zaa mixed Tryz.func12 rfl call_12 ?_
 by_cases c1:(10:Int)<a.length
 ·simp +decide [Tryz.f12,int,anaD,zad,c1]
  refine zal.pure (by rfl) zka (by simp) ?_
  simp +decide
 simp +decide [Tryz.f12,int,anaD,zad,Lang.d,zak,c1]
 refine zal.some (by rfl) (z3d g hg) ?_
 rintro r ⟨b,rfl,hL⟩
 cases b with
 | false=>
  simp +decide [int];refine zal.pure (by rfl) zka (by simp) ?_
  simp +decide
 | true=>
  have hL:=hL rfl;have hR:=hL.z3e hg;have hF:=z0j g hR.toLangOk a (by omega)
  have hSp:=z3s g hL hg a (by omega)
  simp +decide [int];refine zal.pure (by rfl) hSp (by simp [D.scalar]) ?_
  simp +decide [int];refine zal.pure (by rfl) hF (by simp [D.scalar]) ?_
  by_cases hz:(zb1 g a).2=0
  case neg=>
   have hz2:(zha g a).2≠0:=by unfold zha;rw [if_pos hz];exact hz
   simp +decide [int,ints,hz,hz2];refine zal.pure (by rfl) zka (by simp) ?_
   simp +decide
  have hse:zha g a=((zc3 g.orth.units (zb1 g a).1).1,(zc3 g.orth.units (zb1 g a).1).2.2):=by unfold zha;rw [if_neg (by simp [hz])]
  have hfl:=z04 hz;have hX:=ybt g.orth hg.orth hL.units1 (zb1 g a).1 (by omega)
  have hsz:=zpi hL.units1 (zb1 g a).1;have h1:=yd5 g hL hg (zc3 g.orth.units (zb1 g a).1).1 (by omega)
  have hfound:=z3n hL hz;have hO:=yd3 hL (zb1 g a).1;rw [hse];by_cases hx:z03 g.orth.units (zb1 g a).1=true
  case neg=>
   rw [Bool.not_eq_true] at hx;rw [hx] at hX;by_cases hs0:(zc3 g.orth.units (zb1 g a).1).2.2=0
   ·simp +decide [int,ints,hz,hs0,Orth.cells]
    refine zal.pure (by rfl) hX (by simp [D.scalar,Orth.cells]) ?_
    simp +decide [int,ints];refine zal.pure (by rfl) zka (by simp) ?_
    simp +decide
   ·simp +decide [int,ints,hz,hs0,Orth.cells]
    refine zal.pure (by rfl) zka (by simp) ?_
    simp +decide
  rw [hx] at hX;unfold z03 at hx;rw [Bool.and_eq_true,Bool.and_eq_true,decide_eq_true_eq,decide_eq_true_eq,decide_eq_true_eq] at hx;obtain ⟨hs0,hr0,hrw⟩:=hx;have hof:ofE g (zc3 g.orth.units (zb1 g a).1).1=allE g (zb1 g a).1:=by unfold ofE;rw [if_neg (by simp [hr0]),hrw]
  rw [hof] at h1;simp +decide [int,ints,hz,hs0,Orth.cells];refine zal.pure (by rfl) hX (by simp [D.scalar,Orth.cells]) ?_
  simp +decide [int,ints];refine zal.pure (by rfl) h1 (by simp [D.scalar]) ?_
  generalize (zb1 g a).1=w at *;generalize (allE g w).2=e at h1 hfound hO;generalize (allE g w).1=O at h1 hfound hO;rcases hfound with he | ⟨he,hmem⟩
  ·simp +decide [int,ints,he,zh0]
   refine zal.pure (by rfl) zka (by simp) ?_
   simp +decide
  ·have hO:=hO.2 he
   have hA:=ybb O a (by have:=hO.few;omega) (fun x hx=>by have:=(hO.form x hx).2.2;omega)
   rw [decide_eq_true hmem] at hA;simp +decide [int,ints,he,zh0];refine zal.pure (by rfl) hA (by simp [D.scalar]) ?_
   simp +decide [int,ints,he,zh0];refine zal.pure (by rfl) zka (by simp) ?_
   simp +decide
theorem zwf (g:Lang) (c0:CapT 1048576 g.d) (a:List Prt) (c1:CapT 1048576 (anaD a)):zay Tryz.prog 12 [g.d,anaD a] (.bool true):=
 zy3 g (z6j c0) a (ydu c1)
end Go.V

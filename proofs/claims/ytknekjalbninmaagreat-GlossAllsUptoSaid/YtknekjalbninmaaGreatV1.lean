/- A program logic of my own over the kit: part V1. It needs no conditions. -/
import GoSem.Core.Sem
import Derived.Below
import Derived.WalkKit
import Derived.ProofKit
import Derived.WalkLawsBesides
import Derived.WalkSpells
import Derived.Scope
import Derived.Laws.Small
import Derived.MapKept
import Derived.Laws.StructEq
set_option linter.all false
def ac:=@List.getElem?_eq_getElem
def ge:=@if_neg
def gt:=@if_pos
def nD:=@decide_eq_true_eq
def nE:=@List.mem_cons
def nF:=@List.getElem_mem
def nG:=@List.mem_cons_of_mem
def nH:=@List.take_length
def nI:=@Bool.and_eq_true
def nJ:=@Nat.le_refl
def nK:=@List.map_cons
def nL:=@List.mem_cons_self
def nM:=@List.mem_append
def nN:=@List.getElem?_eq_some_iff
def nO:=@List.length_append
def nP:=@List.length_cons
def nQ:=@List.mem_singleton
def nR:=@List.length_take
def nS:=@List.mem_map
def nT:=@List.mem_iff_getElem
def nU:=@Nat.zero_le
def nV:=@List.cons_append
def nW:=@Option.getD_some
def nX:=@List.take_succ_eq_append_getElem
def nY:=@List.drop_eq_getElem_cons
def nZ:=@List.eq_nil_of_length_eq_zero
def n_:=@List.any_eq_true
def oa:=@List.take_of_length_le
def oc:=@List.mem_range
def od:=@List.pairwise_iff_getElem
def og:=@List.getElem?_take
def oh:=@List.mem_of_mem_take
def ol:=@List.mem_of_getElem?
def om:=@List.length_map
def oo:=@List.all_eq_true
def oq:=@List.append_nil
def ot:=@List.getD_eq_getElem?_getD
def ou:=@Bool.false_eq_true
def oz:=@List.length_filter_le
def oA:=@List.mem_filter
def oB:=@List.any_eq_false
def oC:=@Nat.le_trans
def oD:=@Array.getElem?_eq_some_iff
def oE:=@List.nodup_cons
def oF:=@List.map_append
def oG:=@List.mem_take_iff_getElem
def oH:=@List.mem_of_mem_drop
def oI:=@List.foldl_append
def oJ:=@Classical.byContradiction
def oK:=@List.foldl_cons
def oL:=@Option.map_some
def oM:=@Array.length_toList
def oN:=@List.findIdx?_eq_some_iff_getElem
def oO:=@List.length_drop
def oP:=@List.nil_append
def oQ:=@List.getElem?_drop
def oR:=@Nat.add_mul
def oS:=@Bool.or_eq_true
def oT:=@List.take_append_drop
def oU:=@if_false
def oV:=@if_true
def oW:=@List.flatMap_append
def oX:=@List.filter_sublist
def oY:=@Nat.mul_le_mul_right
def oZ:=@List.flatten_cons
def o_:=@List.take_append_of_le_length
def pc:=@List.length_nil
def pe:=@Nat.lt_or_ge
def pg:=@Nat.lt_of_lt_of_le
def ph:=@Option.some.inj
def pj:=@List.findIdx?_eq_none_iff
def pl:=@List.getElem?_append_left
def pm:=@List.filter_append
def pn:=@Nat.eq_or_lt_of_le
def po:=@List.mem_flatMap
def pw:=@List.not_mem_nil
def pz:=@List.flatMap_cons
def pA:=@List.append_assoc
def pB:=@Option.some.injEq
def pC:=@List.getElem?_map
def pD:=@List.map_congr_left
def pE:=@List.take_succ_cons
def pF:=@List.getElem?_append_right
def pG:=@Nat.zero_add
def pH:=@decide_eq_false
def pI:=@decide_eq_true
def pJ:=@List.drop_eq_nil_of_le
def pK:=@Bool.true_and
def pL:=@List.drop_length
def pM:=@List.pairwise_cons
def pN:=@List.length_eq_zero_iff
def pO:=@decide_eq_false_iff_not
def pP:=@Nat.add_assoc
def pQ:=@List.flatMap_singleton
def pR:=@Int.toNat_natCast
def pS:=@Bool.not_eq_true'
def pT:=@List.filter_cons_of_pos
def pU:=@Nat.lt_trichotomy
def pV:=@List.length_range
def pW:=@Bool.not_eq_true
def pX:=@Bool.and_eq_false_iff
def pY:=@List.getElem?_cons_succ
def pZ:=@List.pairwise_append
def p_:=@List.drop_zero
def qi:=@List.nodup_iff_pairwise_ne
def qr:=@List.range_succ
def qv:=@List.mem_of_find?_eq_some
def qz:=@Array.getElem?_eq_getElem
def q_:=@List.flatten_append
def ra:=@List.getElem?_eq_none
def rb:=@List.pairwise_flatMap
def rc:=@Nat.eq_of_beq_eq_true
def rd:=@Prod.mk.injEq
def rf:=@Nat.add_zero
def rg:=@Bool.not_eq_false'
def rh:=@List.ext_getElem
def ri:=@List.filter_cons_of_neg
def rj:=@Array.getElem_setIfInBounds
def rk:=@Bool.false_or
def rm:=@List.getElem_drop
def rn:=@UInt8.toNat_lt
def ro:=@List.ext_getElem?
def rp:=@List.filter_eq_nil_iff
def rq:=@List.pairwise_map
def rr:=@Nat.le_succ
def ru:=@Array.getElem?_toList
def rv:=@Classical.choose_spec
def rx:=@List.find?_eq_some_iff_getElem
def ry:=@List.find?_eq_none
def rz:=@Nat.add_sub_cancel
def rA:=@Nat.lt_succ_iff_lt_or_eq
def rC:=@Option.isSome_iff_exists
def rD:=@or_false
def rE:=@Option.map_eq_some_iff
def rF:=@Nat.one_mul
def rG:=@List.map_take
def rJ:=@List.cons.inj
def rK:=@List.filter_cons
def rO:=@Nat.testBit_or
def rP:=@Nat.lt_of_le_of_lt
def rQ:=@Bool.true_eq_false
def rR:=@Array.getElem?_modify
def rS:=@List.length_set
def rT:=@List.take_add_one
def rU:=@Nat.sub_self
def rV:=@Bool.eq_false_iff
def rW:=@List.map_map
def rX:=@List.nodup_append
def rY:=@Bool.or_eq_false_iff
def rZ:=@Function.comp_def
def r_:=@List.length_pos_iff
def se:=@Ne.symm
def sf:=@Array.toList_append
def sg:=@List.drop_append_of_le_length
def sh:=@List.map_set
def si:=@dif_pos
def sk:=@List.set_cons_succ
def sm:=@Array.all_eq_true'
def so:=@Nat.ble_eq
def sp:=@List.mem_replicate
def sq:=@Nat.sub_zero
def sr:=@List.cons.injEq
def su:=@List.dropLast_concat_getLast
def sv:=@List.mem_zipIdx_iff_getElem?
def sw:=@List.length_singleton
def sx:=@List.singleton_append
def sy:=@ByteArray.size_append
def sC:=@List.length_replicate
def sE:=@List.getElem_take
def sH:=@List.take_sublist
def sJ:=@Classical.not_not
def sK:=@List.size_toArray
def sM:=@Nat.pow_le_pow_right
def sO:=@Bool.not_false
def sR:=@List.perm_ext_iff_of_nodup
def sS:=@List.range'_succ
def sU:=@List.nodup_range
def sV:=@Nat.le_add_right
def sW:=@Nat.mul_le_mul_left
def sY:=@List.replicate_succ
def sZ:=@List.Perm.eq_of_pairwise
def s_:=@List.Pairwise.imp_of_mem
def ta:=@List.any_append
def tb:=@Array.ext'
def tc:=@List.set_cons_zero
def td:=@List.getElem?_cons_zero
def tf:=@Nat.add_sub_cancel_left
def tg:=@List.getElem_cons_succ
def th:=@List.drop_sublist
def tj:=@List.map_nil
def tl:=@List.mapM_cons
def tm:=@List.reverse_cons
def tq:=@List.takeWhile_append_dropWhile
def tu:=@List.pairwise_and_iff
def tv:=@List.modify_zero_cons
def tw:=@List.modify_succ_cons
def tx:=@beq_iff_eq
def tz:=@List.perm_middle
def tA:=@Array.getElem_setIfInBounds_ne
def tB:=@Array.eq_empty_of_size_eq_zero
def tC:=@Nat.lt_succ_self
def tD:=@beq_self_eq_true
def tE:=@List.map_drop
def tF:=@Bool.not_true
def tG:=@List.find?_eq_some_iff_append
def tH:=@List.pairwise_filter
def tI:=@Nat.eq_of_testBit_eq
def tJ:=@List.range_eq_range'
def tK:=@List.find?_some
def tL:=@List.takeWhile_append_of_pos
def tM:=@Nat.min_le_left
def tN:=@Array.getElem?_setIfInBounds
def tO:=@List.length_flatMap
def tP:=@beq_eq_false_iff_ne
def tQ:=@List.filter_eq_self
def tR:=@Nat.add_comm
def tS:=@decide_false
def tT:=@true_and
def tU:=@Nat.lt_or_gt_of_ne
def tV:=@List.drop_drop
def tW:=@and_true
def tX:=@Bool.false_and
def tY:=@List.takeWhile_cons_of_neg
def tZ:=@List.nodup_nil
def t_:=@List.findSome?_eq_none_iff
def ul:=@Array.getElem?_append_left
def ut:=@Array.toList_setIfInBounds
def u_:=@List.extract_eq_take_drop
def v_:=@Array.mapM_eq_mapM_toList
def wn:=@List.all_eq_false
def wr:=@Nat.one_shiftLeft
def wx:=@Int.le_refl
def wD:=@Nat.le_succ_of_le
def wN:=@List.Pairwise.imp
def w_:=@of_decide_eq_true
def xa:=@Array.size_setIfInBounds
def xb:=@List.getElem_set
def xc:=@List.getElem_map
def xv:=@List.mem_flatten
def xz:=@List.pairwise_mergeSort
def xD:=@Nat.zero_testBit
def xL:=@List.map_flatMap
def xS:=@List.append_cancel_left
def xV:=@Nat.mod_eq_of_lt
def x_:=@Nat.le_of_not_lt
def y_:=@Array.toList_map
def z_:=@List.take_append
def Al:=@List.Sublist.map
def At:=@Nat.pow_succ
def Ay:=@getElem!_pos
def AC:=@List.sublist_cons_self
def AD:=@List.length_pos_of_mem
def AF:=@List.pairwise_lt_range
def AJ:=@ByteArray.size_extract
def AM:=@List.map_id'
def AR:=@List.mem_range'
def AT:=@Bool.eq_iff_iff
def A9:=@Nat.mul_ne_zero
def A_:=@List.set_append_right
def Bb:=@List.getElem_set_self
def Bk:=@ByteArray.data_append
def Bp:=@Array.getElem?_append
def Bs:=@List.contains_iff_mem
def Bu:=@Array.toList_extract
def Bx:=@List.take_take
def By:=@List.dropLast_concat
def BC:=@Nat.div_lt_of_lt_mul
def BT:=@false_and
def BY:=@Nat.testBit_two_pow
def B3:=@List.takeWhile_cons
def B4:=@List.dropWhile_cons
def B_:=@List.getD_cons_succ
def Ca:=@List.filterMap_cons
def Cg:=@List.any_cons
def Ch:=@List.all_cons
def Ck:=@not_or
def Cl:=@List.getElem_range
def Cn:=@UInt8.toNat_ofNat'
def Co:=@List.zip_cons_cons
def Cp:=@List.range'_append
def Cq:=@Array.foldl_toList
def Cr:=@Array.ext_getElem?
def Cs:=@Bool.true_or
def Ct:=@List.Sublist.refl
def Cu:=@not_true_eq_false
def Cv:=@List.getElem?_set
def Cw:=@Array.size_append
def Cx:=@Nat.lt_succ_of_lt
def Cy:=@Nat.blt_eq
def Cz:=@ne_eq
namespace Go.V
open Go
theorem zak{p:Program}{w w':World}{x:Addr}{u:TypeId}{k:Addr}{v:Value}{bc:Bool}{l:List Addr}(h:w.viewStore p x u k v bc = .ok (w',l)):w'.drawn=w.drawn:=by
 unfold World.viewStore at h
 simp only[bind,Except.bind,pure,Except.pure,throw,throwThe,MonadExceptOf.throw] at h
 repeat' (first | (split at h) | (cases h;done))
 all_goals first | (cases h;rfl) | (exact absurd h (by simp)) | skip
theorem zas{p:Program}{w w':World}{a:Addr}{v:Value}{b:Bool}{l:List Addr}(h:w.farStore p a v b = .ok (w',l)):w'.drawn=w.drawn:=by
 unfold World.farStore at h
 split at h
 .split at h
  .rename_i r hr
   obtain⟨w2,l2⟩:=r;cases h;exact zak hr
  .cases h
 .cases h
theorem CP{α:Type}:∀ (q:Ask α) (w:World),w.drawn<=(w.ask q).2.drawn
 |.done a,w=>by simp[World.ask]
 |.ask what range k,w=>by
  simp only[World.ask];split
  .exact CP _ w
  .exact oC (rr _) (CP _ {w with drawn:=w.drawn+1})
theorem zlz(w:World)(c:Sys):w.drawn<=(w.sys c).2.drawn:=by
 have h:=CP (Kernel.perform c w.os) w
 unfold World.sys
 split
 .exact nJ _
 .rename_i r os w2 he
  rw[he] at h;exact h
theorem ju{α:Type}(p:Program):∀ (s:Sem α) (w:World) (v:α) (w':World),s.run p w = .ok v w'->w.drawn<=w'.drawn
 |.pure a,w,v,w',h=>by simp only[Sem.run] at h;cases h;exact nJ _
 |.load m a k,w,v,w',h=>by
  simp only[Sem.run] at h;split at h
  .exact ju p _ _ _ _ h
  .split at h
   .exact ju p _ _ _ _ h
   .cases h
 |.store m a x k,w,v,w',h=>by
  cases x <;> simp only[Sem.run] at h <;> (try (cases h;done)) <;>
  (split at h
   .split at h
    .cases h
    .have:=ju p _ _ _ _ h;simpa[World.setCell] using this
   .split at h
    .rename_i w2 _ hf;have:=ju p _ _ _ _ h;rw[<-zas hf];exact this
    .cases h)
 |.new o k,w,v,w',h=>by simp only[Sem.run] at h;have:=ju p _ _ _ _ h;exact this
 |.shape r k,w,v,w',h=>by simp only[Sem.run] at h;exact ju p _ _ _ _ h
 |.freeze a n k,w,v,w',h=>by
  simp only[Sem.run] at h;have:=ju p _ _ _ _ h
  unfold World.freeze at this;split at this <;> exact this
 |.frozen a k,w,v,w',h=>by simp only[Sem.run] at h;exact ju p _ _ _ _ h
 |.getObj r k,w,v,w',h=>by
  simp only[Sem.run] at h;split at h
  .cases h
  .exact ju p _ _ _ _ h
  .cases h
 |.setObj r o k,w,v,w',h=>by
  simp only[Sem.run] at h;split at h
  .cases h
  .have:=ju p _ _ _ _ h;exact this
  .cases h
 |.choose q k,w,v,w',h=>by
  simp only[Sem.run] at h;split at h
  .exact ju p _ _ _ _ h
  .exact oC (rr _) (ju p _ _ _ _ h)
 |.sys c k,w,v,w',h=>by simp only[Sem.run] at h;exact oC (zlz w c) (ju p _ _ _ _ h)
 |.program k,w,v,w',h=>by simp only[Sem.run] at h;exact ju p _ _ _ _ h
 |.mark m k,w,v,w',h=>by simp only[Sem.run] at h;exact ju p _ _ _ _ h
 |.halt e,w,v,w',h=>by simp only[Sem.run] at h;cases h
class Dr where
 dr:Bool
variable [Dr]
def jv(w w':World):Prop:=Dr.dr=true->w.drawn<=w'.drawn
theorem jv.refl(w:World):jv w w:=λ_=>nJ _
theorem jv.trans{a b c:World}(h:jv a b)(k:jv b c):jv a c:=λH=>oC (h H) (k H)
end Go.V
namespace Go.V
variable [Dr]
open Go.RowKit
structure Below(B:Nat)(w w':World):Prop extends Go.RowKit.Below B w w' where
 drawn:jv w w'
theorem Below.refl(B:Nat)(w:World):Below B w w:=⟨Go.RowKit.Below.refl B w,jv.refl _⟩
theorem Below.trans{B:Nat}{a b c:World}(h:Below B a b)(k:Below B b c):Below B a c:=⟨h.toBelow.trans k.toBelow,h.drawn.trans k.drawn⟩
theorem Below.mono{B B':Nat}{w w':World}(h:Below B w w')(H:B'<=B):Below B' w w':=⟨h.toBelow.mono H,h.drawn⟩
theorem Below.alloc{B:Nat}{w w':World}(h:Below B w w')(H:B<=w'.heap.size)(o:Obj):Below B w (w'.alloc o):=⟨h.toBelow.alloc H o,h.drawn⟩
inductive D where
 |int (k:IntKind) (n:Int)
 |bool (b:Bool)
 |str (s:ByteArray)
 |sl (l:List (List D))
 |agg (l:List D)
 |ptr (l:List D)
 |bE (l:List D)
 |fn (f:Nat) (aJ:List D)
 |val (v:Value)
 |mp (l:List (List D))
 deriving Inhabited
def dh:List (List D)->Nat
 | []=>0
 |r::_=>r.length
mutual
def R(w:World)(E:Nat->Prop):D->Value->Prop
 |.int k n,v=>v = .int k n
 |.bool b,v=>v = .bool b
 |.str s,v=>v = .string s
 |.sl l,v=>∃ a cap,v = .slice a l.length cap/\l.length<=cap/\cap<=maxLen/\(a=none->cap=0) /\
   (l≠[]->∃ b off,a=some ⟨b,off,none⟩/\¬E b/\b<w.heap.size/\yj w E b (dh l) l off)
 |.agg l,v=>∃ vs:List Value,v = .agg vs.toArray/\zl w E l vs
 |.ptr l,v=>∃ b off,v = .pointer (some ⟨b,off,none⟩)/\¬E b/\b<w.heap.size/\zZ w E b l off
 |.bE l,v=>∃ vs:List Value,v = .tuple vs.toArray/\zI w E l vs
 |.fn f l,v=>∃ vs:List Value,v = .func (.func f) #[] vs.toArray/\zI w E l vs
 |.val u,v=>v=u
 |.mp l,v=>∃ r es clock,v = .map (some r)/\¬E r/\r<w.heap.size/\w.heap[r]?=some (.map es clock)/\yN w E l es.toList
def yN(w:World)(E:Nat->Prop):List (List D)->List MapEntry->Prop
 | [],es=>es=[]
 |row::rs,es=>∃ e es',es=e::es'/\zI w E row [e.key,e.val]/\yN w E rs es'
def zl(w:World)(E:Nat->Prop):List D->List Value->Prop
 | [],vs=>vs=[]
 |d::ds,vs=>∃ v vs',vs=v::vs'/\v.oneCell'=true/\R w E d v/\zl w E ds vs'
def zI(w:World)(E:Nat->Prop):List D->List Value->Prop
 | [],vs=>vs=[]
 |d::ds,vs=>∃ v vs',vs=v::vs'/\R w E d v/\zI w E ds vs'
def yj(w:World)(E:Nat->Prop)(b sz:Nat):List (List D)->Nat->Prop
 | [],_=>True
 |r::rs,off=>r.length=sz/\zZ w E b r off/\yj w E b sz rs (off+sz)
def zZ(w:World)(E:Nat->Prop)(b:Nat):List D->Nat->Prop
 | [],_=>True
 |d::ds,off=>(∃ v,w.cell? ⟨b,off,none⟩=some v/\v.oneCell'=true/\R w E d v)/\zZ w E b ds (off+1)
end
def bh(w:World)(E:Nat->Prop)(w':World)(E':Nat->Prop):Prop:=
 ∀ b,b<w.heap.size->¬E b->¬E' b/\w'.heap[b]?=w.heap[b]?
def GT:List (Nat×List D):=[]
def fW(w:World)(E:Nat->Prop):Prop:=∀ g l,(g,l)∈GT->R w E (.ptr l) (.pointer (some ⟨g,0,none⟩))
def fp(w:World)(E:Nat->Prop):Prop:=(∀ b,E b->b<w.heap.size)/\fW w E
theorem bh.refl(w:World)(E:Nat->Prop):bh w E w E:=λ_ _ h=>⟨h,rfl⟩
theorem CQ{w w':World}{b:Nat}(h:b<w.heap.size)(e:w'.heap[b]?=w.heap[b]?):b<w'.heap.size:=by
 have:(w.heap[b]?).isSome=true:=by simp[h]
 rw[<-e] at this
 simpa using this
theorem bh.dC{w w':World}(h:Below w.heap.size w w')(E:Nat->Prop):bh w E w' E:=λb H G=>⟨G,h.block b H⟩
theorem bh.dy{w:World}{E E':Nat->Prop}(h:∀ b,E' b->E b):bh w E w E':=λb _ he=>⟨λH=>he (h b H),rfl⟩
theorem bh.cell{w w':World}{E E':Nat->Prop}(h:bh w E w' E'){b off:Nat}(H:¬E b)(G:b<w.heap.size):
  w'.cell? ⟨b,off,none⟩=w.cell? ⟨b,off,none⟩:=World.cell?_of_block (a:=⟨b,off,none⟩) (h b G H).2
mutual
theorem R.over{w w':World}{E E':Nat->Prop}(h:bh w E w' E'):∀ (d:D) (v:Value),R w E d v->R w' E' d v
 |.int _ _,_,J=>by simpa[R] using J
 |.bool _,_,J=>by simpa[R] using J
 |.str _,_,J=>by simpa[R] using J
 |.sl l,v,J=>by
  simp only[R] at J ⊢;obtain⟨a,cap,L,M,O,Q,T⟩:=J;refine⟨a,cap,L,M,O,Q,λK=>?_⟩
  obtain⟨b,off,V,X,Y,H⟩:=T K;exact⟨b,off,V,(h b Y X).1,CQ Y (h b Y X).2,yj.over h b (dh l) X Y l off H⟩
 |.agg l,v,J=>by
  simp only[R] at J ⊢;obtain⟨vs,L,Z⟩:=J;exact⟨vs,L,zl.over h l vs Z⟩
 |.ptr l,v,J=>by
  simp only[R] at J ⊢;obtain⟨b,off,V,X,Y,F⟩:=J;exact⟨b,off,V,(h b Y X).1,CQ Y (h b Y X).2,zZ.over h b X Y l off F⟩
 |.bE l,v,J=>by
  simp only[R] at J ⊢;obtain⟨vs,L,Z⟩:=J;exact⟨vs,L,zI.over h l vs Z⟩
 |.fn f l,v,J=>by
  simp only[R] at J ⊢;obtain⟨vs,L,Z⟩:=J;exact⟨vs,L,zI.over h l vs Z⟩
 |.val _,_,J=>by simpa[R] using J
 |.mp l,v,J=>by
  simp only[R] at J ⊢;obtain⟨r,es,clock,L,X,Y,A,G⟩:=J;exact⟨r,es,clock,L,(h r Y X).1,CQ Y (h r Y X).2,(h r Y X).2.trans A,yN.over h l _ G⟩
theorem yN.over{w w':World}{E E':Nat->Prop}(h:bh w E w' E'):∀ (l:List (List D)) (es:List MapEntry),yN w E l es->yN w' E' l es
 | [],_,H=>by simpa[yN] using H
 |row::rs,es,H=>by
  simp only[yN] at H ⊢;obtain⟨e,es',G,F,K⟩:=H;exact⟨e,es',G,zI.over h row _ F,yN.over h rs es' K⟩
theorem zl.over{w w':World}{E E':Nat->Prop}(h:bh w E w' E'):∀ (l:List D) (vs:List Value),zl w E l vs->zl w' E' l vs
 | [],_,H=>by simpa[zl] using H
 |d::ds,vs,H=>by
  simp only[zl] at H ⊢;obtain⟨v,vs',G,F,K,J⟩:=H;exact⟨v,vs',G,F,R.over h d v K,zl.over h ds vs' J⟩
theorem zI.over{w w':World}{E E':Nat->Prop}(h:bh w E w' E'):∀ (l:List D) (vs:List Value),zI w E l vs->zI w' E' l vs
 | [],_,H=>by simpa[zI] using H
 |d::ds,vs,H=>by
  simp only[zI] at H ⊢;obtain⟨v,vs',G,F,K⟩:=H;exact⟨v,vs',G,R.over h d v F,zI.over h ds vs' K⟩
theorem yj.over{w w':World}{E E':Nat->Prop}(h:bh w E w' E')(b sz:Nat)(H:¬E b)(G:b<w.heap.size):∀ (l:List (List D)) (off:Nat),yj w E b sz l off->yj w' E' b sz l off
 | [],_,_=>by simp[yj]
 |r::rs,off,F=>by
  simp only[yj] at F ⊢;exact⟨F.1,zZ.over h b H G r off F.2.1,yj.over h b sz H G rs _ F.2.2⟩
theorem zZ.over{w w':World}{E E':Nat->Prop}(h:bh w E w' E')(b:Nat)(H:¬E b)(G:b<w.heap.size):∀ (l:List D) (off:Nat),zZ w E b l off->zZ w' E' b l off
 | [],_,_=>by simp[zZ]
 |d::ds,off,F=>by
  simp only[zZ] at F ⊢;obtain⟨⟨v,K,J,L⟩,F⟩:=F;exact⟨⟨v,(h.cell H G).trans K,J,R.over h d v L⟩,zZ.over h b H G ds _ F⟩
end
section
variable {w:World} {E:Nat->Prop} {b sz:Nat}
theorem zZ.drop{l:List D}:∀ {off:Nat} (n:Nat),zZ w E b l off->zZ w E b (l.drop n) (off+n):=by
 induction l with
 |nil=>intro off n _;simp[zZ]
 |cons x xs ih=>
  intro off n h;cases n with
  |zero=>simpa using h
  |succ n=>
   simp only[zZ] at h;have:=ih n h.2
   simpa[pP,tR 1 n] using this
theorem zZ.take{l:List D}:∀ {off:Nat} (n:Nat),zZ w E b l off->zZ w E b (l.take n) off:=by
 induction l with
 |nil=>intro off n _;simp[zZ]
 |cons x xs ih=>
  intro off n h;cases n with
  |zero=>simp[zZ]
  |succ n=>
   simp only[zZ,pE] at h ⊢;exact⟨h.1,ih n h.2⟩
theorem zZ.append{l m:List D}:∀ {off:Nat},zZ w E b l off->zZ w E b m (off+l.length)->zZ w E b (l++m) off:=by
 induction l with
 |nil=>intro off _ h;simpa using h
 |cons x xs ih=>
  intro off h H;simp only[zZ,nV] at h ⊢;refine⟨h.1,ih h.2 ?_⟩
  simpa[pP,tR 1 xs.length] using H
theorem yj.get{l:List (List D)}:∀ {off i:Nat} {r:List D},yj w E b sz l off->l[i]?=some r->r.length=sz/\zZ w E b r (off+i*sz):=by
 induction l with
 |nil=>intro off j d _ h;simp at h
 |cons x xs ih=>
  intro off i r h hi;simp only[yj] at h;cases i with
  |zero=>simp at hi;subst hi;simpa using⟨h.1,h.2.1⟩
  |succ i=>
   have:=ih h.2.2 (by simpa using hi)
   refine⟨this.1,?_⟩
   have e:off+sz+i*sz=off+(i+1)*sz:=by rw[oR];omega
   rw[<-e];exact this.2
theorem yj.drop{l:List (List D)}:∀ {off:Nat} (n:Nat),yj w E b sz l off->yj w E b sz (l.drop n) (off+n*sz):=by
 induction l with
 |nil=>intro off n _;simp[yj]
 |cons x xs ih=>
  intro off n h;cases n with
  |zero=>simpa using h
  |succ n=>
   simp only[yj] at h;have:=ih n h.2.2
   have e:off+sz+n*sz=off+(n+1)*sz:=by rw[oR];omega
   rw[e] at this;exact this
theorem yj.take{l:List (List D)}:∀ {off:Nat} (n:Nat),yj w E b sz l off->yj w E b sz (l.take n) off:=by
 induction l with
 |nil=>intro off n _;simp[yj]
 |cons x xs ih=>
  intro off n h;cases n with
  |zero=>simp[yj]
  |succ n=>
   simp only[yj,pE] at h ⊢;exact⟨h.1,h.2.1,ih n h.2.2⟩
theorem yj.length{l:List (List D)}:∀ {off:Nat},yj w E b sz l off->∀ r∈l,r.length=sz:=by
 induction l with
 |nil=>intro off _ r h;cases h
 |cons x xs ih=>
  intro off h r H;simp only[yj] at h;rcases nE.1 H with e | H
  .subst e;exact h.1
  .exact ih h.2.2 r H
theorem yj.i_{l:List (List D)}:∀ {off:Nat},yj w E b sz l off->zZ w E b l.flatten off:=by
 induction l with
 |nil=>intro off _;simp[zZ]
 |cons x xs ih=>
  intro off h;simp only[yj] at h;simp only[oZ];refine zZ.append h.2.1 ?_
  rw[h.1];exact ih h.2.2
theorem yj.fv{l:List (List D)}:∀ {off:Nat},(∀ r∈l,r.length=sz)->zZ w E b l.flatten off->yj w E b sz l off:=by
 induction l with
 |nil=>intro off _ _;simp[yj]
 |cons x xs ih=>
  intro off H h;simp only[oZ] at h;have G:=H x (by simp)
  simp only[yj];refine⟨G,?_,ih (λr hr=>H r (by simp[hr])) ?_⟩
  .have:=zZ.take x.length h;simpa using this
  .have:=zZ.drop x.length h;rw[G] at this;simpa[G] using this
theorem zl.length{l:List D}:∀ {vs:List Value},zl w E l vs->vs.length=l.length:=by
 induction l with
 |nil=>intro vs h;simp only[zl] at h;simp[h]
 |cons x xs ih=>intro vs h;simp only[zl] at h;obtain⟨v,vs',rfl,_,_,h⟩:=h;simp[ih h]
theorem zI.length{l:List D}:∀ {vs:List Value},zI w E l vs->vs.length=l.length:=by
 induction l with
 |nil=>intro vs h;simp only[zI] at h;simp[h]
 |cons x xs ih=>intro vs h;simp only[zI] at h;obtain⟨v,vs',rfl,_,h⟩:=h;simp[ih h]
theorem zl.get{l:List D}:∀ {vs:List Value} {j:Nat} {d:D},zl w E l vs->l[j]?=some d->∃ v,vs[j]?=some v/\v.oneCell'=true/\R w E d v:=by
 induction l with
 |nil=>intro vs j d _ h;simp at h
 |cons x xs ih=>
  intro vs j d h hj;simp only[zl] at h;obtain⟨v,vs',rfl,H,G,h⟩:=h;cases j with
  |zero=>simp at hj;subst hj;exact⟨v,by simp,H,G⟩
  |succ j=>have:=ih h (by simpa using hj);simpa using this
theorem zI.get{l:List D}:∀ {vs:List Value} {j:Nat} {d:D},zI w E l vs->l[j]?=some d->∃ v,vs[j]?=some v/\R w E d v:=by
 induction l with
 |nil=>intro vs j d _ h;simp at h
 |cons x xs ih=>
  intro vs j d h hj;simp only[zI] at h;obtain⟨v,vs',rfl,H,h⟩:=h;cases j with
  |zero=>simp at hj;subst hj;exact⟨v,by simp,H⟩
  |succ j=>have:=ih h (by simpa using hj);simpa using this
theorem zl.fS{l:List D}:∀ {vs:List Value},zl w E l vs->zI w E l vs:=by
 induction l with
 |nil=>intro vs h;simpa[zl,zI] using h
 |cons x xs ih=>intro vs h;simp only[zl,zI] at h ⊢;obtain⟨v,vs',rfl,_,H,h⟩:=h;exact⟨v,vs',rfl,H,ih h⟩
theorem zI.cells{l:List D}:∀ {vs:List Value},zI w E l vs->(∀ v∈vs,v.oneCell'=true)->zl w E l vs:=by
 induction l with
 |nil=>intro vs h _;simpa[zl,zI] using h
 |cons x xs ih=>
  intro vs h H;simp only[zl,zI] at h ⊢;obtain⟨v,vs',rfl,G,h⟩:=h;exact⟨v,vs',rfl,H v (by simp),G,ih h (λu hu=>H u (by simp[hu]))⟩
theorem zl.cB{l:List D}:∀ {vs:List Value},zl w E l vs->∀ v∈vs,v.oneCell'=true:=by
 induction l with
 |nil=>intro vs h v H;simp only[zl] at h;subst h;cases H
 |cons x xs ih=>
  intro vs h v H;simp only[zl] at h;obtain⟨u,vs',rfl,G,F,h⟩:=h;rcases nE.1 H with e | H
  .subst e;exact G
  .exact ih h v H
theorem zl.extract{l:List D}:∀ {vs:List Value} (n m:Nat),zl w E l vs->zl w E ((l.drop n).take m) ((vs.drop n).take m):=by
 induction l with
 |nil=>intro vs n m h;simp only[zl] at h;subst h;simp[zl]
 |cons x xs ih=>
  intro vs n m h;simp only[zl] at h;obtain⟨u,vs',rfl,H,G,h⟩:=h;cases n with
  |zero=>
   cases m with
   |zero=>simp[zl]
   |succ m=>
    have:=ih 0 m h
    simp only[p_,pE,zl] at this ⊢;exact⟨u,_,rfl,H,G,this⟩
  |succ n=>simpa using ih n m h
theorem zl.append{l m:List D}:∀ {vs us:List Value},zl w E l vs->zl w E m us->zl w E (l++m) (vs++us):=by
 induction l with
 |nil=>intro vs us h H;simp only[zl] at h;subst h;simpa using H
 |cons x xs ih=>
  intro vs us h H;simp only[zl] at h;obtain⟨u,vs',rfl,G,F,h⟩:=h;simp only[nV,zl];exact⟨u,_,rfl,G,F,ih h H⟩
theorem zZ.cells{l:List D}:∀ {off:Nat},zZ w E b l off->∃ vs,zl w E l vs/\∀ j v,vs[j]?=some v->w.cell? ⟨b,off+j,none⟩=some v:=by
 induction l with
 |nil=>intro off _;exact⟨[],by simp[zl],by simp⟩
 |cons x xs ih=>
  intro off h;simp only[zZ] at h;obtain⟨⟨v,G,F,K⟩,h⟩:=h;obtain⟨vs,H,hj⟩:=ih h;refine⟨v::vs,by simp only[zl];exact⟨v,vs,rfl,F,K,H⟩,λj u J=>?_⟩
  cases j with
  |zero=>simp at J;subst J;exact G
  |succ j=>have:=hj j u (by simpa using J);rw[<-this];congr 2;omega
theorem zZ.dZ{l:List D}:∀ {off:Nat} {vs:List Value},zl w E l vs->(∀ j v,vs[j]?=some v->w.cell? ⟨b,off+j,none⟩=some v)->zZ w E b l off:=by
 induction l with
 |nil=>intro off vs _ _;simp[zZ]
 |cons x xs ih=>
  intro off vs h H;simp only[zl] at h;obtain⟨u,vs',rfl,G,F,h⟩:=h;simp only[zZ];refine⟨⟨u,by simpa using H 0 u (by simp),G,F⟩,ih h λj v K=>?_⟩
  have:=H (j+1) v (by simpa using K)
  rw[<-this];congr 2;omega
end
theorem fW.over{w w':World}{E E':Nat->Prop}(h:bh w E w' E')(H:fW w E):fW w' E':=λg l G=>R.over h _ _ (H g l G)
theorem fW.mA{w:World}{E:Nat->Prop}(h:GT=[]):fW w E:=λg l hm=>by rw[h] at hm;cases hm
end Go.V
namespace Go.V
class Ov where
 ov:Bool
variable [Dr] [Ov]
open Go.RowKit
inductive TK where
 |int (k:IntKind)
 |bool
 |str
 |slice (elem:Nat)
 |struct (fs:List (Nat×Nat×Bool))
 |ptr (e:Nat)
 |map (k e:Nat)
 |iP
structure TI where
 kind:TK
 size:Nat
 bytes:Nat
 agg:Bool
 zero:List Value
def Qq:TypeDesc->Bool
 |.struct _ |.array _ _=>true
 |_=>false
def Qr(P:Program)(f:Field):Option (Nat×Nat×Bool):=do
 let i <-P.info? f.type
 let u <-P.underlying f.type
 pure (f.offset,i.size,Qq u)
def qd(P:Program):TypeDesc->TK
 |.int k=>.int k
 |.bool=>.bool
 |.string=>.str
 |.slice e=>.slice e
 |.struct fs=>match fs.toList.mapM (Qr P) with
  |some l=>.struct l
  |none=>.iP
 |.pointer e=>.ptr e
 |.map k e=>.map k e
 |_=>.iP
def TI.of(P:Program)(t:Nat):Option TI:=do
 let i <-P.info? t
 let u <-P.underlying t
 let z <-i.zero
 pure {kind:=qd P u,size:=i.size,bytes:=i.bytes,agg:=Qq u,zero:=z.cells.toList}
inductive RK where
 |lp (ps:Array Tmp) (assign body:Code) (state:LoopState) (pend:Option Code)
 |it (s:ByteArray) (pos:Nat)
 |mq (bB:List Int)
instance:Inhabited RK:=⟨.it ByteArray.empty 0⟩
def RK.at:RK->Option Obj->Nat->Nat->List Value->Prop
 |.lp ps a b s p,o,fn,D,vs=>o=some (.loop {state:=s,pending:=p,fn,tmps:=vs.toArray,params:=ps,assign:=a,body:=b,defers:=D})
 |.it s pos,o,_,_,_=>o=some (.stringIter s pos)
 |.mq bB,o,_,_,vs=>∃ es clock,o=some (.map es clock)/\es.toList.map (·.key)=bB.map (λk=>.int .i64 k)/\es.toList.map (·.val)=vs
def RK.ptr:RK->Nat->Value
 |.mq _,b=>.map (some b)
 |_,b=>.pointer (some ⟨b,0,none⟩)
inductive ah where
 |d (x:D)
 |aW
 |bp (id off:Nat)
 |ar (id:Nat)
 |ap (id sz i off:Nat)
 |a_s (id sz lo n:Nat)
 |av (id sz lo n:Nat)
 |yd (id:Nat)
 |mp (id:Nat)
 |bE (l:List ah)
 |agg (l:List ah)
 |fn (f:Nat) (aJ:List ah)
 |junk
 deriving Inhabited
inductive am where
 |box (T:Nat) (cells:List ah)
 |aQ (T:Nat) (sz:Nat) (rows:List (List D))
 |map (T:Nat) (rows:List (List D))
 |cN (k:RK) (cells:List ah)
 deriving Inhabited
structure St where
 n:Nat
 next:Nat
 af:List (Nat×ah)
 own:List (Nat×am)
 ai:Nat:=0
 aA:List Nat:=[]
def zc{α:Type}:List (Nat×α)->Nat->Option α
 | [],_=>none
 |(k,v)::r,t=>if k=t then some v else zc r t
def zT{α:Type}(t:Nat)(v:α):List (Nat×α)->List (Nat×α)
 | []=>[(t,v)]
 |(k,u)::r=>if k=t then (k,v)::r else (k,u)::zT t v r
def uW{α:Type}(t:Nat):List (Nat×α)->List (Nat×α)
 | []=>[]
 |(k,u)::r=>if k=t then uW t r else (k,u)::uW t r
def bY:Value->ah
 |.int k n=>.d (.int k n)
 |.bool b=>.d (.bool b)
 |.string s=>.d (.str s)
 |.slice none 0 0=>.aW
 |v=>.d (.val v)
def St.val(st:St):Operand->ah
 |.tmp t=>(zc st.af t).getD .junk
 |.const v=>bY v
 |.func f=>.fn f []
 |.global g=>match zc GT g with
  |some l=>.d (.ptr l)
  |none=>.junk
def St.put(st:St)(dst:Option Tmp)(s:ah):St:=
 match dst with
 |some t=>{st with af:=(t,s)::st.af}
 |none=>st
def St.ay(st:St)(id:Nat):Option am:=zc st.own id
mutual
def ah.lo(m:Nat):ah->Prop
 |.bp id _ |.ar id |.ap id _ _ _ |.a_s id _ _ _ |.av id _ _ _ |.mp id |.yd id=>id<m
 |.bE l |.agg l |.fn _ l=>ah.a_ m l
 |_=>True
def ah.a_(m:Nat):List ah->Prop
 | []=>True
 |s::r=>ah.lo m s/\ah.a_ m r
end
def am.lo(m:Nat):am->Prop
 |.box _ cells=>ah.a_ m cells
 |.aQ _ _ _=>True
 |.map _ _=>True
 |.cN _ cells=>ah.a_ m cells
mutual
def Sm(w:World)(E:Nat->Prop)(β:Nat->Value):ah->Value->Prop
 |.d x,v=>R w E x v
 |.aW,v=>v = .slice none 0 0
 |.bp id off,v=>∃ b,β id = .pointer (some ⟨b,0,none⟩)/\v = .pointer (some ⟨b,off,none⟩)
 |.ar id,v=>v=β id
 |.ap id sz i off,v=>∃ b n c,β id = .slice (some ⟨b,0,none⟩) n c/\v = .pointer (some ⟨b,i*sz+off,none⟩)
 |.a_s id sz lo n,v=>∃ b m c k,β id = .slice (some ⟨b,0,none⟩) m c/\v = .slice (some ⟨b,lo*sz,none⟩) n k/\n<=k/\k<=maxLen
 |.av id sz lo n,v=>∃ b c,β id = .slice (some ⟨b,0,none⟩) c c/\v = .slice (some ⟨b,lo*sz,none⟩) n (c-lo)/\lo+n<=c/\c<=maxLen
 |.mp id,v=>v=β id
 |.yd id,v=>∃ b,β id = .pointer (some ⟨b,0,none⟩)/\v = .func (.yield b) #[] #[]
 |.bE l,v=>∃ vs:List Value,v = .tuple vs.toArray/\zi w E β l vs
 |.agg l,v=>∃ vs:List Value,v = .agg vs.toArray/\zi w E β l vs/\(∀ u∈vs,u.oneCell'=true)
 |.fn f l,v=>∃ vs:List Value,v = .func (.func f) #[] vs.toArray/\zi w E β l vs
 |.junk,_=>True
def zi(w:World)(E:Nat->Prop)(β:Nat->Value):List ah->List Value->Prop
 | [],vs=>vs=[]
 |s::r,vs=>∃ v vs',vs=v::vs'/\Sm w E β s v/\zi w E β r vs'
end
def bP:Value->Option Nat
 |.slice (some a) _ _=>some a.block
 |.pointer (some a)=>some a.block
 |.map (some r)=>some r
 |_=>none
theorem RK.Ym(k:RK)(b:Nat):bP (k.ptr b)=some b:=by cases k <;> rfl
theorem RK.zuw{k:RK}{h:Array Obj}{b fn D:Nat}{vs:List Value}(H:k.at h[b]? fn D vs):b<h.size:=by
 cases k with
 |lp=>exact(oD.1 H).1
 |it=>exact(oD.1 H).1
 |mq=>obtain⟨es,clock,G,_⟩:=H;exact(oD.1 G).1
structure bz where
 w:World
 lX:Nat->Prop
 β0:Nat->Value
 dF:List Deferred
def bz.dS(B:bz)(b:Nat):Prop:=B.w.heap.size<=b\/B.lX b
def bz.of(w:World):bz:=⟨w,λ_=>False,λ_=>.pointer none,[]⟩
structure cR(B:bz)(w:World):Prop where
 os:w.os=B.w.os
 tape:w.tape=B.w.tape
 output:w.output=B.w.output
 size:B.w.heap.size<=w.heap.size
 block:∀ k,¬B.dS k->w.heap[k]?=B.w.heap[k]?
 drawn:jv B.w w
theorem cR.refl(B:bz):cR B B.w:=⟨rfl,rfl,rfl,nJ _,λ_ _=>rfl,jv.refl _⟩
theorem bz.lt{B:bz}{k:Nat}(h:¬B.dS k):k<B.w.heap.size:=by
 rcases pe k B.w.heap.size with H | H
 .exact H
 .exact absurd (.inl H) h
theorem cR.next{B:bz}{w w':World}(h:cR B w)(H:Below w.heap.size w w'):cR B w':=
 ⟨H.os.trans h.os,H.tape.trans h.tape,H.output.trans h.output,oC h.size H.size,λk G=>(H.block k (pg (bz.lt G) h.size)).trans (h.block k G),h.drawn.trans H.drawn⟩
theorem cR.k_{B:bz}{w w':World}(h:cR B w)(os:w'.os=w.os)(tape:w'.tape=w.tape)(output:w'.output=w.output)(size:w.heap.size<=w'.heap.size)
  (block:∀ k,k<w.heap.size->¬B.dS k->w'.heap[k]?=w.heap[k]?) (drawn:jv w w'):cR B w':=
 ⟨os.trans h.os,tape.trans h.tape,output.trans h.output,oC h.size size,λk H=>(block k (pg (bz.lt H) h.size) H).trans (h.block k H),h.drawn.trans drawn⟩
theorem cR.below{w w':World}(h:cR (.of w) w'):Below w.heap.size w w':=
 ⟨⟨h.os,h.tape,h.output,h.size,λk hk=>h.block k (λhm=>hm.elim (λH=>by have:w.heap.size<=k:=H;omega) (λH=>H))⟩,h.drawn⟩
def xY(w:World)(b:Nat):Prop:=∀ (aQ:Array Value) (T:Nat) (fz:Nat×Nat),w.heap[b]?=some (.cells aQ T fz)->∀ u∈aQ.toList,u.oneCell'=true
theorem xY.same{w w':World}{b:Nat}(h:xY w b)(e:w'.heap[b]?=w.heap[b]?):xY w' b:=by
 intro aQ T fz H;exact h aQ T fz (e▸H)
theorem xY.of{w:World}{b:Nat}{aQ:Array Value}{T:Nat}{fz:Nat×Nat}(h:w.heap[b]?=some (.cells aQ T fz))(H:∀ u∈aQ.toList,u.oneCell'=true):xY w b:=by
 intro arr' T' fz' G
 rw[h] at G;cases G;exact H
def ja(N:Nat->Prop)(w:World)(T sz:Nat)(v:Value)(n:Nat)(xs:List Value):Prop:=w.ownsRow 0 T sz v n xs/\∀ b,bP v=some b->N b/\xY w b
theorem ja.row{N:Nat->Prop}{w:World}{T sz n ai:Nat}{v:Value}{xs:List Value}(h:ja N w T sz v n xs)(H:∀ b,N b->ai<=b):w.ownsRow ai T sz v n xs:=by
 refine⟨h.1.1,?_⟩
 rcases h.1.2 with G | ⟨g,cap,cur,F,E,K⟩
 .exact .inl G
 .exact .inr ⟨g,cap,cur,F,H g (h.2 g (by rw[F];rfl)).1,K⟩
theorem ja.Rj{N:Nat->Prop}{w:World}{T sz n ai:Nat}{v:Value}{xs:List Value}(h:w.ownsRow ai T sz v n xs)(H:∀ b,bP v=some b->xY w b)(G:∀ b,ai<=b->N b):ja N w T sz v n xs:=by
 refine⟨⟨h.1,?_⟩,?_⟩
 .rcases h.2 with F | ⟨g,cap,cur,E,K,J⟩
  .exact .inl F
  .exact .inr ⟨g,cap,cur,E,nU _,J⟩
 .intro b L
  rcases h.2 with⟨F,_⟩ | ⟨g,cap,cur,E,K,J⟩
  .rw[F] at L;simp[bP] at L
  .exact⟨by rw[E] at L;simp[bP] at L;subst L;exact G g K,H b L⟩
def yV(w:World)(N:Nat->Prop)(E:Nat->Prop)(β:Nat->Value)(id:Nat):am->Prop
 |.box T cells=>∃ b vs,β id = .pointer (some ⟨b,0,none⟩)/\N b/\w.heap[b]?=some (.cells vs.toArray T (0,0))/\zi w E β cells vs/\(∀ v∈vs,v.oneCell'=true)
 |.aQ T sz rows=>∃ xs,ja N w T sz (β id) rows.length xs/\zl w E rows.flatten xs/\(∀ r∈rows,r.length=sz)
 |.map _ rows=>∃ r es clock,β id = .map (some r)/\N r/\w.heap[r]?=some (.map es clock)/\yN w E rows es.toList
 |.cN k cells=>∃ b fn D vs,β id=k.ptr b/\N b/\k.at w.heap[b]? fn D vs/\zi w E β cells vs
def Ex(X:Nat->Prop)(β:Nat->Value)(own:List (Nat×am))(b:Nat):Prop:=X b\/∃ id o,(id,o)∈own/\bP (β id)=some b
structure ax(X:Nat->Prop)(w0:bz)(st:St)(β:Nat->Value)(a:Act)(w:World):Prop where
 bU:(∀ b,X b->¬w0.dS b)/\fW w0.w (λb=>X b\/w0.lX b)
 bI:st.ai<=st.next/\∀ id,id<st.ai->id∉st.aA->β id=w0.β0 id
 cB:∀ id,(β id).oneCell'=true
 defers:a.defers=w0.dF
 size:a.tmps.size=st.n
 below:cR w0 w
 bB:(st.own.map (·.1)).Nodup
 own:∀ id o,(id,o)∈st.own->id<st.next/\o.lo st.next/\yV w w0.dS (Ex X β st.own) β id o
 apart:∀ id o id' o' b,(id,o)∈st.own->(id',o')∈st.own->bP (β id)=some b->bP (β id')=some b->id=id'
 af:∀ t s,zc st.af t=some s->ah.lo st.next s/\Sm w (Ex X β st.own) β s (a.tmps.getD t undef)
def aN(P:Program)(f:Nat):Bool:=match P.funcs[f]? with
 | some fn => fn.name != "runtime.NumGoroutine" && fn.body.isSome
 |none=>false
def aq(P:Program)(f:Nat)(args:List D)(r:D):Prop:=
 aN P f=true/\∀ (w:World) (E:Nat->Prop) (vs:List Value),fp w E->zI w E args vs ->
  Calls P f vs.toArray w λe w'=>∃ v,e = .returned v/\Below w.heap.size w w'/\R w' E r v
mutual
def D.bZ:D->Bool
 |.int _ _ |.bool _ |.str _=>true
 |.bE l=>D.dj l
 |.agg l=>D.dj l
 |_=>false
def D.dj:List D->Bool
 | []=>true
 |d::r=>D.bZ d&&D.dj r
end
def Zu(ay:Nat->Option am):ah->Option D
 |.d x=>some x
 |.aW=>some (.sl [])
 |.ar id=>match ay id with
  |some (.aQ _ _ rows)=>some (.sl rows)
  |_=>none
 |_=>none
def dJ(ay:Nat->Option am):List ah->Option (List D)
 | []=>some []
 |s::r=>match Zu ay s,dJ ay r with
  |some x,some xs=>some (x::xs)
  |_,_=>none
mutual
def cL(ay:Nat->Option am):ah->Option (D×Bool)
 |.d x=>some (x,false)
 |.aW=>some (.sl [],false)
 |.bp id off=>match ay id with
  |some (.box _ cells)=>match dJ ay cells with
   |some ds=>some (.ptr (ds.drop off),true)
   |none=>none
  |_=>none
 |.ar id=>match ay id with
  |some (.aQ _ _ rows)=>some (.sl rows,true)
  |_=>none
 |.mp id=>match ay id with
  |some (.map _ rows)=>some (.mp rows,true)
  |_=>none
 |.agg l=>match vO ay l with
  |some (ds,b)=>some (.agg ds,b)
  |none=>none
 |.fn f l=>match vO ay l with
  |some (ds,b)=>some (.fn f ds,b)
  |none=>none
 |_=>none
def vO(ay:Nat->Option am):List ah->Option (List D×Bool)
 | []=>some ([],false)
 |s::r=>match cL ay s,vO ay r with
  |some (d,b),some (ds,c)=>some (d::ds,b ||c)
  |_,_=>none
end
def Qs:ah->Option D
 |.d x=>some x
 |.aW=>some (.sl [])
 |_=>none
def vD:List ah->Option (List D)
 | []=>some []
 |s::r=>match Qs s,vD r with
  |some x,some xs=>some (x::xs)
  |_,_=>none
def wZ(l:List ah):ah:=match vD l with
 |some ds=>.d (.agg ds)
 |none=>.agg l
def fX(ti:TI)(l:List D)(k:ah->Prop):Prop:=
 if ti.agg=true then ti.size<=l.length/\k (.d (.agg (l.take ti.size)))
 else match l with
  |x::_=>k (.d x)
  | []=>False
def Yn(ti:TI)(l:List ah)(k:ah->Prop):Prop:=
 if ti.agg=true then ti.size<=l.length/\k (wZ (l.take ti.size))
 else match l with
  |x::_=>k x
  | []=>False
def uX(ay:Nat->Option am)(ti:TI):ah->(ah->Prop)->Prop
 |.d (.ptr l),k=>fX ti l k
 |.bp id off,k=>match ay id with
  |some (.box _ cells)=>Yn ti (cells.drop off) k
  |_=>False
 |.ap id sz i off,k=>match ay id with
  |some (.aQ _ sz' rows)=>sz=sz'/\i<rows.length/\fX ti ((rows.getD i []).drop off) k
  |_=>False
 |_,_=>False
def Qu(kd:TK)(x:ah)(f:Nat)(k:ah->Prop):Prop:=
 match kd with
 |.struct fs=>match fs[f]?,x with
  |some (off,sz,_),.d (.ptr l)=>sz≠0/\k (.d (.ptr (l.drop off)))
  |some (off,sz,_),.bp id o=>sz≠0/\k (.bp id (o+off))
  |some (off,sz,_),.ap id s i o=>sz≠0/\k (.ap id s i (o+off))
  |_,_=>False
 |_=>False
def Qv(kd:TK)(x:ah)(f:Nat)(k:ah->Prop):Prop:=
 match kd with
 |.struct fs=>match fs[f]?,x with
  |some (off,sz,agg),.d (.agg l)=>if agg=true then off+sz<=l.length/\k (.d (.agg ((l.drop off).take sz))) else (match l.drop off with
   |x::_=>k (.d x)
   | []=>False)
  |some (off,sz,agg),.agg l=>if agg=true then off+sz<=l.length/\k (wZ ((l.drop off).take sz)) else (match l.drop off with
   |x::_=>k x
   | []=>False)
  |_,_=>False
 |_=>False
def Zv(ay:Nat->Option am)(esz:Nat):ah->ah->(ah->Prop)->Prop
 |.d (.sl l),.d (.int _ n),k=>(0<=n/\n<l.length)/\(l.getD n.toNat []).length=esz/\k (.d (.ptr (l.getD n.toNat [])))
 |.ar id,.d (.int _ n),k=>match ay id with
  |some (.aQ _ sz rows)=>(0<=n/\n<rows.length)/\sz=esz/\k (.ap id sz n.toNat 0)
  |_=>False
 |_,_,_=>False
def cY(s:ByteArray)(n:Int):Int:=((s.data.toList.getD n.toNat 0).toNat:Int)
def Qw:ah->ah->(ah->Prop)->Prop
 |.d (.str s),.d (.int _ n),k=>(0<=n/\n<s.size)/\k (.d (.int .u8 (cY s n)))
 |_,_,_=>False
def aB(n:Int):Prop:=-9223372036854775808<=n/\n<=9223372036854775807
def wB(op:BinOp)(k:IntKind)(x y:Int):Int:=
 let a:=BitVec.ofInt k.bits x
 let b:=BitVec.ofInt k.bits y
 match op with
 |.and=>k.wrap (a &&& b).toNat
 |.or=>k.wrap (a |||b).toNat
 |.xor=>k.wrap (a ^^^ b).toNat
 |_=>k.wrap (a &&& ~~~b).toNat
def dP(kd:IntKind)(n:Int)(k:ah->Prop):Prop:=
 match kd with
 |.i64=>if Ov.ov=true then k (.d (.int .i64 (IntKind.i64.wrap n))) else aB n/\k (.d (.int .i64 n))
 |kd=>k (.d (.int kd (kd.wrap n)))
def KP(kd:IntKind)(a b:Int)(k:ah->Prop):BinOp->Prop
 |.add=>dP kd (a+b) k
 |.sub=>dP kd (a-b) k
 |.mul=>dP kd (a*b) k
 |.quo=>b≠0/\dP kd (a.tdiv b) k
 |.rem=>b≠0/\k (.d (.int kd (a.tmod b)))
 |.and=>k (.d (.int kd (wB .and kd a b)))
 |.or=>k (.d (.int kd (wB .or kd a b)))
 |.xor=>k (.d (.int kd (wB .xor kd a b)))
 |.andNot=>k (.d (.int kd (wB .andNot kd a b)))
 |.eql=>k (.d (.bool (decide (a=b))))
 |.neq=>k (.d (.bool (!decide (a=b))))
 |.lss=>k (.d (.bool (decide (a<b))))
 |.leq=>k (.d (.bool (decide (a<=b))))
 |.gtr=>k (.d (.bool (decide (b<a))))
 |.geq=>k (.d (.bool (decide (b<=a))))
 |_=>False
def KQ(a b:ByteArray)(k:ah->Prop):BinOp->Prop
 |.add=>(a.size+b.size:Int)<=9223372036854775807/\k (.d (.str (a++b)))
 |.eql=>k (.d (.bool (a.toList==b.toList)))
 |.neq=>k (.d (.bool !(a.toList==b.toList)))
 |.lss=>k (.d (.bool (Op.bytesLess a.toList b.toList)))
 |.leq=>k (.d (.bool (Op.bytesLess a.toList b.toList ||a.toList==b.toList)))
 |.gtr=>k (.d (.bool (!(Op.bytesLess a.toList b.toList ||a.toList==b.toList))))
 |.geq=>k (.d (.bool (!Op.bytesLess a.toList b.toList)))
 |_=>False
def KR(a b:Bool)(k:ah->Prop):BinOp->Prop
 |.eql=>k (.d (.bool (a==b)))
 |.neq=>k (.d (.bool (!(a==b))))
 |_=>False
def Yo(op:BinOp)(kd:IntKind)(a b:Int):Int:=
 match op with
 |.shl=>kd.wrap (a*2^(min b.toNat kd.bits))
 |_=>a.fdiv (2^(min b.toNat kd.bits))
def Qx(op:BinOp):ah->ah->(ah->Prop)->Prop
 |.d (.int ka a),.d (.int kb b),k=>match op with
  |.shl=>0<=b/\k (.d (.int ka (Yo .shl ka a b)))
  |.shr=>0<=b/\k (.d (.int ka (Yo .shr ka a b)))
  |op=>ka=kb/\KP ka a b k op
 |.d (.str a),.d (.str b),k=>KQ a b k op
 |.d (.bool a),.d (.bool b),k=>KR a b k op
 |.d (.sl l),.aW,k=>match op with
  |.eql=>∀ b:Bool,(b=true->l=[])->k (.d (.bool b))
  |.neq=>∀ b:Bool,(b=true->l=[])->k (.d (.bool !b))
  |_=>False
 |.aW,.aW,k=>match op with
  |.eql=>k (.d (.bool true))
  |.neq=>k (.d (.bool false))
  |_=>False
 |_,_,_=>False
def Jb:TK->Bool
 |.slice _=>true
 |_=>false
def Qy(kd:TK):ah->Bool
 |.d (.bool _)=>match kd with |.bool=>true |_=>false
 |.d (.sl _)=>Jb kd
 |.aW=>Jb kd
 |_=>true
def Qz(op:UnOp):ah->(ah->Prop)->Prop
 |.d (.bool b),k=>match op with
  |.not=>k (.d (.bool !b))
  |_=>False
 |.d (.int kd n),k=>match op with
  |.neg=>dP kd (0-n) k
  |_=>False
 |_,_=>False
def QA:TK->ah->(ah->Prop)->Prop
 |.int kd,.d (.int _ n),k=>k (.d (.int kd (kd.wrap n)))
 |.str,.d (.str s),k=>k (.d (.str s))
 |_,_,_=>False
def QB:ah->Nat->(ah->Prop)->Prop
 |.d (.bE l),i,k=>match l[i]? with
  |some x=>k (.d x)
  |none=>False
 |.bE l,i,k=>match l[i]? with
  |some x=>k x
  |none=>False
 |_,_,_=>False
def iq(ay:Nat->Option am):TK->ah->(ah->Prop)->Prop
 |.slice _,.d (.sl l),k=>k (.d (.int .i64 l.length))
 |.str,.d (.str s),k=>k (.d (.int .i64 s.size))
 |.slice _,.aW,k=>k (.d (.int .i64 0))
 |.slice _,.ar id,k=>match ay id with
  |some (.aQ _ _ rows)=>k (.d (.int .i64 rows.length))
  |_=>False
 |.slice _,.a_s _ _ _ n,k=>k (.d (.int .i64 n))
 |.slice _,.av _ _ _ n,k=>k (.d (.int .i64 n))
 |_,_,_=>False
def Xh(mx:Bool):List ah->(ah->Prop)->Prop
 | [.d (.int ka a),.d (.int _ b)],k=>k (.d (.int ka (if mx=true then (if b>a then b else a) else (if b<a then b else a))))
 |_,_=>False
def ln(d:Int):Option ah->Option Int
 |none=>some d
 |some (.d (.int _ n))=>some n
 |_=>none
def cH(P:Program)(e:Nat):Nat:=match TI.of P e with
 |some te=>te.size
 |none=>1
def CS(P:Program):TK->Bool
 |.slice e=>(TI.of P e).isSome
 |_=>true
def Zw(P:Program)(ay:Nat->Option am):TK->ah->Option ah->Option ah->(ah->Prop)->Prop
 |.slice e,.d (.sl l),lo,hi,k=>match ln 0 lo,ln l.length hi with
  |some o,some h=>(0<=o/\o<=h/\h<=l.length)/\(∀ r∈l,r.length=cH P e)/\k (.d (.sl ((l.take h.toNat).drop o.toNat)))
  |_,_=>False
 |.slice e,.ar id,lo,hi,k=>match ay id with
  |some (.aQ _ sz rows)=>match ln 0 lo,ln rows.length hi with
   |some o,some h=>(0<=o/\o<=h/\h<=rows.length)/\sz=cH P e/\k (if o=h then .d (.sl []) else .a_s id sz o.toNat (h.toNat-o.toNat))
   |_,_=>False
  |_=>False
 |.slice e,.av id sz lo1 n,lo,hi,k=>match ay id with
  |some (.aQ _ sz' rows)=>match ln 0 lo,ln n hi with
   |some o,some h=>(0<=o/\o<=h/\lo1+h<=rows.length)/\sz=cH P e/\k (if lo1+o.toNat<rows.length then .av id sz (lo1+o.toNat) (h.toNat-o.toNat) else .d (.sl []))
   |_,_=>False
  |_=>False
 |.str,.d (.str s),lo,hi,k=>match ln 0 lo,ln s.size hi with
  |some o,some h=>(0<=o/\o<=h/\h<=s.size)/\k (.d (.str (s.extract o.toNat h.toNat)))
  |_,_=>False
 |_,_,_,_,_=>False
def Zx(P:Program)(ay:Nat->Option am):TK->ah->ah->ah->ah->(ah->Prop)->Prop
 |.slice e,.ar id,.d (.int _ a),.d (.int _ b),.d (.int _ c),k=>match ay id with
  |some (.aQ _ _ rows)=>(0<=a/\a<=b/\b<=c/\c<=rows.length)/\(TI.of P e).isSome=true/\k .junk
  |_=>False
 |_,_,_,_,_,_=>False
def QC:ah->(ah->Prop)->Prop
 |.d (.ptr l),k=>k (.d (.ptr l))
 |.bp id off,k=>k (.bp id off)
 |.ap id s i off,k=>k (.ap id s i off)
 |.fn f l,k=>k (.fn f l)
 |.d (.fn f l),k=>k (.d (.fn f l))
 |_,_=>False
def uY(P:Program)(f:Nat)(args:List D)(r:D):Prop:=
 aN P f=true/\∀ (w:World) (E:Nat->Prop) (vs:List Value),fp w E->zI w E args vs ->
  Calls P f vs.toArray w λe w'=>∃ v,e = .returned v/\Below w.heap.size w w'/\R w' (λb=>E b\/b<w.heap.size) r v
def Rk(P:Program)(f:Nat)(ds:List D)(lent:Bool)(r:D):Prop:=lent=true->r.bZ=true\/uY P f ds r
def Xi(P:Program)(f:Nat)(a:Option (List D×Bool))(k:ah->Prop):Prop:=
 match a with
 |some (ds,lent)=>∃ r,aq P f ds r/\Rk P f ds lent r/\k (.d r)
 |none=>False
def xF:ah->Option (Nat×List ah)
 |.fn f aJ=>some (f,aJ)
 |.d (.fn f ds)=>some (f,ds.map .d)
 |_=>none
def k5(P:Program)(ay:Nat->Option am)(callee:ah)(args:List ah)(k:ah->Prop):Prop:=
 match xF callee with
 |some (f,aJ)=>Xi P f (vO ay (args++aJ)) k
 |none=>False
def Jc:ah->ah->ah->(ah->Prop)->Prop
 |.d (.bool c),a,b,k=>k (if c=true then a else b)
 |_,_,_,_=>False
def Jd(P:Program)(t:Nat):Bool:=
 match TI.of P t,P.info? t with
 |some ti,some i=>match i.zero with
  |some (.agg _)=>ti.agg
  |some _=>!ti.agg
  |none=>false
 |_,_=>false
def Z1:D->D->Option Bool
 |.int ka a,.int kb b=>if ka=kb then some (decide (a=b)) else none
 |.str a,.str b=>some (decide (a=b))
 |_,_=>none
def kN(x:D):List (List D)->Option (Option D)
 | []=>some none
 | [k,v]::r=>match Z1 x k with
  |some true=>some (some v)
  |some false=>kN x r
  |none=>none
 |_=>none
def uZ(x v:D):List (List D)->Option (List (List D))
 | []=>some [[x,v]]
 | [k,u]::r=>match Z1 x k with
  |some true=>some ([x,v]::r)
  |some false=>match uZ x v r with
   |some r'=>some ([k,u]::r')
   |none=>none
  |none=>none
 |_=>none
def Xj(ay:Nat->Option am):ah->Option (List (List D))
 |.mp id=>match ay id with
  |some (.map _ rows)=>some rows
  |_=>none
 |.d (.mp rows)=>some rows
 |_=>none
def io(ti:TI)(k:ah->Prop):Prop:=
 if ti.agg=true then ti.zero.all (·.oneCell')=true/\k (wZ (ti.zero.map bY)) else match ti.zero with
  | [v]=>k (bY v)
  |_=>False
def jw:TK->D->Bool
 |.int k,.int k' _=>decide (k=k')
 |.str,.str _=>true
 |_,_=>false
def Zy(ay:Nat->Option am)(kk:TK)(te:TI)(commaOk:Bool)(m x:ah)(k:ah->Prop):Prop:=
 match Xj ay m,x with
 |some rows,.d x=>jw kk x=true/\match kN x rows with
  |some (some v)=>k (if commaOk=true then .d (.bE [v,.bool true]) else .d v)
  |some none=>io te λz=>k (if commaOk=true then .bE [z,.d (.bool false)] else z)
  |none=>False
 |_,_=>False
def k6(P:Program)(sub:List Field->Option (List TK)):Nat->List Field->Option (List TK)
 |_,[]=>some []
 | n, f :: r => if f.name != "_" && f.offset == n then (match P.underlying f.type, P.info? f.type with
  |some (.int k),some _=>(k6 P sub (n+1) r).map (.int k :: ·)
  |some .bool,some _=>(k6 P sub (n+1) r).map (.bool :: ·)
  |some .string,some _=>(k6 P sub (n+1) r).map (.str :: ·)
  |some (.struct fs),some i=>if P.stoodInHeld f.type==false then (match sub fs.toList with
   |some ks=>if i.size==ks.length then (k6 P sub (n+ks.length) r).map (ks ++ ·) else none
   |none=>none) else none
  |_,_=>none) else none
def KT(P:Program):Nat->List Field->Option (List TK)
 |0=>k6 P (λ_=>none) 0
 |e+1=>k6 P (KT P e) 0
def dl(P:Program)(t:Nat):Option (List TK):=
 match P.underlying t with
 |some (.struct fs)=>if P.stoodInHeld t==false&&P.eqGuardType P.depth t==false then KT P 2 fs.toList else none
 |_=>none
def qe:List TK->List D->List D->Option Bool
 | [],_,_=>some true
 |.int k::ks,.int k1 a::xs,.int k2 b::ys=>if k1=k/\k2=k then (qe ks xs ys).map (decide (a=b) && ·) else none
 |.bool::ks,.bool a::xs,.bool b::ys=>(qe ks xs ys).map (decide (a=b) && ·)
 |.str::ks,.str a::xs,.str b::ys=>(qe ks xs ys).map (decide (a=b) && ·)
 |_,_,_=>none
def QD(P:Program)(op:BinOp)(t:Nat):ah->ah->(ah->Prop)->Prop
 |.d (.agg a),.d (.agg b),k=>match dl P t with
  |some ks=>match qe ks a b with
   |some r=>match op with
    |.eql=>k (.d (.bool r))
    |.neq=>k (.d (.bool (!r)))
    |_=>False
   |none=>False
  |none=>False
 |_,_,_=>False
def uA(P:Program)(ay:Nat->Option am)(ρ:Operand->ah)(op:Op)(k:ah->Prop):Prop:=
 match op with
 |.move x=>k (ρ x)
 |.assign x=>k (ρ x)
 |.pick c a b=>Jc (ρ c) (ρ a) (ρ b) k
 |.load t x=>match TI.of P t with
  |some ti=>uX ay ti (ρ x) k
  |none=>False
 |.fieldAddr t x f=>match TI.of P t with
  |some ti=>Qu ti.kind (ρ x) f k
  |none=>False
 |.field t x f=>match TI.of P t with
  |some ti=>Qv ti.kind (ρ x) f k
  |none=>False
 |.indexAddr t x i=>match TI.of P t with
  |some ⟨.slice e,_,_,_,_⟩=>match TI.of P e with
   |some te=>Zv ay te.size (ρ x) (ρ i) k
   |none=>False
  |_=>False
 |.index t x i=>match TI.of P t with
  |some ⟨.str,_,_,_,_⟩=>Qw (ρ x) (ρ i) k
  |_=>False
 |.slice t x lo hi none=>match TI.of P t with
  |some ti=>CS P ti.kind=true/\Zw P ay ti.kind (ρ x) (lo.map ρ) (hi.map ρ) k
  |none=>False
 |.slice t x (some lo) (some hi) (some mx)=>match TI.of P t with
  |some ti=>Zx P ay ti.kind (ρ x) (ρ lo) (ρ hi) (ρ mx) k
  |none=>False
 |.binOp op t x y _=>match TI.of P t with
  |some ti=>(Qy ti.kind (ρ x)=true/\Qx op (ρ x) (ρ y) k)\/QD P op t (ρ x) (ρ y) k
  |none=>False
 |.unOp op _ x=>Qz op (ρ x) k
 |.convert s t x=>match TI.of P s,TI.of P t with
  |some _,some ti=>QA ti.kind (ρ x) k
  |_,_=>False
 |.extract t i=>QB (ρ t) i k
 |.lookup t m x c=>match TI.of P t with
  |some ⟨.map kt et,_,_,_,_⟩=>match TI.of P kt,TI.of P et with
   |some tk,some te=>Jd P et=true/\Zy ay tk.kind te c (ρ m) (ρ x) k
   |_,_=>False
  |_=>False
 |.nilCheck x=>QC (ρ x) k
 |.call {callee:=.builtin .len,args:=a,argTypes:=ts}=>match a.toList,ts.toList with
  | [x],[t]=>match TI.of P t with
   |some ti=>iq ay ti.kind (ρ x) k
   |none=>False
  |_,_=>False
 |.call {callee:=.builtin .max,args:=a,argTypes:=_}=>Xh true (a.toList.map ρ) k
 |.call {callee:=.builtin .min,args:=a,argTypes:=_}=>Xh false (a.toList.map ρ) k
 |.call {callee:=.value f,args:=a,argTypes:=_}=>k5 P ay (ρ f) (a.toList.map ρ) k
 |_=>False
end Go.V
namespace Go.V
variable [Dr] [Ov]
open Go.RowKit
section
variable {P:Program} {X:Nat->Prop} {w0:bz} {st:St} {β:Nat->Value} {a:Act} {w:World}
theorem KU(w:World)(E:Nat->Prop)(β:Nat->Value)(v:Value):Sm w E β (bY v) v:=by
 unfold bY
 split <;> simp[Sm,R]
theorem CU(m:Nat)(v:Value):ah.lo m (bY v):=by
 unfold bY
 split <;> simp[ah.lo]
theorem ax.may0(H:ax X w0 st β a w){id:Nat}{o:am}{b:Nat}(h:(id,o)∈st.own)(G:bP (β id)=some b):w0.dS b:=by
 obtain⟨_,_,F⟩:=H.own id o h
 cases o with
 |box T cells=>
  obtain⟨b',vs,hβ,E,_⟩:=F;rw[hβ] at G;simp[bP] at G;subst G;exact E
 |aQ T sz rows=>
  obtain⟨xs,K,_⟩:=F;exact(K.2 b G).1
 |map T rows=>
  obtain⟨r,es,clock,hβ,E,_⟩:=F;rw[hβ] at G;simp[bP] at G;subst G;exact E
 |cN k cells=>
  obtain⟨b',fn,D,vs,hβ,E,_⟩:=F;rw[hβ,RK.Ym] at G;cases G;exact E
theorem ax.zux(G:ax X w0 st β a w):bh w0.w (λb=>X b\/w0.lX b) w (Ex X β st.own):=by
 intro b F E
 have H:¬w0.dS b:=λh=>h.elim (λh=>absurd F (by omega)) (λh=>E (.inr h))
 refine⟨λh=>?_,G.below.block b H⟩
 rcases h with h | ⟨id,o,K,J⟩
 .exact E (.inl h)
 .exact H (G.may0 K J)
theorem ax.lw(H:ax X w0 st β a w):fW w (Ex X β st.own):=H.bU.2.over H.zux
theorem ax.zuy(H:ax X w0 st β a w):fW w X:=H.lw.over (bh.dy λ_ h=>.inl h)
theorem xm{α:Type}:∀ {l:List (Nat×α)} {t:Nat} {v:α},zc l t=some v->(t,v)∈l
 | [],_,_,h=>by simp[zc] at h
 |(k,u)::r,t,v,h=>by
  simp only[zc] at h;split at h
  .rename_i e;simp at h;subst e;subst h;exact nL
  .exact nG _ (xm h)
theorem ax.val(H:ax X w0 st β a w)(x:Operand):ah.lo st.next (st.val x)/\Sm w (Ex X β st.own) β (st.val x) (a.eval x):=by
 cases x with
 |tmp t=>
  simp only[St.val,Act.eval];cases h:zc st.af t with
  |none=>simp[ah.lo,Sm]
  |some s=>simpa using H.af t s h
 |const v=>exact⟨CU _ v,KU _ _ _ v⟩
 |global g=>
  simp only[St.val,Act.eval];cases h:zc GT g with
  |none=>simp[ah.lo,Sm]
  |some l=>exact⟨by simp[ah.lo],by simpa[Sm] using H.lw g l (xm h)⟩
 |func f=>exact⟨by simp[St.val,ah.lo,ah.a_],by simp[St.val,Sm,zi,Act.eval]⟩
theorem y8{t:Nat}{ti:TI}(h:TI.of P t=some ti):∃ i u z,P.info? t=some i/\P.underlying t=some u/\i.zero=some z /\
  ti.kind=qd P u/\ti.size=i.size/\ti.bytes=i.bytes/\ti.agg=Qq u/\ti.zero=z.cells.toList:=by
 unfold TI.of at h
 cases hi:P.info? t with
 |none=>simp[hi] at h
 |some i=>
  cases H:P.underlying t with
  |none=>simp[hi,H] at h
  |some u=>
   cases G:i.zero with
   |none=>simp[hi,H,G] at h
   |some z=>
    simp[hi,H,G] at h;exact⟨i,u,z,rfl,rfl,G,by rw[<-h],by rw[<-h],by rw[<-h],by rw[<-h],by rw[<-h]⟩
theorem qK{u:TypeDesc}{e:Nat}(h:qd P u = .slice e):u = .slice e:=by
 cases u <;> simp[qd] at h <;> first | (subst h;rfl) | (split at h <;> simp at h)
theorem Rl{u:TypeDesc}{k e:Nat}(h:qd P u = .map k e):u = .map k e:=by
 cases u <;> simp[qd] at h <;> first | (obtain⟨rfl,rfl⟩:=h;rfl) | (split at h <;> simp at h)
theorem Z2{u:TypeDesc}(h:qd P u = .str):u = .string:=by
 cases u <;> simp[qd] at h <;> first | rfl | (split at h <;> simp at h)
theorem eQ{u:TypeDesc}{k:IntKind}(h:qd P u = .int k):u = .int k:=by
 cases u <;> simp[qd] at h <;> first | (subst h;rfl) | (split at h <;> simp at h)
theorem Rm{u:TypeDesc}{l:List (Nat×Nat×Bool)}(h:qd P u = .struct l):∃ fs,u = .struct fs/\fs.toList.mapM (Qr P)=some l:=by
 cases u <;> simp[qd] at h
 rename_i fs
 split at h
 .rename_i l' H
  simp at h
  subst h;exact⟨fs,rfl,H⟩
 .simp at h
theorem zpy{A B:Type}{f:A->Option B}{l:List A}:∀ {m:List B},l.mapM f=some m->∀ (i:Nat) (y:B),m[i]?=some y->∃ x,l[i]?=some x/\f x=some y:=by
 induction l with
 |nil=>intro m h i y H;simp at h;subst h;simp at H
 |cons x xs ih=>
  intro m h i y H;simp only[tl] at h;cases G:f x with
  |none=>simp[G] at h
  |some z=>
   cases F:xs.mapM f with
   |none=>simp[G,F] at h
   |some m'=>
    simp[G,F] at h;subst h;cases i with
    |zero=>simp at H;subst H;exact⟨x,by simp,G⟩
    |succ i=>simpa using ih F i y (by simpa using H)
theorem Rn{u:TypeDesc}{l:List (Nat×Nat×Bool)}(h:qd P u = .struct l){f:Nat}{off sz:Nat}{agg:Bool}(F:l[f]?=some (off,sz,agg)):
  ∃ fs fd i v,u = .struct fs/\fs[f]?=some fd/\fd.offset=off/\P.info? fd.type=some i/\i.size=sz/\P.underlying fd.type=some v/\Qq v=agg:=by
 obtain⟨fs,rfl,E⟩:=Rm h
 obtain⟨fd,G,H⟩:=zpy E f _ F
 unfold Qr at H
 cases hi:P.info? fd.type with
 |none=>simp[hi] at H
 |some i=>
  cases K:P.underlying fd.type with
  |none=>simp[hi,K] at H
  |some v=>
   simp[hi,K] at H;exact⟨fs,fd,i,v,rfl,by simpa using G,H.1,hi,H.2.1,K,H.2.2⟩
theorem add_lit(b off n:Nat):(⟨b,off,none⟩:Addr).add n=⟨b,off+n,none⟩:=by
 unfold Addr.add;split
 .rename_i h;subst h;rfl
 .rfl
theorem QE{t:Nat}{u:TypeDesc}(h:P.underlying t=some u)(w:World):(isAgg t).run P w = .ok (Qq u) w:=by
 unfold isAgg
 simp only[Sem.run_bind,run_underlying h,Result.andThen_ok]
 cases u <;> rfl
theorem bQ{t:Nat}{i:TypeInfo}(h:P.info? t=some i)(w:World):(sizeOf t).run P w = .ok i.size w:=by
 simp[sizeOf,typeInfo,h]
theorem CV{t:Nat}{ti:TI}(G:TI.of P t=some ti)(H:ti.agg=false){b off:Nat}{v:Value}(h:w.cell? ⟨b,off,none⟩=some v):
  (Instr.loadAt t (.pointer (some ⟨b,off,none⟩))).run P w = .ok v w:=by
 obtain⟨i,u,z,hi,F,E,_,_,_,K,_⟩:=y8 G
 rw[H] at K
 simp[Instr.loadAt,Instr.sureAddr,loadVar,QE F,<-K,h]
theorem CW{t:Nat}{ti:TI}(G:TI.of P t=some ti)(H:ti.agg=true){b off:Nat}{vs:List Value}(F:vs.length=ti.size)
  (h:∀ j v,vs[j]?=some v->w.cell? ⟨b,off+j,none⟩=some v) :
  (Instr.loadAt t (.pointer (some ⟨b,off,none⟩))).run P w = .ok (.agg vs.toArray) w:=by
 obtain⟨i,u,z,hi,E,K,_,J,_,L,_⟩:=y8 G
 rw[H] at L
 have M:=run_loadCells_list (P:=P) (w:=w) ⟨b,off,none⟩ vs (λj v O=>by rw[add_lit];exact h j v O)
 rw[F,J] at M
 simp[Instr.loadAt,Instr.sureAddr,loadVar,QE E,<-L,bQ hi,M]
section
variable {E:Nat->Prop}
theorem zi.length:∀ {l:List ah} {vs:List Value},zi w E β l vs->vs.length=l.length
 | [],vs,h=>by simp only[zi] at h;simp[h]
 |s::r,vs,h=>by simp only[zi] at h;obtain⟨v,vs',rfl,_,h⟩:=h;simp[zi.length h]
theorem zi.drop:∀ {l:List ah} {vs:List Value} (n:Nat),zi w E β l vs->zi w E β (l.drop n) (vs.drop n)
 | [],vs,n,h=>by simp only[zi] at h;subst h;simp[zi]
 |s::r,vs,0,h=>by simpa using h
 |s::r,vs,n+1,h=>by simp only[zi] at h;obtain⟨v,vs',rfl,_,h⟩:=h;simpa using zi.drop n h
theorem zi.take:∀ {l:List ah} {vs:List Value} (n:Nat),zi w E β l vs->zi w E β (l.take n) (vs.take n)
 | [],vs,n,h=>by simp only[zi] at h;subst h;simp[zi]
 |s::r,vs,0,h=>by simp[zi]
 |s::r,vs,n+1,h=>by simp only[zi] at h;obtain⟨v,vs',rfl,H,h⟩:=h;simp only[pE,zi];exact⟨v,_,rfl,H,zi.take n h⟩
theorem zi.get:∀ {l:List ah} {vs:List Value} {j:Nat} {s:ah},zi w E β l vs->l[j]?=some s->∃ v,vs[j]?=some v/\Sm w E β s v
 | [],vs,j,s,h,hj=>by simp at hj
 |x::r,vs,0,s,h,hj=>by simp only[zi] at h;obtain⟨v,vs',rfl,H,h⟩:=h;simp at hj;subst hj;exact⟨v,by simp,H⟩
 |x::r,vs,j+1,s,h,hj=>by simp only[zi] at h;obtain⟨v,vs',rfl,H,h⟩:=h;simpa using zi.get h (by simpa using hj)
theorem zi.append:∀ {l m:List ah} {vs us:List Value},zi w E β l vs->zi w E β m us->zi w E β (l++m) (vs++us)
 | [],m,vs,us,h,H=>by simp only[zi] at h;subst h;simpa using H
 |s::r,m,vs,us,h,H=>by simp only[zi] at h;obtain⟨v,vs',rfl,G,h⟩:=h;simp only[nV,zi];exact⟨v,_,rfl,G,zi.append h H⟩
theorem zi.Z3:∀ {l:List D} {vs:List Value},zI w E l vs->zi w E β (l.map ah.d) vs
 | [],vs,h=>by simpa[zI,zi] using h
 |d::r,vs,h=>by simp only[zI] at h;obtain⟨v,vs',rfl,H,h⟩:=h;simp only[nK,zi];exact⟨v,_,rfl,by simpa[Sm] using H,zi.Z3 h⟩
theorem ah.Je{m:Nat}:∀ {l:List ah} (n:Nat),ah.a_ m l->ah.a_ m (l.drop n)
 | [],n,h=>by simpa using h
 |s::r,0,h=>by simpa using h
 |s::r,n+1,h=>by simp only[ah.a_] at h;simpa using ah.Je n h.2
theorem ah.KV{m:Nat}:∀ {l:List ah} (n:Nat),ah.a_ m l->ah.a_ m (l.take n)
 | [],n,h=>by simpa using h
 |s::r,0,h=>by simp[ah.a_]
 |s::r,n+1,h=>by simp only[ah.a_] at h;simp only[pE,ah.a_];exact⟨h.1,ah.KV n h.2⟩
theorem ah.CX{m:Nat}:∀ {l r:List ah},ah.a_ m l->ah.a_ m r->ah.a_ m (l++r)
 | [],r,_,h=>by simpa using h
 |s::l,r,h,H=>by simp only[ah.a_,nV] at h ⊢;exact⟨h.1,ah.CX h.2 H⟩
theorem ah.CY{m:Nat}:∀ {l:List ah} {s:ah},ah.a_ m l->s∈l->ah.lo m s
 | [],s,_,h=>by cases h
 |x::l,s,h,H=>by
  simp only[ah.a_] at h;rcases nE.1 H with e | e
  .subst e;exact h.1
  .exact ah.CY h.2 e
theorem ah.Ro(m:Nat):∀ (l:List D),ah.a_ m (l.map ah.d)
 | []=>by simp[ah.a_]
 |_::r=>by simp only[nK,ah.a_];exact⟨by simp[ah.lo],ah.Ro m r⟩
theorem CZ{s:ah}{d:D}{v:Value}(h:Qs s=some d)(hs:Sm w E β s v):R w E d v:=by
 cases s <;> simp[Qs] at h
 .subst h;simpa[Sm] using hs
 .subst h;simp only[Sm] at hs;subst hs;simp only[R];exact⟨none,0,rfl,by simp,nU _,λ_=>rfl,λh=>absurd rfl h⟩
theorem KW:∀ {l:List ah} {ds:List D} {vs:List Value},vD l=some ds->zi w E β l vs->(∀ v∈vs,v.oneCell'=true)->zl w E ds vs
 | [],ds,vs,h,hs,_=>by simp[vD] at h;subst h;simpa[zi,zl] using hs
 |s::r,ds,vs,h,hs,H=>by
  simp only[zi] at hs;obtain⟨v,vs',rfl,G,hs⟩:=hs;simp only[vD] at h;cases F:Qs s with
  |none=>simp[F] at h
  |some x=>
   cases K:vD r with
   |none=>simp[F,K] at h
   |some xs=>
    simp[F,K] at h;subst h;simp only[zl];exact⟨v,vs',rfl,H v (by simp),CZ F G,KW K hs (λu F=>H u (by simp[F]))⟩
theorem Jf{l:List ah}{vs:List Value}(hs:zi w E β l vs)(H:∀ v∈vs,v.oneCell'=true):Sm w E β (wZ l) (.agg vs.toArray):=by
 unfold wZ
 split
 .rename_i ds h
  simp only[Sm,R];exact⟨vs,rfl,KW h hs H⟩
 .simp only[Sm];exact⟨vs,rfl,hs,H⟩
theorem Jg{l:List ah}{m:Nat}(h:ah.a_ m l):ah.lo m (wZ l):=by
 unfold wZ
 split <;> simp[ah.lo,h]
end
def YV(P:Program)(w:World)(E:Nat->Prop)(β:Nat->Value)(m:Nat)(c:Sem Value)(k:ah->Prop):Prop:=
 ∃ s v,k s/\ah.lo m s/\Sm w E β s v/\c.run P w = .ok v w
section
variable {E:Nat->Prop} {m:Nat} {k:ah->Prop}
theorem Rq{t:Nat}{ti:TI}(F:TI.of P t=some ti){l:List D}{b off:Nat}(K:zZ w E b l off)(h:fX ti l k):
  YV P w E β m (Instr.loadAt t (.pointer (some ⟨b,off,none⟩))) k:=by
 unfold fX at h
 split at h
 .rename_i H
  obtain⟨vs,G,J⟩:=(zZ.take ti.size K).cells;refine⟨_,_,h.2,by simp[ah.lo],?_,CW F H (vs:=vs) ?_ J⟩
  .simp only[Sm,R];exact⟨vs,rfl,G⟩
  .rw[G.length];simp;omega
 .rename_i H
  cases l with
  |nil=>simp at h
  |cons x xs=>
   simp only[zZ] at K;obtain⟨⟨v,J,_,L⟩,_⟩:=K;exact⟨_,v,h,by simp[ah.lo],by simpa[Sm] using L,CV F (by simpa using H) J⟩
theorem Rr{t:Nat}{ti:TI}(G:TI.of P t=some ti){l:List ah}{b off:Nat}{vs:List Value}(hs:zi w E β l vs)(F:∀ v∈vs,v.oneCell'=true)
  (K:∀ j v,vs[j]?=some v->w.cell? ⟨b,off+j,none⟩=some v) (J:ah.a_ m l) (h:Yn ti l k) :
  YV P w E β m (Instr.loadAt t (.pointer (some ⟨b,off,none⟩))) k:=by
 unfold Yn at h
 split at h
 .rename_i H
  refine⟨_,_,h.2,Jg (ah.KV _ J),Jf (zi.take ti.size hs) (λv L=>F v (oh L)),CW G H (vs:=vs.take ti.size) ?_ ?_⟩
  .have:=hs.length;simp;omega
  .intro j v hj
   rw[og] at hj;split at hj
   .exact K j v hj
   .cases hj
 .rename_i H
  cases l with
  |nil=>simp at h
  |cons x xs=>
   simp only[zi] at hs;obtain⟨v,vs',rfl,L,hs⟩:=hs;simp only[ah.a_] at J;exact⟨_,v,h,J.1,L,CV G (by simpa using H) (by simpa using K 0 v (by simp))⟩
end
end
end Go.V
namespace Go.V
variable [Dr] [Ov]
open Go.RowKit
section
variable {P:Program} {X:Nat->Prop} {w0:bz} {st:St} {β:Nat->Value} {a:Act} {w:World} {k:ah->Prop}
theorem ax.dm(H:ax X w0 st β a w){id:Nat}{o:am}(h:st.ay id=some o):id<st.next/\o.lo st.next/\yV w w0.dS (Ex X β st.own) β id o:=
 H.own id o (xm h)
theorem KX{b:Nat}{vs:List Value}{T:Nat}(h:w.heap[b]?=some (.cells vs.toArray T (0,0))){j:Nat}{v:Value}(hj:vs[j]?=some v):w.cell? ⟨b,j,none⟩=some v:=by
 simp[World.cell?,h,hj]
theorem KY{ai T sz n:Nat}{v:Value}{xs:List Value}(h:w.ownsRow ai T sz v n xs){b:Nat}{len c:Nat}(H:v = .slice (some ⟨b,0,none⟩) len c){j:Nat}{u:Value}(hj:xs[j]?=some u):w.cell? ⟨b,j,none⟩=some u:=by
 have:=h.cells (g:=b) (by rw[H];rfl) j u hj
 rwa [add_lit,pG] at this
theorem ze7(L:ax X w0 st β a w){t:Nat}{ti:TI}(M:TI.of P t=some ti){s:ah}{v:Value}(hs:Sm w (Ex X β st.own) β s v)(h:uX st.ay ti s k):
  YV P w (Ex X β st.own) β st.next (Instr.loadAt t v) k:=by
 unfold uX at h
 split at h
 .rename_i l
  simp only[Sm,R] at hs;obtain⟨b,off,rfl,_,_,O⟩:=hs;exact Rq M O h
 .rename_i id off
  split at h
  .rename_i T cells Q
   obtain⟨_,E,b,vs,V,_,Y,K,Z⟩:=L.dm Q;simp only[Sm] at hs;obtain⟨b',G,rfl⟩:=hs;rw[V] at G;cases G;refine Rr M (zi.drop off K) (λu A=>Z u (oH A)) ?_ (ah.Je off E) h
   intro j u hj;exact KX Y (by simpa[oQ] using hj)
  .exact h.elim
 .rename_i id sz i off
  split at h
  .rename_i T sz' rows Q
   obtain⟨_,_,xs,B,C,J⟩:=L.dm Q;simp only[Sm] at hs;obtain⟨b,n,c,V,rfl⟩:=hs;obtain⟨rfl,hi,h⟩:=h;have H:zZ w (Ex X β st.own) b rows.flatten 0:=zZ.dZ C λj u hj=>by
    rw[pG];exact KY B.1 V hj
   have F:=(yj.get (yj.fv J H) (i:=i) (r:=rows.getD i []) (by simp[ot,hi])).2
   rw[pG] at F;exact Rq M (zZ.drop off F) h
  .exact h.elim
 .exact h.elim
theorem zae{t:Nat}{ti:TI}(M:TI.of P t=some ti){E:Nat->Prop}{m:Nat}{s:ah}{v:Value}(O:ah.lo m s)(hs:Sm w E β s v){f:Nat}(h:Qu ti.kind s f k):
  YV P w E β m (Instr.fieldAt t v f) k:=by
 obtain⟨i,u,z,hi,Q,T,V,_⟩:=y8 M
 unfold Qu at h
 split at h
 .rename_i fs H
  have df:∀ {off sz:Nat} {ag:Bool} {b o:Nat},fs[f]?=some (off,sz,ag)->sz≠0->(Instr.fieldAt t (.pointer (some ⟨b,o,none⟩)) f).run P w = .ok (.pointer (some ⟨b,o+off,none⟩)) w:=by
   intro off sz ag b o X G;obtain⟨fs',fd,j,u',rfl,F,rfl,hj,K,_⟩:=Rn (V.symm.trans H) X;have J:¬j.size=0:=by rw[K];exact G
   simp[Instr.fieldAt,run_underlying Q,F,Instr.sureAddr,fieldPlace,bQ hj,J,add_lit]
  split at h
  .rename_i off sz ag l X
   simp only[Sm,R] at hs;obtain⟨b,o,rfl,Y,L,Z⟩:=hs;exact⟨_,_,h.2,by simp[ah.lo],by simp only[Sm,R];exact⟨b,o+off,rfl,Y,L,zZ.drop off Z⟩,df X h.1⟩
  .rename_i off sz ag id o X
   simp only[Sm] at hs;obtain⟨b,A,rfl⟩:=hs;exact⟨_,_,h.2,by simpa[ah.lo] using O,by simp only[Sm];exact⟨b,A,rfl⟩,df X h.1⟩
  .rename_i off sz ag id s' i' o X
   simp only[Sm] at hs;obtain⟨b,n,c,A,rfl⟩:=hs;exact⟨_,_,h.2,by simpa[ah.lo] using O,by simp only[Sm];exact⟨b,n,c,A,by rw[pP]⟩,df X h.1⟩
  .exact h.elim
 .exact h.elim
theorem zcr{t:Nat}{ti:TI}(J:TI.of P t=some ti){E:Nat->Prop}{m:Nat}{s:ah}{v:Value}(L:ah.lo m s)(hs:Sm w E β s v){f:Nat}(h:Qv ti.kind s f k):
  YV P w E β m (Instr.field t v f) k:=by
 obtain⟨i,u,z,hi,M,O,Q,_⟩:=y8 J
 unfold Qv at h
 split at h
 .rename_i fs F
  have df:∀ {off sz:Nat} {ag:Bool} {cs:Array Value},fs[f]?=some (off,sz,ag) ->
    (ag=true->(Instr.field t (.agg cs) f).run P w = .ok (.agg (cs.extract off (off+sz))) w) /\
    (ag=false->∀ x,cs[off]?=some x->(Instr.field t (.agg cs) f).run P w = .ok x w):=by
   intro off sz ag cs T;obtain⟨fs',fd,j,u',rfl,G,rfl,hj,K,V,H⟩:=Rn (Q.symm.trans F) T;constructor
   .intro e;rw[e] at H
    simp[Instr.field,run_underlying M,G,asAgg,part,QE V,H,bQ hj,K]
   .intro e x X;rw[e] at H
    simp[Instr.field,run_underlying M,G,asAgg,part,QE V,H,X]
  split at h
  .rename_i off sz ag l T
   simp only[Sm,R] at hs;obtain⟨vs,rfl,Y⟩:=hs;split at h
   .rename_i H
    refine⟨_,_,h.2,by simp[ah.lo],?_,(df T).1 H⟩
    simp only[Sm,R];refine⟨(vs.drop off).take sz,by simp,zl.extract off sz Y⟩
   .rename_i H
    cases Z:l.drop off with
    |nil=>rw[Z] at h;exact h.elim
    |cons x xs=>
     rw[Z] at h;have X:l[off]?=some x:=by rw[<-rf off,<-oQ,Z];rfl
     obtain⟨v,V,_,A⟩:=zl.get Y X;exact⟨_,v,h,by simp[ah.lo],by simpa[Sm] using A,(df T).2 (by simpa using H) v (by simpa using V)⟩
  .rename_i off sz ag l T
   simp only[Sm] at hs;obtain⟨vs,rfl,Y,B⟩:=hs;simp only[ah.lo] at L;split at h
   .rename_i H
    refine⟨_,_,h.2,Jg (ah.KV _ (ah.Je _ L)),Jf (zi.take sz (zi.drop off Y)) (λu M=>B u (oH (oh M))),?_⟩
    have:=(df (cs:=vs.toArray) T).1 H
    simpa using this
   .rename_i H
    cases Z:l.drop off with
    |nil=>rw[Z] at h;exact h.elim
    |cons x xs=>
     rw[Z] at h;have X:l[off]?=some x:=by rw[<-rf off,<-oQ,Z];rfl
     obtain⟨v,V,A⟩:=zi.get Y X;exact⟨_,v,h,ah.CY L (ol X),A,(df T).2 (by simpa using H) v (by simpa using V)⟩
  .exact h.elim
 .exact h.elim
end
end Go.V
namespace Go.V
variable [Dr] [Ov]
open Go.RowKit
section
variable {P:Program} {X:Nat->Prop} {w0:bz} {st:St} {β:Nat->Value} {a:Act} {w:World} {k:ah->Prop}
variable {E:Nat->Prop} {m:Nat}
theorem YV.int{c:Sem Value}{kd:IntKind}{n:Int}(h:k (.d (.int kd n)))(H:c.run P w = .ok (.int kd n) w):YV P w E β m c k:=
 ⟨_,_,h,by simp[ah.lo],by simp only[Sm,R],H⟩
theorem YV.bool{c:Sem Value}{b:Bool}(h:k (.d (.bool b)))(H:c.run P w = .ok (.bool b) w):YV P w E β m c k:=
 ⟨_,_,h,by simp[ah.lo],by simp only[Sm,R],H⟩
theorem YV.str{c:Sem Value}{b:ByteArray}(h:k (.d (.str b)))(H:c.run P w = .ok (.string b) w):YV P w E β m c k:=
 ⟨_,_,h,by simp[ah.lo],by simp only[Sm,R],H⟩
theorem zl0(op:BinOp)(t:Nat)(x y:Operand)(ka kb:IntKind)(p q:Int):(eqGuard op t x y (.int ka p) (.int kb q)).run P w = .ok () w:=by
 cases op <;> rfl
theorem zl1(op:BinOp)(t:Nat)(x y:Operand)(p q:ByteArray):(eqGuard op t x y (.string p) (.string q)).run P w = .ok () w:=by
 cases op <;> rfl
theorem zh2(op:BinOp)(t:Nat)(x y:Operand)(p q:Bool):(eqGuard op t x y (.bool p) (.bool q)).run P w = .ok () w:=by
 cases op <;> rfl
theorem KZ(op:BinOp)(t:Nat)(x y:Operand)(a b:Option Addr)(n c n' c':Nat):(eqGuard op t x y (.slice a n c) (.slice b n' c')).run P w = .ok () w:=by
 cases op <;> rfl
theorem zl2{u:TypeDesc}(h:qd P u = .bool):u = .bool:=by
 cases u <;> simp[qd] at h <;> first | rfl | (split at h <;> simp at h)
theorem Rt{kd:TK}(h:Jb kd=true):∃ e,kd = .slice e:=by
 cases kd <;> simp[Jb] at h
 exact⟨_,rfl⟩
theorem fP{t e:Nat}(H:P.underlying t=some (.slice e)){b off len cap:Nat}{kd:IntKind}{n:Int}(G:0<=n)(F:n<len){i:TypeInfo}(hi:P.info? e=some i):
  (Instr.indexAt t (.slice (some ⟨b,off,none⟩) len cap) (.int kd n)).run P w = .ok (.pointer (some ⟨b,off+n.toNat*i.size,none⟩)) w:=by
 simp[Instr.indexAt,asIntOf,run_underlying H,G,F,bQ hi,add_lit]
theorem zaf(M:ax X w0 st β a w){t e:Nat}(O:P.underlying t=some (.slice e)){te:TI}(F:TI.of P e=some te){s s':ah}{v v':Value}(Q:ah.lo st.next s)
  (hs:Sm w (Ex X β st.own) β s v) (H:Sm w (Ex X β st.own) β s' v') (h:Zv st.ay te.size s s' k) :
  YV P w (Ex X β st.own) β st.next (Instr.indexAt t v v') k:=by
 obtain⟨i,_,_,hi,_,_,_,E,_⟩:=y8 F
 rw[E] at h
 unfold Zv at h
 split at h
 .rename_i l kd n
  obtain⟨⟨V,Y⟩,Z,h⟩:=h;simp only[Sm,R] at hs H;subst H;obtain⟨ad,cap,rfl,_,_,_,A⟩:=hs;have K:l≠[]:=by intro e;subst e;simp at Y;omega
  obtain⟨b,off,rfl,B,J,A⟩:=A K;have C:n.toNat<l.length:=by omega
  have I:=yj.get A (i:=n.toNat) (r:=l.getD n.toNat []) (by simp[ot,C])
  have G:i.size=dh l:=by rw[<-Z,I.1]
  refine⟨_,_,h,by simp[ah.lo],?_,fP O V Y hi⟩
  simp only[Sm,R];refine⟨b,_,rfl,B,J,?_⟩
  rw[G];exact I.2
 .rename_i id kd n
  split at h
  .rename_i T sz rows N
   obtain⟨⟨V,Y⟩,rfl,h⟩:=h;obtain⟨cq,_,xs,S,W,L⟩:=M.dm N;simp only[Sm] at hs H;simp only[R] at H;subst H;rcases S.1.2 with⟨_,C⟩ | ⟨g,cap,cur,I,hb,hh,_⟩
   .omega
   .rw[I] at hs;subst hs
    exact⟨_,_,h,by simpa[ah.lo] using cq,by simp only[Sm];exact⟨g,_,_,I,rfl⟩,by simpa using fP (off:=0) O V Y hi⟩
  .exact h.elim
 .exact h.elim
theorem zcs{t:Nat}(G:P.underlying t=some .string){s s':ah}{v v':Value}(hs:Sm w E β s v)(H:Sm w E β s' v')(h:Qw s s' k):
  YV P w E β m (Instr.index t v v') k:=by
 unfold Qw at h
 split at h
 .rename_i b kd n
  obtain⟨⟨F,K⟩,h⟩:=h;simp only[Sm,R] at hs H;subst hs;subst H;refine YV.int h ?_
  have J:n.toNat<b.size:=by omega
  have L:b[n.toNat]?=some b[n.toNat]:=by simp[J]
  have M:cY b n=(b[n.toNat].toNat:Int):=by
   unfold cY;have:b.data.toList.getD n.toNat 0=b[n.toNat]:=by
    rw[ot];have O:n.toNat<b.data.toList.length:=by simpa using J
    rw[ac O];rfl
   rw[this]
  rw[M];simp[Instr.index,asIntOf,run_underlying G,F,L]
 .exact h.elim
theorem Jh{kd:IntKind}{n:Int}(h:dP kd n k):∃ s,k s/\s = .d (.int kd (kd.wrap n)):=by
 unfold dP at h
 split at h
 .split at h
  .exact⟨_,h,rfl⟩
  .refine⟨_,h.2,?_⟩
   have:IntKind.i64.wrap n=n:=IntWalk.i64_in n (by unfold aB at h;omega)
   rw[this]
 .exact⟨_,h,rfl⟩
theorem zh3{op:BinOp}{t:Nat}{s s':ah}{v v':Value}{x y:Operand}(hs:Sm w E β s v)(H:Sm w E β s' v')
  {ti:TI} (K:TI.of P t=some ti) (G:Qy ti.kind s=true) (h:Qx op s s' k) :
  YV P w E β m (do eqGuard op t x y v v';binOp op t v v') k:=by
 obtain⟨i,u,z,hi,J,L,F,_⟩:=y8 K
 unfold Qx at h
 split at h
 .rename_i ka p kb q
  simp only[Sm,R] at hs H;subst hs;subst H;have g:=λop=>zl0 (P:=P) (w:=w) op t x y ka kb p q
  split at h
  .refine YV.int h.2 ?_
   have:¬q<0:=by omega
   simp[g,binOp,Op.shift,this,Yo]
  .refine YV.int h.2 ?_
   have:¬q<0:=by omega
   simp[g,binOp,Op.shift,this,Yo]
  .rename_i op' M O
   obtain⟨rfl,h⟩:=h;unfold KP at h;split at h
   .obtain⟨s,Q,rfl⟩:=Jh h
    exact YV.int Q (by simp[g,binOp,Op.intArith])
   .obtain⟨s,Q,rfl⟩:=Jh h
    exact YV.int Q (by simp[g,binOp,Op.intArith])
   .obtain⟨s,Q,rfl⟩:=Jh h
    exact YV.int Q (by simp[g,binOp,Op.intArith])
   .obtain⟨s,Q,rfl⟩:=Jh h.2
    exact YV.int Q (by simp[g,binOp,Op.intDiv,h.1])
   .exact YV.int h.2 (by simp[g,binOp,Op.intDiv,h.1])
   .exact YV.int h (by simp[g,binOp,Op.intBits,wB])
   .exact YV.int h (by simp[g,binOp,Op.intBits,wB])
   .exact YV.int h (by simp[g,binOp,Op.intBits,wB])
   .exact YV.int h (by simp[g,binOp,Op.intBits,wB])
   .exact YV.bool h (by simp[g,binOp,Op.intCmp];rfl)
   .exact YV.bool h (by simp[g,binOp,Op.intCmp];rfl)
   .exact YV.bool h (by simp[g,binOp,Op.intCmp])
   .exact YV.bool h (by simp[g,binOp,Op.intCmp])
   .exact YV.bool h (by simp[g,binOp,Op.intCmp])
   .exact YV.bool h (by simp[g,binOp,Op.intCmp])
   .exact h.elim
 .rename_i p q
  simp only[Sm,R] at hs H;subst hs;subst H;have g:=λop=>zl1 (P:=P) (w:=w) op t x y p q
  unfold KQ at h;split at h
  .refine YV.str h.2 ?_
   have:¬((p.size+q.size:Nat):Int)>IntKind.i64.max:=by
    have:=h.1
    simp[IntKind.max,IntKind.signed,IntKind.bits];omega
   simp[g,binOp,Op.stringOp];omega
  all_goals first | exact h.elim | exact YV.bool h (by simp[g,binOp,Op.stringOp])
 .rename_i p q
  simp only[Sm,R] at hs H;subst hs;subst H;have g:=λop=>zh2 (P:=P) (w:=w) op t x y p q
  have J:P.underlying t=some .bool:=by
   simp only[Qy] at G;split at G
   .rename_i Q;rw[F] at Q;rw[J,zl2 Q]
   .cases G
  unfold KR at h;split at h
  .exact YV.bool h (by simp[g,binOp,run_equal_bool w t p q J])
  .exact YV.bool h (by simp[g,binOp,run_equal_bool w t p q J])
  .exact h.elim
 .rename_i l
  obtain⟨e,T⟩:∃ e,P.underlying t=some (.slice e):=by
   simp only[Qy] at G;obtain⟨e,Q⟩:=Rt G;rw[F] at Q;exact⟨e,by rw[J,qK Q]⟩
  simp only[Sm,R] at hs H;obtain⟨ad,cap,rfl,M,O,V,X⟩:=hs;subst H;have Y:ad.isNone=true->l=[]:=by
   intro Z;have:=V (by simpa using Z)
   exact nZ (by omega)
  split at h
  .exact YV.bool (h ad.isNone Y) (by simp[KZ,binOp,run_equal_slice_nil w t e ad _ cap T])
  .exact YV.bool (h ad.isNone Y) (by simp[KZ,binOp,run_equal_slice_nil w t e ad _ cap T])
  .exact h.elim
 .obtain⟨e,T⟩:∃ e,P.underlying t=some (.slice e):=by
   simp only[Qy] at G;obtain⟨e,Q⟩:=Rt G;rw[F] at Q;exact⟨e,by rw[J,qK Q]⟩
  simp only[Sm] at hs H;subst hs;subst H;split at h
  .exact YV.bool h (by simp[KZ,binOp,run_equal_slice_nil w t e none _ _ T])
  .exact YV.bool h (by simp[KZ,binOp,run_equal_slice_nil w t e none _ _ T])
  .exact h.elim
 .exact h.elim
theorem zl3{op:UnOp}{s:ah}{v:Value}(hs:Sm w E β s v)(h:Qz op s k):YV P w E β m (Op.unary op v) k:=by
 unfold Qz at h
 split at h
 .simp only[Sm,R] at hs;subst hs
  split at h
  .exact YV.bool h (by simp[Op.unary])
  .exact h.elim
 .simp only[Sm,R] at hs;subst hs
  split at h
  .obtain⟨s,H,rfl⟩:=Jh h
   exact YV.int H (by simp[Op.unary,Op.intArith])
  .exact h.elim
 .exact h.elim
theorem zat{bl dst:Nat}{ti ti':TI}(F:TI.of P bl=some ti')(M:TI.of P dst=some ti){s:ah}{v:Value}(hs:Sm w E β s v)(h:QA ti.kind s k):
  YV P w E β m (convert bl dst v) k:=by
 obtain⟨i,u,z,hi,O,Q,H,_⟩:=y8 M
 obtain⟨i',u',z',J,G,L,K,_⟩:=y8 F
 unfold QA at h
 split at h
 .rename_i kd e kd' n T
  rw[H] at T;have:=eQ T;subst this
  simp only[Sm,R] at hs;subst hs;refine YV.int h ?_
  simp[convert,run_underlying O,run_underlying G,Conv.intToInt]
 .rename_i e b T
  rw[H] at T;have:=Z2 T;subst this
  simp only[Sm,R] at hs;subst hs;refine YV.str h ?_
  simp[convert,run_underlying O,run_underlying G]
 .exact h.elim
theorem zau{s:ah}{v:Value}{i:Nat}(H:ah.lo m s)(hs:Sm w E β s v)(h:QB s i k):YV P w E β m (Instr.extract v i) k:=by
 unfold QB at h
 split at h
 .simp only[Sm,R] at hs
  obtain⟨vs,rfl,G⟩:=hs;split at h
  .rename_i x F
   obtain⟨v,K,G⟩:=zI.get G F;exact⟨_,v,h,by simp[ah.lo],by simpa[Sm] using G,by simp[Instr.extract,K]⟩
  .exact h.elim
 .simp only[Sm] at hs
  simp only[ah.lo] at H;obtain⟨vs,rfl,G⟩:=hs;split at h
  .rename_i x F
   obtain⟨v,K,G⟩:=zi.get G F;exact⟨_,v,h,ah.CY H (ol F),G,by simp[Instr.extract,K]⟩
  .exact h.elim
 .exact h.elim
theorem zh4(G:ax X w0 st β a w){t ty:Nat}{ti:TI}(F:TI.of P t=some ti){s:ah}{v:Value}(hs:Sm w (Ex X β st.own) β s v)(h:iq st.ay ti.kind s k):
  YV P w (Ex X β st.own) β st.next (Builtin.len_ #[t] ty #[v]) k:=by
 obtain⟨i,u,z,hi,E,K,H,_⟩:=y8 F
 unfold iq at h
 split at h
 .rename_i e l J
  rw[H] at J;have:=qK J;subst this;simp only[Sm,R] at hs;obtain⟨ad,cap,rfl,_⟩:=hs;exact YV.int h (by simp[Builtin.len_,run_underlying E,goInt])
 .rename_i b J
  rw[H] at J;have:=Z2 J;subst this;simp only[Sm,R] at hs;subst hs;exact YV.int h (by simp[Builtin.len_,run_underlying E,goInt])
 .rename_i e J
  rw[H] at J;have:=qK J;subst this;simp only[Sm] at hs;subst hs;exact YV.int h (by simp[Builtin.len_,run_underlying E,goInt])
 .rename_i e id J
  rw[H] at J;have:=qK J;subst this;split at h
  .rename_i T sz rows L
   obtain⟨_,_,xs,M,_,_⟩:=G.dm L;simp only[Sm] at hs;subst hs;rcases M.1.2 with⟨O,Q⟩ | ⟨g,cap,cur,V,_⟩
   .rw[O];rw[Q] at h;exact YV.int h (by simp[Builtin.len_,run_underlying E,goInt])
   .rw[V];exact YV.int h (by simp[Builtin.len_,run_underlying E,goInt])
  .exact h.elim
 .rename_i e _ _ _ n J
  rw[H] at J;have:=qK J;subst this;simp only[Sm] at hs;obtain⟨b,m,c,k',_,rfl,_⟩:=hs;exact YV.int h (by simp[Builtin.len_,run_underlying E,goInt])
 .rename_i e _ _ _ n J
  rw[H] at J;have:=qK J;subst this;simp only[Sm] at hs;obtain⟨b,c,_,rfl,_⟩:=hs;exact YV.int h (by simp[Builtin.len_,run_underlying E,goInt])
 .exact h.elim
theorem zh5{s:ah}{v:Value}{o:Oper}{x:Operand}{ρ:Operand->Value}(G:o.op = .nilCheck x)(F:ρ x=v)(K:ah.lo m s)(hs:Sm w E β s v)(h:QC s k):
  ∃ s v,k s/\ah.lo m s/\Sm w E β s v/\(execOp ρ o).run P w = .ok (.value v) w:=by
 unfold QC at h
 split at h
 .have H:=hs
  simp only[Sm,R] at hs;obtain⟨b,off,rfl,_⟩:=hs;exact⟨_,_,h,K,H,by simp[execOp,G,F]⟩
 .have H:=hs
  simp only[Sm] at hs;obtain⟨b,_,rfl⟩:=hs;exact⟨_,_,h,K,H,by simp[execOp,G,F]⟩
 .have H:=hs
  simp only[Sm] at hs;obtain⟨b,n,c,_,rfl⟩:=hs;exact⟨_,_,h,K,H,by simp[execOp,G,F]⟩
 .have H:=hs
  simp only[Sm] at hs;obtain⟨vs,rfl,_⟩:=hs;exact⟨_,_,h,K,H,by simp[execOp,G,F]⟩
 .have H:=hs
  simp only[Sm,R] at hs;obtain⟨vs,rfl,_⟩:=hs;exact⟨_,_,h,K,H,by simp[execOp,G,F]⟩
 .exact h.elim
theorem Yp{d n:Int}{s:Option ah}{v:Option Value}(H:s.isSome=v.isSome)(hs:∀ x y,s=some x->v=some y->Sm w E β x y)(h:ln d s=some n):
  (s=none/\v=none/\n=d)\/∃ kd,v=some (.int kd n):=by
 unfold ln at h
 split at h
 .left;simp at h H;exact⟨rfl,by simpa using H,h.symm⟩
 .right
  simp at h;subst h
  cases v with
  |none=>simp at H
  |some y=>have:=hs _ y rfl rfl;simp only[Sm,R] at this;exact⟨_,by rw[this]⟩
 .cases h
theorem ze8{isS:Bool}{len cap:Nat}{lo hi:Int}{vlo vhi:Option Value}(F:0<=lo)(E:lo<=hi)(K:hi<=cap)
  (H:(vlo=none/\lo=0)\/∃ kd,vlo=some (.int kd lo)) (G:(vhi=none/\hi=len)\/∃ kd,vhi=some (.int kd hi)) :
  (Instr.sliceBounds isS len cap vlo vhi none).run P w = .ok (lo.toNat,hi.toNat,cap) w:=by
 have e1:(lo.toNat:Int)=lo:=by omega
 have e2:(hi.toNat:Int)=hi:=by omega
 have l1:lo<=(hi.toNat:Int):=by omega
 have l3:0<=hi:=by omega
 rcases G with⟨rfl,rfl⟩ | ⟨kd,rfl⟩ <;> rcases H with⟨rfl,rfl⟩ | ⟨kd',rfl⟩ <;>
  simp[Instr.sliceBounds,Instr.sliceBound,asIntOf,F,K,l3]
 .exact λh=>absurd E (by omega)
 .omega
theorem B0{isS:Bool}{len cap:Nat}{lo hi:Int}{vlo vhi:Option Value}(F:0<=lo)(E:lo<=hi)(K:hi<=len)(J:len<=cap)
  (H:(vlo=none/\lo=0)\/∃ kd,vlo=some (.int kd lo)) (G:(vhi=none/\hi=len)\/∃ kd,vhi=some (.int kd hi)) :
  (Instr.sliceBounds isS len cap vlo vhi none).run P w = .ok (lo.toNat,hi.toNat,cap) w:=by
 have e1:(lo.toNat:Int)=lo:=by omega
 have e2:(hi.toNat:Int)=hi:=by omega
 have l1:lo<=(hi.toNat:Int):=by omega
 have l2:hi<=(cap:Int):=by omega
 have l3:0<=hi:=by omega
 rcases G with⟨rfl,rfl⟩ | ⟨kd,rfl⟩ <;> rcases H with⟨rfl,rfl⟩ | ⟨kd',rfl⟩ <;>
  simp[Instr.sliceBounds,Instr.sliceBound,asIntOf,F,l2,l3]
 .exact λh=>absurd E (by omega)
 .omega
theorem zbn(B:ax X w0 st β a w){t:Nat}{ti:TI}(C:TI.of P t=some ti){s sa sb sc:ah}{v va vb vc:Value}
  (hs:Sm w E β s v) (I:Sm w E β sa va) (N:Sm w E β sb vb) (S:Sm w E β sc vc) (h:Zx P st.ay ti.kind s sa sb sc k) :
  YV P w E β m (Instr.sliceAt t v (some va) (some vb) (some vc)) k:=by
 obtain⟨i,u,z,Y,W,hz,J,_⟩:=y8 C
 unfold Zx at h
 split at h
 case h_2=>exact h.elim
 rename_i e id ka a' kb b' kc c' hk
 split at h
 case h_2=>exact h.elim
 rename_i T sz rows L
 obtain⟨⟨h0,h1,h2,h3⟩,G,h⟩:=h
 obtain⟨te,G⟩:=rC.1 G
 obtain⟨ie,_,_,F,_,_,_,M,_⟩:=y8 G
 rw[J] at hk;have:=qK hk;subst this
 simp only[Sm,R] at hs I N S
 subst hs;subst I;subst N;subst S
 obtain⟨cq,_,xs,hx,_,_⟩:=B.dm L
 have K:∀ cap:Nat,rows.length<=cap->(Instr.sliceBounds true rows.length cap (some (.int ka a')) (some (.int kb b')) (some (.int kc c'))).run P w = .ok (a'.toNat,b'.toNat,c'.toNat) w:=by
  intro cap O;have e2:(b'.toNat:Int)=b':=by omega
  have e3:(c'.toNat:Int)=c':=by omega
  have l1:c'<=(cap:Int):=by omega
  have l2:0<=b':=by omega
  have l3:0<=c':=by omega
  simp[Instr.sliceBounds,Instr.sliceBound,asIntOf,h0,h1,h2,l1,l2,l3,e2,e3]
 rcases hx.1.2 with⟨hn,Q⟩ | ⟨g,cap,cur,hg,Z,A,H,V,_⟩
 .have N:=K 0 (by omega)
  rw[Q] at N;rw[hn];exact⟨_,_,h,by simp[ah.lo],by simp[Sm],by simp[Instr.sliceAt,Instr.slice,run_underlying W,N,bQ F];rfl⟩
 .have N:=K cap H
  rw[hg];exact⟨_,_,h,by simp[ah.lo],by simp[Sm],by simp[Instr.sliceAt,Instr.slice,run_underlying W,N,bQ F];rfl⟩
theorem zct(hm:ax X w0 st β a w)(hE:E=Ex X β st.own){t:Nat}{ti:TI}(ht:TI.of P t=some ti)(he:CS P ti.kind=true){s:ah}{lo hi:Option ah}{v:Value}{vlo vhi:Option Value}
  (hs:Sm w E β s v) (M:lo.isSome=vlo.isSome) (A:hi.isSome=vhi.isSome)
  (hl:ah.lo m s) (F:∀ x y,lo=some x->vlo=some y->Sm w E β x y) (K:∀ x y,hi=some x->vhi=some y->Sm w E β x y) (h:Zw P st.ay ti.kind s lo hi k) :
  YV P w E β m (Instr.sliceAt t v vlo vhi none) k:=by
 obtain⟨i,u,z,Hd,hu,hz,B,_⟩:=y8 ht
 unfold Zw at h
 split at h
 .rename_i e l hk
  rw[hk] at he;obtain⟨te,J⟩:=rC.1 (show(TI.of P e).isSome=true from he)
  obtain⟨ie,_,_,L,_,_,_,H,_⟩:=y8 J;have O:cH P e=ie.size:=by simp[cH,J,H]
  rw[B] at hk;have:=qK hk;subst this;simp only[Sm,R] at hs;obtain⟨ad,cap,rfl,h1,h2,h3,h4⟩:=hs;split at h
  .rename_i o hh e1 e2
   obtain⟨⟨b0,b1,b2⟩,N,h⟩:=h;have hb:=B0 (P:=P) (w:=w) (isS:=true) (len:=l.length) (cap:=cap) b0 b1 b2 h1
    (by rcases Yp M F e1 with⟨_,x,y⟩ | x;exact .inl ⟨x,y⟩;exact .inr x)
    (by rcases Yp A K e2 with⟨_,x,y⟩ | x;exact .inl ⟨x,y⟩;exact .inr x)
   have Q:((l.take hh.toNat).drop o.toNat).length=hh.toNat-o.toNat:=by simp;omega
   refine⟨_,.slice (if cap=o.toNat then ad else ad.map (·.add (o.toNat*ie.size))) (hh.toNat-o.toNat) (cap-o.toNat),h,by simp[ah.lo],?_,?_⟩
   .simp only[Sm,R]
    refine⟨_,cap-o.toNat,by rw[Q],by rw[Q];omega,by omega,?_,?_⟩
    .intro hn
     split at hn
     .omega
     .simp at hn;have:=h3 hn;omega
    .intro C
     have V:l≠[]:=by intro e;subst e;simp at C
     obtain⟨b,off,rfl,hE,W,hr⟩:=h4 V;have M:o.toNat<hh.toNat:=by
      have:((l.take hh.toNat).drop o.toNat).length≠0:=λe=>C (nZ e)
      omega
     have rl:∀ {q:List (List D)},q≠[]->(∀ r∈q,r.length=cH P e)->dh q=ie.size:=by
      intro q hq hr;cases q with
      |nil=>exact absurd rfl hq
      |cons r rs=>rw[<-O];exact hr r (by simp)
     have Y:=rl V N;refine⟨b,off+o.toNat*ie.size,?_,hE,W,?_⟩
     .rw[ge (by omega)];simp[add_lit]
     .rw[rl C (λr H0=>N r (oh (oH H0)))]
      rw[Y] at hr;exact yj.drop o.toNat (yj.take hh.toNat hr)
   .simp[Instr.sliceAt,Instr.slice,run_underlying hu,hb,bQ L]
  .exact h.elim
 .rename_i e id hk
  rw[hk] at he;obtain⟨te,J⟩:=rC.1 (show(TI.of P e).isSome=true from he)
  obtain⟨ie,_,_,L,_,_,_,H,_⟩:=y8 J;have O:cH P e=ie.size:=by simp[cH,J,H]
  rw[B] at hk;have:=qK hk;subst this;simp only[Sm] at hs;subst hs;split at h
  .rename_i T sz rows I
   obtain⟨cq,_,xs,hx,_,_⟩:=hm.dm I;split at h
   .rename_i o hh e1 e2
    obtain⟨⟨b0,b1,b2⟩,Y,h⟩:=h;have S:=λ(cap:Nat) (hc:rows.length<=cap)=>B0 (P:=P) (w:=w) (isS:=true) (len:=rows.length) (cap:=cap) b0 b1 b2 hc
     (by rcases Yp M F e1 with⟨_,x,y⟩ | x;exact .inl ⟨x,y⟩;exact .inr x)
     (by rcases Yp A K e2 with⟨_,x,y⟩ | x;exact .inl ⟨x,y⟩;exact .inr x)
    rcases hx.1.2 with⟨hn,h0⟩ | ⟨g,cap,cur,hg,Hi,Hp,Z,H1,_⟩
    .have H2:o=0/\hh=0:=by omega
     obtain⟨rfl,rfl⟩:=H2;have hb:=S 0 (by omega)
     rw[h0] at hb;rw[gt rfl] at h;refine⟨_,.slice none 0 0,h,by simp[ah.lo],by simp only[Sm,R];exact⟨none,0,rfl,by simp,by simp,λ_=>rfl,by simp⟩,?_⟩
     rw[hn];simp[Instr.sliceAt,Instr.slice,run_underlying hu,hb,bQ L]
    .have hb:=S cap Z
     have G:(Instr.sliceAt t (β id) vlo vhi none).run P w = .ok (.slice (if cap=o.toNat then some ⟨g,0,none⟩ else (some ⟨g,0,none⟩:Option Addr).map (·.add (o.toNat*ie.size))) (hh.toNat-o.toNat) (cap-o.toNat)) w:=by
      rw[hg];simp[Instr.sliceAt,Instr.slice,run_underlying hu,hb,bQ L]
     by_cases heq:o=hh
     .rw[gt heq] at h
      refine⟨_,_,h,by simp[ah.lo],?_,G⟩
      simp only[Sm,R];refine⟨(if cap=o.toNat then some ⟨g,0,none⟩ else (some ⟨g,0,none⟩:Option Addr).map (·.add (o.toNat*ie.size))),cap-o.toNat,by rw[heq];simp,by simp,by omega,?_,by simp⟩
      intro hn;split at hn
      .omega
      .simp at hn
     .rw[ge heq] at h
      refine⟨_,_,h,by simpa[ah.lo] using hl,?_,G⟩
      simp only[Sm];refine⟨g,rows.length,cap,cap-o.toNat,hg,?_,by omega,by omega⟩
      rw[ge (by omega),Y,O]
      simp[add_lit]
   .exact h.elim
  .exact h.elim
 .rename_i e id sz lo1 n hk
  rw[hk] at he;obtain⟨te,J⟩:=rC.1 (show(TI.of P e).isSome=true from he)
  obtain⟨ie,_,_,L,_,_,_,H,_⟩:=y8 J;have O:cH P e=ie.size:=by simp[cH,J,H]
  rw[B] at hk;have:=qK hk;subst this;simp only[Sm] at hs;obtain⟨b,c,hβ,rfl,Hb,Hc⟩:=hs;split at h
  .rename_i T sz' rows I
   obtain⟨cq,_,xs,hx,_,_⟩:=hm.dm I;have hc:rows.length=c:=by
    rcases hx.1.2 with⟨hn,h0⟩ | ⟨g,cap,cur,hg,_⟩
    .rw[hn] at hβ;cases hβ
    .rw[hg] at hβ;simp at hβ;exact hβ.2.1
   split at h
   .rename_i o hh e1 e2
    obtain⟨⟨b0,b1,b2⟩,Y,h⟩:=h;have hb:=ze8 (P:=P) (w:=w) (isS:=true) (len:=n) (cap:=c-lo1) b0 b1 (by omega)
     (by rcases Yp M F e1 with⟨_,x,y⟩ | x;exact .inl ⟨x,y⟩;exact .inr x)
     (by rcases Yp A K e2 with⟨_,x,y⟩ | x;exact .inl ⟨x,y⟩;exact .inr x)
    have G:(Instr.sliceAt t (.slice (some ⟨b,lo1*sz,none⟩) n (c-lo1)) vlo vhi none).run P w = .ok (.slice (if c-lo1=o.toNat then some ⟨b,lo1*sz,none⟩ else (some ⟨b,lo1*sz,none⟩:Option Addr).map (·.add (o.toNat*ie.size))) (hh.toNat-o.toNat) (c-lo1-o.toNat)) w:=by
     simp[Instr.sliceAt,Instr.slice,run_underlying hu,hb,bQ L]
    by_cases heq:lo1+o.toNat<rows.length
    .rw[gt heq] at h
     refine⟨_,_,h,by simpa[ah.lo] using hl,?_,G⟩
     simp only[Sm];refine⟨b,c,hβ,?_,by omega,Hc⟩
     rw[ge (by omega)]
     simp only[oL,add_lit,Value.slice.injEq,pB,Addr.mk.injEq,tW,tT];refine⟨?_,by omega⟩
     rw[oR,<-O,<-Y]
    .rw[ge heq] at h
     have heq:o=hh:=by omega
     refine⟨_,_,h,by simp[ah.lo],?_,G⟩
     simp only[Sm,R];refine⟨_,c-lo1-o.toNat,by rw[heq];simp;rfl,by simp,by omega,?_,by simp⟩
     intro hn;split at hn
     .omega
     .simp at hn
   .exact h.elim
  .exact h.elim
 .rename_i e b hk
  rw[B] at hk;have:=Z2 hk;subst this;simp only[Sm,R] at hs;subst hs;split at h
  .rename_i o hh e1 e2
   obtain⟨⟨b0,b1,b2⟩,h⟩:=h;have hb:=B0 (P:=P) (w:=w) (isS:=false) (len:=b.size) (cap:=b.size) b0 b1 b2 (nJ _)
    (by rcases Yp M F e1 with⟨_,x,y⟩ | x;exact .inl ⟨x,y⟩;exact .inr x)
    (by rcases Yp A K e2 with⟨_,x,y⟩ | x;exact .inl ⟨x,y⟩;exact .inr x)
   exact YV.str h (by simp[Instr.sliceAt,Instr.slice,run_underlying hu,hb])
  .exact h.elim
 .exact h.elim
theorem ax.lt(G:ax X w0 st β a w):∀ b,Ex X β st.own b->b<w.heap.size:=by
 intro b F
 rcases F with F | ⟨id,o,H,F⟩
 .exact pg (bz.lt (G.bU.1 b F)) G.below.size
 .obtain⟨_,_,E⟩:=G.own id o H
  cases o with
  |box T cells=>
   obtain⟨b',vs,hβ,_,K,_⟩:=E;rw[hβ] at F;simp[bP] at F;subst F;exact(oD.1 K).1
  |aQ T sz rows=>
   obtain⟨xs,J,_⟩:=E;rcases J.1.2 with⟨L,_⟩ | ⟨g,cap,cur,M,_,K,_⟩
   .rw[L] at F;simp[bP] at F
   .rw[M] at F;simp[bP] at F;subst F
    exact(oD.1 K).1
  |map T rows=>
   obtain⟨r,es,clock,hβ,_,K,_⟩:=E;rw[hβ] at F;simp[bP] at F;subst F;exact(oD.1 K).1
  |cN k cells=>
   obtain⟨b',fn,D,vs,hβ,_,K,_⟩:=E;rw[hβ,RK.Ym] at F;cases F;exact RK.zuw K
theorem ax.seen(H:ax X w0 st β a w):fp w (Ex X β st.own):=⟨H.lt,H.lw⟩
theorem ax.Ji(H:ax X w0 st β a w):fp w X:=⟨λb G=>pg (bz.lt (H.bU.1 b G)) H.below.size,H.zuy⟩
theorem ax.gF(_hm:ax X w0 st β a w):bh w (Ex X β st.own) w X:=bh.dy (λ_ h=>.inl h)
theorem ax.U0(H:ax X w0 st β a w){b:Nat}(h:w0.dS b):¬X b:=λG=>absurd h (H.bU.1 b G)
theorem Ru{N:Nat->Prop}{T sz:Nat}{rows:List (List D)}{v:Value}{xs:List Value}{E E':Nat->Prop}(L:ja N w T sz v rows.length xs)(M:zl w E rows.flatten xs)(F:∀ r∈rows,r.length=sz)
  (O:∀ b,N b->¬E' b) (K:bh w E w E'):R w E' (.sl rows) v:=by
 simp only[R]
 rcases L.1.2 with⟨Q,V⟩ | ⟨g,cap,cur,X,_,Y,H,G,_⟩
 .refine⟨none,0,by rw[Q,V],by omega,nU _,λ_=>rfl,λh=>absurd (nZ V) h⟩
 .refine⟨_,cap,X,H,G,by simp,λhne=>⟨g,0,rfl,O g (L.2 g (by rw[X];rfl)).1,(oD.1 Y).1,?_⟩⟩
  have J:dh rows=sz:=by
   cases rows with
   |nil=>exact absurd rfl hne
   |cons r rs=>exact F r (by simp)
  rw[J];refine yj.fv F (zZ.dZ (zl.over K _ _ M) λj u hj=>?_)
  rw[pG];exact KY L.1 X hj
theorem Rw(G:ax X w0 st β a w){s:ah}{d:D}{v:Value}(h:Zu st.ay s=some d)(hs:Sm w (Ex X β st.own) β s v):R w X d v:=by
 cases s <;> simp only[Zu] at h
 case d x=>simp at h;subst h;exact R.over G.gF _ _ (by simpa[Sm] using hs)
 case aW=>simp at h;subst h;simp only[Sm] at hs;subst hs;simp only[R];exact⟨none,0,rfl,by simp,nU _,λ_=>rfl,λh=>absurd rfl h⟩
 case ar id=>
  split at h
  .rename_i T sz rows F
   simp at h;subst h
   obtain⟨_,_,xs,E,K,H⟩:=G.dm F;simp only[Sm] at hs;subst hs;exact Ru E K H (λb J=>G.U0 J) G.gF
  .cases h
 all_goals cases h
theorem B2(H:ax X w0 st β a w):∀ {l:List ah} {ds:List D} {vs:List Value},dJ st.ay l=some ds->zi w (Ex X β st.own) β l vs->(∀ v∈vs,v.oneCell'=true)->zl w X ds vs
 | [],ds,vs,h,hs,_=>by simp[dJ] at h;subst h;simpa[zi,zl] using hs
 |s::r,ds,vs,h,hs,G=>by
  simp only[zi] at hs;obtain⟨v,vs',rfl,F,hs⟩:=hs;simp only[dJ] at h;cases E:Zu st.ay s with
  |none=>simp[E] at h
  |some x=>
   cases K:dJ st.ay r with
   |none=>simp[E,K] at h
   |some xs=>
    simp[E,K] at h;subst h;simp only[zl];exact⟨v,vs',rfl,G v (by simp),Rw H E F,B2 H K hs (λu E=>G u (by simp[E]))⟩
mutual
theorem Rx(O:ax X w0 st β a w):∀ {s:ah} {d:D} {b:Bool} {v:Value},cL st.ay s=some (d,b)->Sm w (Ex X β st.own) β s v->R w X d v/\(b=false->R w (Ex X β st.own) d v)
 |.d x,d,b,v,h,hs=>by
  simp[cL] at h;obtain⟨rfl,rfl⟩:=h;simp only[Sm] at hs;exact⟨R.over O.gF _ _ hs,λ_=>hs⟩
 |.aW,d,b,v,h,hs=>by
  simp[cL] at h;obtain⟨rfl,rfl⟩:=h;simp only[Sm] at hs;subst hs;have:∀ E,R w E (.sl []) (.slice none 0 0):=λE=>by simp only[R];exact⟨none,0,rfl,by simp,nU _,λ_=>rfl,λh=>absurd rfl h⟩
  exact⟨this _,λ_=>this _⟩
 |.bp id off,d,b,v,h,hs=>by
  simp only[cL] at h;split at h
  .rename_i T cells Q
   split at h
   .rename_i ds K
    simp at h;obtain⟨rfl,rfl⟩:=h
    refine⟨?_,by simp⟩
    obtain⟨_,M,b,vs,V,H,Y,J,Z⟩:=O.dm Q;simp only[Sm] at hs;obtain⟨b',F,rfl⟩:=hs;rw[V] at F;cases F;have A:=B2 O K J Z;simp only[R];refine⟨b,off,rfl,O.U0 H,(oD.1 Y).1,?_⟩
    have:=zZ.drop off (zZ.dZ (b:=b) (off:=0) A λj u hj=>by rw[pG];exact KX Y hj)
    simpa using this
   .cases h
  .cases h
 |.ar id,d,b,v,h,hs=>by
  simp only[cL] at h;split at h
  .rename_i T sz rows Q
   simp at h;obtain⟨rfl,rfl⟩:=h
   obtain⟨_,_,xs,B,A,L⟩:=O.dm Q;simp only[Sm] at hs;subst hs;exact⟨Ru B A L (λb V=>O.U0 V) O.gF,by simp⟩
  .cases h
 |.agg l,d,b,v,h,hs=>by
  simp only[cL] at h;split at h
  .rename_i ds b' C
   simp at h;obtain⟨rfl,rfl⟩:=h
   simp only[Sm] at hs;obtain⟨vs,rfl,hs,Z⟩:=hs;have:=Xk O C hs
   simp only[R];exact⟨⟨vs,rfl,zI.cells this.1 Z⟩,λe=>⟨vs,rfl,zI.cells (this.2 e) Z⟩⟩
  .cases h
 |.fn f l,d,b,v,h,hs=>by
  simp only[cL] at h;split at h
  .rename_i ds b' C
   simp at h;obtain⟨rfl,rfl⟩:=h
   simp only[Sm] at hs;obtain⟨vs,rfl,hs⟩:=hs;have:=Xk O C hs
   simp only[R];exact⟨⟨vs,rfl,this.1⟩,λe=>⟨vs,rfl,this.2 e⟩⟩
  .cases h
 |.ap _ _ _ _,d,b,v,h,hs=>by simp[cL] at h
 |.a_s _ _ _ _,d,b,v,h,hs=>by simp[cL] at h
 |.av _ _ _ _,d,b,v,h,hs=>by simp[cL] at h
 |.yd _,d,b,v,h,hs=>by simp[cL] at h
 |.mp id,d,b,v,h,hs=>by
  simp only[cL] at h;split at h
  .rename_i T rows Q
   simp at h;obtain⟨rfl,rfl⟩:=h
   obtain⟨_,_,r,es,clock,V,I,Y,G⟩:=O.dm Q;simp only[Sm] at hs;subst hs;simp only[R];exact⟨⟨r,es,clock,V,O.U0 I,(oD.1 Y).1,Y,yN.over O.gF _ _ G⟩,by simp⟩
  .cases h
 |.bE _,d,b,v,h,hs=>by simp[cL] at h
 |.junk,d,b,v,h,hs=>by simp[cL] at h
theorem Xk(H:ax X w0 st β a w):∀ {l:List ah} {ds:List D} {b:Bool} {vs:List Value},vO st.ay l=some (ds,b)->zi w (Ex X β st.own) β l vs->zI w X ds vs/\(b=false->zI w (Ex X β st.own) ds vs)
 | [],ds,b,vs,h,hs=>by
  simp[vO] at h;obtain⟨rfl,rfl⟩:=h;simp only[zi] at hs;subst hs;simp[zI]
 |s::r,ds,b,vs,h,hs=>by
  simp only[zi] at hs;obtain⟨v,vs',rfl,G,hs⟩:=hs;simp only[vO] at h;split at h
  .rename_i d b1 ds' b2 F E
   simp at h;obtain⟨rfl,rfl⟩:=h
   have e1:=Rx H F G;have e2:=Xk H E hs;simp only[zI];refine⟨⟨v,vs',rfl,e1.1,e2.1⟩,λe=>?_⟩
   simp at e
   exact⟨v,vs',rfl,e1.2 e.1,e2.2 e.2⟩
  .cases h
end
mutual
theorem B5:∀ {d:D} {w w':World} {E E':Nat->Prop} {v:Value},d.bZ=true->R w E d v->R w' E' d v
 |.int _ _,w,w',E,E',v,_,h=>by simpa[R] using h
 |.bool _,w,w',E,E',v,_,h=>by simpa[R] using h
 |.str _,w,w',E,E',v,_,h=>by simpa[R] using h
 |.bE l,w,w',E,E',v,H,h=>by
  simp only[D.bZ] at H;simp only[R] at h ⊢;obtain⟨vs,rfl,h⟩:=h;exact⟨vs,rfl,Jj H h⟩
 |.agg l,w,w',E,E',v,H,h=>by
  simp only[D.bZ] at H;simp only[R] at h ⊢;obtain⟨vs,rfl,h⟩:=h;exact⟨vs,rfl,zI.cells (Jj H h.fS) h.cB⟩
 |.sl _,w,w',E,E',v,H,h=>by simp[D.bZ] at H
 |.ptr _,w,w',E,E',v,H,h=>by simp[D.bZ] at H
 |.fn _ _,w,w',E,E',v,H,h=>by simp[D.bZ] at H
 |.val _,w,w',E,E',v,H,h=>by simp[D.bZ] at H
 |.mp _,w,w',E,E',v,H,h=>by simp[D.bZ] at H
theorem Jj:∀ {l:List D} {w w':World} {E E':Nat->Prop} {vs:List Value},D.dj l=true->zI w E l vs->zI w' E' l vs
 | [],w,w',E,E',v,_,h=>by simpa[zI] using h
 |d::r,w,w',E,E',vs,H,h=>by
  simp only[D.dj,nI] at H;simp only[zI] at h ⊢;obtain⟨v,vs',rfl,G,F⟩:=h;exact⟨v,vs',rfl,B5 H.1 G,Jj H.2 F⟩
end
end
end Go.V
namespace Go.V
variable [Dr] [Ov]
open Go.RowKit
section
variable {P:Program} {X:Nat->Prop} {w0:bz} {st:St} {β:Nat->Value} {a:Act} {w:World} {k:ah->Prop}
def Yields(P:Program)(X:Nat->Prop)(st:St)(β:Nat->Value)(a:Act)(w:World)(o:Oper)(k:ah->Prop):Prop:=
 ∀ (K:Act->World->Prop) (Q:Exit->Act->World->Prop),
  (∀ s v w',k s->ah.lo st.next s->Below w.heap.size w w'->Sm w' (Ex X β st.own) β s v->K (a.put o.dst v) w')->o.wp P a w K Q
theorem U1(w:World)(E:Nat->Prop)(β:Nat->Value):∀ (l:List Value),zi w E β (l.map bY) l
 | []=>by simp[zi]
 |v::r=>by simp only[nK,zi];exact⟨v,r,rfl,KU _ _ _ v,U1 w E β r⟩
theorem U2(m:Nat):∀ (l:List Value),ah.a_ m (l.map bY)
 | []=>by simp[ah.a_]
 |v::r=>by simp only[nK,ah.a_];exact⟨CU m v,U2 m r⟩
theorem QF{u:TypeDesc}{x:D}{v:Value}{w:World}{E:Nat->Prop}(h:jw (qd P u) x=true)(H:R w E x v):MapKept.IsKey u v:=by
 unfold jw at h
 split at h
 .rename_i k k' n G
  have:=eQ G;subst this
  simp only[R] at H;subst H;simp at h;subst h
  simp[MapKept.IsKey]
 .rename_i s G
  have:=Z2 G;subst this
  simp only[R] at H;subst H;simp[MapKept.IsKey]
 .cases h
theorem QG{u:TypeDesc}{x y:D}{v v':Value}{w:World}{E:Nat->Prop}{b:Bool}(G:jw (qd P u) x=true)(F:R w E x v)(K:R w E y v')(h:Z1 x y=some b):
  Instr.sameNow u v v'=some b/\jw (qd P u) y=true:=by
 unfold jw at G
 split at G
 .rename_i k k' n H
  have J:=eQ H;subst J;cases y <;> simp[Z1] at h
  obtain⟨rfl,rfl⟩:=h;simp only[R] at F K;subst F;subst K;simp[Instr.sameNow,jw,qd] at G ⊢;subst G;simp only[oV];rename_i n2;by_cases e:n=n2 <;> simp[e]
 .rename_i s H
  have J:=Z2 H;subst J;cases y <;> simp[Z1] at h
  subst h;simp only[R] at F K;subst F;subst K;simp only[Instr.sameNow,jw,qd,tW,pB];rename_i s2;by_cases e:s=s2
  .rw[pI e];exact(MapKept.bytes_beq _ _).2 e
  .rw[pH e]
   exact rV.2 λh=>e ((MapKept.bytes_beq _ _).1 h)
 .cases G
theorem B6{u:TypeDesc}{x:D}{v:Value}{w:World}{E:Nat->Prop}(K:jw (qd P u) x=true)(J:R w E x v):
  ∀ {rows:List (List D)} {es:List MapEntry} {i:Nat} {r:Option D},yN w E rows es->kN x rows=some r ->
   match r with
   |none=>Instr.findNow u v es i=some none
   |some d=>∃ j t,Instr.findNow u v es i=some (some (j,t))/\R w E d t
 | [],es,i,r,L,h=>by
  simp only[yN] at L;subst L;simp[kN] at h;subst h;rfl
 | []::_,es,i,r,L,h=>by simp[kN] at h
 | [_]::_,es,i,r,L,h=>by simp[kN] at h
 |(_::_::_::_)::_,es,i,r,L,h=>by simp[kN] at h
 | [k,y]::rs,es,i,r,L,h=>by
  simp only[yN,zI] at L;obtain⟨e,es',rfl,⟨v1,l1,e1,H,v2,l2,rfl,G,rfl⟩,F⟩:=L;simp at e1
  obtain⟨rfl,rfl⟩:=e1;simp only[kN] at h;split at h
  .rename_i M
   simp at h;subst h
   have:=(QG K J H M).1
   exact⟨i,e.val,by simp[Instr.findNow,this],G⟩
  .rename_i M
   have:=(QG K J H M).1
   have ih:=B6 K J (i:=i+1) F h;cases r with
   |none=>simpa[Instr.findNow,this] using ih
   |some d=>simpa[Instr.findNow,this] using ih
  .cases h
theorem Ry{t:Nat}{ti:TI}{i:TypeInfo}{z:Value}(K:TI.of P t=some ti)(hi:P.info? t=some i)(J:i.zero=some z)(h:Jd P t=true):
  if ti.agg=true then z = .agg ti.zero.toArray else ∀ v,ti.zero=[v]->z=v:=by
 obtain⟨i',u,z',H,L,G,_,_,_,E,F⟩:=y8 K
 rw[hi] at H;cases H
 rw[J] at G;cases G
 unfold Jd at h
 rw[K,hi] at h
 simp only[J] at h
 rw[F]
 cases z <;> simp only[] at h <;> simp_all[Value.cells]
theorem zbo(hm:ax X w0 st β a w){t kt et:Nat}(hu:P.underlying t=some (.map kt et)){tk te:TI}(hk:TI.of P kt=some tk)(he:TI.of P et=some te)(Z:Jd P et=true)
  {c:Bool} {m x:Operand} {k:ah->Prop} (h:Zy st.ay tk.kind te c (st.val m) (st.val x) k) :
  YV P w (Ex X β st.own) β st.next (Instr.lookup t (a.eval m) (a.eval x) c) k:=by
 unfold Zy at h
 split at h
 .rename_i rows y H hy
  obtain⟨F,h⟩:=h;obtain⟨ik,uk,zk,N,L,S,A,_⟩:=y8 hk;obtain⟨ie,ue,ze,M,W,O,_⟩:=y8 he;rw[A] at F;have K:=(hm.val x).2;rw[hy] at K;simp only[Sm] at K;obtain⟨r,es,clock,Q,hh,E⟩:∃ r es clock,a.eval m = .map (some r)/\w.heap[r]?=some (.map es clock)/\yN w (Ex X β st.own) rows es.toList:=by
   have J:=(hm.val m).2;cases B:st.val m <;> rw[B] at H J <;> simp only[Xj] at H
   case d z=>
    cases z <;> simp at H
    subst H;simp only[Sm,R] at J;obtain⟨r,es,clock,h1,_,_,h4,h5⟩:=J;exact⟨r,es,clock,h1,h4,h5⟩
   case mp id=>
    split at H
    .rename_i T rows' C
     simp at H;subst H
     obtain⟨_,_,r,es,clock,h1,_,h4,h5⟩:=hm.dm C;simp only[Sm] at J;exact⟨r,es,clock,by rw[J,h1],h4,h5⟩
    .cases H
   all_goals cases H
  have I:=QF F K;have V:=λe=>MapKept.run_checkKey (P:=P) (w:=w) L I e 9999
  split at h
  .rename_i d hd
   obtain⟨j,t',hf,hr⟩:=B6 (P:=P) F K (i:=0) E hd;have G:(Instr.lookup t (a.eval m) (a.eval x) c).run P w = .ok (if c then .tuple #[t',.bool true] else t') w:=by
    simp[Instr.lookup,run_underlying hu,Q,MapKept.run_getObj_map hh,V,MapKept.run_findKey L hf]
   cases c with
   |false=>exact⟨_,_,h,by simp[ah.lo],by simpa[Sm] using hr,G⟩
   |true=>exact⟨_,_,h,by simp[ah.lo],by simp only[Sm,R,oV];exact⟨[t',.bool true],rfl,by simp only[zI];exact⟨_,_,rfl,hr,_,_,rfl,by simp[R],rfl⟩⟩,G⟩
  .rename_i hd
   have hf:=B6 (P:=P) F K (i:=0) E hd;simp only[] at hf;have G:(Instr.lookup t (a.eval m) (a.eval x) c).run P w = .ok (if c then .tuple #[ze,.bool false] else ze) w:=by
    simp[Instr.lookup,run_underlying hu,Q,MapKept.run_getObj_map hh,V,MapKept.run_findKey L hf,zeroValue,typeInfo,M,O]
   have hz:=Ry he M O Z;have key:∃ s,ah.lo st.next s/\Sm w (Ex X β st.own) β s ze/\k (if c=true then .bE [s,.d (.bool false)] else s):=by
    unfold io at h;split at h
    .rename_i hag
     rw[gt hag] at hz;refine⟨_,Jg (U2 _ te.zero),?_,h.2⟩
     rw[hz];exact Jf (U1 _ _ _ te.zero) (λu hu=>by simpa using(oo.1 h.1) u hu)
    .rename_i hag
     rw[ge hag] at hz;split at h
     .rename_i v hv
      have:=hz v hv;subst this
      exact⟨_,CU _ ze,KU _ _ _ ze,h⟩
     .exact h.elim
   obtain⟨s,hl,hs,Y⟩:=key;cases c with
   |false=>exact⟨_,_,Y,hl,hs,G⟩
   |true=>exact⟨_,_,Y,by simpa[ah.lo,ah.a_] using hl,by simp only[Sm,oV];exact⟨[ze,.bool false],rfl,by simp only[zi];exact⟨_,_,rfl,hs,_,_,rfl,by simp[Sm,R],rfl⟩⟩,G⟩
  .exact h.elim
 .exact h.elim
theorem U3:∀ {ks ks':List TK} {l m:List D} {r:Bool},qe (ks++ks') l m=some r->∃ r1 r2,qe ks (l.take ks.length) (m.take ks.length)=some r1/\qe ks' (l.drop ks.length) (m.drop ks.length)=some r2/\r=(r1&&r2) /\
  ks.length<=l.length/\ks.length<=m.length
 | [],ks',l,m,r,h=>⟨true,r,by simp[qe],by simpa using h,by simp,by simp,by simp⟩
 |k0::ks,ks',l,m,r,h=>by
  rw[nV] at h;unfold qe at h;split at h
  .rename_i heq;cases heq
  .rename_i _ k1 a l' k2 b m' heq
   cases heq;split at h
   .rename_i H
    cases G:qe (ks++ks') l' m' with
    |none=>rw[G] at h;cases h
    |some r'=>
     rw[G] at h;simp at h;subst h;obtain⟨r1,r2,F,E,rfl,K,J⟩:=U3 G;exact⟨decide (a=b)&&r1,r2,by simp only[nP,pE,qe,gt H,F];rfl,by simpa using E,by cases decide (a=b) <;> simp,by simp only[nP];omega,by simp only[nP];omega⟩
   .cases h
  .rename_i _ a l' b m' heq
   cases heq;cases G:qe (ks++ks') l' m' with
   |none=>rw[G] at h;cases h
   |some r'=>
    rw[G] at h;simp at h;subst h;obtain⟨r1,r2,F,E,rfl,K,J⟩:=U3 G;exact⟨decide (a=b)&&r1,r2,by simp only[nP,pE,qe,F];rfl,by simpa using E,by cases decide (a=b) <;> simp,by simp only[nP];omega,by simp only[nP];omega⟩
  .rename_i _ a l' b m' heq
   cases heq;cases G:qe (ks++ks') l' m' with
   |none=>rw[G] at h;cases h
   |some r'=>
    rw[G] at h;simp at h;subst h;obtain⟨r1,r2,F,E,rfl,K,J⟩:=U3 G;exact⟨decide (a=b)&&r1,r2,by simp only[nP,pE,qe,F];rfl,by simpa using E,by cases decide (a=b) <;> simp,by simp only[nP];omega,by simp only[nP];omega⟩
  .cases h
theorem U4{w:World}{E:Nat->Prop}{d:Nat}{xs0 ys0:Array Value}{sub:List Field->Option (List TK)}
  (F:∀ {fs:List Field} {ks:List TK} {l m:List D} {xs ys:List Value} {r:Bool},sub fs=some ks->zl w E l xs->zl w E m ys->qe ks l m=some r->(Op.eqFields d xs.toArray ys.toArray fs).run P w = .ok r w) :
  ∀ {fs:List Field} {n:Nat} {ks:List TK} {l m:List D} {xs ys:List Value} {r:Bool},k6 P sub n fs=some ks ->
  zl w E l xs->zl w E m ys->(∀ (j:Nat) v,xs[j]?=some v->xs0[n+j]?=some v)->(∀ (j:Nat) v,ys[j]?=some v->ys0[n+j]?=some v)->qe ks l m=some r ->
  (Op.eqFields (d+1) xs0 ys0 fs).run P w = .ok r w
 | [],n,ks,l,m,xs,ys,r,N,S,W,h1,h2,h=>by
  simp[k6] at N;subst N;simp[qe] at h;subst h;simp[Op.eqFields]
 |f::fs,n,ks,l,m,xs,ys,r,N,S,W,h1,h2,h=>by
  simp only[k6] at N;split at N
  .rename_i hc
   simp only[nI,bne_iff_ne,Cz,tx] at hc;obtain⟨G,K⟩:=hc;have key:∀ (v v':Value) (l' m':List D) (xs' ys':List Value) (ks':List TK) (b r':Bool),xs=v::xs'->ys=v'::ys'->zl w E l' xs'->zl w E m' ys'->k6 P sub (n+1) fs=some ks'->qe ks' l' m'=some r' ->
     (∀ cs:Array Value,∀ u,cs[n]?=some u->(part f.type cs n).run P w = .ok u w)->(Op.equalIn (d+1) f.type v v').run P w = .ok b w->(Op.eqFields (d+1) xs0 ys0 (f::fs)).run P w = .ok (b&&r') w:=by
    intro v v' l' m' xs' ys' ks' b r' ex ey hl hm hk hr H heq;have X:xs0[n]?=some v:=by have:=h1 0 v (by rw[ex];rfl);simpa using this
    have Y:ys0[n]?=some v':=by have:=h2 0 v' (by rw[ey];rfl);simpa using this
    have ih:=U4 (d:=d) (n:=n+1) F hk hl hm (λj u hj=>by have:=h1 (j+1) u (by rw[ex];simpa using hj);rw[<-this];congr 1;omega) (λj u hj=>by have:=h2 (j+1) u (by rw[ey];simpa using hj);rw[<-this];congr 1;omega) hr
    simp only [Op.eqFields, if_pos (show f.name ≠ "_" from G), Sem.run_bind, K, H _ _ X, H _ _ Y, Result.andThen_ok, heq]
    cases b
    .simp
    .simp only[tF,ou,oU,pK];exact ih
   have H:∀ {u:TypeDesc} {i:TypeInfo},P.underlying f.type=some u->P.info? f.type=some i->Qq u=false->∀ cs:Array Value,∀ x,cs[n]?=some x->(part f.type cs n).run P w = .ok x w:=by
    intro u i hu hi J cs x S;simp[part,QE hu,J,S]
   split at N
   .rename_i k i hu hi
    cases hk:k6 P sub (n+1) fs with
    |none=>rw[hk] at N;cases N
    |some ks'=>
     rw[hk] at N;simp at N;subst N;unfold qe at h;split at h
     .rename_i heq;cases heq
     .rename_i _ k1 a l' k2 b m' heq
      cases heq;split at h
      .rename_i Z
       obtain⟨rfl,rfl⟩:=Z;cases hr:qe ks' l' m' with
       |none=>rw[hr] at h;cases h
       |some r'=>
        rw[hr] at h;simp at h;subst h;simp only[zl,R] at S W;obtain⟨_,xs',ex,_,rfl,hl⟩:=S;obtain⟨_,ys',ey,_,rfl,hm⟩:=W;exact key _ _ _ _ _ _ _ _ _ ex ey hl hm hk hr (H hu hi rfl) (by rw[run_equalIn_int w d f.type _ _ a b hu];congr 1)
      .cases h
     .rename_i heq;cases heq
     .rename_i heq;cases heq
     .cases h
   .rename_i i hu hi
    cases hk:k6 P sub (n+1) fs with
    |none=>rw[hk] at N;cases N
    |some ks'=>
     rw[hk] at N;simp at N;subst N;unfold qe at h;split at h
     .rename_i heq;cases heq
     .rename_i heq;cases heq
     .rename_i _ a l' b m' heq
      cases heq;cases hr:qe ks' l' m' with
      |none=>rw[hr] at h;cases h
      |some r'=>
       rw[hr] at h;simp at h;subst h;simp only[zl,R] at S W;obtain⟨_,xs',ex,_,rfl,hl⟩:=S;obtain⟨_,ys',ey,_,rfl,hm⟩:=W;exact key _ _ _ _ _ _ _ _ _ ex ey hl hm hk hr (H hu hi rfl) (by rw[run_equalIn_bool' w d f.type a b hu];cases a <;> cases b <;> rfl)
     .rename_i heq;cases heq
     .cases h
   .rename_i i hu hi
    cases hk:k6 P sub (n+1) fs with
    |none=>rw[hk] at N;cases N
    |some ks'=>
     rw[hk] at N;simp at N;subst N;unfold qe at h;split at h
     .rename_i heq;cases heq
     .rename_i heq;cases heq
     .rename_i heq;cases heq
     .rename_i _ a l' b m' heq
      cases heq;cases hr:qe ks' l' m' with
      |none=>rw[hr] at h;cases h
      |some r'=>
       rw[hr] at h;simp at h;subst h;simp only[zl,R] at S W;obtain⟨_,xs',ex,_,rfl,hl⟩:=S;obtain⟨_,ys',ey,_,rfl,hm⟩:=W;refine key _ _ _ _ _ _ _ _ _ ex ey hl hm hk hr (H hu hi rfl) ?_
       rw[run_equalIn_string w d f.type a b hu,<-beq_toListBytes];congr 1
       by_cases e:a=b
       .rw[pI e];exact(MapKept.bytes_beq _ _).2 e
       .rw[pH e];exact rV.2 λh=>e ((MapKept.bytes_beq _ _).1 h)
     .cases h
   .rename_i gs i hu hi
    split at N
    .rename_i M
     simp only[tx] at M;split at N
     .rename_i ks1 L
      split at N
      .rename_i O
       simp only[tx] at O;cases hk:k6 P sub (n+ks1.length) fs with
       |none=>rw[hk] at N;cases N
       |some ks'=>
        rw[hk] at N;simp at N;subst N;obtain⟨r1,r2,e1,e2,rfl,C,I⟩:=U3 h;have lx:=S.length;have ly:=W.length;have Q:=F L (zl.extract 0 ks1.length S) (zl.extract 0 ks1.length W) (by simpa using e1)
        simp only[p_] at Q;have T:=zl.extract ks1.length xs.length S;have V:=zl.extract ks1.length ys.length W;rw[oa (by simp;omega),oa (by simp)] at T V
        have ih:=U4 (d:=d) (n:=n+ks1.length) F hk T V (λj u hj=>by rw[oQ] at hj;have:=h1 _ u hj;rw[<-this];congr 1;omega) (λj u hj=>by rw[oQ] at hj;have:=h2 _ u hj;rw[<-this];congr 1;omega) e2
        have hex:∀ (cs:Array Value) (zs:List Value),(∀ (j:Nat) v,zs[j]?=some v->cs[n+j]?=some v)->ks1.length<=zs.length->(part f.type cs n).run P w = .ok (.agg (zs.take ks1.length).toArray) w:=by
         intro cs zs hz hl;have J:(isAgg f.type).run P w = .ok true w:=by rw[QE hu];rfl
         have:cs.extract n (n+ks1.length)=(zs.take ks1.length).toArray:=by
          apply tb
          simp only[Bu,u_];apply ro
          intro j;rw[show n+ks1.length-n=ks1.length by omega,og,og]
          by_cases hj:j<ks1.length
          .simp only[hj,oV,oQ]
           have:=hz j zs[j] (ac (by omega))
           rw[ac (by omega:j<zs.length),<-this,ru]
          .simp[hj]
         simp[part,Sem.run_bind,J,sizeOf,typeInfo,hi,O,this]
        have heq:(Op.equalIn (d+1) f.type (.agg (xs.take ks1.length).toArray) (.agg (ys.take ks1.length).toArray)).run P w = .ok r1 w:=by
         have A:P.underlying f.type=some (.struct (P.fieldsOf f.type)):=by rw[hu];simp[Program.fieldsOf,hu]
         have B:(P.fieldsOf f.type).toList=gs.toList:=by simp[Program.fieldsOf,hu]
         rw[run_equalIn_agg (P:=P) w d f.type _ _ A M,B];exact Q
        simp only [Op.eqFields, if_pos (show f.name ≠ "_" from G), Sem.run_bind, K, hex _ _ h1 (by omega), hex _ _ h2 (by omega), Result.andThen_ok, heq]
        cases r1
        .simp
        .simp only[tF,ou,oU,pK];exact ih
      .cases N
     .cases N
    .cases N
   .cases N
  .cases N
theorem Rz{w:World}{E:Nat->Prop}:∀ {e d:Nat} {fs:List Field} {ks:List TK} {l m:List D} {xs ys:List Value} {r:Bool},KT P e fs=some ks ->
  zl w E l xs->zl w E m ys->qe ks l m=some r->(Op.eqFields (d+e+1) xs.toArray ys.toArray fs).run P w = .ok r w
 |0,d,fs,ks,l,m,xs,ys,r,H,G,F,h=>U4 (d:=d) (sub:=λ_=>none) (λh=>by cases h) H G F (λj v hj=>by simpa using hj) (λj v hj=>by simpa using hj) h
 |e+1,d,fs,ks,l,m,xs,ys,r,H,G,F,h=>U4 (d:=d+e+1) (sub:=KT P e) (λK J L M=>Rz K J L M) H G F (λj v hj=>by simpa using hj) (λj v hj=>by simpa using hj) h
theorem zcu{op:BinOp}{t:Nat}{s s':ah}{v v':Value}{x y:Operand}{w:World}{E:Nat->Prop}{m:Nat}{k:ah->Prop}(hs:Sm w E β s v)(F:Sm w E β s' v')(h:QD P op t s s' k):
  YV P w E β m (do eqGuard op t x y v v';binOp op t v v') k:=by
 unfold QD at h
 split at h
 .rename_i a b
  simp only[Sm,R] at hs F;obtain⟨xs,rfl,L⟩:=hs;obtain⟨ys,rfl,M⟩:=F;split at h
  .rename_i ks G
   split at h
   .rename_i r O
    unfold dl at G;split at G
    .rename_i fs Q
     split at G
     .rename_i T
      simp only[nI,tx] at T;have K:P.underlying t=some (.struct (P.fieldsOf t)):=by rw[Q];simp[Program.fieldsOf,Q]
      have J:(P.fieldsOf t).toList=fs.toList:=by simp[Program.fieldsOf,Q]
      have heq:=Rz (w:=w) (d:=9996) G L M O;have H:=run_equalIn_agg (P:=P) w 9999 t xs.toArray ys.toArray K T.1;rw[J,heq] at H;have V:=run_eqGuard_agg (P:=P) w op t x y xs.toArray ys.toArray T.2;split at h
      .exact⟨_,.bool r,h,by simp[ah.lo],by simp[Sm,R],by simp only[Sem.run_bind,V,Result.andThen_ok,run_eql_struct,H]⟩
      .exact⟨_,.bool (!r),h,by simp[ah.lo],by simp[Sm,R],by simp only[Sem.run_bind,V,Result.andThen_ok,run_neq_struct,H]⟩
      .exact h.elim
     .cases G
    .cases G
   .exact h.elim
  .exact h.elim
 .exact h.elim
theorem Yields.x9{o:Oper}{s:ah}{v:Value}(H:k s)(G:ah.lo st.next s)(hs:Sm w (Ex X β st.own) β s v)(F:(execOp a.eval o).run P w = .ok (.value v) w):
  Yields P X st β a w o k:=by
 intro K Q h
 unfold Oper.wp
 rw[F]
 exact h s v w H G (Below.refl _ _) hs
theorem Yields.jy{o:Oper}{c:Sem Value}(h:YV P w (Ex X β st.own) β st.next c k)(H:∀ v,c.run P w = .ok v w->(execOp a.eval o).run P w = .ok (.value v) w):
  Yields P X st β a w o k:=by
 obtain⟨s,v,G,F,hs,E⟩:=h
 exact .x9 G F hs (H v E)
theorem zi.Z4(H:ax X w0 st β a w):∀ (l:List Operand),zi w (Ex X β st.own) β (l.map st.val) (l.map a.eval)/\ah.a_ st.next (l.map st.val)
 | []=>by simp[zi,ah.a_]
 |x::r=>by
  have h:=zi.Z4 H r;simp only[nK,zi,ah.a_];exact⟨⟨_,_,rfl,(H.val x).2,h.1⟩,(H.val x).1,h.2⟩
theorem B7(Y:ax X w0 st β a w){o:Oper}{f:Operand}{args:Array Operand}{ts:Array TypeId}(Z:o.op = .call {callee:=.value f,args,argTypes:=ts})
  (h:k5 P st.ay (st.val f) (args.toList.map st.val) k):Yields P X st β a w o k:=by
 intro K Q A
 unfold k5 at h
 split at h
 .rename_i g aJ B
  unfold Xi at h;split at h
  .rename_i ds lent C
   obtain⟨r,I,L,N⟩:=h;obtain⟨H,I⟩:=I
   -- the callee
   obtain⟨cs,M,O⟩:∃ cs:List Value,a.eval f = .func (.func g) #[] cs.toArray/\zi w (Ex X β st.own) β aJ cs:=by
    have S:=(Y.val f).2;cases W:st.val f <;> rw[W] at B S <;> simp only[xF] at B
    case d x=>
     cases x <;> simp only[xF] at B
     case fn f' l=>
      simp at B;obtain⟨rfl,rfl⟩:=B
      simp only[Sm,R] at S;obtain⟨vs,h1,h2⟩:=S;exact⟨vs,h1,zi.Z3 h2⟩
     all_goals cases B
    case fn f' l=>
     simp at B;obtain⟨rfl,rfl⟩:=B
     simp only[Sm] at S;exact S
    all_goals cases B
   have G:=(zi.Z4 Y args.toList).1;have F:=zi.append G O;obtain⟨hx,hex⟩:=Xk Y C F;unfold aN at H;cases E:P.funcs[g]? with
   |none=>simp[E] at H
   |some fn=>
    simp[E] at H;have J:(execOp a.eval o).run P w = .ok (.enter g (args.toList.map a.eval++cs).toArray) w:=by
     have e1:¬fn.body=none:=by intro e;rw[e] at H;simp at H
     have e3:Array.map a.eval args++cs.toArray=(List.map a.eval args.toList++cs).toArray:=by simp
     rw[<-e3];simp[execOp,Z,resolve,M,Deferred.ofValue,invoke,callFunc,E,e1,H.1]
    unfold Oper.wp;rw[J];simp only[Oper.upon];cases lent with
    |false=>
     refine(I w (Ex X β st.own) _ Y.seen (hex rfl)).mono λe w' he=>?_
     obtain⟨v,rfl,hb,hr⟩:=he;exact A (.d r) v w' N (by simp[ah.lo]) hb (by simpa[Sm] using hr)
    |true=>
     rcases L rfl with T | ⟨_,hn⟩
     .refine(I w X _ Y.Ji hx).mono λe w' he=>?_
      obtain⟨v,rfl,hb,hr⟩:=he;exact A (.d r) v w' N (by simp[ah.lo]) hb (by simpa[Sm] using B5 T hr)
     .refine(hn w X _ Y.Ji hx).mono λe w' he=>?_
      obtain⟨v,rfl,hb,hr⟩:=he;refine A (.d r) v w' N (by simp[ah.lo]) hb ?_
      have:R w' (Ex X β st.own) r v:=hr.over (bh.dy λb V=>.inr (Y.seen.1 b V)) _ _
      simpa[Sm] using this
  .exact h.elim
 .exact h.elim
theorem RA{mx:Bool}{l:List Operand}{ρ:Operand->ah}(h:Xh mx (l.map ρ) k):∃ x y ka a kb b,l=[x,y]/\ρ x = .d (.int ka a)/\ρ y = .d (.int kb b) /\
  k (.d (.int ka (if mx=true then (if b>a then b else a) else (if b<a then b else a)))):=by
 unfold Xh at h
 split at h
 .rename_i ka a kb b heq
  cases l with
  |nil=>cases heq
  |cons x r=>
   cases r with
   |nil=>simp at heq
   |cons y r=>
    cases r with
    |nil=>simp at heq;exact⟨x,y,ka,a,kb,b,rfl,heq.1,heq.2,h⟩
    |cons _ _=>simp at heq
 .exact h.elim
theorem zl4(O:ax X w0 st β a w)(o:Oper)(h:uA P st.ay st.val o.op k):Yields P X st β a w o k:=by
 unfold uA at h
 split at h
 .rename_i x Q
  exact .x9 h (O.val x).1 (O.val x).2 (by simp[execOp,Q])
 .rename_i x Q
  exact .x9 h (O.val x).1 (O.val x).2 (by simp[execOp,Q])
 .rename_i c x y Q
  unfold Jc at h;split at h
  .rename_i b hb
   have T:=(O.val c).2;rw[hb] at T;simp only[Sm,R] at T;cases b
   .exact .x9 h (O.val y).1 (O.val y).2 (by simp[execOp,Q,T,asBool])
   .exact .x9 h (O.val x).1 (O.val x).2 (by simp[execOp,Q,T,asBool])
  .exact h.elim
 .rename_i t x Q
  split at h
  .rename_i ti V
   exact .jy (ze7 O V (O.val x).2 h) (λv Y=>by simp[execOp,Q,Y])
  .exact h.elim
 .rename_i t x f Q
  split at h
  .rename_i ti V
   exact .jy (zae V (O.val x).1 (O.val x).2 h) (λv Y=>by simp[execOp,Q,Y])
  .exact h.elim
 .rename_i t x f Q
  split at h
  .rename_i ti V
   exact .jy (zcr V (O.val x).1 (O.val x).2 h) (λv Y=>by simp[execOp,Q,Y])
  .exact h.elim
 .rename_i t x i Q
  split at h
  .rename_i e _ _ _ _ V
   obtain⟨j,u,z,hi,Z,A,F,_⟩:=y8 V;have:=qK F.symm;subst this
   split at h
   .rename_i te J
    exact .jy (zaf O Z J (O.val x).1 (O.val x).2 (O.val i).2 h) (λv Y=>by simp[execOp,Q,Y])
   .exact h.elim
  .exact h.elim
 .rename_i t x i Q
  split at h
  .rename_i V
   obtain⟨j,u,z,hi,Z,A,F,_⟩:=y8 V;have:=Z2 F.symm;subst this
   exact .jy (zcs Z (O.val x).2 (O.val i).2 h) (λv Y=>by simp[execOp,Q,Y])
  .exact h.elim
 .rename_i t x lo hi Q
  split at h
  .rename_i ti V
   refine .jy (zct O rfl V h.1 (vlo:=lo.map a.eval) (vhi:=hi.map a.eval) (O.val x).2 (by cases lo <;> rfl) (by cases hi <;> rfl) (O.val x).1 ?_ ?_ h.2) (λv Y=>by simp[execOp,Q,Y])
   .intro p q B hq
    cases lo with
    |none=>cases B
    |some y=>simp at B hq;subst B;subst hq;exact(O.val y).2
   .intro p q B hq
    cases hi with
    |none=>cases B
    |some y=>simp at B hq;subst B;subst hq;exact(O.val y).2
  .exact h.elim
 .rename_i t x lo hi mx Q
  split at h
  .rename_i ti V
   exact .jy (zbn O V (O.val x).2 (O.val lo).2 (O.val hi).2 (O.val mx).2 h) (λv Y=>by simp[execOp,Q,Y])
  .exact h.elim
 .rename_i op t x y ty Q
  split at h
  .rename_i ti V
   have C:YV P w (Ex X β st.own) β st.next (do eqGuard op t x y (a.eval x) (a.eval y);binOp op t (a.eval x) (a.eval y)) k:=by
    rcases h with h | h
    .exact zh3 (x:=x) (y:=y) (O.val x).2 (O.val y).2 V h.1 h.2
    .exact zcu (O.val x).2 (O.val y).2 h
   exact .jy C (λv Y=>by
    simp only[Sem.run_bind] at Y;simp only[execOp,Q,Sem.run_bind];generalize (eqGuard op t x y (a.eval x) (a.eval y)).run P w=r at *;cases r with
    |ok u w'=>simp only[Result.andThen_ok] at Y ⊢;rw[Y];rfl
    |halt e w'=>cases Y)
  .exact h.elim
 .rename_i op t x Q
  exact .jy (zl3 (O.val x).2 h) (λv Y=>by simp[execOp,Q,Y])
 .rename_i s t x Q
  split at h
  .rename_i ti' ti L V
   exact .jy (zat L V (O.val x).2 h) (λv Y=>by simp[execOp,Q,Y])
  .exact h.elim
 .rename_i t i Q
  exact .jy (zau (O.val t).1 (O.val t).2 h) (λv Y=>by simp[execOp,Q,Y])
 .rename_i t m x c Q
  split at h
  .rename_i kt et _ _ _ _ V
   obtain⟨j,u,z,hi,Z,A,F,_⟩:=y8 V;have:=Rl F.symm;subst this
   split at h
   .rename_i tk te I N
    exact .jy (zbo O Z I N h.1 h.2) (λv Y=>by simp[execOp,Q,Y])
   .exact h.elim
  .exact h.elim
 .rename_i x Q
  obtain⟨s,v,I,S,hs,W⟩:=zh5 (P:=P) (ρ:=a.eval) Q rfl (O.val x).1 (O.val x).2 h;exact .x9 I S hs W
 .rename_i ar ts Q
  split at h
  .rename_i x t hx V
   split at h
   .rename_i ti M
    have e1:ar = #[x]:=by cases ar;simp at hx;rw[hx]
    have e2:ts = #[t]:=by cases ts;simp at V;rw[V]
    subst e1;subst e2;exact .jy (zh4 (ty:=o.type) O M (O.val x).2 h) (λv Y=>by simp[execOp,Q,resolve,invoke,builtin,Y])
   .exact h.elim
  .exact h.elim
 .rename_i ar ts Q
  obtain⟨x,y,ka,a',kb,b',E,hx,C,I⟩:=RA h;have e1:ar = #[x,y]:=by cases ar;simp at E;rw[E]
  subst e1;have H:=(O.val x).2;rw[hx] at H;simp only[Sm,R] at H;have G:=(O.val y).2;rw[C] at G;simp only[Sm,R] at G;have K:YV P w (Ex X β st.own) β st.next (Builtin.max_ ts o.type #[.int ka a',.int kb b']) k:=YV.int I (by rw[run_max_int2];simp)
  exact .jy K (λv Y=>by simp[execOp,Q,resolve,invoke,builtin,H,G,Y])
 .rename_i ar ts Q
  obtain⟨x,y,ka,a',kb,b',E,hx,C,I⟩:=RA h;have e1:ar = #[x,y]:=by cases ar;simp at E;rw[E]
  subst e1;have H:=(O.val x).2;rw[hx] at H;simp only[Sm,R] at H;have G:=(O.val y).2;rw[C] at G;simp only[Sm,R] at G;have K:YV P w (Ex X β st.own) β st.next (Builtin.min_ ts o.type #[.int ka a',.int kb b']) k:=YV.int I (by rw[run_min_int2];simp)
  exact .jy K (λv Y=>by simp[execOp,Q,resolve,invoke,builtin,H,G,Y])
 .rename_i f ar ts Q
  exact B7 O Q h
 .exact h.elim
end
end Go.V

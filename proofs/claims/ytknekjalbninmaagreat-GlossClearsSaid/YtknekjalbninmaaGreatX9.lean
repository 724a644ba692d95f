/- A program logic of my own over the kit: part X9. It needs no conditions. -/
import Derived.Test.YtknekjalbninmaaGreatX14
set_option linter.unusedVariables false
set_option linter.unusedSimpArgs false
set_option linter.unusedSectionVars false
namespace Go.V
variable [Dr] [Ov]
open Go.RowKit
def isEff : Op → Bool
  | .box _ _ | .alloc _ | .buildSlice _ _ _ | .store _ _ _ | .makeSlice _ _ _ | .makeMap _ _ | .mapUpdate _ _ _ _ => true
  | .call { callee := .builtin .append, .. } => true
  | .call { callee := .builtin .copy, .. } => true
  | .call { callee := .value _, .. } => true
  | .assign (.const (.slice none 0 0)) => true
  | _ => false
def isMk : Op → Bool
  | .call { callee := .value _, .. } => false
  | op => isEff op
def readsMk (all : List Oper) (o : Oper) : Bool := all.any fun z => isMk z.op && (match z.dst with
  | some t => (tmpsOf all o).any (Nat.beq t)
  | none => false)
def planTot (all : List Oper) (i : Nat) (o : Oper) : Bool := (isEff o.op || readsMk all o) && (Nat.beq i 0 || cutB all i) && (Nat.beq (i + 1) all.length || cutB all (i + 1))
def xmk (Γ : XG) (n0 : Nat) (ρ : Operand → Sym) (ty : Nat) : Op → Option Obj'
  | .box T x => match symCells (ρ x) with
    | some l => oguard (losB n0 l) (some (.box T l))
    | none => none
  | .alloc T => match Γ.ti T with
    | some ti => oguard (ti.zero.all (·.oneCell')) (some (.box T (ti.zero.map ofConst)))
    | none => none
  | .assign (.const (.slice none 0 0)) => match Γ.ti ty with
    | some ⟨.slice e, _, _, _, _⟩ => match Γ.ti e with
      | some te => some (.arr e te.size [])
      | none => none
    | _ => none
  | .buildSlice t n parts => match Γ.ti t with
    | some ⟨.slice e, _, _, _, _⟩ => match Γ.ti e with
      | some te => match inOrder 0 parts.toList with
        | some l => match arIdss (l.map ρ), rowsOf te.size (l.map ρ) with
          | [], some rows => oguard (Nat.beq l.length n && Nat.blt 0 te.size && Nat.ble (n * te.size) 16777216) (some (.arr e te.size rows))
          | _, _ => none
        | none => none
      | none => none
    | _ => none
  | .makeMap t none => some (.map t [])
  | _ => none
def xpure (Γ : XG) (call : Caller) (look : Nat → Option Obj') (ρ : Operand → Sym) (op : Op) : Option Sym :=
  match op with
  | .call { callee := .value f, args := args, argTypes := _ } => match scallee (ρ f) with
    | some (g, caps) => match lends look (args.toList.map ρ ++ caps) with
      | some (ds, lent) => match call g (ds.map .d) [] 0 with
        | some r => match lend (xlook r.own) r.s with
          | some (d, _) => oguard (!lent || d.scalar) (some (.d d))
          | none => none
        | none => none
      | none => none
    | none => none
  | op => oguard (opD ρ op) (xop Γ look ρ op)
def xval1 (Γ : XG) (call : Caller) (all : List Oper) (xt : XS) (o : Oper) : Option Sym :=
  match o.guard with
  | none => xpure Γ call xt.look xt.val o.op
  | some (j, want) => match (all[j]?).bind (·.dst) with
    | some t => match xt.get t with
      | some (.d (.bool b)) => match b == want with
        | true => xpure Γ call xt.look xt.val o.op
        | false => some (.d (.val undef))
      | some (.d (.val (.tuple ⟨[]⟩))) => some (.d (.val undef))
      | _ => none
    | none => none
structure XF where
  xt : XS
  rks : List FK
  hs : List (Nat × Obj')
  ow : List (Nat × Obj')
def hdrop (j : Nat) (l : List (Nat × Obj')) : List (Nat × Obj') := l.filter fun x => !Nat.beq x.1 j
def XF.push (F : XF) (k : FK) (dst : Option Nat) (hs : List (Nat × Obj')) (ow : List (Nat × Obj')) : XF := ⟨F.xt.put dst k.sym, k :: F.rks, hs, ow⟩
def xsrcF (F : XF) (x : Operand) : Option (Option Nat × List (List D)) :=
  match x with
  | .tmp k => match xlook F.hs k with
    | some (.arr _ _ rows) => some (some k, rows)
    | some _ => none
    | none => match F.xt.val (.tmp k) with
      | .d (.sl l) => some (none, l)
      | .nils => some (none, [])
      | _ => none
  | x => match F.xt.val x with
    | .d (.sl l) => some (none, l)
    | .nils => some (none, [])
    | _ => none
def xapp (Γ : XG) (n0 : Nat) (F : XF) (o : Oper) (j : Nat) (x : Operand) (t t' d : Nat) : Option XF :=
  match xlook F.hs j, Γ.ti t with
  | some (.arr T sz rows), some ⟨.slice e, _, _, _, _⟩ => match Γ.ti e, xsrcF F x with
    | some te, some (src, l) => oguard (Nat.beq t' t && Nat.blt 0 te.size && Nat.beq te.zero.length te.size && te.zero.all (·.oneCell') && Nat.beq T e && Nat.beq sz te.size && l.all (fun r => Nat.beq r.length te.size) && Nat.ble ((rows.length + l.length) * te.bytes) 140737488355328 && Nat.ble (rows.length + l.length) maxLen && (match src with | some k => !Nat.beq k j | none => true))
        (some (F.push (.app j src (.arr e te.size (rows ++ l))) o.dst ((d, .arr e te.size (rows ++ l)) :: hdrop j (match src with | some k => hdrop k F.hs | none => F.hs)) F.ow))
    | _, _ => none
  | _, _ => none
def xsto (Γ : XG) (n0 : Nat) (bs : List Nat) (s0 : XS) (F : XF) (o : Oper) (t j : Nat) (x : Operand) : Option XF :=
  match Γ.ti t, symCells (F.xt.val x) with
  | some ti, some l => oguard (Nat.beq l.length ti.size && losB n0 l) (match xlook F.hs j with
    | some (.box T cells) => oguard (Nat.ble l.length cells.length) (some (F.push (.sto j (.box T (splice cells 0 l))) none ((j, .box T (splice cells 0 l)) :: hdrop j F.hs) F.ow))
    | some _ => none
    | none => match F.xt.val (.tmp j) with
      | .bp id off => match s0.look id with
        | some (.box T cells) => oguard (Nat.ble (off + l.length) cells.length && bs.any (Nat.beq id) && losB n0 cells) (some (F.push (.bst id (.box T (splice cells off l))) none F.hs (xset id (.box T (splice cells off l)) F.ow)))
        | _ => none
      | _ => none)
  | _, _ => none
def xfree (Γ : XG) (call : Caller) (all : List Oper) (bs : List Nat) (s0 : XS) (F : XF) (o : Oper) : Option XF :=
  oguard (xdst o.dst s0.n) <|
  match o.op, o.guard, o.dst with
  | .call { callee := .builtin .append, args := xs', argTypes := ts }, none, some d => match xs'.toList, ts.toList with
    | [.tmp j, x], [t, t'] => xapp Γ s0.next F o j x t t' d
    | _, _ => none
  | .store t (.tmp j) x, none, none => xsto Γ s0.next bs s0 F o t j x
  | op, g, d => match g, d, xmk Γ s0.next F.xt.val o.type op with
    | none, some d, some ob => some (F.push (.mk ob) (some d) ((d, ob) :: F.hs) F.ow)
    | _, _, _ => match xval1 Γ call all F.xt o with
      | some s => oguard (loB s0.next s) (some (F.push (.val s) o.dst F.hs F.ow))
      | none => none
def readers (all : List Oper) (t : Nat) : Nat → List Oper → List Nat
  | _, [] => []
  | i, o :: r => match (tmpsOf all o).any (Nat.beq t) with
    | true => i :: readers all t (i + 1) r
    | false => readers all t (i + 1) r
def takes (t : Nat) : FK → Bool
  | .app j src _ => Nat.beq j t || (match src with | some k => Nat.beq k t | none => false)
  | .sto j _ => Nat.beq j t
  | _ => false
def segB1 (all seg : List Oper) (ks : List FK) : Nat → List Oper → List FK → Bool
  | i, o :: r, k :: kr => (match k.made, o.dst with
      | some _, some t => (match readers all t 0 seg with
        | [] => true
        | [m] => Nat.blt i m && (match ks[m]? with | some k => takes t k | none => false)
        | _ => false)
      | _, _ => true) && segB1 all seg ks (i + 1) r kr
  | _, _, _ => true
def bstIds : List FK → List Nat
  | [] => []
  | .bst id _ :: r => id :: bstIds r
  | _ :: r => bstIds r
def xfins (xt : XS) : Nat → List (Nat × Obj') → Tr
  | _, [] => xt.slots
  | n, (t, ob) :: r => (xfins xt (n + 1) r).put dep t (ref ob n)
def xfinish (all seg : List Oper) (bs : List Nat) (s0 : XS) (F : XF) : Option XS :=
  let ks := F.rks.reverse
  oguard (segB1 all seg ks 0 seg ks && nodupB (bstIds ks))
    (some { s0 with next := s0.next + F.hs.length, slots := xfins F.xt s0.next F.hs, own := numF s0.next F.hs ++ F.ow })
def xbs (all : List Oper) (s0 : XS) : Nat → List Oper → List Nat
  | _, [] => []
  | i, o :: r => match planTot all i o with
    | true => []
    | false => match o.op with
      | .store _ (.tmp j) _ => match s0.get j with
        | some (.bp id _) => addId id (xbs all s0 (i + 1) r)
        | _ => xbs all s0 (i + 1) r
      | _ => xbs all s0 (i + 1) r
def xbegin (s0 : XS) (bs : List Nat) : XF := ⟨{ s0 with own := (match bs with | [] => s0.own | _ => s0.own.filter fun x => !bs.any (Nat.beq x.1)) }, [], [], s0.own⟩
def xseg (Γ : XG) (call : Caller) (all : List Oper) (bs : List Nat) (s0 : XS) : Nat → List Oper → XF → Option (XF × Nat)
  | i, [], F => some (F, i)
  | i, o :: r, F => match planTot all i o with
    | true => some (F, i)
    | false => match xfree Γ call all bs s0 F o with
      | some F' => xseg Γ call all bs s0 (i + 1) r F'
      | none => none
def xpieces (Γ : XG) (call : Caller) (all : List Oper) : Nat → Nat → XS → Option XS
  | 0, _, _ => none
  | fuel + 1, pos, xs => match Nat.beq pos all.length with
    | true => some xs
    | false => match all[pos]? with
      | none => none
      | some o => match planTot all pos o with
        | true => match xops Γ call (fun _ _ => none) all [o] xs with
          | some xs' => xpieces Γ call all fuel (pos + 1) xs'
          | none => none
        | false =>
          let bs := xbs all xs pos (all.drop pos)
          match xseg Γ call all bs xs pos (all.drop pos) (xbegin xs bs) with
          | some (F, hi) => match xfinish all ((all.drop pos).take (hi - pos)) bs xs F with
            | some xs' => oguard (Nat.beq hi all.length || cutB all hi) (xpieces Γ call all fuel hi xs')
            | none => none
          | none => none
def xdraw (Γ : XG) (call : Caller) (all : List Oper) (xs : XS) : Option XS :=
  oguard (drawOk all) (xpieces Γ call all 200 0 xs)
end Go.V
namespace Go.V
variable [Dr] [Ov]
open Go.RowKit
theorem pureR_of_callS {P : Program} {f : Nat} {ds : List D} {s : Sym} {r : D} {nx : Nat} {own : List (Nat × Obj')} {mv : List Nat} {b : Bool} (h : CallC P f (ds.map .d) [] 0 s nx own mv) (hl : lend (alook own) s = some (r, b)) : PureR P f ds r := by
  refine ⟨h.1, fun w E vs hE hr => ?_⟩
  have hm : Mods E (.of w) (memSt [] 0 0 []) (fun _ => .pointer none) act0 w :=
    ⟨⟨fun b hb hmay => hmay.elim (fun h => by have : w.heap.size ≤ b := h; have := hE.1 b hb; omega) (fun h => h), hE.2.over (Over.less fun b h => h.elim id False.elim)⟩, ⟨Nat.le_refl _, fun _ _ _ => rfl⟩, fun _ => rfl, rfl, rfl, Kept.refl _, by simp [memSt], by simp [memSt], by simp [memSt], by intro t s ht; simp [memSt, alook] at ht⟩
  have hov : Over w E w (Ex E (fun _ => Value.pointer none) []) := Over.less fun b hb => hb.elim id fun ⟨_, _, hx, _⟩ => by cases hx
  refine (h.2 E (.of w) _ w vs rfl hm (Sms.of_vals (Rvals.over hov _ _ hr))).mono fun e w' he => ?_
  obtain ⟨β', v, rfl, hm', _, hs⟩ := he
  exact ⟨v, rfl, hm'.below.below, (lend_sound hm' (s := s) (d := r) (b := b) (v := v) hl hs).1⟩
theorem ofConst_lo (m : Nat) (v : Value) : Sym.lo m (ofConst v) := by unfold ofConst; split <;> simp [Sym.lo]
theorem ofConsts_lo (m : Nat) : ∀ (l : List Value), Sym.los m (l.map ofConst)
  | [] => by simp [Sym.los]
  | v :: r => by simp only [List.map_cons, Sym.los]; exact ⟨ofConst_lo m v, ofConsts_lo m r⟩
section
variable {P : Program} {Γ : XG} {call : Caller}
theorem xpure_sound (hg : XGood P Γ) (hc : GoodCall P call) {look : Nat → Option Obj'} {ρ : Operand → Sym} {op : Op} {s : Sym} (h : xpure Γ call look ρ op = some s) : opD ρ op = true ∧ sopB P look ρ op (fun s' => s' = s) := by
  unfold xpure at h
  split at h
  · rename_i f args ts
    refine ⟨rfl, ?_⟩
    simp only [sopB, sop, scall]
    split at h
    · rename_i g caps hcal
      rw [hcal]; simp only
      split at h
      · rename_i ds lent hl
        unfold scallD
        rw [hl]; simp only
        split at h
        · rename_i r hr
          split at h
          · rename_i d b hd
            rw [oguard_some] at h
            obtain ⟨h1, h2⟩ := h
            cases h2
            have hlook : xlook r.own = alook r.own := funext (xlook_eq r.own)
            rw [hlook] at hd
            exact ⟨d, pureR_of_callS (hc _ _ _ _ _ hr (Sym.los_ds 0 ds)) hd, fun e => .inl (by subst e; simpa using h1), rfl⟩
          · cases h
        · cases h
      · cases h
    · cases h
  · rw [oguard_some] at h
    exact ⟨h.1, xop_sound hg h.2 rfl⟩
theorem xval1_sound (hg : XGood P Γ) (hc : GoodCall P call) {all : List Oper} {xt : XS} {sti : St} (hag : Ag sti xt) {o : Oper} {s : Sym} (h : xval1 Γ call all xt o = some s) : DStep P all o sti s := by
  unfold xval1 at h
  unfold DStep draw1
  rw [hag.val, hag.look]
  split at h
  · rename_i hgd
    rw [hgd]
    exact xpure_sound hg hc h
  · rename_i j want hgd
    rw [hgd]; simp only
    split at h
    · rename_i t ht
      rw [ht]; simp only
      rw [hag.slots]
      split at h
      · rename_i b hb
        rw [hb]; simp only
        split at h
        · rename_i e
          have e : b = want := by simpa using e
          subst e
          exact ⟨fun _ => xpure_sound hg hc h, fun e' => by cases b <;> simp at e'⟩
        · rename_i e
          have e : ¬ b = want := by simpa using e
          cases h
          exact ⟨fun e' => absurd e' e, fun _ => rfl⟩
      · rename_i hb
        rw [hb]
        cases h
        exact ⟨rfl, rfl⟩
      · cases h
    · cases h
def KnowsR (n : Nat) (ρ : Operand → Sym) (o : Oper) (st : St) : Prop := st.n = n ∧ ∀ x ∈ o.op.operands, ρ x ≠ .junk → st.val x = ρ x
theorem rowsOf_nj {ρ : Operand → Sym} {sz : Nat} : ∀ {l : List Operand} {rows : List (List D)}, rowsOf sz (l.map ρ) = some rows → ∀ x ∈ l, ρ x ≠ .junk
  | y :: r, rows, h, x, hx => by
    simp only [List.map_cons, rowsOf] at h
    split at h
    · rename_i d ds h1 h2
      rcases List.mem_cons.1 hx with e | hx
      · subst e; intro e; rw [e] at h1; simp [rowOf, symCells] at h1
      · exact rowsOf_nj h2 x hx
    · cases h
theorem inOrder_mem : ∀ {n : Nat} {parts : List (Nat × Operand)} {l : List Operand}, inOrder n parts = some l → ∀ x ∈ l, ∃ i, (i, x) ∈ parts
  | n, [], l, h, x, hx => by simp [inOrder] at h; subst h; cases hx
  | n, (i, y) :: r, l, h, x, hx => by
    simp only [inOrder] at h
    split at h
    · split at h
      · rename_i l' hl
        cases h
        rcases List.mem_cons.1 hx with e | hx
        · subst e; exact ⟨i, by simp⟩
        · obtain ⟨j, hj⟩ := inOrder_mem hl x hx; exact ⟨j, List.mem_cons_of_mem _ hj⟩
      · cases h
    · cases h
theorem xmk_sound (hg : XGood P Γ) {n n0 : Nat} {ρ : Operand → Sym} {o : Oper} {ob : Obj'} (hd : dstB o.dst n = true) (h : xmk Γ n0 ρ o.type o.op = some ob) :
    ob.lo n0 ∧ ∀ (st : St) (K : St → Prop), KnowsR n ρ o st → K ((st.new ob).put o.dst (ref ob st.next)) → dop P o st K := by
  unfold xmk at h
  split at h
  · rename_i T x ho
    split at h
    · rename_i l hl
      rw [oguard_some] at h
      obtain ⟨h1, h2⟩ := h
      cases h2
      refine ⟨losB_lo h1, fun st K hk hK => ?_⟩
      have hv := hk.2 x (by rw [ho]; simp [Op.operands]) (by intro e; rw [e] at hl; simp [symCells] at hl)
      unfold dop; rw [ho]; simp only
      refine ⟨by rw [hk.1]; exact hd, ?_⟩
      unfold eBox
      rw [hv, hl]; exact hK
    · cases h
  · rename_i T ho
    split at h
    · rename_i ti ht
      rw [oguard_some] at h
      obtain ⟨h1, h2⟩ := h
      cases h2
      refine ⟨ofConsts_lo _ _, fun st K hk hK => ?_⟩
      unfold dop; rw [ho]; simp only
      rw [hg.ti ht]
      exact ⟨by rw [hk.1]; exact hd, h1, hK⟩
    · cases h
  · rename_i ho
    split at h
    · rename_i e _ _ _ _ ht
      split at h
      · rename_i te hte
        cases h
        refine ⟨trivial, fun st K hk hK => ?_⟩
        unfold dop; rw [ho]; simp only
        rw [hg.ti ht]; simp only
        rw [hg.ti hte]
        exact ⟨by rw [hk.1]; exact hd, hK⟩
      · cases h
    · cases h
  · rename_i t m parts ho
    split at h
    · rename_i e _ _ _ _ ht
      split at h
      · rename_i te hte
        split at h
        · rename_i l hl
          split at h
          · rename_i rows har hrows
            rw [oguard_some] at h
            simp only [Bool.and_eq_true, beq_iff, blt_iff, ble_iff] at h
            obtain ⟨⟨⟨h1, h2⟩, h3⟩, h4⟩ := h
            cases h4
            refine ⟨trivial, fun st K hk hK => ?_⟩
            have hmap : l.map st.val = l.map ρ := by
              refine List.map_congr_left fun x hx => hk.2 x ?_ (rowsOf_nj hrows x hx)
              obtain ⟨i, hi⟩ := inOrder_mem hl x hx
              rw [ho]; simp only [Op.operands]; simp; exact ⟨i, by simpa using hi⟩
            unfold dop; rw [ho]; simp only
            refine ⟨by rw [hk.1]; exact hd, ?_⟩
            unfold eBuild
            rw [hg.ti ht]; simp only
            rw [hg.ti hte]; simp only
            rw [hl]; simp only
            rw [hmap, har]
            refine ⟨h1, h2, h3, ?_⟩
            simp only [St.frzs]
            rw [hmap, hrows]; exact hK
          · cases h
        · cases h
      · cases h
    · cases h
  · rename_i t ho
    cases h
    refine ⟨trivial, fun st K hk hK => ?_⟩
    unfold dop; rw [ho]; simp only
    exact ⟨by rw [hk.1]; exact hd, hK⟩
  · cases h
theorem xsrcF_spec {F : XF} {x : Operand} {src : Option Nat} {l : List (List D)} (h : xsrcF F x = some (src, l)) :
    (∃ k T sz, x = .tmp k ∧ src = some k ∧ xlook F.hs k = some (.arr T sz l)) ∨ (src = none ∧ (F.xt.val x = .d (.sl l) ∨ (F.xt.val x = .nils ∧ l = []))) := by
  unfold xsrcF at h
  split at h
  · rename_i k
    split at h
    · rename_i T sz rows hk; cases h; exact .inl ⟨k, T, sz, rfl, rfl, hk⟩
    · cases h
    · split at h
      · rename_i l' hv; cases h; exact .inr ⟨rfl, .inl hv⟩
      · rename_i hv; cases h; exact .inr ⟨rfl, .inr ⟨hv, rfl⟩⟩
      · cases h
  · split at h
    · rename_i l' hv; cases h; exact .inr ⟨rfl, .inl hv⟩
    · rename_i hv; cases h; exact .inr ⟨rfl, .inr ⟨hv, rfl⟩⟩
    · cases h
theorem xapp_sound (hg : XGood P Γ) {n n0 : Nat} {F F' : XF} {o : Oper} {j t t' d : Nat} {x : Operand} (hd : dstB o.dst n = true) (ho : o.op = .call { callee := .builtin .append, args := #[.tmp j, x], argTypes := #[t, t'] })
    (h : xapp Γ n0 F o j x t t' d = some F') : ∃ src ob oj ok, F' = F.push (.app j src ob) o.dst ((d, ob) :: hdrop j (match src with | some k => hdrop k F.hs | none => F.hs)) F.ow ∧ isArr ob ∧ ob.lo n0 ∧ xlook F.hs j = some oj ∧ isArr oj ∧
      (∀ k, src = some k → x = .tmp k ∧ k ≠ j ∧ xlook F.hs k = some ok ∧ isArr ok) ∧
      ∀ (st : St) (K : St → Prop) (id : Nat), KnowsR n F.xt.val o st → st.val (.tmp j) = .ar id → st.look id = some oj → (∀ k, src = some k → ∃ id', id' ≠ id ∧ st.val (.tmp k) = .ar id' ∧ st.look id' = some ok) →
        K ((st.renew id ob).put o.dst (.ar id)) → dop P o st K := by
  unfold xapp at h
  split at h
  · rename_i T sz rows e _ _ _ _ hj ht
    split at h
    · rename_i te src l hte hsrc
      rw [oguard_some] at h
      simp only [Bool.and_eq_true, beq_iff, ble_iff, blt_iff] at h
      obtain ⟨⟨⟨⟨⟨⟨⟨⟨⟨⟨h1, h2⟩, h3⟩, h30⟩, h4⟩, h5⟩, h6⟩, h7⟩, h8⟩, h9⟩, h⟩ := h
      cases h
      have key : ∀ (st : St) (K : St → Prop) (id : Nat), KnowsR n F.xt.val o st → st.val (.tmp j) = .ar id → st.look id = some (.arr T sz rows) → srcRows st id (st.val x) = some l → K ((st.renew id (.arr e te.size (rows ++ l))).put o.dst (.ar id)) → dop P o st K := by
        intro st K id hk hv hl hs hK
        unfold dop; rw [ho]; simp only
        refine ⟨by rw [hk.1]; exact hd, ?_⟩
        refine .inl ?_
        unfold eAppend
        rw [hg.ti ht]; simp only
        rw [hg.ti hte]; simp only
        refine ⟨h1, h2, h3, h30, ?_⟩
        rw [hv]; simp only
        rw [hl, hs]; simp only
        exact ⟨h4, h5, all_len h6, h7, h8, hK⟩
      rcases xsrcF_spec hsrc with ⟨k, T', sz', rfl, rfl, hk⟩ | ⟨rfl, hv⟩
      · have hne : k ≠ j := by
          simp only [Bool.not_eq_true'] at h9
          intro e; rw [beq_iff.2 e] at h9; cases h9
        refine ⟨some k, _, .arr T sz rows, .arr T' sz' l, rfl, trivial, trivial, hj, trivial, fun k' e => by cases e; exact ⟨rfl, hne, hk, trivial⟩, fun st K id hkn hv hl hs hK => ?_⟩
        obtain ⟨id', g1, g2, g3⟩ := hs k rfl
        refine key st K id hkn hv hl ?_ hK
        rw [g2]; simp only [srcRows]; rw [if_neg g1, g3]
      · refine ⟨none, _, .arr T sz rows, .arr T sz rows, rfl, trivial, trivial, hj, trivial, fun k' e => (by cases e), fun st K id hkn hv' hl hs hK => ?_⟩
        refine key st K id hkn hv' hl ?_ hK
        have hmem : x ∈ o.op.operands := by rw [ho]; simp [Op.operands, Call.operands]
        rcases hv with hv | ⟨hv, rfl⟩
        · rw [hkn.2 x hmem (by rw [hv]; simp), hv]; rfl
        · rw [hkn.2 x hmem (by rw [hv]; simp), hv]; rfl
    · cases h
  · cases h
theorem splice_lo {m off : Nat} {cells l : List Sym} (h1 : Sym.los m cells) (h2 : Sym.los m l) : Sym.los m (splice cells off l) := Sym.los_splice h1 h2 off
theorem xsto_sound (hg : XGood P Γ) {n n0 : Nat} {bs : List Nat} {s0 : XS} {st0 : St} (hag0 : Ag st0 s0) {F F' : XF} {o : Oper} {j t : Nat} {x : Operand} (hhl : ∀ k ob, xlook F.hs k = some ob → ob.lo n0) (ho : o.op = .store t (.tmp j) x) (hd : o.dst = none)
    (h : xsto Γ n0 bs s0 F o t j x = some F') :
    (∃ ob oj, F' = F.push (.sto j ob) none ((j, ob) :: hdrop j F.hs) F.ow ∧ isBox ob ∧ ob.lo n0 ∧ xlook F.hs j = some oj ∧ isBox oj ∧
      ∀ (st : St) (K : St → Prop) (id : Nat), KnowsR n F.xt.val o st → st.val (.tmp j) = .bp id 0 → st.look id = some oj → K { st with own := aset id ob st.own } → dop P o st K) ∨
    (∃ id ob o0, F' = F.push (.bst id ob) none F.hs (xset id ob F.ow) ∧ ob.lo n0 ∧ alook st0.own id = some o0 ∧ id ∈ bs ∧
      ∀ (st : St) (K : St → Prop), KnowsR n F.xt.val o st → st.look id = some o0 → K { st with own := aset id ob st.own } → dop P o st K) := by
  unfold xsto at h
  split at h
  · rename_i ti l ht hl
    rw [oguard_some] at h
    simp only [Bool.and_eq_true, beq_iff] at h
    obtain ⟨⟨h1, h2⟩, h⟩ := h
    have hnj : F.xt.val x ≠ .junk := by intro e; rw [e] at hl; simp [symCells] at hl
    have hmx : x ∈ o.op.operands := by rw [ho]; simp [Op.operands]
    split at h
    · rename_i T cells hj
      rw [oguard_some, ble_iff] at h
      obtain ⟨h3, h⟩ := h
      cases h
      refine .inl ⟨_, .box T cells, rfl, trivial, splice_lo (hhl j _ hj) (losB_lo h2), hj, trivial, fun st K id hk hv hlk hK => ?_⟩
      unfold dop; rw [ho]; simp only
      rw [hd, hg.ti ht]; simp only
      unfold eStore
      rw [hv]; simp only
      rw [hlk]; simp only
      rw [hk.2 x hmx hnj, hl]
      exact ⟨h1, by omega, hK⟩
    · cases h
    · split at h
      · rename_i id off hv0
        split at h
        · rename_i T cells hob
          rw [oguard_some] at h
          simp only [Bool.and_eq_true, ble_iff, any_beq] at h
          obtain ⟨⟨⟨h3, h4⟩, h5⟩, h⟩ := h
          cases h
          refine .inr ⟨id, _, .box T cells, rfl, splice_lo (losB_lo h5) (losB_lo h2), ?_, h4, fun st K hk hlk hK => ?_⟩
          · have := hag0.look; rw [← this] at hob; exact hob
          · unfold dop; rw [ho]; simp only
            rw [hd, hg.ti ht]; simp only
            unfold eStore
            rw [hk.2 (.tmp j) (by rw [ho]; simp [Op.operands]) (by rw [hv0]; simp), hv0]; simp only
            rw [hlk]; simp only
            rw [hk.2 x hmx hnj, hl]
            exact ⟨h1, h3, hK⟩
        · cases h
      · cases h
  · cases h
end
end Go.V
namespace Go.V
variable [Dr] [Ov]
open Go.RowKit
theorem alook_of_mem {α : Type} : ∀ {l : List (Nat × α)} {i : Nat} {o : α}, (l.map (·.1)).Nodup → (i, o) ∈ l → alook l i = some o
  | (k, u) :: r, i, o, hn, h => by
    simp only [List.map_cons, List.nodup_cons] at hn
    simp only [alook]
    rcases List.mem_cons.1 h with e | h
    · cases e; simp
    · rw [if_neg (fun e => hn.1 (by rw [e]; exact List.mem_map.2 ⟨(i, o), h, rfl⟩))]
      exact alook_of_mem hn.2 h
theorem alook_filter {α : Type} {p : Nat → Bool} : ∀ {l : List (Nat × α)} {i : Nat} {o : α}, alook (l.filter fun x => p x.1) i = some o → p i = true ∧ alook l i = some o
  | [], i, o, h => by simp [alook] at h
  | (k, u) :: r, i, o, h => by
    simp only [List.filter_cons] at h
    cases hp : p k with
    | true =>
      simp only [hp, if_true, alook] at h
      simp only [alook]
      by_cases e : k = i
      · rw [if_pos e] at h ⊢; subst e; exact ⟨hp, h⟩
      · rw [if_neg e] at h ⊢; exact alook_filter h
    | false =>
      simp only [hp, Bool.false_eq_true, if_false] at h
      obtain ⟨h1, h2⟩ := alook_filter h
      simp only [alook]
      rw [if_neg (fun e => by subst e; rw [hp] at h1; cases h1)]
      exact ⟨h1, h2⟩
theorem puts_snoc {o : Oper} {s : Sym} (l : List Oper) : ∀ (ss : List Sym) (st : St), l.length = ss.length → puts (l ++ [o]) (ss ++ [s]) st = (puts l ss st).put o.dst s := by
  induction l with
  | nil =>
    intro ss st h
    cases ss with
    | nil => rfl
    | cons y ys => simp at h
  | cons x r ih =>
    intro ss st h
    cases ss with
    | nil => simp at h
    | cons y ys => exact ih ys (st.put x.dst y) (by simpa using h)
def Held (S : Seg) (i t : Nat) (ob : Obj') : Prop := ((∃ c, S.co c t ob) ∨ ∃ m, m < i ∧ S.kd m = some (.sto t ob)) ∧ ∃ c ob0, c < i ∧ S.co c t ob0
def PreOk (P : Program) (S : Seg) (bs : List Nat) (i : Nat) (o : Oper) : FK → Prop
  | .val s => DStep P S.all o (S.sti i) s ∧ Sym.lo S.st0.next s
  | .mk ob => o.guard = none ∧ (∃ t, o.dst = some t) ∧ ob.lo S.st0.next ∧
      ∀ (st : St) (K : St → Prop), Knows S i o st → K ((st.new ob).put o.dst (ref ob st.next)) → dop P o st K
  | .app j src ob => o.guard = none ∧ (∃ t, o.dst = some t) ∧ j ∈ tmpsOf S.all o ∧ (∀ k, src = some k → k ≠ j ∧ k ∈ tmpsOf S.all o) ∧ ob.lo S.st0.next ∧ isArr ob ∧
      ∃ oj ok, Held S i j oj ∧ isArr oj ∧ (∀ k, src = some k → Held S i k ok ∧ isArr ok) ∧
      ∀ (st : St) (K : St → Prop) (id : Nat), Knows S i o st → st.val (.tmp j) = .ar id → st.look id = some oj → (∀ k, src = some k → ∃ id', id' ≠ id ∧ st.val (.tmp k) = .ar id' ∧ st.look id' = some ok) →
        K ((st.renew id ob).put o.dst (.ar id)) → dop P o st K
  | .sto j ob => o.guard = none ∧ o.dst = none ∧ j ∈ tmpsOf S.all o ∧ ob.lo S.st0.next ∧ isBox ob ∧ ∃ oj, Held S i j oj ∧ isBox oj ∧
      ∀ (st : St) (K : St → Prop) (id : Nat), Knows S i o st → st.val (.tmp j) = .bp id 0 → st.look id = some oj → K { st with own := aset id ob st.own } → dop P o st K
  | .bst id ob => o.guard = none ∧ o.dst = none ∧ ob.lo S.st0.next ∧ id ∈ bs ∧ ∃ o0, alook S.st0.own id = some o0 ∧
      ∀ (st : St) (K : St → Prop), Knows S i o st → st.look id = some o0 → K { st with own := aset id ob st.own } → dop P o st K
structure Ext (S S' : Seg) : Prop where
  all : S'.all = S.all
  st0 : S'.st0 = S.st0
  kd : ∀ m k, S.kd m = some k → S'.kd m = some k
theorem Ext.co {S S' : Seg} (h : Ext S S') {c t : Nat} {ob : Obj'} (hc : S.co c t ob) : S'.co c t ob := by
  obtain ⟨o, k, h1, h2, h3, h4⟩ := hc
  exact ⟨o, k, by rw [h.all]; exact h1, h.kd c k h2, h3, h4⟩
theorem Ext.held {S S' : Seg} (h : Ext S S') {i t : Nat} {ob : Obj'} (hh : Held S i t ob) : Held S' i t ob := by
  obtain ⟨h1, c, ob0, h2, h3⟩ := hh
  exact ⟨h1.elim (fun ⟨c, hc⟩ => .inl ⟨c, h.co hc⟩) (fun ⟨m, hm, hk⟩ => .inr ⟨m, hm, h.kd _ _ hk⟩), c, ob0, h2, h.co h3⟩
theorem Ext.pre {P : Program} {S S' : Seg} (h : Ext S S') {bs : List Nat} {i : Nat} {o : Oper} {k : FK} (hs : S'.sti i = S.sti i) (hp : PreOk P S bs i o k) : PreOk P S' bs i o k := by
  have hkn : ∀ st, Knows S' i o st → Knows S i o st := fun st hk => by unfold Knows at hk ⊢; rw [hs, h.st0] at hk; exact hk
  cases k with
  | val s => simp only [PreOk] at hp ⊢; rw [h.all, hs, h.st0]; exact hp
  | mk ob =>
    obtain ⟨h1, h2, h3, h4⟩ := hp
    exact ⟨h1, h2, by rw [h.st0]; exact h3, fun st K hk => h4 st K (hkn st hk)⟩
  | app j src ob =>
    obtain ⟨h1, h2, h3, h4, h5, h6, oj, ok, h7, h8, h9, h10⟩ := hp
    exact ⟨h1, h2, by rw [h.all]; exact h3, by rw [h.all]; exact h4, by rw [h.st0]; exact h5, h6, oj, ok, h.held h7, h8, fun k hk => ⟨h.held (h9 k hk).1, (h9 k hk).2⟩, fun st K id hk => h10 st K id (hkn st hk)⟩
  | sto j ob =>
    obtain ⟨h1, h2, h3, h4, h5, oj, h6, h7, h8⟩ := hp
    exact ⟨h1, h2, by rw [h.all]; exact h3, by rw [h.st0]; exact h4, h5, oj, h.held h6, h7, fun st K id hk => h8 st K id (hkn st hk)⟩
  | bst id ob =>
    obtain ⟨h1, h2, h3, h4, o0, h5, h6⟩ := hp
    exact ⟨h1, h2, by rw [h.st0]; exact h3, h4, o0, by rw [h.st0]; exact h5, fun st K hk => h6 st K (hkn st hk)⟩
def Rests (S : Seg) (i t : Nat) (ob : Obj') : Prop := ((∃ c, S.co c t ob) ∧ (∀ m k, S.kd m = some k → takes t k = true → False) ∨ ∃ m, m < i ∧ S.kd m = some (.sto t ob)) ∧ ∃ c ob0, c < i ∧ S.co c t ob0
structure FInv (P : Program) (all : List Oper) (lo : Nat) (st0 : St) (own0 : List (Nat × Obj')) (bs : List Nat) (F : XF) (i : Nat) : Prop where
  len : F.rks.length = i - lo ∧ lo ≤ i ∧ i ≤ all.length
  ag : Ag (Seg.sti ⟨all, lo, i, F.rks.reverse, st0, fun _ => own0⟩ i) F.xt
  pre : ∀ j o k, all[j]? = some o → Seg.kd ⟨all, lo, i, F.rks.reverse, st0, fun _ => own0⟩ j = some k → dstB o.dst st0.n = true ∧ PreOk P ⟨all, lo, i, F.rks.reverse, st0, fun _ => own0⟩ bs j o k
  hs : ∀ t ob, (t, ob) ∈ F.hs → Rests ⟨all, lo, i, F.rks.reverse, st0, fun _ => own0⟩ i t ob ∧ t + 1 < 4096 ∧ ob.lo st0.next
  hsn : (F.hs.map (·.1)).Nodup
  owk : F.ow.map (·.1) = st0.own.map (·.1)
  ow : (st0.own.map (·.1)).Nodup → ∀ id o, (id, o) ∈ F.ow → (∃ m, Seg.kd ⟨all, lo, i, F.rks.reverse, st0, fun _ => own0⟩ m = some (.bst id o)) ∨ (alook st0.own id = some o ∧ ∀ m ob, Seg.kd ⟨all, lo, i, F.rks.reverse, st0, fun _ => own0⟩ m ≠ some (.bst id ob))
section
variable {P : Program} {Γ : XG} {call : Caller} {all : List Oper} {lo : Nat} {st0 : St} {own0 : List (Nat × Obj')} {bs : List Nat} {F F' : XF} {i : Nat} {o : Oper} {k : FK}
theorem kd_snoc {ks : List FK} (hl : ks.length = i - lo) (hlo : lo ≤ i) (m : Nat) : Seg.kd ⟨all, lo, i + 1, ks ++ [k], st0, fun _ => own0⟩ m = if m = i then some k else Seg.kd ⟨all, lo, i, ks, st0, fun _ => own0⟩ m := by
  unfold Seg.kd
  simp only
  by_cases e : m = i
  · subst e
    rw [if_pos (by omega), if_pos rfl, List.getElem?_append_right (by omega), hl]; simp
  · rw [if_neg e]
    by_cases h : lo ≤ m ∧ m < i
    · rw [if_pos (by omega), if_pos h, List.getElem?_append_left (by omega)]
    · rw [if_neg (by omega), if_neg h]
theorem sti_snoc {ks : List FK} (hl : ks.length = i - lo) (hlo : lo ≤ i) {m : Nat} (hm : m ≤ i) : Seg.sti ⟨all, lo, i + 1, ks ++ [k], st0, fun _ => own0⟩ m = Seg.sti ⟨all, lo, i, ks, st0, fun _ => own0⟩ m := by
  unfold Seg.sti
  simp only
  rw [List.map_append, List.take_append_of_le_length (by simp; omega)]
theorem sti_next {ks : List FK} (hl : ks.length = i - lo) (hlo : lo ≤ i) (ho : all[i]? = some o) : Seg.sti ⟨all, lo, i + 1, ks ++ [k], st0, fun _ => own0⟩ (i + 1) = (Seg.sti ⟨all, lo, i, ks, st0, fun _ => own0⟩ i).put o.dst k.sym := by
  have hil := (List.getElem?_eq_some_iff.1 ho).1
  unfold Seg.sti
  simp only
  have e1 : (all.drop lo).take (i + 1 - lo) = (all.drop lo).take (i - lo) ++ [o] := by
    have : i + 1 - lo = i - lo + 1 := by omega
    rw [this, List.take_add_one, List.getElem?_drop]
    have : lo + (i - lo) = i := by omega
    rw [this, ho]; rfl
  have e2 : ((ks ++ [k]).map FK.sym).take (i + 1 - lo) = (ks.map FK.sym).take (i - lo) ++ [k.sym] := by
    rw [List.map_append, List.take_of_length_le (by simp; omega), List.take_of_length_le (by simp; omega)]; rfl
  rw [e1, e2, puts_snoc _ _ _ (by simp; omega)]
theorem FInv.ext (hI : FInv P all lo st0 own0 bs F i) : Ext ⟨all, lo, i, F.rks.reverse, st0, fun _ => own0⟩ ⟨all, lo, i + 1, (k :: F.rks).reverse, st0, fun _ => own0⟩ := by
  refine ⟨rfl, rfl, fun m k' h => ?_⟩
  rw [List.reverse_cons, kd_snoc (by simpa using hI.len.1) hI.len.2.1, if_neg (fun e => by have := (Seg.kd_lt h).2; simp at this; omega)]; exact h
theorem FInv.push (hok : drawOk all = true) (hI : FInv P all lo st0 own0 bs F i) (ho : all[i]? = some o) (hdx : xdst o.dst st0.n = true) {dst : Option Nat} (hdst : dst = o.dst) {hs' ow' : List (Nat × Obj')}
    (hpre : PreOk P ⟨all, lo, i + 1, (k :: F.rks).reverse, st0, fun _ => own0⟩ bs i o k)
    (hhs : ∀ t ob, (t, ob) ∈ hs' → ((t, ob) ∈ F.hs ∧ takes t k = false) ∨ (k.made = some ob ∧ o.dst = some t) ∨ (k = .sto t ob ∧ ∃ ob0, (t, ob0) ∈ F.hs))
    (hhn : (hs'.map (·.1)).Nodup)
    (how : (ow' = F.ow ∧ ∀ id ob, k ≠ .bst id ob) ∨ ∃ id ob, k = .bst id ob ∧ ow' = aset id ob F.ow) : FInv P all lo st0 own0 bs (F.push k dst hs' ow') (i + 1) := by
  subst hdst
  have hil := (List.getElem?_eq_some_iff.1 ho).1
  have hl : F.rks.reverse.length = i - lo := by simpa using hI.len.1
  have hext := hI.ext (k := k)
  have hkd := fun m => kd_snoc (all := all) (st0 := st0) (own0 := own0) (k := k) hl hI.len.2.1 m
  have hrev : (k :: F.rks).reverse = F.rks.reverse ++ [k] := by simp
  refine ⟨⟨by simp only [XF.push, List.length_cons]; have := hI.len; omega, by have := hI.len; omega, hil⟩, ?_, ?_, ?_, hhn, ?_, ?_⟩
  · simp only [XF.push]
    rw [hrev, sti_next hl hI.len.2.1 ho]
    exact hI.ag.put hdx _
  · intro j y k' hj hk'
    simp only [XF.push] at hk' ⊢
    rw [hrev, hkd] at hk'
    by_cases e : j = i
    · subst e
      rw [if_pos rfl] at hk'; cases hk'
      rw [ho] at hj; cases hj
      refine ⟨?_, hpre⟩
      have := (xdst_lt hdx).1
      unfold dstB
      split
      · rename_i t ht; simpa using this t ht
      · rfl
    · rw [if_neg e] at hk'
      obtain ⟨h1, h2⟩ := hI.pre j y k' hj hk'
      refine ⟨h1, hext.pre ?_ h2⟩
      rw [hrev]
      exact sti_snoc hl hI.len.2.1 (by have := (Seg.kd_lt hk').2; simp at this; omega)
  · intro t ob hmem
    simp only [XF.push]
    have hnew : Seg.kd ⟨all, lo, i + 1, (k :: F.rks).reverse, st0, fun _ => own0⟩ i = some k := by rw [hrev, hkd, if_pos rfl]
    have noOld : o.dst = some t → ∀ c ob0, ¬ (c < i ∧ Seg.co ⟨all, lo, i + 1, (k :: F.rks).reverse, st0, fun _ => own0⟩ c t ob0) := by
      rintro hd c ob0 ⟨hc, y, k2, h1, _, h3, _⟩
      exact absurd hd ((drawOk_pair hok h1 ho hc).1 t h3).2
    rcases hhs t ob hmem with ⟨h1, h2⟩ | ⟨h1, h2⟩ | ⟨h1, ob1, hin⟩
    · obtain ⟨⟨hr, c, ob0, hc1, hc2⟩, hlt, hlo⟩ := hI.hs t ob h1
      refine ⟨⟨?_, c, ob0, by omega, hext.co hc2⟩, hlt, hlo⟩
      rcases hr with ⟨⟨c', hc'⟩, hno⟩ | ⟨m, hm, hk'⟩
      · refine .inl ⟨⟨c', hext.co hc'⟩, fun m k' hk' ht => ?_⟩
        rw [hrev, hkd] at hk'
        by_cases e : m = i
        · rw [if_pos e] at hk'; cases hk'; rw [h2] at ht; cases ht
        · rw [if_neg e] at hk'; exact hno m k' hk' ht
      · exact .inr ⟨m, by omega, hext.kd _ _ hk'⟩
    · have hco : Seg.co ⟨all, lo, i + 1, (k :: F.rks).reverse, st0, fun _ => own0⟩ i t ob := ⟨o, k, ho, hnew, h2, h1⟩
      have hobl : ob.lo st0.next := by
        cases k <;> simp only [FK.made] at h1 <;> cases h1
        · exact hpre.2.2.1
        · exact hpre.2.2.2.2.1
      refine ⟨⟨.inl ⟨⟨i, hco⟩, fun m k' hk' ht => ?_⟩, i, ob, by omega, hco⟩, (xdst_lt hdx).2 t h2, hobl⟩
      -- a taker of t names an elder maker
      have hp : PreOk P ⟨all, lo, i + 1, (k :: F.rks).reverse, st0, fun _ => own0⟩ bs m (all[m]?.getD o) k' ∧ m ≤ i := by
        rw [hrev, hkd] at hk'
        by_cases e : m = i
        · subst e; rw [if_pos rfl] at hk'; cases hk'; rw [ho]; exact ⟨hpre, Nat.le_refl _⟩
        · rw [if_neg e] at hk'
          have hmi := (Seg.kd_lt hk').2
          simp at hmi
          have hm : all[m]? = some all[m] := List.getElem?_eq_getElem (by omega)
          rw [hm]
          refine ⟨hext.pre ?_ (hI.pre m _ k' hm hk').2, by omega⟩
          rw [hrev]
          exact sti_snoc hl hI.len.2.1 (by omega)
      obtain ⟨hp, hmi⟩ := hp
      have old : ∀ ob', Held ⟨all, lo, i + 1, (k :: F.rks).reverse, st0, fun _ => own0⟩ m t ob' → False := fun ob' hh => by
        obtain ⟨_, c, ob0, h3, h4⟩ := hh
        exact noOld h2 c ob0 ⟨by omega, h4⟩
      cases k' with
      | app j src ob' =>
        obtain ⟨_, _, _, _, _, _, oj, ok, h7, _, h9, _⟩ := hp
        simp only [takes, Bool.or_eq_true, beq_iff] at ht
        rcases ht with rfl | ht
        · exact old _ h7
        · split at ht
          · rename_i k2; rw [beq_iff] at ht; subst ht; exact old _ (h9 _ rfl).1
          · cases ht
      | sto j ob' =>
        obtain ⟨_, _, _, _, _, oj, h7, _⟩ := hp
        simp only [takes, beq_iff] at ht
        subst ht
        exact old _ h7
      | _ => simp [takes] at ht
    · subst h1
      obtain ⟨_, _, _, hlo, _, oj, ⟨_, c, ob0, hc1, hc2⟩, _⟩ := hpre
      have hlt : t + 1 < 4096 := (hI.hs t ob1 hin).2.1
      exact ⟨⟨.inr ⟨i, by omega, hnew⟩, c, ob0, by omega, hc2⟩, hlt, hlo⟩
  · simp only [XF.push]
    rcases how with ⟨rfl, _⟩ | ⟨id, ob, rfl, rfl⟩
    · exact hI.owk
    · obtain ⟨_, _, _, _, o0, h5, _⟩ := hpre
      rw [aset_keys (by rw [hI.owk]; exact List.mem_map.2 ⟨_, alook_mem h5, rfl⟩)]
      exact hI.owk
  · intro hn id o' hmem
    simp only [XF.push] at hmem ⊢
    rw [hrev]
    have hkn : (F.ow.map (·.1)).Nodup := by rw [hI.owk]; exact hn
    have old : ∀ {id o'}, (id, o') ∈ F.ow → (∀ ob, k ≠ .bst id ob) → (∃ m, Seg.kd ⟨all, lo, i + 1, F.rks.reverse ++ [k], st0, fun _ => own0⟩ m = some (.bst id o')) ∨ (alook st0.own id = some o' ∧ ∀ m ob, Seg.kd ⟨all, lo, i + 1, F.rks.reverse ++ [k], st0, fun _ => own0⟩ m ≠ some (.bst id ob)) := by
      intro id o' hm hne
      rcases hI.ow hn id o' hm with ⟨m, hk'⟩ | ⟨h1, h2⟩
      · exact .inl ⟨m, by rw [← hrev]; exact hext.kd _ _ hk'⟩
      · refine .inr ⟨h1, fun m ob hk' => ?_⟩
        rw [hkd] at hk'
        by_cases e : m = i
        · rw [if_pos e] at hk'; cases hk'; exact hne ob rfl
        · rw [if_neg e] at hk'; exact h2 m ob hk'
    rcases how with ⟨rfl, hne⟩ | ⟨id', ob, rfl, rfl⟩
    · exact old hmem fun ob => hne id ob
    · rcases aset_mem hkn hmem with ⟨rfl, rfl⟩ | ⟨hne, hm⟩
      · exact .inl ⟨i, by rw [hkd, if_pos rfl]⟩
      · exact old hm fun ob' e => by cases e; exact hne rfl
end
end Go.V
namespace Go.V
variable [Dr] [Ov]
open Go.RowKit
theorem RegI.mono {P : Program} {all : List Oper} {K K' : St → Prop} (hk : ∀ st, K st → K' st) {pos : Nat} {st : St} (h : RegI P all K pos st) : RegI P all K' pos st := by
  induction h with
  | done h => exact .done (hk _ h)
  | tot K1 h1 h2 h3 _ ih => exact .tot K1 h1 h2 h3 ih
  | seg ks own0 fins own1 h1 h2 h3 _ ih => exact .seg ks own0 fins own1 h1 h2 h3 ih
theorem hdrop_mem {j : Nat} {l : List (Nat × Obj')} {x : Nat × Obj'} (h : x ∈ hdrop j l) : x ∈ l ∧ x.1 ≠ j := by
  unfold hdrop at h
  obtain ⟨h1, h2⟩ := List.mem_filter.1 h
  refine ⟨h1, fun e => ?_⟩
  rw [beq_iff.2 e] at h2; cases h2
theorem hdrop_nodup {j : Nat} {l : List (Nat × Obj')} (h : (l.map (·.1)).Nodup) : ((hdrop j l).map (·.1)).Nodup := h.sublist (List.Sublist.map _ List.filter_sublist)
section
variable {P : Program} {Γ : XG} {call : Caller} {all : List Oper} {lo : Nat} {st0 : St} {s0 : XS} {own0 : List (Nat × Obj')} {bs : List Nat} {F F' : XF} {i : Nat} {o : Oper} {k : FK}
theorem Rests.held {S : Seg} {i t : Nat} {ob : Obj'} (h : Rests S i t ob) : Held S i t ob := ⟨h.1.elim (fun h => .inl h.1) .inr, h.2⟩
theorem FInv.knows (hI : FInv P all lo st0 own0 bs F i) {st : St} (h : Knows ⟨all, lo, i + 1, (k :: F.rks).reverse, st0, fun _ => own0⟩ i o st) : KnowsR st0.n F.xt.val o st := by
  obtain ⟨h1, h2⟩ := h
  refine ⟨h1, ?_⟩
  rw [List.reverse_cons, sti_snoc (by simpa using hI.len.1) hI.len.2.1 (Nat.le_refl _), hI.ag.val] at h2
  exact h2
theorem FInv.fresh (hok : drawOk all = true) (hI : FInv P all lo st0 own0 bs F i) (ho : all[i]? = some o) {d : Nat} (hd : o.dst = some d) {ob : Obj'} : (d, ob) ∉ F.hs := by
  intro hm
  obtain ⟨⟨_, c, ob0, hc, ⟨y, k2, h1, _, h3, _⟩⟩, _⟩ := hI.hs d ob hm
  exact ((drawOk_pair hok h1 ho hc).1 d h3).2 hd
theorem FInv.fresh' (hok : drawOk all = true) (hI : FInv P all lo st0 own0 bs F i) (ho : all[i]? = some o) {d : Nat} (hd : o.dst = some d) {l : List (Nat × Obj')} (hl : ∀ x ∈ l, x ∈ F.hs) : d ∉ l.map (·.1) := by
  intro hm
  obtain ⟨⟨t, ob⟩, h1, h2⟩ := List.mem_map.1 hm
  simp at h2; subst h2
  exact hI.fresh hok ho hd (hl _ h1)
theorem xfree_sound (hok : drawOk all = true) (hg : XGood P Γ) (hc : GoodCall P call) (hag0 : Ag st0 s0) (hI : FInv P all lo st0 own0 bs F i) (ho : all[i]? = some o) (h : xfree Γ call all bs s0 F o = some F') : FInv P all lo st0 own0 bs F' (i + 1) := by
  unfold xfree at h
  rw [oguard_some] at h
  obtain ⟨hd, h⟩ := h
  rw [← hag0.n] at hd
  have hdb : dstB o.dst st0.n = true := by
    have := (xdst_lt hd).1
    unfold dstB
    split
    · rename_i t ht; simpa using this t ht
    · rfl
  have hext := fun k => hI.ext (k := k)
  split at h
  · rename_i xs' ts d hop hgd hdst
    split at h
    · rename_i j x t t' hx ht
      have e1 : xs' = #[.tmp j, x] := by cases xs'; simp at hx; rw [hx]
      have e2 : ts = #[t, t'] := by cases ts; simp at ht; rw [ht]
      subst e1; subst e2
      obtain ⟨src, ob, oj, ok, rfl, har, hlo, hj, harj, hsrc, hdop⟩ := xapp_sound hg hdb hop h
      rw [xlook_eq] at hj
      have hjm := alook_mem hj
      have hobs : ∀ x, Operand.tmp x ∈ o.op.operands → x ∈ tmpsOf all o := fun x hx => looks_operand hx
      refine hI.push hok ho hd rfl ?_ ?_ ?_ (.inl ⟨rfl, fun _ _ e => by cases e⟩)
      · refine ⟨hgd, ⟨d, hdst⟩, hobs j (by rw [hop]; simp [Op.operands, Call.operands]), fun k hk => ⟨(hsrc k hk).2.1, hobs k (by rw [hop, (hsrc k hk).1]; simp [Op.operands, Call.operands])⟩, by rw [← hag0.next] at hlo; exact hlo, har,
          oj, ok, (hext _).held (hI.hs j oj hjm).1.held, harj, fun k hk => ⟨(hext _).held (hI.hs k ok (by have := (hsrc k hk).2.2.1; rw [xlook_eq] at this; exact alook_mem this)).1.held, (hsrc k hk).2.2.2⟩, fun st K id hk => hdop st K id (hI.knows hk)⟩
      · intro t2 ob2 hm
        rcases List.mem_cons.1 hm with e | hm
        · cases e; exact .inr (.inl ⟨rfl, hdst⟩)
        · obtain ⟨h1, h2⟩ := hdrop_mem hm
          left
          have h2' : Nat.beq j t2 = false := by cases hb : Nat.beq j t2 with | false => rfl | true => exact absurd (beq_iff.1 hb).symm h2
          cases src with
          | none => exact ⟨h1, by simp [takes, h2']⟩
          | some k =>
            obtain ⟨h3, h4⟩ := hdrop_mem h1
            have h4' : Nat.beq k t2 = false := by cases hb : Nat.beq k t2 with | false => rfl | true => exact absurd (beq_iff.1 hb).symm h4
            exact ⟨h3, by simp [takes, h2', h4']⟩
      · simp only [List.map_cons, List.nodup_cons]
        cases src with
        | none => exact ⟨hI.fresh' hok ho hdst fun x hx => (hdrop_mem hx).1, hdrop_nodup hI.hsn⟩
        | some k => exact ⟨hI.fresh' hok ho hdst fun x hx => (hdrop_mem (hdrop_mem hx).1).1, hdrop_nodup (hdrop_nodup hI.hsn)⟩
    · cases h
  · rename_i t j x hop hgd hdst
    have hhl : ∀ k ob, xlook F.hs k = some ob → ob.lo s0.next := fun k ob hk => by rw [← hag0.next]; rw [xlook_eq] at hk; exact (hI.hs k ob (alook_mem hk)).2.2
    have hjt : j ∈ tmpsOf all o := looks_operand (by rw [hop]; simp [Op.operands])
    rcases xsto_sound (n := st0.n) hg hag0 hhl hop hdst h with ⟨ob, oj, rfl, hb, hlo, hj, hbj, hdop⟩ | ⟨id, ob, o0, rfl, hlo, ho0, hbs, hdop⟩
    · rw [xlook_eq] at hj
      have hjm := alook_mem hj
      refine hI.push hok ho hd hdst.symm ?_ ?_ ?_ (.inl ⟨rfl, fun _ _ e => by cases e⟩)
      · exact ⟨hgd, hdst, hjt, by rw [← hag0.next] at hlo; exact hlo, hb, oj, (hext _).held (hI.hs j oj hjm).1.held, hbj, fun st K id hk => hdop st K id (hI.knows hk)⟩
      · intro t2 ob2 hm
        rcases List.mem_cons.1 hm with e | hm
        · cases e; exact .inr (.inr ⟨rfl, oj, hjm⟩)
        · obtain ⟨h1, h2⟩ := hdrop_mem hm
          have h2' : Nat.beq j t2 = false := by cases hb : Nat.beq j t2 with | false => rfl | true => exact absurd (beq_iff.1 hb).symm h2
          exact .inl ⟨h1, by simp [takes, h2']⟩
      · simp only [List.map_cons, List.nodup_cons]
        refine ⟨fun hm => ?_, hdrop_nodup hI.hsn⟩
        obtain ⟨⟨t2, ob2⟩, h1, h2⟩ := List.mem_map.1 hm
        exact (hdrop_mem h1).2 h2
    · refine hI.push hok ho hd hdst.symm ?_ ?_ hI.hsn (.inr ⟨id, ob, rfl, xset_eq _ _ _⟩)
      · exact ⟨hgd, hdst, by rw [← hag0.next] at hlo; exact hlo, hbs, o0, ho0, fun st K hk => hdop st K (hI.knows hk)⟩
      · exact fun t2 ob2 hm => .inl ⟨hm, rfl⟩
  · rename_i hn1 hn2
    split at h
    · rename_i d ob hgd hdst hmk
      cases h
      rw [← hag0.next] at hmk
      obtain ⟨hlo, hdop⟩ := xmk_sound (n := st0.n) hg hdb hmk
      refine hI.push hok ho hd hdst.symm ?_ ?_ ?_ (.inl ⟨rfl, fun _ _ e => by cases e⟩)
      · exact ⟨hgd, ⟨d, hdst⟩, hlo, fun st K hk => hdop st K (hI.knows hk)⟩
      · intro t2 ob2 hm
        rcases List.mem_cons.1 hm with e | hm
        · cases e; exact .inr (.inl ⟨rfl, hdst⟩)
        · exact .inl ⟨hm, rfl⟩
      · simp only [List.map_cons, List.nodup_cons]
        exact ⟨hI.fresh' hok ho hdst fun x hx => hx, hI.hsn⟩
    · split at h
      · rename_i s hs
        rw [oguard_some] at h
        obtain ⟨hlo, h⟩ := h
        cases h
        refine hI.push hok ho hd rfl ?_ (fun t2 ob2 hm => .inl ⟨hm, rfl⟩) hI.hsn (.inl ⟨rfl, fun _ _ e => by cases e⟩)
        refine ⟨?_, by rw [← hag0.next] at hlo; exact loB_lo hlo⟩
        rw [List.reverse_cons, sti_snoc (by simpa using hI.len.1) hI.len.2.1 (Nat.le_refl _)]
        exact xval1_sound hg hc hI.ag hs
      · cases h
theorem xseg_sound (hok : drawOk all = true) (hg : XGood P Γ) (hc : GoodCall P call) (hag0 : Ag st0 s0) : ∀ {r : List Oper} {i hi : Nat} {F F' : XF}, all.drop i = r → FInv P all lo st0 own0 bs F i → xseg Γ call all bs s0 i r F = some (F', hi) → FInv P all lo st0 own0 bs F' hi ∧ i ≤ hi
  | [], i, hi, F, F', hr, hI, h => by simp only [xseg] at h; cases h; exact ⟨hI, Nat.le_refl _⟩
  | o :: r, i, hi, F, F', hr, hI, h => by
    simp only [xseg] at h
    have ho : all[i]? = some o := by
      have := congrArg (fun l : List Oper => l[0]?) hr
      simpa using this
    split at h
    · cases h; exact ⟨hI, Nat.le_refl _⟩
    · split at h
      · rename_i F1 h1
        have hr' : all.drop (i + 1) = r := by
          have := congrArg List.tail hr
          simpa using this
        obtain ⟨g1, g2⟩ := xseg_sound hok hg hc hag0 hr' (xfree_sound hok hg hc hag0 hI ho h1) h
        exact ⟨g1, by omega⟩
      · cases h
theorem readers_mem {t : Nat} : ∀ {i : Nat} {l : List Oper} {m : Nat}, m ∈ readers all t i l ↔ ∃ o, i ≤ m ∧ l[m - i]? = some o ∧ t ∈ tmpsOf all o
  | i, [], m => by simp [readers]
  | i, o :: r, m => by
    have ih := readers_mem (t := t) (i := i + 1) (l := r) (m := m)
    have step : (∃ o', i + 1 ≤ m ∧ r[m - (i + 1)]? = some o' ∧ t ∈ tmpsOf all o') ↔ ∃ o', i < m ∧ (o :: r)[m - i]? = some o' ∧ t ∈ tmpsOf all o' := by
      constructor
      · rintro ⟨o', h1, h2, h3⟩
        refine ⟨o', h1, ?_, h3⟩
        have : m - i = (m - (i + 1)) + 1 := by omega
        rw [this, List.getElem?_cons_succ]; exact h2
      · rintro ⟨o', h1, h2, h3⟩
        refine ⟨o', h1, ?_, h3⟩
        have : m - i = (m - (i + 1)) + 1 := by omega
        rw [this, List.getElem?_cons_succ] at h2; exact h2
    simp only [readers]
    split
    · rename_i hb
      rw [any_beq] at hb
      rw [List.mem_cons, ih, step]
      constructor
      · rintro (rfl | ⟨o', h1, h2, h3⟩)
        · exact ⟨o, Nat.le_refl _, by simp, hb⟩
        · exact ⟨o', by omega, h2, h3⟩
      · rintro ⟨o', h1, h2, h3⟩
        rcases Nat.eq_or_lt_of_le h1 with e | hl
        · exact .inl e.symm
        · exact .inr ⟨o', hl, h2, h3⟩
    · rename_i hb
      rw [ih, step]
      constructor
      · rintro ⟨o', h1, h2, h3⟩; exact ⟨o', by omega, h2, h3⟩
      · rintro ⟨o', h1, h2, h3⟩
        rcases Nat.eq_or_lt_of_le h1 with e | hl
        · subst e
          simp at h2; subst h2
          rw [any_beq.2 h3] at hb; cases hb
        · exact ⟨o', hl, h2, h3⟩
theorem segB1_spec {seg : List Oper} {ks : List FK} : ∀ {i : Nat} {r : List Oper} {kr : List FK}, segB1 all seg ks i r kr = true → ∀ (c : Nat) (o : Oper) (k : FK) (t : Nat) (ob : Obj'), r[c]? = some o → kr[c]? = some k → k.made = some ob → o.dst = some t →
    readers all t 0 seg = [] ∨ ∃ m k', readers all t 0 seg = [m] ∧ i + c < m ∧ ks[m]? = some k' ∧ takes t k' = true
  | i, [], kr, h, c, o, k, t, ob, hr, _, _, _ => by simp at hr
  | i, y :: r, [], h, c, o, k, t, ob, _, hk, _, _ => by simp at hk
  | i, y :: r, k0 :: kr, h, c, o, k, t, ob, hr, hk, hm, hd => by
    simp only [segB1, Bool.and_eq_true] at h
    cases c with
    | zero =>
      simp at hr hk
      subst hr; subst hk
      have h1 := h.1
      rw [hm, hd] at h1
      simp only at h1
      split at h1
      · rename_i e; exact .inl e
      · rename_i m e
        rw [Bool.and_eq_true, blt_iff] at h1
        obtain ⟨h2, h3⟩ := h1
        split at h3
        · rename_i k' hk'; exact .inr ⟨m, k', e, by omega, hk', h3⟩
        · cases h3
      · cases h1
    | succ c =>
      rcases segB1_spec h.2 c o k t ob (by simpa using hr) (by simpa using hk) hm hd with e | ⟨m, k', h1, h2, h3⟩
      · exact .inl e
      · exact .inr ⟨m, k', h1, by omega, h3⟩
theorem bstIds_uniq : ∀ {ks : List FK} {i j id : Nat} {ob ob' : Obj'}, (bstIds ks).Nodup → ks[i]? = some (.bst id ob) → ks[j]? = some (.bst id ob') → i = j := by
  have mem : ∀ {ks : List FK} {i id : Nat} {ob : Obj'}, ks[i]? = some (.bst id ob) → id ∈ bstIds ks := by
    intro ks
    induction ks with
    | nil => intro i id ob h; simp at h
    | cons k r ih =>
      intro i id ob h
      cases i with
      | zero => simp at h; subst h; simp [bstIds]
      | succ i =>
        have := ih (i := i) (by simpa using h)
        cases k <;> simp only [bstIds] <;> first | exact List.mem_cons_of_mem _ this | exact this
  intro ks
  induction ks with
  | nil => intro i j id ob ob' _ h; simp at h
  | cons k r ih =>
    intro i j id ob ob' hn hi hj
    have hn' : (bstIds r).Nodup := by
      cases k <;> simp only [bstIds] at hn <;> first | exact (List.nodup_cons.1 hn).2 | exact hn
    cases i with
    | zero =>
      cases j with
      | zero => rfl
      | succ j =>
        simp at hi; subst hi
        simp only [bstIds] at hn
        exact absurd (mem (i := j) (by simpa using hj)) (List.nodup_cons.1 hn).1
    | succ i =>
      cases j with
      | zero =>
        simp at hj; subst hj
        simp only [bstIds] at hn
        exact absurd (mem (i := i) (by simpa using hi)) (List.nodup_cons.1 hn).1
      | succ j =>
        have hi' : r[i]? = some (.bst id ob) := by simpa using hi
        have hj' : r[j]? = some (.bst id ob') := by simpa using hj
        have := ih hn' hi' hj'
        omega
theorem xfins_get {xt : XS} : ∀ {n : Nat} {l : List (Nat × Obj')} {u : Nat}, (∀ t ob, (t, ob) ∈ l → t + 1 < 4096) → Tr.get dep (xfins xt n l) u = match alook (refF n l) u with | some s => some s | none => xt.get u
  | n, [], u, h => rfl
  | n, (t, ob) :: r, u, h => by
    simp only [xfins, refF, alook]
    rw [Tr.get_put dep _ t _ u (by simpa [dep] using h t ob (by simp))]
    by_cases e : t = u
    · rw [if_pos e, if_pos e]
    · rw [if_neg e, if_neg e]; exact xfins_get fun t' ob' hm => h t' ob' (List.mem_cons_of_mem _ hm)
theorem alook_append {α : Type} : ∀ {l m : List (Nat × α)} {t : Nat}, alook (l ++ m) t = match alook l t with | some s => some s | none => alook m t
  | [], m, t => rfl
  | (k, v) :: r, m, t => by
    simp only [List.cons_append, alook]
    split
    · rfl
    · exact alook_append
theorem finish_sound (hok : drawOk all = true) {hi : Nat} (hI : FInv P all lo st0 own0 bs F hi) (hown : ∀ id o, alook own0 id = some o → alook st0.own id = some o ∧ id ∉ bs) (hag0 : Ag st0 s0) {xs' : XS} (h : xfinish all ((all.drop lo).take (hi - lo)) bs s0 F = some xs') :
    SegOk P ⟨all, lo, hi, F.rks.reverse, st0, fun _ => own0⟩ ∧ SegEnd ⟨all, lo, hi, F.rks.reverse, st0, fun _ => own0⟩ F.hs F.ow ∧ Ag (Seg.fin ⟨all, lo, hi, F.rks.reverse, st0, fun _ => own0⟩ F.hs F.ow) xs' := by
  unfold xfinish at h
  simp only at h
  rw [oguard_some, Bool.and_eq_true] at h
  obtain ⟨⟨hseg, hnd⟩, h⟩ := h
  cases h
  obtain ⟨hl, hlo, hhi⟩ := hI.len
  obtain ⟨S, hS⟩ : ∃ S : Seg, S = ⟨all, lo, hi, F.rks.reverse, st0, fun _ => own0⟩ := ⟨_, rfl⟩
  have pre := hI.pre
  have hhs := hI.hs
  have how := hI.ow
  have hagI := hI.ag
  rw [← hS] at pre hhs how hagI ⊢
  have eall : S.all = all := by rw [hS]
  have est : S.st0 = st0 := by rw [hS]
  have hsegget : ∀ m, lo ≤ m → m < hi → ((all.drop lo).take (hi - lo))[m - lo]? = all[m]? := by
    intro m h1 h2
    rw [List.getElem?_take, if_pos (by omega), List.getElem?_drop]
    have : lo + (m - lo) = m := by omega
    rw [this]
  have hkdks : ∀ m k, S.kd m = some k → lo ≤ m ∧ m < hi ∧ F.rks.reverse[m - lo]? = some k := by
    intro m k hk
    rw [hS] at hk
    have := Seg.kd_lt hk
    unfold Seg.kd at hk
    rw [if_pos this] at hk
    exact ⟨this.1, this.2, hk⟩
  have hkskd : ∀ m k, F.rks.reverse[m]? = some k → S.kd (lo + m) = some k := by
    intro m k hk
    have hlt := (List.getElem?_eq_some_iff.1 hk).1
    simp at hlt
    rw [hS]
    unfold Seg.kd
    simp only
    rw [if_pos (by omega)]
    have : lo + m - lo = m := by omega
    rw [this]; exact hk
  have huser : ∀ t m, S.user t m → m - lo ∈ readers all t 0 ((all.drop lo).take (hi - lo)) ∧ lo ≤ m := by
    rintro t m ⟨y, k', h1, h2, h3⟩
    rw [eall] at h1 h3
    obtain ⟨g1, g2, _⟩ := hkdks m k' h2
    exact ⟨readers_mem.2 ⟨y, Nat.zero_le _, by rw [Nat.sub_zero, hsegget m g1 g2]; exact h1, h3⟩, g1⟩
  -- who reads a slot that was made here
  have one : ∀ c t ob, S.co c t ob → (∀ m, ¬ S.user t m) ∨ ∃ m k', (∀ m', S.user t m' → m' = m) ∧ c < m ∧ S.kd m = some k' ∧ takes t k' = true := by
    rintro c t ob ⟨y, k', h1, h2, h3, h4⟩
    rw [eall] at h1
    obtain ⟨g1, g2, g3⟩ := hkdks c k' h2
    rcases segB1_spec hseg (c - lo) y k' t ob (by rw [hsegget c g1 g2]; exact h1) g3 h4 h3 with e | ⟨m, k2, e1, e2, e3, e4⟩
    · refine .inl fun m hu => ?_
      have := (huser t m hu).1
      rw [e] at this; cases this
    · refine .inr ⟨lo + m, k2, fun m' hu => ?_, by omega, hkskd m k2 e3, e4⟩
      have := huser t m' hu
      rw [e1] at this
      simp at this; omega
  have len' : S.lo ≤ S.hi ∧ S.hi ≤ S.all.length ∧ S.ks.length = S.hi - S.lo := by rw [hS]; simp; omega
  have userOf : ∀ {t m y}, all[m]? = some y → (∃ k, S.kd m = some k) → t ∈ tmpsOf all y → S.user t m := fun h1 ⟨k, h2⟩ h3 => ⟨_, k, by rw [eall]; exact h1, h2, by rw [eall]; exact h3⟩
  have stoBox : ∀ {m t ob}, S.kd m = some (.sto t ob) → isBox ob ∧ S.user t m := by
    intro m t ob hk
    obtain ⟨g1, g2, g3⟩ := hkdks m _ hk
    have hm : all[m]? = some all[m] := List.getElem?_eq_getElem (by omega)
    obtain ⟨_, _, _, h3, _, h5, _⟩ := pre m _ _ hm hk
    rw [eall] at h3
    exact ⟨h5, userOf hm ⟨_, hk⟩ h3⟩
  have sok : SegOk P S := by
    refine ⟨by rw [eall]; exact hok, len', ?_, ?_, ?_, ?_, ?_⟩
    · rintro t m m' ⟨c, ob, hc⟩ hu hu'
      rcases one c t ob hc with h | ⟨x, _, h, _⟩
      · exact absurd hu (h m)
      · rw [h m hu, h m' hu']
    · intro c t ob m hc hu
      rcases one c t ob hc with h | ⟨x, _, h, h2, _⟩
      · exact absurd hu (h m)
      · rw [h m hu]; exact h2
    · intro a b id ob ob' h1 h2
      obtain ⟨g1, g2, g3⟩ := hkdks a _ h1
      obtain ⟨g4, g5, g6⟩ := hkdks b _ h2
      have := bstIds_uniq (nodupB_spec hnd) g3 g6
      omega
    · intro _ id o' h1
      have h1' : alook own0 id = some o' := by rw [hS] at h1; exact h1
      obtain ⟨g1, g2⟩ := hown id o' h1'
      refine ⟨by rw [est]; exact g1, fun m ob hk => ?_⟩
      obtain ⟨q1, q2, q3⟩ := hkdks m _ hk
      have hm : all[m]? = some all[m] := List.getElem?_eq_getElem (by omega)
      obtain ⟨_, _, _, _, h4, _⟩ := pre m _ _ hm hk
      exact (g2 h4).elim
    · intro m y k' hm hk
      rw [eall] at hm
      obtain ⟨hdb, hp⟩ := pre m y k' hm hk
      refine ⟨by rw [est]; exact hdb, ?_⟩
      have noU : (∀ t, takes t k' = false) → ∀ t ∈ tmpsOf S.all y, ¬ S.U t := by
        rintro hno t ht ⟨c, ob, hc⟩
        rw [eall] at ht
        have hu := userOf hm ⟨k', hk⟩ ht
        rcases one c t ob hc with h | ⟨x, k2, h, _, h3, h4⟩
        · exact h m hu
        · have := h m hu; subst this
          rw [hk] at h3; cases h3
          rw [hno t] at h4; cases h4
      have takeU : ∀ t ∈ tmpsOf S.all y, S.U t → takes t k' = true := by
        rintro t ht ⟨c, ob, hc⟩
        rw [eall] at ht
        have hu := userOf hm ⟨k', hk⟩ ht
        rcases one c t ob hc with h | ⟨x, k2, h, _, h3, h4⟩
        · exact absurd hu (h m)
        · have := h m hu; subst this
          rw [hk] at h3; cases h3; exact h4
      cases k' with
      | val s => exact ⟨noU fun t => rfl, hp⟩
      | mk ob => exact ⟨hp.1, hp.2.1, noU fun t => rfl, hp.2.2⟩
      | app j src ob =>
        obtain ⟨h1, h2, h3, h4, h5, h6, oj, ok, h7, h8, h9, h10⟩ := hp
        have made : ∀ {t ob'}, Held S m t ob' → isArr ob' → ∃ c, S.co c t ob' := by
          intro t ob' hh ha
          rcases hh.1 with h | ⟨m', _, hk'⟩
          · exact h
          · have := (stoBox hk').1
            cases ob' <;> simp only [isArr, isBox] at ha this
        refine ⟨h1, h2, fun t ht hU => ?_, h3, h4, h5, h6, oj, ok, made h7 h8, h8, fun k hk => ⟨made (h9 k hk).1 (h9 k hk).2, (h9 k hk).2⟩, h10⟩
        have := takeU t ht hU
        simp only [takes, Bool.or_eq_true, beq_iff] at this
        rcases this with e | e
        · exact .inl e.symm
        · right
          split at e
          · rw [beq_iff] at e; rw [e]
          · cases e
      | sto j ob =>
        obtain ⟨h1, h2, h3, h4, h5, oj, h6, h7, h8⟩ := hp
        refine ⟨h1, h2, fun t ht hU => ?_, h3, h4, h5, oj, ?_, h7, h8⟩
        · have := takeU t ht hU
          simp only [takes, beq_iff] at this
          exact this.symm
        · rcases h6.1 with h | ⟨m', hlt, hk'⟩
          · exact h
          · obtain ⟨_, c, ob0, _, hc⟩ := h6
            have hu' := (stoBox hk').2
            have hu : S.user j m := userOf hm ⟨_, hk⟩ (by rw [eall] at h3; exact h3)
            rcases one c j ob0 hc with h | ⟨x, _, h, _⟩
            · exact absurd hu (h m)
            · have e1 := h m hu; have e2 := h m' hu'; omega
      | bst id ob => exact ⟨hp.1, hp.2.1, noU fun t => rfl, hp.2.2.1, hp.2.2.2.2⟩
  refine ⟨sok, ⟨?_, hI.hsn, by rw [est]; exact hI.owk, ?_⟩, ?_⟩
  · intro t ob hm
    obtain ⟨⟨hr, c, ob0, _, hc⟩, _⟩ := hhs t ob hm
    rcases hr with ⟨⟨c', hc'⟩, hno⟩ | ⟨m, _, hk⟩
    · refine ⟨c', ob, hc', .inl ⟨rfl, fun m hu => ?_⟩⟩
      rcases one c' t ob hc' with h | ⟨x, k2, h, _, h3, h4⟩
      · exact h m hu
      · exact hno x k2 h3 h4
    · exact ⟨c, ob0, hc, .inr ⟨m, (stoBox hk).2, hk⟩⟩
  · rw [est]; exact how
  · refine ⟨?_, ?_, ?_, ?_, ?_, fun t => ?_⟩
    · show S.st0.n = _; rw [est]; exact hag0.n
    · show S.st0.next + F.hs.length = _; rw [est, hag0.next]
    · show numF S.st0.next F.hs ++ F.ow = _; rw [est, hag0.next]
    · show S.st0.base = _; rw [est]; exact hag0.base
    · show ∀ id, id < S.st0.base → id ∈ S.st0.moved → _; rw [est]; exact hag0.moved
    · show alook (refF S.st0.next F.hs ++ (S.sti S.hi).slots) t = Tr.get dep (xfins F.xt s0.next F.hs) t
      have ehi : S.hi = hi := by rw [hS]
      rw [alook_append, xfins_get (fun t ob hm => (hI.hs t ob hm).2.1), est, hag0.next, ehi]
      have := hagI.slots t
      cases alook (refF s0.next F.hs) t with
      | some s => rfl
      | none => exact this
theorem xop1_sound (hg : XGood P Γ) (hc : GoodCall P call) {xs xs' : XS} {st : St} (hag : Ag st xs) {pos : Nat} (ho : all[pos]? = some o) (h : xops Γ call (fun _ _ => none) all [o] xs = some xs') : TotOk P all pos st (fun st' => Ag st' xs') := by
  intro X w0 β a w hm N Q hN
  have hia : all.toArray[pos]? = some o := by simpa using ho
  unfold wpOp
  rw [hia]
  simp only
  simp only [xops] at h
  split at h
  · rename_i hgd
    simp only [Region.wanted, hgd, if_true]
    split at h
    · rename_i xs1 h1
      cases h
      exact .inl (xoper_sound hg hc hag hm (xoperY_none h1) N Q fun a' w' st' β' hag' hm' => hN a' w' st' β' hag' hm')
    · cases h
  · rename_i j want hgd
    split at h
    · rename_i t ht
      rw [← hag.slots] at h
      split at h
      · rename_i b hb
        have hy := yielded_bool (bind_dst ht) (slot_bool hm hb)
        simp only [Region.wanted, hgd, hy]
        split at h
        · rename_i e
          have e : b = want := by simpa using e
          subst e
          simp only [beq_self_eq_true, if_true]
          split at h
          · rename_i xs1 h1
            cases h
            exact .inl (xoper_sound hg hc hag hm (xoperY_none h1) N Q fun a' w' st' β' hag' hm' => hN a' w' st' β' hag' hm')
          · cases h
        · rename_i e
          have : (some b == some want) = false := by simpa using e
          simp only [this, Bool.false_eq_true, if_false]
          rw [oguard_some] at h
          obtain ⟨hd, h⟩ := h
          cases h
          have hdt : ∀ t, o.dst = some t → t < st.n := fun t e => by rw [hag.n]; exact (xdst_lt hd).1 t e
          exact hN _ w _ _ (hag.put hd _) (hm.put_same hdt (by simp [Sym.lo]) (by simp [Sm, R]))
      · rename_i hv
        obtain ⟨hs1, hs2⟩ := hm.slots t _ hv
        simp only [Sm, R] at hs2
        have hy : yielded all.toArray a.tmps j = none := yielded_undef (bind_dst ht) hs2
        simp only [Region.wanted, hgd, hy]
        have : ((none : Option Bool) == some want) = false := rfl
        simp only [this, Bool.false_eq_true, if_false]
        rw [oguard_some] at h
        obtain ⟨hd, h⟩ := h
        cases h
        have hdt : ∀ t, o.dst = some t → t < st.n := fun t e => by rw [hag.n]; exact (xdst_lt hd).1 t e
        exact hN _ w _ _ (hag.put hd _) (hm.put_same hdt (by simp [Sym.lo]) (by simp [Sm, R]))
      · cases h
    · cases h
theorem begin_inv {st : St} {xs : XS} (hag : Ag st xs) {pos : Nat} (hpos : pos ≤ all.length) (bs : List Nat) : FInv P all pos st (xbegin xs bs).xt.own bs (xbegin xs bs) pos ∧ ∀ id o, alook (xbegin xs bs).xt.own id = some o → alook st.own id = some o ∧ id ∉ bs := by
  have hkd : ∀ m k, Seg.kd ⟨all, pos, pos, (xbegin xs bs).rks.reverse, st, fun _ => (xbegin xs bs).xt.own⟩ m = some k → False := fun m k h => by have := Seg.kd_lt h; simp at this; omega
  refine ⟨⟨⟨by simp [xbegin], Nat.le_refl _, hpos⟩, ?_, fun j o k _ hk => absurd hk (fun h => hkd _ _ h), fun t ob h => by simp [xbegin] at h, by simp [xbegin], by simp only [xbegin]; rw [hag.own], fun hn id o h => .inr ⟨alook_of_mem hn (by simp only [xbegin] at h; rw [hag.own]; exact h), fun m ob hk => hkd _ _ hk⟩⟩, ?_⟩
  · have e : Seg.sti ⟨all, pos, pos, (xbegin xs bs).rks.reverse, st, fun _ => (xbegin xs bs).xt.own⟩ pos = { st with own := (xbegin xs bs).xt.own } := by
      unfold Seg.sti; simp [puts]
    rw [e]
    exact ⟨hag.n, hag.next, rfl, hag.base, hag.moved, hag.slots⟩
  · intro id o h
    cases bs with
    | nil => simp only [xbegin] at h; rw [hag.own]; exact ⟨h, by simp⟩
    | cons b r =>
      simp only [xbegin] at h
      obtain ⟨h1, h2⟩ := alook_filter (p := fun i => !(b :: r).any (Nat.beq i)) h
      rw [hag.own]
      refine ⟨h2, fun hm => ?_⟩
      rw [any_beq.2 hm] at h1; cases h1
theorem xpieces_sound (hok : drawOk all = true) (hg : XGood P Γ) (hc : GoodCall P call) : ∀ {fuel pos : Nat} {xs xs' : XS} {st : St}, Ag st xs → pos ≤ all.length → xpieces Γ call all fuel pos xs = some xs' → RegI P all (fun st' => Ag st' xs') pos st
  | 0, pos, xs, xs', st, hag, hpos, h => by simp [xpieces] at h
  | fuel + 1, pos, xs, xs', st, hag, hpos, h => by
    simp only [xpieces] at h
    split at h
    · rename_i e
      rw [beq_iff] at e
      cases h
      subst e
      exact .done hag
    · rename_i hne
      have hne' : pos ≠ all.length := fun e => by rw [beq_iff.2 e] at hne; cases hne
      split at h
      · cases h
      · rename_i o ho
        split at h
        · rename_i hp
          unfold planTot at hp
          simp only [Bool.and_eq_true, Bool.or_eq_true, beq_iff] at hp
          split at h
          · rename_i xs1 h1
            exact .tot (fun st' => Ag st' xs1) (by omega) (hp.2.elim .inr .inl) (xop1_sound hg hc hag ho h1) fun st' hag' => xpieces_sound hok hg hc hag' (by omega) h
          · cases h
        · (try simp only at h)
          generalize xbs all xs pos (all.drop pos) = bs at h
          split at h
          · rename_i F hi hs
            split at h
            · rename_i xs1 hf
              rw [oguard_some, Bool.or_eq_true, beq_iff] at h
              obtain ⟨hcut, h⟩ := h
              obtain ⟨hI0, hown⟩ := begin_inv (P := P) (all := all) hag hpos bs
              obtain ⟨hI, hle⟩ := xseg_sound hok hg hc hag rfl hI0 hs
              obtain ⟨g1, g2, g3⟩ := finish_sound hok hI hown hag hf
              exact .seg F.rks.reverse (fun _ => _) F.hs F.ow g1 g2 (hcut.elim .inr .inl) (xpieces_sound hok hg hc g3 hI.len.2.2 h)
            · cases h
          · cases h
theorem xdraw_sound (hmix : P.follows .mixedOrders = true) (hg : XGood P Γ) (hc : GoodCall P call) : DrawOkay P (xdraw Γ call) := by
  intro id ops xs xs' st hag h
  unfold xdraw at h
  rw [oguard_some] at h
  obtain ⟨hok, h⟩ := h
  have hr := xpieces_sound hok hg hc hag (Nat.zero_le _) h
  refine region_sound hmix hok ?_
  exact hr.mono fun st'' hag'' => ⟨rfl, hag''⟩
theorem run_sound (hmix : P.follows .mixedOrders = true) (hg : XGood P Γ) (k : Nat) : GoodCall P (xcall Γ (xdraw Γ) k) := xcall_sound hg (fun call hc => xdraw_sound hmix hg hc) k
end
end Go.V

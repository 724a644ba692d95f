/- A program logic of my own over the kit: part V31. It needs no conditions. -/
import Derived.Test.YtnflnfmbgghbeaaGreatDoorV25
set_option linter.unusedVariables false
set_option linter.unusedSimpArgs false
set_option linter.unusedSectionVars false
namespace Go.V
variable [Dr] [Ov]
open Go.RowKit
section
variable {P : Program} {look look' : Nat → Option Obj'} {ρ : Operand → Sym} {k : Sym → Prop}
theorem cellD_mono (hl : ∀ id o, look id = some o → look' id = some o) {s : Sym} {x : D} (h : cellD look s = some x) : cellD look' s = some x := by
  cases s <;> simp only [cellD] at h ⊢ <;> try exact h
  rename_i id
  cases ho : look id with
  | none => rw [ho] at h; cases h
  | some o => rw [ho] at h; rw [hl id o ho]; exact h
theorem cellsD_mono (hl : ∀ id o, look id = some o → look' id = some o) : ∀ {l : List Sym} {ds : List D}, cellsD look l = some ds → cellsD look' l = some ds
  | [], ds, h => h
  | s :: r, ds, h => by
    simp only [cellsD] at h ⊢
    split at h
    · rename_i x xs h1 h2; rw [cellD_mono hl h1, cellsD_mono hl h2]; exact h
    · cases h
mutual
theorem lend_mono (hl : ∀ id o, look id = some o → look' id = some o) : ∀ {s : Sym} {r : D × Bool}, lend look s = some r → lend look' s = some r
  | .d x, r, h => by simpa [lend] using h
  | .nils, r, h => by simpa [lend] using h
  | .bp id off, r, h => by
    simp only [lend] at h ⊢
    split at h
    · rename_i T cells ho
      rw [hl id _ ho]; simp only
      split at h
      · rename_i ds hd; rw [cellsD_mono hl hd]; exact h
      · cases h
    · cases h
  | .ar id, r, h => by
    simp only [lend] at h ⊢
    split at h
    · rename_i T sz rows ho; rw [hl id _ ho]; exact h
    · cases h
  | .mp id, r, h => by
    simp only [lend] at h ⊢
    split at h
    · rename_i T rows ho; rw [hl id _ ho]; exact h
    · cases h
  | .agg l, r, h => by
    simp only [lend] at h ⊢
    split at h
    · rename_i ds b hd; rw [lends_mono hl hd]; exact h
    · cases h
  | .fn f l, r, h => by
    simp only [lend] at h ⊢
    split at h
    · rename_i ds b hd; rw [lends_mono hl hd]; exact h
    · cases h
  | .tup l, r, h => by simp [lend] at h
  | .ap _ _ _ _, r, h => by simp [lend] at h
  | .as _ _ _ _, r, h => by simp [lend] at h
  | .av _ _ _ _, r, h => by simp [lend] at h
  | .yd _, r, h => by simp [lend] at h
  | .junk, r, h => by simp [lend] at h
theorem lends_mono (hl : ∀ id o, look id = some o → look' id = some o) : ∀ {l : List Sym} {r : List D × Bool}, lends look l = some r → lends look' l = some r
  | [], r, h => by simpa [lends] using h
  | s :: t, r, h => by
    simp only [lends] at h ⊢
    split at h
    · rename_i d b ds c h1 h2; rw [lend_mono hl h1, lends_mono hl h2]; exact h
    · cases h
end
theorem mapRows_mono (hl : ∀ id o, look id = some o → look' id = some o) {s : Sym} {rows : List (List D)} (h : mapRows look s = some rows) : mapRows look' s = some rows := by
  unfold mapRows at h ⊢
  split at h
  · rename_i id
    (try simp only)
    split at h
    · rename_i T r ho; rw [hl id _ ho]; exact h
    · cases h
  · exact h
  · cases h
theorem sload_mono (hl : ∀ id o, look id = some o → look' id = some o) {ti : TI} {s : Sym} (h : sload look ti s k) : sload look' ti s k := by
  cases s <;> simp only [sload] at h ⊢
  case d x => cases x <;> simp only [sload] at h ⊢ <;> exact h
  case bp id off =>
    cases ho : look id with
    | none => simp only [ho] at h
    | some o => simp only [ho] at h; simp only [hl id o ho]; exact h
  case ap id sz i off =>
    cases ho : look id with
    | none => simp only [ho] at h
    | some o => simp only [ho] at h; simp only [hl id o ho]; exact h
theorem sindexAddr_mono (hl : ∀ id o, look id = some o → look' id = some o) {esz : Nat} {s s' : Sym} (h : sindexAddr look esz s s' k) : sindexAddr look' esz s s' k := by
  unfold sindexAddr at h ⊢
  split at h
  · exact h
  · rename_i id kd n
    cases ho : look id with
    | none => simp only [ho] at h
    | some o => simp only [ho] at h; simp only [hl id o ho]; exact h
  · exact h.elim
theorem slen_mono (hl : ∀ id o, look id = some o → look' id = some o) {kd : TK} {s : Sym} (h : slen look kd s k) : slen look' kd s k := by
  unfold slen at h ⊢
  split at h
  · exact h
  · exact h
  · exact h
  · rename_i e id
    cases ho : look id with
    | none => simp only [ho] at h
    | some o => simp only [ho] at h; simp only [hl id o ho]; exact h
  · exact h
  · exact h
  · exact h.elim
theorem sslice_mono (hl : ∀ id o, look id = some o → look' id = some o) {kd : TK} {s : Sym} {lo hi : Option Sym} (h : sslice P look kd s lo hi k) : sslice P look' kd s lo hi k := by
  unfold sslice at h ⊢
  split at h
  · exact h
  · rename_i e id
    cases ho : look id with
    | none => simp only [ho] at h
    | some o => simp only [ho] at h; simp only [hl id o ho]; exact h
  · rename_i e id _ _ _
    cases ho : look id with
    | none => simp only [ho] at h
    | some o => simp only [ho] at h; simp only [hl id o ho]; exact h
  · exact h
  · exact h.elim
theorem slookup_mono (hl : ∀ id o, look id = some o → look' id = some o) {kk : TK} {te : TI} {c : Bool} {m x : Sym} (h : slookup look kk te c m x k) : slookup look' kk te c m x k := by
  unfold slookup at h ⊢
  cases hr : mapRows look m with
  | none => simp only [hr] at h
  | some rows => simp only [hr] at h; simp only [mapRows_mono hl hr]; exact h
theorem scall_mono (hl : ∀ id o, look id = some o → look' id = some o) {c : Sym} {args : List Sym} (h : scall P look c args k) : scall P look' c args k := by
  unfold scall at h ⊢
  cases hc : scallee c with
  | none => simp only [hc] at h
  | some r =>
    obtain ⟨f, caps⟩ := r
    simp only [hc] at h ⊢
    unfold scallD at h ⊢
    cases hla : lends look (args ++ caps) with
    | none => simp only [hla] at h
    | some r => simp only [hla] at h; simp only [lends_mono hl hla]; exact h
theorem sop_mono (hl : ∀ id o, look id = some o → look' id = some o) {op : Op} (h : sop P look ρ op k) : sop P look' ρ op k := by
  unfold sop at h ⊢
  split at h
  · exact h
  · exact h
  · exact h
  · split at h
    · rename_i ht; (try simp only [ht]); exact sload_mono hl h
    · exact h.elim
  · exact h
  · exact h
  · split at h
    · rename_i ht
      split at h
      · rename_i ht2; (try simp only [ht, ht2]); exact sindexAddr_mono hl h
      · exact h.elim
    · exact h.elim
  · exact h
  · split at h
    · rename_i ht; (try simp only [ht]); exact ⟨h.1, sslice_mono hl h.2⟩
    · exact h.elim
  · exact h
  · exact h
  · exact h
  · exact h
  · split at h
    · rename_i ht
      split at h
      · rename_i h1 h2; (try simp only [ht, h1, h2]); exact ⟨h.1, slookup_mono hl h.2⟩
      · exact h.elim
    · exact h.elim
  · exact h
  · split at h
    · rename_i hx hy
      split at h
      · rename_i ht; (try simp only [hx, hy, ht]); exact slen_mono hl h
      · exact h.elim
    · exact h.elim
  · exact h
  · exact h
  · exact scall_mono hl h
  · exact h.elim
theorem sopB_mono (hl : ∀ id o, look id = some o → look' id = some o) {op : Op} (h : sopB P look ρ op k) : sopB P look' ρ op k := by
  unfold sopB at h ⊢
  split at h
  · exact h
  · exact h
  · exact h
  · exact sop_mono hl h
end
mutual
theorem purge_lo_id {m id : Nat} (hid : m ≤ id) : ∀ {s : Sym}, Sym.lo m s → purge id s = s
  | .bp i o, h => by simp only [Sym.lo] at h; simp only [purge]; rw [if_neg (by omega)]
  | .ar i, h => by simp only [Sym.lo] at h; simp only [purge]; rw [if_neg (by omega)]
  | .ap i _ _ _, h => by simp only [Sym.lo] at h; simp only [purge]; rw [if_neg (by omega)]
  | .as i _ _ _, h => by simp only [Sym.lo] at h; simp only [purge]; rw [if_neg (by omega)]
  | .av i _ _ _, h => by simp only [Sym.lo] at h; simp only [purge]; rw [if_neg (by omega)]
  | .yd i, h => by simp only [Sym.lo] at h; simp only [purge]; rw [if_neg (by omega)]
  | .mp i, h => by simp only [Sym.lo] at h; simp only [purge]; rw [if_neg (by omega)]
  | .tup l, h => by simp only [Sym.lo] at h; simp only [purge]; rw [purges_lo_id hid h]
  | .agg l, h => by simp only [Sym.lo] at h; simp only [purge]; rw [purges_lo_id hid h]
  | .fn f l, h => by simp only [Sym.lo] at h; simp only [purge]; rw [purges_lo_id hid h]
  | .d _, _ => by simp only [purge]
  | .nils, _ => by simp only [purge]
  | .junk, _ => by simp only [purge]
theorem purges_lo_id {m id : Nat} (hid : m ≤ id) : ∀ {l : List Sym}, Sym.los m l → purges id l = l
  | [], _ => by simp only [purges]
  | s :: r, h => by simp only [Sym.los] at h; simp only [purges]; rw [purge_lo_id hid h.1, purges_lo_id hid h.2]
end
theorem purgeObj_lo_id {m id : Nat} (hid : m ≤ id) {o : Obj'} (h : o.lo m) : purgeObj id o = o := by
  cases o with
  | box T cells => simp only [Obj'.lo] at h; simp only [purgeObj]; rw [purges_lo_id hid h]
  | arr T sz rows => rfl
  | map T rows => rfl
  | raw k cells => simp only [Obj'.lo] at h; simp only [purgeObj]; rw [purges_lo_id hid h]
theorem alook_renew {id : Nat} {ob : Obj'} : ∀ (l : List (Nat × Obj')) (i : Nat), alook (renewOwn id ob l) i = (alook l i).map (fun o => if i = id then ob else purgeObj id o)
  | [], i => rfl
  | (k, o) :: r, i => by
    simp only [renewOwn]
    by_cases hk : k = i
    · subst hk
      by_cases e : k = id
      · subst e; simp [alook]
      · simp [alook, e]
    · by_cases e : k = id
      · rw [if_pos e]; simp only [alook]; rw [if_neg hk, if_neg hk]; exact alook_renew r i
      · rw [if_neg e]; simp only [alook]; rw [if_neg hk, if_neg hk]; exact alook_renew r i
theorem alook_aset {α : Type} {id : Nat} {v : α} : ∀ (l : List (Nat × α)) (i : Nat), alook (aset id v l) i = if i = id then some v else alook l i
  | [], i => by
    simp only [aset, alook]
    by_cases e : id = i
    · subst e; simp
    · rw [if_neg e, if_neg (fun h => e h.symm)]
  | (k, u) :: r, i => by
    simp only [aset]
    by_cases e : k = id
    · rw [if_pos e]; simp only [alook]
      by_cases h : k = i
      · subst h; subst e; simp
      · rw [if_neg h, if_neg h, if_neg (fun e' => h (by omega))]
    · rw [if_neg e]; simp only [alook]
      by_cases h : k = i
      · rw [if_pos h, if_pos h, if_neg (by omega)]
      · rw [if_neg h, if_neg h]; exact alook_aset r i
theorem alook_purgeSlots (id : Nat) : ∀ (l : List (Nat × Sym)) (t : Nat), alook (purgeSlots id l) t = (alook l t).map (purge id)
  | [], t => rfl
  | (k, v) :: r, t => by simp only [purgeSlots, alook]; split; rfl; exact alook_purgeSlots id r t
end Go.V
namespace Go.V
variable [Dr] [Ov]
open Go.RowKit
inductive FK where
  | val (s : Sym)
  | mk (ob : Obj')
  | app (j : Nat) (src : Option Nat) (ob : Obj')
  | sto (j : Nat) (ob : Obj')
  | bst (id : Nat) (ob : Obj')
def FK.sym : FK → Sym
  | .val s => s
  | _ => .junk
def FK.made : FK → Option Obj'
  | .mk ob => some ob
  | .app _ _ ob => some ob
  | _ => none
def ref : Obj' → Nat → Sym
  | .box _ _, id => .bp id 0
  | .arr _ _ _, id => .ar id
  | .map _ _, id => .mp id
  | .raw _ _, id => .bp id 0
def waitsB (all : List Oper) : Nat → Nat → Nat → Bool
  | 0, _, _ => false
  | f + 1, m, i => match all[m]? with
    | some y => bound y i || (y.after.toList.any fun e => Region.binds .any e && waitsB all f e.on i)
    | none => false
structure Seg where
  all : List Oper
  lo : Nat
  hi : Nat
  ks : List FK
  st0 : St
  own0 : Nat → List (Nat × Obj')
namespace Seg
def kd (S : Seg) (i : Nat) : Option FK := if S.lo ≤ i ∧ i < S.hi then S.ks[i - S.lo]? else none
def co (S : Seg) (i t : Nat) (ob : Obj') : Prop := ∃ o k, S.all[i]? = some o ∧ S.kd i = some k ∧ o.dst = some t ∧ k.made = some ob
def U (S : Seg) (t : Nat) : Prop := ∃ i ob, S.co i t ob
def user (S : Seg) (t m : Nat) : Prop := ∃ o k, S.all[m]? = some o ∧ S.kd m = some k ∧ t ∈ tmpsOf S.all o
def sti (S : Seg) (i : Nat) : St := puts ((S.all.drop S.lo).take (i - S.lo)) ((S.ks.map FK.sym).take (i - S.lo)) { S.st0 with own := S.own0 i }
def Dep (S : Seg) (i m : Nat) : Prop := ∃ f, waitsB S.all f m i = true
def Live (S : Seg) (L : Nat → Prop) (t : Nat) (ob : Obj') : Prop :=
  (∃ i, S.co i t ob ∧ L i ∧ ∀ m, S.user t m → ¬ L m) ∨ (∃ i ob0 m, S.co i t ob0 ∧ L i ∧ L m ∧ S.user t m ∧ S.kd m = some (.sto t ob))
end Seg
def isArr : Obj' → Prop
  | .arr _ _ _ => True
  | _ => False
def isBox : Obj' → Prop
  | .box _ _ => True
  | _ => False
def Knows (S : Seg) (i : Nat) (o : Oper) (st : St) : Prop := st.n = S.st0.n ∧ ∀ x ∈ o.op.operands, (S.sti i).val x ≠ .junk → st.val x = (S.sti i).val x
def StepOk (P : Program) (S : Seg) (i : Nat) (o : Oper) : FK → Prop
  | .val s => (∀ t ∈ tmpsOf S.all o, ¬ S.U t) ∧ DStep P S.all o (S.sti i) s ∧ Sym.lo S.st0.next s
  | .mk ob => o.guard = none ∧ (∃ t, o.dst = some t) ∧ (∀ t ∈ tmpsOf S.all o, ¬ S.U t) ∧ ob.lo S.st0.next ∧
      ∀ (st : St) (K : St → Prop), Knows S i o st → K ((st.new ob).put o.dst (ref ob st.next)) → dop P o st K
  | .app j src ob => o.guard = none ∧ (∃ t, o.dst = some t) ∧ (∀ t ∈ tmpsOf S.all o, S.U t → t = j ∨ src = some t) ∧ j ∈ tmpsOf S.all o ∧ (∀ k, src = some k → k ≠ j ∧ k ∈ tmpsOf S.all o) ∧ ob.lo S.st0.next ∧ isArr ob ∧
      ∃ oj ok, (∃ c, S.co c j oj) ∧ isArr oj ∧ (∀ k, src = some k → (∃ c, S.co c k ok) ∧ isArr ok) ∧
      ∀ (st : St) (K : St → Prop) (id : Nat), Knows S i o st → st.val (.tmp j) = .ar id → st.look id = some oj → (∀ k, src = some k → ∃ id', id' ≠ id ∧ st.val (.tmp k) = .ar id' ∧ st.look id' = some ok) →
        K ((st.renew id ob).put o.dst (.ar id)) → dop P o st K
  | .sto j ob => o.guard = none ∧ o.dst = none ∧ (∀ t ∈ tmpsOf S.all o, S.U t → t = j) ∧ j ∈ tmpsOf S.all o ∧ ob.lo S.st0.next ∧ isBox ob ∧ ∃ oj, (∃ c, S.co c j oj) ∧ isBox oj ∧
      ∀ (st : St) (K : St → Prop) (id : Nat), Knows S i o st → st.val (.tmp j) = .bp id 0 → st.look id = some oj → K { st with own := aset id ob st.own } → dop P o st K
  | .bst id ob => o.guard = none ∧ o.dst = none ∧ (∀ t ∈ tmpsOf S.all o, ¬ S.U t) ∧ ob.lo S.st0.next ∧ ∃ o0, alook S.st0.own id = some o0 ∧
      ∀ (st : St) (K : St → Prop), Knows S i o st → st.look id = some o0 → K { st with own := aset id ob st.own } → dop P o st K
structure SegOk (P : Program) (S : Seg) : Prop where
  ok : drawOk S.all = true
  len : S.lo ≤ S.hi ∧ S.hi ≤ S.all.length ∧ S.ks.length = S.hi - S.lo
  uniq : ∀ t m m', S.U t → S.user t m → S.user t m' → m = m'
  after : ∀ i t ob m, S.co i t ob → S.user t m → i < m
  bstu : ∀ i j id ob ob', S.kd i = some (.bst id ob) → S.kd j = some (.bst id ob') → i = j
  own0 : ∀ i id o, alook (S.own0 i) id = some o → alook S.st0.own id = some o ∧ ∀ m ob, S.kd m = some (.bst id ob) → S.Dep i m
  step : ∀ i o k, S.all[i]? = some o → S.kd i = some k → dstB o.dst S.st0.n = true ∧ StepOk P S i o k
structure StLo (st : St) : Prop where
  own : ∀ id o, alook st.own id = some o → id < st.next ∧ o.lo st.next
  slots : ∀ t s, alook st.slots t = some s → Sym.lo st.next s
def Hold (S : Seg) (st : St) (ν : Nat → Nat) (t : Nat) (ob : Obj') : Prop := S.st0.next ≤ ν t ∧ ν t < st.next ∧ alook st.slots t = some (ref ob (ν t)) ∧ alook st.own (ν t) = some ob
structure Desc (S : Seg) (L : Nat → Prop) (st : St) (ν : Nat → Nat) : Prop where
  n : st.n = S.st0.n
  base : st.base = S.st0.base
  next : S.st0.next ≤ st.next
  moved : ∀ id, id < S.st0.next → id ∈ st.moved → id ∈ S.st0.moved
  own : ∀ id o, alook S.st0.own id = some o → (∀ i ob, S.kd i = some (.bst id ob) → ¬ L i) → alook st.own id = some o
  bst : ∀ id i ob, S.kd i = some (.bst id ob) → L i → alook st.own id = some ob
  vals : ∀ i o t s, S.all[i]? = some o → L i → S.kd i = some (.val s) → o.dst = some t → alook st.slots t = some s
  rest : ∀ t s, alook S.st0.slots t = some s → (∀ i o k, S.all[i]? = some o → L i → S.kd i = some k → o.dst ≠ some t) → alook st.slots t = some s
  live : ∀ t ob, S.Live L t ob → Hold S st ν t ob
  inj : ∀ t t' ob ob', S.Live L t ob → S.Live L t' ob' → ν t = ν t' → t = t'
def lst (Lb : Array Bool) (i : Nat) : Prop := Lb.getD i true = true
theorem lst_set {Lb : Array Bool} {i j : Nat} (hi : i < Lb.size) : lst (Lb.setIfInBounds i true) j ↔ j = i ∨ lst Lb j := by
  unfold lst
  by_cases e : j = i
  · subst e; simp [Array.getD, hi]
  · by_cases hlt : j < Lb.size
    · simp [Array.getD, hlt, Array.getElem_setIfInBounds, Ne.symm e, e]
    · simp [Array.getD, hlt, e]
theorem lst_false {Lb : Array Bool} {i : Nat} (h : Lb.getD i false = true) : lst Lb i := by
  unfold lst
  by_cases hlt : i < Lb.size
  · simp [Array.getD, hlt] at h ⊢; exact h
  · simp [Array.getD, hlt] at h
theorem Seg.kd_lt {S : Seg} {i : Nat} {k : FK} (h : S.kd i = some k) : S.lo ≤ i ∧ i < S.hi := by
  unfold Seg.kd at h
  split at h
  · assumption
  · cases h
theorem Seg.sti_look {S : Seg} (hl : S.lo ≤ S.hi ∧ S.hi ≤ S.all.length ∧ S.ks.length = S.hi - S.lo) {i t : Nat} {s : Sym} (hi : S.lo ≤ i ∧ i ≤ S.hi) (h : alook (S.sti i).slots t = some s) :
    (∃ j o k, S.all[j]? = some o ∧ S.kd j = some k ∧ j < i ∧ k.sym = s ∧ o.dst = some t) ∨ ((∀ j o, S.all[j]? = some o → S.lo ≤ j → j < i → o.dst ≠ some t) ∧ alook S.st0.slots t = some s) := by
  unfold Seg.sti at h
  have hlen : ((S.all.drop S.lo).take (i - S.lo)).length = ((S.ks.map FK.sym).take (i - S.lo)).length := by simp; omega
  rcases puts_look (st := { S.st0 with own := S.own0 i }) (t := t) hlen with ⟨j, o, s', h1, h2, h3, h4⟩ | ⟨h1, h2⟩
  · rw [h4] at h; cases h
    have hj : j < i - S.lo := by
      rcases Nat.lt_or_ge j (i - S.lo) with h | h
      · exact h
      · rw [List.getElem?_take, if_neg (by omega)] at h1; cases h1
    rw [List.getElem?_take, if_pos hj, List.getElem?_drop] at h1
    rw [List.getElem?_take, if_pos hj, List.getElem?_map] at h2
    cases hk : S.ks[j]? with
    | none => rw [hk] at h2; cases h2
    | some k =>
      rw [hk] at h2; simp at h2
      refine .inl ⟨S.lo + j, o, k, h1, ?_, by omega, h2, h3⟩
      unfold Seg.kd
      rw [if_pos (by omega)]
      have : S.lo + j - S.lo = j := by omega
      rw [this]; exact hk
  · rw [h2] at h
    refine .inr ⟨fun j o hj hl1 hl2 => h1 (j - S.lo) o ?_, h⟩
    rw [List.getElem?_take, if_pos (by omega), List.getElem?_drop]
    have : S.lo + (j - S.lo) = j := by omega
    rw [this]; exact hj
theorem ref_lo {ob : Obj'} {id m : Nat} (h : id < m) : Sym.lo m (ref ob id) := by cases ob <;> simpa [ref, Sym.lo] using h
theorem purge_ref {ob : Obj'} {id i : Nat} (h : i ≠ id) : purge id (ref ob i) = ref ob i := by cases ob <;> simp [ref, purge, h]
section
variable {P : Program} {X : Nat → Prop} {w0 : Base} {st : St} {β : Nat → Value} {a : Act} {w w' : World} {S : Seg} {ν : Nat → Nat} {Lb : Array Bool} {i : Nat} {o : Oper} {k : FK}
structure Here (P : Program) (S : Seg) (Lb : Array Bool) (i : Nat) (o : Oper) (k : FK) : Prop where
  sok : SegOk P S
  slo : StLo S.st0
  size : Lb.size = S.all.length
  down : ∀ j y, S.all[j]? = some y → lst Lb j → ∀ e ∈ y.after.toList, Region.binds .any e = true → Lb.getD e.on false = true
  at_ : S.all[i]? = some o
  kind : S.kd i = some k
  not_ : ¬ lst Lb i
  ready : ∀ e ∈ o.after.toList, Region.binds .any e = true → Lb.getD e.on false = true
theorem Here.lt (h : Here P S Lb i o k) : i < Lb.size := by rw [h.size]; exact (List.getElem?_eq_some_iff.1 h.at_).1
theorem Here.before (h : Here P S Lb i o k) {j t : Nat} {y : Oper} (hj : S.all[j]? = some y) (hji : j < i) (hd : y.dst = some t) (ht : t ∈ tmpsOf S.all o) : lst Lb j := by
  obtain ⟨e, he, hb, hon⟩ := bound_mem (((drawOk_pair h.sok.ok hj h.at_ hji).1 t hd).1 ht)
  have := h.ready e he hb
  rw [hon] at this; exact lst_false this
theorem Here.later (h : Here P S Lb i o k) {j t : Nat} {y : Oper} (hj : S.all[j]? = some y) (hji : i < j) (hd : y.dst = some t) (ht : t ∈ tmpsOf S.all o) : ¬ lst Lb j := by
  intro hl
  obtain ⟨e, he, hb, hon⟩ := bound_mem ((drawOk_pair h.sok.ok h.at_ hj hji).2 t hd ht)
  have := h.down j y hj hl e he hb
  rw [hon] at this; exact h.not_ (lst_false this)
theorem Here.readers (h : Here P S Lb i o k) {t m : Nat} {ob : Obj'} (hc : S.co i t ob) (hu : S.user t m) : ¬ lst Lb m := by
  intro hl
  have him := h.sok.after i t ob m hc hu
  obtain ⟨o', k', h1, h2, h3, h4⟩ := hc
  rw [h.at_] at h1; cases h1
  obtain ⟨y, k2, hy, _, ht⟩ := hu
  obtain ⟨e, he, hb, hon⟩ := bound_mem (((drawOk_pair h.sok.ok h.at_ hy him).1 t h3).1 ht)
  have := h.down m y hy hl e he hb
  rw [hon] at this; exact h.not_ (lst_false this)
theorem Here.dsts (h : Here P S Lb i o k) {j t : Nat} {y : Oper} (hj : S.all[j]? = some y) (hne : j ≠ i) (hd : o.dst = some t) : y.dst ≠ some t := by
  rcases Nat.lt_or_gt_of_ne hne with h' | h'
  · exact fun e => ((drawOk_pair h.sok.ok hj h.at_ h').1 t e).2 hd
  · exact ((drawOk_pair h.sok.ok h.at_ hj h').1 t hd).2
theorem Here.opnd (h : Here P S Lb i o k) (hD : Desc S (lst Lb) st ν) {t : Nat} (ht : t ∈ tmpsOf S.all o) {s : Sym} (hs : alook (S.sti i).slots t = some s) (hj : s ≠ .junk) : alook st.slots t = some s := by
  rcases S.sti_look h.sok.len ⟨(S.kd_lt h.kind).1, Nat.le_of_lt (S.kd_lt h.kind).2⟩ hs with ⟨j, y, k', h1, h2, h3, h4, h5⟩ | ⟨h1, h2⟩
  · cases k' <;> simp only [FK.sym] at h4 <;> first | exact absurd h4.symm hj | skip
    subst h4
    exact hD.vals j y t _ h1 (h.before h1 h3 h5 ht) h2 h5
  · refine hD.rest t s h2 fun j y k' hj hl hk hd => ?_
    rcases Nat.lt_trichotomy j i with h' | h' | h'
    · exact h1 j y hj (S.kd_lt hk).1 h' hd
    · subst h'; exact h.not_ hl
    · exact h.later hj h' hd ht hl
theorem Here.knows (h : Here P S Lb i o k) (hD : Desc S (lst Lb) st ν) : Knows S i o st := by
  refine ⟨hD.n, fun x hx hne => ?_⟩
  cases x with
  | tmp t =>
    simp only [St.val] at hne ⊢
    cases hs : alook (S.sti i).slots t with
    | none => rw [hs] at hne; simp at hne
    | some s => rw [hs] at hne; simp at hne; rw [h.opnd hD (looks_operand hx) hs hne]
  | _ => rfl
theorem Here.liveC (h : Here P S Lb i o k) {t : Nat} {ob : Obj'} (hl : S.Live (lst (Lb.setIfInBounds i true)) t ob) :
    S.co i t ob ∨ (S.Live (lst Lb) t ob ∧ ¬ S.user t i ∧ ∀ ob', ¬ S.co i t ob') ∨ (S.user t i ∧ S.kd i = some (.sto t ob) ∧ ∃ ob0, S.Live (lst Lb) t ob0) := by
  have hs := fun j => lst_set (Lb := Lb) (i := i) (j := j) h.lt
  rcases hl with ⟨c, h1, h2, h3⟩ | ⟨c, ob0, m, h1, h2, h3, h4, h5⟩
  · rcases (hs c).1 h2 with rfl | h2'
    · exact .inl h1
    · by_cases hci : ∃ ob', S.co i t ob'
      · obtain ⟨ob', hc'⟩ := hci
        exfalso
        obtain ⟨y, k1, e1, e2, e3, e4⟩ := h1
        obtain ⟨y', k2, g1, g2, g3, g4⟩ := hc'
        rw [h.at_] at g1; cases g1
        by_cases hne : c = i
        · exact h.not_ (hne ▸ h2')
        · exact h.dsts e1 hne g3 e3
      · exact .inr (.inl ⟨.inl ⟨c, h1, h2', fun m hu hl => h3 m hu ((hs m).2 (.inr hl))⟩, fun hu => h3 i hu ((hs i).2 (.inl rfl)), fun ob' hc => hci ⟨ob', hc⟩⟩)
  · rcases (hs m).1 h3 with rfl | h3
    · refine .inr (.inr ⟨h4, h5, ?_⟩)
      have hcl : lst Lb c := by
        rcases (hs c).1 h2 with e | h2
        · exact absurd (h.sok.after c t ob0 _ h1 h4) (by omega)
        · exact h2
      exact ⟨ob0, .inl ⟨c, h1, hcl, fun m' hu hl => h.not_ (by rw [h.sok.uniq t _ _ ⟨c, ob0, h1⟩ h4 hu]; exact hl)⟩⟩
    · have hcl : lst Lb c := by
        rcases (hs c).1 h2 with e | h2
        · exact absurd h3 (h.readers (by rw [← e]; exact h1) h4)
        · exact h2
      refine .inr (.inl ⟨.inr ⟨c, ob0, m, h1, hcl, h3, h4, h5⟩, fun hu => h.not_ (by rw [h.sok.uniq t _ _ ⟨c, ob0, h1⟩ hu h4]; exact h3), fun ob' hc => ?_⟩)
      exact absurd h3 (h.readers hc h4)
end
end Go.V
namespace Go.V
variable [Dr] [Ov]
open Go.RowKit
section
variable {P : Program} {X : Nat → Prop} {w0 : Base} {st : St} {β : Nat → Value} {a : Act} {w w' : World} {S : Seg} {ν : Nat → Nat} {Lb : Array Bool} {i : Nat} {o : Oper} {k : FK}
theorem put_look (st : St) (dst : Option Nat) (s : Sym) (u : Nat) : alook (st.put dst s).slots u = if dst = some u then some s else alook st.slots u := by
  cases dst with
  | none => simp [St.put]
  | some t => simp only [St.put, alook, Option.some.injEq]
theorem put_own (st : St) (dst : Option Nat) (s : Sym) : (st.put dst s).own = st.own ∧ (st.put dst s).next = st.next ∧ (st.put dst s).n = st.n ∧ (st.put dst s).base = st.base ∧ (st.put dst s).moved = st.moved := by cases dst <;> exact ⟨rfl, rfl, rfl, rfl, rfl⟩
theorem Seg.Live.co {L : Nat → Prop} {t : Nat} {ob : Obj'} (h : S.Live L t ob) : ∃ c ob0, S.co c t ob0 ∧ L c := by
  rcases h with ⟨c, h1, h2, _⟩ | ⟨c, ob0, m, h1, h2, _⟩
  · exact ⟨c, ob, h1, h2⟩
  · exact ⟨c, ob0, h1, h2⟩
theorem Here.live_dst (h : Here P S Lb i o k) {t : Nat} {ob : Obj'} (hl : S.Live (lst Lb) t ob) : o.dst ≠ some t := by
  obtain ⟨c, ob0, ⟨y, k', h1, h2, h3, h4⟩, hc⟩ := hl.co
  intro hd
  by_cases hne : c = i
  · subst hne; exact h.not_ hc
  · exact h.dsts h1 hne hd h3
theorem Seg.Live.lo (hok : SegOk P S) {L : Nat → Prop} {t : Nat} {ob : Obj'} (h : S.Live L t ob) : ob.lo S.st0.next := by
  rcases h with ⟨c, ⟨y, k', h1, h2, h3, h4⟩, _⟩ | ⟨c, ob0, m, _, _, _, ⟨y, k', h1, h2, h3⟩, h4⟩
  · have := (hok.step c y k' h1 h2).2
    cases k' <;> simp only [FK.made] at h4 <;> cases h4
    · exact this.2.2.2.1
    · exact this.2.2.2.2.2.1
  · rw [h4] at h2; cases h2
    exact (hok.step m y _ h1 h4).2.2.2.2.2.1
theorem Here.co_eq (h : Here P S Lb i o k) {t : Nat} {ob : Obj'} (hc : S.co i t ob) : o.dst = some t ∧ k.made = some ob := by
  obtain ⟨y, k', h1, h2, h3, h4⟩ := hc
  rw [h.at_] at h1; cases h1
  rw [h.kind] at h2; cases h2
  exact ⟨h3, h4⟩
theorem Here.user_ (h : Here P S Lb i o k) {t : Nat} (ht : t ∈ tmpsOf S.all o) : S.user t i := ⟨o, k, h.at_, h.kind, ht⟩
theorem Here.holds (h : Here P S Lb i o k) {j : Nat} {oj : Obj'} (hj : j ∈ tmpsOf S.all o) (hc : ∃ c, S.co c j oj) : S.Live (lst Lb) j oj := by
  obtain ⟨c, hc⟩ := hc
  refine .inl ⟨c, hc, ?_, fun m hu hl => h.not_ (by rw [h.sok.uniq j _ _ ⟨c, oj, hc⟩ (h.user_ hj) hu]; exact hl)⟩
  have hci := h.sok.after c j oj i hc (h.user_ hj)
  obtain ⟨y, k', h1, h2, h3, h4⟩ := hc
  exact h.before h1 hci h3 hj
theorem Desc.val {s : Sym} (h : Here P S Lb i o (.val s)) (hD : Desc S (lst Lb) st ν) (hU : ∀ t ∈ tmpsOf S.all o, ¬ S.U t) : Desc S (lst (Lb.setIfInBounds i true)) (st.put o.dst s) ν := by
  have hs := fun j => lst_set (Lb := Lb) (i := i) (j := j) h.lt
  obtain ⟨e1, e2, e3, e4, e5⟩ := put_own st o.dst s
  have hlive : ∀ t ob, S.Live (lst (Lb.setIfInBounds i true)) t ob → S.Live (lst Lb) t ob := by
    intro t ob hl
    rcases h.liveC hl with hc | ⟨hl, _⟩ | ⟨_, hk, _⟩
    · have := (h.co_eq hc).2; simp [FK.made] at this
    · exact hl
    · rw [h.kind] at hk; cases hk
  refine ⟨e3.trans hD.n, e4.trans hD.base, by rw [e2]; exact hD.next, by rw [e5]; exact hD.moved, ?_, ?_, ?_, ?_, ?_, ?_⟩
  · intro id o' h1 h2; rw [e1]; exact hD.own id o' h1 fun j ob hk hl => h2 j ob hk ((hs j).2 (.inr hl))
  · intro id j ob hk hl
    rw [e1]
    rcases (hs j).1 hl with rfl | hl2
    · rw [h.kind] at hk; cases hk
    · exact hD.bst id j ob hk hl2
  · intro j y t s' hj hl hk hd
    rw [put_look]
    rcases (hs j).1 hl with rfl | hl2
    · rw [h.at_] at hj; cases hj; rw [h.kind] at hk; cases hk
      rw [if_pos hd]
    · rw [if_neg]
      · exact hD.vals j y t s' hj hl2 hk hd
      · intro hd'
        exact h.dsts hj (fun e => h.not_ (e ▸ hl2)) hd' hd
  · intro t s' h1 h2
    rw [put_look, if_neg (fun hd => h2 i o _ h.at_ ((hs i).2 (.inl rfl)) h.kind hd)]
    exact hD.rest t s' h1 fun j y k' hj hl hk => h2 j y k' hj ((hs j).2 (.inr hl)) hk
  · intro t ob hl
    have hl' := hlive t ob hl
    obtain ⟨q1, q2, q3, q4⟩ := hD.live t ob hl'
    exact ⟨q1, by rw [e2]; exact q2, by rw [put_look, if_neg (h.live_dst hl')]; exact q3, by rw [e1]; exact q4⟩
  · exact fun t t' ob ob' h1 h2 => hD.inj t t' ob ob' (hlive t ob h1) (hlive t' ob' h2)
theorem Desc.mk' {ob : Obj'} (h : Here P S Lb i o (.mk ob)) (hD : Desc S (lst Lb) st ν) : Desc S (lst (Lb.setIfInBounds i true)) ((st.new ob).put o.dst (ref ob st.next)) (fun u => if o.dst = some u then st.next else ν u) := by
  have hs := fun j => lst_set (Lb := Lb) (i := i) (j := j) h.lt
  obtain ⟨e1, e2, e3, e4, e5⟩ := put_own (st.new ob) o.dst (ref ob st.next)
  have hlive : ∀ t ob', S.Live (lst (Lb.setIfInBounds i true)) t ob' → (o.dst = some t ∧ ob' = ob) ∨ S.Live (lst Lb) t ob' := by
    intro t ob' hl
    rcases h.liveC hl with hc | ⟨hl, _⟩ | ⟨_, hk, _⟩
    · have := h.co_eq hc; simp [FK.made] at this; exact .inl ⟨this.1, this.2.symm⟩
    · exact .inr hl
    · rw [h.kind] at hk; cases hk
  have hown : ∀ id o', id ≠ st.next → alook st.own id = some o' → alook ((st.new ob).put o.dst (ref ob st.next)).own id = some o' := by
    intro id o' hne ho
    rw [e1]; simp only [St.new, alook]; rw [if_neg (Ne.symm hne)]; exact ho
  refine ⟨e3.trans hD.n, e4.trans hD.base, by rw [e2]; exact Nat.le_succ_of_le hD.next, by rw [e5]; exact hD.moved, ?_, ?_, ?_, ?_, ?_, ?_⟩
  · intro id o' h1 h2
    exact hown id o' (by have := (h.slo.own id o' h1).1; have := hD.next; omega) (hD.own id o' h1 fun j ob hk hl => h2 j ob hk ((hs j).2 (.inr hl)))
  · intro id j ob' hk hl
    rcases (hs j).1 hl with rfl | hl2
    · rw [h.kind] at hk; cases hk
    · have hb := (S.kd_lt hk)
      obtain ⟨y, hy⟩ : ∃ y, S.all[j]? = some y := ⟨_, List.getElem?_eq_getElem (by have := h.sok.len; omega)⟩
      obtain ⟨o0, ho0, _⟩ := ((h.sok.step j y _ hy hk).2).2.2.2.2
      exact hown id ob' (by have := (h.slo.own id o0 ho0).1; have := hD.next; omega) (hD.bst id j ob' hk hl2)
  · intro j y t s' hj hl hk hd
    rw [put_look]
    rcases (hs j).1 hl with rfl | hl2
    · rw [h.kind] at hk; cases hk
    · rw [if_neg]
      · exact hD.vals j y t s' hj hl2 hk hd
      · intro hd'
        exact h.dsts hj (fun e => h.not_ (e ▸ hl2)) hd' hd
  · intro t s' h1 h2
    rw [put_look, if_neg (fun hd => h2 i o _ h.at_ ((hs i).2 (.inl rfl)) h.kind hd)]
    exact hD.rest t s' h1 fun j y k' hj hl hk => h2 j y k' hj ((hs j).2 (.inr hl)) hk
  · intro t ob' hl
    rcases hlive t ob' hl with ⟨hd, rfl⟩ | hl'
    · refine ⟨by simp only [if_pos hd]; exact hD.next, by simp only [if_pos hd]; rw [e2]; exact Nat.lt_succ_self _, ?_, ?_⟩
      · rw [put_look, if_pos hd]; simp only [if_pos hd]
      · simp only [if_pos hd]; rw [e1]; simp [St.new, alook]
    · have hnd := h.live_dst hl'
      obtain ⟨q1, q2, q3, q4⟩ := hD.live t ob' hl'
      refine ⟨by simp only [if_neg hnd]; exact q1, by simp only [if_neg hnd]; rw [e2]; exact Nat.lt_succ_of_lt q2, ?_, ?_⟩
      · rw [put_look, if_neg hnd]; simp only [if_neg hnd]; exact q3
      · simp only [if_neg hnd]; exact hown _ _ (by omega) q4
  · intro t t' o1 o2 h1 h2 he
    rcases hlive t o1 h1 with ⟨hd, rfl⟩ | hl <;> rcases hlive t' o2 h2 with ⟨hd', rfl⟩ | hl'
    · rw [hd] at hd'; cases hd'; rfl
    · have hnd := h.live_dst hl'
      simp only [if_pos hd, if_neg hnd] at he
      have := (hD.live t' o2 hl').2.1; omega
    · have hnd := h.live_dst hl
      simp only [if_pos hd', if_neg hnd] at he
      have := (hD.live t o1 hl).2.1; omega
    · simp only [if_neg (h.live_dst hl), if_neg (h.live_dst hl')] at he
      exact hD.inj t t' o1 o2 hl hl' he
theorem Desc.app {j : Nat} {src : Option Nat} {ob oj : Obj'} (h : Here P S Lb i o (.app j src ob)) (hD : Desc S (lst Lb) st ν) (hj : j ∈ tmpsOf S.all o) (hc : ∃ c, S.co c j oj) (har : isArr ob) :
    Desc S (lst (Lb.setIfInBounds i true)) ((st.renew (ν j) ob).put o.dst (.ar (ν j))) (fun u => if o.dst = some u then ν j else ν u) := by
  have hs := fun j => lst_set (Lb := Lb) (i := i) (j := j) h.lt
  have hlj := h.holds hj hc
  obtain ⟨p1, p2, p3, p4⟩ := hD.live j oj hlj
  obtain ⟨e1, e2, e3, e4, e5⟩ := put_own (st.renew (ν j) ob) o.dst (.ar (ν j))
  have hlive : ∀ t ob', S.Live (lst (Lb.setIfInBounds i true)) t ob' → (o.dst = some t ∧ ob' = ob) ∨ (S.Live (lst Lb) t ob' ∧ t ≠ j) := by
    intro t ob' hl
    rcases h.liveC hl with hc | ⟨hl, hu, _⟩ | ⟨_, hk, _⟩
    · have := h.co_eq hc; simp [FK.made] at this; exact .inl ⟨this.1, this.2.symm⟩
    · exact .inr ⟨hl, fun e => hu (e ▸ h.user_ hj)⟩
    · rw [h.kind] at hk; cases hk
  have hown : ∀ id o', id ≠ ν j → o'.lo S.st0.next → alook st.own id = some o' → alook ((st.renew (ν j) ob).put o.dst (.ar (ν j))).own id = some o' := by
    intro id o' hne hlo ho
    rw [e1]; simp only [St.renew]; rw [alook_renew, ho]; simp only [Option.map_some]; rw [if_neg hne, purgeObj_lo_id p1 hlo]
  have hslot : ∀ t s, o.dst ≠ some t → Sym.lo S.st0.next s → alook st.slots t = some s → alook ((st.renew (ν j) ob).put o.dst (.ar (ν j))).slots t = some s := by
    intro t s hd hlo hs
    rw [put_look, if_neg hd]; simp only [St.renew]; rw [alook_purgeSlots, hs]; simp only [Option.map_some]; rw [purge_lo_id p1 hlo]
  refine ⟨e3.trans hD.n, e4.trans hD.base, by rw [e2]; exact hD.next, ?_, ?_, ?_, ?_, ?_, ?_, ?_⟩
  · intro id hid hm
    rw [e5] at hm
    simp only [St.renew] at hm
    rcases List.mem_cons.1 hm with e | hm
    · omega
    · exact hD.moved id hid hm
  · intro id o' h1 h2
    have hlo := h.slo.own id o' h1
    exact hown id o' (by omega) hlo.2 (hD.own id o' h1 fun j ob hk hl => h2 j ob hk ((hs j).2 (.inr hl)))
  · intro id j' ob' hk hl
    rcases (hs j').1 hl with rfl | hl2
    · rw [h.kind] at hk; cases hk
    · have hb := (S.kd_lt hk)
      obtain ⟨y, hy⟩ : ∃ y, S.all[j']? = some y := ⟨_, List.getElem?_eq_getElem (by have := h.sok.len; omega)⟩
      obtain ⟨_, _, _, hlo', o0, ho0, _⟩ := (h.sok.step j' y _ hy hk).2
      exact hown id ob' (by have := (h.slo.own id o0 ho0).1; omega) hlo' (hD.bst id j' ob' hk hl2)
  · intro j' y t s' hj' hl hk hd
    rcases (hs j').1 hl with rfl | hl2
    · rw [h.kind] at hk; cases hk
    · have hlo := ((h.sok.step j' y _ hj' hk).2).2.2
      exact hslot t s' (fun hd' => h.dsts hj' (fun e => h.not_ (e ▸ hl2)) hd' hd) hlo (hD.vals j' y t s' hj' hl2 hk hd)
  · intro t s' h1 h2
    exact hslot t s' (fun hd => h2 i o _ h.at_ ((hs i).2 (.inl rfl)) h.kind hd) (h.slo.slots t s' h1) (hD.rest t s' h1 fun j y k' hj hl hk => h2 j y k' hj ((hs j).2 (.inr hl)) hk)
  · intro t ob' hl
    rcases hlive t ob' hl with ⟨hd, rfl⟩ | ⟨hl', hne⟩
    · refine ⟨by simp only [if_pos hd]; exact p1, by simp only [if_pos hd]; rw [e2]; exact p2, ?_, ?_⟩
      · rw [put_look, if_pos hd]; simp only [if_pos hd]
        cases ob' <;> simp only [isArr] at har <;> rfl
      · simp only [if_pos hd]; rw [e1]; simp only [St.renew]; rw [alook_renew, p4]; simp
    · have hnd := h.live_dst hl'
      obtain ⟨q1, q2, q3, q4⟩ := hD.live t ob' hl'
      have hνne : ν t ≠ ν j := fun e => hne (hD.inj t j ob' oj hl' hlj e)
      refine ⟨by simp only [if_neg hnd]; exact q1, by simp only [if_neg hnd]; rw [e2]; exact q2, ?_, ?_⟩
      · rw [put_look, if_neg hnd]; simp only [if_neg hnd, St.renew]; rw [alook_purgeSlots, q3]; simp only [Option.map_some]; rw [purge_ref hνne]
      · simp only [if_neg hnd]; exact hown _ _ hνne (hl'.lo h.sok) q4
  · intro t t' o1 o2 h1 h2 he
    rcases hlive t o1 h1 with ⟨hd, rfl⟩ | ⟨hl, hne⟩ <;> rcases hlive t' o2 h2 with ⟨hd', rfl⟩ | ⟨hl', hne'⟩
    · rw [hd] at hd'; cases hd'; rfl
    · simp only [if_pos hd, if_neg (h.live_dst hl')] at he
      exact absurd (hD.inj t' j o2 oj hl' hlj he.symm) hne'
    · simp only [if_pos hd', if_neg (h.live_dst hl)] at he
      exact absurd (hD.inj t j o1 oj hl hlj he) hne
    · simp only [if_neg (h.live_dst hl), if_neg (h.live_dst hl')] at he
      exact hD.inj t t' o1 o2 hl hl' he
theorem Desc.sto {j : Nat} {ob oj : Obj'} (h : Here P S Lb i o (.sto j ob)) (hD : Desc S (lst Lb) st ν) (hd0 : o.dst = none) (hj : j ∈ tmpsOf S.all o) (hc : ∃ c, S.co c j oj) (hb : isBox ob) (hbj : isBox oj) :
    Desc S (lst (Lb.setIfInBounds i true)) { st with own := aset (ν j) ob st.own } ν := by
  have hs := fun j => lst_set (Lb := Lb) (i := i) (j := j) h.lt
  have hlj := h.holds hj hc
  obtain ⟨p1, p2, p3, p4⟩ := hD.live j oj hlj
  have hlive : ∀ t ob', S.Live (lst (Lb.setIfInBounds i true)) t ob' → (t = j ∧ ob' = ob) ∨ (S.Live (lst Lb) t ob' ∧ t ≠ j) := by
    intro t ob' hl
    rcases h.liveC hl with hc | ⟨hl, hu, _⟩ | ⟨_, hk, _⟩
    · have := h.co_eq hc; simp [FK.made] at this
    · exact .inr ⟨hl, fun e => hu (e ▸ h.user_ hj)⟩
    · rw [h.kind] at hk; cases hk; exact .inl ⟨rfl, rfl⟩
  have hown : ∀ id o', id ≠ ν j → alook st.own id = some o' → alook (aset (ν j) ob st.own) id = some o' := by
    intro id o' hne ho; rw [alook_aset, if_neg hne]; exact ho
  refine ⟨hD.n, hD.base, hD.next, hD.moved, ?_, ?_, ?_, ?_, ?_, ?_⟩
  · intro id o' h1 h2
    have hlo := h.slo.own id o' h1
    exact hown id o' (by omega) (hD.own id o' h1 fun j ob hk hl => h2 j ob hk ((hs j).2 (.inr hl)))
  · intro id j' ob' hk hl
    rcases (hs j').1 hl with rfl | hl2
    · rw [h.kind] at hk; cases hk
    · have hb := (S.kd_lt hk)
      obtain ⟨y, hy⟩ : ∃ y, S.all[j']? = some y := ⟨_, List.getElem?_eq_getElem (by have := h.sok.len; omega)⟩
      obtain ⟨_, _, _, hlo', o0, ho0, _⟩ := (h.sok.step j' y _ hy hk).2
      exact hown id ob' (by have := (h.slo.own id o0 ho0).1; omega) (hD.bst id j' ob' hk hl2)
  · intro j' y t s' hj' hl hk hd
    rcases (hs j').1 hl with rfl | hl2
    · rw [h.kind] at hk; cases hk
    · exact hD.vals j' y t s' hj' hl2 hk hd
  · intro t s' h1 h2
    exact hD.rest t s' h1 fun j y k' hj hl hk => h2 j y k' hj ((hs j).2 (.inr hl)) hk
  · intro t ob' hl
    rcases hlive t ob' hl with ⟨rfl, rfl⟩ | ⟨hl', hne⟩
    · refine ⟨p1, p2, ?_, by show alook (aset _ _ _) _ = _; rw [alook_aset, if_pos rfl]⟩
      show alook st.slots _ = _
      rw [p3]
      cases oj <;> simp only [isBox] at hbj
      cases ob' <;> simp only [isBox] at hb
      rfl
    · obtain ⟨q1, q2, q3, q4⟩ := hD.live t ob' hl'
      have hνne : ν t ≠ ν j := fun e => hne (hD.inj t j ob' oj hl' hlj e)
      exact ⟨q1, q2, q3, hown _ _ hνne q4⟩
  · intro t t' o1 o2 h1 h2 he
    have e1 : ∃ o, S.Live (lst Lb) t o := by
      rcases hlive t o1 h1 with ⟨rfl, _⟩ | ⟨hl, _⟩
      · exact ⟨oj, hlj⟩
      · exact ⟨o1, hl⟩
    have e2 : ∃ o, S.Live (lst Lb) t' o := by
      rcases hlive t' o2 h2 with ⟨rfl, _⟩ | ⟨hl, _⟩
      · exact ⟨oj, hlj⟩
      · exact ⟨o2, hl⟩
    obtain ⟨_, e1⟩ := e1
    obtain ⟨_, e2⟩ := e2
    exact hD.inj t t' _ _ e1 e2 he
theorem Desc.bst' {id : Nat} {ob o0 : Obj'} (h : Here P S Lb i o (.bst id ob)) (hD : Desc S (lst Lb) st ν) (hd0 : o.dst = none) (ho0 : alook S.st0.own id = some o0) :
    Desc S (lst (Lb.setIfInBounds i true)) { st with own := aset id ob st.own } ν := by
  have hs := fun j => lst_set (Lb := Lb) (i := i) (j := j) h.lt
  have hid := (h.slo.own id o0 ho0).1
  have hlive : ∀ t ob', S.Live (lst (Lb.setIfInBounds i true)) t ob' → S.Live (lst Lb) t ob' := by
    intro t ob' hl
    rcases h.liveC hl with hc | ⟨hl, hu, _⟩ | ⟨_, hk, _⟩
    · have := h.co_eq hc; simp [FK.made] at this
    · exact hl
    · rw [h.kind] at hk; cases hk
  refine ⟨hD.n, hD.base, hD.next, hD.moved, ?_, ?_, ?_, ?_, ?_, ?_⟩
  · intro id' o' h1 h2
    show alook (aset id ob st.own) id' = some o'
    rw [alook_aset, if_neg (fun e => h2 i ob (by rw [e]; exact h.kind) ((hs i).2 (.inl rfl)))]
    exact hD.own id' o' h1 fun j ob hk hl => h2 j ob hk ((hs j).2 (.inr hl))
  · intro id' j' ob' hk hl
    show alook (aset id ob st.own) id' = some ob'
    rcases (hs j').1 hl with rfl | hl2
    · rw [h.kind] at hk; cases hk; rw [alook_aset, if_pos rfl]
    · rw [alook_aset, if_neg (fun e => by subst e; exact h.not_ (by rw [h.sok.bstu i j' _ ob ob' h.kind hk]; exact hl2))]
      exact hD.bst id' j' ob' hk hl2
  · intro j' y t s' hj' hl hk hd
    rcases (hs j').1 hl with rfl | hl2
    · rw [h.kind] at hk; cases hk
    · exact hD.vals j' y t s' hj' hl2 hk hd
  · intro t s' h1 h2
    exact hD.rest t s' h1 fun j y k' hj hl hk => h2 j y k' hj ((hs j).2 (.inr hl)) hk
  · intro t ob' hl
    obtain ⟨q1, q2, q3, q4⟩ := hD.live t ob' (hlive t ob' hl)
    exact ⟨q1, q2, q3, by show alook (aset id ob st.own) _ = _; rw [alook_aset, if_neg (by omega)]; exact q4⟩
  · exact fun t t' o1 o2 h1 h2 he => hD.inj t t' o1 o2 (hlive t o1 h1) (hlive t' o2 h2) he
end
end Go.V
namespace Go.V
variable [Dr] [Ov]
open Go.RowKit
section
variable {P : Program} {X : Nat → Prop} {w0 : Base} {st : St} {β : Nat → Value} {a : Act} {w w' : World} {S : Seg} {ν : Nat → Nat} {Lb : Array Bool} {i : Nat} {o : Oper} {k : FK}
theorem slot_bool (hm : Mods X w0 st β a w) {t : Nat} {b : Bool} (h : alook st.slots t = some (.d (.bool b))) : a.tmps[t]? = some (.bool b) := by
  obtain ⟨_, hs⟩ := hm.slots t _ h
  simp only [Sm, R] at hs
  by_cases hlt : t < a.tmps.size
  · rw [Array.getElem?_eq_getElem hlt]
    simp [hlt] at hs
    rw [hs]
  · rw [show a.tmps.getD t undef = undef by simp [hlt]] at hs; simp [undef] at hs
theorem yielded_bool {ops : Array Oper} {tmps : Array Value} {j t : Nat} {b : Bool} (h : (ops[j]?).bind (·.dst) = some t) (hu : tmps[t]? = some (.bool b)) : yielded ops tmps j = some b := by
  unfold yielded
  rw [h]
  simp [hu]
theorem bool_ne {b c : Bool} (h : ¬ b = c) : b = !c := by cases b <;> cases c <;> simp_all
theorem waits_down {all : List Oper} (hd : ∀ j y, all[j]? = some y → lst Lb j → ∀ e ∈ y.after.toList, Region.binds .any e = true → Lb.getD e.on false = true) : ∀ (f : Nat) {m i : Nat}, lst Lb m → waitsB all f m i = true → lst Lb i
  | 0, m, i, _, h => by cases h
  | f + 1, m, i, hl, h => by
    simp only [waitsB] at h
    split at h
    · rename_i y hy
      rw [Bool.or_eq_true] at h
      rcases h with h | h
      · unfold bound at h
        obtain ⟨e, he, hb⟩ := List.any_eq_true.1 h
        rw [Bool.and_eq_true, beq_iff_eq] at hb
        have := hd m y hy hl e he hb.1
        rw [hb.2] at this
        exact lst_false this
      · obtain ⟨e, he, hb⟩ := List.any_eq_true.1 h
        rw [Bool.and_eq_true] at hb
        exact waits_down hd f (lst_false (hd m y hy hl e he hb.1)) hb.2
    · cases h
theorem seg_step (h : Here P S Lb i o k) (hm : Mods X w0 st β a w) (hD : Desc S (lst Lb) st ν) {N : Act → World → Prop} {Q : Exit → Act → World → Prop}
    (hN : ∀ a' w' st' β' ν', Mods X w0 st' β' a' w' → Desc S (lst (Lb.setIfInBounds i true)) st' ν' → N a' w') : wpOp P S.all.toArray Q i N a w := by
  obtain ⟨hdb, hstep⟩ := h.sok.step i o k h.at_ h.kind
  have hia : S.all.toArray[i]? = some o := by simpa using h.at_
  unfold wpOp
  rw [hia]
  simp only
  have hdt : ∀ t, o.dst = some t → t < st.n := by rw [hD.n]; exact dstB_lt hdb
  cases k with
  | mk ob =>
    obtain ⟨hg, _, _, _, hdop⟩ := hstep
    simp only [Region.wanted, hg, if_true]
    exact .inl (dop_sound hm (K := fun st' => st' = (st.new ob).put o.dst (ref ob st.next)) (hdop st _ (h.knows hD) rfl) N Q fun a' w' st' β' e hm' => by subst e; exact hN _ _ _ _ _ hm' (hD.mk' h))
  | app j src ob =>
    obtain ⟨hg, _, hU, hj, hsrc, _, har, oj, ok, hcj, harj, hok, hdop⟩ := hstep
    simp only [Region.wanted, hg, if_true]
    obtain ⟨p1, p2, p3, p4⟩ := hD.live j oj (h.holds hj hcj)
    refine .inl (dop_sound hm (K := fun st' => st' = (st.renew (ν j) ob).put o.dst (.ar (ν j))) (hdop st _ (ν j) (h.knows hD) ?_ p4 ?_ rfl) N Q fun a' w' st' β' e hm' => by subst e; exact hN _ _ _ _ _ hm' (hD.app h hj hcj har))
    · simp only [St.val, p3, Option.getD_some]
      cases oj <;> simp only [isArr] at harj; rfl
    · intro k hk
      obtain ⟨hne, hkt⟩ := hsrc k hk
      obtain ⟨hck, hark⟩ := hok k hk
      have hlk := h.holds hkt hck
      obtain ⟨q1, q2, q3, q4⟩ := hD.live k ok hlk
      refine ⟨ν k, fun e => hne (hD.inj k j ok oj hlk (h.holds hj hcj) e), ?_, q4⟩
      simp only [St.val, q3, Option.getD_some]
      cases ok <;> simp only [isArr] at hark; rfl
  | sto j ob =>
    obtain ⟨hg, hd0, hU, hj, _, hb, oj, hcj, hbj, hdop⟩ := hstep
    simp only [Region.wanted, hg, if_true]
    obtain ⟨p1, p2, p3, p4⟩ := hD.live j oj (h.holds hj hcj)
    refine .inl (dop_sound hm (K := fun st' => st' = { st with own := aset (ν j) ob st.own }) (hdop st _ (ν j) (h.knows hD) ?_ p4 rfl) N Q fun a' w' st' β' e hm' => by subst e; exact hN _ _ _ _ _ hm' (hD.sto h hd0 hj hcj hb hbj))
    simp only [St.val, p3, Option.getD_some]
    cases oj <;> simp only [isBox] at hbj; rfl
  | bst id ob =>
    obtain ⟨hg, hd0, hU, _, o0, ho0, hdop⟩ := hstep
    simp only [Region.wanted, hg, if_true]
    have hown : st.look id = some o0 := hD.own id o0 ho0 fun j ob' hk hl => h.not_ (by rw [h.sok.bstu i j id ob ob' h.kind hk]; exact hl)
    exact .inl (dop_sound hm (K := fun st' => st' = { st with own := aset id ob st.own }) (hdop st _ (h.knows hD) hown rfl) N Q fun a' w' st' β' e hm' => by subst e; exact hN _ _ _ _ _ hm' (hD.bst' h hd0 ho0))
  | val s =>
    obtain ⟨hU, hstep, hslo⟩ := hstep
    let st' : St := { st with slots := seen S.all o (S.sti i) }
    have hm' : Mods X w0 st' β a w := by
      refine ⟨hm.outer, hm.still, hm.one, hm.defers, hm.size, hm.below, hm.keys, hm.own, hm.apart, ?_⟩
      intro t s' ht
      obtain ⟨q1, q2⟩ := seen_look ht
      by_cases hj : s' = .junk
      · subst hj; exact ⟨by simp [Sym.lo], by simp [Sm]⟩
      · exact hm.slots t s' (h.opnd hD q1 q2 hj)
    have hval : ∀ x ∈ o.op.operands, (S.sti i).val x = st'.val x := by
      intro x hx'
      cases x with
      | tmp t =>
        simp only [St.val]
        have hmem : t ∈ tmpsOf S.all o := looks_operand hx'
        cases hl : alook (S.sti i).slots t with
        | some s' => rw [show alook st'.slots t = some s' from seen_mem hmem hl]
        | none =>
          cases hl' : alook st'.slots t with
          | none => rfl
          | some s' => have := (seen_look hl').2; rw [hl] at this; cases this
      | _ => rfl
    have hlook : ∀ id ob, (S.sti i).look id = some ob → st'.look id = some ob := by
      intro id ob hl
      have hl' : alook (S.own0 i) id = some ob := by
        have e : (S.sti i).own = S.own0 i := (puts_own _ _ _).1
        simp only [St.look, e] at hl; exact hl
      obtain ⟨h1, h2⟩ := h.sok.own0 i id ob hl'
      exact hD.own id ob h1 fun j ob' hk hl => by
        obtain ⟨f, hf⟩ := h2 j ob' hk
        exact h.not_ (waits_down h.down f hl hf)
    have hrun : (opD (S.sti i).val o.op = true ∧ sopB P (S.sti i).look (S.sti i).val o.op (fun s' => s' = s)) → o.wp P a w N Q := by
      intro ⟨h1, h2⟩
      have h3 := sopB_mono hlook (sopB_cong hval h2)
      refine sopB_sound hm' o h3 N Q fun s' v w' e hl hb hsm => ?_
      subst e
      exact hN _ _ _ _ _ (hm.put hb hdt (Sym.lo_mono hD.next hslo) hsm) (hD.val h hU)
    have hskip : s = .d (.val undef) → N (a.put o.dst undef) w := by
      intro e
      subst e
      exact hN _ _ _ _ _ (hm.put_same hdt (by simp [Sym.lo]) (by simp [Sm, R])) (hD.val h hU)
    unfold DStep draw1 at hstep
    split at hstep
    · rename_i hg
      simp only [Region.wanted, hg, if_true]
      exact .inl (hrun hstep)
    · rename_i j want hg
      split at hstep
      · rename_i t ht
        have htm : t ∈ tmpsOf S.all o := looks_guard hg ht
        split at hstep
        · rename_i b hb
          have hy := yielded_bool (bind_dst ht) (slot_bool hm (h.opnd hD htm hb (by simp)))
          simp only [Region.wanted, hg, hy]
          by_cases e : b = want
          · subst e
            simp only [beq_self_eq_true, if_true]
            exact .inl (hrun (hstep.1 rfl))
          · have e' : b = !want := bool_ne e
            have : (some b == some want) = false := by simp [e]
            simp only [this, Bool.false_eq_true, if_false]
            exact hskip (hstep.2 e').symm
        · rename_i v hb
          obtain ⟨rfl, hj⟩ := hstep
          obtain ⟨_, hv⟩ := hm.slots t _ (h.opnd hD htm hb (by simp))
          simp only [Sm, R] at hv
          have hy : yielded S.all.toArray a.tmps j = none := yielded_undef (bind_dst ht) hv
          simp only [Region.wanted, hg, hy]
          have : ((none : Option Bool) == some want) = false := rfl
          simp only [this, Bool.false_eq_true, if_false]
          exact hskip hj.symm
        · exact hstep.elim
      · exact hstep.elim
def numF : Nat → List (Nat × Obj') → List (Nat × Obj')
  | _, [] => []
  | n, (_, ob) :: r => (n, ob) :: numF (n + 1) r
def refF : Nat → List (Nat × Obj') → List (Nat × Sym)
  | _, [] => []
  | n, (t, ob) :: r => (t, ref ob n) :: refF (n + 1) r
structure SegEnd (S : Seg) (fins own1 : List (Nat × Obj')) : Prop where
  each : ∀ t ob, (t, ob) ∈ fins → ∃ c ob0, S.co c t ob0 ∧ ((ob = ob0 ∧ ∀ m, ¬ S.user t m) ∨ ∃ m, S.user t m ∧ S.kd m = some (.sto t ob))
  nodup : (fins.map (·.1)).Nodup
  keys : own1.map (·.1) = S.st0.own.map (·.1)
  own1 : (S.st0.own.map (·.1)).Nodup → ∀ id o, (id, o) ∈ own1 → (∃ i, S.kd i = some (.bst id o)) ∨ (alook S.st0.own id = some o ∧ ∀ i ob, S.kd i ≠ some (.bst id ob))
def Seg.fin (S : Seg) (fins own1 : List (Nat × Obj')) : St :=
  { S.st0 with next := S.st0.next + fins.length, slots := refF S.st0.next fins ++ (S.sti S.hi).slots, own := numF S.st0.next fins ++ own1 }
theorem mem_numF : ∀ {n : Nat} {l : List (Nat × Obj')} {id : Nat} {ob : Obj'}, (id, ob) ∈ numF n l → ∃ j t, l[j]? = some (t, ob) ∧ id = n + j
  | n, (t, o) :: r, id, ob, h => by
    simp only [numF] at h
    rcases List.mem_cons.1 h with e | h
    · cases e; exact ⟨0, t, by simp, by omega⟩
    · obtain ⟨j, t', h1, h2⟩ := mem_numF h; exact ⟨j + 1, t', by simpa using h1, by omega⟩
theorem numF_keys : ∀ (n : Nat) (l : List (Nat × Obj')), (numF n l).map (·.1) = List.range' n l.length
  | n, [] => rfl
  | n, (t, o) :: r => by simp only [numF, List.map_cons, List.length_cons, List.range'_succ, numF_keys (n + 1) r]
theorem look_refF : ∀ {n : Nat} {l : List (Nat × Obj')} {sl : List (Nat × Sym)} {t : Nat} {s : Sym}, alook (refF n l ++ sl) t = some s → (∃ j ob, l[j]? = some (t, ob) ∧ s = ref ob (n + j)) ∨ alook sl t = some s
  | n, [], sl, t, s, h => .inr (by simpa [refF] using h)
  | n, (t', ob) :: r, sl, t, s, h => by
    simp only [refF, List.cons_append, alook] at h
    split at h
    · rename_i e; subst e; cases h; exact .inl ⟨0, ob, by simp, by simp⟩
    · rcases look_refF h with ⟨j, ob', h1, h2⟩ | h
      · exact .inl ⟨j + 1, ob', by simpa using h1, by rw [h2]; congr 1; omega⟩
      · exact .inr h
theorem ref_sm {E E' : Nat → Prop} {β' : Nat → Value} {ob : Obj'} {i j : Nat} {v : Value} (h : Sm w E β (ref ob i) v) (e : β' j = β i) : Sm w E' β' (ref ob j) v := by
  cases ob <;> simp only [ref, Sm] at h ⊢ <;> rw [e] <;> exact h
theorem ObjOk.tO {N : Nat → Prop} {E E' : Nat → Prop} {β' : Nat → Value} {m i j : Nat} {ob : Obj'} (hβ : ∀ id, id < m → β' id = β id) (hov : Over w E w E') (e : β' j = β i) (hl : ob.lo m) (h : ObjOk w N E β i ob) : ObjOk w N E' β' j ob := by
  cases ob with
  | box T cells =>
    obtain ⟨b, vs, h1, h2, h3, h4, h5⟩ := h
    exact ⟨b, vs, by rw [e]; exact h1, h2, h3, Sms.over hβ hov hl h4, h5⟩
  | arr T sz rows =>
    obtain ⟨xs, h1, h2, h3⟩ := h
    exact ⟨xs, by rw [e]; exact h1, Rcells.over hov _ _ h2, h3⟩
  | map T rows =>
    obtain ⟨r, es, clock, h1, h2, h3, h4⟩ := h
    exact ⟨r, es, clock, by rw [e]; exact h1, h2, h3, Rents.over hov _ _ h4⟩
  | raw k cells =>
    obtain ⟨b, fn, D, vs, h1, h2, h3, h4⟩ := h
    exact ⟨b, fn, D, vs, by rw [e]; exact h1, h2, h3, Sms.over hβ hov hl h4⟩
theorem seg_fin (hok : SegOk P S) (hslo : StLo S.st0) (hk0 : (S.st0.own.map (·.1)).Nodup) (hb0 : S.st0.base ≤ S.st0.next) {L : Nat → Prop} (hm : Mods X w0 st β a w) (hD : Desc S L st ν) (hall : ∀ j, S.lo ≤ j → j < S.hi → L j) {fins own1 : List (Nat × Obj')} (he : SegEnd S fins own1) :
    ∃ β', Mods X w0 (S.fin fins own1) β' a w := by
  have hlk : ∀ {j k}, S.kd j = some k → L j := fun h => hall _ (S.kd_lt h).1 (S.kd_lt h).2
  have hlive : ∀ t ob, (t, ob) ∈ fins → S.Live L t ob := by
    intro t ob hmem
    obtain ⟨c, ob0, hc, h⟩ := he.each t ob hmem
    have hcl : L c := by obtain ⟨y, k', _, h2, _⟩ := hc; exact hlk h2
    rcases h with ⟨rfl, hu⟩ | ⟨m, hu, hk⟩
    · exact .inl ⟨c, hc, hcl, fun m hu' => absurd hu' (hu m)⟩
    · exact .inr ⟨c, ob0, m, hc, hcl, hlk hk, hu, hk⟩
  let β' : Nat → Value := fun id => if S.st0.next ≤ id then (match fins[id - S.st0.next]? with | some (t, _) => β (ν t) | none => β id) else β id
  have hlow : ∀ id, id < S.st0.next → β' id = β id := fun id h => if_neg (by omega)
  have hnew : ∀ j t ob, fins[j]? = some (t, ob) → β' (S.st0.next + j) = β (ν t) := by
    intro j t ob h
    show (if _ then _ else _) = _
    rw [if_pos (by omega)]
    have : S.st0.next + j - S.st0.next = j := by omega
    rw [this, h]
  have hob : ∀ j t ob, fins[j]? = some (t, ob) → Hold S st ν t ob := fun j t ob h => hD.live t ob (hlive t ob (List.mem_of_getElem? h))
  have hbase : ∀ id o', (id, o') ∈ own1 → id < S.st0.next ∧ o'.lo S.st0.next ∧ (id, o') ∈ st.own := by
    intro id o' hmem
    rcases he.own1 hk0 id o' hmem with ⟨i, hk⟩ | ⟨h1, h2⟩
    · have hb := (S.kd_lt hk)
      obtain ⟨y, hy⟩ : ∃ y, S.all[i]? = some y := ⟨_, List.getElem?_eq_getElem (by have := hok.len; omega)⟩
      obtain ⟨_, _, _, hlo', o0, ho0, _⟩ := (hok.step i y _ hy hk).2
      exact ⟨(hslo.own id o0 ho0).1, hlo', alook_mem (hD.bst id i o' hk (hlk hk))⟩
    · obtain ⟨q1, q2⟩ := hslo.own id o' h1
      exact ⟨q1, q2, alook_mem (hD.own id o' h1 fun j ob hk _ => h2 j ob hk)⟩
  -- each own thing of the end is one of those that are there
  have hfrom : ∀ id o', (id, o') ∈ (S.fin fins own1).own → ∃ id0, (id0, o') ∈ st.own ∧ β' id = β id0 ∧ o'.lo S.st0.next ∧ ((id0 = id ∧ id < S.st0.next) ∨ ∃ j t, fins[j]? = some (t, o') ∧ id = S.st0.next + j ∧ id0 = ν t) := by
    intro id o' hmem
    rcases List.mem_append.1 hmem with h | h
    · obtain ⟨j, t, hj, rfl⟩ := mem_numF h
      obtain ⟨q1, q2, q3, q4⟩ := hob j t o' hj
      exact ⟨ν t, alook_mem q4, hnew j t o' hj, (hlive t o' (List.mem_of_getElem? hj)).lo hok, .inr ⟨j, t, hj, rfl, rfl⟩⟩
    · obtain ⟨q1, q2, q3⟩ := hbase id o' h
      exact ⟨id, q3, hlow id q1, q2, .inl ⟨rfl, q1⟩⟩
  have hov : Over w (Ex X β st.own) w (Ex X β' (S.fin fins own1).own) := by
    refine Over.less fun b hb => hb.elim .inl fun ⟨id, o', hmem, hblk⟩ => ?_
    obtain ⟨id0, h1, h2, _⟩ := hfrom id o' hmem
    exact .inr ⟨id0, o', h1, by rw [← h2]; exact hblk⟩
  refine ⟨β', hm.outer, ⟨Nat.le_trans hb0 (Nat.le_add_right _ _), ?_⟩, ?_, hm.defers, hm.size.trans hD.n, hm.below, ?_, ?_, ?_, ?_⟩
  · intro id h1 h2
    have hid : id < S.st0.next := Nat.lt_of_lt_of_le h1 hb0
    rw [hlow id hid]
    exact hm.still.2 id (by rw [hD.base]; exact h1) (fun h => h2 (hD.moved id hid h))
  · intro id
    show ((if _ then _ else _ : Value)).oneCell' = true
    split
    · split
      · exact hm.one _
      · exact hm.one _
    · exact hm.one _
  · show ((numF S.st0.next fins ++ own1).map (·.1)).Nodup
    rw [List.map_append, List.nodup_append]
    refine ⟨by rw [numF_keys]; exact List.nodup_range', by rw [he.keys]; exact hk0, ?_⟩
    intro p hp q hq e
    subst e
    rw [numF_keys] at hp
    obtain ⟨⟨id, o'⟩, hmem, e⟩ := List.mem_map.1 hq
    have := (hbase id o' hmem).1
    have := (List.mem_range'.1 hp)
    simp at e; omega
  · intro id o' hmem
    obtain ⟨id0, h1, h2, h3, h4⟩ := hfrom id o' hmem
    obtain ⟨q1, q2, q3⟩ := hm.own id0 o' h1
    refine ⟨?_, Obj'.lo_mono (Nat.le_add_right _ _) h3, q3.tO hlow hov h2 h3⟩
    show id < S.st0.next + fins.length
    rcases h4 with ⟨_, h⟩ | ⟨j, t, hj, rfl, _⟩
    · omega
    · have := (List.getElem?_eq_some_iff.1 hj).1; omega
  · intro id o1 id' o2 b h1 h2 e1 e2
    obtain ⟨i1, p1, p2, _, p4⟩ := hfrom id o1 h1
    obtain ⟨i2, q1, q2, _, q4⟩ := hfrom id' o2 h2
    have heq := hm.apart i1 o1 i2 o2 b p1 q1 (by rw [← p2]; exact e1) (by rw [← q2]; exact e2)
    rcases p4 with ⟨rfl, hlt⟩ | ⟨j, t, hj, rfl, rfl⟩ <;> rcases q4 with ⟨rfl, hlt'⟩ | ⟨j', t', hj', rfl, rfl⟩
    · exact heq
    · have := (hob j' t' o2 hj').1; omega
    · have := (hob j t o1 hj).1; omega
    · have ht := hD.inj t t' o1 o2 (hlive _ _ (List.mem_of_getElem? hj)) (hlive _ _ (List.mem_of_getElem? hj')) heq
      subst ht
      have hn := he.nodup
      have h1 : (fins.map (·.1))[j]? = some t := by simp [hj]
      have h2 : (fins.map (·.1))[j']? = some t := by simp [hj']
      have hjl := (List.getElem?_eq_some_iff.1 h1)
      have hjl' := (List.getElem?_eq_some_iff.1 h2)
      have : j = j' := (List.getElem_inj hn).1 (hjl.2.trans hjl'.2.symm)
      rw [this]
  · intro t s ht
    rcases look_refF ht with ⟨j, ob, hj, rfl⟩ | ht
    · obtain ⟨q1, q2, q3, q4⟩ := hob j t ob hj
      refine ⟨ref_lo ?_, ref_sm (hm.slots t _ q3).2 (hnew j t ob hj)⟩
      show S.st0.next + j < S.st0.next + fins.length
      have := (List.getElem?_eq_some_iff.1 hj).1; omega
    · have fin : Sym.lo S.st0.next s → alook st.slots t = some s → Sym.lo (S.fin fins own1).next s ∧ Sm w (Ex X β' (S.fin fins own1).own) β' s (a.tmps.getD t undef) :=
        fun h1 h2 => ⟨Sym.lo_mono (Nat.le_add_right _ _) h1, Sm.over hlow hov h1 (hm.slots t s h2).2⟩
      rcases S.sti_look hok.len ⟨hok.len.1, Nat.le_refl _⟩ ht with ⟨j, y, k', h1, h2, h3, h4, h5⟩ | ⟨h1, h2⟩
      · cases k' with
        | val s' =>
          simp only [FK.sym] at h4; subst h4
          exact fin (hok.step j y _ h1 h2).2.2.2 (hD.vals j y t _ h1 (hlk h2) h2 h5)
        | _ => simp only [FK.sym] at h4; subst h4; exact ⟨by simp [Sym.lo], by simp [Sm]⟩
      · exact fin (hslo.slots t s h2) (hD.rest t s h2 fun j y k' hj hl hk => h1 j y hj (S.kd_lt hk).1 (S.kd_lt hk).2)
end
end Go.V
namespace Go.V
variable [Dr] [Ov]
open Go.RowKit
def sinks (all : List Oper) (b : Nat) : List Nat := (List.range b).filter fun i => !((all.take b).any fun z => bound z i)
def cutB (all : List Oper) (b : Nat) : Bool :=
  (all.drop b).all fun y => (y.after.toList.any fun e => Region.binds .any e && Nat.ble b e.on) || (sinks all b).all fun i => bound y i
def TotOk (P : Program) (all : List Oper) (pos : Nat) (st : St) (K : St → Prop) : Prop :=
  ∀ (X : Nat → Prop) (w0 : Base) (β : Nat → Value) (a : Act) (w : World), Mods X w0 st β a w → ∀ (N : Act → World → Prop) (Q : Exit → Act → World → Prop),
    (∀ a' w' st' β', K st' → Mods X w0 st' β' a' w' → N a' w') → wpOp P all.toArray Q pos N a w
inductive RegI (P : Program) (all : List Oper) (K : St → Prop) : Nat → St → Prop
  | done {st : St} : K st → RegI P all K all.length st
  | tot {pos : Nat} {st : St} (K1 : St → Prop) : pos < all.length → (cutB all (pos + 1) = true ∨ pos + 1 = all.length) → TotOk P all pos st K1 → (∀ st', K1 st' → RegI P all K (pos + 1) st') → RegI P all K pos st
  | seg {pos hi : Nat} {st : St} (ks : List FK) (own0 : Nat → List (Nat × Obj')) (fins own1 : List (Nat × Obj')) : SegOk P ⟨all, pos, hi, ks, st, own0⟩ → SegEnd ⟨all, pos, hi, ks, st, own0⟩ fins own1 → (cutB all hi = true ∨ hi = all.length) →
      RegI P all K hi (Seg.fin ⟨all, pos, hi, ks, st, own0⟩ fins own1) → RegI P all K pos st
section
variable {P : Program} {X : Nat → Prop} {w0 : Base} {st : St} {β : Nat → Value} {a : Act} {w w' : World} {all : List Oper} {Lb : Array Bool}
theorem cut_all (hok : drawOk all = true) {b : Nat} (hc : cutB all b = true) (hsz : Lb.size = all.length) (hdown : ∀ j y, all[j]? = some y → lst Lb j → ∀ e ∈ y.after.toList, Region.binds .any e = true → Lb.getD e.on false = true)
    (hno : ∀ j, b ≤ j → j < all.length → ¬ lst Lb j) {j : Nat} {y : Oper} (hj : all[j]? = some y) (hbj : b ≤ j) (hready : ∀ e ∈ y.after.toList, Region.binds .any e = true → Lb.getD e.on false = true) : ∀ i, i < b → lst Lb i := by
  have hjl := (List.getElem?_eq_some_iff.1 hj).1
  -- y waits for each sink
  have hs : ∀ i ∈ sinks all b, lst Lb i := by
    have hy : y ∈ all.drop b := by
      refine List.mem_of_getElem? (i := j - b) ?_
      rw [List.getElem?_drop]
      have : b + (j - b) = j := by omega
      rw [this]; exact hj
    have := (List.all_eq_true.1 hc) y hy
    rw [Bool.or_eq_true] at this
    rcases this with h | h
    · obtain ⟨e, he, h2⟩ := List.any_eq_true.1 h
      rw [Bool.and_eq_true] at h2
      have hl := hready e he h2.1
      have hon : b ≤ e.on := Nat.ble_eq ▸ h2.2
      have hlt : e.on < j := (drawOk_edges hok hj).1 e he h2.1
      exact absurd (lst_false hl) (hno e.on hon (by omega))
    · intro i hi
      obtain ⟨e, he, hb, hon⟩ := bound_mem ((List.all_eq_true.1 h) i hi)
      have := hready e he hb
      rw [hon] at this; exact lst_false this
  -- the greatest one that is not done
  have key : ∀ n i, i < b → b - i ≤ n → lst Lb i := by
    intro n
    induction n with
    | zero => intro i hi h; omega
    | succ n ih =>
      intro i hi h
      by_cases hsi : i ∈ sinks all b
      · exact hs i hsi
      · have : ((all.take b).any fun z => bound z i) = true := by
          cases hh : ((all.take b).any fun z => bound z i) with
          | true => rfl
          | false => exact absurd (List.mem_filter.2 ⟨List.mem_range.2 hi, by rw [hh]; rfl⟩) hsi
        obtain ⟨z, hz, hbz⟩ := List.any_eq_true.1 this
        obtain ⟨m, hm⟩ := List.mem_iff_getElem?.1 hz
        have hmb : m < b := by
          rcases Nat.lt_or_ge m b with h | h
          · exact h
          · rw [List.getElem?_take, if_neg (by omega)] at hm; cases hm
        rw [List.getElem?_take, if_pos hmb] at hm
        obtain ⟨e, he, hb, hon⟩ := bound_mem hbz
        have him : i < m := by have := (drawOk_edges hok hm).1 e he hb; omega
        have := hdown m z hm (ih m hmb (by omega)) e he hb
        rw [hon] at this; exact lst_false this
  exact fun i hi => key (b - i) i hi (Nat.le_refl _)
structure Stands (all : List Oper) (Lb : Array Bool) : Prop where
  size : Lb.size = all.length
  down : ∀ j y, all[j]? = some y → lst Lb j → ∀ e ∈ y.after.toList, Region.binds .any e = true → Lb.getD e.on false = true
theorem Stands.set (h : Stands all Lb) {i : Nat} {o : Oper} (hi : all[i]? = some o) (hready : ∀ e ∈ o.after.toList, Region.binds .any e = true → Lb.getD e.on false = true) : Stands all (Lb.setIfInBounds i true) := by
  have hilt : i < Lb.size := by rw [h.size]; exact (List.getElem?_eq_some_iff.1 hi).1
  have hgf : ∀ j, Lb.getD j false = true → (Lb.setIfInBounds i true).getD j false = true := by
    intro j hj
    by_cases hlt : j < Lb.size
    · simp [Array.getD, hlt, Array.getElem_setIfInBounds] at hj ⊢; right; exact hj
    · simp [Array.getD, hlt] at hj
  refine ⟨by simp [h.size], fun j y hj hl e he hb => ?_⟩
  rcases (lst_set hilt).1 hl with rfl | hl
  · rw [hi] at hj; cases hj; exact hgf _ (hready e he hb)
  · exact hgf _ (h.down j y hj hl e he hb)
theorem ready_of (h : Stands all Lb) {i : Nat} (hi : i ∈ Region.ready .any all.toArray Lb) : ∃ o, all[i]? = some o ∧ i < all.length ∧ ¬ lst Lb i ∧ ∀ e ∈ o.after.toList, Region.binds .any e = true → Lb.getD e.on false = true := by
  unfold Region.ready at hi
  obtain ⟨hir, hi⟩ := List.mem_filter.1 hi
  simp only [Bool.and_eq_true, Bool.not_eq_true'] at hi
  obtain ⟨hnot, hi⟩ := hi
  cases ho : all.toArray[i]? with
  | none => rw [ho] at hi; simp at hi
  | some o =>
    rw [ho] at hi
    simp only [Option.map_some, Option.getD_some] at hi
    refine ⟨o, by simpa using ho, by simpa using hir, (fun hl => by unfold lst at hl; rw [hnot] at hl; cases hl), fun e he hb => ?_⟩
    rw [Array.all_eq_true'] at hi
    have := hi e (by simpa using he)
    simp only [hb, Bool.not_true, Bool.false_or] at this
    exact this
def left (Lb : Array Bool) : Nat := (Lb.toList.filter (!·)).length
theorem left_set {i : Nat} (hi : i < Lb.size) (hn : ¬ lst Lb i) : left (Lb.setIfInBounds i true) + 1 = left Lb := by
  have hf : Lb.toList[i]? = some false := by
    have : Lb[i] = false := by
      cases h : Lb[i] with
      | false => rfl
      | true => exact absurd (by unfold lst; simp [Array.getD, hi, h]) hn
    simp [hi, this]
  unfold left
  rw [Array.toList_setIfInBounds]
  generalize Lb.toList = l at hf
  clear hi hn
  induction l generalizing i with
  | nil => simp at hf
  | cons x r ih =>
    cases i with
    | zero => simp at hf; subst hf; simp
    | succ i =>
      have := ih (i := i) (by simpa using hf)
      simp only [List.set_cons_succ, List.filter_cons]
      cases x <;> simp <;> omega
theorem left_pos {i : Nat} (hi : i < Lb.size) (hn : ¬ lst Lb i) : 0 < left Lb := by have := left_set hi hn; omega
theorem seg_run (hok : drawOk all = true) {S : Seg} (hall : S.all = all) (hS : SegOk P S) (hslo : StLo S.st0) (hcut : cutB all S.hi = true ∨ S.hi = all.length) {Q : Exit → Act → World → Prop}
    (hend : ∀ st' β' ν a' w' Lb', Mods X w0 st' β' a' w' → Desc S (lst Lb') st' ν → Stands all Lb' → (∀ j, j < all.length → (lst Lb' j ↔ j < S.hi)) → ∀ fuel, left Lb' ≤ fuel → wpAny P .any all.toArray Q fuel Lb' a' w') :
    ∀ (fuel : Nat) (Lb : Array Bool) (st : St) (β ν : Nat → _) (a : Act) (w : World), Mods X w0 st β a w → Desc S (lst Lb) st ν → Stands all Lb → (∀ j, j < S.lo → lst Lb j) → (∀ j, S.hi ≤ j → j < all.length → ¬ lst Lb j) → left Lb ≤ fuel →
      wpAny P .any all.toArray Q fuel Lb a w
  | fuel, Lb, st, β, ν, a, w, hm, hD, hst, hlo, hhi, hf => by
    by_cases hd : ∀ j, S.lo ≤ j → j < S.hi → lst Lb j
    · refine hend st β ν a w Lb hm hD hst (fun j hj => ⟨fun hl => ?_, fun h => ?_⟩) fuel hf
      · rcases Nat.lt_or_ge j S.hi with h | h
        · exact h
        · exact absurd hl (hhi j h hj)
      · rcases Nat.lt_or_ge j S.lo with h' | h'
        · exact hlo j h'
        · exact hd j h' h
    · have hx : ∃ j, S.lo ≤ j ∧ j < S.hi ∧ ¬ lst Lb j := by
        refine Classical.byContradiction fun hn => hd fun j h1 h2 => Classical.byContradiction fun h3 => hn ⟨j, h1, h2, h3⟩
      obtain ⟨j, hj1, hj2, hj3⟩ := hx
      have hhl : S.hi ≤ all.length := by rw [← hall]; exact hS.len.2.1
      cases fuel with
      | zero => have := left_pos (Lb := Lb) (by rw [hst.size]; omega) hj3; omega
      | succ fuel =>
        refine ⟨fun hr => absurd (unlisted_ready hok hst.size hr j (by omega)) hj3, fun i hi => ?_⟩
        obtain ⟨o, ho, hil, hnot, hready⟩ := ready_of hst hi
        have hi1 : S.lo ≤ i := Nat.le_of_not_lt fun h => hnot (hlo i h)
        have hi2 : i < S.hi := by
          rcases Nat.lt_or_ge i S.hi with h | h
          · exact h
          · rcases hcut with hc | hc
            · exact absurd (cut_all hok hc hst.size hst.down hhi ho h hready j hj2) hj3
            · omega
        have hk : ∃ k, S.kd i = some k := by
          unfold Seg.kd
          rw [if_pos ⟨hi1, hi2⟩]
          exact ⟨_, List.getElem?_eq_getElem (by have := hS.len.2.2; omega)⟩
        obtain ⟨k, hk⟩ := hk
        have hilt : i < Lb.size := by rw [hst.size]; exact hil
        have here : Here P S Lb i o k := ⟨hS, hslo, by rw [hall]; exact hst.size, by rw [hall]; exact hst.down, by rw [hall]; exact ho, hk, hnot, hready⟩
        have := seg_step (P := P) here hm hD (N := wpAny P .any all.toArray Q fuel (Lb.setIfInBounds i true)) (Q := Q) fun a' w' st' β' ν' hm' hD' =>
          seg_run hok hall hS hslo hcut hend fuel (Lb.setIfInBounds i true) st' β' ν' a' w' hm' hD' (hst.set ho hready) (fun j h => (lst_set hilt).2 (.inr (hlo j h)))
            (fun j h1 h2 hl => by
              rcases (lst_set hilt).1 hl with e | hl
              · omega
              · exact hhi j h1 h2 hl) (by have := left_set hilt hnot; omega)
        rw [hall] at this
        exact this
theorem StLo.of (hm : Mods X w0 st β a w) : StLo st := ⟨fun id o h => ⟨(hm.obj h).1, (hm.obj h).2.1⟩, fun t s h => (hm.slots t s h).1⟩
theorem pieces_sound (hok : drawOk all = true) {Q : Exit → Act → World → Prop} {K : St → Prop} (hQ : ∀ a w st β, K st → Mods X w0 st β a w → Q .normal a w) {pos : Nat} {st : St} (h : RegI P all K pos st) :
    ∀ (β : Nat → Value) (a : Act) (w : World) (Lb : Array Bool), Mods X w0 st β a w → Stands all Lb → (∀ j, j < all.length → (lst Lb j ↔ j < pos)) → ∀ fuel, left Lb ≤ fuel → wpAny P .any all.toArray Q fuel Lb a w := by
  induction h with
  | @done st hk =>
    intro β a w Lb hm hst hL fuel hf
    have hnone : Region.ready .any all.toArray Lb = [] := by
      cases hr : Region.ready .any all.toArray Lb with
      | nil => rfl
      | cons i r =>
        obtain ⟨o, ho, hil, hnot, _⟩ := ready_of hst (by rw [hr]; simp : i ∈ Region.ready .any all.toArray Lb)
        exact absurd ((hL i hil).2 hil) hnot
    cases fuel with
    | zero => exact ⟨hnone, hQ a w st β hk hm⟩
    | succ fuel => exact ⟨fun _ => hQ a w st β hk hm, fun i hi => by rw [hnone] at hi; cases hi⟩
  | @tot pos st K1 hpos hcut htot _ ih =>
    intro β a w Lb hm hst hL fuel hf
    have hnp : ¬ lst Lb pos := fun hl => by have := (hL pos hpos).1 hl; omega
    cases fuel with
    | zero => have := left_pos (Lb := Lb) (by rw [hst.size]; omega) hnp; omega
    | succ fuel =>
      refine ⟨fun hr => absurd (unlisted_ready hok hst.size hr pos hpos) hnp, fun i hi => ?_⟩
      obtain ⟨o, ho, hil, hnot, hready⟩ := ready_of hst hi
      have hge : pos ≤ i := Nat.le_of_not_lt fun h => hnot ((hL i hil).2 h)
      have hip : i = pos := by
        rcases Nat.lt_or_ge pos i with h | h
        · rcases hcut with hc | hc
          · exact absurd (cut_all hok hc hst.size hst.down (fun j h1 h2 hl => by have := (hL j h2).1 hl; omega) ho h hready pos (Nat.lt_succ_self _)) hnp
          · omega
        · omega
      subst hip
      have hilt : i < Lb.size := by rw [hst.size]; exact hil
      refine htot X w0 β a w hm _ Q fun a' w' st' β' hk hm' => ?_
      refine ih st' hk β' a' w' (Lb.setIfInBounds i true) hm' (hst.set ho hready) (fun j hj => ?_) fuel (by have := left_set hilt hnot; omega)
      rw [lst_set hilt, hL j hj]; omega
  | @seg pos hi st ks own0 fins own1 hS hE hcut _ ih =>
    intro β a w Lb hm hst hL fuel hf
    have hslo : StLo st := .of hm
    refine seg_run (P := P) (X := X) (w0 := w0) (S := ⟨all, pos, hi, ks, st, own0⟩) hok rfl hS hslo hcut ?_ fuel Lb st β (fun _ => 0) a w hm ?_ hst ?_ ?_ hf
    · intro st' β' ν a' w' Lb' hm' hD hst' hL' fuel' hf'
      obtain ⟨β2, hm2⟩ := seg_fin (S := ⟨all, pos, hi, ks, st, own0⟩) hS hslo hm.keys hm.still.1 hm' hD (fun j h1 h2 => (hL' j (by have := hS.len.2.1; exact Nat.lt_of_lt_of_le h2 this)).2 h2) hE
      exact ih β2 a' w' Lb' hm2 hst' hL' fuel' hf'
    · have hno : ∀ {j k}, Seg.kd ⟨all, pos, hi, ks, st, own0⟩ j = some k → ¬ lst Lb j := by
        intro j k hk hl
        have hb := Seg.kd_lt hk
        have hlen := hS.len.2.1
        have := (hL j (Nat.lt_of_lt_of_le hb.2 hlen)).1 hl
        simp at hb; omega
      have hnl : ∀ t ob, ¬ Seg.Live ⟨all, pos, hi, ks, st, own0⟩ (lst Lb) t ob := by
        intro t ob hl
        obtain ⟨c, ob0, ⟨y, k', _, h2, _⟩, hcl⟩ := hl.co
        exact hno h2 hcl
      exact ⟨rfl, rfl, Nat.le_refl _, fun _ _ h => h, fun _ _ h _ => h, fun _ _ _ hk hl => absurd hl (hno hk), fun _ _ _ _ _ hl hk _ => absurd hl (hno hk), fun _ _ h _ => h, fun t ob hl => absurd hl (hnl t ob), fun t _ ob _ hl => absurd hl (hnl t ob)⟩
    · intro j hj
      have : j < all.length := by have := hS.len; simp at this hj; omega
      exact (hL j this).2 hj
    · intro j h1 h2 hl
      have := (hL j h2).1 hl
      have := hS.len
      simp at h1 this; omega
theorem region_sound {id : Nat} (hmix : P.follows .mixedOrders = true) (hok : drawOk all = true) {Q : DE → St → Prop} (h : RegI P all (Q .normal) 0 st) : Triple P (.region id all.toArray true) Q st := by
  intro X w0 β a w hm
  refine wp_region_any hmix ?_
  have hm1 : Mods X w0 st β a { w with drawn := w.drawn + 1 } := by
    have hb : Below w.heap.size w { w with drawn := w.drawn + 1 } := ⟨⟨rfl, rfl, rfl, Nat.le_refl _, fun _ _ => rfl⟩, fun _ => Nat.le_succ _⟩
    have := hm.put hb (dst := none) (s := .junk) (v := undef) (by simp) (by simp [Sym.lo]) (by simp [Sm])
    simpa [St.put, Act.put] using this
  have hnone : ∀ j, j < all.length → ¬ lst (Array.replicate all.toArray.size false) j := by
    intro j hj h
    unfold lst at h
    simp [Array.getD, hj] at h
  refine pieces_sound (P := P) (X := X) (w0 := w0) hok (K := Q .normal) (fun a w st' β hk hm' => ⟨.normal, st', β, trivial, hk, hm'⟩) h β a _ _ hm1 ⟨by simp, ?_⟩ (fun j hj => ⟨fun h => absurd h (hnone j hj), fun h => by omega⟩) _ ?_
  · intro j y hj hl
    exact absurd hl (hnone j (List.getElem?_eq_some_iff.1 hj).1)
  · simp [left]
end
end Go.V

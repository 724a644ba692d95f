/- A program logic of my own over the kit: part W3. It needs no conditions. -/
import Derived.Test.YtknekjalbninmaaGreatW2
set_option linter.unusedVariables false
set_option linter.unusedSimpArgs false
set_option linter.unusedSectionVars false
namespace Go.V
variable [Dr] [Ov]
open Go.RowKit
section
variable {P : Program} {X : Nat → Prop} {w0 : Base} {st : St} {β : Nat → Value} {a : Act} {w w' : World} {E : Nat → Prop}
end
end Go.V
namespace Go.V
variable [Dr] [Ov]
open Go.RowKit
structure Near (all : List Oper) (m : Nat) (S : St) (L : Nat → Prop) (st : St) : Prop where
  n : st.n = S.n
  base : st.base = S.base
  next : st.next = S.next
  moved : st.moved = S.moved
  own : st.own = S.own
  slot : ∀ t s, alook S.slots t = some s → s ≠ .junk → (∀ i o, i < m → all[i]? = some o → o.dst = some t → L i) → alook st.slots t = some s
def PureAt (P : Program) (S : St) (o : Oper) (s : Sym) : Prop := opD S.val o.op = true ∧ sopB P S.look S.val o.op (fun s' => s' = s)
def StepAt (P : Program) (all : List Oper) (S : St) (o : Oper) (s : Sym) : Prop := ∀ (X : Nat → Prop) (w0 : Base) (st : St) (β : Nat → Value) (a : Act) (w : World), st.n = S.n → st.next = S.next → st.own = S.own →
  (∀ t ∈ tmpsOf all o, ∀ s, alook S.slots t = some s → s ≠ .junk → alook st.slots t = some s) → Mods X w0 st β a w → Goes P X w0 o a w (fun st' => st' = st.put o.dst s)
def distB (all : List Oper) (m : Nat) : Bool := (List.range m).all fun i => (List.range m).all fun j => Nat.blt j i || (match all[i]?, (all[j]?).bind (·.dst) with
  | some o, some t => !(tmpsOf all o).contains t
  | _, _ => true)
section
variable {P : Program} {X : Nat → Prop} {w0 : Base} {st S S1 : St} {β : Nat → Value} {a : Act} {w w' : World} {all : List Oper} {Lb : Array Bool} {m : Nat}
theorem dist_of (h : distB all m = true) {i j t : Nat} {o y : Oper} (hi : i < m) (hj : j < m) (hio : all[i]? = some o) (hjy : all[j]? = some y) (hd : y.dst = some t) (ht : t ∈ tmpsOf all o) : j < i := by
  unfold distB at h
  have := List.all_eq_true.1 (List.all_eq_true.1 h i (List.mem_range.2 hi)) j (List.mem_range.2 hj)
  rw [hio, hjy] at this
  simp only [Option.bind_some, hd, Bool.or_eq_true] at this
  rcases this with e | e
  · simpa using e
  · simp [ht] at e
theorem Near.opnd {L : Nat → Prop} (hok : drawOk all = true) (hdb : distB all m = true) (hL : L = lst Lb) (h : Near all m S L st) {i : Nat} {o : Oper} (hi : i < m) (ho : all[i]? = some o) (hready : ∀ e ∈ o.after.toList, Region.binds .any e = true → Lb.getD e.on false = true) {t : Nat} (ht : t ∈ tmpsOf all o)
    {s : Sym} (hs : alook S.slots t = some s) (hj : s ≠ .junk) : alook st.slots t = some s := by
  refine h.slot t s hs hj fun j y hjm hy hd => ?_
  have hji := dist_of hdb hi hjm ho hy hd ht
  obtain ⟨e, he, hb, hon⟩ := bound_mem (((drawOk_pair hok hy ho hji).1 t hd).1 ht)
  have := hready e he hb
  rw [hon] at this
  rw [hL]; exact lst_false this
theorem PureAt.step {o : Oper} {s : Sym} (hd : ∀ t, o.dst = some t → t < S.n) (hlo : Sym.lo S.next s) (hp : PureAt P S o s) : StepAt P all S o s := by
  intro X w0 st β a w hn hx hown hslots hm
  let st1 : St := { st with slots := seen all o S }
  have hm' : Mods X w0 st1 β a w := by
    refine ⟨hm.outer, hm.still, hm.one, hm.defers, hm.size, hm.below, hm.keys, hm.own, hm.apart, ?_⟩
    intro t s' ht
    obtain ⟨q1, q2⟩ := seen_look ht
    by_cases hj : s' = .junk
    · subst hj; exact ⟨by simp [Sym.lo], by simp [Sm]⟩
    · exact hm.slots t s' (hslots t q1 s' q2 hj)
  have hval : ∀ x ∈ o.op.operands, S.val x = st1.val x := by
    intro x hx'
    cases x with
    | tmp t =>
      simp only [St.val]
      have hmem : t ∈ tmpsOf all o := looks_operand hx'
      cases hl : alook S.slots t with
      | some s' => rw [show alook st1.slots t = some s' from seen_mem hmem hl]
      | none =>
        cases hl' : alook st1.slots t with
        | none => rfl
        | some s' => have := (seen_look hl').2; rw [hl] at this; cases this
    | _ => rfl
  have hlook : S.look = st1.look := by funext id; simp only [St.look, st1, hown]
  have h3 := sopB_cong hval hp.2
  rw [hlook] at h3
  intro N Q hNN
  refine sopB_sound hm' o h3 N Q fun s' v w' e hl hb hsm => ?_
  subst e
  exact hNN _ _ (st.put o.dst s') β rfl (hm.put hb (fun u hu => by rw [hn]; exact hd u hu) (by rw [hx]; exact hlo) hsm)
structure Turn (S S1 : St) (d : Nat) (sd : Sym) (f : Sym → Sym) (F : St → St) : Prop where
  junk : f .junk = .junk
  there : alook S1.slots d = some sd
  look : ∀ t s, t ≠ d → alook S1.slots t = some s → ∃ s0, alook S.slots t = some s0 ∧ f s0 = s
  go : ∀ st, st.n = S.n → st.base = S.base → st.next = S.next → st.moved = S.moved → st.own = S.own →
    (F st).n = S1.n ∧ (F st).base = S1.base ∧ (F st).next = S1.next ∧ (F st).moved = S1.moved ∧ (F st).own = S1.own ∧ ∀ t, alook (F st).slots t = if t = d then some sd else (alook st.slots t).map f
end
end Go.V

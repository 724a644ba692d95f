/- A program logic of my own over the kit: part W1. It needs no conditions. -/
import Derived.Test.YtnjcohimpfmgcaaDoorB1
set_option linter.unusedVariables false
set_option linter.unusedSimpArgs false
set_option linter.unusedSectionVars false
namespace Go.V
variable [Dr]
open Go.RowKit

/-! ### a drawn region of computations, with one last operation of any kind -/
def ddrawL (P : Program) (all : List Oper) (m : Nat) (o : Oper) : List Oper → St → (St → Prop) → Prop
  | [], st, K => dop P o st K
  | x :: r, st, K => dstB x.dst st.n = true ∧ draw1 P all x st (fun s => Sym.lo m s ∧ ddrawL P all m o r (st.put x.dst s) K)
section
variable {P : Program} {X : Nat → Prop} {w0 : Base} {st : St} {β : Nat → Value} {a : Act} {w w' : World} {all : List Oper}
theorem ddrawL_chain {m : Nat} {o : Oper} : ∀ {l : List Oper} {st : St} {K : St → Prop}, ddrawL P all m o l st K → ∃ ss, Chain P all l ss st ∧ (∀ s ∈ ss, Sym.lo m s) ∧ dop P o (puts l ss st) K
  | [], st, K, h => ⟨[], rfl, by simp, h⟩
  | x :: r, st, K, h => by
    simp only [ddrawL] at h
    obtain ⟨h0, h⟩ := h
    obtain ⟨s, h1, h2, h3⟩ := draw1_ex h
    obtain ⟨ss, q1, q2, q3⟩ := ddrawL_chain h3
    refine ⟨s :: ss, ⟨s, ss, rfl, h0, h1, q1⟩, ?_, q3⟩
    intro u hu
    rcases List.mem_cons.1 hu with e | hu
    · subst e; exact h2
    · exact q2 u hu
theorem draw_last (hmix : P.follows .mixedOrders = true) {id : Nat} {pre : List Oper} {o : Oper} (hok : drawOk (pre ++ [o]) = true) (hcut : cutB (pre ++ [o]) pre.length = true) (hg : o.guard = none) {Q : DE → St → Prop}
    (hkeys : (st.own.map (·.1)).Nodup) (h : ddrawL P (pre ++ [o]) st.next o pre st (Q .normal)) : Triple P (.region id (pre ++ [o]).toArray true) Q st := by
  refine region_sound hmix hok ?_
  obtain ⟨ss, hch, hlo, hd⟩ := ddrawL_chain h
  have hlen := chain_length hch
  have hkd : ∀ i k, (Seg.kd ⟨pre ++ [o], 0, pre.length, ss.map .val, st, st.own⟩ i) = some k → ∃ s, ss[i]? = some s ∧ k = .val s := by
    intro i k hk
    unfold Seg.kd at hk
    split at hk
    · simp only [Nat.sub_zero, List.getElem?_map] at hk
      cases hs : ss[i]? with
      | none => rw [hs] at hk; cases hk
      | some s => rw [hs] at hk; simp at hk; exact ⟨s, rfl, hk.symm⟩
    · cases hk
  have hnoU : ∀ t, ¬ (Seg.U ⟨pre ++ [o], 0, pre.length, ss.map .val, st, st.own⟩ t) := by
    rintro t ⟨i, ob, y, k, _, hk, _, hm⟩
    obtain ⟨s, _, rfl⟩ := hkd i k hk
    cases hm
  have hnb : ∀ i id ob, Seg.kd ⟨pre ++ [o], 0, pre.length, ss.map .val, st, st.own⟩ i ≠ some (.bst id ob) := by
    intro i id ob hk
    obtain ⟨s, _, e⟩ := hkd i _ hk
    cases e
  have hsti : ∀ i, Seg.sti ⟨pre ++ [o], 0, pre.length, ss.map .val, st, st.own⟩ i = puts ((pre ++ [o]).take i) (ss.take i) st := by
    intro i
    unfold Seg.sti
    have hmm : (ss.map FK.val).map FK.sym = ss := by
      rw [List.map_map]
      have : (FK.sym ∘ FK.val) = fun s => s := rfl
      rw [this, List.map_id']
    simp only [List.drop_zero, Nat.sub_zero]
    rw [hmm]
  have hpt : ∀ i, i ≤ pre.length → (pre ++ [o]).take i = pre.take i := fun i hi => by rw [List.take_append_of_le_length hi]
  refine RegI.seg (pos := 0) (hi := pre.length) (ss.map .val) st.own [] st.own ?_ ?_ (.inl hcut) ?_
  · refine ⟨hok, ⟨Nat.zero_le _, by simp, by simp [hlen]⟩, fun t _ _ h => absurd h (hnoU t), fun i t ob m h => absurd ⟨i, ob, h⟩ (hnoU t), fun i j id ob ob' h => absurd h (hnb i id ob), fun id ob h => ⟨h, fun i ob => hnb i id ob⟩, ?_⟩
    intro i y k hy hk
    obtain ⟨s, hs, rfl⟩ := hkd i k hk
    have hi : i < pre.length := by
      have := (List.getElem?_eq_some_iff.1 hs).1
      omega
    have hy' : pre[i]? = some y := by
      have : (pre ++ [o])[i]? = pre[i]? := List.getElem?_append_left hi
      rw [← this]; exact hy
    obtain ⟨s', hs', hd', hst⟩ := chain_get hch hy'
    rw [hs] at hs'; cases hs'
    refine ⟨hd', fun t _ => hnoU t, ?_, hlo s (List.mem_of_getElem? hs)⟩
    show DStep P (pre ++ [o]) y (Seg.sti ⟨pre ++ [o], 0, pre.length, ss.map .val, st, st.own⟩ i) s
    rw [hsti, hpt i (by omega)]
    exact hst
  · refine ⟨fun t ob h => by simp at h, by simp, rfl, fun _ id ob h => .inr ⟨?_, fun i ob => hnb i id ob⟩⟩
    have hmem : ∀ {l : List (Nat × Obj')}, (l.map (·.1)).Nodup → (id, ob) ∈ l → alook l id = some ob := by
      intro l
      induction l with
      | nil => intro _ h; cases h
      | cons x r ih =>
        intro hn h
        obtain ⟨k, u⟩ := x
        simp only [List.map_cons, List.nodup_cons] at hn
        simp only [alook]
        rcases List.mem_cons.1 h with e | h
        · cases e; simp
        · have hne : k ≠ id := by intro e; subst e; exact hn.1 (List.mem_map.2 ⟨_, h, rfl⟩)
          rw [if_neg hne]; exact ih hn.2 h
    exact hmem hkeys h
  · have hfin : Seg.fin ⟨pre ++ [o], 0, pre.length, ss.map .val, st, st.own⟩ [] st.own = puts pre ss st := by
      unfold Seg.fin
      simp only [hsti, hpt pre.length (Nat.le_refl _), List.take_length]
      have hss : ss.take pre.length = ss := by rw [List.take_of_length_le (by omega)]
      obtain ⟨p1, p2, p3, p4, p5⟩ := puts_own pre ss st
      rw [hss]
      simp only [List.length_nil, Nat.add_zero, refF, numF, List.nil_append]
      cases hp : puts pre ss st with
      | mk n next slots own base moved =>
        rw [hp] at p1 p2 p3 p4 p5
        simp only at p1 p2 p3 p4 p5
        subst p1; subst p2; subst p3; subst p4; subst p5
        rfl
    rw [hfin]
    refine RegI.tot (Q .normal) (by simp) (.inr (by simp)) ?_ ?_
    · intro X w0 β a w hm N Q' hN
      unfold wpOp
      have : (pre ++ [o]).toArray[pre.length]? = some o := by simp
      rw [this]
      simp only [Region.wanted, hg, if_true]
      exact .inl (dop_sound hm hd N _ fun a' w' st' β' hk hm' => hN a' w' st' β' hk hm')
    · intro st' hK
      have : pre.length + 1 = (pre ++ [o]).length := by simp
      rw [this]
      exact .done hK
end
attribute [simp] ddrawL
end Go.V

namespace Go.V
variable [Dr]
open Go.RowKit

/-! ### the reckoner's run of a drawn region serves the logic: its data need not be closed -/
def trOf : List (Nat × Sym) → Tr
  | [] => .leaf
  | (t, s) :: r => (trOf r).put dep t s
def xsOf (st : St) : XS := ⟨st.n, st.next, trOf st.slots, st.own, st.base, st.moved⟩
def pickS (xs : XS) : List Nat → List (Nat × Sym)
  | [] => []
  | t :: r => match xs.get t with
    | some s => (t, s) :: pickS xs r
    | none => pickS xs r
/-- What is left of a state of the reckoner: the slots that are named. -/
def stOf (ts : List Nat) (xs : XS) : St := { n := xs.n, next := xs.next, slots := pickS xs ts, own := xs.own, base := xs.base, moved := xs.moved }
def smallS (l : List (Nat × Sym)) : Bool := l.all fun x => Nat.blt (x.1 + 1) 4096
theorem trOf_get : ∀ {l : List (Nat × Sym)} {u : Nat}, smallS l = true → Tr.get dep (trOf l) u = alook l u
  | [], u, h => Tr.get_leaf dep u
  | (t, s) :: r, u, h => by
    simp only [smallS, List.all_cons, Bool.and_eq_true] at h
    have ht : t + 1 < 4096 := by simpa using h.1
    simp only [trOf, alook]
    rw [Tr.get_put dep _ t s u (by simpa [dep] using ht), trOf_get (l := r) h.2]
theorem ag_of {st : St} (h : smallS st.slots = true) : Ag st (xsOf st) where
  n := rfl
  next := rfl
  own := rfl
  base := rfl
  moved := fun _ _ h => h
  slots := fun t => (trOf_get h).symm
theorem pickS_get {xs : XS} : ∀ {l : List Nat} {t : Nat} {s : Sym}, alook (pickS xs l) t = some s → xs.get t = some s
  | [], t, s, h => by simp [pickS, alook] at h
  | u :: r, t, s, h => by
    simp only [pickS] at h
    split at h
    · rename_i s' hs
      simp only [alook] at h
      split at h
      · rename_i e; subst e; rw [hs]; exact h
      · exact pickS_get h
    · exact pickS_get h
section
variable {P : Program} {Γ : XG} {call : Caller}
theorem Mods.ofAg {X : Nat → Prop} {w0 : Base} {st : St} {xs : XS} {β : Nat → Value} {a : Act} {w : World} (hm : Mods X w0 st β a w) (hag : Ag st xs) (ts : List Nat) : Mods X w0 (stOf ts xs) β a w := by
  have hn := hag.n; have hx := hag.next; have hb := hag.base
  have hst := hm.still
  refine ⟨hm.outer, ⟨?_, ?_⟩, hm.one, hm.defers, ?_, hm.below, ?_, ?_, ?_, ?_⟩
  · simp only [stOf]; rw [← hb, ← hx]; exact hst.1
  · intro i h1 h2
    simp only [stOf] at h1 h2
    rw [← hb] at h1
    exact hst.2 i h1 fun h => h2 (hag.moved i h1 h)
  · simp only [stOf]; rw [← hn]; exact hm.size
  · simp only [stOf]; rw [← hag.own]; exact hm.keys
  · simp only [stOf]; rw [← hag.own, ← hx]; exact hm.own
  · simp only [stOf]; rw [← hag.own]; exact hm.apart
  · intro t s ht
    have := pickS_get ht
    rw [← hag.slots] at this
    simp only [stOf]
    rw [← hag.own, ← hx]
    exact hm.slots t s this
def drawTo (Γ : XG) (call : Caller) (ops : List Oper) (st : St) (ts : List Nat) : Option St := match smallS st.slots with
  | true => (xdraw Γ call ops (xsOf st)).map (stOf ts)
  | false => none
theorem no_call : GoodCall P (fun _ _ _ _ => none) := by
  intro f args own n r h
  cases h
theorem draw_x (hmix : P.follows .mixedOrders = true) (hg : XGood P Γ) (hc : GoodCall P call) (ts : List Nat) {id : Nat} {ops : List Oper} {st st' : St} {Q : DE → St → Prop} (h : drawTo Γ call ops st ts = some st') (hq : Q .normal st') :
    Triple P (.region id ops.toArray true) Q st := by
  unfold drawTo at h
  split at h
  · rename_i hs
    rw [Option.map_eq_some_iff] at h
    obtain ⟨xs', hx, rfl⟩ := h
    have ht := xdraw_sound hmix hg hc id ops _ _ st (ag_of hs) hx
    intro X w0 β a w hm
    refine wp_mono (ht X w0 β a w hm) ?_
    rintro e a' w' ⟨de, st1, β', he, ⟨hn, hag⟩, hm'⟩
    subst hn
    exact ⟨.normal, _, β', he, hq, hm'.ofAg hag ts⟩
  · cases h
end
end Go.V


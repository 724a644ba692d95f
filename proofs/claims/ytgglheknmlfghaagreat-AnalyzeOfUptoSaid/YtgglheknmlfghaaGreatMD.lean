/- Contracts and plain laws of this seat: part MD. It needs no conditions. -/
import Derived.Test.YtgglheknmlfghaaGreatM1
import Derived.Test.YtgglheknmlfghaaGreatW1
import Derived.Test.YtgglheknmlfghaaGreatMC
set_option linter.unusedVariables false
set_option linter.unusedSimpArgs false
set_option linter.unusedSectionVars false
set_option maxRecDepth 100000
namespace Go.V
open Go
def renE (q : List Nat) (e : Edge) : Edge := { e with on := q.getD e.on 0 }
def zxb (q : List Nat) (o : Oper) : Oper := { o with after := (o.after.toList.map (renE q)).toArray }
def yhk : Oper := ⟨none, .assign (.const (.bool true)), 0, "", #[], none⟩
def zdd (p q : List Nat) (l : List Oper) : List Oper := p.map fun i => match l[i]? with
 | some o => zxb q o
 | none => yhk
def ydh (p q : List Nat) (l : List Oper) : Bool :=
 Nat.beq p.length l.length && (List.range l.length).all (fun i => Nat.blt (p.getD i l.length) l.length && Nat.blt (q.getD i l.length) l.length && Nat.beq (q.getD (p.getD i l.length) l.length) i && Nat.beq (p.getD (q.getD i l.length) l.length) i) &&
  l.all fun o => o.guard.isNone && o.after.toList.all fun e => Nat.blt e.on l.length
section
variable {P : Program} {p q : List Nat} {l : List Oper}
structure PermOk (p q : List Nat) (l : List Oper) : Prop where
 len : p.length = l.length
 fwd : ∀ i, i < l.length → p.getD i l.length < l.length ∧ q.getD (p.getD i l.length) l.length = i
 bwd : ∀ i, i < l.length → q.getD i l.length < l.length ∧ p.getD (q.getD i l.length) l.length = i
 plain : ∀ o ∈ l, o.guard = none ∧ ∀ e ∈ o.after.toList, e.on < l.length
theorem ydi (h : ydh p q l = true) : PermOk p q l := by
 unfold ydh at h
 simp only [Bool.and_eq_true, List.all_eq_true, List.mem_range, Nat.blt_eq] at h
 obtain ⟨⟨h1, h2⟩, h3⟩ := h
 refine ⟨Nat.eq_of_beq_eq_true h1, fun i hi => ⟨(h2 i hi).1.1.1, Nat.eq_of_beq_eq_true (h2 i hi).1.2⟩, fun i hi => ⟨(h2 i hi).1.1.2, Nat.eq_of_beq_eq_true (h2 i hi).2⟩, fun o ho => ?_⟩
 have := h3 o ho
 exact ⟨by simpa using this.1, this.2⟩
theorem zth (h : PermOk p q l) {i : Nat} {o : Oper} (hi : l[i]? = some o) : (zdd p q l)[q.getD i l.length]? = some (zxb q o) := by
 have hlt := (List.getElem?_eq_some_iff.1 hi).1
 obtain ⟨h1, h2⟩ := h.bwd i hlt
 have hp : p[q.getD i l.length]? = some i := by
  have hl : q.getD i l.length < p.length := by rw [h.len]; exact h1
  rw [List.getElem?_eq_getElem hl]; rw [List.getD_eq_getElem?_getD, List.getElem?_eq_getElem hl, Option.getD_some] at h2; rw [h2]
 unfold zdd
 rw [List.getElem?_map, hp, Option.map_some, hi]
theorem zhl (h : PermOk p q l) : (zdd p q l).length = l.length := by unfold zdd; rw [List.length_map, h.len]
theorem qget (h : PermOk p q l) {i : Nat} (hi : i < l.length) : q.getD i 0 = q.getD i l.length := by
 have h1 := (h.bwd i hi).1
 rw [List.getD_eq_getElem?_getD] at h1 ⊢
 rw [List.getD_eq_getElem?_getD]
 cases hq : q[i]? with
 | none => rw [hq] at h1; simp at h1
 | some x => rfl
structure RelB (q : List Nat) (n : Nat) (Lb Lc : Array Bool) : Prop where
 size : Lb.size = n
 size' : Lc.size = n
 same : ∀ i, i < n → Lc.getD (q.getD i n) false = Lb.getD i false
theorem zhm {Lb : Array Bool} {i : Nat} (h : i < Lb.size) (b c : Bool) : Lb.getD i b = Lb.getD i c := by simp [Array.getD, h]
theorem RelB.set (h : PermOk p q l) {Lb Lc : Array Bool} (hr : RelB q l.length Lb Lc) {i : Nat} (hi : i < l.length) : RelB q l.length (Lb.setIfInBounds i true) (Lc.setIfInBounds (q.getD i l.length) true) := by
 have hq := h.bwd i hi
 refine ⟨by simpa using hr.size, by simpa using hr.size', fun j hj => ?_⟩
 have hqj := h.bwd j hj
 have hs := hr.same j hj
 have e1 : q.getD j l.length < Lc.size := by rw [hr.size']; exact hqj.1
 have e2 : j < Lb.size := by rw [hr.size]; exact hj
 by_cases e : i = j
 ·subst e
  rw [List.getD_eq_getElem?_getD] at e1; simp [Array.getD, e1, e2]
 ·have hne : q.getD i l.length ≠ q.getD j l.length := by
   intro hh; have := hq.2
   rw [hh, hqj.2] at this; exact e this.symm
  have g1 : (Lc.setIfInBounds (q.getD i l.length) true).getD (q.getD j l.length) false = Lc.getD (q.getD j l.length) false := by
   simp only [Array.getD, Array.size_setIfInBounds, e1, dif_pos]; exact Array.getElem_setIfInBounds_ne _ hne
  have g2 : (Lb.setIfInBounds i true).getD j false = Lb.getD j false := by
   simp only [Array.getD, Array.size_setIfInBounds, e2, dif_pos]; exact Array.getElem_setIfInBounds_ne _ e
  rw [g1, g2, hs]
theorem zcb {l : List Oper} {Lb : Array Bool} (hs : Lb.size = l.length) {i : Nat} : i ∈ Region.ready .any l.toArray Lb ↔ ∃ o, l[i]? = some o ∧ Lb.getD i false = false ∧ ∀ e ∈ o.after.toList, Region.binds .any e = true → Lb.getD e.on false = true := by
 unfold Region.ready
 rw [List.mem_filter]
 constructor
 ·rintro ⟨h1, h2⟩
  have hlt : i < l.length := by simpa using h1
  rw [Bool.and_eq_true] at h2; have ho : l[i]? = some l[i] := List.getElem?_eq_getElem hlt
  have ho' : l.toArray[i]? = some l[i] := by simp
  rw [ho'] at h2; simp only [Option.map_some, Option.getD_some, Bool.not_eq_true'] at h2; refine ⟨l[i], ho, by rw [zhm (by omega) false true]; exact h2.1, fun e he hb => ?_⟩
  have := h2.2
  rw [Array.all_eq_true'] at this; have := this e (by simpa using he)
  simpa [hb] using this
 ·rintro ⟨o, ho, h1, h2⟩
  have hlt := (List.getElem?_eq_some_iff.1 ho).1; have ho' : l.toArray[i]? = some o := by simpa using ho
  refine ⟨by simpa using hlt, ?_⟩
  rw [Bool.and_eq_true, ho']; simp only [Option.map_some, Option.getD_some, Bool.not_eq_true']; refine ⟨by rw [zhm (by omega) true false]; exact h1, ?_⟩
  rw [Array.all_eq_true']; intro e he; cases hb : Region.binds .any e with
  | false => rfl
  | true => simpa using h2 e (by simpa using he) hb
theorem z0d (h : PermOk p q l) {o : Oper} {i : Nat} (ho : l[i]? = some o) {Lb Lc : Array Bool} (hr : RelB q l.length Lb Lc) : (∀ e ∈ (zxb q o).after.toList, Region.binds .any e = true → Lc.getD e.on false = true) ↔ ∀ e ∈ o.after.toList, Region.binds .any e = true → Lb.getD e.on false = true := by
 have hpl := h.plain o (List.mem_of_getElem? ho)
 have e1 : (zxb q o).after.toList = o.after.toList.map (renE q) := by simp [zxb]
 rw [e1]
 constructor
 ·intro hh e he hb
  have := hh (renE q e) (List.mem_map.2 ⟨e, he, rfl⟩) hb
  have hlt := hpl.2 e he; have e2 : (renE q e).on = q.getD e.on l.length := qget h hlt
  rw [e2, hr.same _ hlt] at this; exact this
 ·intro hh e he hb
  obtain ⟨e0, he0, rfl⟩ := List.mem_map.1 he; have hlt := hpl.2 e0 he0; have e2 : (renE q e0).on = q.getD e0.on l.length := qget h hlt
  rw [e2, hr.same _ hlt]; exact hh e0 he0 hb
theorem zm7 (h : PermOk p q l) {Lb Lc : Array Bool} (hr : RelB q l.length Lb Lc) {i : Nat} (hi : i < l.length) : q.getD i l.length ∈ Region.ready .any (zdd p q l).toArray Lc ↔ i ∈ Region.ready .any l.toArray Lb := by
 rw [zcb hr.size, zcb (by rw [zhl h]; exact hr.size')]
 have ho : l[i]? = some l[i] := List.getElem?_eq_getElem hi
 rw [zth h ho, ho]
 simp only [Option.some.injEq, exists_eq_left']
 rw [z0d h ho hr, hr.same i hi]
theorem yf4 (h : PermOk p q l) {i : Nat} (hi : i < l.length) {K : Act → World → Prop} {Q : Exit → Act → World → Prop} {a : Act} {w : World} (hh : wpOp P (zdd p q l).toArray Q (q.getD i l.length) K a w) : wpOp P l.toArray Q i K a w := by
 have ho : l[i]? = some l[i] := List.getElem?_eq_getElem hi
 have h1 := zth h ho
 have hg := (h.plain l[i] (List.getElem_mem hi)).1
 have h1' : (zdd p q l).toArray[q.getD i l.length]? = some (zxb q l[i]) := by simpa using h1
 have h2' : l.toArray[i]? = some l[i] := by simp
 unfold wpOp at hh ⊢
 rw [h1'] at hh
 rw [h2']
 have hg' : (zxb q l[i]).guard = none := hg
 simp only [Region.wanted, hg, hg', if_true] at hh ⊢
 exact hh
theorem ydj (h : PermOk p q l) {Q : Exit → Act → World → Prop} : ∀ (fuel : Nat) (Lb Lc : Array Bool) (a : Act) (w : World), RelB q l.length Lb Lc → wpAny P .any (zdd p q l).toArray Q fuel Lc a w → wpAny P .any l.toArray Q fuel Lb a w := by
 have hnil : ∀ Lb Lc, RelB q l.length Lb Lc → Region.ready .any l.toArray Lb = [] → Region.ready .any (zdd p q l).toArray Lc = [] := by
  intro Lb Lc hr he; cases hc : Region.ready .any (zdd p q l).toArray Lc with
  | nil => rfl
  | cons k r =>
   have hk : k ∈ Region.ready .any (zdd p q l).toArray Lc := by rw [hc]; exact List.mem_cons_self ..
   have hkl : k < l.length := by
    obtain ⟨o, ho, _⟩ := (zcb (by rw [zhl h]; exact hr.size')).1 hk
    have := (List.getElem?_eq_some_iff.1 ho).1
    rw [zhl h] at this; exact this
   obtain ⟨f1, f2⟩ := h.fwd k hkl; have := (zm7 h hr f1).1 (by rw [f2]; exact hk)
   rw [he] at this; cases this
 intro fuel
 induction fuel with
 | zero =>
  intro Lb Lc a w hr hh; refine ⟨?_, hh.2⟩
  cases hc : Region.ready .any l.toArray Lb with
  | nil => rfl
  | cons k r =>
   have hk : k ∈ Region.ready .any l.toArray Lb := by rw [hc]; exact List.mem_cons_self ..
   have hkl : k < l.length := by
    obtain ⟨o, ho, _⟩ := (zcb hr.size).1 hk; exact (List.getElem?_eq_some_iff.1 ho).1
   have := (zm7 h hr hkl).2 hk
   rw [hh.1] at this; cases this
 | succ fuel ih =>
  intro Lb Lc a w hr hh; refine ⟨fun he => hh.1 (hnil Lb Lc hr he), fun i hi => ?_⟩
  have hil : i < l.length := by
   obtain ⟨o, ho, _⟩ := (zcb hr.size).1 hi; exact (List.getElem?_eq_some_iff.1 ho).1
  have h1 := hh.2 (q.getD i l.length) ((zm7 h hr hil).2 hi); exact yf4 h hil (wpOp_mono (fun a w hh => ih _ _ a w (hr.set h hil) hh) h1)
variable {st : St}
end
end Go.V
namespace Go.V
open Go
section
variable {P : Program} {ops : Array Oper} {Q : Exit → Act → World → Prop}
theorem z5i {j : Nat} {oi oj : Oper} {v : Value} (hj : ops[j]? = some oj) (hap : oi.apart ops oj = true)
  (hsi : ∀ cs b, oi.op ≠ .select cs b) (hsj : ∀ cs b, oj.op ≠ .select cs b)
  (hQ : ∀ c a w, ¬ Q (.panic c) a w) (hlet : ¬ LetsOut Q) {K : Act → World → Prop} {a : Act} {w : World}
  (hy : Go.Yields P ops oi v a) (h : wpOp P ops Q j K a w) :
  wpOp P ops Q j (fun b w' => ∃ a', b = a'.put oi.dst v ∧ Go.Yields P ops oi v a' ∧ K a' w') (a.put oi.dst v) w := by
 obtain ⟨h1, h2, h3⟩ := Oper.apart_spec hap
 have keep : ∀ (a : Act), Go.Yields P ops oi v a → ∀ u, Go.Yields P ops oi v (a.put oj.dst u) := fun a hy u =>
  hy.of_same (execOp_put oi hsi a oj.dst u h3) (wanted_put oi a oj.dst u h3)
 have keepD : ∀ d, Go.Yields P ops oi v { a with defers := d :: a.defers } := fun d => hy.of_same rfl rfl
 unfold wpOp at *
 simp only [hj] at *
 rw [wanted_put oj a oi.dst v h1]
 split
 ·rename_i hw
  simp only [hw, if_true] at h; rcases h with h | ⟨_, hlets⟩
  case inr => exact absurd hlets hlet
  refine .inl ?_
  unfold Oper.wp at *; rw [execOp_put oj hsj a oi.dst v h1]; generalize (execOp a.eval oj).run P w = r at *; cases r with
  | ok n w' =>
   cases n <;> simp only [Oper.upon] at h ⊢
   case value u => exact ⟨a.put oj.dst u, Act.put_comm a v u h2, keep a hy u, h⟩
   case skip => exact ⟨a.put oj.dst undef, Act.put_comm a v undef h2, keep a hy _, h⟩
   case defer d =>
    refine ⟨_, ?_, keep _ (keepD d) _, h⟩
    rw [Act.put_defers]; exact Act.put_comm _ v undef h2
   case enter f args =>
    refine Calls.mono h fun e w'' he => ?_
    cases e with
    | returned u => exact ⟨a.put oj.dst u, Act.put_comm a v u h2, keep a hy u, he⟩
    | panicked c => exact absurd he (hQ _ _ _)
    | outgrown => exact absurd he hlet
   case row row args => exact Rows.mono h fun u w'' he => ⟨a.put oj.dst u, Act.put_comm a v u h2, keep a hy u, he⟩
  | halt x w' =>
   cases x <;> simp only [Oper.upon] at h ⊢
   case panic u => exact absurd h (hQ _ _ _)
 ·rename_i hw
  simp only [hw] at h; exact ⟨a.put oj.dst undef, Act.put_comm a v undef h2, keep a hy _, h⟩
end
def waitFor (x y : Nat) (l : List Oper) : List Oper := l.zipIdx.map fun p => if p.2 = y then { p.1 with after := p.1.after.push ⟨x, .data⟩ } else p.1
structure WaitOk (P : Program) (x y : Nat) (l : List Oper) : Prop where
 ne : x ≠ y
 xs : x < l.length
 ys : y < l.length
 free : ∀ o, l[x]? = some o → o.after = #[]
 plain : ∀ o ∈ l, o.guard = none ∧ (∀ cs b, o.op ≠ .select cs b)
 dep : ∀ (j : Nat) o, l[j]? = some o → (∃ e ∈ o.after.toList, e.on = y) → ∃ e ∈ o.after.toList, Region.binds .any e = true ∧ e.on = x
 apart : ∀ (j : Nat) o oy, l[j]? = some o → l[y]? = some oy → j ≠ y → (∀ e ∈ o.after.toList, e.on ≠ y) → (∀ e ∈ oy.after.toList, Region.binds .any e = true → e.on ≠ j) → oy.apart l.toArray o = true
 valx : ∀ ox, l[x]? = some ox → ∀ (a : Act) (w : World), ∃ u w1, (execOp a.eval ox).run P w = .ok (.value u) w1
 val : ∀ oy, l[y]? = some oy → ∀ a : Act, (∃ v, ∀ w, (execOp a.eval oy).run P w = .ok (.value v) w) ∨ ∀ w, ∃ h w1, (execOp a.eval oy).run P w = .halt (.stuck h) w1
section
variable {P : Program} {x y : Nat} {l : List Oper}
theorem zm8 {j : Nat} {o : Oper} (hj : l[j]? = some o) : (waitFor x y l)[j]? = some (if j = y then { o with after := o.after.push ⟨x, .data⟩ } else o) := by
 unfold waitFor
 rw [List.getElem?_map, List.getElem?_zipIdx, hj]
 simp
theorem zhn : (waitFor x y l).length = l.length := by unfold waitFor; simp
theorem zfm (h : WaitOk P x y l) {Lb : Array Bool} (hs : Lb.size = l.length) {j : Nat} : j ∈ Region.ready .any (waitFor x y l).toArray Lb ↔ j ∈ Region.ready .any l.toArray Lb ∧ (j = y → Lb.getD x false = true) := by
 rw [zcb hs, zcb (by rw [zhn]; exact hs)]
 constructor
 ·rintro ⟨o', ho', h1, h2⟩
  have hjl : j < l.length := by
   have := (List.getElem?_eq_some_iff.1 ho').1
   rw [zhn] at this; exact this
  have ho : l[j]? = some l[j] := List.getElem?_eq_getElem hjl
  rw [zm8 ho] at ho'; cases ho'
  refine ⟨⟨l[j], ho, h1, fun e he hb => ?_⟩, fun hjy => ?_⟩
  ·refine h2 e ?_ hb
   split
   ·simp [he]
   ·exact he
  ·rw [if_pos hjy] at h2
   exact h2 ⟨x, .data⟩ (by simp) rfl
 ·rintro ⟨⟨o, ho, h1, h2⟩, h3⟩
  refine ⟨_, zm8 ho, h1, fun e he hb => ?_⟩
  split at he
  ·rename_i hjy
   simp only [Array.toList_push, List.mem_append, List.mem_singleton] at he; rcases he with he | he
   ·exact h2 e he hb
   ·rw [he]; exact h3 hjy
  ·exact h2 e he hb
theorem zqe (h : WaitOk P x y l) {j : Nat} {K : Act → World → Prop} {Q : Exit → Act → World → Prop} {a : Act} {w : World} (hh : wpOp P (waitFor x y l).toArray Q j K a w) : wpOp P l.toArray Q j K a w := by
 cases ho : l[j]? with
 | none =>
  have h1 : l.toArray[j]? = none := by simpa using ho
  have h2 : (waitFor x y l).toArray[j]? = none := by
   have : l.length ≤ j := List.getElem?_eq_none_iff.1 ho
   simpa [zhn] using this
  unfold wpOp at hh ⊢; rw [h2] at hh; rw [h1]; exact hh
 | some o =>
  have h1 : l.toArray[j]? = some o := by simpa using ho
  have h2 := zm8 (x := x) (y := y) ho; have h2' : (waitFor x y l).toArray[j]? = some (if j = y then { o with after := o.after.push ⟨x, .data⟩ } else o) := by simpa using h2
  have hg := (h.plain o (List.mem_of_getElem? ho)).1; unfold wpOp at hh ⊢; rw [h2'] at hh; rw [h1]; by_cases e : j = y
  ·rw [if_pos e] at hh
   simp only [Region.wanted, hg, if_true] at hh ⊢; exact hh
  ·rw [if_neg e] at hh
   simp only [Region.wanted, hg, if_true] at hh ⊢; exact hh
theorem ydk (h : WaitOk P x y l) {Q : Exit → Act → World → Prop} (hQ : ∀ c a w, ¬ Q (.panic c) a w) (hlet : ¬ LetsOut Q) : ∀ (fuel : Nat),
  (∀ (Lb : Array Bool) (a : Act) (w : World), Lb.size = l.length → left Lb ≤ fuel → wpAny P .any (waitFor x y l).toArray Q fuel Lb a w → wpAny P .any l.toArray Q fuel Lb a w) ∧
  (∀ (Lb : Array Bool) (a : Act) (w : World) (oy : Oper) (v : Value), Lb.size = l.length → left (Lb.setIfInBounds y true) ≤ fuel → l[y]? = some oy → Lb.getD y false = false → Lb.getD x false = false →
   (∀ e ∈ oy.after.toList, Region.binds .any e = true → Lb.getD e.on false = true) → Go.Yields P l.toArray oy v a → wpAny P .any (waitFor x y l).toArray Q (fuel + 1) Lb a w → wpAny P .any l.toArray Q fuel (Lb.setIfInBounds y true) (a.put oy.dst v) w) := by
 have hys := h.ys
 have hxs := h.xs
 have hyat : l[y]? = some l[y] := List.getElem?_eq_getElem h.ys
 have hxat : l[x]? = some l[x] := List.getElem?_eq_getElem h.xs
 intro fuel
 induction fuel with
 | zero =>
  refine ⟨fun Lb a w hs hf hh => ⟨?_, hh.2⟩, fun Lb a w oy v hs hf hoy hy0 hx0 hdeps hyl hh => ?_⟩
  ·cases hc : Region.ready .any l.toArray Lb with
   | nil => rfl
   | cons k r =>
    have hk : k ∈ Region.ready .any l.toArray Lb := by rw [hc]; exact List.mem_cons_self ..
    obtain ⟨o, ho, h1, _⟩ := (zcb hs).1 hk; have hkl := (List.getElem?_eq_some_iff.1 ho).1; have := zph (Lb := Lb) (i := k) (by omega) (by unfold lst; rw [zhm (by omega) true false, h1]; decide)
    omega
  ·have hx0' : (Lb.setIfInBounds y true).getD x false = false := by rw [getD_set_ne false (Ne.symm h.ne)]; exact hx0
   have hxl : x < (Lb.setIfInBounds y true).size := by simp [hs]; exact h.xs
   have := zph (Lb := Lb.setIfInBounds y true) (i := x) hxl (by unfold lst; rw [zhm hxl true false, hx0']; decide)
   omega
 | succ fuel ih =>
  obtain ⟨ihA, ihB⟩ := ih; refine ⟨fun Lb a w hs hf hh => ⟨fun he => hh.1 ?_, fun j hj => ?_⟩, fun Lb a w oy v hs hf hoy hy0 hx0 hdeps hyl hh => ⟨fun he => ?_, fun j hj => ?_⟩⟩
  ·cases hc : Region.ready .any (waitFor x y l).toArray Lb with
   | nil => rfl
   | cons k r =>
    have := ((zfm h hs).1 (show k ∈ Region.ready .any (waitFor x y l).toArray Lb by rw [hc]; exact List.mem_cons_self ..)).1
    rw [he] at this; cases this
  ·obtain ⟨o, ho, h1, h2⟩ := (zcb hs).1 hj
   have hjl := (List.getElem?_eq_some_iff.1 ho).1; have hleft := zj7 (Lb := Lb) (i := j) (by omega) (by unfold lst; rw [zhm (by omega) true false, h1]; decide)
   by_cases hc : j = y → Lb.getD x false = true
   ·have := hh.2 j ((zfm h hs).2 ⟨hj, hc⟩)
    exact zqe h (wpOp_mono (fun a w hh => ihA _ a w (by simpa using hs) (by omega) hh) this)
   ·have hjy : j = y := Classical.byContradiction fun e => hc fun e2 => absurd e2 e
    subst hjy; have hx0 : Lb.getD x false = false := by
     cases hb : Lb.getD x false with
     | false => rfl
     | true => exact absurd (fun _ => hb) hc
    have hg := (h.plain o (List.mem_of_getElem? ho)).1; have hgx := (h.plain l[x] (List.getElem_mem hxs)).1; have hfree := h.free _ hxat; have hapx := h.apart x l[x] o hxat ho h.ne (by rw [hfree]; intro e he; simp at he) (fun e he hb hex => by have := h2 e he hb; rw [hex, hx0] at this; cases this)
    obtain ⟨_, _, h3⟩ := Oper.apart_spec hapx; have hxat' : l.toArray[x]? = some l[x] := by simp
    have ho0 : l.toArray[j]? = some o := by simpa using ho
    have hxr : x ∈ Region.ready .any (waitFor x j l).toArray Lb := by
     refine (zfm h hs).2 ⟨(zcb hs).2 ⟨l[x], hxat, hx0, fun e he => ?_⟩, fun e => absurd e h.ne⟩
     rw [hfree] at he; simp at he
    have hx1 := zqe h (hh.2 x hxr); obtain ⟨u, w1, hu⟩ := h.valx _ hxat a w; have hx2 : wpAny P .any (waitFor x j l).toArray Q fuel (Lb.setIfInBounds x true) (a.put l[x].dst u) w1 := by
     unfold wpOp at hx1; simp only [hxat', Region.wanted, hgx, if_true] at hx1; rcases hx1 with hx1 | ⟨_, hl⟩
     ·unfold Oper.wp at hx1
      rw [hu] at hx1; exact hx1
     ·exact absurd hl hlet
    have hleft2 := zj7 (Lb := Lb.setIfInBounds j true) (i := x) (by simp [hs]; exact hxs) (by unfold lst; rw [zhm (by simp [hs]; exact hxs) true false, getD_set_ne false (Ne.symm h.ne), hx0]; decide)
    obtain ⟨v, hv⟩ : ∃ v, ∀ w, (execOp a.eval o).run P w = .ok (.value v) w := by
     cases fuel with
     | zero => omega
     | succ f2 =>
      have hyr : j ∈ Region.ready .any (waitFor x j l).toArray (Lb.setIfInBounds x true) := by
       refine (zfm h (by simpa using hs)).2 ⟨(zcb (by simpa using hs)).2 ⟨o, ho, by rw [getD_set_ne false h.ne]; exact h1, fun e he hb => getD_set_true (h2 e he hb)⟩, fun _ => ?_⟩
       have : x < Lb.size := by omega
       simp [Array.getD, this]
      have hy1 := zqe h (hx2.2 j hyr); unfold wpOp at hy1; simp only [ho0, Region.wanted, hg, if_true] at hy1; rcases hy1 with hy1 | ⟨_, hl⟩
      ·unfold Oper.wp at hy1
       rw [execOp_put (ops := l.toArray) o (h.plain o (List.mem_of_getElem? ho)).2 a l[x].dst u h3] at hy1; rcases h.val o ho a with hv | hv
       ·exact hv
       ·obtain ⟨hh1, ww, hst⟩ := hv w1
        rw [hst] at hy1; simp only [Oper.upon] at hy1
      ·exact absurd hl hlet
    have hyl : Go.Yields P l.toArray o v a := .inl ⟨by simp [Region.wanted, hg], hv⟩
    have ho' : l.toArray[j]? = some o := by simpa using ho
    exact hyl.wpOp ho' (ihB Lb a w o v hs (by omega) ho h1 hx0 h2 hyl hh)
  ·
   have hxr : x ∈ Region.ready .any l.toArray (Lb.setIfInBounds y true) := by
    refine (zcb (by simpa using hs)).2 ⟨l[x], hxat, by rw [getD_set_ne false (Ne.symm h.ne)]; exact hx0, fun e he => ?_⟩
    rw [h.free _ hxat] at he; simp at he
   rw [he] at hxr; cases hxr
  ·have hs' : (Lb.setIfInBounds y true).size = l.length := by simpa using hs
   obtain ⟨o, ho, h1, h2⟩ := (zcb hs').1 hj; have hjl := (List.getElem?_eq_some_iff.1 ho).1; have hjy : j ≠ y := by
    intro e; subst e; have : (Lb.setIfInBounds j true).getD j false = true := by
     have : j < Lb.size := by omega
     simp [Array.getD, this]
    rw [this] at h1; cases h1
   have hleft := zj7 (Lb := Lb.setIfInBounds y true) (i := j) (by omega) (by unfold lst; rw [zhm (by omega) true false, h1]; decide)
   have hcomm : (Lb.setIfInBounds y true).setIfInBounds j true = (Lb.setIfInBounds j true).setIfInBounds y true := Array.setIfInBounds_comm _ _ (Ne.symm hjy)
   have hnoy : ∀ e ∈ o.after.toList, e.on ≠ y := by
    intro e he hy; obtain ⟨e2, he2, hb2, hx2⟩ := h.dep j o ho ⟨e, he, hy⟩; have := h2 e2 he2 hb2
    rw [hx2, getD_set_ne false (Ne.symm h.ne), hx0] at this; cases this
   have hrd : j ∈ Region.ready .any l.toArray Lb := by
    refine (zcb hs).2 ⟨o, ho, by rw [getD_set_ne false (Ne.symm hjy)] at h1; exact h1, fun e he hb => ?_⟩
    have := h2 e he hb
    rw [getD_set_ne false (Ne.symm (hnoy e he))] at this; exact this
   have hap := h.apart j o oy ho hoy hjy hnoy (fun e he hb hej => by
    have h3 := hdeps e he hb; rw [hej] at h3; rw [getD_set_ne false (Ne.symm hjy), h3] at h1; cases h1)
   have ho' : l.toArray[j]? = some o := by simpa using ho
   have hsel := fun o (hm : o ∈ l) => (h.plain o hm).2
   have hstep := zqe h (hh.2 j ((zfm h hs).2 ⟨hrd, fun e => absurd e hjy⟩))
   have hw := z5i (oi := oy) (v := v) ho' hap (hsel oy (List.mem_of_getElem? hoy)) (hsel o (List.mem_of_getElem? ho)) hQ hlet hyl hstep; refine wpOp_mono ?_ hw
   rintro b w' ⟨a', rfl, hyl', hK⟩
   by_cases hjx : j = x
   ·subst hjx
    -- then y at once
    have hyr : y ∈ Region.ready .any (waitFor j y l).toArray (Lb.setIfInBounds j true) := by
     refine (zfm h (by simpa using hs)).2 ⟨(zcb (by simpa using hs)).2 ⟨oy, hoy, by rw [getD_set_ne false hjy]; exact hy0, fun e he hb => getD_set_true (hdeps e he hb)⟩, fun _ => ?_⟩
     have : j < Lb.size := by omega
     simp [Array.getD, this]
    have hy1 := zqe h (hK.2 y hyr); have hoy' : l.toArray[y]? = some oy := by simpa using hoy
    have hg := (h.plain oy (List.mem_of_getElem? hoy)).1; have hput : wpAny P .any (waitFor j y l).toArray Q fuel ((Lb.setIfInBounds j true).setIfInBounds y true) (a'.put oy.dst v) w' := by
     unfold wpOp at hy1; simp only [hoy', Region.wanted, hg, if_true] at hy1; rcases hyl' with ⟨_, hv⟩ | ⟨hw, _⟩
     ·rcases hy1 with hy1 | ⟨_, hl⟩
      ·unfold Oper.wp at hy1
       rw [hv w'] at hy1; exact hy1
      ·exact absurd hl hlet
     ·simp [Region.wanted, hg] at hw
    rw [hcomm]; exact ihA _ _ _ (by simpa using hs) (by rw [← hcomm]; omega) hput
   ·rw [hcomm]
    refine ihB (Lb.setIfInBounds j true) a' w' oy v (by simpa using hs) (by rw [← hcomm]; omega) hoy (by rw [getD_set_ne false hjy]; exact hy0) (by rw [getD_set_ne false hjx]; exact hx0) (fun e he hb => getD_set_true (hdeps e he hb)) hyl' hK
variable {p q : List Nat} {st : St}
def yhl (x y : Nat) (l : List Oper) : Bool :=
 !(Nat.beq x y) && Nat.blt x l.length && Nat.blt y l.length && (match l[x]? with | some o => o.after.toList.isEmpty | none => true) &&
  (l.all fun o => o.guard.isNone && (match o.op with | .select _ _ => false | _ => true)) &&
  (l.all fun o => !(o.after.toList.any fun e => Nat.beq e.on y) || (o.after.toList.any fun e => Region.binds .any e && Nat.beq e.on x)) &&
  ((List.range l.length).all fun j => match l[j]?, l[y]? with
   | some o, some oy => Nat.beq j y || (o.after.toList.any fun e => Nat.beq e.on y) || (oy.after.toList.any fun e => Region.binds .any e && Nat.beq e.on j) || oy.apart l.toArray o
   | _, _ => true)
theorem ydl (h : yhl x y l = true)
  (valx : ∀ ox, l[x]? = some ox → ∀ (a : Act) (w : World), ∃ u w1, (execOp a.eval ox).run P w = .ok (.value u) w1)
  (val : ∀ oy, l[y]? = some oy → ∀ a : Act, (∃ v, ∀ w, (execOp a.eval oy).run P w = .ok (.value v) w) ∨ ∀ w, ∃ h w1, (execOp a.eval oy).run P w = .halt (.stuck h) w1) : WaitOk P x y l := by
 unfold yhl at h
 simp only [Bool.and_eq_true, Bool.not_eq_true', Nat.blt_eq] at h
 obtain ⟨⟨⟨⟨⟨⟨h1, h2⟩, h3⟩, h4⟩, h5⟩, h6⟩, h7⟩ := h
 refine ⟨fun e => ?_, h2, h3, fun o ho => ?_, fun o ho => ?_, fun j o ho hex => ?_, fun j o oy ho hoy hne hno hnd => ?_, valx, val⟩
 ·subst e; rw [Nat.beq_refl] at h1; cases h1
 ·rw [ho] at h4
  simp only [List.isEmpty_iff] at h4; simpa using h4
 ·have := (List.all_eq_true.1 h5) o ho
  rw [Bool.and_eq_true] at this; refine ⟨by simpa using this.1, fun cs b e => ?_⟩
  rw [e] at this; exact absurd this.2 (by simp)
 ·have := (List.all_eq_true.1 h6) o (List.mem_of_getElem? ho)
  rw [Bool.or_eq_true] at this; rcases this with hn | hy
  ·obtain ⟨e, he, hey⟩ := hex
   rw [Bool.not_eq_true', List.any_eq_false] at hn; exact absurd (by rw [hey]; exact Nat.beq_refl y) (hn e he)
  ·obtain ⟨e, he, hb⟩ := List.any_eq_true.1 hy
   rw [Bool.and_eq_true] at hb; exact ⟨e, he, hb.1, Nat.eq_of_beq_eq_true hb.2⟩
 ·have hjl := (List.getElem?_eq_some_iff.1 ho).1
  have := (List.all_eq_true.1 h7) j (List.mem_range.2 hjl)
  rw [ho, hoy] at this; simp only [Bool.or_eq_true] at this; rcases this with ((hj | hj) | hj) | hj
  ·exact absurd (Nat.eq_of_beq_eq_true hj) hne
  ·obtain ⟨e, he, hb⟩ := List.any_eq_true.1 hj
   exact absurd (Nat.eq_of_beq_eq_true hb) (hno e he)
  ·obtain ⟨e, he, hb⟩ := List.any_eq_true.1 hj
   rw [Bool.and_eq_true] at hb; exact absurd (Nat.eq_of_beq_eq_true hb.2) (hnd e he hb.1)
  ·exact hj
theorem z0e {id : Nat} (hmix : P.follows .mixedOrders = true) (hw : WaitOk P x y l) (hp : ydh p q (waitFor x y l) = true) (hok : zb0 (zdd p q (waitFor x y l)) = true) {Q : DE → St → Prop} (h : RegI P (zdd p q (waitFor x y l)) (Q .normal) 0 st) : Triple P (.region id l.toArray true) Q st := by
 have hP := ydi hp
 intro X w0 β a w hm
 refine wp_region_any hmix ?_
 have hm1 : Mods X w0 st β a { w with drawn := w.drawn + 1 } := by
  have hb : Below w.heap.size w { w with drawn := w.drawn + 1 } := ⟨⟨rfl, rfl, rfl, Nat.le_refl _, fun _ _ => rfl⟩, fun _ => Nat.le_succ _⟩
  have := hm.put hb (dst := none) (s := .junk) (v := undef) (by simp) (by simp [Sym.lo]) (by simp [Sm])
  simpa [St.put, Act.put] using this
 have hsz : l.toArray.size = l.length := by simp
 rw [hsz]
 have hQp : ∀ c a w, ¬ (fun (e : Exit) a' w' => ∃ de st' β', exM e de ∧ Q de st' ∧ Mods X w0 st' β' a' w') (.panic c) a w := by
  rintro c a w ⟨de, st', β', he, _⟩
  cases de <;> exact he
 have hQo : ¬ LetsOut (fun (e : Exit) a' w' => ∃ de st' β', exM e de ∧ Q de st' ∧ Mods X w0 st' β' a' w') := by
  rintro ⟨a, w, de, st', β', he, _⟩
  cases de <;> exact he
 have hlen := zhl hP
 have hwl : (waitFor x y l).length = l.length := zhn
 refine (ydk hw hQp hQo l.length).1 (Array.replicate l.length false) a _ (by simp) (by simp [left]) ?_
 rw [← hwl]
 refine ydj (P := P) hP (waitFor x y l).length _ (Array.replicate (waitFor x y l).length false) a _ ⟨by simp, by simp, fun i hi => ?_⟩ ?_
 ·have := (hP.bwd i hi).1
  simp [Array.getD, hi, this]
 have hnone : ∀ j, j < (zdd p q (waitFor x y l)).length → ¬ lst (Array.replicate (waitFor x y l).length false) j := by
  intro j hj h; rw [hlen] at hj; unfold lst at h; simp [Array.getD, hj] at h
 refine zos (P := P) (X := X) (w0 := w0) hok (K := Q .normal) (fun a w st' β hk hm' => ⟨.normal, st', β, trivial, hk, hm'⟩) h β a _ _ hm1 ⟨by simp [hlen], ?_⟩ (fun j hj => ⟨fun h => absurd h (hnone j hj), fun h => by omega⟩) _ ?_
 ·intro j y hj hl
  exact absurd hl (hnone j (List.getElem?_eq_some_iff.1 hj).1)
 ·simp [left]
end
theorem z9k {P : Program} {t : Nat} {parts : Array (Nat × Operand)} {o : Oper} (ho : o.op = .build t parts) {it : TypeInfo} {fields : Array Field} {z : Value} {places : List (Nat × Nat)}
  (hit : P.info? t = some it) (hu : P.underlying t = some (.struct fields)) (hz : it.zero = some z) (hp : fields.toList.mapM (fun f => (P.info? f.type).map fun i => (f.offset, i.size)) = some places) (a : Act) :
  (∃ v, ∀ w, (execOp a.eval o).run P w = .ok (.value v) w) ∨ ∀ w, ∃ h w1, (execOp a.eval o).run P w = .halt (.stuck h) w1 := by
 cases hf : Instr.fill (fun x => places.toArray[x]?) z.cells (parts.map fun (i, x) => (i, a.eval x)).toList with
 | some cells =>
  left
  refine ⟨.agg cells, fun w => ?_⟩
  have hb : P.built t (parts.map fun (i, x) => (i, a.eval x)).toList = some cells := by
   unfold Program.built; simp only [hit, hu, hz, hp]; exact hf
  unfold execOp; simp only [ho, Sem.run_bind, run_build w t _ cells hb, Result.andThen_ok]; rfl
 | none =>
  right
  intro w; have h' : Instr.fill (fun x => places[x]?) z.cells (List.map (fun x => (x.1, a.eval x.2)) parts.toList) = none := by simpa using hf
  refine ⟨?_, w, ?_⟩
  rotate_left
  unfold execOp; simp [ho, Instr.build, run_underlying hu, typeInfo, zeroValue, hit, hz, Array.mapM_eq_mapM_toList, run_places w _ _ hp, h', stuck]
  rfl
theorem z9l {P : Program} {t : Nat} {o : Oper} (ho : o.op = .alloc t) {it : TypeInfo} {z : Value} (hit : P.info? t = some it) (hz : it.zero = some z) (a : Act) (w : World) : ∃ u w1, (execOp a.eval o).run P w = .ok (.value u) w1 := by
 refine ⟨.pointer (some ⟨w.heap.size, 0, none⟩), w.alloc (.cells z.cells t), ?_⟩
 simp [execOp, ho, Instr.alloc, zeroValue, typeInfo, hit, hz, newVar, newRow]
theorem yf5 {P : Program} {st : St} (hmix : P.follows .mixedOrders = true) (x y : Nat) (p q : List Nat) (m : Nat) (vl : List Nat) {id : Nat} {l ops : List Oper} {Q : DE → St → Prop} (hw : WaitOk P x y l) (hp : ydh p q (waitFor x y l) = true) (he : zdd p q (waitFor x y l) = ops) (hok : zb0 ops = true) (hm : Nat.ble m ops.length = true) (hcut : (Nat.beq m ops.length || cutB ops m) = true) (hcuts : zym ops m = true) (hsm : ztv st.slots = true)
  (h : fseg P ops st.next vl (fun stF rks hs => ztx ops (ops.take m) rks.reverse = true ∧ zrk P (Q .normal) (ops.drop m) { st with next := st.next + hs.length, slots := refF st.next hs ++ stF.slots, own := numF st.next hs ++ st.own }) (ops.take m) st [] []) :
  Triple P (.region id l.toArray true) Q st := by
 rw [Nat.ble_eq] at hm
 subst he
 refine z0e hmix hw hp hok ?_
 generalize zdd p q (waitFor x y l) = ops at *
 have hag : Ag st (xsOf st) := ygt hsm
 obtain ⟨hI0, hown⟩ := zmt (P := P) (all := ops) hag (Nat.zero_le _) []
 have e0 : (zdn (xsOf st) []).xt.own = st.own := rfl
 rw [e0] at hI0 hown
 have hst0 : Seg.sti ⟨ops, 0, 0, (zdn (xsOf st) []).rks.reverse, st, fun _ => st.own⟩ 0 = st := by
  unfold Seg.sti; simp [puts]
 have hlen : (ops.take m).length = m := by rw [List.length_take]; omega
 obtain ⟨F, st', hI, hsti, how, hseg, htl⟩ := zj8 (l := ops.take m) hok (by simp) rfl hI0 hst0 h
 rw [hlen, Nat.zero_add] at hI hsti
 have how' : F.ow = st.own := how
 have hsg : zy8 ops ((ops.drop 0).take (m - 0)) F.rks.reverse 0 ((ops.drop 0).take (m - 0)) F.rks.reverse = true ∧ nodupB (zf2 F.rks.reverse) = true := by
  unfold ztx at hseg; rw [Bool.and_eq_true] at hseg; simpa using hseg
 obtain ⟨g1, g2, g3⟩ := zgi (s0 := xsOf st) hok hI hown hag (xs' := { (xsOf st) with next := (xsOf st).next + F.hs.length, slots := zy9 F.xt (xsOf st).next F.hs, own := numF (xsOf st).next F.hs ++ F.ow }) (by
  unfold zn0; simp only
  rw [zae, Bool.and_eq_true]; exact ⟨hsg, rfl⟩)
 refine .seg (hi := m) F.rks.reverse (fun _ => st.own) F.hs F.ow g1 g2 ?_ ?_
 ·rw [Bool.or_eq_true, beq_iff] at hcut
  exact hcut.elim .inr .inl
 ·have hfin : Seg.fin ⟨ops, 0, m, F.rks.reverse, st, fun _ => st.own⟩ F.hs F.ow = { st with next := st.next + F.hs.length, slots := refF st.next F.hs ++ st'.slots, own := numF st.next F.hs ++ st.own } := by
   unfold Seg.fin; rw [hsti, how']
  rw [hfin]; generalize ({ st with next := st.next + F.hs.length, slots := refF st.next F.hs ++ st'.slots, own := numF st.next F.hs ++ st.own } : St) = stE at htl; refine zer hm rfl (fun i h1 h2 => ?_) htl
  unfold zym at hcuts; rw [List.all_eq_true] at hcuts; have := hcuts i (List.mem_range.2 h2)
  rw [Bool.or_eq_true, Nat.ble_eq] at this; rcases this with e | e
  ·omega
  ·exact e
end Go.V
namespace Go.V
open Go Go.Proofs
section
variable {P : Program} {st : St} {Q : DE → St → Prop}
theorem zxc {c : Code} (t e sz : Nat) (ht : zac st.slots t = some .nils) (h : Triple P c Q { st.new (.arr e sz []) with slots := (t, .ar st.next) :: st.slots }) : Triple P c Q st := by
 intro X w0 β a w hm
 have hm' := hm.z2y e sz
 refine h X w0 _ a w { hm' with slots := fun k s hk => ?_ }
 simp only [zac] at hk
 by_cases hkt : t = k
 ·rw [if_pos hkt] at hk
  cases hk; refine ⟨by simp [Sym.lo, St.new], ?_⟩
  have := (hm.slots t _ ht).2
  rw [hkt] at this; simp only [Sm] at this ⊢; rw [this]; simp
 ·rw [if_neg hkt] at hk
  exact hm'.slots k s hk
end
def anaR (l : List (List Prt)) : List (List D) := l.map fun a => [zab a]
def altF (g : Lang) (w : List Int) (f : Nat) (a : List Prt) (e : Ent) (alt : Nat) : List (List Prt) :=
 if zdy g w < (zbe g.lex (a ++ [⟨e.id, alt, 0⟩])).length then [] else (if licB g w (a ++ [⟨e.id, alt, 0⟩]) = true then [a ++ [⟨e.id, alt, 0⟩]] else []) ++ furF g w f (a ++ [⟨e.id, alt, 0⟩])
def entF (g : Lang) (w : List Int) (f : Nat) (a : List Prt) (e : Ent) : List (List Prt) :=
 if e.cls ∈ zdc g.net (zax g.lex a) 20 then ((List.range e.forms.length).flatMap fun alt => altF g w f a e alt) else []
theorem zxd (g : Lang) (w : List Int) (f : Nat) (a : List Prt) : furF g w (f + 1) a = g.lex.flatMap fun e => entF g w f a e := rfl
def yf6 (g : Lang) (w : List Int) (a : List Prt) (out : List (List Prt)) (b : Nat) : St :=
 { n := 91, next := 1, slots := [(0, .d g.d), (1, .d (ints w)), (2, .d (anaD a)), (3, .d (int (zdy g w))), (4, .ar 0)], own := [(0, .arr 39 1 (anaR out))], base := b }
def furK (g : Lang) (w : List Int) (a : List Prt) (b : Nat) (o : List (List Prt)) (k : Nat) : St :=
 { n := 91, next := 4, slots := [(1, .d (ints w)), (3, .d (int (zdy g w))), (4, .ar 0), (5, .bp 1 0), (7, .bp 2 0), (11, .d (ints (zdc g.net (zax g.lex a) 20))), (12, .d (int k))], own := [(0, .arr 39 1 (anaR o)), (1, .box 36 (zai g.d)), (2, .box 39 [.d (zab a)])], base := b, moved := [0] }
def furA (g : Lang) (w : List Int) (a : List Prt) (b : Nat) (k : Nat) (e : Ent) (o : List (List Prt)) (alt : Nat) : St :=
 { n := 91, next := 5, slots := [(1, .d (ints w)), (3, .d (int (zdy g w))), (4, .ar 0), (5, .bp 1 0), (7, .bp 2 0), (11, .d (ints (zdc g.net (zax g.lex a) 20))), (12, .d (int k)), (13, .bp 4 0), (14, .d (int alt))], own := [(0, .arr 39 1 (anaR o)), (1, .box 36 (zai g.d)), (2, .box 39 [.d (zab a)]), (4, .box 59 (e.row.map .d))], base := b, moved := [0] }
theorem z9m (g : Lang) (w : List Int) (f : Nat) (a : List Prt) (e : Ent) (k : Nat) : (List.range (k + 1)).flatMap (fun alt => altF g w f a e alt) = (List.range k).flatMap (fun alt => altF g w f a e alt) ++ altF g w f a e k := by
 rw [List.range_succ, List.flatMap_append, List.flatMap_singleton]
def FurC (g : Lang) (w : List Int) (f : Nat) : Prop := ∀ (a : List Prt) (out : List (List Prt)), a.length + f = 4 → (∀ p ∈ a, zhh g.lex p = 0) → out.length + (furF g w f a).length ≤ 2^30 →
 zcw Tryz.prog 86 [.d g.d, .d (ints w), .d (anaD a), .d (int (zdy g w)), .ar 0] [(0, .arr 39 1 (anaR out))] 1 (.ar 0) 1 [(0, .arr 39 1 (anaR (out ++ furF g w f a)))] [0]
set_option maxHeartbeats 16000000 in
theorem z2l (g : Lang) (hg : LightF g) (hc : LangC g) (w : List Int) (hw : w.length ≤ 24) (f : Nat) (ih : FurC g w f) (a : List Prt) (out : List (List Prt)) (hl : a.length + (f + 1) = 4) (hv : ∀ p ∈ a, zhh g.lex p = 0) (ho : out.length + (furF g w (f + 1) a).length ≤ 2^30) (b : Nat) (hb : b ≤ 1) :
  ∀ body, Tryz.f86.body = some body → Triple Tryz.prog body (zq9 (unmR (resC Tryz.prog Tryz.f86.results.toList b (.ar 0) 1 [(0, .arr 39 1 (anaR (out ++ furF g w (f + 1) a)))] [0]))) (yf6 g w a out b) := by
 intro body hbody
 have hR := hg.zzr hc
 have hC := zls g hR.lex a (by omega)
 have hcl := zf4 g.lex a
 have hF := zzw g.net hg.net' (zax g.lex a) (by omega)
 have hfl := zp2 g.net (zax g.lex a) 20
 have hn4 : ¬ (a.length : Int) = 4 := by omega
 simp only [Tryz.f86, Option.some.injEq] at hbody
 subst hbody
 refine zal mixed ?_
 simp +decide [yf6, int, Lang.d, anaD, zab, zai, hn4]
 refine zad (by rfl) (by rfl) hC (by simp [Lang.d, anaD]) ?_
 simp +decide [int, ints, Lang.d, anaD, zab, zai]
 refine zad (by rfl) (by rfl) hF (by simp [ints]) ?_
 simp +decide [int, ints, Lang.d, anaD, zab, zai]
 refine zaf mixed (fun k : Nat => furK g w a b (out ++ (g.lex.take k).flatMap fun e => entF g w f a e) k) (fun k => k ≤ g.lex.length) (fun k => g.lex.length - k) 0 (by simp)
  (by simp +decide [furK, int, ints, Lang.d, zab, zai]; try omega) ?_
 intro k hk
 by_cases hlk : k < g.lex.length
 case neg =>
  have : k = g.lex.length := by omega
  subst this; rw [List.take_length, ← zxd]; simp +decide [furK, int, ints, Lang.d, lexD, zai, unmR, St.unmv]; exact hb
 have hlk' : (k : Int) < g.lex.length := by omega
 have hmem := List.getElem_mem hlk
 have hsn : (g.lex.take (k + 1)).flatMap (fun e => entF g w f a e) = (g.lex.take k).flatMap (fun e => entF g w f a e) ++ entF g w f a g.lex[k] := by rw [zaj hlk, List.flatMap_append, List.flatMap_singleton]
 have hroom : ((g.lex.take (k + 1)).flatMap (fun e => entF g w f a e)).length ≤ (furF g w (f + 1) a).length := by
  rw [zxd]; conv => rhs; rw [← List.take_append_drop (k + 1) g.lex, List.flatMap_append, List.length_append]
  omega
 obtain ⟨e, ee⟩ : ∃ e, g.lex[k] = e := ⟨_, rfl⟩
 have e1 : g.lex[k]? = some e := by rw [List.getElem?_eq_getElem hlk, ee]
 rw [ee] at hmem hsn
 rw [hsn, List.length_append] at hroom
 generalize (g.lex.take k).flatMap (fun e => entF g w f a e) = o0 at hsn hroom
 have hH := zpm (zdc g.net (zax g.lex a) 20) e.cls (by omega)
 simp +decide [furK, int, ints, Lang.d, lexD, zai, hlk, hlk', ee, e1, Ent.row]
 refine zam.pure (by rfl) hH (by simp [ints, int]) ?_
 by_cases hin : e.cls ∈ zdc g.net (zax g.lex a) 20
 case neg =>
  have he0 : entF g w f a e = [] := by unfold entF; rw [if_neg hin]
  rw [he0, List.append_nil] at hsn; simp +decide [int, hin, I64, ints, Lang.d, zai]; have hmax := hg.small.few; exact ⟨⟨by omega, by omega⟩, k + 1, hlk, by omega, by omega, by omega, by rw [hsn]⟩
 have hent : entF g w f a e = (List.range e.forms.length).flatMap (fun alt => altF g w f a e alt) := by unfold entF; rw [if_pos hin]
 rw [hent] at hsn hroom
 simp +decide [int, hin, I64, ints, Lang.d, zai]
 refine zaz mixed (fun alt : Nat => furA g w a b k e (out ++ (o0 ++ (List.range alt).flatMap fun alt => altF g w f a e alt)) alt) (fun alt => alt ≤ e.forms.length) (fun alt => e.forms.length - alt) 0 (by simp)
  (by simp +decide [furA, int, ints, Lang.d, zab, zai, Ent.row]; exact ⟨by omega, rfl⟩) ?_
 intro alt ha
 have hL := zn4 e (by have := hR.lex.alts e hmem; omega)
 by_cases hla : alt < e.forms.length
 case neg =>
  have : alt = e.forms.length := by omega
  subst this; refine zal mixed ?_
  simp +decide [furA, int, ints, Lang.d, zai, Ent.row]; refine zam.pure (by rfl) hL (by simp [Ent.row, int]) ?_
  simp +decide [int, zbd, I64, furK, furA, Lang.d, zai, Ent.row, ints]; have hmax := hg.small.few; exact ⟨⟨by omega, by omega⟩, k + 1, hlk, by omega, by omega, by omega, by rw [hsn], rfl⟩
 have hla' : (alt : Int) < e.forms.length := by omega
 refine ze9 mixed 1 (furA g w a b k e (out ++ (o0 ++ (List.range alt).flatMap fun alt => altF g w f a e alt)) alt) rfl ?_ ?_
 ·simp +decide [ze5, furA, int, ints, Lang.d, zai, Ent.row]
  refine zam.pure (by rfl) hL (by simp [Ent.row, int]) ?_
  simp +decide [int, zbd, cutK, hla', furA, Lang.d, zai, Ent.row, ints]; omega
 simp only [zfg]
 refine zce (zb7 ?_) mixed
 let bp := a ++ [(⟨e.id, (alt : Int), 0⟩ : Prt)]
 let S3 : St := { n := 91, next := 7, slots := [(1, .d (ints w)), (3, .d (int (zdy g w))), (4, .ar 0), (5, .bp 1 0), (7, .bp 2 0), (11, .d (ints (zdc g.net (zax g.lex a) 20))), (12, .d (int k)), (13, .bp 4 0), (14, .d (int alt)), (15, .bp 5 0)], own := [(5, .box 39 [.ar 6]), (6, .arr 64 3 (bp.map Prt.row)), (0, .arr 39 1 (anaR (out ++ (o0 ++ (List.range alt).flatMap fun alt => altF g w f a e alt)))), (1, .box 36 (zai g.d)), (2, .box 39 [.d (zab a)]), (4, .box 59 (e.row.map .d))], base := b, moved := [0] }
 refine ztw S3 ?_ ?_
 ·refine yf5 mixed 11 10 [0, 1, 2, 3, 4, 5, 6, 7, 8, 9, 11, 10, 12] [0, 1, 2, 3, 4, 5, 6, 7, 8, 9, 11, 10, 12] 11 [60] (ydl (by rfl) ?_ ?_) (by rfl) rfl (by rfl) (by rfl) (by rfl) (by rfl) (by rfl) ?_
  ·intro ox ho a w
   cases ho; exact z9l rfl (by rfl) (by rfl) a w
  ·intro oy ho a
   cases ho; exact z9k rfl (by rfl) (by rfl) (by rfl) (by rfl) a
  simp +decide [furA, int, ints, Lang.d, zai, Ent.row, zab, Prt.row, zdd, zxb, renE, waitFor]; refine ⟨⟨by omega, by unfold maxLen; omega⟩, ⟨by omega, by unfold maxLen; omega⟩, by rfl, ?_⟩
  simp +decide [S3, bp, int, ints, Lang.d, zai, Ent.row, zab, Prt.row]; omega
 refine zeq [6] ?_
 have hbl : bp.length = a.length + 1 := by simp [bp]
 have hB := zm0 g hR.lex bp (by omega)
 refine zal mixed ?_
 simp +decide [S3, int, ints, Lang.d, zai, Ent.row, zab, Prt.row]
 refine zam.pure (by rfl) hB (by simp [D.scalar]) ?_
 have hsa := z9m g w f a e alt
 have hbe : a ++ [(⟨e.id, (alt : Int), 0⟩ : Prt)] = bp := rfl
 have hpv : ∀ p ∈ bp, zhh g.lex p = 0 := by
  intro p hp; rcases List.mem_append.1 hp with h | h
  ·exact hv p h
  ·rw [List.mem_singleton] at h; rw [h]; exact zp5 hg hmem hla
 have hra : ((List.range (alt + 1)).flatMap (fun alt => altF g w f a e alt)).length ≤ ((List.range e.forms.length).flatMap (fun alt => altF g w f a e alt)).length := by
  have : List.range e.forms.length = List.range (alt + 1) ++ (List.range (e.forms.length - (alt + 1))).map (alt + 1 + ·) := by
   rw [← List.range_add]; congr 1; omega
  rw [this, List.flatMap_append, List.length_append]; omega
 rw [hsa, List.length_append] at hra
 have hLi := zr3 g hR w (by omega) bp (by omega)
 have hfe := (hg.small.forms e hmem).2.1
 have hfl2 : e.forms.length ≤ 2 := by simp [Ent.forms]; omega
 have halt : altF g w f a e alt = if zdy g w < (zbe g.lex bp).length then [] else (if licB g w bp = true then [bp] else []) ++ furF g w f bp := rfl
 have hlicB : licB g w bp = (decide (w.length ≤ (zbe g.lex bp).length) && licE g w bp) := rfl
 generalize (List.range alt).flatMap (fun alt => altF g w f a e alt) = o1 at hsa hra
 clear_value bp
 by_cases hmo : zdy g w < (zbe g.lex bp).length
 ·rw [if_pos hmo] at halt
  rw [halt, List.append_nil] at hsa; have hmo' : (zdy g w : Int) < (zbe g.lex bp).length := by omega
  simp +decide [int, ints, hmo, hmo', I64, furA, Lang.d, zai, Ent.row, zab]; exact ⟨⟨by omega, by omega⟩, alt + 1, hla, by omega, by omega, by omega, by rw [hsa]⟩
 rw [if_neg hmo] at halt
 have hmo' : ¬ (zdy g w : Int) < (zbe g.lex bp).length := by omega
 rw [halt] at hsa hra
 by_cases hlw : w.length ≤ (zbe g.lex bp).length
 case neg =>
  have hlw' : ¬ (w.length : Int) ≤ (zbe g.lex bp).length := by omega
  have hlb : licB g w bp = false := by rw [hlicB, decide_eq_false hlw]; rfl
  rw [hlb, if_neg (by decide), List.nil_append] at hsa hra
  simp +decide [int, ints, hmo, hmo', hlw, hlw', I64, furA, Lang.d, zai, Ent.row, zab]; have hcl2 := ih bp (out ++ (o0 ++ o1)) (by omega) hpv (by simp only [List.length_append, List.length_cons, List.length_nil] at hroom hra ⊢; omega)
  refine zam.mut [0] [.d g.d, .d (ints w), .d (anaD bp), .d (int (zdy g w)), .ar 0] [(0, .arr 39 1 (anaR (out ++ (o0 ++ o1))))] (by rfl) (by simp [rens, ren, rho, Lang.d, int, ints, anaD, zab]) (by simp) ?_ hcl2 ?_
  ·simp [Fits, zd9, St.look, zac, zci, rens, ren, rho, List.range, List.range.loop]
  simp +decide [int, ints, I64, furA, Lang.d, zai, Ent.row, zab]; exact ⟨⟨by omega, by omega⟩, alt + 1, hla, by omega, by omega, by omega, by rw [hsa]; try simp [List.append_assoc]⟩
 have hlw' : (w.length : Int) ≤ (zbe g.lex bp).length := by omega
 simp +decide [int, ints, hmo, hmo', hlw, hlw', I64, furA, Lang.d, zai, Ent.row, zab]
 refine zam.pure (by rfl) hLi (by simp [D.scalar]) ?_
 have hlb : licB g w bp = licE g w bp := by rw [hlicB, decide_eq_true hlw]; rfl
 cases hli : licE g w bp with
 | false =>
  rw [hlb, hli, if_neg (by decide), List.nil_append] at hsa hra
  simp +decide [int, ints, hli, I64, furA, Lang.d, zai, Ent.row, zab]; have hcl2 := ih bp (out ++ (o0 ++ o1)) (by omega) hpv (by simp only [List.length_append, List.length_cons, List.length_nil] at hroom hra ⊢; omega)
  refine zam.mut [0] [.d g.d, .d (ints w), .d (anaD bp), .d (int (zdy g w)), .ar 0] [(0, .arr 39 1 (anaR (out ++ (o0 ++ o1))))] (by rfl) (by simp [rens, ren, rho, Lang.d, int, ints, anaD, zab]) (by simp) ?_ hcl2 ?_
  ·simp [Fits, zd9, St.look, zac, zci, rens, ren, rho, List.range, List.range.loop]
  simp +decide [int, ints, I64, furA, Lang.d, zai, Ent.row, zab]; exact ⟨⟨by omega, by omega⟩, alt + 1, hla, by omega, by omega, by omega, by rw [hsa]; try simp [List.append_assoc]⟩
 | true =>
  rw [hlb, hli, if_pos rfl] at hsa hra; simp +decide [int, ints, hli, I64, furA, Lang.d, zai, Ent.row, zab]; have hX : anaR (out ++ (o0 ++ o1)) ++ [[D.sl (bp.map Prt.row)]] = anaR (out ++ (o0 ++ (o1 ++ [bp]))) := by simp [anaR, zab]
  have hXl : (anaR (out ++ (o0 ++ o1))).length = out.length + (o0.length + o1.length) := by simp [anaR]
  rw [hX, hXl]; refine ⟨by simp only [List.length_append, List.length_cons, List.length_nil] at hroom hra; omega, by unfold maxLen; simp only [List.length_append, List.length_cons, List.length_nil] at hroom hra; omega, ?_⟩
  have hcl2 := ih bp (out ++ (o0 ++ (o1 ++ [bp]))) (by omega) hpv (by simp only [List.length_append, List.length_cons, List.length_nil] at hroom hra ⊢; omega)
  refine zam.mut [0] [.d g.d, .d (ints w), .d (anaD bp), .d (int (zdy g w)), .ar 0] [(0, .arr 39 1 (anaR (out ++ (o0 ++ (o1 ++ [bp])))))] (by rfl) (by simp [rens, ren, rho, Lang.d, int, ints, anaD, zab]) (by simp) ?_ hcl2 ?_
  ·simp [Fits, zd9, St.look, zac, zci, rens, ren, rho, List.range, List.range.loop]
  simp +decide [int, ints, I64, furA, Lang.d, zai, Ent.row, zab]; exact ⟨⟨by omega, by omega⟩, alt + 1, hla, by omega, by omega, by omega, by rw [hsa]; try simp [List.append_assoc]⟩
end Go.V
namespace Go.V
open Go Go.Proofs
theorem z0f {P : Program} {c : Code} {Q : DE → St → Prop} {st st' : St} (h : Weak st st') (ht : Triple P c Q st') : Triple P c Q st := fun X w0 β a w hm => ht X w0 β a w (hm.weak h)
theorem zh8 {P : Program} {f : Nat} {fn : Func} {c : Code} (hf : P.funcs[f]? = some fn) (hb : fn.body = some c) (hcall : callable P f = true)
  {args : List Sym} {own : List (Nat × Obj')} {n : Nat} {s : Sym} {nx : Nat} {own' : List (Nat × Obj')} {mv : List Nat} (hl : Sym.los n args)
  (h : Triple P c (zq9 (unmR (resC P fn.results.toList n s nx own' mv))) (initC fn.ntmps args own n)) : zcw P f args own n s nx own' mv := by
 refine ⟨hcall, fun X w0 β w vs hβ hm hs => ?_⟩
 refine calls_of_wp hf hb ?_
 refine wp_mono (h X w0 _ _ w (hm.initC hs hl)) ?_
 rintro e a' w' ⟨de, st', β', he, hq, hm'⟩
 cases e <;> cases de <;> simp only [exM] at he
 ·obtain ⟨v, h1, h2, h3, h4⟩ := zfr hm'.unmv hq
  exact ⟨hm'.defers, v, h1, β', v, rfl, h2, h3, h4⟩
 ·exact hq.elim
 ·obtain ⟨v, h1, h2, h3, h4⟩ := zfr hm'.unmv hq
  exact ⟨hm'.defers, v, h1, β', v, rfl, h2, h3, h4⟩
set_option maxHeartbeats 8000000 in
theorem ydm (g : Lang) (w : List Int) (a : List Prt) (out : List (List Prt)) (hl : a.length = 4) :
  zcw Tryz.prog 86 [.d g.d, .d (ints w), .d (anaD a), .d (int (zdy g w)), .ar 0] [(0, .arr 39 1 (anaR out))] 1 (.ar 0) 1 [(0, .arr 39 1 (anaR out))] [0] := by
 have hl' : (a.length : Int) = 4 := by omega
 refine zdv mixed Tryz.func86 rfl call_86 (by simp [Sym.los, Sym.lo]) ?_
 simp +decide [Tryz.f86, int, Lang.d, anaD, zab, zai, hl', unmR, St.unmv]
theorem ydn {g : Lang} (hg : LightF g) (w : List Int) (f : Nat) (hf : f ≤ 4) (a : List Prt) : (furF g w f a).length ≤ 11110 := by
 refine Nat.le_trans (z0c hg w f a) ?_
 have : f = 0 ∨ f = 1 ∨ f = 2 ∨ f = 3 ∨ f = 4 := by omega
 rcases this with h | h | h | h | h <;> subst h <;> decide
theorem z9n (g : Lang) (hg : LightF g) (hc : LangC g) (w : List Int) (hw : w.length ≤ 24) : ∀ f, FurC g w f
 | 0 => by
  intro a out hl hv ho; have := ydm g w a out (by omega)
  rw [show furF g w 0 a = [] from rfl, List.append_nil]
  exact this
 | f + 1 => by
  intro a out hl hv ho; refine zh8 Tryz.func86 rfl call_86 (by simp [Sym.los, Sym.lo]) ?_
  exact z2l g hg hc w hw f (z9n g hg hc w hw f) a out hl hv ho 1 (Nat.le_refl _) _ rfl
set_option maxHeartbeats 8000000 in
theorem yf7 (g : Lang) (hg : LightF g) (hc : LangC g) (w : List Int) (hw : w.length ≤ 24) :
  zcw Tryz.prog 86 [.d g.d, .d (ints w), .d (anaD []), .d (int (zdy g w)), .nils] [] 0 (.ar 0) 1 [(0, .arr 39 1 (anaR (furF g w 4 [])))] [0] := by
 refine zh8 Tryz.func86 rfl call_86 (by simp [Sym.los, Sym.lo]) ?_
 refine zxc 4 39 1 (by rfl) ?_
 have hB := z2l g hg hc w hw 3 (z9n g hg hc w hw 3) [] [] rfl (fun p hp => by cases hp) (by have := ydn hg w 4 (by omega) []; simp; omega) 0 (by omega) _ rfl
 refine z0f ?_ hB
 simp +decide [yf6, initC, zdx, St.new, anaR, int, Lang.d, anaD, zab, Tryz.f86]
theorem z9o {w : World} {E : Nat → Prop} {β : Nat → Value} {v : Value} (h : Sm w E β (.agg [.nils]) v) : Sm w E β (.d (anaD [])) v := by
 simp only [Sm, Sms] at h
 obtain ⟨vs, rfl, ⟨u, us, rfl, hu, rfl⟩, h1⟩ := h
 have hr : R w E (.sl []) u := zu1 (w := w) (E := E) (β := β) (v := u) (by simp only [Sm]; exact hu)
 show R w E (.agg [.sl []]) _
 unfold R
 refine ⟨[u], rfl, ?_⟩
 unfold zah
 exact ⟨u, [], rfl, h1 u (by simp), hr, by unfold zah; rfl⟩
theorem z2m {P : Program} {f : Nat} {a b m : Sym} {own : List (Nat × Obj')} {n : Nat} {r : Sym} {nx : Nat} {own' : List (Nat × Obj')} {mv : List Nat}
  (h : zcw P f [a, b, .d (anaD []), m, .nils] own n r nx own' mv) : zcw P f [a, b, .agg [.nils], m, .nils] own n r nx own' mv := by
 refine h.args fun w E β vs hs => ?_
 simp only [Sms] at hs ⊢
 obtain ⟨v1, _, rfl, h1, v2, _, rfl, h2, v3, _, rfl, h3, v4, _, rfl, h4, v5, _, rfl, h5, rfl⟩ := hs
 exact ⟨v1, _, rfl, h1, v2, _, rfl, h2, v3, _, rfl, z9o (by simpa only [Sm, Sms] using h3), v4, _, rfl, h4, v5, _, rfl, h5, rfl⟩
set_option maxHeartbeats 8000000 in
theorem z0g (g : Lang) (hg : LightF g) (hc : LangC g) (w : List Int) (hw : w.length ≤ 30) : zaq Tryz.prog 45 [g.d, ints w] (zbh (zbx g w)) := by
 refine zaa mixed Tryz.func45 rfl call_45 ?_
 by_cases h0 : w.length = 0
 ·have h0' : (w.length : Int) = 0 := by omega
  simp +decide [Tryz.f45, zai, Lang.d, int, ints, h0, h0', zbx, zbh]; done
 have h0' : ¬ (w.length : Int) = 0 := by omega
 by_cases h1 : 24 < w.length
 ·have h1' : (24 : Int) < w.length := by omega
  simp +decide [Tryz.f45, zai, Lang.d, int, ints, h0, h0', h1, h1', zbx, zbh]; done
 have h1' : ¬ (24 : Int) < w.length := by omega
 have hR := hg.zzr hc
 have hD := z3z g (by have := hR.rules.2; omega) (fun r hr => by have h1 := (hR.rules.1 r hr).dst; have h2 := (hR.rules.1 r hr).src; omega)
 have hF := yf7 g hg hc w (by omega)
 have hpl : zbx g w = furF g w 4 [] := by unfold zbx; rw [if_neg (by omega)]
 rw [hpl]
 simp +decide [Tryz.f45, zai, Lang.d, int, ints, h0, h0', h1, h1']
 refine zam.pure (by rfl) hD (by simp [D.scalar]) ?_
 cases hsh : zeu g.rules with
 | true =>
  have hm : zdy g w = 24 := by unfold zdy; rw [if_pos hsh]
  rw [hm] at hF; simp +decide [int, ints, zbh, Lang.d]; refine zam.mut [] [.d g.d, .d (ints w), .agg [.nils], .d (int 24), .nils] [] (by rfl) (by simp [rens, ren, rho, Lang.d, int, ints]) (by simp) ?_ (z2m hF) ?_
  ·simp [Fits, zd9, List.range, List.range.loop]
  simp +decide [int, ints, zbh, anaR]
 | false =>
  have hm : zdy g w = w.length := by unfold zdy; rw [if_neg (by rw [hsh]; decide)]
  rw [hm] at hF; simp +decide [int, ints, zbh, Lang.d]; refine zam.mut [] [.d g.d, .d (ints w), .agg [.nils], .d (int w.length), .nils] [] (by rfl) (by simp [rens, ren, rho, Lang.d, int, ints]) (by simp) ?_ (z2m hF) ?_
  ·simp [Fits, zd9, List.range, List.range.loop]
  simp +decide [int, ints, zbh, anaR]
end Go.V
namespace Go.V
open Go Go.Proofs
end Go.V
namespace Go.V
open Go Go.Proofs
theorem zxe {α : Type} {lt : α → α → Bool} (irr : ∀ a, lt a a = false) (tr : ∀ {a b c}, lt a b = true → lt b c = true → lt a c = true) : ∀ {l m : List α}, (l.Pairwise fun a b => lt a b = true) → (m.Pairwise fun a b => lt a b = true) → (∀ x, x ∈ l ↔ x ∈ m) → l = m
 | [], [], _, _, _ => rfl
 | [], y :: m, _, _, h => by have := (h y).2 (List.mem_cons_self ..); cases this
 | x :: l, [], _, _, h => by have := (h x).1 (List.mem_cons_self ..); cases this
 | x :: l, y :: m, hl, hm, h => by
  rw [List.pairwise_cons] at hl hm; have hxy : x = y := by
   rcases List.mem_cons.1 ((h x).1 (List.mem_cons_self ..)) with e | e
   ·exact e
   ·rcases List.mem_cons.1 ((h y).2 (List.mem_cons_self ..)) with e2 | e2
    ·exact e2.symm
    ·have h1 := hm.1 x e
     have h2 := hl.1 y e2; have := tr h1 h2
     rw [irr] at this; cases this
  subst hxy; congr 1
  refine zxe irr tr hl.2 hm.2 fun z => ?_
  constructor
  ·intro hz
   rcases List.mem_cons.1 ((h z).1 (List.mem_cons_of_mem _ hz)) with e | e
   ·subst e
    have := hl.1 z hz
    rw [irr] at this; cases this
   ·exact e
  ·intro hz
   rcases List.mem_cons.1 ((h z).2 (List.mem_cons_of_mem _ hz)) with e | e
   ·subst e
    have := hm.1 z hz
    rw [irr] at this; cases this
   ·exact e
end Go.V

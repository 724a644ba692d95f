/- Contracts and plain laws of this seat: part MB. It needs no conditions. -/
import Derived.Test.YtgglheknmlfghaaGreatMA
import Derived.Test.YtgglheknmlfghaaGreatM6
set_option linter.unusedVariables false
set_option linter.unusedSimpArgs false
set_option linter.unusedSectionVars false
set_option maxRecDepth 100000
namespace Go.V
open Go Go.Proofs
end Go.V
namespace Go.V
open Go Go.Proofs
theorem Prt.ext' {a b : Prt} (h1 : a.entry = b.entry) (h2 : a.alt = b.alt) (h3 : a.sense = b.sense) : a = b := by
 cases a; cases b; simp only at h1 h2 h3; rw [h1, h2, h3]
section
variable {α : Type}
theorem zn7 {lt : α → Bool} {l : List α} : ∀ n, n ≤ l.length → (∀ i, posL lt l n ≤ i → i < n → ∀ h : i < l.length, lt l[i] = true) ∧ (∀ h : 0 < posL lt l n, ∃ h' : posL lt l n - 1 < l.length, lt l[posL lt l n - 1] = false)
 | 0, _ => ⟨fun i _ h => absurd h (by omega), fun h => absurd h (by simp [posL])⟩
 | n + 1, hn => by
  have ih := zn7 (lt := lt) (l := l) n (by omega)
  have e1 : l[n]? = some l[n] := List.getElem?_eq_getElem (by omega)
  by_cases c : lt l[n] = true
  ·have e2 : posL lt l (n + 1) = posL lt l n := by rw [posL, e1]; simp only; rw [if_pos c]
   rw [e2]
   refine ⟨fun i h1 h2 h => ?_, ih.2⟩
   by_cases e : i = n
   ·subst e; exact c
   ·exact ih.1 i h1 (by omega) h
  ·have e2 : posL lt l (n + 1) = n + 1 := by rw [posL, e1]; simp only; rw [if_neg c]
   rw [e2]
   refine ⟨fun i h1 h2 h => by omega, fun _ => ⟨by omega, ?_⟩⟩
   show lt l[n + 1 - 1] = false
   simpa using c
theorem zp8 {lt : α → α → Bool} (tr : ∀ {a b c}, lt a b = true → lt b c = true → lt a c = true) (tot : ∀ {a b}, a ≠ b → lt a b = true ∨ lt b a = true) {x : α} {l : List α}
  (hs : l.Pairwise fun a b => lt a b = true) (hx : x ∉ l) : (insL (fun o => lt x o) x l).Pairwise fun a b => lt a b = true := by
 have hsp := zn7 (lt := fun o => lt x o) (l := l) l.length (Nat.le_refl _)
 have hle := zp6 (fun o => lt x o) l l.length
 unfold insL
 generalize posL (fun o => lt x o) l l.length = p at hsp hle
 have hup : ∀ b ∈ l.drop p, lt x b = true := by
  intro b hb
  obtain ⟨i, hi, e⟩ := List.mem_iff_getElem.1 hb
  rw [List.length_drop] at hi
  rw [List.getElem_drop] at e
  have := hsp.1 (p + i) (by omega) (by omega) (by omega)
  rw [← e]; exact this
 have hdn : ∀ a ∈ l.take p, lt a x = true := by
  intro a ha
  obtain ⟨i, hi, e⟩ := List.mem_take_iff_getElem.1 ha
  have hp : 0 < p := by omega
  obtain ⟨h', hf⟩ := hsp.2 hp
  have hne : l[p - 1] ≠ x := fun e => hx (e ▸ List.getElem_mem h')
  have hl : lt l[p - 1] x = true := by
   rcases tot hne with h | h
   ·exact h
   ·rw [h] at hf; cases hf
  rw [← e]
  by_cases hi2 : i = p - 1
  ·subst hi2; exact hl
  ·exact tr (List.pairwise_iff_getElem.1 hs i (p - 1) (by omega) h' (by omega)) hl
 rw [List.pairwise_append]
 refine ⟨hs.sublist (List.take_sublist _ _), List.pairwise_cons.2 ⟨hup, hs.sublist (List.drop_sublist _ _)⟩, fun a ha b hb => ?_⟩
 rcases List.mem_cons.1 hb with e | e
 ·rw [e]; exact hdn a ha
 ·exact tr (hdn a ha) (hup b e)
end
def Choice (g : Lang) : List Prt → List Prt → Prop
 | [], [] => True
 | p :: ps, q :: qs => (q.entry = p.entry ∧ q.alt = p.alt ∧ 0 ≤ q.sense ∧ q.sense < (sensesE g.lex p.entry).length) ∧ Choice g ps qs
 | _, _ => False
def bare (a : List Prt) : List Prt := a.map fun p => ⟨p.entry, p.alt, 0⟩
theorem z0a {a : List Prt} (h : ∀ p ∈ a, p.sense = 0) : bare a = a := by
 unfold bare
 conv => rhs; rw [← List.map_id a]
 refine List.map_congr_left fun p hp => ?_
 exact Prt.ext' rfl rfl (h p hp).symm
end Go.V
namespace Go.V
open Go Go.Proofs
def PartN (g : Lang) (p : Prt) : Prop := ∃ e ∈ g.lex, p.entry = e.id ∧ p.sense = 0 ∧ ∃ alt : Nat, alt < e.forms.length ∧ p.alt = alt
theorem PartN.ok {g : Lang} (hg : LightF g) {p : Prt} (h : PartN g p) : ∃ e ∈ g.lex, ∃ alt : Nat, alt < e.forms.length ∧ p = ⟨e.id, alt, 0⟩ := by
 obtain ⟨e, he, h1, h2, alt, h3, h4⟩ := h
 exact ⟨e, he, alt, h3, Prt.ext' h1 h4 h2⟩
theorem zvw {g : Lang} {w : List Int} : ∀ (f : Nat) (a b : List Prt), b ∈ furF g w f a → ∃ t, b = a ++ t ∧ t ≠ [] ∧ t.length ≤ f ∧ (∀ p ∈ t, PartN g p) ∧ licB g w b = true
 | 0, a, b, h => by simp [furF] at h
 | f + 1, a, b, h => by
  unfold furF at h
  rw [List.mem_flatMap] at h
  obtain ⟨e, he, h⟩ := h
  split at h
  ·rw [List.mem_flatMap] at h
   obtain ⟨alt, ha, h⟩ := h
   have ha := List.mem_range.1 ha
   have hp : PartN g ⟨e.id, (alt : Int), 0⟩ := ⟨e, he, rfl, rfl, alt, ha, rfl⟩
   split at h
   ·cases h
   ·rcases List.mem_append.1 h with h | h
    ·split at h
     ·rename_i hl
      rw [List.mem_singleton] at h
      subst h
      exact ⟨[⟨e.id, (alt : Int), 0⟩], rfl, by simp, by simp, (by intro p hp'; rw [List.mem_singleton] at hp'; rw [hp']; exact hp), hl⟩
     ·cases h
    ·obtain ⟨t, rfl, h1, h2, h3, h4⟩ := zvw f _ b h
     exact ⟨⟨e.id, (alt : Int), 0⟩ :: t, by simp, by simp, by simp; omega, (fun p hm => (List.mem_cons.1 hm).elim (fun e => e ▸ hp) (h3 p)), h4⟩
  ·cases h
structure PlainF (g : Lang) (w : List Int) (b : List Prt) : Prop where
 pos : b ≠ []
 len : b.length ≤ 4
 parts : ∀ p ∈ b, PartN g p
 lic : licE g w b = true
theorem zei {g : Lang} {w : List Int} {b : List Prt} (h : b ∈ plainL g w) : PlainF g w b := by
 unfold plainL at h
 split at h
 ·cases h
 ·obtain ⟨t, rfl, h1, h2, h3, h4⟩ := zvw 4 [] b h
  unfold licB at h4
  rw [Bool.and_eq_true] at h4
  exact ⟨h1, h2, h3, h4.2⟩
theorem PlainF.bare {g : Lang} {w : List Int} {b : List Prt} (h : PlainF g w b) : bare b = b := z0a fun p hp => by obtain ⟨_, _, _, h2, _⟩ := h.parts p hp; exact h2
theorem zmr {g : Lang} (hg : LightF g) : ∀ {a : List Prt}, (∀ p ∈ a, PartN g p) → KeyOk (baseE g.lex a)
 | [], _ => fun x hx => by cases hx
 | p :: ps, h => by
  have ih := zmr hg fun x hx => h x (List.mem_cons_of_mem _ hx)
  obtain ⟨e, he, alt, ha, rfl⟩ := (h p (List.mem_cons_self ..)).ok hg
  have : baseE g.lex (⟨e.id, (alt : Int), 0⟩ :: ps) = e.forms[alt]?.getD [] ++ baseE g.lex ps := by
   unfold baseE
   rw [List.flatMap_cons, zga hg he ha]
   rfl
  rw [this]
  refine KeyOk.app ?_ ih
  rw [List.getElem?_eq_getElem ha]
  exact zrm hg he (List.getElem_mem ha)
structure BasJ (x : BasS) : Prop where
 seen : ∀ k ∈ x.1, ∃ b ∈ x.2, keyS b = k
theorem zms (f : List Prt → List Int) : ∀ (l : List (List Prt)) (x : BasS), BasJ x → BasJ (sF basF (x, true) (l.map fun b => (b, f b))).1 ∧
  (∀ b ∈ (sF basF (x, true) (l.map fun b => (b, f b))).1.2, b ∈ x.2 ∨ ∃ a ∈ l, f a = b) ∧ (∀ b ∈ x.2, b ∈ (sF basF (x, true) (l.map fun b => (b, f b))).1.2) ∧
  ∀ a ∈ l, ∃ b ∈ (sF basF (x, true) (l.map fun b => (b, f b))).1.2, keyS b = keyS (f a)
 | [], x, h => ⟨h, fun b hb => .inl hb, fun b hb => hb, fun a ha => by cases ha⟩
 | a :: l, x, h => by
  rw [List.map_cons, zg2, if_neg (by simp)]
  have hF : basF x a (f a) = ((basF x a (f a)).1, true) := rfl
  rw [hF]
  by_cases hm : keyS (f a) ∈ x.1
  ·have e : (basF x a (f a)).1 = x := by unfold basF; rw [if_pos hm]
   rw [e]
   obtain ⟨i1, i2, i3, i4⟩ := zms f l x h
   refine ⟨i1, fun b hb => (i2 b hb).imp id fun ⟨c, hc, e⟩ => ⟨c, List.mem_cons_of_mem _ hc, e⟩, i3, fun c hc => ?_⟩
   rcases List.mem_cons.1 hc with e2 | hc
   ·subst e2
    obtain ⟨b, hb, e3⟩ := h.seen _ hm
    exact ⟨b, i3 b hb, e3⟩
   ·exact i4 c hc
  ·have e : (basF x a (f a)).1 = (x.1 ++ [keyS (f a)], insL (fun o => lessL (f a) o) (f a) x.2) := by unfold basF; rw [if_neg hm]
   rw [e]
   obtain ⟨i1, i2, i3, i4⟩ := zms f l (x.1 ++ [keyS (f a)], insL (fun o => lessL (f a) o) (f a) x.2) ⟨fun k hk => by
    rcases List.mem_append.1 hk with hk | hk
    ·obtain ⟨b, hb, e⟩ := h.seen k hk
     exact ⟨b, zdm.2 (.inr hb), e⟩
    ·rw [List.mem_singleton] at hk
     exact ⟨f a, zdm.2 (.inl rfl), hk.symm⟩⟩
   refine ⟨i1, fun b hb => ?_, fun b hb => i3 b (zdm.2 (.inr hb)), fun c hc => ?_⟩
   ·rcases i2 b hb with hb | ⟨c, hc, e⟩
    ·rcases zdm.1 hb with e | hb
     ·exact .inr ⟨a, List.mem_cons_self .., e.symm⟩
     ·exact .inl hb
    ·exact .inr ⟨c, List.mem_cons_of_mem _ hc, e⟩
   ·rcases List.mem_cons.1 hc with e2 | hc
    ·subst e2
     exact ⟨f c, i3 _ (zdm.2 (.inl rfl)), rfl⟩
    ·exact i4 c hc
theorem zlk {g : Lang} (hg : LightF g) {w : List Int} {b : List Int} : b ∈ basesE g w ↔ ∃ a ∈ plainL g w, baseE g.lex a = b := by
 obtain ⟨_, i2, _, i4⟩ := zms (baseE g.lex) (plainL g w) ([], []) ⟨fun k hk => by cases hk⟩
 unfold basesE
 constructor
 ·intro h
  rcases i2 b h with h | h
  ·cases h
  ·exact h
 ·rintro ⟨a, ha, rfl⟩
  obtain ⟨c, hc, e⟩ := i4 a ha
  rcases i2 c hc with h | ⟨a2, ha2, e2⟩
  ·cases h
  ·have := key_inj (by rw [← e2]; exact zmr hg (zei ha2).parts) (zmr hg (zei ha).parts) e
   rw [← this]
   exact hc
end Go.V
namespace Go.V
open Go Go.Proofs
theorem zfq {α β : Type} {f : α → List β} {n : Nat} : ∀ {l : List α}, (∀ x ∈ l, (f x).length ≤ n) → (l.flatMap f).length ≤ l.length * n
 | [], _ => by simp
 | a :: l, h => by
  have h1 := h a (List.mem_cons_self ..)
  have h2 := zfq (l := l) fun x hx => h x (List.mem_cons_of_mem _ hx)
  rw [List.flatMap_cons, List.length_append, List.length_cons, Nat.add_mul, Nat.one_mul]
  omega
def cntF : Nat → Nat
 | 0 => 0
 | f + 1 => 5 * (2 * (1 + cntF f))
theorem zp9 {g : Lang} (hg : LightF g) (w : List Int) : ∀ (f : Nat) (a : List Prt), (furF g w f a).length ≤ cntF f
 | 0, _ => by simp [furF, cntF]
 | f + 1, a => by
  unfold furF cntF
  refine Nat.le_trans (zfq (n := 2 * (1 + cntF f)) fun e he => ?_) (Nat.mul_le_mul_right _ hg.small.few)
  split
  ·refine Nat.le_trans (zfq (n := 1 + cntF f) fun alt _ => ?_) (Nat.mul_le_mul_right _ ?_)
   ·split
    ·simp
    ·rw [List.length_append]
     have := zp9 hg w f (a ++ [⟨e.id, (alt : Int), 0⟩])
     split <;> simp <;> omega
   ·rw [List.length_range]
    have := (hg.small.forms e he).2.1
    simp [Ent.forms]; omega
  ·simp
theorem zi8 {g : Lang} (hg : LightF g) (w : List Int) : (plainL g w).length ≤ 11110 := by
 unfold plainL
 split
 ·simp
 ·exact zp9 hg w 4 []
theorem zvx (f : List Prt → List Int) : ∀ (l : List (List Prt)) (x : BasS), (sF basF (x, true) (l.map fun b => (b, f b))).1.2.length ≤ x.2.length + l.length
 | [], x => by simp [sF]
 | a :: l, x => by
  rw [List.map_cons, zg2, if_neg (by simp), List.length_cons]
  have hF : basF x a (f a) = ((basF x a (f a)).1, true) := rfl
  rw [hF]
  have ih := zvx f l (basF x a (f a)).1
  have h1 : (basF x a (f a)).1.2.length ≤ x.2.length + 1 := by
   unfold basF
   split
   ·show x.2.length ≤ _; omega
   ·show (insL _ _ _).length ≤ _; rw [zrq]; exact Nat.le_refl _
  omega
theorem ztd {g : Lang} {q : List Prt} (h : (formA g q).2 = 0) : rightE g q = 0 := by
 unfold formA at h
 split at h
 ·rename_i h1; exact absurd h h1
 ·rename_i h1; exact Classical.byContradiction h1
theorem zte {g : Lang} {q : List Prt} (h : rightE g q = 0) : (baseE g.lex q).length ≤ 24 := by
 unfold rightE at h
 split at h
 ·cases h
 split at h
 ·cases h
 split at h
 ·rename_i h1; exact absurd h h1
 split at h
 ·cases h
 split at h
 ·cases h
 omega
theorem zhp {g : Lang} (hg : LightF g) (w : List Int) : (basesE g w).length ≤ 2^20 ∧ ∀ b ∈ basesE g w, b.length ≤ 24 := by
 constructor
 ·have h1 := zvx (baseE g.lex) (plainL g w) ([], [])
  have h2 := zi8 hg w
  unfold basesE
  simp only [List.length_nil] at h1
  omega
 ·intro b hb
  obtain ⟨a, ha, rfl⟩ := (zlk hg).1 hb
  have := (zei ha).lic
  unfold licE at this
  rw [decide_eq_true_eq] at this
  exact zte (ztd this.1)
structure AllOk (g : Lang) (w : List Int) (L : List (List Prt)) : Prop where
 few : L.length ≤ 200
 form : ∀ q ∈ L, (formA g q).2 = 0 ∧ (formA g q).1 = w ∧ q.length ≤ 4
 up : L.Pairwise fun a b => lessA a b = true
 base : ∀ q ∈ L, baseE g.lex q ∈ basesE g w
 all : ∀ b ∈ basesE g w, ∃ q ∈ L, baseE g.lex q = b
end Go.V

/- Contracts and plain laws of this seat: part MB. It needs no conditions. -/
import Derived.Test.YtgglheknmlfghaaGreatMA
import Derived.Test.YtgglheknmlfghaaGreatM6
set_option linter.unusedVariables false
set_option linter.unusedSimpArgs false
set_option linter.unusedSectionVars false
set_option maxRecDepth 100000
namespace Go.V
open Go Go.Proofs
end Go.V
namespace Go.V
open Go Go.Proofs
def allT (g : Lang) (w : List Int) : List (List Prt) := (zbx g w).flatMap fun a => sprT g a.length a 0
theorem z9c (g : Lang) : ∀ (l : List (List Prt)) (f : List Prt → List Int) (z : AllS × Bool), sF (allF g) z (l.map fun b => (b, f b)) = zd6 addF z (l.flatMap fun a => sprT g a.length a 0)
 | [], f, z => rfl
 | a :: l, f, z => by
  rw [List.map_cons, zuy, List.flatMap_cons, zf8]; by_cases h : z.2 = false
  ·rw [if_pos h, zg2 h, zg2 h]
  ·rw [if_neg h, z9c g l f]
   have h' : z.2 = true := by simpa using h
   unfold allF; obtain ⟨x, b⟩ := z; simp only at h'
   subst h'; rfl
theorem z2h : ∀ (l : List (List Prt)) (out : List (List Prt)) (b : Bool), out.length + l.length ≤ 200 → zd6 addF ((out, b), true) l = ((l.foldl (fun o a => insL (fun x => zbm a x) a o) out, b), true)
 | [], _, _, _ => rfl
 | a :: l, out, b, h => by
  rw [List.length_cons] at h; have e : addF (out, b) a = ((insL (fun x => zbm a x) a out, b), true) := by
   unfold addF; rw [if_neg (by show ¬ out.length = 200; omega)]
  rw [zfl, if_neg (by simp), List.foldl_cons, e]
  exact z2h l _ b (by rw [zl1]; omega)
theorem zw5 : ∀ (l : List (List Prt)) (out : List (List Prt)) (b : Bool), out.length ≤ 200 → 200 < out.length + l.length → (zd6 addF ((out, b), true) l).1.2 = true
 | [], out, b, h, h' => by rw [List.length_nil] at h'; omega
 | a :: l, out, b, h, h' => by
  rw [List.length_cons] at h'; rw [zfl, if_neg (by simp)]
  by_cases e : out.length = 200
  ·have e1 : addF (out, b) a = ((out, true), false) := by unfold addF; rw [if_pos e]
   rw [e1, zg2 rfl]
  ·have e1 : addF (out, b) a = ((insL (fun x => zbm a x) a out, b), true) := by unfold addF; rw [if_neg e]
   rw [e1]; exact zw5 l _ b (by rw [zl1]; omega) (by rw [zl1]; omega)
def insT (l : List (List Prt)) : List (List Prt) := l.foldl (fun o a => insL (fun x => zbm a x) a o) []
theorem z9d (g : Lang) (w : List Int) : allE g w = if zgj g.inv w ≠ 0 then ([], zgj g.inv w) else if 200 < (allT g w).length then ([], 11) else (insT (allT g w), 0) := by
 unfold allE z9b
 rw [z9c, show (zbx g w).flatMap (fun a => sprT g a.length a 0) = allT g w from rfl]
 by_cases h0 : zgj g.inv w ≠ 0
 ·rw [if_pos h0, if_pos h0]
 rw [if_neg h0, if_neg h0]
 by_cases h : 200 < (allT g w).length
 ·rw [if_pos h, if_pos (zw5 _ _ _ (by simp) (by simpa using h))]
 ·rw [if_neg h, z2h _ _ _ (by simp; omega), if_neg (by simp)]
  rfl
theorem zl2 {a b : Prt} : zhg a b = true ↔ a.entry < b.entry ∨ (a.entry = b.entry ∧ (a.alt < b.alt ∨ (a.alt = b.alt ∧ a.sense < b.sense))) := by
 unfold zhg
 by_cases h1 : a.entry = b.entry
 ·rw [if_pos h1]
  by_cases h2 : a.alt = b.alt
  ·rw [if_pos h2, decide_eq_true_eq]; omega
  ·rw [if_neg h2, decide_eq_true_eq]; omega
 ·rw [if_neg h1, decide_eq_true_eq]; omega
theorem Prt.ext' {a b : Prt} (h1 : a.entry = b.entry) (h2 : a.alt = b.alt) (h3 : a.sense = b.sense) : a = b := by
 cases a; cases b; simp only at h1 h2 h3; rw [h1, h2, h3]
theorem z9e (a : Prt) : zhg a a = false := by
 cases h : zhg a a with
 | false => rfl
 | true => rw [zl2] at h; omega
theorem zz7 {a b c : Prt} (h1 : zhg a b = true) (h2 : zhg b c = true) : zhg a c = true := by
 rw [zl2] at h1 h2 ⊢; omega
theorem z9f {a b : Prt} (h : a ≠ b) : zhg a b = true ∨ zhg b a = true := by
 rw [zl2, zl2]
 have : ¬ (a.entry = b.entry ∧ a.alt = b.alt ∧ a.sense = b.sense) := fun ⟨h1, h2, h3⟩ => h (Prt.ext' h1 h2 h3)
 omega
theorem zjr {a b : Prt} {l m : List Prt} : zbm (a :: l) (b :: m) = if a = b then zbm l m else zhg a b := rfl
theorem zw6 : ∀ l : List Prt, zbm l l = false
 | [] => rfl
 | a :: l => by rw [zjr, if_pos rfl]; exact zw6 l
theorem zk0 : ∀ {a b c : List Prt}, zbm a b = true → zbm b c = true → zbm a c = true
 | [], [], _, h, _ => by simp [zbm] at h
 | [], _ :: _, [], _, h => by simp [zbm] at h
 | [], _ :: _, _ :: _, _, _ => rfl
 | _ :: _, [], _, h, _ => by simp [zbm] at h
 | _ :: _, _ :: _, [], _, h => by simp [zbm] at h
 | a :: l, b :: m, c :: n, h1, h2 => by
  rw [zjr] at h1 h2 ⊢; by_cases e1 : a = b
  ·subst e1
   rw [if_pos rfl] at h1; by_cases e2 : a = c
   ·subst e2
    rw [if_pos rfl] at h2 ⊢; exact zk0 h1 h2
   ·rw [if_neg e2] at h2 ⊢; exact h2
  ·rw [if_neg e1] at h1
   by_cases e2 : b = c
   ·subst e2
    rw [if_neg e1]; exact h1
   ·rw [if_neg e2] at h2
    have h3 := zz7 h1 h2; by_cases e3 : a = c
    ·subst e3; rw [z9e] at h3; cases h3
    ·rw [if_neg e3]; exact h3
theorem zw7 : ∀ {a b : List Prt}, a ≠ b → zbm a b = true ∨ zbm b a = true
 | [], [], h => absurd rfl h
 | [], _ :: _, _ => .inl rfl
 | _ :: _, [], _ => .inr rfl
 | a :: l, b :: m, h => by
  rw [zjr, zjr]; by_cases e : a = b
  ·subst e
   rw [if_pos rfl, if_pos rfl]; exact zw7 fun e => h (by rw [e])
  ·rw [if_neg e, if_neg (fun e' => e e'.symm)]
   exact z9f e
section
variable {α : Type}
theorem zw8 {lt : α → Bool} {l : List α} : ∀ n, n ≤ l.length → (∀ i, posL lt l n ≤ i → i < n → ∀ h : i < l.length, lt l[i] = true) ∧ (∀ h : 0 < posL lt l n, ∃ h' : posL lt l n - 1 < l.length, lt l[posL lt l n - 1] = false)
 | 0, _ => ⟨fun i _ h => absurd h (by omega), fun h => absurd h (by simp [posL])⟩
 | n + 1, hn => by
  have ih := zw8 (lt := lt) (l := l) n (by omega)
  have e1 : l[n]? = some l[n] := List.getElem?_eq_getElem (by omega)
  by_cases c : lt l[n] = true
  ·have e2 : posL lt l (n + 1) = posL lt l n := by rw [posL, e1]; simp only; rw [if_pos c]
   rw [e2]; refine ⟨fun i h1 h2 h => ?_, ih.2⟩
   by_cases e : i = n
   ·subst e; exact c
   ·exact ih.1 i h1 (by omega) h
  ·have e2 : posL lt l (n + 1) = n + 1 := by rw [posL, e1]; simp only; rw [if_neg c]
   rw [e2]; refine ⟨fun i h1 h2 h => by omega, fun _ => ⟨by omega, ?_⟩⟩
   show lt l[n + 1 - 1] = false
   simpa using c
theorem zz8 {lt : α → α → Bool} (tr : ∀ {a b c}, lt a b = true → lt b c = true → lt a c = true) (tot : ∀ {a b}, a ≠ b → lt a b = true ∨ lt b a = true) {x : α} {l : List α}
  (hs : l.Pairwise fun a b => lt a b = true) (hx : x ∉ l) : (insL (fun o => lt x o) x l).Pairwise fun a b => lt a b = true := by
 have hsp := zw8 (lt := fun o => lt x o) (l := l) l.length (Nat.le_refl _)
 have hle := zz4 (fun o => lt x o) l l.length
 unfold insL
 generalize posL (fun o => lt x o) l l.length = p at hsp hle
 have hup : ∀ b ∈ l.drop p, lt x b = true := by
  intro b hb; obtain ⟨i, hi, e⟩ := List.mem_iff_getElem.1 hb; rw [List.length_drop] at hi; rw [List.getElem_drop] at e; have := hsp.1 (p + i) (by omega) (by omega) (by omega)
  rw [← e]; exact this
 have hdn : ∀ a ∈ l.take p, lt a x = true := by
  intro a ha; obtain ⟨i, hi, e⟩ := List.mem_take_iff_getElem.1 ha; have hp : 0 < p := by omega
  obtain ⟨h', hf⟩ := hsp.2 hp; have hne : l[p - 1] ≠ x := fun e => hx (e ▸ List.getElem_mem h')
  have hl : lt l[p - 1] x = true := by
   rcases tot hne with h | h
   ·exact h
   ·rw [h] at hf; cases hf
  rw [← e]; by_cases hi2 : i = p - 1
  ·subst hi2; exact hl
  ·exact tr (List.pairwise_iff_getElem.1 hs i (p - 1) (by omega) h' (by omega)) hl
 rw [List.pairwise_append]
 refine ⟨hs.sublist (List.take_sublist _ _), List.pairwise_cons.2 ⟨hup, hs.sublist (List.drop_sublist _ _)⟩, fun a ha b hb => ?_⟩
 rcases List.mem_cons.1 hb with e | e
 ·rw [e]; exact hdn a ha
 ·exact tr (hdn a ha) (hup b e)
end
theorem z2i {a : List Prt} : ∀ (l out : List (List Prt)), a ∈ l.foldl (fun o a => insL (fun x => zbm a x) a o) out ↔ a ∈ l ∨ a ∈ out
 | [], out => by simp
 | b :: l, out => by
  rw [List.foldl_cons, z2i l, zf7, List.mem_cons]; constructor
  ·rintro (h | h | h)
   ·exact .inl (.inr h)
   ·exact .inl (.inl h)
   ·exact .inr h
  ·rintro ((h | h) | h)
   ·exact .inr (.inl h)
   ·exact .inl h
   ·exact .inr (.inr h)
theorem zjs {a : List Prt} {l : List (List Prt)} : a ∈ insT l ↔ a ∈ l := by unfold insT; rw [z2i]; simp
theorem zqa : ∀ (l out : List (List Prt)), (out.Pairwise fun a b => zbm a b = true) → l.Nodup → (∀ a ∈ l, a ∉ out) → (l.foldl (fun o a => insL (fun x => zbm a x) a o) out).Pairwise fun a b => zbm a b = true
 | [], out, h, _, _ => h
 | b :: l, out, h, hn, hd => by
  rw [List.nodup_cons] at hn; rw [List.foldl_cons]; refine zqa l _ (zz8 (lt := zbm) zk0 zw7 h (hd b (List.mem_cons_self ..))) hn.2 fun a ha hm => ?_
  rcases zf7.1 hm with e | e
  ·subst e; exact hn.1 ha
  ·exact hd a (List.mem_cons_of_mem _ ha) e
theorem zk1 {l : List (List Prt)} (h : l.Nodup) : (insT l).Pairwise fun a b => zbm a b = true := zqa l [] List.Pairwise.nil h fun _ _ h => by cases h
theorem z2j : ∀ (l out : List (List Prt)), (l.foldl (fun o a => insL (fun x => zbm a x) a o) out).length = out.length + l.length
 | [], out => rfl
 | b :: l, out => by rw [List.foldl_cons, z2j l, zl1, List.length_cons]; omega
theorem z2k (l : List (List Prt)) : (insT l).length = l.length := by unfold insT; rw [z2j]; simp
def sprL (g : Lang) : List Prt → List (List Prt)
 | [] => [[]]
 | p :: ps => (List.range (zcj g.lex p.entry).length).flatMap fun (k : Nat) => (sprL g ps).map fun t => (⟨p.entry, p.alt, k⟩ : Prt) :: t
theorem z9g (g : Lang) : ∀ (f : Nat) (p : List Prt) (i : Nat), i + f = p.length → sprT g f p i = (sprL g (p.drop i)).map fun t => p.take i ++ t
 | 0, p, i, h => by
  rw [sprT, List.drop_eq_nil_of_le (by omega), List.take_of_length_le (by omega)]
  simp [sprL]
 | f + 1, p, i, h => by
  have hi : i < p.length := by omega
  have eg : p.getD i ⟨0, 0, 0⟩ = p[i] := by rw [List.getD_eq_getElem?_getD, List.getElem?_eq_getElem hi]; rfl
  rw [sprT, eg, List.drop_eq_getElem_cons hi, sprL, List.map_flatMap]; refine zez fun k _ => ?_
  rw [z9g g f _ (i + 1) (by rw [List.length_set]; omega), List.map_map]
  have e1 : (p.set i ⟨p[i].entry, p[i].alt, (k : Int)⟩).drop (i + 1) = p.drop (i + 1) := by rw [List.drop_set]; rw [if_pos (by omega)]
  have e2 : (p.set i ⟨p[i].entry, p[i].alt, (k : Int)⟩).take (i + 1) = p.take i ++ [⟨p[i].entry, p[i].alt, (k : Int)⟩] := by
   rw [List.take_succ_eq_append_getElem (by rw [List.length_set]; exact hi), List.getElem_set_self, List.take_set_of_le (by omega)]
  rw [e1, e2]; congr 1
  funext t
  simp
theorem ydg (g : Lang) (a : List Prt) : sprT g a.length a 0 = sprL g a := by
 rw [z9g g a.length a 0 (by omega)]
 simp
def Choice (g : Lang) : List Prt → List Prt → Prop
 | [], [] => True
 | p :: ps, q :: qs => (q.entry = p.entry ∧ q.alt = p.alt ∧ 0 ≤ q.sense ∧ q.sense < (zcj g.lex p.entry).length) ∧ Choice g ps qs
 | _, _ => False
theorem zjt (g : Lang) : ∀ {a q : List Prt}, q ∈ sprL g a ↔ Choice g a q
 | [], q => by
  rw [sprL, List.mem_singleton]; cases q with
  | nil => simp [Choice]
  | cons _ _ => simp [Choice]
 | p :: ps, q => by
  rw [sprL, List.mem_flatMap]; constructor
  ·rintro ⟨k, hk, h⟩
   obtain ⟨t, ht, rfl⟩ := List.mem_map.1 h; have := List.mem_range.1 hk
   exact ⟨⟨rfl, rfl, by show (0 : Int) ≤ (k : Int); omega, by show (k : Int) < _; omega⟩, (zjt g).1 ht⟩
  ·intro h
   cases q with
   | nil => simp [Choice] at h
   | cons x t =>
    obtain ⟨⟨h1, h2, h3, h4⟩, h5⟩ := h; refine ⟨x.sense.toNat, List.mem_range.2 (by omega), List.mem_map.2 ⟨t, (zjt g).2 h5, ?_⟩⟩
    congr 1
    exact Prt.ext' h1.symm h2.symm (by show ((x.sense.toNat : Nat) : Int) = x.sense; omega)
theorem zte (g : Lang) : ∀ a : List Prt, (sprL g a).Nodup
 | [] => by rw [sprL]; simp
 | p :: ps => by
  have ih := zte g ps; rw [sprL]; unfold List.Nodup at ih ⊢; rw [List.pairwise_flatMap]; refine ⟨fun k _ => ?_, ?_⟩
  ·rw [List.pairwise_map]
   exact ih.imp fun h e => h (List.cons.inj e).2
  ·refine List.Pairwise.imp ?_ List.pairwise_lt_range
   intro i j hij x hx y hy e; obtain ⟨t, _, rfl⟩ := List.mem_map.1 hx; obtain ⟨u, _, rfl⟩ := List.mem_map.1 hy; have := (List.cons.inj e).1
   have := congrArg Prt.sense this
   simp only at this
   omega
def bare (a : List Prt) : List Prt := a.map fun p => ⟨p.entry, p.alt, 0⟩
theorem zdz {g : Lang} : ∀ {a q : List Prt}, Choice g a q → bare q = bare a
 | [], [], _ => rfl
 | [], _ :: _, h => h.elim
 | _ :: _, [], h => h.elim
 | p :: ps, q :: qs, h => by
  obtain ⟨⟨h1, h2, _⟩, h5⟩ := h; have := zdz h5
  unfold bare at this ⊢; rw [List.map_cons, List.map_cons, this, h1, h2]
theorem yf2 {a : List Prt} (h : ∀ p ∈ a, p.sense = 0) : bare a = a := by
 unfold bare
 conv => rhs; rw [← List.map_id a]
 refine List.map_congr_left fun p hp => ?_
 exact Prt.ext' rfl rfl (h p hp).symm
end Go.V
namespace Go.V
open Go Go.Proofs
def zr6 (g : Lang) (p : Prt) : Prop := ∃ e ∈ g.lex, p.entry = e.id ∧ p.sense = 0 ∧ ∃ alt : Nat, alt < e.forms.length ∧ p.alt = alt
theorem zr6.ok {g : Lang} (hg : LightF g) {p : Prt} (h : zr6 g p) : ∃ e ∈ g.lex, ∃ alt : Nat, alt < e.forms.length ∧ p = ⟨e.id, alt, 0⟩ := by
 obtain ⟨e, he, h1, h2, alt, h3, h4⟩ := h
 exact ⟨e, he, alt, h3, Prt.ext' h1 h4 h2⟩
theorem zu4 {g : Lang} {w : List Int} : ∀ (f : Nat) (a b : List Prt), b ∈ furF g w f a → ∃ t, b = a ++ t ∧ t ≠ [] ∧ t.length ≤ f ∧ (∀ p ∈ t, zr6 g p) ∧ licB g w b = true
 | 0, a, b, h => by simp [furF] at h
 | f + 1, a, b, h => by
  unfold furF at h; rw [List.mem_flatMap] at h; obtain ⟨e, he, h⟩ := h; split at h
  ·rw [List.mem_flatMap] at h
   obtain ⟨alt, ha, h⟩ := h; have ha := List.mem_range.1 ha; have hp : zr6 g ⟨e.id, (alt : Int), 0⟩ := ⟨e, he, rfl, rfl, alt, ha, rfl⟩
   split at h
   ·cases h
   ·rcases List.mem_append.1 h with h | h
    ·split at h
     ·rename_i hl
      rw [List.mem_singleton] at h; subst h; exact ⟨[⟨e.id, (alt : Int), 0⟩], rfl, by simp, by simp, (by intro p hp'; rw [List.mem_singleton] at hp'; rw [hp']; exact hp), hl⟩
     ·cases h
    ·obtain ⟨t, rfl, h1, h2, h3, h4⟩ := zu4 f _ b h
     exact ⟨⟨e.id, (alt : Int), 0⟩ :: t, by simp, by simp, by simp; omega, (fun p hm => (List.mem_cons.1 hm).elim (fun e => e ▸ hp) (h3 p)), h4⟩
  ·cases h
theorem z9h {g : Lang} (hg : LightF g) : g.lex.Pairwise fun e e' => e.id < e'.id := by
 rw [List.pairwise_iff_getElem]
 intro i j hi hj hij
 have := lex_lt hg.lex.up (j - i - 1) i (by omega)
 simpa [show i + (j - i - 1) + 1 = j by omega] using this
theorem zju {g : Lang} {w : List Int} {f : Nat} {a x : List Prt} {p : Prt} (h : x ∈ (if zdy g w < (zbe g.lex (a ++ [p])).length then [] else (if licB g w (a ++ [p]) = true then [a ++ [p]] else []) ++ furF g w f (a ++ [p]))) : ∃ t, x = a ++ p :: t := by
 split at h
 ·cases h
 ·rcases List.mem_append.1 h with h | h
  ·split at h
   ·rw [List.mem_singleton] at h; exact ⟨[], h⟩
   ·cases h
  ·obtain ⟨t, e, _⟩ := zu4 f _ x h
   exact ⟨t, by rw [e]; simp⟩
theorem zw9 {g : Lang} (hg : LightF g) (w : List Int) : ∀ (f : Nat) (a : List Prt), (furF g w f a).Nodup
 | 0, _ => by simp [furF]
 | f + 1, a => by
  unfold furF List.Nodup; rw [List.pairwise_flatMap]; refine ⟨fun e he => ?_, ?_⟩
  ·split
   ·rw [List.pairwise_flatMap]
    refine ⟨fun alt ha => ?_, ?_⟩
    ·split
     ·exact List.Pairwise.nil
     ·rw [List.pairwise_append]
      refine ⟨by split <;> simp, zw9 hg w f _, fun x hx y hy e => ?_⟩
      subst e; obtain ⟨t, e, h1, _⟩ := zu4 f _ x hy; split at hx
      ·rw [List.mem_singleton] at hx
       rw [hx] at e; have := congrArg List.length e
       simp only [List.length_append, List.length_cons, List.length_nil] at this; exact h1 (List.length_eq_zero_iff.1 (by omega))
      ·cases hx
    ·refine List.Pairwise.imp ?_ List.pairwise_lt_range
     intro i j hij x hx y hy e; obtain ⟨t, rfl⟩ := zju hx; obtain ⟨u, rfl⟩ := zju hy; have := (List.cons.inj (List.append_cancel_left e)).1
     have := congrArg Prt.alt this
     simp only at this
     omega
   ·exact List.Pairwise.nil
  ·refine List.Pairwise.imp ?_ (z9h hg)
   intro e e' hlt x hx y hy heq; split at hx
   ·split at hy
    ·rw [List.mem_flatMap] at hx hy
     obtain ⟨_, _, hx⟩ := hx; obtain ⟨_, _, hy⟩ := hy; obtain ⟨t, rfl⟩ := zju hx; obtain ⟨u, rfl⟩ := zju hy; have := (List.cons.inj (List.append_cancel_left heq)).1
     have := congrArg Prt.entry this
     simp only at this
     omega
    ·cases hy
   ·cases hx
structure PlainF (g : Lang) (w : List Int) (b : List Prt) : Prop where
 pos : b ≠ []
 len : b.length ≤ 4
 parts : ∀ p ∈ b, zr6 g p
 lic : licE g w b = true
theorem zcl {g : Lang} {w : List Int} {b : List Prt} (h : b ∈ zbx g w) : PlainF g w b := by
 unfold zbx at h
 split at h
 ·cases h
 ·obtain ⟨t, rfl, h1, h2, h3, h4⟩ := zu4 4 [] b h
  unfold licB at h4; rw [Bool.and_eq_true] at h4; exact ⟨h1, h2, h3, h4.2⟩
theorem zqb {g : Lang} (hg : LightF g) (w : List Int) : (zbx g w).Nodup := by
 unfold zbx
 split
 ·simp
 ·exact zw9 hg w 4 []
theorem PlainF.bare {g : Lang} {w : List Int} {b : List Prt} (h : PlainF g w b) : bare b = b := yf2 fun p hp => by obtain ⟨_, _, _, h2, _⟩ := h.parts p hp; exact h2
theorem zz9 (g : Lang) (w : List Int) : allT g w = (zbx g w).flatMap (sprL g) := by
 unfold allT
 refine zez fun a _ => ?_
 rw [ydg]
theorem zpc {g : Lang} {w : List Int} {q : List Prt} : q ∈ allT g w ↔ ∃ a ∈ zbx g w, Choice g a q := by
 rw [zz9, List.mem_flatMap]
 constructor
 ·rintro ⟨a, h1, h2⟩; exact ⟨a, h1, (zjt g).1 h2⟩
 ·rintro ⟨a, h1, h2⟩; exact ⟨a, h1, (zjt g).2 h2⟩
theorem ztf {g : Lang} (hg : LightF g) (w : List Int) : (allT g w).Nodup := by
 rw [zz9]
 unfold List.Nodup
 rw [List.pairwise_flatMap]
 refine ⟨fun a _ => zte g a, List.Pairwise.imp_of_mem ?_ (zqb hg w)⟩
 intro a b ha hb hne x hx y hy e
 subst e
 have h1 := zdz ((zjt g).1 hx)
 have h2 := zdz ((zjt g).1 hy)
 rw [(zcl ha).bare] at h1
 rw [(zcl hb).bare] at h2
 exact hne (h1.symm.trans h2)
theorem zm6 {g : Lang} : ∀ {a q : List Prt}, Choice g a q → q.length = a.length
 | [], [], _ => rfl
 | [], _ :: _, h => h.elim
 | _ :: _, [], h => h.elim
 | p :: ps, q :: qs, h => by rw [List.length_cons, List.length_cons, zm6 h.2]
theorem zoa (l : List Ent) (a : List Prt) : zax l (bare a) = zax l a := by
 unfold zax bare
 rw [List.flatMap_map]
 rfl
theorem zxa (l : List Ent) (a : List Prt) : zbe l (bare a) = zbe l a := by
 unfold zbe bare
 rw [List.flatMap_map]
 rfl
theorem zqc {g : Lang} {a q : List Prt} (h : Choice g a q) : zbe g.lex q = zbe g.lex a := by rw [← zxa, zdz h, zxa]
theorem zr7 {g : Lang} {a q : List Prt} (h : Choice g a q) : zax g.lex q = zax g.lex a := by rw [← zoa, zdz h, zoa]
theorem zob {g : Lang} (hg : LightF g) : ∀ {a q : List Prt}, Choice g a q → (∀ p ∈ a, zr6 g p) → ∀ p ∈ q, zhh g.lex p = 0
 | [], [], _, _, p, hp => by cases hp
 | [], _ :: _, h, _, _, _ => h.elim
 | _ :: _, [], h, _, _, _ => h.elim
 | p :: ps, q :: qs, h, hv, x, hx => by
  rcases List.mem_cons.1 hx with e | hx
  ·subst e
   obtain ⟨⟨h1, h2, h3, h4⟩, _⟩ := h; obtain ⟨e, he, alt, ha, rfl⟩ := (hv p (List.mem_cons_self ..)).ok hg; simp only at h1 h2 h4
   have hf := ziu hg he ha; have hf' : zic g.lex x = (e, e.forms[alt]?.getD [], true) := by
    obtain ⟨x1, x2, x3⟩ := x; simp only at h1 h2
    subst h1; subst h2; exact hf
   unfold zhh; rw [hf', h1, zur hg.lex.up he]; simp only [Bool.true_eq_false, if_false]; rw [if_neg (by omega)]
  ·exact zob hg h.2 (fun y hy => hv y (List.mem_cons_of_mem _ hy)) x hx
theorem z0a {g : Lang} (hg : LightF g) {a : List Prt} (h : ∀ p ∈ a, zr6 g p) : ∀ p ∈ a, zhh g.lex p = 0 := by
 intro p hp
 obtain ⟨e, he, alt, ha, rfl⟩ := (h p hp).ok hg
 exact zp5 hg he ha
theorem z0b {g : Lang} (hg : LightF g) {a q : List Prt} (h : Choice g a q) (hv : ∀ p ∈ a, zr6 g p) : zim g q = zim g a := by
 have h1 := zhk (zob hg h hv)
 have h2 := zhk (z0a hg hv)
 unfold zim zil
 rw [zm6 h, zqc h, zr7 h, h1, h2]
theorem z9i {g : Lang} (hg : LightF g) {w : List Int} {q : List Prt} (h : q ∈ allT g w) : (zim g q).2 = 0 ∧ (zim g q).1 = w ∧ q.length ≤ 4 := by
 obtain ⟨a, ha, hc⟩ := zpc.1 h
 have hp := zcl ha
 rw [z0b hg hc hp.parts, zm6 hc]
 have := hp.lic
 unfold licE at this
 rw [decide_eq_true_eq] at this
 exact ⟨this.1, this.2, hp.len⟩
theorem zqd {g : Lang} (hg : LightF g) : ∀ {a : List Prt}, (∀ p ∈ a, zr6 g p) → Choice g a a
 | [], _ => trivial
 | p :: ps, h => by
  refine ⟨?_, zqd hg fun x hx => h x (List.mem_cons_of_mem _ hx)⟩
  obtain ⟨e, he, alt, ha, rfl⟩ := (h p (List.mem_cons_self ..)).ok hg; have hs : 0 < (zcj g.lex e.id).length := List.length_pos_iff.2 (hg.senses he)
  exact ⟨rfl, rfl, Int.le_refl _, by show (0 : Int) < ((zcj g.lex e.id).length : Int); omega⟩
theorem zu5 {g : Lang} (hg : LightF g) : ∀ {a : List Prt}, (∀ p ∈ a, zr6 g p) → zb2 (zbe g.lex a)
 | [], _ => fun x hx => by cases hx
 | p :: ps, h => by
  have ih := zu5 hg fun x hx => h x (List.mem_cons_of_mem _ hx)
  obtain ⟨e, he, alt, ha, rfl⟩ := (h p (List.mem_cons_self ..)).ok hg; have : zbe g.lex (⟨e.id, (alt : Int), 0⟩ :: ps) = e.forms[alt]?.getD [] ++ zbe g.lex ps := by
   unfold zbe; rw [List.flatMap_cons, ziu hg he ha]; rfl
  rw [this]; refine zb2.app ?_ ih
  rw [List.getElem?_eq_getElem ha]; exact z2c hg he (List.getElem_mem ha)
structure BasJ (x : BasS) : Prop where
 seen : ∀ k ∈ x.1, ∃ b ∈ x.2, keyS b = k
theorem zu6 (f : List Prt → List Int) : ∀ (l : List (List Prt)) (x : BasS), BasJ x → BasJ (sF basF (x, true) (l.map fun b => (b, f b))).1 ∧
  (∀ b ∈ (sF basF (x, true) (l.map fun b => (b, f b))).1.2, b ∈ x.2 ∨ ∃ a ∈ l, f a = b) ∧ (∀ b ∈ x.2, b ∈ (sF basF (x, true) (l.map fun b => (b, f b))).1.2) ∧
  ∀ a ∈ l, ∃ b ∈ (sF basF (x, true) (l.map fun b => (b, f b))).1.2, keyS b = keyS (f a)
 | [], x, h => ⟨h, fun b hb => .inl hb, fun b hb => hb, fun a ha => by cases ha⟩
 | a :: l, x, h => by
  rw [List.map_cons, zuy, if_neg (by simp)]
  have hF : basF x a (f a) = ((basF x a (f a)).1, true) := rfl
  rw [hF]; by_cases hm : keyS (f a) ∈ x.1
  ·have e : (basF x a (f a)).1 = x := by unfold basF; rw [if_pos hm]
   rw [e]; obtain ⟨i1, i2, i3, i4⟩ := zu6 f l x h; refine ⟨i1, fun b hb => (i2 b hb).imp id fun ⟨c, hc, e⟩ => ⟨c, List.mem_cons_of_mem _ hc, e⟩, i3, fun c hc => ?_⟩
   rcases List.mem_cons.1 hc with e2 | hc
   ·subst e2
    obtain ⟨b, hb, e3⟩ := h.seen _ hm; exact ⟨b, i3 b hb, e3⟩
   ·exact i4 c hc
  ·have e : (basF x a (f a)).1 = (x.1 ++ [keyS (f a)], insL (fun o => yca (f a) o) (f a) x.2) := by unfold basF; rw [if_neg hm]
   rw [e]; obtain ⟨i1, i2, i3, i4⟩ := zu6 f l (x.1 ++ [keyS (f a)], insL (fun o => yca (f a) o) (f a) x.2) ⟨fun k hk => by
    rcases List.mem_append.1 hk with hk | hk
    ·obtain ⟨b, hb, e⟩ := h.seen k hk
     exact ⟨b, zf7.2 (.inr hb), e⟩
    ·rw [List.mem_singleton] at hk
     exact ⟨f a, zf7.2 (.inl rfl), hk.symm⟩⟩
   refine ⟨i1, fun b hb => ?_, fun b hb => i3 b (zf7.2 (.inr hb)), fun c hc => ?_⟩
   ·rcases i2 b hb with hb | ⟨c, hc, e⟩
    ·rcases zf7.1 hb with e | hb
     ·exact .inr ⟨a, List.mem_cons_self .., e.symm⟩
     ·exact .inl hb
    ·exact .inr ⟨c, List.mem_cons_of_mem _ hc, e⟩
   ·rcases List.mem_cons.1 hc with e2 | hc
    ·subst e2
     exact ⟨f c, i3 _ (zf7.2 (.inl rfl)), rfl⟩
    ·exact i4 c hc
theorem ztg {g : Lang} (hg : LightF g) {w : List Int} {b : List Int} : b ∈ z2f g w ↔ ∃ a ∈ zbx g w, zbe g.lex a = b := by
 obtain ⟨_, i2, _, i4⟩ := zu6 (zbe g.lex) (zbx g w) ([], []) ⟨fun k hk => by cases hk⟩
 unfold z2f
 constructor
 ·intro h
  rcases i2 b h with h | h
  ·cases h
  ·exact h
 ·rintro ⟨a, ha, rfl⟩
  obtain ⟨c, hc, e⟩ := i4 a ha; rcases i2 c hc with h | ⟨a2, ha2, e2⟩
  ·cases h
  ·have := key_inj (by rw [← e2]; exact zu5 hg (zcl ha2).parts) (zu5 hg (zcl ha).parts) e
   rw [← this]; exact hc
end Go.V
namespace Go.V
open Go Go.Proofs
theorem zk2 {α β : Type} {f : α → List β} {n : Nat} : ∀ {l : List α}, (∀ x ∈ l, (f x).length ≤ n) → (l.flatMap f).length ≤ l.length * n
 | [], _ => by simp
 | a :: l, h => by
  have h1 := h a (List.mem_cons_self ..); have h2 := zk2 (l := l) fun x hx => h x (List.mem_cons_of_mem _ hx)
  rw [List.flatMap_cons, List.length_append, List.length_cons, Nat.add_mul, Nat.one_mul]; omega
def cntF : Nat → Nat
 | 0 => 0
 | f + 1 => 5 * (2 * (1 + cntF f))
theorem z0c {g : Lang} (hg : LightF g) (w : List Int) : ∀ (f : Nat) (a : List Prt), (furF g w f a).length ≤ cntF f
 | 0, _ => by simp [furF, cntF]
 | f + 1, a => by
  unfold furF cntF; refine Nat.le_trans (zk2 (n := 2 * (1 + cntF f)) fun e he => ?_) (Nat.mul_le_mul_right _ hg.small.few)
  split
  ·refine Nat.le_trans (zk2 (n := 1 + cntF f) fun alt _ => ?_) (Nat.mul_le_mul_right _ ?_)
   ·split
    ·simp
    ·rw [List.length_append]
     have := z0c hg w f (a ++ [⟨e.id, (alt : Int), 0⟩])
     split <;> simp <;> omega
   ·rw [List.length_range]
    have := (hg.small.forms e he).2.1
    simp [Ent.forms]; omega
  ·simp
theorem z9j {g : Lang} (hg : LightF g) (w : List Int) : (zbx g w).length ≤ 11110 := by
 unfold zbx
 split
 ·simp
 ·exact z0c hg w 4 []
structure AllOk (g : Lang) (w : List Int) (L : List (List Prt)) : Prop where
 few : L.length ≤ 200
 form : ∀ q ∈ L, (zim g q).2 = 0 ∧ (zim g q).1 = w ∧ q.length ≤ 4
 up : L.Pairwise fun a b => zbm a b = true
 base : ∀ q ∈ L, zbe g.lex q ∈ z2f g w
 all : ∀ b ∈ z2f g w, ∃ q ∈ L, zbe g.lex q = b
theorem yf3 {g : Lang} (hg : LightF g) (w : List Int) : ((allE g w).2 ≠ 0 → (allE g w).1 = []) ∧ ((allE g w).2 = 0 → AllOk g w (allE g w).1) := by
 rw [z9d]
 by_cases h0 : zgj g.inv w ≠ 0
 ·rw [if_pos h0]
  exact ⟨fun _ => rfl, fun h => absurd h h0⟩
 rw [if_neg h0]
 by_cases h : 200 < (allT g w).length
 ·rw [if_pos h]
  exact ⟨fun _ => rfl, fun h => by cases h⟩
 rw [if_neg h]
 refine ⟨fun h => absurd rfl h, fun _ => ⟨?_, fun q hq => z9i hg (zjs.1 hq), zk1 (ztf hg w), fun q hq => ?_, fun b hb => ?_⟩⟩
 ·show (insT (allT g w)).length ≤ 200
  rw [z2k]; omega
 ·obtain ⟨a, ha, hc⟩ := zpc.1 (zjs.1 hq)
  rw [zqc hc]; exact (ztg hg).2 ⟨a, ha, rfl⟩
 ·obtain ⟨a, ha, rfl⟩ := (ztg hg).1 hb
  exact ⟨a, zjs.2 (zpc.2 ⟨a, ha, zqd hg (zcl ha).parts⟩), rfl⟩
end Go.V

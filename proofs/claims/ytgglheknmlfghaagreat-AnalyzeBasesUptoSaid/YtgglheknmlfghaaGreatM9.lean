/- Contracts and plain laws of this seat: part M9. It needs no conditions. -/
import Derived.Test.YtgglheknmlfghaaGreatM8
import Derived.Test.YtgglheknmlfghaaGreatM7
set_option linter.unusedVariables false
set_option linter.unusedSimpArgs false
set_option linter.unusedSectionVars false
set_option maxRecDepth 100000
namespace Go.V
open Go Go.Proofs
theorem zi5 (g : Lang) (hg : LightF g) (hc : LangC g) (w : List Int) (hw : w.length ≤ 24) {σ : Type} (C : Clo Tryz.prog g w σ) : ∀ f, WalkC g w C f
 | 0 => zta g hg hc w hw C
 | f + 1 => by
  have ih := zi5 g hg hc w hw C f
  exact { call := fun k x tr a s base hI hk ht hl hs hb hkb => zp5 g hg hc w hw C f ih k x tr a s base hI hk ht hl hs hb hkb, inv := fun k x tr a s base hI hk ht hl _ hb hkb => zvs hg hw ih k x tr a s base hI hk ht hl hb hkb }
section
variable {σ : Type}
def sF (F : σ → List Prt → List Int → σ × Bool) : σ × Bool → List (List Prt × List Int) → σ × Bool
 | z, [] => z
 | z, (p, b) :: r => if z.2 = false then z else sF F (F z.1 p b) r
theorem zmn {F : σ → List Prt → List Int → σ × Bool} {z : σ × Bool} (h : z.2 = false) : ∀ l, sF F z l = z
 | [] => rfl
 | (p, b) :: r => by unfold sF; rw [if_pos h]
theorem zg2 {F : σ → List Prt → List Int → σ × Bool} (z : σ × Bool) (p : List Prt) (b : List Int) (r : List (List Prt × List Int)) : sF F z ((p, b) :: r) = if z.2 = false then z else sF F (F z.1 p b) r := rfl
theorem zi6 {F : σ → List Prt → List Int → σ × Bool} : ∀ (z : σ × Bool) (l r : List (List Prt × List Int)), sF F z (l ++ r) = sF F (sF F z l) r
 | z, [], r => rfl
 | z, (p, b) :: l, r => by
  rw [List.cons_append, zg2, zg2]
  by_cases h : z.2 = false
  ·rw [if_pos h, if_pos h]
   exact (zmn h r).symm
  ·rw [if_neg h, if_neg h]
   exact zi6 _ l r
theorem zmo {F : σ → List Prt → List Int → σ × Bool} {α β : Type} {pr : β → σ × Bool} {G : β → α → β} {T : α → List (List Prt × List Int)} : ∀ (l : List α) (y : β), (∀ y, ∀ e ∈ l, pr (G y e) = sF F (pr y) (T e)) → pr (l.foldl G y) = sF F (pr y) (l.flatMap T)
 | [], y, _ => rfl
 | e :: l, y, h => by
  rw [List.foldl_cons, List.flatMap_cons, zi6, ← h y e (List.mem_cons_self ..)]
  exact zmo l _ fun y e he => h y e (List.mem_cons_of_mem _ he)
variable {P : Program} (g : Lang) (w : List Int) (C : Clo P g w σ)
def prS (z : Sst σ) : σ × Bool := (z.1.1, z.2)
def hereT (a : List Prt) (s : Nat) (base : List Int) : List (List Prt × List Int) :=
 if a ≠ [] ∧ s &&& finalS g.net.final ≠ 0 ∧ w.length ≤ base.length ∧ fitsB g w base = true then [(a, base)] else []
theorem zrn (x : σ × List (List Int)) (a : List Prt) (s : Nat) (base : List Int) : prS (hereS g w C x a s base) = sF C.F (x.1, true) (hereT g w a s base) := by
 unfold hereS hereT
 by_cases h : a ≠ [] ∧ s &&& finalS g.net.final ≠ 0 ∧ w.length ≤ base.length
 ·rw [if_pos h]
  by_cases hf : fitsB g w base = true
  ·rw [if_pos hf, if_pos ⟨h.1, h.2.1, h.2.2, hf⟩]; simp [sF, prS]
  ·rw [if_neg hf, if_neg (fun h' => hf h'.2.2.2)]; rfl
 ·rw [if_neg h, if_neg (fun h' => h ⟨h'.1, h'.2.1, h'.2.2.1⟩)]; rfl
theorem zro : ∀ (f : Nat) (x : σ × List (List Int)) (a : List Prt) (s : Nat) (base : List Int), prS (walkS g w C f x a s base) = sF C.F (x.1, true) (hereT g w a s base ++ walkT g w f a s base)
 | 0, x, a, s, base => by
  unfold walkS walkT
  rw [List.append_nil, zrn]
 | f + 1, x, a, s, base => by
  rw [zi6, ← zrn g w C]
  unfold walkS
  by_cases h : (hereS g w C x a s base).2 = false
  ·rw [if_pos h, zmn (z := prS (hereS g w C x a s base)) h]
  rw [if_neg h]
  have h' : (hereS g w C x a s base).2 = true := by simpa using h
  have e0 : prS (hereS g w C x a s base) = prS (((hereS g w C x a s base).1, true) : Sst σ) := by unfold prS; rw [h']
  rw [e0]
  unfold walkT
  refine zmo (F := C.F) (pr := prS) g.lex _ fun y e he => ?_
  unfold entS
  by_cases hy : y.2 = false
  ·rw [if_pos hy]
   exact (zmn (z := prS y) hy _).symm
  rw [if_neg hy]
  by_cases hz : afterS g.net.steps s e.cls = 0
  ·rw [if_pos hz, if_neg (fun h => h hz)]; rfl
  rw [if_neg hz, if_pos hz]
  have hy' : y.2 = true := by simpa using hy
  have e1 : prS y = prS ((y.1, true) : Sst σ) := by unfold prS; rw [hy']
  rw [e1]
  unfold stepS
  refine zmo (F := C.F) (pr := prS) _ _ fun z alt ha => ?_
  unfold altS
  by_cases hzz : z.2 = false
  ·rw [if_pos hzz]
   exact (zmn (z := prS z) hzz _).symm
  rw [if_neg hzz]
  split
  ·rfl
  have hz' : z.2 = true := by simpa using hzz
  have e2 : prS z = (z.1.1, true) := by unfold prS; rw [hz']
  rw [e2, zro f]
  unfold hereT
  have : (a ++ [(⟨e.id, (alt : Int), 0⟩ : Prt)]) ≠ [] := by simp
  simp only [this, ne_eq, not_false_eq_true, true_and]
end
def plainL (g : Lang) (w : List Int) : List (List Prt) := if w.length = 0 ∨ 24 < w.length then [] else furF g w 4 []
theorem zi7 {g : Lang} (hg : LightF g) {w : List Int} (h0 : ¬ w.length = 0) (hw : w.length ≤ 24) {σ : Type} {P : Program} (C : Clo P g w σ) (x : σ) :
  prS (walkS g w C 4 (x, []) [] 1 []) = sF C.F (x, true) ((plainL g w).map fun b => (b, baseE g.lex b)) := by
 rw [zro]
 have h := zrl hg hw 4 [] rfl (fun p hp => by cases hp)
 have e1 : runS g.net.steps (classesE g.lex []) = 1 := rfl
 have e2 : baseE g.lex [] = [] := rfl
 rw [e1, e2] at h
 unfold plainL
 rw [if_neg (by omega), ← h]
 unfold hereT
 rw [if_neg (fun h => h.1 rfl), List.nil_append]
end Go.V
namespace Go.V
open Go Go.Proofs
theorem zlj {w : World} {E : Nat → Prop} {β : Nat → Value} {j : Nat} (hj : β j = .slice none 0 0) : ∀ {l : List Sym} {i : Nat} {vs : List Value}, l[i]? = some .nils → Sms w E β l vs → Sms w E β (l.set i (.ar j)) vs
 | [], i, vs, hi, _ => by simp at hi
 | s :: r, 0, vs, hi, h => by
  simp at hi; subst hi
  simp only [Sms, List.set_cons_zero] at h ⊢
  obtain ⟨v, vs', rfl, h1, h2⟩ := h
  refine ⟨v, vs', rfl, ?_, h2⟩
  simp only [Sm] at h1 ⊢
  rw [h1, hj]
 | s :: r, i + 1, vs, hi, h => by
  simp only [Sms, List.set_cons_succ] at h ⊢
  obtain ⟨v, vs', rfl, h1, h2⟩ := h
  exact ⟨v, vs', rfl, h1, zlj hj (by simpa using hi) h2⟩
theorem zvt {m : Nat} {s : Sym} (hs : Sym.lo m s) : ∀ {l : List Sym} {i : Nat}, Sym.los m l → Sym.los m (l.set i s)
 | [], i, h => by simp
 | x :: r, 0, h => by simp only [List.set_cons_zero, Sym.los] at h ⊢; exact ⟨hs, h.2⟩
 | x :: r, i + 1, h => by simp only [List.set_cons_succ, Sym.los] at h ⊢; exact ⟨h.1, zvt hs h.2⟩
theorem zmp {P : Program} {st : St} {Q : DE → St → Prop} {c : Code} (id i e sz : Nat) {T : Nat} {l : List Sym} (hl : st.look id = some (.box T l)) (hi : l[i]? = some .nils)
  (h : Triple P c Q ((st.new (.arr e sz [])).set id (.box T (l.set i (.ar st.next))))) : Triple P c Q st := by
 intro X w0 β a w hm
 have hm' := hm.newNil e sz
 have hlt := (hm.obj hl).1
 have ho' : (st.new (.arr e sz [])).look id = some (.box T l) := by
  show alook ((st.next, _) :: st.own) id = _
  simp only [alook]
  rw [if_neg (by omega)]
  exact hl
 obtain ⟨_, hlo, b, vs, h1, h2, h3, h4, h5⟩ := hm'.obj ho'
 refine h X w0 _ a w (hm'.update ho' (b := b) (w' := w) (by simp only at h1; rw [h1]; rfl) h2 (fun _ _ => rfl) rfl rfl rfl rfl (Drw.refl _) ?_ ⟨b, vs, h1, h2, h3, zlj (by simp) hi h4, h5⟩)
 exact zvt (by simp [Sym.lo, St.new]) hlo
theorem CallC.args {P : Program} {f : Nat} {args args' : List Sym} {own : List (Nat × Obj')} {n : Nat} {s : Sym} {nx : Nat} {own' : List (Nat × Obj')} {mv : List Nat}
  (ha : ∀ (w : World) (E : Nat → Prop) (β : Nat → Value) (vs : List Value), Sms w E β args' vs → Sms w E β args vs) (h : CallC P f args own n s nx own' mv) : CallC P f args' own n s nx own' mv :=
 ⟨h.1, fun X w0 β w vs hβ hm hs => h.2 X w0 β w vs hβ hm (ha _ _ _ _ hs)⟩
theorem zmq {w : World} {E : Nat → Prop} {β : Nat → Value} {v : Value} (h : Sm w E β .nils v) : Sm w E β (.d (.sl [])) v := by
 simp only [Sm] at h ⊢
 rw [h]
 simp only [R]; exact ⟨none, 0, rfl, by simp, Nat.zero_le _, fun _ => rfl, fun h => absurd rfl h⟩
theorem walk_nil {P : Program} {f : Nat} {a s : Sym} {own : List (Nat × Obj')} {n : Nat} {r : Sym} {nx : Nat} {own' : List (Nat × Obj')} {mv : List Nat}
  (h : CallC P f [a, .d (partsD []), s, .d (ints [])] own n r nx own' mv) : CallC P f [a, .nils, s, .nils] own n r nx own' mv := by
 refine h.args fun w E β vs hs => ?_
 simp only [Sms] at hs ⊢
 obtain ⟨v1, _, rfl, h1, v2, _, rfl, h2, v3, _, rfl, h3, v4, _, rfl, h4, rfl⟩ := hs
 exact ⟨v1, _, rfl, h1, v2, _, rfl, zmq h2, v3, _, rfl, h3, v4, _, rfl, zmq h4, rfl⟩
end Go.V
namespace Go.V
open Go Go.Proofs
def useF (id : Int) (b : Bool) (a : List Prt) (_ : List Int) : Bool × Bool := (b || a.any (fun p => decide (p.entry = id)), !(b || a.any (fun p => decide (p.entry = id))))
def useRest (id : Int) (b : Bool) : List (Nat × Obj') := [(2, .box 3 [.d (int id)]), (3, .box 4 [.d (.bool b)])]
set_option maxHeartbeats 8000000 in
theorem zyk (g : Lang) (w : List Int) (tr : List (List Int)) (id : Int) (b : Bool) (a : List Prt) (ha : a.length ≤ 4) (base : List Int) :
  CallC Tryz.prog 59 [.d (partsD a), .d (ints base), .bp 2 0, .bp 3 0] (srchO g w tr (.fn 59 [.bp 2 0, .bp 3 0]) (useRest id b)) 4
   (.d (.bool (useF id b a base).2)) 4 (srchO g w tr (.fn 59 [.bp 2 0, .bp 3 0]) (useRest id (useF id b a base).1)) [] := by
 refine zas mixed Tryz.func59 rfl call_59 (by simp [Sym.los, Sym.lo]) ?_
 simp +decide [Tryz.f59, srchO, useRest, unAgg, Lang.d, int, ints, u32, partsD]
 refine zad mixed (fun k : Nat => { n := 22, next := 4, slots := [(2, .bp 2 0), (3, .bp 3 0), (9, .d (partsD a)), (10, .d (int a.length)), (11, .d (int k))], own := srchO g w tr (.fn 59 [.bp 2 0, .bp 3 0]) (useRest id (b || (a.take k).any (fun p => decide (p.entry = id)))), base := 4 })
  (fun k => k ≤ a.length) (fun k => a.length - k) 0 (by simp) ?_ ?_
 ·simp +decide [srchO, useRest, unAgg, Lang.d, int, ints, u32, partsD]
 intro k hk
 by_cases hlt : k < a.length
 case neg =>
  have : k = a.length := by omega
  subst this
  rw [List.take_length]
  simp +decide [srchO, useRest, unAgg, Lang.d, int, ints, u32, partsD, useF]
 have hlt' : (k : Int) < a.length := by omega
 obtain ⟨p, ep⟩ : ∃ p, a[k] = p := ⟨_, rfl⟩
 have e1 : a[k]? = some p := by rw [List.getElem?_eq_getElem hlt, ep]
 have hsn : (a.take (k + 1)).any (fun p => decide (p.entry = id)) = ((a.take k).any (fun p => decide (p.entry = id)) || decide (p.entry = id)) := by
  rw [List.take_succ_eq_append_getElem hlt, List.any_append, ep]; simp
 generalize (a.take k).any (fun p => decide (p.entry = id)) = m at hsn
 by_cases he : p.entry = id
 ·simp +decide [srchO, useRest, unAgg, Lang.d, int, ints, u32, partsD, Prt.row, hlt, hlt', ep, e1, he, I64]
  exact ⟨⟨by omega, by omega⟩, k + 1, hlt, by omega, by omega, .inr ⟨p, by rw [List.take_succ_eq_append_getElem hlt, ep]; simp, he⟩⟩
 ·simp +decide [srchO, useRest, unAgg, Lang.d, int, ints, u32, partsD, Prt.row, hlt, hlt', ep, e1, he, I64]
  exact ⟨⟨by omega, by omega⟩, k + 1, hlt, by omega, by omega, by rw [hsn]; simp [he]⟩
theorem zyl (id : Int) (b : Bool) : RestOk 4 (.fn 59 [.bp 2 0, .bp 3 0]) (useRest id b) where
 two := by omega
 keys := by simp [useRest]
 ids i o h := by
  simp only [useRest, List.mem_cons, List.not_mem_nil, or_false] at h
  rcases h with h | h <;> (cases h; simp [Obj'.lo, Sym.los, Sym.lo])
 range := rfl
 thawed k x h := by
  have h2 : ¬ (2 = k) := by omega
  have h3 : ¬ (3 = k) := by omega
  simp [useRest, thawOwn, thawObj, thaws, thaw, h2, h3]
 thawC k x h := by
  have h2 : ¬ (2 = k) := by omega
  have h3 : ¬ (3 = k) := by omega
  simp [thaw, thaws, h2, h3]
 fn := by simp [Sym.lo, Sym.los]
def useC (g : Lang) (w : List Int) (id : Int) : Clo Tryz.prog g w Bool where
 F := useF id
 rest := useRest id
 fid := 59
 caps := [.bp 2 0, .bp 3 0]
 n := 4
 mv := []
 mvOk i h := by cases h
 mvCaps := by simp [purgesM, purgeM]
 Inv _ _ := True
 ok b := zyl id b
 mono _ _ h := h
 call k x tr a base _ _ ha _ := ⟨zyk g w tr id x a ha base, trivial⟩
set_option maxHeartbeats 16000000 in
theorem ztb (g : Lang) (hg : LightF g) (hc : LangC g) (w : List Int) (hw : w.length ≤ 30) (id : Int) (b : Bool) :
  CallC Tryz.prog 41 [.d g.d, .d (ints w), .fn 59 [.bp 0 0, .bp 1 0]] ([(0, .box 3 [.d (int id)]), (1, .box 4 [.d (.bool b)])]) 2
   (.tup []) 2 ([(0, .box 3 [.d (int id)]), (1, .box 4 [.d (.bool (sF (useF id) (b, true) ((plainL g w).map fun b => (b, baseE g.lex b))).1)])]) [] := by
 refine zas mixed Tryz.func41 rfl call_41 (by simp [Sym.los, Sym.lo]) ?_
 by_cases h0 : w.length = 0
 ·have h0' : (w.length : Int) = 0 := by omega
  simp +decide [Tryz.f41, unAgg, Lang.d, int, ints, u32, h0, h0', plainL, sF, useRest]
  done
 have h0' : ¬ (w.length : Int) = 0 := by omega
 by_cases h1 : 24 < w.length
 ·have h1' : (24 : Int) < w.length := by omega
  simp +decide [Tryz.f41, unAgg, Lang.d, int, ints, u32, h0, h0', h1, h1', plainL, sF, useRest]
  done
 have h1' : ¬ (24 : Int) < w.length := by omega
 simp +decide [Tryz.f41, unAgg, Lang.d, int, ints, u32, h0, h0', h1, h1', useRest]
 have hR := (hg.langR hc).rules
 have hsh := zkw g.rules (by have := hR.2; omega) (fun r hr => by have h1 := (hR.1 r hr).dst; have h2 := (hR.1 r hr).src; omega)
 refine zzs mixed 7 [] (by rfl) (by rfl) (by rfl) (by rfl) (by rfl) ?_
 simp +decide [unAgg, Lang.d, int, ints, u32]
 refine zac (by rfl) (by rfl) hsh (by simp [D.scalar]) ?_
 simp +decide [unAgg, Lang.d, int, ints, u32]
 refine ⟨by rfl, ?_⟩
 have hf := hg.net'.ok.2.1
 have hfl : g.net.final.length < 2^40 := hg.net'.few2
 refine zao mixed (fun k : Nat => { n := 46, next := 5, slots := [(6, .bp 4 0), (28, .d (ints g.net.final)), (29, .d (int g.net.final.length)), (30, .d (int k))], own := ((4, .box 130 (unAgg g.d ++ [.d (ints w), .d (.bool (shrinksR g.rules)), .d (u32 (finalS (g.net.final.take k))), .mp 3, .fn 59 [.bp 0 0, .bp 1 0]])) :: (3, .map 81 []) :: [(0, .box 3 [.d (int id)]), (1, .box 4 [.d (.bool b)])]), base := 2 })
  (fun k => k ≤ g.net.final.length) (fun k => g.net.final.length - k) 0 (by simp) ?_ ?_
 ·simp +decide [unAgg, Lang.d, int, ints, u32, finalS, useRest]
 intro k hk
 by_cases hlt : k < g.net.final.length
 ·have hlt' : (k : Int) < g.net.final.length := by omega
  have hsn : finalS (g.net.final.take (k + 1)) = withS (finalS (g.net.final.take k)) g.net.final[k] := by unfold finalS; rw [zae hlt, List.foldl_append]; rfl
  have hm8 : finalS (g.net.final.take k) < 8 := zc4 _ 0 (fun x hx => hf x (List.mem_of_mem_take hx)) (by omega)
  have hq := hf g.net.final[k] (List.getElem_mem hlt)
  obtain ⟨c, ec⟩ : ∃ c, g.net.final[k] = c := ⟨_, rfl⟩
  have e1 : g.net.final[k]? = some c := by rw [List.getElem?_eq_getElem hlt, ec]
  rw [ec] at hsn hq
  generalize finalS (g.net.final.take k) = mm at hsn hm8
  have hwb := zgv hm8 hq.1 (show c < 3 by omega)
  refine zaf mixed ?_
  simp +decide [unAgg, Lang.d, int, ints, u32, hlt, hlt', e1, ec, I64, useRest]
  refine zzt mixed 9 4 (by rfl) rfl rfl rfl rfl (by rfl) (by simp) ?_
  simp +decide [unAgg, Lang.d, int, ints, u32, hlt, hlt', e1, ec, I64]
  exact ⟨hq.1, ⟨by omega, by omega⟩, k + 1, hlt, by omega, by omega, by rw [hsn]; exact hwb⟩
 have : k = g.net.final.length := by omega
 subst this
 rw [List.take_length]
 refine zaf mixed ?_
 simp +decide [unAgg, Lang.d, int, ints, u32, useRest]
 have hwc := walk_nil ((zi5 g hg hc w (by omega) (useC g w id) 4).call 0 b [] [] 1 [] trivial (by decide) (fun _ h => by cases h) rfl (by omega) (by simp) (fun _ h => by cases h))
 have hpl := zi7 hg h0 (by omega) (useC g w id) b
 generalize walkS g w (useC g w id) 4 (b, []) [] 1 [] = z at hwc hpl
 obtain ⟨⟨zx, zt⟩, zb⟩ := z
 have hzx : (sF (useF id) (b, true) ((plainL g w).map fun b => (b, baseE g.lex b))).1 = zx := by
  have := congrArg Prod.fst hpl; exact this.symm
 refine ECall.mut [4, 3, 0, 1] [.bp 0 0, .nils, .d (u32 1), .nils] (srchO g w [] (.fn 59 [.bp 2 0, .bp 3 0]) (useRest id b)) (by rfl) (by simp [rens, ren, rho, u32]) (by simp) ?_ hwc ?_
 ·simp [Fits, fitOwn, srchO, useRest, St.look, alook, renObj, rens, ren, rho, unAgg, Lang.d, trRows, int, ints, u32, List.range, List.range.loop]
 simp +decide [srchO, unAgg, Lang.d, int, ints, u32, hzx, useC, useRest]
theorem zzo (id : Int) : ∀ (l : List (List Prt)) (f : List Prt → List Int) (b : Bool), (sF (useF id) (b, !b) (l.map fun a => (a, f a))).1 = (b || l.any fun a => a.any fun p => decide (p.entry = id))
 | [], f, b => by simp [sF]
 | a :: l, f, b => by
  rw [List.map_cons, zg2]
  cases b with
  | true => simp
  | false =>
   rw [if_neg (by simp)]
   have ih := zzo id l f (false || a.any (fun p => decide (p.entry = id)))
   unfold useF at ih ⊢
   rw [ih]
   simp
def usesE (g : Lang) (w : List Int) (id : Int) : Bool := (plainL g w).any fun a => a.any fun p => decide (p.entry = id)
set_option maxHeartbeats 8000000 in
theorem zvu (g : Lang) (hg : LightF g) (hc : LangC g) (w : List Int) (hw : w.length ≤ 30) (id : Int) : PureR Tryz.prog 25 [g.d, ints w, int id] (.bool (usesE g w id)) := by
 have hR := ztb g hg hc w hw id false
 rw [show (sF (useF id) (false, true) ((plainL g w).map fun b => (b, baseE g.lex b))).1 = usesE g w id from by rw [show (true : Bool) = !false from rfl, zzo]; simp [usesE]] at hR
 refine zaa mixed Tryz.func25 rfl call_25 ?_
 simp +decide [Tryz.f25, unAgg, Lang.d, int, ints]
 refine ECall.mut [1, 2] [.d g.d, .d (ints w), .fn 59 [.bp 0 0, .bp 1 0]] [(0, .box 3 [.d (int id)]), (1, .box 4 [.d (.bool false)])] (by rfl) (by simp [rens, ren, rho, Lang.d, int, ints]) (by simp) ?_ hR ?_
 ·simp [Fits, fitOwn, St.look, alook, renObj, rens, ren, rho, int, List.range, List.range.loop]
 simp +decide [useC, int]
end Go.V
namespace Go.V
open Go Go.Proofs
def posL {α : Type} (lt : α → Bool) (l : List α) : Nat → Nat
 | 0 => 0
 | i + 1 => match l[i]? with
  | some y => if lt y = true then posL lt l i else i + 1
  | none => i + 1
theorem zp6 {α : Type} (lt : α → Bool) (l : List α) : ∀ i, posL lt l i ≤ i
 | 0 => Nat.le_refl _
 | i + 1 => by
  unfold posL
  split
  ·split
   ·exact Nat.le_succ_of_le (zp6 lt l i)
   ·exact Nat.le_refl _
  ·exact Nat.le_refl _
def insL {α : Type} (lt : α → Bool) (x : α) (l : List α) : List α := l.take (posL lt l l.length) ++ x :: l.drop (posL lt l l.length)
def shM (R : List (List D)) (nr : List D) (p L : Nat) : List (List D) :=
 (R ++ [nr]).take (p + 1) ++ (((((R ++ [nr]).drop p).take (L + 1 - p)).take (L - p)) ++ (R ++ [nr]).drop (p + 1 + min (L - p) (L + 1 - p)))
theorem z04 (R : List (List D)) (nr : List D) {p L : Nat} (hL : R.length = L) (hp : p < L) : shM R nr p L = (R ++ [nr]).take (p + 1) ++ R.drop p := by
 subst hL
 unfold shM
 have h1 : (R ++ [nr]).drop (p + 1 + min (R.length - p) (R.length + 1 - p)) = [] := by
  refine List.drop_eq_nil_of_le ?_
  simp; omega
 have h2 : ((R ++ [nr]).drop p).take (R.length - p) = R.drop p := by
  rw [List.drop_append_of_le_length (by omega), List.take_append_of_le_length (by simp), List.take_of_length_le (by simp)]
 rw [h1, List.append_nil, List.take_take, show min (R.length - p) (R.length + 1 - p) = R.length - p by omega, h2]
theorem zn5 {R : List (List D)} (hR : ∀ r ∈ R, r.length = 1) {nr : List D} (hn : nr.length = 1) (x : D) {p L : Nat} (hL : R.length = L) (hp : p < L) :
  (∀ r ∈ ((R ++ [nr]).drop p).take (L + 1 - p), r.length = 1) ∧ 1 ≤ ((shM R nr p L)[p]?.getD []).length ∧
   (shM R nr p L).set p (x :: ((shM R nr p L)[p]?.getD []).tail) = R.take p ++ [x] :: R.drop p := by
 have hall : ∀ r ∈ R ++ [nr], r.length = 1 := by
  intro r h
  rcases List.mem_append.1 h with h | h
  ·exact hR r h
  ·rw [List.mem_singleton.1 h]; exact hn
 refine ⟨fun r h => hall r (List.mem_of_mem_drop (List.mem_of_mem_take h)), ?_⟩
 rw [z04 R nr hL hp]
 have h1 : ((R ++ [nr]).take (p + 1)).length = p + 1 := by rw [List.length_take]; simp; omega
 have hlt : p < ((R ++ [nr]).take (p + 1) ++ R.drop p).length := by rw [List.length_append]; omega
 have hg : ((R ++ [nr]).take (p + 1) ++ R.drop p)[p]?.getD [] = R[p] := by
  rw [List.getElem?_append_left (by omega), List.getElem?_take, if_pos (by omega), List.getElem?_append_left (by omega), List.getElem?_eq_getElem (by omega)]; rfl
 rw [hg]
 have hr1 := hR R[p] (List.getElem_mem (by omega))
 refine ⟨by omega, ?_⟩
 have ht : (R[p]).tail = [] := by
  cases h : R[p] with
  | nil => rfl
  | cons a l => rw [h] at hr1; simp at hr1; exact hr1
 rw [ht, List.set_append_left _ _ (by omega), List.take_append_of_le_length (by omega), List.take_succ_eq_append_getElem (by omega), List.set_append_right _ _ (by simp; omega)]
 simp
 rw [show p - min p R.length = 0 by omega]; rfl
noncomputable instance decBytes (k : ByteArray) (l : List ByteArray) : Decidable (k ∈ l) := Classical.propDecidable _
def seenR (l : List ByteArray) : List (List D) := l.map fun k => [.str k, .bool true]
theorem zn6 (k : ByteArray) : ∀ l : List ByteArray, lookD (.str k) (seenR l) = some (if k ∈ l then some (.bool true) else none)
 | [] => by simp [seenR, lookD]
 | m :: r => by
  have ih := zn6 k r
  simp only [seenR] at ih
  simp only [seenR, List.map_cons, lookD, keyEq]
  by_cases e : k = m
  ·subst e; simp
  ·have e' : ¬ m = k := fun h => e h.symm
   simp [e, e', ih]
theorem zrp (k : ByteArray) : ∀ l : List ByteArray, k ∉ l → putD (.str k) (.bool true) (seenR l) = some (seenR (l ++ [k]))
 | [], _ => rfl
 | m :: r, hn => by
  simp only [List.mem_cons, not_or] at hn
  have hn1 : ¬ m = k := fun h => hn.1 h.symm
  have ih := zrp k r hn.2
  simp only [seenR] at ih ⊢
  simp [putD, keyEq, hn.1, hn1, ih]
abbrev BasS := List ByteArray × List (List Int)
noncomputable def basF (x : BasS) (_ : List Prt) (base : List Int) : BasS × Bool := (if keyS base ∈ x.1 then x else (x.1 ++ [keyS base], insL (fun o => lessL base o) base x.2), true)
def basRest (x : BasS) : List (Nat × Obj') := [(2, .box 81 [.mp 4]), (3, .box 43 [.ar 5]), (4, .map 81 (seenR x.1)), (5, .arr 31 1 (x.2.map fun b => [ints b]))]
set_option maxHeartbeats 16000000 in
theorem zvv (g : Lang) (w : List Int) (tr : List (List Int)) (x : BasS) (hx : x.2.length < 2^21) (hxb : ∀ b ∈ x.2, b.length < 2^40) (a : List Prt) (base : List Int) (hb : base.length ≤ 24) :
  CallC Tryz.prog 42 [.d (partsD a), .d (ints base), .bp 2 0, .bp 3 0] (srchO g w tr (.fn 42 [.bp 2 0, .bp 3 0]) (basRest x)) 6
   (.d (.bool (basF x a base).2)) 6 (srchO g w tr (.fn 42 [.bp 2 0, .bp 3 0]) (basRest (basF x a base).1)) [5] := by
 obtain ⟨seen, out⟩ := x
 simp only at hx hxb
 have hK := key_ok base (by omega)
 have hL := zn6 (keyS base) seen
 refine zas mixed Tryz.func42 rfl call_42 (by simp [Sym.los, Sym.lo]) ?_
 simp +decide [Tryz.f42, srchO, basRest, unAgg, Lang.d, int, ints, u32, partsD]
 refine zac (by rfl) (by rfl) hK (by simp [D.scalar, ints]) ?_
 unfold basF
 by_cases hm : keyS base ∈ seen
 ·rw [if_pos hm] at hL
  simp +decide [int, ints, u32, hL, hm, basRest, srchO]
  done
 rw [if_neg hm] at hL
 have hP := zrp (keyS base) seen hm
 simp +decide [int, ints, u32, hL, hm, basRest, srchO]
 refine zo9 mixed 3 (by rfl) (by rfl) (by rfl) (by rfl) (by simp) ?_
 simp +decide [int, ints, u32]
 refine zac (by rfl) (by rfl) hK (by simp [D.scalar, ints]) ?_
 simp +decide [int, ints, u32, hP]
 refine zao mixed (fun k : Nat => { n := 46, next := 6, slots := [(1, .d (ints base)), (3, .bp 3 0), (7, .d (int k))], own := srchO g w tr (.fn 42 [.bp 2 0, .bp 3 0]) (basRest (seen ++ [keyS base], out)), base := 6 })
  (fun k => k ≤ out.length ∧ posL (fun o => lessL base o) out k = posL (fun o => lessL base o) out out.length) (fun k => k) out.length ⟨Nat.le_refl _, rfl⟩ ?_ ?_
 ·simp +decide [srchO, basRest, unAgg, Lang.d, int, ints, u32]
 intro k ⟨hk, hpos⟩
 by_cases hk0 : 0 < k
 case neg =>
  have hz : posL (fun o => lessL base o) out out.length = k := by
   rw [← hpos]; have : k = 0 := by omega
   subst this; rfl
  have hk0' : ¬ (0 : Int) < k := by omega
  refine zaf mixed ?_
  simp +decide [srchO, basRest, unAgg, Lang.d, int, ints, u32, I64, hk0, hk0']
  unfold insL
  rw [hz]
  clear hpos
  generalize k = p at *
  refine ⟨by omega, by unfold maxLen; omega, ?_⟩
  refine zo9 mixed 7 (by rfl) (by rfl) (by rfl) (by rfl) (by simp) ?_
  have hn1 : ¬ (p : Int) = (out.length : Int) + 1 := by omega
  by_cases hke : p = out.length
  ·subst hke
   simp +decide [int, ints, u32, I64, hn1]
   exact ⟨⟨by omega, by omega⟩, by omega, by omega, by omega⟩
  ·have hp1 : p < out.length := by omega
   have hke' : ¬ (p : Int) = (out.length : Int) := by omega
   have hA : p + (out.length + 1 - p) = out.length + 1 := by omega
   obtain ⟨a1, a2, a3⟩ := zn5 (R := out.map (fun b => [ints b])) (by intro r hr; obtain ⟨y, _, rfl⟩ := List.mem_map.1 hr; rfl) (nr := [.sl []]) rfl (ints base) (p := p) (L := out.length) (by simp) hp1
   unfold shM at a2 a3
   simp only [ints] at a1 a2 a3
   simp +decide [int, ints, u32, I64, hn1, hke', hA]
   refine ⟨⟨by omega, by omega⟩, ⟨by omega, hk⟩, by omega, a1, by omega, by omega, by omega, a2, a3⟩
 obtain ⟨j, rfl⟩ : ∃ j, k = j + 1 := ⟨k - 1, by omega⟩
 have hlt : j < out.length := by omega
 have hlt' : (j : Int) < out.length := by omega
 obtain ⟨o, eo⟩ : ∃ o, out[j] = o := ⟨_, rfl⟩
 have e1 : out[j]? = some o := by rw [List.getElem?_eq_getElem hlt, eo]
 have hB := zug base o (by omega) (by have := hxb out[j] (List.getElem_mem hlt); rw [eo] at this; omega)
 rw [posL, e1] at hpos
 simp only at hpos
 refine zaf mixed ?_
 simp +decide [srchO, basRest, unAgg, Lang.d, int, ints, u32, I64, hlt, hlt', eo, e1]
 refine ⟨by omega, ?_⟩
 refine ECall.pure (by rfl) hB (by simp [D.scalar]) ?_
 cases hl : lessL base o with
 | true =>
  rw [if_pos hl] at hpos
  simp +decide [srchO, basRest, unAgg, Lang.d, int, ints, u32, I64, hl]
  exact ⟨by omega, j, ⟨by omega, hpos⟩, by omega, rfl⟩
 | false =>
  rw [if_neg (by rw [hl]; decide)] at hpos
  simp +decide [srchO, basRest, unAgg, Lang.d, int, ints, u32, I64, hl]
  unfold insL
  rw [← hpos]
  rw [show (j : Int) + 1 = ((j + 1 : Nat) : Int) from by omega]
  clear hpos e1 eo hlt hlt' hk0
  generalize j + 1 = p at *
  refine ⟨by omega, by unfold maxLen; omega, ?_⟩
  refine zo9 mixed 7 (by rfl) (by rfl) (by rfl) (by rfl) (by simp) ?_
  have hn1 : ¬ (p : Int) = (out.length : Int) + 1 := by omega
  by_cases hke : p = out.length
  ·subst hke
   simp +decide [int, ints, u32, I64, hn1]
   exact ⟨⟨by omega, by omega⟩, by omega, by omega, by omega⟩
  ·have hp1 : p < out.length := by omega
   have hke' : ¬ (p : Int) = (out.length : Int) := by omega
   have hA : p + (out.length + 1 - p) = out.length + 1 := by omega
   obtain ⟨a1, a2, a3⟩ := zn5 (R := out.map (fun b => [ints b])) (by intro r hr; obtain ⟨y, _, rfl⟩ := List.mem_map.1 hr; rfl) (nr := [.sl []]) rfl (ints base) (p := p) (L := out.length) (by simp) hp1
   unfold shM at a2 a3
   simp only [ints] at a1 a2 a3
   simp +decide [int, ints, u32, I64, hn1, hke', hA]
   refine ⟨⟨by omega, by omega⟩, ⟨by omega, hk⟩, by omega, a1, by omega, by omega, by omega, a2, a3⟩
theorem zdm {α : Type} {lt : α → Bool} {x y : α} {l : List α} : y ∈ insL lt x l ↔ y = x ∨ y ∈ l := by
 unfold insL
 rw [List.mem_append, List.mem_cons]
 constructor
 ·rintro (h | h | h)
  ·exact .inr (List.mem_of_mem_take h)
  ·exact .inl h
  ·exact .inr (List.mem_of_mem_drop h)
 ·rintro (h | h)
  ·exact .inr (.inl h)
  ·rw [← List.take_append_drop (posL lt l l.length) l] at h
   rcases List.mem_append.1 h with h | h
   ·exact .inl h
   ·exact .inr (.inr h)
theorem zrq {α : Type} {lt : α → Bool} {x : α} {l : List α} : (insL lt x l).length = l.length + 1 := by
 have := zp6 lt l l.length
 unfold insL
 rw [List.length_append, List.length_take, List.length_cons, List.length_drop]
 omega
theorem zym (x : BasS) : RestOk 6 (.fn 42 [.bp 2 0, .bp 3 0]) (basRest x) where
 two := by omega
 keys := by simp [basRest]
 ids i o h := by
  simp only [basRest, List.mem_cons, List.not_mem_nil, or_false] at h
  rcases h with h | h | h | h <;> (cases h; simp [Obj'.lo, Sym.los, Sym.lo])
 range := rfl
 thawed k x h := by
  have h2 : ¬ (2 = k) := by omega
  have h3 : ¬ (3 = k) := by omega
  have h4 : ¬ (4 = k) := by omega
  have h5 : ¬ (5 = k) := by omega
  simp [basRest, thawOwn, thawObj, thaws, thaw, h2, h3, h4, h5]
 thawC k x h := by simp [thaw]
 fn := by simp [Sym.lo, Sym.los]
def basInv (k : Nat) (x : BasS) : Prop := x.2.length ≤ k ∧ ∀ b ∈ x.2, b.length ≤ 24
theorem zyn {k : Nat} {x : BasS} {a : List Prt} {base : List Int} (h : basInv k x) (hb : base.length ≤ 24) : basInv (k + 1) (basF x a base).1 := by
 unfold basF
 split
 ·exact ⟨Nat.le_succ_of_le h.1, h.2⟩
 ·refine ⟨by rw [zrq]; have := h.1; omega, fun b hm => ?_⟩
  rcases zdm.1 hm with e | e
  ·rw [e]; exact hb
  ·exact h.2 b e
noncomputable def basC (g : Lang) (w : List Int) : Clo Tryz.prog g w BasS where
 F := basF
 rest := basRest
 fid := 42
 caps := [.bp 2 0, .bp 3 0]
 n := 6
 mv := [5]
 mvOk i h := by rw [List.mem_singleton] at h; omega
 mvCaps := by simp [purgesM, purgeM]
 Inv := basInv
 ok := zym
 mono _ _ h := ⟨Nat.le_succ_of_le h.1, h.2⟩
 call k x tr a base hI hk ha hb := ⟨zvv g w tr x (by have := hI.1; omega) (fun b hm => by have := hI.2 b hm; omega) a base hb, zyn hI hb⟩
set_option maxHeartbeats 16000000 in
theorem zp7 (g : Lang) (hg : LightF g) (hc : LangC g) (w : List Int) (hw : w.length ≤ 30)  :
  CallC Tryz.prog 41 [.d g.d, .d (ints w), .fn 42 [.bp 0 0, .bp 1 0]] ([(0, .box 81 [.mp 2]), (1, .box 43 [.ar 3]), (2, .map 81 (seenR (([], []) : BasS).1)), (3, .arr 31 1 ((([], []) : BasS).2.map fun b => [ints b]))]) 4
   (.tup []) 4 ([(0, .box 81 [.mp 2]), (1, .box 43 [.ar 3]), (2, .map 81 (seenR (sF basF (([], []), true) ((plainL g w).map fun b => (b, baseE g.lex b))).1.1)), (3, .arr 31 1 ((sF basF (([], []), true) ((plainL g w).map fun b => (b, baseE g.lex b))).1.2.map fun b => [ints b]))]) [3] := by
 refine zas mixed Tryz.func41 rfl call_41 (by simp [Sym.los, Sym.lo]) ?_
 by_cases h0 : w.length = 0
 ·have h0' : (w.length : Int) = 0 := by omega
  simp +decide [Tryz.f41, unAgg, Lang.d, int, ints, u32, h0, h0', plainL, sF, basRest]
  done
 have h0' : ¬ (w.length : Int) = 0 := by omega
 by_cases h1 : 24 < w.length
 ·have h1' : (24 : Int) < w.length := by omega
  simp +decide [Tryz.f41, unAgg, Lang.d, int, ints, u32, h0, h0', h1, h1', plainL, sF, basRest]
  done
 have h1' : ¬ (24 : Int) < w.length := by omega
 simp +decide [Tryz.f41, unAgg, Lang.d, int, ints, u32, h0, h0', h1, h1', basRest]
 have hR := (hg.langR hc).rules
 have hsh := zkw g.rules (by have := hR.2; omega) (fun r hr => by have h1 := (hR.1 r hr).dst; have h2 := (hR.1 r hr).src; omega)
 refine zzs mixed 7 [] (by rfl) (by rfl) (by rfl) (by rfl) (by rfl) ?_
 simp +decide [unAgg, Lang.d, int, ints, u32]
 refine zac (by rfl) (by rfl) hsh (by simp [D.scalar]) ?_
 simp +decide [unAgg, Lang.d, int, ints, u32]
 refine ⟨by rfl, ?_⟩
 have hf := hg.net'.ok.2.1
 have hfl : g.net.final.length < 2^40 := hg.net'.few2
 refine zao mixed (fun k : Nat => { n := 46, next := 7, slots := [(6, .bp 6 0), (28, .d (ints g.net.final)), (29, .d (int g.net.final.length)), (30, .d (int k))], own := ((6, .box 130 (unAgg g.d ++ [.d (ints w), .d (.bool (shrinksR g.rules)), .d (u32 (finalS (g.net.final.take k))), .mp 5, .fn 42 [.bp 0 0, .bp 1 0]])) :: (5, .map 81 []) :: [(0, .box 81 [.mp 2]), (1, .box 43 [.ar 3]), (2, .map 81 (seenR (([], []) : BasS).1)), (3, .arr 31 1 ((([], []) : BasS).2.map fun b => [ints b]))]), base := 4 })
  (fun k => k ≤ g.net.final.length) (fun k => g.net.final.length - k) 0 (by simp) ?_ ?_
 ·simp +decide [unAgg, Lang.d, int, ints, u32, finalS, basRest]
 intro k hk
 by_cases hlt : k < g.net.final.length
 ·have hlt' : (k : Int) < g.net.final.length := by omega
  have hsn : finalS (g.net.final.take (k + 1)) = withS (finalS (g.net.final.take k)) g.net.final[k] := by unfold finalS; rw [zae hlt, List.foldl_append]; rfl
  have hm8 : finalS (g.net.final.take k) < 8 := zc4 _ 0 (fun x hx => hf x (List.mem_of_mem_take hx)) (by omega)
  have hq := hf g.net.final[k] (List.getElem_mem hlt)
  obtain ⟨c, ec⟩ : ∃ c, g.net.final[k] = c := ⟨_, rfl⟩
  have e1 : g.net.final[k]? = some c := by rw [List.getElem?_eq_getElem hlt, ec]
  rw [ec] at hsn hq
  generalize finalS (g.net.final.take k) = mm at hsn hm8
  have hwb := zgv hm8 hq.1 (show c < 3 by omega)
  refine zaf mixed ?_
  simp +decide [unAgg, Lang.d, int, ints, u32, hlt, hlt', e1, ec, I64, basRest]
  refine zzt mixed 9 6 (by rfl) rfl rfl rfl rfl (by rfl) (by simp) ?_
  simp +decide [unAgg, Lang.d, int, ints, u32, hlt, hlt', e1, ec, I64]
  exact ⟨hq.1, ⟨by omega, by omega⟩, k + 1, hlt, by omega, by omega, by rw [hsn]; exact hwb⟩
 have : k = g.net.final.length := by omega
 subst this
 rw [List.take_length]
 refine zaf mixed ?_
 simp +decide [unAgg, Lang.d, int, ints, u32, basRest]
 have hwc := walk_nil ((zi5 g hg hc w (by omega) (basC g w) 4).call 0 (([], []) : BasS) [] [] 1 [] ⟨Nat.zero_le _, fun b hb => by cases hb⟩ (by decide) (fun _ h => by cases h) rfl (by omega) (by simp) (fun _ h => by cases h))
 have hpl := zi7 hg h0 (by omega) (basC g w) (([], []) : BasS)
 generalize walkS g w (basC g w) 4 ((([], []) : BasS), []) [] 1 [] = z at hwc hpl
 obtain ⟨⟨zx, zt⟩, zb⟩ := z
 have hzx : (sF (basF) ((([], []) : BasS), true) ((plainL g w).map fun b => (b, baseE g.lex b))).1 = zx := by
  have := congrArg Prod.fst hpl; exact this.symm
 refine ECall.mut [6, 5, 0, 1, 2, 3] [.bp 0 0, .nils, .d (u32 1), .nils] (srchO g w [] (.fn 42 [.bp 2 0, .bp 3 0]) (basRest (([], []) : BasS))) (by rfl) (by simp [rens, ren, rho, u32]) (by simp) ?_ hwc ?_
 ·simp [Fits, fitOwn, srchO, basRest, St.look, alook, renObj, rens, ren, rho, unAgg, Lang.d, trRows, int, ints, u32, List.range, List.range.loop]
 simp +decide [srchO, unAgg, Lang.d, int, ints, u32, hzx, basC, basRest]
end Go.V
namespace Go.V
open Go Go.Proofs
noncomputable def basesE (g : Lang) (w : List Int) : List (List Int) := (sF basF (([], []), true) ((plainL g w).map fun b => (b, baseE g.lex b))).1.2
set_option maxHeartbeats 8000000 in
theorem ztc (g : Lang) (hg : LightF g) (hc : LangC g) (w : List Int) (hw : w.length ≤ 30) : PureR Tryz.prog 17 [g.d, ints w] (listsD (basesE g w)) := by
 have hR := zp7 g hg hc w hw
 unfold basesE
 generalize (sF basF (([], []), true) ((plainL g w).map fun b => (b, baseE g.lex b))).1 = z at hR
 refine zf5 Tryz.func17 rfl call_17 ?_
 refine zb6 mixed 3 { n := 13, next := 5, slots := [(1, .d (ints w)), (2, .bp 0 0), (5, .bp 2 0), (6, .bp 4 0)], own := [(0, .box 36 (unAgg g.d)), (2, .box 43 [.nils]), (3, .map 81 []), (4, .box 81 [.mp 3])] } rfl ?_ ?_
 ·simp +decide [Tryz.f17, headC, cutK, unAgg, Lang.d, int, ints]
 simp only [tailC]
 refine zmp 2 0 31 1 (T := 43) (l := [.nils]) rfl rfl ?_
 refine zaf mixed ?_
 simp +decide [Tryz.f17, unAgg, Lang.d, int, ints, St.new, St.set, aset]
 refine ECall.mut [4, 2, 3, 5] [.d g.d, .d (ints w), .fn 42 [.bp 0 0, .bp 1 0]] ([(0, .box 81 [.mp 2]), (1, .box 43 [.ar 3]), (2, .map 81 (seenR (([], []) : BasS).1)), (3, .arr 31 1 ((([], []) : BasS).2.map fun b => [ints b]))]) (by rfl) (by simp [rens, ren, rho, Lang.d, int, ints]) (by simp) ?_ hR ?_
 ·simp [Fits, fitOwn, St.look, alook, renObj, rens, ren, rho, int, List.range, List.range.loop, seenR]
 simp +decide [int, ints, listsD]
end Go.V

/- Contracts and plain laws of this seat: part M3. It needs no conditions. -/
import Derived.Test.YtgglheknmlfghaaGreatM2
set_option linter.unusedVariables false
set_option linter.unusedSimpArgs false
set_option linter.unusedSectionVars false
set_option maxRecDepth 100000
namespace Go.V
open Go Go.Proofs
def zim (g : Lang) (ps : List Prt) : List Int × Int :=
 if zil g ps ≠ 0 then ([], zil g ps) else if (zeh g.inv g.rules (zbe g.lex ps)).length = 0 then ([], 23) else (zeh g.inv g.rules (zbe g.lex ps), 0)
end Go.V
namespace Go.V
open Go Go.Proofs
def wayG (l : List Ent) : Nat → Int → List Int
 | 0, _ => []
 | f + 1, id => if (getE l id).2 = true then id :: (if (getE l id).1.main = 0 then [] else wayG l f (getE l id).1.main) else []
theorem z1t (l : List Ent) : ∀ f id, (wayG l f id).length ≤ f
 | 0, _ => Nat.le_refl _
 | f + 1, id => by
  have := z1t l f (getE l id).1.main
  unfold wayG; split
  ·split <;> simp <;> omega
  ·simp
theorem yfn {l : List Ent} {id : Int} (h : (getE l id).2 = true) : (getE l id).1.id = id := by
 unfold getE at h ⊢
 cases hf : l.find? (·.id = id) with
 | none => rw [hf] at h; cases h
 | some e => have := List.find?_some hf; simpa using this
theorem zmz (e : Ent) (h : e.alts.length < 2^39) (alt : Int) : zaq Tryz.prog 88 [.agg e.row, int alt] (.bool (decide (0 ≤ alt ∧ alt < e.forms.length))) := by
 have hF : zaq Tryz.prog 89 [.agg e.row] (zbd e.forms) := by
  refine zaa mixed Tryz.func89 rfl call_89 ?_
  simp [Tryz.f89, Ent.row, zbd, ints, Ent.forms, maxLen]; omega
 have hfl : e.forms.length = e.alts.length + 1 := by simp [Ent.forms]
 refine zaa mixed Tryz.func88 rfl call_88 ?_
 by_cases h0 : 0 ≤ alt
 ·simp +decide [Tryz.f88, int, Ent.row, h0]
  refine zam.pure (by rfl) hF (by simp [Ent.row, int]) ?_
  simp +decide [int, zbd]
 ·simp +decide [Tryz.f88, int, Ent.row, h0]
set_option maxHeartbeats 4000000 in
theorem z1u (l : List Ent) (id : Int) (hl : l.length < 2^40) : zaq Tryz.prog 126 [lexD l, int id] (ints (wayG l (l.length + 1) id)) := by
 refine zaa mixed Tryz.func126 rfl call_126 ?_
 simp +decide [Tryz.f126, int, ints]
 refine zam.pure (by rfl) (zlo l id (by omega)) (by simp [lexD, int]) ?_
 simp +decide [int, ints]
 refine zaf mixed (fun x : List Int × Int => { n := 42, next := 2, slots := [(0, .d (lexD l)), (5, .ar 1), (6, .d (int (zdq l x.2)))], own := [(1, .arr 3 1 (x.1.map fun n => [int n]))], moved := [1] })
  (fun x => x.1 ++ wayG l (l.length + 1 - x.1.length) x.2 = wayG l (l.length + 1) id ∧ x.1.length ≤ l.length + 1) (fun x => l.length + 1 - x.1.length) ([], id) (by simp) (by simp +decide [int]) ?_
 rintro ⟨out, x⟩ ⟨hw, hn⟩
 simp only at hw hn
 have hX : zdq l x < 0 → (getE l x).2 = false := by
  intro h; rcases zcr l x with ⟨_, h2⟩ | ⟨j, hj, h1, _⟩
  ·rw [h2]
  ·omega
 by_cases hneg : zdq l x < 0
 ·have h0 : ¬ 0 ≤ zdq l x := by omega
  have he : wayG l (l.length + 1) id = out := by
   rw [← hw]; have : wayG l (l.length + 1 - out.length) x = [] := by
    cases l.length + 1 - out.length with
    | zero => rfl
    | succ f => unfold wayG; rw [if_neg (by rw [hX hneg]; decide)]
   rw [this, List.append_nil]
  rw [he]; simp +decide [int, ints, h0]
 have h0 : 0 ≤ zdq l x := by omega
 by_cases hfull : out.length ≤ l.length
 case neg =>
  have : out.length = l.length + 1 := by omega
  have he : wayG l (l.length + 1) id = out := by
   rw [← hw, this, Nat.sub_self]; exact List.append_nil _
  rw [he]; have hf' : ¬ (out.length : Int) ≤ l.length := by omega
  simp +decide [int, ints, h0, lexD, hf']
 rcases zcr l x with ⟨h1, _⟩ | ⟨j, hj, h1, h2⟩
 ·exact absurd h1 (by omega)
 have hid : l[j].id = x := by have := yfn (l := l) (id := x) (by rw [h2]); rw [h2] at this; exact this
 obtain ⟨e, ee⟩ : ∃ e, l[j] = e := ⟨_, rfl⟩
 have e1 : l[j]? = some e := by rw [List.getElem?_eq_getElem hj, ee]
 rw [ee] at hid h2
 have hf' : (out.length : Int) ≤ l.length := by omega
 have hj' : (j : Int) < l.length := by omega
 have hs : wayG l (l.length + 1 - out.length) x = x :: (if e.main = 0 then [] else wayG l (l.length + 1 - (out.length + 1)) e.main) := by
  have : l.length + 1 - out.length = (l.length + 1 - (out.length + 1)) + 1 := by omega
  rw [this]; conv => lhs; unfold wayG
  rw [if_pos (by rw [h2]), h2]
 rw [hs] at hw
 have hf2 := zlo l e.main (by omega)
 by_cases hm : e.main = 0
 ·rw [if_pos hm] at hw
  rw [← hw]; simp +decide [int, ints, h0, lexD, hf', h1, hj, hj', e1, ee, hid, hm, I64, Ent.row]; exact ⟨by omega, by unfold maxLen; omega⟩
 ·rw [if_neg hm] at hw
  simp +decide [int, ints, h0, lexD, hf', h1, hj, hj', e1, ee, hid, hm, I64, Ent.row]; refine ⟨by omega, by unfold maxLen; omega, zam.pure (by rfl) hf2 (by simp [lexD, int, Ent.row, ints]) ?_⟩
  simp +decide [int, ints, lexD]; exact ⟨out ++ [x], e.main, ⟨by rw [List.length_append, List.append_assoc]; exact hw, by simp; omega⟩, by simp; omega, rfl, by simp⟩
def senW (l : List Ent) : List Int → List Sens
 | [] => []
 | x :: ws => if (getE l x).1.senses ≠ [] then (getE l x).1.senses else senW l ws
theorem zlr (l : List Ent) : ∀ f id, (wayR l f id).getD [] = senW l (wayG l f id)
 | 0, _ => rfl
 | f + 1, id => by
  have ih := zlr l f (getE l id).1.main; unfold wayR wayG; by_cases h : (getE l id).2 = true
  ·rw [if_pos h, if_pos h]
   by_cases hs : (getE l id).1.senses ≠ []
   ·rw [if_pos hs]; unfold senW; rw [if_pos hs]; rfl
   ·rw [if_neg hs]; unfold senW; rw [if_neg hs]
    by_cases hm : (getE l id).1.main = 0
    ·rw [if_pos hm, if_pos hm]; rfl
    ·rw [if_neg hm, if_neg hm]; exact ih
  ·rw [if_neg h, if_neg h]; rfl
theorem zsp (l : List Ent) : ∀ f id, ∀ x ∈ wayG l f id, (getE l x).2 = true
 | 0, _, x, hx => by cases hx
 | f + 1, id, x, hx => by
  unfold wayG at hx; split at hx
  ·rename_i h
   rcases List.mem_cons.mp hx with hx | hx
   ·rw [hx]; exact h
   ·split at hx
    ·cases hx
    ·exact zsp l f _ x hx
  ·cases hx
theorem z7k {l : List Ent} {ws : List Int} {k : Nat} (h : k < ws.length) : senW l (ws.drop k) = if (getE l ws[k]).1.senses ≠ [] then (getE l ws[k]).1.senses else senW l (ws.drop (k + 1)) := by
 rw [List.drop_eq_getElem_cons h]; rfl
set_option maxHeartbeats 4000000 in
theorem zps (l : List Ent) (id : Int) (hl : l.length < 2^40) : zaq Tryz.prog 140 [lexD l, int id] (zbl (zcj l id)) := by
 unfold zcj
 rw [zlr]
 have hW := z1u l id hl
 have hwl := z1t l (l.length + 1) id
 have hfo := zsp l (l.length + 1) id
 generalize wayG l (l.length + 1) id = ws at hW hwl hfo ⊢
 refine zaa mixed Tryz.func140 rfl call_140 ?_
 simp +decide [Tryz.f140, int]
 refine zam.pure (by rfl) hW (by simp [lexD, int]) ?_
 simp +decide [int, ints]
 refine zaf mixed (fun k : Nat => { n := 32, next := 1, slots := [(0, .d (lexD l)), (5, .d (ints ws)), (6, .d (int k))], own := [] })
  (fun k => k ≤ ws.length ∧ senW l (ws.drop k) = senW l ws) (fun k => ws.length - k) 0 (by simp) (by simp +decide [int, ints]) ?_
 intro k ⟨hk, hpe⟩
 by_cases hlt : k < ws.length
 case neg =>
  have : k = ws.length := by omega
  subst this; rw [List.drop_length] at hpe; rw [← hpe]; simp +decide [int, ints, zbl, senW]
 have hlt' : (k : Int) < ws.length := by omega
 have hsn := z7k (l := l) hlt
 have hfk := hfo ws[k] (List.getElem_mem hlt)
 obtain ⟨x, ex⟩ : ∃ x, ws[k] = x := ⟨_, rfl⟩
 have e1 : ws[k]? = some x := by rw [List.getElem?_eq_getElem hlt, ex]
 rw [ex] at hsn hfk
 have hF := zlo l x (by omega)
 rcases zcr l x with ⟨h1, h2⟩ | ⟨j, hj, h1, h2⟩
 ·rw [h2] at hfk; cases hfk
 rw [h1] at hF
 obtain ⟨e, ee⟩ : ∃ e, l[j] = e := ⟨_, rfl⟩
 have ej : l[j]? = some e := by rw [List.getElem?_eq_getElem hj, ee]
 rw [ee] at h2
 rw [h2] at hsn
 have hj' : (j : Int) < l.length := by omega
 simp +decide [int, ints, hlt, hlt', e1, ex, lexD]
 refine zam.pure (by rfl) hF (by simp [lexD, int]) ?_
 by_cases hs : e.senses = []
 ·rw [if_neg (by simpa using hs)] at hsn
  simp +decide [int, ints, lexD, hj, hj', ej, ee, hs, Ent.row, zbl]; exact ⟨⟨by omega, by omega⟩, k + 1, ⟨hlt, by rw [← hsn]; exact hpe⟩, by omega, by simp⟩
 ·rw [if_pos (by simpa using hs)] at hsn
  rw [← hpe, hsn]; simp +decide [int, ints, lexD, hj, hj', ej, ee, hs, Ent.row, zbl]
set_option maxHeartbeats 4000000 in
theorem z7l (g : Lang) (hg : LexFit g.lex) (p : Prt) : zaq Tryz.prog 127 [g.d, .agg p.row] (int (zhh g.lex p)) := by
 have hG := zo7 g.lex p.entry (by have := hg.len; omega)
 have hS := zps g.lex p.entry hg.len
 have hA := zpr hg p.entry
 unfold zhh zic
 generalize getE g.lex p.entry = r at hG hA ⊢
 obtain ⟨e, ok⟩ := r
 simp only at hG hA ⊢
 have hF := zmz e hA p.alt
 refine zaa mixed Tryz.func127 rfl call_127 ?_
 simp +decide [Tryz.f127, Lang.d, Prt.row, int]
 refine zam.pure (by rfl) hG (by simp [lexD, int]) ?_
 cases ok with
 | false => simp +decide [int, Ent.row]
 | true =>
  simp +decide [int, Ent.row]; refine zam.pure (by rfl) hF (by simp [Ent.row, int]) ?_
  by_cases hf : 0 ≤ p.alt ∧ p.alt < e.forms.length
  ·simp +decide [int, hf]
   refine ⟨fun h1 h2 => absurd h2 (by omega), fun h => ?_⟩
   refine zad (by rfl) (by rfl) hS (by simp [lexD, int]) ?_
   have hn : ¬ p.sense < 0 := by omega
   by_cases hs : ((zcj g.lex p.entry).length : Int) ≤ p.sense
   ·simp +decide [int, zbl, hn, hs]
   ·simp +decide [int, zbl, hn, hs]
  ·simp +decide [int, hf]
end Go.V
namespace Go.V
open Go Go.Proofs
theorem z1v (l : List Ent) (p : Prt) : zic l p = if (getE l p.entry).2 = true ∧ (0 ≤ p.alt ∧ p.alt < (getE l p.entry).1.forms.length) then ((getE l p.entry).1, ((getE l p.entry).1.forms[p.alt.toNat]?.getD []), true) else ((getE l p.entry).1, [], false) := rfl
theorem zgw {P : Program} {all : List Oper} {n0 : Nat} {vl : List Nat} {K : St → List FK → List (Nat × Obj') → Prop} {o : Oper} {r : List Oper} {st : St} {ks : List FK} {hs : List (Nat × Obj')} :
  fseg P all n0 vl K (o :: r) st ks hs = (xdst o.dst st.n = true ∧ fop P all n0 vl o st hs (fun k hs' => fseg P all n0 vl K r (st.put o.dst k.sym) (k :: ks) hs')) := rfl
set_option maxHeartbeats 4000000 in
theorem zls (g : Lang) (hg : LexFit g.lex) (ps : List Prt) (hp : ps.length < 2^20) : zaq Tryz.prog 129 [g.d, anaD ps] (ints (zax g.lex ps)) := by
 refine zaa mixed Tryz.func129 rfl call_129 ?_
 simp +decide [Tryz.f129, Lang.d, anaD, zab, int]
 refine zaf mixed (fun k : Nat => { n := 45, next := 4, slots := [(2, .bp 0 0), (3, .bp 1 0), (5, .ar 3), (6, .d (int k))], own := [(0, .box 36 (zai g.d)), (1, .box 39 [.d (zab ps)]), (3, .arr 3 1 ((zax g.lex (ps.take k)).map fun n => [int n]))], moved := [3] })
  (fun k => k ≤ ps.length) (fun k => ps.length - k) 0 (by simp) (by simp +decide [int, zab, zax, zai, Lang.d]) ?_
 intro k hk
 by_cases hlt : k < ps.length
 case neg =>
  have : k = ps.length := by omega
  subst this; rw [List.take_length]; simp +decide [int, ints, zab]
 have hlt' : (k : Int) < ps.length := by omega
 have hsn := zuh (l := g.lex) hlt
 have hlen := zf4 g.lex (ps.take k)
 rw [List.length_take] at hlen
 obtain ⟨p, ep⟩ : ∃ p, ps[k] = p := ⟨_, rfl⟩
 have e1 : ps[k]? = some p := by rw [List.getElem?_eq_getElem hlt, ep]
 rw [ep, z1v] at hsn
 have hG := zo7 g.lex p.entry (by have := hg.len; omega)
 have hA := zpr hg p.entry
 generalize getE g.lex p.entry = r at hG hA hsn
 obtain ⟨e, ok⟩ := r
 simp only at hG hA hsn
 have hF := zmz e hA p.alt
 simp +decide [int, zab, Prt.row, hlt, hlt', e1, ep, I64, zai, Lang.d]
 refine zyl mixed 15 [] (by rfl) (by rfl) (by rfl) (by rfl) ?_
 dsimp only [List.take]
 iterate 8 (rw [zgw]; simp +decide [-fseg, int, zab, Prt.row, hlt, hlt', e1, ep, I64, zai, Lang.d])
 rw [zgw]
 simp +decide [-fseg, int, zab, Prt.row, hlt, hlt', e1, ep, I64, zai, Lang.d]
 refine zad (by rfl) (by rfl) hG (by simp [lexD, int]) ?_
 simp +decide [-fseg, int]
 iterate 6 (rw [zgw]; simp +decide [-fseg, int, Ent.row])
 refine ⟨by rfl, ?_⟩
 cases ok with
 | false =>
  simp only [Bool.false_eq_true, false_and, if_false, List.append_nil] at hsn; simp +decide [int, ints, Ent.row, zab, Prt.row, I64, zai, Lang.d]; exact ⟨⟨by omega, by omega⟩, k + 1, hlt, by omega, by omega, by rw [hsn]⟩
 | true =>
  simp +decide [int, ints, Ent.row, zab, Prt.row, hlt, hlt', e1, ep, I64, zai, Lang.d]; refine zad (by rfl) (by rfl) hF (by simp [Ent.row, int, ints]) ?_
  by_cases hf : 0 ≤ p.alt ∧ p.alt < e.forms.length
  ·simp only [true_and, hf, and_self, if_true] at hsn
   simp +decide [int, ints, Ent.row, zab, Prt.row, I64, zai, Lang.d, hf]; exact ⟨by omega, by unfold maxLen; omega, ⟨by omega, by omega⟩, k + 1, hlt, by omega, by omega, by rw [hsn]; simp⟩
  ·simp only [true_and, hf, Bool.false_eq_true, if_false, List.append_nil] at hsn
   simp +decide [int, ints, Ent.row, zab, Prt.row, I64, zai, Lang.d, hf]; exact ⟨⟨by omega, by omega⟩, k + 1, hlt, by omega, by omega, by rw [hsn]⟩
end Go.V
namespace Go.V
open Go Go.Proofs
theorem zn4 (e : Ent) (h : e.alts.length < 2^40) : zaq Tryz.prog 89 [.agg e.row] (zbd e.forms) := by
 refine zaa mixed Tryz.func89 rfl call_89 ?_
 simp [Tryz.f89, Ent.row, zbd, ints, Ent.forms, maxLen]
 omega
set_option maxHeartbeats 4000000 in
theorem zm0 (g : Lang) (hg : LexFit g.lex) (ps : List Prt) (hp : ps.length < 2^20) : zaq Tryz.prog 46 [g.d, anaD ps] (ints (zbe g.lex ps)) := by
 refine zaa mixed Tryz.func46 rfl call_46 ?_
 simp +decide [Tryz.f46, Lang.d, anaD, zab, int]
 refine zaf mixed (fun k : Nat => { n := 52, next := 4, slots := [(2, .bp 0 0), (3, .bp 1 0), (5, .ar 3), (6, .d (int k))], own := [(0, .box 36 (zai g.d)), (1, .box 39 [.d (zab ps)]), (3, .arr 3 1 ((zbe g.lex (ps.take k)).map fun n => [int n]))], moved := [3] })
  (fun k => k ≤ ps.length) (fun k => ps.length - k) 0 (by simp) (by simp +decide [int, zab, zbe, zai, Lang.d]) ?_
 intro k hk
 by_cases hlt : k < ps.length
 case neg =>
  have : k = ps.length := by omega
  subst this; rw [List.take_length]; simp +decide [int, ints, zab]
 have hlt' : (k : Int) < ps.length := by omega
 have hsn := z4c (l := g.lex) hlt
 have hlen := zlp hg (ps.take k)
 rw [List.length_take] at hlen
 obtain ⟨p, ep⟩ : ∃ p, ps[k] = p := ⟨_, rfl⟩
 have e1 : ps[k]? = some p := by rw [List.getElem?_eq_getElem hlt, ep]
 rw [ep, z1v] at hsn
 have hG := zo7 g.lex p.entry (by have := hg.len; omega)
 have hA := zpr hg p.entry
 have hwl : (0 ≤ p.alt ∧ p.alt < (getE g.lex p.entry).1.forms.length) → ((getE g.lex p.entry).1.forms[p.alt.toNat]?.getD []).length < 2^20 := by
  intro h; by_cases hb : (getE g.lex p.entry).2 = true
  ·have := zwa hg p
   unfold zic at this; rw [if_pos ⟨hb, h⟩] at this; exact this
  ·rcases zcr g.lex p.entry with ⟨_, h2⟩ | ⟨j, hj, _, h2⟩
   ·rw [h2] at h ⊢
    have h0 : p.alt = 0 := by have := h.2; simp [Ent.zero, Ent.forms] at this; omega
    rw [h0]; decide
   ·rw [h2] at hb; exact absurd rfl hb
 generalize getE g.lex p.entry = r at hG hA hsn hwl
 obtain ⟨e, ok⟩ := r
 simp only at hG hA hsn hwl
 have hF := zmz e hA p.alt
 have hL := zn4 e (by omega)
 simp +decide [int, zab, Prt.row, hlt, hlt', e1, ep, I64, zai, Lang.d]
 refine zyl mixed 15 [] (by rfl) (by rfl) (by rfl) (by rfl) ?_
 dsimp only [List.take]
 iterate 8 (rw [zgw]; simp +decide [-fseg, int, zab, Prt.row, hlt, hlt', e1, ep, I64, zai, Lang.d])
 rw [zgw]
 simp +decide [-fseg, int, zab, Prt.row, hlt, hlt', e1, ep, I64, zai, Lang.d]
 refine zad (by rfl) (by rfl) hG (by simp [lexD, int]) ?_
 simp +decide [-fseg, int]
 iterate 6 (rw [zgw]; simp +decide [-fseg, int, Ent.row])
 refine ⟨by rfl, ?_⟩
 cases ok with
 | false =>
  simp only [Bool.false_eq_true, false_and, if_false, List.append_nil] at hsn; simp +decide [int, ints, Ent.row, zab, Prt.row, I64, zai, Lang.d]; exact ⟨⟨by omega, by omega⟩, k + 1, hlt, by omega, by omega, by rw [hsn]⟩
 | true =>
  simp +decide [int, ints, Ent.row, zab, Prt.row, hlt, hlt', e1, ep, I64, zai, Lang.d]; refine zad (by rfl) (by rfl) hF (by simp [Ent.row, int, ints]) ?_
  by_cases hf : 0 ≤ p.alt ∧ p.alt < e.forms.length
  ·simp only [true_and, hf, and_self, if_true] at hsn
   have h0 : p.alt.toNat < e.forms.length := by omega
   obtain ⟨w, ew⟩ : ∃ w, e.forms[p.alt.toNat] = w := ⟨_, rfl⟩; have ew' : e.forms[p.alt.toNat]? = some w := by rw [List.getElem?_eq_getElem h0, ew]
   rw [ew', Option.getD_some] at hsn hwl; have hwl := hwl hf; simp +decide [int, ints, Ent.row, zab, Prt.row, I64, zai, Lang.d, hf]; refine zyq mixed 11 (by rfl) (by rfl) (by rfl) (by rfl) (by simp) ?_
   simp +decide [int, ints, Ent.row, zab, Prt.row, hlt, hlt', e1, ep, I64, zai, Lang.d, hf]; refine zad (by rfl) (by rfl) hL (by simp [Ent.row, int, ints]) ?_
   simp +decide [int, ints, Ent.row, zab, Prt.row, hlt, hlt', e1, ep, I64, zai, Lang.d, hf, zbd, ew', ew, h0]; exact ⟨by omega, by unfold maxLen; omega, ⟨by omega, by omega⟩, k + 1, hlt, by omega, by omega, by rw [hsn]; simp⟩
  ·simp only [true_and, hf, Bool.false_eq_true, if_false, List.append_nil] at hsn
   simp +decide [int, ints, Ent.row, zab, Prt.row, I64, zai, Lang.d, hf]; exact ⟨⟨by omega, by omega⟩, k + 1, hlt, by omega, by omega, by rw [hsn]⟩
end Go.V
namespace Go.V
open Go Go.Proofs
def bls (S m : Nat) : List Bool := (List.range S).map fun q => m.testBit q
def za4 (l : List Bool) : D := .sl (l.map fun b => [.bool b])
@[simp] theorem yig (S m : Nat) : (bls S m).length = S := by simp [bls]
theorem zin {S m q : Nat} (h : q < S) : (bls S m)[q]? = some (m.testBit q) := by simp [bls, h]
theorem zn5 {S m q : Nat} (h : q < (bls S m).length) : (bls S m)[q] = m.testBit q := by simp [bls]
theorem zo9 (S : Nat) : bls S 0 = List.replicate S false := by
 apply List.ext_getElem <;> simp [bls]
theorem zio (m q j : Nat) : (m ||| (1 <<< q)).testBit j = (m.testBit j || decide (q = j)) := by
 rw [Nat.testBit_or, Nat.one_shiftLeft, Nat.testBit_two_pow]
theorem zzg {S m q : Nat} (h : q < S) : (bls S m).set q true = bls S (zgt m (q : Int)) := by
 apply List.ext_getElem
 ·simp
 ·intro i h1 h2
  have hi : i < S := by simpa using h2
  rw [List.getElem_set]; unfold zgt; simp only [bls, List.getElem_map, List.getElem_range, Int.toNat_natCast, zio]; by_cases e : q = i
  ·subst e; simp
  ·simp [e]
structure NetL (n : Nett) : Prop where
 lo : 1 ≤ n.states
 hi : n.states ≤ 3
 steps : ∀ s ∈ n.steps, (0 ≤ s.src ∧ s.src < n.states) ∧ (0 ≤ s.dst ∧ s.dst < n.states) ∧ 1 ≤ s.cls
 final : ∀ q ∈ n.final, 0 ≤ q ∧ q < n.states
 few : n.steps.length < 2^40
 few2 : n.final.length < 2^40
theorem NetL.ok {n : Nett} (h : NetL n) : yhd n := by
 refine ⟨fun s hs => ?_, fun q hq => ?_, h.few, h.few2⟩
 ·have := h.steps s hs; have := h.hi; omega
 ·have := h.final q hq; have := h.hi; omega
set_option maxHeartbeats 4000000 in
theorem zpa (n : Nett) (hn : NetL n) (l : List Int) (hl : ∀ q ∈ l, 0 ≤ q ∧ q < n.states) (hlen : l.length < 2^40) :
  zaq Tryz.prog 159 [.agg n.cells, ints l] (za4 (bls n.states.toNat (zbk l))) := by
 have h1 := hn.lo
 have h3 := hn.hi
 refine zaa mixed Tryz.func159 rfl call_159 ?_
 simp +decide [Tryz.f159, Nett.cells, int, ints]
 refine ⟨by omega, by omega, by unfold maxLen; omega, ?_⟩
 refine zaf mixed (fun k : Nat => { n := 23, next := 3, slots := [(1, .d (ints l)), (5, .ar 2), (6, .d (int k))], own := [(2, .arr 4 1 ((bls n.states.toNat (zbk (l.take k))).map fun b => [.bool b]))], moved := [] })
  (fun k => k ≤ l.length) (fun k => l.length - k) 0 (by simp) (by simp +decide [int, ints, zbk, zo9]) ?_
 intro k hk
 by_cases hlt : k < l.length
 case neg =>
  have : k = l.length := by omega
  subst this; rw [List.take_length]; simp +decide [int, ints, za4]
 have hlt' : (k : Int) < l.length := by omega
 have hq := hl l[k] (List.getElem_mem hlt)
 have hsn : zbk (l.take (k + 1)) = zgt (zbk (l.take k)) l[k] := by unfold zbk; rw [zaj hlt, List.foldl_append]; rfl
 obtain ⟨q, eq⟩ : ∃ q, l[k] = q := ⟨_, rfl⟩
 have e1 : l[k]? = some q := by rw [List.getElem?_eq_getElem hlt, eq]
 rw [eq] at hq hsn
 have hst := zzg (S := n.states.toNat) (m := zbk (l.take k)) (q := q.toNat) (by omega)
 rw [show ((q.toNat : Nat) : Int) = q by omega, ← hsn] at hst
 have hgt := zin (S := n.states.toNat) (m := zbk (l.take k)) (q := q.toNat) (by omega)
 have hms : (List.map (fun b => [D.bool b]) (bls n.states.toNat (zbk (l.take k)))).set q.toNat [D.bool true] = List.map (fun b => [D.bool b]) (bls n.states.toNat (zbk (l.take (k + 1)))) := by
  rw [← hst, List.map_set]
 simp +decide [int, ints, hlt, hlt', e1, eq, hq.1, hq.2, hgt]
 exact ⟨by omega, by omega, ⟨by omega, by omega⟩, k + 1, hlt, by omega, by omega, hms⟩
def zey (m : Nat) (c : Int) (out : Nat) (s : Stp) : Nat := if hasS m s.src = true ∧ (c = 0 ∨ s.cls = c) then zgt out s.dst else out
def zb3 (l : List Stp) (m : Nat) (c : Int) : Nat := l.foldl (zey m c) 0
set_option maxHeartbeats 4000000 in
theorem zsq (n : Nett) (hn : NetL n) (m : Nat) (c : Int) :
  zaq Tryz.prog 162 [.agg n.cells, za4 (bls n.states.toNat m), int c] (za4 (bls n.states.toNat (zb3 n.steps m c))) := by
 have h1 := hn.lo
 have h3 := hn.hi
 have hfew := hn.few
 refine zaa mixed Tryz.func162 rfl call_162 ?_
 simp +decide [Tryz.f162, Nett.cells, int, ints, za4]
 refine ⟨by omega, by omega, by unfold maxLen; omega, ?_⟩
 refine zaf mixed (fun k : Nat => { n := 45, next := 3, slots := [(1, .d (za4 (bls n.states.toNat m))), (2, .d (int c)), (3, .bp 0 0), (7, .ar 2), (8, .d (int k))], own := [(0, .box 33 (n.cells.map .d)), (2, .arr 4 1 ((bls n.states.toNat (zb3 (n.steps.take k) m c)).map fun b => [.bool b]))], moved := [] })
  (fun k => k ≤ n.steps.length) (fun k => n.steps.length - k) 0 (by simp) (by simp +decide [int, ints, zb3, zo9, Nett.cells, za4]) ?_
 intro k hk
 by_cases hlt : k < n.steps.length
 case neg =>
  have : k = n.steps.length := by omega
  subst this; rw [List.take_length]; simp +decide [int, ints, za4, Nett.cells, stepsD]
 have hlt' : (k : Int) < n.steps.length := by omega
 have hq := hn.steps n.steps[k] (List.getElem_mem hlt)
 have hsn : zb3 (n.steps.take (k + 1)) m c = zey m c (zb3 (n.steps.take k) m c) n.steps[k] := by unfold zb3; rw [zaj hlt, List.foldl_append]; rfl
 obtain ⟨x, eq⟩ : ∃ x, n.steps[k] = x := ⟨_, rfl⟩
 have e1 : n.steps[k]? = some x := by rw [List.getElem?_eq_getElem hlt, eq]
 rw [eq] at hq hsn
 obtain ⟨⟨q1, q2⟩, ⟨q3, q4⟩, q5⟩ := hq
 have hb := zin (S := n.states.toNat) (m := m) (q := x.src.toNat) (by omega)
 have hst := zzg (S := n.states.toNat) (m := zb3 (n.steps.take k) m c) (q := x.dst.toNat) (by omega)
 rw [show ((x.dst.toNat : Nat) : Int) = x.dst by omega] at hst
 have hgt := zin (S := n.states.toNat) (m := zb3 (n.steps.take k) m c) (q := x.dst.toNat) (by omega)
 have hms : (List.map (fun b => [D.bool b]) (bls n.states.toNat (zb3 (n.steps.take k) m c))).set x.dst.toNat [D.bool true] = List.map (fun b => [D.bool b]) (bls n.states.toNat (zgt (zb3 (n.steps.take k) m c) x.dst)) := by
  rw [← hst, List.map_set]
 unfold zey hasS at hsn
 cases hx : m.testBit x.src.toNat with
 | false =>
  rw [hx] at hb hsn; rw [if_neg (by simp)] at hsn
  simp +decide [int, ints, hlt, hlt', e1, eq, q1, q2, q3, q4, hb, za4, Nett.cells, stepsD, Stp.row]; exact ⟨by omega, ⟨by omega, by omega⟩, k + 1, hlt, by omega, by omega, by rw [hsn]⟩
 | true =>
  rw [hx] at hb hsn; by_cases hc : c = 0 ∨ x.cls = c
  ·rw [if_pos ⟨rfl, hc⟩] at hsn
   simp +decide [int, ints, hlt, hlt', e1, eq, q1, q2, q3, q4, hb, za4, Nett.cells, stepsD, Stp.row, hc, hgt]; refine ⟨by omega, fun h0 => ⟨fun h => ⟨by omega, by omega, ⟨by omega, by omega⟩, k + 1, hlt, by omega, by omega, by rw [hsn]; exact hms⟩, fun h => absurd hc (by rintro (h' | h'); exact h0 h'; exact h h')⟩, fun h0 => ⟨by omega, by omega, ⟨by omega, by omega⟩, k + 1, hlt, by omega, by omega, by rw [hsn]; exact hms⟩⟩
  ·rw [if_neg (fun h => hc h.2)] at hsn
   have hc1 : ¬ c = 0 := fun h => hc (.inl h)
   have hc2 : ¬ x.cls = c := fun h => hc (.inr h)
   simp +decide [int, ints, hlt, hlt', e1, eq, q1, q2, q3, q4, hb, za4, Nett.cells, stepsD, Stp.row, hc1, hc2]; exact ⟨by omega, ⟨by omega, by omega⟩, k + 1, hlt, by omega, by omega, by rw [hsn]⟩
def zid (S a b : Nat) : Bool := (List.range S).any fun q => a.testBit q && b.testBit q
theorem zpt (S a b : Nat) (hS : S ≤ 3) : zaq Tryz.prog 157 [za4 (bls S a), za4 (bls S b)] (.bool (zid S a b)) := by
 refine zaa mixed Tryz.func157 rfl call_157 ?_
 simp +decide [Tryz.f157, int, za4]
 refine zaf mixed (fun k : Nat => { n := 22, next := 0, slots := [(0, .d (za4 (bls S a))), (1, .d (za4 (bls S b))), (5, .d (int k))], own := [], moved := [] })
  (fun k => k ≤ S ∧ ∀ j, j < k → (a.testBit j && b.testBit j) = false) (fun k => S - k) 0 (by simp) (by simp +decide [int, za4]) ?_
 intro k ⟨hk, hp⟩
 by_cases hlt : k < S
 case neg =>
  have : k = S := by omega
  subst this; have : zid k a b = false := by
   unfold zid; rw [List.any_eq_false]; intro j hj; rw [hp j (List.mem_range.mp hj)]; decide
  rw [this]; simp +decide [int, za4]
 have hlt' : (k : Int) < S := by omega
 have ha := zin (S := S) (m := a) (q := k) hlt
 have hb := zin (S := S) (m := b) (q := k) hlt
 have hnx : (a.testBit k && b.testBit k) = false → ∀ j, j < k + 1 → (a.testBit j && b.testBit j) = false := by
  intro h j hj; rcases Nat.lt_succ_iff_lt_or_eq.mp hj with h' | h'
  ·exact hp j h'
  ·rw [h']; exact h
 have hyes : (a.testBit k && b.testBit k) = true → zid S a b = true := by
  intro h; unfold zid; rw [List.any_eq_true]; exact ⟨k, List.mem_range.mpr hlt, h⟩
 cases hx : a.testBit k with
 | false =>
  rw [hx] at ha; simp +decide [int, hlt, hlt', ha, za4, zn5, hx]; exact ⟨⟨by omega, by omega⟩, k + 1, ⟨hlt, fun j hj => by simpa using hnx (by rw [hx]; rfl) j hj⟩, by omega, by omega⟩
 | true =>
  rw [hx] at ha; cases hy : b.testBit k with
  | false =>
   rw [hy] at hb; simp +decide [int, hlt, hlt', ha, hb, za4, zn5, hx, hy]; exact ⟨⟨by omega, by omega⟩, k + 1, ⟨hlt, fun j hj => by simpa using hnx (by rw [hx, hy]; rfl) j hj⟩, by omega, by omega⟩
  | true =>
   rw [hy] at hb; rw [hyes (by rw [hx, hy]; rfl)]
   simp +decide [int, hlt, hlt', ha, hb, za4, zn5, hx, hy]
theorem z7m {S m : Nat} {q : Int} (hm : m < 2^S) (h0 : 0 ≤ q) (h1 : q < S) : zgt m q < 2^S := by
 unfold zgt
 refine Nat.or_lt_two_pow hm ?_
 rw [Nat.one_shiftLeft]
 exact Nat.pow_lt_pow_right (by omega) (by omega)
theorem zpu {n : Nett} (hn : NetL n) (m : Nat) {c : Int} (hc : 1 ≤ c) : zb3 n.steps m c = zay n.steps m c := by
 unfold zb3 zay
 congr 1
 funext out s
 unfold zey zcg
 have : ¬ c = 0 := by omega
 simp [this]
theorem z4e {n : Nett} (hn : NetL n) (m : Nat) {c : Int} (hc : c < 1) : zay n.steps m c = 0 := by
 unfold zay
 have key : ∀ l : List Stp, (∀ s ∈ l, 1 ≤ s.cls) → l.foldl (zcg m c) 0 = 0 := by
  intro l; induction l with
  | nil => intro _; rfl
  | cons s l ih =>
   intro h; rw [List.foldl_cons]; have h1 := h s (List.mem_cons_self ..); have : zcg m c 0 s = 0 := by unfold zcg; rw [if_neg (fun h => by omega)]
   rw [this]; exact ih fun x hx => h x (List.mem_cons_of_mem _ hx)
 exact key _ fun s hs => (hn.steps s hs).2.2
theorem z1w {m : Nat} {c : Int} {S : Nat} : ∀ (l : List Stp) (out : Nat), (∀ s ∈ l, 0 ≤ s.dst ∧ s.dst < S) → out < 2^S → l.foldl (zcg m c) out < 2^S
 | [], out, _, h => h
 | s :: l, out, hl, h => by
  rw [List.foldl_cons]; refine z1w l _ (fun x hx => hl x (List.mem_cons_of_mem _ hx)) ?_
  have := hl s (List.mem_cons_self ..)
  unfold zcg; split
  ·exact z7m h this.1 this.2
  ·exact h
theorem zm1 {n : Nett} (hn : NetL n) (m : Nat) (c : Int) : zay n.steps m c < 2^n.states.toNat :=
 z1w _ _ (fun s hs => by have := (hn.steps s hs).2.1; have := hn.lo; omega) (Nat.two_pow_pos _)
theorem zzh {n : Nett} (c : Int) : zay n.steps 0 c = 0 := by
 unfold zay
 induction n.steps with
 | nil => rfl
 | cons s l ih =>
  rw [List.foldl_cons]; have : zcg 0 c 0 s = 0 := by unfold zcg hasS; rw [if_neg (fun h => by simp at h)]
  rw [this]; exact ih
theorem z1x {n : Nett} : ∀ cs : List Int, cs.foldl (fun m c => zay n.steps m c) 0 = 0
 | [] => rfl
 | c :: cs => by rw [List.foldl_cons, zzh]; exact z1x cs
theorem yck {n : Nett} (hn : NetL n) {cs : List Int} {k : Nat} (hk : k < cs.length) (hc : cs[k] < 1) : runS n.steps cs = 0 := by
 unfold runS
 have : cs = cs.take k ++ cs[k] :: cs.drop (k + 1) := by rw [← List.drop_eq_getElem_cons hk, List.take_append_drop]
 rw [this, List.foldl_append, List.foldl_cons, z4e hn _ hc]
 exact z1x _
theorem ycl {n : Nett} (hn : NetL n) (cs : List Int) : runS n.steps cs < 2^n.states.toNat := by
 unfold runS
 have key : ∀ (cs : List Int) (m : Nat), m < 2^n.states.toNat → cs.foldl (fun m c => zay n.steps m c) m < 2^n.states.toNat := by
  intro cs; induction cs with
  | nil => intro m h; exact h
  | cons c cs ih => intro m h; rw [List.foldl_cons]; exact ih _ (zm1 hn _ _)
 refine key cs 1 ?_
 have := hn.lo
 exact Nat.one_lt_two_pow (by omega)
end Go.V
namespace Go.V
open Go Go.Proofs
set_option maxHeartbeats 4000000 in
theorem zpv (n : Nett) (hn : NetL n) (l : List Int) (hl : l.length < 2^40) : zaq Tryz.prog 158 [.agg n.cells, ints l] (za4 (bls n.states.toNat (runS n.steps l))) := by
 have h1 := hn.lo
 have h3 := hn.hi
 have hS := zpa n hn [0] (by intro q hq; rw [List.mem_singleton] at hq; omega) (by decide)
 have h0 : zbk [0] = 1 := by decide
 rw [h0] at hS
 refine zaa mixed Tryz.func158 rfl call_158 ?_
 simp +decide [Tryz.f158, Nett.cells, int, ints, za4]
 refine ybb (by rfl) hS (by simp) ?_
 simp +decide [int, ints, za4, Nett.cells]
 refine zaf mixed (fun k : Nat => { n := 32, next := 1, slots := [(1, .d (ints l)), (2, .bp 0 0), (5, .d (za4 (bls n.states.toNat (runS n.steps (l.take k))))), (6, .d (int k))], own := [(0, .box 33 (n.cells.map .d))], moved := [] })
  (fun k => k ≤ l.length) (fun k => l.length - k) 0 (by simp) (by simp +decide [int, ints, runS, za4, Nett.cells]) ?_
 intro k hk
 by_cases hlt : k < l.length
 case neg =>
  have : k = l.length := by omega
  subst this; rw [List.take_length]; simp +decide [int, ints, za4, Nett.cells]
 have hlt' : (k : Int) < l.length := by omega
 have hsn : runS n.steps (l.take (k + 1)) = zay n.steps (runS n.steps (l.take k)) l[k] := by unfold runS; rw [zaj hlt, List.foldl_append]; rfl
 have hlow := fun h => yck hn hlt h
 obtain ⟨c, ec⟩ : ∃ c, l[k] = c := ⟨_, rfl⟩
 have e1 : l[k]? = some c := by rw [List.getElem?_eq_getElem hlt, ec]
 rw [ec] at hsn hlow
 have hA := zsq n hn (runS n.steps (l.take k)) c
 by_cases hc : c < 1
 ·rw [hlow hc]
  simp +decide [int, ints, hlt, hlt', e1, ec, hc, za4, Nett.cells, zo9]; exact ⟨by omega, by omega, by unfold maxLen; omega⟩
 ·rw [zpu hn _ (by omega), ← hsn] at hA
  simp +decide [int, ints, hlt, hlt', e1, ec, hc, za4, Nett.cells]; refine zad (by rfl) (by rfl) hA (by simp [int, ints, za4, Nett.cells]) ?_
  simp +decide [int, ints, za4, Nett.cells]; exact ⟨⟨by omega, by omega⟩, k + 1, hlt, by omega, rfl, by simp⟩
theorem z7n : ∀ (S : Fin 4) (a b : Fin 8), a.val < 2^S.val → zid S.val a.val b.val = decide (a.val &&& b.val ≠ 0) := by decide +kernel
set_option maxHeartbeats 4000000 in
theorem zuj (n : Nett) (hn : NetL n) (cs : List Int) (hc : cs.length < 2^40) : zaq Tryz.prog 128 [.agg n.cells, ints cs] (.bool (zf3 n cs)) := by
 have h1 := hn.lo
 have h3 := hn.hi
 have hR := zpv n hn cs hc
 have hS := zpa n hn n.final hn.final hn.few2
 have hB := zpt n.states.toNat (runS n.steps cs) (zbk n.final) (by omega)
 have hlt := ycl hn cs
 have hlt8 : runS n.steps cs < 8 := Nat.lt_of_lt_of_le hlt (Nat.pow_le_pow_right (by omega) (show n.states.toNat ≤ 3 by omega))
 have hf8 := zij n.final 0 (fun q hq => hn.ok.2.1 q hq) (by omega)
 have heq : zid n.states.toNat (runS n.steps cs) (zbk n.final) = zf3 n cs := by
  unfold zf3; exact z7n ⟨n.states.toNat, by omega⟩ ⟨_, hlt8⟩ ⟨_, hf8⟩ hlt
 rw [heq] at hB
 refine zaa mixed Tryz.func128 rfl call_128 ?_
 simp +decide [Tryz.f128, Nett.cells, int, ints]
 refine zad (by rfl) (by rfl) hR (by simp [Nett.cells, int, ints]) ?_
 simp +decide [int, ints, za4, Nett.cells]
 refine zad (by rfl) (by rfl) hS (by simp [Nett.cells, int, ints]) ?_
 simp +decide [int, ints, za4, Nett.cells]
 refine zad (by rfl) (by rfl) hB (by simp [Nett.cells, int, ints, za4]) ?_
 simp +decide [int, ints, za4, Nett.cells]
structure LangL (g : Lang) : Prop extends LangOk g where
 light : NetL g.net
set_option maxHeartbeats 8000000 in
theorem zuk (g : Lang) (hg : LangL g) (ps : List Prt) (hp : ps.length < 2^20) : zaq Tryz.prog 81 [g.d, anaD ps] (int (zil g ps)) := by
 refine zaa mixed Tryz.func81 rfl call_81 ?_
 obtain ⟨R, hR⟩ : ∃ R, zil g ps = R := ⟨_, rfl⟩
 rw [hR]
 unfold zil at hR
 by_cases h0 : ps.length = 0
 ·rw [if_pos h0] at hR
  subst hR; simp +decide [Tryz.f81, Lang.d, anaD, zab, int, h0]; done
 rw [if_neg h0] at hR
 by_cases h4 : 4 < ps.length
 ·rw [if_pos h4] at hR
  subst hR; have h4' : (4 : Int) < ps.length := by omega
  have h0' : ¬ (ps.length : Int) = 0 := by omega
  simp +decide [Tryz.f81, Lang.d, anaD, zab, int, h0, h0', h4, h4']; done
 rw [if_neg h4] at hR
 have h4' : ¬ (4 : Int) < ps.length := by omega
 have h0' : ¬ (ps.length : Int) = 0 := by omega
 simp +decide [Tryz.f81, Lang.d, anaD, zab, int, h0, h0', h4, h4']
 refine zaf mixed (fun k : Nat => { n := 44, next := 2, slots := [(2, .bp 0 0), (3, .bp 1 0), (5, .d (int k))], own := [(0, .box 36 (zai g.d)), (1, .box 39 [.d (zab ps)])], moved := [] })
  (fun k => k ≤ ps.length ∧ zkg g.lex (ps.drop k) = zkg g.lex ps) (fun k => ps.length - k) 0 (by simp) (by simp +decide [int, zab, zai, Lang.d]) ?_
 intro k ⟨hk, hpe⟩
 by_cases hlt : k < ps.length
 case neg =>
  have : k = ps.length := by omega
  subst this; rw [List.drop_length] at hpe; rw [← hpe] at hR; have hz : zkg g.lex [] = 0 := rfl
  rw [hz, if_neg (by simp)] at hR
  have hC := zls g hg.lex ps hp; have hB := zm0 g hg.lex ps hp; have hcl := zf4 g.lex ps; have hA := zuj g.net hg.light (zax g.lex ps) (by omega)
  have hbl := zlp hg.lex ps; simp +decide [int, zab, zai, Lang.d]; refine zad (by rfl) (by rfl) hC (by simp [int]) ?_
  simp +decide [int, zab, zai, Lang.d]; refine zad (by rfl) (by rfl) hA (by simp [int]) ?_
  cases hac : zf3 g.net (zax g.lex ps) with
  | false =>
   rw [if_pos hac] at hR; subst hR; simp +decide [int]
  | true =>
   rw [if_neg (by rw [hac]; decide)] at hR
   simp +decide [int]; refine zam.pure (by rfl) hB (by simp [int]) ?_
   by_cases hb : 24 < (zbe g.lex ps).length
   ·rw [if_pos hb] at hR
    subst hR; have hb' : (24 : Int) < (zbe g.lex ps).length := by omega
    simp +decide [int, ints, hb, hb']
   ·rw [if_neg hb] at hR
    subst hR; have hb' : ¬ (24 : Int) < (zbe g.lex ps).length := by omega
    simp +decide [int, ints, hb, hb']
 have hlt' : (k : Int) < ps.length := by omega
 have hsn := zzf (l := g.lex) hlt
 rw [hpe] at hsn
 obtain ⟨p, ep⟩ : ∃ p, ps[k] = p := ⟨_, rfl⟩
 have e1 : ps[k]? = some p := by rw [List.getElem?_eq_getElem hlt, ep]
 rw [ep] at hsn
 have hP := z7l g hg.lex p
 generalize zhh g.lex p = r at hP hsn
 simp +decide [int, zab, Prt.row, hlt, hlt', e1, ep, I64, zai, Lang.d]
 refine zad (by rfl) (by rfl) hP (by simp [int, Lang.d, Prt.row]) ?_
 by_cases hr : r = 0
 ·rw [if_pos hr] at hsn
  subst hr; simp +decide [int, zab, Prt.row, I64, zai, Lang.d]; exact ⟨⟨by omega, by omega⟩, k + 1, ⟨hlt, hsn.symm⟩, by omega, by simp⟩
 ·rw [if_neg hr] at hsn
  have : R = r := by rw [← hR, hsn, if_pos hr]
  subst this; simp +decide [int, zab, Prt.row, I64, zai, Lang.d, hr]
end Go.V
namespace Go.V
open Go Go.Proofs
section
variable {P : Program}
theorem zlt {f : Nat} {fn : Func} {c : Code} (hf : P.funcs[f]? = some fn) (hb : fn.body = some c) (hcall : callable P f = true) {args : List D} {r : D}
  (h : Triple P c (zq9 (zvl P fn.results.toList r)) (zgb fn.ntmps args)) : zaq P f args r := by
 refine ⟨hcall, fun w E vs hE hr => ?_⟩
 refine calls_of_wp hf hb ?_
 refine wp_mono (h E (.of w) _ _ w (Mods.init hE hr)) ?_
 rintro e a' w' ⟨de, st', β', he, hq, hm'⟩
 cases e <;> cases de <;> simp only [exM] at he
 ·obtain ⟨v, h1, h2⟩ := zec hm' hq
  exact ⟨hm'.defers, v, h1, v, rfl, hm'.below.below, h2⟩
 ·exact hq.elim
 ·obtain ⟨v, h1, h2⟩ := zec hm' hq
  exact ⟨hm'.defers, v, h1, v, rfl, hm'.below.below, h2⟩
end
theorem z1y (inv : List Phon) (n : Int) (c : Cls) (hl : inv.length < 2^62) : zaq Tryz.prog 177 [.agg [invD inv], int n, .agg c.row] (.bool (zj9 inv n c)) := by
 refine zaa mixed Tryz.func177 rfl call_177 ?_
 simp +decide [Tryz.f177, int, Cls.row]
 refine zad (by rfl) (by rfl) (zo6 inv n) (by simp) ?_
 by_cases hs : zdk inv n = true
 ·have hs' := hs
  simp only [zdk, Bool.and_eq_true, decide_eq_true_eq] at hs'; have hlt : n.toNat - 1 < inv.length := by omega
  have e1 : inv[n.toNat - 1]? = some inv[n.toNat - 1] := List.getElem?_eq_getElem hlt
  have e2 : ¬ n < 1 := by omega
  simp +decide [invD, hs, hlt, e1, Phon.row, int, I64, zj9]; omega
 ·simp +decide [hs, zj9]
theorem zwc {inv : List Phon} {cs : List Cls} {ws : List Int} (h : ws.length = cs.length) : zlq inv cs ws = true ↔ ∀ j (h1 : j < cs.length) (h2 : j < ws.length), zj9 inv ws[j] cs[j] = true := by
 unfold zlq
 rw [List.all_eq_true]
 constructor
 ·intro hh j h1 h2
  exact hh (ws[j], cs[j]) (by rw [List.mem_iff_getElem]; exact ⟨j, by simp; omega, by simp⟩)
 ·intro hh x hx
  obtain ⟨j, hj, e⟩ := List.mem_iff_getElem.mp hx; rw [← e]; simp only [List.length_zip] at hj; simp only [List.getElem_zip]; exact hh j (by omega) (by omega)
set_option maxHeartbeats 8000000 in
theorem z4f (inv : List Phon) (hl : inv.length < 2^62) (r : Rule) (hr : RuleFit r) (w : List Int) (hw : w.length < 2^40) (k : Nat) (hk : k < w.length) :
  zaq Tryz.prog 160 [.agg [invD inv], .agg r.row, ints w, int k] (.bool (zmx inv r w k)) := by
 obtain ⟨h1, h2, h3⟩ := hr
 obtain ⟨x, ex⟩ : ∃ x, w[k] = x := ⟨_, rfl⟩
 have e1 : w[k]? = some x := by rw [List.getElem?_eq_getElem hk, ex]
 have hk' : (k : Int) < w.length := by omega
 have hH := zpm r.src x (by omega)
 obtain ⟨R, hR⟩ : ∃ R, zmx inv r w k = R := ⟨_, rfl⟩
 rw [hR]
 unfold zmx at hR
 rw [e1, Option.getD_some] at hR
 obtain ⟨src, dst, left, right, beg, fin⟩ := r
 simp only at h1 h2 h3 hH hR
 by_cases hall : x ∈ src ∧ left.length ≤ k ∧ k + 1 + right.length ≤ w.length ∧ ¬ (beg = true ∧ left.length < k) ∧ ¬ (fin = true ∧ k + 1 + right.length < w.length)
 case neg =>
  refine zaa mixed Tryz.func160 rfl call_160 ?_
  simp +decide [Tryz.f160, int, Rule.row, clsD, I64]; refine ⟨by omega, by omega, by omega, ?_⟩
  simp +decide [ints, e1, ex, hk, hk']; refine zad (by rfl) (by rfl) hH (by simp [int, ints]) ?_
  by_cases hx : x ∈ src
  case neg =>
   have : R = false := by rw [← hR]; simp [hx]
   subst this; simp +decide [int, hx]
  by_cases hf : left.length ≤ k
  case neg =>
   have : R = false := by rw [← hR]; simp [hf]
   subst this; have hf' : (k : Int) - left.length < 0 := by omega
   simp +decide [int, hx, hf, hf']
  have hf' : ¬ (k : Int) - left.length < 0 := by omega
  by_cases ht : k + 1 + right.length ≤ w.length
  case neg =>
   have : R = false := by rw [← hR]; simp [ht]
   subst this; have ht' : (w.length : Int) < k + 1 + right.length := by omega
   simp +decide [int, hx, hf, hf', ht, ht']
  have ht' : ¬ (w.length : Int) < k + 1 + right.length := by omega
  by_cases hb : beg = true ∧ left.length < k
  case pos =>
   obtain ⟨hb1, hb2⟩ := hb; subst hb1; have : R = false := by rw [← hR]; simp [hb2]
   subst this; have hb' : ¬ ((k : Int) - left.length = 0) := by omega
   simp +decide [int, hx, hf, hf', ht, ht', hb', hb2]
  by_cases he : fin = true ∧ k + 1 + right.length < w.length
  case pos =>
   obtain ⟨he1, he2⟩ := he; subst he1; have : R = false := by rw [← hR]; simp [he2]
   subst this; have he' : ¬ ((k : Int) + 1 + right.length = w.length) := by omega
   cases beg
   ·simp +decide [int, hx, hf, hf', ht, ht', he', he2]
   ·have hb' : (k : Int) - left.length = 0 := by simp at hb; omega
    simp +decide [int, hx, hf, hf', ht, ht', he', he2, hb']
  exact absurd ⟨hx, hf, ht, hb, he⟩ hall
 obtain ⟨hx, hf, ht, hb, he⟩ := hall
 have hL1 : ((w.take k).drop (k - left.length)).length = left.length := by rw [List.length_drop, List.length_take]; omega
 have hR1 : ((w.take (k + 1 + right.length)).drop (k + 1)).length = right.length := by rw [List.length_drop, List.length_take]; omega
 have gL : ∀ j (h1 : j < left.length), ∃ h2, ((w.take k).drop (k - left.length))[j]'h2 = w[k - left.length + j]'(by omega) := fun j h1 => ⟨by omega, by rw [List.getElem_drop, List.getElem_take]⟩
 have gR : ∀ j (h1 : j < right.length), ∃ h2, ((w.take (k + 1 + right.length)).drop (k + 1))[j]'h2 = w[k + 1 + j]'(by omega) := fun j h1 => ⟨by omega, by rw [List.getElem_drop, List.getElem_take]⟩
 have iL := zwc (inv := inv) hL1
 have iR := zwc (inv := inv) hR1
 have hb2 : (beg && decide (left.length < k)) = false := by
  cases beg
  ·rfl
  ·simp at hb; simp [hb]
 have he2 : (fin && decide (k + 1 + right.length < w.length)) = false := by
  cases fin
  ·rfl
  ·simp at he; simp [he]
 rw [hb2, he2] at hR
 have hR : R = (zlq inv left ((w.take k).drop (k - left.length)) && zlq inv right ((w.take (k + 1 + right.length)).drop (k + 1))) := by rw [← hR]; simp [hx, hf, ht]
 refine zlt Tryz.func160 rfl call_160 ?_
 let S1 : St := { n := 103, next := 2, slots := [(2, .d (ints w)), (3, .d (int k)), (4, .bp 0 0), (5, .bp 1 0), (9, .d (int ((k : Int) - left.length)))], own := [(0, .box 24 [.d (invD inv)]), (1, .box 77 [.d (ints src), .d (ints dst), .d (clsD left), .d (clsD right), .d (.bool beg), .d (.bool fin)])] }
 let S2 : St := { n := 103, next := 2, slots := [(2, .d (ints w)), (3, .d (int k)), (4, .bp 0 0), (5, .bp 1 0)], own := [(0, .box 24 [.d (invD inv)]), (1, .box 77 [.d (ints src), .d (ints dst), .d (clsD left), .d (clsD right), .d (.bool beg), .d (.bool fin)])] }
 have hf' : ¬ (k : Int) - left.length < 0 := by omega
 have ht' : ¬ (w.length : Int) < k + 1 + right.length := by omega
 refine ze9 mixed 3 S1 rfl ?_ ?_
 ·simp +decide [Tryz.f160, ze5, int, Rule.row, clsD, I64, S1]
  refine ⟨by omega, by omega, by omega, ?_⟩
  simp +decide [ints, e1, ex, hk, hk']; refine zad (by rfl) (by rfl) hH (by simp [int, ints]) ?_
  have hb3 : beg = true → (k : Int) - left.length = 0 := by intro e; subst e; simp at hb; omega
  have he3 : fin = true → (k : Int) + 1 + right.length = w.length := by intro e; subst e; simp at he; omega
  cases beg with
  | false =>
   cases fin with
   | false => simp +decide [int, hx, hf, hf', ht, ht', cutK]
   | true =>
    have he' := he3 rfl; simp +decide [int, hx, hf, hf', ht, ht', he', cutK]
  | true =>
   have hb' := hb3 rfl; cases fin with
   | false => simp +decide [int, hx, hf, hf', ht, ht', hb', cutK]
   | true =>
    have he' := he3 rfl; simp +decide [int, hx, hf, hf', ht, ht', hb', he', cutK]
 refine zal mixed ?_
 simp +decide [Tryz.f160, zfg, int, ints, clsD, S1]
 refine zaf mixed (fun j : Nat => { n := 103, next := 2, slots := [(2, .d (ints w)), (3, .d (int k)), (4, .bp 0 0), (5, .bp 1 0), (9, .d (int ((k : Int) - left.length))), (62, .d (int left.length)), (63, .d (int j))], own := [(0, .box 24 [.d (invD inv)]), (1, .box 77 [.d (ints src), .d (ints dst), .d (clsD left), .d (clsD right), .d (.bool beg), .d (.bool fin)])] })
  (fun j => j ≤ left.length ∧ ∀ i (h1 : i < left.length) (h2 : i < j), zj9 inv (w[k - left.length + i]'(by omega)) left[i] = true) (fun j => left.length - j) 0 (by simp) (by simp +decide [int, ints, clsD]) ?_
 intro j ⟨hj, hp⟩
 by_cases hlt : j < left.length
 ·have hlt' : (j : Int) < left.length := by omega
  obtain ⟨h2, gv⟩ := gL j hlt; have hb0 := hp; obtain ⟨c, ec⟩ : ∃ c, left[j] = c := ⟨_, rfl⟩; have ec1 : left[j]? = some c := by rw [List.getElem?_eq_getElem hlt, ec]
  have hin : k - left.length + j < w.length := by omega
  obtain ⟨y, ey⟩ : ∃ y, w[k - left.length + j] = y := ⟨_, rfl⟩; have ey1 : w[k - left.length + j]? = some y := by rw [List.getElem?_eq_getElem hin, ey]
  have ix : (k : Int) - left.length + j = ((k - left.length + j : Nat) : Int) := by omega
  have hI := z1y inv y c hl; have ixT : ((k : Int) - left.length + j).toNat = k - left.length + j := by omega
  have ix0 : 0 ≤ (k : Int) - left.length + j := by omega
  have ix1 : (k : Int) - left.length + j < w.length := by omega
  simp +decide [int, ints, clsD, hlt, hlt', ec, ec1, ixT, ix0, ix1, ey1, hin, ey, Cls.row, I64]; refine ⟨⟨by omega, by omega⟩, ?_⟩
  refine zad (by rfl) (by rfl) hI (by simp [int, Cls.row]) ?_
  cases hc : zj9 inv y c with
  | false =>
   have : R = false := by
    rw [hR, Bool.and_eq_false_iff]; left
    rw [Bool.eq_false_iff, Ne, iL]; intro hh; have := hh j hlt h2
    rw [gv, ey, ec, hc] at this; cases this
   subst this; simp +decide [int]
  | true =>
   simp +decide [int]; refine ⟨⟨by omega, by omega⟩, j + 1, ⟨hlt, fun i h1 h2 => ?_⟩, by omega, by simp⟩
   rcases Nat.lt_succ_iff_lt_or_eq.mp h2 with h' | h'
   ·exact hp i h1 h'
   ·subst h'
    rw [ey, ec]; exact hc
 ·have : j = left.length := by omega
  subst this; have hfl : zlq inv left ((w.take k).drop (k - left.length)) = true := by
   rw [iL]; intro i h1 h2; obtain ⟨h3, gv⟩ := gL i h1; rw [gv]; exact hp i h1 h1
  rw [hfl, Bool.true_and] at hR; simp +decide [int, ints, clsD]; refine zaf mixed (fun j : Nat => { n := 103, next := 2, slots := [(2, .d (ints w)), (3, .d (int k)), (4, .bp 0 0), (5, .bp 1 0), (83, .d (int right.length)), (84, .d (int j))], own := [(0, .box 24 [.d (invD inv)]), (1, .box 77 [.d (ints src), .d (ints dst), .d (clsD left), .d (clsD right), .d (.bool beg), .d (.bool fin)])] })
   (fun j => j ≤ right.length ∧ ∀ i (h1 : i < right.length) (h2 : i < j), zj9 inv (w[k + 1 + i]'(by omega)) right[i] = true) (fun j => right.length - j) 0 (by simp) (by simp +decide [int, ints, clsD]) ?_
  intro j ⟨hj, hp⟩; by_cases hlt : j < right.length
  ·have hlt' : (j : Int) < right.length := by omega
   obtain ⟨h2, gv⟩ := gR j hlt; obtain ⟨c, ec⟩ : ∃ c, right[j] = c := ⟨_, rfl⟩; have ec1 : right[j]? = some c := by rw [List.getElem?_eq_getElem hlt, ec]
   have hin : k + 1 + j < w.length := by omega
   obtain ⟨y, ey⟩ : ∃ y, w[k + 1 + j] = y := ⟨_, rfl⟩; have ey1 : w[k + 1 + j]? = some y := by rw [List.getElem?_eq_getElem hin, ey]
   have hI := z1y inv y c hl; have ixT : ((k : Int) + 1 + j).toNat = k + 1 + j := by omega
   have ix0 : 0 ≤ (k : Int) + 1 + j := by omega
   have ix1 : (k : Int) + 1 + j < w.length := by omega
   simp +decide [int, ints, clsD, hlt, hlt', ec, ec1, ixT, ix0, ix1, ey1, hin, ey, Cls.row, I64]; refine ⟨⟨by omega, by omega⟩, ⟨by omega, by omega⟩, ?_⟩
   refine zad (by rfl) (by rfl) hI (by simp [int, Cls.row]) ?_
   cases hc : zj9 inv y c with
   | false =>
    have : R = false := by
     rw [hR, Bool.eq_false_iff, Ne, iR]; intro hh; have := hh j hlt h2
     rw [gv, ey, ec, hc] at this; cases this
    subst this; simp +decide [int]
   | true =>
    simp +decide [int]; refine ⟨⟨by omega, by omega⟩, j + 1, ⟨hlt, fun i h1 h2 => ?_⟩, by omega, by simp⟩
    rcases Nat.lt_succ_iff_lt_or_eq.mp h2 with h' | h'
    ·exact hp i h1 h'
    ·subst h'
     rw [ey, ec]; exact hc
  ·have : j = right.length := by omega
   subst this; have hfr : zlq inv right ((w.take (k + 1 + right.length)).drop (k + 1)) = true := by
    rw [iR]; intro i h1 h2; obtain ⟨h3, gv⟩ := gR i h1; rw [gv]; exact hp i h1 h1
   have : R = true := by rw [hR, hfr]
   subst this; simp +decide [int, ints, clsD]
end Go.V
namespace Go.V
open Go Go.Proofs
structure RuleL (r : Rule) : Prop extends RuleOk r where
 once : r.src.Nodup
def zkh (w : List Int) : Prop := ∀ x ∈ w, x ≠ 0
set_option maxHeartbeats 8000000 in
theorem zzi (inv : List Phon) (hl : inv.length < 2^62) (r : Rule) (hr : RuleL r) (w : List Int) (hw : w.length < 2^40) (hz : zkh w) :
  zaq Tryz.prog 130 [.agg [invD inv], .agg r.row, ints w] (ints (zik inv r w)) := by
 rw [← zmy]
 refine zaa mixed Tryz.func130 rfl call_130 ?_
 simp +decide [Tryz.f130, int, ints, Rule.row]
 refine zaf mixed (fun k : Nat => { n := 55, next := 4, slots := [(2, .d (ints w)), (3, .bp 0 0), (4, .bp 1 0), (7, .ar 3), (12, .d (int w.length)), (13, .d (int k))], own := [(0, .box 24 [.d (invD inv)]), (1, .box 77 (r.row.map .d)), (3, .arr 3 1 ((zh6 inv r w k).map fun n => [int n]))], moved := [3] })
  (fun k => k ≤ w.length) (fun k => w.length - k) 0 (by simp) (by simp +decide [int, ints, Rule.row, zh6]) ?_
 intro k hk
 by_cases hlt : k < w.length
 case neg =>
  have : k = w.length := by omega
  subst this; simp +decide [int, ints]
 have hlt' : (k : Int) < w.length := by omega
 have hsn := zku (inv := inv) (r := r) hlt
 have hlen := zjm inv r w k hk
 have hS := z4f inv hl r hr.toRuleFit w hw k hlt
 have hx0 := hz w[k] (List.getElem_mem hlt)
 obtain ⟨x, ex⟩ : ∃ x, w[k] = x := ⟨_, rfl⟩
 have e1 : w[k]? = some x := by rw [List.getElem?_eq_getElem hlt, ex]
 rw [ex] at hsn hx0
 have hmem := zui r.src x
 have hidx : x ∈ r.src → ∃ j : Nat, ∃ hj : j < r.src.length, idxL r.src x = j ∧ r.src[j] = x := by
  intro hx; unfold idxL at hmem ⊢; cases hq : r.src.findIdx? (· = x) with
  | none => rw [hq] at hmem; exact absurd (hmem.2 hx) (by decide)
  | some j =>
   rw [List.findIdx?_eq_some_iff_getElem] at hq; exact ⟨j, hq.1, rfl, by simpa using hq.2.1⟩
 have hsite : zmx inv r w k = true → x ∈ r.src := by
  intro h; unfold zmx at h; simp only [Bool.and_eq_true, decide_eq_true_eq] at h; have := h.1.1.1.1.1.1
  rwa [e1, Option.getD_some] at this
 have hdst := hr.dst
 have hsl := hr.src
 unfold segE at hsn
 simp +decide [int, ints, Rule.row, hlt, hlt', e1, ex, I64]
 refine zam.pure (by rfl) hS (by simp) ?_
 cases hb : zmx inv r w k with
 | false =>
  rw [hb] at hsn; simp only [Bool.false_eq_true, if_false] at hsn; simp +decide [int, ints, Rule.row, I64, hx0]; exact ⟨by omega, by unfold maxLen; omega, ⟨by omega, by omega⟩, k + 1, hlt, by omega, by omega, by rw [hsn]; simp⟩
 | true =>
  rw [hb] at hsn; simp only [if_true] at hsn; obtain ⟨j, hj, ej, exj⟩ := hidx (hsite hb); have hjd : j < r.dst.length := by omega
  obtain ⟨y, ey⟩ : ∃ y, r.dst[j] = y := ⟨_, rfl⟩; have e2 : r.dst[j]? = some y := by rw [List.getElem?_eq_getElem hjd, ey]
  rw [ej, Int.toNat_natCast, e2, Option.getD_some] at hsn; have hj' : (j : Int) < r.dst.length := by omega
  simp +decide [int, ints, Rule.row, I64]; refine zaf mixed (fun m : Nat => { n := 55, next := 4, slots := [(2, .d (ints w)), (3, .bp 0 0), (4, .bp 1 0), (7, .ar 3), (8, .d (int k)), (9, .d (int (if j < m then y else x))), (12, .d (int w.length)), (13, .d (int k)), (27, .d (int r.src.length)), (28, .d (int m))], own := [(0, .box 24 [.d (invD inv)]), (1, .box 77 (r.row.map .d)), (3, .arr 3 1 ((zh6 inv r w k).map fun n => [int n]))], moved := [3] })
   (fun m => m ≤ r.src.length) (fun m => r.src.length - m) 0 (by simp) (by simp +decide [int, ints, Rule.row]) ?_
  intro m hm; by_cases hlm : m < r.src.length
  ·have hlm' : (m : Int) < r.src.length := by omega
   have hmd : m < r.dst.length := by omega
   have hmd' : (m : Int) < r.dst.length := by omega
   obtain ⟨z, ez⟩ : ∃ z, r.src[m] = z := ⟨_, rfl⟩; have ez1 : r.src[m]? = some z := by rw [List.getElem?_eq_getElem hlm, ez]
   by_cases hmj : m = j
   ·subst hmj
    have hzx : z = x := by rw [← ez, exj]
    subst hzx; simp +decide [int, ints, Rule.row, I64, hlm, hlm', hlt, hlt', e1, ex, ez, ez1, hmd, hmd', e2, ey]; exact ⟨⟨by omega, by omega⟩, m + 1, hlm, by omega, fun h => absurd h (by omega), by omega⟩
   ·have hzx : ¬ z = x := by
     intro h; have hp := List.pairwise_iff_getElem.mp hr.once; rcases Nat.lt_or_gt_of_ne hmj with h' | h'
     ·exact hp m j hlm hj h' (by rw [ez, exj, h])
     ·exact hp j m hj hlm h' (by rw [ez, exj, h])
    have hlj : (j < m + 1) ↔ (j < m) := by omega
    simp +decide [int, ints, Rule.row, I64, hlm, hlm', hlt, hlt', e1, ex, ez, ez1, hmd, hmd', hzx]; exact ⟨⟨by omega, by omega⟩, m + 1, hlm, by omega, by simp only [hlj], by omega⟩
  ·have : m = r.src.length := by omega
   subst this; by_cases hy : y = 0
   ·rw [if_pos hy, List.append_nil] at hsn
    simp +decide [int, ints, Rule.row, hj, hy, I64]; exact ⟨⟨by omega, by omega⟩, k + 1, hlt, by omega, by omega, by rw [hsn]⟩
   ·rw [if_neg hy] at hsn
    simp +decide [int, ints, Rule.row, hj, hy, I64]; exact ⟨by omega, by unfold maxLen; omega, ⟨by omega, by omega⟩, k + 1, hlt, by omega, by omega, by rw [hsn]; simp⟩
theorem yfo {inv : List Phon} {r : Rule} {w : List Int} {k : Nat} {x : Int} (hx : x ≠ 0) : zkh (segE inv r w k x) := by
 unfold segE zkh
 intro y hy
 split at hy
 ·split at hy
  ·cases hy
  ·rename_i h; rw [List.mem_singleton] at hy; rw [hy]; exact h
 ·rw [List.mem_singleton] at hy; rw [hy]; exact hx
theorem z7o {inv : List Phon} {r : Rule} {w : List Int} (hw : zkh w) : zkh (zik inv r w) := by
 intro y hy
 unfold zik at hy
 rw [List.mem_flatten] at hy
 obtain ⟨l, hl, hy⟩ := hy
 rw [List.mem_map] at hl
 obtain ⟨⟨a, i⟩, ha, rfl⟩ := hl
 refine yfo (hw a ?_) y hy
 exact (List.mem_zipIdx' ha).2 ▸ List.getElem_mem _
theorem z1z {inv : List Phon} : ∀ (rs : List Rule) {w : List Int}, zkh w → zkh (zeh inv rs w)
 | [], _, h => h
 | r :: rs, w, h => by
  have := z1z (inv := inv) rs (z7o (inv := inv) (r := r) h)
  exact this
set_option maxHeartbeats 4000000 in
theorem z4g (inv : List Phon) (hl : inv.length < 2^62) (rs : List Rule) (hr : ∀ r ∈ rs, RuleL r) (hn : rs.length < 2^40) (w : List Int) (hw : w.length < 2^40) (hz : zkh w) :
  zaq Tryz.prog 82 [.agg [invD inv], zbf rs, ints w] (ints (zeh inv rs w)) := by
 refine zaa mixed Tryz.func82 rfl call_82 ?_
 simp +decide [Tryz.f82, int, ints, zbf]
 refine zaf mixed (fun k : Nat => { n := 22, next := 2, slots := [(1, .d (zbf rs)), (2, .d (ints (zeh inv (rs.take k) w))), (3, .bp 0 0), (9, .d (int rs.length)), (10, .d (int k))], own := [(0, .box 24 [.d (invD inv)])], moved := [] })
  (fun k => k ≤ rs.length) (fun k => rs.length - k) 0 (by simp) (by simp +decide [int, ints, zbf, zeh]) ?_
 intro k hk
 by_cases hlt : k < rs.length
 case neg =>
  have : k = rs.length := by omega
  subst this; rw [List.take_length]; simp +decide [int, ints, zbf]
 have hlt' : (k : Int) < rs.length := by omega
 have hsn : zeh inv (rs.take (k + 1)) w = zik inv rs[k] (zeh inv (rs.take k) w) := by unfold zeh; rw [zaj hlt, List.foldl_append]; rfl
 have hll := zgv inv (rs.take k) w
 have hnz := z1z (inv := inv) (rs.take k) hz
 have hR := hr rs[k] (List.getElem_mem hlt)
 obtain ⟨r, er⟩ : ∃ r, rs[k] = r := ⟨_, rfl⟩
 have e1 : rs[k]? = some r := by rw [List.getElem?_eq_getElem hlt, er]
 rw [er] at hsn hR
 generalize zeh inv (rs.take k) w = u at hsn hll hnz
 have hA := zzi inv hl r hR u (by omega) hnz
 simp +decide [int, ints, zbf, hlt, hlt', e1, er, I64, Rule.row]
 refine zad (by rfl) (by rfl) hA (by simp [int, ints, Rule.row]) ?_
 simp +decide [int, ints, zbf]
 exact ⟨⟨by omega, by omega⟩, k + 1, hlt, by omega, by rw [hsn], by simp⟩
structure LangR (g : Lang) : Prop extends LangL g where
 rulesL : ∀ r ∈ g.rules, RuleL r
 nz : ∀ e ∈ g.lex, ∀ w ∈ e.forms, zkh w
theorem ycm {g : Lang} (hg : LangR g) (ps : List Prt) : zkh (zbe g.lex ps) := by
 intro x hx
 unfold zbe at hx
 rw [List.mem_flatMap] at hx
 obtain ⟨p, _, hx⟩ := hx
 split at hx
 ·rename_i hf
  unfold zic at hx hf; split at hx
  ·rename_i hc
   simp only at hx
   obtain ⟨c1, c2, c3⟩ := hc; have hlt : p.alt.toNat < (getE g.lex p.entry).1.forms.length := by omega
   rw [List.getElem?_eq_getElem hlt, Option.getD_some] at hx; exact hg.nz _ (zo8 c1) _ (List.getElem_mem hlt) x hx
  ·cases hx
 ·cases hx
set_option maxHeartbeats 4000000 in
theorem zwd (g : Lang) (hg : LangR g) (ps : List Prt) (hp : ps.length < 2^20) : zaq Tryz.prog 40 [g.d, anaD ps] (.tup [ints (zim g ps).1, int (zim g ps).2]) := by
 have hR := zuk g hg.toLangL ps hp
 have hB := zm0 g hg.lex ps hp
 have hbl : zil g ps = 0 → (zbe g.lex ps).length < 2^40 := by
  intro h; unfold zil at h; repeat' split at h
  all_goals first | omega | skip
 have hL := fun h => z4g g.inv (by have := hg.inv; omega) g.rules hg.rulesL hg.rules.2 (zbe g.lex ps) (hbl h) (ycm hg ps)
 have hll := zgv g.inv g.rules (zbe g.lex ps)
 unfold zim
 generalize zil g ps = R at hR hL hbl ⊢
 refine zaa mixed Tryz.func40 rfl call_40 ?_
 simp +decide [Tryz.f40, int, Lang.d, anaD, zai]
 refine zam.pure (by rfl) hR (by simp [Lang.d, anaD, zai, int]) ?_
 by_cases h0 : R = 0
 ·subst h0
  have hL := hL rfl; have hbl := hbl rfl; generalize zeh g.inv g.rules (zbe g.lex ps) = v at hL hll ⊢; simp +decide [int, Lang.d, zai]; refine zad (by rfl) (by rfl) hB (by simp [Lang.d, anaD, zai]) ?_
  simp +decide [int, Lang.d, zai, ints]; refine zad (by rfl) (by rfl) hL (by simp [Lang.d, anaD, zai, ints]) ?_
  by_cases hv : v.length = 0
  ·simp +decide [int, Lang.d, zai, ints, hv, List.length_eq_zero_iff.mp hv]
  ·have hv' : v ≠ [] := fun h => hv (by rw [h]; rfl)
   simp +decide [int, Lang.d, zai, ints, hv, hv']
 ·simp +decide [int, ints, h0]
theorem ziq (a b : List Int) (ha : a.length < 2^62) (hb : b.length < 2^62) : zaq Tryz.prog 19 [ints a, ints b] (.bool (decide (a = b))) := by
 refine zaa mixed Tryz.func19 rfl call_19 ?_
 by_cases hl : a.length = b.length
 case neg =>
  have : ¬ a = b := fun h => hl (by rw [h])
  have hl' : ¬ (a.length : Int) = b.length := by omega
  simp +decide [Tryz.f19, ints, int, hl, hl', this]
 have hl' : (a.length : Int) = b.length := by omega
 simp +decide [Tryz.f19, ints, int, hl, hl']
 refine zaf mixed (fun k : Nat => { n := 26, next := 0, slots := [(0, .d (ints a)), (1, .d (ints b)), (12, .d (int b.length)), (13, .d (int k))], own := [], moved := [] })
  (fun k => k ≤ a.length ∧ a.take k = b.take k) (fun k => a.length - k) 0 (by simp) (by simp +decide [int, ints, hl']) ?_
 intro k ⟨hk, hp⟩
 by_cases hlt : k < a.length
 case neg =>
  have : k = a.length := by omega
  subst this; rw [List.take_length, hl, List.take_length] at hp; subst hp; simp +decide [int, ints]
 have hlt' : (k : Int) < a.length := by omega
 have hlb : k < b.length := by omega
 have hlb' : (k : Int) < b.length := by omega
 obtain ⟨x, ex⟩ : ∃ x, a[k] = x := ⟨_, rfl⟩
 obtain ⟨y, ey⟩ : ∃ y, b[k] = y := ⟨_, rfl⟩
 have ex1 : a[k]? = some x := by rw [List.getElem?_eq_getElem hlt, ex]
 have ey1 : b[k]? = some y := by rw [List.getElem?_eq_getElem hlb, ey]
 by_cases hxy : x = y
 ·subst hxy
  simp +decide [int, ints, hlt, hlt', hlb, hlb', ex, ey, ex1, ey1]; exact ⟨⟨by omega, by omega⟩, k + 1, ⟨hlt, by rw [zaj hlt, zaj hlb, hp, ex, ey]⟩, by omega, by omega⟩
 ·have : ¬ a = b := by
   intro h; subst h; exact hxy (by rw [← ex, ← ey])
  simp +decide [int, ints, hlt, hlt', hlb, hlb', ex, ey, ex1, ey1, hxy, this]
def licE (g : Lang) (w : List Int) (ps : List Prt) : Bool := decide ((zim g ps).2 = 0 ∧ (zim g ps).1 = w)
theorem z7p {g : Lang} (ps : List Prt) : (zim g ps).1.length ≤ (zbe g.lex ps).length := by
 unfold zim
 have := zgv g.inv g.rules (zbe g.lex ps)
 repeat' split
 all_goals simp; try omega
set_option maxHeartbeats 4000000 in
theorem zr3 (g : Lang) (hg : LangR g) (w : List Int) (hw : w.length < 2^40) (ps : List Prt) (hp : ps.length < 2^20) : zaq Tryz.prog 16 [g.d, ints w, anaD ps] (.bool (licE g w ps)) := by
 have hF := zwd g hg ps hp
 have hl := z7p (g := g) ps
 have hb := zlp hg.lex ps
 have hE := ziq (zim g ps).1 w (by omega) (by omega)
 unfold licE
 generalize zim g ps = q at hF hE ⊢
 obtain ⟨v, e⟩ := q
 refine zaa mixed Tryz.func16 rfl call_16 ?_
 simp +decide [Tryz.f16, int, Lang.d, anaD, zai]
 refine zam.pure (by rfl) hF (by simp [Lang.d, anaD, zai, int]) ?_
 by_cases h0 : e = 0
 ·subst h0
  simp +decide [int, ints]; refine zam.pure (by rfl) hE (by simp [ints]) ?_
  simp +decide [int, ints]
 ·simp +decide [int, ints, h0]
end Go.V

/- Contracts of chapters 27 and 29: way, Senses, form, part of the reference. -/
import Derived.Test.YtgglheknmlfghaaGreatG9
set_option linter.unusedSimpArgs false
set_option linter.unusedVariables false
set_option maxRecDepth 10000
namespace Go.V
open Go Go.Proofs

/-- The Ids on the way of an entry. -/
def wayG (l : List Ent) : Nat → Int → List Int
  | 0, _ => []
  | f + 1, id => if (getE l id).2 = true then id :: (if (getE l id).1.main = 0 then [] else wayG l f (getE l id).1.main) else []
theorem wayG_len (l : List Ent) : ∀ f id, (wayG l f id).length ≤ f
  | 0, _ => Nat.le_refl _
  | f + 1, id => by
    have := wayG_len l f (getE l id).1.main
    unfold wayG
    split
    · split <;> simp <;> omega
    · simp
theorem getE_id {l : List Ent} {id : Int} (h : (getE l id).2 = true) : (getE l id).1.id = id := by
  unfold getE at h ⊢
  cases hf : l.find? (·.id = id) with
  | none => rw [hf] at h; cases h
  | some e => have := List.find?_some hf; simpa using this
theorem refForm_ok (e : Ent) (h : e.alts.length < 2^39) (alt : Int) : PureR Tryz.prog 88 [.agg e.row, int alt] (.bool (decide (0 ≤ alt ∧ alt < e.forms.length))) := by
  have hF : PureR Tryz.prog 89 [.agg e.row] (listsD e.forms) := by
    refine pure_of_body mixed Tryz.func89 rfl call_89 ?_
    simp [Tryz.f89, Ent.row, listsD, ints, Ent.forms, maxLen]
    omega
  have hfl : e.forms.length = e.alts.length + 1 := by simp [Ent.forms]
  refine pure_of_body mixed Tryz.func88 rfl call_88 ?_
  by_cases h0 : 0 ≤ alt
  · simp (decide := true) [Tryz.f88, int, Ent.row, h0]
    refine ECall.pure (by rfl) hF (by simp [Ent.row, int]) ?_
    simp (decide := true) [int, listsD]
  · simp (decide := true) [Tryz.f88, int, Ent.row, h0]
set_option maxHeartbeats 4000000 in
theorem way27_ok (l : List Ent) (id : Int) (hl : l.length < 2^40) : PureR Tryz.prog 126 [lexD l, int id] (ints (wayG l (l.length + 1) id)) := by
  refine pure_of_body mixed Tryz.func126 rfl call_126 ?_
  simp (decide := true) [Tryz.f126, int, ints]
  refine ECall.pure (by rfl) (find27_ok l id (by omega)) (by simp [lexD, int]) ?_
  simp (decide := true) [int, ints]
  refine loop_rule mixed (fun x : List Int × Int => { n := 42, next := 2, slots := [(0, .d (lexD l)), (5, .ar 1), (6, .d (int (findE l x.2)))], own := [(1, .arr 3 1 (x.1.map fun n => [int n]))], moved := [1] })
    (fun x => x.1 ++ wayG l (l.length + 1 - x.1.length) x.2 = wayG l (l.length + 1) id ∧ x.1.length ≤ l.length + 1) (fun x => l.length + 1 - x.1.length) ([], id) (by simp) (by simp (decide := true) [int]) ?_
  rintro ⟨out, x⟩ ⟨hw, hn⟩
  simp only at hw hn
  have hX : findE l x < 0 → (getE l x).2 = false := by
    intro h
    rcases findE_get l x with ⟨_, h2⟩ | ⟨j, hj, h1, _⟩
    · rw [h2]
    · omega
  by_cases hneg : findE l x < 0
  · have h0 : ¬ 0 ≤ findE l x := by omega
    have he : wayG l (l.length + 1) id = out := by
      rw [← hw]
      have : wayG l (l.length + 1 - out.length) x = [] := by
        cases l.length + 1 - out.length with
        | zero => rfl
        | succ f => unfold wayG; rw [if_neg (by rw [hX hneg]; decide)]
      rw [this, List.append_nil]
    rw [he]
    simp (decide := true) [int, ints, h0]
  have h0 : 0 ≤ findE l x := by omega
  by_cases hfull : out.length ≤ l.length
  case neg =>
    have : out.length = l.length + 1 := by omega
    have he : wayG l (l.length + 1) id = out := by
      rw [← hw, this, Nat.sub_self]
      exact List.append_nil _
    rw [he]
    have hf' : ¬ (out.length : Int) ≤ l.length := by omega
    simp (decide := true) [int, ints, h0, lexD, hf']
  rcases findE_get l x with ⟨h1, _⟩ | ⟨j, hj, h1, h2⟩
  · exact absurd h1 (by omega)
  have hid : l[j].id = x := by have := getE_id (l := l) (id := x) (by rw [h2]); rw [h2] at this; exact this
  obtain ⟨e, ee⟩ : ∃ e, l[j] = e := ⟨_, rfl⟩
  have e1 : l[j]? = some e := by rw [List.getElem?_eq_getElem hj, ee]
  rw [ee] at hid h2
  have hf' : (out.length : Int) ≤ l.length := by omega
  have hj' : (j : Int) < l.length := by omega
  have hs : wayG l (l.length + 1 - out.length) x = x :: (if e.main = 0 then [] else wayG l (l.length + 1 - (out.length + 1)) e.main) := by
    have : l.length + 1 - out.length = (l.length + 1 - (out.length + 1)) + 1 := by omega
    rw [this]
    conv => lhs; unfold wayG
    rw [if_pos (by rw [h2]), h2]
  rw [hs] at hw
  have hf2 := find27_ok l e.main (by omega)
  by_cases hm : e.main = 0
  · rw [if_pos hm] at hw
    rw [← hw]
    simp (decide := true) [int, ints, h0, lexD, hf', h1, hj, hj', e1, ee, hid, hm, I64, Ent.row]
    exact ⟨by omega, by unfold maxLen; omega⟩
  · rw [if_neg hm] at hw
    simp (decide := true) [int, ints, h0, lexD, hf', h1, hj, hj', e1, ee, hid, hm, I64, Ent.row]
    refine ⟨by omega, by unfold maxLen; omega, ECall.pure (by rfl) hf2 (by simp [lexD, int, Ent.row, ints]) ?_⟩
    simp (decide := true) [int, ints, lexD]
    exact ⟨out ++ [x], e.main, ⟨by rw [List.length_append, List.append_assoc]; exact hw, by simp; omega⟩, by simp; omega, rfl, by simp⟩
/-- The senses of the first entry of a list that has some. -/
def senW (l : List Ent) : List Int → List Sens
  | [] => []
  | x :: ws => if (getE l x).1.senses ≠ [] then (getE l x).1.senses else senW l ws
theorem senW_way (l : List Ent) : ∀ f id, (wayR l f id).getD [] = senW l (wayG l f id)
  | 0, _ => rfl
  | f + 1, id => by
    have ih := senW_way l f (getE l id).1.main
    unfold wayR wayG
    by_cases h : (getE l id).2 = true
    · rw [if_pos h, if_pos h]
      by_cases hs : (getE l id).1.senses ≠ []
      · rw [if_pos hs]; unfold senW; rw [if_pos hs]; rfl
      · rw [if_neg hs]; unfold senW; rw [if_neg hs]
        by_cases hm : (getE l id).1.main = 0
        · rw [if_pos hm, if_pos hm]; rfl
        · rw [if_neg hm, if_neg hm]; exact ih
    · rw [if_neg h, if_neg h]; rfl
theorem wayG_found (l : List Ent) : ∀ f id, ∀ x ∈ wayG l f id, (getE l x).2 = true
  | 0, _, x, hx => by cases hx
  | f + 1, id, x, hx => by
    unfold wayG at hx
    split at hx
    · rename_i h
      rcases List.mem_cons.mp hx with hx | hx
      · rw [hx]; exact h
      · split at hx
        · cases hx
        · exact wayG_found l f _ x hx
    · cases hx
theorem senW_drop {l : List Ent} {ws : List Int} {k : Nat} (h : k < ws.length) : senW l (ws.drop k) = if (getE l ws[k]).1.senses ≠ [] then (getE l ws[k]).1.senses else senW l (ws.drop (k + 1)) := by
  rw [List.drop_eq_getElem_cons h]; rfl
set_option maxHeartbeats 4000000 in
theorem senses27_ok (l : List Ent) (id : Int) (hl : l.length < 2^40) : PureR Tryz.prog 140 [lexD l, int id] (sensD (sensesE l id)) := by
  unfold sensesE
  rw [senW_way]
  have hW := way27_ok l id hl
  have hwl := wayG_len l (l.length + 1) id
  have hfo := wayG_found l (l.length + 1) id
  generalize wayG l (l.length + 1) id = ws at hW hwl hfo ⊢
  refine pure_of_body mixed Tryz.func140 rfl call_140 ?_
  simp (decide := true) [Tryz.f140, int]
  refine ECall.pure (by rfl) hW (by simp [lexD, int]) ?_
  simp (decide := true) [int, ints]
  refine loop_rule mixed (fun k : Nat => { n := 32, next := 1, slots := [(0, .d (lexD l)), (5, .d (ints ws)), (6, .d (int k))], own := [] })
    (fun k => k ≤ ws.length ∧ senW l (ws.drop k) = senW l ws) (fun k => ws.length - k) 0 (by simp) (by simp (decide := true) [int, ints]) ?_
  intro k ⟨hk, hpe⟩
  by_cases hlt : k < ws.length
  case neg =>
    have : k = ws.length := by omega
    subst this
    rw [List.drop_length] at hpe
    rw [← hpe]
    simp (decide := true) [int, ints, sensD, senW]
  have hlt' : (k : Int) < ws.length := by omega
  have hsn := senW_drop (l := l) hlt
  have hfk := hfo ws[k] (List.getElem_mem hlt)
  obtain ⟨x, ex⟩ : ∃ x, ws[k] = x := ⟨_, rfl⟩
  have e1 : ws[k]? = some x := by rw [List.getElem?_eq_getElem hlt, ex]
  rw [ex] at hsn hfk
  have hF := find27_ok l x (by omega)
  rcases findE_get l x with ⟨h1, h2⟩ | ⟨j, hj, h1, h2⟩
  · rw [h2] at hfk; cases hfk
  rw [h1] at hF
  obtain ⟨e, ee⟩ : ∃ e, l[j] = e := ⟨_, rfl⟩
  have ej : l[j]? = some e := by rw [List.getElem?_eq_getElem hj, ee]
  rw [ee] at h2
  rw [h2] at hsn
  have hj' : (j : Int) < l.length := by omega
  simp (decide := true) [int, ints, hlt, hlt', e1, ex, lexD]
  refine ECall.pure (by rfl) hF (by simp [lexD, int]) ?_
  by_cases hs : e.senses = []
  · rw [if_neg (by simpa using hs)] at hsn
    simp (decide := true) [int, ints, lexD, hj, hj', ej, ee, hs, Ent.row, sensD]
    exact ⟨⟨by omega, by omega⟩, k + 1, ⟨hlt, by rw [← hsn]; exact hpe⟩, by omega, by simp⟩
  · rw [if_pos (by simpa using hs)] at hsn
    rw [← hpe, hsn]
    simp (decide := true) [int, ints, lexD, hj, hj', ej, ee, hs, Ent.row, sensD]
set_option maxHeartbeats 4000000 in
theorem part29_ok (g : Lang) (hg : LexFit g.lex) (p : Prt) : PureR Tryz.prog 127 [g.d, .agg p.row] (int (partE g.lex p)) := by
  have hG := get25_ok g.lex p.entry (by have := hg.len; omega)
  have hS := senses27_ok g.lex p.entry hg.len
  have hA := getE_alts hg p.entry
  unfold partE formE
  generalize getE g.lex p.entry = r at hG hA ⊢
  obtain ⟨e, ok⟩ := r
  simp only at hG hA ⊢
  have hF := refForm_ok e hA p.alt
  refine pure_of_body mixed Tryz.func127 rfl call_127 ?_
  simp (decide := true) [Tryz.f127, Lang.d, Prt.row, int]
  refine ECall.pure (by rfl) hG (by simp [lexD, int]) ?_
  cases ok with
  | false => simp (decide := true) [int, Ent.row]
  | true =>
    simp (decide := true) [int, Ent.row]
    refine ECall.pure (by rfl) hF (by simp [Ent.row, int]) ?_
    by_cases hf : 0 ≤ p.alt ∧ p.alt < e.forms.length
    · simp (decide := true) [int, hf]
      refine ⟨fun h1 h2 => absurd h2 (by omega), fun h => ?_⟩
      refine scall_pure (by rfl) (by rfl) hS (by simp [lexD, int]) ?_
      have hn : ¬ p.sense < 0 := by omega
      by_cases hs : ((sensesE g.lex p.entry).length : Int) ≤ p.sense
      · simp (decide := true) [int, sensD, hn, hs]
      · simp (decide := true) [int, sensD, hn, hs]
    · simp (decide := true) [int, hf]
end Go.V

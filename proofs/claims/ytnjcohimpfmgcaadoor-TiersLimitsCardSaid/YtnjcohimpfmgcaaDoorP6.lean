/- Contract: the notes of a tier, by the program. -/
import Derived.Test.YtnjcohimpfmgcaaDoorP4
import Derived.Test.YtnjcohimpfmgcaaDoorP5
set_option linter.unusedSimpArgs false
set_option linter.unusedVariables false
set_option maxRecDepth 10000
namespace Go.V
open Go Go.Proofs

def ofT (l : List Nt) (t : Int) : List Nt := l.filter fun n => decide (n.tier = t)
def firstB (s : List Nt) (i : Nat) : Bool := decide (i = 0) || !decide ((s[i - 1]?.getD default).par = (s[i]?.getD default).par)
def lastB (s : List Nt) (i : Nat) : Bool := decide (i + 1 = s.length) || !decide ((s[i + 1]?.getD default).par = (s[i]?.getD default).par)
/-- What the walk over the sorted notes of a tier makes of it. -/
def tierGo (notes : List Nt) (kind : Int) (s : List Nt) : Nat → Nat → Int → Int
  | 0, _, why => why
  | m + 1, i, why => if i < s.length then
      (let n := s[i]?.getD default
       let pv := s[i - 1]?.getD default
       let p := (getN notes n.par).1
       if kind = 0 ∨ kind = 1 ∨ kind = 2 then
         (if firstB s i = false ∧ n.fr < pv.to then 15
          else tierGo notes kind s m (i + 1) (if kind = 1 ∧ ((firstB s i = true ∧ n.fr ≠ p.fr) ∨ (firstB s i = false ∧ pv.to ≠ n.fr) ∨ (lastB s i = true ∧ n.to ≠ p.to)) then 16 else why))
       else if kind = 3 then tierGo notes kind s m (i + 1) (if (firstB s i = true ∧ n.rank ≠ 0) ∨ (firstB s i = false ∧ n.rank ≠ pv.rank + 1) then 10 else why)
       else if kind = 4 then tierGo notes kind s m (i + 1) (if firstB s i = false then 8 else why)
       else tierGo notes kind s m (i + 1) why)
    else why
def tierE (d : Dc) (t : Int) : Int := tierGo d.notes (tirAt d t).kind (sortN (ofT d.notes t)) (ofT d.notes t).length 0 0
set_option maxHeartbeats 4000000 in
theorem tier0_ok (d : Dc) (t : Nat) (ht : t < d.tiers.length) (hl : d.notes.length < 2^30) (hk0 : d.tiers[t].kind = 0) :
    PureR Tryd.prog 38 [docD d, .mp (mapD (firsts d.notes)), int t] (int (tierE d t)) := by
  refine pure_of_body mixed Tryd.func38 rfl call_38 ?_
  simp (decide := true) [Tryd.f38, docD, Dc.row, int, ints, tiersD, notesD]
  refine loop_rule mixed (fun k : Nat => { n := 173, next := 2, slots := [(1, .d (.mp (mapD (firsts d.notes)))), (2, .d (int t)), (3, .bp 0 0), (7, .ar 1), (18, .d (notesD d.notes)), (19, .d (.int .i64 d.notes.length)), (20, .d (.int .i64 k))], own := [(0, .box 32 (docCells d)), (1, .arr 39 7 ((ofT (d.notes.take k) t).map Nt.row))], moved := [1] })
    (fun k => k ≤ d.notes.length) (fun k => d.notes.length - k) 0 (by simp) (by simp (decide := true) [int, ints, tiersD, notesD, ofT]) ?_
  intro k hk
  by_cases hlt : k < d.notes.length
  · have hlt' : (k : Int) < d.notes.length := by omega
    have e1 : d.notes[k]? = some d.notes[k] := List.getElem?_eq_getElem hlt
    have hsn : ofT (d.notes.take (k + 1)) t = ofT (d.notes.take k) t ++ (if d.notes[k].tier = t then [d.notes[k]] else []) := by
      rw [take_snoc' hlt]; unfold ofT; rw [List.filter_append]; by_cases h : d.notes[k].tier = t <;> simp [h]
    have hlen : (ofT (d.notes.take k) t).length ≤ k := Nat.le_trans (List.length_filter_le _ _) (by rw [List.length_take]; omega)
    by_cases h : d.notes[k].tier = t
    · rw [if_pos h] at hsn
      simp (decide := true) [notesD, Nt.row, int, hlt, hlt', e1, I64, h]
      exact ⟨by omega, by unfold maxLen; omega, ⟨by omega, by omega⟩, k + 1, hlt, by omega, by omega, by rw [hsn]; simp [Nt.row, int, h]⟩
    · rw [if_neg h, List.append_nil] at hsn
      simp (decide := true) [notesD, Nt.row, int, hlt, hlt', e1, I64, h]
      exact ⟨⟨by omega, by omega⟩, k + 1, hlt, by omega, by omega, by rw [hsn]⟩
  · have : k = d.notes.length := by omega
    subst this
    rw [List.take_length]
    simp (decide := true) [int]
    have hol : (ofT d.notes t).length ≤ d.notes.length := List.length_filter_le _ _
    refine ECall.mut [1] [.ar 0, .fn 44 []] [(0, .arr 39 7 ((ofT d.notes t).map Nt.row))] (by rfl) (by simp [int]) (by simp) (by simp) (sort_all (ofT d.notes t) (by omega)) ?_
    have htt : tirAt d (t : Int) = d.tiers[t] := by simp [tirAt, List.getElem?_eq_getElem ht]
    have e1 : d.tiers[t]? = some d.tiers[t] := List.getElem?_eq_getElem ht
    have hsl := sortN_length (ofT d.notes t)
    unfold tierE
    rw [htt]
    rw [← hsl]
    rw [← hsl] at hol
    generalize sortN (ofT d.notes t) = s at hol ⊢
    generalize hkd : d.tiers[t].kind = kd at hk0 ⊢
    simp (decide := true) [int, tiersD, Tir.row, ht, e1, hkd]
    subst hk0
    refine loop_rule mixed (fun x : Nat × Int => { n := 173, next := 2, slots := [(1, .d (.mp (mapD (firsts d.notes)))), (3, .bp 0 0), (7, .ar 1), (10, .d (int 0)), (11, .d (int x.2)), (41, .ar 1), (42, .d (.int .i64 s.length)), (43, .d (.int .i64 x.1))], own := [(0, .box 32 (docCells d)), (1, .arr 39 7 (s.map Nt.row))], moved := [1] })
      (fun x => x.1 ≤ s.length ∧ tierGo d.notes 0 s s.length 0 0 = tierGo d.notes 0 s (s.length - x.1) x.1 x.2) (fun x => s.length - x.1) (0, 0) ⟨by simp, by simp⟩ (by simp (decide := true) [int, notesD, tiersD, ints]) ?_
    rintro ⟨i, why⟩ ⟨hi, hg⟩
    simp only at hi hg
    by_cases hlt : i < s.length
    case neg =>
      have : i = s.length := by omega
      subst this
      rw [Nat.sub_self] at hg
      simp (decide := true) [int, hg, tierGo]
    obtain ⟨m, hm⟩ : ∃ m, s.length - i = m + 1 := ⟨s.length - i - 1, by omega⟩
    have hm' : s.length - (i + 1) = m := by omega
    rw [hm] at hg
    obtain ⟨n, en'⟩ : ∃ n, s[i] = n := ⟨_, rfl⟩
    have en : s[i]? = some n := by rw [List.getElem?_eq_getElem hlt, en']
    have hlk := look_firsts d.notes n.par
    have hlt' : (i : Int) < s.length := by omega
    cases i with
    | zero =>
      have hF : firstB s 0 = true := by simp [firstB]
      simp [tierGo, hlt, hF] at hg
      by_cases hL : 1 = s.length
      · have hL' : (1 : Int) = s.length := by omega
        cases hf : d.notes.find? fun x => decide (x.id = n.par) with
        | none =>
          rw [hf] at hlk
          simp only [Option.map_none, int] at hlk
          simp (decide := true) [int, hlt, hlt', en, en', Nt.row, I64, hlk, eq_true hL']
          exact ⟨1, why, ⟨by omega, by rw [hg, hm']⟩, by omega, rfl, by omega⟩
        | some p =>
          rw [hf] at hlk
          simp only [Option.map_some, int, Nt.row] at hlk
          simp (decide := true) [int, hlt, hlt', en, en', Nt.row, I64, hlk, eq_true hL']
          exact ⟨1, why, ⟨by omega, by rw [hg, hm']⟩, by omega, rfl, by omega⟩
      · have hL' : ¬ (1 : Int) = s.length := by omega
        have hn1 : 1 < s.length := by omega
        have hn1' : (1 : Int) < s.length := by omega
        obtain ⟨nx, ex'⟩ : ∃ nx, s[1] = nx := ⟨_, rfl⟩
        have ex : s[1]? = some nx := by rw [List.getElem?_eq_getElem hn1, ex']
        cases hf : d.notes.find? fun x => decide (x.id = n.par) with
        | none =>
          rw [hf] at hlk
          simp only [Option.map_none, int] at hlk
          simp (decide := true) [int, hlt, hlt', en, en', Nt.row, I64, hlk, hL', hn1, hn1', ex, ex']
          exact ⟨1, why, ⟨by omega, by rw [hg, hm']⟩, by omega, rfl, by omega⟩
        | some p =>
          rw [hf] at hlk
          simp only [Option.map_some, int, Nt.row] at hlk
          simp (decide := true) [int, hlt, hlt', en, en', Nt.row, I64, hlk, hL', hn1, hn1', ex, ex']
          exact ⟨1, why, ⟨by omega, by rw [hg, hm']⟩, by omega, rfl, by omega⟩
    | succ j =>
      have hjl : j < s.length := by omega
      have hjl' : (j : Int) < s.length := by omega
      obtain ⟨pv, ep'⟩ : ∃ pv, s[j] = pv := ⟨_, rfl⟩
      have ep : s[j]? = some pv := by rw [List.getElem?_eq_getElem hjl, ep']
      have j0 : ¬ (j : Int) + 1 = 0 := by omega
      have j1 : (j : Int) + 1 - 1 = j := by omega
      have hq : (j : Int) + 1 < s.length := by omega
      have tn1 : ((j : Int) + 1).toNat = j + 1 := by omega
      have tn2 : ((j : Int) + 1 + 1).toNat = j + 1 + 1 := by omega
      have hF : firstB s (j + 1) = !decide (pv.par = n.par) := by simp [firstB, ep, en]
      simp [tierGo, hlt, hF, ep, en, en'] at hg
      by_cases hp : pv.par = n.par
      · by_cases ho : n.fr < pv.to
        · simp [hp, ho] at hg
          by_cases hL : j + 1 + 1 = s.length
          · have hL' : (j : Int) + 1 + 1 = s.length := by omega
            simp (decide := true) [int, hlt, hlt', en, en', Nt.row, I64, hjl, hjl', ep, ep', j0, j1, hq, tn1, tn2, hp, ho, hg, eq_true hL']
            repeat (refine And.intro (by omega) ?_)
            omega
          · have hL' : ¬ (j : Int) + 1 + 1 = s.length := by omega
            have hn1 : j + 1 + 1 < s.length := by omega
            have hn1' : (j : Int) + 1 + 1 < s.length := by omega
            obtain ⟨nx, ex'⟩ : ∃ nx, s[j + 1 + 1] = nx := ⟨_, rfl⟩
            have ex : s[j + 1 + 1]? = some nx := by rw [List.getElem?_eq_getElem hn1, ex']
            simp (decide := true) [int, hlt, hlt', en, en', Nt.row, I64, hjl, hjl', ep, ep', j0, j1, hq, tn1, tn2, hp, ho, hg, hL', hn1, hn1', ex, ex']
            repeat (refine And.intro (by omega) ?_)
            omega
        · simp [hp, ho] at hg
          by_cases hL : j + 1 + 1 = s.length
          · have hL' : (j : Int) + 1 + 1 = s.length := by omega
            cases hf : d.notes.find? fun x => decide (x.id = n.par) with
            | none =>
              rw [hf] at hlk
              simp only [Option.map_none, int] at hlk
              simp (decide := true) [int, hlt, hlt', en, en', Nt.row, I64, hlk, hjl, hjl', ep, ep', j0, j1, hq, tn1, tn2, hp, ho, eq_true hL']
              repeat (refine And.intro (by omega) ?_)
              exact ⟨j + 1 + 1, why, ⟨by omega, by rw [hg, hm']⟩, by omega, rfl, by omega⟩
            | some p =>
              rw [hf] at hlk
              simp only [Option.map_some, int, Nt.row] at hlk
              simp (decide := true) [int, hlt, hlt', en, en', Nt.row, I64, hlk, hjl, hjl', ep, ep', j0, j1, hq, tn1, tn2, hp, ho, eq_true hL']
              repeat (refine And.intro (by omega) ?_)
              exact ⟨j + 1 + 1, why, ⟨by omega, by rw [hg, hm']⟩, by omega, rfl, by omega⟩
          · have hL' : ¬ (j : Int) + 1 + 1 = s.length := by omega
            have hn1 : j + 1 + 1 < s.length := by omega
            have hn1' : (j : Int) + 1 + 1 < s.length := by omega
            obtain ⟨nx, ex'⟩ : ∃ nx, s[j + 1 + 1] = nx := ⟨_, rfl⟩
            have ex : s[j + 1 + 1]? = some nx := by rw [List.getElem?_eq_getElem hn1, ex']
            cases hf : d.notes.find? fun x => decide (x.id = n.par) with
            | none =>
              rw [hf] at hlk
              simp only [Option.map_none, int] at hlk
              simp (decide := true) [int, hlt, hlt', en, en', Nt.row, I64, hlk, hjl, hjl', ep, ep', j0, j1, hq, tn1, tn2, hp, ho, hL', hn1, hn1', ex, ex']
              repeat (refine And.intro (by omega) ?_)
              exact ⟨j + 1 + 1, why, ⟨by omega, by rw [hg, hm']⟩, by omega, rfl, by omega⟩
            | some p =>
              rw [hf] at hlk
              simp only [Option.map_some, int, Nt.row] at hlk
              simp (decide := true) [int, hlt, hlt', en, en', Nt.row, I64, hlk, hjl, hjl', ep, ep', j0, j1, hq, tn1, tn2, hp, ho, hL', hn1, hn1', ex, ex']
              repeat (refine And.intro (by omega) ?_)
              exact ⟨j + 1 + 1, why, ⟨by omega, by rw [hg, hm']⟩, by omega, rfl, by omega⟩
      · simp [hp] at hg
        by_cases hL : j + 1 + 1 = s.length
        · have hL' : (j : Int) + 1 + 1 = s.length := by omega
          cases hf : d.notes.find? fun x => decide (x.id = n.par) with
          | none =>
            rw [hf] at hlk
            simp only [Option.map_none, int] at hlk
            simp (decide := true) [int, hlt, hlt', en, en', Nt.row, I64, hlk, hjl, hjl', ep, ep', j0, j1, hq, tn1, tn2, hp, eq_true hL']
            repeat (refine And.intro (by omega) ?_)
            exact ⟨j + 1 + 1, why, ⟨by omega, by rw [hg, hm']⟩, by omega, rfl, by omega⟩
          | some p =>
            rw [hf] at hlk
            simp only [Option.map_some, int, Nt.row] at hlk
            simp (decide := true) [int, hlt, hlt', en, en', Nt.row, I64, hlk, hjl, hjl', ep, ep', j0, j1, hq, tn1, tn2, hp, eq_true hL']
            repeat (refine And.intro (by omega) ?_)
            exact ⟨j + 1 + 1, why, ⟨by omega, by rw [hg, hm']⟩, by omega, rfl, by omega⟩
        · have hL' : ¬ (j : Int) + 1 + 1 = s.length := by omega
          have hn1 : j + 1 + 1 < s.length := by omega
          have hn1' : (j : Int) + 1 + 1 < s.length := by omega
          obtain ⟨nx, ex'⟩ : ∃ nx, s[j + 1 + 1] = nx := ⟨_, rfl⟩
          have ex : s[j + 1 + 1]? = some nx := by rw [List.getElem?_eq_getElem hn1, ex']
          cases hf : d.notes.find? fun x => decide (x.id = n.par) with
          | none =>
            rw [hf] at hlk
            simp only [Option.map_none, int] at hlk
            simp (decide := true) [int, hlt, hlt', en, en', Nt.row, I64, hlk, hjl, hjl', ep, ep', j0, j1, hq, tn1, tn2, hp, hL', hn1, hn1', ex, ex']
            repeat (refine And.intro (by omega) ?_)
            exact ⟨j + 1 + 1, why, ⟨by omega, by rw [hg, hm']⟩, by omega, rfl, by omega⟩
          | some p =>
            rw [hf] at hlk
            simp only [Option.map_some, int, Nt.row] at hlk
            simp (decide := true) [int, hlt, hlt', en, en', Nt.row, I64, hlk, hjl, hjl', ep, ep', j0, j1, hq, tn1, tn2, hp, hL', hn1, hn1', ex, ex']
            repeat (refine And.intro (by omega) ?_)
            exact ⟨j + 1 + 1, why, ⟨by omega, by rw [hg, hm']⟩, by omega, rfl, by omega⟩
end Go.V

/- Contract: the notes of a tier, by the program. -/
import Derived.Test.YtnjcohimpfmgcaaDoorP4
import Derived.Test.YtnjcohimpfmgcaaDoorP5
set_option linter.unusedSimpArgs false
set_option linter.unusedVariables false
set_option maxRecDepth 10000
namespace Go.V
open Go Go.Proofs

def ofT (l : List Nt) (t : Int) : List Nt := l.filter fun n => decide (n.tier = t)
def firstB (s : List Nt) (i : Nat) : Bool := decide (i = 0) || !decide ((s[i - 1]?.getD default).par = (s[i]?.getD default).par)
def lastB (s : List Nt) (i : Nat) : Bool := decide (i + 1 = s.length) || !decide ((s[i + 1]?.getD default).par = (s[i]?.getD default).par)
/-- What the walk over the sorted notes of a tier makes of it. -/
def tierGo (notes : List Nt) (kind : Int) (s : List Nt) : Nat → Nat → Int → Int
  | 0, _, why => why
  | m + 1, i, why => if i < s.length then
      (let n := s[i]?.getD default
       let pv := s[i - 1]?.getD default
       let p := (getN notes n.par).1
       if kind = 0 ∨ kind = 1 ∨ kind = 2 then
         (if firstB s i = false ∧ n.fr < pv.tO then 15
          else tierGo notes kind s m (i + 1) (if kind = 1 ∧ ((firstB s i = true ∧ n.fr ≠ p.fr) ∨ (firstB s i = false ∧ pv.tO ≠ n.fr) ∨ (lastB s i = true ∧ n.tO ≠ p.tO)) then 16 else why))
       else if kind = 3 then tierGo notes kind s m (i + 1) (if (firstB s i = true ∧ n.rank ≠ 0) ∨ (firstB s i = false ∧ n.rank ≠ IntKind.i64.wrap (pv.rank + 1)) then 10 else why)
       else if kind = 4 then tierGo notes kind s m (i + 1) (if firstB s i = false then 8 else why)
       else tierGo notes kind s m (i + 1) why)
    else why
def tierE (d : Dc) (t : Int) : Int := tierGo d.notes (tirAt d t).kind (sortN (ofT d.notes t)) (ofT d.notes t).length 0 0
/-- The state of a round where first and last are known. -/
def tierC (d : Dc) (s : List Nt) (kd : Int) (i : Nat) (why : Int) : St :=
  { n := 173, next := 3, slots := [(1, .d (.mp (mapD (firsts d.notes)))), (3, .bp 0 0), (7, .ar 1), (10, .d (int kd)), (11, .d (int why)), (12, .d (.int .i64 i)), (13, .bp 2 0), (14, .d (.bool (firstB s i))), (15, .d (.bool (lastB s i))), (41, .ar 1), (42, .d (.int .i64 s.length)), (43, .d (.int .i64 i))],
    own := [(0, .box 32 (docCells d)), (1, .arr 39 7 (s.map Nt.row)), (2, .box 39 ((s[i]?.getD default).row.map .d))], moved := [1] }
def tierS (d : Dc) (s : List Nt) (kd : Int) (x : Nat × Int) : St :=
  { n := 173, next := 2, slots := [(1, .d (.mp (mapD (firsts d.notes)))), (3, .bp 0 0), (7, .ar 1), (10, .d (int kd)), (11, .d (int x.2)), (41, .ar 1), (42, .d (.int .i64 s.length)), (43, .d (.int .i64 x.1))], own := [(0, .box 32 (docCells d)), (1, .arr 39 7 (s.map Nt.row))], moved := [1] }
set_option maxHeartbeats 4000000 in
theorem tier_ok (d : Dc) (t : Nat) (ht : t < d.tiers.length) (hl : d.notes.length < 2^30) :
    PureR Tryd.prog 38 [docD d, .mp (mapD (firsts d.notes)), int t] (int (tierE d t)) := by
  refine pure_of_body mixed Tryd.func38 rfl call_38 ?_
  simp (decide := true) [Tryd.f38, docD, Dc.row, int, ints, tiersD, notesD]
  refine loop_rule mixed (fun k : Nat => { n := 173, next := 2, slots := [(1, .d (.mp (mapD (firsts d.notes)))), (2, .d (int t)), (3, .bp 0 0), (7, .ar 1), (18, .d (notesD d.notes)), (19, .d (.int .i64 d.notes.length)), (20, .d (.int .i64 k))], own := [(0, .box 32 (docCells d)), (1, .arr 39 7 ((ofT (d.notes.take k) t).map Nt.row))], moved := [1] })
    (fun k => k ≤ d.notes.length) (fun k => d.notes.length - k) 0 (by simp) (by simp (decide := true) [int, ints, tiersD, notesD, ofT]) ?_
  intro k hk
  by_cases hlt : k < d.notes.length
  · have hlt' : (k : Int) < d.notes.length := by omega
    have e1 : d.notes[k]? = some d.notes[k] := List.getElem?_eq_getElem hlt
    have hsn : ofT (d.notes.take (k + 1)) t = ofT (d.notes.take k) t ++ (if d.notes[k].tier = t then [d.notes[k]] else []) := by
      rw [take_snoc' hlt]; unfold ofT; rw [List.filter_append]; by_cases h : d.notes[k].tier = t <;> simp [h]
    have hlen : (ofT (d.notes.take k) t).length ≤ k := Nat.le_trans (List.length_filter_le _ _) (by rw [List.length_take]; omega)
    by_cases h : d.notes[k].tier = t
    · rw [if_pos h] at hsn
      simp (decide := true) [notesD, Nt.row, int, hlt, hlt', e1, I64, h]
      exact ⟨by omega, by unfold maxLen; omega, ⟨by omega, by omega⟩, k + 1, hlt, by omega, by omega, by rw [hsn]; simp [Nt.row, int, h]⟩
    · rw [if_neg h, List.append_nil] at hsn
      simp (decide := true) [notesD, Nt.row, int, hlt, hlt', e1, I64, h]
      exact ⟨⟨by omega, by omega⟩, k + 1, hlt, by omega, by omega, by rw [hsn]⟩
  · have : k = d.notes.length := by omega
    subst this
    rw [List.take_length]
    simp (decide := true) [int]
    have hol : (ofT d.notes t).length ≤ d.notes.length := List.length_filter_le _ _
    refine ECall.mut [1] [.ar 0, .fn 44 []] [(0, .arr 39 7 ((ofT d.notes t).map Nt.row))] (by rfl) (by simp [int]) (by simp) (by simp) (sort_all (ofT d.notes t) (by omega)) ?_
    have htt : tirAt d (t : Int) = d.tiers[t] := by simp [tirAt, List.getElem?_eq_getElem ht]
    have e1 : d.tiers[t]? = some d.tiers[t] := List.getElem?_eq_getElem ht
    have hsl := sortN_length (ofT d.notes t)
    unfold tierE
    rw [htt]
    rw [← hsl]
    rw [← hsl] at hol
    generalize sortN (ofT d.notes t) = s at hol ⊢
    generalize hkd : d.tiers[t].kind = kd
    simp (decide := true) [int, tiersD, Tir.row, ht, e1, hkd]
    refine loop_ruleT mixed (tierS d s kd) (fun x => x.1 ≤ s.length ∧ tierGo d.notes kd s s.length 0 0 = tierGo d.notes kd s (s.length - x.1) x.1 x.2) (fun x => s.length - x.1) (0, 0) ⟨by simp, by simp⟩ (by simp (decide := true) [tierS, int, notesD, tiersD, ints]) ?_
    rintro ⟨i, why⟩ ⟨hi, hg⟩
    simp only at hi hg
    by_cases hlt : i < s.length
    case neg =>
      have : i = s.length := by omega
      subst this
      rw [Nat.sub_self] at hg
      refine ev_sound mixed ?_
      simp (decide := true) [tierS, int, hg, tierGo]
    obtain ⟨m, hm⟩ : ∃ m, s.length - i = m + 1 := ⟨s.length - i - 1, by omega⟩
    have hm' : s.length - (i + 1) = m := by omega
    rw [hm] at hg
    obtain ⟨n, en'⟩ : ∃ n, s[i] = n := ⟨_, rfl⟩
    have en : s[i]? = some n := by rw [List.getElem?_eq_getElem hlt, en']
    have hlt' : (i : Int) < s.length := by omega
    refine cut_ev mixed 2 (tierS d s kd (i, why)) rfl (by simp (decide := true) [tierS, int, hlt']) ?_
    simp only [tailC]
    refine triple_seqE (triple_block (cut_ev mixed 3 (tierC d s kd i why) rfl ?_ ?_)) mixed
    · clear hg
      cases i with
      | zero =>
        have hF : firstB s 0 = true := by simp [firstB]
        by_cases hL : 1 = s.length
        · have hL' : (1 : Int) = s.length := by omega
          have hLb : lastB s 0 = true := by simp [lastB, hL]
          simp (decide := true) [tierS, tierC, int, hlt, hlt', en, en', Nt.row, I64, hF, hLb, eq_true hL', notesD]
        · have hL' : ¬ (1 : Int) = s.length := by omega
          have hn1 : 1 < s.length := by omega
          have hn1' : (1 : Int) < s.length := by omega
          obtain ⟨nx, ex'⟩ : ∃ nx, s[1] = nx := ⟨_, rfl⟩
          have ex : s[1]? = some nx := by rw [List.getElem?_eq_getElem hn1, ex']
          have hLb : lastB s 0 = !decide (nx.par = n.par) := by simp [lastB, hL, ex, en]
          simp (decide := true) [tierS, tierC, int, hlt, hlt', en, en', Nt.row, I64, hF, hLb, hL', hn1, hn1', ex, ex', notesD]
      | succ j =>
        have hjl : j < s.length := by omega
        have hjl' : (j : Int) < s.length := by omega
        obtain ⟨pv, ep'⟩ : ∃ pv, s[j] = pv := ⟨_, rfl⟩
        have ep : s[j]? = some pv := by rw [List.getElem?_eq_getElem hjl, ep']
        have j0 : ¬ (j : Int) + 1 = 0 := by omega
        have j1 : (j : Int) + 1 - 1 = j := by omega
        have hq : (j : Int) + 1 < s.length := by omega
        have tn1 : ((j : Int) + 1).toNat = j + 1 := by omega
        have tn2 : ((j : Int) + 1 + 1).toNat = j + 1 + 1 := by omega
        have hF : firstB s (j + 1) = !decide (pv.par = n.par) := by simp [firstB, ep, en]
        by_cases hL : j + 1 + 1 = s.length
        · have hL' : (j : Int) + 1 + 1 = s.length := by omega
          have hLb : lastB s (j + 1) = true := by simp [lastB, hL]
          simp (decide := true) [tierS, tierC, int, hlt, hlt', en, en', Nt.row, I64, hjl, hjl', ep, ep', j0, j1, hq, tn1, tn2, hF, hLb, eq_true hL', notesD]
          try omega
        · have hL' : ¬ (j : Int) + 1 + 1 = s.length := by omega
          have hn1 : j + 1 + 1 < s.length := by omega
          have hn1' : (j : Int) + 1 + 1 < s.length := by omega
          obtain ⟨nx, ex'⟩ : ∃ nx, s[j + 1 + 1] = nx := ⟨_, rfl⟩
          have ex : s[j + 1 + 1]? = some nx := by rw [List.getElem?_eq_getElem hn1, ex']
          have hLb : lastB s (j + 1) = !decide (nx.par = n.par) := by simp [lastB, hL, ex, en]
          simp (decide := true) [tierS, tierC, int, hlt, hlt', en, en', Nt.row, I64, hjl, hjl', ep, ep', j0, j1, hq, tn1, tn2, hF, hLb, hL', hn1, hn1', ex, ex', notesD]
          try omega
    · simp only [tailC]
      have hlk := look_firsts d.notes n.par
      cases hF : firstB s i
      · skip
        obtain ⟨j, rfl⟩ : ∃ j, i = j + 1 := by
          cases i with
          | zero => simp [firstB] at hF
          | succ j => exact ⟨j, rfl⟩
        have hjl : j < s.length := by omega
        have hjl' : (j : Int) < s.length := by omega
        obtain ⟨pv, ep'⟩ : ∃ pv, s[j] = pv := ⟨_, rfl⟩
        have ep : s[j]? = some pv := by rw [List.getElem?_eq_getElem hjl, ep']
        have j0 : ¬ (j : Int) + 1 = 0 := by omega
        have j1 : (j : Int) + 1 - 1 = j := by omega
        have hq : (j : Int) + 1 < s.length := by omega
        have tn1 : ((j : Int) + 1).toNat = j + 1 := by omega
        have hw0 : IntKind.i64.wrap (j : Int) = j := wrap64 (by omega)
        have hw1 : IntKind.i64.wrap ((j : Int) + 1 + 1) = (j : Int) + 1 + 1 := wrap64 (by omega)
        by_cases k0 : kd = 0
        · subst k0
          refine ev_sound mixed ?_
          by_cases ho : n.fr < pv.tO
          · simp [tierGo, hlt, hF, en, en', ep, ep', ho] at hg
            simp (decide := true) [int, hlt, hlt', en, en', Nt.row, I64, notesD, tierC, hF, hjl, hjl', ep, ep', j0, j1, hq, tn1, ho, hg]
            try omega
          simp [tierGo, hlt, hF, en, en', ep, ep', ho] at hg
          cases hf : d.notes.find? fun x => decide (x.id = n.par) with
          | none =>
            rw [hf] at hlk
            simp only [Option.map_none, int] at hlk
            simp (decide := true) [int, hlt, hlt', en, en', Nt.row, I64, notesD, tierC, hF, hjl, hjl', ep, ep', j0, j1, hq, tn1, ho, hlk]
            repeat (refine And.intro (by omega) ?_)
            exact ⟨j + 1 + 1, why, ⟨by omega, by rw [hg, hm']⟩, by omega, by simp (decide := true) [tierS, int]⟩
          | some p =>
            rw [hf] at hlk
            simp only [Option.map_some, int, Nt.row] at hlk
            simp (decide := true) [int, hlt, hlt', en, en', Nt.row, I64, notesD, tierC, hF, hjl, hjl', ep, ep', j0, j1, hq, tn1, ho, hlk]
            repeat (refine And.intro (by omega) ?_)
            exact ⟨j + 1 + 1, why, ⟨by omega, by rw [hg, hm']⟩, by omega, by simp (decide := true) [tierS, int]⟩
        by_cases k1 : kd = 1
        · subst k1
          refine ev_sound mixed ?_
          by_cases ho : n.fr < pv.tO
          · simp [tierGo, hlt, hF, en, en', ep, ep', ho] at hg
            simp (decide := true) [int, hlt, hlt', en, en', Nt.row, I64, notesD, tierC, hF, hjl, hjl', ep, ep', j0, j1, hq, tn1, ho, hg]
            try omega
          cases hf : d.notes.find? fun x => decide (x.id = n.par) with
          | none =>
            rw [hf] at hlk
            simp only [Option.map_none, int] at hlk
            by_cases b1 : pv.tO = n.fr
            case neg =>
              simp [tierGo, hlt, hF, en, en', ep, ep', ho, b1, getN, hf, Nt.zero] at hg
              simp (decide := true) [int, hlt, hlt', en, en', Nt.row, I64, notesD, tierC, hF, hjl, hjl', ep, ep', j0, j1, hq, tn1, ho, hlk, b1]
              repeat (refine And.intro (by omega) ?_)
              exact ⟨j + 1 + 1, 16, ⟨by omega, by rw [hg, hm']⟩, by omega, by simp (decide := true) [tierS, int]⟩
            cases hL : lastB s (j + 1)
            · simp [tierGo, hlt, hF, en, en', ep, ep', ho, b1, getN, hf, Nt.zero, hL] at hg
              simp (decide := true) [int, hlt, hlt', en, en', Nt.row, I64, notesD, tierC, hF, hjl, hjl', ep, ep', j0, j1, hq, tn1, ho, hlk, b1, hL]
              repeat (refine And.intro (by omega) ?_)
              exact ⟨j + 1 + 1, why, ⟨by omega, by rw [hg, hm']⟩, by omega, by simp (decide := true) [tierS, int]⟩
            by_cases b2 : n.tO = 0
            · simp [tierGo, hlt, hF, en, en', ep, ep', ho, b1, getN, hf, Nt.zero, hL, b2] at hg
              simp (decide := true) [int, hlt, hlt', en, en', Nt.row, I64, notesD, tierC, hF, hjl, hjl', ep, ep', j0, j1, hq, tn1, ho, hlk, b1, hL, b2]
              repeat (refine And.intro (by omega) ?_)
              exact ⟨j + 1 + 1, why, ⟨by omega, by rw [hg, hm']⟩, by omega, by simp (decide := true) [tierS, int]⟩
            · simp [tierGo, hlt, hF, en, en', ep, ep', ho, b1, getN, hf, Nt.zero, hL, b2] at hg
              simp (decide := true) [int, hlt, hlt', en, en', Nt.row, I64, notesD, tierC, hF, hjl, hjl', ep, ep', j0, j1, hq, tn1, ho, hlk, b1, hL, b2]
              repeat (refine And.intro (by omega) ?_)
              exact ⟨j + 1 + 1, 16, ⟨by omega, by rw [hg, hm']⟩, by omega, by simp (decide := true) [tierS, int]⟩
          | some p =>
            rw [hf] at hlk
            simp only [Option.map_some, int, Nt.row] at hlk
            by_cases b1 : pv.tO = n.fr
            case neg =>
              simp [tierGo, hlt, hF, en, en', ep, ep', ho, b1, getN, hf, Nt.zero] at hg
              simp (decide := true) [int, hlt, hlt', en, en', Nt.row, I64, notesD, tierC, hF, hjl, hjl', ep, ep', j0, j1, hq, tn1, ho, hlk, b1]
              repeat (refine And.intro (by omega) ?_)
              exact ⟨j + 1 + 1, 16, ⟨by omega, by rw [hg, hm']⟩, by omega, by simp (decide := true) [tierS, int]⟩
            cases hL : lastB s (j + 1)
            · simp [tierGo, hlt, hF, en, en', ep, ep', ho, b1, getN, hf, Nt.zero, hL] at hg
              simp (decide := true) [int, hlt, hlt', en, en', Nt.row, I64, notesD, tierC, hF, hjl, hjl', ep, ep', j0, j1, hq, tn1, ho, hlk, b1, hL]
              repeat (refine And.intro (by omega) ?_)
              exact ⟨j + 1 + 1, why, ⟨by omega, by rw [hg, hm']⟩, by omega, by simp (decide := true) [tierS, int]⟩
            by_cases b2 : n.tO = p.tO
            · simp [tierGo, hlt, hF, en, en', ep, ep', ho, b1, getN, hf, Nt.zero, hL, b2] at hg
              simp (decide := true) [int, hlt, hlt', en, en', Nt.row, I64, notesD, tierC, hF, hjl, hjl', ep, ep', j0, j1, hq, tn1, ho, hlk, b1, hL, b2]
              repeat (refine And.intro (by omega) ?_)
              exact ⟨j + 1 + 1, why, ⟨by omega, by rw [hg, hm']⟩, by omega, by simp (decide := true) [tierS, int]⟩
            · simp [tierGo, hlt, hF, en, en', ep, ep', ho, b1, getN, hf, Nt.zero, hL, b2] at hg
              simp (decide := true) [int, hlt, hlt', en, en', Nt.row, I64, notesD, tierC, hF, hjl, hjl', ep, ep', j0, j1, hq, tn1, ho, hlk, b1, hL, b2]
              repeat (refine And.intro (by omega) ?_)
              exact ⟨j + 1 + 1, 16, ⟨by omega, by rw [hg, hm']⟩, by omega, by simp (decide := true) [tierS, int]⟩
        by_cases k2 : kd = 2
        · subst k2
          refine ev_sound mixed ?_
          by_cases ho : n.fr < pv.tO
          · simp [tierGo, hlt, hF, en, en', ep, ep', ho] at hg
            simp (decide := true) [int, hlt, hlt', en, en', Nt.row, I64, notesD, tierC, hF, hjl, hjl', ep, ep', j0, j1, hq, tn1, ho, hg]
            try omega
          simp [tierGo, hlt, hF, en, en', ep, ep', ho] at hg
          cases hf : d.notes.find? fun x => decide (x.id = n.par) with
          | none =>
            rw [hf] at hlk
            simp only [Option.map_none, int] at hlk
            simp (decide := true) [int, hlt, hlt', en, en', Nt.row, I64, notesD, tierC, hF, hjl, hjl', ep, ep', j0, j1, hq, tn1, ho, hlk]
            repeat (refine And.intro (by omega) ?_)
            exact ⟨j + 1 + 1, why, ⟨by omega, by rw [hg, hm']⟩, by omega, by simp (decide := true) [tierS, int]⟩
          | some p =>
            rw [hf] at hlk
            simp only [Option.map_some, int, Nt.row] at hlk
            simp (decide := true) [int, hlt, hlt', en, en', Nt.row, I64, notesD, tierC, hF, hjl, hjl', ep, ep', j0, j1, hq, tn1, ho, hlk]
            repeat (refine And.intro (by omega) ?_)
            exact ⟨j + 1 + 1, why, ⟨by omega, by rw [hg, hm']⟩, by omega, by simp (decide := true) [tierS, int]⟩
        by_cases k3 : kd = 3
        · subst k3
          refine ev_soundW mixed fun o ho => ?_
          by_cases hr : n.rank = IntKind.i64.wrap (pv.rank + 1)
          · simp [tierGo, hlt, hF, en, en', ep, ep', hr] at hg
            simp (decide := true) [int, hlt, hlt', en, en', Nt.row, I64, notesD, tierC, hF, hjl, hjl', ep, ep', j0, j1, hq, tn1, hr, arith_ov ho, hw0, hw1]
            repeat (refine And.intro (by omega) ?_)
            exact ⟨j + 1 + 1, why, ⟨by omega, by rw [hg, hm']⟩, by omega, by simp (decide := true) [tierS, int]⟩
          · simp [tierGo, hlt, hF, en, en', ep, ep', hr] at hg
            simp (decide := true) [int, hlt, hlt', en, en', Nt.row, I64, notesD, tierC, hF, hjl, hjl', ep, ep', j0, j1, hq, tn1, hr, arith_ov ho, hw0, hw1]
            repeat (refine And.intro (by omega) ?_)
            exact ⟨j + 1 + 1, 10, ⟨by omega, by rw [hg, hm']⟩, by omega, by simp (decide := true) [tierS, int]⟩
        by_cases k4 : kd = 4
        · subst k4
          refine ev_sound mixed ?_
          simp [tierGo, hlt, hF, en, en', ep, ep'] at hg
          simp (decide := true) [int, hlt, hlt', en, en', Nt.row, I64, notesD, tierC, hF, hjl, hjl', ep, ep', j0, j1, hq, tn1]
          repeat (refine And.intro (by omega) ?_)
          exact ⟨j + 1 + 1, 8, ⟨by omega, by rw [hg, hm']⟩, by omega, by simp (decide := true) [tierS, int]⟩
        refine ev_sound mixed ?_
        simp [tierGo, hlt, hF, en, en', ep, ep', k0, k1, k2, k3, k4] at hg
        simp (decide := true) [int, hlt, hlt', en, en', Nt.row, I64, notesD, tierC, hF, hjl, hjl', ep, ep', j0, j1, hq, tn1, k0, k1, k2, k3, k4]
        repeat (refine And.intro (by omega) ?_)
        exact ⟨j + 1 + 1, why, ⟨by omega, by rw [hg, hm']⟩, by omega, by simp (decide := true) [tierS, int]⟩
      · skip
        have hw1 : IntKind.i64.wrap ((i : Int) + 1) = (i : Int) + 1 := wrap64 (by omega)
        by_cases k0 : kd = 0
        · subst k0
          refine ev_sound mixed ?_
          simp [tierGo, hlt, hF, en, en'] at hg
          cases hf : d.notes.find? fun x => decide (x.id = n.par) with
          | none =>
            rw [hf] at hlk
            simp only [Option.map_none, int] at hlk
            simp (decide := true) [int, hlt, hlt', en, en', Nt.row, I64, notesD, tierC, hF, hlk]
            repeat (refine And.intro (by omega) ?_)
            exact ⟨i + 1, why, ⟨by omega, by rw [hg, hm']⟩, by omega, by simp (decide := true) [tierS, int]⟩
          | some p =>
            rw [hf] at hlk
            simp only [Option.map_some, int, Nt.row] at hlk
            simp (decide := true) [int, hlt, hlt', en, en', Nt.row, I64, notesD, tierC, hF, hlk]
            repeat (refine And.intro (by omega) ?_)
            exact ⟨i + 1, why, ⟨by omega, by rw [hg, hm']⟩, by omega, by simp (decide := true) [tierS, int]⟩
        by_cases k1 : kd = 1
        · subst k1
          refine ev_sound mixed ?_
          cases hf : d.notes.find? fun x => decide (x.id = n.par) with
          | none =>
            rw [hf] at hlk
            simp only [Option.map_none, int] at hlk
            by_cases b1 : n.fr = 0
            case neg =>
              simp [tierGo, hlt, hF, en, en', b1, getN, hf, Nt.zero] at hg
              simp (decide := true) [int, hlt, hlt', en, en', Nt.row, I64, notesD, tierC, hF, hlk, b1]
              repeat (refine And.intro (by omega) ?_)
              exact ⟨i + 1, 16, ⟨by omega, by rw [hg, hm']⟩, by omega, by simp (decide := true) [tierS, int]⟩
            cases hL : lastB s (i)
            · simp [tierGo, hlt, hF, en, en', b1, getN, hf, Nt.zero, hL] at hg
              simp (decide := true) [int, hlt, hlt', en, en', Nt.row, I64, notesD, tierC, hF, hlk, b1, hL]
              repeat (refine And.intro (by omega) ?_)
              exact ⟨i + 1, why, ⟨by omega, by rw [hg, hm']⟩, by omega, by simp (decide := true) [tierS, int]⟩
            by_cases b2 : n.tO = 0
            · simp [tierGo, hlt, hF, en, en', b1, getN, hf, Nt.zero, hL, b2] at hg
              simp (decide := true) [int, hlt, hlt', en, en', Nt.row, I64, notesD, tierC, hF, hlk, b1, hL, b2]
              repeat (refine And.intro (by omega) ?_)
              exact ⟨i + 1, why, ⟨by omega, by rw [hg, hm']⟩, by omega, by simp (decide := true) [tierS, int]⟩
            · simp [tierGo, hlt, hF, en, en', b1, getN, hf, Nt.zero, hL, b2] at hg
              simp (decide := true) [int, hlt, hlt', en, en', Nt.row, I64, notesD, tierC, hF, hlk, b1, hL, b2]
              repeat (refine And.intro (by omega) ?_)
              exact ⟨i + 1, 16, ⟨by omega, by rw [hg, hm']⟩, by omega, by simp (decide := true) [tierS, int]⟩
          | some p =>
            rw [hf] at hlk
            simp only [Option.map_some, int, Nt.row] at hlk
            by_cases b1 : n.fr = p.fr
            case neg =>
              simp [tierGo, hlt, hF, en, en', b1, getN, hf, Nt.zero] at hg
              simp (decide := true) [int, hlt, hlt', en, en', Nt.row, I64, notesD, tierC, hF, hlk, b1]
              repeat (refine And.intro (by omega) ?_)
              exact ⟨i + 1, 16, ⟨by omega, by rw [hg, hm']⟩, by omega, by simp (decide := true) [tierS, int]⟩
            cases hL : lastB s (i)
            · simp [tierGo, hlt, hF, en, en', b1, getN, hf, Nt.zero, hL] at hg
              simp (decide := true) [int, hlt, hlt', en, en', Nt.row, I64, notesD, tierC, hF, hlk, b1, hL]
              repeat (refine And.intro (by omega) ?_)
              exact ⟨i + 1, why, ⟨by omega, by rw [hg, hm']⟩, by omega, by simp (decide := true) [tierS, int]⟩
            by_cases b2 : n.tO = p.tO
            · simp [tierGo, hlt, hF, en, en', b1, getN, hf, Nt.zero, hL, b2] at hg
              simp (decide := true) [int, hlt, hlt', en, en', Nt.row, I64, notesD, tierC, hF, hlk, b1, hL, b2]
              repeat (refine And.intro (by omega) ?_)
              exact ⟨i + 1, why, ⟨by omega, by rw [hg, hm']⟩, by omega, by simp (decide := true) [tierS, int]⟩
            · simp [tierGo, hlt, hF, en, en', b1, getN, hf, Nt.zero, hL, b2] at hg
              simp (decide := true) [int, hlt, hlt', en, en', Nt.row, I64, notesD, tierC, hF, hlk, b1, hL, b2]
              repeat (refine And.intro (by omega) ?_)
              exact ⟨i + 1, 16, ⟨by omega, by rw [hg, hm']⟩, by omega, by simp (decide := true) [tierS, int]⟩
        by_cases k2 : kd = 2
        · subst k2
          refine ev_sound mixed ?_
          simp [tierGo, hlt, hF, en, en'] at hg
          cases hf : d.notes.find? fun x => decide (x.id = n.par) with
          | none =>
            rw [hf] at hlk
            simp only [Option.map_none, int] at hlk
            simp (decide := true) [int, hlt, hlt', en, en', Nt.row, I64, notesD, tierC, hF, hlk]
            repeat (refine And.intro (by omega) ?_)
            exact ⟨i + 1, why, ⟨by omega, by rw [hg, hm']⟩, by omega, by simp (decide := true) [tierS, int]⟩
          | some p =>
            rw [hf] at hlk
            simp only [Option.map_some, int, Nt.row] at hlk
            simp (decide := true) [int, hlt, hlt', en, en', Nt.row, I64, notesD, tierC, hF, hlk]
            repeat (refine And.intro (by omega) ?_)
            exact ⟨i + 1, why, ⟨by omega, by rw [hg, hm']⟩, by omega, by simp (decide := true) [tierS, int]⟩
        by_cases k3 : kd = 3
        · subst k3
          refine ev_soundW mixed fun o ho => ?_
          by_cases hr : n.rank = 0
          · simp [tierGo, hlt, hF, en, en', hr] at hg
            simp (decide := true) [int, hlt, hlt', en, en', Nt.row, I64, notesD, tierC, hF, hr, arith_ov ho, hw1]
            repeat (refine And.intro (by omega) ?_)
            exact ⟨i + 1, why, ⟨by omega, by rw [hg, hm']⟩, by omega, by simp (decide := true) [tierS, int]⟩
          · simp [tierGo, hlt, hF, en, en', hr] at hg
            simp (decide := true) [int, hlt, hlt', en, en', Nt.row, I64, notesD, tierC, hF, hr, arith_ov ho, hw1]
            repeat (refine And.intro (by omega) ?_)
            exact ⟨i + 1, 10, ⟨by omega, by rw [hg, hm']⟩, by omega, by simp (decide := true) [tierS, int]⟩
        by_cases k4 : kd = 4
        · subst k4
          refine ev_sound mixed ?_
          simp [tierGo, hlt, hF, en, en'] at hg
          simp (decide := true) [int, hlt, hlt', en, en', Nt.row, I64, notesD, tierC, hF]
          repeat (refine And.intro (by omega) ?_)
          exact ⟨i + 1, why, ⟨by omega, by rw [hg, hm']⟩, by omega, by simp (decide := true) [tierS, int]⟩
        refine ev_sound mixed ?_
        simp [tierGo, hlt, hF, en, en', k0, k1, k2, k3, k4] at hg
        simp (decide := true) [int, hlt, hlt', en, en', Nt.row, I64, notesD, tierC, hF, k0, k1, k2, k3, k4]
        repeat (refine And.intro (by omega) ?_)
        exact ⟨i + 1, why, ⟨by omega, by rw [hg, hm']⟩, by omega, by simp (decide := true) [tierS, int]⟩
end Go.V

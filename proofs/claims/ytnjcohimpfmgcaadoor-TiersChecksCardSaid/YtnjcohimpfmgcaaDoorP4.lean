/- Contracts: the notes of a document by their Ids; a note by itself, by the program. -/
import Derived.Test.YtnjcohimpfmgcaaDoorP2
set_option linter.unusedSimpArgs false
set_option linter.unusedVariables false
set_option maxRecDepth 10000
namespace Go.V
open Go Go.Proofs

def hasId (u : List Nt) (id : Int) : Bool := u.any fun n => decide (n.id = id)
def addN (u : List Nt) (n : Nt) : List Nt := if hasId u n.id = true then u else u ++ [n]
/-- The first note of each Id. -/
def firsts (l : List Nt) : List Nt := l.foldl addN []
def mapD (u : List Nt) : List (List D) := u.map fun n => [int n.id, .agg n.row]
theorem look_map (id : Int) : ∀ u : List Nt, lookD (int id) (mapD u) = some ((u.find? fun n => decide (n.id = id)).map fun n => .agg n.row)
  | [] => rfl
  | n :: r => by
    simp only [mapD, List.map_cons, lookD, keyEq, int]
    by_cases h : n.id = id
    · simp [List.find?_cons, h]
    · have h' : ¬ id = n.id := fun e => h e.symm
      have := look_map id r
      simp only [mapD, int] at this
      simp [List.find?_cons, h, h', this]
theorem put_map {n : Nt} : ∀ {u : List Nt}, hasId u n.id = false → putD (int n.id) (.agg n.row) (mapD u) = some (mapD (u ++ [n]))
  | [], _ => rfl
  | m :: r, h => by
    simp only [hasId, List.any_cons, Bool.or_eq_false_iff, decide_eq_false_iff_not] at h
    have := put_map (n := n) (u := r) h.2
    have h' : ¬ n.id = m.id := fun e => h.1 e.symm
    simp only [mapD, List.map_cons, List.cons_append, putD, keyEq, int] at this ⊢
    simp [h', this]
theorem find_add {id : Int} (u : List Nt) (n : Nt) : (addN u n).find? (fun m => decide (m.id = id)) = (u.find? fun m => decide (m.id = id)).or (if n.id = id then some n else none) := by
  unfold addN
  by_cases h : hasId u n.id = true
  · rw [if_pos h]
    by_cases e : n.id = id
    · subst e
      have h2 : (u.find? fun m => decide (m.id = n.id)).isSome = true := by rw [List.find?_isSome]; exact List.any_eq_true.1 h
      cases hf : u.find? fun m => decide (m.id = n.id) with
      | none => rw [hf] at h2; cases h2
      | some x => rfl
    · rw [if_neg e]; cases u.find? fun m => decide (m.id = id) <;> rfl
  · rw [if_neg h, List.find?_append]
    by_cases e : n.id = id
    · simp [List.find?_cons, e]
    · simp [List.find?_cons, e]
theorem find_firsts {id : Int} : ∀ (l u : List Nt), (l.foldl addN u).find? (fun m => decide (m.id = id)) = (u.find? fun m => decide (m.id = id)).or (l.find? fun m => decide (m.id = id))
  | [], u => by simp
  | n :: l, u => by
    rw [List.foldl_cons, find_firsts l (addN u n), find_add]
    by_cases e : n.id = id
    · simp [List.find?_cons, e, Option.or_assoc]
    · simp [List.find?_cons, e]
theorem look_firsts (l : List Nt) (id : Int) : lookD (int id) (mapD (firsts l)) = some ((l.find? fun n => decide (n.id = id)).map fun n => .agg n.row) := by
  rw [look_map, firsts, find_firsts]; rfl
set_option maxHeartbeats 1000000 in
theorem byId_ok (d : Dc) (hl : d.notes.length < 2^40) : PureR Tryd.prog 36 [docD d] (.mp (mapD (firsts d.notes))) := by
  refine pure_of_body_frz mixed Tryd.func36 rfl call_36 [1] ?_
  simp (decide := true) [Tryd.f36, docD, Dc.row, notesD, tiersD, ints, int]
  refine loop_rule mixed (fun k : Nat => { n := 31, next := 2, slots := [(3, .mp 1), (10, .d (notesD d.notes)), (11, .d (.int .i64 d.notes.length)), (12, .d (.int .i64 k))], own := [(1, .map 57 (mapD (firsts (d.notes.take k))))] })
    (fun k => k ≤ d.notes.length) (fun k => d.notes.length - k) 0 (by simp) (by simp (decide := true) [notesD, int, firsts, mapD]) ?_
  intro k hk
  by_cases hlt : k < d.notes.length
  · have hlt' : (k : Int) < d.notes.length := by omega
    have e1 : d.notes[k]? = some d.notes[k] := List.getElem?_eq_getElem hlt
    have hf : firsts (d.notes.take (k + 1)) = addN (firsts (d.notes.take k)) d.notes[k] := by
      rw [take_snoc' hlt]; unfold firsts; rw [List.foldl_append]; rfl
    have hlk := look_map d.notes[k].id (firsts (d.notes.take k))
    have hpm := put_map (n := d.notes[k]) (u := firsts (d.notes.take k))
    generalize firsts (d.notes.take k) = u at hf hlk hpm ⊢
    have hid : (u.find? fun n => decide (n.id = d.notes[k].id)).isSome = hasId u d.notes[k].id := by
      by_cases h : hasId u d.notes[k].id = true
      · rw [h]; rw [List.find?_isSome]; exact List.any_eq_true.1 h
      · have h2 : hasId u d.notes[k].id = false := by simpa using h
        rw [h2, Option.isSome_eq_false_iff, Option.isNone_iff_eq_none, List.find?_eq_none]
        unfold hasId at h2
        rw [List.any_eq_false] at h2
        exact h2
    simp only [int] at hlk hpm
    cases hfd : u.find? fun n => decide (n.id = d.notes[k].id) with
    | none =>
      rw [hfd] at hlk hid
      have hh : hasId u d.notes[k].id = false := hid.symm
      have hp := hpm hh
      simp only [Nt.row, int, Option.map_none] at hlk hp
      simp (decide := true) [notesD, Nt.row, int, hlt, hlt', e1, hlk, hp, I64]
      exact ⟨⟨by omega, by omega⟩, k + 1, hlt, by omega, by omega, by rw [hf]; simp [addN, hh]⟩
    | some m =>
      rw [hfd] at hlk hid
      have hh : hasId u d.notes[k].id = true := hid.symm
      simp only [Nt.row, int, Option.map_some] at hlk
      simp (decide := true) [notesD, Nt.row, int, hlt, hlt', e1, hlk, I64]
      exact ⟨⟨by omega, by omega⟩, k + 1, hlt, by omega, by omega, by rw [hf]; simp [addN, hh]⟩
  · have : k = d.notes.length := by omega
    subst this
    simp (decide := true) [notesD, int]

/-! ### a note by itself -/
def rightS (f t : Int) : Bool := decide (0 ≤ f) && decide (f < t) && decide (t ≤ 86400000)
theorem right_ok (f t : Int) : PureR Tryd.prog 75 [.agg [int f, int t]] (.bool (rightS f t)) := by
  refine pure_of_body mixed Tryd.func75 rfl call_75 ?_
  by_cases h1 : 0 ≤ f
  case neg => simp (decide := true) [Tryd.f75, int, rightS, h1]
  by_cases h2 : f < t
  case neg => simp (decide := true) [Tryd.f75, int, rightS, h1, h2]
  simp (decide := true) [Tryd.f75, int, rightS, h1, h2]
def tirAt (d : Dc) (i : Int) : Tir := d.tiers[i.toNat]?.getD default
def withinP (d : Dc) (n p : Nt) : Bool :=
  if alT d.tiers n.tier = true then rightS n.fr n.tO && (if (tirAt d n.tier).kind = 0 then decide (0 ≤ n.fr) && decide (n.tO ≤ d.len) else decide (p.fr ≤ n.fr) && decide (n.tO ≤ p.tO))
  else decide (n.fr = 0) && decide (n.tO = 0)
set_option maxHeartbeats 1000000 in
theorem within_ok (d : Dc) (n p : Nt) (hl : d.tiers.length < 2^62) : PureR Tryd.prog 52 [docD d, .agg n.row, .agg p.row] (.bool (withinP d n p)) := by
  refine pure_of_body mixed Tryd.func52 rfl call_52 ?_
  obtain ⟨ni, nt, np, nf, nto, nr, nx⟩ := n
  obtain ⟨pi, pt, pp, pf, pto, prr, px⟩ := p
  simp (decide := true) [Tryd.f52, docD, Dc.row, Nt.row, int, ints, notesD]
  refine ECall.pure (by rfl) (alignedT_ok d.tiers nt hl) (by simp [int]) ?_
  by_cases ha : alT d.tiers nt = true
  case neg =>
    by_cases h1 : nf = 0
    · simp (decide := true) [ha, int, withinP, h1]
    · simp (decide := true) [ha, int, withinP, h1]
  have ha' := ha
  simp only [alT, Bool.and_eq_true, decide_eq_true_eq] at ha'
  obtain ⟨⟨g1, g2⟩, _⟩ := ha'
  obtain ⟨k, rfl⟩ : ∃ k : Nat, nt = k := ⟨nt.toNat, by omega⟩
  have hk : k < d.tiers.length := by omega
  have e1 : d.tiers[k]? = some d.tiers[k] := List.getElem?_eq_getElem hk
  have et : tirAt d (k : Int) = d.tiers[k] := by simp [tirAt, e1]
  by_cases hk0 : d.tiers[k].kind = 0
  · simp (decide := true) [ha, int, tiersD, Tir.row, hk, e1, hk0]
    refine ECall.pure (by rfl) (right_ok nf nto) (by simp [int]) ?_
    by_cases hr : rightS nf nto = true
    · by_cases h2 : 0 ≤ nf
      · simp (decide := true) [int, hr, withinP, ha, et, hk0, h2]
      · simp (decide := true) [int, hr, withinP, ha, et, hk0, h2]
    · simp (decide := true) [int, hr, withinP, ha, et, hk0]
  · simp (decide := true) [ha, int, tiersD, Tir.row, hk, e1, hk0]
    refine ECall.pure (by rfl) (right_ok nf nto) (by simp [int]) ?_
    by_cases hr : rightS nf nto = true
    · by_cases h2 : pf ≤ nf
      · simp (decide := true) [int, hr, withinP, ha, et, hk0, h2]
      · simp (decide := true) [int, hr, withinP, ha, et, hk0, h2]
    · simp (decide := true) [int, hr, withinP, ha, et, hk0]
/-- The error of a note whose tier exists. -/
def noteE (d : Dc) (n : Nt) : Int :=
  if textE n.text = 0 then
    (if (if (tirAt d n.tier).kind = 0 then decide (n.par = 0) else (getN d.notes n.par).2 && decide ((getN d.notes n.par).1.tier = (tirAt d n.tier).par)) = true then
      (if withinP d n (getN d.notes n.par).1 = true then (if n.rank < 0 ∨ (n.rank ≠ 0 ∧ (tirAt d n.tier).kind ≠ 3) then 1 else 0) else 12)
    else 13)
  else textE n.text
set_option maxHeartbeats 2000000 in
theorem note_ok (d : Dc) (n : Nt) (hl : d.tiers.length < 2^62) (h0 : 0 ≤ n.tier) (h1 : n.tier < d.tiers.length) :
    PureR Tryd.prog 37 [docD d, .mp (mapD (firsts d.notes)), .agg n.row] (int (noteE d n)) := by
  refine pure_of_body mixed Tryd.func37 rfl call_37 ?_
  have hlk := look_firsts d.notes n.par
  obtain ⟨ni, nt, np, nf, nto, nr, nx⟩ := n
  simp only at h0 h1 hlk
  obtain ⟨k, rfl⟩ : ∃ k : Nat, nt = k := ⟨nt.toNat, by omega⟩
  have hk : k < d.tiers.length := by omega
  have e1 : d.tiers[k]? = some d.tiers[k] := List.getElem?_eq_getElem hk
  have et : tirAt d (k : Int) = d.tiers[k] := by simp [tirAt, e1]
  simp (decide := true) [Tryd.f37, docD, Dc.row, Nt.row, int, ints, notesD]
  refine ECall.pure (by rfl) (text_ok nx) (by simp [int]) ?_
  by_cases ht : textE nx = 0
  case neg => simp (decide := true) [int, ht, noteE]
  cases hg : d.notes.find? fun n => decide (n.id = np) with
  | none =>
    rw [hg] at hlk
    simp only [Option.map_none, int] at hlk
    have hgn : getN d.notes np = (Nt.zero, false) := by simp [getN, hg]
    by_cases hk0 : d.tiers[k].kind = 0
    · by_cases hp : np = 0
      · have hw := within_ok d ⟨ni, k, np, nf, nto, nr, nx⟩ Nt.zero hl
        subst hp
        simp (decide := true) [int, ht, tiersD, Tir.row, hk, e1, hlk, hk0]
        refine ECall.pure (by rfl) hw (by simp [int]) ?_
        by_cases hwi : withinP d ⟨ni, k, 0, nf, nto, nr, nx⟩ Nt.zero = true
        case neg => simp (decide := true) [int, hwi, noteE, ht, et, hk0, hgn]
        by_cases r1 : nr < 0
        · simp (decide := true) [int, hwi, r1, noteE, ht, et, hk0, hgn]
        by_cases r2 : nr = 0
        · simp (decide := true) [int, hwi, r1, r2, noteE, ht, et, hk0, hgn]
        simp (decide := true) [int, hwi, r1, r2, Tir.row, noteE, ht, et, hk0, hgn]
      · simp (decide := true) [int, ht, tiersD, Tir.row, hk, e1, hlk, hk0, hp, noteE, et]
    · simp (decide := true) [int, ht, tiersD, Tir.row, hk, e1, hlk, hk0, noteE, et, hgn]
  | some m =>
    rw [hg] at hlk
    simp only [Option.map_some, int] at hlk
    have hgn : getN d.notes np = (m, true) := by simp [getN, hg]
    have hrow : m.row = [.int .i64 m.id, .int .i64 m.tier, .int .i64 m.par, .int .i64 m.fr, .int .i64 m.tO, .int .i64 m.rank, .str m.text] := rfl
    rw [hrow] at hlk
    have hw := within_ok d ⟨ni, k, np, nf, nto, nr, nx⟩ m hl
    by_cases hk0 : d.tiers[k].kind = 0
    · by_cases hp : np = 0
      · subst hp
        simp (decide := true) [int, ht, tiersD, Tir.row, hk, e1, hlk, hk0]
        refine ECall.pure (by rfl) hw (by simp [int]) ?_
        by_cases hwi : withinP d ⟨ni, k, 0, nf, nto, nr, nx⟩ m = true
        case neg => simp (decide := true) [int, hwi, noteE, ht, et, hk0, hgn]
        by_cases r1 : nr < 0
        · simp (decide := true) [int, hwi, r1, noteE, ht, et, hk0, hgn]
        by_cases r2 : nr = 0
        · simp (decide := true) [int, hwi, r1, r2, noteE, ht, et, hk0, hgn]
        simp (decide := true) [int, hwi, r1, r2, Tir.row, noteE, ht, et, hk0, hgn]
      · simp (decide := true) [int, ht, tiersD, Tir.row, hk, e1, hlk, hk0, hp, noteE, et]
    · by_cases hp : m.tier = d.tiers[k].par
      · rw [hrow, hp] at hw
        simp (decide := true) [int, ht, tiersD, Tir.row, hk, e1, hlk, hk0, hp]
        refine ECall.pure (by rfl) hw (by simp [int]) ?_
        by_cases hwi : withinP d ⟨ni, k, np, nf, nto, nr, nx⟩ m = true
        case neg => simp (decide := true) [int, hwi, noteE, ht, et, hk0, hgn, hp]
        by_cases r1 : nr < 0
        · simp (decide := true) [int, hwi, r1, noteE, ht, et, hk0, hgn, hp]
        by_cases r2 : nr = 0
        · simp (decide := true) [int, hwi, r1, r2, noteE, ht, et, hk0, hgn, hp]
        by_cases r3 : d.tiers[k].kind = 3
        · simp (decide := true) [int, hwi, r1, r2, r3, Tir.row, noteE, ht, et, hk0, hgn, hp]
        · simp (decide := true) [int, hwi, r1, r2, r3, Tir.row, noteE, ht, et, hk0, hgn, hp]
      · simp (decide := true) [int, ht, tiersD, Tir.row, hk, e1, hlk, hk0, hp, noteE, et, hgn]
end Go.V

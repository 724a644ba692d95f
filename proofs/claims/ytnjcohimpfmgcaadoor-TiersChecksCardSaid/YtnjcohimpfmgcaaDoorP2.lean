/- Contracts: the tiers of a document, by the program. -/
import Derived.Test.YtnjcohimpfmgcaaDoorP1
set_option linter.unusedSimpArgs false
set_option linter.unusedVariables false
set_option maxRecDepth 10000
namespace Go.V
open Go Go.Proofs

def alK (k : Int) : Bool := decide (k = 0) || decide (k = 1) || decide (k = 2)
theorem aligned_ok (k : Int) : PureR Tryd.prog 73 [int k] (.bool (alK k)) := by
  refine pure_of_body mixed Tryd.func73 rfl call_73 ?_
  by_cases h0 : k = 0
  · subst h0; simp (decide := true) [Tryd.f73, int, alK]
  by_cases h1 : k = 1
  · subst h1; simp (decide := true) [Tryd.f73, int, alK]
  by_cases h2 : k = 2
  · subst h2; simp (decide := true) [Tryd.f73, int, alK]
  simp (decide := true) [Tryd.f73, int, alK, h0, h1, h2]
/-- Aligned: whether a tier is. -/
def alT (l : List Tir) (i : Int) : Bool := decide (0 ≤ i) && decide (i < l.length) && alK (l[i.toNat]?.getD default).kind
theorem alignedT_ok (l : List Tir) (i : Int) (hl : l.length < 2^62) : PureR Tryd.prog 74 [tiersD l, int i] (.bool (alT l i)) := by
  refine pure_of_body mixed Tryd.func74 rfl call_74 ?_
  by_cases h0 : 0 ≤ i
  case neg => simp (decide := true) [Tryd.f74, tiersD, int, alT, h0]
  by_cases h1 : i < l.length
  case neg => simp (decide := true) [Tryd.f74, tiersD, int, alT, h0, h1]
  obtain ⟨k, rfl⟩ : ∃ k : Nat, i = k := ⟨i.toNat, by omega⟩
  have hk : k < l.length := by omega
  have e1 : l[k]? = some l[k] := List.getElem?_eq_getElem hk
  simp (decide := true) [Tryd.f74, tiersD, int, alT, h0, h1, hk, e1, Tir.row]
  refine ECall.pure (by rfl) (aligned_ok l[k].kind) (by simp) ?_
  simp (decide := true) [int]
def findT (l : List Tir) (name : ByteArray) : Bool := l.any fun t => decide (t.name = name)
def roleT (l : List Tir) (role : Int) : Bool := !decide (role = 0) && l.any fun t => decide (t.role = role)
/-- What Find yields: at least 0 exactly if it is there. -/
theorem find_ok (l : List Tir) (name : ByteArray) (hl : l.length < 2^62) : PureE Tryd.prog 70 [tiersD l, .str name] (fun r => ∃ i : Int, r = int i ∧ decide (0 ≤ i) = findT l name) := by
  refine some_of_body mixed Tryd.func70 rfl call_70 ?_
  simp (decide := true) [Tryd.f70, tiersD, int]
  refine loop_rule mixed (fun k : Nat => { n := 20, next := 0, slots := [(1, .d (.str name)), (7, .d (tiersD l)), (8, .d (.int .i64 l.length)), (9, .d (.int .i64 k))], own := [] })
    (fun k => k ≤ l.length ∧ ∀ t ∈ l.take k, t.name ≠ name) (fun k => l.length - k) 0 (by simp) (by simp (decide := true) [tiersD, int]) ?_
  intro k ⟨hk, hp⟩
  by_cases hlt : k < l.length
  · have e1 : l[k]? = some l[k] := List.getElem?_eq_getElem hlt
    by_cases hn : l[k].name = name
    · have hf : findT l name = true := by unfold findT; rw [List.any_eq_true]; exact ⟨l[k], List.getElem_mem hlt, by simp [hn]⟩
      simp (decide := true) [tiersD, Tir.row, int, e1, hlt, I64, hn, hf]
    · have hnl : ¬ l[k].name.toList = name.toList := fun e => hn (bytes_toList.1 e)
      simp (decide := true) [tiersD, Tir.row, int, e1, hlt, I64, hn, hnl]
      exact ⟨by omega, k + 1, ⟨hlt, take_all' hlt hp hn⟩, by omega, by omega⟩
  · have : k = l.length := by omega
    subst this
    rw [List.take_length] at hp
    have hf : findT l name = false := by unfold findT; rw [List.any_eq_false]; intro t ht; simpa using hp t ht
    simp (decide := true) [tiersD, int, hf]
theorem role_ok (l : List Tir) (role : Int) (hl : l.length < 2^62) : PureE Tryd.prog 71 [tiersD l, int role] (fun r => ∃ i : Int, r = int i ∧ decide (0 ≤ i) = roleT l role) := by
  refine some_of_body mixed Tryd.func71 rfl call_71 ?_
  simp (decide := true) [Tryd.f71, tiersD, int]
  refine loop_rule mixed (fun k : Nat => { n := 24, next := 0, slots := [(1, .d (int role)), (7, .d (tiersD l)), (8, .d (.int .i64 l.length)), (9, .d (.int .i64 k))], own := [] })
    (fun k => k ≤ l.length ∧ ∀ t ∈ l.take k, ¬ (role ≠ 0 ∧ t.role = role)) (fun k => l.length - k) 0 (by simp) (by simp (decide := true) [tiersD, int]) ?_
  intro k ⟨hk, hp⟩
  by_cases hlt : k < l.length
  · have e1 : l[k]? = some l[k] := List.getElem?_eq_getElem hlt
    by_cases h0 : role = 0
    · subst h0
      simp (decide := true) [tiersD, Tir.row, int, e1, hlt, I64]
      exact ⟨by omega, k + 1, hlt, by omega, by omega⟩
    · by_cases hn : l[k].role = role
      · have hf : roleT l role = true := by
          unfold roleT; rw [show decide (role = 0) = false from decide_eq_false h0]; simp only [Bool.not_false, Bool.true_and]; rw [List.any_eq_true]; exact ⟨l[k], List.getElem_mem hlt, by simp [hn]⟩
        simp (decide := true) [tiersD, Tir.row, int, e1, hlt, I64, h0, hn, hf]
      · simp (decide := true) [tiersD, Tir.row, int, e1, hlt, I64, h0, hn]
        exact ⟨by omega, k + 1, ⟨hlt, fun e he h => take_all' (p := fun t => ¬ (role ≠ 0 ∧ t.role = role)) hlt hp (fun h => hn h.2) e he ⟨h0, h⟩⟩, by omega, by omega⟩
  · have : k = l.length := by omega
    subst this
    rw [List.take_length] at hp
    have hf : roleT l role = false := by
      unfold roleT
      by_cases h0 : role = 0
      · simp [h0]
      · have : (l.any fun t => decide (t.role = role)) = false := by rw [List.any_eq_false]; intro t ht; have := hp t ht; simp only [decide_eq_true_eq]; exact fun h => this ⟨h0, h⟩
        simp [this]
    simp (decide := true) [tiersD, int, hf]
def rolesE (pr tk tr : Int) : Int :=
  if tr = 1 then (if tk = 0 then 0 else 14) else if tr = 2 then (if pr = 1 then 0 else 13) else if tr = 3 then (if tk = 3 then (if pr = 2 then 0 else 13) else 14)
  else if tr = 4 then (if tk = 4 then (if pr = 3 then 0 else 13) else 14) else if tr = 5 then (if tk = 4 then (if pr = 1 then 0 else 13) else 14) else 0
theorem roles_ok (p t : Tir) : PureR Tryd.prog 72 [.agg p.row, .agg t.row] (int (rolesE p.role t.kind t.role)) := by
  refine pure_of_body mixed Tryd.func72 rfl call_72 ?_
  obtain ⟨pn, pk, pr, pp⟩ := p
  obtain ⟨tn, tk, tr, tp⟩ := t
  by_cases h1 : tr = 1
  · subst h1
    by_cases g : tk = 0
    · simp (decide := true) [Tryd.f72, Tir.row, int, rolesE, g]
    · simp (decide := true) [Tryd.f72, Tir.row, int, rolesE, g]
  by_cases h2 : tr = 2
  · subst h2
    by_cases g : pr = 1
    · simp (decide := true) [Tryd.f72, Tir.row, int, rolesE, g]
    · simp (decide := true) [Tryd.f72, Tir.row, int, rolesE, g]
  by_cases h3 : tr = 3
  · subst h3
    by_cases g0 : tk = 3
    · by_cases g : pr = 2
      · simp (decide := true) [Tryd.f72, Tir.row, int, rolesE, g0, g]
      · simp (decide := true) [Tryd.f72, Tir.row, int, rolesE, g0, g]
    · simp (decide := true) [Tryd.f72, Tir.row, int, rolesE, g0]
  by_cases h4 : tr = 4
  · subst h4
    by_cases g0 : tk = 4
    · by_cases g : pr = 3
      · simp (decide := true) [Tryd.f72, Tir.row, int, rolesE, g0, g]
      · simp (decide := true) [Tryd.f72, Tir.row, int, rolesE, g0, g]
    · simp (decide := true) [Tryd.f72, Tir.row, int, rolesE, g0]
  by_cases h5 : tr = 5
  · subst h5
    by_cases g0 : tk = 4
    · by_cases g : pr = 1
      · simp (decide := true) [Tryd.f72, Tir.row, int, rolesE, g0, g]
      · simp (decide := true) [Tryd.f72, Tir.row, int, rolesE, g0, g]
    · simp (decide := true) [Tryd.f72, Tir.row, int, rolesE, g0]
  simp (decide := true) [Tryd.f72, Tir.row, int, rolesE, h1, h2, h3, h4, h5]
/-- The error of a tier behind others. -/
def oneE (before : List Tir) (t : Tir) : Int :=
  if nameP t.name = false then 7 else if findT before t.name = true then 8 else if t.kind < 0 ∨ 4 < t.kind then 14 else if t.role < 0 ∨ 5 < t.role then 2
  else if roleT before t.role = true then 8 else if t.kind = 0 then (if t.par = -1 then rolesE (-1) t.kind t.role else 13)
  else if t.par < 0 ∨ before.length ≤ t.par then 13
  else if alK t.kind = true ∧ alK (before[t.par.toNat]?.getD default).kind = false then 13 else rolesE (before[t.par.toNat]?.getD default).role t.kind t.role
set_option maxHeartbeats 2000000 in
theorem one_ok (l : List Tir) (t : Tir) (hl : l.length < 2^62) : PureR Tryd.prog 51 [tiersD l, .agg t.row] (int (oneE l t)) := by
  refine pure_of_body mixed Tryd.func51 rfl call_51 ?_
  obtain ⟨nm, kd, rl, pr⟩ := t
  simp (decide := true) [Tryd.f51, tiersD, Tir.row, int]
  refine ECall.pure (by rfl) (name_ok nm) (by simp) ?_
  by_cases hn : nameP nm = true
  case neg => simp (decide := true) [hn, oneE, int]
  simp (decide := true) [hn, int]
  refine ECall.some (by rfl) (find_ok l nm hl) ?_
  rintro _ ⟨i, rfl, hi⟩
  refine ⟨by simp [int], ?_⟩
  by_cases hf : findT l nm = true
  · have hi' : 0 ≤ i := by rw [hf] at hi; simpa using hi
    simp (decide := true) [int, hi', oneE, hn, hf]
  have hi' : ¬ 0 ≤ i := by intro h; rw [decide_eq_true h] at hi; exact hf hi.symm
  by_cases k1 : kd < 0
  · simp (decide := true) [int, hi', oneE, hn, hf, k1]
  by_cases k2 : 4 < kd
  · simp (decide := true) [int, hi', oneE, hn, hf, k1, k2]
  by_cases r1 : rl < 0
  · simp (decide := true) [int, hi', oneE, hn, hf, k1, k2, r1]
  by_cases r2 : 5 < rl
  · simp (decide := true) [int, hi', oneE, hn, hf, k1, k2, r1, r2]
  simp (decide := true) [int, hi', k1, k2, r1, r2]
  refine ECall.some (by rfl) (role_ok l rl hl) ?_
  rintro _ ⟨j, rfl, hj⟩
  refine ⟨by simp [int], ?_⟩
  by_cases hr : roleT l rl = true
  · have hj' : 0 ≤ j := by rw [hr] at hj; simpa using hj
    simp (decide := true) [int, hj', oneE, hn, hf, k1, k2, r1, r2, hr]
  have hj' : ¬ 0 ≤ j := by intro h; rw [decide_eq_true h] at hj; exact hr hj.symm
  by_cases k0 : kd = 0
  · subst k0
    by_cases p0 : pr = -1
    · subst p0
      simp (decide := true) [int, hj']
      refine ECall.pure (by rfl) (roles_ok ⟨⟨#[]⟩, 0, -1, 0⟩ ⟨nm, 0, rl, -1⟩) (by simp) ?_
      simp (decide := true) [int, oneE, hn, hf, r1, r2, hr]
    · simp (decide := true) [int, hj', oneE, hn, hf, r1, r2, hr, p0]
  by_cases p1 : pr < 0
  · simp (decide := true) [int, hj', oneE, hn, hf, k0, k1, k2, r1, r2, hr, p1]
  by_cases p2 : (l.length : Int) ≤ pr
  · simp (decide := true) [int, hj', oneE, hn, hf, k0, k1, k2, r1, r2, hr, p1, p2, tiersD]
  obtain ⟨k, rfl⟩ : ∃ k : Nat, pr = k := ⟨pr.toNat, by omega⟩
  have hk : k < l.length := by omega
  have e1 : l[k]? = some l[k] := List.getElem?_eq_getElem hk
  simp (decide := true) [int, hj', k0, p1, p2, tiersD, hk, e1, Tir.row]
  refine ECall.pure (by rfl) (aligned_ok kd) (by simp) ?_
  have hO : oneE l ⟨nm, kd, rl, k⟩ = if alK kd = true ∧ alK l[k].kind = false then 13 else rolesE l[k].role kd rl := by
    simp [oneE, hn, hf, k0, k1, k2, r1, r2, hr, p1, p2, e1]
  rw [hO]
  by_cases a1 : alK kd = true
  · simp (decide := true) [int, a1]
    refine ECall.pure (by rfl) (aligned_ok l[k].kind) (by simp) ?_
    by_cases a2 : alK l[k].kind = true
    · simp (decide := true) [int, a1, a2]
      refine ECall.pure (by rfl) (roles_ok l[k] ⟨nm, kd, rl, k⟩) (by simp) ?_
      simp (decide := true) [int]
    · simp (decide := true) [int, a1, a2]
  · simp (decide := true) [int, a1]
    refine ECall.pure (by rfl) (roles_ok l[k] ⟨nm, kd, rl, k⟩) (by simp) ?_
    simp (decide := true) [int]
/-- The first error of tiers from an index on. -/
def tiersGo (l : List Tir) : Nat → Nat → Int
  | 0, _ => 0
  | n + 1, i => if h : i < l.length then (if oneE (l.take i) l[i] = 0 then tiersGo l n (i + 1) else oneE (l.take i) l[i]) else 0
def tiersE (l : List Tir) : Int := if 12 < l.length then 11 else tiersGo l l.length 0
theorem tiersCheck_ok (l : List Tir) (hl : l.length < 2^62) : PureR Tryd.prog 35 [tiersD l] (int (tiersE l)) := by
  refine pure_of_body mixed Tryd.func35 rfl call_35 ?_
  by_cases h0 : 12 < l.length
  · have h0' : (12 : Int) < l.length := by omega
    simp (decide := true) [Tryd.f35, tiersD, int, h0', tiersE, h0]
  have h0' : ¬ (12 : Int) < l.length := by omega
  simp (decide := true) [Tryd.f35, tiersD, int, h0', tiersE, h0]
  refine loop_rule mixed (fun k : Nat => { n := 25, next := 0, slots := [(0, .d (tiersD l)), (9, .d (.int .i64 l.length)), (10, .d (.int .i64 k))], own := [] })
    (fun k => k ≤ l.length ∧ tiersGo l l.length 0 = tiersGo l (l.length - k) k) (fun k => l.length - k) 0 (by simp) (by simp (decide := true) [tiersD, int]) ?_
  intro k ⟨hk, hp⟩
  by_cases hlt : k < l.length
  · have hlt' : (k : Int) < l.length := by omega
    have e1 : l[k]? = some l[k] := List.getElem?_eq_getElem hlt
    obtain ⟨m, hm⟩ : ∃ m, l.length - k = m + 1 := ⟨l.length - k - 1, by omega⟩
    rw [hm] at hp
    simp only [tiersGo, dif_pos hlt] at hp
    have ho := one_ok (l.take k) l[k] (by rw [List.length_take]; omega)
    unfold tiersD at ho
    rw [List.map_take] at ho
    have er : l[k].row.length = 4 := rfl
    have et : List.take 4 l[k].row = l[k].row := rfl
    simp (decide := true) [tiersD, int, hlt, hlt', e1, er, et]
    refine ⟨hk, fun _ _ => rfl, ?_⟩
    refine scall_pure (by rfl) (by rfl) ho (by simp [int]) ?_
    by_cases hz : oneE (l.take k) l[k] = 0
    · rw [if_pos hz] at hp
      simp (decide := true) [int, hz, I64]
      exact ⟨by omega, k + 1, ⟨hlt, by rw [hp]; congr 1; omega⟩, by omega, by omega⟩
    · rw [if_neg hz] at hp
      simp (decide := true) [int, hz, hp]
  · have : k = l.length := by omega
    subst this
    rw [Nat.sub_self] at hp
    simp (decide := true) [tiersD, int, hp, tiersGo]
end Go.V

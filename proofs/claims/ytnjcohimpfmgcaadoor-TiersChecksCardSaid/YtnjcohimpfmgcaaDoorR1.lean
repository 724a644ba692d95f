/- Contracts: the tiers of a document, by the reference of chapter 11. -/
import Derived.Test.YtnjcohimpfmgcaaDoorP2
set_option linter.unusedSimpArgs false
set_option linter.unusedVariables false
set_option maxRecDepth 10000
namespace Go.V
open Go Go.Proofs

theorem timed_ok (k : Int) : PureR Tryd.prog 79 [int k] (.bool (alK k)) := by
  refine pure_of_body mixed Tryd.func79 rfl call_79 ?_
  by_cases h0 : k = 0
  · subst h0; simp (decide := true) [Tryd.f79, int, alK]
  by_cases h1 : k = 1
  · subst h1; simp (decide := true) [Tryd.f79, int, alK]
  by_cases h2 : k = 2
  · subst h2; simp (decide := true) [Tryd.f79, int, alK]
  simp (decide := true) [Tryd.f79, int, alK, h0, h1, h2]
def kindR (r : Int) : Int := if r = 1 then 0 else if r = 3 then 3 else if r = 4 then 4 else if r = 5 then 4 else -1
def overR (r : Int) : Int := if r = 2 then 1 else if r = 5 then 1 else if r = 3 then 2 else if r = 4 then 3 else -1
theorem kindR_ok (r : Int) : PureR Tryd.prog 80 [int r] (int (kindR r)) := by
  refine pure_of_body mixed Tryd.func80 rfl call_80 ?_
  by_cases h1 : r = 1
  · subst h1; simp (decide := true) [Tryd.f80, int, kindR]
  by_cases h3 : r = 3
  · subst h3; simp (decide := true) [Tryd.f80, int, kindR]
  by_cases h4 : r = 4
  · subst h4; simp (decide := true) [Tryd.f80, int, kindR]
  by_cases h5 : r = 5
  · subst h5; simp (decide := true) [Tryd.f80, int, kindR]
  simp (decide := true) [Tryd.f80, int, kindR, h1, h3, h4, h5]
theorem overR_ok (r : Int) : PureR Tryd.prog 81 [int r] (int (overR r)) := by
  refine pure_of_body mixed Tryd.func81 rfl call_81 ?_
  by_cases h2 : r = 2
  · subst h2; simp (decide := true) [Tryd.f81, int, overR]
  by_cases h5 : r = 5
  · subst h5; simp (decide := true) [Tryd.f81, int, overR]
  by_cases h3 : r = 3
  · subst h3; simp (decide := true) [Tryd.f81, int, overR]
  by_cases h4 : r = 4
  · subst h4; simp (decide := true) [Tryd.f81, int, overR]
  simp (decide := true) [Tryd.f81, int, overR, h2, h5, h3, h4]
theorem any_take {α : Type} {l : List α} {p : α → Bool} {k : Nat} (h : k < l.length) : (l.take (k + 1)).any p = ((l.take k).any p || p l[k]) := by
  rw [List.take_succ_eq_append_getElem h, List.any_append]; simp
set_option maxHeartbeats 8000000 in
theorem refTier_ok (l : List Tir) (i : Nat) (hi : i < l.length) (hl : l.length < 2^62) (hs : ∀ t ∈ l, t.name.size ≤ 9223372036854775807) : PureR Tryd.prog 54 [tiersD l, int i] (int (oneE (l.take i) l[i])) := by
  refine pure_of_body mixed Tryd.func54 rfl call_54 ?_
  have hi' : (i : Int) < l.length := by omega
  have ei : l[i]? = some l[i] := List.getElem?_eq_getElem hi
  have hlen : (l.take i).length = i := by rw [List.length_take]; omega
  have hsz := hs _ (List.getElem_mem hi)
  obtain ⟨t, et⟩ : ∃ t, l[i] = t := ⟨_, rfl⟩
  rw [et] at hsz ei ⊢
  obtain ⟨nm, kd, rl, pr⟩ := t
  simp (decide := true) [Tryd.f54, tiersD, Tir.row, int, ei, et, hi, hi']
  refine ECall.pure (by rfl) (refName_ok nm hsz) (by simp) ?_
  by_cases hn : nameP nm = true
  case neg => simp (decide := true) [hn, oneE, int]
  simp (decide := true) [hn, int]
  refine loop_rule mixed (fun k : Nat => { n := 136, next := 1, slots := [(0, .d (tiersD l)), (1, .d (int i)), (4, .d (int 0)), (5, .bp 0 0), (6, .d (.int .i64 k))], own := [(0, .box 49 [.d (.str nm), .d (int kd), .d (int rl), .d (int pr)])] })
    (fun k => k ≤ i ∧ findT (l.take k) nm = false) (fun k => i - k) 0 (by simp [findT]) (by simp (decide := true) [tiersD, int]) ?_
  rintro k ⟨hk, hp⟩
  by_cases hlt : k < i
  · have hlt' : (k : Int) < i := by omega
    have hkl : k < l.length := by omega
    have hkl' : (k : Int) < l.length := by omega
    have e1 : l[k]? = some l[k] := List.getElem?_eq_getElem hkl
    have hst : findT (l.take (k + 1)) nm = decide (l[k].name = nm) := by unfold findT at hp ⊢; rw [any_take hkl, hp, Bool.false_or]
    by_cases hq : l[k].name = nm
    · have hf : findT (l.take i) nm = true := by
        unfold findT; rw [List.any_eq_true]
        exact ⟨l[k], by rw [List.mem_take_iff_getElem]; exact ⟨k, by omega, rfl⟩, by simp [hq]⟩
      simp (decide := true) [tiersD, Tir.row, int, e1, hkl, hkl', hlt', hq, oneE, hn, hf]
    · simp (decide := true) [tiersD, Tir.row, int, e1, hkl, hkl', hlt', hq, I64]
      exact ⟨by omega, k + 1, ⟨by omega, by rw [hst]; simp [hq]⟩, by omega, by omega⟩
  have : k = i := by omega
  subst this
  by_cases k1 : kd < 0
  · simp (decide := true) [int, tiersD, k1, oneE, hn, hp]
  by_cases k2 : 4 < kd
  · simp (decide := true) [int, tiersD, k1, k2, oneE, hn, hp]
  by_cases r1 : rl < 0
  · simp (decide := true) [int, tiersD, k1, k2, r1, oneE, hn, hp]
  by_cases r2 : 5 < rl
  · simp (decide := true) [int, tiersD, k1, k2, r1, r2, oneE, hn, hp]
  simp (decide := true) [int, tiersD, k1, k2, r1, r2]
  refine loop_rule mixed (fun j : Nat => { n := 136, next := 1, slots := [(0, .d (tiersD l)), (1, .d (int k)), (4, .d (int 0)), (5, .bp 0 0), (7, .d (.int .i64 j))], own := [(0, .box 49 [.d (.str nm), .d (int kd), .d (int rl), .d (int pr)])] })
    (fun j => j ≤ k ∧ roleT (l.take j) rl = false) (fun j => k - j) 0 (by simp [roleT]) (by simp (decide := true) [tiersD, int]) ?_
  rintro j ⟨hj, hr⟩
  by_cases hlt : j < k
  · have hlt' : (j : Int) < k := by omega
    have hjl : j < l.length := by omega
    have hjl' : (j : Int) < l.length := by omega
    have e1 : l[j]? = some l[j] := List.getElem?_eq_getElem hjl
    by_cases z : rl = 0
    · subst z
      simp (decide := true) [tiersD, Tir.row, int, e1, hjl, hjl', hlt', I64]
      exact ⟨by omega, j + 1, ⟨by omega, by simp [roleT]⟩, by omega, by omega⟩
    have hst : roleT (l.take (j + 1)) rl = decide (l[j].role = rl) := by
      unfold roleT at hr ⊢
      simp only [z, decide_false, Bool.not_false, Bool.true_and] at hr ⊢
      rw [any_take hjl, hr, Bool.false_or]
    by_cases hq : l[j].role = rl
    · have hf : roleT (l.take k) rl = true := by
        unfold roleT
        simp only [z, decide_false, Bool.not_false, Bool.true_and]
        rw [List.any_eq_true]
        exact ⟨l[j], by rw [List.mem_take_iff_getElem]; exact ⟨j, by omega, rfl⟩, by simp [hq]⟩
      simp (decide := true) [tiersD, Tir.row, int, e1, hjl, hjl', hlt', hq, oneE, hn, hp, hf, k1, k2, r1, r2, z]
    · simp (decide := true) [tiersD, Tir.row, int, e1, hjl, hjl', hlt', hq, I64, z]
      exact ⟨by omega, j + 1, ⟨by omega, by rw [hst]; simp [hq]⟩, by omega, by omega⟩
  have : j = k := by omega
  subst this
  have hE : oneE (l.take j) ⟨nm, kd, rl, pr⟩ = if kd = 0 then (if pr = -1 then rolesE (-1) kd rl else 13) else if pr < 0 ∨ (j : Int) ≤ pr then 13 else if alK kd = true ∧ alK ((l.take j)[pr.toNat]?.getD default).kind = false then 13 else rolesE ((l.take j)[pr.toNat]?.getD default).role kd rl := by
    simp only [oneE]
    rw [if_neg (by simp [hn]), if_neg (by simp [hp]), if_neg (by omega), if_neg (by omega), if_neg (by simp [hr]), hlen]
  rw [hE]
  clear hE hp hr hn hlen
  by_cases k0 : kd = 0
  · subst k0
    by_cases p0 : pr = -1
    case neg =>
      simp (decide := true) [int, tiersD, Tir.row, p0]
    subst p0
    rcases (by omega : rl = 0 ∨ rl = 1 ∨ rl = 2 ∨ rl = 3 ∨ rl = 4 ∨ rl = 5) with rfl | rfl | rfl | rfl | rfl | rfl
    · skip
      simp (decide := true) [int, tiersD, Tir.row, rolesE, kindR, overR]
      repeat first
        | (refine scall_pure (by rfl) (by rfl) (kindR_ok _) (by simp [int]) ?_; simp (decide := true) [int, tiersD, Tir.row, rolesE, kindR, overR])
        | (refine scall_pure (by rfl) (by rfl) (overR_ok _) (by simp [int]) ?_; simp (decide := true) [int, tiersD, Tir.row, rolesE, kindR, overR])
        | (refine scall_pure (by rfl) (by rfl) (timed_ok _) (by simp [int]) ?_; simp (decide := true) [int, tiersD, Tir.row, rolesE, kindR, overR])
        | (refine ECall.pure (by rfl) (timed_ok _) (by simp [int]) ?_; simp (decide := true) [int, tiersD, Tir.row, rolesE, kindR, overR])
    · skip
      simp (decide := true) [int, tiersD, Tir.row, rolesE, kindR, overR]
      repeat first
        | (refine scall_pure (by rfl) (by rfl) (kindR_ok _) (by simp [int]) ?_; simp (decide := true) [int, tiersD, Tir.row, rolesE, kindR, overR])
        | (refine scall_pure (by rfl) (by rfl) (overR_ok _) (by simp [int]) ?_; simp (decide := true) [int, tiersD, Tir.row, rolesE, kindR, overR])
        | (refine scall_pure (by rfl) (by rfl) (timed_ok _) (by simp [int]) ?_; simp (decide := true) [int, tiersD, Tir.row, rolesE, kindR, overR])
        | (refine ECall.pure (by rfl) (timed_ok _) (by simp [int]) ?_; simp (decide := true) [int, tiersD, Tir.row, rolesE, kindR, overR])
    · skip
      simp (decide := true) [int, tiersD, Tir.row, rolesE, kindR, overR]
      repeat first
        | (refine scall_pure (by rfl) (by rfl) (kindR_ok _) (by simp [int]) ?_; simp (decide := true) [int, tiersD, Tir.row, rolesE, kindR, overR])
        | (refine scall_pure (by rfl) (by rfl) (overR_ok _) (by simp [int]) ?_; simp (decide := true) [int, tiersD, Tir.row, rolesE, kindR, overR])
        | (refine scall_pure (by rfl) (by rfl) (timed_ok _) (by simp [int]) ?_; simp (decide := true) [int, tiersD, Tir.row, rolesE, kindR, overR])
        | (refine ECall.pure (by rfl) (timed_ok _) (by simp [int]) ?_; simp (decide := true) [int, tiersD, Tir.row, rolesE, kindR, overR])
    · skip
      simp (decide := true) [int, tiersD, Tir.row, rolesE, kindR, overR]
      repeat first
        | (refine scall_pure (by rfl) (by rfl) (kindR_ok _) (by simp [int]) ?_; simp (decide := true) [int, tiersD, Tir.row, rolesE, kindR, overR])
        | (refine scall_pure (by rfl) (by rfl) (overR_ok _) (by simp [int]) ?_; simp (decide := true) [int, tiersD, Tir.row, rolesE, kindR, overR])
        | (refine scall_pure (by rfl) (by rfl) (timed_ok _) (by simp [int]) ?_; simp (decide := true) [int, tiersD, Tir.row, rolesE, kindR, overR])
        | (refine ECall.pure (by rfl) (timed_ok _) (by simp [int]) ?_; simp (decide := true) [int, tiersD, Tir.row, rolesE, kindR, overR])
    · skip
      simp (decide := true) [int, tiersD, Tir.row, rolesE, kindR, overR]
      repeat first
        | (refine scall_pure (by rfl) (by rfl) (kindR_ok _) (by simp [int]) ?_; simp (decide := true) [int, tiersD, Tir.row, rolesE, kindR, overR])
        | (refine scall_pure (by rfl) (by rfl) (overR_ok _) (by simp [int]) ?_; simp (decide := true) [int, tiersD, Tir.row, rolesE, kindR, overR])
        | (refine scall_pure (by rfl) (by rfl) (timed_ok _) (by simp [int]) ?_; simp (decide := true) [int, tiersD, Tir.row, rolesE, kindR, overR])
        | (refine ECall.pure (by rfl) (timed_ok _) (by simp [int]) ?_; simp (decide := true) [int, tiersD, Tir.row, rolesE, kindR, overR])
    · skip
      simp (decide := true) [int, tiersD, Tir.row, rolesE, kindR, overR]
      repeat first
        | (refine scall_pure (by rfl) (by rfl) (kindR_ok _) (by simp [int]) ?_; simp (decide := true) [int, tiersD, Tir.row, rolesE, kindR, overR])
        | (refine scall_pure (by rfl) (by rfl) (overR_ok _) (by simp [int]) ?_; simp (decide := true) [int, tiersD, Tir.row, rolesE, kindR, overR])
        | (refine scall_pure (by rfl) (by rfl) (timed_ok _) (by simp [int]) ?_; simp (decide := true) [int, tiersD, Tir.row, rolesE, kindR, overR])
        | (refine ECall.pure (by rfl) (timed_ok _) (by simp [int]) ?_; simp (decide := true) [int, tiersD, Tir.row, rolesE, kindR, overR])
  by_cases p0 : pr < 0
  · simp (decide := true) [int, tiersD, Tir.row, k0, p0]
  by_cases p1 : (j : Int) ≤ pr
  · simp (decide := true) [int, tiersD, Tir.row, k0, p0, p1]
  obtain ⟨q, rfl⟩ : ∃ q : Nat, pr = q := ⟨pr.toNat, by omega⟩
  have hq : q < l.length := by omega
  have hq' : (q : Int) < l.length := by omega
  obtain ⟨u, eu'⟩ : ∃ u, l[q] = u := ⟨_, rfl⟩
  have eu : l[q]? = some u := by rw [List.getElem?_eq_getElem hq, eu']
  have et : (l.take j)[(q : Int).toNat]? = some u := by rw [Int.toNat_natCast, List.getElem?_take, if_pos (by omega), eu]
  obtain ⟨un, uk, ur, up⟩ := u
  rw [et]
  simp only [Option.getD_some]
  by_cases a1 : alK kd = true
  · by_cases a2 : alK uk = true
    case neg =>
      simp (decide := true) [int, tiersD, Tir.row, k0, p0, p1, hq, hq', eu, eu', a1, a2, kindR, overR]
      repeat first
        | (refine scall_pure (by rfl) (by rfl) (kindR_ok _) (by simp [int]) ?_; simp (decide := true) [int, tiersD, Tir.row, k0, p0, p1, hq, hq', eu, eu', a1, a2, kindR, overR])
        | (refine scall_pure (by rfl) (by rfl) (overR_ok _) (by simp [int]) ?_; simp (decide := true) [int, tiersD, Tir.row, k0, p0, p1, hq, hq', eu, eu', a1, a2, kindR, overR])
        | (refine scall_pure (by rfl) (by rfl) (timed_ok _) (by simp [int]) ?_; simp (decide := true) [int, tiersD, Tir.row, k0, p0, p1, hq, hq', eu, eu', a1, a2, kindR, overR])
        | (refine ECall.pure (by rfl) (timed_ok _) (by simp [int]) ?_; simp (decide := true) [int, tiersD, Tir.row, k0, p0, p1, hq, hq', eu, eu', a1, a2, kindR, overR])
    rcases (by omega : rl = 0 ∨ rl = 1 ∨ rl = 2 ∨ rl = 3 ∨ rl = 4 ∨ rl = 5) with rfl | rfl | rfl | rfl | rfl | rfl
    · skip
      simp (decide := true) [int, tiersD, Tir.row, k0, p0, p1, hq, hq', eu, eu', a1, a2, rolesE, kindR, overR]
      repeat first
        | (refine scall_pure (by rfl) (by rfl) (kindR_ok _) (by simp [int]) ?_; simp (decide := true) [int, tiersD, Tir.row, k0, p0, p1, hq, hq', eu, eu', a1, a2, rolesE, kindR, overR])
        | (refine scall_pure (by rfl) (by rfl) (overR_ok _) (by simp [int]) ?_; simp (decide := true) [int, tiersD, Tir.row, k0, p0, p1, hq, hq', eu, eu', a1, a2, rolesE, kindR, overR])
        | (refine scall_pure (by rfl) (by rfl) (timed_ok _) (by simp [int]) ?_; simp (decide := true) [int, tiersD, Tir.row, k0, p0, p1, hq, hq', eu, eu', a1, a2, rolesE, kindR, overR])
        | (refine ECall.pure (by rfl) (timed_ok _) (by simp [int]) ?_; simp (decide := true) [int, tiersD, Tir.row, k0, p0, p1, hq, hq', eu, eu', a1, a2, rolesE, kindR, overR])
    · skip
      simp (decide := true) [int, tiersD, Tir.row, k0, p0, p1, hq, hq', eu, eu', a1, a2, rolesE, kindR, overR]
      repeat first
        | (refine scall_pure (by rfl) (by rfl) (kindR_ok _) (by simp [int]) ?_; simp (decide := true) [int, tiersD, Tir.row, k0, p0, p1, hq, hq', eu, eu', a1, a2, rolesE, kindR, overR])
        | (refine scall_pure (by rfl) (by rfl) (overR_ok _) (by simp [int]) ?_; simp (decide := true) [int, tiersD, Tir.row, k0, p0, p1, hq, hq', eu, eu', a1, a2, rolesE, kindR, overR])
        | (refine scall_pure (by rfl) (by rfl) (timed_ok _) (by simp [int]) ?_; simp (decide := true) [int, tiersD, Tir.row, k0, p0, p1, hq, hq', eu, eu', a1, a2, rolesE, kindR, overR])
        | (refine ECall.pure (by rfl) (timed_ok _) (by simp [int]) ?_; simp (decide := true) [int, tiersD, Tir.row, k0, p0, p1, hq, hq', eu, eu', a1, a2, rolesE, kindR, overR])
    · skip
      by_cases o1 : ur = 1
      · skip
        simp (decide := true) [int, tiersD, Tir.row, k0, p0, p1, hq, hq', eu, eu', a1, a2, rolesE, o1, kindR, overR]
        repeat first
          | (refine scall_pure (by rfl) (by rfl) (kindR_ok _) (by simp [int]) ?_; simp (decide := true) [int, tiersD, Tir.row, k0, p0, p1, hq, hq', eu, eu', a1, a2, rolesE, o1, kindR, overR])
          | (refine scall_pure (by rfl) (by rfl) (overR_ok _) (by simp [int]) ?_; simp (decide := true) [int, tiersD, Tir.row, k0, p0, p1, hq, hq', eu, eu', a1, a2, rolesE, o1, kindR, overR])
          | (refine scall_pure (by rfl) (by rfl) (timed_ok _) (by simp [int]) ?_; simp (decide := true) [int, tiersD, Tir.row, k0, p0, p1, hq, hq', eu, eu', a1, a2, rolesE, o1, kindR, overR])
          | (refine ECall.pure (by rfl) (timed_ok _) (by simp [int]) ?_; simp (decide := true) [int, tiersD, Tir.row, k0, p0, p1, hq, hq', eu, eu', a1, a2, rolesE, o1, kindR, overR])
      · skip
        simp (decide := true) [int, tiersD, Tir.row, k0, p0, p1, hq, hq', eu, eu', a1, a2, rolesE, o1, kindR, overR]
        repeat first
          | (refine scall_pure (by rfl) (by rfl) (kindR_ok _) (by simp [int]) ?_; simp (decide := true) [int, tiersD, Tir.row, k0, p0, p1, hq, hq', eu, eu', a1, a2, rolesE, o1, kindR, overR])
          | (refine scall_pure (by rfl) (by rfl) (overR_ok _) (by simp [int]) ?_; simp (decide := true) [int, tiersD, Tir.row, k0, p0, p1, hq, hq', eu, eu', a1, a2, rolesE, o1, kindR, overR])
          | (refine scall_pure (by rfl) (by rfl) (timed_ok _) (by simp [int]) ?_; simp (decide := true) [int, tiersD, Tir.row, k0, p0, p1, hq, hq', eu, eu', a1, a2, rolesE, o1, kindR, overR])
          | (refine ECall.pure (by rfl) (timed_ok _) (by simp [int]) ?_; simp (decide := true) [int, tiersD, Tir.row, k0, p0, p1, hq, hq', eu, eu', a1, a2, rolesE, o1, kindR, overR])
    · skip
      by_cases n1 : kd = 3
      case neg =>
        simp (decide := true) [int, tiersD, Tir.row, k0, p0, p1, hq, hq', eu, eu', a1, a2, rolesE, n1, kindR, overR]
        repeat first
          | (refine scall_pure (by rfl) (by rfl) (kindR_ok _) (by simp [int]) ?_; simp (decide := true) [int, tiersD, Tir.row, k0, p0, p1, hq, hq', eu, eu', a1, a2, rolesE, n1, kindR, overR])
          | (refine scall_pure (by rfl) (by rfl) (overR_ok _) (by simp [int]) ?_; simp (decide := true) [int, tiersD, Tir.row, k0, p0, p1, hq, hq', eu, eu', a1, a2, rolesE, n1, kindR, overR])
          | (refine scall_pure (by rfl) (by rfl) (timed_ok _) (by simp [int]) ?_; simp (decide := true) [int, tiersD, Tir.row, k0, p0, p1, hq, hq', eu, eu', a1, a2, rolesE, n1, kindR, overR])
          | (refine ECall.pure (by rfl) (timed_ok _) (by simp [int]) ?_; simp (decide := true) [int, tiersD, Tir.row, k0, p0, p1, hq, hq', eu, eu', a1, a2, rolesE, n1, kindR, overR])
      subst n1
      exact absurd a1 (by decide)
    · skip
      by_cases n1 : kd = 4
      case neg =>
        simp (decide := true) [int, tiersD, Tir.row, k0, p0, p1, hq, hq', eu, eu', a1, a2, rolesE, n1, kindR, overR]
        repeat first
          | (refine scall_pure (by rfl) (by rfl) (kindR_ok _) (by simp [int]) ?_; simp (decide := true) [int, tiersD, Tir.row, k0, p0, p1, hq, hq', eu, eu', a1, a2, rolesE, n1, kindR, overR])
          | (refine scall_pure (by rfl) (by rfl) (overR_ok _) (by simp [int]) ?_; simp (decide := true) [int, tiersD, Tir.row, k0, p0, p1, hq, hq', eu, eu', a1, a2, rolesE, n1, kindR, overR])
          | (refine scall_pure (by rfl) (by rfl) (timed_ok _) (by simp [int]) ?_; simp (decide := true) [int, tiersD, Tir.row, k0, p0, p1, hq, hq', eu, eu', a1, a2, rolesE, n1, kindR, overR])
          | (refine ECall.pure (by rfl) (timed_ok _) (by simp [int]) ?_; simp (decide := true) [int, tiersD, Tir.row, k0, p0, p1, hq, hq', eu, eu', a1, a2, rolesE, n1, kindR, overR])
      subst n1
      exact absurd a1 (by decide)
    · skip
      by_cases n1 : kd = 4
      case neg =>
        simp (decide := true) [int, tiersD, Tir.row, k0, p0, p1, hq, hq', eu, eu', a1, a2, rolesE, n1, kindR, overR]
        repeat first
          | (refine scall_pure (by rfl) (by rfl) (kindR_ok _) (by simp [int]) ?_; simp (decide := true) [int, tiersD, Tir.row, k0, p0, p1, hq, hq', eu, eu', a1, a2, rolesE, n1, kindR, overR])
          | (refine scall_pure (by rfl) (by rfl) (overR_ok _) (by simp [int]) ?_; simp (decide := true) [int, tiersD, Tir.row, k0, p0, p1, hq, hq', eu, eu', a1, a2, rolesE, n1, kindR, overR])
          | (refine scall_pure (by rfl) (by rfl) (timed_ok _) (by simp [int]) ?_; simp (decide := true) [int, tiersD, Tir.row, k0, p0, p1, hq, hq', eu, eu', a1, a2, rolesE, n1, kindR, overR])
          | (refine ECall.pure (by rfl) (timed_ok _) (by simp [int]) ?_; simp (decide := true) [int, tiersD, Tir.row, k0, p0, p1, hq, hq', eu, eu', a1, a2, rolesE, n1, kindR, overR])
      subst n1
      exact absurd a1 (by decide)
  · skip
    rcases (by omega : rl = 0 ∨ rl = 1 ∨ rl = 2 ∨ rl = 3 ∨ rl = 4 ∨ rl = 5) with rfl | rfl | rfl | rfl | rfl | rfl
    · skip
      simp (decide := true) [int, tiersD, Tir.row, k0, p0, p1, hq, hq', eu, eu', a1, rolesE, kindR, overR]
      repeat first
        | (refine scall_pure (by rfl) (by rfl) (kindR_ok _) (by simp [int]) ?_; simp (decide := true) [int, tiersD, Tir.row, k0, p0, p1, hq, hq', eu, eu', a1, rolesE, kindR, overR])
        | (refine scall_pure (by rfl) (by rfl) (overR_ok _) (by simp [int]) ?_; simp (decide := true) [int, tiersD, Tir.row, k0, p0, p1, hq, hq', eu, eu', a1, rolesE, kindR, overR])
        | (refine scall_pure (by rfl) (by rfl) (timed_ok _) (by simp [int]) ?_; simp (decide := true) [int, tiersD, Tir.row, k0, p0, p1, hq, hq', eu, eu', a1, rolesE, kindR, overR])
        | (refine ECall.pure (by rfl) (timed_ok _) (by simp [int]) ?_; simp (decide := true) [int, tiersD, Tir.row, k0, p0, p1, hq, hq', eu, eu', a1, rolesE, kindR, overR])
    · skip
      simp (decide := true) [int, tiersD, Tir.row, k0, p0, p1, hq, hq', eu, eu', a1, rolesE, kindR, overR]
      repeat first
        | (refine scall_pure (by rfl) (by rfl) (kindR_ok _) (by simp [int]) ?_; simp (decide := true) [int, tiersD, Tir.row, k0, p0, p1, hq, hq', eu, eu', a1, rolesE, kindR, overR])
        | (refine scall_pure (by rfl) (by rfl) (overR_ok _) (by simp [int]) ?_; simp (decide := true) [int, tiersD, Tir.row, k0, p0, p1, hq, hq', eu, eu', a1, rolesE, kindR, overR])
        | (refine scall_pure (by rfl) (by rfl) (timed_ok _) (by simp [int]) ?_; simp (decide := true) [int, tiersD, Tir.row, k0, p0, p1, hq, hq', eu, eu', a1, rolesE, kindR, overR])
        | (refine ECall.pure (by rfl) (timed_ok _) (by simp [int]) ?_; simp (decide := true) [int, tiersD, Tir.row, k0, p0, p1, hq, hq', eu, eu', a1, rolesE, kindR, overR])
    · skip
      by_cases o1 : ur = 1
      · skip
        simp (decide := true) [int, tiersD, Tir.row, k0, p0, p1, hq, hq', eu, eu', a1, rolesE, o1, kindR, overR]
        repeat first
          | (refine scall_pure (by rfl) (by rfl) (kindR_ok _) (by simp [int]) ?_; simp (decide := true) [int, tiersD, Tir.row, k0, p0, p1, hq, hq', eu, eu', a1, rolesE, o1, kindR, overR])
          | (refine scall_pure (by rfl) (by rfl) (overR_ok _) (by simp [int]) ?_; simp (decide := true) [int, tiersD, Tir.row, k0, p0, p1, hq, hq', eu, eu', a1, rolesE, o1, kindR, overR])
          | (refine scall_pure (by rfl) (by rfl) (timed_ok _) (by simp [int]) ?_; simp (decide := true) [int, tiersD, Tir.row, k0, p0, p1, hq, hq', eu, eu', a1, rolesE, o1, kindR, overR])
          | (refine ECall.pure (by rfl) (timed_ok _) (by simp [int]) ?_; simp (decide := true) [int, tiersD, Tir.row, k0, p0, p1, hq, hq', eu, eu', a1, rolesE, o1, kindR, overR])
      · skip
        simp (decide := true) [int, tiersD, Tir.row, k0, p0, p1, hq, hq', eu, eu', a1, rolesE, o1, kindR, overR]
        repeat first
          | (refine scall_pure (by rfl) (by rfl) (kindR_ok _) (by simp [int]) ?_; simp (decide := true) [int, tiersD, Tir.row, k0, p0, p1, hq, hq', eu, eu', a1, rolesE, o1, kindR, overR])
          | (refine scall_pure (by rfl) (by rfl) (overR_ok _) (by simp [int]) ?_; simp (decide := true) [int, tiersD, Tir.row, k0, p0, p1, hq, hq', eu, eu', a1, rolesE, o1, kindR, overR])
          | (refine scall_pure (by rfl) (by rfl) (timed_ok _) (by simp [int]) ?_; simp (decide := true) [int, tiersD, Tir.row, k0, p0, p1, hq, hq', eu, eu', a1, rolesE, o1, kindR, overR])
          | (refine ECall.pure (by rfl) (timed_ok _) (by simp [int]) ?_; simp (decide := true) [int, tiersD, Tir.row, k0, p0, p1, hq, hq', eu, eu', a1, rolesE, o1, kindR, overR])
    · skip
      by_cases n1 : kd = 3
      case neg =>
        simp (decide := true) [int, tiersD, Tir.row, k0, p0, p1, hq, hq', eu, eu', a1, rolesE, n1, kindR, overR]
        repeat first
          | (refine scall_pure (by rfl) (by rfl) (kindR_ok _) (by simp [int]) ?_; simp (decide := true) [int, tiersD, Tir.row, k0, p0, p1, hq, hq', eu, eu', a1, rolesE, n1, kindR, overR])
          | (refine scall_pure (by rfl) (by rfl) (overR_ok _) (by simp [int]) ?_; simp (decide := true) [int, tiersD, Tir.row, k0, p0, p1, hq, hq', eu, eu', a1, rolesE, n1, kindR, overR])
          | (refine scall_pure (by rfl) (by rfl) (timed_ok _) (by simp [int]) ?_; simp (decide := true) [int, tiersD, Tir.row, k0, p0, p1, hq, hq', eu, eu', a1, rolesE, n1, kindR, overR])
          | (refine ECall.pure (by rfl) (timed_ok _) (by simp [int]) ?_; simp (decide := true) [int, tiersD, Tir.row, k0, p0, p1, hq, hq', eu, eu', a1, rolesE, n1, kindR, overR])
      subst n1
      by_cases o1 : ur = 2
      · skip
        simp (decide := true) [int, tiersD, Tir.row, k0, p0, p1, hq, hq', eu, eu', a1, rolesE, o1, kindR, overR]
        repeat first
          | (refine scall_pure (by rfl) (by rfl) (kindR_ok _) (by simp [int]) ?_; simp (decide := true) [int, tiersD, Tir.row, k0, p0, p1, hq, hq', eu, eu', a1, rolesE, o1, kindR, overR])
          | (refine scall_pure (by rfl) (by rfl) (overR_ok _) (by simp [int]) ?_; simp (decide := true) [int, tiersD, Tir.row, k0, p0, p1, hq, hq', eu, eu', a1, rolesE, o1, kindR, overR])
          | (refine scall_pure (by rfl) (by rfl) (timed_ok _) (by simp [int]) ?_; simp (decide := true) [int, tiersD, Tir.row, k0, p0, p1, hq, hq', eu, eu', a1, rolesE, o1, kindR, overR])
          | (refine ECall.pure (by rfl) (timed_ok _) (by simp [int]) ?_; simp (decide := true) [int, tiersD, Tir.row, k0, p0, p1, hq, hq', eu, eu', a1, rolesE, o1, kindR, overR])
      · skip
        simp (decide := true) [int, tiersD, Tir.row, k0, p0, p1, hq, hq', eu, eu', a1, rolesE, o1, kindR, overR]
        repeat first
          | (refine scall_pure (by rfl) (by rfl) (kindR_ok _) (by simp [int]) ?_; simp (decide := true) [int, tiersD, Tir.row, k0, p0, p1, hq, hq', eu, eu', a1, rolesE, o1, kindR, overR])
          | (refine scall_pure (by rfl) (by rfl) (overR_ok _) (by simp [int]) ?_; simp (decide := true) [int, tiersD, Tir.row, k0, p0, p1, hq, hq', eu, eu', a1, rolesE, o1, kindR, overR])
          | (refine scall_pure (by rfl) (by rfl) (timed_ok _) (by simp [int]) ?_; simp (decide := true) [int, tiersD, Tir.row, k0, p0, p1, hq, hq', eu, eu', a1, rolesE, o1, kindR, overR])
          | (refine ECall.pure (by rfl) (timed_ok _) (by simp [int]) ?_; simp (decide := true) [int, tiersD, Tir.row, k0, p0, p1, hq, hq', eu, eu', a1, rolesE, o1, kindR, overR])
    · skip
      by_cases n1 : kd = 4
      case neg =>
        simp (decide := true) [int, tiersD, Tir.row, k0, p0, p1, hq, hq', eu, eu', a1, rolesE, n1, kindR, overR]
        repeat first
          | (refine scall_pure (by rfl) (by rfl) (kindR_ok _) (by simp [int]) ?_; simp (decide := true) [int, tiersD, Tir.row, k0, p0, p1, hq, hq', eu, eu', a1, rolesE, n1, kindR, overR])
          | (refine scall_pure (by rfl) (by rfl) (overR_ok _) (by simp [int]) ?_; simp (decide := true) [int, tiersD, Tir.row, k0, p0, p1, hq, hq', eu, eu', a1, rolesE, n1, kindR, overR])
          | (refine scall_pure (by rfl) (by rfl) (timed_ok _) (by simp [int]) ?_; simp (decide := true) [int, tiersD, Tir.row, k0, p0, p1, hq, hq', eu, eu', a1, rolesE, n1, kindR, overR])
          | (refine ECall.pure (by rfl) (timed_ok _) (by simp [int]) ?_; simp (decide := true) [int, tiersD, Tir.row, k0, p0, p1, hq, hq', eu, eu', a1, rolesE, n1, kindR, overR])
      subst n1
      by_cases o1 : ur = 3
      · skip
        simp (decide := true) [int, tiersD, Tir.row, k0, p0, p1, hq, hq', eu, eu', a1, rolesE, o1, kindR, overR]
        repeat first
          | (refine scall_pure (by rfl) (by rfl) (kindR_ok _) (by simp [int]) ?_; simp (decide := true) [int, tiersD, Tir.row, k0, p0, p1, hq, hq', eu, eu', a1, rolesE, o1, kindR, overR])
          | (refine scall_pure (by rfl) (by rfl) (overR_ok _) (by simp [int]) ?_; simp (decide := true) [int, tiersD, Tir.row, k0, p0, p1, hq, hq', eu, eu', a1, rolesE, o1, kindR, overR])
          | (refine scall_pure (by rfl) (by rfl) (timed_ok _) (by simp [int]) ?_; simp (decide := true) [int, tiersD, Tir.row, k0, p0, p1, hq, hq', eu, eu', a1, rolesE, o1, kindR, overR])
          | (refine ECall.pure (by rfl) (timed_ok _) (by simp [int]) ?_; simp (decide := true) [int, tiersD, Tir.row, k0, p0, p1, hq, hq', eu, eu', a1, rolesE, o1, kindR, overR])
      · skip
        simp (decide := true) [int, tiersD, Tir.row, k0, p0, p1, hq, hq', eu, eu', a1, rolesE, o1, kindR, overR]
        repeat first
          | (refine scall_pure (by rfl) (by rfl) (kindR_ok _) (by simp [int]) ?_; simp (decide := true) [int, tiersD, Tir.row, k0, p0, p1, hq, hq', eu, eu', a1, rolesE, o1, kindR, overR])
          | (refine scall_pure (by rfl) (by rfl) (overR_ok _) (by simp [int]) ?_; simp (decide := true) [int, tiersD, Tir.row, k0, p0, p1, hq, hq', eu, eu', a1, rolesE, o1, kindR, overR])
          | (refine scall_pure (by rfl) (by rfl) (timed_ok _) (by simp [int]) ?_; simp (decide := true) [int, tiersD, Tir.row, k0, p0, p1, hq, hq', eu, eu', a1, rolesE, o1, kindR, overR])
          | (refine ECall.pure (by rfl) (timed_ok _) (by simp [int]) ?_; simp (decide := true) [int, tiersD, Tir.row, k0, p0, p1, hq, hq', eu, eu', a1, rolesE, o1, kindR, overR])
    · skip
      by_cases n1 : kd = 4
      case neg =>
        simp (decide := true) [int, tiersD, Tir.row, k0, p0, p1, hq, hq', eu, eu', a1, rolesE, n1, kindR, overR]
        repeat first
          | (refine scall_pure (by rfl) (by rfl) (kindR_ok _) (by simp [int]) ?_; simp (decide := true) [int, tiersD, Tir.row, k0, p0, p1, hq, hq', eu, eu', a1, rolesE, n1, kindR, overR])
          | (refine scall_pure (by rfl) (by rfl) (overR_ok _) (by simp [int]) ?_; simp (decide := true) [int, tiersD, Tir.row, k0, p0, p1, hq, hq', eu, eu', a1, rolesE, n1, kindR, overR])
          | (refine scall_pure (by rfl) (by rfl) (timed_ok _) (by simp [int]) ?_; simp (decide := true) [int, tiersD, Tir.row, k0, p0, p1, hq, hq', eu, eu', a1, rolesE, n1, kindR, overR])
          | (refine ECall.pure (by rfl) (timed_ok _) (by simp [int]) ?_; simp (decide := true) [int, tiersD, Tir.row, k0, p0, p1, hq, hq', eu, eu', a1, rolesE, n1, kindR, overR])
      subst n1
      by_cases o1 : ur = 1
      · skip
        simp (decide := true) [int, tiersD, Tir.row, k0, p0, p1, hq, hq', eu, eu', a1, rolesE, o1, kindR, overR]
        repeat first
          | (refine scall_pure (by rfl) (by rfl) (kindR_ok _) (by simp [int]) ?_; simp (decide := true) [int, tiersD, Tir.row, k0, p0, p1, hq, hq', eu, eu', a1, rolesE, o1, kindR, overR])
          | (refine scall_pure (by rfl) (by rfl) (overR_ok _) (by simp [int]) ?_; simp (decide := true) [int, tiersD, Tir.row, k0, p0, p1, hq, hq', eu, eu', a1, rolesE, o1, kindR, overR])
          | (refine scall_pure (by rfl) (by rfl) (timed_ok _) (by simp [int]) ?_; simp (decide := true) [int, tiersD, Tir.row, k0, p0, p1, hq, hq', eu, eu', a1, rolesE, o1, kindR, overR])
          | (refine ECall.pure (by rfl) (timed_ok _) (by simp [int]) ?_; simp (decide := true) [int, tiersD, Tir.row, k0, p0, p1, hq, hq', eu, eu', a1, rolesE, o1, kindR, overR])
      · skip
        simp (decide := true) [int, tiersD, Tir.row, k0, p0, p1, hq, hq', eu, eu', a1, rolesE, o1, kindR, overR]
        repeat first
          | (refine scall_pure (by rfl) (by rfl) (kindR_ok _) (by simp [int]) ?_; simp (decide := true) [int, tiersD, Tir.row, k0, p0, p1, hq, hq', eu, eu', a1, rolesE, o1, kindR, overR])
          | (refine scall_pure (by rfl) (by rfl) (overR_ok _) (by simp [int]) ?_; simp (decide := true) [int, tiersD, Tir.row, k0, p0, p1, hq, hq', eu, eu', a1, rolesE, o1, kindR, overR])
          | (refine scall_pure (by rfl) (by rfl) (timed_ok _) (by simp [int]) ?_; simp (decide := true) [int, tiersD, Tir.row, k0, p0, p1, hq, hq', eu, eu', a1, rolesE, o1, kindR, overR])
          | (refine ECall.pure (by rfl) (timed_ok _) (by simp [int]) ?_; simp (decide := true) [int, tiersD, Tir.row, k0, p0, p1, hq, hq', eu, eu', a1, rolesE, o1, kindR, overR])
theorem refTiers_ok (l : List Tir) (hl : l.length < 2^62) (hs : ∀ t ∈ l, t.name.size ≤ 9223372036854775807) : PureR Tryd.prog 39 [tiersD l] (int (tiersE l)) := by
  refine pure_of_body mixed Tryd.func39 rfl call_39 ?_
  by_cases h0 : 12 < l.length
  · have h0' : (12 : Int) < l.length := by omega
    simp (decide := true) [Tryd.f39, tiersD, int, h0', tiersE, h0]
  have h0' : ¬ (12 : Int) < l.length := by omega
  simp (decide := true) [Tryd.f39, tiersD, int, h0', tiersE, h0]
  refine loop_rule mixed (fun k : Nat => { n := 20, next := 0, slots := [(0, .d (tiersD l)), (3, .d (.int .i64 k))], own := [] })
    (fun k => k ≤ l.length ∧ tiersGo l l.length 0 = tiersGo l (l.length - k) k) (fun k => l.length - k) 0 (by simp) (by simp (decide := true) [tiersD, int]) ?_
  intro k ⟨hk, hp⟩
  by_cases hlt : k < l.length
  · have hlt' : (k : Int) < l.length := by omega
    obtain ⟨m, hm⟩ : ∃ m, l.length - k = m + 1 := ⟨l.length - k - 1, by omega⟩
    rw [hm] at hp
    simp only [tiersGo, dif_pos hlt] at hp
    simp (decide := true) [tiersD, int, hlt']
    refine ECall.pure (by rfl) (refTier_ok l k hlt hl hs) (by simp [tiersD, int]) ?_
    by_cases hz : oneE (l.take k) l[k] = 0
    · rw [if_pos hz] at hp
      simp (decide := true) [int, hz, I64]
      exact ⟨by omega, k + 1, ⟨by omega, by rw [hp]; congr 1; omega⟩, by omega, by simp [tiersD]⟩
    · rw [if_neg hz] at hp
      simp (decide := true) [int, hz, hp]
  · have : k = l.length := by omega
    subst this
    rw [Nat.sub_self] at hp
    simp (decide := true) [tiersD, int, hp, tiersGo]
end Go.V

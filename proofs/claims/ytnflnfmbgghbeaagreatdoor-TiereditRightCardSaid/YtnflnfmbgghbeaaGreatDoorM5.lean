/- Contracts and plain laws of this seat: part M5. It needs no conditions. -/
import Derived.Test.YtnflnfmbgghbeaaGreatDoorM4
import Derived.Test.YtnflnfmbgghbeaaGreatDoorM3
set_option linter.unusedVariables false
set_option linter.unusedSimpArgs false
set_option linter.unusedSectionVars false
set_option maxRecDepth 100000
namespace Go.V
open Go Go.Proofs
theorem timed_ok (k : Int) : PureR Tryz.prog 85 [int k] (.bool (alK k)) := by
  refine pure_of_body mixed Tryz.func85 rfl call_85 ?_
  by_cases h0 : k = 0
  · subst h0; simp (decide := true) [Tryz.f85, int, alK]
  by_cases h1 : k = 1
  · subst h1; simp (decide := true) [Tryz.f85, int, alK]
  by_cases h2 : k = 2
  · subst h2; simp (decide := true) [Tryz.f85, int, alK]
  simp (decide := true) [Tryz.f85, int, alK, h0, h1, h2]
def kindR (r : Int) : Int := if r = 1 then 0 else if r = 3 then 3 else if r = 4 then 4 else if r = 5 then 4 else -1
def overR (r : Int) : Int := if r = 2 then 1 else if r = 5 then 1 else if r = 3 then 2 else if r = 4 then 3 else -1
theorem kindR_ok (r : Int) : PureR Tryz.prog 109 [int r] (int (kindR r)) := by
  refine pure_of_body mixed Tryz.func109 rfl call_109 ?_
  by_cases h1 : r = 1
  · subst h1; simp (decide := true) [Tryz.f109, int, kindR]
  by_cases h3 : r = 3
  · subst h3; simp (decide := true) [Tryz.f109, int, kindR]
  by_cases h4 : r = 4
  · subst h4; simp (decide := true) [Tryz.f109, int, kindR]
  by_cases h5 : r = 5
  · subst h5; simp (decide := true) [Tryz.f109, int, kindR]
  simp (decide := true) [Tryz.f109, int, kindR, h1, h3, h4, h5]
theorem overR_ok (r : Int) : PureR Tryz.prog 110 [int r] (int (overR r)) := by
  refine pure_of_body mixed Tryz.func110 rfl call_110 ?_
  by_cases h2 : r = 2
  · subst h2; simp (decide := true) [Tryz.f110, int, overR]
  by_cases h5 : r = 5
  · subst h5; simp (decide := true) [Tryz.f110, int, overR]
  by_cases h3 : r = 3
  · subst h3; simp (decide := true) [Tryz.f110, int, overR]
  by_cases h4 : r = 4
  · subst h4; simp (decide := true) [Tryz.f110, int, overR]
  simp (decide := true) [Tryz.f110, int, overR, h2, h5, h3, h4]
theorem any_take {α : Type} {l : List α} {p : α → Bool} {k : Nat} (h : k < l.length) : (l.take (k + 1)).any p = ((l.take k).any p || p l[k]) := by
  rw [List.take_succ_eq_append_getElem h, List.any_append]; simp
set_option maxHeartbeats 8000000 in
theorem refTier_ok (l : List Tir) (i : Nat) (hi : i < l.length) (hl : l.length < 2^62) (hs : ∀ t ∈ l, t.name.size ≤ 9223372036854775807) : PureR Tryz.prog 86 [tiersD l, int i] (int (oneE (l.take i) l[i])) := by
  refine pure_of_body mixed Tryz.func86 rfl call_86 ?_
  have hi' : (i : Int) < l.length := by omega
  have ei : l[i]? = some l[i] := List.getElem?_eq_getElem hi
  have hlen : (l.take i).length = i := by rw [List.length_take]; omega
  have hsz := hs _ (List.getElem_mem hi)
  obtain ⟨t, et⟩ : ∃ t, l[i] = t := ⟨_, rfl⟩
  rw [et] at hsz ei ⊢
  obtain ⟨nm, kd, rl, pr⟩ := t
  simp (decide := true) [Tryz.f86, tiersD, Tir.row, int, ei, et, hi, hi']
  refine ECall.pure (by rfl) (refName_ok nm hsz) (by simp) ?_
  by_cases hn : nameP nm = true
  case neg => simp (decide := true) [hn, oneE, int]
  simp (decide := true) [hn, int]
  refine loop_rule mixed (fun k : Nat => { n := 136, next := 1, slots := [(0, .d (tiersD l)), (1, .d (int i)), (4, .d (int 0)), (5, .bp 0 0), (6, .d (.int .i64 k))], own := [(0, .box 58 [.d (.str nm), .d (int kd), .d (int rl), .d (int pr)])] })
    (fun k => k ≤ i ∧ findT (l.take k) nm = false) (fun k => i - k) 0 (by simp [findT]) (by simp (decide := true) [tiersD, int]) ?_
  rintro k ⟨hk, hp⟩
  by_cases hlt : k < i
  · have hlt' : (k : Int) < i := by omega
    have hkl : k < l.length := by omega
    have hkl' : (k : Int) < l.length := by omega
    have e1 : l[k]? = some l[k] := List.getElem?_eq_getElem hkl
    have hst : findT (l.take (k + 1)) nm = decide (l[k].name = nm) := by unfold findT at hp ⊢; rw [any_take hkl, hp, Bool.false_or]
    by_cases hq : l[k].name = nm
    · have hf : findT (l.take i) nm = true := by
        unfold findT; rw [List.any_eq_true]
        exact ⟨l[k], by rw [List.mem_take_iff_getElem]; exact ⟨k, by omega, rfl⟩, by simp [hq]⟩
      simp (decide := true) [tiersD, Tir.row, int, e1, hkl, hkl', hlt', hq, oneE, hn, hf]
    · simp (decide := true) [tiersD, Tir.row, int, e1, hkl, hkl', hlt', hq, I64]
      exact ⟨by omega, k + 1, ⟨by omega, by rw [hst]; simp [hq]⟩, by omega, by omega⟩
  have : k = i := by omega
  subst this
  by_cases k1 : kd < 0
  · simp (decide := true) [int, tiersD, k1, oneE, hn, hp]
  by_cases k2 : 4 < kd
  · simp (decide := true) [int, tiersD, k1, k2, oneE, hn, hp]
  by_cases r1 : rl < 0
  · simp (decide := true) [int, tiersD, k1, k2, r1, oneE, hn, hp]
  by_cases r2 : 5 < rl
  · simp (decide := true) [int, tiersD, k1, k2, r1, r2, oneE, hn, hp]
  simp (decide := true) [int, tiersD, k1, k2, r1, r2]
  refine loop_rule mixed (fun j : Nat => { n := 136, next := 1, slots := [(0, .d (tiersD l)), (1, .d (int k)), (4, .d (int 0)), (5, .bp 0 0), (7, .d (.int .i64 j))], own := [(0, .box 58 [.d (.str nm), .d (int kd), .d (int rl), .d (int pr)])] })
    (fun j => j ≤ k ∧ roleT (l.take j) rl = false) (fun j => k - j) 0 (by simp [roleT]) (by simp (decide := true) [tiersD, int]) ?_
  rintro j ⟨hj, hr⟩
  by_cases hlt : j < k
  · have hlt' : (j : Int) < k := by omega
    have hjl : j < l.length := by omega
    have hjl' : (j : Int) < l.length := by omega
    have e1 : l[j]? = some l[j] := List.getElem?_eq_getElem hjl
    by_cases z : rl = 0
    · subst z
      simp (decide := true) [tiersD, Tir.row, int, e1, hjl, hjl', hlt', I64]
      exact ⟨by omega, j + 1, ⟨by omega, by simp [roleT]⟩, by omega, by omega⟩
    have hst : roleT (l.take (j + 1)) rl = decide (l[j].role = rl) := by
      unfold roleT at hr ⊢
      simp only [z, decide_false, Bool.not_false, Bool.true_and] at hr ⊢
      rw [any_take hjl, hr, Bool.false_or]
    by_cases hq : l[j].role = rl
    · have hf : roleT (l.take k) rl = true := by
        unfold roleT
        simp only [z, decide_false, Bool.not_false, Bool.true_and]
        rw [List.any_eq_true]
        exact ⟨l[j], by rw [List.mem_take_iff_getElem]; exact ⟨j, by omega, rfl⟩, by simp [hq]⟩
      simp (decide := true) [tiersD, Tir.row, int, e1, hjl, hjl', hlt', hq, oneE, hn, hp, hf, k1, k2, r1, r2, z]
    · simp (decide := true) [tiersD, Tir.row, int, e1, hjl, hjl', hlt', hq, I64, z]
      exact ⟨by omega, j + 1, ⟨by omega, by rw [hst]; simp [hq]⟩, by omega, by omega⟩
  have : j = k := by omega
  subst this
  have hE : oneE (l.take j) ⟨nm, kd, rl, pr⟩ = if kd = 0 then (if pr = -1 then rolesE (-1) kd rl else 13) else if pr < 0 ∨ (j : Int) ≤ pr then 13 else if alK kd = true ∧ alK ((l.take j)[pr.toNat]?.getD default).kind = false then 13 else rolesE ((l.take j)[pr.toNat]?.getD default).role kd rl := by
    simp only [oneE]
    rw [if_neg (by simp [hn]), if_neg (by simp [hp]), if_neg (by omega), if_neg (by omega), if_neg (by simp [hr]), hlen]
  rw [hE]
  clear hE hp hr hn hlen
  by_cases k0 : kd = 0
  · subst k0
    by_cases p0 : pr = -1
    case neg =>
      simp (decide := true) [int, tiersD, Tir.row, p0]
    subst p0
    rcases (by omega : rl = 0 ∨ rl = 1 ∨ rl = 2 ∨ rl = 3 ∨ rl = 4 ∨ rl = 5) with rfl | rfl | rfl | rfl | rfl | rfl
    · skip
      simp (decide := true) [int, tiersD, Tir.row, rolesE, kindR, overR]
      repeat first
        | (refine scall_pure (by rfl) (by rfl) (kindR_ok _) (by simp [int]) ?_; simp (decide := true) [int, tiersD, Tir.row, rolesE, kindR, overR])
        | (refine scall_pure (by rfl) (by rfl) (overR_ok _) (by simp [int]) ?_; simp (decide := true) [int, tiersD, Tir.row, rolesE, kindR, overR])
        | (refine scall_pure (by rfl) (by rfl) (timed_ok _) (by simp [int]) ?_; simp (decide := true) [int, tiersD, Tir.row, rolesE, kindR, overR])
        | (refine ECall.pure (by rfl) (timed_ok _) (by simp [int]) ?_; simp (decide := true) [int, tiersD, Tir.row, rolesE, kindR, overR])
    · skip
      simp (decide := true) [int, tiersD, Tir.row, rolesE, kindR, overR]
      repeat first
        | (refine scall_pure (by rfl) (by rfl) (kindR_ok _) (by simp [int]) ?_; simp (decide := true) [int, tiersD, Tir.row, rolesE, kindR, overR])
        | (refine scall_pure (by rfl) (by rfl) (overR_ok _) (by simp [int]) ?_; simp (decide := true) [int, tiersD, Tir.row, rolesE, kindR, overR])
        | (refine scall_pure (by rfl) (by rfl) (timed_ok _) (by simp [int]) ?_; simp (decide := true) [int, tiersD, Tir.row, rolesE, kindR, overR])
        | (refine ECall.pure (by rfl) (timed_ok _) (by simp [int]) ?_; simp (decide := true) [int, tiersD, Tir.row, rolesE, kindR, overR])
    · skip
      simp (decide := true) [int, tiersD, Tir.row, rolesE, kindR, overR]
      repeat first
        | (refine scall_pure (by rfl) (by rfl) (kindR_ok _) (by simp [int]) ?_; simp (decide := true) [int, tiersD, Tir.row, rolesE, kindR, overR])
        | (refine scall_pure (by rfl) (by rfl) (overR_ok _) (by simp [int]) ?_; simp (decide := true) [int, tiersD, Tir.row, rolesE, kindR, overR])
        | (refine scall_pure (by rfl) (by rfl) (timed_ok _) (by simp [int]) ?_; simp (decide := true) [int, tiersD, Tir.row, rolesE, kindR, overR])
        | (refine ECall.pure (by rfl) (timed_ok _) (by simp [int]) ?_; simp (decide := true) [int, tiersD, Tir.row, rolesE, kindR, overR])
    · skip
      simp (decide := true) [int, tiersD, Tir.row, rolesE, kindR, overR]
      repeat first
        | (refine scall_pure (by rfl) (by rfl) (kindR_ok _) (by simp [int]) ?_; simp (decide := true) [int, tiersD, Tir.row, rolesE, kindR, overR])
        | (refine scall_pure (by rfl) (by rfl) (overR_ok _) (by simp [int]) ?_; simp (decide := true) [int, tiersD, Tir.row, rolesE, kindR, overR])
        | (refine scall_pure (by rfl) (by rfl) (timed_ok _) (by simp [int]) ?_; simp (decide := true) [int, tiersD, Tir.row, rolesE, kindR, overR])
        | (refine ECall.pure (by rfl) (timed_ok _) (by simp [int]) ?_; simp (decide := true) [int, tiersD, Tir.row, rolesE, kindR, overR])
    · skip
      simp (decide := true) [int, tiersD, Tir.row, rolesE, kindR, overR]
      repeat first
        | (refine scall_pure (by rfl) (by rfl) (kindR_ok _) (by simp [int]) ?_; simp (decide := true) [int, tiersD, Tir.row, rolesE, kindR, overR])
        | (refine scall_pure (by rfl) (by rfl) (overR_ok _) (by simp [int]) ?_; simp (decide := true) [int, tiersD, Tir.row, rolesE, kindR, overR])
        | (refine scall_pure (by rfl) (by rfl) (timed_ok _) (by simp [int]) ?_; simp (decide := true) [int, tiersD, Tir.row, rolesE, kindR, overR])
        | (refine ECall.pure (by rfl) (timed_ok _) (by simp [int]) ?_; simp (decide := true) [int, tiersD, Tir.row, rolesE, kindR, overR])
    · skip
      simp (decide := true) [int, tiersD, Tir.row, rolesE, kindR, overR]
      repeat first
        | (refine scall_pure (by rfl) (by rfl) (kindR_ok _) (by simp [int]) ?_; simp (decide := true) [int, tiersD, Tir.row, rolesE, kindR, overR])
        | (refine scall_pure (by rfl) (by rfl) (overR_ok _) (by simp [int]) ?_; simp (decide := true) [int, tiersD, Tir.row, rolesE, kindR, overR])
        | (refine scall_pure (by rfl) (by rfl) (timed_ok _) (by simp [int]) ?_; simp (decide := true) [int, tiersD, Tir.row, rolesE, kindR, overR])
        | (refine ECall.pure (by rfl) (timed_ok _) (by simp [int]) ?_; simp (decide := true) [int, tiersD, Tir.row, rolesE, kindR, overR])
  by_cases p0 : pr < 0
  · simp (decide := true) [int, tiersD, Tir.row, k0, p0]
  by_cases p1 : (j : Int) ≤ pr
  · simp (decide := true) [int, tiersD, Tir.row, k0, p0, p1]
  obtain ⟨q, rfl⟩ : ∃ q : Nat, pr = q := ⟨pr.toNat, by omega⟩
  have hq : q < l.length := by omega
  have hq' : (q : Int) < l.length := by omega
  obtain ⟨u, eu'⟩ : ∃ u, l[q] = u := ⟨_, rfl⟩
  have eu : l[q]? = some u := by rw [List.getElem?_eq_getElem hq, eu']
  have et : (l.take j)[(q : Int).toNat]? = some u := by rw [Int.toNat_natCast, List.getElem?_take, if_pos (by omega), eu]
  obtain ⟨un, uk, ur, up⟩ := u
  rw [et]
  simp only [Option.getD_some]
  by_cases a1 : alK kd = true
  · by_cases a2 : alK uk = true
    case neg =>
      simp (decide := true) [int, tiersD, Tir.row, k0, p0, p1, hq, hq', eu, eu', a1, a2, kindR, overR]
      repeat first
        | (refine scall_pure (by rfl) (by rfl) (kindR_ok _) (by simp [int]) ?_; simp (decide := true) [int, tiersD, Tir.row, k0, p0, p1, hq, hq', eu, eu', a1, a2, kindR, overR])
        | (refine scall_pure (by rfl) (by rfl) (overR_ok _) (by simp [int]) ?_; simp (decide := true) [int, tiersD, Tir.row, k0, p0, p1, hq, hq', eu, eu', a1, a2, kindR, overR])
        | (refine scall_pure (by rfl) (by rfl) (timed_ok _) (by simp [int]) ?_; simp (decide := true) [int, tiersD, Tir.row, k0, p0, p1, hq, hq', eu, eu', a1, a2, kindR, overR])
        | (refine ECall.pure (by rfl) (timed_ok _) (by simp [int]) ?_; simp (decide := true) [int, tiersD, Tir.row, k0, p0, p1, hq, hq', eu, eu', a1, a2, kindR, overR])
    rcases (by omega : rl = 0 ∨ rl = 1 ∨ rl = 2 ∨ rl = 3 ∨ rl = 4 ∨ rl = 5) with rfl | rfl | rfl | rfl | rfl | rfl
    · skip
      simp (decide := true) [int, tiersD, Tir.row, k0, p0, p1, hq, hq', eu, eu', a1, a2, rolesE, kindR, overR]
      repeat first
        | (refine scall_pure (by rfl) (by rfl) (kindR_ok _) (by simp [int]) ?_; simp (decide := true) [int, tiersD, Tir.row, k0, p0, p1, hq, hq', eu, eu', a1, a2, rolesE, kindR, overR])
        | (refine scall_pure (by rfl) (by rfl) (overR_ok _) (by simp [int]) ?_; simp (decide := true) [int, tiersD, Tir.row, k0, p0, p1, hq, hq', eu, eu', a1, a2, rolesE, kindR, overR])
        | (refine scall_pure (by rfl) (by rfl) (timed_ok _) (by simp [int]) ?_; simp (decide := true) [int, tiersD, Tir.row, k0, p0, p1, hq, hq', eu, eu', a1, a2, rolesE, kindR, overR])
        | (refine ECall.pure (by rfl) (timed_ok _) (by simp [int]) ?_; simp (decide := true) [int, tiersD, Tir.row, k0, p0, p1, hq, hq', eu, eu', a1, a2, rolesE, kindR, overR])
    · skip
      simp (decide := true) [int, tiersD, Tir.row, k0, p0, p1, hq, hq', eu, eu', a1, a2, rolesE, kindR, overR]
      repeat first
        | (refine scall_pure (by rfl) (by rfl) (kindR_ok _) (by simp [int]) ?_; simp (decide := true) [int, tiersD, Tir.row, k0, p0, p1, hq, hq', eu, eu', a1, a2, rolesE, kindR, overR])
        | (refine scall_pure (by rfl) (by rfl) (overR_ok _) (by simp [int]) ?_; simp (decide := true) [int, tiersD, Tir.row, k0, p0, p1, hq, hq', eu, eu', a1, a2, rolesE, kindR, overR])
        | (refine scall_pure (by rfl) (by rfl) (timed_ok _) (by simp [int]) ?_; simp (decide := true) [int, tiersD, Tir.row, k0, p0, p1, hq, hq', eu, eu', a1, a2, rolesE, kindR, overR])
        | (refine ECall.pure (by rfl) (timed_ok _) (by simp [int]) ?_; simp (decide := true) [int, tiersD, Tir.row, k0, p0, p1, hq, hq', eu, eu', a1, a2, rolesE, kindR, overR])
    · skip
      by_cases o1 : ur = 1
      · skip
        simp (decide := true) [int, tiersD, Tir.row, k0, p0, p1, hq, hq', eu, eu', a1, a2, rolesE, o1, kindR, overR]
        repeat first
          | (refine scall_pure (by rfl) (by rfl) (kindR_ok _) (by simp [int]) ?_; simp (decide := true) [int, tiersD, Tir.row, k0, p0, p1, hq, hq', eu, eu', a1, a2, rolesE, o1, kindR, overR])
          | (refine scall_pure (by rfl) (by rfl) (overR_ok _) (by simp [int]) ?_; simp (decide := true) [int, tiersD, Tir.row, k0, p0, p1, hq, hq', eu, eu', a1, a2, rolesE, o1, kindR, overR])
          | (refine scall_pure (by rfl) (by rfl) (timed_ok _) (by simp [int]) ?_; simp (decide := true) [int, tiersD, Tir.row, k0, p0, p1, hq, hq', eu, eu', a1, a2, rolesE, o1, kindR, overR])
          | (refine ECall.pure (by rfl) (timed_ok _) (by simp [int]) ?_; simp (decide := true) [int, tiersD, Tir.row, k0, p0, p1, hq, hq', eu, eu', a1, a2, rolesE, o1, kindR, overR])
      · skip
        simp (decide := true) [int, tiersD, Tir.row, k0, p0, p1, hq, hq', eu, eu', a1, a2, rolesE, o1, kindR, overR]
        repeat first
          | (refine scall_pure (by rfl) (by rfl) (kindR_ok _) (by simp [int]) ?_; simp (decide := true) [int, tiersD, Tir.row, k0, p0, p1, hq, hq', eu, eu', a1, a2, rolesE, o1, kindR, overR])
          | (refine scall_pure (by rfl) (by rfl) (overR_ok _) (by simp [int]) ?_; simp (decide := true) [int, tiersD, Tir.row, k0, p0, p1, hq, hq', eu, eu', a1, a2, rolesE, o1, kindR, overR])
          | (refine scall_pure (by rfl) (by rfl) (timed_ok _) (by simp [int]) ?_; simp (decide := true) [int, tiersD, Tir.row, k0, p0, p1, hq, hq', eu, eu', a1, a2, rolesE, o1, kindR, overR])
          | (refine ECall.pure (by rfl) (timed_ok _) (by simp [int]) ?_; simp (decide := true) [int, tiersD, Tir.row, k0, p0, p1, hq, hq', eu, eu', a1, a2, rolesE, o1, kindR, overR])
    · skip
      by_cases n1 : kd = 3
      case neg =>
        simp (decide := true) [int, tiersD, Tir.row, k0, p0, p1, hq, hq', eu, eu', a1, a2, rolesE, n1, kindR, overR]
        repeat first
          | (refine scall_pure (by rfl) (by rfl) (kindR_ok _) (by simp [int]) ?_; simp (decide := true) [int, tiersD, Tir.row, k0, p0, p1, hq, hq', eu, eu', a1, a2, rolesE, n1, kindR, overR])
          | (refine scall_pure (by rfl) (by rfl) (overR_ok _) (by simp [int]) ?_; simp (decide := true) [int, tiersD, Tir.row, k0, p0, p1, hq, hq', eu, eu', a1, a2, rolesE, n1, kindR, overR])
          | (refine scall_pure (by rfl) (by rfl) (timed_ok _) (by simp [int]) ?_; simp (decide := true) [int, tiersD, Tir.row, k0, p0, p1, hq, hq', eu, eu', a1, a2, rolesE, n1, kindR, overR])
          | (refine ECall.pure (by rfl) (timed_ok _) (by simp [int]) ?_; simp (decide := true) [int, tiersD, Tir.row, k0, p0, p1, hq, hq', eu, eu', a1, a2, rolesE, n1, kindR, overR])
      subst n1
      exact absurd a1 (by decide)
    · skip
      by_cases n1 : kd = 4
      case neg =>
        simp (decide := true) [int, tiersD, Tir.row, k0, p0, p1, hq, hq', eu, eu', a1, a2, rolesE, n1, kindR, overR]
        repeat first
          | (refine scall_pure (by rfl) (by rfl) (kindR_ok _) (by simp [int]) ?_; simp (decide := true) [int, tiersD, Tir.row, k0, p0, p1, hq, hq', eu, eu', a1, a2, rolesE, n1, kindR, overR])
          | (refine scall_pure (by rfl) (by rfl) (overR_ok _) (by simp [int]) ?_; simp (decide := true) [int, tiersD, Tir.row, k0, p0, p1, hq, hq', eu, eu', a1, a2, rolesE, n1, kindR, overR])
          | (refine scall_pure (by rfl) (by rfl) (timed_ok _) (by simp [int]) ?_; simp (decide := true) [int, tiersD, Tir.row, k0, p0, p1, hq, hq', eu, eu', a1, a2, rolesE, n1, kindR, overR])
          | (refine ECall.pure (by rfl) (timed_ok _) (by simp [int]) ?_; simp (decide := true) [int, tiersD, Tir.row, k0, p0, p1, hq, hq', eu, eu', a1, a2, rolesE, n1, kindR, overR])
      subst n1
      exact absurd a1 (by decide)
    · skip
      by_cases n1 : kd = 4
      case neg =>
        simp (decide := true) [int, tiersD, Tir.row, k0, p0, p1, hq, hq', eu, eu', a1, a2, rolesE, n1, kindR, overR]
        repeat first
          | (refine scall_pure (by rfl) (by rfl) (kindR_ok _) (by simp [int]) ?_; simp (decide := true) [int, tiersD, Tir.row, k0, p0, p1, hq, hq', eu, eu', a1, a2, rolesE, n1, kindR, overR])
          | (refine scall_pure (by rfl) (by rfl) (overR_ok _) (by simp [int]) ?_; simp (decide := true) [int, tiersD, Tir.row, k0, p0, p1, hq, hq', eu, eu', a1, a2, rolesE, n1, kindR, overR])
          | (refine scall_pure (by rfl) (by rfl) (timed_ok _) (by simp [int]) ?_; simp (decide := true) [int, tiersD, Tir.row, k0, p0, p1, hq, hq', eu, eu', a1, a2, rolesE, n1, kindR, overR])
          | (refine ECall.pure (by rfl) (timed_ok _) (by simp [int]) ?_; simp (decide := true) [int, tiersD, Tir.row, k0, p0, p1, hq, hq', eu, eu', a1, a2, rolesE, n1, kindR, overR])
      subst n1
      exact absurd a1 (by decide)
  · skip
    rcases (by omega : rl = 0 ∨ rl = 1 ∨ rl = 2 ∨ rl = 3 ∨ rl = 4 ∨ rl = 5) with rfl | rfl | rfl | rfl | rfl | rfl
    · skip
      simp (decide := true) [int, tiersD, Tir.row, k0, p0, p1, hq, hq', eu, eu', a1, rolesE, kindR, overR]
      repeat first
        | (refine scall_pure (by rfl) (by rfl) (kindR_ok _) (by simp [int]) ?_; simp (decide := true) [int, tiersD, Tir.row, k0, p0, p1, hq, hq', eu, eu', a1, rolesE, kindR, overR])
        | (refine scall_pure (by rfl) (by rfl) (overR_ok _) (by simp [int]) ?_; simp (decide := true) [int, tiersD, Tir.row, k0, p0, p1, hq, hq', eu, eu', a1, rolesE, kindR, overR])
        | (refine scall_pure (by rfl) (by rfl) (timed_ok _) (by simp [int]) ?_; simp (decide := true) [int, tiersD, Tir.row, k0, p0, p1, hq, hq', eu, eu', a1, rolesE, kindR, overR])
        | (refine ECall.pure (by rfl) (timed_ok _) (by simp [int]) ?_; simp (decide := true) [int, tiersD, Tir.row, k0, p0, p1, hq, hq', eu, eu', a1, rolesE, kindR, overR])
    · skip
      simp (decide := true) [int, tiersD, Tir.row, k0, p0, p1, hq, hq', eu, eu', a1, rolesE, kindR, overR]
      repeat first
        | (refine scall_pure (by rfl) (by rfl) (kindR_ok _) (by simp [int]) ?_; simp (decide := true) [int, tiersD, Tir.row, k0, p0, p1, hq, hq', eu, eu', a1, rolesE, kindR, overR])
        | (refine scall_pure (by rfl) (by rfl) (overR_ok _) (by simp [int]) ?_; simp (decide := true) [int, tiersD, Tir.row, k0, p0, p1, hq, hq', eu, eu', a1, rolesE, kindR, overR])
        | (refine scall_pure (by rfl) (by rfl) (timed_ok _) (by simp [int]) ?_; simp (decide := true) [int, tiersD, Tir.row, k0, p0, p1, hq, hq', eu, eu', a1, rolesE, kindR, overR])
        | (refine ECall.pure (by rfl) (timed_ok _) (by simp [int]) ?_; simp (decide := true) [int, tiersD, Tir.row, k0, p0, p1, hq, hq', eu, eu', a1, rolesE, kindR, overR])
    · skip
      by_cases o1 : ur = 1
      · skip
        simp (decide := true) [int, tiersD, Tir.row, k0, p0, p1, hq, hq', eu, eu', a1, rolesE, o1, kindR, overR]
        repeat first
          | (refine scall_pure (by rfl) (by rfl) (kindR_ok _) (by simp [int]) ?_; simp (decide := true) [int, tiersD, Tir.row, k0, p0, p1, hq, hq', eu, eu', a1, rolesE, o1, kindR, overR])
          | (refine scall_pure (by rfl) (by rfl) (overR_ok _) (by simp [int]) ?_; simp (decide := true) [int, tiersD, Tir.row, k0, p0, p1, hq, hq', eu, eu', a1, rolesE, o1, kindR, overR])
          | (refine scall_pure (by rfl) (by rfl) (timed_ok _) (by simp [int]) ?_; simp (decide := true) [int, tiersD, Tir.row, k0, p0, p1, hq, hq', eu, eu', a1, rolesE, o1, kindR, overR])
          | (refine ECall.pure (by rfl) (timed_ok _) (by simp [int]) ?_; simp (decide := true) [int, tiersD, Tir.row, k0, p0, p1, hq, hq', eu, eu', a1, rolesE, o1, kindR, overR])
      · skip
        simp (decide := true) [int, tiersD, Tir.row, k0, p0, p1, hq, hq', eu, eu', a1, rolesE, o1, kindR, overR]
        repeat first
          | (refine scall_pure (by rfl) (by rfl) (kindR_ok _) (by simp [int]) ?_; simp (decide := true) [int, tiersD, Tir.row, k0, p0, p1, hq, hq', eu, eu', a1, rolesE, o1, kindR, overR])
          | (refine scall_pure (by rfl) (by rfl) (overR_ok _) (by simp [int]) ?_; simp (decide := true) [int, tiersD, Tir.row, k0, p0, p1, hq, hq', eu, eu', a1, rolesE, o1, kindR, overR])
          | (refine scall_pure (by rfl) (by rfl) (timed_ok _) (by simp [int]) ?_; simp (decide := true) [int, tiersD, Tir.row, k0, p0, p1, hq, hq', eu, eu', a1, rolesE, o1, kindR, overR])
          | (refine ECall.pure (by rfl) (timed_ok _) (by simp [int]) ?_; simp (decide := true) [int, tiersD, Tir.row, k0, p0, p1, hq, hq', eu, eu', a1, rolesE, o1, kindR, overR])
    · skip
      by_cases n1 : kd = 3
      case neg =>
        simp (decide := true) [int, tiersD, Tir.row, k0, p0, p1, hq, hq', eu, eu', a1, rolesE, n1, kindR, overR]
        repeat first
          | (refine scall_pure (by rfl) (by rfl) (kindR_ok _) (by simp [int]) ?_; simp (decide := true) [int, tiersD, Tir.row, k0, p0, p1, hq, hq', eu, eu', a1, rolesE, n1, kindR, overR])
          | (refine scall_pure (by rfl) (by rfl) (overR_ok _) (by simp [int]) ?_; simp (decide := true) [int, tiersD, Tir.row, k0, p0, p1, hq, hq', eu, eu', a1, rolesE, n1, kindR, overR])
          | (refine scall_pure (by rfl) (by rfl) (timed_ok _) (by simp [int]) ?_; simp (decide := true) [int, tiersD, Tir.row, k0, p0, p1, hq, hq', eu, eu', a1, rolesE, n1, kindR, overR])
          | (refine ECall.pure (by rfl) (timed_ok _) (by simp [int]) ?_; simp (decide := true) [int, tiersD, Tir.row, k0, p0, p1, hq, hq', eu, eu', a1, rolesE, n1, kindR, overR])
      subst n1
      by_cases o1 : ur = 2
      · skip
        simp (decide := true) [int, tiersD, Tir.row, k0, p0, p1, hq, hq', eu, eu', a1, rolesE, o1, kindR, overR]
        repeat first
          | (refine scall_pure (by rfl) (by rfl) (kindR_ok _) (by simp [int]) ?_; simp (decide := true) [int, tiersD, Tir.row, k0, p0, p1, hq, hq', eu, eu', a1, rolesE, o1, kindR, overR])
          | (refine scall_pure (by rfl) (by rfl) (overR_ok _) (by simp [int]) ?_; simp (decide := true) [int, tiersD, Tir.row, k0, p0, p1, hq, hq', eu, eu', a1, rolesE, o1, kindR, overR])
          | (refine scall_pure (by rfl) (by rfl) (timed_ok _) (by simp [int]) ?_; simp (decide := true) [int, tiersD, Tir.row, k0, p0, p1, hq, hq', eu, eu', a1, rolesE, o1, kindR, overR])
          | (refine ECall.pure (by rfl) (timed_ok _) (by simp [int]) ?_; simp (decide := true) [int, tiersD, Tir.row, k0, p0, p1, hq, hq', eu, eu', a1, rolesE, o1, kindR, overR])
      · skip
        simp (decide := true) [int, tiersD, Tir.row, k0, p0, p1, hq, hq', eu, eu', a1, rolesE, o1, kindR, overR]
        repeat first
          | (refine scall_pure (by rfl) (by rfl) (kindR_ok _) (by simp [int]) ?_; simp (decide := true) [int, tiersD, Tir.row, k0, p0, p1, hq, hq', eu, eu', a1, rolesE, o1, kindR, overR])
          | (refine scall_pure (by rfl) (by rfl) (overR_ok _) (by simp [int]) ?_; simp (decide := true) [int, tiersD, Tir.row, k0, p0, p1, hq, hq', eu, eu', a1, rolesE, o1, kindR, overR])
          | (refine scall_pure (by rfl) (by rfl) (timed_ok _) (by simp [int]) ?_; simp (decide := true) [int, tiersD, Tir.row, k0, p0, p1, hq, hq', eu, eu', a1, rolesE, o1, kindR, overR])
          | (refine ECall.pure (by rfl) (timed_ok _) (by simp [int]) ?_; simp (decide := true) [int, tiersD, Tir.row, k0, p0, p1, hq, hq', eu, eu', a1, rolesE, o1, kindR, overR])
    · skip
      by_cases n1 : kd = 4
      case neg =>
        simp (decide := true) [int, tiersD, Tir.row, k0, p0, p1, hq, hq', eu, eu', a1, rolesE, n1, kindR, overR]
        repeat first
          | (refine scall_pure (by rfl) (by rfl) (kindR_ok _) (by simp [int]) ?_; simp (decide := true) [int, tiersD, Tir.row, k0, p0, p1, hq, hq', eu, eu', a1, rolesE, n1, kindR, overR])
          | (refine scall_pure (by rfl) (by rfl) (overR_ok _) (by simp [int]) ?_; simp (decide := true) [int, tiersD, Tir.row, k0, p0, p1, hq, hq', eu, eu', a1, rolesE, n1, kindR, overR])
          | (refine scall_pure (by rfl) (by rfl) (timed_ok _) (by simp [int]) ?_; simp (decide := true) [int, tiersD, Tir.row, k0, p0, p1, hq, hq', eu, eu', a1, rolesE, n1, kindR, overR])
          | (refine ECall.pure (by rfl) (timed_ok _) (by simp [int]) ?_; simp (decide := true) [int, tiersD, Tir.row, k0, p0, p1, hq, hq', eu, eu', a1, rolesE, n1, kindR, overR])
      subst n1
      by_cases o1 : ur = 3
      · skip
        simp (decide := true) [int, tiersD, Tir.row, k0, p0, p1, hq, hq', eu, eu', a1, rolesE, o1, kindR, overR]
        repeat first
          | (refine scall_pure (by rfl) (by rfl) (kindR_ok _) (by simp [int]) ?_; simp (decide := true) [int, tiersD, Tir.row, k0, p0, p1, hq, hq', eu, eu', a1, rolesE, o1, kindR, overR])
          | (refine scall_pure (by rfl) (by rfl) (overR_ok _) (by simp [int]) ?_; simp (decide := true) [int, tiersD, Tir.row, k0, p0, p1, hq, hq', eu, eu', a1, rolesE, o1, kindR, overR])
          | (refine scall_pure (by rfl) (by rfl) (timed_ok _) (by simp [int]) ?_; simp (decide := true) [int, tiersD, Tir.row, k0, p0, p1, hq, hq', eu, eu', a1, rolesE, o1, kindR, overR])
          | (refine ECall.pure (by rfl) (timed_ok _) (by simp [int]) ?_; simp (decide := true) [int, tiersD, Tir.row, k0, p0, p1, hq, hq', eu, eu', a1, rolesE, o1, kindR, overR])
      · skip
        simp (decide := true) [int, tiersD, Tir.row, k0, p0, p1, hq, hq', eu, eu', a1, rolesE, o1, kindR, overR]
        repeat first
          | (refine scall_pure (by rfl) (by rfl) (kindR_ok _) (by simp [int]) ?_; simp (decide := true) [int, tiersD, Tir.row, k0, p0, p1, hq, hq', eu, eu', a1, rolesE, o1, kindR, overR])
          | (refine scall_pure (by rfl) (by rfl) (overR_ok _) (by simp [int]) ?_; simp (decide := true) [int, tiersD, Tir.row, k0, p0, p1, hq, hq', eu, eu', a1, rolesE, o1, kindR, overR])
          | (refine scall_pure (by rfl) (by rfl) (timed_ok _) (by simp [int]) ?_; simp (decide := true) [int, tiersD, Tir.row, k0, p0, p1, hq, hq', eu, eu', a1, rolesE, o1, kindR, overR])
          | (refine ECall.pure (by rfl) (timed_ok _) (by simp [int]) ?_; simp (decide := true) [int, tiersD, Tir.row, k0, p0, p1, hq, hq', eu, eu', a1, rolesE, o1, kindR, overR])
    · skip
      by_cases n1 : kd = 4
      case neg =>
        simp (decide := true) [int, tiersD, Tir.row, k0, p0, p1, hq, hq', eu, eu', a1, rolesE, n1, kindR, overR]
        repeat first
          | (refine scall_pure (by rfl) (by rfl) (kindR_ok _) (by simp [int]) ?_; simp (decide := true) [int, tiersD, Tir.row, k0, p0, p1, hq, hq', eu, eu', a1, rolesE, n1, kindR, overR])
          | (refine scall_pure (by rfl) (by rfl) (overR_ok _) (by simp [int]) ?_; simp (decide := true) [int, tiersD, Tir.row, k0, p0, p1, hq, hq', eu, eu', a1, rolesE, n1, kindR, overR])
          | (refine scall_pure (by rfl) (by rfl) (timed_ok _) (by simp [int]) ?_; simp (decide := true) [int, tiersD, Tir.row, k0, p0, p1, hq, hq', eu, eu', a1, rolesE, n1, kindR, overR])
          | (refine ECall.pure (by rfl) (timed_ok _) (by simp [int]) ?_; simp (decide := true) [int, tiersD, Tir.row, k0, p0, p1, hq, hq', eu, eu', a1, rolesE, n1, kindR, overR])
      subst n1
      by_cases o1 : ur = 1
      · skip
        simp (decide := true) [int, tiersD, Tir.row, k0, p0, p1, hq, hq', eu, eu', a1, rolesE, o1, kindR, overR]
        repeat first
          | (refine scall_pure (by rfl) (by rfl) (kindR_ok _) (by simp [int]) ?_; simp (decide := true) [int, tiersD, Tir.row, k0, p0, p1, hq, hq', eu, eu', a1, rolesE, o1, kindR, overR])
          | (refine scall_pure (by rfl) (by rfl) (overR_ok _) (by simp [int]) ?_; simp (decide := true) [int, tiersD, Tir.row, k0, p0, p1, hq, hq', eu, eu', a1, rolesE, o1, kindR, overR])
          | (refine scall_pure (by rfl) (by rfl) (timed_ok _) (by simp [int]) ?_; simp (decide := true) [int, tiersD, Tir.row, k0, p0, p1, hq, hq', eu, eu', a1, rolesE, o1, kindR, overR])
          | (refine ECall.pure (by rfl) (timed_ok _) (by simp [int]) ?_; simp (decide := true) [int, tiersD, Tir.row, k0, p0, p1, hq, hq', eu, eu', a1, rolesE, o1, kindR, overR])
      · skip
        simp (decide := true) [int, tiersD, Tir.row, k0, p0, p1, hq, hq', eu, eu', a1, rolesE, o1, kindR, overR]
        repeat first
          | (refine scall_pure (by rfl) (by rfl) (kindR_ok _) (by simp [int]) ?_; simp (decide := true) [int, tiersD, Tir.row, k0, p0, p1, hq, hq', eu, eu', a1, rolesE, o1, kindR, overR])
          | (refine scall_pure (by rfl) (by rfl) (overR_ok _) (by simp [int]) ?_; simp (decide := true) [int, tiersD, Tir.row, k0, p0, p1, hq, hq', eu, eu', a1, rolesE, o1, kindR, overR])
          | (refine scall_pure (by rfl) (by rfl) (timed_ok _) (by simp [int]) ?_; simp (decide := true) [int, tiersD, Tir.row, k0, p0, p1, hq, hq', eu, eu', a1, rolesE, o1, kindR, overR])
          | (refine ECall.pure (by rfl) (timed_ok _) (by simp [int]) ?_; simp (decide := true) [int, tiersD, Tir.row, k0, p0, p1, hq, hq', eu, eu', a1, rolesE, o1, kindR, overR])
theorem refTiers_ok (l : List Tir) (hl : l.length < 2^62) (hs : ∀ t ∈ l, t.name.size ≤ 9223372036854775807) : PureR Tryz.prog 69 [tiersD l] (int (tiersE l)) := by
  refine pure_of_body mixed Tryz.func69 rfl call_69 ?_
  by_cases h0 : 12 < l.length
  · have h0' : (12 : Int) < l.length := by omega
    simp (decide := true) [Tryz.f69, tiersD, int, h0', tiersE, h0]
  have h0' : ¬ (12 : Int) < l.length := by omega
  simp (decide := true) [Tryz.f69, tiersD, int, h0', tiersE, h0]
  refine loop_rule mixed (fun k : Nat => { n := 20, next := 0, slots := [(0, .d (tiersD l)), (3, .d (.int .i64 k))], own := [] })
    (fun k => k ≤ l.length ∧ tiersGo l l.length 0 = tiersGo l (l.length - k) k) (fun k => l.length - k) 0 (by simp) (by simp (decide := true) [tiersD, int]) ?_
  intro k ⟨hk, hp⟩
  by_cases hlt : k < l.length
  · have hlt' : (k : Int) < l.length := by omega
    obtain ⟨m, hm⟩ : ∃ m, l.length - k = m + 1 := ⟨l.length - k - 1, by omega⟩
    rw [hm] at hp
    simp only [tiersGo, dif_pos hlt] at hp
    simp (decide := true) [tiersD, int, hlt']
    refine ECall.pure (by rfl) (refTier_ok l k hlt hl hs) (by simp [tiersD, int]) ?_
    by_cases hz : oneE (l.take k) l[k] = 0
    · rw [if_pos hz] at hp
      simp (decide := true) [int, hz, I64]
      exact ⟨by omega, k + 1, ⟨by omega, by rw [hp]; congr 1; omega⟩, by omega, by simp [tiersD]⟩
    · rw [if_neg hz] at hp
      simp (decide := true) [int, hz, hp]
  · have : k = l.length := by omega
    subst this
    rw [Nat.sub_self] at hp
    simp (decide := true) [tiersD, int, hp, tiersGo]
end Go.V
namespace Go.V
open Go Go.Proofs
theorem alR_ok (k : Int) : PureR Tryz.prog 90 [int k] (.bool (alK k)) := by
  refine pure_of_body mixed Tryz.func90 rfl call_90 ?_
  by_cases h0 : k = 0
  · subst h0; simp (decide := true) [Tryz.f90, int, alK]
  by_cases h1 : k = 1
  · subst h1; simp (decide := true) [Tryz.f90, int, alK]
  by_cases h2 : k = 2
  · subst h2; simp (decide := true) [Tryz.f90, int, alK]
  simp (decide := true) [Tryz.f90, int, alK, h0, h1, h2]
theorem rightR_ok (f t : Int) : PureR Tryz.prog 112 [.agg [int f, int t]] (.bool (rightS f t)) := by
  refine pure_of_body mixed Tryz.func112 rfl call_112 ?_
  by_cases h1 : 0 ≤ f
  case neg => simp (decide := true) [Tryz.f112, int, rightS, h1]
  by_cases h2 : f < t
  case neg => simp (decide := true) [Tryz.f112, int, rightS, h1, h2]
  simp (decide := true) [Tryz.f112, int, rightS, h1, h2]
def placeE (d : Dc) (n : Nt) : Int :=
  if (if (tirAt d n.tier).kind = 0 then decide (n.par = 0) else (getN d.notes n.par).2 && decide ((getN d.notes n.par).1.tier = (tirAt d n.tier).par)) = true then
    (if withinP d n (getN d.notes n.par).1 = true then (if n.rank < 0 ∨ (n.rank ≠ 0 ∧ (tirAt d n.tier).kind ≠ 3) then 1 else 0) else 12)
  else 13
theorem noteE_place (d : Dc) (n : Nt) : noteE d n = if textE n.text = 0 then placeE d n else textE n.text := rfl
set_option maxHeartbeats 8000000 in
theorem placed_ok (d : Dc) (n : Nt) (hl : d.tiers.length < 2^62) (hn : d.notes.length < 2^62) (h0 : 0 ≤ n.tier) (h1 : n.tier < d.tiers.length) :
    PureR Tryz.prog 88 [docD d, .agg n.row] (int (placeE d n)) := by
  refine pure_of_body mixed Tryz.func88 rfl call_88 ?_
  obtain ⟨ni, nt, np, nf, nto, nr, nx⟩ := n
  simp only at h0 h1
  obtain ⟨k, rfl⟩ : ∃ k : Nat, nt = k := ⟨nt.toNat, by omega⟩
  have hk : k < d.tiers.length := by omega
  obtain ⟨t, ek⟩ : ∃ t, d.tiers[k] = t := ⟨_, rfl⟩
  have e1 : d.tiers[k]? = some t := by rw [List.getElem?_eq_getElem hk, ek]
  have et : tirAt d (k : Int) = t := by simp [tirAt, e1]
  obtain ⟨tn, kd, tr, tp⟩ := t
  have hal : alT d.tiers (k : Int) = alK kd := by
    unfold alT; rw [decide_eq_true (by omega), decide_eq_true (by omega), Int.toNat_natCast, e1]; rfl
  simp (decide := true) [Tryz.f88, docD, Dc.row, Nt.row, Tir.row, int, ints, notesD, tiersD, hk, e1, ek]
  refine ECall.pure (by rfl) (refGet_ok d np hn) (by simp (decide := true) [docD, Dc.row, int, ints, tiersD, notesD]) ?_
  have hpl : placeE d ⟨ni, k, np, nf, nto, nr, nx⟩ = if (if kd = 0 then decide (np = 0) else (getN d.notes np).2 && decide ((getN d.notes np).1.tier = tp)) = true then
    (if withinP d ⟨ni, k, np, nf, nto, nr, nx⟩ (getN d.notes np).1 = true then (if nr < 0 ∨ (nr ≠ 0 ∧ kd ≠ 3) then 1 else 0) else 12) else 13 := by
    simp only [placeE, et]
  rw [hpl]
  have hwi : ∀ q : Nt, withinP d ⟨ni, k, np, nf, nto, nr, nx⟩ q = if alK kd = true then rightS nf nto && (if kd = 0 then decide (0 ≤ nf) && decide (nto ≤ d.len) else decide (q.fr ≤ nf) && decide (nto ≤ q.tO))
      else decide (nf = 0) && decide (nto = 0) := by
    intro q; simp only [withinP, et, hal]
  simp only [hwi]
  clear hpl hwi
  obtain ⟨⟨p, ok⟩, eg⟩ : ∃ g, getN d.notes np = g := ⟨_, rfl⟩
  rw [eg]
  obtain ⟨pi, pt, pp, pf, pto, prr, px⟩ := p
  simp only [getD']
  by_cases k0 : kd = 0
  · subst k0
    have ak : alK 0 = true := rfl
    by_cases p0 : np = 0
    case neg =>
      simp (decide := true) [int, Nt.row, Tir.row, ak, p0]
      repeat first
        | (refine ECall.pure (by rfl) (alR_ok _) (by simp [int]) ?_; simp (decide := true) [int, Nt.row, Tir.row, ak, p0])
        | (refine ECall.pure (by rfl) (rightR_ok _ _) (by simp [int]) ?_; simp (decide := true) [int, Nt.row, Tir.row, ak, p0])
    subst p0
    by_cases hr : rightS nf nto = true
    case neg =>
      simp (decide := true) [int, Nt.row, Tir.row, ak, hr]
      repeat first
        | (refine ECall.pure (by rfl) (alR_ok _) (by simp [int]) ?_; simp (decide := true) [int, Nt.row, Tir.row, ak, hr])
        | (refine ECall.pure (by rfl) (rightR_ok _ _) (by simp [int]) ?_; simp (decide := true) [int, Nt.row, Tir.row, ak, hr])
    have hf : 0 ≤ nf := by simp only [rightS, Bool.and_eq_true, decide_eq_true_eq] at hr; omega
    by_cases hz : nto ≤ d.len
    case neg =>
      simp (decide := true) [int, Nt.row, Tir.row, ak, hr, hf, hz]
      repeat first
        | (refine ECall.pure (by rfl) (alR_ok _) (by simp [int]) ?_; simp (decide := true) [int, Nt.row, Tir.row, ak, hr, hf, hz])
        | (refine ECall.pure (by rfl) (rightR_ok _ _) (by simp [int]) ?_; simp (decide := true) [int, Nt.row, Tir.row, ak, hr, hf, hz])
    by_cases r1 : nr < 0
    · skip
      simp (decide := true) [int, Nt.row, Tir.row, ak, hr, hf, hz, r1]
      repeat first
        | (refine ECall.pure (by rfl) (alR_ok _) (by simp [int]) ?_; simp (decide := true) [int, Nt.row, Tir.row, ak, hr, hf, hz, r1])
        | (refine ECall.pure (by rfl) (rightR_ok _ _) (by simp [int]) ?_; simp (decide := true) [int, Nt.row, Tir.row, ak, hr, hf, hz, r1])
    by_cases r2 : nr = 0
    · skip
      simp (decide := true) [int, Nt.row, Tir.row, ak, hr, hf, hz, r1, r2]
      repeat first
        | (refine ECall.pure (by rfl) (alR_ok _) (by simp [int]) ?_; simp (decide := true) [int, Nt.row, Tir.row, ak, hr, hf, hz, r1, r2])
        | (refine ECall.pure (by rfl) (rightR_ok _ _) (by simp [int]) ?_; simp (decide := true) [int, Nt.row, Tir.row, ak, hr, hf, hz, r1, r2])
    simp (decide := true) [int, Nt.row, Tir.row, ak, hr, hf, hz, r1, r2]
    repeat first
      | (refine ECall.pure (by rfl) (alR_ok _) (by simp [int]) ?_; simp (decide := true) [int, Nt.row, Tir.row, ak, hr, hf, hz, r1, r2])
      | (refine ECall.pure (by rfl) (rightR_ok _ _) (by simp [int]) ?_; simp (decide := true) [int, Nt.row, Tir.row, ak, hr, hf, hz, r1, r2])
  cases ok with
  | false =>
    simp (decide := true) [int, Nt.row, Tir.row, k0]
    repeat first
      | (refine ECall.pure (by rfl) (alR_ok _) (by simp [int]) ?_; simp (decide := true) [int, Nt.row, Tir.row, k0])
      | (refine ECall.pure (by rfl) (rightR_ok _ _) (by simp [int]) ?_; simp (decide := true) [int, Nt.row, Tir.row, k0])
  | true =>
    by_cases pq : pt = tp
    case neg =>
      simp (decide := true) [int, Nt.row, Tir.row, k0, pq]
      repeat first
        | (refine ECall.pure (by rfl) (alR_ok _) (by simp [int]) ?_; simp (decide := true) [int, Nt.row, Tir.row, k0, pq])
        | (refine ECall.pure (by rfl) (rightR_ok _ _) (by simp [int]) ?_; simp (decide := true) [int, Nt.row, Tir.row, k0, pq])
    by_cases ha : alK kd = true
    · skip
      have k3 : ¬ kd = 3 := by rintro rfl; exact absurd ha (by decide)
      by_cases hr : rightS nf nto = true
      case neg =>
        simp (decide := true) [int, Nt.row, Tir.row, k0, pq, ha, hr]
        repeat first
          | (refine ECall.pure (by rfl) (alR_ok _) (by simp [int]) ?_; simp (decide := true) [int, Nt.row, Tir.row, k0, pq, ha, hr])
          | (refine ECall.pure (by rfl) (rightR_ok _ _) (by simp [int]) ?_; simp (decide := true) [int, Nt.row, Tir.row, k0, pq, ha, hr])
      by_cases b1 : pf ≤ nf
      case neg =>
        simp (decide := true) [int, Nt.row, Tir.row, k0, pq, ha, hr, b1]
        repeat first
          | (refine ECall.pure (by rfl) (alR_ok _) (by simp [int]) ?_; simp (decide := true) [int, Nt.row, Tir.row, k0, pq, ha, hr, b1])
          | (refine ECall.pure (by rfl) (rightR_ok _ _) (by simp [int]) ?_; simp (decide := true) [int, Nt.row, Tir.row, k0, pq, ha, hr, b1])
      by_cases b2 : nto ≤ pto
      case neg =>
        simp (decide := true) [int, Nt.row, Tir.row, k0, pq, ha, hr, b1, b2]
        repeat first
          | (refine ECall.pure (by rfl) (alR_ok _) (by simp [int]) ?_; simp (decide := true) [int, Nt.row, Tir.row, k0, pq, ha, hr, b1, b2])
          | (refine ECall.pure (by rfl) (rightR_ok _ _) (by simp [int]) ?_; simp (decide := true) [int, Nt.row, Tir.row, k0, pq, ha, hr, b1, b2])
      by_cases r1 : nr < 0
      · skip
        simp (decide := true) [int, Nt.row, Tir.row, k0, pq, ha, hr, b1, b2, k3, r1]
        repeat first
          | (refine ECall.pure (by rfl) (alR_ok _) (by simp [int]) ?_; simp (decide := true) [int, Nt.row, Tir.row, k0, pq, ha, hr, b1, b2, k3, r1])
          | (refine ECall.pure (by rfl) (rightR_ok _ _) (by simp [int]) ?_; simp (decide := true) [int, Nt.row, Tir.row, k0, pq, ha, hr, b1, b2, k3, r1])
      by_cases r2 : nr = 0
      · skip
        simp (decide := true) [int, Nt.row, Tir.row, k0, pq, ha, hr, b1, b2, k3, r1, r2]
        repeat first
          | (refine ECall.pure (by rfl) (alR_ok _) (by simp [int]) ?_; simp (decide := true) [int, Nt.row, Tir.row, k0, pq, ha, hr, b1, b2, k3, r1, r2])
          | (refine ECall.pure (by rfl) (rightR_ok _ _) (by simp [int]) ?_; simp (decide := true) [int, Nt.row, Tir.row, k0, pq, ha, hr, b1, b2, k3, r1, r2])
      simp (decide := true) [int, Nt.row, Tir.row, k0, pq, ha, hr, b1, b2, k3, r1, r2]
      repeat first
        | (refine ECall.pure (by rfl) (alR_ok _) (by simp [int]) ?_; simp (decide := true) [int, Nt.row, Tir.row, k0, pq, ha, hr, b1, b2, k3, r1, r2])
        | (refine ECall.pure (by rfl) (rightR_ok _ _) (by simp [int]) ?_; simp (decide := true) [int, Nt.row, Tir.row, k0, pq, ha, hr, b1, b2, k3, r1, r2])
    by_cases z1 : nf = 0
    case neg =>
      simp (decide := true) [int, Nt.row, Tir.row, k0, pq, ha, z1]
      repeat first
        | (refine ECall.pure (by rfl) (alR_ok _) (by simp [int]) ?_; simp (decide := true) [int, Nt.row, Tir.row, k0, pq, ha, z1])
        | (refine ECall.pure (by rfl) (rightR_ok _ _) (by simp [int]) ?_; simp (decide := true) [int, Nt.row, Tir.row, k0, pq, ha, z1])
    by_cases z2 : nto = 0
    case neg =>
      simp (decide := true) [int, Nt.row, Tir.row, k0, pq, ha, z1, z2]
      repeat first
        | (refine ECall.pure (by rfl) (alR_ok _) (by simp [int]) ?_; simp (decide := true) [int, Nt.row, Tir.row, k0, pq, ha, z1, z2])
        | (refine ECall.pure (by rfl) (rightR_ok _ _) (by simp [int]) ?_; simp (decide := true) [int, Nt.row, Tir.row, k0, pq, ha, z1, z2])
    by_cases r1 : nr < 0
    · skip
      simp (decide := true) [int, Nt.row, Tir.row, k0, pq, ha, z1, z2, r1]
      repeat first
        | (refine ECall.pure (by rfl) (alR_ok _) (by simp [int]) ?_; simp (decide := true) [int, Nt.row, Tir.row, k0, pq, ha, z1, z2, r1])
        | (refine ECall.pure (by rfl) (rightR_ok _ _) (by simp [int]) ?_; simp (decide := true) [int, Nt.row, Tir.row, k0, pq, ha, z1, z2, r1])
    by_cases r2 : nr = 0
    · skip
      simp (decide := true) [int, Nt.row, Tir.row, k0, pq, ha, z1, z2, r1, r2]
      repeat first
        | (refine ECall.pure (by rfl) (alR_ok _) (by simp [int]) ?_; simp (decide := true) [int, Nt.row, Tir.row, k0, pq, ha, z1, z2, r1, r2])
        | (refine ECall.pure (by rfl) (rightR_ok _ _) (by simp [int]) ?_; simp (decide := true) [int, Nt.row, Tir.row, k0, pq, ha, z1, z2, r1, r2])
    by_cases r3 : kd = 3
    · skip
      subst r3
      simp (decide := true) [int, Nt.row, Tir.row, k0, pq, ha, z1, z2, r1, r2]
      repeat first
        | (refine ECall.pure (by rfl) (alR_ok _) (by simp [int]) ?_; simp (decide := true) [int, Nt.row, Tir.row, k0, pq, ha, z1, z2, r1, r2])
        | (refine ECall.pure (by rfl) (rightR_ok _ _) (by simp [int]) ?_; simp (decide := true) [int, Nt.row, Tir.row, k0, pq, ha, z1, z2, r1, r2])
    simp (decide := true) [int, Nt.row, Tir.row, k0, pq, ha, z1, z2, r1, r2, r3]
    repeat first
      | (refine ECall.pure (by rfl) (alR_ok _) (by simp [int]) ?_; simp (decide := true) [int, Nt.row, Tir.row, k0, pq, ha, z1, z2, r1, r2, r3])
      | (refine ECall.pure (by rfl) (rightR_ok _ _) (by simp [int]) ?_; simp (decide := true) [int, Nt.row, Tir.row, k0, pq, ha, z1, z2, r1, r2, r3])
def noteIE (d : Dc) (i : Nat) : Int :=
  let n := d.notes[i]?.getD default
  if n.id < 1 ∨ 1099511627776 < n.id then 2 else if i ≠ 0 ∧ n.id ≤ (d.notes[i - 1]?.getD default).id then 10
  else if n.tier < 0 ∨ (d.tiers.length : Int) ≤ n.tier then 2 else noteE d n
theorem notesGo_IE (d : Dc) : ∀ (m i : Nat), notesGo d (m + 1) i = if i < d.notes.length then (if noteIE d i = 0 then notesGo d m (i + 1) else noteIE d i) else 0 := by
  intro m i
  simp only [notesGo, noteIE]
  split
  · split
    · simp
    · split
      · simp
      · split
        · simp
        · rfl
  · rfl
set_option maxHeartbeats 4000000 in
theorem noteError_ok (d : Dc) (i : Nat) (hi : i < d.notes.length) (hl : d.tiers.length < 2^62) (hn : d.notes.length < 2^62) (hx : ∀ n ∈ d.notes, n.text.size ≤ 9223372036854775807) :
    PureR Tryz.prog 70 [docD d, int i] (int (noteIE d i)) := by
  refine pure_of_body mixed Tryz.func70 rfl call_70 ?_
  have hi' : (i : Int) < d.notes.length := by omega
  obtain ⟨n, en'⟩ : ∃ n, d.notes[i] = n := ⟨_, rfl⟩
  have en : d.notes[i]? = some n := by rw [List.getElem?_eq_getElem hi, en']
  have hsz := hx n (by rw [← en']; exact List.getElem_mem hi)
  have hpl := fun a b => placed_ok d n hl hn a b
  have hE : noteIE d i = if n.id < 1 ∨ 1099511627776 < n.id then 2 else if i ≠ 0 ∧ n.id ≤ (d.notes[i - 1]?.getD default).id then 10
    else if n.tier < 0 ∨ (d.tiers.length : Int) ≤ n.tier then 2 else if textE n.text = 0 then placeE d n else textE n.text := by
    simp only [noteIE, en, Option.getD_some, noteE_place]
  rw [hE]
  clear hE
  have B : True := trivial
  by_cases a1 : n.id < 1
  · simp (decide := true) [Tryz.f70, docD, Dc.row, notesD, Nt.row, int, ints, hi, hi', en, en', a1]
  by_cases a2 : 1099511627776 < n.id
  · simp (decide := true) [Tryz.f70, docD, Dc.row, notesD, Nt.row, int, ints, hi, hi', en, en', a1, a2]
  have fin : ∀ (hi0 : ¬ (i ≠ 0 ∧ n.id ≤ (d.notes[i - 1]?.getD default).id)), True := fun _ => trivial
  cases i with
  | zero =>
    by_cases b1 : n.tier < 0
    · simp (decide := true) [Tryz.f70, docD, Dc.row, notesD, Nt.row, int, ints, hi, hi', en, en', a1, a2, b1]
    by_cases b2 : (d.tiers.length : Int) ≤ n.tier
    · simp (decide := true) [Tryz.f70, docD, Dc.row, notesD, Nt.row, int, ints, tiersD, hi, hi', en, en', a1, a2, b1, b2]
    simp (decide := true) [Tryz.f70, docD, Dc.row, notesD, Nt.row, int, ints, tiersD, hi, hi', en, en', a1, a2, b1, b2]
    refine ECall.pure (by rfl) (refText_ok n.text) (by simp [int]) ?_
    by_cases ht : textE n.text = 0
    case neg => simp (decide := true) [int, ht]
    simp (decide := true) [int, ht]
    refine ECall.pure (by rfl) (hpl (by omega) (by omega)) (by simp (decide := true) [docD, Dc.row, int, ints, notesD, tiersD, Nt.row]) ?_
    simp (decide := true) [int]
  | succ j =>
    have hjl : j < d.notes.length := by omega
    have hjl' : (j : Int) < d.notes.length := by omega
    obtain ⟨pv, ep'⟩ : ∃ pv, d.notes[j] = pv := ⟨_, rfl⟩
    have ep : d.notes[j]? = some pv := by rw [List.getElem?_eq_getElem hjl, ep']
    have j0 : (0 : Int) < (j : Int) + 1 := by omega
    have j1 : (j : Int) + 1 - 1 = j := by omega
    have jz : ¬ (j : Int) + 1 = 0 := by omega
    have hq : (j : Int) + 1 < d.notes.length := by omega
    have tn1 : ((j : Int) + 1).toNat = j + 1 := by omega
    have g0 : (0 : Int) ≤ (j : Int) + 1 := by omega
    have g1 : -9223372036854775808 ≤ (j : Int) := by omega
    have g2 : (j : Int) ≤ 9223372036854775807 := by omega
    by_cases c1 : n.id ≤ pv.id
    · simp (decide := true) [Tryz.f70, docD, Dc.row, notesD, Nt.row, int, ints, hi, hi', en, en', a1, a2, hjl, hjl', ep, ep', j0, j1, hq, tn1, c1, I64, g0, g1, g2]
    by_cases b1 : n.tier < 0
    · simp (decide := true) [Tryz.f70, docD, Dc.row, notesD, Nt.row, int, ints, hi, hi', en, en', a1, a2, hjl, hjl', ep, ep', j0, j1, hq, tn1, c1, I64, g0, g1, g2, b1]
    by_cases b2 : (d.tiers.length : Int) ≤ n.tier
    · simp (decide := true) [Tryz.f70, docD, Dc.row, notesD, Nt.row, int, ints, tiersD, hi, hi', en, en', a1, a2, hjl, hjl', ep, ep', j0, j1, hq, tn1, c1, I64, g0, g1, g2, b1, b2]
    simp (decide := true) [Tryz.f70, docD, Dc.row, notesD, Nt.row, int, ints, tiersD, hi, hi', en, en', a1, a2, hjl, hjl', ep, ep', j0, j1, hq, tn1, c1, I64, g0, g1, g2, b1, b2]
    refine ECall.pure (by rfl) (refText_ok n.text) (by simp [int]) ?_
    by_cases ht : textE n.text = 0
    case neg => simp (decide := true) [int, ht]
    simp (decide := true) [int, ht]
    refine ECall.pure (by rfl) (hpl (by omega) (by omega)) (by simp (decide := true) [docD, Dc.row, int, ints, notesD, tiersD, Nt.row]) ?_
    simp (decide := true) [int]
end Go.V
namespace Go.V
open Go Go.Proofs
structure Sp where
  (fr : Int)
  (tO : Int)
  deriving Inhabited, DecidableEq
def Sp.row (s : Sp) : List D := [int s.fr, int s.tO]
def spansD (l : List Sp) : D := .sl (l.map Sp.row)
abbrev Sp.rt (s : Sp) : Bool := rightS s.fr s.tO
def cut1 (x s : Sp) : List Sp := (if rightS x.fr (min x.tO s.fr) = true then [⟨x.fr, min x.tO s.fr⟩] else []) ++ (if rightS (max x.fr s.tO) x.tO = true then [⟨max x.fr s.tO, x.tO⟩] else [])
def withoutS (l : List Sp) (s : Sp) : List Sp := l.flatMap fun x => cut1 x s
def minusS (a b : List Sp) : List Sp := b.foldl (fun out y => if y.rt = true then withoutS out y else out) a
def coversS (l : List Sp) (s : Sp) : Bool := s.rt && (minusS [s] l).isEmpty
theorem cut1_len (x s : Sp) : (cut1 x s).length ≤ 2 := by
  unfold cut1; split <;> split <;> simp
theorem without_len (l : List Sp) (s : Sp) : (withoutS l s).length ≤ 2 * l.length := by
  unfold withoutS
  induction l with
  | nil => simp
  | cons x r ih =>
    have := cut1_len x s
    rw [List.flatMap_cons, List.length_append, List.length_cons]; omega
theorem without_snoc {l : List Sp} {s : Sp} {k : Nat} (h : k < l.length) : withoutS (l.take (k + 1)) s = withoutS (l.take k) s ++ cut1 l[k] s := by
  unfold withoutS
  rw [take_snoc' h, List.flatMap_append]; simp
def spSum (l : List Sp) : Int := (l.map fun x => x.tO - x.fr).sum
theorem spSum_append (a b : List Sp) : spSum (a ++ b) = spSum a + spSum b := by simp [spSum]
theorem cut1_sum {x s : Sp} (hx : x.rt = true) (hs : s.rt = true) : spSum (cut1 x s) ≤ x.tO - x.fr := by
  simp only [Sp.rt, rightS, Bool.and_eq_true, decide_eq_true_eq] at hx hs
  unfold cut1
  split <;> split <;> simp [spSum] <;> omega
theorem cut1_rt (x s : Sp) : ∀ y ∈ cut1 x s, y.rt = true := by
  intro y hy
  unfold cut1 at hy
  rcases List.mem_append.1 hy with h | h
  · split at h
    · rename_i e; simp at h; subst h; exact e
    · cases h
  · split at h
    · rename_i e; simp at h; subst h; exact e
    · cases h
theorem without_rt {l : List Sp} {s : Sp} : ∀ y ∈ withoutS l s, y.rt = true := by
  intro y hy
  unfold withoutS at hy
  obtain ⟨x, _, h⟩ := List.mem_flatMap.1 hy
  exact cut1_rt x s y h
theorem without_sum {s : Sp} (hs : s.rt = true) : ∀ {l : List Sp}, (∀ x ∈ l, x.rt = true) → spSum (withoutS l s) ≤ spSum l
  | [], _ => by simp [withoutS, spSum]
  | x :: r, h => by
    have h1 := cut1_sum (h x (by simp)) hs
    have h2 := without_sum hs (l := r) (fun y hy => h y (by simp [hy]))
    have e1 : withoutS (x :: r) s = cut1 x s ++ withoutS r s := by unfold withoutS; rw [List.flatMap_cons]
    have e2 : spSum (x :: r) = (x.tO - x.fr) + spSum r := by simp [spSum]
    rw [e1, spSum_append, e2]; omega
theorem len_sum : ∀ {l : List Sp}, (∀ x ∈ l, x.rt = true) → (l.length : Int) ≤ spSum l
  | [], _ => by simp [spSum]
  | x :: r, h => by
    have h1 := h x (by simp)
    simp only [Sp.rt, rightS, Bool.and_eq_true, decide_eq_true_eq] at h1
    have h2 := len_sum (l := r) (fun y hy => h y (by simp [hy]))
    have e2 : spSum (x :: r) = (x.tO - x.fr) + spSum r := by simp [spSum]
    rw [e2, List.length_cons]; omega
theorem minus_inv : ∀ (b a : List Sp), (∀ x ∈ a, x.rt = true) → (∀ x ∈ minusS a b, x.rt = true) ∧ spSum (minusS a b) ≤ spSum a
  | [], a, h => ⟨h, Int.le_refl _⟩
  | y :: r, a, h => by
    have e : minusS a (y :: r) = minusS (if y.rt = true then withoutS a y else a) r := rfl
    rw [e]
    by_cases hy : y.rt = true
    · rw [if_pos hy]
      have h1 := minus_inv r (withoutS a y) without_rt
      have h2 := without_sum hy h
      exact ⟨h1.1, by omega⟩
    · rw [if_neg hy]; exact minus_inv r a h
theorem minus_len {s : Sp} (hs : s.rt = true) (b : List Sp) : (minusS [s] b).length ≤ 86400000 := by
  obtain ⟨h1, h2⟩ := minus_inv b [s] (by simpa using hs)
  have h3 := len_sum h1
  simp only [Sp.rt, rightS, Bool.and_eq_true, decide_eq_true_eq] at hs
  have h4 : spSum [s] = s.tO - s.fr := by simp [spSum]
  omega
theorem minus_snoc {a b : List Sp} {k : Nat} (h : k < b.length) : minusS a (b.take (k + 1)) = if b[k].rt = true then withoutS (minusS a (b.take k)) b[k] else minusS a (b.take k) := by
  unfold minusS
  rw [take_snoc' h, List.foldl_append]; rfl
theorem insertNil_ok (s : Sp) : PureR Tryz.prog 142 [spansD [], .agg s.row] (spansD [s]) := by
  refine pure_of_body_frz mixed Tryz.func142 rfl call_142 [2] ?_
  simp (decide := true) [Tryz.f142, spansD, Sp.row, int]
  refine loop_rule mixed (fun k : Nat => { n := 69, next := 4, slots := [(0, .d (.sl [])), (3, .bp 0 0), (5, .ar 2), (6, .ar 3), (7, .d (.int .i64 k))], own := [(0, .box 43 [.d (int s.fr), .d (int s.tO)]), (2, .arr 43 2 []), (3, .arr 43 2 [])] })
    (fun k => k = 0) (fun k => 0) 0 (by simp) (by simp (decide := true) [int]) ?_
  rintro k rfl
  simp (decide := true) [int, maxLen]
set_option maxHeartbeats 1000000 in
theorem without_ok (l : List Sp) (s : Sp) (hl : l.length < 2^40) : PureR Tryz.prog 127 [spansD l, .agg s.row] (spansD (withoutS l s)) := by
  refine pure_of_body_frz mixed Tryz.func127 rfl call_127 [2] ?_
  simp (decide := true) [Tryz.f127, Sp.row, int]
  refine loop_rule mixed (fun k : Nat => { n := 57, next := 3, slots := [(0, .d (spansD l)), (3, .bp 0 0), (5, .ar 2), (6, .d (.int .i64 k))], own := [(0, .box 43 [.d (int s.fr), .d (int s.tO)]), (2, .arr 43 2 ((withoutS (l.take k) s).map Sp.row))], moved := [2] })
    (fun k => k ≤ l.length) (fun k => l.length - k) 0 (by simp) (by simp (decide := true) [int, withoutS]) ?_
  intro k hk
  by_cases hlt : k < l.length
  · have hlt' : (k : Int) < l.length := by omega
    obtain ⟨x, ex'⟩ : ∃ x, l[k] = x := ⟨_, rfl⟩
    have ex : l[k]? = some x := by rw [List.getElem?_eq_getElem hlt, ex']
    have hsn := without_snoc (s := s) hlt
    rw [ex'] at hsn
    have hw := without_len (l.take k) s
    have hwk : (l.take k).length = k := by rw [List.length_take]; omega
    rw [hwk] at hw
    generalize withoutS (l.take k) s = W at hw hsn ⊢
    simp (decide := true) [int, spansD, Sp.row, hlt, hlt', ex, ex']
    have m1 : (if s.fr < x.tO then s.fr else x.tO) = min x.tO s.fr := by rw [Int.min_def]; split <;> split <;> omega
    have m2 : (if x.fr < s.tO then s.tO else x.fr) = max x.fr s.tO := by rw [Int.max_def]; split <;> split <;> omega
    refine draw_new mixed (by rfl) (by rfl) ti_43 (by rfl) (by rfl) (by decide) (by rfl) (by rfl) ?_
    simp (decide := true) [int, spansD, Sp.row, hlt, hlt', ex, ex']
    refine draw_new mixed (by rfl) (by rfl) ti_43 (by rfl) (by rfl) (by decide) (by rfl) (by rfl) ?_
    simp (decide := true) [int, spansD, Sp.row, hlt, hlt', ex, ex']
    rw [m1, m2]
    have hC : cut1 x s = (if rightS x.fr (min x.tO s.fr) = true then [⟨x.fr, min x.tO s.fr⟩] else []) ++ (if rightS (max x.fr s.tO) x.tO = true then [⟨max x.fr s.tO, x.tO⟩] else []) := rfl
    generalize min x.tO s.fr = mn at hC ⊢
    generalize max x.fr s.tO = mx at hC ⊢
    refine ECall.pure (by rfl) (rightR_ok _ _) (by simp [int]) ?_
    by_cases r1 : rightS x.fr mn = true
    · rw [if_pos r1] at hC
      simp (decide := true) [int, spansD, Sp.row, r1]
      refine ⟨by omega, by unfold maxLen; omega, ?_⟩
      refine ECall.pure (by rfl) (rightR_ok _ _) (by simp [int]) ?_
      by_cases r2 : rightS mx x.tO = true
      · rw [if_pos r2] at hC
        rw [hC] at hsn
        simp (decide := true) [int, spansD, Sp.row, r2, I64]
        refine ⟨by omega, by unfold maxLen; omega, by omega, k + 1, hlt, by omega, by omega, ?_⟩
        rw [hsn]; simp [Sp.row, int]
      · rw [if_neg r2] at hC
        rw [hC] at hsn
        simp (decide := true) [int, spansD, Sp.row, r2, I64]
        refine ⟨by omega, k + 1, hlt, by omega, by omega, ?_⟩
        rw [hsn]; simp [Sp.row, int]
    · rw [if_neg r1] at hC
      simp (decide := true) [int, spansD, Sp.row, r1]
      refine ECall.pure (by rfl) (rightR_ok _ _) (by simp [int]) ?_
      by_cases r2 : rightS mx x.tO = true
      · rw [if_pos r2] at hC
        rw [hC] at hsn
        simp (decide := true) [int, spansD, Sp.row, r2, I64]
        refine ⟨by omega, by unfold maxLen; omega, by omega, k + 1, hlt, by omega, by omega, ?_⟩
        rw [hsn]; simp [Sp.row, int]
      · rw [if_neg r2] at hC
        rw [hC] at hsn
        simp (decide := true) [int, spansD, Sp.row, r2, I64]
        refine ⟨by omega, k + 1, hlt, by omega, by omega, ?_⟩
        rw [hsn]; simp
  · have : k = l.length := by omega
    subst this
    rw [List.take_length]
    simp (decide := true) [int, spansD, Sp.row]
end Go.V
namespace Go.V
open Go Go.Proofs
theorem union1_ok (s : Sp) (hs : s.rt = true) : PureR Tryz.prog 126 [spansD [s]] (spansD [s]) := by
  refine pure_of_body mixed Tryz.func126 rfl call_126 ?_
  simp (decide := true) [Tryz.f126, int]
  refine loop_rule mixed (fun k : Nat => match k with
      | 0 => { n := 24, next := 2, slots := [(0, .d (spansD [s])), (3, .ar 1), (4, .d (int 0))], own := [(1, .arr 43 2 [])] }
      | _ + 1 => { n := 24, next := 2, slots := [(0, .d (spansD [s])), (3, .d (spansD [s])), (4, .d (int 1))], own := [] })
    (fun k => k ≤ 1) (fun k => 1 - k) 0 (by simp) (by simp (decide := true) [int]) ?_
  intro k hk
  cases k with
  | zero =>
    simp (decide := true) [int, spansD, Sp.row]
    refine ECall.pure (by rfl) (rightR_ok _ _) (by simp [int]) ?_
    simp (decide := true) [int, hs, Sp.row]
    refine ecall_frz (by rfl) (insertNil_ok s) (by simp) ?_
    simp (decide := true) [int, I64]
    exact ⟨1, by simp, by simp, by simp (decide := true) [int, Sp.row, spansD]⟩
  | succ j =>
    simp (decide := true) [int, spansD, Sp.row]
theorem minus_ok (s : Sp) (hs : s.rt = true) (b : List Sp) (hb : b.length < 2^62) : PureR Tryz.prog 113 [spansD [s], spansD b] (spansD (minusS [s] b)) := by
  refine pure_of_body mixed Tryz.func113 rfl call_113 ?_
  simp (decide := true) [Tryz.f113, int]
  refine ECall.pure (by rfl) (union1_ok s hs) (by simp) ?_
  simp (decide := true) [int]
  refine loop_rule mixed (fun k : Nat => { n := 27, next := 1, slots := [(1, .d (spansD b)), (5, .d (spansD (minusS [s] (b.take k)))), (6, .d (int k))], own := [] })
    (fun k => k ≤ b.length) (fun k => b.length - k) 0 (by simp) (by simp (decide := true) [int, minusS]) ?_
  intro k hk
  by_cases hlt : k < b.length
  · have hlt' : (k : Int) < b.length := by omega
    obtain ⟨y, ey'⟩ : ∃ y, b[k] = y := ⟨_, rfl⟩
    have ey : b[k]? = some y := by rw [List.getElem?_eq_getElem hlt, ey']
    have hsn := minus_snoc (a := [s]) hlt
    rw [ey'] at hsn
    have hml := minus_len hs (b.take k)
    generalize minusS [s] (b.take k) = W at hml hsn ⊢
    simp (decide := true) [int, spansD, Sp.row, hlt, hlt', ey, ey']
    refine ECall.pure (by rfl) (rightR_ok _ _) (by simp [int]) ?_
    by_cases r1 : rightS y.fr y.tO = true
    · rw [if_pos r1] at hsn
      simp (decide := true) [int, spansD, Sp.row, r1, hlt, hlt', ey, ey']
      refine ECall.pure (by rfl) (without_ok W y (by omega)) (by simp [spansD, Sp.row, int]) ?_
      simp (decide := true) [int, spansD, I64]
      exact ⟨by omega, k + 1, hlt, by omega, by rw [hsn], by omega⟩
    · rw [if_neg r1] at hsn
      simp (decide := true) [int, spansD, Sp.row, r1, I64]
      exact ⟨by omega, k + 1, hlt, by omega, by rw [hsn], by omega⟩
  · have : k = b.length := by omega
    subst this
    rw [List.take_length]
    simp (decide := true) [int, spansD, Sp.row]
theorem covers_ok (l : List Sp) (s : Sp) (hl : l.length < 2^62) : PureR Tryz.prog 92 [spansD l, .agg s.row] (.bool (coversS l s)) := by
  refine pure_of_body mixed Tryz.func92 rfl call_92 ?_
  simp (decide := true) [Tryz.f92, int, Sp.row]
  refine ECall.pure (by rfl) (rightR_ok _ _) (by simp [int]) ?_
  by_cases r1 : rightS s.fr s.tO = true
  case neg => simp (decide := true) [int, r1, coversS]
  simp (decide := true) [int, r1]
  refine ecall_frz (by rfl) (minus_ok s r1 l hl) (by simp) ?_
  simp (decide := true) [int, spansD]
  cases hm : minusS [s] l with
  | nil => simp (decide := true) [coversS, r1, hm]
  | cons y r =>
    have : ¬ (r.length : Int) + 1 = 0 := by omega
    simp (decide := true) [coversS, r1, hm, this]
end Go.V
namespace Go.V
open Go Go.Proofs
def sibs (l : List Nt) (t p : Int) : List Nt := l.filter fun n => decide (n.tier = t) && decide (n.par = p)
theorem sibs_len (l : List Nt) (t p : Int) : (sibs l t p).length ≤ l.length := List.length_filter_le _ _
theorem siblings_ok (d : Dc) (t p : Int) (hl : d.notes.length < 2^40) : PureR Tryz.prog 89 [docD d, int t, int p] (notesD (sibs d.notes t p)) := by
  refine pure_of_body_frz mixed Tryz.func89 rfl call_89 [2] ?_
  simp (decide := true) [Tryz.f89, docD, Dc.row, int, ints, tiersD]
  refine loop_rule mixed (fun k : Nat => { n := 44, next := 3, slots := [(1, .d (int t)), (2, .d (int p)), (3, .bp 0 0), (7, .ar 2), (8, .d (.int .i64 k))], own := [(0, .box 28 (docCells d)), (2, .arr 45 7 ((sibs (d.notes.take k) t p).map Nt.row))], moved := [2] })
    (fun k => k ≤ d.notes.length) (fun k => d.notes.length - k) 0 (by simp) (by simp (decide := true) [int, ints, tiersD, notesD, sibs]) ?_
  intro k hk
  by_cases hlt : k < d.notes.length
  · have hlt' : (k : Int) < d.notes.length := by omega
    obtain ⟨n, en'⟩ : ∃ n, d.notes[k] = n := ⟨_, rfl⟩
    have en : d.notes[k]? = some n := by rw [List.getElem?_eq_getElem hlt, en']
    have hsn : sibs (d.notes.take (k + 1)) t p = sibs (d.notes.take k) t p ++ (if n.tier = t ∧ n.par = p then [n] else []) := by
      rw [take_snoc' hlt]; unfold sibs; rw [List.filter_append, en']
      by_cases h1 : n.tier = t <;> by_cases h2 : n.par = p <;> simp [h1, h2]
    have hlen := sibs_len (d.notes.take k) t p
    have hwk : (d.notes.take k).length = k := by rw [List.length_take]; omega
    rw [hwk] at hlen
    generalize sibs (d.notes.take k) t p = W at hsn hlen ⊢
    by_cases h1 : n.tier = t
    · by_cases h2 : n.par = p
      · rw [if_pos ⟨h1, h2⟩] at hsn
        simp (decide := true) [notesD, Nt.row, int, hlt, hlt', en, en', I64, h1, h2]
        refine ⟨by omega, by unfold maxLen; omega, by omega, k + 1, hlt, by omega, by omega, ?_⟩
        rw [hsn]; simp [Nt.row, int, h1, h2]
      · rw [if_neg (fun h => h2 h.2), List.append_nil] at hsn
        simp (decide := true) [notesD, Nt.row, int, hlt, hlt', en, en', I64, h1, h2]
        exact ⟨by omega, k + 1, hlt, by omega, by omega, by rw [hsn]⟩
    · rw [if_neg (fun h => h1 h.1), List.append_nil] at hsn
      simp (decide := true) [notesD, Nt.row, int, hlt, hlt', en, en', I64, h1]
      exact ⟨by omega, k + 1, hlt, by omega, by omega, by rw [hsn]⟩
  · have : k = d.notes.length := by omega
    subst this
    rw [List.take_length]
    simp (decide := true) [notesD, int]
def spansOf (l : List Nt) : List Sp := l.map fun n => ⟨n.fr, n.tO⟩
theorem spans_ok (l : List Nt) (hl : l.length < 2^40) : PureR Tryz.prog 93 [notesD l] (spansD (spansOf l)) := by
  refine pure_of_body_frz mixed Tryz.func93 rfl call_93 [1] ?_
  simp (decide := true) [Tryz.f93, int]
  refine loop_rule mixed (fun k : Nat => { n := 21, next := 2, slots := [(0, .d (notesD l)), (3, .ar 1), (4, .d (.int .i64 k))], own := [(1, .arr 43 2 ((spansOf (l.take k)).map Sp.row))], moved := [1] })
    (fun k => k ≤ l.length) (fun k => l.length - k) 0 (by simp) (by simp (decide := true) [int, notesD, spansOf]) ?_
  intro k hk
  by_cases hlt : k < l.length
  · have hlt' : (k : Int) < l.length := by omega
    obtain ⟨n, en'⟩ : ∃ n, l[k] = n := ⟨_, rfl⟩
    have en : l[k]? = some n := by rw [List.getElem?_eq_getElem hlt, en']
    have hsn : spansOf (l.take (k + 1)) = spansOf (l.take k) ++ [⟨n.fr, n.tO⟩] := by
      rw [take_snoc' hlt]; unfold spansOf; rw [List.map_append, en']; rfl
    have hlen : (spansOf (l.take k)).length = k := by unfold spansOf; rw [List.length_map, List.length_take]; omega
    generalize spansOf (l.take k) = W at hsn hlen ⊢
    simp (decide := true) [notesD, Nt.row, int, hlt, hlt', en, en', I64]
    refine ⟨by omega, by unfold maxLen; omega, by omega, k + 1, hlt, by omega, by omega, ?_⟩
    rw [hsn]; simp [Sp.row, int]
  · have : k = l.length := by omega
    subst this
    rw [List.take_length]
    simp (decide := true) [notesD, spansD, int]
def meetP (l : List Nt) (i k : Nat) : Bool := decide ((l[i]?.getD default).fr < (l[k]?.getD default).tO) && decide ((l[k]?.getD default).fr < (l[i]?.getD default).tO)
def overP (l : List Nt) : Bool := (List.range l.length).any fun i => (List.range i).any fun k => meetP l i k
theorem overP_false {l : List Nt} : overP l = false ↔ ∀ i, i < l.length → ∀ k, k < i → meetP l i k = false := by
  unfold overP
  rw [List.any_eq_false]
  refine ⟨fun h i hi k hk => ?_, fun h i hi => ?_⟩
  · have := h i (List.mem_range.2 hi)
    rw [Bool.not_eq_true, List.any_eq_false] at this
    simpa using this k (List.mem_range.2 hk)
  · rw [Bool.not_eq_true, List.any_eq_false]
    intro k hk
    simpa using h i (List.mem_range.1 hi) k (List.mem_range.1 hk)
theorem overP_true {l : List Nt} {i k : Nat} (hi : i < l.length) (hk : k < i) (h : meetP l i k = true) : overP l = true := by
  cases e : overP l with
  | true => rfl
  | false => rw [overP_false] at e; rw [e i hi k hk] at h; cases h
set_option maxHeartbeats 1000000 in
theorem overlap_ok (l : List Nt) (hl : l.length < 2^40) : PureR Tryz.prog 91 [notesD l] (.bool (overP l)) := by
  refine pure_of_body mixed Tryz.func91 rfl call_91 ?_
  simp (decide := true) [Tryz.f91, int]
  refine loop_rule mixed (fun i : Nat => { n := 44, next := 0, slots := [(0, .d (notesD l)), (3, .d (.int .i64 i))], own := [] })
    (fun i => i ≤ l.length ∧ ∀ j, j < i → ∀ k, k < j → meetP l j k = false) (fun i => l.length - i) 0 (by simp) (by simp (decide := true) [int, notesD]) ?_
  rintro i ⟨hi, hp⟩
  by_cases hlt : i < l.length
  · have hlt' : (i : Int) < l.length := by omega
    obtain ⟨n, en'⟩ : ∃ n, l[i] = n := ⟨_, rfl⟩
    have en : l[i]? = some n := by rw [List.getElem?_eq_getElem hlt, en']
    simp (decide := true) [notesD, int, hlt']
    refine loop_rule mixed (fun k : Nat => { n := 44, next := 0, slots := [(0, .d (notesD l)), (3, .d (.int .i64 i)), (4, .d (.int .i64 k))], own := [] })
      (fun k => k ≤ i ∧ ∀ j, j < k → meetP l i j = false) (fun k => i - k) 0 (by simp) (by simp (decide := true) [int, notesD]) ?_
    rintro k ⟨hk, hq⟩
    by_cases hki : k < i
    · have hki' : (k : Int) < i := by omega
      have hkl : k < l.length := by omega
      have hkl' : (k : Int) < l.length := by omega
      obtain ⟨m, em'⟩ : ∃ m, l[k] = m := ⟨_, rfl⟩
      have em : l[k]? = some m := by rw [List.getElem?_eq_getElem hkl, em']
      have hM : meetP l i k = (decide (n.fr < m.tO) && decide (m.fr < n.tO)) := by simp only [meetP, en, em, Option.getD_some]
      by_cases c1 : n.fr < m.tO
      · by_cases c2 : m.fr < n.tO
        · have := overP_true hlt hki (by rw [hM]; simp [c1, c2])
          simp (decide := true) [notesD, Nt.row, int, hlt, hlt', hki, hki', hkl, hkl', en, en', em, em', c1, c2, this]
        · simp (decide := true) [notesD, Nt.row, int, hlt, hlt', hki, hki', hkl, hkl', en, en', em, em', c1, c2, I64]
          refine ⟨by omega, k + 1, ⟨by omega, fun j hj => ?_⟩, by omega, by omega⟩
          rcases Nat.lt_or_ge j k with h | h
          · exact hq j h
          · have : j = k := by omega
            subst this; rw [hM]; simp [c2]
      · simp (decide := true) [notesD, Nt.row, int, hlt, hlt', hki, hki', hkl, hkl', en, en', em, em', c1, I64]
        refine ⟨by omega, k + 1, ⟨by omega, fun j hj => ?_⟩, by omega, by omega⟩
        rcases Nat.lt_or_ge j k with h | h
        · exact hq j h
        · have : j = k := by omega
          subst this; rw [hM]; simp [c1]
    · have : k = i := by omega
      subst this
      simp (decide := true) [notesD, int, I64]
      refine ⟨by omega, k + 1, ⟨by omega, fun j hj => ?_⟩, by omega, by omega⟩
      rcases Nat.lt_or_ge j k with h | h
      · exact hp j h
      · have : j = k := by omega
        subst this; exact hq
  · have : i = l.length := by omega
    subst this
    simp (decide := true) [notesD, int, overP_false.2 hp]
def rankP (l : List Nt) : Bool := (List.range l.length).all fun n => l.any fun m => decide (m.rank = n)
theorem rankP_true {l : List Nt} : rankP l = true ↔ ∀ n : Nat, n < l.length → (l.any fun m => decide (m.rank = n)) = true := by
  unfold rankP
  rw [List.all_eq_true]
  exact ⟨fun h n hn => h n (List.mem_range.2 hn), fun h n hn => h n (List.mem_range.1 hn)⟩
set_option maxHeartbeats 1000000 in
theorem ranked_ok (l : List Nt) (hl : l.length < 2^40) : PureR Tryz.prog 94 [notesD l] (.bool (rankP l)) := by
  refine pure_of_body mixed Tryz.func94 rfl call_94 ?_
  simp (decide := true) [Tryz.f94, int]
  refine loop_rule mixed (fun i : Nat => { n := 30, next := 0, slots := [(0, .d (notesD l)), (3, .d (.int .i64 i))], own := [] })
    (fun i => i ≤ l.length ∧ ∀ n : Nat, n < i → (l.any fun m => decide (m.rank = n)) = true) (fun i => l.length - i) 0 (by simp) (by simp (decide := true) [int, notesD]) ?_
  rintro i ⟨hi, hp⟩
  by_cases hlt : i < l.length
  · have hlt' : (i : Int) < l.length := by omega
    simp (decide := true) [notesD, int, hlt']
    refine loop_rule mixed (fun k : Nat => { n := 30, next := 0, slots := [(0, .d (notesD l)), (3, .d (.int .i64 i)), (4, .d (.bool ((l.take k).any fun m => decide (m.rank = i)))), (5, .d (.int .i64 k))], own := [] })
      (fun k => k ≤ l.length) (fun k => l.length - k) 0 (by simp) (by simp (decide := true) [int, notesD]) ?_
    intro k hk
    by_cases hkl : k < l.length
    · have hkl' : (k : Int) < l.length := by omega
      obtain ⟨m, em'⟩ : ∃ m, l[k] = m := ⟨_, rfl⟩
      have em : l[k]? = some m := by rw [List.getElem?_eq_getElem hkl, em']
      have hsn : ((l.take (k + 1)).any fun m => decide (m.rank = i)) = (((l.take k).any fun m => decide (m.rank = i)) || decide (m.rank = i)) := by rw [any_take hkl, em']
      cases hb : (l.take k).any fun m => decide (m.rank = i)
      · rw [hb, Bool.false_or] at hsn
        by_cases c1 : m.rank = i
        · rw [decide_eq_true c1] at hsn
          simp (decide := true) [notesD, Nt.row, int, hkl, hkl', em, em', c1, I64]
          exact ⟨by omega, k + 1, hkl, by omega, by simpa using hsn, by omega⟩
        · rw [decide_eq_false c1] at hsn
          simp (decide := true) [notesD, Nt.row, int, hkl, hkl', em, em', c1, I64]
          exact ⟨by omega, k + 1, hkl, by omega, by simpa using hsn, by omega⟩
      · rw [hb, Bool.true_or] at hsn
        simp (decide := true) [notesD, Nt.row, int, hkl, hkl', I64]
        exact ⟨by omega, k + 1, hkl, by omega, by simpa using hsn, by omega⟩
    · have : k = l.length := by omega
      subst this
      rw [List.take_length]
      cases hb : l.any fun m => decide (m.rank = i)
      · have : rankP l = false := by
          cases e : rankP l with
          | false => rfl
          | true => rw [rankP_true] at e; rw [e i hlt] at hb; cases hb
        simp (decide := true) [notesD, int, this]
      · simp (decide := true) [notesD, int, I64]
        refine ⟨by omega, i + 1, ⟨by omega, fun j hj => ?_⟩, by omega, by omega⟩
        rcases Nat.lt_or_ge j i with h | h
        · simpa using hp j h
        · have : j = i := by omega
          subst this; simpa using hb
  · have : i = l.length := by omega
    subst this
    simp (decide := true) [notesD, int, rankP_true.2 hp]
end Go.V
namespace Go.V
open Go Go.Proofs
def terStep (d : Dc) (t kind : Int) (n : Nt) (out : Int) : Int :=
  if kind = 1 then (if coversS (spansOf (sibs d.notes t n.par)) ⟨(getN d.notes n.par).1.fr, (getN d.notes n.par).1.tO⟩ = true then out else 16)
  else if kind = 3 then (if rankP (sibs d.notes t n.par) = true then out else 10)
  else if kind = 4 then (if 1 < (sibs d.notes t n.par).length then 8 else out) else out
def terGo (d : Dc) (t kind : Int) : List Nt → Int → Int
  | [], out => out
  | n :: r, out => if n.tier = t then (if alK kind = true ∧ overP (sibs d.notes t n.par) = true then 15 else terGo d t kind r (terStep d t kind n out)) else terGo d t kind r out
def terE (d : Dc) (t : Int) : Int := terGo d t (tirAt d t).kind d.notes 0
set_option maxHeartbeats 2000000 in
theorem tierError_ok (d : Dc) (t : Nat) (ht : t < d.tiers.length) (hl : d.notes.length < 2^40) : PureR Tryz.prog 71 [docD d, int t] (int (terE d t)) := by
  refine pure_of_body mixed Tryz.func71 rfl call_71 ?_
  have ht' : (t : Int) < d.tiers.length := by omega
  obtain ⟨tt, et'⟩ : ∃ tt, d.tiers[t] = tt := ⟨_, rfl⟩
  have et : d.tiers[t]? = some tt := by rw [List.getElem?_eq_getElem ht, et']
  have htt : (tirAt d (t : Int)) = tt := by simp [tirAt, et]
  unfold terE
  rw [htt]
  obtain ⟨tn, kd, tr, tp⟩ := tt
  simp (decide := true) [Tryz.f71, docD, Dc.row, int, ints, tiersD, Tir.row, ht, ht', et, et']
  refine loop_rule mixed (fun x : Nat × Int => { n := 77, next := 1, slots := [(1, .d (int t)), (2, .bp 0 0), (5, .d (int kd)), (6, .d (int x.2)), (7, .d (.int .i64 x.1))], own := [(0, .box 28 (docCells d))] })
    (fun x => x.1 ≤ d.notes.length ∧ terGo d t kd d.notes 0 = terGo d t kd (d.notes.drop x.1) x.2) (fun x => d.notes.length - x.1) (0, 0) (by simp) (by simp (decide := true) [int, ints, tiersD, notesD]) ?_
  rintro ⟨k, out⟩ ⟨hk, hg⟩
  simp only at hk hg
  by_cases hlt : k < d.notes.length
  case neg =>
    have : k = d.notes.length := by omega
    subst this
    rw [List.drop_length] at hg
    simp (decide := true) [int, notesD, hg, terGo]
  have hlt' : (k : Int) < d.notes.length := by omega
  obtain ⟨n, en'⟩ : ∃ n, d.notes[k] = n := ⟨_, rfl⟩
  have en : d.notes[k]? = some n := by rw [List.getElem?_eq_getElem hlt, en']
  rw [List.drop_eq_getElem_cons hlt, en'] at hg
  simp only [terGo] at hg
  by_cases h1 : n.tier = t
  case neg =>
    rw [if_neg h1] at hg
    simp (decide := true) [int, notesD, Nt.row, hlt, hlt', en, en', h1, I64]
    exact ⟨by omega, k + 1, out, ⟨hlt, hg⟩, by omega, by omega⟩
  rw [if_pos h1] at hg
  simp (decide := true) [int, notesD, Nt.row, hlt, hlt', en, en', h1]
  have hsl := sibs_len d.notes t n.par
  refine ECall.pure (by rfl) (siblings_ok d t n.par hl) (by simp (decide := true) [docD, Dc.row, int, ints, tiersD, notesD]) ?_
  generalize hS : sibs d.notes t n.par = S at hg hsl ⊢
  simp (decide := true) [int]
  refine ECall.pure (by rfl) (alR_ok kd) (by simp [int]) ?_
  have fin : ∀ out', terStep d t kd n out = out' → (alK kd = true → overP S = false) → terGo d t kd d.notes 0 = terGo d t kd (d.notes.drop (k + 1)) out' := by
    intro out' e h
    rw [if_neg (by rintro ⟨a, b⟩; rw [h a] at b; cases b), e] at hg
    exact hg
  have hov : alK kd = true → overP S = true → terGo d t kd d.notes 0 = 15 := by
    intro a b; rw [if_pos ⟨a, b⟩] at hg; exact hg
  have hst : terStep d t kd n out = if kd = 1 then (if coversS (spansOf S) ⟨(getN d.notes n.par).1.fr, (getN d.notes n.par).1.tO⟩ = true then out else 16)
    else if kd = 3 then (if rankP S = true then out else 10) else if kd = 4 then (if 1 < S.length then 8 else out) else out := by
    simp only [terStep, hS]
  clear hg
  generalize hT : terGo d t kd d.notes 0 = TT at fin hov ⊢
  by_cases k0 : kd = 0
  · subst k0
    have ha : alK 0 = true := rfl
    simp (decide := true) [int, ha]
    refine ECall.pure (by rfl) (overlap_ok S (by omega)) (by simp [notesD, Nt.row, int]) ?_
    cases hO : overP S with
    | true => simp (decide := true) [int, hov ha hO]
    | false =>
      have HO : alK 0 = true → overP S = false := fun _ => hO
      simp (decide := true) [int, notesD, Nt.row]
      refine ECall.pure (by rfl) (refGet_ok d n.par (by omega)) (by simp (decide := true) [docD, Dc.row, int, ints, tiersD, notesD]) ?_
      obtain ⟨⟨p, ok⟩, eg⟩ : ∃ g, getN d.notes n.par = g := ⟨_, rfl⟩
      rw [eg] at hst ⊢
      obtain ⟨pi, pt, pp, pf, pto, prr, px⟩ := p
      simp only [getD', Nt.row] at hst ⊢
      simp at hst
      simp (decide := true) [int, notesD, Nt.row, I64, ha]
      exact ⟨by omega, k + 1, out, ⟨hlt, fin _ hst HO⟩, by omega, by omega⟩
  by_cases k1 : kd = 1
  · subst k1
    have ha : alK 1 = true := rfl
    simp (decide := true) [int, ha]
    refine ECall.pure (by rfl) (overlap_ok S (by omega)) (by simp [notesD, Nt.row, int]) ?_
    cases hO : overP S with
    | true => simp (decide := true) [int, hov ha hO]
    | false =>
      have HO : alK 1 = true → overP S = false := fun _ => hO
      simp (decide := true) [int, notesD, Nt.row]
      refine ECall.pure (by rfl) (refGet_ok d n.par (by omega)) (by simp (decide := true) [docD, Dc.row, int, ints, tiersD, notesD]) ?_
      obtain ⟨⟨p, ok⟩, eg⟩ : ∃ g, getN d.notes n.par = g := ⟨_, rfl⟩
      rw [eg] at hst ⊢
      obtain ⟨pi, pt, pp, pf, pto, prr, px⟩ := p
      simp only [getD', Nt.row] at hst ⊢
      simp (decide := true) [int, notesD, Nt.row, I64, ha]
      refine scall_pure (by rfl) (by rfl) (spans_ok S (by omega)) (by simp [notesD, Nt.row, int]) ?_
      simp (decide := true) [int, notesD, Nt.row, I64, ha]
      refine scall_pure (by rfl) (by rfl) (covers_ok (spansOf S) ⟨pf, pto⟩ (by unfold spansOf; rw [List.length_map]; omega)) (by simp [Sp.row, int]) ?_
      by_cases hc : coversS (spansOf S) ⟨pf, pto⟩ = true
      · simp [hc] at hst
        simp (decide := true) [int, notesD, Nt.row, I64, ha, hc]
        exact ⟨by omega, k + 1, out, ⟨hlt, fin _ hst HO⟩, by omega, by omega⟩
      · simp [hc] at hst
        simp (decide := true) [int, notesD, Nt.row, I64, ha, hc]
        exact ⟨by omega, k + 1, 16, ⟨hlt, fin _ hst HO⟩, by omega, by omega⟩
  by_cases k2 : kd = 2
  · subst k2
    have ha : alK 2 = true := rfl
    simp (decide := true) [int, ha]
    refine ECall.pure (by rfl) (overlap_ok S (by omega)) (by simp [notesD, Nt.row, int]) ?_
    cases hO : overP S with
    | true => simp (decide := true) [int, hov ha hO]
    | false =>
      have HO : alK 2 = true → overP S = false := fun _ => hO
      simp (decide := true) [int, notesD, Nt.row]
      refine ECall.pure (by rfl) (refGet_ok d n.par (by omega)) (by simp (decide := true) [docD, Dc.row, int, ints, tiersD, notesD]) ?_
      obtain ⟨⟨p, ok⟩, eg⟩ : ∃ g, getN d.notes n.par = g := ⟨_, rfl⟩
      rw [eg] at hst ⊢
      obtain ⟨pi, pt, pp, pf, pto, prr, px⟩ := p
      simp only [getD', Nt.row] at hst ⊢
      simp at hst
      simp (decide := true) [int, notesD, Nt.row, I64, ha]
      exact ⟨by omega, k + 1, out, ⟨hlt, fin _ hst HO⟩, by omega, by omega⟩
  by_cases k3 : kd = 3
  · subst k3
    have ha : alK 3 = false := rfl
    have HO : alK 3 = true → overP S = false := fun h => by rw [ha] at h; cases h
    simp (decide := true) [int, ha, notesD, Nt.row]
    refine ECall.pure (by rfl) (refGet_ok d n.par (by omega)) (by simp (decide := true) [docD, Dc.row, int, ints, tiersD, notesD]) ?_
    obtain ⟨⟨p, ok⟩, eg⟩ : ∃ g, getN d.notes n.par = g := ⟨_, rfl⟩
    rw [eg] at hst ⊢
    obtain ⟨pi, pt, pp, pf, pto, prr, px⟩ := p
    simp only [getD', Nt.row] at hst ⊢
    simp (decide := true) [int, notesD, Nt.row, I64, ha]
    refine ECall.pure (by rfl) (ranked_ok S (by omega)) (by simp [notesD, Nt.row, int]) ?_
    by_cases hc : rankP S = true
    · simp [hc] at hst
      simp (decide := true) [int, notesD, Nt.row, I64, ha, hc]
      exact ⟨by omega, k + 1, out, ⟨hlt, fin _ hst HO⟩, by omega, by omega⟩
    · simp [hc] at hst
      simp (decide := true) [int, notesD, Nt.row, I64, ha, hc]
      exact ⟨by omega, k + 1, 10, ⟨hlt, fin _ hst HO⟩, by omega, by omega⟩
  by_cases k4 : kd = 4
  · subst k4
    have ha : alK 4 = false := rfl
    have HO : alK 4 = true → overP S = false := fun h => by rw [ha] at h; cases h
    simp (decide := true) [int, ha, notesD, Nt.row]
    refine ECall.pure (by rfl) (refGet_ok d n.par (by omega)) (by simp (decide := true) [docD, Dc.row, int, ints, tiersD, notesD]) ?_
    obtain ⟨⟨p, ok⟩, eg⟩ : ∃ g, getN d.notes n.par = g := ⟨_, rfl⟩
    rw [eg] at hst ⊢
    obtain ⟨pi, pt, pp, pf, pto, prr, px⟩ := p
    simp only [getD', Nt.row] at hst ⊢
    by_cases hc : 1 < S.length
    · have hc' : (1 : Int) < S.length := by omega
      simp [hc] at hst
      simp (decide := true) [int, notesD, Nt.row, I64, ha, hc, hc']
      exact ⟨by omega, k + 1, 8, ⟨hlt, fin _ hst HO⟩, by omega, by omega⟩
    · have hc' : ¬ (1 : Int) < S.length := by omega
      simp [hc] at hst
      simp (decide := true) [int, notesD, Nt.row, I64, ha, hc, hc']
      exact ⟨by omega, k + 1, out, ⟨hlt, fin _ hst HO⟩, by omega, by omega⟩
  have ha : alK kd = false := by simp [alK, k0, k1, k2]
  have HO : alK kd = true → overP S = false := fun h => by rw [ha] at h; cases h
  simp (decide := true) [int, ha, notesD, Nt.row]
  refine ECall.pure (by rfl) (refGet_ok d n.par (by omega)) (by simp (decide := true) [docD, Dc.row, int, ints, tiersD, notesD]) ?_
  obtain ⟨⟨p, ok⟩, eg⟩ : ∃ g, getN d.notes n.par = g := ⟨_, rfl⟩
  rw [eg] at hst ⊢
  obtain ⟨pi, pt, pp, pf, pto, prr, px⟩ := p
  simp only [getD', Nt.row] at hst ⊢
  simp [k1, k3, k4] at hst
  simp (decide := true) [int, notesD, Nt.row, I64, ha, k1, k3, k4]
  exact ⟨by omega, k + 1, out, ⟨hlt, fin _ hst HO⟩, by omega, by omega⟩
def terGos (d : Dc) : Nat → Nat → Int
  | 0, _ => 0
  | m + 1, i => if i < d.tiers.length then (if terE d i = 0 then terGos d m (i + 1) else terE d i) else 0
def refE (d : Dc) : Int :=
  if tiersE d.tiers ≠ 0 then tiersE d.tiers else if d.len < 0 ∨ 86400000 < d.len then 12 else if 300 < d.notes.length then 11
  else if notesGo d d.notes.length 0 ≠ 0 then notesGo d d.notes.length 0 else terGos d d.tiers.length 0
end Go.V
namespace Go.V
open Go Go.Proofs
set_option maxHeartbeats 1000000 in
theorem refCheck_ok (d : Dc) (ht : d.tiers.length < 2^40) (hn : d.notes.length < 2^40) (hs : ∀ t ∈ d.tiers, t.name.size ≤ 9223372036854775807) (hx : ∀ n ∈ d.notes, n.text.size ≤ 9223372036854775807) :
    PureR Tryz.prog 32 [docD d] (int (refE d)) := by
  refine pure_of_body mixed Tryz.func32 rfl call_32 ?_
  simp (decide := true) [Tryz.f32, docD, Dc.row]
  refine ECall.pure (by rfl) (refTiers_ok d.tiers (by omega) hs) (by simp) ?_
  by_cases h1 : tiersE d.tiers = 0
  case neg => simp (decide := true) [int, h1, refE]
  by_cases h2 : d.len < 0
  · simp (decide := true) [int, h1, h2, refE]
  by_cases h3 : 86400000 < d.len
  · simp (decide := true) [int, h1, h2, h3, refE]
  by_cases h4 : 300 < d.notes.length
  · have h4' : (300 : Int) < d.notes.length := by omega
    simp (decide := true) [int, h1, h2, h3, h4, h4', refE, notesD]
  have h4' : ¬ (300 : Int) < d.notes.length := by omega
  have hE : refE d = if notesGo d d.notes.length 0 = 0 then terGos d d.tiers.length 0 else notesGo d d.notes.length 0 := by
    simp only [refE]
    rw [if_neg (by simpa using h1), if_neg (by omega), if_neg h4]
    by_cases h : notesGo d d.notes.length 0 = 0 <;> simp [h]
  rw [hE]
  simp (decide := true) [int, h1, h2, h3, h4', notesD]
  refine loop_rule mixed (fun i : Nat => { n := 54, next := 1, slots := [(1, .bp 0 0), (4, .d (.int .i64 i))], own := [(0, .box 28 (docCells d))] })
    (fun i => i ≤ d.notes.length ∧ notesGo d d.notes.length 0 = notesGo d (d.notes.length - i) i) (fun i => d.notes.length - i) 0 (by simp) (by simp (decide := true) [int, notesD, tiersD, ints]) ?_
  rintro i ⟨hi, hg⟩
  by_cases hlt : i < d.notes.length
  · obtain ⟨m, hm⟩ : ∃ m, d.notes.length - i = m + 1 := ⟨d.notes.length - i - 1, by omega⟩
    have hm' : d.notes.length - (i + 1) = m := by omega
    rw [hm, notesGo_IE, if_pos hlt] at hg
    have hlt' : (i : Int) < d.notes.length := by omega
    simp (decide := true) [int, notesD, hlt']
    refine ECall.pure (by rfl) (noteError_ok d i hlt (by omega) (by omega) hx) (by simp (decide := true) [docD, Dc.row, int, ints, tiersD, notesD]) ?_
    by_cases hz : noteIE d i = 0
    · rw [if_pos hz] at hg
      simp (decide := true) [int, hz, I64]
      exact ⟨by omega, i + 1, ⟨by omega, by rw [hg, hm']⟩, by omega, by simp [notesD]⟩
    · rw [if_neg hz] at hg
      simp (decide := true) [int, hz, hg]
  · have : i = d.notes.length := by omega
    subst this
    rw [Nat.sub_self] at hg
    rw [hg]
    simp (decide := true) [int, notesGo, tiersD, notesD]
    refine loop_rule mixed (fun i : Nat => { n := 54, next := 1, slots := [(1, .bp 0 0), (6, .d (.int .i64 i))], own := [(0, .box 28 (docCells d))] })
      (fun i => i ≤ d.tiers.length ∧ terGos d d.tiers.length 0 = terGos d (d.tiers.length - i) i) (fun i => d.tiers.length - i) 0 (by simp) (by simp (decide := true) [int, notesD, tiersD, ints]) ?_
    rintro i ⟨hi, hg⟩
    by_cases hlt : i < d.tiers.length
    · have hlt' : (i : Int) < d.tiers.length := by omega
      obtain ⟨m, hm⟩ : ∃ m, d.tiers.length - i = m + 1 := ⟨d.tiers.length - i - 1, by omega⟩
      have hm' : d.tiers.length - (i + 1) = m := by omega
      rw [hm] at hg
      simp only [terGos, if_pos hlt] at hg
      simp (decide := true) [int, tiersD, hlt']
      refine ECall.pure (by rfl) (tierError_ok d i hlt (by omega)) (by simp (decide := true) [docD, Dc.row, int, ints, tiersD, notesD]) ?_
      by_cases hz : terE d i = 0
      · rw [if_pos hz] at hg
        simp (decide := true) [int, hz, I64]
        exact ⟨by omega, i + 1, ⟨by omega, by rw [hg, hm']⟩, by omega, by simp [tiersD]⟩
      · rw [if_neg hz] at hg
        simp (decide := true) [int, hz, hg]
    · have : i = d.tiers.length := by omega
      subst this
      rw [Nat.sub_self] at hg
      simp (decide := true) [int, tiersD, hg, terGos]
def lightP (d : Dc) : Bool := decide (d.notes.length ≤ 14) && decide (d.tiers.length ≤ 6) && decide (d.spk.length ≤ 6) && decide (refE d = 0)
theorem light_ok (d : Dc) (hs : ∀ t ∈ d.tiers, t.name.size ≤ 9223372036854775807) (hx : ∀ n ∈ d.notes, n.text.size ≤ 9223372036854775807) :
    PureR Tryz.prog 33 [docD d] (.bool (lightP d)) := by
  refine pure_of_body mixed Tryz.func33 rfl call_33 ?_
  by_cases h1 : d.notes.length ≤ 14
  case neg =>
    have g1 : ¬ (d.notes.length : Int) ≤ 14 := by omega
    simp (decide := true) [Tryz.f33, docD, Dc.row, notesD, tiersD, ints, int, lightP, h1, g1]
  have g1 : (d.notes.length : Int) ≤ 14 := by omega
  by_cases h2 : d.tiers.length ≤ 6
  case neg =>
    have g2 : ¬ (d.tiers.length : Int) ≤ 6 := by omega
    simp (decide := true) [Tryz.f33, docD, Dc.row, notesD, tiersD, ints, int, lightP, h1, g1, h2, g2]
  have g2 : (d.tiers.length : Int) ≤ 6 := by omega
  by_cases h3 : d.spk.length ≤ 6
  case neg =>
    have g3 : ¬ (d.spk.length : Int) ≤ 6 := by omega
    simp (decide := true) [Tryz.f33, docD, Dc.row, notesD, tiersD, ints, int, lightP, h1, g1, h2, g2, h3, g3]
  have g3 : (d.spk.length : Int) ≤ 6 := by omega
  simp (decide := true) [Tryz.f33, docD, Dc.row, notesD, tiersD, ints, int, g1, g2, g3]
  refine ECall.pure (by rfl) (refCheck_ok d (by omega) (by omega) hs hx) (by simp (decide := true) [docD, Dc.row, int, ints, tiersD, notesD]) ?_
  by_cases hz : refE d = 0
  · simp (decide := true) [int, hz, lightP, h1, h2, h3]
  · simp (decide := true) [int, hz, lightP, h1, h2, h3]
end Go.V

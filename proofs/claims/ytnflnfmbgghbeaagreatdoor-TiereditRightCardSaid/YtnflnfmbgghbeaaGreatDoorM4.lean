/- Contracts and plain laws of this seat: part M4. It needs no conditions. -/
import Derived.Test.YtnflnfmbgghbeaaGreatDoorM3
import Derived.Test.YtnflnfmbgghbeaaGreatDoorM2
import Derived.Test.YtnflnfmbgghbeaaGreatDoorSq
set_option linter.unusedVariables false
set_option linter.unusedSimpArgs false
set_option linter.unusedSectionVars false
set_option maxRecDepth 100000
namespace Go.V
open Go Go.Proofs
def nmS (b : Nat) : Bool := decide (97 ≤ b) && decide (b ≤ 122)
def nmC (b : Nat) : Bool := nmS b || (decide (48 ≤ b) && decide (b ≤ 57)) || decide (b = 45) || decide (b = 95)
def nameP (s : ByteArray) : Bool := decide (1 ≤ s.size) && decide (s.size ≤ 32) && nmS (byteN s 0) && (List.range s.size).all fun k => nmC (byteN s k)
theorem strRows_len (s : ByteArray) : (strRows s).length = s.size := by unfold strRows; rw [List.length_map]; rfl
theorem strRows_get {s : ByteArray} {k : Nat} (h : k < s.size) : (strRows s)[k]? = some [.int .u8 (byteN s k : Int)] := by
  have hsz : s.size = s.data.toList.length := by rw [Array.length_toList]; rfl
  unfold strRows
  rw [List.getElem?_map, List.getElem?_eq_getElem (by omega)]
  simp [byteN, List.getD, List.getElem?_eq_getElem (show k < s.data.toList.length by omega)]
theorem nm_cases (b : Nat) : (97 ≤ b ∧ b ≤ 122) ∨ (48 ≤ b ∧ b ≤ 57) ∨ b = 45 ∨ b = 95 ∨ (b < 48 ∧ b ≠ 45) ∨ (57 < b ∧ b < 97 ∧ b ≠ 95) ∨ 122 < b := by omega
theorem name_len {s : ByteArray} (h : s.size = 0) : nameP s = false := by simp [nameP, h]
theorem name_ok (s : ByteArray) : PureR Tryz.prog 132 [.str s] (.bool (nameP s)) := by
  refine pure_of_body mixed Tryz.func132 rfl call_132 ?_
  by_cases h0 : s.size = 0
  · have hs : s = ⟨#[]⟩ := by
      cases s with | mk d => congr 1; exact Array.eq_empty_of_size_eq_zero h0
    subst hs
    simp (decide := true) [Tryz.f132, name_len h0]
  have hne : ¬ s = ⟨#[]⟩ := fun e => h0 (by rw [e]; rfl)
  by_cases h1 : 32 < s.size
  · have h1' : (32 : Int) < s.size := by omega
    have : nameP s = false := by simp [nameP]; omega
    simp (decide := true) [Tryz.f132, hne, h1', this]
  have h1' : ¬ (32 : Int) < s.size := by omega
  have hnl : ¬ s.toList = [] := fun e => h0 (by rw [ByteArray.toList_eq] at e; have := congrArg List.length e; rw [Array.length_toList] at this; exact this)
  have hps : 0 < s.size := by omega
  have e0 : byteAt s 0 = (byteN s 0 : Int) := byteAt_nat s 0
  have hz : (0 : Int) < s.size := by omega
  by_cases h2 : byteN s 0 < 97
  · have h2' : (byteN s 0 : Int) < 97 := by omega
    have : nameP s = false := by simp [nameP, nmS]; omega
    simp (decide := true) [Tryz.f132, hne, hnl, hps, h1', e0, hz, h2', this]
  have h2' : ¬ (byteN s 0 : Int) < 97 := by omega
  by_cases h3 : 122 < byteN s 0
  · have h3' : (122 : Int) < byteN s 0 := by omega
    have : nameP s = false := by simp [nameP, nmS]; omega
    simp (decide := true) [Tryz.f132, hne, hnl, hps, h1', e0, hz, h2', h3', this]
  have h3' : ¬ (122 : Int) < byteN s 0 := by omega
  have hP : nameP s = (List.range s.size).all fun k => nmC (byteN s k) := by
    have a1 : decide (1 ≤ s.size) = true := by simpa using (by omega : 1 ≤ s.size)
    have a2 : decide (s.size ≤ 32) = true := by simpa using (by omega : s.size ≤ 32)
    have a3 : nmS (byteN s 0) = true := by simp [nmS]; omega
    simp only [nameP, a1, a2, a3, Bool.true_and]
  rw [hP]
  simp (decide := true) [Tryz.f132, hne, hnl, hps, h1', e0, hz, h2', h3', eBytes, strRows_len]
  refine ⟨by unfold maxLen; omega, ?_⟩
  refine loop_rule mixed (fun k : Nat => { n := 52, next := 0, slots := [(23, .d (.sl (strRows s))), (24, .d (.int .i64 s.size)), (25, .d (.int .i64 k))], own := [] })
    (fun k => k ≤ s.size ∧ ∀ j, j < k → nmC (byteN s j) = true) (fun k => s.size - k) 0 (by simp) (by simp (decide := true) [int]) ?_
  intro k ⟨hk, hp⟩
  by_cases hlt : k < s.size
  · have hlt' : (k : Int) < s.size := by omega
    have hg := strRows_get hlt
    have hlen := strRows_len s
    have hg2 : (strRows s)[k]'(by rw [hlen]; exact hlt) = [.int .u8 (byteN s k : Int)] := by rw [List.getElem?_eq_getElem (by rw [hlen]; exact hlt)] at hg; simpa using hg
    have good : nmC (byteN s k) = true → ∀ j, j < k + 1 → nmC (byteN s j) = true := by
      intro hb j hj
      rcases Nat.lt_or_ge j k with hj' | hj'
      · exact hp j hj'
      · have : j = k := by omega
        subst this; exact hb
    have bad : nmC (byteN s k) = false → (List.range s.size).all (fun k => nmC (byteN s k)) = false := fun hb => by
      rw [List.all_eq_false]; exact ⟨k, by simpa using hlt, by simp [hb]⟩
    generalize byteN s k = b at hg hg2 good bad
    rcases nm_cases b with ⟨c1, c2⟩ | ⟨c1, c2⟩ | rfl | rfl | ⟨c1, c2⟩ | ⟨c1, c2, c3⟩ | c1
    · have q1 : ¬ (b : Int) < 97 := by omega
      have q2 : ¬ (122 : Int) < b := by omega
      simp (decide := true) [hlt, hlt', hg, hg2, hlen, q1, q2, I64]
      exact ⟨by omega, k + 1, ⟨by omega, good (by simp [nmC, nmS]; omega)⟩, by omega, by omega⟩
    · have q1 : (b : Int) < 97 := by omega
      have q2 : ¬ (b : Int) < 48 := by omega
      have q3 : ¬ (57 : Int) < b := by omega
      simp (decide := true) [hlt, hlt', hg, hg2, hlen, q1, q2, q3, I64]
      exact ⟨by omega, k + 1, ⟨by omega, good (by simp [nmC, nmS]; omega)⟩, by omega, by omega⟩
    · simp (decide := true) [hlt, hlt', hg, hg2, hlen, I64]
      exact ⟨by omega, k + 1, ⟨by omega, good (by decide)⟩, by omega, by omega⟩
    · simp (decide := true) [hlt, hlt', hg, hg2, hlen, I64]
      exact ⟨by omega, k + 1, ⟨by omega, good (by decide)⟩, by omega, by omega⟩
    · have q1 : (b : Int) < 97 := by omega
      have q2 : (b : Int) < 48 := by omega
      have q3 : ¬ (b : Int) = 45 := by omega
      have q4 : ¬ (b : Int) = 95 := by omega
      have hb := bad (by simp [nmC, nmS]; omega)
      simp (decide := true) [hlt, hlt', hg, hg2, hlen, q1, q2, q3, q4, hb]
    · have q1 : (b : Int) < 97 := by omega
      have q2 : ¬ (b : Int) < 48 := by omega
      have q5 : (57 : Int) < b := by omega
      have q3 : ¬ (b : Int) = 45 := by omega
      have q4 : ¬ (b : Int) = 95 := by omega
      have hb := bad (by simp [nmC, nmS]; omega)
      simp (decide := true) [hlt, hlt', hg, hg2, hlen, q1, q2, q3, q4, q5, hb]
    · have q1 : ¬ (b : Int) < 97 := by omega
      have q0 : (122 : Int) < b := by omega
      have q2 : ¬ (b : Int) < 48 := by omega
      have q5 : (57 : Int) < b := by omega
      have q3 : ¬ (b : Int) = 45 := by omega
      have q4 : ¬ (b : Int) = 95 := by omega
      have hb := bad (by simp [nmC, nmS]; omega)
      simp (decide := true) [hlt, hlt', hg, hg2, hlen, q0, q1, q2, q3, q4, q5, hb]
  · have : k = s.size := by omega
    subst this
    have hb : (List.range s.size).all (fun k => nmC (byteN s k)) = true := by
      rw [List.all_eq_true]; intro j hj; exact hp j (by simpa using hj)
    simp (decide := true) [hb]
theorem refName_ok (s : ByteArray) (hs : s.size ≤ 9223372036854775807) : PureR Tryz.prog 108 [.str s] (.bool (nameP s)) := by
  refine pure_of_body mixed Tryz.func108 rfl call_108 ?_
  simp (decide := true) [Tryz.f108]
  refine loop_rule mixed (fun k : Nat => { n := 59, next := 0, slots := [(0, .d (.str s)), (3, .d (.int .i64 k))], own := [] })
    (fun k => k ≤ s.size ∧ ∀ j, j < k → (nmC (byteN s j) = true ∧ (j = 0 → nmS (byteN s 0) = true))) (fun k => s.size - k) 0 (by simp) (by simp (decide := true) [int]) ?_
  intro k ⟨hk, hp⟩
  by_cases hlt : k < s.size
  · have hlt' : (k : Int) < s.size := by omega
    have e0 : byteAt s (k : Int) = (byteN s k : Int) := byteAt_nat s k
    have good : nmC (byteN s k) = true → (k = 0 → nmS (byteN s k) = true) → ∀ j, j < k + 1 → (nmC (byteN s j) = true ∧ (j = 0 → nmS (byteN s 0) = true)) := by
      intro hb h0 j hj
      rcases Nat.lt_or_ge j k with hj' | hj'
      · exact hp j hj'
      · have : j = k := by omega
        subst this; exact ⟨hb, fun e => by subst e; exact h0 rfl⟩
    have bad : nmC (byteN s k) = false → nameP s = false := fun hb => by
      have : (List.range s.size).all (fun k => nmC (byteN s k)) = false := by rw [List.all_eq_false]; exact ⟨k, by simpa using hlt, by simp [hb]⟩
      simp only [nameP, this, Bool.and_false]
    have bad0 : k = 0 → nmS (byteN s k) = false → nameP s = false := fun h0 hb => by
      subst h0
      simp only [nameP, hb, Bool.and_false, Bool.false_and]
    generalize byteN s k = b at e0 good bad bad0
    by_cases hs : 97 ≤ b ∧ b ≤ 122
    · obtain ⟨c1, c2⟩ := hs
      have q1 : (97 : Int) ≤ b := by omega
      have q2 : (b : Int) ≤ 122 := by omega
      have hS : nmS b = true := by simp [nmS]; omega
      simp (decide := true) [hlt, hlt', e0, q1, q2, I64]
      exact ⟨by omega, k + 1, ⟨by omega, good (by simp [nmC, hS]) (fun _ => hS)⟩, by omega, by omega⟩
    · have hS : nmS b = false := by simp [nmS]; omega
      by_cases hk0 : k = 0
      · subst hk0
        have hb := bad0 rfl hS
        have e0' : byteAt s 0 = (b : Int) := e0
        by_cases q1 : (97 : Int) ≤ b
        · have q2 : ¬ (b : Int) ≤ 122 := by omega
          simp (decide := true) [hlt, hlt', e0', q1, q2, hb]
        · simp (decide := true) [hlt, hlt', e0', q1, hb]
      · have hk0' : ¬ (k : Int) = 0 := by omega
        have key : ∀ (r : Bool), nmC b = r → (decide (97 ≤ (b : Int)) && decide ((b : Int) ≤ 122)) = false := fun _ _ => by simp; omega
        by_cases q1 : (97 : Int) ≤ b
        · have q2 : ¬ (b : Int) ≤ 122 := by omega
          have q3 : ¬ (b : Int) = 45 := by omega
          have q4 : ¬ (b : Int) = 95 := by omega
          have q5 : ¬ (b : Int) < 48 := by omega
          have q6 : (57 : Int) < b := by omega
          have hb := bad (by simp [nmC, hS]; omega)
          simp (decide := true) [hlt, hlt', e0, q1, q2, q3, q4, q5, q6, hk0, hk0', hb]
        · rcases nm_cases b with ⟨c1, c2⟩ | ⟨c1, c2⟩ | rfl | rfl | ⟨c1, c2⟩ | ⟨c1, c2, c3⟩ | c1
          · omega
          · have q3 : ¬ (b : Int) = 45 := by omega
            have q4 : ¬ (b : Int) = 95 := by omega
            have q5 : ¬ (b : Int) < 48 := by omega
            have q6 : ¬ (57 : Int) < b := by omega
            simp (decide := true) [hlt, hlt', e0, q1, q3, q4, q5, q6, hk0, hk0', I64]
            exact ⟨by omega, k + 1, ⟨by omega, good (by simp [nmC]; omega) (fun h => absurd h hk0)⟩, by omega, by omega⟩
          · simp (decide := true) [hlt, hlt', e0, hk0, hk0', I64]
            exact ⟨by omega, k + 1, ⟨by omega, good (by decide) (fun h => absurd h hk0)⟩, by omega, by omega⟩
          · simp (decide := true) [hlt, hlt', e0, hk0, hk0', I64]
            exact ⟨by omega, k + 1, ⟨by omega, good (by decide) (fun h => absurd h hk0)⟩, by omega, by omega⟩
          · have q3 : ¬ (b : Int) = 45 := by omega
            have q4 : ¬ (b : Int) = 95 := by omega
            have q5 : (b : Int) < 48 := by omega
            have hb := bad (by simp [nmC, hS]; omega)
            simp (decide := true) [hlt, hlt', e0, q1, q3, q4, q5, hk0, hk0', hb]
          · have q3 : ¬ (b : Int) = 45 := by omega
            have q4 : ¬ (b : Int) = 95 := by omega
            have q5 : ¬ (b : Int) < 48 := by omega
            have q6 : (57 : Int) < b := by omega
            have hb := bad (by simp [nmC, hS]; omega)
            simp (decide := true) [hlt, hlt', e0, q1, q3, q4, q5, q6, hk0, hk0', hb]
          · omega
  · have : k = s.size := by omega
    subst this
    have hall : (List.range s.size).all (fun k => nmC (byteN s k)) = true := by
      rw [List.all_eq_true]; intro j hj; exact (hp j (by simpa using hj)).1
    by_cases h1 : 1 ≤ s.size
    · have h1' : (1 : Int) ≤ s.size := by omega
      have hS := (hp 0 (by omega)).2 rfl
      simp (decide := true) [h1', nameP, hall, hS, h1]
      omega
    · have h1' : ¬ (1 : Int) ≤ s.size := by omega
      simp (decide := true) [h1', nameP, h1]
end Go.V
namespace Go.V
open Go Go.Proofs
def alK (k : Int) : Bool := decide (k = 0) || decide (k = 1) || decide (k = 2)
theorem aligned_ok (k : Int) : PureR Tryz.prog 80 [int k] (.bool (alK k)) := by
  refine pure_of_body mixed Tryz.func80 rfl call_80 ?_
  by_cases h0 : k = 0
  · subst h0; simp (decide := true) [Tryz.f80, int, alK]
  by_cases h1 : k = 1
  · subst h1; simp (decide := true) [Tryz.f80, int, alK]
  by_cases h2 : k = 2
  · subst h2; simp (decide := true) [Tryz.f80, int, alK]
  simp (decide := true) [Tryz.f80, int, alK, h0, h1, h2]
def alT (l : List Tir) (i : Int) : Bool := decide (0 ≤ i) && decide (i < l.length) && alK (l[i.toNat]?.getD default).kind
theorem alignedT_ok (l : List Tir) (i : Int) (hl : l.length < 2^62) : PureR Tryz.prog 53 [tiersD l, int i] (.bool (alT l i)) := by
  refine pure_of_body mixed Tryz.func53 rfl call_53 ?_
  by_cases h0 : 0 ≤ i
  case neg => simp (decide := true) [Tryz.f53, tiersD, int, alT, h0]
  by_cases h1 : i < l.length
  case neg => simp (decide := true) [Tryz.f53, tiersD, int, alT, h0, h1]
  obtain ⟨k, rfl⟩ : ∃ k : Nat, i = k := ⟨i.toNat, by omega⟩
  have hk : k < l.length := by omega
  have e1 : l[k]? = some l[k] := List.getElem?_eq_getElem hk
  simp (decide := true) [Tryz.f53, tiersD, int, alT, h0, h1, hk, e1, Tir.row]
  refine ECall.pure (by rfl) (aligned_ok l[k].kind) (by simp) ?_
  simp (decide := true) [int]
def findT (l : List Tir) (name : ByteArray) : Bool := l.any fun t => decide (t.name = name)
def roleT (l : List Tir) (role : Int) : Bool := !decide (role = 0) && l.any fun t => decide (t.role = role)
theorem find_ok (l : List Tir) (name : ByteArray) (hl : l.length < 2^62) : PureE Tryz.prog 133 [tiersD l, .str name] (fun r => ∃ i : Int, r = int i ∧ decide (0 ≤ i) = findT l name) := by
  refine some_of_body mixed Tryz.func133 rfl call_133 ?_
  simp (decide := true) [Tryz.f133, tiersD, int]
  refine loop_rule mixed (fun k : Nat => { n := 20, next := 0, slots := [(1, .d (.str name)), (7, .d (tiersD l)), (8, .d (.int .i64 l.length)), (9, .d (.int .i64 k))], own := [] })
    (fun k => k ≤ l.length ∧ ∀ t ∈ l.take k, t.name ≠ name) (fun k => l.length - k) 0 (by simp) (by simp (decide := true) [tiersD, int]) ?_
  intro k ⟨hk, hp⟩
  by_cases hlt : k < l.length
  · have e1 : l[k]? = some l[k] := List.getElem?_eq_getElem hlt
    by_cases hn : l[k].name = name
    · have hf : findT l name = true := by unfold findT; rw [List.any_eq_true]; exact ⟨l[k], List.getElem_mem hlt, by simp [hn]⟩
      simp (decide := true) [tiersD, Tir.row, int, e1, hlt, I64, hn, hf]
    · have hnl : ¬ l[k].name.toList = name.toList := fun e => hn (bytes_toList.1 e)
      simp (decide := true) [tiersD, Tir.row, int, e1, hlt, I64, hn, hnl]
      exact ⟨by omega, k + 1, ⟨hlt, take_all' hlt hp hn⟩, by omega, by omega⟩
  · have : k = l.length := by omega
    subst this
    rw [List.take_length] at hp
    have hf : findT l name = false := by unfold findT; rw [List.any_eq_false]; intro t ht; simpa using hp t ht
    simp (decide := true) [tiersD, int, hf]
theorem role_ok (l : List Tir) (role : Int) (hl : l.length < 2^62) : PureE Tryz.prog 134 [tiersD l, int role] (fun r => ∃ i : Int, r = int i ∧ decide (0 ≤ i) = roleT l role) := by
  refine some_of_body mixed Tryz.func134 rfl call_134 ?_
  simp (decide := true) [Tryz.f134, tiersD, int]
  refine loop_rule mixed (fun k : Nat => { n := 24, next := 0, slots := [(1, .d (int role)), (7, .d (tiersD l)), (8, .d (.int .i64 l.length)), (9, .d (.int .i64 k))], own := [] })
    (fun k => k ≤ l.length ∧ ∀ t ∈ l.take k, ¬ (role ≠ 0 ∧ t.role = role)) (fun k => l.length - k) 0 (by simp) (by simp (decide := true) [tiersD, int]) ?_
  intro k ⟨hk, hp⟩
  by_cases hlt : k < l.length
  · have e1 : l[k]? = some l[k] := List.getElem?_eq_getElem hlt
    by_cases h0 : role = 0
    · subst h0
      simp (decide := true) [tiersD, Tir.row, int, e1, hlt, I64]
      exact ⟨by omega, k + 1, hlt, by omega, by omega⟩
    · by_cases hn : l[k].role = role
      · have hf : roleT l role = true := by
          unfold roleT; rw [show decide (role = 0) = false from decide_eq_false h0]; simp only [Bool.not_false, Bool.true_and]; rw [List.any_eq_true]; exact ⟨l[k], List.getElem_mem hlt, by simp [hn]⟩
        simp (decide := true) [tiersD, Tir.row, int, e1, hlt, I64, h0, hn, hf]
      · simp (decide := true) [tiersD, Tir.row, int, e1, hlt, I64, h0, hn]
        exact ⟨by omega, k + 1, ⟨hlt, fun e he h => take_all' (p := fun t => ¬ (role ≠ 0 ∧ t.role = role)) hlt hp (fun h => hn h.2) e he ⟨h0, h⟩⟩, by omega, by omega⟩
  · have : k = l.length := by omega
    subst this
    rw [List.take_length] at hp
    have hf : roleT l role = false := by
      unfold roleT
      by_cases h0 : role = 0
      · simp [h0]
      · have : (l.any fun t => decide (t.role = role)) = false := by rw [List.any_eq_false]; intro t ht; have := hp t ht; simp only [decide_eq_true_eq]; exact fun h => this ⟨h0, h⟩
        simp [this]
    simp (decide := true) [tiersD, int, hf]
def rolesE (pr tk tr : Int) : Int :=
  if tr = 1 then (if tk = 0 then 0 else 14) else if tr = 2 then (if pr = 1 then 0 else 13) else if tr = 3 then (if tk = 3 then (if pr = 2 then 0 else 13) else 14)
  else if tr = 4 then (if tk = 4 then (if pr = 3 then 0 else 13) else 14) else if tr = 5 then (if tk = 4 then (if pr = 1 then 0 else 13) else 14) else 0
theorem roles_ok (p t : Tir) : PureR Tryz.prog 135 [.agg p.row, .agg t.row] (int (rolesE p.role t.kind t.role)) := by
  refine pure_of_body mixed Tryz.func135 rfl call_135 ?_
  obtain ⟨pn, pk, pr, pp⟩ := p
  obtain ⟨tn, tk, tr, tp⟩ := t
  by_cases h1 : tr = 1
  · subst h1
    by_cases g : tk = 0
    · simp (decide := true) [Tryz.f135, Tir.row, int, rolesE, g]
    · simp (decide := true) [Tryz.f135, Tir.row, int, rolesE, g]
  by_cases h2 : tr = 2
  · subst h2
    by_cases g : pr = 1
    · simp (decide := true) [Tryz.f135, Tir.row, int, rolesE, g]
    · simp (decide := true) [Tryz.f135, Tir.row, int, rolesE, g]
  by_cases h3 : tr = 3
  · subst h3
    by_cases g0 : tk = 3
    · by_cases g : pr = 2
      · simp (decide := true) [Tryz.f135, Tir.row, int, rolesE, g0, g]
      · simp (decide := true) [Tryz.f135, Tir.row, int, rolesE, g0, g]
    · simp (decide := true) [Tryz.f135, Tir.row, int, rolesE, g0]
  by_cases h4 : tr = 4
  · subst h4
    by_cases g0 : tk = 4
    · by_cases g : pr = 3
      · simp (decide := true) [Tryz.f135, Tir.row, int, rolesE, g0, g]
      · simp (decide := true) [Tryz.f135, Tir.row, int, rolesE, g0, g]
    · simp (decide := true) [Tryz.f135, Tir.row, int, rolesE, g0]
  by_cases h5 : tr = 5
  · subst h5
    by_cases g0 : tk = 4
    · by_cases g : pr = 1
      · simp (decide := true) [Tryz.f135, Tir.row, int, rolesE, g0, g]
      · simp (decide := true) [Tryz.f135, Tir.row, int, rolesE, g0, g]
    · simp (decide := true) [Tryz.f135, Tir.row, int, rolesE, g0]
  simp (decide := true) [Tryz.f135, Tir.row, int, rolesE, h1, h2, h3, h4, h5]
def oneE (before : List Tir) (t : Tir) : Int :=
  if nameP t.name = false then 7 else if findT before t.name = true then 8 else if t.kind < 0 ∨ 4 < t.kind then 14 else if t.role < 0 ∨ 5 < t.role then 2
  else if roleT before t.role = true then 8 else if t.kind = 0 then (if t.par = -1 then rolesE (-1) t.kind t.role else 13)
  else if t.par < 0 ∨ before.length ≤ t.par then 13
  else if alK t.kind = true ∧ alK (before[t.par.toNat]?.getD default).kind = false then 13 else rolesE (before[t.par.toNat]?.getD default).role t.kind t.role
set_option maxHeartbeats 2000000 in
theorem one_ok (l : List Tir) (t : Tir) (hl : l.length < 2^62) : PureR Tryz.prog 120 [tiersD l, .agg t.row] (int (oneE l t)) := by
  refine pure_of_body mixed Tryz.func120 rfl call_120 ?_
  obtain ⟨nm, kd, rl, pr⟩ := t
  simp (decide := true) [Tryz.f120, tiersD, Tir.row, int]
  refine ECall.pure (by rfl) (name_ok nm) (by simp) ?_
  by_cases hn : nameP nm = true
  case neg => simp (decide := true) [hn, oneE, int]
  simp (decide := true) [hn, int]
  refine ECall.some (by rfl) (find_ok l nm hl) ?_
  rintro _ ⟨i, rfl, hi⟩
  refine ⟨by simp [int], ?_⟩
  by_cases hf : findT l nm = true
  · have hi' : 0 ≤ i := by rw [hf] at hi; simpa using hi
    simp (decide := true) [int, hi', oneE, hn, hf]
  have hi' : ¬ 0 ≤ i := by intro h; rw [decide_eq_true h] at hi; exact hf hi.symm
  by_cases k1 : kd < 0
  · simp (decide := true) [int, hi', oneE, hn, hf, k1]
  by_cases k2 : 4 < kd
  · simp (decide := true) [int, hi', oneE, hn, hf, k1, k2]
  by_cases r1 : rl < 0
  · simp (decide := true) [int, hi', oneE, hn, hf, k1, k2, r1]
  by_cases r2 : 5 < rl
  · simp (decide := true) [int, hi', oneE, hn, hf, k1, k2, r1, r2]
  simp (decide := true) [int, hi', k1, k2, r1, r2]
  refine ECall.some (by rfl) (role_ok l rl hl) ?_
  rintro _ ⟨j, rfl, hj⟩
  refine ⟨by simp [int], ?_⟩
  by_cases hr : roleT l rl = true
  · have hj' : 0 ≤ j := by rw [hr] at hj; simpa using hj
    simp (decide := true) [int, hj', oneE, hn, hf, k1, k2, r1, r2, hr]
  have hj' : ¬ 0 ≤ j := by intro h; rw [decide_eq_true h] at hj; exact hr hj.symm
  by_cases k0 : kd = 0
  · subst k0
    by_cases p0 : pr = -1
    · subst p0
      simp (decide := true) [int, hj']
      refine ECall.pure (by rfl) (roles_ok ⟨⟨#[]⟩, 0, -1, 0⟩ ⟨nm, 0, rl, -1⟩) (by simp) ?_
      simp (decide := true) [int, oneE, hn, hf, r1, r2, hr]
    · simp (decide := true) [int, hj', oneE, hn, hf, r1, r2, hr, p0]
  by_cases p1 : pr < 0
  · simp (decide := true) [int, hj', oneE, hn, hf, k0, k1, k2, r1, r2, hr, p1]
  by_cases p2 : (l.length : Int) ≤ pr
  · simp (decide := true) [int, hj', oneE, hn, hf, k0, k1, k2, r1, r2, hr, p1, p2, tiersD]
  obtain ⟨k, rfl⟩ : ∃ k : Nat, pr = k := ⟨pr.toNat, by omega⟩
  have hk : k < l.length := by omega
  have e1 : l[k]? = some l[k] := List.getElem?_eq_getElem hk
  simp (decide := true) [int, hj', k0, p1, p2, tiersD, hk, e1, Tir.row]
  refine ECall.pure (by rfl) (aligned_ok kd) (by simp) ?_
  have hO : oneE l ⟨nm, kd, rl, k⟩ = if alK kd = true ∧ alK l[k].kind = false then 13 else rolesE l[k].role kd rl := by
    simp [oneE, hn, hf, k0, k1, k2, r1, r2, hr, p1, p2, e1]
  rw [hO]
  by_cases a1 : alK kd = true
  · simp (decide := true) [int, a1]
    refine ECall.pure (by rfl) (aligned_ok l[k].kind) (by simp) ?_
    by_cases a2 : alK l[k].kind = true
    · simp (decide := true) [int, a1, a2]
      refine ECall.pure (by rfl) (roles_ok l[k] ⟨nm, kd, rl, k⟩) (by simp) ?_
      simp (decide := true) [int]
    · simp (decide := true) [int, a1, a2]
  · simp (decide := true) [int, a1]
    refine ECall.pure (by rfl) (roles_ok l[k] ⟨nm, kd, rl, k⟩) (by simp) ?_
    simp (decide := true) [int]
def tiersGo (l : List Tir) : Nat → Nat → Int
  | 0, _ => 0
  | n + 1, i => if h : i < l.length then (if oneE (l.take i) l[i] = 0 then tiersGo l n (i + 1) else oneE (l.take i) l[i]) else 0
def tiersE (l : List Tir) : Int := if 12 < l.length then 11 else tiersGo l l.length 0
theorem tiersCheck_ok (l : List Tir) (hl : l.length < 2^62) : PureR Tryz.prog 102 [tiersD l] (int (tiersE l)) := by
  refine pure_of_body mixed Tryz.func102 rfl call_102 ?_
  by_cases h0 : 12 < l.length
  · have h0' : (12 : Int) < l.length := by omega
    simp (decide := true) [Tryz.f102, tiersD, int, h0', tiersE, h0]
  have h0' : ¬ (12 : Int) < l.length := by omega
  simp (decide := true) [Tryz.f102, tiersD, int, h0', tiersE, h0]
  refine loop_rule mixed (fun k : Nat => { n := 25, next := 0, slots := [(0, .d (tiersD l)), (9, .d (.int .i64 l.length)), (10, .d (.int .i64 k))], own := [] })
    (fun k => k ≤ l.length ∧ tiersGo l l.length 0 = tiersGo l (l.length - k) k) (fun k => l.length - k) 0 (by simp) (by simp (decide := true) [tiersD, int]) ?_
  intro k ⟨hk, hp⟩
  by_cases hlt : k < l.length
  · have hlt' : (k : Int) < l.length := by omega
    have e1 : l[k]? = some l[k] := List.getElem?_eq_getElem hlt
    obtain ⟨m, hm⟩ : ∃ m, l.length - k = m + 1 := ⟨l.length - k - 1, by omega⟩
    rw [hm] at hp
    simp only [tiersGo, dif_pos hlt] at hp
    have ho := one_ok (l.take k) l[k] (by rw [List.length_take]; omega)
    unfold tiersD at ho
    rw [List.map_take] at ho
    have er : l[k].row.length = 4 := rfl
    have et : List.take 4 l[k].row = l[k].row := rfl
    simp (decide := true) [tiersD, int, hlt, hlt', e1, er, et]
    refine ⟨hk, fun _ _ => rfl, ?_⟩
    refine scall_pure (by rfl) (by rfl) ho (by simp [int]) ?_
    by_cases hz : oneE (l.take k) l[k] = 0
    · rw [if_pos hz] at hp
      simp (decide := true) [int, hz, I64]
      exact ⟨by omega, k + 1, ⟨hlt, by rw [hp]; congr 1; omega⟩, by omega, by omega⟩
    · rw [if_neg hz] at hp
      simp (decide := true) [int, hz, hp]
  · have : k = l.length := by omega
    subst this
    rw [Nat.sub_self] at hp
    simp (decide := true) [tiersD, int, hp, tiersGo]
end Go.V
namespace Go.V
open Go Go.Proofs
def hasId (u : List Nt) (id : Int) : Bool := u.any fun n => decide (n.id = id)
def addN (u : List Nt) (n : Nt) : List Nt := if hasId u n.id = true then u else u ++ [n]
def firsts (l : List Nt) : List Nt := l.foldl addN []
def mapD (u : List Nt) : List (List D) := u.map fun n => [int n.id, .agg n.row]
theorem look_map (id : Int) : ∀ u : List Nt, lookD (int id) (mapD u) = some ((u.find? fun n => decide (n.id = id)).map fun n => .agg n.row)
  | [] => rfl
  | n :: r => by
    simp only [mapD, List.map_cons, lookD, keyEq, int]
    by_cases h : n.id = id
    · simp [List.find?_cons, h]
    · have h' : ¬ id = n.id := fun e => h e.symm
      have := look_map id r
      simp only [mapD, int] at this
      simp [List.find?_cons, h, h', this]
theorem put_map {n : Nt} : ∀ {u : List Nt}, hasId u n.id = false → putD (int n.id) (.agg n.row) (mapD u) = some (mapD (u ++ [n]))
  | [], _ => rfl
  | m :: r, h => by
    simp only [hasId, List.any_cons, Bool.or_eq_false_iff, decide_eq_false_iff_not] at h
    have := put_map (n := n) (u := r) h.2
    have h' : ¬ n.id = m.id := fun e => h.1 e.symm
    simp only [mapD, List.map_cons, List.cons_append, putD, keyEq, int] at this ⊢
    simp [h', this]
theorem find_add {id : Int} (u : List Nt) (n : Nt) : (addN u n).find? (fun m => decide (m.id = id)) = (u.find? fun m => decide (m.id = id)).or (if n.id = id then some n else none) := by
  unfold addN
  by_cases h : hasId u n.id = true
  · rw [if_pos h]
    by_cases e : n.id = id
    · subst e
      have h2 : (u.find? fun m => decide (m.id = n.id)).isSome = true := by rw [List.find?_isSome]; exact List.any_eq_true.1 h
      cases hf : u.find? fun m => decide (m.id = n.id) with
      | none => rw [hf] at h2; cases h2
      | some x => rfl
    · rw [if_neg e]; cases u.find? fun m => decide (m.id = id) <;> rfl
  · rw [if_neg h, List.find?_append]
    by_cases e : n.id = id
    · simp [List.find?_cons, e]
    · simp [List.find?_cons, e]
theorem find_firsts {id : Int} : ∀ (l u : List Nt), (l.foldl addN u).find? (fun m => decide (m.id = id)) = (u.find? fun m => decide (m.id = id)).or (l.find? fun m => decide (m.id = id))
  | [], u => by simp
  | n :: l, u => by
    rw [List.foldl_cons, find_firsts l (addN u n), find_add]
    by_cases e : n.id = id
    · simp [List.find?_cons, e, Option.or_assoc]
    · simp [List.find?_cons, e]
theorem look_firsts (l : List Nt) (id : Int) : lookD (int id) (mapD (firsts l)) = some ((l.find? fun n => decide (n.id = id)).map fun n => .agg n.row) := by
  rw [look_map, firsts, find_firsts]; rfl
set_option maxHeartbeats 1000000 in
theorem byId_ok (d : Dc) (hl : d.notes.length < 2^40) : PureR Tryz.prog 103 [docD d] (.mp (mapD (firsts d.notes))) := by
  refine pure_of_body_frz mixed Tryz.func103 rfl call_103 [1] ?_
  simp (decide := true) [Tryz.f103, docD, Dc.row, notesD, tiersD, ints, int]
  refine loop_rule mixed (fun k : Nat => { n := 31, next := 2, slots := [(3, .mp 1), (10, .d (notesD d.notes)), (11, .d (.int .i64 d.notes.length)), (12, .d (.int .i64 k))], own := [(1, .map 114 (mapD (firsts (d.notes.take k))))] })
    (fun k => k ≤ d.notes.length) (fun k => d.notes.length - k) 0 (by simp) (by simp (decide := true) [notesD, int, firsts, mapD]) ?_
  intro k hk
  by_cases hlt : k < d.notes.length
  · have hlt' : (k : Int) < d.notes.length := by omega
    have e1 : d.notes[k]? = some d.notes[k] := List.getElem?_eq_getElem hlt
    have hf : firsts (d.notes.take (k + 1)) = addN (firsts (d.notes.take k)) d.notes[k] := by
      rw [take_snoc' hlt]; unfold firsts; rw [List.foldl_append]; rfl
    have hlk := look_map d.notes[k].id (firsts (d.notes.take k))
    have hpm := put_map (n := d.notes[k]) (u := firsts (d.notes.take k))
    generalize firsts (d.notes.take k) = u at hf hlk hpm ⊢
    have hid : (u.find? fun n => decide (n.id = d.notes[k].id)).isSome = hasId u d.notes[k].id := by
      by_cases h : hasId u d.notes[k].id = true
      · rw [h]; rw [List.find?_isSome]; exact List.any_eq_true.1 h
      · have h2 : hasId u d.notes[k].id = false := by simpa using h
        rw [h2, Option.isSome_eq_false_iff, Option.isNone_iff_eq_none, List.find?_eq_none]
        unfold hasId at h2
        rw [List.any_eq_false] at h2
        exact h2
    simp only [int] at hlk hpm
    cases hfd : u.find? fun n => decide (n.id = d.notes[k].id) with
    | none =>
      rw [hfd] at hlk hid
      have hh : hasId u d.notes[k].id = false := hid.symm
      have hp := hpm hh
      simp only [Nt.row, int, Option.map_none] at hlk hp
      simp (decide := true) [notesD, Nt.row, int, hlt, hlt', e1, hlk, hp, I64]
      exact ⟨⟨by omega, by omega⟩, k + 1, hlt, by omega, by omega, by rw [hf]; simp [addN, hh]⟩
    | some m =>
      rw [hfd] at hlk hid
      have hh : hasId u d.notes[k].id = true := hid.symm
      simp only [Nt.row, int, Option.map_some] at hlk
      simp (decide := true) [notesD, Nt.row, int, hlt, hlt', e1, hlk, I64]
      exact ⟨⟨by omega, by omega⟩, k + 1, hlt, by omega, by omega, by rw [hf]; simp [addN, hh]⟩
  · have : k = d.notes.length := by omega
    subst this
    simp (decide := true) [notesD, int]
def rightS (f t : Int) : Bool := decide (0 ≤ f) && decide (f < t) && decide (t ≤ 86400000)
theorem right_ok (f t : Int) : PureR Tryz.prog 137 [.agg [int f, int t]] (.bool (rightS f t)) := by
  refine pure_of_body mixed Tryz.func137 rfl call_137 ?_
  by_cases h1 : 0 ≤ f
  case neg => simp (decide := true) [Tryz.f137, int, rightS, h1]
  by_cases h2 : f < t
  case neg => simp (decide := true) [Tryz.f137, int, rightS, h1, h2]
  simp (decide := true) [Tryz.f137, int, rightS, h1, h2]
def tirAt (d : Dc) (i : Int) : Tir := d.tiers[i.toNat]?.getD default
def withinP (d : Dc) (n p : Nt) : Bool :=
  if alT d.tiers n.tier = true then rightS n.fr n.tO && (if (tirAt d n.tier).kind = 0 then decide (0 ≤ n.fr) && decide (n.tO ≤ d.len) else decide (p.fr ≤ n.fr) && decide (n.tO ≤ p.tO))
  else decide (n.fr = 0) && decide (n.tO = 0)
set_option maxHeartbeats 1000000 in
theorem within_ok (d : Dc) (n p : Nt) (hl : d.tiers.length < 2^62) : PureR Tryz.prog 122 [docD d, .agg n.row, .agg p.row] (.bool (withinP d n p)) := by
  refine pure_of_body mixed Tryz.func122 rfl call_122 ?_
  obtain ⟨ni, nt, np, nf, nto, nr, nx⟩ := n
  obtain ⟨pi, pt, pp, pf, pto, prr, px⟩ := p
  simp (decide := true) [Tryz.f122, docD, Dc.row, Nt.row, int, ints, notesD]
  refine ECall.pure (by rfl) (alignedT_ok d.tiers nt hl) (by simp [int]) ?_
  by_cases ha : alT d.tiers nt = true
  case neg =>
    by_cases h1 : nf = 0
    · simp (decide := true) [ha, int, withinP, h1]
    · simp (decide := true) [ha, int, withinP, h1]
  have ha' := ha
  simp only [alT, Bool.and_eq_true, decide_eq_true_eq] at ha'
  obtain ⟨⟨g1, g2⟩, _⟩ := ha'
  obtain ⟨k, rfl⟩ : ∃ k : Nat, nt = k := ⟨nt.toNat, by omega⟩
  have hk : k < d.tiers.length := by omega
  have e1 : d.tiers[k]? = some d.tiers[k] := List.getElem?_eq_getElem hk
  have et : tirAt d (k : Int) = d.tiers[k] := by simp [tirAt, e1]
  by_cases hk0 : d.tiers[k].kind = 0
  · simp (decide := true) [ha, int, tiersD, Tir.row, hk, e1, hk0]
    refine ECall.pure (by rfl) (right_ok nf nto) (by simp [int]) ?_
    by_cases hr : rightS nf nto = true
    · by_cases h2 : 0 ≤ nf
      · simp (decide := true) [int, hr, withinP, ha, et, hk0, h2]
      · simp (decide := true) [int, hr, withinP, ha, et, hk0, h2]
    · simp (decide := true) [int, hr, withinP, ha, et, hk0]
  · simp (decide := true) [ha, int, tiersD, Tir.row, hk, e1, hk0]
    refine ECall.pure (by rfl) (right_ok nf nto) (by simp [int]) ?_
    by_cases hr : rightS nf nto = true
    · by_cases h2 : pf ≤ nf
      · simp (decide := true) [int, hr, withinP, ha, et, hk0, h2]
      · simp (decide := true) [int, hr, withinP, ha, et, hk0, h2]
    · simp (decide := true) [int, hr, withinP, ha, et, hk0]
def noteE (d : Dc) (n : Nt) : Int :=
  if textE n.text = 0 then
    (if (if (tirAt d n.tier).kind = 0 then decide (n.par = 0) else (getN d.notes n.par).2 && decide ((getN d.notes n.par).1.tier = (tirAt d n.tier).par)) = true then
      (if withinP d n (getN d.notes n.par).1 = true then (if n.rank < 0 ∨ (n.rank ≠ 0 ∧ (tirAt d n.tier).kind ≠ 3) then 1 else 0) else 12)
    else 13)
  else textE n.text
set_option maxHeartbeats 2000000 in
theorem note_ok (d : Dc) (n : Nt) (hl : d.tiers.length < 2^62) (h0 : 0 ≤ n.tier) (h1 : n.tier < d.tiers.length) :
    PureR Tryz.prog 104 [docD d, .mp (mapD (firsts d.notes)), .agg n.row] (int (noteE d n)) := by
  refine pure_of_body mixed Tryz.func104 rfl call_104 ?_
  have hlk := look_firsts d.notes n.par
  obtain ⟨ni, nt, np, nf, nto, nr, nx⟩ := n
  simp only at h0 h1 hlk
  obtain ⟨k, rfl⟩ : ∃ k : Nat, nt = k := ⟨nt.toNat, by omega⟩
  have hk : k < d.tiers.length := by omega
  have e1 : d.tiers[k]? = some d.tiers[k] := List.getElem?_eq_getElem hk
  have et : tirAt d (k : Int) = d.tiers[k] := by simp [tirAt, e1]
  simp (decide := true) [Tryz.f104, docD, Dc.row, Nt.row, int, ints, notesD]
  refine ECall.pure (by rfl) (text_ok nx) (by simp [int]) ?_
  by_cases ht : textE nx = 0
  case neg => simp (decide := true) [int, ht, noteE]
  cases hg : d.notes.find? fun n => decide (n.id = np) with
  | none =>
    rw [hg] at hlk
    simp only [Option.map_none, int] at hlk
    have hgn : getN d.notes np = (Nt.zero, false) := by simp [getN, hg]
    by_cases hk0 : d.tiers[k].kind = 0
    · by_cases hp : np = 0
      · have hw := within_ok d ⟨ni, k, np, nf, nto, nr, nx⟩ Nt.zero hl
        subst hp
        simp (decide := true) [int, ht, tiersD, Tir.row, hk, e1, hlk, hk0]
        refine ECall.pure (by rfl) hw (by simp [int]) ?_
        by_cases hwi : withinP d ⟨ni, k, 0, nf, nto, nr, nx⟩ Nt.zero = true
        case neg => simp (decide := true) [int, hwi, noteE, ht, et, hk0, hgn]
        by_cases r1 : nr < 0
        · simp (decide := true) [int, hwi, r1, noteE, ht, et, hk0, hgn]
        by_cases r2 : nr = 0
        · simp (decide := true) [int, hwi, r1, r2, noteE, ht, et, hk0, hgn]
        simp (decide := true) [int, hwi, r1, r2, Tir.row, noteE, ht, et, hk0, hgn]
      · simp (decide := true) [int, ht, tiersD, Tir.row, hk, e1, hlk, hk0, hp, noteE, et]
    · simp (decide := true) [int, ht, tiersD, Tir.row, hk, e1, hlk, hk0, noteE, et, hgn]
  | some m =>
    rw [hg] at hlk
    simp only [Option.map_some, int] at hlk
    have hgn : getN d.notes np = (m, true) := by simp [getN, hg]
    have hrow : m.row = [.int .i64 m.id, .int .i64 m.tier, .int .i64 m.par, .int .i64 m.fr, .int .i64 m.tO, .int .i64 m.rank, .str m.text] := rfl
    rw [hrow] at hlk
    have hw := within_ok d ⟨ni, k, np, nf, nto, nr, nx⟩ m hl
    by_cases hk0 : d.tiers[k].kind = 0
    · by_cases hp : np = 0
      · subst hp
        simp (decide := true) [int, ht, tiersD, Tir.row, hk, e1, hlk, hk0]
        refine ECall.pure (by rfl) hw (by simp [int]) ?_
        by_cases hwi : withinP d ⟨ni, k, 0, nf, nto, nr, nx⟩ m = true
        case neg => simp (decide := true) [int, hwi, noteE, ht, et, hk0, hgn]
        by_cases r1 : nr < 0
        · simp (decide := true) [int, hwi, r1, noteE, ht, et, hk0, hgn]
        by_cases r2 : nr = 0
        · simp (decide := true) [int, hwi, r1, r2, noteE, ht, et, hk0, hgn]
        simp (decide := true) [int, hwi, r1, r2, Tir.row, noteE, ht, et, hk0, hgn]
      · simp (decide := true) [int, ht, tiersD, Tir.row, hk, e1, hlk, hk0, hp, noteE, et]
    · by_cases hp : m.tier = d.tiers[k].par
      · rw [hrow, hp] at hw
        simp (decide := true) [int, ht, tiersD, Tir.row, hk, e1, hlk, hk0, hp]
        refine ECall.pure (by rfl) hw (by simp [int]) ?_
        by_cases hwi : withinP d ⟨ni, k, np, nf, nto, nr, nx⟩ m = true
        case neg => simp (decide := true) [int, hwi, noteE, ht, et, hk0, hgn, hp]
        by_cases r1 : nr < 0
        · simp (decide := true) [int, hwi, r1, noteE, ht, et, hk0, hgn, hp]
        by_cases r2 : nr = 0
        · simp (decide := true) [int, hwi, r1, r2, noteE, ht, et, hk0, hgn, hp]
        by_cases r3 : d.tiers[k].kind = 3
        · simp (decide := true) [int, hwi, r1, r2, r3, Tir.row, noteE, ht, et, hk0, hgn, hp]
        · simp (decide := true) [int, hwi, r1, r2, r3, Tir.row, noteE, ht, et, hk0, hgn, hp]
      · simp (decide := true) [int, ht, tiersD, Tir.row, hk, e1, hlk, hk0, hp, noteE, et, hgn]
end Go.V
namespace Go.V
open Go Go.Proofs Go.Sort Go.RowKit
theorem ltN_iff {a b : Nt} : ltN a b = true ↔ a.par < b.par ∨ (a.par = b.par ∧ (a.fr < b.fr ∨ (a.fr = b.fr ∧ a.rank < b.rank))) := by
  unfold ltN ltOf cmpN
  rw [decide_eq_true_eq]
  simp only [orI, cmpI]
  repeat' split
  all_goals omega
theorem ltN_false {a b : Nt} : ltN a b = false ↔ ¬ (a.par < b.par ∨ (a.par = b.par ∧ (a.fr < b.fr ∨ (a.fr = b.fr ∧ a.rank < b.rank)))) := by
  rw [← ltN_iff, Bool.not_eq_true]
theorem swoN : SWO ltN where
  irrefl := fun x => by rw [ltN_false]; omega
  trans := fun x y z h1 h2 => by rw [ltN_iff] at *; omega
  ntrans := fun x y z h1 h2 => by rw [ltN_false] at *; omega
def sortN (l : List Nt) : List Nt := (pdq ltN l.toArray 0 l.length (Lib.bitLen l.length) true true).toList
theorem sortN_spec (l : List Nt) : PermIn 0 l.length l.toArray (pdq ltN l.toArray 0 l.length (Lib.bitLen l.length) true true) ∧ SortedIn ltN 0 l.length (pdq ltN l.toArray 0 l.length (Lib.bitLen l.length) true true) :=
  pdq_sorts ltN swoN l.toArray 0 l.length (Lib.bitLen l.length) true true (Nat.zero_le _) (by simp) (Or.inl rfl)
theorem sortN_length (l : List Nt) : (sortN l).length = l.length := by
  have := (sortN_spec l).1.1
  unfold sortN
  rw [Array.length_toList, this]; simp
theorem sortN_perm (l : List Nt) : (sortN l).Perm l := by
  obtain ⟨h1, _, h3⟩ := (sortN_spec l).1
  unfold sortN
  generalize pdq ltN l.toArray 0 l.length (Lib.bitLen l.length) true true = A at h1 h3
  have e1 : A.extract 0 l.length = A := by rw [show l.length = A.size by rw [h1]; simp]; simp
  have e2 : l.toArray.extract 0 l.length = l.toArray := by rw [show l.length = l.toArray.size by simp]; simp
  rw [e1, e2] at h3
  simpa using h3
theorem sortN_sorted (l : List Nt) : (sortN l).Pairwise fun a b => ltN b a = false := by
  have hs := (sortN_spec l).2
  have hl := sortN_length l
  unfold sortN at hl ⊢
  generalize pdq ltN l.toArray 0 l.length (Lib.bitLen l.length) true true = A at hs hl
  rw [List.pairwise_iff_getElem]
  intro i j hi hj hij
  rw [Array.length_toList] at hl
  have := hs i j (Nat.zero_le _) hij (by rw [Array.length_toList] at hj; omega)
  rw [Array.length_toList] at hi hj
  simpa [getElem!_pos, hi, hj] using this
theorem sort_ok (T : Nat) (l : List Nt) (hne : l ≠ []) (hl : l.length < 4611686018427387904) :
    CallC Tryz.prog 123 [.ar 0, .fn 74 []] [(0, .arr T 7 (l.map Nt.row))] 1 (.d (.tup [])) 1 [(0, .arr T 7 ((sortN l).map Nt.row))] [] := by
  refine sort_bridge nt_enc call_123 hne (sortN_length l) ?_
  intro w E β vs hvs hseen g cap hg hE hH
  simp only [Sms, Sm, R, int] at hvs
  obtain ⟨_, _, rfl, ⟨_, rfl, rfl⟩, rfl⟩ := hvs
  have := AnyQ.slices_SortFunc_eq Tryz.sortNote 7 isAggN sizeOfN Nt.enc nt_enc.len nt_enc.one cmpN swoN 74 #[] g 0 cap l.toArray w enters_order
    (order_lays hseen hE) hH hg (by simpa using hl)
  change Calls Tryz.prog 123 _ _ _ at this
  have e : (pdq (ltOf cmpN) l.toArray 0 l.toArray.size (Lib.bitLen l.toArray.size) true true) = (sortN l).toArray := by
    unfold sortN ltN; simp
  rw [e] at this
  simpa using this
abbrev noNotes : List (Nat × Obj') := [(0, .arr 45 7 [])]
theorem insE_ok : CallC Tryz.prog 117 [.ar 0, .d (int 0), .d (int 0), .fn 74 []] noNotes 1 (.tup []) 1 noNotes [] := by
  refine callC_of_body mixed Tryz.func117 rfl call_117 (by simp [Sym.los, Sym.lo]) ?_
  simp (decide := true) [Tryz.f117, int]
  refine ⟨by unfold I64; omega, loop_rule mixed (fun _ : Unit => { n := 53, next := 1, slots := [(2, .d (int 0)), (8, .d (int 1))], own := noNotes, base := 1 })
    (fun _ => True) (fun _ => 0) () trivial (by simp (decide := true) [int]) ?_⟩
  intro _ _
  simp (decide := true) [int]
theorem len0_ok : PureR Tryz.prog 130 [.int .u64 0] (int 0) := by
  have hg := run_sound mixed_X (mkG_good can_all) 8
  have hr : xcall (mkG Tryz.prog) (xdraw (mkG Tryz.prog)) 8 130 [.d (.int .u64 0)] [] 0 = some ⟨.d (int 0), 0, [], []⟩ := by kernel_rfl
  exact pureR_of_callC (ds := [.int .u64 0]) (hg _ _ _ _ _ hr (by simp [Sym.los, Sym.lo]))
theorem pdqE_ok : CallC Tryz.prog 138 [.ar 0, .d (int 0), .d (int 0), .d (int 0), .fn 74 []] noNotes 1 (.tup []) 1 noNotes [] := by
  refine callC_of_body mixed Tryz.func138 rfl call_138 (by simp [Sym.los, Sym.lo]) ?_
  simp (decide := true) [Tryz.f138, int]
  refine loop_rule mixed (fun _ : Unit => { n := 148, next := 1, slots := [(0, .ar 0), (1, .d (int 0)), (2, .d (int 0)), (4, .fn 74 [])], own := noNotes, base := 1 })
    (fun _ => True) (fun _ => 0) () trivial (by simp (decide := true) [int]) ?_
  intro _ _
  simp (decide := true) [int]
  refine ⟨by unfold I64; omega, ?_⟩
  refine ECall.mut [0] [.ar 0, .d (int 0), .d (int 0), .fn 74 []] noNotes (by rfl) (by simp [int]) (by simp) (by simp) insE_ok ?_
  simp (decide := true) [int]
theorem sort_nil : CallC Tryz.prog 123 [.ar 0, .fn 74 []] noNotes 1 (.tup []) 1 noNotes [] := by
  refine callC_of_body mixed Tryz.func123 rfl call_123 (by simp [Sym.los, Sym.lo]) ?_
  have w0 : IntKind.wrap .u64 0 = 0 := by decide
  simp (decide := true) [Tryz.f123, int, eBytes, w0]
  refine ECall.pure (by rfl) len0_ok (by simp [int]) ?_
  simp (decide := true) [int]
  refine ECall.mut [0] [.ar 0, .d (int 0), .d (int 0), .d (int 0), .fn 74 []] noNotes (by rfl) (by simp [int]) (by simp) (by simp) pdqE_ok ?_
  simp (decide := true) [int]
theorem CallC.unit {P : Program} {f : Nat} {args : List Sym} {own : List (Nat × Obj')} {n nx : Nat} {own' : List (Nat × Obj')} {mv : List Nat} (h : CallC P f args own n (.tup []) nx own' mv) : CallC P f args own n (.d (.tup [])) nx own' mv := by
  refine ⟨h.1, fun X w0 β w vs hβ hm hs => (h.2 X w0 β w vs hβ hm hs).mono fun e w' he => ?_⟩
  obtain ⟨β', v, h1, h2, h3, h4⟩ := he
  refine ⟨β', v, h1, h2, by simp [Sym.lo], ?_⟩
  simp only [Sm, Sms] at h4
  obtain ⟨vs', rfl, rfl⟩ := h4
  simp [Sm, R, Rvals]
theorem sort_all (l : List Nt) (hl : l.length < 4611686018427387904) :
    CallC Tryz.prog 123 [.ar 0, .fn 74 []] [(0, .arr 45 7 (l.map Nt.row))] 1 (.d (.tup [])) 1 [(0, .arr 45 7 ((sortN l).map Nt.row))] [] := by
  cases l with
  | nil =>
    have : sortN [] = [] := List.eq_nil_of_length_eq_zero (sortN_length [])
    rw [this]
    exact sort_nil.unit
  | cons a r => exact sort_ok 45 (a :: r) (by simp) hl
end Go.V
namespace Go.V
open Go Go.Proofs
def ofT (l : List Nt) (t : Int) : List Nt := l.filter fun n => decide (n.tier = t)
def firstB (s : List Nt) (i : Nat) : Bool := decide (i = 0) || !decide ((s[i - 1]?.getD default).par = (s[i]?.getD default).par)
def lastB (s : List Nt) (i : Nat) : Bool := decide (i + 1 = s.length) || !decide ((s[i + 1]?.getD default).par = (s[i]?.getD default).par)
def tierGo (notes : List Nt) (kind : Int) (s : List Nt) : Nat → Nat → Int → Int
  | 0, _, why => why
  | m + 1, i, why => if i < s.length then
      (let n := s[i]?.getD default
       let pv := s[i - 1]?.getD default
       let p := (getN notes n.par).1
       if kind = 0 ∨ kind = 1 ∨ kind = 2 then
         (if firstB s i = false ∧ n.fr < pv.tO then 15
          else tierGo notes kind s m (i + 1) (if kind = 1 ∧ ((firstB s i = true ∧ n.fr ≠ p.fr) ∨ (firstB s i = false ∧ pv.tO ≠ n.fr) ∨ (lastB s i = true ∧ n.tO ≠ p.tO)) then 16 else why))
       else if kind = 3 then tierGo notes kind s m (i + 1) (if (firstB s i = true ∧ n.rank ≠ 0) ∨ (firstB s i = false ∧ n.rank ≠ IntKind.i64.wrap (pv.rank + 1)) then 10 else why)
       else if kind = 4 then tierGo notes kind s m (i + 1) (if firstB s i = false then 8 else why)
       else tierGo notes kind s m (i + 1) why)
    else why
def tierE (d : Dc) (t : Int) : Int := tierGo d.notes (tirAt d t).kind (sortN (ofT d.notes t)) (ofT d.notes t).length 0 0
def tierC (d : Dc) (s : List Nt) (kd : Int) (i : Nat) (why : Int) : St :=
  { n := 173, next := 3, slots := [(1, .d (.mp (mapD (firsts d.notes)))), (3, .bp 0 0), (7, .ar 1), (10, .d (int kd)), (11, .d (int why)), (12, .d (.int .i64 i)), (13, .bp 2 0), (14, .d (.bool (firstB s i))), (15, .d (.bool (lastB s i))), (41, .ar 1), (42, .d (.int .i64 s.length)), (43, .d (.int .i64 i))],
    own := [(0, .box 28 (docCells d)), (1, .arr 45 7 (s.map Nt.row)), (2, .box 45 ((s[i]?.getD default).row.map .d))], moved := [1] }
def tierS (d : Dc) (s : List Nt) (kd : Int) (x : Nat × Int) : St :=
  { n := 173, next := 2, slots := [(1, .d (.mp (mapD (firsts d.notes)))), (3, .bp 0 0), (7, .ar 1), (10, .d (int kd)), (11, .d (int x.2)), (41, .ar 1), (42, .d (.int .i64 s.length)), (43, .d (.int .i64 x.1))], own := [(0, .box 28 (docCells d)), (1, .arr 45 7 (s.map Nt.row))], moved := [1] }
set_option maxHeartbeats 4000000 in
theorem tier_ok (d : Dc) (t : Nat) (ht : t < d.tiers.length) (hl : d.notes.length < 2^30) :
    PureR Tryz.prog 105 [docD d, .mp (mapD (firsts d.notes)), int t] (int (tierE d t)) := by
  refine pure_of_body mixed Tryz.func105 rfl call_105 ?_
  simp (decide := true) [Tryz.f105, docD, Dc.row, int, ints, tiersD, notesD]
  refine loop_rule mixed (fun k : Nat => { n := 173, next := 2, slots := [(1, .d (.mp (mapD (firsts d.notes)))), (2, .d (int t)), (3, .bp 0 0), (7, .ar 1), (18, .d (notesD d.notes)), (19, .d (.int .i64 d.notes.length)), (20, .d (.int .i64 k))], own := [(0, .box 28 (docCells d)), (1, .arr 45 7 ((ofT (d.notes.take k) t).map Nt.row))], moved := [1] })
    (fun k => k ≤ d.notes.length) (fun k => d.notes.length - k) 0 (by simp) (by simp (decide := true) [int, ints, tiersD, notesD, ofT]) ?_
  intro k hk
  by_cases hlt : k < d.notes.length
  · have hlt' : (k : Int) < d.notes.length := by omega
    have e1 : d.notes[k]? = some d.notes[k] := List.getElem?_eq_getElem hlt
    have hsn : ofT (d.notes.take (k + 1)) t = ofT (d.notes.take k) t ++ (if d.notes[k].tier = t then [d.notes[k]] else []) := by
      rw [take_snoc' hlt]; unfold ofT; rw [List.filter_append]; by_cases h : d.notes[k].tier = t <;> simp [h]
    have hlen : (ofT (d.notes.take k) t).length ≤ k := Nat.le_trans (List.length_filter_le _ _) (by rw [List.length_take]; omega)
    by_cases h : d.notes[k].tier = t
    · rw [if_pos h] at hsn
      simp (decide := true) [notesD, Nt.row, int, hlt, hlt', e1, I64, h]
      exact ⟨by omega, by unfold maxLen; omega, ⟨by omega, by omega⟩, k + 1, hlt, by omega, by omega, by rw [hsn]; simp [Nt.row, int, h]⟩
    · rw [if_neg h, List.append_nil] at hsn
      simp (decide := true) [notesD, Nt.row, int, hlt, hlt', e1, I64, h]
      exact ⟨⟨by omega, by omega⟩, k + 1, hlt, by omega, by omega, by rw [hsn]⟩
  · have : k = d.notes.length := by omega
    subst this
    rw [List.take_length]
    simp (decide := true) [int]
    have hol : (ofT d.notes t).length ≤ d.notes.length := List.length_filter_le _ _
    refine ECall.mut [1] [.ar 0, .fn 74 []] [(0, .arr 45 7 ((ofT d.notes t).map Nt.row))] (by rfl) (by simp [int]) (by simp) (by simp) (sort_all (ofT d.notes t) (by omega)) ?_
    have htt : tirAt d (t : Int) = d.tiers[t] := by simp [tirAt, List.getElem?_eq_getElem ht]
    have e1 : d.tiers[t]? = some d.tiers[t] := List.getElem?_eq_getElem ht
    have hsl := sortN_length (ofT d.notes t)
    unfold tierE
    rw [htt]
    rw [← hsl]
    rw [← hsl] at hol
    generalize sortN (ofT d.notes t) = s at hol ⊢
    generalize hkd : d.tiers[t].kind = kd
    simp (decide := true) [int, tiersD, Tir.row, ht, e1, hkd]
    refine loop_ruleT mixed (tierS d s kd) (fun x => x.1 ≤ s.length ∧ tierGo d.notes kd s s.length 0 0 = tierGo d.notes kd s (s.length - x.1) x.1 x.2) (fun x => s.length - x.1) (0, 0) ⟨by simp, by simp⟩ (by simp (decide := true) [tierS, int, notesD, tiersD, ints]) ?_
    rintro ⟨i, why⟩ ⟨hi, hg⟩
    simp only at hi hg
    by_cases hlt : i < s.length
    case neg =>
      have : i = s.length := by omega
      subst this
      rw [Nat.sub_self] at hg
      refine ev_sound mixed ?_
      simp (decide := true) [tierS, int, hg, tierGo]
    obtain ⟨m, hm⟩ : ∃ m, s.length - i = m + 1 := ⟨s.length - i - 1, by omega⟩
    have hm' : s.length - (i + 1) = m := by omega
    rw [hm] at hg
    obtain ⟨n, en'⟩ : ∃ n, s[i] = n := ⟨_, rfl⟩
    have en : s[i]? = some n := by rw [List.getElem?_eq_getElem hlt, en']
    have hlt' : (i : Int) < s.length := by omega
    refine cut_ev mixed 2 (tierS d s kd (i, why)) rfl (by simp (decide := true) [tierS, int, hlt']) ?_
    simp only [tailC]
    refine triple_seqE (triple_block (cut_ev mixed 3 (tierC d s kd i why) rfl ?_ ?_)) mixed
    · clear hg
      cases i with
      | zero =>
        have hF : firstB s 0 = true := by simp [firstB]
        by_cases hL : 1 = s.length
        · have hL' : (1 : Int) = s.length := by omega
          have hLb : lastB s 0 = true := by simp [lastB, hL]
          simp (decide := true) [tierS, tierC, int, hlt, hlt', en, en', Nt.row, I64, hF, hLb, eq_true hL', notesD]
        · have hL' : ¬ (1 : Int) = s.length := by omega
          have hn1 : 1 < s.length := by omega
          have hn1' : (1 : Int) < s.length := by omega
          obtain ⟨nx, ex'⟩ : ∃ nx, s[1] = nx := ⟨_, rfl⟩
          have ex : s[1]? = some nx := by rw [List.getElem?_eq_getElem hn1, ex']
          have hLb : lastB s 0 = !decide (nx.par = n.par) := by simp [lastB, hL, ex, en]
          simp (decide := true) [tierS, tierC, int, hlt, hlt', en, en', Nt.row, I64, hF, hLb, hL', hn1, hn1', ex, ex', notesD]
      | succ j =>
        have hjl : j < s.length := by omega
        have hjl' : (j : Int) < s.length := by omega
        obtain ⟨pv, ep'⟩ : ∃ pv, s[j] = pv := ⟨_, rfl⟩
        have ep : s[j]? = some pv := by rw [List.getElem?_eq_getElem hjl, ep']
        have j0 : ¬ (j : Int) + 1 = 0 := by omega
        have j1 : (j : Int) + 1 - 1 = j := by omega
        have hq : (j : Int) + 1 < s.length := by omega
        have tn1 : ((j : Int) + 1).toNat = j + 1 := by omega
        have tn2 : ((j : Int) + 1 + 1).toNat = j + 1 + 1 := by omega
        have hF : firstB s (j + 1) = !decide (pv.par = n.par) := by simp [firstB, ep, en]
        by_cases hL : j + 1 + 1 = s.length
        · have hL' : (j : Int) + 1 + 1 = s.length := by omega
          have hLb : lastB s (j + 1) = true := by simp [lastB, hL]
          simp (decide := true) [tierS, tierC, int, hlt, hlt', en, en', Nt.row, I64, hjl, hjl', ep, ep', j0, j1, hq, tn1, tn2, hF, hLb, eq_true hL', notesD]
          try omega
        · have hL' : ¬ (j : Int) + 1 + 1 = s.length := by omega
          have hn1 : j + 1 + 1 < s.length := by omega
          have hn1' : (j : Int) + 1 + 1 < s.length := by omega
          obtain ⟨nx, ex'⟩ : ∃ nx, s[j + 1 + 1] = nx := ⟨_, rfl⟩
          have ex : s[j + 1 + 1]? = some nx := by rw [List.getElem?_eq_getElem hn1, ex']
          have hLb : lastB s (j + 1) = !decide (nx.par = n.par) := by simp [lastB, hL, ex, en]
          simp (decide := true) [tierS, tierC, int, hlt, hlt', en, en', Nt.row, I64, hjl, hjl', ep, ep', j0, j1, hq, tn1, tn2, hF, hLb, hL', hn1, hn1', ex, ex', notesD]
          try omega
    · simp only [tailC]
      have hlk := look_firsts d.notes n.par
      cases hF : firstB s i
      · skip
        obtain ⟨j, rfl⟩ : ∃ j, i = j + 1 := by
          cases i with
          | zero => simp [firstB] at hF
          | succ j => exact ⟨j, rfl⟩
        have hjl : j < s.length := by omega
        have hjl' : (j : Int) < s.length := by omega
        obtain ⟨pv, ep'⟩ : ∃ pv, s[j] = pv := ⟨_, rfl⟩
        have ep : s[j]? = some pv := by rw [List.getElem?_eq_getElem hjl, ep']
        have j0 : ¬ (j : Int) + 1 = 0 := by omega
        have j1 : (j : Int) + 1 - 1 = j := by omega
        have hq : (j : Int) + 1 < s.length := by omega
        have tn1 : ((j : Int) + 1).toNat = j + 1 := by omega
        have hw0 : IntKind.i64.wrap (j : Int) = j := wrap64 (by omega)
        have hw1 : IntKind.i64.wrap ((j : Int) + 1 + 1) = (j : Int) + 1 + 1 := wrap64 (by omega)
        by_cases k0 : kd = 0
        · subst k0
          refine ev_sound mixed ?_
          by_cases ho : n.fr < pv.tO
          · simp [tierGo, hlt, hF, en, en', ep, ep', ho] at hg
            simp (decide := true) [int, hlt, hlt', en, en', Nt.row, I64, notesD, tierC, hF, hjl, hjl', ep, ep', j0, j1, hq, tn1, ho, hg]
            try omega
          simp [tierGo, hlt, hF, en, en', ep, ep', ho] at hg
          cases hf : d.notes.find? fun x => decide (x.id = n.par) with
          | none =>
            rw [hf] at hlk
            simp only [Option.map_none, int] at hlk
            simp (decide := true) [int, hlt, hlt', en, en', Nt.row, I64, notesD, tierC, hF, hjl, hjl', ep, ep', j0, j1, hq, tn1, ho, hlk]
            repeat (refine And.intro (by omega) ?_)
            exact ⟨j + 1 + 1, why, ⟨by omega, by rw [hg, hm']⟩, by omega, by simp (decide := true) [tierS, int]⟩
          | some p =>
            rw [hf] at hlk
            simp only [Option.map_some, int, Nt.row] at hlk
            simp (decide := true) [int, hlt, hlt', en, en', Nt.row, I64, notesD, tierC, hF, hjl, hjl', ep, ep', j0, j1, hq, tn1, ho, hlk]
            repeat (refine And.intro (by omega) ?_)
            exact ⟨j + 1 + 1, why, ⟨by omega, by rw [hg, hm']⟩, by omega, by simp (decide := true) [tierS, int]⟩
        by_cases k1 : kd = 1
        · subst k1
          refine ev_sound mixed ?_
          by_cases ho : n.fr < pv.tO
          · simp [tierGo, hlt, hF, en, en', ep, ep', ho] at hg
            simp (decide := true) [int, hlt, hlt', en, en', Nt.row, I64, notesD, tierC, hF, hjl, hjl', ep, ep', j0, j1, hq, tn1, ho, hg]
            try omega
          cases hf : d.notes.find? fun x => decide (x.id = n.par) with
          | none =>
            rw [hf] at hlk
            simp only [Option.map_none, int] at hlk
            by_cases b1 : pv.tO = n.fr
            case neg =>
              simp [tierGo, hlt, hF, en, en', ep, ep', ho, b1, getN, hf, Nt.zero] at hg
              simp (decide := true) [int, hlt, hlt', en, en', Nt.row, I64, notesD, tierC, hF, hjl, hjl', ep, ep', j0, j1, hq, tn1, ho, hlk, b1]
              repeat (refine And.intro (by omega) ?_)
              exact ⟨j + 1 + 1, 16, ⟨by omega, by rw [hg, hm']⟩, by omega, by simp (decide := true) [tierS, int]⟩
            cases hL : lastB s (j + 1)
            · simp [tierGo, hlt, hF, en, en', ep, ep', ho, b1, getN, hf, Nt.zero, hL] at hg
              simp (decide := true) [int, hlt, hlt', en, en', Nt.row, I64, notesD, tierC, hF, hjl, hjl', ep, ep', j0, j1, hq, tn1, ho, hlk, b1, hL]
              repeat (refine And.intro (by omega) ?_)
              exact ⟨j + 1 + 1, why, ⟨by omega, by rw [hg, hm']⟩, by omega, by simp (decide := true) [tierS, int]⟩
            by_cases b2 : n.tO = 0
            · simp [tierGo, hlt, hF, en, en', ep, ep', ho, b1, getN, hf, Nt.zero, hL, b2] at hg
              simp (decide := true) [int, hlt, hlt', en, en', Nt.row, I64, notesD, tierC, hF, hjl, hjl', ep, ep', j0, j1, hq, tn1, ho, hlk, b1, hL, b2]
              repeat (refine And.intro (by omega) ?_)
              exact ⟨j + 1 + 1, why, ⟨by omega, by rw [hg, hm']⟩, by omega, by simp (decide := true) [tierS, int]⟩
            · simp [tierGo, hlt, hF, en, en', ep, ep', ho, b1, getN, hf, Nt.zero, hL, b2] at hg
              simp (decide := true) [int, hlt, hlt', en, en', Nt.row, I64, notesD, tierC, hF, hjl, hjl', ep, ep', j0, j1, hq, tn1, ho, hlk, b1, hL, b2]
              repeat (refine And.intro (by omega) ?_)
              exact ⟨j + 1 + 1, 16, ⟨by omega, by rw [hg, hm']⟩, by omega, by simp (decide := true) [tierS, int]⟩
          | some p =>
            rw [hf] at hlk
            simp only [Option.map_some, int, Nt.row] at hlk
            by_cases b1 : pv.tO = n.fr
            case neg =>
              simp [tierGo, hlt, hF, en, en', ep, ep', ho, b1, getN, hf, Nt.zero] at hg
              simp (decide := true) [int, hlt, hlt', en, en', Nt.row, I64, notesD, tierC, hF, hjl, hjl', ep, ep', j0, j1, hq, tn1, ho, hlk, b1]
              repeat (refine And.intro (by omega) ?_)
              exact ⟨j + 1 + 1, 16, ⟨by omega, by rw [hg, hm']⟩, by omega, by simp (decide := true) [tierS, int]⟩
            cases hL : lastB s (j + 1)
            · simp [tierGo, hlt, hF, en, en', ep, ep', ho, b1, getN, hf, Nt.zero, hL] at hg
              simp (decide := true) [int, hlt, hlt', en, en', Nt.row, I64, notesD, tierC, hF, hjl, hjl', ep, ep', j0, j1, hq, tn1, ho, hlk, b1, hL]
              repeat (refine And.intro (by omega) ?_)
              exact ⟨j + 1 + 1, why, ⟨by omega, by rw [hg, hm']⟩, by omega, by simp (decide := true) [tierS, int]⟩
            by_cases b2 : n.tO = p.tO
            · simp [tierGo, hlt, hF, en, en', ep, ep', ho, b1, getN, hf, Nt.zero, hL, b2] at hg
              simp (decide := true) [int, hlt, hlt', en, en', Nt.row, I64, notesD, tierC, hF, hjl, hjl', ep, ep', j0, j1, hq, tn1, ho, hlk, b1, hL, b2]
              repeat (refine And.intro (by omega) ?_)
              exact ⟨j + 1 + 1, why, ⟨by omega, by rw [hg, hm']⟩, by omega, by simp (decide := true) [tierS, int]⟩
            · simp [tierGo, hlt, hF, en, en', ep, ep', ho, b1, getN, hf, Nt.zero, hL, b2] at hg
              simp (decide := true) [int, hlt, hlt', en, en', Nt.row, I64, notesD, tierC, hF, hjl, hjl', ep, ep', j0, j1, hq, tn1, ho, hlk, b1, hL, b2]
              repeat (refine And.intro (by omega) ?_)
              exact ⟨j + 1 + 1, 16, ⟨by omega, by rw [hg, hm']⟩, by omega, by simp (decide := true) [tierS, int]⟩
        by_cases k2 : kd = 2
        · subst k2
          refine ev_sound mixed ?_
          by_cases ho : n.fr < pv.tO
          · simp [tierGo, hlt, hF, en, en', ep, ep', ho] at hg
            simp (decide := true) [int, hlt, hlt', en, en', Nt.row, I64, notesD, tierC, hF, hjl, hjl', ep, ep', j0, j1, hq, tn1, ho, hg]
            try omega
          simp [tierGo, hlt, hF, en, en', ep, ep', ho] at hg
          cases hf : d.notes.find? fun x => decide (x.id = n.par) with
          | none =>
            rw [hf] at hlk
            simp only [Option.map_none, int] at hlk
            simp (decide := true) [int, hlt, hlt', en, en', Nt.row, I64, notesD, tierC, hF, hjl, hjl', ep, ep', j0, j1, hq, tn1, ho, hlk]
            repeat (refine And.intro (by omega) ?_)
            exact ⟨j + 1 + 1, why, ⟨by omega, by rw [hg, hm']⟩, by omega, by simp (decide := true) [tierS, int]⟩
          | some p =>
            rw [hf] at hlk
            simp only [Option.map_some, int, Nt.row] at hlk
            simp (decide := true) [int, hlt, hlt', en, en', Nt.row, I64, notesD, tierC, hF, hjl, hjl', ep, ep', j0, j1, hq, tn1, ho, hlk]
            repeat (refine And.intro (by omega) ?_)
            exact ⟨j + 1 + 1, why, ⟨by omega, by rw [hg, hm']⟩, by omega, by simp (decide := true) [tierS, int]⟩
        by_cases k3 : kd = 3
        · subst k3
          refine ev_soundW mixed fun o ho => ?_
          by_cases hr : n.rank = IntKind.i64.wrap (pv.rank + 1)
          · simp [tierGo, hlt, hF, en, en', ep, ep', hr] at hg
            simp (decide := true) [int, hlt, hlt', en, en', Nt.row, I64, notesD, tierC, hF, hjl, hjl', ep, ep', j0, j1, hq, tn1, hr, arith_ov ho, hw0, hw1]
            repeat (refine And.intro (by omega) ?_)
            exact ⟨j + 1 + 1, why, ⟨by omega, by rw [hg, hm']⟩, by omega, by simp (decide := true) [tierS, int]⟩
          · simp [tierGo, hlt, hF, en, en', ep, ep', hr] at hg
            simp (decide := true) [int, hlt, hlt', en, en', Nt.row, I64, notesD, tierC, hF, hjl, hjl', ep, ep', j0, j1, hq, tn1, hr, arith_ov ho, hw0, hw1]
            repeat (refine And.intro (by omega) ?_)
            exact ⟨j + 1 + 1, 10, ⟨by omega, by rw [hg, hm']⟩, by omega, by simp (decide := true) [tierS, int]⟩
        by_cases k4 : kd = 4
        · subst k4
          refine ev_sound mixed ?_
          simp [tierGo, hlt, hF, en, en', ep, ep'] at hg
          simp (decide := true) [int, hlt, hlt', en, en', Nt.row, I64, notesD, tierC, hF, hjl, hjl', ep, ep', j0, j1, hq, tn1]
          repeat (refine And.intro (by omega) ?_)
          exact ⟨j + 1 + 1, 8, ⟨by omega, by rw [hg, hm']⟩, by omega, by simp (decide := true) [tierS, int]⟩
        refine ev_sound mixed ?_
        simp [tierGo, hlt, hF, en, en', ep, ep', k0, k1, k2, k3, k4] at hg
        simp (decide := true) [int, hlt, hlt', en, en', Nt.row, I64, notesD, tierC, hF, hjl, hjl', ep, ep', j0, j1, hq, tn1, k0, k1, k2, k3, k4]
        repeat (refine And.intro (by omega) ?_)
        exact ⟨j + 1 + 1, why, ⟨by omega, by rw [hg, hm']⟩, by omega, by simp (decide := true) [tierS, int]⟩
      · skip
        have hw1 : IntKind.i64.wrap ((i : Int) + 1) = (i : Int) + 1 := wrap64 (by omega)
        by_cases k0 : kd = 0
        · subst k0
          refine ev_sound mixed ?_
          simp [tierGo, hlt, hF, en, en'] at hg
          cases hf : d.notes.find? fun x => decide (x.id = n.par) with
          | none =>
            rw [hf] at hlk
            simp only [Option.map_none, int] at hlk
            simp (decide := true) [int, hlt, hlt', en, en', Nt.row, I64, notesD, tierC, hF, hlk]
            repeat (refine And.intro (by omega) ?_)
            exact ⟨i + 1, why, ⟨by omega, by rw [hg, hm']⟩, by omega, by simp (decide := true) [tierS, int]⟩
          | some p =>
            rw [hf] at hlk
            simp only [Option.map_some, int, Nt.row] at hlk
            simp (decide := true) [int, hlt, hlt', en, en', Nt.row, I64, notesD, tierC, hF, hlk]
            repeat (refine And.intro (by omega) ?_)
            exact ⟨i + 1, why, ⟨by omega, by rw [hg, hm']⟩, by omega, by simp (decide := true) [tierS, int]⟩
        by_cases k1 : kd = 1
        · subst k1
          refine ev_sound mixed ?_
          cases hf : d.notes.find? fun x => decide (x.id = n.par) with
          | none =>
            rw [hf] at hlk
            simp only [Option.map_none, int] at hlk
            by_cases b1 : n.fr = 0
            case neg =>
              simp [tierGo, hlt, hF, en, en', b1, getN, hf, Nt.zero] at hg
              simp (decide := true) [int, hlt, hlt', en, en', Nt.row, I64, notesD, tierC, hF, hlk, b1]
              repeat (refine And.intro (by omega) ?_)
              exact ⟨i + 1, 16, ⟨by omega, by rw [hg, hm']⟩, by omega, by simp (decide := true) [tierS, int]⟩
            cases hL : lastB s (i)
            · simp [tierGo, hlt, hF, en, en', b1, getN, hf, Nt.zero, hL] at hg
              simp (decide := true) [int, hlt, hlt', en, en', Nt.row, I64, notesD, tierC, hF, hlk, b1, hL]
              repeat (refine And.intro (by omega) ?_)
              exact ⟨i + 1, why, ⟨by omega, by rw [hg, hm']⟩, by omega, by simp (decide := true) [tierS, int]⟩
            by_cases b2 : n.tO = 0
            · simp [tierGo, hlt, hF, en, en', b1, getN, hf, Nt.zero, hL, b2] at hg
              simp (decide := true) [int, hlt, hlt', en, en', Nt.row, I64, notesD, tierC, hF, hlk, b1, hL, b2]
              repeat (refine And.intro (by omega) ?_)
              exact ⟨i + 1, why, ⟨by omega, by rw [hg, hm']⟩, by omega, by simp (decide := true) [tierS, int]⟩
            · simp [tierGo, hlt, hF, en, en', b1, getN, hf, Nt.zero, hL, b2] at hg
              simp (decide := true) [int, hlt, hlt', en, en', Nt.row, I64, notesD, tierC, hF, hlk, b1, hL, b2]
              repeat (refine And.intro (by omega) ?_)
              exact ⟨i + 1, 16, ⟨by omega, by rw [hg, hm']⟩, by omega, by simp (decide := true) [tierS, int]⟩
          | some p =>
            rw [hf] at hlk
            simp only [Option.map_some, int, Nt.row] at hlk
            by_cases b1 : n.fr = p.fr
            case neg =>
              simp [tierGo, hlt, hF, en, en', b1, getN, hf, Nt.zero] at hg
              simp (decide := true) [int, hlt, hlt', en, en', Nt.row, I64, notesD, tierC, hF, hlk, b1]
              repeat (refine And.intro (by omega) ?_)
              exact ⟨i + 1, 16, ⟨by omega, by rw [hg, hm']⟩, by omega, by simp (decide := true) [tierS, int]⟩
            cases hL : lastB s (i)
            · simp [tierGo, hlt, hF, en, en', b1, getN, hf, Nt.zero, hL] at hg
              simp (decide := true) [int, hlt, hlt', en, en', Nt.row, I64, notesD, tierC, hF, hlk, b1, hL]
              repeat (refine And.intro (by omega) ?_)
              exact ⟨i + 1, why, ⟨by omega, by rw [hg, hm']⟩, by omega, by simp (decide := true) [tierS, int]⟩
            by_cases b2 : n.tO = p.tO
            · simp [tierGo, hlt, hF, en, en', b1, getN, hf, Nt.zero, hL, b2] at hg
              simp (decide := true) [int, hlt, hlt', en, en', Nt.row, I64, notesD, tierC, hF, hlk, b1, hL, b2]
              repeat (refine And.intro (by omega) ?_)
              exact ⟨i + 1, why, ⟨by omega, by rw [hg, hm']⟩, by omega, by simp (decide := true) [tierS, int]⟩
            · simp [tierGo, hlt, hF, en, en', b1, getN, hf, Nt.zero, hL, b2] at hg
              simp (decide := true) [int, hlt, hlt', en, en', Nt.row, I64, notesD, tierC, hF, hlk, b1, hL, b2]
              repeat (refine And.intro (by omega) ?_)
              exact ⟨i + 1, 16, ⟨by omega, by rw [hg, hm']⟩, by omega, by simp (decide := true) [tierS, int]⟩
        by_cases k2 : kd = 2
        · subst k2
          refine ev_sound mixed ?_
          simp [tierGo, hlt, hF, en, en'] at hg
          cases hf : d.notes.find? fun x => decide (x.id = n.par) with
          | none =>
            rw [hf] at hlk
            simp only [Option.map_none, int] at hlk
            simp (decide := true) [int, hlt, hlt', en, en', Nt.row, I64, notesD, tierC, hF, hlk]
            repeat (refine And.intro (by omega) ?_)
            exact ⟨i + 1, why, ⟨by omega, by rw [hg, hm']⟩, by omega, by simp (decide := true) [tierS, int]⟩
          | some p =>
            rw [hf] at hlk
            simp only [Option.map_some, int, Nt.row] at hlk
            simp (decide := true) [int, hlt, hlt', en, en', Nt.row, I64, notesD, tierC, hF, hlk]
            repeat (refine And.intro (by omega) ?_)
            exact ⟨i + 1, why, ⟨by omega, by rw [hg, hm']⟩, by omega, by simp (decide := true) [tierS, int]⟩
        by_cases k3 : kd = 3
        · subst k3
          refine ev_soundW mixed fun o ho => ?_
          by_cases hr : n.rank = 0
          · simp [tierGo, hlt, hF, en, en', hr] at hg
            simp (decide := true) [int, hlt, hlt', en, en', Nt.row, I64, notesD, tierC, hF, hr, arith_ov ho, hw1]
            repeat (refine And.intro (by omega) ?_)
            exact ⟨i + 1, why, ⟨by omega, by rw [hg, hm']⟩, by omega, by simp (decide := true) [tierS, int]⟩
          · simp [tierGo, hlt, hF, en, en', hr] at hg
            simp (decide := true) [int, hlt, hlt', en, en', Nt.row, I64, notesD, tierC, hF, hr, arith_ov ho, hw1]
            repeat (refine And.intro (by omega) ?_)
            exact ⟨i + 1, 10, ⟨by omega, by rw [hg, hm']⟩, by omega, by simp (decide := true) [tierS, int]⟩
        by_cases k4 : kd = 4
        · subst k4
          refine ev_sound mixed ?_
          simp [tierGo, hlt, hF, en, en'] at hg
          simp (decide := true) [int, hlt, hlt', en, en', Nt.row, I64, notesD, tierC, hF]
          repeat (refine And.intro (by omega) ?_)
          exact ⟨i + 1, why, ⟨by omega, by rw [hg, hm']⟩, by omega, by simp (decide := true) [tierS, int]⟩
        refine ev_sound mixed ?_
        simp [tierGo, hlt, hF, en, en', k0, k1, k2, k3, k4] at hg
        simp (decide := true) [int, hlt, hlt', en, en', Nt.row, I64, notesD, tierC, hF, k0, k1, k2, k3, k4]
        repeat (refine And.intro (by omega) ?_)
        exact ⟨i + 1, why, ⟨by omega, by rw [hg, hm']⟩, by omega, by simp (decide := true) [tierS, int]⟩
end Go.V
namespace Go.V
open Go Go.Proofs
def notesGo (d : Dc) : Nat → Nat → Int
  | 0, _ => 0
  | m + 1, i => if i < d.notes.length then
      (let n := d.notes[i]?.getD default
       if n.id < 1 ∨ 1099511627776 < n.id then 2 else if i ≠ 0 ∧ n.id ≤ (d.notes[i - 1]?.getD default).id then 10
       else if n.tier < 0 ∨ (d.tiers.length : Int) ≤ n.tier then 2 else if noteE d n = 0 then notesGo d m (i + 1) else noteE d n)
    else 0
def tierGos (d : Dc) : Nat → Nat → Int
  | 0, _ => 0
  | m + 1, i => if i < d.tiers.length then (if tierE d i = 0 then tierGos d m (i + 1) else tierE d i) else 0
def checkE (d : Dc) : Int :=
  if tiersE d.tiers ≠ 0 then tiersE d.tiers else if d.len < 0 ∨ 86400000 < d.len then 12 else if 300 < d.notes.length then 11
  else if notesGo d d.notes.length 0 ≠ 0 then notesGo d d.notes.length 0 else tierGos d d.tiers.length 0
set_option maxHeartbeats 4000000 in
theorem check0_ok (d : Dc) (ht : d.tiers.length < 2^30) (hn : d.notes.length < 2^30) (hT : ∀ t : Nat, t < d.tiers.length → PureR Tryz.prog 105 [docD d, .mp (mapD (firsts d.notes)), int t] (int (tierE d t))) :
    PureR Tryz.prog 82 [docD d] (int (checkE d)) := by
  refine pure_of_body mixed Tryz.func82 rfl call_82 ?_
  simp (decide := true) [Tryz.f82, docD, Dc.row]
  refine ECall.pure (by rfl) (tiersCheck_ok d.tiers (by omega)) (by simp) ?_
  by_cases h1 : tiersE d.tiers = 0
  case neg => simp (decide := true) [int, h1, checkE]
  by_cases h2 : d.len < 0
  · simp (decide := true) [int, h1, h2, checkE]
  by_cases h3 : 86400000 < d.len
  · simp (decide := true) [int, h1, h2, h3, checkE]
  by_cases h4 : 300 < d.notes.length
  · have h4' : (300 : Int) < d.notes.length := by omega
    simp (decide := true) [int, h1, h2, h3, h4, h4', checkE, notesD]
  have h4' : ¬ (300 : Int) < d.notes.length := by omega
  simp (decide := true) [int, h1, h2, h3, h4', notesD]
  refine ECall.pure (by rfl) (byId_ok d (by omega)) (by simp (decide := true) [docD, Dc.row, int, notesD]) ?_
  have hE : checkE d = if notesGo d d.notes.length 0 = 0 then tierGos d d.tiers.length 0 else notesGo d d.notes.length 0 := by
    simp only [checkE]
    rw [if_neg (by simpa using h1), if_neg (by omega), if_neg h4]
    by_cases h : notesGo d d.notes.length 0 = 0 <;> simp [h]
  rw [hE]
  simp (decide := true) [int, notesD]
  refine loop_rule mixed (fun i : Nat => { n := 95, next := 1, slots := [(1, .bp 0 0), (4, .d (.mp (mapD (firsts d.notes)))), (33, .d (notesD d.notes)), (34, .d (.int .i64 d.notes.length)), (35, .d (.int .i64 i))], own := [(0, .box 28 (docCells d))] })
    (fun i => i ≤ d.notes.length ∧ notesGo d d.notes.length 0 = notesGo d (d.notes.length - i) i) (fun i => d.notes.length - i) 0 (by simp) (by simp (decide := true) [int, notesD, tiersD, ints]) ?_
  rintro i ⟨hi, hg⟩
  by_cases hlt : i < d.notes.length
  · obtain ⟨m, hm⟩ : ∃ m, d.notes.length - i = m + 1 := ⟨d.notes.length - i - 1, by omega⟩
    have hm' : d.notes.length - (i + 1) = m := by omega
    rw [hm] at hg
    obtain ⟨n, en'⟩ : ∃ n, d.notes[i] = n := ⟨_, rfl⟩
    have en : d.notes[i]? = some n := by rw [List.getElem?_eq_getElem hlt, en']
    have hlt' : (i : Int) < d.notes.length := by omega
    simp only [notesGo, if_pos hlt, en, Option.getD_some] at hg
    by_cases a1 : n.id < 1
    · rw [if_pos (Or.inl a1)] at hg
      simp (decide := true) [int, notesD, Nt.row, hlt, hlt', en, en', a1, hg]
    by_cases a2 : 1099511627776 < n.id
    · rw [if_pos (Or.inr a2)] at hg
      simp (decide := true) [int, notesD, Nt.row, hlt, hlt', en, en', a1, a2, hg]
    rw [if_neg (by omega)] at hg
    have fin : ∀ (X : List (Nat × Sym) → Prop), True := fun _ => trivial
    cases i with
    | zero =>
      rw [if_neg (by simp)] at hg
      by_cases b1 : n.tier < 0
      · rw [if_pos (Or.inl b1)] at hg
        simp (decide := true) [int, notesD, Nt.row, hlt, hlt', en, en', a1, a2, b1, hg]
      by_cases b2 : (d.tiers.length : Int) ≤ n.tier
      · rw [if_pos (Or.inr b2)] at hg
        simp (decide := true) [int, notesD, tiersD, Nt.row, hlt, hlt', en, en', a1, a2, b1, b2, hg]
      rw [if_neg (by omega)] at hg
      simp (decide := true) [int, notesD, tiersD, Nt.row, hlt, hlt', en, en', a1, a2, b1, b2]
      refine ECall.pure (by rfl) (note_ok d n (by omega) (by omega) (by omega)) (by simp (decide := true) [docD, Dc.row, int, notesD, Nt.row]) ?_
      by_cases hz : noteE d n = 0
      · rw [if_pos hz] at hg
        simp (decide := true) [int, hz, I64]
        exact ⟨1, ⟨by omega, by rw [hg, hm']⟩, by omega, by omega⟩
      · rw [if_neg hz] at hg
        simp (decide := true) [int, hz, hg]
    | succ j =>
      have hjl : j < d.notes.length := by omega
      have hjl' : (j : Int) < d.notes.length := by omega
      obtain ⟨pv, ep'⟩ : ∃ pv, d.notes[j] = pv := ⟨_, rfl⟩
      have ep : d.notes[j]? = some pv := by rw [List.getElem?_eq_getElem hjl, ep']
      have j0 : (0 : Int) < (j : Int) + 1 := by omega
      have j1 : (j : Int) + 1 - 1 = j := by omega
      have hq : (j : Int) + 1 < d.notes.length := by omega
      have tn1 : ((j : Int) + 1).toNat = j + 1 := by omega
      simp only [Nat.add_sub_cancel, ep, Option.getD_some] at hg
      by_cases c1 : n.id ≤ pv.id
      · rw [if_pos ⟨by omega, c1⟩] at hg
        simp (decide := true) [int, notesD, Nt.row, hlt, hlt', en, en', a1, a2, hjl, hjl', ep, ep', j0, j1, hq, tn1, c1, hg, I64]
        try omega
      rw [if_neg (by omega)] at hg
      by_cases b1 : n.tier < 0
      · rw [if_pos (Or.inl b1)] at hg
        simp (decide := true) [int, notesD, Nt.row, hlt, hlt', en, en', a1, a2, hjl, hjl', ep, ep', j0, j1, hq, tn1, c1, b1, hg, I64]
        try omega
      by_cases b2 : (d.tiers.length : Int) ≤ n.tier
      · rw [if_pos (Or.inr b2)] at hg
        simp (decide := true) [int, notesD, tiersD, Nt.row, hlt, hlt', en, en', a1, a2, hjl, hjl', ep, ep', j0, j1, hq, tn1, c1, b1, b2, hg, I64]
        try omega
      rw [if_neg (by omega)] at hg
      simp (decide := true) [int, notesD, tiersD, Nt.row, hlt, hlt', en, en', a1, a2, hjl, hjl', ep, ep', j0, j1, hq, tn1, c1, b1, b2, I64]
      repeat (refine And.intro (by omega) ?_)
      refine ECall.pure (by rfl) (note_ok d n (by omega) (by omega) (by omega)) (by simp (decide := true) [docD, Dc.row, int, notesD, Nt.row]) ?_
      by_cases hz : noteE d n = 0
      · rw [if_pos hz] at hg
        simp (decide := true) [int, hz, I64]
        exact ⟨⟨by omega, by omega⟩, j + 1 + 1, ⟨by omega, by rw [hg, hm']⟩, by omega, by omega⟩
      · rw [if_neg hz] at hg
        simp (decide := true) [int, hz, hg]
  · have : i = d.notes.length := by omega
    subst this
    rw [Nat.sub_self] at hg
    rw [hg]
    simp (decide := true) [int, notesGo, tiersD, notesD]
    refine loop_rule mixed (fun i : Nat => { n := 95, next := 1, slots := [(1, .bp 0 0), (4, .d (.mp (mapD (firsts d.notes)))), (83, .d (.int .i64 d.tiers.length)), (84, .d (.int .i64 i))], own := [(0, .box 28 (docCells d))] })
      (fun i => i ≤ d.tiers.length ∧ tierGos d d.tiers.length 0 = tierGos d (d.tiers.length - i) i) (fun i => d.tiers.length - i) 0 (by simp) (by simp (decide := true) [int, notesD, tiersD, ints]) ?_
    rintro i ⟨hi, hg⟩
    by_cases hlt : i < d.tiers.length
    · have hlt' : (i : Int) < d.tiers.length := by omega
      obtain ⟨m, hm⟩ : ∃ m, d.tiers.length - i = m + 1 := ⟨d.tiers.length - i - 1, by omega⟩
      have hm' : d.tiers.length - (i + 1) = m := by omega
      rw [hm] at hg
      simp only [tierGos, if_pos hlt] at hg
      simp (decide := true) [int, hlt']
      refine ECall.pure (by rfl) (hT i hlt) (by simp (decide := true) [docD, Dc.row, int, notesD]) ?_
      by_cases hz : tierE d i = 0
      · rw [if_pos hz] at hg
        simp (decide := true) [int, hz, I64]
        exact ⟨by omega, i + 1, ⟨by omega, by rw [hg, hm']⟩, by omega, by omega⟩
      · rw [if_neg hz] at hg
        simp (decide := true) [int, hz, hg]
    · have : i = d.tiers.length := by omega
      subst this
      rw [Nat.sub_self] at hg
      simp (decide := true) [int, hg, tierGos]
theorem check_ok (d : Dc) (ht : d.tiers.length < 2^30) (hn : d.notes.length < 2^30) : PureR Tryz.prog 82 [docD d] (int (checkE d)) :=
  check0_ok d ht hn fun t h => tier_ok d t h hn
end Go.V

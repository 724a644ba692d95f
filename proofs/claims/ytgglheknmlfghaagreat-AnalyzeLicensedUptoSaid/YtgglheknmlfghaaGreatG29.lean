/- The checks of links and variants by the references of chapters 26 and 27. -/
import Derived.Test.YtgglheknmlfghaaGreatG28
set_option linter.unusedSimpArgs false
set_option linter.unusedVariables false
set_option maxRecDepth 10000
namespace Go.V
open Go Go.Proofs

theorem reachF_len (l : List Ent) (id kind : Int) : (reachF l id kind).length ≤ l.length := rOut_len _ _ _
set_option maxHeartbeats 16000000 in
theorem check26_ok (l : List Ent) (hl : l.length ≤ 5) (hk : ∀ e ∈ l, e.links.length ≤ 12) : PureE Tryz.prog 79 [lexD l] IsI := by
  refine some_of_body mixed Tryz.func79 rfl call_79 ?_
  simp (decide := true) [Tryz.f79, int, lexD]
  refine loop_rule mixed (fun i : Nat => { n := 91, next := 0, slots := [(0, .d (lexD l)), (3, .d (int i))], own := [] }) (fun i => i ≤ l.length) (fun i => l.length - i) 0 (by simp) (by simp (decide := true) [int, lexD]) ?_
  intro i hi
  by_cases hli : i < l.length
  · have hli' : (i : Int) < l.length := by omega
    have hlk := hk l[i] (List.getElem_mem hli)
    obtain ⟨e, ee⟩ : ∃ e, l[i] = e := ⟨_, rfl⟩
    have e1 : l[i]? = some e := by rw [List.getElem?_eq_getElem hli, ee]
    rw [ee] at hlk
    simp (decide := true) [int, lexD, hli']
    refine loop_rule mixed (fun k : Nat => { n := 91, next := 0, slots := [(0, .d (lexD l)), (3, .d (int i)), (4, .d (int k))], own := [] }) (fun k => k ≤ e.links.length) (fun k => e.links.length - k) 0 (by simp) (by simp (decide := true) [int, lexD]) ?_
    intro k hkl
    by_cases hlm : k < e.links.length
    · have hlm' : (k : Int) < e.links.length := by omega
      obtain ⟨x, ex⟩ : ∃ x, e.links[k] = x := ⟨_, rfl⟩
      have ex1 : e.links[k]? = some x := by rw [List.getElem?_eq_getElem hlm, ex]
      simp (decide := true) [int, lexD, Ent.row, lnkD, Lnk.row, hli, hli', ee, e1, hlm, hlm', ex, ex1]
      refine ECall.pure (by rfl) (inverse26_ok x.kind) (by simp [int]) ?_
      by_cases c1 : invC x.kind < 0
      · simp (decide := true) [int, c1]
      simp (decide := true) [int, lexD, c1]
      refine ECall.pure (by rfl) (find26_ok l x.dst (by omega)) (by simp [int, lexD]) ?_
      rcases findE_get l x.dst with ⟨g1, g2⟩ | ⟨u, hu, g1, g2⟩
      · simp (decide := true) [int, g1]
      · have hu' : (u : Int) < l.length := by omega
        have hul := hk l[u] (List.getElem_mem hu)
        obtain ⟨y, ey⟩ : ∃ y, l[u] = y := ⟨_, rfl⟩
        have ey1 : l[u]? = some y := by rw [List.getElem?_eq_getElem hu, ey]
        rw [ey] at hul
        have hH := has26_ok y ⟨invC x.kind, e.id⟩ (by omega)
        rw [g1]
        simp (decide := true) [int, lexD, Ent.row, lnkD, Lnk.row, hli, hli', ee, e1, hu, hu', ey, ey1]
        refine scall_pure (by rfl) (by rfl) (inverse26_ok x.kind) (by simp [int]) ?_
        simp (decide := true) [int, lexD, Ent.row, lnkD, Lnk.row, hli, hli', ee, e1, hu, hu', ey, ey1]
        refine scall_pure (by rfl) (by rfl) hH (by simp [int, Ent.row, Lnk.row]) ?_
        cases hb : linkIn y ⟨invC x.kind, e.id⟩ with
        | false => simp (decide := true) [int]
        | true =>
          simp (decide := true) [int, I64, lexD]
          exact ⟨⟨by omega, by omega⟩, k + 1, hlm, by omega, by omega⟩
    · have hlm' : ¬ (k : Int) < e.links.length := by omega
      simp (decide := true) [int, lexD, Ent.row, lnkD, hli, hli', ee, e1, hlm', I64]
      exact ⟨⟨by omega, by omega⟩, i + 1, hli, by omega, by omega⟩
  · have hli' : ¬ (i : Int) < l.length := by omega
    simp (decide := true) [int, lexD, hli']
    refine loop_rule mixed (fun i : Nat => { n := 91, next := 0, slots := [(0, .d (lexD l)), (7, .d (int i))], own := [] }) (fun i => i ≤ l.length) (fun i => l.length - i) 0 (by simp) (by simp (decide := true) [int, lexD]) ?_
    intro j hj
    by_cases hlj : j < l.length
    · have hlj' : (j : Int) < l.length := by omega
      obtain ⟨e, ee⟩ : ∃ e, l[j] = e := ⟨_, rfl⟩
      have e1 : l[j]? = some e := by rw [List.getElem?_eq_getElem hlj, ee]
      have r2 := reachF_len l e.id 2
      have r4 := reachF_len l e.id 4
      simp (decide := true) [int, lexD, Ent.row, hlj, hlj', ee, e1]
      refine scall_pure (by rfl) (by rfl) (reach26_ok l e.id 2 hl hk) (by simp [int, lexD]) ?_
      simp (decide := true) [int, ints, lexD, Ent.row, hlj, hlj', ee, e1]
      refine scall_pure (by rfl) (by rfl) (in26_ok (reachF l e.id 2) e.id (by omega)) (by simp [int, ints]) ?_
      by_cases m2 : e.id ∈ reachF l e.id 2
      · simp (decide := true) [int, m2]
      simp (decide := true) [int, lexD, Ent.row, hlj, hlj', ee, e1, m2]
      refine scall_pure (by rfl) (by rfl) (reach26_ok l e.id 4 hl hk) (by simp [int, lexD]) ?_
      simp (decide := true) [int, ints, lexD, Ent.row, hlj, hlj', ee, e1, m2]
      refine scall_pure (by rfl) (by rfl) (in26_ok (reachF l e.id 4) e.id (by omega)) (by simp [int, ints]) ?_
      by_cases m4 : e.id ∈ reachF l e.id 4
      · simp (decide := true) [int, m2, m4]
      · simp (decide := true) [int, m2, m4, I64, lexD]
        exact ⟨⟨by omega, by omega⟩, j + 1, hlj, by omega, by omega⟩
    · have hlj' : ¬ (j : Int) < l.length := by omega
      simp (decide := true) [int, lexD, hlj']
/-- Variants have main entries, and their ways end. -/
structure MainF (l : List Ent) : Prop where
  main : ∀ e ∈ l, e.main ≠ 0 → 0 ≤ findE l e.main
  ends : ∀ e ∈ l, (wayG l (l.length + 1) e.id).length ≤ l.length
set_option maxHeartbeats 8000000 in
theorem check27_ok (l : List Ent) (hl : l.length ≤ 1048576) : PureE Tryz.prog 80 [lexD l] (fun x => ∃ n, x = int n ∧ (n = 0 → MainF l)) := by
  refine some_of_body mixed Tryz.func80 rfl call_80 ?_
  simp (decide := true) [Tryz.f80, int, lexD]
  refine loop_rule mixed (fun i : Nat => { n := 44, next := 0, slots := [(0, .d (lexD l)), (3, .d (int i))], own := [] }) (fun i => i ≤ l.length ∧ ∀ e ∈ l.take i, e.main ≠ 0 → 0 ≤ findE l e.main) (fun i => l.length - i) 0 (by simp) (by simp (decide := true) [int, lexD]) ?_
  intro i ⟨hi, hp⟩
  by_cases hli : i < l.length
  · have hli' : (i : Int) < l.length := by omega
    obtain ⟨e, ee⟩ : ∃ e, l[i] = e := ⟨_, rfl⟩
    have e1 : l[i]? = some e := by rw [List.getElem?_eq_getElem hli, ee]
    have hsn := take_snocG hli
    rw [ee] at hsn
    have hgo : (e.main ≠ 0 → 0 ≤ findE l e.main) → ∀ x ∈ l.take (i + 1), x.main ≠ 0 → 0 ≤ findE l x.main := by
      intro h x hx
      rw [hsn] at hx
      rcases List.mem_append.1 hx with h' | h'
      · exact hp x h'
      · rw [List.mem_singleton] at h'; rw [h']; exact h
    by_cases hm : e.main = 0
    · have hg := hgo (fun h => absurd hm h)
      simp (decide := true) [int, lexD, Ent.row, hli, hli', ee, e1, hm, I64]
      exact ⟨⟨by omega, by omega⟩, i + 1, ⟨hli, hg⟩, by omega, by omega⟩
    · simp (decide := true) [int, lexD, Ent.row, hli, hli', ee, e1, hm, I64]
      refine ECall.pure (by rfl) (find27_ok l e.main (by omega)) (by simp [int, lexD]) ?_
      by_cases c1 : findE l e.main < 0
      · simp (decide := true) [int, c1]
      · have hg := hgo (fun _ => by omega)
        simp (decide := true) [int, c1, I64, lexD]
        exact ⟨⟨by omega, by omega⟩, i + 1, ⟨hli, hg⟩, by omega, by omega⟩
  · have : i = l.length := by omega
    subst this
    rw [List.take_length] at hp
    simp (decide := true) [int, lexD]
    refine loop_rule mixed (fun i : Nat => { n := 44, next := 0, slots := [(0, .d (lexD l)), (4, .d (int i))], own := [] }) (fun i => i ≤ l.length ∧ ∀ e ∈ l.take i, (wayG l (l.length + 1) e.id).length ≤ l.length) (fun i => l.length - i) 0 (by simp) (by simp (decide := true) [int, lexD]) ?_
    intro j ⟨hj, hq⟩
    by_cases hlj : j < l.length
    · have hlj' : (j : Int) < l.length := by omega
      obtain ⟨e, ee⟩ : ∃ e, l[j] = e := ⟨_, rfl⟩
      have e1 : l[j]? = some e := by rw [List.getElem?_eq_getElem hlj, ee]
      have hsn := take_snocG hlj
      rw [ee] at hsn
      simp (decide := true) [int, lexD, Ent.row, hlj, hlj', ee, e1, I64]
      refine ECall.pure (by rfl) (way27_ok l e.id (by omega)) (by simp [int, lexD]) ?_
      by_cases c1 : l.length < (wayG l (l.length + 1) e.id).length
      · have c1' : (l.length : Int) < (wayG l (l.length + 1) e.id).length := by omega
        simp (decide := true) [int, ints, lexD, c1, c1']
      · have c1' : ¬ (l.length : Int) < (wayG l (l.length + 1) e.id).length := by omega
        simp (decide := true) [int, ints, lexD, c1, c1', I64]
        refine ⟨⟨by omega, by omega⟩, j + 1, ⟨hlj, fun x hx => ?_⟩, by omega, by omega⟩
        rw [hsn] at hx
        rcases List.mem_append.1 hx with h' | h'
        · exact hq x h'
        · rw [List.mem_singleton] at h'; rw [h']; omega
    · have : j = l.length := by omega
      subst this
      rw [List.take_length] at hq
      simp (decide := true) [int, lexD]
      exact ⟨hp, hq⟩
end Go.V

/- The check of an entry by the reference of chapter 24: links, references, all; of a lexicon (chapter 25). -/
import Derived.Test.YtgglheknmlfghaaGreatG25
set_option linter.unusedSimpArgs false
set_option linter.unusedVariables false
set_option maxRecDepth 10000
namespace Go.V
open Go Go.Proofs

def precP (a b : Rf) : Bool := decide (a.rcd < b.rcd) || (decide (a.rcd = b.rcd) && decide (a.note < b.note))
theorem prec24_ok (a b : Rf) : PureR Tryz.prog 176 [.agg a.row, .agg b.row] (.bool (precP a b)) := by
  refine pure_of_body mixed Tryz.func176 rfl call_176 ?_
  by_cases h1 : a.rcd < b.rcd
  · simp (decide := true) [Tryz.f176, int, Rf.row, precP, h1]
  · by_cases h2 : a.rcd = b.rcd
    · simp (decide := true) [Tryz.f176, int, Rf.row, precP, h1, h2]
    · simp (decide := true) [Tryz.f176, int, Rf.row, precP, h1, h2]
theorem ref24_ok (a : Rf) : PureR Tryz.prog 175 [.agg a.row] (.bool (identP a.rcd && identP a.note)) := by
  refine pure_of_body mixed Tryz.func175 rfl call_175 ?_
  simp (decide := true) [Tryz.f175, int, Rf.row]
  refine ECall.pure (by rfl) (ident10_ok a.rcd) (by simp [int]) ?_
  cases h : identP a.rcd with
  | false => simp (decide := true) [int]
  | true =>
    simp (decide := true) [int]
    refine ECall.pure (by rfl) (ident10_ok a.note) (by simp [int]) ?_
    simp (decide := true) [int]
set_option maxHeartbeats 8000000 in
theorem refs24_ok (l : List Rf) (n : Int) (hl : l.length ≤ 1048576) : PureE Tryz.prog 156 [rfD l, int n] IsI := by
  refine some_of_body mixed Tryz.func156 rfl call_156 ?_
  by_cases h0 : n < l.length
  · simp (decide := true) [Tryz.f156, int, rfD, h0]
  simp (decide := true) [Tryz.f156, int, rfD, h0]
  refine loop_rule mixed (fun k : Nat => { n := 37, next := 0, slots := [(0, .d (rfD l)), (5, .d (int k))], own := [] })
    (fun k => k ≤ l.length) (fun k => l.length - k) 0 (by simp) (by simp (decide := true) [int, rfD]) ?_
  intro k hk
  by_cases hlt : k < l.length
  · have hlt' : (k : Int) < l.length := by omega
    obtain ⟨x, ex⟩ : ∃ x, l[k] = x := ⟨_, rfl⟩
    have e1 : l[k]? = some x := by rw [List.getElem?_eq_getElem hlt, ex]
    simp (decide := true) [int, rfD, Rf.row, hlt, hlt', e1, ex]
    refine ECall.pure (by rfl) (ref24_ok x) (by simp [int, Rf.row]) ?_
    cases hr : identP x.rcd && identP x.note with
    | false => simp (decide := true) [int]
    | true =>
      by_cases hk0 : k = 0
      · subst hk0
        simp (decide := true) [int, I64, rfD]
        exact ⟨1, hlt, by omega, by omega⟩
      · have hk0' : (0 : Int) < k := by omega
        have hlm : k - 1 < l.length := by omega
        obtain ⟨y, ey⟩ : ∃ y, l[k - 1] = y := ⟨_, rfl⟩
        have ey1 : l[k - 1]? = some y := by rw [List.getElem?_eq_getElem hlm, ey]
        have t1 : ((k : Int) - 1).toNat = k - 1 := by omega
        have t2 : 0 ≤ (k : Int) - 1 := by omega
        have t3 : (k : Int) - 1 < l.length := by omega
        simp (decide := true) [int, I64, rfD, Rf.row, hk0, hk0', hlt, hlt', e1, ex, ey, ey1, t1, t2, t3, hlm]
        intro _
        refine ⟨⟨by omega, by omega⟩, by omega, ?_⟩
        refine scall_pure (by rfl) (by rfl) (prec24_ok y x) (by simp [int, Rf.row]) ?_
        cases hpx : precP y x with
        | false => simp (decide := true) [int]
        | true =>
          simp (decide := true) [int, I64, rfD, hk0']
          exact ⟨⟨by omega, by omega⟩, k + 1, hlt, by omega, by omega⟩
  · have hlt' : ¬ (k : Int) < l.length := by omega
    simp (decide := true) [int, rfD, hlt']
set_option maxHeartbeats 8000000 in
theorem links24_ok (e : Ent) (hl : e.links.length ≤ 1048576) : PureE Tryz.prog 155 [.agg e.row] (fun x => ∃ n, x = int n ∧ (n = 0 → e.links.length ≤ 12 ∧ ∀ l ∈ e.links, 0 ≤ l.kind ∧ l.kind ≤ 5)) := by
  refine some_of_body mixed Tryz.func155 rfl call_155 ?_
  by_cases h0 : (12 : Int) < e.links.length
  · simp (decide := true) [Tryz.f155, int, Ent.row, lnkD, h0]
  simp (decide := true) [Tryz.f155, int, Ent.row, lnkD, h0]
  refine loop_rule mixed (fun k : Nat => { n := 76, next := 1, slots := [(1, .bp 0 0), (3, .d (int k))], own := [(0, .box 59 (e.row.map .d))] })
    (fun k => k ≤ e.links.length ∧ ∀ l ∈ e.links.take k, 0 ≤ l.kind ∧ l.kind ≤ 5) (fun k => e.links.length - k) 0 (by simp) (by simp (decide := true) [int, ints, Ent.row, lnkD]) ?_
  intro k ⟨hk, hp⟩
  by_cases hlt : k < e.links.length
  · have hlt' : (k : Int) < e.links.length := by omega
    obtain ⟨x, ex⟩ : ∃ x, e.links[k] = x := ⟨_, rfl⟩
    have e1 : e.links[k]? = some x := by rw [List.getElem?_eq_getElem hlt, ex]
    have hsn := take_snocG hlt
    rw [ex] at hsn
    by_cases b1 : x.kind < 0
    · simp (decide := true) [int, ints, Ent.row, lnkD, Lnk.row, hlt, hlt', e1, ex, b1]
    by_cases b2 : 5 < x.kind
    · simp (decide := true) [int, ints, Ent.row, lnkD, Lnk.row, hlt, hlt', e1, ex, b1, b2]
    have hgo : ∀ z ∈ e.links.take (k + 1), 0 ≤ z.kind ∧ z.kind ≤ 5 := by
      intro z hz
      rw [hsn] at hz
      rcases List.mem_append.1 hz with h | h
      · exact hp z h
      · rw [List.mem_singleton] at h; rw [h]; omega
    simp (decide := true) [int, ints, Ent.row, lnkD, Lnk.row, hlt, hlt', e1, ex, b1, b2]
    refine ECall.pure (by rfl) (ident10_ok x.dst) (by simp [int]) ?_
    cases hr : identP x.dst with
    | false => simp (decide := true) [int]
    | true =>
      by_cases b3 : x.dst = e.id
      · simp (decide := true) [int, b3]
      by_cases hk0 : k = 0
      · subst hk0
        simp (decide := true) [int, ints, Ent.row, lnkD, Lnk.row, I64, b3]
        exact ⟨1, ⟨hlt, hgo⟩, by omega, by omega⟩
      · have hk0' : (0 : Int) < k := by omega
        have hlm : k - 1 < e.links.length := by omega
        obtain ⟨y, ey⟩ : ∃ y, e.links[k - 1] = y := ⟨_, rfl⟩
        have ey1 : e.links[k - 1]? = some y := by rw [List.getElem?_eq_getElem hlm, ey]
        have t1 : ((k : Int) - 1).toNat = k - 1 := by omega
        have t2 : 0 ≤ (k : Int) - 1 := by omega
        have t3 : (k : Int) - 1 < e.links.length := by omega
        by_cases c1 : x.kind < y.kind
        · simp (decide := true) [int, ints, Ent.row, lnkD, Lnk.row, I64, b3, hk0, hk0', hlt, hlt', e1, ex, ey, ey1, t1, t2, t3, hlm, c1]
          exact fun _ => ⟨⟨by omega, by omega⟩, by omega⟩
        · by_cases c2 : x.kind = y.kind
          · by_cases c3 : x.dst ≤ y.dst
            · simp (decide := true) [int, ints, Ent.row, lnkD, Lnk.row, I64, b3, hk0, hk0', hlt, hlt', e1, ex, ey, ey1, t1, t2, t3, hlm, c1, c2, c3]
              exact fun _ => ⟨⟨by omega, by omega⟩, by omega, ⟨by omega, by omega⟩, by omega, ⟨by omega, by omega⟩, by omega⟩
            · simp (decide := true) [int, ints, Ent.row, lnkD, Lnk.row, I64, b3, hk0, hk0', hlt, hlt', e1, ex, ey, ey1, t1, t2, t3, hlm, c1, c2, c3]
              exact fun _ => ⟨⟨by omega, by omega⟩, by omega, ⟨by omega, by omega⟩, by omega, ⟨by omega, by omega⟩, by omega, ⟨by omega, by omega⟩, k + 1, ⟨hlt, hgo⟩, by omega, by omega⟩
          · simp (decide := true) [int, ints, Ent.row, lnkD, Lnk.row, I64, b3, hk0, hk0', hlt, hlt', e1, ex, ey, ey1, t1, t2, t3, hlm, c1, c2]
            exact fun _ => ⟨⟨by omega, by omega⟩, by omega, ⟨by omega, by omega⟩, by omega, ⟨by omega, by omega⟩, k + 1, ⟨hlt, hgo⟩, by omega, by omega⟩
  · have : k = e.links.length := by omega
    subst this
    rw [List.take_length] at hp
    simp (decide := true) [int, ints, Ent.row, lnkD]
    exact ⟨by omega, hp⟩
structure EntF (inv : List Phon) (e : Ent) : Prop extends WordsF inv e where
  senses : e.senses ≠ [] ∨ e.main ≠ 0
  links : e.links.length ≤ 12
  kinds : ∀ l ∈ e.links, 0 ≤ l.kind ∧ l.kind ≤ 5
set_option maxHeartbeats 4000000 in
theorem check24_ok (inv : List Phon) (e : Ent) (he : EntC e) : PureE Tryz.prog 118 [.agg [invD inv], .agg e.row] (fun x => ∃ n, x = int n ∧ (n = 0 → EntF inv e)) := by
  refine some_of_body mixed Tryz.func118 rfl call_118 ?_
  simp (decide := true) [Tryz.f118, int, Ent.row]
  refine ECall.some (by rfl) (words24_ok inv e he) ?_
  rintro r ⟨n, rfl, hW⟩
  by_cases h1 : n = 0
  case neg => simp (decide := true) [int, h1]
  have hW := hW h1
  simp (decide := true) [int, h1]
  refine ECall.some (by rfl) (senses24_ok e he) ?_
  rintro r ⟨m, rfl, hS⟩
  by_cases h2 : m = 0
  case neg => simp (decide := true) [int, h2]
  have hS := hS h2
  simp (decide := true) [int, h2]
  refine ECall.some (by rfl) (links24_ok e he.links) ?_
  rintro r ⟨j, rfl, hL⟩
  by_cases h3 : j = 0
  case neg => simp (decide := true) [int, h3]
  have hL := hL h3
  simp (decide := true) [int, h3]
  refine ECall.some (by rfl) (refs24_ok e.refs 12 he.refs) ?_
  rintro r ⟨i, rfl⟩
  simp (decide := true) [int]
  exact fun _ => ⟨hW, hS, hL.1, hL.2⟩
end Go.V

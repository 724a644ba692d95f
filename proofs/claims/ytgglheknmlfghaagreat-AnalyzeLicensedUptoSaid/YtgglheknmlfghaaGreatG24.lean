/- The check of an entry by the reference of chapter 24: words, senses. -/
import Derived.Test.YtgglheknmlfghaaGreatG23
set_option linter.unusedSimpArgs false
set_option linter.unusedVariables false
set_option maxRecDepth 10000
namespace Go.V
open Go Go.Proofs

def identP (n : Int) : Bool := decide (1 ≤ n ∧ n ≤ 1099511627776)
theorem ident10_ok (n : Int) : PureR Tryz.prog 173 [int n] (.bool (identP n)) := by
  refine pure_of_body mixed Tryz.func173 rfl call_173 ?_
  by_cases h0 : 1 ≤ n
  · simp (decide := true) [Tryz.f173, int, identP, h0]
  · simp (decide := true) [Tryz.f173, int, identP, h0]
def wordC (inv : List Phon) (w : List Int) : Int := if w.length = 0 then 4 else if 24 < w.length then 5 else if (w.all fun x => isSeg inv x) = true then 0 else 19
set_option maxHeartbeats 4000000 in
theorem word16_ok (inv : List Phon) (w : List Int) (hw : w.length ≤ 1048576) : PureR Tryz.prog 52 [.agg [invD inv], ints w] (int (wordC inv w)) := by
  refine pure_of_body mixed Tryz.func52 rfl call_52 ?_
  obtain ⟨R, hR⟩ : ∃ R, wordC inv w = R := ⟨_, rfl⟩
  rw [hR]
  unfold wordC at hR
  by_cases h0 : w.length = 0
  · rw [if_pos h0] at hR
    subst hR
    have h0' : (w.length : Int) = 0 := by omega
    simp (decide := true) [Tryz.f52, int, ints, h0, h0']
    done
  rw [if_neg h0] at hR
  have h0' : ¬ (w.length : Int) = 0 := by omega
  by_cases h1 : 24 < w.length
  · rw [if_pos h1] at hR
    subst hR
    have h1' : (24 : Int) < w.length := by omega
    simp (decide := true) [Tryz.f52, int, ints, h0, h0', h1, h1']
    done
  rw [if_neg h1] at hR
  have h1' : ¬ (24 : Int) < w.length := by omega
  simp (decide := true) [Tryz.f52, int, ints, h0, h0', h1, h1']
  refine loop_rule mixed (fun k : Nat => { n := 25, next := 1, slots := [(1, .d (ints w)), (2, .bp 0 0), (13, .d (int w.length)), (14, .d (int k))], own := [(0, .box 24 [.d (invD inv)])] })
    (fun k => k ≤ w.length ∧ ∀ x ∈ w.take k, isSeg inv x = true) (fun k => w.length - k) 0 (by simp) (by simp (decide := true) [int, ints]) ?_
  intro k ⟨hk, hp⟩
  by_cases hlt : k < w.length
  · have hlt' : (k : Int) < w.length := by omega
    have hmem := List.getElem_mem hlt
    obtain ⟨x, ex⟩ : ∃ x, w[k] = x := ⟨_, rfl⟩
    have ex1 : w[k]? = some x := by rw [List.getElem?_eq_getElem hlt, ex]
    have hsn := take_snocG hlt
    rw [ex] at hsn hmem
    simp (decide := true) [int, ints, hlt, hlt', ex, ex1]
    refine scall_pure (by rfl) (by rfl) (refIs_ok inv x) (by simp [int]) ?_
    cases hs : isSeg inv x with
    | false =>
      have : ¬ (w.all fun x => isSeg inv x) = true := by
        rw [List.all_eq_true]; intro h; rw [h x hmem] at hs; cases hs
      rw [if_neg this] at hR
      subst hR
      simp (decide := true) [int]
    | true =>
      simp (decide := true) [int]
      refine ⟨⟨by omega, by omega⟩, k + 1, ⟨hlt, fun y hy => ?_⟩, by omega, by omega⟩
      rw [hsn] at hy
      rcases List.mem_append.1 hy with h | h
      · exact hp y h
      · rw [List.mem_singleton] at h; rw [h]; exact hs
  · have : k = w.length := by omega
    subst this
    rw [List.take_length] at hp
    rw [if_pos (List.all_eq_true.2 hp)] at hR
    subst hR
    simp (decide := true) [int, ints]
structure WordF (inv : List Phon) (w : List Int) : Prop where
  pos : 1 ≤ w.length
  len : w.length ≤ 24
  segs : ∀ x ∈ w, isSeg inv x = true
theorem wordC_zero {inv : List Phon} {w : List Int} (h : wordC inv w = 0) : WordF inv w := by
  unfold wordC at h
  split at h
  · cases h
  split at h
  · cases h
  split at h
  · rename_i h3; exact ⟨by omega, by omega, List.all_eq_true.1 h3⟩
  · cases h
structure EntC (e : Ent) : Prop where
  form : e.form.length ≤ 1048576
  alts : e.alts.length ≤ 1048576 ∧ ∀ w ∈ e.alts, w.length ≤ 1048576
  senses : e.senses.length ≤ 1048576 ∧ ∀ s ∈ e.senses, s.gloss.size ≤ 1048576 ∧ s.defn.size ≤ 1048576
  links : e.links.length ≤ 1048576
  refs : e.refs.length ≤ 1048576
structure WordsF (inv : List Phon) (e : Ent) : Prop where
  id : identP e.id = true
  form : WordF inv e.form
  cls : 1 ≤ e.cls ∧ e.cls ≤ 20
  alts : ∀ w ∈ e.alts, WordF inv w
set_option maxHeartbeats 8000000 in
theorem words24_ok (inv : List Phon) (e : Ent) (he : EntC e) : PureE Tryz.prog 153 [.agg [invD inv], .agg e.row] (fun x => ∃ n, x = int n ∧ (n = 0 → WordsF inv e)) := by
  have hfl := he.form
  have hal := he.alts.1
  refine some_of_body mixed Tryz.func153 rfl call_153 ?_
  simp (decide := true) [Tryz.f153, int, Ent.row]
  refine ECall.pure (by rfl) (ident10_ok e.id) (by simp [int]) ?_
  cases hid : identP e.id with
  | false => simp (decide := true) [int]
  | true =>
    simp (decide := true) [int]
    refine ECall.pure (by rfl) (word16_ok inv e.form hfl) (by simp [int]) ?_
    by_cases hw : wordC inv e.form = 0
    case neg => simp (decide := true) [int, hw]
    by_cases c1 : e.cls < 1
    · simp (decide := true) [int, hw, c1]
    by_cases c2 : 20 < e.cls
    · simp (decide := true) [int, hw, c1, c2]
    by_cases c3 : (3 : Int) < e.alts.length
    · simp (decide := true) [int, hw, listsD, c1, c2, c3]
    simp (decide := true) [int, hw, listsD, c1, c2, c3]
    refine loop_rule mixed (fun k : Nat => { n := 73, next := 2, slots := [(2, .bp 0 0), (3, .bp 1 0), (6, .d (int k))], own := [(0, .box 24 [.d (invD inv)]), (1, .box 59 (e.row.map .d))] })
      (fun k => k ≤ e.alts.length ∧ ∀ w ∈ e.alts.take k, WordF inv w) (fun k => e.alts.length - k) 0 (by simp) (by simp (decide := true) [int, ints, Ent.row, listsD]) ?_
    intro k ⟨hk, hp⟩
    by_cases hlt : k < e.alts.length
    · have hlt' : (k : Int) < e.alts.length := by omega
      have hkl := he.alts.2 e.alts[k] (List.getElem_mem hlt)
      obtain ⟨w, ew⟩ : ∃ w, e.alts[k] = w := ⟨_, rfl⟩
      have ew1 : e.alts[k]? = some w := by rw [List.getElem?_eq_getElem hlt, ew]
      have hsn := take_snocG hlt
      rw [ew] at hsn hkl
      simp (decide := true) [int, ints, listsD, Ent.row, hlt, hlt', ew, ew1]
      refine scall_pure (by rfl) (by rfl) (word16_ok inv w hkl) (by simp [int, ints]) ?_
      by_cases hz : wordC inv w = 0
      case neg => simp (decide := true) [int, hz]
      simp (decide := true) [int, ints, listsD, Ent.row, hz, hlt, hlt', ew, ew1]
      refine scall_pure (by rfl) (by rfl) (refSame01_ok w e.form (by omega) (by omega)) (by simp [int, ints]) ?_
      by_cases hs : w = e.form
      · simp (decide := true) [int, hs]
      simp (decide := true) [int, ints, listsD, Ent.row, hs]
      refine loop_rule mixed (fun m : Nat => { n := 73, next := 2, slots := [(2, .bp 0 0), (3, .bp 1 0), (6, .d (int k)), (8, .d (int m))], own := [(0, .box 24 [.d (invD inv)]), (1, .box 59 (e.row.map .d))] })
        (fun m => m ≤ k) (fun m => k - m) 0 (by simp) (by simp (decide := true) [int, ints, Ent.row, listsD]) ?_
      intro m hm
      by_cases hlm : m < k
      · have hlm' : (m : Int) < k := by omega
        have hml : m < e.alts.length := by omega
        have hml' : (m : Int) < e.alts.length := by omega
        have hyl := he.alts.2 e.alts[m] (List.getElem_mem hml)
        obtain ⟨y, ey⟩ : ∃ y, e.alts[m] = y := ⟨_, rfl⟩
        have ey1 : e.alts[m]? = some y := by rw [List.getElem?_eq_getElem hml, ey]
        rw [ey] at hyl
        simp (decide := true) [int, ints, listsD, Ent.row, hlm, hlm', hml, hml', hlt, hlt', ew, ew1, ey, ey1]
        refine scall_pure (by rfl) (by rfl) (refSame01_ok w y (by omega) (by omega)) (by simp [int, ints]) ?_
        by_cases hs2 : w = y
        · simp (decide := true) [int, hs2]
        · simp (decide := true) [int, hs2, I64, ints, listsD, Ent.row]
          exact ⟨⟨by omega, by omega⟩, m + 1, hlm, by omega, by omega⟩
      · have hlm' : ¬ (m : Int) < k := by omega
        simp (decide := true) [int, ints, listsD, Ent.row, hlm', I64]
        refine ⟨⟨by omega, by omega⟩, k + 1, ⟨hlt, fun y hy => ?_⟩, by omega, by omega⟩
        rw [hsn] at hy
        rcases List.mem_append.1 hy with h | h
        · exact hp y h
        · rw [List.mem_singleton] at h; rw [h]; exact wordC_zero hz
    · have : k = e.alts.length := by omega
      subst this
      rw [List.take_length] at hp
      simp (decide := true) [int, ints, listsD, Ent.row]
      exact ⟨hid, wordC_zero hw, ⟨by omega, by omega⟩, hp⟩
end Go.V

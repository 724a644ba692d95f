/- The check of a lexicon by the reference of chapter 25. -/
import Derived.Test.YtgglheknmlfghaaGreatG26
set_option linter.unusedSimpArgs false
set_option linter.unusedVariables false
set_option maxRecDepth 10000
namespace Go.V
open Go Go.Proofs

theorem has25_ok (l : List Ent) (id : Int) (hl : l.length < 2^40) : PureR Tryz.prog 119 [lexD l, int id] (.bool (getE l id).2) := by
  refine pure_of_body mixed Tryz.func119 rfl call_119 ?_
  have hG := get25_ok l id (by omega)
  generalize getE l id = r at hG ⊢
  obtain ⟨e, ok⟩ := r
  simp (decide := true) [Tryz.f119, int, lexD]
  refine ECall.pure (by rfl) hG (by simp [lexD, int]) ?_
  simp (decide := true) [int, Ent.row]
structure LexC (l : List Ent) : Prop where
  few : l.length ≤ 1048576
  each : ∀ e ∈ l, EntC e
structure LexF (inv : List Phon) (l : List Ent) : Prop where
  each : ∀ e ∈ l, EntF inv e
  up : ∀ k (h : k + 1 < l.length), l[k].id < l[k + 1].id
set_option maxHeartbeats 16000000 in
theorem check25_ok (inv : List Phon) (l : List Ent) (hl : LexC l) : PureE Tryz.prog 78 [.agg [invD inv], lexD l] (fun x => ∃ n, x = int n ∧ (n = 0 → LexF inv l)) := by
  have hfew := hl.few
  refine some_of_body mixed Tryz.func78 rfl call_78 ?_
  by_cases h0 : (100 : Int) < l.length
  · simp (decide := true) [Tryz.f78, int, lexD, h0]
  simp (decide := true) [Tryz.f78, int, lexD, h0]
  refine loop_ruleT mixed (fun k : Nat => { n := 87, next := 1, slots := [(1, .d (lexD l)), (2, .bp 0 0), (13, .d (int l.length)), (14, .d (int k))], own := [(0, .box 24 [.d (invD inv)])] })
    (fun k => k ≤ l.length ∧ (∀ e ∈ l.take k, EntF inv e) ∧ ∀ j (h : j + 1 < l.length), j + 1 < k → l[j].id < l[j + 1].id) (fun k => l.length - k) 0 ⟨by simp, by simp, fun j h h' => absurd h' (by omega)⟩ (by simp (decide := true) [int, ints, lexD]) ?_
  intro k ⟨hk, hp, hup⟩
  by_cases hlt : k < l.length
  · have hlt' : (k : Int) < l.length := by omega
    have hC := hl.each l[k] (List.getElem_mem hlt)
    obtain ⟨e, ee⟩ : ∃ e, l[k] = e := ⟨_, rfl⟩
    have e1 : l[k]? = some e := by rw [List.getElem?_eq_getElem hlt, ee]
    have hsn := take_snocG hlt
    rw [ee] at hsn hC
    have hE := check24_ok inv e hC
    refine cut_ev mixed 2 { n := 87, next := 1, slots := [(1, .d (lexD l)), (2, .bp 0 0), (13, .d (int l.length)), (14, .d (int k))], own := [(0, .box 24 [.d (invD inv)])] } rfl (by simp (decide := true) [headC, cutK, int, lexD, hlt, hlt']) ?_
    simp only [tailC]
    refine triple_seqE (triple_block (cut_ev mixed 1 { n := 87, next := 1, slots := [(1, .d (lexD l)), (2, .bp 0 0), (5, .d (int k)), (13, .d (int l.length)), (14, .d (int k))], own := [(0, .box 24 [.d (invD inv)])] } rfl (by simp (decide := true) [headC, cutK, int, lexD]) ?_)) mixed
    simp only [tailC]
    refine triple_seqE ?_ mixed
    refine draw_t mixed 5 (by rfl) (by rfl) (by rfl) (by rfl) (by simp) ?_
    simp (decide := true) [int, lexD, Ent.row, hlt, hlt', ee, e1]
    refine ECall.some (by rfl) hE ?_
    rintro r ⟨n, rfl, hF⟩
    by_cases hn : n = 0
    case neg => simp (decide := true) [int, hn]
    have hF := hF hn
    have hgo : ∀ x ∈ l.take (k + 1), EntF inv x := by
      intro x hx
      rw [hsn] at hx
      rcases List.mem_append.1 hx with h | h
      · exact hp x h
      · rw [List.mem_singleton] at h; rw [h]; exact hF
    by_cases hk0 : k = 0
    · subst hk0
      simp (decide := true) [int, hn, lexD, I64]
      exact ⟨1, ⟨hlt, hgo, fun j h h' => absurd h' (by omega)⟩, by omega, by omega⟩
    · have hk0' : (0 : Int) < k := by omega
      have hlm : k - 1 < l.length := by omega
      obtain ⟨y, ey⟩ : ∃ y, l[k - 1] = y := ⟨_, rfl⟩
      have ey1 : l[k - 1]? = some y := by rw [List.getElem?_eq_getElem hlm, ey]
      have t1 : ((k : Int) - 1).toNat = k - 1 := by omega
      have t2 : 0 ≤ (k : Int) - 1 := by omega
      have t3 : (k : Int) - 1 < l.length := by omega
      by_cases c1 : e.id ≤ y.id
      · simp (decide := true) [int, hn, lexD, Ent.row, I64, hk0, hk0', hlt, hlt', e1, ee, ey, ey1, t1, t2, t3, hlm, c1]
        exact fun _ => ⟨⟨by omega, by omega⟩, by omega⟩
      · simp (decide := true) [int, hn, lexD, Ent.row, I64, hk0, hk0', hlt, hlt', e1, ee, ey, ey1, t1, t2, t3, hlm, c1]
        refine fun _ => ⟨⟨by omega, by omega⟩, by omega, ⟨by omega, by omega⟩, k + 1, ⟨hlt, hgo, fun j h h' => ?_⟩, by omega, by omega⟩
        by_cases hj : j + 1 < k
        · exact hup j h hj
        · have hj1 : j = k - 1 := by omega
          subst hj1
          have hk1 : k - 1 + 1 = k := by omega
          have : l[k - 1 + 1] = e := by rw [← ee]; congr 1
          rw [ey, this]; omega
  · have : k = l.length := by omega
    subst this
    rw [List.take_length] at hp
    refine ev_sound mixed ?_
    simp (decide := true) [int, lexD]
    have hsimp : LexF inv l := ⟨hp, fun j h => hup j h h⟩
    refine loop_rule mixed (fun k : Nat => { n := 87, next := 1, slots := [(1, .d (lexD l)), (2, .bp 0 0), (44, .d (int l.length)), (45, .d (int k))], own := [(0, .box 24 [.d (invD inv)])] })
      (fun k => k ≤ l.length) (fun k => l.length - k) 0 (by simp) (by simp (decide := true) [int, ints, lexD]) ?_
    intro i hi
    by_cases hli : i < l.length
    · have hli' : (i : Int) < l.length := by omega
      have hlk := (hp l[i] (List.getElem_mem hli)).links
      obtain ⟨e, ee⟩ : ∃ e, l[i] = e := ⟨_, rfl⟩
      have e1 : l[i]? = some e := by rw [List.getElem?_eq_getElem hli, ee]
      rw [ee] at hlk
      by_cases hm : e.main = 0
      · simp (decide := true) [int, lexD, Ent.row, lnkD, hli, hli', e1, ee, hm, I64]
        refine loop_rule mixed (fun m : Nat => { n := 87, next := 1, slots := [(1, .d (lexD l)), (2, .bp 0 0), (7, .d (int i)), (44, .d (int l.length)), (45, .d (int i)), (69, .d (int e.links.length)), (70, .d (int m))], own := [(0, .box 24 [.d (invD inv)])] })
          (fun m => m ≤ e.links.length) (fun m => e.links.length - m) 0 (by simp) (by simp (decide := true) [int, ints, lexD]) ?_
        intro m hm2
        by_cases hlm : m < e.links.length
        · have hlm' : (m : Int) < e.links.length := by omega
          obtain ⟨y, ey⟩ : ∃ y, e.links[m] = y := ⟨_, rfl⟩
          have ey1 : e.links[m]? = some y := by rw [List.getElem?_eq_getElem hlm, ey]
          simp (decide := true) [int, lexD, Ent.row, lnkD, Lnk.row, hli, hli', e1, ee, hlm, hlm', ey, ey1, I64]
          refine ECall.pure (by rfl) (has25_ok l y.dst (by omega)) (by simp [int, lexD]) ?_
          cases hg2 : (getE l y.dst).2 with
          | false => simp (decide := true) [int]
          | true =>
            simp (decide := true) [int, I64, lexD]
            exact ⟨⟨by omega, by omega⟩, m + 1, hlm, by omega, by omega⟩
        · have hlm' : ¬ (m : Int) < e.links.length := by omega
          simp (decide := true) [int, lexD, hlm', I64]
          exact ⟨⟨by omega, by omega⟩, i + 1, hli, by omega, by omega⟩
      · simp (decide := true) [int, lexD, Ent.row, lnkD, hli, hli', e1, ee, hm, I64]
        refine ECall.pure (by rfl) (has25_ok l e.main (by omega)) (by simp [int, lexD]) ?_
        cases hg : (getE l e.main).2 with
        | false => simp (decide := true) [int]
        | true =>
          simp (decide := true) [int, lexD, Ent.row, lnkD, hli, hli', e1, ee, hm, I64]
          refine loop_rule mixed (fun m : Nat => { n := 87, next := 1, slots := [(1, .d (lexD l)), (2, .bp 0 0), (7, .d (int i)), (44, .d (int l.length)), (45, .d (int i)), (69, .d (int e.links.length)), (70, .d (int m))], own := [(0, .box 24 [.d (invD inv)])] })
            (fun m => m ≤ e.links.length) (fun m => e.links.length - m) 0 (by simp) (by simp (decide := true) [int, ints, lexD]) ?_
          intro m hm2
          by_cases hlm : m < e.links.length
          · have hlm' : (m : Int) < e.links.length := by omega
            obtain ⟨y, ey⟩ : ∃ y, e.links[m] = y := ⟨_, rfl⟩
            have ey1 : e.links[m]? = some y := by rw [List.getElem?_eq_getElem hlm, ey]
            simp (decide := true) [int, lexD, Ent.row, lnkD, Lnk.row, hli, hli', e1, ee, hlm, hlm', ey, ey1, I64]
            refine ECall.pure (by rfl) (has25_ok l y.dst (by omega)) (by simp [int, lexD]) ?_
            cases hg2 : (getE l y.dst).2 with
            | false => simp (decide := true) [int]
            | true =>
              simp (decide := true) [int, I64, lexD]
              exact ⟨⟨by omega, by omega⟩, m + 1, hlm, by omega, by omega⟩
          · have hlm' : ¬ (m : Int) < e.links.length := by omega
            simp (decide := true) [int, lexD, hlm', I64]
            exact ⟨⟨by omega, by omega⟩, i + 1, hli, by omega, by omega⟩
    · have hli' : ¬ (i : Int) < l.length := by omega
      simp (decide := true) [int, lexD, hli']
      exact hsimp
end Go.V

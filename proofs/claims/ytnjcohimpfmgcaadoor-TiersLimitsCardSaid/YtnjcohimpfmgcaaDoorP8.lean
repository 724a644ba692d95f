/- What Check makes of a document of one root tier with n notes of a millisecond each. -/
import Derived.Test.YtnjcohimpfmgcaaDoorP7
set_option linter.unusedSimpArgs false
set_option linter.unusedVariables false
set_option maxRecDepth 10000
namespace Go.V
open Go Go.Proofs

def limN (i : Nat) : Nt := ⟨(i : Int) + 1, 0, 0, i, (i : Int) + 1, 0, ⟨#[]⟩⟩
def limNotes (n : Nat) : List Nt := (List.range n).map limN
def limT : Tir := ⟨⟨#[97]⟩, 0, 0, -1⟩
def limDoc (n : Nat) (len : Int) : Dc := ⟨0, ⟨#[]⟩, len, 0, [], [limT], limNotes n⟩
theorem lim_tiers : tiersE [limT] = 0 := by decide +kernel
theorem lim_text : textE ⟨#[]⟩ = 0 := by decide +kernel
theorem lim_len (n : Nat) : (limNotes n).length = n := by simp [limNotes]
theorem lim_get {n i : Nat} (h : i < n) : (limNotes n)[i]? = some (limN i) := by
  unfold limNotes
  rw [List.getElem?_map, List.getElem?_range h]; rfl
theorem lim_within {n i : Nat} (len : Int) (h : i < 320) (q : Nt) : withinP (limDoc n len) (limN i) q = decide ((i : Int) < len) := by
  have ht : tirAt (limDoc n len) (limN i).tier = limT := rfl
  have ha : alT (limDoc n len).tiers (limN i).tier = true := by show alT [limT] 0 = true; decide +kernel
  have hr : rightS (limN i).fr (limN i).to = true := by
    show rightS (i : Int) ((i : Int) + 1) = true
    simp only [rightS, Bool.and_eq_true, decide_eq_true_eq]; omega
  have hk : limT.kind = 0 := rfl
  have hl : (limDoc n len).len = len := rfl
  unfold withinP
  rw [if_pos ha, hr, ht, if_pos hk, hl]
  rw [Bool.true_and]
  by_cases hc : (i : Int) < len
  · rw [decide_eq_true hc, Bool.and_eq_true]
    exact ⟨decide_eq_true (by show (0 : Int) ≤ (i : Int); omega), decide_eq_true (by show (i : Int) + 1 ≤ len; omega)⟩
  · rw [decide_eq_false hc, Bool.and_eq_false_iff]
    exact .inr (decide_eq_false (by show ¬ ((i : Int) + 1 ≤ len); omega))
theorem lim_note {n i : Nat} (len : Int) (h : i < 320) : noteE (limDoc n len) (limN i) = if (i : Int) < len then 0 else 12 := by
  have ht : tirAt (limDoc n len) (limN i).tier = limT := rfl
  have hx : textE (limN i).text = 0 := lim_text
  have hk : limT.kind = 0 := rfl
  unfold noteE
  rw [if_pos hx, ht, lim_within len h]
  simp only [hk, if_true]
  rw [if_pos (by simp [limN])]
  by_cases hl : (i : Int) < len
  · rw [if_pos hl, if_pos (by simpa using hl)]
    simp [limN]
  · rw [if_neg hl, if_neg (by simpa using hl)]
theorem lim_notes {n : Nat} {len : Int} (hn : n ≤ 300) : ∀ (m i : Nat), n = i + m → notesGo (limDoc n len) m i = if (n : Int) ≤ len ∨ n ≤ i then 0 else 12
  | 0, i, h => by
    simp only [notesGo]
    rw [if_pos (Or.inr (by omega))]
  | m + 1, i, h => by
    have hlt : i < (limDoc n len).notes.length := by show i < (limNotes n).length; rw [lim_len]; omega
    have e1 : (limDoc n len).notes[i]? = some (limN i) := lim_get (by omega)
    simp only [notesGo, if_pos hlt, e1, Option.getD_some]
    rw [if_neg (by simp only [limN]; omega)]
    rw [if_neg (by
      rintro ⟨h0, h1⟩
      obtain ⟨j, rfl⟩ : ∃ j, i = j + 1 := ⟨i - 1, by omega⟩
      have e2 : (limDoc n len).notes[j + 1 - 1]? = some (limN j) := lim_get (by omega)
      rw [e2] at h1
      simp only [limN, Option.getD_some] at h1
      omega)]
    rw [if_neg (by simp only [limN, limDoc, List.length_singleton]; omega)]
    rw [lim_note len (by omega), lim_notes hn m (i + 1) (by omega)]
    by_cases hl : (i : Int) < len
    · rw [if_pos hl]
      simp only [if_true]
      by_cases hc : (n : Int) ≤ len
      · rw [if_pos (Or.inl hc), if_pos (Or.inl hc)]
      · rw [if_neg (by omega), if_neg (by omega)]
    · rw [if_neg hl]
      rw [if_neg (by omega : ¬ (12 : Int) = 0), if_neg (by omega)]
theorem lim_scan (notes s : List Nt) (h : ∀ i, i + 1 < s.length → ((s[i]?.getD default).to ≤ (s[i + 1]?.getD default).fr)) : ∀ (m i : Nat), tierGo notes 0 s m i 0 = 0
  | 0, i => rfl
  | m + 1, i => by
    simp only [tierGo]
    split
    · rename_i hlt
      simp only [true_or, if_true]
      rw [if_neg (by
        rintro ⟨h0, h1⟩
        have hi : i ≠ 0 := by intro e; subst e; simp [firstB] at h0
        obtain ⟨j, rfl⟩ : ∃ j, i = j + 1 := ⟨i - 1, by omega⟩
        have := h j hlt
        simp only [Nat.add_sub_cancel] at h1
        omega)]
      simp only [show ¬ ((0 : Int) = 1) by omega, false_and, if_false]
      exact lim_scan notes s h m (i + 1)
    · rfl
theorem lim_tier (n : Nat) (len : Int) : tierE (limDoc n len) 0 = 0 := by
  have hk : (tirAt (limDoc n len) 0).kind = 0 := rfl
  unfold tierE
  rw [hk]
  refine lim_scan _ _ ?_ _ _
  have hp := sortN_perm (ofT (limDoc n len).notes 0)
  have hs := sortN_sorted (ofT (limDoc n len).notes 0)
  generalize sortN (ofT (limDoc n len).notes 0) = s at hp hs
  have hmem : ∀ x ∈ s, ∃ i, x = limN i := by
    intro x hx
    have := (List.mem_filter.1 (hp.mem_iff.1 hx)).1
    obtain ⟨i, _, rfl⟩ := List.mem_map.1 (show x ∈ limNotes n from this)
    exact ⟨i, rfl⟩
  have hnd : s.Nodup := by
    rw [hp.nodup_iff]
    refine List.Nodup.sublist List.filter_sublist ?_
    show (limNotes n).Nodup
    unfold limNotes
    refine List.Pairwise.map limN ?_ List.nodup_range
    intro a b hab e
    have := congrArg Nt.fr e
    simp only [limN] at this
    exact hab (by omega)
  intro i hi
  have h1 : i < s.length := by omega
  rw [List.getElem?_eq_getElem h1, List.getElem?_eq_getElem hi]
  simp only [Option.getD_some]
  have hsort := (List.pairwise_iff_getElem.1 hs) i (i + 1) h1 hi (by omega)
  have hne := (List.pairwise_iff_getElem.1 hnd) i (i + 1) h1 hi (by omega)
  obtain ⟨a, ea⟩ := hmem s[i] (List.getElem_mem h1)
  obtain ⟨b, eb⟩ := hmem s[i + 1] (List.getElem_mem hi)
  rw [ea, eb] at hsort hne ⊢
  have hsort' := ltN_false.1 hsort
  have hs2 : ¬ ((b : Int) < (a : Int)) := fun h => hsort' (Or.inr ⟨rfl, Or.inl h⟩)
  show (a : Int) + 1 ≤ (b : Int)
  have : a ≠ b := fun e => hne (by rw [e])
  omega
theorem lim_check {n : Nat} {len : Int} (hn : n ≤ 320) : checkE (limDoc n len) = if len < 0 ∨ 86400000 < len then 12 else if 300 < n then 11 else if len < n then 12 else 0 := by
  have e1 : tiersE (limDoc n len).tiers = 0 := lim_tiers
  have e2 : (limDoc n len).notes.length = n := lim_len n
  have e3 : (limDoc n len).len = len := rfl
  unfold checkE
  rw [e1, e2, e3]
  rw [if_neg (by simp)]
  by_cases h1 : len < 0 ∨ 86400000 < len
  · rw [if_pos h1, if_pos h1]
  rw [if_neg h1, if_neg h1]
  by_cases h2 : 300 < n
  · rw [if_pos h2, if_pos h2]
  rw [if_neg h2, if_neg h2]
  rw [lim_notes (by omega) n 0 (by omega)]
  by_cases h3 : len < n
  · rw [if_pos h3]
    have h0 : ¬ ((n : Int) ≤ len ∨ n ≤ 0) := by omega
    rw [if_neg h0]
    simp
  · rw [if_neg h3]
    have h0 : ((n : Int) ≤ len ∨ n ≤ 0) := by omega
    rw [if_pos h0]
    have ht : (limDoc n len).tiers.length = 1 := rfl
    have hz : tierE (limDoc n len) ((0 : Nat) : Int) = 0 := lim_tier n len
    rw [if_neg (by simp)]
    show tierGos (limDoc n len) 1 0 = 0
    simp only [tierGos]
    rw [if_pos (by rw [ht]; omega), if_pos hz]
end Go.V

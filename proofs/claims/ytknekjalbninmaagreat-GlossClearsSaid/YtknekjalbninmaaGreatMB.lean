/- Contracts and plain laws of this seat: part MB. It needs no conditions. -/
import Derived.Test.YtknekjalbninmaaGreatMA
import Derived.Test.YtknekjalbninmaaGreatW1
import Derived.Test.YtknekjalbninmaaGreatSw
import Derived.WalkKit
import Derived.BigCall
import Derived.KernelRfl
import Derived.Shelf.Strings.Builder1
import Derived.Test.YtknekjalbninmaaGreatS3
import Derived.Test.YtknekjalbninmaaGreatW2
import Derived.Recover
import Derived.Test.YtknekjalbninmaaGreatW3
import Derived.Test.YtknekjalbninmaaGreatS1
import Derived.Test.YtknekjalbninmaaGreatSn
set_option linter.unusedVariables false
set_option linter.unusedSimpArgs false
set_option linter.unusedSectionVars false
set_option maxRecDepth 100000
namespace Go.V.Doc
open Go Go.Proofs
structure Nok (d : Dc) (n : Nt) : Prop where
  lo : 1 ≤ n.id
  hi : n.id ≤ 1099511627776
  t0 : 0 ≤ n.tier
  t1 : n.tier < d.tiers.length
  e : noteE d n = 0
structure Rgt (d : Dc) : Prop where
  tiers : tiersE d.tiers = 0
  len : 0 ≤ d.len ∧ d.len ≤ 86400000
  few : d.notes.length ≤ 300
  nok : ∀ n ∈ d.notes, Nok d n
  inc : d.notes.Pairwise fun a b => a.id < b.id
  ter : ∀ t : Nat, t < d.tiers.length → terE d t = 0
theorem notes_to (d : Dc) : ∀ (m i : Nat), i + m = d.notes.length → (∀ j, i ≤ j → j < d.notes.length → noteIE d j = 0) → notesGo d m i = 0
  | 0, i, h, _ => rfl
  | m + 1, i, h, hg => by
    rw [notesGo_IE, if_pos (by omega), if_pos (hg i (Nat.le_refl _) (by omega))]
    exact notes_to d m (i + 1) (by omega) fun j h1 h2 => hg j (by omega) h2
theorem ters_from (d : Dc) : ∀ (m i : Nat), i + m = d.tiers.length → terGos d m i = 0 → ∀ j : Nat, i ≤ j → j < d.tiers.length → terE d j = 0
  | 0, i, h, _, j, h1, h2 => by omega
  | m + 1, i, h, hg, j, h1, h2 => by
    simp only [terGos] at hg
    rw [if_pos (by omega)] at hg
    by_cases hz : terE d i = 0
    · rw [if_pos hz] at hg
      rcases Nat.eq_or_lt_of_le h1 with e | e
      · rw [← e]; exact hz
      · exact ters_from d m (i + 1) (by omega) hg j e h2
    · rw [if_neg hz] at hg; exact absurd hg hz
theorem ters_to (d : Dc) : ∀ (m i : Nat), i + m = d.tiers.length → (∀ j : Nat, i ≤ j → j < d.tiers.length → terE d j = 0) → terGos d m i = 0
  | 0, i, h, _ => rfl
  | m + 1, i, h, hg => by
    simp only [terGos]
    rw [if_pos (by omega), if_pos (hg i (Nat.le_refl _) (by omega))]
    exact ters_to d m (i + 1) (by omega) fun j h1 h2 => hg j (by omega) h2
theorem noteIE_iff {d : Dc} {i : Nat} (hi : i < d.notes.length) : noteIE d i = 0 ↔ Nok d d.notes[i] ∧ (i ≠ 0 → (d.notes[i - 1]?.getD default).id < d.notes[i].id) := by
  simp only [noteIE, List.getElem?_eq_getElem hi, Option.getD_some]
  constructor
  · intro h
    split at h
    · cases h
    · split at h
      · cases h
      · split at h
        · cases h
        · exact ⟨⟨by omega, by omega, by omega, by omega, h⟩, fun h0 => by omega⟩
  · rintro ⟨⟨h1, h2, h3, h4, h5⟩, h6⟩
    rw [if_neg (by omega), if_neg (by rintro ⟨a, b⟩; have := h6 a; omega), if_neg (by omega)]
    exact h5
theorem notes_iff {d : Dc} : (∀ i, i < d.notes.length → noteIE d i = 0) ↔ (∀ n ∈ d.notes, Nok d n) ∧ d.notes.Pairwise fun a b => a.id < b.id := by
  constructor
  · intro h
    refine ⟨fun n hn => ?_, ?_⟩
    · obtain ⟨i, hi, rfl⟩ := List.mem_iff_getElem.1 hn
      exact ((noteIE_iff hi).1 (h i hi)).1
    · rw [List.pairwise_iff_getElem]
      have key : ∀ (k i : Nat) (hj : i + k + 1 < d.notes.length), (d.notes[i]'(by omega)).id < (d.notes[i + k + 1]'hj).id := by
        intro k
        induction k with
        | zero =>
          intro i hj
          have := ((noteIE_iff hj).1 (h _ hj)).2 (by omega)
          rw [Nat.add_sub_cancel, List.getElem?_eq_getElem (by omega)] at this
          exact this
        | succ k ih =>
          intro i hj
          have a := ih i (by omega)
          have := ((noteIE_iff hj).1 (h _ hj)).2 (by omega)
          rw [Nat.add_sub_cancel, List.getElem?_eq_getElem (by omega)] at this
          exact Int.lt_trans a this
      intro i j hi hj hij
      obtain ⟨k, rfl⟩ : ∃ k, j = i + k + 1 := ⟨j - i - 1, by omega⟩
      exact key k i hj
  · rintro ⟨h1, h2⟩ i hi
    rw [noteIE_iff hi]
    refine ⟨h1 _ (List.getElem_mem hi), fun h0 => ?_⟩
    rw [List.getElem?_eq_getElem (by omega)]
    exact List.pairwise_iff_getElem.1 h2 (i - 1) i (by omega) hi (by omega)
theorem right_iff {d : Dc} : checkE d = 0 ↔ Rgt d := by
  rw [check_eq]
  unfold refE
  constructor
  · intro h
    split at h
    · rename_i h1; exact absurd h h1
    · rename_i h1
      split at h
      · cases h
      · split at h
        · cases h
        · split at h
          · rename_i h4; exact absurd h h4
          · rename_i h4
            have h4' : notesGo d d.notes.length 0 = 0 := by simpa using h4
            have hn := notes_iff.1 fun i hi => notes_from d _ _ (by omega) h4' i (by omega) hi
            exact ⟨by simpa using h1, by omega, by omega, hn.1, hn.2, fun t ht => ters_from d _ _ (by omega) h t (by omega) ht⟩
  · intro h
    rw [if_neg (by simpa using h.tiers), if_neg (by have := h.len; omega), if_neg (by have := h.few; omega)]
    have := notes_iff.2 ⟨h.nok, h.inc⟩
    rw [notes_to d _ _ (by omega) fun j _ hj => this j hj]
    rw [if_neg (by simp)]
    exact ters_to d _ _ (by omega) fun j _ hj => h.ter j hj
theorem Rgt.good {d : Dc} (h : Rgt d) : Good d := by
  refine ⟨?_, notes_iff.2 ⟨h.nok, h.inc⟩⟩
  have h1 := h.tiers
  unfold tiersE at h1
  split at h1
  · cases h1
  · exact fun j hj => tiers_from _ _ _ (by omega) h1 j (by omega) hj
theorem ter_iff {d : Dc} {t : Int} : terE d t = 0 ↔ (∀ n ∈ ofT d.notes t, ovR d t (tirAt d t).kind n = false) ∧ ∀ n ∈ ofT d.notes t, badR d t (tirAt d t).kind n = false := by
  rw [terE_ev, ← any_list, ← any_list]
  have hc : codeK (tirAt d t).kind ≠ 0 := by unfold codeK; split <;> (try split) <;> omega
  cases (ofT d.notes t).any (ovR d t (tirAt d t).kind) <;> cases (ofT d.notes t).any (badR d t (tirAt d t).kind) <;> simp [hc]
theorem ids_uniq {d : Dc} (h : Rgt d) {a b : Nt} (ha : a ∈ d.notes) (hb : b ∈ d.notes) (e : a.id = b.id) : a = b := by
  obtain ⟨i, hi, rfl⟩ := List.mem_iff_getElem.1 ha
  obtain ⟨j, hj, rfl⟩ := List.mem_iff_getElem.1 hb
  have hp := List.pairwise_iff_getElem.1 h.inc
  rcases Nat.lt_trichotomy i j with h1 | rfl | h1
  · have := hp i j hi hj h1; omega
  · rfl
  · have := hp j i hj hi h1; omega
theorem getN_of {d : Dc} (h : Rgt d) {n : Nt} (hn : n ∈ d.notes) : getN d.notes n.id = (n, true) := by
  unfold getN
  cases hf : d.notes.find? fun m => decide (m.id = n.id) with
  | none => rw [List.find?_eq_none] at hf; exact absurd (hf n hn) (by simp)
  | some m =>
    have h1 := List.mem_of_find?_eq_some hf
    have h2 : m.id = n.id := by simpa using List.find?_some hf
    rw [ids_uniq h h1 hn h2]
end Go.V.Doc
namespace Go.V.Doc
open Go Go.Proofs Go.Sort Go.RowKit
theorem isort_spec (l : List Nt) : PermIn 0 l.length l.toArray (isort l).toArray ∧ SortedIn ltN 0 l.length (isort l).toArray := by
  have := insertionSort_holds swoN l.toArray 0 l.length (Nat.zero_le _) (by simp)
  rw [isort_eq] at this
  exact this
theorem isort_length (l : List Nt) : (isort l).length = l.length := by
  have := (isort_spec l).1.1
  simpa using this
theorem isort_perm (l : List Nt) : (isort l).Perm l := by
  obtain ⟨h1, _, h3⟩ := (isort_spec l).1
  have hl := isort_length l
  have e1 : (isort l).toArray.extract 0 l.length = (isort l).toArray := by rw [show l.length = (isort l).toArray.size by simp [hl]]; simp
  have e2 : l.toArray.extract 0 l.length = l.toArray := by rw [show l.length = l.toArray.size by simp]; simp
  rw [e1, e2] at h3
  simpa using h3
theorem ins_all (l : List Nt) (hl : l.length < 2^62) :
    CallC Tryz.prog 172 [.ar 0, .d (int 0), .d (int l.length), .fn 113 []] [(0, .arr 72 7 (l.map Nt.row))] 1 (.d (.tup [])) 1 [(0, .arr 72 7 ((isort l).map Nt.row))] [] := by
  cases l with
  | nil =>
    have : isort [] = [] := List.eq_nil_of_length_eq_zero (isort_length [])
    rw [this]
    exact (CallC.unit insE_ok)
  | cons a r => exact ins_ok 72 (a :: r) (by simp) (by omega) (isort_length _)
theorem stableC_ok (l : List Nt) (hl : l.length < 20) :
    CallC Tryz.prog 165 [.ar 0, .d (int l.length), .fn 113 []] [(0, .arr 72 7 (l.map Nt.row))] 1 (.d (.tup [])) 1 [(0, .arr 72 7 ((isort l).map Nt.row))] [] := by
  refine CallC.unit (callC_of_body mixed Tryz.func165 rfl call_165 (by simp [Sym.los, Sym.lo]) ?_)
  have h20 : ¬ (20 : Int) ≤ l.length := by omega
  have h20' : ¬ (20 : Int) < l.length := by omega
  simp (decide := true) [Tryz.f165, int]
  refine loop_rule mixed (fun _ : Unit => { n := 63, next := 1, slots := [(0, .ar 0), (1, .d (int l.length)), (2, .fn 113 []), (6, .d (int 20)), (7, .d (int 0)), (8, .d (int 20))], own := [(0, .arr 72 7 (l.map Nt.row))], base := 1 })
    (fun _ => True) (fun _ => 0) () trivial (by simp (decide := true) [int]) ?_
  intro _ _
  simp (decide := true) [int, h20]
  refine ECall.mut [0] [.ar 0, .d (int 0), .d (int l.length), .fn 113 []] [(0, .arr 72 7 (l.map Nt.row))] (by rfl) (by simp [int]) (by simp) (by simp) (ins_all l (by omega)) ?_
  simp (decide := true) [int]
  refine loop_rule mixed (fun _ : Unit => { n := 63, next := 1, slots := [(1, .d (int l.length)), (6, .d (int 20))], own := [(0, .arr 72 7 ((isort l).map Nt.row))], base := 1 })
    (fun _ => True) (fun _ => 0) () trivial (by simp (decide := true) [int]) ?_
  intro _ _
  simp (decide := true) [int, h20']
theorem stable_ok (l : List Nt) (hl : l.length < 20) :
    CallC Tryz.prog 112 [.ar 0, .fn 113 []] [(0, .arr 72 7 (l.map Nt.row))] 1 (.d (.tup [])) 1 [(0, .arr 72 7 ((isort l).map Nt.row))] [] := by
  refine CallC.unit (callC_of_body mixed Tryz.func112 rfl call_112 (by simp [Sym.los, Sym.lo]) ?_)
  simp (decide := true) [Tryz.f112, int]
  refine ECall.mut [0] [.ar 0, .d (int l.length), .fn 113 []] [(0, .arr 72 7 (l.map Nt.row))] (by rfl) (by simp [int]) (by simp) (by simp) (stableC_ok l hl) ?_
  simp (decide := true) [int]
def kidB (d : Dc) (id t : Int) (n : Nt) : Bool := decide (n.tier = t) && decide (n.par = id) && decide (0 ≤ t) && decide (t < d.tiers.length)
def kidsN (d : Dc) (id t : Int) : List Nt := isort (d.notes.filter (kidB d id t))
def idsOf (l : List Nt) : List Int := l.map (·.id)
set_option maxHeartbeats 2000000 in
theorem kidsFG_ok (d : Dc) (id t : Int) (hl : d.notes.length < 2^40) (hk20 : (d.notes.filter (kidB d id t)).length < 20) :
    PureF Tryz.prog 53 [docD d, int id, int t] 3 1 ((idsOf (kidsN d id t)).map fun n => [int n]) := by
  refine fresh_of_body mixed Tryz.func53 rfl call_53 (by simp) ?_
  simp (decide := true) [Tryz.f53, docD, Dc.row, int, ints, tiersD, notesD]
  refine loop_rule mixed (fun k : Nat => { n := 61, next := 3, slots := [(1, .d (int id)), (2, .d (int t)), (3, .bp 0 0), (7, .ar 2), (14, .d (notesD d.notes)), (15, .d (.int .i64 d.notes.length)), (16, .d (.int .i64 k))], own := [(0, .box 53 (docCells d)), (2, .arr 72 7 (((d.notes.take k).filter (kidB d id t)).map Nt.row))], moved := [2] })
    (fun k => k ≤ d.notes.length) (fun k => d.notes.length - k) 0 (by simp) (by simp (decide := true) [int, ints, tiersD, notesD]) ?_
  intro k hk
  by_cases hlt : k < d.notes.length
  · have hlt' : (k : Int) < d.notes.length := by omega
    have e1 : d.notes[k]? = some d.notes[k] := List.getElem?_eq_getElem hlt
    have hsn : (d.notes.take (k + 1)).filter (kidB d id t) = (d.notes.take k).filter (kidB d id t) ++ (if kidB d id t d.notes[k] = true then [d.notes[k]] else []) := by
      rw [take_snoc' hlt, List.filter_append]; by_cases h : kidB d id t d.notes[k] = true <;> simp [h]
    have hlen : ((d.notes.take k).filter (kidB d id t)).length ≤ k := Nat.le_trans (List.length_filter_le _ _) (by rw [List.length_take]; omega)
    have no : kidB d id t d.notes[k] = false → (d.notes.take (k + 1)).filter (kidB d id t) = (d.notes.take k).filter (kidB d id t) := by
      intro h; rw [hsn, if_neg (by simp [h]), List.append_nil]
    by_cases h1 : d.notes[k].tier = t
    case neg =>
      have := no (by simp [kidB, h1])
      simp (decide := true) [notesD, Nt.row, int, hlt, hlt', e1, I64, h1]
      exact ⟨⟨by omega, by omega⟩, k + 1, hlt, by omega, by omega, by rw [this]⟩
    by_cases h2 : d.notes[k].par = id
    case neg =>
      have := no (by simp [kidB, h2])
      simp (decide := true) [notesD, Nt.row, int, hlt, hlt', e1, I64, h1, h2]
      exact ⟨⟨by omega, by omega⟩, k + 1, hlt, by omega, by omega, by rw [this]⟩
    by_cases h3 : 0 ≤ t
    case neg =>
      have := no (by simp [kidB, h3])
      simp (decide := true) [notesD, Nt.row, int, hlt, hlt', e1, I64, h1, h2, h3]
      exact ⟨⟨by omega, by omega⟩, k + 1, hlt, by omega, by omega, by rw [this]⟩
    by_cases h4 : t < d.tiers.length
    case neg =>
      have := no (by simp [kidB, h4])
      simp (decide := true) [notesD, tiersD, Nt.row, int, hlt, hlt', e1, I64, h1, h2, h3, h4]
      exact ⟨⟨by omega, by omega⟩, k + 1, hlt, by omega, by omega, by rw [this]⟩
    have hy : kidB d id t d.notes[k] = true := by simp [kidB, h1, h2, h3, h4]
    rw [if_pos hy] at hsn
    simp (decide := true) [notesD, tiersD, Nt.row, int, hlt, hlt', e1, I64, h1, h2, h3, h4]
    exact ⟨by omega, by unfold maxLen; omega, ⟨by omega, by omega⟩, k + 1, hlt, by omega, by omega, by rw [hsn]; simp [Nt.row, int, h1, h2]⟩
  · have : k = d.notes.length := by omega
    subst this
    rw [List.take_length]
    have hol : (d.notes.filter (kidB d id t)).length ≤ d.notes.length := List.length_filter_le _ _
    simp (decide := true) [int]
    refine ECall.mut [2] [.ar 0, .fn 113 []] [(0, .arr 72 7 ((d.notes.filter (kidB d id t)).map Nt.row))] (by rfl) (by simp [int]) (by simp) (by simp) (stable_ok _ (by omega)) ?_
    have hsl := isort_length (d.notes.filter (kidB d id t))
    unfold kidsN
    rw [← hsl] at hol
    generalize isort (d.notes.filter (kidB d id t)) = s at hol ⊢
    simp (decide := true) [int]
    refine loop_rule mixed (fun k : Nat => { n := 61, next := 4, slots := [(10, .ar 3), (48, .ar 2), (49, .d (.int .i64 s.length)), (50, .d (.int .i64 k))], own := [(2, .arr 72 7 (s.map Nt.row)), (3, .arr 3 1 ((idsOf (s.take k)).map fun n => [int n]))], moved := [3, 2] })
      (fun k => k ≤ s.length) (fun k => s.length - k) 0 (by simp) (by simp (decide := true) [int, idsOf]) ?_
    intro k hk
    by_cases hlt : k < s.length
    · have hlt' : (k : Int) < s.length := by omega
      have e1 : s[k]? = some s[k] := List.getElem?_eq_getElem hlt
      have hsn : idsOf (s.take (k + 1)) = idsOf (s.take k) ++ [s[k].id] := by unfold idsOf; rw [take_snoc' hlt, List.map_append]; rfl
      have hlen : (idsOf (s.take k)).length ≤ k := by unfold idsOf; rw [List.length_map, List.length_take]; omega
      simp (decide := true) [Nt.row, int, hlt, hlt', e1, I64]
      exact ⟨by omega, by unfold maxLen; omega, ⟨by omega, by omega⟩, k + 1, hlt, by omega, by omega, by rw [hsn]; simp [int]⟩
    · have : k = s.length := by omega
      subst this
      rw [List.take_length]
      simp (decide := true) [int, ints]
theorem ints_scalars : ∀ l : List Int, D.scalars ((l.map fun n => [int n]).flatten) = true
  | [] => rfl
  | n :: r => by simp only [List.map_cons, List.flatten_cons, List.cons_append, List.nil_append, D.scalars, ints_scalars r]; rfl
theorem kidsNG_ok (d : Dc) (id t : Int) (hl : d.notes.length < 2^40) (hk20 : (d.notes.filter (kidB d id t)).length < 20) : PureN Tryz.prog 53 [docD d, int id, int t] (ints (idsOf (kidsN d id t))) :=
  pureN_of_fresh (kidsFG_ok d id t hl hk20) (ints_scalars _)
end Go.V.Doc
namespace Go.V.Doc
open Go Go.Proofs
section
variable {d : Dc}
theorem tirAt_nat (d : Dc) {t : Nat} (h : t < d.tiers.length) : tirAt d (t : Int) = d.tiers[t] := by unfold tirAt; rw [Int.toNat_natCast, List.getElem?_eq_getElem h]; rfl
theorem Rgt.kinds (h : Rgt d) {t : Nat} (ht : t < d.tiers.length) : 0 ≤ (tirAt d t).kind ∧ (tirAt d t).kind ≤ 4 := by
  have h1 := h.good.tiers t ht
  rw [tirAt_nat d ht]
  unfold oneE at h1
  split at h1
  · cases h1
  · split at h1
    · cases h1
    · split at h1
      · cases h1
      · omega
theorem Rgt.up (h : Rgt d) {t : Nat} (ht : t < d.tiers.length) (hk : (tirAt d t).kind ≠ 0) : 0 ≤ (tirAt d t).par ∧ (tirAt d t).par.toNat < t := by
  rw [tirAt_nat d ht] at hk ⊢
  have := oneE_parent (h.good.tiers t ht) hk
  rw [List.length_take] at this
  omega
def inT (d : Dc) (t : Nat) (n : Nt) : Prop := n ∈ d.notes ∧ n.tier = t
theorem inT_iff {t : Nat} {n : Nt} : n ∈ ofT d.notes t ↔ inT d t n := by
  unfold ofT inT
  rw [List.mem_filter, decide_eq_true_eq]
def upN (d : Dc) (n : Nt) : Nt := (getN d.notes n.par).1
theorem Rgt.parent (h : Rgt d) {t : Nat} {n : Nt} (hn : inT d t n) (ht : t < d.tiers.length) (hk : (tirAt d t).kind ≠ 0) : inT d (tirAt d t).par.toNat (upN d n) ∧ (upN d n).id = n.par := by
  have hp := (place_iff (note_of h.good hn.1).place).2.1
  rw [hn.2] at hp
  obtain ⟨h1, h2⟩ := hp hk
  have hm := getN_mem h1
  have hu := h.up ht hk
  exact ⟨⟨hm.1, by rw [upN, h2]; omega⟩, hm.2⟩
theorem Rgt.root (h : Rgt d) {t : Nat} {n : Nt} (hn : inT d t n) (hk : (tirAt d t).kind = 0) : n.par = 0 := by
  have hp := (place_iff (note_of h.good hn.1).place).1
  rw [hn.2] at hp
  exact hp hk
def befT (d : Dc) (t : Nat) (a b : Nt) : Bool :=
  if a.par ≠ b.par then (if h : (tirAt d t).par.toNat < t then befT d (tirAt d t).par.toNat (upN d a) (upN d b) else false)
  else if alK (tirAt d t).kind = true then decide (a.fr < b.fr) else decide (a.rank < b.rank)
termination_by t
def keyT (d : Dc) (t : Nat) (n : Nt) : Int := if alK (tirAt d t).kind = true then n.fr else n.rank
theorem bef_same {t : Nat} {a b : Nt} (h : a.par = b.par) : befT d t a b = decide (keyT d t a < keyT d t b) := by
  rw [befT, if_neg (by simp [h])]
  unfold keyT
  split <;> rfl
theorem bef_up {t : Nat} {a b : Nt} (h : a.par ≠ b.par) (hu : (tirAt d t).par.toNat < t) : befT d t a b = befT d (tirAt d t).par.toNat (upN d a) (upN d b) := by
  rw [befT, if_pos h, dif_pos hu]
theorem pos_lt {s : List Nt} {i j : Nat} (hij : i < j) (hj : j < s.length) (hp : (gN s i).par = (gN s j).par) : posN s i < posN s j := by
  have hi : i < s.length := by omega
  have h1 : (s.take (i + 1)).Sublist (s.take j) := by
    have : s.take (i + 1) = (s.take j).take (i + 1) := by rw [List.take_take]; congr 1; omega
    rw [this]; exact List.take_sublist _ _
  have h2 := (h1.filter fun n => decide (n.par = (gN s j).par)).length_le
  rw [take_snoc' hi, List.filter_append, List.length_append] at h2
  have : [s[i]].filter (fun n => decide (n.par = (gN s j).par)) = [s[i]] := by
    rw [List.filter_cons_of_pos (by rw [← gN_eq hi]; simpa using hp)]; rfl
  rw [this] at h2
  unfold posN
  rw [hp]
  simp only [List.length_singleton] at h2
  omega
theorem Rgt.keys (h : Rgt d) {t : Nat} (ht : t < d.tiers.length) {a b : Nt} (ha : inT d t a) (hb : inT d t b) (hp : a.par = b.par) (hk : keyT d t a = keyT d t b) : a = b := by
  apply Classical.byContradiction
  intro hne
  have hte := ter_iff.1 (h.ter t ht)
  have hov := hte.1 a (inT_iff.2 ha)
  have hbad := hte.2 a (inT_iff.2 ha)
  have hma : a ∈ sibs d.notes t a.par := by unfold sibs; rw [List.mem_filter]; exact ⟨ha.1, by simp [ha.2]⟩
  have hmb : b ∈ sibs d.notes t a.par := by unfold sibs; rw [List.mem_filter]; exact ⟨hb.1, by simp [hb.2, hp]⟩
  cases hal : alK (tirAt d t).kind with
  | true =>
    unfold ovR at hov
    rw [hal, Bool.true_and, over_pair] at hov
    have hra := right_of (note_of h.good ha.1) (by rw [ha.2]; exact hal)
    have hrb := right_of (note_of h.good hb.1) (by rw [hb.2]; exact hal)
    simp only [rightS, Bool.and_eq_true, decide_eq_true_eq] at hra hrb
    unfold keyT at hk
    rw [if_pos hal, if_pos hal] at hk
    generalize sibs d.notes t a.par = S at hov hma hmb
    obtain ⟨i, hi, rfl⟩ := List.mem_iff_getElem.1 hma
    obtain ⟨j, hj, rfl⟩ := List.mem_iff_getElem.1 hmb
    have hpw := List.pairwise_iff_getElem.1 hov
    rcases Nat.lt_trichotomy i j with h1 | rfl | h1
    · exact hpw i j hi hj h1 ⟨by omega, by omega⟩
    · exact hne rfl
    · exact hpw j i hj hi h1 ⟨by omega, by omega⟩
  | false =>
    unfold keyT at hk
    rw [hal] at hk
    simp only [Bool.false_eq_true, if_false] at hk
    have hkd := h.kinds ht
    have k0 : (tirAt d t).kind ≠ 0 := by intro e; rw [e] at hal; cases hal
    have k1 : (tirAt d t).kind ≠ 1 := by intro e; rw [e] at hal; cases hal
    have k2 : (tirAt d t).kind ≠ 2 := by intro e; rw [e] at hal; cases hal
    by_cases k3 : (tirAt d t).kind = 3
    · have hall : ∀ n ∈ ofT d.notes t, rankP (sibs d.notes t n.par) = true := by
        intro n hn
        have := hte.2 n hn
        rw [k3] at this
        simpa [badR] using this
      have hs := srt_of (ofT d.notes t)
      have hperm := sortN_perm (ofT d.notes t)
      have hl : (sortN (ofT d.notes t)).length < 2^40 := by
        rw [sortN_length]
        have : (ofT d.notes t).length ≤ d.notes.length := List.length_filter_le _ _
        have := h.few
        omega
      have hz : ∀ n ∈ sortN (ofT d.notes t), n.fr = 0 := by
        intro n hn
        have hn := inT_iff.1 (hperm.mem_iff.1 hn)
        exact (flat_of (note_of h.good hn.1) (by rw [hn.2]; exact hal)).1
      have hrk := (rk_pos hs hl).1 ((rank_all hperm hs hl hz).2 hall)
      obtain ⟨i, hi, ei⟩ := List.mem_iff_getElem.1 (hperm.mem_iff.2 (inT_iff.2 ha))
      obtain ⟨j, hj, ej⟩ := List.mem_iff_getElem.1 (hperm.mem_iff.2 (inT_iff.2 hb))
      rw [← gN_eq hi] at ei
      rw [← gN_eq hj] at ej
      have r1 := hrk i hi
      have r2 := hrk j hj
      rw [ei] at r1
      rw [ej] at r2
      rcases Nat.lt_trichotomy i j with h1 | rfl | h1
      · have := pos_lt h1 hj (by rw [ei, ej, hp]); omega
      · exact hne (ei.symm.trans ej)
      · have := pos_lt h1 hi (by rw [ei, ej, hp]); omega
    · have k4 : (tirAt d t).kind = 4 := by omega
      have hlen : ¬ 1 < (sibs d.notes t a.par).length := by
        rw [k4] at hbad
        simp [badR] at hbad
        omega
      generalize sibs d.notes t a.par = S at hlen hma hmb
      obtain ⟨i, hi, rfl⟩ := List.mem_iff_getElem.1 hma
      obtain ⟨j, hj, rfl⟩ := List.mem_iff_getElem.1 hmb
      have : i = j := by omega
      subst this
      exact hne rfl
structure Wgt (d : Dc) : Prop where
  good : ∀ j, (h : j < d.tiers.length) → oneE (d.tiers.take j) d.tiers[j] = 0
  few : d.notes.length ≤ 300
  nok : ∀ n ∈ d.notes, 0 ≤ n.tier ∧ n.tier < d.tiers.length
  inc : d.notes.Pairwise fun a b => a.id < b.id
  par : ∀ (t : Nat), t < d.tiers.length → (tirAt d t).kind ≠ 0 → ∀ n, inT d t n → inT d (tirAt d t).par.toNat (upN d n) ∧ (upN d n).id = n.par
  top : ∀ (t : Nat) n, inT d t n → (tirAt d t).kind = 0 → n.par = 0
  flat : ∀ (t : Nat) n, inT d t n → alK (tirAt d t).kind = false → n.fr = 0
  key : ∀ (t : Nat), t < d.tiers.length → ∀ a b, inT d t a → inT d t b → a.par = b.par → keyT d t a = keyT d t b → a = b
theorem Rgt.w (h : Rgt d) : Wgt d := ⟨h.good.tiers, h.few, fun n hn => ⟨(h.nok n hn).t0, (h.nok n hn).t1⟩, h.inc, fun t ht hk n hn => h.parent hn ht hk, fun t n hn hk => h.root hn hk,
  fun t n hn hal => (flat_of (note_of h.good hn.1) (by rw [hn.2]; exact hal)).1, fun t ht a b ha hb hp hk => h.keys ht ha hb hp hk⟩
theorem Wgt.up (h : Wgt d) {t : Nat} (ht : t < d.tiers.length) (hk : (tirAt d t).kind ≠ 0) : 0 ≤ (tirAt d t).par ∧ (tirAt d t).par.toNat < t := by
  rw [tirAt_nat d ht] at hk ⊢
  have := oneE_parent (h.good t ht) hk
  rw [List.length_take] at this
  omega
theorem Wgt.parent (h : Wgt d) {t : Nat} {n : Nt} (hn : inT d t n) (ht : t < d.tiers.length) (hk : (tirAt d t).kind ≠ 0) : inT d (tirAt d t).par.toNat (upN d n) ∧ (upN d n).id = n.par := h.par t ht hk n hn
theorem Wgt.root (h : Wgt d) {t : Nat} {n : Nt} (hn : inT d t n) (hk : (tirAt d t).kind = 0) : n.par = 0 := h.top t n hn hk
theorem Wgt.keys (h : Wgt d) {t : Nat} (ht : t < d.tiers.length) {a b : Nt} (ha : inT d t a) (hb : inT d t b) (hp : a.par = b.par) (hk : keyT d t a = keyT d t b) : a = b := h.key t ht a b ha hb hp hk
theorem Wgt.uniq (h : Wgt d) {a b : Nt} (ha : a ∈ d.notes) (hb : b ∈ d.notes) (e : a.id = b.id) : a = b := by
  obtain ⟨i, hi, rfl⟩ := List.mem_iff_getElem.1 ha
  obtain ⟨j, hj, rfl⟩ := List.mem_iff_getElem.1 hb
  have hp := List.pairwise_iff_getElem.1 h.inc
  rcases Nat.lt_trichotomy i j with h1 | rfl | h1
  · have := hp i j hi hj h1; omega
  · rfl
  · have := hp j i hj hi h1; omega
theorem Wgt.get (h : Wgt d) {n : Nt} (hn : n ∈ d.notes) : getN d.notes n.id = (n, true) := by
  unfold getN
  cases hf : d.notes.find? fun m => decide (m.id = n.id) with
  | none => rw [List.find?_eq_none] at hf; exact absurd (hf n hn) (by simp)
  | some m =>
    have h1 := List.mem_of_find?_eq_some hf
    have h2 : m.id = n.id := by simpa using List.find?_some hf
    rw [h.uniq h1 hn h2]
structure Sto (R : Nt → Nt → Bool) (M : Nt → Prop) : Prop where
  asym : ∀ a b, M a → M b → R a b = true → R b a = true → False
  trans : ∀ a b c, M a → M b → M c → R a b = true → R b c = true → R a c = true
  total : ∀ a b, M a → M b → a ≠ b → R a b = true ∨ R b a = true
theorem Wgt.sto (h : Wgt d) : ∀ (t : Nat), t < d.tiers.length → Sto (befT d t) (inT d t) := by
  intro t
  induction t using Nat.strongRecOn with
  | _ t ih =>
    intro ht
    by_cases hk : (tirAt d t).kind = 0
    · have hp : ∀ a b, inT d t a → inT d t b → a.par = b.par := fun a b ha hb => by rw [h.root ha hk, h.root hb hk]
      refine ⟨?_, ?_, ?_⟩
      · intro a b ha hb h1 h2
        rw [bef_same (hp a b ha hb), decide_eq_true_eq] at h1
        rw [bef_same (hp b a hb ha), decide_eq_true_eq] at h2
        omega
      · intro a b c ha hb hc h1 h2
        rw [bef_same (hp a b ha hb), decide_eq_true_eq] at h1
        rw [bef_same (hp b c hb hc), decide_eq_true_eq] at h2
        rw [bef_same (hp a c ha hc), decide_eq_true_eq]
        omega
      · intro a b ha hb hne
        rw [bef_same (hp a b ha hb), bef_same (hp b a hb ha), decide_eq_true_eq, decide_eq_true_eq]
        have : ¬ keyT d t a = keyT d t b := fun e => hne (h.keys ht ha hb (hp a b ha hb) e)
        omega
    · have hu := h.up ht hk
      have ih' := ih _ hu.2 (by omega)
      have pu : ∀ a, inT d t a → inT d (tirAt d t).par.toNat (upN d a) ∧ (upN d a).id = a.par := fun a ha => h.parent ha ht hk
      have une : ∀ a b, inT d t a → inT d t b → a.par ≠ b.par → upN d a ≠ upN d b := fun a b ha hb hne e => hne (by rw [← (pu a ha).2, ← (pu b hb).2, e])
      have ueq : ∀ a b, inT d t a → inT d t b → a.par = b.par → upN d a = upN d b := fun a b ha hb e => h.uniq (pu a ha).1.1 (pu b hb).1.1 (by rw [(pu a ha).2, (pu b hb).2, e])
      refine ⟨?_, ?_, ?_⟩
      · intro a b ha hb h1 h2
        by_cases hp : a.par = b.par
        · rw [bef_same hp, decide_eq_true_eq] at h1
          rw [bef_same hp.symm, decide_eq_true_eq] at h2
          omega
        · rw [bef_up hp hu.2] at h1
          rw [bef_up (Ne.symm hp) hu.2] at h2
          exact ih'.asym _ _ (pu a ha).1 (pu b hb).1 h1 h2
      · intro a b c ha hb hc h1 h2
        by_cases hab : a.par = b.par
        · by_cases hbc : b.par = c.par
          · rw [bef_same hab, decide_eq_true_eq] at h1
            rw [bef_same hbc, decide_eq_true_eq] at h2
            rw [bef_same (hab.trans hbc), decide_eq_true_eq]
            omega
          · rw [bef_up hbc hu.2] at h2
            rw [bef_up (by rw [hab]; exact hbc) hu.2, ueq a b ha hb hab]
            exact h2
        · rw [bef_up hab hu.2] at h1
          by_cases hbc : b.par = c.par
          · rw [bef_up (by rw [← hbc]; exact hab) hu.2, ← ueq b c hb hc hbc]
            exact h1
          · rw [bef_up hbc hu.2] at h2
            by_cases hac : a.par = c.par
            · rw [ueq a c ha hc hac] at h1
              exact (ih'.asym _ _ (pu c hc).1 (pu b hb).1 h1 h2).elim
            · rw [bef_up hac hu.2]
              exact ih'.trans _ _ _ (pu a ha).1 (pu b hb).1 (pu c hc).1 h1 h2
      · intro a b ha hb hne
        by_cases hp : a.par = b.par
        · rw [bef_same hp, bef_same hp.symm, decide_eq_true_eq, decide_eq_true_eq]
          have : ¬ keyT d t a = keyT d t b := fun e => hne (h.keys ht ha hb hp e)
          omega
        · rw [bef_up hp hu.2, bef_up (Ne.symm hp) hu.2]
          exact ih'.total _ _ (pu a ha).1 (pu b hb).1 (une a b ha hb hp)
theorem Sto.irr {R : Nt → Nt → Bool} {M : Nt → Prop} (h : Sto R M) {a : Nt} (ha : M a) (hr : R a a = true) : False := h.asym a a ha ha hr hr
theorem Sto.eq {R : Nt → Nt → Bool} {M : Nt → Prop} (h : Sto R M) {l m : List Nt} (hl : ∀ x ∈ l, M x) (hp : l.Perm m) (h1 : l.Pairwise fun a b => R a b = true) (h2 : m.Pairwise fun a b => R a b = true) : l = m :=
  List.Perm.eq_of_pairwise (le := fun a b => R a b = true) (fun a b ha hb r1 r2 => (h.asym a b (hl a ha) (hl b (hp.mem_iff.2 hb)) r1 r2).elim) h1 h2 hp
theorem Sto.nodup {R : Nt → Nt → Bool} {M : Nt → Prop} (h : Sto R M) {l : List Nt} (hl : ∀ x ∈ l, M x) (h1 : l.Pairwise fun a b => R a b = true) : l.Nodup :=
  h1.imp_of_mem fun {a b} ha hb hr e => h.irr (hl a ha) (by rw [e] at hr ⊢; exact hr)
end
end Go.V.Doc
namespace Go.V.Doc
open Go Go.Proofs
section
variable {d : Dc}
end
end Go.V.Doc
namespace Go.V.Doc
open Go Go.Proofs
section
variable {d : Dc}
end
end Go.V.Doc
namespace Go.V.Doc
open Go Go.Proofs
theorem take_snocY {α : Type} {l : List α} {k : Nat} (h : k < l.length) : l.take (k + 1) = l.take k ++ [l[k]] := by
  rw [List.take_add_one, List.getElem?_eq_getElem h]; rfl
def idxY {α : Type} (p : α → Bool) (l : List α) : Int := match l.findIdx? p with
  | some k => k
  | none => -1
theorem idxY_hit {α : Type} {p : α → Bool} {l : List α} {k : Nat} (h : k < l.length) (hp : ∀ e ∈ l.take k, p e = false) (he : p l[k] = true) : l.findIdx? p = some k := by
  rw [List.findIdx?_eq_some_iff_getElem]
  refine ⟨h, he, fun j hj => ?_⟩
  have := hp l[j] (by rw [List.mem_take_iff_getElem]; exact ⟨j, by omega, rfl⟩)
  simpa using this
theorem idxY_miss {α : Type} {p : α → Bool} {l : List α} (hp : ∀ e ∈ l, p e = false) : l.findIdx? p = none := by
  rw [List.findIdx?_eq_none_iff]; exact hp
def roleI (l : List Tir) (role : Int) : Int := if role = 0 then -1 else idxY (fun t => decide (t.role = role)) l
theorem roleX_ok (l : List Tir) (role : Int) (hl : l.length < 2^62) : PureR Tryz.prog 111 [tiersD l, int role] (int (roleI l role)) := by
  refine pure_of_body mixed Tryz.func111 rfl call_111 ?_
  simp (decide := true) [Tryz.f111, tiersD, int]
  refine loop_rule mixed (fun k : Nat => { n := 24, next := 0, slots := [(1, .d (int role)), (7, .d (tiersD l)), (8, .d (.int .i64 l.length)), (9, .d (.int .i64 k))], own := [] })
    (fun k => k ≤ l.length ∧ (role ≠ 0 → ∀ t ∈ l.take k, decide (t.role = role) = false)) (fun k => l.length - k) 0 (by simp) (by simp (decide := true) [tiersD, int]) ?_
  intro k ⟨hk, hp⟩
  by_cases hlt : k < l.length
  · have e1 : l[k]? = some l[k] := List.getElem?_eq_getElem hlt
    by_cases h0 : role = 0
    · subst h0
      simp (decide := true) [tiersD, Tir.row, int, e1, hlt, I64]
      exact ⟨by omega, k + 1, hlt, by omega, by omega⟩
    · by_cases hn : l[k].role = role
      · have hf : roleI l role = k := by
          unfold roleI idxY
          rw [if_neg h0, idxY_hit hlt (hp h0) (by simp [hn])]
        simp (decide := true) [tiersD, Tir.row, int, e1, hlt, I64, h0, hn, hf]
      · simp (decide := true) [tiersD, Tir.row, int, e1, hlt, I64, h0, hn]
        refine ⟨by omega, k + 1, ⟨hlt, fun t ht => ?_⟩, by omega, by omega⟩
        rw [take_snocY hlt] at ht
        rcases List.mem_append.1 ht with h | h
        · simpa using hp h0 t h
        · rw [List.mem_singleton] at h; rw [h]; exact hn
  · have : k = l.length := by omega
    subst this
    rw [List.take_length] at hp
    have hf : roleI l role = -1 := by
      unfold roleI idxY
      by_cases h0 : role = 0
      · rw [if_pos h0]
      · rw [if_neg h0, idxY_miss (hp h0)]
    simp (decide := true) [tiersD, int, hf]
theorem refRole_ok (l : List Tir) (role : Int) (hl : l.length < 2^62) : PureR Tryz.prog 114 [tiersD l, int role] (int (roleI l role)) := by
  refine pure_of_body mixed Tryz.func114 rfl call_114 ?_
  simp (decide := true) [Tryz.f114, tiersD, int]
  refine loop_rule mixed (fun k : Nat => { n := 24, next := 0, slots := [(0, .d (tiersD l)), (1, .d (int role)), (5, .d (.int .i64 k))], own := [] })
    (fun k => k ≤ l.length ∧ (role ≠ 0 → ∀ t ∈ l.take k, decide (t.role = role) = false)) (fun k => l.length - k) 0 (by simp) (by simp (decide := true) [tiersD, int]) ?_
  intro k ⟨hk, hp⟩
  by_cases hlt : k < l.length
  · have e1 : l[k]? = some l[k] := List.getElem?_eq_getElem hlt
    by_cases h0 : role = 0
    · subst h0
      simp (decide := true) [tiersD, Tir.row, int, e1, hlt, I64]
      exact ⟨by omega, k + 1, hlt, by omega, by omega⟩
    · by_cases hn : l[k].role = role
      · have hf : roleI l role = k := by
          unfold roleI idxY
          rw [if_neg h0, idxY_hit hlt (hp h0) (by simp [hn])]
        simp (decide := true) [tiersD, Tir.row, int, e1, hlt, I64, h0, hn, hf]
      · simp (decide := true) [tiersD, Tir.row, int, e1, hlt, I64, h0, hn]
        refine ⟨by omega, k + 1, ⟨hlt, fun t ht => ?_⟩, by omega, by omega⟩
        rw [take_snocY hlt] at ht
        rcases List.mem_append.1 ht with h | h
        · simpa using hp h0 t h
        · rw [List.mem_singleton] at h; rw [h]; exact hn
  · have : k = l.length := by omega
    subst this
    rw [List.take_length] at hp
    have hf : roleI l role = -1 := by
      unfold roleI idxY
      by_cases h0 : role = 0
      · rw [if_pos h0]
      · rw [if_neg h0, idxY_miss (hp h0)]
    simp (decide := true) [tiersD, int, hf]
theorem refRole32_ok (d : Dc) (r : Int) (hl : d.tiers.length < 2^62) : PureR Tryz.prog 57 [docD d, int r] (int (roleI d.tiers r)) := by
  refine pure_of_body mixed Tryz.func57 rfl call_57 ?_
  have h1 := refRole_ok d.tiers r hl
  simp (decide := true) [Tryz.f57, docD, Dc.row, int]
  refine ECall.pure (by rfl) h1 (by simp [D.scalar, tiersD]) ?_
  simp (decide := true) [int]
theorem draw_lastY {P : Program} (hmix : P.follows .mixedOrders = true) {id : Nat} {ops : List Oper} {st : St} {Q : DE → St → Prop} (hne : ops ≠ []) (hok : drawOk ops = true) (hcut : cutB ops (ops.length - 1) = true) (hg : (ops.getLast hne).guard = none)
    (hkeys : (st.own.map (·.1)).Nodup) (h : ddrawL P ops st.next (ops.getLast hne) ops.dropLast st (Q .normal)) : Triple P (.region id ops.toArray true) Q st := by
  obtain ⟨pre, o, rfl⟩ : ∃ pre o, ops = pre ++ [o] := ⟨ops.dropLast, ops.getLast hne, (List.dropLast_concat_getLast hne).symm⟩
  have hgl : (pre ++ [o]).getLast hne = o := by simp
  rw [hgl] at hg h
  rw [List.dropLast_concat] at h
  refine draw_last hmix hok ?_ hg hkeys h
  simpa using hcut
def placesD (d : Dc) : D := .agg [int (roleI d.tiers 2), int (roleI d.tiers 3), int (roleI d.tiers 4)]
theorem find_ok32 (d : Dc) (hl : d.tiers.length < 2^62) : PureR Tryz.prog 52 [docD d] (placesD d) := by
  refine pure_of_body mixed Tryz.func52 rfl call_52 ?_
  have h2 := roleX_ok d.tiers 2 hl
  have h3 := roleX_ok d.tiers 3 hl
  have h4 := roleX_ok d.tiers 4 hl
  simp (decide := true) [Tryz.f52, docD, Dc.row, int]
  refine draw_lastY mixed (by simp) (by rfl) (by rfl) (by rfl) (by simp) ?_
  simp (decide := true) [int]
  refine scall_pure (by rfl) (by rfl) h2 (by simp [tiersD]) ?_
  simp (decide := true) [int]
  refine scall_pure (by rfl) (by rfl) h3 (by simp [tiersD]) ?_
  simp (decide := true) [int]
  refine scall_pure (by rfl) (by rfl) h4 (by simp [tiersD]) ?_
  simp (decide := true) [int, placesD]
def readyB (d : Dc) : Bool := decide (0 ≤ roleI d.tiers 2) && (decide (0 ≤ roleI d.tiers 3) && decide (0 ≤ roleI d.tiers 4))
theorem ready_ok (d : Dc) (hl : d.tiers.length < 2^62) : PureR Tryz.prog 20 [docD d] (.bool (readyB d)) := by
  refine pure_of_body mixed Tryz.func20 rfl call_20 ?_
  have h := find_ok32 d hl
  unfold readyB
  simp (decide := true) [Tryz.f20, docD, Dc.row, int]
  refine ECall.pure (by rfl) h (fun _ => rfl) ?_
  by_cases c2 : 0 ≤ roleI d.tiers 2
  · by_cases c3 : 0 ≤ roleI d.tiers 3
    · by_cases c4 : 0 ≤ roleI d.tiers 4
      · simp (decide := true) [placesD, int, c2, c3, c4]
      · simp (decide := true) [placesD, int, c2, c3, c4]
    · simp (decide := true) [placesD, int, c2, c3]
  · simp (decide := true) [placesD, int, c2]
theorem refReady_ok (d : Dc) (hl : d.tiers.length < 2^62) : PureR Tryz.prog 21 [docD d] (.bool (readyB d)) := by
  refine pure_of_body mixed Tryz.func21 rfl call_21 ?_
  have h2 := refRole32_ok d 2 hl
  have h3 := refRole32_ok d 3 hl
  have h4 := refRole32_ok d 4 hl
  unfold readyB
  simp (decide := true) [Tryz.f21, docD, Dc.row, int]
  refine ECall.pure (by rfl) h2 (fun _ => rfl) ?_
  by_cases c2 : 0 ≤ roleI d.tiers 2
  · simp (decide := true) [int, c2]
    refine ECall.pure (by rfl) h3 (fun _ => rfl) ?_
    by_cases c3 : 0 ≤ roleI d.tiers 3
    · simp (decide := true) [int, c3]
      refine ECall.pure (by rfl) h4 (fun _ => rfl) ?_
      by_cases c4 : 0 ≤ roleI d.tiers 4
      · simp (decide := true) [int, c4]
      · simp (decide := true) [int, c4]
    · simp (decide := true) [int, c3]
  · simp (decide := true) [int, c2]
end Go.V.Doc
namespace Go.V.Doc
open Go Go.Proofs
def isWordB (d : Dc) (id : Int) : Bool := (getN d.notes id).2 && decide ((getN d.notes id).1.tier = roleI d.tiers 2)
theorem refIsWord_ok (d : Dc) (id : Int) (hl : d.notes.length < 2^62) (ht : d.tiers.length < 2^62) : PureR Tryz.prog 55 [docD d, int id] (.bool (isWordB d id)) := by
  refine pure_of_body mixed Tryz.func55 rfl call_55 ?_
  have h := refGet_ok d id hl
  have h2 := refRole32_ok d 2 ht
  unfold isWordB
  simp (decide := true) [Tryz.f55, docD, Dc.row, int]
  refine ECall.pure (by rfl) h (fun _ => rfl) ?_
  generalize getN d.notes id = r
  obtain ⟨n, ok⟩ := r
  cases ok with
  | false => simp (decide := true) [getD', Nt.row, int]
  | true =>
    simp (decide := true) [getD', Nt.row, int]
    refine scall_pure (by rfl) (by rfl) h2 (by simp [D.scalar]) ?_
    simp (decide := true) [int]
theorem get_ok32 (d : Dc) (id : Int) (hl : d.notes.length < 2^62) (ht : d.tiers.length < 2^62) : PureR Tryz.prog 51 [docD d, int id] (.tup [.agg (getN d.notes id).1.row, .bool (isWordB d id)]) := by
  refine pure_of_body mixed Tryz.func51 rfl call_51 ?_
  have h := get_ok d id hl
  have h2 := find_ok32 d ht
  unfold isWordB
  simp (decide := true) [Tryz.f51, docD, Dc.row, int]
  refine ECall.pure (by rfl) h (fun _ => rfl) ?_
  generalize getN d.notes id = r
  obtain ⟨n, ok⟩ := r
  cases ok with
  | false =>
    simp (decide := true) [getD', Nt.row, int]
    refine draw_b mixed 10 1 (by rfl) rfl rfl rfl rfl (by rfl) (by simp) ?_
    simp (decide := true) [getD', Nt.row, int]
  | true =>
    simp (decide := true) [getD', Nt.row, int]
    refine draw_b mixed 10 1 (by rfl) rfl rfl rfl rfl (by rfl) (by simp) ?_
    simp (decide := true) [getD', Nt.row, int]
    refine scall_pure (by rfl) (by rfl) h2 (by simp [D.scalar]) ?_
    simp (decide := true) [getD', Nt.row, int, placesD]
end Go.V.Doc
namespace Go.V.Doc
open Go Go.Proofs
def kidsY (d : Dc) (id : Int) (r : Int) : List Int := idsOf (kidsN d id (roleI d.tiers r))
end Go.V.Doc
namespace Go.V.Doc
open Go Go.Proofs
end Go.V.Doc
namespace Go.V.Doc
open Go Go.Proofs Go.Sort Go.RowKit
section
variable [Dr]
def cmpId (a b : Nt) : Int := cmpI a.id b.id
theorem fill1_ok (a b : Nt) : PureR Tryz.prog 66 [.agg a.row, .agg b.row] (int (cmpId a b)) := by
  refine pure_of_body mixed Tryz.func66 rfl call_66 ?_
  simp (decide := true) [Tryz.f66, Nt.row, int]
  refine ECall.pure (by rfl) (compare_ok a.id b.id) (by simp) ?_
  simp (decide := true) [cmpId, int]
theorem id_lays {blk off size : Nat} {w : World} {E : Nat → Prop} (h1 : Seen w E) (hb : E blk) : Go.Proofs.CmpLays Tryz.prog 66 #[] Nt.enc 7 cmpId blk off size w := by
  let d : Dr := ⟨true⟩
  exact @cmpLays_of d _ _ _ _ _ _ _ rfl _ _ nt_enc (fun x y => @fill1_ok d x y) _ _ _ _ _ h1 hb
end
def ltId : Nt → Nt → Bool := ltOf cmpId
theorem enters_id : ∀ args w, (callFunc 66 args).run Tryz.prog w = .ok (.enter 66 args) w := enters_of Tryz.func66 (by kernel_rfl) rfl
def insLoopI : Nat → Nat → Array Nt → Array Nt
  | 0, _, d => d
  | k + 1, i, d => insLoopI k (i + 1) (insInner ltId 0 i d)
theorem insOuter_loopI (b : Nat) : ∀ (k i : Nat) (d : Array Nt), k = b - i → insOuter ltId 0 b i d = insLoopI k i d
  | 0, i, d, h => by unfold insOuter; rw [if_neg (by omega)]; rfl
  | k + 1, i, d, h => by unfold insOuter; rw [if_pos (by omega), insOuter_loopI b k (i + 1) _ (by omega)]; rfl
def isortI (l : List Nt) : List Nt := (insLoopI (l.length - 1) 1 l.toArray).toList
theorem isortI_eq (l : List Nt) : (Sort.insertionSort ltId l.toArray 0 l.length) = (isortI l).toArray := by
  unfold Sort.insertionSort isortI
  rw [insOuter_loopI l.length (l.length - 1) (0 + 1) _ (by omega)]
theorem insI_ok (T : Nat) (l : List Nt) (hne : l ≠ []) (hl : l.length < 4611686018427387904) (hs : (isortI l).length = l.length) :
    CallC Tryz.prog 172 [.ar 0, .d (int 0), .d (int l.length), .fn 66 []] [(0, .arr T 7 (l.map Nt.row))] 1 (.d (.tup [])) 1 [(0, .arr T 7 ((isortI l).map Nt.row))] [] := by
  refine sort_bridge nt_enc call_172 hne hs ?_
  intro w E β vs hvs hseen g cap hg hE hH
  simp only [Sms, Sm, R, int] at hvs
  obtain ⟨_, _, rfl, rfl, _, _, rfl, rfl, _, _, rfl, ⟨_, rfl, rfl⟩, rfl⟩ := hvs
  have := AnyQ.insertionSortCmpFunc Tryz.insNote 7 isAggN sizeOfN Nt.enc nt_enc.len nt_enc.one cmpId 66 #[] g 0 cap 0 l.length l.toArray w enters_id
    (id_lays hseen hE) hH hg (Nat.zero_le _) (by simp) (by simpa using hl)
  change Calls Tryz.prog 172 _ _ _ at this
  rw [show ltOf cmpId = ltId from rfl, isortI_eq] at this
  simpa using this
end Go.V.Doc
namespace Go.Proofs
open Go.RowKit Go.Shelf
theorem sizeB : (Tryz.prog.info? 166).map (·.size) = some 2 := by kernel_rfl
theorem liesB : liesAt Tryz.prog Tryz.prog.depth 166 (2 / Tryz.prog.cellsOf 166) 0 166 1 = true := by kernel_rfl
theorem cc_used (b : Nat) (w : World) (h0 : w.cell? ⟨b, 0, none⟩ = some (.pointer (some ⟨b, 0, none⟩))) :
    Calls Tryz.prog 159 #[.pointer (some ⟨b, 0, none⟩)] w fun e w' => e = .returned (.tuple #[]) ∧ w' = w := by
  obtain ⟨j, hj, _⟩ := Option.map_eq_some_iff.1 sizeB
  go_enter Tryz.func159, Tryz.ntmps159
  go_wp2
  rw [Lib.run_neq_ptr_same w _ Tryz.underlying163 hj]
  go_wp2
  go_end0
  exact ⟨rfl, rfl⟩
theorem cc_fresh (b : Nat) (w : World) (h0 : w.cell? ⟨b, 0, none⟩ = some (.pointer none)) (hsh : w.shape? b = some (166, 2)) (hfz : w.frozen? ⟨b, 0, none⟩ = false) :
    Calls Tryz.prog 159 #[.pointer (some ⟨b, 0, none⟩)] w fun e w' => e = .returned (.tuple #[]) ∧ w' = w.setCell ⟨b, 0, none⟩ (.pointer (some ⟨b, 0, none⟩)) := by
  obtain ⟨j, hj, hjs⟩ := Option.map_eq_some_iff.1 sizeB
  go_enter Tryz.func159, Tryz.ntmps159
  go_wp2
  rw [Lib.run_to_unsafe w ⟨b, 0, none⟩ Tryz.underlying163 Tryz.underlying258 hj (by rw [hjs]; decide) hsh (Nat.zero_lt_succ 1)]
  simp only [Result.andThen]
  rw [Oper.upon_value]
  go_wp2
  rw [run_callFunc_extern Tryz.func205 (by kernel_rfl) (by kernel_rfl) (by kernel_rfl) (e := Extern.AbiNoEscape.same) (by kernel_rfl)]
  rw [Lib.run_noEscape]
  simp only [Result.andThen]
  rw [Oper.upon_value]
  go_wp2
  rw [Lib.run_from_unsafe w ⟨b, 0, none⟩ Tryz.underlying258 Tryz.underlying163 hj hsh liesB]
  simp only [Result.andThen]
  rw [Oper.upon_value]
  go_wp2
  go_end0
  exact ⟨rfl, rfl⟩
theorem bldX2 : Builder.X72 Tryz.prog Tryz.bldStr_ren := ⟨sizeB, liesB⟩
theorem bldX : Builder.Extra Tryz.prog Tryz.bldStr_ren := { bldX2 with
  t5 := Tryz.underlying5
  a5 := Tryz.isAgg5
  z5 := Tryz.sizeOf5
  v5 := Tryz.zeroValue5
  infoByte := by kernel_rfl
  cellsByte := by kernel_rfl
  sizeByte := by kernel_rfl
  neB5 := by decide }
end Go.Proofs
namespace Go.V
open Go Go.Proofs
def rowNt : List D → Option Doc.Nt
  | [.int .i64 a, .int .i64 b, .int .i64 c, .int .i64 d, .int .i64 e, .int .i64 f, .str t] => some ⟨a, b, c, d, e, f, t⟩
  | _ => none
def rowsNt : List (List D) → Option (List Doc.Nt)
  | [] => some []
  | r :: rs => match rowNt r, rowsNt rs with
    | some x, some l => some (x :: l)
    | _, _ => none
theorem rowNt_eq {r : List D} {x : Doc.Nt} (h : rowNt r = some x) : r = x.row := by
  unfold rowNt at h
  split at h
  · cases h; rfl
  · cases h
theorem rowsNt_eq : ∀ {rows : List (List D)} {l : List Doc.Nt}, rowsNt rows = some l → rows = l.map Doc.Nt.row
  | [], l, h => by simp [rowsNt] at h; subst h; rfl
  | r :: rs, l, h => by
    simp only [rowsNt] at h
    split at h
    · rename_i x l' h1 h2
      cases h
      rw [rowNt_eq h1, rowsNt_eq h2]; rfl
    · cases h
theorem ins_e (T g : Nat) : CallC Tryz.prog 172 [.ar 0, .d (int 0), .d (int 0), .fn g []] [(0, .arr T 7 [])] 1 (.tup []) 1 [(0, .arr T 7 [])] [] := by
  refine callC_of_body mixed Tryz.func172 rfl call_172 (by simp [Sym.los, Sym.lo]) ?_
  simp (decide := true) [Tryz.f172, int]
  refine ⟨by unfold I64; omega, loop_rule mixed (fun _ : Unit => { n := 53, next := 1, base := 1, slots := [(2, .d (int 0)), (8, .d (int 1))], own := [(0, .arr T 7 [])] })
    (fun _ => True) (fun _ => 0) () trivial (by simp (decide := true) [int]) ?_⟩
  intro _ _
  simp (decide := true) [int]
def kcIns (args : List Sym) (own : List (Nat × Obj')) (n : Nat) : Option XR := match args, own, n with
  | [.ar 0, .d (.int .i64 a), .d (.int .i64 b), .fn g []], [(0, .arr T 7 (r0 :: rows))], 1 => match rowsNt (r0 :: rows) with
    | some l => match Nat.beq g 66 with
      | true => oguard (decide (a = 0) && decide (b = (l.length : Int)) && Nat.blt 0 l.length && Nat.beq (Doc.isortI l).length l.length && Nat.blt l.length 1000)
        (some ⟨.d (.tup []), 1, [(0, .arr T 7 ((Doc.isortI l).map Doc.Nt.row))], []⟩)
      | false => oguard (Nat.beq g 113 && decide (a = 0) && decide (b = (l.length : Int)) && Nat.blt 0 l.length && Nat.beq (Doc.isort l).length l.length && Nat.blt l.length 1000)
        (some ⟨.d (.tup []), 1, [(0, .arr T 7 ((Doc.isort l).map Doc.Nt.row))], []⟩)
    | none => none
  | [.ar 0, .d (.int .i64 a), .d (.int .i64 b), .fn g []], [(0, .arr T 7 [])], 1 => oguard (decide (a = 0) && decide (b = 0)) (some ⟨.tup [], 1, [(0, .arr T 7 [])], []⟩)
  | [.d (.sl []), .d (.int .i64 a), .d (.int .i64 b), .fn g []], [], 0 => oguard (Nat.beq g 113 && decide (a = 0) && decide (b = 0)) (some ⟨.tup [], 0, [], []⟩)
  | _, _, _ => none
theorem kcIns_good {args : List Sym} {own : List (Nat × Obj')} {n : Nat} {r : XR} (h : kcIns args own n = some r) : CallC Tryz.prog 172 args own n r.s r.nx r.own r.mv := by
  unfold kcIns at h
  split at h
  · rename_i a b g T r0 rows
    split at h
    · rename_i l hl
      split at h
      · rename_i hg
        rw [oguard_some] at h
        simp only [Bool.and_eq_true, beq_iff, blt_iff, decide_eq_true_eq] at h
        obtain ⟨⟨⟨⟨⟨h2, h3⟩, h4⟩, h5⟩, h6⟩, h⟩ := h
        rw [beq_iff] at hg
        cases h
        subst hg; subst h2; subst h3
        rw [rowsNt_eq hl]
        exact Doc.insI_ok T l (by intro e; subst e; simp at h4) (by omega) h5
      · rw [oguard_some] at h
        simp only [Bool.and_eq_true, beq_iff, blt_iff, decide_eq_true_eq] at h
        obtain ⟨⟨⟨⟨⟨⟨h1, h2⟩, h3⟩, h4⟩, h5⟩, h6⟩, h⟩ := h
        cases h
        subst h1; subst h2; subst h3
        rw [rowsNt_eq hl]
        exact Doc.ins_ok T l (by intro e; subst e; simp at h4) (by omega) h5
    · cases h
  · rename_i a b g T
    rw [oguard_some] at h
    simp only [Bool.and_eq_true, beq_iff, decide_eq_true_eq] at h
    obtain ⟨⟨h2, h3⟩, h⟩ := h
    cases h
    subst h2; subst h3
    exact ins_e T g
  · rename_i a b g
    rw [oguard_some] at h
    simp only [Bool.and_eq_true, beq_iff, decide_eq_true_eq] at h
    obtain ⟨⟨⟨h1, h2⟩, h3⟩, h⟩ := h
    cases h
    subst h1; subst h2; subst h3
    exact Doc.ins_nil
  · cases h
theorem writeFY_ok (s : ByteArray) (hs : s.size < 2^40) :
    CallC Tryz.prog 100 [.bp 0 0, .d (.str s)] [(0, .box 166 [.d (.val (.pointer none)), .nils])] 1 (.tup [.d (int s.size), .d (.val .nilIface)]) 2 [(1, .arr 5 1 (strRows s)), (0, .box 166 [.bp 0 0, .ar 1])] [1] := by
  have hC : CallC Tryz.prog 159 [.bp 0 0] [(0, .box 166 [.d (.val (.pointer none)), .nils])] 1 (.d (.tup [])) 1 [(0, .box 166 [.bp 0 0, .nils])] [] := bld_fresh (by rfl) cc_fresh
  refine callC_of_body mixed Tryz.func100 rfl call_100 (by simp [Sym.los, Sym.lo]) ?_
  simp (decide := true) [Tryz.f100, int]
  refine ECall.mut [0] [.bp 0 0] [(0, .box 166 [.d (.val (.pointer none)), .nils])] (by rfl) (by simp) (by simp) (by simp) hC ?_
  simp (decide := true) [int, maxLen]
  exact ⟨by omega, by omega⟩
theorem writeUY_ok (s : ByteArray) (rows : List (List D)) (hs : rows.length + s.size < 2^40) :
    CallC Tryz.prog 100 [.bp 0 0, .d (.str s)] [(0, .box 166 [.bp 0 0, .ar 1]), (1, .arr 5 1 rows)] 2 (.tup [.d (int s.size), .d (.val .nilIface)]) 2 [(0, .box 166 [.bp 0 0, .ar 1]), (1, .arr 5 1 (rows ++ strRows s))] [1] := by
  have hC : CallC Tryz.prog 159 [.bp 0 0] [(0, .box 166 [.bp 0 0, .ar 1]), (1, .arr 5 1 rows)] 2 (.d (.tup [])) 2 [(0, .box 166 [.bp 0 0, .ar 1]), (1, .arr 5 1 rows)] [] := bld_used (by rfl) cc_used _ _ _
  refine callC_of_body mixed Tryz.func100 rfl call_100 (by simp [Sym.los, Sym.lo]) ?_
  simp (decide := true) [Tryz.f100, int]
  refine ECall.mut [0, 1] [.bp 0 0] [(0, .box 166 [.bp 0 0, .ar 1]), (1, .arr 5 1 rows)] (by rfl) (by simp) (by simp) (by simp; rfl) hC ?_
  simp (decide := true) [int, maxLen]
  exact ⟨by omega, by omega⟩
end Go.V
namespace Go.V
open Go Go.Proofs Go.RowKit
def kcF (f : Nat) : Option (List Sym → List (Nat × Obj') → Nat → Option XR) := match Nat.beq f 172 with
  | true => some kcIns
  | false => match Nat.beq f 159 with
    | true => some (kcCopy 166)
    | false => match Nat.beq f 100 with
      | true => some (kcWrite 166 5)
      | false => match Nat.beq f 101 with
        | true => some (kcString 166 5)
        | false => none
def mfB (f : Nat) : Bool := Nat.beq f 53 || (Nat.beq f 54 || (Nat.beq f 52 || (Nat.beq f 20 || (Nat.beq f 51 ||
  (Nat.beq f 65 || (Nat.beq f 121 || (Nat.beq f 112 || (Nat.beq f 165 || Nat.beq f 172))))))))
noncomputable def mkGb : XG := { mkG Tryz.prog with kc := kcF, mf := mfB }
theorem mkGb_good : XGood Tryz.prog mkGb := by
  have g := mkG_good can_all
  refine ⟨g.ti, g.zf, g.ek, g.fn, g.kn, ?_⟩
  intro f k args own n r hk hr _
  have hk : kcF f = some k := hk
  unfold kcF at hk
  split at hk
  · rename_i e
    rw [beq_iff] at e
    cases hk
    subst e
    exact kcIns_good hr
  · split at hk
    · rename_i e
      rw [beq_iff] at e
      cases hk
      subst e
      exact kcCopy_good (bld_fresh (by rfl) cc_fresh) (bld_used (by rfl) cc_used) hr
    · split at hk
      · rename_i e
        rw [beq_iff] at e
        cases hk
        subst e
        exact kcWrite_good (fun s hs => writeFY_ok s hs) (fun s rows hs => writeUY_ok s rows hs) hr
      · split at hk
        · rename_i e
          rw [beq_iff] at e
          cases hk
          subst e
          exact kcString_good (fun s hs => bld_string Tryz.bldStr bldX (by rfl) s hs) hr
        · cases hk
theorem idle_all : IdleC Tryz.prog 70 2 := by
  refine ⟨call_70, fun vs w hv => ?_⟩
  obtain ⟨p, q, rfl⟩ : ∃ p q, vs = [p, q] := by
    match vs, hv with
    | [p, q], _ => exact ⟨p, q, rfl⟩
  have hta : ∀ w, (Instr.typeAssert Value.nilIface 20 127 true).run Tryz.prog w = .ok (.tuple #[.agg #[.int .i64 0], .bool false]) w := fun w => by kernel_rfl
  refine callsD_of_wpS Tryz.func70 rfl fun c₀ cs hu => ?_
  apply wpS_seq
  apply wpS_region
  simp [wpOpsS, go_sem, recoverD, hu, Tryz.ntmps70, Exit.thenS, hta]
  apply wpS_seq
  apply wpS_region
  simp [wpOpsS, go_sem, Exit.thenS]
  refine wpS_cond (t := false) (by simp [Act.eval, Array.replicate]) ?_
  simp only [Bool.false_eq_true, if_false]
  refine wpS_of_wp (wp_skip ?_)
  have hbel := below_alloc w (Obj.cells #[Value.int IntKind.i64 0] 127)
  cases c₀
  simp_all [bodyPostS, results, Tryz.results70]
end Go.V
namespace Go.V
open Go Go.Proofs
mutual
def eqD : D → D → Bool
  | .int k n, .int k' n' => decide (k = k') && decide (n = n')
  | .bool a, .bool b => decide (a = b)
  | .str a, .str b => decide (a.data.toList = b.data.toList)
  | .sl l, .sl m => eqR l m
  | .agg l, .agg m => eqDs l m
  | _, _ => false
def eqR : List (List D) → List (List D) → Bool
  | [], [] => true
  | r :: rs, s :: ss => eqDs r s && eqR rs ss
  | _, _ => false
def eqDs : List D → List D → Bool
  | [], [] => true
  | a :: r, b :: s => eqD a b && eqDs r s
  | _, _ => false
end
mutual
theorem eqD_eq : ∀ {a b : D}, eqD a b = true → a = b
  | .int k n, b, h => by
    cases b <;> simp [eqD] at h
    obtain ⟨rfl, rfl⟩ := h; rfl
  | .bool x, b, h => by
    cases b <;> simp [eqD] at h
    subst h; rfl
  | .str x, b, h => by
    cases b <;> simp [eqD] at h
    rename_i y
    obtain ⟨⟨x⟩⟩ := x
    obtain ⟨⟨y⟩⟩ := y
    cases h; rfl
  | .sl l, b, h => by
    cases b <;> simp only [eqD, Bool.false_eq_true] at h
    rw [eqR_eq h]
  | .agg l, b, h => by
    cases b <;> simp only [eqD, Bool.false_eq_true] at h
    rw [eqDs_eq h]
  | .ptr _, b, h => by cases b <;> simp [eqD] at h
  | .tup _, b, h => by cases b <;> simp [eqD] at h
  | .fn _ _, b, h => by cases b <;> simp [eqD] at h
  | .val _, b, h => by cases b <;> simp [eqD] at h
  | .mp _, b, h => by cases b <;> simp [eqD] at h
theorem eqR_eq : ∀ {a b : List (List D)}, eqR a b = true → a = b
  | [], b, h => by cases b with
    | nil => rfl
    | cons => simp [eqR] at h
  | r :: rs, b, h => by cases b with
    | nil => simp [eqR] at h
    | cons s ss =>
      simp only [eqR, Bool.and_eq_true] at h
      rw [eqDs_eq h.1, eqR_eq h.2]
theorem eqDs_eq : ∀ {a b : List D}, eqDs a b = true → a = b
  | [], b, h => by cases b with
    | nil => rfl
    | cons => simp [eqDs] at h
  | r :: rs, b, h => by cases b with
    | nil => simp [eqDs] at h
    | cons s ss =>
      simp only [eqDs, Bool.and_eq_true] at h
      rw [eqD_eq h.1, eqDs_eq h.2]
end
abbrev ii (n : Int) : D := .int .i64 n
def ka1 : List D := [.agg [ii 5, .str ⟨⟨[116]⟩⟩, ii 1000, ii 1, .sl [[ii 1]], .sl [[.str ⟨⟨[116, 101, 120, 116]⟩⟩, ii 0, ii 1, ii (-1)], [.str ⟨⟨[119, 111, 114, 100]⟩⟩, ii 2, ii 2, ii 0], [.str ⟨⟨[109, 111, 114, 112, 104]⟩⟩, ii 3, ii 3, ii 1], [.str ⟨⟨[103, 108, 111, 115, 115]⟩⟩, ii 4, ii 4, ii 2]], .sl [[ii 1, ii 0, ii 0, ii 0, ii 900, ii 0, .str ⟨⟨[98, 97, 98, 105, 32, 120, 120]⟩⟩], [ii 2, ii 1, ii 1, ii 0, ii 400, ii 0, .str ⟨⟨[98, 97, 98, 105]⟩⟩], [ii 3, ii 1, ii 1, ii 400, ii 900, ii 0, .str ⟨⟨[120, 120]⟩⟩]]], .agg [.sl [[.str ⟨⟨[98]⟩⟩, ii 2], [.str ⟨⟨[97]⟩⟩, ii 3], [.str ⟨⟨[112]⟩⟩, ii 0], [.str ⟨⟨[105]⟩⟩, ii 11]], .str ⟨⟨[109, 97, 105, 110]⟩⟩, .sl [[.str ⟨⟨[98]⟩⟩, .sl [[ii 1]]], [.str ⟨⟨[97]⟩⟩, .sl [[ii 2]]], [.str ⟨⟨[112]⟩⟩, .sl [[ii 3]]], [.str ⟨⟨[105]⟩⟩, .sl [[ii 4]]]], .sl [], .sl [[.sl [[ii 3]], .sl [[ii 1]], .sl [[ii 1, ii 1]], .sl [[ii 1, ii 1]], .bool false, .bool false]], ii 2, .sl [[ii 0, ii 1, ii 1], [ii 1, ii 2, ii 1]], .sl [[ii 1]], .sl [[ii 1, .sl [[ii 1], [ii 2]], ii 1, .sl [], ii 0, .sl [[.str ⟨⟨[100, 111, 103]⟩⟩, .str ⟨⟨[]⟩⟩]], .sl [], .sl []], [ii 2, .sl [[ii 3], [ii 4]], ii 2, .sl [], ii 0, .sl [[.str ⟨⟨[80, 76]⟩⟩, .str ⟨⟨[]⟩⟩]], .sl [], .sl []]]], .sl [[ii 5, ii 2, .bool true, .sl [[ii 1, ii 0, ii 0], [ii 2, ii 0, ii 0]]]], ii 100]
def kr1 : D := .tup [.agg [ii 5, .str ⟨⟨[116]⟩⟩, ii 1000, ii 1, .sl [[ii 1]], .sl [[.str ⟨⟨[116, 101, 120, 116]⟩⟩, ii 0, ii 1, ii (-1)], [.str ⟨⟨[119, 111, 114, 100]⟩⟩, ii 2, ii 2, ii 0], [.str ⟨⟨[109, 111, 114, 112, 104]⟩⟩, ii 3, ii 3, ii 1], [.str ⟨⟨[103, 108, 111, 115, 115]⟩⟩, ii 4, ii 4, ii 2]], .sl [[ii 1, ii 0, ii 0, ii 0, ii 900, ii 0, .str ⟨⟨[98, 97, 98, 105, 32, 120, 120]⟩⟩], [ii 2, ii 1, ii 1, ii 0, ii 400, ii 0, .str ⟨⟨[98, 97, 98, 105]⟩⟩], [ii 3, ii 1, ii 1, ii 400, ii 900, ii 0, .str ⟨⟨[120, 120]⟩⟩], [ii 100, ii 2, ii 2, ii 0, ii 0, ii 0, .str ⟨⟨[98, 97]⟩⟩], [ii 101, ii 3, ii 100, ii 0, ii 0, ii 0, .str ⟨⟨[100, 111, 103]⟩⟩], [ii 102, ii 2, ii 2, ii 0, ii 0, ii 1, .str ⟨⟨[112, 105]⟩⟩], [ii 103, ii 3, ii 102, ii 0, ii 0, ii 0, .str ⟨⟨[80, 76]⟩⟩]]], ii 0]
theorem kt1 : PureR Tryz.prog 28 ka1 kr1 := xAll_sound mixed_X mkGb_good idle_all (k := 40) (j := 1) (by kernel_rfl)
def ka2 : List D := [.agg [ii 5, .str ⟨⟨[116]⟩⟩, ii 1000, ii 1, .sl [[ii 1]], .sl [[.str ⟨⟨[116, 101, 120, 116]⟩⟩, ii 0, ii 1, ii (-1)], [.str ⟨⟨[119, 111, 114, 100]⟩⟩, ii 2, ii 2, ii 0], [.str ⟨⟨[109, 111, 114, 112, 104]⟩⟩, ii 3, ii 3, ii 1], [.str ⟨⟨[103, 108, 111, 115, 115]⟩⟩, ii 4, ii 4, ii 2]], .sl [[ii 1, ii 0, ii 0, ii 0, ii 900, ii 0, .str ⟨⟨[98, 97, 98, 105, 32, 120, 120]⟩⟩], [ii 2, ii 1, ii 1, ii 0, ii 400, ii 0, .str ⟨⟨[98, 97, 98, 105]⟩⟩], [ii 3, ii 1, ii 1, ii 400, ii 900, ii 0, .str ⟨⟨[120, 120]⟩⟩], [ii 100, ii 2, ii 2, ii 0, ii 0, ii 0, .str ⟨⟨[98, 97]⟩⟩], [ii 101, ii 3, ii 100, ii 0, ii 0, ii 0, .str ⟨⟨[100, 111, 103]⟩⟩], [ii 102, ii 2, ii 2, ii 0, ii 0, ii 1, .str ⟨⟨[112, 105]⟩⟩], [ii 103, ii 3, ii 102, ii 0, ii 0, ii 0, .str ⟨⟨[80, 76]⟩⟩]]], ii 2]
def kr2 : D := .tup [.sl [[.str ⟨⟨[98, 97]⟩⟩], [.str ⟨⟨[112, 105]⟩⟩]], .sl [[.str ⟨⟨[100, 111, 103]⟩⟩], [.str ⟨⟨[80, 76]⟩⟩]]]
theorem kt2 : PureR Tryz.prog 18 ka2 kr2 := xpureD_sound mixed_X mkGb_good (k := 40) (by kernel_rfl)
def ka3 : List D := [.agg [ii 5, .str ⟨⟨[116]⟩⟩, ii 1000, ii 1, .sl [[ii 1]], .sl [[.str ⟨⟨[116, 101, 120, 116]⟩⟩, ii 0, ii 1, ii (-1)], [.str ⟨⟨[119, 111, 114, 100]⟩⟩, ii 2, ii 2, ii 0], [.str ⟨⟨[109, 111, 114, 112, 104]⟩⟩, ii 3, ii 3, ii 1], [.str ⟨⟨[103, 108, 111, 115, 115]⟩⟩, ii 4, ii 4, ii 2]], .sl [[ii 1, ii 0, ii 0, ii 0, ii 900, ii 0, .str ⟨⟨[98, 97, 98, 105, 32, 120, 120]⟩⟩], [ii 2, ii 1, ii 1, ii 0, ii 400, ii 0, .str ⟨⟨[98, 97, 98, 105]⟩⟩], [ii 3, ii 1, ii 1, ii 400, ii 900, ii 0, .str ⟨⟨[120, 120]⟩⟩], [ii 100, ii 2, ii 2, ii 0, ii 0, ii 0, .str ⟨⟨[98, 97]⟩⟩], [ii 101, ii 3, ii 100, ii 0, ii 0, ii 0, .str ⟨⟨[100, 111, 103]⟩⟩], [ii 102, ii 2, ii 2, ii 0, ii 0, ii 1, .str ⟨⟨[112, 105]⟩⟩], [ii 103, ii 3, ii 102, ii 0, ii 0, ii 0, .str ⟨⟨[80, 76]⟩⟩]]], .agg [.sl [[.str ⟨⟨[98]⟩⟩, ii 2], [.str ⟨⟨[97]⟩⟩, ii 3], [.str ⟨⟨[112]⟩⟩, ii 0], [.str ⟨⟨[105]⟩⟩, ii 11]], .str ⟨⟨[109, 97, 105, 110]⟩⟩, .sl [[.str ⟨⟨[98]⟩⟩, .sl [[ii 1]]], [.str ⟨⟨[97]⟩⟩, .sl [[ii 2]]], [.str ⟨⟨[112]⟩⟩, .sl [[ii 3]]], [.str ⟨⟨[105]⟩⟩, .sl [[ii 4]]]], .sl [], .sl [[.sl [[ii 3]], .sl [[ii 1]], .sl [[ii 1, ii 1]], .sl [[ii 1, ii 1]], .bool false, .bool false]], ii 2, .sl [[ii 0, ii 1, ii 1], [ii 1, ii 2, ii 1]], .sl [[ii 1]], .sl [[ii 1, .sl [[ii 1], [ii 2]], ii 1, .sl [], ii 0, .sl [[.str ⟨⟨[100, 111, 103]⟩⟩, .str ⟨⟨[]⟩⟩]], .sl [], .sl []], [ii 2, .sl [[ii 3], [ii 4]], ii 2, .sl [], ii 0, .sl [[.str ⟨⟨[80, 76]⟩⟩, .str ⟨⟨[]⟩⟩]], .sl [], .sl []]]], .sl []]
def kr3 : D := .sl [[ii 2]]
theorem kt3 : PureR Tryz.prog 30 ka3 kr3 := xpureD_sound mixed_X mkGb_good (k := 40) (by kernel_rfl)
def ka4 : List D := [.agg [ii 5, .str ⟨⟨[116]⟩⟩, ii 1000, ii 1, .sl [[ii 1]], .sl [[.str ⟨⟨[116, 101, 120, 116]⟩⟩, ii 0, ii 1, ii (-1)], [.str ⟨⟨[119, 111, 114, 100]⟩⟩, ii 2, ii 2, ii 0], [.str ⟨⟨[109, 111, 114, 112, 104]⟩⟩, ii 3, ii 3, ii 1], [.str ⟨⟨[103, 108, 111, 115, 115]⟩⟩, ii 4, ii 4, ii 2]], .sl [[ii 1, ii 0, ii 0, ii 0, ii 900, ii 0, .str ⟨⟨[98, 97, 98, 105, 32, 120, 120]⟩⟩], [ii 2, ii 1, ii 1, ii 0, ii 400, ii 0, .str ⟨⟨[98, 97, 98, 105]⟩⟩], [ii 3, ii 1, ii 1, ii 400, ii 900, ii 0, .str ⟨⟨[120, 120]⟩⟩], [ii 100, ii 2, ii 2, ii 0, ii 0, ii 0, .str ⟨⟨[98, 97]⟩⟩], [ii 101, ii 3, ii 100, ii 0, ii 0, ii 0, .str ⟨⟨[100, 111, 103]⟩⟩], [ii 102, ii 2, ii 2, ii 0, ii 0, ii 1, .str ⟨⟨[112, 105]⟩⟩], [ii 103, ii 3, ii 102, ii 0, ii 0, ii 0, .str ⟨⟨[80, 76]⟩⟩]]], .agg [.sl [[.str ⟨⟨[98]⟩⟩, ii 2], [.str ⟨⟨[97]⟩⟩, ii 3], [.str ⟨⟨[112]⟩⟩, ii 0], [.str ⟨⟨[105]⟩⟩, ii 11]], .str ⟨⟨[109, 97, 105, 110]⟩⟩, .sl [[.str ⟨⟨[98]⟩⟩, .sl [[ii 1]]], [.str ⟨⟨[97]⟩⟩, .sl [[ii 2]]], [.str ⟨⟨[112]⟩⟩, .sl [[ii 3]]], [.str ⟨⟨[105]⟩⟩, .sl [[ii 4]]]], .sl [], .sl [[.sl [[ii 3]], .sl [[ii 1]], .sl [[ii 1, ii 1]], .sl [[ii 1, ii 1]], .bool false, .bool false]], ii 2, .sl [[ii 0, ii 1, ii 1], [ii 1, ii 2, ii 1]], .sl [[ii 1]], .sl [[ii 1, .sl [[ii 1], [ii 2]], ii 1, .sl [], ii 0, .sl [[.str ⟨⟨[100, 111, 103]⟩⟩, .str ⟨⟨[]⟩⟩]], .sl [], .sl []], [ii 2, .sl [[ii 3], [ii 4]], ii 2, .sl [], ii 0, .sl [[.str ⟨⟨[80, 76]⟩⟩, .str ⟨⟨[]⟩⟩]], .sl [], .sl []]]], .sl [[ii 5, ii 2, .bool true, .sl [[ii 1, ii 0, ii 0], [ii 2, ii 0, ii 0]]]]]
def kr4 : D := .sl []
theorem kt4 : PureR Tryz.prog 30 ka4 kr4 := xpureD_sound mixed_X mkGb_good (k := 40) (by kernel_rfl)
def knC (f : Nat) (ds : List D) : Option D :=
  match Nat.beq f 28 && eqDs ds ka1 with
  | true => some kr1
  | false =>
    match Nat.beq f 18 && eqDs ds ka2 with
    | true => some kr2
    | false =>
      match Nat.beq f 30 && eqDs ds ka3 with
      | true => some kr3
      | false =>
        match Nat.beq f 30 && eqDs ds ka4 with
        | true => some kr4
        | false =>
          none
theorem knC_good {f : Nat} {ds : List D} {r : D} (h : knC f ds = some r) : PureR Tryz.prog f ds r := by
  unfold knC at h
  split at h
  · rename_i e
    rw [Bool.and_eq_true, beq_iff] at e
    cases h
    rw [e.1, eqDs_eq e.2]
    exact kt1
  · split at h
    · rename_i e
      rw [Bool.and_eq_true, beq_iff] at e
      cases h
      rw [e.1, eqDs_eq e.2]
      exact kt2
    · split at h
      · rename_i e
        rw [Bool.and_eq_true, beq_iff] at e
        cases h
        rw [e.1, eqDs_eq e.2]
        exact kt3
      · split at h
        · rename_i e
          rw [Bool.and_eq_true, beq_iff] at e
          cases h
          rw [e.1, eqDs_eq e.2]
          exact kt4
        · cases h
noncomputable def mkGc : XG := { mkGb with kn := fun f => some (knC f) }
theorem mkGc_good : XGood Tryz.prog mkGc := by
  have g := mkGb_good
  refine ⟨g.ti, g.zf, g.ek, g.fn, ?_, g.kc⟩
  intro f k ds r hk hr
  have hk : some (knC f) = some k := hk
  cases hk
  exact knC_good hr
theorem pure_of_isTc {f k : Nat} (h : isT (xcall mkGc (xdrawF mkGc) k f [] [] 0) = true) : PureR Tryz.prog f [] (.bool true) := by
  have hg := runF_sound mixed_X mkGc_good k
  unfold isT at h
  split at h
  · rename_i nx own mv hr
    have := hg _ _ _ _ _ hr (by simp [Sym.los])
    exact pureR_of_callC (ds := []) this
  · cases h
theorem awake32_run : isT (xcall mkGc (xdrawF mkGc) 50 13 [] [] 0) = true := by kernel_rfl
theorem awake32_R : PureR Tryz.prog 13 [] (.bool true) := pure_of_isTc awake32_run
end Go.V
namespace Go.V.Doc
open Go Go.Proofs
theorem Rgt.label {d : Dc} (h : Rgt d) {t : Nat} (ht : t < d.tiers.length) (k4 : (tirAt d t).kind = 4) {a b : Nt} (ha : inT d t a) (hb : inT d t b) (hp : a.par = b.par) : a = b := by
  apply Classical.byContradiction
  intro hne
  have hbad := (ter_iff.1 (h.ter t ht)).2 a (inT_iff.2 ha)
  have hma : a ∈ sibs d.notes t a.par := by unfold sibs; rw [List.mem_filter]; exact ⟨ha.1, by simp [ha.2]⟩
  have hmb : b ∈ sibs d.notes t a.par := by unfold sibs; rw [List.mem_filter]; exact ⟨hb.1, by simp [hb.2, hp]⟩
  have hlen : ¬ 1 < (sibs d.notes t a.par).length := by
    rw [k4] at hbad
    simp [badR] at hbad
    omega
  generalize sibs d.notes t a.par = S at hlen hma hmb
  obtain ⟨i, hi, rfl⟩ := List.mem_iff_getElem.1 hma
  obtain ⟨j, hj, rfl⟩ := List.mem_iff_getElem.1 hmb
  have : i = j := by omega
  subst this
  exact hne rfl
theorem Rgt.gloss {d : Dc} (h : Rgt d) {t : Nat} (ht : t < d.tiers.length) (hr : (d.tiers[t]).role = 4) : (tirAt d t).kind = 4 := by
  have h1 := h.good.tiers t ht
  rw [tirAt_nat d ht]
  generalize d.tiers[t] = x at *
  unfold oneE at h1
  have key : ∀ pr, rolesE pr x.kind x.role = 0 → x.kind = 4 := by
    intro pr hp
    unfold rolesE at hp
    rw [hr] at hp
    simp at hp
    exact Classical.byContradiction fun hne => by rw [if_neg hne] at hp; cases hp
  split at h1
  · cases h1
  · split at h1
    · cases h1
    · split at h1
      · cases h1
      · split at h1
        · cases h1
        · split at h1
          · cases h1
          · split at h1
            · split at h1
              · exact key _ h1
              · cases h1
            · split at h1
              · cases h1
              · split at h1
                · cases h1
                · exact key _ h1
theorem lightP_spec {d : Dc} (h : lightP d = true) : d.notes.length ≤ 14 ∧ d.tiers.length ≤ 6 ∧ d.spk.length ≤ 6 ∧ Rgt d := by
  simp only [lightP, Bool.and_eq_true, decide_eq_true_eq] at h
  exact ⟨h.1.1.1, h.1.1.2, h.1.2, right_iff.1 (by rw [check_eq]; exact h.2)⟩
end Go.V.Doc
namespace Go.V.Doc
open Go Go.Proofs
theorem tiersZ {d : Dc} (h : Rgt d) : d.tiers.length ≤ 20 := by
  have := h.tiers
  unfold tiersE at this
  split at this
  · cases this
  · omega
theorem Rgt.ttZ {d : Dc} (h : Rgt d) {m : Nt} (hm : m ∈ d.notes) : ∃ t : Nat, t < d.tiers.length ∧ m.tier = t := by
  have hok := note_of h.good hm
  exact ⟨m.tier.toNat, by have := hok.t0; have := hok.t1; omega, by have := hok.t0; omega⟩
def chN (d : Dc) (t : Nat) (n : Nt) : List Nt := n :: (if h : (tirAt d t).kind ≠ 0 ∧ (tirAt d t).par.toNat < t then chN d (tirAt d t).par.toNat (upN d n) else [])
termination_by t
decreasing_by exact h.2
theorem chN_eq (d : Dc) (t : Nat) (n : Nt) : chN d t n = n :: (if h : (tirAt d t).kind ≠ 0 ∧ (tirAt d t).par.toNat < t then chN d (tirAt d t).par.toNat (upN d n) else []) := by rw [chN]
def chainN (d : Dc) (n : Nt) : List Nt := chN d n.tier.toNat n
def chainE (d : Dc) (r : Nt × Bool) : List Nt := if r.2 = true then chainN d r.1 else []
theorem chain_step {d : Dc} (h : Rgt d) {n : Nt} (hn : n ∈ d.notes) : chainN d n = n :: chainE d (getN d.notes n.par) ∧ ((getN d.notes n.par).2 = true → (getN d.notes n.par).1 ∈ d.notes ∧ (getN d.notes n.par).1.tier < n.tier) := by
  obtain ⟨t, htl, et⟩ := h.ttZ hn
  unfold chainN
  rw [et, Int.toNat_natCast, chN_eq]
  by_cases hk : (tirAt d t).kind = 0
  · have hz : n.par = 0 := h.root ⟨hn, et⟩ hk
    have hg : (getN d.notes n.par).2 = false := by
      cases hc : (getN d.notes n.par).2 with
      | false => rfl
      | true =>
        obtain ⟨g1, g2⟩ := getN_mem hc
        have := (h.nok _ g1).lo
        omega
    rw [dif_neg (fun e => e.1 hk)]
    refine ⟨?_, fun e => by rw [hg] at e; cases e⟩
    unfold chainE
    rw [hg]; rfl
  · have hu := h.up htl hk
    obtain ⟨p1, p2⟩ := h.parent ⟨hn, et⟩ htl hk
    have hg := getN_of h p1.1
    rw [p2] at hg
    rw [dif_pos ⟨hk, hu.2⟩, hg]
    refine ⟨?_, fun _ => ⟨p1.1, by have := p1.2; rw [this]; omega⟩⟩
    unfold chainE chainN
    rw [if_pos rfl, p1.2, Int.toNat_natCast]
theorem chain_mem {d : Dc} (h : Rgt d) : ∀ (k : Nat) (n : Nt), n ∈ d.notes → n.tier.toNat ≤ k → (∀ m ∈ chainN d n, m ∈ d.notes) ∧ (chainN d n).length ≤ n.tier.toNat + 1 := by
  intro k
  induction k with
  | zero =>
    intro n hn hk
    obtain ⟨h1, h2⟩ := chain_step h hn
    have hf : (getN d.notes n.par).2 = false := by
      cases hc : (getN d.notes n.par).2 with
      | false => rfl
      | true =>
        have := h2 hc
        have := (h.nok _ this.1).t0
        omega
    rw [h1]
    unfold chainE
    rw [hf]
    exact ⟨by simp [hn], by simp⟩
  | succ k ih =>
    intro n hn hk
    obtain ⟨h1, h2⟩ := chain_step h hn
    rw [h1]
    unfold chainE
    cases hc : (getN d.notes n.par).2 with
    | false => exact ⟨by simp [hn], by simp⟩
    | true =>
      obtain ⟨g1, g2⟩ := h2 hc
      have g0 := (h.nok _ g1).t0
      have := ih _ g1 (by omega)
      rw [if_pos rfl]
      refine ⟨fun m hm => ?_, by rw [List.length_cons]; omega⟩
      rcases List.mem_cons.1 hm with rfl | hm
      · exact hn
      · exact this.1 m hm
set_option maxHeartbeats 4000000 in
theorem refChain_ok (d : Dc) (h : Rgt d) (id : Int) : PureR Tryz.prog 85 [docD d, int id] (ints (idsOf (chainE d (getN d.notes id)))) := by
  have ht := tiersZ h
  have hfew := h.few
  refine pure_of_body_frz mixed Tryz.func85 rfl call_85 [1] ?_
  simp (decide := true) [Tryz.f85, docD, Dc.row, int, tiersD]
  refine ECall.pure (by rfl) (refGet_ok d id (by omega)) (by simp (decide := true) [docD, Dc.row, int, tiersD]) ?_
  have hm := getN_mem (l := d.notes) (id := id)
  generalize getN d.notes id = r at hm ⊢
  obtain ⟨n, ok⟩ := r
  simp (decide := true) [getD', Nt.row, int]
  refine loop_rule mixed (fun x : List Nt × Nt × Bool => { n := 38, next := 4, slots := [(2, .bp 0 0), (5, .ar 2), (6, .bp 3 0), (7, .d (.bool x.2.2)), (8, .d (int x.1.length))], own := [(0, .box 53 (docCells d)), (2, .arr 3 1 ((idsOf x.1).map fun n => [int n])), (3, .box 72 (noteCells x.2.1))], moved := [2] })
    (fun x => (x.2.2 = true → x.2.1 ∈ d.notes ∧ (x.1.length : Int) + x.2.1.tier < d.tiers.length) ∧ x.1.length ≤ d.tiers.length ∧ x.1 ++ chainE d (x.2.1, x.2.2) = chainE d (n, ok)) (fun x => d.tiers.length + 1 - x.1.length) ([], n, ok)
    ⟨fun e => ⟨(hm e).1, by have := (h.nok _ (hm e).1).t1; simp only at this ⊢; simpa using this⟩, Nat.zero_le _, rfl⟩ (by simp (decide := true) [int, idsOf, tiersD]) ?_
  rintro ⟨out, c, b⟩ ⟨hc, hl, he⟩
  simp only at hc hl he
  have hil : (idsOf out).length = out.length := by simp [idsOf]
  have hl' : (out.length : Int) ≤ d.tiers.length := by omega
  cases b with
  | false =>
    have he2 : chainE d (n, ok) = out := by rw [← he]; simp [chainE]
    rw [he2]
    simp (decide := true) [int, ints, tiersD, hl, hl']
  | true =>
    obtain ⟨hcm, hct⟩ := hc rfl
    obtain ⟨h1, h2⟩ := chain_step h hcm
    have hG := refGet_ok d c.par (by omega)
    have c0 := (h.nok c hcm).t0
    generalize getN d.notes c.par = g at h1 h2 hG
    obtain ⟨p, pk⟩ := g
    simp (decide := true) [int, ints, tiersD, hil, hl, hl']
    refine ⟨by omega, by unfold maxLen; omega, ?_⟩
    refine ECall.pure (by rfl) hG (by simp (decide := true) [docD, Dc.row, int, ints, tiersD]) ?_
    have hE : (out ++ [c]) ++ chainE d (p, pk) = chainE d (n, ok) := by
      rw [← he, List.append_assoc]
      congr 1
      unfold chainE
      rw [if_pos rfl, h1]; rfl
    have hC : List.map (fun n => [D.int .i64 n]) (idsOf out) ++ [[D.int .i64 c.id]] = List.map (fun n => [D.int .i64 n]) (idsOf (out ++ [c])) := by simp [idsOf]
    simp (decide := true) [getD', Nt.row, int, ints, tiersD, hil, I64]
    have hl2 : (out ++ [c]).length = out.length + 1 := by simp
    refine ⟨⟨by omega, by omega⟩, out ++ [c], p, ?_⟩
    cases pk with
    | false =>
      left
      exact ⟨⟨by omega, hE⟩, by omega, ⟨rfl, by omega⟩, hC, rfl, rfl, rfl, rfl, rfl, rfl, rfl⟩
    | true =>
      right
      have g2 := (h2 rfl).2
      have g3 := (h2 rfl).1
      simp only at g2 g3
      exact ⟨⟨⟨g3, by omega⟩, by omega, hE⟩, by omega, ⟨rfl, by omega⟩, hC, rfl, rfl, rfl, rfl, rfl, rfl, rfl⟩
theorem chain_self {d : Dc} (h : Rgt d) {n : Nt} (hn : n ∈ d.notes) : n ∈ chainN d n := by
  rw [(chain_step h hn).1]; exact List.mem_cons_self
theorem chain_tier {d : Dc} (h : Rgt d) : ∀ (k : Nat) (n : Nt), n ∈ d.notes → n.tier.toNat ≤ k → ∀ m ∈ chainE d (getN d.notes n.par), m.tier < n.tier := by
  intro k
  induction k with
  | zero =>
    intro n hn hk m hm
    unfold chainE at hm
    split at hm
    · rename_i hc
      have := (chain_step h hn).2 hc
      have := (h.nok _ this.1).t0
      omega
    · cases hm
  | succ k ih =>
    intro n hn hk m hm
    unfold chainE at hm
    split at hm
    · rename_i hc
      obtain ⟨h1, h2⟩ := (chain_step h hn).2 hc
      have g0 := (h.nok _ h1).t0
      rw [(chain_step h h1).1] at hm
      rcases List.mem_cons.1 hm with rfl | hm
      · exact h2
      · have := ih _ h1 (by omega) m hm
        omega
    · cases hm
theorem chain_trans {d : Dc} (h : Rgt d) : ∀ (k : Nat) (n : Nt), n ∈ d.notes → n.tier.toNat ≤ k → ∀ m ∈ chainN d n, ∀ c ∈ chainN d m, c ∈ chainN d n := by
  intro k
  induction k with
  | zero =>
    intro n hn hk m hm c hc
    rw [(chain_step h hn).1] at hm
    rcases List.mem_cons.1 hm with rfl | hm
    · exact hc
    · have := chain_tier h _ n hn (Nat.le_refl _) m hm
      have hmm := (chain_mem h _ n hn (Nat.le_refl _)).1 m (by rw [(chain_step h hn).1]; exact List.mem_cons_of_mem _ hm)
      have := (h.nok _ hmm).t0
      omega
  | succ k ih =>
    intro n hn hk m hm c hc
    rw [(chain_step h hn).1] at hm ⊢
    rcases List.mem_cons.1 hm with rfl | hm
    · rw [(chain_step h hn).1] at hc; exact hc
    · refine List.mem_cons_of_mem _ ?_
      unfold chainE at hm ⊢
      split at hm
      · rename_i hcn
        rw [if_pos hcn]
        obtain ⟨h1, h2⟩ := (chain_step h hn).2 hcn
        have g0 := (h.nok _ h1).t0
        exact ih _ h1 (by omega) m hm c hc
      · cases hm
theorem chain_lin {d : Dc} (h : Rgt d) : ∀ (k : Nat) (n : Nt), n ∈ d.notes → n.tier.toNat ≤ k → ∀ a ∈ chainN d n, ∀ b ∈ chainN d n, a ∈ chainN d b ∨ b ∈ chainN d a := by
  intro k
  induction k with
  | zero =>
    intro n hn hk a ha b hb
    have ha0 := ha
    have hb0 := hb
    rw [(chain_step h hn).1] at ha hb
    rcases List.mem_cons.1 ha with e | ha
    · rw [e]; exact .inr hb0
    · rcases List.mem_cons.1 hb with e | hb
      · rw [e]; exact .inl ha0
      · have := chain_tier h _ n hn (Nat.le_refl _) a ha
        have hmm := (chain_mem h _ n hn (Nat.le_refl _)).1 a (by rw [(chain_step h hn).1]; exact List.mem_cons_of_mem _ ha)
        have := (h.nok _ hmm).t0
        omega
  | succ k ih =>
    intro n hn hk a ha b hb
    have ha0 := ha
    have hb0 := hb
    rw [(chain_step h hn).1] at ha hb
    rcases List.mem_cons.1 ha with e | ha
    · rw [e]; exact .inr hb0
    · rcases List.mem_cons.1 hb with e | hb
      · rw [e]; exact .inl ha0
      · unfold chainE at ha hb
        split at ha
        · rename_i hcn
          rw [if_pos hcn] at hb
          obtain ⟨h1, h2⟩ := (chain_step h hn).2 hcn
          have g0 := (h.nok _ h1).t0
          exact ih _ h1 (by omega) a ha b hb
        · cases ha
end Go.V.Doc
namespace Go.V.Doc
open Go Go.Proofs
def kidsI (l : List Nt) (id : Int) : List Int := (l.filter fun n => decide (n.par = id)).map (·.id)
def colN (l : List Nt) : Nat → Int → List Int
  | 0, _ => []
  | f + 1, id => (kidsI l id).flatMap fun k => k :: colN l f k
section
variable {d : Dc}
theorem mem_kidsI {l : List Nt} {id x : Int} : x ∈ kidsI l id ↔ ∃ k ∈ l, k.par = id ∧ k.id = x := by
  unfold kidsI
  simp only [List.mem_map, List.mem_filter, decide_eq_true_eq]
  exact ⟨fun ⟨k, ⟨h1, h2⟩, h3⟩ => ⟨k, h1, h2, h3⟩, fun ⟨k, h1, h2, h3⟩ => ⟨k, ⟨h1, h2⟩, h3⟩⟩
theorem kid_tier (h : Rgt d) {n k : Nt} (hn : n ∈ d.notes) (hk : k ∈ d.notes) (hp : k.par = n.id) : n.tier < k.tier := by
  have := (chain_step h hk).2
  rw [hp, getN_of h hn] at this
  exact (this rfl).2
theorem chain_kid (h : Rgt d) {n k : Nt} (hn : n ∈ d.notes) (hk : k ∈ d.notes) (hp : k.par = n.id) : chainN d k = k :: chainN d n := by
  rw [(chain_step h hk).1, hp, getN_of h hn]; rfl
theorem up_of (h : Rgt d) {m : Nt} (hm : m ∈ d.notes) : (∃ p ∈ d.notes, p.id = m.par ∧ chainE d (getN d.notes m.par) = chainN d p ∧ p.tier < m.tier) ∨ chainE d (getN d.notes m.par) = [] := by
  cases hc : (getN d.notes m.par).2 with
  | false => right; unfold chainE; rw [hc]; rfl
  | true =>
    left
    obtain ⟨h1, h2⟩ := (chain_step h hm).2 hc
    exact ⟨_, h1, (getN_mem hc).2, by unfold chainE; rw [if_pos hc], h2⟩
theorem chain_below (h : Rgt d) : ∀ (k : Nat) (m : Nt), m ∈ d.notes → m.tier.toNat ≤ k → ∀ n ∈ chainE d (getN d.notes m.par), ∃ c ∈ chainN d m, c.par = n.id := by
  intro k
  induction k with
  | zero =>
    intro m hm hk n hn
    have := chain_tier h _ m hm (Nat.le_refl _) n hn
    have hmm := (chain_mem h _ m hm (Nat.le_refl _)).1 n (by rw [(chain_step h hm).1]; exact List.mem_cons_of_mem _ hn)
    have := (h.nok _ hmm).t0
    omega
  | succ k ih =>
    intro m hm hk n hn
    rcases up_of h hm with ⟨p, hp, e1, e2, e3⟩ | e
    · rw [e2, (chain_step h hp).1] at hn
      rw [(chain_step h hm).1, e2]
      rcases List.mem_cons.1 hn with rfl | hn
      · exact ⟨m, List.mem_cons_self, e1.symm⟩
      · have := (h.nok _ hp).t0
        obtain ⟨c, hc, ec⟩ := ih p hp (by omega) n hn
        exact ⟨c, List.mem_cons_of_mem _ hc, ec⟩
    · rw [e] at hn; cases hn
theorem chain_in (h : Rgt d) {m c : Nt} (hm : m ∈ d.notes) (hc : c ∈ chainN d m) : c ∈ d.notes := (chain_mem h _ m hm (Nat.le_refl _)).1 c hc
theorem col_mem (h : Rgt d) : ∀ (f : Nat) (n : Nt), n ∈ d.notes → (d.tiers.length : Int) - n.tier ≤ f → ∀ x, x ∈ colN d.notes f n.id ↔ ∃ m ∈ d.notes, m.id = x ∧ n ∈ chainE d (getN d.notes m.par) := by
  intro f
  induction f with
  | zero => intro n hn hf; have := (h.nok n hn).t1; omega
  | succ f ih =>
    intro n hn hf x
    unfold colN
    rw [List.mem_flatMap]
    constructor
    · rintro ⟨y, hy, hx⟩
      obtain ⟨k, hk, hp, rfl⟩ := mem_kidsI.1 hy
      have ht := kid_tier h hn hk hp
      have hck := chain_kid h hn hk hp
      rcases List.mem_cons.1 hx with rfl | hx
      · refine ⟨k, hk, rfl, ?_⟩
        rw [hp, getN_of h hn]
        exact chain_self h hn
      · obtain ⟨m, hm, rfl, hmk⟩ := (ih k hk (by omega) x).1 hx
        refine ⟨m, hm, rfl, ?_⟩
        rcases up_of h hm with ⟨p, hp', e1, e2, e3⟩ | e
        · rw [e2] at hmk ⊢
          exact chain_trans h _ p hp' (Nat.le_refl _) k hmk n (by rw [hck]; exact List.mem_cons_of_mem _ (chain_self h hn))
        · rw [e] at hmk; cases hmk
    · rintro ⟨m, hm, rfl, hmn⟩
      obtain ⟨k, hk, ek⟩ := chain_below h _ m hm (Nat.le_refl _) n hmn
      have hkn := chain_in h hm hk
      have ht := kid_tier h hn hkn ek
      refine ⟨k.id, mem_kidsI.2 ⟨k, hkn, ek, rfl⟩, ?_⟩
      rw [(chain_step h hm).1] at hk
      rcases List.mem_cons.1 hk with rfl | hk
      · exact List.mem_cons_self
      · exact List.mem_cons_of_mem _ ((ih k hkn (by omega) m.id).2 ⟨m, hm, rfl, hk⟩)
theorem kidsI_nodup (h : Rgt d) (id : Int) : (kidsI d.notes id).Nodup := by
  unfold kidsI
  rw [List.nodup_iff_pairwise_ne, List.pairwise_map]
  exact (h.inc.sublist List.filter_sublist).imp fun {a b} hab => by omega
theorem not_above (h : Rgt d) {n : Nt} (hn : n ∈ d.notes) : n ∉ chainE d (getN d.notes n.par) := fun hc => by
  have := chain_tier h _ n hn (Nat.le_refl _) n hc
  omega
theorem chain_le (h : Rgt d) {n c : Nt} (hn : n ∈ d.notes) (hc : c ∈ chainN d n) : c.tier ≤ n.tier := by
  rw [(chain_step h hn).1] at hc
  rcases List.mem_cons.1 hc with rfl | hc
  · exact Int.le_refl _
  · have := chain_tier h _ n hn (Nat.le_refl _) c hc
    omega
theorem col_apart (h : Rgt d) {n k1 k2 m : Nt} (hn : n ∈ d.notes) (h1 : k1 ∈ d.notes) (h2 : k2 ∈ d.notes) (p1 : k1.par = n.id) (p2 : k2.par = n.id) (hm : m ∈ d.notes) (c1 : k1 ∈ chainN d m) (c2 : k2 ∈ chainN d m) : k1 = k2 := by
  have t1 := kid_tier h hn h1 p1
  have t2 := kid_tier h hn h2 p2
  rcases chain_lin h _ m hm (Nat.le_refl _) k1 c1 k2 c2 with e | e
  · rw [chain_kid h hn h2 p2] at e
    rcases List.mem_cons.1 e with e | e
    · exact e
    · have := chain_le h hn e; omega
  · rw [chain_kid h hn h1 p1] at e
    rcases List.mem_cons.1 e with e | e
    · exact e.symm
    · have := chain_le h hn e; omega
theorem col_nodup (h : Rgt d) : ∀ (f : Nat) (n : Nt), n ∈ d.notes → (d.tiers.length : Int) - n.tier ≤ f → (colN d.notes f n.id).Nodup := by
  intro f
  induction f with
  | zero => intro n hn hf; have := (h.nok n hn).t1; omega
  | succ f ih =>
    intro n hn hf
    unfold colN
    have key : ∀ x k, k ∈ d.notes → k.par = n.id → x ∈ k.id :: colN d.notes f k.id → ∃ m ∈ d.notes, m.id = x ∧ k ∈ chainN d m := by
      intro x k hk hp hx
      have ht := kid_tier h hn hk hp
      rcases List.mem_cons.1 hx with rfl | hx
      · exact ⟨k, hk, rfl, chain_self h hk⟩
      · obtain ⟨m, hm, e, hc⟩ := (col_mem h f k hk (by omega) x).1 hx
        exact ⟨m, hm, e, by rw [(chain_step h hm).1]; exact List.mem_cons_of_mem _ hc⟩
    rw [List.nodup_iff_pairwise_ne, List.pairwise_flatMap]
    refine ⟨fun y hy => ?_, (kidsI_nodup h n.id).imp_of_mem fun {a b} ha hb hab x hx y hy e => ?_⟩
    · obtain ⟨k, hk, hp, rfl⟩ := mem_kidsI.1 hy
      have ht := kid_tier h hn hk hp
      rw [List.pairwise_cons]
      refine ⟨fun x hx e => ?_, ih k hk (by omega)⟩
      subst e
      obtain ⟨m, hm, e, hc⟩ := (col_mem h f k hk (by omega) k.id).1 hx
      obtain rfl := ids_uniq h hm hk e
      exact not_above h hk hc
    · subst e
      obtain ⟨k1, h1, p1, rfl⟩ := mem_kidsI.1 ha
      obtain ⟨k2, h2, p2, rfl⟩ := mem_kidsI.1 hb
      obtain ⟨m1, q1, e1, c1⟩ := key x k1 h1 p1 hx
      obtain ⟨m2, q2, e2, c2⟩ := key x k2 h2 p2 hy
      obtain rfl := ids_uniq h q1 q2 (by rw [e1, e2])
      exact hab (by rw [col_apart h hn h1 h2 p1 p2 q1 c1 c2])
theorem len_of_nodup : ∀ {l m : List Int}, l.Nodup → (∀ x ∈ l, x ∈ m) → l.length ≤ m.length
  | [], m, _, _ => Nat.zero_le _
  | x :: l, m, hn, hs => by
    rw [List.nodup_cons] at hn
    have hx := hs x List.mem_cons_self
    have := len_of_nodup (l := l) (m := m.erase x) hn.2 fun y hy => (List.mem_erase_of_ne fun (e : y = x) => hn.1 (by rw [← e]; exact hy)).2 (hs y (List.mem_cons_of_mem _ hy))
    rw [List.length_erase_of_mem hx] at this
    have : 0 < m.length := List.length_pos_of_mem hx
    simp only [List.length_cons]; omega
theorem col_len (h : Rgt d) {f : Nat} {n : Nt} (hn : n ∈ d.notes) (hf : (d.tiers.length : Int) - n.tier ≤ f) : (colN d.notes f n.id).length ≤ d.notes.length := by
  have := len_of_nodup (m := idsOf d.notes) (col_nodup h f n hn hf) fun x hx => by
    obtain ⟨m, hm, e, _⟩ := (col_mem h f n hn hf x).1 hx
    unfold idsOf
    rw [List.mem_map]
    exact ⟨m, hm, e⟩
  unfold idsOf at this
  rwa [List.length_map] at this
end
end Go.V.Doc
namespace Go.V.Doc
open Go Go.Proofs
abbrev Grp := Int × Nat × List Int
def kidsU : List Grp → Int → List Int
  | [], _ => []
  | g :: L, p => if g.1 = p then g.2.2 else kidsU L p
def rowsU (L : List Grp) : List (List D) := L.map fun g => [int g.1, ints g.2.2]
theorem look_rowsU (p : Int) : ∀ L : List Grp, lookD (int p) (rowsU L) = some (if p ∈ L.map (·.1) then some (ints (kidsU L p)) else none)
  | [] => rfl
  | g :: L => by
    have ih := look_rowsU p L
    simp only [rowsU, List.map_cons, lookD, keyEq, int, kidsU] at ih ⊢
    by_cases h : p = g.1
    · simp [h]
    · have h' : ¬ g.1 = p := fun e => h e.symm
      simp only [decide_false, h, h', List.mem_cons, false_or, if_false, Bool.false_eq_true]
      simpa using ih
theorem kidsU_none {L : List Grp} {p : Int} (h : p ∉ L.map (·.1)) : kidsU L p = [] := by
  induction L with
  | nil => rfl
  | cons g L ih =>
    simp only [List.map_cons, List.mem_cons, not_or] at h
    unfold kidsU
    rw [if_neg (fun e => h.1 e.symm), ih h.2]
abbrev colFn : Sym := .fn 115 [.bp 0 0, .bp 1 0, .bp 2 0]
def colOwn (L : List Grp) (acc : List Int) : List (Nat × Obj') :=
  [(0, .box 182 [.d (.mp (rowsU L))]), (1, .box 31 [.ar 3]), (2, .box 183 [colFn]), (3, .arr 3 1 (acc.map fun n => [int n]))]
def ColC (L : List Grp) (l : List Nt) (f : Nat) (id : Int) : Prop := ∀ acc : List Int, (acc ++ colN l f id).length ≤ 2^40 →
  CallC Tryz.prog 115 [.d (int id), .bp 0 0, .bp 1 0, .bp 2 0] (colOwn L acc) 4 (.d (.tup [])) 4 (colOwn L (acc ++ colN l f id)) [3]
set_option maxHeartbeats 8000000 in
theorem col_step (L : List Grp) (l : List Nt) (f : Nat) (id : Int) (hL : kidsU L id = kidsI l id) (ih : ∀ k ∈ kidsI l id, ColC L l f k) : ColC L l (f + 1) id := by
  intro acc hlen
  refine CallC.unitX (callC_of_body mixed Tryz.func115 rfl call_115 (by simp [Sym.los, Sym.lo]) ?_)
  have hR := look_rowsU id L
  simp only [int] at hR
  unfold colN at hlen ⊢
  by_cases hm : id ∈ L.map (·.1)
  case neg =>
    rw [if_neg hm] at hR
    rw [← hL, kidsU_none hm]
    simp (decide := true) [Tryz.f115, colOwn, int, hR]
    refine loop_ruleT mixed (fun _ : Unit => { n := 23, next := 4, base := 4, slots := [(10, .d (int 0)), (11, .d (int 0))], own := colOwn L acc, moved := [3] }) (fun _ => True) (fun _ => 0) () trivial ?_ ?_
    · simp (decide := true) [int, colOwn]
    intro _ _
    refine ev_sound mixed ?_
    simp (decide := true) [int, colOwn]
  rw [if_pos hm, hL] at hR
  generalize kidsI l id = ks at *
  have hkl : ks.length ≤ 2^40 := by
    have h1 : ks.length ≤ (ks.flatMap fun k => k :: colN l f k).length := by
      clear hR hlen ih hL
      induction ks with
      | nil => simp
      | cons k r ih => simp only [List.flatMap_cons, List.length_append, List.length_cons]; omega
    rw [List.length_append] at hlen; omega
  simp (decide := true) [Tryz.f115, colOwn, int, hR, ints]
  refine loop_ruleT mixed (fun k : Nat => { n := 23, next := 4, base := 4, slots := [(1, .bp 0 0), (2, .bp 1 0), (3, .bp 2 0), (9, .d (ints ks)), (10, .d (int ks.length)), (11, .d (int k))], own := colOwn L (acc ++ (ks.take k).flatMap fun k => k :: colN l f k), moved := [3] })
    (fun k => k ≤ ks.length) (fun k => ks.length - k) 0 (Nat.zero_le _) ?_ ?_
  · simp (decide := true) [int, ints, colOwn]
  intro k hk
  refine ev_sound mixed ?_
  by_cases hlt : k < ks.length
  case neg =>
    have : k = ks.length := by omega
    subst this
    rw [List.take_length]
    simp (decide := true) [int, ints, colOwn]
  have hlt' : (k : Int) < ks.length := by omega
  obtain ⟨q, eq⟩ : ∃ q, ks[k] = q := ⟨_, rfl⟩
  have e1 : ks[k]? = some q := by rw [List.getElem?_eq_getElem hlt, eq]
  have hsn : (ks.take (k + 1)).flatMap (fun k => k :: colN l f k) = (ks.take k).flatMap (fun k => k :: colN l f k) ++ (q :: colN l f q) := by
    rw [List.take_succ_eq_append_getElem hlt, List.flatMap_append, eq]; simp
  have hpre : (acc ++ (ks.take (k + 1)).flatMap fun k => k :: colN l f k).length ≤ 2^40 := by
    have : ks.flatMap (fun k => k :: colN l f k) = (ks.take (k + 1)).flatMap (fun k => k :: colN l f k) ++ (ks.drop (k + 1)).flatMap (fun k => k :: colN l f k) := by
      rw [← List.flatMap_append, List.take_append_drop]
    rw [this, ← List.append_assoc, List.length_append] at hlen
    omega
  rw [hsn] at hpre
  have hC := ih q (by rw [← eq]; exact List.getElem_mem hlt) ((acc ++ (ks.take k).flatMap fun k => k :: colN l f k) ++ [q]) (by simpa using hpre)
  have hal : (acc ++ (ks.take k).flatMap fun k => k :: colN l f k).length < 2^40 := by
    rw [← List.append_assoc, List.length_append, List.length_cons] at hpre; omega
  have hfin : acc ++ ((ks.take k).flatMap (fun k => k :: colN l f k) ++ q :: colN l f q) = (acc ++ (ks.take k).flatMap fun k => k :: colN l f k) ++ [q] ++ colN l f q := by simp
  generalize acc ++ (ks.take k).flatMap (fun k => k :: colN l f k) = A at *
  simp (decide := true) [int, ints, colOwn, hlt, hlt', eq, e1, I64, maxLen]
  refine ⟨by omega, by omega, ?_⟩
  refine ECall.mut [0, 1, 2, 3] [.d (int q), .bp 0 0, .bp 1 0, .bp 2 0] (colOwn L (A ++ [q])) (by rfl) (by simp [int]) (by simp [Sym.los, Sym.lo]) (by simp [colOwn, int]; rfl) hC ?_
  simp (decide := true) [int, ints, colOwn, I64]
  exact ⟨⟨by omega, by omega⟩, k + 1, hlt, by omega, by omega, by rw [hsn, ← List.map_append (l₁ := acc), hfin]; simp⟩
theorem col_ok {d : Dc} (h : Rgt d) {L : List Grp} (hL : ∀ p, kidsU L p = kidsI d.notes p) : ∀ (f : Nat) (n : Nt), n ∈ d.notes → (d.tiers.length : Int) - n.tier ≤ f → ColC L d.notes f n.id := by
  intro f
  induction f with
  | zero => intro n hn hf; have := (h.nok n hn).t1; omega
  | succ f ih =>
    intro n hn hf
    refine col_step L _ f n.id (hL _) fun k hk => ?_
    obtain ⟨m, hm, hp, rfl⟩ := mem_kidsI.1 hk
    have := kid_tier h hn hm hp
    exact ih m hm (by omega)
end Go.V.Doc
namespace Go.V.Doc
open Go Go.Proofs
def addU : List Grp → Int → Int → Nat → List Grp
  | [], p, x, nx => [(p, nx, [x])]
  | g :: L, p, x, nx => if g.1 = p then (g.1, g.2.1, g.2.2 ++ [x]) :: L else g :: addU L p x nx
def keysU (L : List Grp) : List Int := L.map (·.1)
def cellsU (L : List Grp) : List Sym := L.map fun g => .ar g.2.1
def arrsU (L : List Grp) : List (Nat × Obj') := L.map fun g => (g.2.1, .arr 3 1 (g.2.2.map fun n => [int n]))
def idsU (L : List Grp) : List Nat := L.map (·.2.1)
def findU : List Grp → Int → Option (Nat × List Int)
  | [], _ => none
  | g :: L, p => if g.1 = p then some g.2 else findU L p
theorem kids_add (L : List Grp) (p x : Int) (nx : Nat) (q : Int) : kidsU (addU L p x nx) q = if p = q then kidsU L q ++ [x] else kidsU L q := by
  induction L with
  | nil => simp [addU, kidsU]
  | cons g L ih =>
    unfold addU
    by_cases h : g.1 = p
    · rw [if_pos h]
      simp only [kidsU]
      by_cases h2 : g.1 = q
      · rw [if_pos h2, if_pos h2, if_pos (h.symm.trans h2)]
      · rw [if_neg h2, if_neg h2, if_neg (fun e => h2 (h.trans e))]
    · rw [if_neg h]
      simp only [kidsU]
      by_cases h2 : g.1 = q
      · rw [if_pos h2, if_pos h2, if_neg (fun e => h (h2.trans e.symm))]
      · rw [if_neg h2, if_neg h2, ih]
theorem get_cells : ∀ (L : List Grp) (p : Int), mqGet (keysU L) (cellsU L) p = (findU L p).map fun g => Sym.ar g.1
  | [], p => rfl
  | g :: L, p => by
    have ih := get_cells L p
    simp only [keysU, cellsU, List.map_cons, mqGet, findU] at ih ⊢
    split
    · rfl
    · exact ih
theorem find_mem : ∀ {L : List Grp} {p : Int} {g : Nat × List Int}, findU L p = some g → (p, g) ∈ L
  | [], p, g, h => by cases h
  | a :: L, p, g, h => by
    unfold findU at h
    split at h
    · rename_i e; cases h; rw [← e]; exact List.mem_cons_self
    · exact List.mem_cons_of_mem _ (find_mem h)
theorem keys_hit : ∀ {L : List Grp} {p x : Int} {nx : Nat} {g : Nat × List Int}, findU L p = some g → keysU (addU L p x nx) = keysU L ∧ idsU (addU L p x nx) = idsU L
  | [], p, x, nx, g, h => by cases h
  | a :: L, p, x, nx, g, h => by
    unfold findU at h
    unfold addU
    split at h
    · rename_i e; rw [if_pos e]; exact ⟨rfl, rfl⟩
    · rename_i e
      rw [if_neg e]
      have := keys_hit (x := x) (nx := nx) h
      simp only [keysU, idsU, List.map_cons] at this ⊢
      exact ⟨by rw [this.1], by rw [this.2]⟩
theorem arrs_hit : ∀ {L : List Grp} {p x : Int} {nx : Nat} {g : Nat × List Int}, findU L p = some g → (idsU L).Nodup → ∀ i, alook (arrsU (addU L p x nx)) i = if i = g.1 then some (.arr 3 1 ((g.2 ++ [x]).map fun n => [int n])) else alook (arrsU L) i
  | [], p, x, nx, g, h, _, i => by cases h
  | a :: L, p, x, nx, g, h, hn, i => by
    unfold findU at h
    unfold addU
    simp only [idsU, List.map_cons, List.nodup_cons] at hn
    split at h
    · rename_i e
      cases h
      rw [if_pos e]
      simp only [arrsU, List.map_cons, alook]
      by_cases h1 : a.2.1 = i
      · rw [if_pos h1, if_pos h1.symm]
      · rw [if_neg h1, if_neg (fun e2 => h1 e2.symm), if_neg h1]
    · rename_i e
      rw [if_neg e]
      have ih := arrs_hit (x := x) (nx := nx) h hn.2 i
      have hg : g.1 ∈ L.map (·.2.1) := List.mem_map.2 ⟨_, find_mem h, rfl⟩
      simp only [arrsU, List.map_cons, alook] at ih ⊢
      by_cases h1 : a.2.1 = i
      · have : ¬ i = g.1 := fun e2 => hn.1 (by rw [h1, e2]; exact hg)
        rw [if_pos h1, if_neg this, if_pos h1]
      · rw [if_neg h1, if_neg h1, ih]
theorem look_arrs : ∀ {L : List Grp} {i : Nat} {o : Obj'}, alook (arrsU L) i = some o → i ∈ idsU L ∧ ∃ ks : List Int, o = .arr 3 1 (ks.map fun n => [int n])
  | [], i, o, h => by cases h
  | g :: L, i, o, h => by
    simp only [arrsU, List.map_cons, alook] at h
    simp only [idsU, List.map_cons, List.mem_cons]
    split at h
    · rename_i e; cases h; exact ⟨.inl e.symm, _, rfl⟩
    · have := look_arrs (L := L) h; exact ⟨.inr this.1, this.2⟩
theorem find_arrs {L : List Grp} {p : Int} {g : Nat × List Int} (h : findU L p = some g) (hn : (idsU L).Nodup) : alook (arrsU L) g.1 = some (.arr 3 1 (g.2.map fun n => [int n])) := by
  induction L with
  | nil => cases h
  | cons a L ih =>
    simp only [idsU, List.map_cons, List.nodup_cons] at hn
    unfold findU at h
    simp only [arrsU, List.map_cons, alook]
    split at h
    · cases h; rw [if_pos rfl]
    · have hg : g.1 ∈ L.map (·.2.1) := List.mem_map.2 ⟨_, find_mem h, rfl⟩
      rw [if_neg (fun e => hn.1 (by rw [e]; exact hg))]
      exact ih h hn.2
theorem put_hit : ∀ {L : List Grp} {p x : Int} {nx : Nat} {g : Nat × List Int}, findU L p = some g → (idsU L).Nodup → mqPut (keysU L) (purges g.1 (cellsU L)) p (.ar g.1) = (keysU L, cellsU L)
  | [], p, x, nx, g, h, _ => by cases h
  | a :: L, p, x, nx, g, h, hn => by
    simp only [idsU, List.map_cons, List.nodup_cons] at hn
    unfold findU at h
    have rest : ∀ (M : List Grp), g.1 ∉ M.map (·.2.1) → purges g.1 (cellsU M) = cellsU M := by
      intro M
      induction M with
      | nil => intro _; rfl
      | cons b M ih =>
        intro hb
        simp only [List.map_cons, List.mem_cons, not_or] at hb
        simp only [cellsU, List.map_cons, purges, purge] at ih ⊢
        rw [if_neg (fun e => hb.1 e.symm), ih hb.2]
    split at h
    · rename_i e
      cases h
      simp only [keysU, cellsU, List.map_cons, purges, mqPut, if_pos e]
      have := rest L hn.1
      simp only [cellsU] at this
      rw [this]
    · rename_i e
      have ih := put_hit (x := x) (nx := nx) h hn.2
      have hg : g.1 ∈ L.map (·.2.1) := List.mem_map.2 ⟨_, find_mem h, rfl⟩
      have hne : ¬ a.2.1 = g.1 := fun e => hn.1 (by rw [e]; exact hg)
      simp only [keysU, cellsU, List.map_cons, purges, purge, if_neg hne, mqPut, if_neg e] at ih ⊢
      rw [ih]
theorem add_miss : ∀ {L : List Grp} {p x : Int} {nx : Nat}, findU L p = none → addU L p x nx = L ++ [(p, nx, [x])]
  | [], p, x, nx, _ => rfl
  | a :: L, p, x, nx, h => by
    unfold findU at h
    unfold addU
    split at h
    · cases h
    · rename_i e; rw [if_neg e, add_miss h]; rfl
theorem put_miss : ∀ {L : List Grp} {p : Int} {s : Sym}, findU L p = none → mqPut (keysU L) (cellsU L) p s = (keysU L ++ [p], cellsU L ++ [s])
  | [], p, s, _ => rfl
  | a :: L, p, s, h => by
    unfold findU at h
    split at h
    · cases h
    · rename_i e
      have ih := put_miss (s := s) h
      simp only [keysU, cellsU, List.map_cons, mqPut, if_neg e] at ih ⊢
      rw [ih]; rfl
theorem purges_cells {j : Nat} : ∀ {L : List Grp}, j ∉ idsU L → purges j (cellsU L) = cellsU L
  | [], _ => rfl
  | b :: M, hb => by
    simp only [idsU, List.map_cons, List.mem_cons, not_or] at hb
    have ih := purges_cells (L := M) hb.2
    simp only [cellsU, List.map_cons, purges, purge] at ih ⊢
    rw [if_neg (fun e => hb.1 e.symm), ih]
theorem alook_append {α : Type} : ∀ (l m : List (Nat × α)) (i : Nat), alook (l ++ m) i = (alook l i).or (alook m i)
  | [], m, i => by simp [alook]
  | (t, x) :: l, m, i => by
    simp only [List.cons_append, alook]
    split
    · rfl
    · exact alook_append l m i
theorem arrs_miss {L : List Grp} {p x : Int} {nx : Nat} (h : findU L p = none) (hnx : nx ∉ idsU L) (i : Nat) : alook (arrsU (addU L p x nx)) i = if i = nx then some (.arr 3 1 [[int x]]) else alook (arrsU L) i := by
  rw [add_miss h]
  unfold arrsU
  rw [List.map_append, alook_append]
  by_cases e : i = nx
  · subst e
    rw [if_pos rfl]
    cases hl : alook (List.map (fun g : Grp => (g.2.1, Obj'.arr 3 1 (g.2.2.map fun n => [int n]))) L) i with
    | none => simp [alook]
    | some o => exact absurd (look_arrs (L := L) hl).1 hnx
  · rw [if_neg e]
    have e' : ¬ nx = i := fun e2 => e e2.symm
    simp [alook, e']
end Go.V.Doc
namespace Go.V.Doc
open Go Go.Proofs Go.Sort Go.RowKit
theorem fresh_of_callC {P : Program} {f : Nat} {ds : List D} {T sz k nx : Nat} {rows : List (List D)} {mv : List Nat} (h : CallC P f (ds.map .d) [] 0 (.ar k) nx [(k, .arr T sz rows)] mv) (hrows : ∀ r ∈ rows, r.length = sz) : PureF P f ds T sz rows := by
  refine ⟨h.1, hrows, fun w E vs hE hr => ?_⟩
  have hm : Mods E (.of w) (memSt [] 0 0 []) (fun _ => .pointer none) act0 w :=
    ⟨⟨fun b hb hmay => hmay.elim (fun h => by have : w.heap.size ≤ b := h; have := hE.1 b hb; omega) (fun h => h), hE.2.over (Over.less fun b h => h.elim id False.elim)⟩, ⟨Nat.le_refl _, fun _ _ _ => rfl⟩, fun _ => rfl, rfl, rfl, Kept.refl _, by simp [memSt], by simp [memSt], by simp [memSt], by intro t s ht; simp [memSt, alook] at ht⟩
  have hov : Over w E w (Ex E (fun _ => Value.pointer none) []) := Over.less fun b hb => hb.elim id fun ⟨_, _, hx, _⟩ => by cases hx
  refine (h.2 E (.of w) _ w vs rfl hm (Sms.of_vals (Rvals.over hov _ _ hr))).mono fun e w' he => ?_
  obtain ⟨β', v, rfl, hm', _, hs⟩ := he
  simp only [Sm] at hs
  obtain ⟨_, hlo, xs, hx, hc, hsz⟩ := hm'.obj (id := k) (o := .arr T sz rows) (by simp [memSt, alook, St.look])
  have hN : ∀ b, (Base.of w).may b → w.heap.size ≤ b := fun b hb => hb.elim id False.elim
  rw [← hs] at hx
  exact ⟨v, xs, rfl, hm'.below.below, hx.row hN, fun b hb => (hx.2 b hb).2, Rcells.over (Over.less fun b hb => hb.elim .inl fun hb => .inr ⟨k, _, List.mem_cons_self, by rw [← hs]; exact hb⟩) _ _ hc⟩
def colL (r : Option XR) : Option (List (List D)) := match r with
  | some ⟨.ar k, _, [(k', .arr T sz rows)], _⟩ => if Nat.beq k k' && (Nat.beq T 3 && Nat.beq sz 1) then some rows else none
  | _ => none
theorem col_of {l : List Int} (h : colL (xcall mkGs (xdraw mkGs) 40 186 [.d (.fn 188 [.ptr [.sl (l.map fun n => [.int .i64 n])]])] [] 0) = some (l.map fun n => [.int .i64 n])) :
    PureF Tryz.prog 186 [.fn 188 [.ptr [ints l]]] 3 1 (l.map fun n => [int n]) := by
  have hg := run_sound mixed_X mkGs_good 40
  unfold colL at h
  split at h
  · rename_i k nx k' T sz rows mv hr
    split at h
    · rename_i hc
      simp only [Bool.and_eq_true, Nat.beq_eq] at hc
      obtain ⟨rfl, rfl, rfl⟩ := hc
      cases h
      have := hg _ _ _ _ _ hr (by simp [Sym.los, Sym.lo])
      exact fresh_of_callC (ds := [.fn 188 [.ptr [ints l]]]) this (by simp)
    · cases h
  · cases h
theorem collect_ok : ∀ l : List Int, l ≠ [] → l.length ≤ 15 → PureF Tryz.prog 186 [.fn 188 [.ptr [ints l]]] 3 1 (l.map fun n => [int n])
  | [], h, _ => absurd rfl h
  | [a1], _, _ => col_of (by kernel_rfl)
  | [a1, a2], _, _ => col_of (by kernel_rfl)
  | [a1, a2, a3], _, _ => col_of (by kernel_rfl)
  | [a1, a2, a3, a4], _, _ => col_of (by kernel_rfl)
  | [a1, a2, a3, a4, a5], _, _ => col_of (by kernel_rfl)
  | [a1, a2, a3, a4, a5, a6], _, _ => col_of (by kernel_rfl)
  | [a1, a2, a3, a4, a5, a6, a7], _, _ => col_of (by kernel_rfl)
  | [a1, a2, a3, a4, a5, a6, a7, a8], _, _ => col_of (by kernel_rfl)
  | [a1, a2, a3, a4, a5, a6, a7, a8, a9], _, _ => col_of (by kernel_rfl)
  | [a1, a2, a3, a4, a5, a6, a7, a8, a9, a10], _, _ => col_of (by kernel_rfl)
  | [a1, a2, a3, a4, a5, a6, a7, a8, a9, a10, a11], _, _ => col_of (by kernel_rfl)
  | [a1, a2, a3, a4, a5, a6, a7, a8, a9, a10, a11, a12], _, _ => col_of (by kernel_rfl)
  | [a1, a2, a3, a4, a5, a6, a7, a8, a9, a10, a11, a12, a13], _, _ => col_of (by kernel_rfl)
  | [a1, a2, a3, a4, a5, a6, a7, a8, a9, a10, a11, a12, a13, a14], _, _ => col_of (by kernel_rfl)
  | [a1, a2, a3, a4, a5, a6, a7, a8, a9, a10, a11, a12, a13, a14, a15], _, _ => col_of (by kernel_rfl)
  | _ :: _ :: _ :: _ :: _ :: _ :: _ :: _ :: _ :: _ :: _ :: _ :: _ :: _ :: _ :: _ :: _, _, h => by simp at h
abbrev encI (n : Int) : List Value := [.int .i64 n]
abbrev rowI (n : Int) : List D := [int n]
theorem int_enc : RowEnc encI rowI 1 where
  pos := by decide
  len := fun _ => rfl
  one := fun x v hv => by simp [encI] at hv; subst hv; rfl
  rlen := fun _ => rfl
  read := fun w E x => by simp only [rowI, encI, int, Rcells, R]; exact ⟨_, _, rfl, rfl, rfl, rfl⟩
  uniq := fun w E x vs h => by
    simp only [rowI, int, Rcells, R] at h
    obtain ⟨_, _, rfl, _, rfl, rfl⟩ := h
    rfl
def sortI (l : List Int) : List Int := l.mergeSort fun x y => decide (x ≤ y)
theorem flatK_int (l : List Int) : flatK encI 1 l.toArray = (l.map (Value.int .i64)).toArray := by
  have := int_enc.flatK l
  rw [← Array.toList_inj, this]
  clear this
  induction l with
  | nil => rfl
  | cons n r ih => simpa [encI] using ih
theorem putCells_map (l : List Int) : putCells id 0 (l.map (Value.int .i64)).toArray = putCells (Value.int .i64) 0 l.toArray := by
  funext c
  unfold putCells
  congr 1
  funext k x
  by_cases h : k < l.length
  · simp [h]
  · simp [h]
theorem sortI_length (l : List Int) : (sortI l).length = l.length := List.length_mergeSort l
theorem sortI_perm (l : List Int) : (sortI l).Perm l := List.mergeSort_perm l _
theorem sortI_ok (l : List Int) (hne : l ≠ []) (hl : l.length < 4611686018427387904) :
    CallC Tryz.prog 187 [.ar 0] [(0, .arr 3 1 (l.map rowI))] 1 (.d (.tup [])) 1 [(0, .arr 3 1 ((sortI l).map rowI))] [] := by
  refine sort_bridge int_enc call_187 hne (sortI_length l) ?_
  intro w E β vs hvs hseen g cap hg hE hH
  simp only [Sms] at hvs
  subst hvs
  have hh : Holds (Value.int .i64) w g 0 l.toArray := by
    unfold HoldsK at hH
    rw [flatK_int] at hH
    intro j hj
    have := hH j (by simpa using hj)
    have hj' : j < l.length := by simpa using hj
    simpa [hj'] using this
  have := Any.slices_Sort_int Tryz.sortInt g 0 cap l w hh hg hl
  change Calls Tryz.prog 187 _ _ _ at this
  refine this.mono fun e w' he => ?_
  obtain ⟨h1, n, os, h2⟩ := he
  refine ⟨h1, n, os, ?_⟩
  rw [h2]
  unfold sortWorldK putRowK putRow
  rw [flatK_int, putCells_map]
  rfl
theorem compact_ok (l : List Int) (hs : l.Pairwise fun a b => a < b) (hl : l.length < 2^40) :
    CallC Tryz.prog 128 [.ar 0] [(0, .arr 3 1 (l.map rowI))] 1 (.ar 0) 1 [(0, .arr 3 1 (l.map rowI))] [] := by
  refine callC_of_body mixed Tryz.func128 rfl call_128 (by simp [Sym.los, Sym.lo]) ?_
  by_cases h2 : l.length < 2
  · have h2' : (l.length : Int) < 2 := by omega
    simp (decide := true) [Tryz.f128, int, h2, h2']
  have h2' : ¬ (l.length : Int) < 2 := by omega
  simp (decide := true) [Tryz.f128, int, h2, h2']
  refine loop_rule mixed (fun k : Nat => { n := 61, next := 1, slots := [(0, .ar 0), (3, .d (int k))], own := [(0, .arr 3 1 (l.map rowI))], base := 1 })
    (fun k => 1 ≤ k ∧ k ≤ l.length) (fun k => l.length - k) 1 (by omega) (by simp (decide := true) [int]) ?_
  rintro k ⟨hk1, hk⟩
  by_cases hlt : k < l.length
  · have hlt' : (k : Int) < l.length := by omega
    obtain ⟨j, rfl⟩ : ∃ j, k = j + 1 := ⟨k - 1, by omega⟩
    have hj : j < l.length := by omega
    have hj' : (j : Int) < l.length := by omega
    have e1 : l[j + 1]? = some l[j + 1] := List.getElem?_eq_getElem hlt
    have e0 : l[j]? = some l[j] := List.getElem?_eq_getElem hj
    have hne : ¬ l[j + 1] = l[j] := by
      have := List.pairwise_iff_getElem.1 hs j (j + 1) hj hlt (by omega)
      omega
    have j1 : ((j : Int) + 1 - 1) = j := by omega
    have jn : ((j : Int) + 1).toNat = j + 1 := by omega
    have j0 : (0 : Int) ≤ (j : Int) + 1 := by omega
    simp (decide := true) [int, hlt, hlt', hj, hj', e0, e1, hne, j1, jn, j0, I64]
    exact fun _ => ⟨by omega, by omega, ⟨by omega, by omega⟩, j + 2, ⟨by omega, by omega⟩, by omega, by omega⟩
  · have : k = l.length := by omega
    subst this
    simp (decide := true) [int]
theorem values_ok (l : List Int) : CallC Tryz.prog 130 [.d (ints l)] [] 0 (.fn 188 [.bp 0 0]) 1 [(0, .box 31 [.d (ints l)])] [] := by
  refine callC_of_body mixed Tryz.func130 rfl call_130 (by simp [Sym.los, Sym.lo]) ?_
  simp (decide := true) [Tryz.f130, ints]
theorem sorted_ok (l : List Int) (hne : l ≠ []) (hl : l.length ≤ 15) : PureF Tryz.prog 129 [.fn 188 [.ptr [ints l]]] 3 1 ((sortI l).map rowI) := by
  refine fresh_of_body mixed Tryz.func129 rfl call_129 (by simp) ?_
  simp (decide := true) [Tryz.f129]
  refine ECall.fresh (by rfl) (collect_ok l hne hl) (by simp) ?_
  simp (decide := true)
  refine ECall.mut [1] [.ar 0] [(0, .arr 3 1 (l.map rowI))] (by rfl) (by simp) (by simp [Sym.los, Sym.lo]) (by simp) (sortI_ok l hne (by omega)) ?_
  simp (decide := true)
theorem numSorted_ok (l : List Int) (hne : l ≠ []) (hl : l.length ≤ 15) (hn : l.Nodup) : PureN Tryz.prog 78 [ints l] (ints (sortI l)) := by
  have hs : (sortI l).Pairwise fun a b => a < b := by
    have h1 : (sortI l).Pairwise fun a b => decide (a ≤ b) = true := List.pairwise_mergeSort (fun a b c h1 h2 => by simp at *; omega) (fun a b => by simp; omega) l
    have h2 : (sortI l).Nodup := (sortI_perm l).nodup_iff.2 hn
    exact (List.pairwise_and_iff.2 ⟨h1, h2⟩).imp fun {a b} h => by have := h.1; have := h.2; simp at *; omega
  have hF : PureF Tryz.prog 78 [ints l] 3 1 ((sortI l).map rowI) := by
    refine fresh_of_body mixed Tryz.func78 rfl call_78 (by simp) ?_
    simp (decide := true) [Tryz.f78]
    refine ECall.mut [] [.d (ints l)] [] (by rfl) (by simp) (by simp) (by simp) (values_ok l) ?_
    simp (decide := true)
    refine ECall.fresh (by rfl) (sorted_ok l hne hl) (by simp [ints_scalars]) ?_
    simp (decide := true)
    refine ECall.mut [2] [.ar 0] [(0, .arr 3 1 ((sortI l).map rowI))] (by rfl) (by simp) (by simp [Sym.los, Sym.lo]) (by simp) (compact_ok (sortI l) hs (by rw [sortI_length]; omega)) ?_
    simp (decide := true)
  exact pureN_of_fresh hF (ints_scalars _)
theorem fresh_of_nil {P : Program} {f : Nat} {ds : List D} (T sz : Nat) {nx : Nat} {own' : List (Nat × Obj')} {mv : List Nat} (h : CallC P f (ds.map .d) [] 0 .nils nx own' mv) : PureF P f ds T sz [] := by
  refine ⟨h.1, by simp, fun w E vs hE hr => ?_⟩
  have hm : Mods E (.of w) (memSt [] 0 0 []) (fun _ => .pointer none) act0 w :=
    ⟨⟨fun b hb hmay => hmay.elim (fun h => by have : w.heap.size ≤ b := h; have := hE.1 b hb; omega) (fun h => h), hE.2.over (Over.less fun b h => h.elim id False.elim)⟩, ⟨Nat.le_refl _, fun _ _ _ => rfl⟩, fun _ => rfl, rfl, rfl, Kept.refl _, by simp [memSt], by simp [memSt], by simp [memSt], by intro t s ht; simp [memSt, alook] at ht⟩
  have hov : Over w E w (Ex E (fun _ => Value.pointer none) []) := Over.less fun b hb => hb.elim id fun ⟨_, _, hx, _⟩ => by cases hx
  refine (h.2 E (.of w) _ w vs rfl hm (Sms.of_vals (Rvals.over hov _ _ hr))).mono fun e w' he => ?_
  obtain ⟨β', v, rfl, hm', _, hs⟩ := he
  simp only [Sm] at hs
  exact ⟨v, [], rfl, hm'.below.below, ⟨by simp, .inl ⟨hs, rfl⟩⟩, fun b hb => by rw [hs] at hb; simp [blk] at hb, by simp [Rcells]⟩
def nilL (r : Option XR) : Bool := match r with
  | some ⟨.nils, _, _, _⟩ => true
  | _ => false
theorem numSorted0_ok : PureN Tryz.prog 78 [ints []] (ints []) := by
  have h : nilL (xcall mkGs (xdraw mkGs) 60 78 [.d (.sl [])] [] 0) = true := by kernel_rfl
  have hg := run_sound mixed_X mkGs_good 60
  unfold nilL at h
  split at h
  · rename_i nx own' mv hr
    exact pureN_of_fresh (fresh_of_nil (ds := [.sl []]) 3 1 (hg _ _ _ _ _ hr (by simp [Sym.los, Sym.lo]))) rfl
  · cases h
theorem sortI_nil : sortI [] = [] := by simp [sortI]
theorem numSortedA_ok (l : List Int) (hl : l.length ≤ 15) (hn : l.Nodup) : PureN Tryz.prog 78 [ints l] (ints (sortI l)) := by
  by_cases h : l = []
  · subst h; rw [sortI_nil]; exact numSorted0_ok
  · exact numSorted_ok l h hl hn
end Go.V.Doc
namespace Go.V.Doc
open Go Go.Proofs
section
variable {P : Program} {st : St} {Q : DE → St → Prop}
theorem pure_of_bodyZ {f : Nat} {fn : Func} {c : Code} (hf : P.funcs[f]? = some fn) (hb : fn.body = some c) (hcall : callable P f = true) {args : List D} {r : D}
    (h : Triple P c (atRet (resIs P fn.results.toList r)) (initSt fn.ntmps args)) : PureR P f args r := by
  refine ⟨hcall, fun w E vs hE hr => ?_⟩
  refine calls_of_wp hf hb ?_
  refine wp_mono (h E (.of w) _ _ w (Mods.init hE hr)) ?_
  rintro e a' w' ⟨de, st', β', he, hq, hm'⟩
  cases e <;> cases de <;> simp only [exM] at he
  · obtain ⟨v, h1, h2⟩ := res_sound hm' hq
    exact ⟨hm'.defers, v, h1, v, rfl, hm'.below.below, h2⟩
  · exact hq.elim
  · obtain ⟨v, h1, h2⟩ := res_sound hm' hq
    exact ⟨hm'.defers, v, h1, v, rfl, hm'.below.below, h2⟩
def cutZ {α : Type} (S : α → St) (inv : α → Prop) (Q : DE → St → Prop) : DE → St → Prop
  | .normal, st => ∃ x, inv x ∧ Weak st (S x)
  | e, st => Q e st
theorem triple_seqZ {α : Type} {x y : Code} (S : α → St) (inv : α → Prop) (h : Triple P x (cutZ S inv Q) st) (h2 : ∀ z, inv z → Triple P y Q (S z)) : Triple P (.seq x y) Q st := by
  intro X w0 β a w hm
  refine wp_seq (wp_mono (h X w0 β a w hm) ?_)
  rintro e a' w' ⟨de, st', β', he, hq, hm'⟩
  cases e <;> cases de <;> simp only [exM] at he
  · obtain ⟨z, hz, hw⟩ := hq
    exact h2 z hz X w0 β' a' w' (hm'.weak hw)
  · subst he; exact ⟨.exit _, st', β', rfl, hq, hm'⟩
  · exact ⟨.ret, st', β', trivial, hq, hm'⟩
theorem triple_nilbox {c : Code} {id T e sz : Nat} (h : st.look id = some (.box T [.nils])) (ht : Triple P c Q { st.new (.arr e sz []) with own := aset id (.box T [.ar st.next]) (st.new (.arr e sz [])).own }) : Triple P c Q st := by
  intro X w0 β a w hm
  refine ht X w0 (fun i => if i = st.next then .slice none 0 0 else β i) a w ?_
  have hm' := hm.newNil e sz
  obtain ⟨hid, _, b, vs, h1, hN, hh, hs, ho⟩ := hm.obj h
  have hne : ¬ st.next = id := by omega
  have hne' : ¬ id = st.next := by omega
  have h' : (st.new (.arr e sz [])).look id = some (.box T [.nils]) := by simp only [St.look, St.new, alook, if_neg hne]; exact h
  refine hm'.update h' (b := b) (by simp only [if_neg hne']; rw [h1]; rfl) hN (fun _ _ => rfl) rfl rfl rfl rfl (Drw.refl _) (by simp [Obj'.lo, Sym.los, Sym.lo, St.new]) ?_
  refine ⟨b, vs, by simp only [if_neg hne']; exact h1, hN, hh, ?_, ho⟩
  simp only [Sms, Sm] at hs ⊢
  simpa using hs
theorem cutZ_normal {α : Type} {S : α → St} {inv : α → Prop} : cutZ S inv Q .normal st = ∃ x, inv x ∧ Weak st (S x) := rfl
theorem cutZ_exit {α : Type} {S : α → St} {inv : α → Prop} (i : Nat) : cutZ S inv Q (.exit i) st = Q (.exit i) st := rfl
theorem cutZ_ret {α : Type} {S : α → St} {inv : α → Prop} : cutZ S inv Q .ret st = Q .ret st := rfl
theorem triple_mq0 {c : Code} {id T : Nat} (h : st.look id = some (.map T [])) (ht : Triple P c Q { st with own := aset id (.raw (.mq []) []) st.own }) : Triple P c Q st :=
  fun X w0 β a w hm => ht X w0 β a w (hm.mq0 h)
end
theorem weakS_of {st : St} {m : Nat} : ∀ {l : List (Nat × Sym)}, (∀ t s, (t, s) ∈ l → alook st.slots t = some s ∧ Sym.lo m s) → weakS st m l
  | [], _ => trivial
  | (t, s) :: r, h => by
    obtain ⟨h1, h2⟩ := h t s List.mem_cons_self
    unfold weakS
    rw [h1]
    exact ⟨rfl, h2, weakS_of fun t s hm => h t s (List.mem_cons_of_mem _ hm)⟩
theorem weakO_of {st : St} {m : Nat} : ∀ {l : List (Nat × Obj')}, (∀ t s, (t, s) ∈ l → alook st.own t = some s ∧ t < m ∧ s.lo m) → weakO st m l
  | [], _ => trivial
  | (t, s) :: r, h => by
    obtain ⟨h1, h2, h3⟩ := h t s List.mem_cons_self
    unfold weakO
    rw [h1]
    exact ⟨rfl, h2, h3, weakO_of fun t s hm => h t s (List.mem_cons_of_mem _ hm)⟩
theorem alook_of {α : Type} : ∀ {l : List (Nat × α)} {t : Nat} {s : α}, (l.map (·.1)).Nodup → (t, s) ∈ l → alook l t = some s
  | [], t, s, _, h => by cases h
  | (u, x) :: r, t, s, hn, h => by
    simp only [List.map_cons, List.nodup_cons] at hn
    rcases List.mem_cons.1 h with e | h
    · cases e; simp [alook]
    · have : ¬ u = t := fun e => hn.1 (by rw [e]; exact List.mem_map.2 ⟨_, h, rfl⟩)
      simp only [alook, if_neg this]
      exact alook_of hn.2 h
theorem weak_of {st st' : St} (h1 : st'.n = st.n) (h2 : st'.base = st.base) (h3 : st'.base ≤ st'.next) (h4 : ∀ id ∈ st.moved, id ∈ st'.moved) (h5 : (st'.own.map (·.1)).Nodup)
    (hs : ∀ t s, (t, s) ∈ st'.slots → alook st.slots t = some s ∧ Sym.lo st'.next s) (ho : ∀ t s, (t, s) ∈ st'.own → alook st.own t = some s ∧ t < st'.next ∧ s.lo st'.next) : Weak st st' :=
  ⟨⟨h1, h2, h3, h4⟩, h5, weakS_of hs, weakO_of ho⟩
attribute [local simp] cutZ_normal cutZ_exit cutZ_ret
def ubase (d : Dc) (L : List Grp) : List (Nat × Obj') := [(0, .box 53 (docCells d)), (2, .raw (.mq (keysU L)) (cellsU L)), (3, .box 182 [.mp 2])]
def uSt (d : Dc) (id : Int) (x : Nat × List Grp × Nat) : St :=
  { n := 46, next := x.2.2, slots := [(1, .d (int id)), (2, .bp 0 0), (5, .bp 3 0), (14, .d (notesD d.notes)), (15, .d (int d.notes.length)), (16, .d (int x.1))], own := ubase d x.2.1 ++ arrsU x.2.1, moved := idsU x.2.1 }
structure UInv (d : Dc) (x : Nat × List Grp × Nat) : Prop where
  le : x.1 ≤ d.notes.length
  nx : 4 ≤ x.2.2
  ids : ∀ i ∈ idsU x.2.1, 4 ≤ i ∧ i < x.2.2
  nodup : (idsU x.2.1).Nodup
  kids : ∀ p, kidsU x.2.1 p = kidsI (d.notes.take x.1) p
theorem UInv.own {d : Dc} {x : Nat × List Grp × Nat} (h : UInv d x) {id : Int} : ((uSt d id x).own.map (·.1)).Nodup ∧ ∀ t s, (t, s) ∈ (uSt d id x).own → alook (uSt d id x).own t = some s ∧ t < x.2.2 ∧ s.lo x.2.2 := by
  obtain ⟨k, L, nx⟩ := x
  obtain ⟨h1, h2, h3, h4, h5⟩ := h
  simp only at h1 h2 h3 h4 h5
  have hkeys : ((uSt d id (k, L, nx)).own.map (·.1)).Nodup := by
    have e : (uSt d id (k, L, nx)).own.map (·.1) = [0, 2, 3] ++ idsU L := by simp [uSt, ubase, arrsU, idsU, Function.comp_def]
    rw [e, List.nodup_append]
    refine ⟨by decide, h4, fun a ha b hb e => ?_⟩
    subst e
    have := (h3 a hb).1
    simp at ha
    omega
  refine ⟨hkeys, fun t s hm => ⟨alook_of hkeys hm, ?_⟩⟩
  have hcl : Sym.los nx (cellsU L) := by
    clear hkeys hm h4 h5
    induction L with
    | nil => simp [cellsU, Sym.los]
    | cons g L ih =>
      have := ih fun i hi => h3 i (by simp only [idsU, List.map_cons, List.mem_cons] at hi ⊢; exact .inr hi)
      simp only [cellsU, List.map_cons, Sym.los, Sym.lo] at this ⊢
      exact ⟨(h3 g.2.1 (by simp [idsU])).2, this⟩
  simp only [uSt, ubase, List.cons_append, List.nil_append, List.mem_cons] at hm
  rcases hm with e | e | e | hm
  · cases e; exact ⟨by simp only; omega, by simp [Obj'.lo, Sym.los, Sym.lo, docCells]⟩
  · cases e; exact ⟨by simp only; omega, by simpa [Obj'.lo] using hcl⟩
  · cases e; exact ⟨by simp only; omega, by simp [Obj'.lo, Sym.los, Sym.lo]; omega⟩
  · obtain ⟨g, hg, e⟩ := List.mem_map.1 hm
    cases e
    exact ⟨(h3 g.2.1 (List.mem_map.2 ⟨g, hg, rfl⟩)).2, by simp [Obj'.lo]⟩
theorem weak_uSt {d : Dc} {m : Nat} {x : Nat × List Grp × Nat} (hx : UInv d (m, x.2)) {id : Int} {st : St} (h1 : st.n = 46) (h2 : st.base = 0) (h3 : ∀ i ∈ st.moved, i ∈ idsU x.2.1)
    (hs : ∀ t s, (t, s) ∈ (uSt d id x).slots → alook st.slots t = some s) (ho : ∀ t s, alook (uSt d id x).own t = some s → alook st.own t = some s) : Weak st (uSt d id x) := by
  have hw := hx.own (id := id)
  refine weak_of h1.symm h2.symm (Nat.zero_le _) h3 hw.1 (fun t s hm => ⟨hs t s hm, ?_⟩) (fun t s hm => ⟨ho t s (hw.2 t s hm).1, (hw.2 t s hm).2⟩)
  have hnx := hx.nx
  simp only at hnx
  simp only [uSt, List.mem_cons, List.not_mem_nil, or_false, Prod.mk.injEq] at hm ⊢
  rcases hm with ⟨_, rfl⟩ | ⟨_, rfl⟩ | ⟨_, rfl⟩ | ⟨_, rfl⟩ | ⟨_, rfl⟩ | ⟨_, rfl⟩ <;> simp [Sym.lo] <;> omega
def uMid (d : Dc) (id : Int) (k : Nat) (L : List Grp) (nx : Nat) (n : Nt) : St :=
  { n := 46, next := nx + 1, slots := [(1, .d (int id)), (2, .bp 0 0), (5, .bp 3 0), (7, .bp nx 0), (14, .d (notesD d.notes)), (15, .d (int d.notes.length)), (16, .d (int k))], own := (nx, .box 72 (noteCells n)) :: (ubase d L ++ arrsU L), moved := idsU L }
theorem UInv.nx_out {d : Dc} {x : Nat × List Grp × Nat} (h : UInv d x) : x.2.2 ∉ idsU x.2.1 := fun hm => by have := (h.ids _ hm).2; omega
theorem weak_uMid {d : Dc} {id : Int} {k : Nat} {L : List Grp} {nx : Nat} {n : Nt} (hx : UInv d (k, L, nx)) {st : St} (h1 : st.n = 46) (h2 : st.base = 0) (h3 : ∀ i ∈ st.moved, i ∈ idsU L)
    (hs : ∀ t s, (t, s) ∈ (uMid d id k L nx n).slots → alook st.slots t = some s) (ho : st.own = (uMid d id k L nx n).own) : Weak st (uMid d id k L nx n) := by
  have hw := hx.own (id := id)
  have h4 := hx.nx
  simp only at h4
  have hk : ((uMid d id k L nx n).own.map (·.1)).Nodup := by
    have e : (uMid d id k L nx n).own.map (·.1) = nx :: (uSt d id (k, L, nx)).own.map (·.1) := rfl
    rw [e, List.nodup_cons]
    refine ⟨fun hm => ?_, hw.1⟩
    obtain ⟨⟨t, s⟩, hq, he⟩ := List.mem_map.1 hm
    have := (hw.2 t s hq).2.1
    simp only at he this
    omega
  refine weak_of h1.symm h2.symm (Nat.zero_le _) h3 hk (fun t s hm => ⟨hs t s hm, ?_⟩) (fun t s hm => ⟨by rw [ho]; exact alook_of hk hm, ?_⟩)
  · simp only [uMid, List.mem_cons, List.not_mem_nil, or_false, Prod.mk.injEq] at hm ⊢
    rcases hm with ⟨_, rfl⟩ | ⟨_, rfl⟩ | ⟨_, rfl⟩ | ⟨_, rfl⟩ | ⟨_, rfl⟩ | ⟨_, rfl⟩ | ⟨_, rfl⟩ <;> simp [Sym.lo] <;> omega
  · rcases List.mem_cons.1 hm with e | hm
    · cases e
      exact ⟨by simp only [uMid]; omega, by simp [Obj'.lo, Sym.los, Sym.lo]⟩
    · have := (hw.2 t s hm).2
      simp only at this
      exact ⟨by simp only [uMid]; omega, Obj'.lo_mono (by simp only [uMid]; omega) this.2⟩
theorem kids_find : ∀ {L : List Grp} {p : Int} {g : Nat × List Int}, findU L p = some g → kidsU L p = g.2
  | [], p, g, h => by cases h
  | a :: L, p, g, h => by
    unfold findU at h
    unfold kidsU
    split at h
    · rename_i e; cases h; rw [if_pos e]
    · rename_i e; rw [if_neg e]; exact kids_find h
theorem cells_ids (L : List Grp) : cellsU L = (idsU L).map Sym.ar := by simp [cellsU, idsU]
theorem own_hit {d : Dc} {L L' : List Grp} {nx : Nat} {g : Nat × List Int} {ob : Obj'} {bx : Obj'} (hk : keysU L' = keysU L) (hi : idsU L' = idsU L) (ha : ∀ i, alook (arrsU L') i = if i = g.1 then some ob else alook (arrsU L) i)
    (h4 : ∀ i ∈ idsU L, 4 ≤ i ∧ i < nx) (hg : g.1 ∈ idsU L) (hnx : 4 ≤ nx) : ∀ t s, alook (ubase d L' ++ arrsU L') t = some s → alook (aset 2 (.raw (.mq (keysU L)) (cellsU L)) (renewOwn g.1 ob ((nx, bx) :: (ubase d L ++ arrsU L)))) t = some s := by
  intro t s hs
  have hg4 := h4 _ hg
  rw [alook_aset, alook_renew]
  rw [alook_append] at hs
  by_cases t2 : t = 2
  · subst t2
    simp [ubase, alook] at hs
    rw [if_pos rfl, ← hs, hk, cells_ids, cells_ids, hi]
  rw [if_neg t2]
  by_cases t0 : t = 0
  · subst t0
    have b0 : ¬ 0 = g.1 := by omega
    have n0 : ¬ nx = 0 := by omega
    simp [ubase, alook] at hs
    subst hs
    simp [ubase, alook, n0, b0, purgeObj, purges, purge, docCells]
  by_cases t3 : t = 3
  · subst t3
    have b0 : ¬ 3 = g.1 := by omega
    have b2 : ¬ 2 = g.1 := by omega
    have n0 : ¬ nx = 3 := by omega
    simp [ubase, alook] at hs
    subst hs
    simp [ubase, alook, n0, b0, b2, purgeObj, purges, purge]
  have e0 : ¬ 0 = t := fun e => t0 e.symm
  have e2 : ¬ 2 = t := fun e => t2 e.symm
  have e3 : ¬ 3 = t := fun e => t3 e.symm
  simp [ubase, alook, e0, e2, e3] at hs
  have hnt : ¬ nx = t := by
    intro e
    rw [← e, ha, if_neg (by omega)] at hs
    have := (h4 _ (look_arrs hs).1).2
    omega
  simp only [ubase, List.cons_append, List.nil_append, alook, if_neg hnt, if_neg e0, if_neg e2, if_neg e3]
  rw [ha] at hs
  by_cases e : t = g.1
  · rw [if_pos e] at hs
    cases hs
    cases hl : alook (arrsU L) t with
    | none =>
      exfalso
      rw [e] at hl
      have : ∀ M : List Grp, g.1 ∈ idsU M → alook (arrsU M) g.1 ≠ none := by
        intro M
        induction M with
        | nil => intro h; simp [idsU] at h
        | cons a M ih =>
          intro h
          simp only [idsU, List.map_cons, List.mem_cons] at h
          simp only [arrsU, List.map_cons, alook]
          by_cases h1 : a.2.1 = g.1
          · rw [if_pos h1]; simp
          · rw [if_neg h1]; exact ih (h.resolve_left fun e => h1 e.symm)
      exact this L hg hl
    | some o => simp [e]
  · rw [if_neg e] at hs
    obtain ⟨_, ks, rfl⟩ := look_arrs hs
    rw [hs]
    simp [e, purgeObj]
theorem own_miss {d : Dc} {L : List Grp} {p x : Int} {nx : Nat} {bx : Obj'} {o0 : Obj'} (hf : findU L p = none) (h4 : ∀ i ∈ idsU L, 4 ≤ i ∧ i < nx) (hnx : 4 ≤ nx) :
    ∀ t s, alook (ubase d (addU L p x (nx + 1)) ++ arrsU (addU L p x (nx + 1))) t = some s →
      alook (aset 2 (.raw (.mq (keysU L ++ [p])) (cellsU L ++ [.ar (nx + 1)])) (renewOwn (nx + 1) (.arr 3 1 [[int x]]) ((nx + 1, o0) :: (nx, bx) :: (ubase d L ++ arrsU L)))) t = some s := by
  intro t s hs
  have hout : nx + 1 ∉ idsU L := fun hm => by have := (h4 _ hm).2; omega
  have ha := arrs_miss (x := x) (nx := nx + 1) hf hout
  rw [alook_aset, alook_renew]
  rw [alook_append] at hs
  by_cases t2 : t = 2
  · subst t2
    simp [ubase, alook] at hs
    rw [if_pos rfl, ← hs, add_miss hf]
    simp [keysU, cellsU]
  rw [if_neg t2]
  by_cases t0 : t = 0
  · subst t0
    have b0 : ¬ 0 = nx + 1 := by omega
    have n0 : ¬ nx = 0 := by omega
    simp [ubase, alook] at hs
    subst hs
    simp [ubase, alook, n0, purgeObj, purges, purge, docCells]
  by_cases t3 : t = 3
  · subst t3
    have b0 : ¬ nx + 1 = 3 := by omega
    have b1 : ¬ 3 = nx + 1 := by omega
    have b2 : ¬ 2 = nx + 1 := by omega
    have n0 : ¬ nx = 3 := by omega
    simp [ubase, alook] at hs
    subst hs
    simp only [ubase, List.cons_append, List.nil_append, alook, if_neg b0, if_neg n0]
    simp [b1, b2, purgeObj, purges, purge, show ¬ nx = 2 by omega, show ¬ nx = 1 by omega, show ¬ 2 = nx by omega, show ¬ 1 = nx by omega]
  have e0 : ¬ 0 = t := fun e => t0 e.symm
  have e2 : ¬ 2 = t := fun e => t2 e.symm
  have e3 : ¬ 3 = t := fun e => t3 e.symm
  simp [ubase, alook, e0, e2, e3] at hs
  rw [ha] at hs
  by_cases e : t = nx + 1
  · subst e
    rw [if_pos rfl] at hs
    cases hs
    simp [alook]
  rw [if_neg e] at hs
  have hnt : ¬ nx = t := by
    intro e
    rw [← e] at hs
    have := (h4 _ (look_arrs hs).1).2
    omega
  have en : ¬ nx + 1 = t := fun e2 => e e2.symm
  obtain ⟨_, ks, rfl⟩ := look_arrs hs
  simp only [ubase, List.cons_append, List.nil_append, alook, if_neg en, if_neg hnt, if_neg e0, if_neg e2, if_neg e3, hs]
  simp [e, purgeObj]
theorem alook_thawOwn (id : Nat) (x : D) : ∀ (l : List (Nat × Obj')) (t : Nat), alook (thawOwn id x l) t = if t = id then none else (alook l t).map (thawObj id x)
  | [], t => by simp [thawOwn, alook]
  | (k, o) :: r, t => by
    have ih := alook_thawOwn id x r t
    unfold thawOwn
    by_cases e : k = id
    · rw [if_pos e, ih]
      by_cases e2 : t = id
      · rw [if_pos e2, if_pos e2]
      · have : ¬ k = t := fun e3 => e2 (e3.symm.trans e)
        rw [if_neg e2, if_neg e2]
        simp only [alook, if_neg this]
    · rw [if_neg e]
      simp only [alook]
      by_cases e2 : k = t
      · have : ¬ t = id := fun e3 => e (e2.trans e3)
        rw [if_pos e2, if_pos e2, if_neg this]; rfl
      · rw [if_neg e2, if_neg e2, ih]
def uFrz (d : Dc) (id : Int) (nx : Nat) (M : List Nat) (L1 L2 : List Grp) : St :=
  { n := 46, next := nx, slots := [(1, .d (int id)), (2, .bp 0 0), (5, .bp 3 0)], own := [(0, .box 53 (docCells d)), (2, .raw (.mq (keysU (L1 ++ L2))) ((L1.map fun g => Sym.d (ints g.2.2)) ++ cellsU L2)), (3, .box 182 [.mp 2])] ++ arrsU L2, moved := M }
theorem thaws_ds (j : Nat) (x : D) : ∀ L : List Grp, thaws j x (L.map fun g => Sym.d (ints g.2.2)) = L.map fun g => Sym.d (ints g.2.2)
  | [] => rfl
  | g :: L => by simp only [List.map_cons, thaws, thaw, thaws_ds j x L]
theorem thaws_app (j : Nat) (x : D) : ∀ l m : List Sym, thaws j x (l ++ m) = thaws j x l ++ thaws j x m
  | [], m => rfl
  | s :: l, m => by simp only [List.cons_append, thaws, thaws_app j x l m]
theorem thaws_cells {j : Nat} {x : D} : ∀ {L : List Grp}, j ∉ idsU L → thaws j x (cellsU L) = cellsU L
  | [], _ => rfl
  | g :: L, h => by
    simp only [idsU, List.map_cons, List.mem_cons, not_or] at h
    have ih := thaws_cells (x := x) (L := L) h.2
    have : ¬ g.2.1 = j := fun e => h.1 e.symm
    simp only [cellsU, List.map_cons, thaws, thaw, if_neg this] at ih ⊢
    rw [ih]
theorem frz_all {X : Nat → Prop} {w0 : Base} {β : Nat → Value} {a : Act} {w : World} {d : Dc} {id : Int} {nx : Nat} {M : List Nat} (hnx : 4 ≤ nx) : ∀ (L2 L1 : List Grp), (∀ i ∈ idsU L2, 4 ≤ i ∧ i < nx) → (idsU L2).Nodup → Mods X w0 (uFrz d id nx M L1 L2) β a w → Mods X w0 (uFrz d id nx M (L1 ++ L2) []) β a w
  | [], L1, _, _, hm => by rw [List.append_nil]; exact hm
  | g :: L2, L1, h4, hnd, hm => by
    have e : L1 ++ g :: L2 = (L1 ++ [g]) ++ L2 := by simp
    rw [e]
    simp only [idsU, List.map_cons, List.nodup_cons] at hnd
    have hg := h4 g.2.1 (by simp [idsU])
    have hgl : g.2.1 ∉ idsU L2 := hnd.1
    have h4' : ∀ i ∈ idsU L2, 4 ≤ i ∧ i < nx := fun i hi => h4 i (by simp only [idsU, List.map_cons, List.mem_cons] at hi ⊢; exact .inr hi)
    refine frz_all hnx L2 (L1 ++ [g]) h4' hnd.2 ?_
    have n0 : ¬ 0 = g.2.1 := by omega
    have n2 : ¬ 2 = g.2.1 := by omega
    have n3 : ¬ 3 = g.2.1 := by omega
    have hlk : (uFrz d id nx M L1 (g :: L2)).look g.2.1 = some (.arr 3 1 (g.2.2.map fun n => [int n])) := by
      simp only [St.look, uFrz, arrsU, List.map_cons, List.cons_append, List.nil_append, alook, if_neg n0, if_neg n2, if_neg n3, if_true]
    have hf := hm.frz g.2.1
    unfold St.frz at hf
    rw [hlk] at hf
    refine hf.weak (weak_of rfl rfl (Nat.zero_le _) (fun _ h => h) ?_ ?_ ?_)
    · have : (uFrz d id nx M (L1 ++ [g]) L2).own.map (·.1) = [0, 2, 3] ++ idsU L2 := by simp [uFrz, arrsU, idsU, Function.comp_def]
      rw [this, List.nodup_append]
      refine ⟨by decide, hnd.2, fun a ha b hb e => ?_⟩
      subst e
      have := (h4' a hb).1
      simp at ha
      omega
    · intro t s hm
      simp only [uFrz, List.mem_cons, List.not_mem_nil, or_false, Prod.mk.injEq] at hm
      rcases hm with ⟨rfl, rfl⟩ | ⟨rfl, rfl⟩ | ⟨rfl, rfl⟩ <;> simp [uFrz, thawSlots, thaw, alook, Sym.lo] <;> omega
    · intro t s hms
      have hlo : Sym.los nx ((L1 ++ [g]).map (fun g => Sym.d (ints g.2.2)) ++ cellsU L2) := by
        have h1 : ∀ (l m : List Sym), Sym.los nx l → Sym.los nx m → Sym.los nx (l ++ m) := by
          intro l
          induction l with
          | nil => intro m _ h; exact h
          | cons a l ih => intro m h1 h2; simp only [List.cons_append, Sym.los] at h1 ⊢; exact ⟨h1.1, ih m h1.2 h2⟩
        refine h1 _ _ ?_ ?_
        · generalize L1 ++ [g] = L
          induction L with
          | nil => simp [Sym.los]
          | cons a l ih => simp only [List.map_cons, Sym.los, Sym.lo]; exact ⟨trivial, ih⟩
        · clear hlk hf hms hnd hgl hm e
          induction L2 with
          | nil => simp [cellsU, Sym.los]
          | cons a l ih =>
            simp only [cellsU, List.map_cons, Sym.los, Sym.lo]
            exact ⟨(h4' a.2.1 (by simp [idsU])).2, ih (fun i hi => h4 i (by simp only [idsU, List.map_cons, List.mem_cons] at hi ⊢; rcases hi with h | h; exact .inl h; exact .inr (.inr h))) (fun i hi => h4' i (by simp only [idsU, List.map_cons, List.mem_cons] at hi ⊢; exact .inr hi))⟩
      simp only [uFrz, List.cons_append, List.nil_append, List.mem_cons] at hms
      rw [alook_thawOwn]
      rcases hms with e | e | e | hms
      · cases e; exact ⟨by rw [if_neg n0]; simp [uFrz, alook, thawObj, thaws, thaw, docCells], by simp only [uFrz]; omega, by simp [Obj'.lo, Sym.los, Sym.lo]⟩
      · cases e
        refine ⟨?_, by simp only [uFrz]; omega, by simp only [Obj'.lo]; exact hlo⟩
        rw [if_neg n2]
        have hc : cellsU (g :: L2) = Sym.ar g.2.1 :: cellsU L2 := rfl
        simp only [uFrz, List.cons_append, List.nil_append, alook, if_true, Option.map_some, thawObj, show ¬ (0 : Nat) = 2 by decide, if_false, thaws_app, thaws_ds, hc, thaws, thaw, thaws_cells hgl]
        simp [ints, int]
      · cases e; exact ⟨by rw [if_neg n3]; simp [uFrz, alook, thawObj, thaws, thaw, n2], by simp only [uFrz]; omega, by simp [Obj'.lo, Sym.los, Sym.lo, uFrz]; omega⟩
      · obtain ⟨q, hq, e⟩ := List.mem_map.1 hms
        cases e
        have hqi : q.2.1 ∈ idsU L2 := List.mem_map.2 ⟨q, hq, rfl⟩
        have hq4 := h4' _ hqi
        have hne : ¬ q.2.1 = g.2.1 := fun e => hgl (by rw [← e]; exact hqi)
        have hne' : ¬ g.2.1 = q.2.1 := fun e => hne e.symm
        have hal : alook (arrsU L2) q.2.1 = some (.arr 3 1 (q.2.2.map fun n => [int n])) := alook_of (by simpa [arrsU, idsU, Function.comp_def] using hnd.2) (List.mem_map.2 ⟨q, hq, rfl⟩)
        refine ⟨?_, by simp only [uFrz]; omega, by simp [Obj'.lo]⟩
        rw [if_neg hne]
        have m0 : ¬ 0 = q.2.1 := by omega
        have m2 : ¬ 2 = q.2.1 := by omega
        have m3 : ¬ 3 = q.2.1 := by omega
        have hc : arrsU (g :: L2) = (g.2.1, Obj'.arr 3 1 (g.2.2.map fun n => [int n])) :: arrsU L2 := rfl
        simp only [uFrz, List.cons_append, List.nil_append, alook, if_neg m0, if_neg m2, if_neg m3, hc, if_neg hne', hal]
        rfl
def uEnd (d : Dc) (id : Int) (L : List Grp) : St :=
  { n := 46, next := 4, slots := [(1, .d (int id)), (2, .bp 0 0), (5, .bp 3 0)], own := [(0, .box 53 (docCells d)), (3, .box 182 [.d (.mp (rowsU L))])], moved := idsU L }
theorem triple_uEnd {P : Program} {c : Code} {Q : DE → St → Prop} {d : Dc} {id : Int} {m : Nat} {x : Nat × List Grp × Nat} (hx : UInv d (m, x.2)) (h : Triple P c Q (uEnd d id x.2.1)) : Triple P c Q (uSt d id x) := by
  intro X w0 β a w hm
  obtain ⟨k, L, nx⟩ := x
  have h4 : ∀ i ∈ idsU L, 4 ≤ i ∧ i < nx := hx.ids
  have hnd : (idsU L).Nodup := hx.nodup
  have hnx : 4 ≤ nx := hx.nx
  have hw := hx.own (id := id)
  have m0 : Mods X w0 (uFrz d id nx (idsU L) [] L) β a w := by
    refine hm.weak (weak_of rfl rfl (Nat.zero_le _) (fun _ h => h) hw.1 ?_ hw.2)
    intro t s hm
    simp only [uFrz, List.mem_cons, List.not_mem_nil, or_false, Prod.mk.injEq] at hm
    rcases hm with ⟨rfl, rfl⟩ | ⟨rfl, rfl⟩ | ⟨rfl, rfl⟩ <;> simp [uSt, uFrz, alook, Sym.lo] <;> omega
  have m1 := frz_all hnx L [] h4 hnd m0
  rw [List.nil_append] at m1
  have hlk : (uFrz d id nx (idsU L) L []).look 2 = some (.raw (.mq (keysU L)) ((L.map fun g => ints g.2.2).map Sym.d)) := by simp [uFrz, St.look, alook, cellsU, Function.comp_def]
  have m2 := (m1.mqD (T := 182) hlk).frz 2
  have hz : ((keysU L).zip (L.map fun g => ints g.2.2)).map (fun p => [D.int .i64 p.1, p.2]) = rowsU L := by
    clear hm m0 m1 m2 hlk hw hx h h4 hnd
    induction L with
    | nil => rfl
    | cons g L ih => simp only [keysU, rowsU, List.map_cons, List.zip_cons_cons, int] at ih ⊢; rw [ih]
  rw [hz] at m2
  have hlk2 : St.look { uFrz d id nx (idsU L) L [] with own := aset 2 (.map 182 (rowsU L)) (uFrz d id nx (idsU L) L []).own } 2 = some (.map 182 (rowsU L)) := by simp [uFrz, St.look, alook, aset]
  unfold St.frz at m2
  rw [hlk2] at m2
  refine h X w0 β a w (m2.weak (weak_of rfl rfl (Nat.zero_le _) (fun _ h => h) (by simp [uEnd]) ?_ ?_))
  · intro t s hm
    simp only [uEnd, List.mem_cons, List.not_mem_nil, or_false, Prod.mk.injEq] at hm
    rcases hm with ⟨rfl, rfl⟩ | ⟨rfl, rfl⟩ | ⟨rfl, rfl⟩ <;> simp [uEnd, uFrz, thawSlots, thaw, alook, Sym.lo]
  · intro t s hm
    simp only [uEnd, List.mem_cons, List.not_mem_nil, or_false, Prod.mk.injEq] at hm
    rcases hm with ⟨rfl, rfl⟩ | ⟨rfl, rfl⟩ <;> simp [uEnd, uFrz, aset, thawOwn, thawObj, thaws, thaw, alook, Sym.lo, Sym.los, Obj'.lo, arrsU, docCells]
end Go.V.Doc
namespace Go.V.Doc
open Go Go.Proofs
attribute [local simp] cutZ_normal cutZ_exit cutZ_ret
set_option maxHeartbeats 16000000 in
theorem under_ok (d : Dc) (h : Rgt d) (hl : d.notes.length < 2^40) (n : Nt) (hn : n ∈ d.notes) (f : Nat) (hf : (d.tiers.length : Int) - n.tier ≤ f) (hc : (colN d.notes f n.id).length ≤ 15) : PureR Tryz.prog 59 [docD d, int n.id] (ints (sortI (colN d.notes f n.id))) := by
  obtain ⟨id, hid⟩ : ∃ id, n.id = id := ⟨_, rfl⟩
  have hG := get_ok d n.id (by omega)
  rw [getN_of h hn] at hG
  have hcl := hc
  have hS := numSortedA_ok (colN d.notes f n.id) hc (col_nodup h f n hn hf)
  have hcol : ∀ L : List Grp, (∀ p, kidsU L p = kidsI d.notes p) → ColC L d.notes f n.id := fun L hL => col_ok h hL f n hn hf
  rw [hid] at hG hcl hS hcol hc ⊢
  refine pure_of_bodyZ Tryz.func59 rfl call_59 ?_
  refine cut_ev mixed 2 { n := 46, next := 4, slots := [(1, .d (int id)), (2, .bp 0 0), (5, .bp 3 0)], own := [(0, .box 53 (docCells d)), (2, .map 182 []), (3, .box 182 [.mp 2])] } rfl ?_ ?_
  · simp (decide := true) [Tryz.f59, headC, docD, Dc.row, int, notesD, tiersD]
  simp only [Tryz.f59, tailC]
  refine triple_mq0 (id := 2) rfl ?_
  refine triple_seqZ (uSt d id) (fun x => UInv d x ∧ x.1 = d.notes.length) ?_ ?_
  · refine cut_ev mixed 1 (uSt d id (0, [], 4)) rfl ?_ ?_
    · simp (decide := true) [headC, uSt, ubase, keysU, cellsU, arrsU, idsU, aset, int, notesD]
    simp only [tailC]
    refine triple_block (loop_ruleT mixed (uSt d id) (UInv d) (fun x => d.notes.length - x.1) (0, [], 4) ?_ ?_ ?_)
    · exact ⟨Nat.zero_le _, by simp, by simp [idsU], by simp [idsU], by simp [kidsU, kidsI]⟩
    · simp (decide := true) [uSt, ubase, keysU, cellsU, arrsU, idsU]
    intro x hx
    by_cases hlt : x.1 < d.notes.length
    case neg =>
      have hk : x.1 = d.notes.length := by have := hx.le; omega
      refine ev_sound mixed ?_
      simp (decide := true) [uSt, int, hk, -Weak]
      refine ⟨x.1, x.2.1, x.2.2, ⟨hx, hk⟩, ?_⟩
      refine weak_uSt (x := (x.1, x.2.1, x.2.2)) hx rfl rfl (fun _ h => h) ?_ (fun _ _ h => h)
      intro t s hm
      simp only [uSt, List.mem_cons, List.not_mem_nil, or_false, Prod.mk.injEq] at hm
      rcases hm with ⟨rfl, rfl⟩ | ⟨rfl, rfl⟩ | ⟨rfl, rfl⟩ | ⟨rfl, rfl⟩ | ⟨rfl, rfl⟩ | ⟨rfl, rfl⟩ <;> simp [alook, hk, int]
    refine cut_ev mixed 2 (uSt d id x) rfl ?_ ?_
    · have hlt' : (x.1 : Int) < d.notes.length := by omega
      simp (decide := true) [headC, uSt, int, hlt, hlt', -Weak]
      refine weak_uSt (x := x) hx rfl rfl (fun _ h => h) ?_ (fun _ _ h => h)
      intro t s hm
      simp only [uSt, List.mem_cons, List.not_mem_nil, or_false, Prod.mk.injEq] at hm
      rcases hm with ⟨rfl, rfl⟩ | ⟨rfl, rfl⟩ | ⟨rfl, rfl⟩ | ⟨rfl, rfl⟩ | ⟨rfl, rfl⟩ | ⟨rfl, rfl⟩ <;> simp [alook, int]
    simp only [tailC]
    refine triple_seqZ (fun y : List Grp × Nat => uSt d id (x.1, y)) (fun y => UInv d (x.1 + 1, y)) ?_ ?_
    · refine triple_block ?_
      obtain ⟨k, L, nx⟩ := x
      obtain ⟨n, en⟩ : ∃ n, d.notes[k] = n := ⟨_, rfl⟩
      have e1 : d.notes[k]? = some n := by rw [List.getElem?_eq_getElem hlt, en]
      refine triple_seq (uMid d id k L nx n) ?_ ?_
      · refine ev_sound mixed ?_
        have hlt' : (k : Int) < d.notes.length := by omega
        simp (decide := true) [uSt, int, notesD, Nt.row, hlt, hlt', en, e1, -Weak]
        refine weak_uMid hx rfl rfl (fun _ h => h) ?_ rfl
        intro t s hm
        simp only [uMid, List.mem_cons, List.not_mem_nil, or_false, Prod.mk.injEq] at hm
        rcases hm with ⟨rfl, rfl⟩ | ⟨rfl, rfl⟩ | ⟨rfl, rfl⟩ | ⟨rfl, rfl⟩ | ⟨rfl, rfl⟩ | ⟨rfl, rfl⟩ | ⟨rfl, rfl⟩ <;> simp [alook, int, notesD]
      · have hnxo : nx ∉ idsU L := hx.nx_out
        have h4 : 4 ≤ nx := hx.nx
        have hids : ∀ i ∈ idsU L, 4 ≤ i ∧ i < nx := hx.ids
        have hnd : (idsU L).Nodup := hx.nodup
        have a0 : ¬ nx = 0 := by omega
        have a2 : ¬ nx = 2 := by omega
        have a3 : ¬ nx = 3 := by omega
        cases hf : findU L n.par with
        | some g =>
          have hgi : g.1 ∈ idsU L := List.mem_map.2 ⟨_, find_mem hf, rfl⟩
          have hg4 := hids _ hgi
          have b0 : ¬ 0 = g.1 := by omega
          have b2 : ¬ 2 = g.1 := by omega
          have b3 : ¬ 3 = g.1 := by omega
          have bn : ¬ nx = g.1 := by omega
          have c2 : ¬ g.1 = 2 := by omega
          have c3 : ¬ g.1 = 3 := by omega
          have c0 : ¬ g.1 = 0 := by omega
          have cn : ¬ g.1 = nx := by omega
          obtain ⟨S, hS⟩ : ∃ S : St, S = { uMid d id k L nx n with slots := (20, .mp 2) :: (21, .bp nx 2) :: (22, .d (int n.par)) :: (23, .mp 2) :: (24, .bp nx 2) :: (25, .d (int n.par)) :: (26, .ar g.1) :: (27, .bp nx 0) :: (28, .d (int n.id)) :: (29, .d (.sl [[int n.id]])) :: (uMid d id k L nx n).slots } := ⟨_, rfl⟩
          refine draw_stage mixed 11 10 S ((S.renew g.1 (.arr 3 1 ((g.2 ++ [n.id]).map fun n => [int n]))).put (some 30) (.ar g.1)) 30 (.ar g.1) (purge g.1) (fun st => (st.renew g.1 (.arr 3 1 ((g.2 ++ [n.id]).map fun n => [int n]))).put (some 30) (.ar g.1)) _ (by rfl) (by rfl) (by rfl) (by rfl) (by rfl) rfl rfl rfl ?_ (turn_renew S g.1 30 _) ?_ ?_ ?_
          · intro X w0 β a w hm
            subst hS
            refine ⟨rfl, rfl, rfl, rfl, rfl, fun t s hs hj hL => ?_⟩
            simp only [alook] at hs
            split at hs
            · rename_i e; exact (hL 0 _ (by omega) rfl (congrArg some e)).elim
            split at hs
            · rename_i e; exact (hL 1 _ (by omega) rfl (congrArg some e)).elim
            split at hs
            · rename_i e; exact (hL 2 _ (by omega) rfl (congrArg some e)).elim
            split at hs
            · rename_i e; exact (hL 3 _ (by omega) rfl (congrArg some e)).elim
            split at hs
            · rename_i e; exact (hL 4 _ (by omega) rfl (congrArg some e)).elim
            split at hs
            · rename_i e; exact (hL 5 _ (by omega) rfl (congrArg some e)).elim
            split at hs
            · rename_i e; exact (hL 6 _ (by omega) rfl (congrArg some e)).elim
            split at hs
            · rename_i e; exact (hL 7 _ (by omega) rfl (congrArg some e)).elim
            split at hs
            · rename_i e; exact (hL 8 _ (by omega) rfl (congrArg some e)).elim
            split at hs
            · rename_i e; exact (hL 9 _ (by omega) rfl (congrArg some e)).elim
            exact hs
          · intro i o hi hne ho
            have : i = 0 ∨ i = 1 ∨ i = 2 ∨ i = 3 ∨ i = 4 ∨ i = 5 ∨ i = 6 ∨ i = 7 ∨ i = 8 ∨ i = 9 := by omega
            rcases this with rfl | rfl | rfl | rfl | rfl | rfl | rfl | rfl | rfl | rfl <;> simp only [List.getElem?_cons_zero, List.getElem?_cons_succ, Option.some.injEq] at ho <;> subst ho
            · refine pureOp_of (s := .mp 2) rfl rfl (by subst hS; simp [uMid]) (by subst hS; simp [Sym.lo, uMid] <;> omega) ⟨by rfl, ?_⟩ (by subst hS; simp [alook]) (.inr ⟨by subst hS; simp [St.put, St.renew, St.new, uMid], by subst hS; simp [St.put, St.renew, St.new, Sym.lo, uMid] <;> omega, ⟨by rfl, ?_⟩, by subst hS; simp [alook, St.put, St.renew, St.new, purgeSlots, purge, uMid, a0, a2, a3, b0, b2, b3, bn, c0, c2, c3, cn]⟩)
              · subst hS; simp (decide := true) [uMid, ubase, alook, St.val, St.look, int, a0, a2, a3, b0, b2, b3, bn, c0, c2, c3, cn]
              · subst hS; simp (decide := true) [uMid, ubase, alook, St.val, St.look, St.put, St.renew, St.new, renewOwn, purgeObj, purges, purge, purgeSlots, int, a0, a2, a3, b0, b2, b3, bn, c0, c2, c3, cn]
            · refine pureOp_of (s := .bp nx 2) rfl rfl (by subst hS; simp [uMid]) (by subst hS; simp [Sym.lo, uMid] <;> omega) ⟨by rfl, ?_⟩ (by subst hS; simp [alook]) (.inr ⟨by subst hS; simp [St.put, St.renew, St.new, uMid], by subst hS; simp [St.put, St.renew, St.new, Sym.lo, uMid] <;> omega, ⟨by rfl, ?_⟩, by subst hS; simp [alook, St.put, St.renew, St.new, purgeSlots, purge, uMid, a0, a2, a3, b0, b2, b3, bn, c0, c2, c3, cn]⟩)
              · subst hS; simp (decide := true) [uMid, ubase, alook, St.val, St.look, int, a0, a2, a3, b0, b2, b3, bn, c0, c2, c3, cn]
              · subst hS; simp (decide := true) [uMid, ubase, alook, St.val, St.look, St.put, St.renew, St.new, renewOwn, purgeObj, purges, purge, purgeSlots, int, a0, a2, a3, b0, b2, b3, bn, c0, c2, c3, cn]
            · refine pureOp_of (s := .d (int n.par)) rfl rfl (by subst hS; simp [uMid]) (by subst hS; simp [Sym.lo, uMid] <;> omega) ⟨by rfl, ?_⟩ (by subst hS; simp [alook]) (.inr ⟨by subst hS; simp [St.put, St.renew, St.new, uMid], by subst hS; simp [St.put, St.renew, St.new, Sym.lo, uMid] <;> omega, ⟨by rfl, ?_⟩, by subst hS; simp [alook, St.put, St.renew, St.new, purgeSlots, purge, uMid, a0, a2, a3, b0, b2, b3, bn, c0, c2, c3, cn]⟩)
              · subst hS; simp (decide := true) [uMid, ubase, alook, St.val, St.look, int, a0, a2, a3, b0, b2, b3, bn, c0, c2, c3, cn]
              · subst hS; simp (decide := true) [uMid, ubase, alook, St.val, St.look, St.put, St.renew, St.new, renewOwn, purgeObj, purges, purge, purgeSlots, int, a0, a2, a3, b0, b2, b3, bn, c0, c2, c3, cn]
            · refine pureOp_of (s := .mp 2) rfl rfl (by subst hS; simp [uMid]) (by subst hS; simp [Sym.lo, uMid] <;> omega) ⟨by rfl, ?_⟩ (by subst hS; simp [alook]) (.inl ⟨5, by rfl⟩)
              subst hS; simp (decide := true) [uMid, ubase, alook, St.val, St.look, int, a0, a2, a3, b0, b2, b3, bn, c0, c2, c3, cn]
            · refine pureOp_of (s := .bp nx 2) rfl rfl (by subst hS; simp [uMid]) (by subst hS; simp [Sym.lo, uMid] <;> omega) ⟨by rfl, ?_⟩ (by subst hS; simp [alook]) (.inl ⟨5, by rfl⟩)
              subst hS; simp (decide := true) [uMid, ubase, alook, St.val, St.look, int, a0, a2, a3, b0, b2, b3, bn, c0, c2, c3, cn]
            · refine pureOp_of (s := .d (int n.par)) rfl rfl (by subst hS; simp [uMid]) (by subst hS; simp [Sym.lo, uMid] <;> omega) ⟨by rfl, ?_⟩ (by subst hS; simp [alook]) (.inl ⟨5, by rfl⟩)
              subst hS; simp (decide := true) [uMid, ubase, alook, St.val, St.look, int, a0, a2, a3, b0, b2, b3, bn, c0, c2, c3, cn]
            · refine ⟨rfl, 26, .ar g.1, rfl, .inl ⟨5, by rfl⟩, ?_, by subst hS; intro s' h1 _; simp [alook] at h1; exact h1.symm⟩
              intro X w0 st β a w hn hxx hown hk hm
              have h23 : st.val (.tmp 23) = .mp 2 := by simp only [St.val]; rw [hk 23 (by simp [tmpsOf, Op.operands]) (.mp 2) (by subst hS; simp [alook]) (by simp)]; rfl
              have h25 : st.val (.tmp 25) = .d (.int .i64 n.par) := by simp only [St.val]; rw [hk 25 (by simp [tmpsOf, Op.operands]) (.d (int n.par)) (by subst hS; simp [alook]) (by simp)]; rfl
              have hlk : st.look 2 = some (.raw (.mq (keysU L)) (cellsU L)) := by simp only [St.look]; rw [hown]; subst hS; simp [uMid, ubase, alook, a2]
              refine goes_lookup_mq hm rfl (by intro t ht; cases ht; rw [hn]; subst hS; simp [uMid]) h23 hlk h25 (kt := 3) (et := 31) (by kernel_rfl) ti_3 ti_31 rfl rfl rfl (by kernel_rfl) ?_
              rw [get_cells, hf]; rfl
            · refine pureOp_of (s := .bp nx 0) rfl rfl (by subst hS; simp [uMid]) (by subst hS; simp [Sym.lo, uMid] <;> omega) ⟨by rfl, ?_⟩ (by subst hS; simp [alook]) (.inl ⟨5, by rfl⟩)
              subst hS; simp (decide := true) [uMid, ubase, alook, St.val, St.look, int, a0, a2, a3, b0, b2, b3, bn, c0, c2, c3, cn]
            · refine pureOp_of (s := .d (int n.id)) rfl rfl (by subst hS; simp [uMid]) (by subst hS; simp [Sym.lo, uMid] <;> omega) ⟨by rfl, ?_⟩ (by subst hS; simp [alook]) (.inl ⟨5, by rfl⟩)
              subst hS; simp (decide := true) [uMid, ubase, alook, St.val, St.look, int, a0, a2, a3, b0, b2, b3, bn, c0, c2, c3, cn]
            · refine pureOp_of (s := .d (.sl [[int n.id]])) rfl rfl (by subst hS; simp [uMid]) (by subst hS; simp [Sym.lo, uMid] <;> omega) ⟨by rfl, ?_⟩ (by subst hS; simp [alook]) (.inl ⟨5, by rfl⟩)
              subst hS; simp (decide := true) [uMid, ubase, alook, St.val, St.look, int, a0, a2, a3, b0, b2, b3, bn, c0, c2, c3, cn]
          · intro X w0 L' st hN hk β a w hm
            have h26 : alook st.slots 26 = some (.ar g.1) := hk 26 (by simp [tmpsOf, Op.operands, Call.operands]) (.ar g.1) (by subst hS; simp [alook]) (by simp)
            have h29 : alook st.slots 29 = some (.d (.sl [[int n.id]])) := hk 29 (by simp [tmpsOf, Op.operands, Call.operands]) (.d (.sl [[int n.id]])) (by subst hS; simp [alook]) (by simp)
            have hlk : alook st.own g.1 = some (.arr 3 1 (g.2.map fun n => [int n])) := by
              rw [hN.own]; subst hS
              simp only [uMid, ubase, List.cons_append, List.nil_append, alook, if_neg bn, if_neg b0, if_neg b2, if_neg b3]
              exact find_arrs hf hnd
            have hgl : g.2.length ≤ k := by
              rw [← kids_find hf, hx.kids n.par]
              unfold kidsI
              rw [List.length_map]
              exact Nat.le_trans (List.length_filter_le _ _) (by rw [List.length_take]; exact Nat.min_le_left _ _)
            have hnn : st.n = 46 := by rw [hN.n]; subst hS; rfl
            refine dop_sound hm ?_
            simp (decide := true) [dop, hnn, h26, h29, hlk, int, maxLen]
            exact ⟨by omega, by omega⟩
          · refine regI_last rfl rfl rfl ?_
            intro X w0 β a w hm
            refine goes_update_mq hm rfl rfl (id := 2) (keys := keysU L) (cells := purges g.1 (cellsU L)) (n := n.par) ?_ ?_ ?_ (kt := 3) (et := 31) (by kernel_rfl) ti_3 rfl ?_
            · subst hS; simp [St.val, St.put, St.renew, purgeSlots, purge, alook, b2]
            · subst hS; simp only [St.look, St.put, St.renew]; rw [alook_renew]; simp [uMid, ubase, alook, a2, b2, purgeObj]
            · subst hS; simp [St.val, St.put, St.renew, purgeSlots, purge, alook, int]
            · have hv : ((S.renew g.1 (.arr 3 1 ((g.2 ++ [n.id]).map fun n => [int n]))).put (some 30) (.ar g.1)).val (.tmp 30) = .ar g.1 := by simp [St.val, St.put, alook]
              rw [hv, put_hit (x := n.id) (nx := nx) hf hnd]
              have hh := keys_hit (x := n.id) (nx := nx) hf
              have hU : UInv d (k + 1, addU L n.par n.id nx, nx + 1) := by
                refine ⟨hlt, by simp only; omega, fun i hi => ?_, by simp only; rw [hh.2]; exact hnd, fun p => ?_⟩
                · simp only at hi ⊢
                  rw [hh.2] at hi
                  have := hids i hi
                  omega
                · simp only
                  rw [kids_add, hx.kids p, List.take_succ_eq_append_getElem hlt, en]
                  unfold kidsI
                  rw [List.filter_append, List.map_append]
                  by_cases e : n.par = p
                  · simp [e]
                  · simp [e]
              refine ⟨(addU L n.par n.id nx, nx + 1), hU, ?_⟩
              refine weak_uSt (x := (k, addU L n.par n.id nx, nx + 1)) hU (by subst hS; rfl) (by subst hS; rfl) ?_ ?_ ?_
              · subst hS
                simp only [hh.2, St.put, St.renew, uMid, List.mem_cons]
                rintro i (rfl | hi)
                · exact hgi
                · exact hi
              · subst hS
                intro t s hm
                simp only [uSt, List.mem_cons, List.not_mem_nil, or_false, Prod.mk.injEq] at hm
                rcases hm with ⟨rfl, rfl⟩ | ⟨rfl, rfl⟩ | ⟨rfl, rfl⟩ | ⟨rfl, rfl⟩ | ⟨rfl, rfl⟩ | ⟨rfl, rfl⟩ <;> simp [St.put, St.renew, alook, uMid, purgeSlots, purge, b0, b2, b3]
              · subst hS
                exact own_hit hh.1 hh.2 (arrs_hit hf hnd) hids hgi h4
        | none =>
          have a1 : ¬ nx = 1 := by omega
          have b1 : ¬ 1 = nx := by omega
          have b2 : ¬ 2 = nx := by omega
          have b3 : ¬ 3 = nx := by omega
          have hout : nx + 1 ∉ idsU L := fun hm => by have := (hids _ hm).2; omega
          obtain ⟨S, hS⟩ : ∃ S : St, S = { uMid d id k L nx n with slots := (20, .mp 2) :: (21, .bp nx 2) :: (22, .d (int n.par)) :: (23, .mp 2) :: (24, .bp nx 2) :: (25, .d (int n.par)) :: (26, .nils) :: (27, .bp nx 0) :: (28, .d (int n.id)) :: (29, .d (.sl [[int n.id]])) :: (uMid d id k L nx n).slots } := ⟨_, rfl⟩
          have hSn : S.next = nx + 1 := by subst hS; rfl
          refine draw_stage mixed 11 10 S (((S.new (.arr 3 1 [])).renew S.next (.arr 3 1 [[int n.id]])).put (some 30) (.ar S.next)) 30 (.ar S.next) (purge S.next) (fun st => ((st.new (.arr 3 1 [])).renew st.next (.arr 3 1 [[int n.id]])).put (some 30) (.ar st.next)) _ (by rfl) (by rfl) (by rfl) (by rfl) (by rfl) rfl rfl rfl ?_ (turn_new S 30 _ _) ?_ ?_ ?_
          · intro X w0 β a w hm
            subst hS
            refine ⟨rfl, rfl, rfl, rfl, rfl, fun t s hs hj hL => ?_⟩
            simp only [alook] at hs
            split at hs
            · rename_i e; exact (hL 0 _ (by omega) rfl (congrArg some e)).elim
            split at hs
            · rename_i e; exact (hL 1 _ (by omega) rfl (congrArg some e)).elim
            split at hs
            · rename_i e; exact (hL 2 _ (by omega) rfl (congrArg some e)).elim
            split at hs
            · rename_i e; exact (hL 3 _ (by omega) rfl (congrArg some e)).elim
            split at hs
            · rename_i e; exact (hL 4 _ (by omega) rfl (congrArg some e)).elim
            split at hs
            · rename_i e; exact (hL 5 _ (by omega) rfl (congrArg some e)).elim
            split at hs
            · rename_i e; exact (hL 6 _ (by omega) rfl (congrArg some e)).elim
            split at hs
            · rename_i e; exact (hL 7 _ (by omega) rfl (congrArg some e)).elim
            split at hs
            · rename_i e; exact (hL 8 _ (by omega) rfl (congrArg some e)).elim
            split at hs
            · rename_i e; exact (hL 9 _ (by omega) rfl (congrArg some e)).elim
            exact hs
          · intro i o hi hne ho
            have : i = 0 ∨ i = 1 ∨ i = 2 ∨ i = 3 ∨ i = 4 ∨ i = 5 ∨ i = 6 ∨ i = 7 ∨ i = 8 ∨ i = 9 := by omega
            rcases this with rfl | rfl | rfl | rfl | rfl | rfl | rfl | rfl | rfl | rfl <;> simp only [List.getElem?_cons_zero, List.getElem?_cons_succ, Option.some.injEq] at ho <;> subst ho
            · refine pureOp_of (s := .mp 2) rfl rfl (by subst hS; simp [uMid]) (by subst hS; simp [Sym.lo, uMid] <;> omega) ⟨by rfl, ?_⟩ (by subst hS; simp [alook]) (.inr ⟨by subst hS; simp [St.put, St.renew, St.new, uMid], by subst hS; simp [St.put, St.renew, St.new, Sym.lo, uMid] <;> omega, ⟨by rfl, ?_⟩, by subst hS; simp [alook, St.put, St.renew, St.new, purgeSlots, purge, uMid, a0, a1, a2, a3, b1, b2, b3]⟩)
              · subst hS; simp (decide := true) [uMid, ubase, alook, St.val, St.look, int, a0, a1, a2, a3, b1, b2, b3]
              · subst hS; simp (decide := true) [uMid, ubase, alook, St.val, St.look, St.put, St.renew, St.new, renewOwn, purgeObj, purges, purge, purgeSlots, int, a0, a1, a2, a3, b1, b2, b3]
            · refine pureOp_of (s := .bp nx 2) rfl rfl (by subst hS; simp [uMid]) (by subst hS; simp [Sym.lo, uMid] <;> omega) ⟨by rfl, ?_⟩ (by subst hS; simp [alook]) (.inr ⟨by subst hS; simp [St.put, St.renew, St.new, uMid], by subst hS; simp [St.put, St.renew, St.new, Sym.lo, uMid] <;> omega, ⟨by rfl, ?_⟩, by subst hS; simp [alook, St.put, St.renew, St.new, purgeSlots, purge, uMid, a0, a1, a2, a3, b1, b2, b3]⟩)
              · subst hS; simp (decide := true) [uMid, ubase, alook, St.val, St.look, int, a0, a1, a2, a3, b1, b2, b3]
              · subst hS; simp (decide := true) [uMid, ubase, alook, St.val, St.look, St.put, St.renew, St.new, renewOwn, purgeObj, purges, purge, purgeSlots, int, a0, a1, a2, a3, b1, b2, b3]
            · refine pureOp_of (s := .d (int n.par)) rfl rfl (by subst hS; simp [uMid]) (by subst hS; simp [Sym.lo, uMid] <;> omega) ⟨by rfl, ?_⟩ (by subst hS; simp [alook]) (.inr ⟨by subst hS; simp [St.put, St.renew, St.new, uMid], by subst hS; simp [St.put, St.renew, St.new, Sym.lo, uMid] <;> omega, ⟨by rfl, ?_⟩, by subst hS; simp [alook, St.put, St.renew, St.new, purgeSlots, purge, uMid, a0, a1, a2, a3, b1, b2, b3]⟩)
              · subst hS; simp (decide := true) [uMid, ubase, alook, St.val, St.look, int, a0, a1, a2, a3, b1, b2, b3]
              · subst hS; simp (decide := true) [uMid, ubase, alook, St.val, St.look, St.put, St.renew, St.new, renewOwn, purgeObj, purges, purge, purgeSlots, int, a0, a1, a2, a3, b1, b2, b3]
            · refine pureOp_of (s := .mp 2) rfl rfl (by subst hS; simp [uMid]) (by subst hS; simp [Sym.lo, uMid] <;> omega) ⟨by rfl, ?_⟩ (by subst hS; simp [alook]) (.inl ⟨5, by rfl⟩)
              subst hS; simp (decide := true) [uMid, ubase, alook, St.val, St.look, int, a0, a1, a2, a3, b1, b2, b3]
            · refine pureOp_of (s := .bp nx 2) rfl rfl (by subst hS; simp [uMid]) (by subst hS; simp [Sym.lo, uMid] <;> omega) ⟨by rfl, ?_⟩ (by subst hS; simp [alook]) (.inl ⟨5, by rfl⟩)
              subst hS; simp (decide := true) [uMid, ubase, alook, St.val, St.look, int, a0, a1, a2, a3, b1, b2, b3]
            · refine pureOp_of (s := .d (int n.par)) rfl rfl (by subst hS; simp [uMid]) (by subst hS; simp [Sym.lo, uMid] <;> omega) ⟨by rfl, ?_⟩ (by subst hS; simp [alook]) (.inl ⟨5, by rfl⟩)
              subst hS; simp (decide := true) [uMid, ubase, alook, St.val, St.look, int, a0, a1, a2, a3, b1, b2, b3]
            · refine ⟨rfl, 26, .nils, rfl, .inl ⟨5, by rfl⟩, ?_, by subst hS; intro s' h1 _; simp [alook] at h1; exact h1.symm⟩
              intro X w0 st β a w hn hxx hown hk hm
              have h23 : st.val (.tmp 23) = .mp 2 := by simp only [St.val]; rw [hk 23 (by simp [tmpsOf, Op.operands]) (.mp 2) (by subst hS; simp [alook]) (by simp)]; rfl
              have h25 : st.val (.tmp 25) = .d (.int .i64 n.par) := by simp only [St.val]; rw [hk 25 (by simp [tmpsOf, Op.operands]) (.d (int n.par)) (by subst hS; simp [alook]) (by simp)]; rfl
              have hlk : st.look 2 = some (.raw (.mq (keysU L)) (cellsU L)) := by simp only [St.look]; rw [hown]; subst hS; simp [uMid, ubase, alook, a2]
              refine goes_lookup_mq hm rfl (by intro t ht; cases ht; rw [hn]; subst hS; simp [uMid]) h23 hlk h25 (kt := 3) (et := 31) (by kernel_rfl) ti_3 ti_31 rfl rfl rfl (by kernel_rfl) ?_
              rw [get_cells, hf]; rfl
            · refine pureOp_of (s := .bp nx 0) rfl rfl (by subst hS; simp [uMid]) (by subst hS; simp [Sym.lo, uMid] <;> omega) ⟨by rfl, ?_⟩ (by subst hS; simp [alook]) (.inl ⟨5, by rfl⟩)
              subst hS; simp (decide := true) [uMid, ubase, alook, St.val, St.look, int, a0, a1, a2, a3, b1, b2, b3]
            · refine pureOp_of (s := .d (int n.id)) rfl rfl (by subst hS; simp [uMid]) (by subst hS; simp [Sym.lo, uMid] <;> omega) ⟨by rfl, ?_⟩ (by subst hS; simp [alook]) (.inl ⟨5, by rfl⟩)
              subst hS; simp (decide := true) [uMid, ubase, alook, St.val, St.look, int, a0, a1, a2, a3, b1, b2, b3]
            · refine pureOp_of (s := .d (.sl [[int n.id]])) rfl rfl (by subst hS; simp [uMid]) (by subst hS; simp [Sym.lo, uMid] <;> omega) ⟨by rfl, ?_⟩ (by subst hS; simp [alook]) (.inl ⟨5, by rfl⟩)
              subst hS; simp (decide := true) [uMid, ubase, alook, St.val, St.look, int, a0, a1, a2, a3, b1, b2, b3]
          · intro X w0 L' st hN hk β a w hm
            have h26 : alook st.slots 26 = some .nils := hk 26 (by simp [tmpsOf, Op.operands, Call.operands]) .nils (by subst hS; simp [alook]) (by simp)
            have h29 : alook st.slots 29 = some (.d (.sl [[int n.id]])) := hk 29 (by simp [tmpsOf, Op.operands, Call.operands]) (.d (.sl [[int n.id]])) (by subst hS; simp [alook]) (by simp)
            have hnn : st.n = 46 := by rw [hN.n]; subst hS; rfl
            refine dop_sound hm ?_
            simp (decide := true) [dop, hnn, h26, h29, int, maxLen]
          · refine regI_last rfl rfl rfl ?_
            intro X w0 β a w hm
            refine goes_update_mq hm rfl rfl (id := 2) (keys := keysU L) (cells := purges (nx + 1) (cellsU L)) (n := n.par) ?_ ?_ ?_ (kt := 3) (et := 31) (by kernel_rfl) ti_3 rfl ?_
            · subst hS; simp [St.val, St.put, St.renew, St.new, purgeSlots, purge, alook, uMid, a1, b1]
            · subst hS; simp only [St.look, St.put, St.renew, St.new]; rw [alook_renew]; simp [uMid, ubase, alook, a1, a2, b1, b2, purgeObj]
            · subst hS; simp [St.val, St.put, St.renew, St.new, purgeSlots, purge, alook, int]
            · have hv : (((S.new (.arr 3 1 [])).renew S.next (.arr 3 1 [[int n.id]])).put (some 30) (.ar S.next)).val (.tmp 30) = .ar (nx + 1) := by simp [St.val, St.put, alook, hSn]
              rw [hv, purges_cells hout, put_miss hf]
              have hadd := add_miss (x := n.id) (nx := nx + 1) hf
              have hidU : idsU (addU L n.par n.id (nx + 1)) = idsU L ++ [nx + 1] := by rw [hadd]; simp [idsU]
              have hU : UInv d (k + 1, addU L n.par n.id (nx + 1), nx + 2) := by
                refine ⟨hlt, by simp only; omega, fun i hi => ?_, ?_, fun p => ?_⟩
                · simp only at hi ⊢
                  rw [hidU, List.mem_append, List.mem_singleton] at hi
                  rcases hi with hi | rfl
                  · have := hids i hi; omega
                  · omega
                · simp only
                  rw [hidU, List.nodup_append]
                  refine ⟨hnd, by simp, fun a ha b hb e => ?_⟩
                  rw [List.mem_singleton] at hb
                  subst hb; subst e
                  exact hout ha
                · simp only
                  rw [kids_add, hx.kids p, List.take_succ_eq_append_getElem hlt, en]
                  unfold kidsI
                  rw [List.filter_append, List.map_append]
                  by_cases e : n.par = p
                  · simp [e]
                  · simp [e]
              refine ⟨(addU L n.par n.id (nx + 1), nx + 2), hU, ?_⟩
              refine weak_uSt (x := (k, addU L n.par n.id (nx + 1), nx + 2)) hU (by subst hS; rfl) (by subst hS; rfl) ?_ ?_ ?_
              · subst hS
                simp only [hidU, St.put, St.renew, St.new, uMid, List.mem_cons, List.mem_append, List.not_mem_nil, or_false]
                rintro i (rfl | hi)
                · exact .inr rfl
                · exact .inl hi
              · subst hS
                intro t s hm
                simp only [uSt, List.mem_cons, List.not_mem_nil, or_false, Prod.mk.injEq] at hm
                rcases hm with ⟨rfl, rfl⟩ | ⟨rfl, rfl⟩ | ⟨rfl, rfl⟩ | ⟨rfl, rfl⟩ | ⟨rfl, rfl⟩ | ⟨rfl, rfl⟩ <;> simp [St.put, St.renew, St.new, alook, uMid, purgeSlots, purge, a1, a2, b1, b2, b3]
              · subst hS
                exact own_miss hf hids h4
    · intro y hy
      refine ev_sound mixed ?_
      simp (decide := true) [uSt, int, I64, -Weak]
      refine ⟨⟨by omega, by omega⟩, x.1 + 1, y.1, y.2, hy, by omega, ?_⟩
      refine weak_uSt (x := (x.1 + 1, y)) hy rfl rfl (fun _ h => h) ?_ (fun _ _ h => h)
      intro t s hm
      simp only [uSt, List.mem_cons, List.not_mem_nil, or_false, Prod.mk.injEq] at hm
      rcases hm with ⟨rfl, rfl⟩ | ⟨rfl, rfl⟩ | ⟨rfl, rfl⟩ | ⟨rfl, rfl⟩ | ⟨rfl, rfl⟩ | ⟨rfl, rfl⟩ <;> simp [alook, int]
  · intro x hx
    refine triple_uEnd (m := x.1) hx.1 ?_
    have hC := hcol x.2.1 (fun p => by rw [hx.1.kids p, hx.2, List.take_length])
    generalize x.2.1 = L at hC
    refine cut_ev mixed 4 { n := 46, next := 7, slots := [(1, .d (int id)), (10, .bp 5 0), (11, .bp 6 0)], own := [(3, .box 182 [.d (.mp (rowsU L))]), (5, .box 31 [.nils]), (6, .box 183 [.fn 115 [.bp 3 0, .bp 5 0, .bp 6 0]])], moved := idsU L } rfl ?_ ?_
    · simp (decide := true) [headC, uEnd, int, -Weak]
      refine ECall.pure (by rfl) hG (by simp [docD, Dc.row]) ?_
      simp (decide := true) [getD', Nt.row, int]
    simp only [tailC]
    refine triple_nilbox (id := 5) (e := 3) (sz := 1) rfl ?_
    refine ev_sound mixed ?_
    have hC0 := hC [] (by rw [List.nil_append]; omega)
    rw [List.nil_append] at hC0
    generalize colN d.notes f id = R at *
    simp (decide := true) [int]
    refine ECall.mut [3, 5, 6, 7] [.d (int id), .bp 0 0, .bp 1 0, .bp 2 0] (colOwn L []) (by rfl) (by simp [int]) (by simp [Sym.los, Sym.lo]) (by simp [colOwn, int]; rfl) hC0 ?_
    simp (decide := true) [int, colOwn]
    refine ECall.pureN (by rfl) hS ?_
    simp (decide := true) [int]
end Go.V.Doc
namespace Go.V
open Go Go.Proofs
theorem take_snoc {α : Type} {l : List α} {k : Nat} (h : k < l.length) : l.take (k + 1) = l.take k ++ [l[k]] := by
  rw [List.take_add_one, List.getElem?_eq_getElem h]; rfl
end Go.V
namespace Go.V
open Go Go.Proofs
theorem isNaN_ok (n : Int) : PureR Tryz.prog 123 [int n] (.bool false) := by
  refine pure_of_body mixed Tryz.func123 rfl call_123 ?_
  simp [Tryz.f123, int]
def cmpI (a b : Int) : Int := if a < b then -1 else if b < a then 1 else 0
theorem compare_ok (a b : Int) : PureR Tryz.prog 67 [int a, int b] (int (cmpI a b)) := by
  refine pure_of_body mixed Tryz.func67 rfl call_67 ?_
  simp [Tryz.f67, int]
  refine ECall.pure (by rfl) (isNaN_ok a) (by simp) ?_
  simp
  refine ECall.pure (by rfl) (isNaN_ok b) (by simp) ?_
  simp [cmpI]
  refine ⟨fun h h' => by omega, fun h => by omega⟩
theorem take_all {α : Type} {p : α → Prop} {l : List α} {k : Nat} (h : k < l.length) (hp : ∀ e ∈ l.take k, p e) (he : p l[k]) : ∀ e ∈ l.take (k + 1), p e := by
  rw [take_snoc h]
  intro e hm
  rcases List.mem_append.1 hm with hm | hm
  · exact hp e hm
  · simp at hm; rw [hm]; exact he
end Go.V

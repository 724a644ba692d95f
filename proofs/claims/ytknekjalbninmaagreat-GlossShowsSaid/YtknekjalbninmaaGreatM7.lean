/- Contracts and plain laws of this seat: part M7. It needs no conditions. -/
import Derived.Test.YtknekjalbninmaaGreatM4
import Derived.Test.YtknekjalbninmaaGreatM6
import Derived.Test.YtknekjalbninmaaGreatM3
import Derived.Test.YtknekjalbninmaaGreatB1
set_option linter.unusedVariables false
set_option linter.unusedSimpArgs false
set_option linter.unusedSectionVars false
set_option maxRecDepth 100000
namespace Go.V.Doc
open Go Go.Proofs Go.Sort Go.RowKit
theorem isort_spec (l : List Nt) : PermIn 0 l.length l.toArray (isort l).toArray ∧ SortedIn ltN 0 l.length (isort l).toArray := by
  have := insertionSort_holds swoN l.toArray 0 l.length (Nat.zero_le _) (by simp)
  rw [isort_eq] at this
  exact this
theorem isort_length (l : List Nt) : (isort l).length = l.length := by
  have := (isort_spec l).1.1
  simpa using this
theorem isort_perm (l : List Nt) : (isort l).Perm l := by
  obtain ⟨h1, _, h3⟩ := (isort_spec l).1
  have hl := isort_length l
  have e1 : (isort l).toArray.extract 0 l.length = (isort l).toArray := by rw [show l.length = (isort l).toArray.size by simp [hl]]; simp
  have e2 : l.toArray.extract 0 l.length = l.toArray := by rw [show l.length = l.toArray.size by simp]; simp
  rw [e1, e2] at h3
  simpa using h3
theorem isort_sorted (l : List Nt) : (isort l).Pairwise fun a b => ltN b a = false := by
  have hs := (isort_spec l).2
  have hl := isort_length l
  rw [List.pairwise_iff_getElem]
  intro i j hi hj hij
  have := hs i j (Nat.zero_le _) hij (by omega)
  simpa [getElem!_pos, hi, hj] using this
theorem ins_all (l : List Nt) (hl : l.length < 2^62) :
    CallC Tryz.prog 172 [.ar 0, .d (int 0), .d (int l.length), .fn 113 []] [(0, .arr 72 7 (l.map Nt.row))] 1 (.d (.tup [])) 1 [(0, .arr 72 7 ((isort l).map Nt.row))] [] := by
  cases l with
  | nil =>
    have : isort [] = [] := List.eq_nil_of_length_eq_zero (isort_length [])
    rw [this]
    exact (CallC.unit insE_ok)
  | cons a r => exact ins_ok 72 (a :: r) (by simp) (by omega) (isort_length _)
theorem stableC_ok (l : List Nt) (hl : l.length < 20) :
    CallC Tryz.prog 165 [.ar 0, .d (int l.length), .fn 113 []] [(0, .arr 72 7 (l.map Nt.row))] 1 (.d (.tup [])) 1 [(0, .arr 72 7 ((isort l).map Nt.row))] [] := by
  refine CallC.unit (callC_of_body mixed Tryz.func165 rfl call_165 (by simp [Sym.los, Sym.lo]) ?_)
  have h20 : ¬ (20 : Int) ≤ l.length := by omega
  have h20' : ¬ (20 : Int) < l.length := by omega
  simp (decide := true) [Tryz.f165, int]
  refine loop_rule mixed (fun _ : Unit => { n := 63, next := 1, slots := [(0, .ar 0), (1, .d (int l.length)), (2, .fn 113 []), (6, .d (int 20)), (7, .d (int 0)), (8, .d (int 20))], own := [(0, .arr 72 7 (l.map Nt.row))], base := 1 })
    (fun _ => True) (fun _ => 0) () trivial (by simp (decide := true) [int]) ?_
  intro _ _
  simp (decide := true) [int, h20]
  refine ECall.mut [0] [.ar 0, .d (int 0), .d (int l.length), .fn 113 []] [(0, .arr 72 7 (l.map Nt.row))] (by rfl) (by simp [int]) (by simp) (by simp) (ins_all l (by omega)) ?_
  simp (decide := true) [int]
  refine loop_rule mixed (fun _ : Unit => { n := 63, next := 1, slots := [(1, .d (int l.length)), (6, .d (int 20))], own := [(0, .arr 72 7 ((isort l).map Nt.row))], base := 1 })
    (fun _ => True) (fun _ => 0) () trivial (by simp (decide := true) [int]) ?_
  intro _ _
  simp (decide := true) [int, h20']
theorem stable_ok (l : List Nt) (hl : l.length < 20) :
    CallC Tryz.prog 112 [.ar 0, .fn 113 []] [(0, .arr 72 7 (l.map Nt.row))] 1 (.d (.tup [])) 1 [(0, .arr 72 7 ((isort l).map Nt.row))] [] := by
  refine CallC.unit (callC_of_body mixed Tryz.func112 rfl call_112 (by simp [Sym.los, Sym.lo]) ?_)
  simp (decide := true) [Tryz.f112, int]
  refine ECall.mut [0] [.ar 0, .d (int l.length), .fn 113 []] [(0, .arr 72 7 (l.map Nt.row))] (by rfl) (by simp [int]) (by simp) (by simp) (stableC_ok l hl) ?_
  simp (decide := true) [int]
def kidB (d : Dc) (id t : Int) (n : Nt) : Bool := decide (n.tier = t) && decide (n.par = id) && decide (0 ≤ t) && decide (t < d.tiers.length)
def kidsN (d : Dc) (id t : Int) : List Nt := isort (d.notes.filter (kidB d id t))
def idsOf (l : List Nt) : List Int := l.map (·.id)
set_option maxHeartbeats 2000000 in
theorem kidsF_ok (d : Dc) (id t : Int) (hl : d.notes.length < 20) :
    PureF Tryz.prog 53 [docD d, int id, int t] 3 1 ((idsOf (kidsN d id t)).map fun n => [int n]) := by
  refine fresh_of_body mixed Tryz.func53 rfl call_53 (by simp) ?_
  simp (decide := true) [Tryz.f53, docD, Dc.row, int, ints, tiersD, notesD]
  refine loop_rule mixed (fun k : Nat => { n := 61, next := 3, slots := [(1, .d (int id)), (2, .d (int t)), (3, .bp 0 0), (7, .ar 2), (14, .d (notesD d.notes)), (15, .d (.int .i64 d.notes.length)), (16, .d (.int .i64 k))], own := [(0, .box 53 (docCells d)), (2, .arr 72 7 (((d.notes.take k).filter (kidB d id t)).map Nt.row))], moved := [2] })
    (fun k => k ≤ d.notes.length) (fun k => d.notes.length - k) 0 (by simp) (by simp (decide := true) [int, ints, tiersD, notesD]) ?_
  intro k hk
  by_cases hlt : k < d.notes.length
  · have hlt' : (k : Int) < d.notes.length := by omega
    have e1 : d.notes[k]? = some d.notes[k] := List.getElem?_eq_getElem hlt
    have hsn : (d.notes.take (k + 1)).filter (kidB d id t) = (d.notes.take k).filter (kidB d id t) ++ (if kidB d id t d.notes[k] = true then [d.notes[k]] else []) := by
      rw [take_snoc' hlt, List.filter_append]; by_cases h : kidB d id t d.notes[k] = true <;> simp [h]
    have hlen : ((d.notes.take k).filter (kidB d id t)).length ≤ k := Nat.le_trans (List.length_filter_le _ _) (by rw [List.length_take]; omega)
    have no : kidB d id t d.notes[k] = false → (d.notes.take (k + 1)).filter (kidB d id t) = (d.notes.take k).filter (kidB d id t) := by
      intro h; rw [hsn, if_neg (by simp [h]), List.append_nil]
    by_cases h1 : d.notes[k].tier = t
    case neg =>
      have := no (by simp [kidB, h1])
      simp (decide := true) [notesD, Nt.row, int, hlt, hlt', e1, I64, h1]
      exact ⟨⟨by omega, by omega⟩, k + 1, hlt, by omega, by omega, by rw [this]⟩
    by_cases h2 : d.notes[k].par = id
    case neg =>
      have := no (by simp [kidB, h2])
      simp (decide := true) [notesD, Nt.row, int, hlt, hlt', e1, I64, h1, h2]
      exact ⟨⟨by omega, by omega⟩, k + 1, hlt, by omega, by omega, by rw [this]⟩
    by_cases h3 : 0 ≤ t
    case neg =>
      have := no (by simp [kidB, h3])
      simp (decide := true) [notesD, Nt.row, int, hlt, hlt', e1, I64, h1, h2, h3]
      exact ⟨⟨by omega, by omega⟩, k + 1, hlt, by omega, by omega, by rw [this]⟩
    by_cases h4 : t < d.tiers.length
    case neg =>
      have := no (by simp [kidB, h4])
      simp (decide := true) [notesD, tiersD, Nt.row, int, hlt, hlt', e1, I64, h1, h2, h3, h4]
      exact ⟨⟨by omega, by omega⟩, k + 1, hlt, by omega, by omega, by rw [this]⟩
    have hy : kidB d id t d.notes[k] = true := by simp [kidB, h1, h2, h3, h4]
    rw [if_pos hy] at hsn
    simp (decide := true) [notesD, tiersD, Nt.row, int, hlt, hlt', e1, I64, h1, h2, h3, h4]
    exact ⟨by omega, by unfold maxLen; omega, ⟨by omega, by omega⟩, k + 1, hlt, by omega, by omega, by rw [hsn]; simp [Nt.row, int, h1, h2]⟩
  · have : k = d.notes.length := by omega
    subst this
    rw [List.take_length]
    have hol : (d.notes.filter (kidB d id t)).length ≤ d.notes.length := List.length_filter_le _ _
    simp (decide := true) [int]
    refine ECall.mut [2] [.ar 0, .fn 113 []] [(0, .arr 72 7 ((d.notes.filter (kidB d id t)).map Nt.row))] (by rfl) (by simp [int]) (by simp) (by simp) (stable_ok _ (by omega)) ?_
    have hsl := isort_length (d.notes.filter (kidB d id t))
    unfold kidsN
    rw [← hsl] at hol
    generalize isort (d.notes.filter (kidB d id t)) = s at hol ⊢
    simp (decide := true) [int]
    refine loop_rule mixed (fun k : Nat => { n := 61, next := 4, slots := [(10, .ar 3), (48, .ar 2), (49, .d (.int .i64 s.length)), (50, .d (.int .i64 k))], own := [(2, .arr 72 7 (s.map Nt.row)), (3, .arr 3 1 ((idsOf (s.take k)).map fun n => [int n]))], moved := [3, 2] })
      (fun k => k ≤ s.length) (fun k => s.length - k) 0 (by simp) (by simp (decide := true) [int, idsOf]) ?_
    intro k hk
    by_cases hlt : k < s.length
    · have hlt' : (k : Int) < s.length := by omega
      have e1 : s[k]? = some s[k] := List.getElem?_eq_getElem hlt
      have hsn : idsOf (s.take (k + 1)) = idsOf (s.take k) ++ [s[k].id] := by unfold idsOf; rw [take_snoc' hlt, List.map_append]; rfl
      have hlen : (idsOf (s.take k)).length ≤ k := by unfold idsOf; rw [List.length_map, List.length_take]; omega
      simp (decide := true) [Nt.row, int, hlt, hlt', e1, I64]
      exact ⟨by omega, by unfold maxLen; omega, ⟨by omega, by omega⟩, k + 1, hlt, by omega, by omega, by rw [hsn]; simp [int]⟩
    · have : k = s.length := by omega
      subst this
      rw [List.take_length]
      simp (decide := true) [int, ints]
theorem ints_scalars : ∀ l : List Int, D.scalars ((l.map fun n => [int n]).flatten) = true
  | [] => rfl
  | n :: r => by simp only [List.map_cons, List.flatten_cons, List.cons_append, List.nil_append, D.scalars, ints_scalars r]; rfl
theorem kidsN_ok (d : Dc) (id t : Int) (hl : d.notes.length < 20) : PureN Tryz.prog 53 [docD d, int id, int t] (ints (idsOf (kidsN d id t))) :=
  pureN_of_fresh (kidsF_ok d id t hl) (ints_scalars _)
theorem kids_ok (d : Dc) (id t : Int) (hl : d.notes.length < 20) : PureR Tryz.prog 53 [docD d, int id, int t] (ints (idsOf (kidsN d id t))) := (kidsN_ok d id t hl).toR
end Go.V.Doc
namespace Go.V.Doc
open Go Go.Proofs
section
variable {d : Dc}
theorem tirAt_nat (d : Dc) {t : Nat} (h : t < d.tiers.length) : tirAt d (t : Int) = d.tiers[t] := by unfold tirAt; rw [Int.toNat_natCast, List.getElem?_eq_getElem h]; rfl
theorem Rgt.kinds (h : Rgt d) {t : Nat} (ht : t < d.tiers.length) : 0 ≤ (tirAt d t).kind ∧ (tirAt d t).kind ≤ 4 := by
  have h1 := h.good.tiers t ht
  rw [tirAt_nat d ht]
  unfold oneE at h1
  split at h1
  · cases h1
  · split at h1
    · cases h1
    · split at h1
      · cases h1
      · omega
theorem Rgt.up (h : Rgt d) {t : Nat} (ht : t < d.tiers.length) (hk : (tirAt d t).kind ≠ 0) : 0 ≤ (tirAt d t).par ∧ (tirAt d t).par.toNat < t := by
  rw [tirAt_nat d ht] at hk ⊢
  have := oneE_parent (h.good.tiers t ht) hk
  rw [List.length_take] at this
  omega
def inT (d : Dc) (t : Nat) (n : Nt) : Prop := n ∈ d.notes ∧ n.tier = t
theorem inT_iff {t : Nat} {n : Nt} : n ∈ ofT d.notes t ↔ inT d t n := by
  unfold ofT inT
  rw [List.mem_filter, decide_eq_true_eq]
def upN (d : Dc) (n : Nt) : Nt := (getN d.notes n.par).1
theorem Rgt.parent (h : Rgt d) {t : Nat} {n : Nt} (hn : inT d t n) (ht : t < d.tiers.length) (hk : (tirAt d t).kind ≠ 0) : inT d (tirAt d t).par.toNat (upN d n) ∧ (upN d n).id = n.par := by
  have hp := (place_iff (note_of h.good hn.1).place).2.1
  rw [hn.2] at hp
  obtain ⟨h1, h2⟩ := hp hk
  have hm := getN_mem h1
  have hu := h.up ht hk
  exact ⟨⟨hm.1, by rw [upN, h2]; omega⟩, hm.2⟩
theorem Rgt.root (h : Rgt d) {t : Nat} {n : Nt} (hn : inT d t n) (hk : (tirAt d t).kind = 0) : n.par = 0 := by
  have hp := (place_iff (note_of h.good hn.1).place).1
  rw [hn.2] at hp
  exact hp hk
def befT (d : Dc) (t : Nat) (a b : Nt) : Bool :=
  if a.par ≠ b.par then (if h : (tirAt d t).par.toNat < t then befT d (tirAt d t).par.toNat (upN d a) (upN d b) else false)
  else if alK (tirAt d t).kind = true then decide (a.fr < b.fr) else decide (a.rank < b.rank)
termination_by t
def keyT (d : Dc) (t : Nat) (n : Nt) : Int := if alK (tirAt d t).kind = true then n.fr else n.rank
theorem bef_same {t : Nat} {a b : Nt} (h : a.par = b.par) : befT d t a b = decide (keyT d t a < keyT d t b) := by
  rw [befT, if_neg (by simp [h])]
  unfold keyT
  split <;> rfl
theorem bef_up {t : Nat} {a b : Nt} (h : a.par ≠ b.par) (hu : (tirAt d t).par.toNat < t) : befT d t a b = befT d (tirAt d t).par.toNat (upN d a) (upN d b) := by
  rw [befT, if_pos h, dif_pos hu]
theorem pos_lt {s : List Nt} {i j : Nat} (hij : i < j) (hj : j < s.length) (hp : (gN s i).par = (gN s j).par) : posN s i < posN s j := by
  have hi : i < s.length := by omega
  have h1 : (s.take (i + 1)).Sublist (s.take j) := by
    have : s.take (i + 1) = (s.take j).take (i + 1) := by rw [List.take_take]; congr 1; omega
    rw [this]; exact List.take_sublist _ _
  have h2 := (h1.filter fun n => decide (n.par = (gN s j).par)).length_le
  rw [take_snoc' hi, List.filter_append, List.length_append] at h2
  have : [s[i]].filter (fun n => decide (n.par = (gN s j).par)) = [s[i]] := by
    rw [List.filter_cons_of_pos (by rw [← gN_eq hi]; simpa using hp)]; rfl
  rw [this] at h2
  unfold posN
  rw [hp]
  simp only [List.length_singleton] at h2
  omega
theorem Rgt.keys (h : Rgt d) {t : Nat} (ht : t < d.tiers.length) {a b : Nt} (ha : inT d t a) (hb : inT d t b) (hp : a.par = b.par) (hk : keyT d t a = keyT d t b) : a = b := by
  apply Classical.byContradiction
  intro hne
  have hte := ter_iff.1 (h.ter t ht)
  have hov := hte.1 a (inT_iff.2 ha)
  have hbad := hte.2 a (inT_iff.2 ha)
  have hma : a ∈ sibs d.notes t a.par := by unfold sibs; rw [List.mem_filter]; exact ⟨ha.1, by simp [ha.2]⟩
  have hmb : b ∈ sibs d.notes t a.par := by unfold sibs; rw [List.mem_filter]; exact ⟨hb.1, by simp [hb.2, hp]⟩
  cases hal : alK (tirAt d t).kind with
  | true =>
    unfold ovR at hov
    rw [hal, Bool.true_and, over_pair] at hov
    have hra := right_of (note_of h.good ha.1) (by rw [ha.2]; exact hal)
    have hrb := right_of (note_of h.good hb.1) (by rw [hb.2]; exact hal)
    simp only [rightS, Bool.and_eq_true, decide_eq_true_eq] at hra hrb
    unfold keyT at hk
    rw [if_pos hal, if_pos hal] at hk
    generalize sibs d.notes t a.par = S at hov hma hmb
    obtain ⟨i, hi, rfl⟩ := List.mem_iff_getElem.1 hma
    obtain ⟨j, hj, rfl⟩ := List.mem_iff_getElem.1 hmb
    have hpw := List.pairwise_iff_getElem.1 hov
    rcases Nat.lt_trichotomy i j with h1 | rfl | h1
    · exact hpw i j hi hj h1 ⟨by omega, by omega⟩
    · exact hne rfl
    · exact hpw j i hj hi h1 ⟨by omega, by omega⟩
  | false =>
    unfold keyT at hk
    rw [hal] at hk
    simp only [Bool.false_eq_true, if_false] at hk
    have hkd := h.kinds ht
    have k0 : (tirAt d t).kind ≠ 0 := by intro e; rw [e] at hal; cases hal
    have k1 : (tirAt d t).kind ≠ 1 := by intro e; rw [e] at hal; cases hal
    have k2 : (tirAt d t).kind ≠ 2 := by intro e; rw [e] at hal; cases hal
    by_cases k3 : (tirAt d t).kind = 3
    · have hall : ∀ n ∈ ofT d.notes t, rankP (sibs d.notes t n.par) = true := by
        intro n hn
        have := hte.2 n hn
        rw [k3] at this
        simpa [badR] using this
      have hs := srt_of (ofT d.notes t)
      have hperm := sortN_perm (ofT d.notes t)
      have hl : (sortN (ofT d.notes t)).length < 2^40 := by
        rw [sortN_length]
        have : (ofT d.notes t).length ≤ d.notes.length := List.length_filter_le _ _
        have := h.few
        omega
      have hz : ∀ n ∈ sortN (ofT d.notes t), n.fr = 0 := by
        intro n hn
        have hn := inT_iff.1 (hperm.mem_iff.1 hn)
        exact (flat_of (note_of h.good hn.1) (by rw [hn.2]; exact hal)).1
      have hrk := (rk_pos hs hl).1 ((rank_all hperm hs hl hz).2 hall)
      obtain ⟨i, hi, ei⟩ := List.mem_iff_getElem.1 (hperm.mem_iff.2 (inT_iff.2 ha))
      obtain ⟨j, hj, ej⟩ := List.mem_iff_getElem.1 (hperm.mem_iff.2 (inT_iff.2 hb))
      rw [← gN_eq hi] at ei
      rw [← gN_eq hj] at ej
      have r1 := hrk i hi
      have r2 := hrk j hj
      rw [ei] at r1
      rw [ej] at r2
      rcases Nat.lt_trichotomy i j with h1 | rfl | h1
      · have := pos_lt h1 hj (by rw [ei, ej, hp]); omega
      · exact hne (ei.symm.trans ej)
      · have := pos_lt h1 hi (by rw [ei, ej, hp]); omega
    · have k4 : (tirAt d t).kind = 4 := by omega
      have hlen : ¬ 1 < (sibs d.notes t a.par).length := by
        rw [k4] at hbad
        simp [badR] at hbad
        omega
      generalize sibs d.notes t a.par = S at hlen hma hmb
      obtain ⟨i, hi, rfl⟩ := List.mem_iff_getElem.1 hma
      obtain ⟨j, hj, rfl⟩ := List.mem_iff_getElem.1 hmb
      have : i = j := by omega
      subst this
      exact hne rfl
structure Wgt (d : Dc) : Prop where
  good : ∀ j, (h : j < d.tiers.length) → oneE (d.tiers.take j) d.tiers[j] = 0
  few : d.notes.length ≤ 300
  nok : ∀ n ∈ d.notes, 0 ≤ n.tier ∧ n.tier < d.tiers.length
  inc : d.notes.Pairwise fun a b => a.id < b.id
  par : ∀ (t : Nat), t < d.tiers.length → (tirAt d t).kind ≠ 0 → ∀ n, inT d t n → inT d (tirAt d t).par.toNat (upN d n) ∧ (upN d n).id = n.par
  top : ∀ (t : Nat) n, inT d t n → (tirAt d t).kind = 0 → n.par = 0
  flat : ∀ (t : Nat) n, inT d t n → alK (tirAt d t).kind = false → n.fr = 0
  key : ∀ (t : Nat), t < d.tiers.length → ∀ a b, inT d t a → inT d t b → a.par = b.par → keyT d t a = keyT d t b → a = b
theorem Rgt.w (h : Rgt d) : Wgt d := ⟨h.good.tiers, h.few, fun n hn => ⟨(h.nok n hn).t0, (h.nok n hn).t1⟩, h.inc, fun t ht hk n hn => h.parent hn ht hk, fun t n hn hk => h.root hn hk,
  fun t n hn hal => (flat_of (note_of h.good hn.1) (by rw [hn.2]; exact hal)).1, fun t ht a b ha hb hp hk => h.keys ht ha hb hp hk⟩
theorem Wgt.up (h : Wgt d) {t : Nat} (ht : t < d.tiers.length) (hk : (tirAt d t).kind ≠ 0) : 0 ≤ (tirAt d t).par ∧ (tirAt d t).par.toNat < t := by
  rw [tirAt_nat d ht] at hk ⊢
  have := oneE_parent (h.good t ht) hk
  rw [List.length_take] at this
  omega
theorem Wgt.parent (h : Wgt d) {t : Nat} {n : Nt} (hn : inT d t n) (ht : t < d.tiers.length) (hk : (tirAt d t).kind ≠ 0) : inT d (tirAt d t).par.toNat (upN d n) ∧ (upN d n).id = n.par := h.par t ht hk n hn
theorem Wgt.root (h : Wgt d) {t : Nat} {n : Nt} (hn : inT d t n) (hk : (tirAt d t).kind = 0) : n.par = 0 := h.top t n hn hk
theorem Wgt.keys (h : Wgt d) {t : Nat} (ht : t < d.tiers.length) {a b : Nt} (ha : inT d t a) (hb : inT d t b) (hp : a.par = b.par) (hk : keyT d t a = keyT d t b) : a = b := h.key t ht a b ha hb hp hk
theorem Wgt.uniq (h : Wgt d) {a b : Nt} (ha : a ∈ d.notes) (hb : b ∈ d.notes) (e : a.id = b.id) : a = b := by
  obtain ⟨i, hi, rfl⟩ := List.mem_iff_getElem.1 ha
  obtain ⟨j, hj, rfl⟩ := List.mem_iff_getElem.1 hb
  have hp := List.pairwise_iff_getElem.1 h.inc
  rcases Nat.lt_trichotomy i j with h1 | rfl | h1
  · have := hp i j hi hj h1; omega
  · rfl
  · have := hp j i hj hi h1; omega
theorem Wgt.get (h : Wgt d) {n : Nt} (hn : n ∈ d.notes) : getN d.notes n.id = (n, true) := by
  unfold getN
  cases hf : d.notes.find? fun m => decide (m.id = n.id) with
  | none => rw [List.find?_eq_none] at hf; exact absurd (hf n hn) (by simp)
  | some m =>
    have h1 := List.mem_of_find?_eq_some hf
    have h2 : m.id = n.id := by simpa using List.find?_some hf
    rw [h.uniq h1 hn h2]
structure Sto (R : Nt → Nt → Bool) (M : Nt → Prop) : Prop where
  asym : ∀ a b, M a → M b → R a b = true → R b a = true → False
  trans : ∀ a b c, M a → M b → M c → R a b = true → R b c = true → R a c = true
  total : ∀ a b, M a → M b → a ≠ b → R a b = true ∨ R b a = true
theorem Wgt.sto (h : Wgt d) : ∀ (t : Nat), t < d.tiers.length → Sto (befT d t) (inT d t) := by
  intro t
  induction t using Nat.strongRecOn with
  | _ t ih =>
    intro ht
    by_cases hk : (tirAt d t).kind = 0
    · have hp : ∀ a b, inT d t a → inT d t b → a.par = b.par := fun a b ha hb => by rw [h.root ha hk, h.root hb hk]
      refine ⟨?_, ?_, ?_⟩
      · intro a b ha hb h1 h2
        rw [bef_same (hp a b ha hb), decide_eq_true_eq] at h1
        rw [bef_same (hp b a hb ha), decide_eq_true_eq] at h2
        omega
      · intro a b c ha hb hc h1 h2
        rw [bef_same (hp a b ha hb), decide_eq_true_eq] at h1
        rw [bef_same (hp b c hb hc), decide_eq_true_eq] at h2
        rw [bef_same (hp a c ha hc), decide_eq_true_eq]
        omega
      · intro a b ha hb hne
        rw [bef_same (hp a b ha hb), bef_same (hp b a hb ha), decide_eq_true_eq, decide_eq_true_eq]
        have : ¬ keyT d t a = keyT d t b := fun e => hne (h.keys ht ha hb (hp a b ha hb) e)
        omega
    · have hu := h.up ht hk
      have ih' := ih _ hu.2 (by omega)
      have pu : ∀ a, inT d t a → inT d (tirAt d t).par.toNat (upN d a) ∧ (upN d a).id = a.par := fun a ha => h.parent ha ht hk
      have une : ∀ a b, inT d t a → inT d t b → a.par ≠ b.par → upN d a ≠ upN d b := fun a b ha hb hne e => hne (by rw [← (pu a ha).2, ← (pu b hb).2, e])
      have ueq : ∀ a b, inT d t a → inT d t b → a.par = b.par → upN d a = upN d b := fun a b ha hb e => h.uniq (pu a ha).1.1 (pu b hb).1.1 (by rw [(pu a ha).2, (pu b hb).2, e])
      refine ⟨?_, ?_, ?_⟩
      · intro a b ha hb h1 h2
        by_cases hp : a.par = b.par
        · rw [bef_same hp, decide_eq_true_eq] at h1
          rw [bef_same hp.symm, decide_eq_true_eq] at h2
          omega
        · rw [bef_up hp hu.2] at h1
          rw [bef_up (Ne.symm hp) hu.2] at h2
          exact ih'.asym _ _ (pu a ha).1 (pu b hb).1 h1 h2
      · intro a b c ha hb hc h1 h2
        by_cases hab : a.par = b.par
        · by_cases hbc : b.par = c.par
          · rw [bef_same hab, decide_eq_true_eq] at h1
            rw [bef_same hbc, decide_eq_true_eq] at h2
            rw [bef_same (hab.trans hbc), decide_eq_true_eq]
            omega
          · rw [bef_up hbc hu.2] at h2
            rw [bef_up (by rw [hab]; exact hbc) hu.2, ueq a b ha hb hab]
            exact h2
        · rw [bef_up hab hu.2] at h1
          by_cases hbc : b.par = c.par
          · rw [bef_up (by rw [← hbc]; exact hab) hu.2, ← ueq b c hb hc hbc]
            exact h1
          · rw [bef_up hbc hu.2] at h2
            by_cases hac : a.par = c.par
            · rw [ueq a c ha hc hac] at h1
              exact (ih'.asym _ _ (pu c hc).1 (pu b hb).1 h1 h2).elim
            · rw [bef_up hac hu.2]
              exact ih'.trans _ _ _ (pu a ha).1 (pu b hb).1 (pu c hc).1 h1 h2
      · intro a b ha hb hne
        by_cases hp : a.par = b.par
        · rw [bef_same hp, bef_same hp.symm, decide_eq_true_eq, decide_eq_true_eq]
          have : ¬ keyT d t a = keyT d t b := fun e => hne (h.keys ht ha hb hp e)
          omega
        · rw [bef_up hp hu.2, bef_up (Ne.symm hp) hu.2]
          exact ih'.total _ _ (pu a ha).1 (pu b hb).1 (une a b ha hb hp)
theorem Sto.irr {R : Nt → Nt → Bool} {M : Nt → Prop} (h : Sto R M) {a : Nt} (ha : M a) (hr : R a a = true) : False := h.asym a a ha ha hr hr
theorem Sto.eq {R : Nt → Nt → Bool} {M : Nt → Prop} (h : Sto R M) {l m : List Nt} (hl : ∀ x ∈ l, M x) (hp : l.Perm m) (h1 : l.Pairwise fun a b => R a b = true) (h2 : m.Pairwise fun a b => R a b = true) : l = m :=
  List.Perm.eq_of_pairwise (le := fun a b => R a b = true) (fun a b ha hb r1 r2 => (h.asym a b (hl a ha) (hl b (hp.mem_iff.2 hb)) r1 r2).elim) h1 h2 hp
theorem Sto.nodup {R : Nt → Nt → Bool} {M : Nt → Prop} (h : Sto R M) {l : List Nt} (hl : ∀ x ∈ l, M x) (h1 : l.Pairwise fun a b => R a b = true) : l.Nodup :=
  h1.imp_of_mem fun {a b} ha hb hr e => h.irr (hl a ha) (by rw [e] at hr ⊢; exact hr)
theorem notes_nodup (h : Wgt d) : d.notes.Nodup := h.inc.imp fun {a b} hab e => by rw [e] at hab; omega
theorem kid_mem {id : Int} {t : Nat} (ht : t < d.tiers.length) {x : Nt} : x ∈ kidsN d id t ↔ inT d t x ∧ x.par = id := by
  unfold kidsN inT
  rw [(isort_perm _).mem_iff, List.mem_filter]
  simp only [kidB, Bool.and_eq_true, decide_eq_true_eq]
  constructor
  · rintro ⟨h1, ⟨⟨h2, h3⟩, _⟩, _⟩; exact ⟨⟨h1, h2⟩, h3⟩
  · rintro ⟨⟨h1, h2⟩, h3⟩; exact ⟨h1, ⟨⟨h2, h3⟩, by omega⟩, by omega⟩
theorem kid_sorted (h : Wgt d) {id : Int} {t : Nat} (ht : t < d.tiers.length) : (kidsN d id t).Pairwise fun a b => befT d t a b = true := by
  have h1 := isort_sorted (d.notes.filter (kidB d id t))
  have h2 : (kidsN d id t).Nodup := (isort_perm _).nodup_iff.2 ((notes_nodup h).sublist List.filter_sublist)
  have h3 := List.pairwise_and_iff.2 ⟨h1, h2⟩
  refine h3.imp_of_mem fun {a b} ha hb hab => ?_
  obtain ⟨ha, pa⟩ := (kid_mem ht).1 ha
  obtain ⟨hb, pb⟩ := (kid_mem ht).1 hb
  have hp : a.par = b.par := by rw [pa, pb]
  have hlt := ltN_false.1 hab.1
  have hk : ¬ keyT d t a = keyT d t b := fun e => hab.2 (h.keys ht ha hb hp e)
  rw [bef_same hp, decide_eq_true_eq]
  unfold keyT at hk ⊢
  cases hal : alK (tirAt d t).kind with
  | true => rw [hal] at hk; simp only [if_true] at hk ⊢; omega
  | false =>
    rw [hal] at hk
    simp only [Bool.false_eq_true, if_false] at hk ⊢
    have za := h.flat t a ha hal
    have zb := h.flat t b hb hal
    omega
def ofN (d : Dc) (t : Nat) : List Nt :=
  if (tirAt d t).kind = 0 then kidsN d 0 t else if h : (tirAt d t).par.toNat < t then (ofN d (tirAt d t).par.toNat).flatMap fun p => kidsN d p.id t else []
termination_by t
theorem of_mem (h : Wgt d) : ∀ (t : Nat), t < d.tiers.length → ∀ x, x ∈ ofN d t ↔ inT d t x := by
  intro t
  induction t using Nat.strongRecOn with
  | _ t ih =>
    intro ht x
    rw [ofN]
    by_cases hk : (tirAt d t).kind = 0
    · rw [if_pos hk, kid_mem ht]
      exact ⟨fun e => e.1, fun e => ⟨e, h.root e hk⟩⟩
    · have hu := h.up ht hk
      rw [if_neg hk, dif_pos hu.2, List.mem_flatMap]
      constructor
      · rintro ⟨p, _, hx⟩; exact ((kid_mem ht).1 hx).1
      · intro hx
        obtain ⟨p1, p2⟩ := h.parent hx ht hk
        exact ⟨upN d x, (ih _ hu.2 (by omega) _).2 p1, (kid_mem ht).2 ⟨hx, p2.symm⟩⟩
theorem of_sorted (h : Wgt d) : ∀ (t : Nat), t < d.tiers.length → (ofN d t).Pairwise fun a b => befT d t a b = true := by
  intro t
  induction t using Nat.strongRecOn with
  | _ t ih =>
    intro ht
    rw [ofN]
    by_cases hk : (tirAt d t).kind = 0
    · rw [if_pos hk]; exact kid_sorted h ht
    · have hu := h.up ht hk
      have hpl : (tirAt d t).par.toNat < d.tiers.length := by omega
      rw [if_neg hk, dif_pos hu.2, List.pairwise_flatMap]
      refine ⟨fun p _ => kid_sorted h ht, (ih _ hu.2 hpl).imp_of_mem fun {p q} hp hq hpq x hx y hy => ?_⟩
      have hp := (of_mem h _ hpl p).1 hp
      have hq := (of_mem h _ hpl q).1 hq
      obtain ⟨hx, px⟩ := (kid_mem ht).1 hx
      obtain ⟨hy, py⟩ := (kid_mem ht).1 hy
      have hne : x.par ≠ y.par := by
        intro e
        have : p = q := h.uniq hp.1 hq.1 (by rw [← px, ← py, e])
        subst this
        exact (h.sto _ hpl).irr hp hpq
      have ux : upN d x = p := h.uniq (h.parent hx ht hk).1.1 hp.1 (by rw [(h.parent hx ht hk).2, px])
      have uy : upN d y = q := h.uniq (h.parent hy ht hk).1.1 hq.1 (by rw [(h.parent hy ht hk).2, py])
      rw [bef_up hne hu.2, ux, uy]
      exact hpq
theorem of_perm (h : Wgt d) {t : Nat} (ht : t < d.tiers.length) : (ofN d t).Perm (ofT d.notes t) := by
  have hn : (ofT d.notes t).Nodup := (notes_nodup h).sublist List.filter_sublist
  rw [List.perm_ext_iff_of_nodup ((h.sto t ht).nodup (fun x hx => (of_mem h t ht x).1 hx) (of_sorted h t ht)) hn]
  intro x
  rw [of_mem h t ht, inT_iff]
def insAt (R : Nt → Nt → Bool) (n : Nt) (l : List Nt) : Nat → Nat
  | 0 => 0
  | k + 1 => if R n (gN l k) = true then insAt R n l k else k + 1
def insR (R : Nt → Nt → Bool) (l : List Nt) (n : Nt) : List Nt := l.take (insAt R n l l.length) ++ n :: l.drop (insAt R n l l.length)
theorem insAt_spec {R : Nt → Nt → Bool} {n : Nt} {l : List Nt} : ∀ (k : Nat), k ≤ l.length → insAt R n l k ≤ k ∧ (∀ i, insAt R n l k ≤ i → i < k → R n (gN l i) = true) ∧ (insAt R n l k ≠ 0 → R n (gN l (insAt R n l k - 1)) = false)
  | 0, _ => ⟨Nat.le_refl _, fun i h1 h2 => by omega, fun h => absurd rfl h⟩
  | k + 1, hk => by
    have ih := insAt_spec (R := R) (n := n) (l := l) k (by omega)
    simp only [insAt]
    split
    · rename_i hr
      refine ⟨by omega, fun i h1 h2 => ?_, ih.2.2⟩
      rcases Nat.eq_or_lt_of_le (show i ≤ k by omega) with e | e
      · rw [e]; exact hr
      · exact ih.2.1 i h1 e
    · rename_i hr
      exact ⟨Nat.le_refl _, fun i h1 h2 => by omega, fun _ => by simpa using hr⟩
theorem insR_perm (R : Nt → Nt → Bool) (l : List Nt) (n : Nt) : (insR R l n).Perm (n :: l) := by
  unfold insR
  refine List.perm_middle.trans ?_
  rw [List.take_append_drop]
theorem insR_length (R : Nt → Nt → Bool) (l : List Nt) (n : Nt) : (insR R l n).length = l.length + 1 := by
  rw [(insR_perm R l n).length_eq]; rfl
theorem insR_sorted {R : Nt → Nt → Bool} {M : Nt → Prop} (hR : Sto R M) {l : List Nt} {n : Nt} (hl : ∀ x ∈ l, M x) (hn : M n) (hnl : n ∉ l) (hs : l.Pairwise fun a b => R a b = true) : (insR R l n).Pairwise fun a b => R a b = true := by
  obtain ⟨h1, h2, h3⟩ := insAt_spec (R := R) (n := n) (l := l) l.length (Nat.le_refl _)
  unfold insR
  generalize insAt R n l l.length = k at h1 h2 h3
  have hpw := List.pairwise_iff_getElem.1 hs
  have low : ∀ x ∈ l.take k, R x n = true := by
    intro x hx
    obtain ⟨i, hi, rfl⟩ := List.mem_take_iff_getElem.1 hx
    have hil : i < l.length := by omega
    have hik : i < k := by omega
    have hk1 : k - 1 < l.length := by omega
    have h4 := h3 (by omega)
    rw [gN_eq hk1] at h4
    have hm1 : M l[k - 1] := hl _ (List.getElem_mem hk1)
    have h5 : R l[k - 1] n = true := by
      rcases hR.total _ _ hm1 hn (fun e => hnl (by rw [← e]; exact List.getElem_mem hk1)) with e | e
      · exact e
      · rw [h4] at e; cases e
    rcases Nat.eq_or_lt_of_le (show i ≤ k - 1 by omega) with e | e
    · subst e; exact h5
    · exact hR.trans _ _ _ (hl _ (List.getElem_mem hil)) hm1 hn (hpw i (k - 1) hil hk1 e) h5
  have high : ∀ x ∈ l.drop k, R n x = true := by
    intro x hx
    obtain ⟨i, hi, rfl⟩ := List.mem_iff_getElem.1 hx
    rw [List.length_drop] at hi
    rw [List.getElem_drop]
    have := h2 (k + i) (by omega) (by omega)
    rwa [gN_eq (by omega)] at this
  rw [List.pairwise_append]
  refine ⟨hs.sublist (List.take_sublist _ _), ?_, ?_⟩
  · rw [List.pairwise_cons]
    exact ⟨high, hs.sublist (List.drop_sublist _ _)⟩
  · intro a ha b hb
    rcases List.mem_cons.1 hb with e | hb
    · rw [e]; exact low a ha
    · obtain ⟨i, hi, rfl⟩ := List.mem_take_iff_getElem.1 ha
      obtain ⟨j, hj, rfl⟩ := List.mem_iff_getElem.1 hb
      rw [List.length_drop] at hj
      rw [List.getElem_drop]
      exact hpw i (k + j) (by omega) (by omega) (by omega)
def refStep (d : Dc) (t : Int) (l : List Nt) (n : Nt) : List Nt := if n.tier = t then insR (befT d t.toNat) l n else l
def refOf (d : Dc) (t : Int) : List Nt := d.notes.foldl (refStep d t) []
theorem refs_inv (h : Wgt d) {t : Nat} (ht : t < d.tiers.length) : ∀ (m l : List Nt), m.Sublist d.notes → (∀ x ∈ m, x ∉ l) → (∀ x ∈ l, inT d t x) → l.Pairwise (fun a b => befT d t a b = true) →
    (m.foldl (refStep d t) l).Pairwise (fun a b => befT d t a b = true) ∧ (m.foldl (refStep d t) l).Perm (ofT m t ++ l)
  | [], l, _, _, _, hs => ⟨hs, by simp [ofT]⟩
  | n :: m, l, hsub, hd, hl, hs => by
    have hnd : (n :: m).Nodup := (notes_nodup h).sublist hsub
    have hnm := List.nodup_cons.1 hnd
    rw [List.foldl_cons]
    have hn : n ∈ d.notes := hsub.subset (by simp)
    have hsub' : m.Sublist d.notes := (List.sublist_cons_self _ _).trans hsub
    unfold refStep
    by_cases e : n.tier = t
    · rw [if_pos e]
      have hp := insR_perm (befT d (t : Int).toNat) l n
      obtain ⟨h1, h2⟩ := refs_inv h ht m (insR (befT d (t : Int).toNat) l n) hsub' (fun x hx hxl => by
          rcases List.mem_cons.1 (hp.mem_iff.1 hxl) with e' | e'
          · subst e'; exact hnm.1 hx
          · exact hd x (by simp [hx]) e')
        (fun x hx => by
          rcases List.mem_cons.1 (hp.mem_iff.1 hx) with e' | e'
          · subst e'; exact ⟨hn, e⟩
          · exact hl x e')
        (insR_sorted (h.sto t ht) hl ⟨hn, e⟩ (hd n (by simp)) hs)
      refine ⟨h1, h2.trans ?_⟩
      have e2 : ofT (n :: m) t = n :: ofT m t := by unfold ofT; rw [List.filter_cons_of_pos (by simpa using e)]
      rw [e2]
      exact (List.Perm.append_left _ hp).trans List.perm_middle
    · rw [if_neg e]
      have e2 : ofT (n :: m) t = ofT m t := by unfold ofT; rw [List.filter_cons_of_neg (by simpa using e)]
      rw [e2]
      exact refs_inv h ht m l hsub' (fun x hx => hd x (by simp [hx])) hl hs
theorem ref_of (h : Wgt d) {t : Nat} (ht : t < d.tiers.length) : refOf d t = ofN d t := by
  obtain ⟨h1, h2⟩ := refs_inv h ht d.notes [] (List.Sublist.refl _) (fun x _ => by simp) (fun x hx => by cases hx) List.Pairwise.nil
  rw [List.append_nil] at h2
  refine (h.sto t ht).eq (fun x hx => ?_) (h2.trans (of_perm h ht).symm) h1 (of_sorted h t ht)
  exact inT_iff.1 (h2.mem_iff.1 hx)
theorem ref_none (h : Wgt d) {t : Int} (ht : ¬ (0 ≤ t ∧ t < d.tiers.length)) : refOf d t = [] := by
  have : ∀ (m l : List Nt), (∀ x ∈ m, x ∈ d.notes) → m.foldl (refStep d t) l = l := by
    intro m
    induction m with
    | nil => intro l _; rfl
    | cons n m ih =>
      intro l hm
      rw [List.foldl_cons]
      have hn := h.nok n (hm n (by simp))
      have e : ¬ n.tier = t := fun e => ht ⟨by rw [← e]; exact hn.1, by rw [← e]; exact hn.2⟩
      rw [refStep, if_neg e]
      exact ih l fun x hx => hm x (by simp [hx])
  exact this _ _ fun x hx => hx
def ofP (d : Dc) (t : Int) : List Nt := if 0 ≤ t ∧ t < d.tiers.length then ofN d t.toNat else []
theorem ref_ofP (h : Wgt d) (t : Int) : refOf d t = ofP d t := by
  unfold ofP
  split
  · rename_i ht
    obtain ⟨k, rfl⟩ : ∃ k : Nat, t = k := ⟨t.toNat, by omega⟩
    rw [Int.toNat_natCast]
    exact ref_of h (by omega)
  · rename_i ht; exact ref_none h ht
theorem kids_of (h : Wgt d) (id t : Int) : (ofP d t).filter (fun n => decide (n.par = id)) = kidsN d id t := by
  unfold ofP
  split
  · rename_i ht
    obtain ⟨k, rfl⟩ : ∃ k : Nat, t = k := ⟨t.toNat, by omega⟩
    rw [Int.toNat_natCast]
    have hk : k < d.tiers.length := by omega
    refine (h.sto k hk).eq (fun x hx => (of_mem h k hk x).1 (List.mem_filter.1 hx).1) ?_ ((of_sorted h k hk).sublist List.filter_sublist) (kid_sorted h hk)
    rw [List.perm_ext_iff_of_nodup (((h.sto k hk).nodup (fun x hx => (of_mem h k hk x).1 hx) (of_sorted h k hk)).sublist List.filter_sublist) ((h.sto k hk).nodup (fun x hx => ((kid_mem hk).1 hx).1) (kid_sorted h hk))]
    intro x
    rw [List.mem_filter, of_mem h k hk, kid_mem hk, decide_eq_true_eq]
  · rename_i ht
    have : d.notes.filter (kidB d id t) = [] := by
      rw [List.filter_eq_nil_iff]
      intro x _ hx
      simp only [kidB, Bool.and_eq_true, decide_eq_true_eq] at hx
      exact ht ⟨hx.1.2, hx.2⟩
    unfold kidsN
    rw [this]
    rfl
end
end Go.V.Doc
namespace Go.V.Doc
open Go Go.Proofs
section
variable {d : Dc}
set_option maxHeartbeats 2000000 in
theorem before_ok (h : Wgt d) : ∀ (t : Nat), t < d.tiers.length → ∀ a b, inT d t a → inT d t b → PureR Tryz.prog 126 [docD d, .agg a.row, .agg b.row] (.bool (befT d t a b)) := by
  intro t
  induction t using Nat.strongRecOn with
  | _ t ih =>
    intro ht a b ha hb
    have hf := h.few
    refine pure_of_body mixed Tryz.func126 rfl call_126 ?_
    by_cases hp : a.par = b.par
    · have e1 : d.tiers[t]? = some d.tiers[t] := List.getElem?_eq_getElem ht
      have ht' : (t : Int) < d.tiers.length := by omega
      have hta := ha.2
      rw [bef_same hp]
      unfold keyT
      rw [tirAt_nat d ht]
      simp (decide := true) [Tryz.f126, docD, Dc.row, Nt.row, Tir.row, int, ints, tiersD, notesD, hp, hta, ht, ht', e1]
      refine ECall.pure (by rfl) (alR_ok d.tiers[t].kind) (by simp [int]) ?_
      cases hal : alK d.tiers[t].kind <;> simp (decide := true) [int]
    · have hk : (tirAt d t).kind ≠ 0 := fun e => hp (by rw [h.root ha e, h.root hb e])
      have hu := h.up ht hk
      have hc := ih _ hu.2 (by omega) _ _ (h.parent ha ht hk).1 (h.parent hb ht hk).1
      rw [bef_up hp hu.2]
      unfold upN at hc ⊢
      simp (decide := true) [Tryz.f126, docD, Dc.row, Nt.row, int, ints, tiersD, notesD, hp]
      refine ECall.pure (by rfl) (refGet_ok d a.par (by omega)) (by simp (decide := true) [docD, Dc.row, int, ints, tiersD, notesD]) ?_
      obtain ⟨⟨x, ok⟩, eg⟩ : ∃ g, getN d.notes a.par = g := ⟨_, rfl⟩
      rw [eg] at hc ⊢
      simp (decide := true) [getD', Nt.row, int]
      refine ECall.pure (by rfl) (refGet_ok d b.par (by omega)) (by simp (decide := true) [docD, Dc.row, int, ints, tiersD, notesD]) ?_
      obtain ⟨⟨y, ok'⟩, eg'⟩ : ∃ g, getN d.notes b.par = g := ⟨_, rfl⟩
      rw [eg'] at hc ⊢
      simp (decide := true) [getD', Nt.row, int]
      refine ECall.pure (by rfl) hc (by simp (decide := true) [docD, Dc.row, Nt.row, int, ints, tiersD, notesD]) ?_
      simp (decide := true) [int]
theorem idsOf_length (l : List Nt) : (idsOf l).length = l.length := by simp [idsOf]
end
end Go.V.Doc
namespace Go.V.Doc
open Go Go.Proofs
section
variable {d : Dc}
theorem refs_len (d : Dc) (t : Int) : ∀ (m l : List Nt), (m.foldl (refStep d t) l).length ≤ m.length + l.length
  | [], l => by simp
  | n :: m, l => by
    rw [List.foldl_cons]
    refine Nat.le_trans (refs_len d t m _) ?_
    unfold refStep
    split
    · rw [insR_length, List.length_cons]; omega
    · rw [List.length_cons]; omega
theorem refs_mem (h : Wgt d) (t : Int) {m : List Nt} (hs : m.Sublist d.notes) {x : Nt} : ∀ {l : List Nt}, x ∈ m.foldl (refStep d t) l → x ∈ l ∨ (x ∈ d.notes ∧ x.tier = t) := by
  induction m with
  | nil => intro l hx; exact .inl hx
  | cons n m ih =>
    intro l hx
    rw [List.foldl_cons] at hx
    rcases ih ((List.sublist_cons_self _ _).trans hs) hx with e | e
    · unfold refStep at e
      split at e
      · rename_i ht
        rcases List.mem_cons.1 ((insR_perm _ _ _).mem_iff.1 e) with e | e
        · subst e; exact .inr ⟨hs.subset (by simp), ht⟩
        · exact .inl e
      · exact .inl e
    · exact .inr e
theorem map_ins (R : Nt → Nt → Bool) (l : List Nt) (n : Nt) : (insR R l n).map Nt.row = (l.map Nt.row).take (insAt R n l l.length) ++ [n.row] ++ (l.map Nt.row).drop (insAt R n l l.length) := by
  unfold insR
  rw [List.map_append, List.map_cons, List.map_take, List.map_drop]; simp
theorem rows7o {l : List Nt} {r : List D} (h : r ∈ l.map Nt.row) : r.length = 7 := by
  obtain ⟨x, _, rfl⟩ := List.mem_map.1 h; rfl
set_option maxHeartbeats 4000000 in
theorem refOf_ok (h : Wgt d) (t : Int) : PureR Tryz.prog 75 [docD d, int t] (ints (idsOf (refOf d t))) := by
  refine pure_of_body_frz mixed Tryz.func75 rfl call_75 [3] ?_
  have hfew := h.few
  simp (decide := true) [Tryz.f75, docD, Dc.row, int, ints, tiersD, notesD]
  refine triple_frz [2] ?_
  refine loop_rule mixed (fun i : Nat => { n := 72, next := 3, slots := [(1, .d (int t)), (2, .bp 0 0), (5, .d (notesD ((d.notes.take i).foldl (refStep d t) []))), (6, .d (int i))], own := [(0, .box 53 (docCells d))] })
    (fun i => i ≤ d.notes.length) (fun i => d.notes.length - i) 0 (by simp) (by simp (decide := true) [int, ints, tiersD, notesD]) ?_
  intro i hi
  have hlen := refs_len d t (d.notes.take i) []
  have hmem := fun x => refs_mem h t (m := d.notes.take i) (List.take_sublist _ _) (x := x) (l := [])
  rw [List.length_take, List.length_nil] at hlen
  by_cases hlt : i < d.notes.length
  case neg =>
    have : i = d.notes.length := by omega
    subst this
    rw [List.take_length]
    rw [List.take_length] at hlen
    show ev _ _ _ _
    unfold refOf
    generalize d.notes.foldl (refStep d t) [] = l at hlen ⊢
    simp (decide := true) [int, notesD]
    refine loop_rule mixed (fun k : Nat => { n := 72, next := 4, slots := [(5, .d (notesD l)), (9, .ar 3), (10, .d (int k))], own := [(3, .arr 3 1 ((idsOf (l.take k)).map fun n => [int n]))], moved := [3] })
      (fun k => k ≤ l.length) (fun k => l.length - k) 0 (by simp) (by simp (decide := true) [int, idsOf, notesD]) ?_
    intro k hk
    by_cases hkl : k < l.length
    · have hkl' : (k : Int) < l.length := by omega
      have e1 : l[k]? = some l[k] := List.getElem?_eq_getElem hkl
      have hsn : idsOf (l.take (k + 1)) = idsOf (l.take k) ++ [l[k].id] := by unfold idsOf; rw [take_snoc' hkl, List.map_append]; rfl
      have hll : (idsOf (l.take k)).length ≤ k := by unfold idsOf; rw [List.length_map, List.length_take]; omega
      simp (decide := true) [Nt.row, int, notesD, hkl, hkl', e1, I64]
      exact ⟨by omega, by unfold maxLen; omega, ⟨by omega, by omega⟩, k + 1, hkl, by omega, by omega, by rw [hsn]; simp [int]⟩
    · have : k = l.length := by omega
      subst this
      rw [List.take_length]
      simp (decide := true) [int, ints, notesD]
  have hlt' : (i : Int) < d.notes.length := by omega
  obtain ⟨n, en'⟩ : ∃ n, d.notes[i] = n := ⟨_, rfl⟩
  have en : d.notes[i]? = some n := by rw [List.getElem?_eq_getElem hlt, en']
  have hst : (d.notes.take (i + 1)).foldl (refStep d t) [] = refStep d t ((d.notes.take i).foldl (refStep d t) []) n := by
    rw [take_snoc' hlt, List.foldl_append, en']; rfl
  generalize (d.notes.take i).foldl (refStep d t) [] = l at hlen hmem hst ⊢
  by_cases htt : n.tier = t
  case neg =>
    rw [refStep, if_neg htt] at hst
    simp (decide := true) [int, notesD, Nt.row, hlt, hlt', en, en', htt, I64]
    exact ⟨⟨by omega, by omega⟩, i + 1, hlt, by omega, by rw [hst], by omega⟩
  have hnd : n ∈ d.notes := by rw [← en']; exact List.getElem_mem hlt
  have hnk := h.nok n hnd
  have hT : t.toNat < d.tiers.length := by have := hnk.1; have := hnk.2; omega
  have hTt : ((t.toNat : Nat) : Int) = t := by have := hnk.1; omega
  rw [refStep, if_pos htt] at hst
  have hml : ∀ x ∈ l, inT d t.toNat x := fun x hx => by
    rcases hmem x hx with e | e
    · cases e
    · exact ⟨e.1, by rw [hTt]; exact e.2⟩
  have hmn : inT d t.toNat n := ⟨hnd, by rw [hTt]; exact htt⟩
  have hb := fun x (hx : x ∈ l) => before_ok h t.toNat hT n x hmn (hml x hx)
  generalize hR : befT d t.toNat = R at hst hb
  simp (decide := true) [int, notesD, Nt.row, hlt, hlt', en, en', htt]
  refine loop_rule mixed (fun k : Nat => { n := 72, next := 4, slots := [(1, .d (int t)), (2, .bp 0 0), (5, .d (notesD l)), (6, .d (int i)), (7, .bp 3 0), (8, .d (int k))], own := [(0, .box 53 (docCells d)), (3, .box 72 (noteCells n))] })
    (fun k => k ≤ l.length ∧ insAt R n l l.length = insAt R n l k) (fun k => k) l.length (by simp) (by simp (decide := true) [int, ints, tiersD, notesD, htt]) ?_
  rintro k ⟨hk, hg⟩
  have hcon : ∀ j : Nat, k = j + 1 → R n (gN l j) = true → insAt R n l l.length = insAt R n l j := by
    rintro j rfl hr; rw [hg, insAt, if_pos hr]
  have hsto : (k = 0 ∨ ∃ j, k = j + 1 ∧ R n (gN l j) = false) → insAt R n l l.length = k := by
    rintro (rfl | ⟨j, rfl, hr⟩)
    · rw [hg]; rfl
    · rw [hg, insAt, if_neg (by simp [hr])]
  cases k
  case' zero =>
    have hat := hsto (.inl rfl)
    simp (decide := true) [int, notesD]
  case' succ j =>
    have hjl : j < l.length := by omega
    have hjl' : (j : Int) < l.length := by omega
    have e2 : l[j]? = some l[j] := List.getElem?_eq_getElem hjl
    have j0 : (0 : Int) < (j : Int) + 1 := by omega
    have j1 : (j : Int) + 1 - 1 = j := by omega
    have hbj := hb l[j] (List.getElem_mem hjl)
    obtain ⟨y, ey'⟩ : ∃ y, l[j] = y := ⟨_, rfl⟩
    rw [ey'] at hbj
    simp (decide := true) [int, notesD, Nt.row, hjl, hjl', e2, j0, j1, I64, ey']
    refine ⟨by omega, ?_⟩
    refine scall_pure (by rfl) (by rfl) hbj (by simp (decide := true) [docD, Dc.row, Nt.row, int, ints, tiersD, notesD]) ?_
    cases hr : R n y
    case' true =>
      simp (decide := true) [int]
      exact ⟨by unfold I64; omega, j, ⟨by omega, hcon j rfl (by rw [gN_eq hjl, ey']; exact hr)⟩, by omega⟩
    case' false =>
      have hat := hsto (.inr ⟨j, rfl, by rw [gN_eq hjl, ey']; exact hr⟩)
      simp (decide := true) [int]
  all_goals
    refine triple_frzQ [4] ?_
    refine draw_f mixed 12 [] (by rfl) (by rfl) (by rfl) (by rfl) ?_
    simp (decide := true) [int, notesD, Nt.row]
  · have hm : min (j + 1) l.length = j + 1 := by omega
    refine ⟨⟨by omega, by omega⟩, ⟨fun r hr => rows7o (List.mem_of_mem_take hr), by omega, by unfold maxLen; omega⟩, ⟨by omega, by unfold maxLen; omega⟩, ⟨by omega, by omega⟩, ⟨fun r hr => rows7o (List.mem_of_mem_take (List.mem_of_mem_drop hr)), by omega, by unfold maxLen; omega⟩, by rfl, by unfold I64; omega, i + 1, hlt, by omega, ?_, by omega⟩
    rw [hst, map_ins, hat]
    simp [Nt.row, int, List.take_of_length_le]
  · exact ⟨⟨fun r hr => rows7o (List.mem_of_mem_take hr), by omega, by unfold maxLen; omega⟩, by rfl, by unfold I64; omega, i + 1, hlt, by omega, by rw [hst, map_ins, hat]; simp [Nt.row, int, List.take_of_length_le], by omega⟩
set_option maxHeartbeats 2000000 in
theorem refKids_ok (h : Wgt d) (id t : Int) : PureR Tryz.prog 56 [docD d, int id, int t] (ints (idsOf ((refOf d t).filter fun n => decide (n.par = id)))) := by
  refine pure_of_body_frz mixed Tryz.func56 rfl call_56 [2] ?_
  have hfew := h.few
  have hO := refOf_ok h t
  have hm : ∀ x ∈ refOf d t, x ∈ d.notes := fun x hx => by
    rcases refs_mem h t (List.Sublist.refl _) hx with e | e
    · cases e
    · exact e.1
  have hln : (refOf d t).length ≤ d.notes.length := by have := refs_len d t d.notes []; rw [List.length_nil, Nat.add_zero] at this; exact this
  generalize refOf d t = l at hO hm hln ⊢
  simp (decide := true) [Tryz.f56, docD, Dc.row, int, ints, tiersD, notesD]
  refine ECall.pure (by rfl) hO (by simp (decide := true) [docD, Dc.row, int, ints, tiersD, notesD]) ?_
  have hil := idsOf_length l
  simp (decide := true) [int, ints]
  refine loop_rule mixed (fun k : Nat => { n := 43, next := 3, slots := [(1, .d (int id)), (2, .d (int t)), (3, .bp 0 0), (7, .ar 2), (8, .d (ints (idsOf l))), (9, .d (int k))], own := [(0, .box 53 (docCells d)), (2, .arr 3 1 ((idsOf ((l.take k).filter fun n => decide (n.par = id))).map fun n => [int n]))], moved := [2] })
    (fun k => k ≤ l.length) (fun k => l.length - k) 0 (by simp) (by simp (decide := true) [int, ints, tiersD, notesD, idsOf]) ?_
  intro k hk
  by_cases hlt : k < l.length
  case neg =>
    have : k = l.length := by omega
    subst this
    rw [List.take_length]
    simp (decide := true) [int, ints, hil]
  have hlt' : (k : Int) < l.length := by omega
  have hlt2 : k < (idsOf l).length := by omega
  have e2 : (idsOf l)[k]? = some l[k].id := by unfold idsOf; rw [List.getElem?_map, List.getElem?_eq_getElem hlt]; rfl
  have hgd : (idsOf l)[k]'hlt2 = l[k].id := by simp [idsOf]
  have hgn := h.get (hm _ (List.getElem_mem hlt))
  have hsn : idsOf ((l.take (k + 1)).filter fun n => decide (n.par = id)) = idsOf ((l.take k).filter fun n => decide (n.par = id)) ++ (if l[k].par = id then [l[k].id] else []) := by
    rw [take_snoc' hlt, List.filter_append]; unfold idsOf; rw [List.map_append]; by_cases e : l[k].par = id <;> simp [e]
  have hll : (idsOf ((l.take k).filter fun n => decide (n.par = id))).length ≤ k := by
    rw [idsOf_length]; exact Nat.le_trans (List.length_filter_le _ _) (by rw [List.length_take]; omega)
  simp (decide := true) [int, ints, hlt', hil]
  refine draw_f mixed 12 [] (by rfl) (by rfl) (by rfl) (by rfl) ?_
  simp (decide := true) [int, ints, hlt, hlt', hlt2, hil, e2, hgd]
  refine scall_pure (by rfl) (by rfl) (refGet_ok d l[k].id (by omega)) (by simp (decide := true) [docD, Dc.row, int, ints, tiersD, notesD]) ?_
  rw [hgn]
  by_cases e : l[k].par = id
  · rw [if_pos e] at hsn
    simp (decide := true) [getD', Nt.row, int, ints, e, hlt, hlt', hlt2, hil, e2, hgd, I64]
    exact ⟨by rfl, by omega, by unfold maxLen; omega, ⟨by omega, by omega⟩, k + 1, hlt, by omega, by omega, by rw [hsn]; simp [int]⟩
  · rw [if_neg e, List.append_nil] at hsn
    simp (decide := true) [getD', Nt.row, int, ints, e, hlt, hlt', hlt2, hil, e2, hgd, I64]
    exact ⟨by rfl, ⟨by omega, by omega⟩, k + 1, hlt, by omega, by omega, by rw [hsn]⟩
end
end Go.V.Doc
namespace Go.V.Doc
open Go Go.Proofs
def IntOk (n : Int) : Prop := (Lit.int .i64 n).wf = true
theorem IntOk.I64 {n : Int} (h : IntOk n) : I64 n := by
  have := bounds_i64 h
  unfold Go.V.I64; omega
def IntsOk (l : List Int) : Prop := l.length ≤ maxLen ∧ ∀ n ∈ l, IntOk n
theorem ints_decode {d : D} (h : FitD d (.sl [.int .i64])) : ∃ l, d = ints l ∧ IntsOk l := by
  obtain ⟨xs, rfl, h1, h2⟩ := FitD.sl_decode (row := fun n => [int n]) (good := IntOk) (fun r hr => by
    obtain ⟨_, _, rfl, g1, r1⟩ := hr.cons_decode
    obtain rfl := r1.nil_decode
    obtain ⟨n, rfl, hn⟩ := g1.int_decode
    exact ⟨n, rfl, hn⟩) h
  exact ⟨xs, rfl, h1, h2⟩
theorem int_decode1 {d : D} (h : FitD d (.int .i64)) : ∃ n, d = int n ∧ IntOk n := h.int_decode
abbrev tierSh : List Sh := [.str, .int .i64, .int .i64, .int .i64]
abbrev noteSh : List Sh := [.int .i64, .int .i64, .int .i64, .int .i64, .int .i64, .int .i64, .str]
abbrev docSh : List Sh := [.int .i64, .str, .int .i64, .int .i64, .sl [.int .i64], .sl tierSh, .sl noteSh]
def Tir.ok (t : Tir) : Prop := t.name.size ≤ maxLen ∧ IntOk t.kind ∧ IntOk t.role ∧ IntOk t.par
structure Nt.ok (n : Nt) : Prop where
  id : IntOk n.id
  tier : IntOk n.tier
  par : IntOk n.par
  fr : IntOk n.fr
  tO : IntOk n.tO
  rank : IntOk n.rank
  text : n.text.size ≤ maxLen
structure Dc.ok (d : Dc) : Prop where
  id : IntOk d.id
  name : d.name.size ≤ maxLen
  len : IntOk d.len
  day : IntOk d.day
  spk : IntsOk d.spk
  tiers : d.tiers.length ≤ maxLen ∧ ∀ t ∈ d.tiers, t.ok
  notes : d.notes.length ≤ maxLen ∧ ∀ n ∈ d.notes, n.ok
theorem tier_decode {r : List D} (h : FitDs r tierSh) : ∃ t : Tir, r = t.row ∧ t.ok := by
  obtain ⟨_, _, rfl, g1, r1⟩ := h.cons_decode
  obtain ⟨_, _, rfl, g2, r2⟩ := r1.cons_decode
  obtain ⟨_, _, rfl, g3, r3⟩ := r2.cons_decode
  obtain ⟨_, _, rfl, g4, r4⟩ := r3.cons_decode
  obtain rfl := r4.nil_decode
  obtain ⟨a, rfl, wa⟩ := g1.str_decode
  obtain ⟨b, rfl, wb⟩ := g2.int_decode
  obtain ⟨c, rfl, wc⟩ := g3.int_decode
  obtain ⟨e, rfl, we⟩ := g4.int_decode
  exact ⟨⟨a, b, c, e⟩, rfl, wa, wb, wc, we⟩
theorem note_decode {r : List D} (h : FitDs r noteSh) : ∃ n : Nt, r = n.row ∧ n.ok := by
  obtain ⟨_, _, rfl, g1, r1⟩ := h.cons_decode
  obtain ⟨_, _, rfl, g2, r2⟩ := r1.cons_decode
  obtain ⟨_, _, rfl, g3, r3⟩ := r2.cons_decode
  obtain ⟨_, _, rfl, g4, r4⟩ := r3.cons_decode
  obtain ⟨_, _, rfl, g5, r5⟩ := r4.cons_decode
  obtain ⟨_, _, rfl, g6, r6⟩ := r5.cons_decode
  obtain ⟨_, _, rfl, g7, r7⟩ := r6.cons_decode
  obtain rfl := r7.nil_decode
  obtain ⟨a, rfl, wa⟩ := g1.int_decode
  obtain ⟨b, rfl, wb⟩ := g2.int_decode
  obtain ⟨c, rfl, wc⟩ := g3.int_decode
  obtain ⟨e, rfl, we⟩ := g4.int_decode
  obtain ⟨f, rfl, wf⟩ := g5.int_decode
  obtain ⟨g, rfl, wg⟩ := g6.int_decode
  obtain ⟨s, rfl, ws⟩ := g7.str_decode
  exact ⟨⟨a, b, c, e, f, g, s⟩, rfl, wa, wb, wc, we, wf, wg, ws⟩
theorem doc_decode {l : List D} (h : FitDs l docSh) : ∃ d : Dc, D.agg l = docD d ∧ d.ok := by
  obtain ⟨_, _, rfl, g1, r1⟩ := h.cons_decode
  obtain ⟨_, _, rfl, g2, r2⟩ := r1.cons_decode
  obtain ⟨_, _, rfl, g3, r3⟩ := r2.cons_decode
  obtain ⟨_, _, rfl, g4, r4⟩ := r3.cons_decode
  obtain ⟨_, _, rfl, g5, r5⟩ := r4.cons_decode
  obtain ⟨_, _, rfl, g6, r6⟩ := r5.cons_decode
  obtain ⟨_, _, rfl, g7, r7⟩ := r6.cons_decode
  obtain rfl := r7.nil_decode
  obtain ⟨a, rfl, wa⟩ := g1.int_decode
  obtain ⟨b, rfl, wb⟩ := g2.str_decode
  obtain ⟨c, rfl, wc⟩ := g3.int_decode
  obtain ⟨e, rfl, we⟩ := g4.int_decode
  obtain ⟨f, rfl, wf⟩ := ints_decode g5
  obtain ⟨ts, rfl, wt1, wt2⟩ := FitD.sl_decode (row := Tir.row) (good := Tir.ok) (fun r hr => tier_decode hr) g6
  obtain ⟨ns, rfl, wn1, wn2⟩ := FitD.sl_decode (row := Nt.row) (good := Nt.ok) (fun r hr => note_decode hr) g7
  exact ⟨⟨a, b, c, e, f, ts, ns⟩, rfl, wa, wb, wc, we, wf, ⟨wt1, wt2⟩, wn1, wn2⟩
end Go.V.Doc

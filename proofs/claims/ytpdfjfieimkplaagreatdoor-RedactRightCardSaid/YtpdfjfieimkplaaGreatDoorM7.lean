/- Contracts and plain laws of this seat: part M7. It needs no conditions. -/
import Derived.Test.YtpdfjfieimkplaaGreatDoorM4
import Derived.Test.YtpdfjfieimkplaaGreatDoorM6
set_option linter.unusedVariables false
set_option linter.unusedSimpArgs false
set_option linter.unusedSectionVars false
set_option maxRecDepth 100000
/- Contract: the children of a note in a tier, by the program: at documents of few notes. -/
namespace Go.V
open Go Go.Proofs Go.Sort Go.RowKit

theorem isort_spec (l : List Nt) : PermIn 0 l.length l.toArray (isort l).toArray ∧ SortedIn ltN 0 l.length (isort l).toArray := by
  have := insertionSort_holds swoN l.toArray 0 l.length (Nat.zero_le _) (by simp)
  rw [isort_eq] at this
  exact this
theorem isort_length (l : List Nt) : (isort l).length = l.length := by
  have := (isort_spec l).1.1
  simpa using this
theorem isort_perm (l : List Nt) : (isort l).Perm l := by
  obtain ⟨h1, _, h3⟩ := (isort_spec l).1
  have hl := isort_length l
  have e1 : (isort l).toArray.extract 0 l.length = (isort l).toArray := by rw [show l.length = (isort l).toArray.size by simp [hl]]; simp
  have e2 : l.toArray.extract 0 l.length = l.toArray := by rw [show l.length = l.toArray.size by simp]; simp
  rw [e1, e2] at h3
  simpa using h3
theorem isort_sorted (l : List Nt) : (isort l).Pairwise fun a b => ltN b a = false := by
  have hs := (isort_spec l).2
  have hl := isort_length l
  rw [List.pairwise_iff_getElem]
  intro i j hi hj hij
  have := hs i j (Nat.zero_le _) hij (by omega)
  simpa [getElem!_pos, hi, hj] using this
theorem ins_all (l : List Nt) (hl : l.length < 2^62) :
    CallC Tryz.prog 74 [.ar 0, .d (int 0), .d (int l.length), .fn 35 []] [(0, .arr 44 7 (l.map Nt.row))] 1 (.d (.tup [])) 1 [(0, .arr 44 7 ((isort l).map Nt.row))] [] := by
  cases l with
  | nil =>
    have : isort [] = [] := List.eq_nil_of_length_eq_zero (isort_length [])
    rw [this]
    exact insE_ok.unit
  | cons a r => exact ins_ok 44 (a :: r) (by simp) (by omega) (isort_length _)
theorem stableC_ok (l : List Nt) (hl : l.length < 20) :
    CallC Tryz.prog 71 [.ar 0, .d (int l.length), .fn 35 []] [(0, .arr 44 7 (l.map Nt.row))] 1 (.d (.tup [])) 1 [(0, .arr 44 7 ((isort l).map Nt.row))] [] := by
  refine CallC.unit (callC_of_body mixed Tryz.func71 rfl call_71 (by simp [Sym.los, Sym.lo]) ?_)
  have h20 : ¬ (20 : Int) ≤ l.length := by omega
  have h20' : ¬ (20 : Int) < l.length := by omega
  simp (decide := true) [Tryz.f71, int]
  refine loop_rule mixed (fun _ : Unit => { n := 63, next := 1, slots := [(0, .ar 0), (1, .d (int l.length)), (2, .fn 35 []), (6, .d (int 20)), (7, .d (int 0)), (8, .d (int 20))], own := [(0, .arr 44 7 (l.map Nt.row))], base := 1 })
    (fun _ => True) (fun _ => 0) () trivial (by simp (decide := true) [int]) ?_
  intro _ _
  simp (decide := true) [int, h20]
  refine ECall.mut [0] [.ar 0, .d (int 0), .d (int l.length), .fn 35 []] [(0, .arr 44 7 (l.map Nt.row))] (by rfl) (by simp [int]) (by simp) (by simp) (ins_all l (by omega)) ?_
  simp (decide := true) [int]
  refine loop_rule mixed (fun _ : Unit => { n := 63, next := 1, slots := [(1, .d (int l.length)), (6, .d (int 20))], own := [(0, .arr 44 7 ((isort l).map Nt.row))], base := 1 })
    (fun _ => True) (fun _ => 0) () trivial (by simp (decide := true) [int]) ?_
  intro _ _
  simp (decide := true) [int, h20']
theorem stable_ok (l : List Nt) (hl : l.length < 20) :
    CallC Tryz.prog 44 [.ar 0, .fn 35 []] [(0, .arr 44 7 (l.map Nt.row))] 1 (.d (.tup [])) 1 [(0, .arr 44 7 ((isort l).map Nt.row))] [] := by
  refine CallC.unit (callC_of_body mixed Tryz.func44 rfl call_44 (by simp [Sym.los, Sym.lo]) ?_)
  simp (decide := true) [Tryz.f44, int]
  refine ECall.mut [0] [.ar 0, .d (int l.length), .fn 35 []] [(0, .arr 44 7 (l.map Nt.row))] (by rfl) (by simp [int]) (by simp) (by simp) (stableC_ok l hl) ?_
  simp (decide := true) [int]
/-! ### Kids -/
def kidB (d : Dc) (id t : Int) (n : Nt) : Bool := decide (n.tier = t) && decide (n.par = id) && decide (0 ≤ t) && decide (t < d.tiers.length)
def kidsN (d : Dc) (id t : Int) : List Nt := isort (d.notes.filter (kidB d id t))
def idsOf (l : List Nt) : List Int := l.map (·.id)
set_option maxHeartbeats 2000000 in
theorem kidsF_ok (d : Dc) (id t : Int) (hl : d.notes.length < 20) :
    PureF Tryz.prog 30 [docD d, int id, int t] 3 1 ((idsOf (kidsN d id t)).map fun n => [int n]) := by
  refine fresh_of_body mixed Tryz.func30 rfl call_30 (by simp) ?_
  simp (decide := true) [Tryz.f30, docD, Dc.row, int, ints, tiersD, notesD]
  refine loop_rule mixed (fun k : Nat => { n := 61, next := 3, slots := [(1, .d (int id)), (2, .d (int t)), (3, .bp 0 0), (7, .ar 2), (14, .d (notesD d.notes)), (15, .d (.int .i64 d.notes.length)), (16, .d (.int .i64 k))], own := [(0, .box 28 (docCells d)), (2, .arr 44 7 (((d.notes.take k).filter (kidB d id t)).map Nt.row))], moved := [2] })
    (fun k => k ≤ d.notes.length) (fun k => d.notes.length - k) 0 (by simp) (by simp (decide := true) [int, ints, tiersD, notesD]) ?_
  intro k hk
  by_cases hlt : k < d.notes.length
  · have hlt' : (k : Int) < d.notes.length := by omega
    have e1 : d.notes[k]? = some d.notes[k] := List.getElem?_eq_getElem hlt
    have hsn : (d.notes.take (k + 1)).filter (kidB d id t) = (d.notes.take k).filter (kidB d id t) ++ (if kidB d id t d.notes[k] = true then [d.notes[k]] else []) := by
      rw [take_snoc' hlt, List.filter_append]; by_cases h : kidB d id t d.notes[k] = true <;> simp [h]
    have hlen : ((d.notes.take k).filter (kidB d id t)).length ≤ k := Nat.le_trans (List.length_filter_le _ _) (by rw [List.length_take]; omega)
    have no : kidB d id t d.notes[k] = false → (d.notes.take (k + 1)).filter (kidB d id t) = (d.notes.take k).filter (kidB d id t) := by
      intro h; rw [hsn, if_neg (by simp [h]), List.append_nil]
    by_cases h1 : d.notes[k].tier = t
    case neg =>
      have := no (by simp [kidB, h1])
      simp (decide := true) [notesD, Nt.row, int, hlt, hlt', e1, I64, h1]
      exact ⟨⟨by omega, by omega⟩, k + 1, hlt, by omega, by omega, by rw [this]⟩
    by_cases h2 : d.notes[k].par = id
    case neg =>
      have := no (by simp [kidB, h2])
      simp (decide := true) [notesD, Nt.row, int, hlt, hlt', e1, I64, h1, h2]
      exact ⟨⟨by omega, by omega⟩, k + 1, hlt, by omega, by omega, by rw [this]⟩
    by_cases h3 : 0 ≤ t
    case neg =>
      have := no (by simp [kidB, h3])
      simp (decide := true) [notesD, Nt.row, int, hlt, hlt', e1, I64, h1, h2, h3]
      exact ⟨⟨by omega, by omega⟩, k + 1, hlt, by omega, by omega, by rw [this]⟩
    by_cases h4 : t < d.tiers.length
    case neg =>
      have := no (by simp [kidB, h4])
      simp (decide := true) [notesD, tiersD, Nt.row, int, hlt, hlt', e1, I64, h1, h2, h3, h4]
      exact ⟨⟨by omega, by omega⟩, k + 1, hlt, by omega, by omega, by rw [this]⟩
    have hy : kidB d id t d.notes[k] = true := by simp [kidB, h1, h2, h3, h4]
    rw [if_pos hy] at hsn
    simp (decide := true) [notesD, tiersD, Nt.row, int, hlt, hlt', e1, I64, h1, h2, h3, h4]
    exact ⟨by omega, by unfold maxLen; omega, ⟨by omega, by omega⟩, k + 1, hlt, by omega, by omega, by rw [hsn]; simp [Nt.row, int, h1, h2]⟩
  · have : k = d.notes.length := by omega
    subst this
    rw [List.take_length]
    have hol : (d.notes.filter (kidB d id t)).length ≤ d.notes.length := List.length_filter_le _ _
    simp (decide := true) [int]
    refine ECall.mut [2] [.ar 0, .fn 35 []] [(0, .arr 44 7 ((d.notes.filter (kidB d id t)).map Nt.row))] (by rfl) (by simp [int]) (by simp) (by simp) (stable_ok _ (by omega)) ?_
    have hsl := isort_length (d.notes.filter (kidB d id t))
    unfold kidsN
    rw [← hsl] at hol
    generalize isort (d.notes.filter (kidB d id t)) = s at hol ⊢
    simp (decide := true) [int]
    refine loop_rule mixed (fun k : Nat => { n := 61, next := 4, slots := [(10, .ar 3), (48, .ar 2), (49, .d (.int .i64 s.length)), (50, .d (.int .i64 k))], own := [(2, .arr 44 7 (s.map Nt.row)), (3, .arr 3 1 ((idsOf (s.take k)).map fun n => [int n]))], moved := [3, 2] })
      (fun k => k ≤ s.length) (fun k => s.length - k) 0 (by simp) (by simp (decide := true) [int, idsOf]) ?_
    intro k hk
    by_cases hlt : k < s.length
    · have hlt' : (k : Int) < s.length := by omega
      have e1 : s[k]? = some s[k] := List.getElem?_eq_getElem hlt
      have hsn : idsOf (s.take (k + 1)) = idsOf (s.take k) ++ [s[k].id] := by unfold idsOf; rw [take_snoc' hlt, List.map_append]; rfl
      have hlen : (idsOf (s.take k)).length ≤ k := by unfold idsOf; rw [List.length_map, List.length_take]; omega
      simp (decide := true) [Nt.row, int, hlt, hlt', e1, I64]
      exact ⟨by omega, by unfold maxLen; omega, ⟨by omega, by omega⟩, k + 1, hlt, by omega, by omega, by rw [hsn]; simp [int]⟩
    · have : k = s.length := by omega
      subst this
      rw [List.take_length]
      simp (decide := true) [int, ints]
theorem ints_scalars : ∀ l : List Int, D.scalars ((l.map fun n => [int n]).flatten) = true
  | [] => rfl
  | n :: r => by simp only [List.map_cons, List.flatten_cons, List.cons_append, List.nil_append, D.scalars, ints_scalars r]; rfl
theorem kidsN_ok (d : Dc) (id t : Int) (hl : d.notes.length < 20) : PureN Tryz.prog 30 [docD d, int id, int t] (ints (idsOf (kidsN d id t))) :=
  pureN_of_fresh (kidsF_ok d id t hl) (ints_scalars _)
theorem kids_ok (d : Dc) (id t : Int) (hl : d.notes.length < 20) : PureR Tryz.prog 30 [docD d, int id, int t] (ints (idsOf (kidsN d id t))) := (kidsN_ok d id t hl).toR
end Go.V

/- Plain law: the notes of a tier in order, as the program finds them and as the reference does. -/
namespace Go.V
open Go Go.Proofs

section
variable {d : Dc}
theorem tirAt_nat (d : Dc) {t : Nat} (h : t < d.tiers.length) : tirAt d (t : Int) = d.tiers[t] := by unfold tirAt; rw [Int.toNat_natCast, List.getElem?_eq_getElem h]; rfl
theorem Rgt.kinds (h : Rgt d) {t : Nat} (ht : t < d.tiers.length) : 0 ≤ (tirAt d t).kind ∧ (tirAt d t).kind ≤ 4 := by
  have h1 := h.good.tiers t ht
  rw [tirAt_nat d ht]
  unfold oneE at h1
  split at h1
  · cases h1
  · split at h1
    · cases h1
    · split at h1
      · cases h1
      · omega
theorem Rgt.up (h : Rgt d) {t : Nat} (ht : t < d.tiers.length) (hk : (tirAt d t).kind ≠ 0) : 0 ≤ (tirAt d t).par ∧ (tirAt d t).par.toNat < t := by
  rw [tirAt_nat d ht] at hk ⊢
  have := oneE_parent (h.good.tiers t ht) hk
  rw [List.length_take] at this
  omega
/-- The notes of a tier. -/
def inT (d : Dc) (t : Nat) (n : Nt) : Prop := n ∈ d.notes ∧ n.tier = t
theorem inT_iff {t : Nat} {n : Nt} : n ∈ ofT d.notes t ↔ inT d t n := by
  unfold ofT inT
  rw [List.mem_filter, decide_eq_true_eq]
def upN (d : Dc) (n : Nt) : Nt := (getN d.notes n.par).1
theorem Rgt.parent (h : Rgt d) {t : Nat} {n : Nt} (hn : inT d t n) (ht : t < d.tiers.length) (hk : (tirAt d t).kind ≠ 0) : inT d (tirAt d t).par.toNat (upN d n) ∧ (upN d n).id = n.par := by
  have hp := (place_iff (note_of h.good hn.1).place).2.1
  rw [hn.2] at hp
  obtain ⟨h1, h2⟩ := hp hk
  have hm := getN_mem h1
  have hu := h.up ht hk
  exact ⟨⟨hm.1, by rw [upN, h2]; omega⟩, hm.2⟩
theorem Rgt.root (h : Rgt d) {t : Nat} {n : Nt} (hn : inT d t n) (hk : (tirAt d t).kind = 0) : n.par = 0 := by
  have hp := (place_iff (note_of h.good hn.1).place).1
  rw [hn.2] at hp
  exact hp hk
/-- Whether a note precedes another one of its tier. -/
def befT (d : Dc) (t : Nat) (a b : Nt) : Bool :=
  if a.par ≠ b.par then (if h : (tirAt d t).par.toNat < t then befT d (tirAt d t).par.toNat (upN d a) (upN d b) else false)
  else if alK (tirAt d t).kind = true then decide (a.fr < b.fr) else decide (a.rank < b.rank)
termination_by t
def keyT (d : Dc) (t : Nat) (n : Nt) : Int := if alK (tirAt d t).kind = true then n.fr else n.rank
theorem bef_same {t : Nat} {a b : Nt} (h : a.par = b.par) : befT d t a b = decide (keyT d t a < keyT d t b) := by
  rw [befT, if_neg (by simp [h])]
  unfold keyT
  split <;> rfl
theorem bef_up {t : Nat} {a b : Nt} (h : a.par ≠ b.par) (hu : (tirAt d t).par.toNat < t) : befT d t a b = befT d (tirAt d t).par.toNat (upN d a) (upN d b) := by
  rw [befT, if_pos h, dif_pos hu]
theorem pos_lt {s : List Nt} {i j : Nat} (hij : i < j) (hj : j < s.length) (hp : (gN s i).par = (gN s j).par) : posN s i < posN s j := by
  have hi : i < s.length := by omega
  have h1 : (s.take (i + 1)).Sublist (s.take j) := by
    have : s.take (i + 1) = (s.take j).take (i + 1) := by rw [List.take_take]; congr 1; omega
    rw [this]; exact List.take_sublist _ _
  have h2 := (h1.filter fun n => decide (n.par = (gN s j).par)).length_le
  rw [take_snoc' hi, List.filter_append, List.length_append] at h2
  have : [s[i]].filter (fun n => decide (n.par = (gN s j).par)) = [s[i]] := by
    rw [List.filter_cons_of_pos (by rw [← gN_eq hi]; simpa using hp)]; rfl
  rw [this] at h2
  unfold posN
  rw [hp]
  simp only [List.length_singleton] at h2
  omega
/-- Siblings have keys of their own. -/
theorem Rgt.keys (h : Rgt d) {t : Nat} (ht : t < d.tiers.length) {a b : Nt} (ha : inT d t a) (hb : inT d t b) (hp : a.par = b.par) (hk : keyT d t a = keyT d t b) : a = b := by
  apply Classical.byContradiction
  intro hne
  have hte := ter_iff.1 (h.ter t ht)
  have hov := hte.1 a (inT_iff.2 ha)
  have hbad := hte.2 a (inT_iff.2 ha)
  have hma : a ∈ sibs d.notes t a.par := by unfold sibs; rw [List.mem_filter]; exact ⟨ha.1, by simp [ha.2]⟩
  have hmb : b ∈ sibs d.notes t a.par := by unfold sibs; rw [List.mem_filter]; exact ⟨hb.1, by simp [hb.2, hp]⟩
  cases hal : alK (tirAt d t).kind with
  | true =>
    unfold ovR at hov
    rw [hal, Bool.true_and, over_pair] at hov
    have hra := right_of (note_of h.good ha.1) (by rw [ha.2]; exact hal)
    have hrb := right_of (note_of h.good hb.1) (by rw [hb.2]; exact hal)
    simp only [rightS, Bool.and_eq_true, decide_eq_true_eq] at hra hrb
    unfold keyT at hk
    rw [if_pos hal, if_pos hal] at hk
    generalize sibs d.notes t a.par = S at hov hma hmb
    obtain ⟨i, hi, rfl⟩ := List.mem_iff_getElem.1 hma
    obtain ⟨j, hj, rfl⟩ := List.mem_iff_getElem.1 hmb
    have hpw := List.pairwise_iff_getElem.1 hov
    rcases Nat.lt_trichotomy i j with h1 | rfl | h1
    · exact hpw i j hi hj h1 ⟨by omega, by omega⟩
    · exact hne rfl
    · exact hpw j i hj hi h1 ⟨by omega, by omega⟩
  | false =>
    unfold keyT at hk
    rw [hal] at hk
    simp only [Bool.false_eq_true, if_false] at hk
    have hkd := h.kinds ht
    have k0 : (tirAt d t).kind ≠ 0 := by intro e; rw [e] at hal; cases hal
    have k1 : (tirAt d t).kind ≠ 1 := by intro e; rw [e] at hal; cases hal
    have k2 : (tirAt d t).kind ≠ 2 := by intro e; rw [e] at hal; cases hal
    by_cases k3 : (tirAt d t).kind = 3
    · have hall : ∀ n ∈ ofT d.notes t, rankP (sibs d.notes t n.par) = true := by
        intro n hn
        have := hte.2 n hn
        rw [k3] at this
        simpa [badR] using this
      have hs := srt_of (ofT d.notes t)
      have hperm := sortN_perm (ofT d.notes t)
      have hl : (sortN (ofT d.notes t)).length < 2^40 := by
        rw [sortN_length]
        have : (ofT d.notes t).length ≤ d.notes.length := List.length_filter_le _ _
        have := h.few
        omega
      have hz : ∀ n ∈ sortN (ofT d.notes t), n.fr = 0 := by
        intro n hn
        have hn := inT_iff.1 (hperm.mem_iff.1 hn)
        exact (flat_of (note_of h.good hn.1) (by rw [hn.2]; exact hal)).1
      have hrk := (rk_pos hs hl).1 ((rank_all hperm hs hl hz).2 hall)
      obtain ⟨i, hi, ei⟩ := List.mem_iff_getElem.1 (hperm.mem_iff.2 (inT_iff.2 ha))
      obtain ⟨j, hj, ej⟩ := List.mem_iff_getElem.1 (hperm.mem_iff.2 (inT_iff.2 hb))
      rw [← gN_eq hi] at ei
      rw [← gN_eq hj] at ej
      have r1 := hrk i hi
      have r2 := hrk j hj
      rw [ei] at r1
      rw [ej] at r2
      rcases Nat.lt_trichotomy i j with h1 | rfl | h1
      · have := pos_lt h1 hj (by rw [ei, ej, hp]); omega
      · exact hne (ei.symm.trans ej)
      · have := pos_lt h1 hi (by rw [ei, ej, hp]); omega
    · have k4 : (tirAt d t).kind = 4 := by omega
      have hlen : ¬ 1 < (sibs d.notes t a.par).length := by
        rw [k4] at hbad
        simp [badR] at hbad
        omega
      generalize sibs d.notes t a.par = S at hlen hma hmb
      obtain ⟨i, hi, rfl⟩ := List.mem_iff_getElem.1 hma
      obtain ⟨j, hj, rfl⟩ := List.mem_iff_getElem.1 hmb
      have : i = j := by omega
      subst this
      exact hne rfl
/-- A document of which the orders of the tiers can be told; what is asked of times is less than what a right document has. -/
structure Wgt (d : Dc) : Prop where
  good : ∀ j, (h : j < d.tiers.length) → oneE (d.tiers.take j) d.tiers[j] = 0
  few : d.notes.length ≤ 300
  nok : ∀ n ∈ d.notes, 0 ≤ n.tier ∧ n.tier < d.tiers.length
  inc : d.notes.Pairwise fun a b => a.id < b.id
  par : ∀ (t : Nat), t < d.tiers.length → (tirAt d t).kind ≠ 0 → ∀ n, inT d t n → inT d (tirAt d t).par.toNat (upN d n) ∧ (upN d n).id = n.par
  top : ∀ (t : Nat) n, inT d t n → (tirAt d t).kind = 0 → n.par = 0
  flat : ∀ (t : Nat) n, inT d t n → alK (tirAt d t).kind = false → n.fr = 0
  key : ∀ (t : Nat), t < d.tiers.length → ∀ a b, inT d t a → inT d t b → a.par = b.par → keyT d t a = keyT d t b → a = b
theorem Rgt.w (h : Rgt d) : Wgt d := ⟨h.good.tiers, h.few, fun n hn => ⟨(h.nok n hn).t0, (h.nok n hn).t1⟩, h.inc, fun t ht hk n hn => h.parent hn ht hk, fun t n hn hk => h.root hn hk,
  fun t n hn hal => (flat_of (note_of h.good hn.1) (by rw [hn.2]; exact hal)).1, fun t ht a b ha hb hp hk => h.keys ht ha hb hp hk⟩
theorem Wgt.up (h : Wgt d) {t : Nat} (ht : t < d.tiers.length) (hk : (tirAt d t).kind ≠ 0) : 0 ≤ (tirAt d t).par ∧ (tirAt d t).par.toNat < t := by
  rw [tirAt_nat d ht] at hk ⊢
  have := oneE_parent (h.good t ht) hk
  rw [List.length_take] at this
  omega
theorem Wgt.parent (h : Wgt d) {t : Nat} {n : Nt} (hn : inT d t n) (ht : t < d.tiers.length) (hk : (tirAt d t).kind ≠ 0) : inT d (tirAt d t).par.toNat (upN d n) ∧ (upN d n).id = n.par := h.par t ht hk n hn
theorem Wgt.root (h : Wgt d) {t : Nat} {n : Nt} (hn : inT d t n) (hk : (tirAt d t).kind = 0) : n.par = 0 := h.top t n hn hk
theorem Wgt.keys (h : Wgt d) {t : Nat} (ht : t < d.tiers.length) {a b : Nt} (ha : inT d t a) (hb : inT d t b) (hp : a.par = b.par) (hk : keyT d t a = keyT d t b) : a = b := h.key t ht a b ha hb hp hk
theorem Wgt.uniq (h : Wgt d) {a b : Nt} (ha : a ∈ d.notes) (hb : b ∈ d.notes) (e : a.id = b.id) : a = b := by
  obtain ⟨i, hi, rfl⟩ := List.mem_iff_getElem.1 ha
  obtain ⟨j, hj, rfl⟩ := List.mem_iff_getElem.1 hb
  have hp := List.pairwise_iff_getElem.1 h.inc
  rcases Nat.lt_trichotomy i j with h1 | rfl | h1
  · have := hp i j hi hj h1; omega
  · rfl
  · have := hp j i hj hi h1; omega
theorem Wgt.get (h : Wgt d) {n : Nt} (hn : n ∈ d.notes) : getN d.notes n.id = (n, true) := by
  unfold getN
  cases hf : d.notes.find? fun m => decide (m.id = n.id) with
  | none => rw [List.find?_eq_none] at hf; exact absurd (hf n hn) (by simp)
  | some m =>
    have h1 := List.mem_of_find?_eq_some hf
    have h2 : m.id = n.id := by simpa using List.find?_some hf
    rw [h.uniq h1 hn h2]
/-- An order without ties. -/
structure Sto (R : Nt → Nt → Bool) (M : Nt → Prop) : Prop where
  asym : ∀ a b, M a → M b → R a b = true → R b a = true → False
  trans : ∀ a b c, M a → M b → M c → R a b = true → R b c = true → R a c = true
  total : ∀ a b, M a → M b → a ≠ b → R a b = true ∨ R b a = true
theorem Wgt.sto (h : Wgt d) : ∀ (t : Nat), t < d.tiers.length → Sto (befT d t) (inT d t) := by
  intro t
  induction t using Nat.strongRecOn with
  | _ t ih =>
    intro ht
    by_cases hk : (tirAt d t).kind = 0
    · have hp : ∀ a b, inT d t a → inT d t b → a.par = b.par := fun a b ha hb => by rw [h.root ha hk, h.root hb hk]
      refine ⟨?_, ?_, ?_⟩
      · intro a b ha hb h1 h2
        rw [bef_same (hp a b ha hb), decide_eq_true_eq] at h1
        rw [bef_same (hp b a hb ha), decide_eq_true_eq] at h2
        omega
      · intro a b c ha hb hc h1 h2
        rw [bef_same (hp a b ha hb), decide_eq_true_eq] at h1
        rw [bef_same (hp b c hb hc), decide_eq_true_eq] at h2
        rw [bef_same (hp a c ha hc), decide_eq_true_eq]
        omega
      · intro a b ha hb hne
        rw [bef_same (hp a b ha hb), bef_same (hp b a hb ha), decide_eq_true_eq, decide_eq_true_eq]
        have : ¬ keyT d t a = keyT d t b := fun e => hne (h.keys ht ha hb (hp a b ha hb) e)
        omega
    · have hu := h.up ht hk
      have ih' := ih _ hu.2 (by omega)
      have pu : ∀ a, inT d t a → inT d (tirAt d t).par.toNat (upN d a) ∧ (upN d a).id = a.par := fun a ha => h.parent ha ht hk
      have une : ∀ a b, inT d t a → inT d t b → a.par ≠ b.par → upN d a ≠ upN d b := fun a b ha hb hne e => hne (by rw [← (pu a ha).2, ← (pu b hb).2, e])
      have ueq : ∀ a b, inT d t a → inT d t b → a.par = b.par → upN d a = upN d b := fun a b ha hb e => h.uniq (pu a ha).1.1 (pu b hb).1.1 (by rw [(pu a ha).2, (pu b hb).2, e])
      refine ⟨?_, ?_, ?_⟩
      · intro a b ha hb h1 h2
        by_cases hp : a.par = b.par
        · rw [bef_same hp, decide_eq_true_eq] at h1
          rw [bef_same hp.symm, decide_eq_true_eq] at h2
          omega
        · rw [bef_up hp hu.2] at h1
          rw [bef_up (Ne.symm hp) hu.2] at h2
          exact ih'.asym _ _ (pu a ha).1 (pu b hb).1 h1 h2
      · intro a b c ha hb hc h1 h2
        by_cases hab : a.par = b.par
        · by_cases hbc : b.par = c.par
          · rw [bef_same hab, decide_eq_true_eq] at h1
            rw [bef_same hbc, decide_eq_true_eq] at h2
            rw [bef_same (hab.trans hbc), decide_eq_true_eq]
            omega
          · rw [bef_up hbc hu.2] at h2
            rw [bef_up (by rw [hab]; exact hbc) hu.2, ueq a b ha hb hab]
            exact h2
        · rw [bef_up hab hu.2] at h1
          by_cases hbc : b.par = c.par
          · rw [bef_up (by rw [← hbc]; exact hab) hu.2, ← ueq b c hb hc hbc]
            exact h1
          · rw [bef_up hbc hu.2] at h2
            by_cases hac : a.par = c.par
            · rw [ueq a c ha hc hac] at h1
              exact (ih'.asym _ _ (pu c hc).1 (pu b hb).1 h1 h2).elim
            · rw [bef_up hac hu.2]
              exact ih'.trans _ _ _ (pu a ha).1 (pu b hb).1 (pu c hc).1 h1 h2
      · intro a b ha hb hne
        by_cases hp : a.par = b.par
        · rw [bef_same hp, bef_same hp.symm, decide_eq_true_eq, decide_eq_true_eq]
          have : ¬ keyT d t a = keyT d t b := fun e => hne (h.keys ht ha hb hp e)
          omega
        · rw [bef_up hp hu.2, bef_up (Ne.symm hp) hu.2]
          exact ih'.total _ _ (pu a ha).1 (pu b hb).1 (une a b ha hb hp)
theorem Sto.irr {R : Nt → Nt → Bool} {M : Nt → Prop} (h : Sto R M) {a : Nt} (ha : M a) (hr : R a a = true) : False := h.asym a a ha ha hr hr
theorem Sto.eq {R : Nt → Nt → Bool} {M : Nt → Prop} (h : Sto R M) {l m : List Nt} (hl : ∀ x ∈ l, M x) (hp : l.Perm m) (h1 : l.Pairwise fun a b => R a b = true) (h2 : m.Pairwise fun a b => R a b = true) : l = m :=
  List.Perm.eq_of_pairwise (le := fun a b => R a b = true) (fun a b ha hb r1 r2 => (h.asym a b (hl a ha) (hl b (hp.mem_iff.2 hb)) r1 r2).elim) h1 h2 hp
theorem Sto.nodup {R : Nt → Nt → Bool} {M : Nt → Prop} (h : Sto R M) {l : List Nt} (hl : ∀ x ∈ l, M x) (h1 : l.Pairwise fun a b => R a b = true) : l.Nodup :=
  h1.imp_of_mem fun {a b} ha hb hr e => h.irr (hl a ha) (by rw [e] at hr ⊢; exact hr)
theorem notes_nodup (h : Wgt d) : d.notes.Nodup := h.inc.imp fun {a b} hab e => by rw [e] at hab; omega
/-! ### the program's -/
theorem kid_mem {id : Int} {t : Nat} (ht : t < d.tiers.length) {x : Nt} : x ∈ kidsN d id t ↔ inT d t x ∧ x.par = id := by
  unfold kidsN inT
  rw [(isort_perm _).mem_iff, List.mem_filter]
  simp only [kidB, Bool.and_eq_true, decide_eq_true_eq]
  constructor
  · rintro ⟨h1, ⟨⟨h2, h3⟩, _⟩, _⟩; exact ⟨⟨h1, h2⟩, h3⟩
  · rintro ⟨⟨h1, h2⟩, h3⟩; exact ⟨h1, ⟨⟨h2, h3⟩, by omega⟩, by omega⟩
theorem kid_sorted (h : Wgt d) {id : Int} {t : Nat} (ht : t < d.tiers.length) : (kidsN d id t).Pairwise fun a b => befT d t a b = true := by
  have h1 := isort_sorted (d.notes.filter (kidB d id t))
  have h2 : (kidsN d id t).Nodup := (isort_perm _).nodup_iff.2 ((notes_nodup h).sublist List.filter_sublist)
  have h3 := List.pairwise_and_iff.2 ⟨h1, h2⟩
  refine h3.imp_of_mem fun {a b} ha hb hab => ?_
  obtain ⟨ha, pa⟩ := (kid_mem ht).1 ha
  obtain ⟨hb, pb⟩ := (kid_mem ht).1 hb
  have hp : a.par = b.par := by rw [pa, pb]
  have hlt := ltN_false.1 hab.1
  have hk : ¬ keyT d t a = keyT d t b := fun e => hab.2 (h.keys ht ha hb hp e)
  rw [bef_same hp, decide_eq_true_eq]
  unfold keyT at hk ⊢
  cases hal : alK (tirAt d t).kind with
  | true => rw [hal] at hk; simp only [if_true] at hk ⊢; omega
  | false =>
    rw [hal] at hk
    simp only [Bool.false_eq_true, if_false] at hk ⊢
    have za := h.flat t a ha hal
    have zb := h.flat t b hb hal
    omega
/-- The notes of a tier in order, as the program finds them. -/
def ofN (d : Dc) (t : Nat) : List Nt :=
  if (tirAt d t).kind = 0 then kidsN d 0 t else if h : (tirAt d t).par.toNat < t then (ofN d (tirAt d t).par.toNat).flatMap fun p => kidsN d p.id t else []
termination_by t
theorem of_mem (h : Wgt d) : ∀ (t : Nat), t < d.tiers.length → ∀ x, x ∈ ofN d t ↔ inT d t x := by
  intro t
  induction t using Nat.strongRecOn with
  | _ t ih =>
    intro ht x
    rw [ofN]
    by_cases hk : (tirAt d t).kind = 0
    · rw [if_pos hk, kid_mem ht]
      exact ⟨fun e => e.1, fun e => ⟨e, h.root e hk⟩⟩
    · have hu := h.up ht hk
      rw [if_neg hk, dif_pos hu.2, List.mem_flatMap]
      constructor
      · rintro ⟨p, _, hx⟩; exact ((kid_mem ht).1 hx).1
      · intro hx
        obtain ⟨p1, p2⟩ := h.parent hx ht hk
        exact ⟨upN d x, (ih _ hu.2 (by omega) _).2 p1, (kid_mem ht).2 ⟨hx, p2.symm⟩⟩
theorem of_sorted (h : Wgt d) : ∀ (t : Nat), t < d.tiers.length → (ofN d t).Pairwise fun a b => befT d t a b = true := by
  intro t
  induction t using Nat.strongRecOn with
  | _ t ih =>
    intro ht
    rw [ofN]
    by_cases hk : (tirAt d t).kind = 0
    · rw [if_pos hk]; exact kid_sorted h ht
    · have hu := h.up ht hk
      have hpl : (tirAt d t).par.toNat < d.tiers.length := by omega
      rw [if_neg hk, dif_pos hu.2, List.pairwise_flatMap]
      refine ⟨fun p _ => kid_sorted h ht, (ih _ hu.2 hpl).imp_of_mem fun {p q} hp hq hpq x hx y hy => ?_⟩
      have hp := (of_mem h _ hpl p).1 hp
      have hq := (of_mem h _ hpl q).1 hq
      obtain ⟨hx, px⟩ := (kid_mem ht).1 hx
      obtain ⟨hy, py⟩ := (kid_mem ht).1 hy
      have hne : x.par ≠ y.par := by
        intro e
        have : p = q := h.uniq hp.1 hq.1 (by rw [← px, ← py, e])
        subst this
        exact (h.sto _ hpl).irr hp hpq
      have ux : upN d x = p := h.uniq (h.parent hx ht hk).1.1 hp.1 (by rw [(h.parent hx ht hk).2, px])
      have uy : upN d y = q := h.uniq (h.parent hy ht hk).1.1 hq.1 (by rw [(h.parent hy ht hk).2, py])
      rw [bef_up hne hu.2, ux, uy]
      exact hpq
theorem of_perm (h : Wgt d) {t : Nat} (ht : t < d.tiers.length) : (ofN d t).Perm (ofT d.notes t) := by
  have hn : (ofT d.notes t).Nodup := (notes_nodup h).sublist List.filter_sublist
  rw [List.perm_ext_iff_of_nodup ((h.sto t ht).nodup (fun x hx => (of_mem h t ht x).1 hx) (of_sorted h t ht)) hn]
  intro x
  rw [of_mem h t ht, inT_iff]
theorem of_length (h : Wgt d) {t : Nat} (ht : t < d.tiers.length) : (ofN d t).length ≤ d.notes.length := by
  rw [(of_perm h ht).length_eq]; exact List.length_filter_le _ _
/-! ### the reference's -/
def insAt (R : Nt → Nt → Bool) (n : Nt) (l : List Nt) : Nat → Nat
  | 0 => 0
  | k + 1 => if R n (gN l k) = true then insAt R n l k else k + 1
def insR (R : Nt → Nt → Bool) (l : List Nt) (n : Nt) : List Nt := l.take (insAt R n l l.length) ++ n :: l.drop (insAt R n l l.length)
theorem insAt_spec {R : Nt → Nt → Bool} {n : Nt} {l : List Nt} : ∀ (k : Nat), k ≤ l.length → insAt R n l k ≤ k ∧ (∀ i, insAt R n l k ≤ i → i < k → R n (gN l i) = true) ∧ (insAt R n l k ≠ 0 → R n (gN l (insAt R n l k - 1)) = false)
  | 0, _ => ⟨Nat.le_refl _, fun i h1 h2 => by omega, fun h => absurd rfl h⟩
  | k + 1, hk => by
    have ih := insAt_spec (R := R) (n := n) (l := l) k (by omega)
    simp only [insAt]
    split
    · rename_i hr
      refine ⟨by omega, fun i h1 h2 => ?_, ih.2.2⟩
      rcases Nat.eq_or_lt_of_le (show i ≤ k by omega) with e | e
      · rw [e]; exact hr
      · exact ih.2.1 i h1 e
    · rename_i hr
      exact ⟨Nat.le_refl _, fun i h1 h2 => by omega, fun _ => by simpa using hr⟩
theorem insR_perm (R : Nt → Nt → Bool) (l : List Nt) (n : Nt) : (insR R l n).Perm (n :: l) := by
  unfold insR
  refine List.perm_middle.trans ?_
  rw [List.take_append_drop]
theorem insR_length (R : Nt → Nt → Bool) (l : List Nt) (n : Nt) : (insR R l n).length = l.length + 1 := by
  rw [(insR_perm R l n).length_eq]; rfl
theorem insR_sorted {R : Nt → Nt → Bool} {M : Nt → Prop} (hR : Sto R M) {l : List Nt} {n : Nt} (hl : ∀ x ∈ l, M x) (hn : M n) (hnl : n ∉ l) (hs : l.Pairwise fun a b => R a b = true) : (insR R l n).Pairwise fun a b => R a b = true := by
  obtain ⟨h1, h2, h3⟩ := insAt_spec (R := R) (n := n) (l := l) l.length (Nat.le_refl _)
  unfold insR
  generalize insAt R n l l.length = k at h1 h2 h3
  have hpw := List.pairwise_iff_getElem.1 hs
  have low : ∀ x ∈ l.take k, R x n = true := by
    intro x hx
    obtain ⟨i, hi, rfl⟩ := List.mem_take_iff_getElem.1 hx
    have hil : i < l.length := by omega
    have hik : i < k := by omega
    have hk1 : k - 1 < l.length := by omega
    have h4 := h3 (by omega)
    rw [gN_eq hk1] at h4
    have hm1 : M l[k - 1] := hl _ (List.getElem_mem hk1)
    have h5 : R l[k - 1] n = true := by
      rcases hR.total _ _ hm1 hn (fun e => hnl (by rw [← e]; exact List.getElem_mem hk1)) with e | e
      · exact e
      · rw [h4] at e; cases e
    rcases Nat.eq_or_lt_of_le (show i ≤ k - 1 by omega) with e | e
    · subst e; exact h5
    · exact hR.trans _ _ _ (hl _ (List.getElem_mem hil)) hm1 hn (hpw i (k - 1) hil hk1 e) h5
  have high : ∀ x ∈ l.drop k, R n x = true := by
    intro x hx
    obtain ⟨i, hi, rfl⟩ := List.mem_iff_getElem.1 hx
    rw [List.length_drop] at hi
    rw [List.getElem_drop]
    have := h2 (k + i) (by omega) (by omega)
    rwa [gN_eq (by omega)] at this
  rw [List.pairwise_append]
  refine ⟨hs.sublist (List.take_sublist _ _), ?_, ?_⟩
  · rw [List.pairwise_cons]
    exact ⟨high, hs.sublist (List.drop_sublist _ _)⟩
  · intro a ha b hb
    rcases List.mem_cons.1 hb with e | hb
    · rw [e]; exact low a ha
    · obtain ⟨i, hi, rfl⟩ := List.mem_take_iff_getElem.1 ha
      obtain ⟨j, hj, rfl⟩ := List.mem_iff_getElem.1 hb
      rw [List.length_drop] at hj
      rw [List.getElem_drop]
      exact hpw i (k + j) (by omega) (by omega) (by omega)
def refStep (d : Dc) (t : Int) (l : List Nt) (n : Nt) : List Nt := if n.tier = t then insR (befT d t.toNat) l n else l
def refOf (d : Dc) (t : Int) : List Nt := d.notes.foldl (refStep d t) []
theorem refs_inv (h : Wgt d) {t : Nat} (ht : t < d.tiers.length) : ∀ (m l : List Nt), m.Sublist d.notes → (∀ x ∈ m, x ∉ l) → (∀ x ∈ l, inT d t x) → l.Pairwise (fun a b => befT d t a b = true) →
    (m.foldl (refStep d t) l).Pairwise (fun a b => befT d t a b = true) ∧ (m.foldl (refStep d t) l).Perm (ofT m t ++ l)
  | [], l, _, _, _, hs => ⟨hs, by simp [ofT]⟩
  | n :: m, l, hsub, hd, hl, hs => by
    have hnd : (n :: m).Nodup := (notes_nodup h).sublist hsub
    have hnm := List.nodup_cons.1 hnd
    rw [List.foldl_cons]
    have hn : n ∈ d.notes := hsub.subset (by simp)
    have hsub' : m.Sublist d.notes := (List.sublist_cons_self _ _).trans hsub
    unfold refStep
    by_cases e : n.tier = t
    · rw [if_pos e]
      have hp := insR_perm (befT d (t : Int).toNat) l n
      obtain ⟨h1, h2⟩ := refs_inv h ht m (insR (befT d (t : Int).toNat) l n) hsub' (fun x hx hxl => by
          rcases List.mem_cons.1 (hp.mem_iff.1 hxl) with e' | e'
          · subst e'; exact hnm.1 hx
          · exact hd x (by simp [hx]) e')
        (fun x hx => by
          rcases List.mem_cons.1 (hp.mem_iff.1 hx) with e' | e'
          · subst e'; exact ⟨hn, e⟩
          · exact hl x e')
        (insR_sorted (h.sto t ht) hl ⟨hn, e⟩ (hd n (by simp)) hs)
      refine ⟨h1, h2.trans ?_⟩
      have e2 : ofT (n :: m) t = n :: ofT m t := by unfold ofT; rw [List.filter_cons_of_pos (by simpa using e)]
      rw [e2]
      exact (List.Perm.append_left _ hp).trans List.perm_middle
    · rw [if_neg e]
      have e2 : ofT (n :: m) t = ofT m t := by unfold ofT; rw [List.filter_cons_of_neg (by simpa using e)]
      rw [e2]
      exact refs_inv h ht m l hsub' (fun x hx => hd x (by simp [hx])) hl hs
theorem ref_of (h : Wgt d) {t : Nat} (ht : t < d.tiers.length) : refOf d t = ofN d t := by
  obtain ⟨h1, h2⟩ := refs_inv h ht d.notes [] (List.Sublist.refl _) (fun x _ => by simp) (fun x hx => by cases hx) List.Pairwise.nil
  rw [List.append_nil] at h2
  refine (h.sto t ht).eq (fun x hx => ?_) (h2.trans (of_perm h ht).symm) h1 (of_sorted h t ht)
  exact inT_iff.1 (h2.mem_iff.1 hx)
theorem ref_none (h : Wgt d) {t : Int} (ht : ¬ (0 ≤ t ∧ t < d.tiers.length)) : refOf d t = [] := by
  have : ∀ (m l : List Nt), (∀ x ∈ m, x ∈ d.notes) → m.foldl (refStep d t) l = l := by
    intro m
    induction m with
    | nil => intro l _; rfl
    | cons n m ih =>
      intro l hm
      rw [List.foldl_cons]
      have hn := h.nok n (hm n (by simp))
      have e : ¬ n.tier = t := fun e => ht ⟨by rw [← e]; exact hn.1, by rw [← e]; exact hn.2⟩
      rw [refStep, if_neg e]
      exact ih l fun x hx => hm x (by simp [hx])
  exact this _ _ fun x hx => hx
/-- The notes of a tier in order; none where there is no such tier. -/
def ofP (d : Dc) (t : Int) : List Nt := if 0 ≤ t ∧ t < d.tiers.length then ofN d t.toNat else []
theorem ref_ofP (h : Wgt d) (t : Int) : refOf d t = ofP d t := by
  unfold ofP
  split
  · rename_i ht
    obtain ⟨k, rfl⟩ : ∃ k : Nat, t = k := ⟨t.toNat, by omega⟩
    rw [Int.toNat_natCast]
    exact ref_of h (by omega)
  · rename_i ht; exact ref_none h ht
theorem kids_of (h : Wgt d) (id t : Int) : (ofP d t).filter (fun n => decide (n.par = id)) = kidsN d id t := by
  unfold ofP
  split
  · rename_i ht
    obtain ⟨k, rfl⟩ : ∃ k : Nat, t = k := ⟨t.toNat, by omega⟩
    rw [Int.toNat_natCast]
    have hk : k < d.tiers.length := by omega
    refine (h.sto k hk).eq (fun x hx => (of_mem h k hk x).1 (List.mem_filter.1 hx).1) ?_ ((of_sorted h k hk).sublist List.filter_sublist) (kid_sorted h hk)
    rw [List.perm_ext_iff_of_nodup (((h.sto k hk).nodup (fun x hx => (of_mem h k hk x).1 hx) (of_sorted h k hk)).sublist List.filter_sublist) ((h.sto k hk).nodup (fun x hx => ((kid_mem hk).1 hx).1) (kid_sorted h hk))]
    intro x
    rw [List.mem_filter, of_mem h k hk, kid_mem hk, decide_eq_true_eq]
  · rename_i ht
    have : d.notes.filter (kidB d id t) = [] := by
      rw [List.filter_eq_nil_iff]
      intro x _ hx
      simp only [kidB, Bool.and_eq_true, decide_eq_true_eq] at hx
      exact ht ⟨hx.1.2, hx.2⟩
    unfold kidsN
    rw [this]
    rfl
end
end Go.V

/- Contracts: the notes of a tier in order, by the program and by the reference. -/
namespace Go.V
open Go Go.Proofs

section
variable {d : Dc}
theorem idsOf_length (l : List Nt) : (idsOf l).length = l.length := by simp [idsOf]
end
end Go.V

/- Contracts: the notes of a tier in order, and the children of a note, by the reference. -/
namespace Go.V
open Go Go.Proofs

section
variable {d : Dc}
theorem refs_len (d : Dc) (t : Int) : ∀ (m l : List Nt), (m.foldl (refStep d t) l).length ≤ m.length + l.length
  | [], l => by simp
  | n :: m, l => by
    rw [List.foldl_cons]
    refine Nat.le_trans (refs_len d t m _) ?_
    unfold refStep
    split
    · rw [insR_length, List.length_cons]; omega
    · rw [List.length_cons]; omega
theorem refs_mem (h : Wgt d) (t : Int) {m : List Nt} (hs : m.Sublist d.notes) {x : Nt} : ∀ {l : List Nt}, x ∈ m.foldl (refStep d t) l → x ∈ l ∨ (x ∈ d.notes ∧ x.tier = t) := by
  induction m with
  | nil => intro l hx; exact .inl hx
  | cons n m ih =>
    intro l hx
    rw [List.foldl_cons] at hx
    rcases ih ((List.sublist_cons_self _ _).trans hs) hx with e | e
    · unfold refStep at e
      split at e
      · rename_i ht
        rcases List.mem_cons.1 ((insR_perm _ _ _).mem_iff.1 e) with e | e
        · subst e; exact .inr ⟨hs.subset (by simp), ht⟩
        · exact .inl e
      · exact .inl e
    · exact .inr e
theorem map_ins (R : Nt → Nt → Bool) (l : List Nt) (n : Nt) : (insR R l n).map Nt.row = (l.map Nt.row).take (insAt R n l l.length) ++ [n.row] ++ (l.map Nt.row).drop (insAt R n l l.length) := by
  unfold insR
  rw [List.map_append, List.map_cons, List.map_take, List.map_drop]; simp
theorem rows7o {l : List Nt} {r : List D} (h : r ∈ l.map Nt.row) : r.length = 7 := by
  obtain ⟨x, _, rfl⟩ := List.mem_map.1 h; rfl
end
end Go.V

/- Contracts and plain laws of this seat: part MA. It needs no conditions. -/
import Derived.Test.YtpdfjfieimkplaaM9
import Derived.Test.YtpdfjfieimkplaaM8
import Derived.Test.YtpdfjfieimkplaaM2
set_option linter.unusedVariables false
set_option linter.unusedSimpArgs false
set_option linter.unusedSectionVars false
set_option maxRecDepth 100000
/- Contract of chapter 46: the notes that are kept, by the reference. -/
namespace Go.V
open Go Go.Proofs

theorem refHasI_ok (l : List Int) (x : Int) (hl : l.length < 2^62) : PureR Try.prog 33 [ints l, int x] (.bool (decide (x ∈ l))) := by
  refine pure_of_body mixed Try.func33 rfl call_33 ?_
  simp [Try.f33, ints, int]
  refine loop_rule mixed (fun k : Nat => { n := 18, next := 0, slots := [(0, .d (ints l)), (1, .d (int x)), (7, .d (.int .i64 l.length)), (8, .d (.int .i64 k))], own := [] })
    (fun k => k ≤ l.length ∧ x ∉ l.take k) (fun k => l.length - k) 0 (by simp) (by simp [ints, int]) ?_
  intro k ⟨hk, hp⟩
  by_cases hlt : k < l.length
  · have e1 : l[k]? = some l[k] := List.getElem?_eq_getElem hlt
    simp (decide := true) [ints, int, e1, hlt, I64]
    refine ⟨fun h => ?_, fun h => ⟨by omega, k + 1, ⟨hlt, ?_⟩, by omega, by omega⟩⟩
    · rw [← h]; exact List.getElem_mem hlt
    · rw [take_snoc' hlt, List.mem_append, not_or]; exact ⟨hp, by simpa using fun e => h e.symm⟩
  · have : k = l.length := by omega
    subst this
    simp (decide := true) [ints, int]
    simpa using hp
def sibB (d : Dc) (a b : Nt) : Bool := decide (a.tier = b.tier) && decide (a.par = b.par) && decide ((tirAt d a.tier).kind = 1)
theorem sib_ok (d : Dc) (h : Rgt d) (a b : Nt) (ha : a ∈ d.notes) : PureR Try.prog 35 [docD d, .agg a.row, .agg b.row] (.bool (sibB d a b)) := by
  have hok := h.nok a ha
  have ht0 := hok.t0
  have ht1 := hok.t1
  have hka := kindAt hok
  obtain ⟨tt, ett⟩ : ∃ tt, tirAt d a.tier = tt := ⟨_, rfl⟩
  rw [ett] at hka
  obtain ⟨nm, kd, rl, pr⟩ := tt
  have htl : a.tier.toNat < d.tiers.length := by omega
  have hkg : d.tiers[a.tier.toNat] = ⟨nm, kd, rl, pr⟩ := by rw [List.getElem?_eq_getElem htl] at hka; exact Option.some.inj hka
  refine pure_of_body mixed Try.func35 rfl call_35 ?_
  unfold sibB
  rw [ett]
  by_cases h1 : a.tier = b.tier <;> by_cases h2 : a.par = b.par
  · simp (decide := true) [Try.f35, docD, Dc.row, Nt.row, int, tiersD, Tir.row, ← h1, h2, hka, hkg, htl, ht0, ht1]
  · simp (decide := true) [Try.f35, docD, Dc.row, Nt.row, int, tiersD, Tir.row, ← h1, h2, hka, hkg, htl, ht0, ht1]
  · simp (decide := true) [Try.f35, docD, Dc.row, Nt.row, int, tiersD, Tir.row, h1, h2, hka, hkg, htl, ht0, ht1]
  · simp (decide := true) [Try.f35, docD, Dc.row, Nt.row, int, tiersD, Tir.row, h1, h2, hka, hkg, htl, ht0, ht1]
/-- Whether a note is kept with another one. -/
def withB (d : Dc) (a b : Nt) : Bool := decide (a.id ∈ idsOf (chainE d (getN d.notes b.id))) || sibB d a b
theorem chain_kept {d : Dc} (h : Rgt d) {l : List Sp} : ∀ (k : Nat) (n : Nt), n.tier.toNat ≤ k → KeptP d l n → ∀ m ∈ chainN d n, KeptP d l m := by
  intro k
  induction k with
  | zero =>
    intro n hk hn m hm
    obtain ⟨h1, h2⟩ := chain_step h hn.mem
    rw [h1] at hm
    rcases List.mem_cons.1 hm with rfl | hm
    · exact hn
    · unfold chainE at hm
      split at hm
      · rename_i hc
        have := h2 hc
        have := (h.nok _ this.1).t0
        omega
      · cases hm
  | succ k ih =>
    intro n hk hn m hm
    obtain ⟨h1, h2⟩ := chain_step h hn.mem
    rw [h1] at hm
    rcases List.mem_cons.1 hm with rfl | hm
    · exact hn
    · unfold chainE at hm
      split at hm
      · rename_i hc
        obtain ⟨g1, g2⟩ := h2 hc
        have g0 := (h.nok _ g1).t0
        exact ih _ (by omega) (.up n _ hn g1 (getN_mem hc).2) m hm
      · cases hm
theorem same_id {d : Dc} (h : Rgt d) {x y : Nt} (hx : x ∈ d.notes) (hy : y ∈ d.notes) (e : x.id = y.id) : x = y := by
  have a1 := getN_of h hx
  have a2 := getN_of h hy
  rw [e, a2] at a1
  exact (congrArg Prod.fst a1).symm
theorem with_kept {d : Dc} (h : Rgt d) {l : List Sp} {a b : Nt} (ha : a ∈ d.notes) (hb : KeptP d l b) (hw : withB d a b = true) : KeptP d l a := by
  unfold withB at hw
  rw [Bool.or_eq_true, decide_eq_true_eq] at hw
  rcases hw with hw | hw
  · rw [getN_of h hb.mem] at hw
    unfold chainE idsOf at hw
    rw [if_pos rfl, List.mem_map] at hw
    obtain ⟨m, hm, e⟩ := hw
    have hk := chain_kept h _ b (Nat.le_refl _) hb m hm
    rw [same_id h ha hk.mem e.symm]
    exact hk
  · unfold sibB at hw
    simp only [Bool.and_eq_true, decide_eq_true_eq] at hw
    exact .sib b a hb ha hw.1.1 hw.1.2 (by rw [← hw.1.1]; exact hw.2)
theorem kept_with {d : Dc} (h : Rgt d) {l : List Sp} {Q : Nt → Prop} (hs : ∀ n ∈ d.notes, seenB d l n = true → Q n) (hw : ∀ a ∈ d.notes, ∀ b ∈ d.notes, Q b → withB d a b = true → Q a) {n : Nt} (hn : KeptP d l n) : Q n := by
  induction hn with
  | seen n h1 h2 => exact hs n h1 h2
  | up m p hm hp e ih =>
    refine hw p hp m hm.mem ih ?_
    unfold withB
    rw [Bool.or_eq_true, decide_eq_true_eq]
    left
    rw [getN_of h hm.mem]
    unfold chainE idsOf
    rw [if_pos rfl, (chain_step h hm.mem).1, ← e, getN_of h hp, List.mem_map]
    refine ⟨p, ?_, rfl⟩
    unfold chainE
    rw [if_pos rfl, (chain_step h hp).1]
    simp
  | sib m c hm hc e1 e2 k1 ih =>
    refine hw c hc m hm.mem ih ?_
    unfold withB sibB
    rw [Bool.or_eq_true]
    right
    rw [e1, e2, k1]; simp
/-! ### marks -/
def boolRows (b : List Bool) : List (List D) := b.map fun x => [.bool x]
structure GoodB (d : Dc) (l : List Sp) (b : List Bool) : Prop where
  len : b.length = d.notes.length
  kept : ∀ (i : Nat) (n : Nt), b[i]? = some true → d.notes[i]? = some n → KeptP d l n
  seen : ∀ (i : Nat) (n : Nt), d.notes[i]? = some n → seenB d l n = true → b[i]? = some true
def cntF (b : List Bool) : Nat := b.countP fun x => !x
theorem cntF_set {b : List Bool} {i : Nat} (h : b[i]? = some false) : cntF (b.set i true) < cntF b := by
  unfold cntF
  have hi : i < b.length := by
    rcases Nat.lt_or_ge i b.length with h' | h'
    · exact h'
    · rw [List.getElem?_eq_none h'] at h; cases h
  have hb : b[i] = false := by rw [List.getElem?_eq_getElem hi] at h; exact Option.some.inj h
  rw [List.countP_set hi, hb]
  have : 0 < b.countP fun x => !x := by
    rw [List.countP_pos_iff]
    exact ⟨b[i], List.getElem_mem hi, by rw [hb]; rfl⟩
  simp
  omega
theorem GoodB.set {d : Dc} (h : Rgt d) {l : List Sp} {b : List Bool} (g : GoodB d l b) {i k : Nat} {m c : Nt} (hi : d.notes[i]? = some m) (hk : d.notes[k]? = some c) (hb : b[k]? = some true) (hw : withB d m c = true) : GoodB d l (b.set i true) where
  len := by rw [List.length_set]; exact g.len
  kept := fun j n hj hn => by
    rw [List.getElem?_set] at hj
    split at hj
    · rename_i e; subst e
      rw [hi] at hn; cases hn
      exact with_kept h (List.mem_of_getElem? hi) (g.kept k c hb hk) hw
    · exact g.kept j n hj hn
  seen := fun j n hn hs => by
    have := g.seen j n hn hs
    rw [List.getElem?_set]
    split
    · rename_i e; subst e
      rw [if_pos]
      rcases Nat.lt_or_ge i b.length with h' | h'
      · exact h'
      · rw [List.getElem?_eq_none h'] at this; cases this
    · exact this
/-- No note is to be added to the first of the notes, by notes of which the first are tried. -/
def doneB (d : Dc) (b : List Bool) (i k : Nat) : Prop := ∀ (i' k' : Nat) (m c : Nt), i' < i ∨ (i' = i ∧ k' < k) → d.notes[i']? = some m → d.notes[k']? = some c → b[k']? = some true → withB d m c = true → b[i']? = some true
theorem GoodB.all {d : Dc} (h : Rgt d) {l : List Sp} {b : List Bool} (g : GoodB d l b) (hd : doneB d b d.notes.length 0) : b = d.notes.map (isKept d l) := by
  have key : ∀ (i : Nat) (n : Nt), d.notes[i]? = some n → (b[i]? = some true ↔ KeptP d l n) := by
    intro i n hn
    refine ⟨fun hb => g.kept i n hb hn, fun hk => ?_⟩
    have := kept_with h (Q := fun n => ∀ i : Nat, d.notes[i]? = some n → b[i]? = some true) (fun n hn hs i hi => g.seen i n hi hs)
      (fun a ha b' hb' hQ hw i hi => by
        obtain ⟨k, hk, e⟩ := List.getElem_of_mem hb'
        have hi' : i < d.notes.length := by
          rcases Nat.lt_or_ge i d.notes.length with h' | h'
          · exact h'
          · rw [List.getElem?_eq_none h'] at hi; cases hi
        have e2 : d.notes[k]? = some b' := by rw [List.getElem?_eq_getElem hk, e]
        exact hd i k a b' (.inl hi') hi e2 (hQ k e2) hw) hk
    exact this i hn
  apply List.ext_getElem?
  intro i
  rw [List.getElem?_map]
  cases hn : d.notes[i]? with
  | none =>
    have : d.notes.length ≤ i := by
      rcases Nat.lt_or_ge i d.notes.length with h' | h'
      · rw [List.getElem?_eq_getElem h'] at hn; cases hn
      · exact h'
    rw [List.getElem?_eq_none (by rw [g.len]; exact this)]; rfl
  | some n =>
    have hi' : i < b.length := by
      rcases Nat.lt_or_ge i d.notes.length with h' | h'
      · rw [g.len]; exact h'
      · rw [List.getElem?_eq_none h'] at hn; cases hn
    have h1 := key i n hn
    have h2 := isKept_iff h (l := l) (List.mem_of_getElem? hn)
    rw [List.getElem?_eq_getElem hi'] at h1 ⊢
    rw [Option.map_some]
    congr 1
    rw [Bool.eq_iff_iff, h2, ← h1]
    simp
end Go.V

/- Contract of chapter 46: the notes that are kept, by the reference: the walk. -/
namespace Go.V
open Go Go.Proofs

/-- The first of the notes are told seen or not. -/
def seenL (d : Dc) (l : List Sp) (k : Nat) : List Bool := (d.notes.take k).map (fun n => seenB d l n) ++ List.replicate (d.notes.length - k) false
theorem seenL_snoc {d : Dc} {l : List Sp} {k : Nat} (h : k < d.notes.length) : (seenL d l k).set k (seenB d l d.notes[k]) = seenL d l (k + 1) := by
  unfold seenL
  have hk : ((d.notes.take k).map (fun n => seenB d l n)).length = k := by rw [List.length_map, List.length_take]; omega
  rw [List.set_append_right _ _ (by omega), hk, Nat.sub_self, take_snoc' h, List.map_append, List.append_assoc]
  congr 1
  rw [show d.notes.length - k = (d.notes.length - (k + 1)) + 1 by omega, List.replicate_succ]
  rfl
theorem seenL_all {d : Dc} {l : List Sp} : seenL d l d.notes.length = d.notes.map (fun n => seenB d l n) := by
  unfold seenL
  rw [List.take_length, Nat.sub_self]; simp
theorem seenL_len (d : Dc) (l : List Sp) (k : Nat) (hk : k ≤ d.notes.length) : (seenL d l k).length = d.notes.length := by
  unfold seenL
  rw [List.length_append, List.length_map, List.length_take, List.length_replicate]; omega
theorem seenL_good {d : Dc} {l : List Sp} : GoodB d l (d.notes.map (fun n => seenB d l n)) where
  len := by simp
  kept := fun i n hb hn => by
    rw [List.getElem?_map, hn, Option.map_some] at hb
    exact .seen n (List.mem_of_getElem? hn) (Option.some.inj hb)
  seen := fun i n hn hs => by rw [List.getElem?_map, hn, Option.map_some, hs]
theorem done_zero (d : Dc) (b : List Bool) : doneB d b 0 0 := fun i' k' _ _ e => by rcases e with e | ⟨e, e'⟩ <;> omega
theorem done_row {d : Dc} {b : List Bool} {i : Nat} (hd : doneB d b i d.notes.length) : doneB d b (i + 1) 0 := by
  intro i' k' m c e hm hc
  refine hd i' k' m c ?_ hm hc
  have hk : k' < d.notes.length := by
    rcases Nat.lt_or_ge k' d.notes.length with h' | h'
    · exact h'
    · rw [List.getElem?_eq_none h'] at hc; cases hc
  omega
theorem done_snoc {d : Dc} {b : List Bool} {i k : Nat} (hd : doneB d b i k) (hs : ∀ m c, d.notes[i]? = some m → d.notes[k]? = some c → b[k]? = some true → withB d m c = true → b[i]? = some true) : doneB d b i (k + 1) := by
  intro i' k' m c e hm hc
  by_cases e2 : i' = i ∧ k' = k
  · obtain ⟨rfl, rfl⟩ := e2
    exact hs m c hm hc
  · exact hd i' k' m c (by omega) hm hc
def keptOwnR (d : Dc) (b : List Bool) : List (Nat × Obj') := [(0, .box 28 (docCells d)), (2, .arr 4 1 (boolRows b))]
set_option maxHeartbeats 8000000 in
theorem refKept_ok (d : Dc) (h : Rgt d) (l : List Sp) (hl : l.length < 2^40) : PureR Try.prog 17 [docD d, spansD l] (ints (idsOf (keptN d l d.notes))) := by
  have hfew := h.few
  refine pure_of_body_frz mixed Try.func17 rfl call_17 [1] ?_
  simp (decide := true) [Try.f17, docD, Dc.row, int, spansD, notesD]
  refine ⟨by omega, by unfold maxLen; omega, ?_⟩
  refine loop_rule mixed (fun k : Nat => { n := 114, next := 3, slots := [(1, .d (spansD l)), (2, .bp 0 0), (5, .ar 2), (6, .d (int k))], own := keptOwnR d (seenL d l k) })
    (fun k => k ≤ d.notes.length) (fun k => d.notes.length - k) 0 (by simp) (by simp (decide := true) [int, spansD, notesD, keptOwnR, seenL, boolRows]) ?_
  intro k hk
  by_cases hlt : k < d.notes.length
  · have hlt' : (k : Int) < d.notes.length := by omega
    obtain ⟨m, em'⟩ : ∃ m, d.notes[k] = m := ⟨_, rfl⟩
    have hmm : m ∈ d.notes := by rw [← em']; exact List.getElem_mem hlt
    have em : d.notes[k]? = some m := by rw [List.getElem?_eq_getElem hlt, em']
    have hS := refSeen_ok d h l hl m.id
    rw [seenE_of h hmm] at hS
    have hsn := seenL_snoc (d := d) (l := l) hlt
    rw [em'] at hsn
    have hln := seenL_len d l k hk
    generalize seenL d l k = b at hsn hln
    have hkb : k < b.length := by omega
    simp (decide := true) [int, ints, notesD, spansD, Nt.row, hlt, hlt', em, em', keptOwnR, boolRows, I64]
    refine draw_s mixed 12 (by rfl) rfl rfl rfl rfl (by rfl) (by simp) ?_
    simp (decide := true) [int, Nt.row, ints, tiersD, notesD, spansD, hlt, hlt', em, em', boolRows]
    refine scall_pure (by rfl) (by rfl) hS (by simp (decide := true) [docD, Dc.row, int, ints, tiersD, notesD, spansD]) ?_
    simp (decide := true) [int, Nt.row, ints, tiersD, notesD, spansD, hlt, hlt', em, em', hkb, boolRows, I64]
    exact ⟨⟨by omega, by omega⟩, k + 1, hlt, by omega, by omega, by rw [← hsn, List.map_set]⟩
  have : k = d.notes.length := by omega
  subst this
  rw [seenL_all]
  have hg0 := seenL_good (d := d) (l := l)
  generalize d.notes.map (fun n => seenB d l n) = b0 at hg0
  clear hlt hk
  simp (decide := true) [int, ints, notesD, spansD, keptOwnR, boolRows]
  refine loop_rule mixed (fun x : List Bool × Bool => { n := 114, next := 3, slots := [(1, .d (spansD l)), (2, .bp 0 0), (5, .ar 2), (7, .d (.bool x.2))], own := keptOwnR d x.1 })
    (fun x => GoodB d l x.1 ∧ (x.2 = false → doneB d x.1 d.notes.length 0)) (fun x => 2 * cntF x.1 + (if x.2 = true then 1 else 0)) (b0, true) ⟨hg0, fun e => by cases e⟩ (by simp (decide := true) [int, spansD, notesD, keptOwnR, boolRows]) ?_
  clear hg0 b0
  rintro ⟨b0, m0⟩ ⟨hg0, hd0⟩
  simp only at hg0 hd0
  cases m0 with
  | false =>
    have hall := GoodB.all h hg0 (hd0 rfl)
    simp (decide := true) [int, ints, notesD, spansD, keptOwnR, boolRows]
    refine loop_rule mixed (fun k : Nat => { n := 114, next := 4, slots := [(2, .bp 0 0), (5, .ar 2), (10, .ar 3), (11, .d (int k))], own := keptOwnR d b0 ++ [(3, .arr 3 1 ((idsOf (keptN d l (d.notes.take k))).map fun n => [int n]))], moved := [3] })
      (fun k => k ≤ d.notes.length) (fun k => d.notes.length - k) 0 (by simp) (by simp (decide := true) [int, spansD, notesD, keptOwnR, boolRows, keptN, idsOf]) ?_
    intro k hk
    by_cases hlt : k < d.notes.length
    case neg =>
      have : k = d.notes.length := by omega
      subst this
      rw [List.take_length]
      simp (decide := true) [int, ints, notesD, keptOwnR]
    have hlt' : (k : Int) < d.notes.length := by omega
    have hsn := keptN_snoc (d := d) (l := l) hlt
    have hlen := keptN_len d l (d.notes.take k)
    rw [List.length_take] at hlen
    obtain ⟨m, em'⟩ : ∃ m, d.notes[k] = m := ⟨_, rfl⟩
    have em : d.notes[k]? = some m := by rw [List.getElem?_eq_getElem hlt, em']
    rw [em'] at hsn
    have hkb : k < b0.length := by rw [hg0.len]; exact hlt
    have eb : b0[k]? = some (isKept d l m) := by rw [hall, List.getElem?_map, em]; rfl
    have eb' : b0[k] = isKept d l m := by rw [List.getElem?_eq_getElem hkb] at eb; exact Option.some.inj eb
    have hil : ∀ L : List Nt, (idsOf L).length = L.length := fun L => by simp [idsOf]
    cases hm : isKept d l m with
    | true =>
      rw [if_pos hm] at hsn
      rw [hm] at eb eb'
      simp (decide := true) [int, ints, notesD, spansD, Nt.row, keptOwnR, boolRows, hlt, hlt', em, em', hkb, eb, eb', hil, I64]
      refine ⟨by omega, by unfold maxLen; omega, ⟨by omega, by omega⟩, k + 1, hlt, by omega, by omega, by rw [hsn]; simp [idsOf]⟩
    | false =>
      rw [if_neg (by rw [hm]; decide), List.append_nil] at hsn
      rw [hm] at eb eb'
      simp (decide := true) [int, ints, notesD, spansD, Nt.row, keptOwnR, boolRows, hlt, hlt', em, em', hkb, eb, eb', hil, I64]
      exact ⟨⟨by omega, by omega⟩, k + 1, hlt, by omega, by omega, by rw [hsn]⟩
  | true =>
    clear hd0
    simp (decide := true) [int, ints, notesD, spansD, keptOwnR, boolRows]
    refine loop_rule mixed (fun x : List Bool × Bool × Nat => { n := 114, next := 3, slots := [(1, .d (spansD l)), (2, .bp 0 0), (5, .ar 2), (7, .d (.bool x.2.1)), (8, .d (int x.2.2))], own := keptOwnR d x.1 })
      (fun x => GoodB d l x.1 ∧ x.2.2 ≤ d.notes.length ∧ (x.2.1 = false → x.1 = b0 ∧ doneB d b0 x.2.2 0) ∧ (x.2.1 = true → cntF x.1 < cntF b0)) (fun x => d.notes.length - x.2.2) (b0, false, 0)
      ⟨hg0, Nat.zero_le _, fun _ => ⟨rfl, done_zero d b0⟩, fun e => by cases e⟩ (by simp (decide := true) [int, spansD, notesD, keptOwnR, boolRows]) ?_
    rintro ⟨b1, m1, i⟩ ⟨hg1, hi, hf1, ht1⟩
    simp only at hg1 hi hf1 ht1
    by_cases hlt : i < d.notes.length
    case neg =>
      have : i = d.notes.length := by omega
      subst this
      cases m1 with
      | false =>
        obtain ⟨rfl, hdn⟩ := hf1 rfl
        simp (decide := true) [int, ints, notesD, spansD, Nt.row, keptOwnR, boolRows]
        exact ⟨b1, ⟨hg1, hdn⟩, by omega, rfl⟩
      | true =>
        have hc := ht1 rfl
        simp (decide := true) [int, ints, notesD, spansD, Nt.row, keptOwnR, boolRows]
        exact ⟨b1, hg1, hc, rfl⟩
    have hlt' : (i : Int) < d.notes.length := by omega
    simp (decide := true) [int, ints, notesD, spansD, Nt.row, keptOwnR, boolRows, hlt, hlt']
    refine loop_rule mixed (fun x : List Bool × Bool × Nat => { n := 114, next := 3, slots := [(1, .d (spansD l)), (2, .bp 0 0), (5, .ar 2), (7, .d (.bool x.2.1)), (8, .d (int i)), (9, .d (int x.2.2))], own := keptOwnR d x.1 })
      (fun x => GoodB d l x.1 ∧ x.2.2 ≤ d.notes.length ∧ (x.2.1 = false → x.1 = b0 ∧ doneB d b0 i x.2.2) ∧ (x.2.1 = true → cntF x.1 < cntF b0)) (fun x => d.notes.length - x.2.2) (b1, m1, 0)
      ⟨hg1, Nat.zero_le _, hf1, ht1⟩ (by simp (decide := true) [int, spansD, notesD, keptOwnR, boolRows]) ?_
    clear hg1 hf1 ht1
    rintro ⟨b2, m2, k⟩ ⟨hg1, hk, hf1, ht1⟩
    simp only at hg1 hk hf1 ht1
    by_cases hkl : k < d.notes.length
    case neg =>
      have : k = d.notes.length := by omega
      subst this
      simp (decide := true) [int, ints, notesD, spansD, Nt.row, keptOwnR, boolRows, I64]
      refine ⟨⟨by omega, by omega⟩, b2, ?_⟩
      cases m2 with
      | false =>
        obtain ⟨e1, e2⟩ := hf1 rfl
        exact .inl ⟨i + 1, ⟨hg1, hlt, e1, done_row e2⟩, by omega, ⟨rfl, by omega⟩, rfl⟩
      | true => exact .inr ⟨i + 1, ⟨hg1, hlt, ht1 rfl⟩, by omega, ⟨rfl, by omega⟩, rfl⟩
    have hkl' : (k : Int) < d.notes.length := by omega
    obtain ⟨m, em'⟩ : ∃ m, d.notes[i] = m := ⟨_, rfl⟩
    have em : d.notes[i]? = some m := by rw [List.getElem?_eq_getElem hlt, em']
    have hmm : m ∈ d.notes := by rw [← em']; exact List.getElem_mem hlt
    obtain ⟨c, ec'⟩ : ∃ c, d.notes[k] = c := ⟨_, rfl⟩
    have ec : d.notes[k]? = some c := by rw [List.getElem?_eq_getElem hkl, ec']
    have hcm : c ∈ d.notes := by rw [← ec']; exact List.getElem_mem hkl
    have hib : i < b2.length := by rw [hg1.len]; exact hlt
    have hkb : k < b2.length := by rw [hg1.len]; exact hkl
    have hskip : (b2[k]? = some true → withB d m c = true → b2[i]? = some true) → m2 = false → b2 = b0 ∧ doneB d b0 i (k + 1) := by
      intro hs e
      obtain ⟨e1, e2⟩ := hf1 e
      subst e1
      refine ⟨rfl, done_snoc e2 fun m' c' h1 h2 h3 h4 => ?_⟩
      rw [em] at h1; rw [ec] at h2; cases h1; cases h2
      exact hs h3 h4
    have hfin : (b2[k]? = some true → withB d m c = true → b2[i]? = some true) → ∃ a, (∃ b, (GoodB d l a ∧ b ≤ d.notes.length ∧ a = b0 ∧ doneB d b0 i b) ∧ d.notes.length - b < d.notes.length - k ∧ (m2 = false ∧ (k : Int) + 1 = (b : Nat)) ∧ List.map (fun x => [D.bool x]) b2 = List.map (fun x => [D.bool x]) a) ∨
        ∃ b, (GoodB d l a ∧ b ≤ d.notes.length ∧ cntF a < cntF b0) ∧ d.notes.length - b < d.notes.length - k ∧ (m2 = true ∧ (k : Int) + 1 = (b : Nat)) ∧ List.map (fun x => [D.bool x]) b2 = List.map (fun x => [D.bool x]) a := by
      intro hs
      refine ⟨b2, ?_⟩
      have := hskip hs
      cases m2 with
      | false =>
        obtain ⟨e1, e2⟩ := this rfl
        exact .inl ⟨k + 1, ⟨hg1, hkl, e1, e2⟩, by omega, ⟨rfl, by omega⟩, rfl⟩
      | true => exact .inr ⟨k + 1, ⟨hg1, hkl, ht1 rfl⟩, by omega, ⟨rfl, by omega⟩, rfl⟩
    cases hbi : b2[i] with
    | true =>
      have hbi' : b2[i]? = some true := by rw [List.getElem?_eq_getElem hib, hbi]
      simp (decide := true) [int, ints, notesD, spansD, Nt.row, keptOwnR, boolRows, hib, hkb, hbi, hbi', hkl, hkl', I64]
      exact ⟨⟨by omega, by omega⟩, hfin fun _ _ => hbi'⟩
    | false =>
      have hbi' : b2[i]? = some false := by rw [List.getElem?_eq_getElem hib, hbi]
      cases hbk : b2[k] with
      | false =>
        have hbk' : b2[k]? = some false := by rw [List.getElem?_eq_getElem hkb, hbk]
        simp (decide := true) [int, ints, notesD, spansD, Nt.row, keptOwnR, boolRows, hib, hkb, hbi, hbi', hbk, hbk', hkl, hkl', I64]
        exact ⟨⟨by omega, by omega⟩, hfin fun e _ => by rw [hbk'] at e; cases e⟩
      | true =>
        have hbk' : b2[k]? = some true := by rw [List.getElem?_eq_getElem hkb, hbk]
        have hCh := refChain_ok d h c.id
        have ht20 := tiers20 h
        have hcl : (idsOf (chainE d (getN d.notes c.id))).length < 2^62 := by
          rw [getN_of h hcm]
          unfold chainE idsOf
          rw [if_pos rfl, List.length_map]
          show (chainN d c).length < 2^62
          have h1 := (chain_mem h _ c hcm (Nat.le_refl _)).2
          have h2 := (h.nok _ hcm).t1
          have h3 := (h.nok _ hcm).t0
          omega
        have hHs := refHasI_ok (idsOf (chainE d (getN d.notes c.id))) m.id hcl
        have hSb := sib_ok d h m c hmm
        have hW : withB d m c = (decide (m.id ∈ idsOf (chainE d (getN d.notes c.id))) || sibB d m c) := rfl
        generalize idsOf (chainE d (getN d.notes c.id)) = chn at hCh hHs hW
        have hset : withB d m c = true → ∃ a b, (GoodB d l a ∧ b ≤ d.notes.length ∧ cntF a < cntF b0) ∧ d.notes.length - b < d.notes.length - k ∧ (k : Int) + 1 = (b : Nat) ∧ (List.map (fun x => [D.bool x]) b2).set i [D.bool true] = List.map (fun x => [D.bool x]) a := by
          intro hw
          have hlt2 := cntF_set hbi'
          have hle : cntF b2 ≤ cntF b0 := by
            cases m2 with
            | false => rw [(hf1 rfl).1]; exact Nat.le_refl _
            | true => have := ht1 rfl; omega
          exact ⟨b2.set i true, k + 1, ⟨hg1.set h em ec hbk' hw, hkl, by omega⟩, by omega, by omega, by rw [List.map_set]⟩
        simp (decide := true) [int, ints, notesD, spansD, Nt.row, keptOwnR, boolRows, hib, hkb, hbi, hbi', hbk, hbk', hkl, hkl', hlt, hlt', em, em', ec, ec', I64]
        refine scall_pure (by rfl) (by rfl) hCh (by simp (decide := true) [docD, Dc.row, int, ints, tiersD, notesD, spansD]) ?_
        simp (decide := true) [int, ints, notesD, spansD, Nt.row, boolRows, hkl, hkl', hlt, hlt', em, em', ec, ec', I64]
        refine scall_pure (by rfl) (by rfl) hHs (by simp (decide := true) [docD, Dc.row, int, ints, tiersD, notesD, spansD]) ?_
        cases hb1 : decide (m.id ∈ chn) with
        | true =>
          rw [hb1, Bool.true_or] at hW
          simp (decide := true) [int, ints, notesD, spansD, Nt.row, boolRows, hib, hkb, hkl, hkl', hlt, hlt', em, em', ec, ec', I64]
          exact ⟨⟨by omega, by omega⟩, hset hW⟩
        | false =>
          rw [hb1, Bool.false_or] at hW
          simp (decide := true) [int, ints, notesD, spansD, Nt.row, boolRows, hib, hkb, hkl, hkl', hlt, hlt', em, em', ec, ec', I64]
          refine scall_pure (by rfl) (by rfl) hSb (by simp (decide := true) [docD, Dc.row, Nt.row, int, ints, tiersD, notesD, spansD]) ?_
          cases hb2 : sibB d m c with
          | true =>
            rw [hb2] at hW
            simp (decide := true) [int, ints, notesD, spansD, Nt.row, boolRows, hib, hkb, hkl, hkl', hlt, hlt', em, em', ec, ec', I64]
            exact ⟨⟨by omega, by omega⟩, hset hW⟩
          | false =>
            rw [hb2] at hW
            simp (decide := true) [int, ints, notesD, spansD, Nt.row, boolRows, hib, hkb, hkl, hkl', hlt, hlt', em, em', ec, ec', I64]
            exact ⟨⟨by omega, by omega⟩, hfin fun _ e => by rw [hW] at e; cases e⟩
end Go.V

/- Contract of chapter 46: what a viewer sees, by the reference. -/
namespace Go.V
open Go Go.Proofs

def viewRt (d : Dc) (l : List Sp) (ids : List Int) (ns : List Nt) (k : Nat) : St := match ns with
  | [] => { n := 49, next := 3, slots := [(1, .d (spansD l)), (2, .bp 0 0), (4, .bp 1 0), (5, .bp 2 0), (6, .d (ints ids)), (7, .d (int k))], own := [(0, .box 28 (docCells d)), (1, .box 28 zeroCells), (2, .box 28 (headCells d ++ [.nils]))] }
  | ns => { n := 49, next := 6, slots := [(1, .d (spansD l)), (2, .bp 0 0), (4, .bp 1 0), (5, .bp 2 0), (6, .d (ints ids)), (7, .d (int k))], own := [(0, .box 28 (docCells d)), (1, .box 28 zeroCells), (2, .box 28 (headCells d ++ [.ar 5])), (5, .arr 40 7 (ns.map Nt.row))], moved := [5] }
set_option maxHeartbeats 8000000 in
theorem refView_ok (d : Dc) (h : Rgt d) (l : List Sp) (hl : l.length < 2^40) : PureR Try.prog 20 [docD d, spansD l] (docD (viewC d l)) := by
  have hfew := h.few
  have hK := refKept_ok d h l hl
  have hmem : ∀ m ∈ keptN d l d.notes, m ∈ d.notes := fun m hm => (List.mem_filter.1 hm).1
  have hLl := keptN_len d l d.notes
  unfold viewC
  generalize keptN d l d.notes = KN at hK hmem hLl
  have hil : (idsOf KN).length = KN.length := by simp [idsOf]
  obtain ⟨VN, hVN⟩ : ∃ VN, KN.map (clr d l) = VN := ⟨_, rfl⟩
  rw [hVN]
  refine pure_of_body mixed Try.func20 rfl call_20 ?_
  simp (decide := true) [Try.f20, docD, Dc.row, int, spansD, notesD, tiersD, ints]
  refine ECall.pure (by rfl) hK (by simp (decide := true) [docD, Dc.row, int, ints, tiersD, notesD, spansD]) ?_
  simp (decide := true) [int, notesD, tiersD, ints]
  refine loop_rule mixed (fun k : Nat => viewRt d l (idsOf KN) ((KN.take k).map (clr d l)) k)
    (fun k => k ≤ KN.length) (fun k => KN.length - k) 0 (by simp) (by simp (decide := true) [int, viewRt, spansD, notesD, tiersD, ints]) ?_
  intro k hk
  by_cases hlt : k < KN.length
  case neg =>
    have : k = KN.length := by omega
    subst this
    rw [List.take_length, hVN]
    cases VN with
    | nil => simp (decide := true) [int, ints, notesD, viewRt, docD, Dc.row, tiersD, hil]
    | cons a r => simp (decide := true) [int, ints, notesD, viewRt, docD, Dc.row, tiersD, hil]
  have hlt' : (k : Int) < KN.length := by omega
  have hlt2 : k < (idsOf KN).length := by omega
  obtain ⟨m, em'⟩ : ∃ m, KN[k] = m := ⟨_, rfl⟩
  have hmm : m ∈ d.notes := by rw [← em']; exact hmem _ (List.getElem_mem hlt)
  have e2 : (idsOf KN)[k]? = some m.id := by unfold idsOf; rw [List.getElem?_map, List.getElem?_eq_getElem hlt, em']; rfl
  have hgd : (idsOf KN)[k]'hlt2 = m.id := by simp [idsOf, em']
  have hG := refGet_ok d m.id (by omega)
  rw [getN_of h hmm] at hG
  have hS := refSeen_ok d h l hl m.id
  rw [seenE_of h hmm] at hS
  have hsm : (KN.take (k + 1)).map (clr d l) = (KN.take k).map (clr d l) ++ [clr d l m] := by rw [take_snoc' hlt, List.map_append, em']; rfl
  have hln : ((KN.take k).map (clr d l)).length ≤ d.notes.length := by rw [List.length_map, List.length_take]; omega
  generalize (KN.take k).map (clr d l) = L at hsm hln
  have hc : clr d l m = if seenB d l m = true then m else { m with text := ⟨#[]⟩ } := rfl
  rw [hc, List.map_take] at hsm
  cases L with
  | nil =>
    simp (decide := true) [int, ints, notesD, spansD, Nt.row, viewRt, hlt, hlt', hlt2, hil, e2, hgd, I64]
    refine draw_f mixed 12 [] (by rfl) (by rfl) (by rfl) (by rfl) ?_
    simp (decide := true) [int, ints, hlt, hlt', hlt2, hil, e2, hgd]
    refine scall_pure (by rfl) (by rfl) hG (by simp (decide := true) [docD, Dc.row, int, ints, tiersD, notesD]) ?_
    simp (decide := true) [getD', Nt.row, int, ints, hlt, hlt', hlt2, hil, e2, hgd, I64]
    refine ⟨by rfl, ?_⟩
    refine scall_pure (by rfl) (by rfl) hS (by simp (decide := true) [docD, Dc.row, int, ints, tiersD, notesD, spansD]) ?_
    cases hb : seenB d l m with
    | true =>
      rw [hb, if_pos rfl] at hsm
      simp (decide := true) [int, ints, notesD, spansD, Nt.row, hlt, hlt', hlt2, hil, e2, hgd, I64]
      refine ⟨⟨by omega, by omega⟩, k + 1, hlt, by omega, ?_⟩
      rw [hsm]
      simp (decide := true) [int, ints, notesD, tiersD, spansD, Nt.row]
    | false =>
      rw [hb, if_neg (by decide)] at hsm
      simp (decide := true) [int, ints, notesD, spansD, Nt.row, hlt, hlt', hlt2, hil, e2, hgd, I64]
      refine ⟨⟨by omega, by omega⟩, k + 1, hlt, by omega, ?_⟩
      rw [hsm]
      simp (decide := true) [int, ints, notesD, tiersD, spansD, Nt.row]
  | cons a r =>
    rw [List.length_cons] at hln
    simp (decide := true) [int, ints, notesD, spansD, Nt.row, viewRt, hlt, hlt', hlt2, hil, e2, hgd, I64]
    refine draw_f mixed 12 [] (by rfl) (by rfl) (by rfl) (by rfl) ?_
    simp (decide := true) [int, ints, hlt, hlt', hlt2, hil, e2, hgd]
    refine scall_pure (by rfl) (by rfl) hG (by simp (decide := true) [docD, Dc.row, int, ints, tiersD, notesD]) ?_
    simp (decide := true) [getD', Nt.row, int, ints, hlt, hlt', hlt2, hil, e2, hgd, I64]
    refine ⟨by rfl, ?_⟩
    refine scall_pure (by rfl) (by rfl) hS (by simp (decide := true) [docD, Dc.row, int, ints, tiersD, notesD, spansD]) ?_
    cases hb : seenB d l m with
    | true =>
      rw [hb, if_pos rfl] at hsm
      simp (decide := true) [int, ints, notesD, spansD, Nt.row, hlt, hlt', hlt2, hil, e2, hgd, I64]
      refine ⟨by omega, by unfold maxLen; omega, ⟨by omega, by omega⟩, k + 1, hlt, by omega, ?_⟩
      rw [hsm]
      simp (decide := true) [int, ints, notesD, tiersD, spansD, Nt.row]
    | false =>
      rw [hb, if_neg (by decide)] at hsm
      simp (decide := true) [int, ints, notesD, spansD, Nt.row, hlt, hlt', hlt2, hil, e2, hgd, I64]
      refine ⟨by omega, by unfold maxLen; omega, ⟨by omega, by omega⟩, k + 1, hlt, by omega, ?_⟩
      rw [hsm]
      simp (decide := true) [int, ints, notesD, tiersD, spansD, Nt.row]
end Go.V

/- The laws of chapter 46 that compare with the reference, and the law on all times and none. -/
namespace Go.V
open Go Go.Proofs

abbrev spanSh : List Sh := [.int .i64, .int .i64]
theorem spans_decode {d : D} (h : FitD d (.sl spanSh)) : ∃ l, d = spansD l ∧ l.length ≤ maxLen := by
  obtain ⟨xs, rfl, h1, h2⟩ := FitD.sl_decode (row := Sp.row) (good := fun _ => True) (fun r hr => by
    obtain ⟨_, _, rfl, g1, r1⟩ := hr.cons_decode
    obtain ⟨_, _, rfl, g2, r2⟩ := r1.cons_decode
    obtain rfl := r2.nil_decode
    obtain ⟨a, rfl, _⟩ := g1.int_decode
    obtain ⟨b, rfl, _⟩ := g2.int_decode
    exact ⟨⟨a, b⟩, rfl, trivial⟩) h
  exact ⟨xs, rfl, h1⟩
theorem sameInts_ok (a b : List Int) (hb : b.length < 2^62) : PureR Try.prog 13 [ints a, ints b] (.bool (decide (a = b))) := by
  refine pure_of_body mixed Try.func13 rfl call_13 ?_
  simp [Try.f13, ints]
  refine ⟨fun h e => h (by rw [e]), fun h => ?_⟩
  refine loop_rule mixed (fun k : Nat => { n := 26, next := 0, slots := [(0, .d (ints a)), (1, .d (ints b)), (12, .d (.int .i64 a.length)), (13, .d (.int .i64 k))], own := [] })
    (fun k => k ≤ a.length ∧ a.take k = b.take k) (fun k => a.length - k) 0 (by simp) (by simp [ints]) ?_
  intro k ⟨hk, hp⟩
  have h : a.length = b.length := by omega
  by_cases hlt : k < a.length
  · have e1 : a[k]? = some a[k] := List.getElem?_eq_getElem hlt
    have e2 : b[k]? = some (b[k]'(by omega)) := List.getElem?_eq_getElem (by omega)
    have hlt' : k < b.length := by omega
    simp (decide := true) [ints, int, e1, e2, hlt, hlt', I64]
    refine ⟨fun hne e => by subst e; simp at hne, fun he => ⟨by omega, k + 1, ⟨hlt, ?_⟩, by omega, by omega⟩⟩
    rw [take_snoc' hlt, take_snoc' hlt', hp, he]
  · have : k = a.length := by omega
    subst this
    simp (decide := true) [ints]
    rw [List.take_length, h, List.take_length] at hp
    exact hp
theorem idsOf_len (L : List Nt) : (idsOf L).length = L.length := by simp [idsOf]
set_option maxHeartbeats 4000000 in
theorem law_seen (d : Dc) (l : List Sp) (id : Int) (hs : ∀ t ∈ d.tiers, t.name.size ≤ 9223372036854775807) (hx : ∀ n ∈ d.notes, n.text.size ≤ 9223372036854775807) :
    PureR Try.prog 3 [docD d, spansD l, int id] (.bool true) := by
  refine pure_of_body mixed Try.func3 rfl call_3 ?_
  simp (decide := true) [Try.f3, docD, Dc.row, int]
  refine ECall.pure (by rfl) (light46_ok d l hs hx) (by simp (decide := true) [docD, Dc.row]) ?_
  cases hl : light46 d l
  · simp (decide := true)
    refine ECall.pure (by rfl) awake46_R (by simp) ?_
    simp (decide := true)
  obtain ⟨h0, h1, h2, h3, hr⟩ := light46_spec hl
  have hl40 : l.length < 2^40 := by omega
  have hk := keptN_len d l d.notes
  have hh := hidN_len d l d.notes
  have e1 := idsOf_len (keptN d l d.notes)
  have e2 := idsOf_len (hidN d l d.notes)
  have w1 := seen_ok d hr l hl40 id
  have w2 := refSeen_ok d hr l hl40 id
  have w3 := hidden_ok d hr l hl40
  have w4 := refHidden_ok d hr l hl40
  have w5 := keptL_ok d hr (by omega) l hl40
  have w6 := refKept_ok d hr l hl40
  generalize idsOf (keptN d l d.notes) = K at w5 w6 e1
  generalize idsOf (hidN d l d.notes) = H at w3 w4 e2
  generalize seenE d l id = s at w1 w2
  have s1 := sameInts_ok H H (by omega)
  have s2 := sameInts_ok K K (by omega)
  simp only [decide_true] at s1 s2
  simp (decide := true) [int]
  refine scall_pure (by rfl) (by rfl) w1 (by simp (decide := true) [docD, Dc.row, int]) ?_
  simp (decide := true) [int, docD, Dc.row]
  refine scall_pure (by rfl) (by rfl) w2 (by simp (decide := true) [docD, Dc.row, int]) ?_
  simp (decide := true) [int, docD, Dc.row]
  refine scall_pure (by rfl) (by rfl) w3 (by simp (decide := true) [docD, Dc.row, int]) ?_
  simp (decide := true) [int, docD, Dc.row, ints]
  refine scall_pure (by rfl) (by rfl) w4 (by simp (decide := true) [docD, Dc.row, int]) ?_
  simp (decide := true) [int, docD, Dc.row, ints]
  refine scall_pure (by rfl) (by rfl) s1 (by simp (decide := true) [docD, Dc.row, int]) ?_
  simp (decide := true) [int, docD, Dc.row, ints]
  refine scall_pure (by rfl) (by rfl) w5 (by simp (decide := true) [docD, Dc.row, int]) ?_
  simp (decide := true) [int, docD, Dc.row, ints]
  refine scall_pure (by rfl) (by rfl) w6 (by simp (decide := true) [docD, Dc.row, int]) ?_
  simp (decide := true) [int, docD, Dc.row, ints]
  refine scall_pure (by rfl) (by rfl) s2 (by simp (decide := true) [docD, Dc.row, int]) ?_
  simp (decide := true) [int, docD, Dc.row, ints]
  refine scall_pure (by rfl) (by rfl) awake46_R (by simp (decide := true) [docD, Dc.row, int]) ?_
  simp (decide := true) [int, docD, Dc.row, ints]
theorem viewC_fit {d : Dc} {l : List Sp} (h1 : d.notes.length ≤ 14) (h2 : d.tiers.length ≤ 6) (h3 : d.spk.length ≤ 6) : (viewC d l).fit := by
  have hk := keptN_len d l d.notes
  refine ⟨?_, ?_, ?_⟩
  · show ((keptN d l d.notes).map (clr d l)).length ≤ _
    rw [List.length_map]; omega
  · show d.tiers.length ≤ _; omega
  · show d.spk.length ≤ _; omega
set_option maxHeartbeats 4000000 in
theorem law_view (d : Dc) (l : List Sp) (hs : ∀ t ∈ d.tiers, t.name.size ≤ 9223372036854775807) (hx : ∀ n ∈ d.notes, n.text.size ≤ 9223372036854775807) :
    PureR Try.prog 4 [docD d, spansD l] (.bool true) := by
  refine pure_of_body mixed Try.func4 rfl call_4 ?_
  simp (decide := true) [Try.f4, docD, Dc.row, int]
  refine ECall.pure (by rfl) (light46_ok d l hs hx) (by simp (decide := true) [docD, Dc.row]) ?_
  cases hl : light46 d l
  · simp (decide := true)
    refine ECall.pure (by rfl) awake46_R (by simp) ?_
    simp (decide := true)
  obtain ⟨h0, h1, h2, h3, hr⟩ := light46_spec hl
  have hl40 : l.length < 2^40 := by omega
  have w1 := view_ok d hr (by omega) l hl40
  have w2 := refView_ok d hr l hl40
  have hf := viewC_fit (l := l) h1 h2 h3
  generalize viewC d l = v at w1 w2 hf
  have s1 := refSame_ok v v hf
  simp only [decide_true] at s1
  simp (decide := true) [int]
  refine scall_pure (by rfl) (by rfl) w1 (by simp (decide := true) [docD, Dc.row, int]) ?_
  simp (decide := true) [int, docD, Dc.row]
  refine scall_pure (by rfl) (by rfl) w2 (by simp (decide := true) [docD, Dc.row, int]) ?_
  simp (decide := true) [int, docD, Dc.row]
  refine scall_pure (by rfl) (by rfl) s1 (by simp (decide := true) [docD, Dc.row, int]) ?_
  simp (decide := true) [int, docD, Dc.row]
  refine scall_pure (by rfl) (by rfl) awake46_R (by simp (decide := true) [docD, Dc.row, int]) ?_
  simp (decide := true) [int, docD, Dc.row, ints]
set_option maxHeartbeats 4000000 in
theorem law_clean (d : Dc) (l : List Sp) (hs : ∀ t ∈ d.tiers, t.name.size ≤ 9223372036854775807) (hx : ∀ n ∈ d.notes, n.text.size ≤ 9223372036854775807) :
    PureR Try.prog 5 [docD d, spansD l] (.bool true) := by
  refine pure_of_body mixed Try.func5 rfl call_5 ?_
  simp (decide := true) [Try.f5, docD, Dc.row, int]
  refine ECall.pure (by rfl) (light46_ok d l hs hx) (by simp (decide := true) [docD, Dc.row]) ?_
  cases hl : light46 d l
  · simp (decide := true)
    refine ECall.pure (by rfl) awake46_R (by simp) ?_
    simp (decide := true)
  obtain ⟨h0, h1, h2, h3, hr⟩ := light46_spec hl
  have hl40 : l.length < 2^40 := by omega
  have w1 := clean_ok d hr l hl40
  have w2 := refClean_ok d hr l hl40
  generalize clnE d l = v at w1 w2
  simp (decide := true) [int]
  refine scall_pure (by rfl) (by rfl) w1 (by simp (decide := true) [docD, Dc.row, int]) ?_
  simp (decide := true) [int, docD, Dc.row]
  refine scall_pure (by rfl) (by rfl) w2 (by simp (decide := true) [docD, Dc.row, int]) ?_
  simp (decide := true) [int, docD, Dc.row]
  refine scall_pure (by rfl) (by rfl) awake46_R (by simp (decide := true) [docD, Dc.row, int]) ?_
  simp (decide := true) [int, docD, Dc.row, ints]
set_option maxHeartbeats 4000000 in
theorem law_all46 (d : Dc) (l : List Sp) (hs : ∀ t ∈ d.tiers, t.name.size ≤ 9223372036854775807) (hx : ∀ n ∈ d.notes, n.text.size ≤ 9223372036854775807) :
    PureR Try.prog 7 [docD d, spansD l] (.bool true) := by
  refine pure_of_body mixed Try.func7 rfl call_7 ?_
  simp (decide := true) [Try.f7, docD, Dc.row, int]
  refine ECall.pure (by rfl) (light46_ok d l hs hx) (by simp (decide := true) [docD, Dc.row]) ?_
  cases hl : light46 d l
  · simp (decide := true)
    refine ECall.pure (by rfl) awake46_R (by simp) ?_
    simp (decide := true)
  obtain ⟨h0, h1, h2, h3, hr⟩ := light46_spec hl
  have hl40 : l.length < 2^40 := by omega
  have w1 := view_ok d hr (by omega) [] (by simp)
  rw [viewC_eq hr, view_none hr] at w1
  have w2 := view_ok d hr (by omega) l hl40
  have hD : ({ d with notes := [] } : Dc).fit := ⟨by simp, by show d.tiers.length ≤ _; omega, by show d.spk.length ≤ _; omega⟩
  have hF : d.fit := ⟨by omega, by omega, by omega⟩
  have s1 := same_ok { d with notes := [] } { d with notes := [] } hD
  have c1 := covers_ok l ⟨0, d.len⟩ (by omega)
  simp only [decide_true] at s1
  simp (decide := true) [int]
  refine ECall.pure (by rfl) w1 (by simp (decide := true) [docD, Dc.row, int]) ?_
  simp (decide := true) [int, docD, Dc.row, notesD]
  refine ECall.pure (by rfl) s1 (by simp (decide := true) [docD, Dc.row, int, notesD]) ?_
  simp (decide := true) [int, docD, Dc.row, Sp.row]
  refine ECall.pure (by rfl) c1 (by simp (decide := true) [docD, Dc.row, int, notesD]) ?_
  cases hc : coversS l ⟨0, d.len⟩ with
  | false =>
    simp (decide := true) [int, docD, Dc.row, Sp.row]
    refine scall_pure (by rfl) (by rfl) awake46_R (by simp (decide := true) [docD, Dc.row, int]) ?_
    simp (decide := true) [int, docD, Dc.row, ints]
  | true =>
    rw [viewC_eq hr, view_whole hr hc] at w2
    have s2 := same_ok d d hF
    simp only [decide_true] at s2
    simp (decide := true) [int, docD, Dc.row, Sp.row]
    refine scall_pure (by rfl) (by rfl) w2 (by simp (decide := true) [docD, Dc.row, int]) ?_
    simp (decide := true) [int, docD, Dc.row, Sp.row]
    refine scall_pure (by rfl) (by rfl) s2 (by simp (decide := true) [docD, Dc.row, int]) ?_
    simp (decide := true) [int, docD, Dc.row, ints]
    refine scall_pure (by rfl) (by rfl) awake46_R (by simp (decide := true) [docD, Dc.row, int]) ?_
    simp (decide := true) [int, docD, Dc.row, ints]
end Go.V

/- The laws of chapter 46 on fewer times and on texts. -/
namespace Go.V
open Go Go.Proofs

theorem less_note {d : Dc} (h : Rgt d) {l l' : List Sp} (hl : Less l l') : ∀ x ∈ (viewE d l).notes, ∃ y, getN (viewE d l').notes x.id = (y, true) ∧ (x.text = ⟨#[]⟩ ∨ y.text = x.text) := by
  intro x hx
  obtain ⟨m, hm, rfl⟩ := view_mem.1 hx
  have h1 := view_get h (hm.mono hl)
  refine ⟨clr d l' m, by rw [(clr_keep d l m).1]; exact h1, ?_⟩
  by_cases hs : seenB d l m = true
  · right
    have hs' : seenB d l' m = true := hl _ hs
    unfold clr
    rw [if_pos hs, if_pos hs']
  · left
    unfold clr
    rw [if_neg hs]
theorem bytes_eq {s t : ByteArray} : s.toList = t.toList ↔ s = t := bytes_toList
set_option maxHeartbeats 8000000 in
theorem law_less (d : Dc) (l m : List Sp) (hs : ∀ t ∈ d.tiers, t.name.size ≤ 9223372036854775807) (hx : ∀ n ∈ d.notes, n.text.size ≤ 9223372036854775807) :
    PureR Try.prog 6 [docD d, spansD l, spansD m] (.bool true) := by
  refine pure_of_body mixed Try.func6 rfl call_6 ?_
  by_cases hl15 : l.length ≤ 15
  case neg =>
    have hl15' : (15 : Int) < l.length := by omega
    simp (decide := true) [Try.f6, docD, Dc.row, int, spansD, hl15']
    refine ECall.pure (by rfl) awake46_R (by simp) ?_
    simp (decide := true)
  have hl15' : ¬ (15 : Int) < l.length := by omega
  by_cases hm15 : m.length ≤ 15
  case neg =>
    have hm15' : (15 : Int) < m.length := by omega
    simp (decide := true) [Try.f6, docD, Dc.row, int, spansD, hl15', hm15']
    refine ECall.pure (by rfl) awake46_R (by simp) ?_
    simp (decide := true)
  have hm15' : ¬ (15 : Int) < m.length := by omega
  simp (decide := true) [Try.f6, docD, Dc.row, int, spansD, hl15', hm15']
  refine ECall.pure (by rfl) (light46_ok d l hs hx) (by simp (decide := true) [docD, Dc.row]) ?_
  cases hl : light46 d l
  · simp (decide := true)
    refine ECall.pure (by rfl) awake46_R (by simp) ?_
    simp (decide := true)
  obtain ⟨h0, h1, h2, h3, hr⟩ := light46_spec hl
  have hl40 : l.length < 2^40 := by omega
  have hlm : (l ++ m).length < 2^40 := by rw [List.length_append]; omega
  have w1 := view_ok d hr (by omega) l hl40
  have w2 := view_ok d hr (by omega) (l ++ m) hlm
  have f1 := viewC_fit (l := l) h1 h2 h3
  have hrw := view_right hr (l ++ m)
  have hkw := keptN_len d (l ++ m) d.notes
  have hwl : (viewC d (l ++ m)).notes.length ≤ 14 := by
    show ((keptN d (l ++ m) d.notes).map (clr d (l ++ m))).length ≤ _
    rw [List.length_map]; omega
  have hvl : (viewC d l).notes.length ≤ 14 := by
    have := keptN_len d l d.notes
    show ((keptN d l d.notes).map (clr d l)).length ≤ _
    rw [List.length_map]; omega
  have hln := less_note hr (less_append l m)
  have hvv := view_view hr (less_append l m)
  rw [← viewC_eq hr] at hrw hvv hln
  rw [← viewC_eq hrw, ← viewC_eq hr] at hvv
  rw [← viewC_eq hr] at hln
  have w3 := view_ok (viewC d (l ++ m)) hrw (by omega) l hl40
  rw [hvv] at w3
  have s1 := same_ok (viewC d l) (viewC d l) f1
  simp only [decide_true] at s1
  have hspm : spansD (l ++ m) = .sl (l.map Sp.row ++ m.map Sp.row) := by unfold spansD; rw [List.map_append]
  generalize viewC d (l ++ m) = w at w2 w3 hln hwl
  generalize viewC d l = v at w1 w3 hln hvl s1
  rw [hspm] at w2
  have hrows : ∀ a ∈ l, a.row.length = 2 := fun a _ => rfl
  have hrowm : ∀ a ∈ m, a.row.length = 2 := fun a _ => rfl
  simp (decide := true) [int, spansD]
  refine ⟨hrows, by omega, by unfold maxLen; omega, hrowm, by omega, by unfold maxLen; omega, ?_⟩
  refine ECall.pure (by rfl) w1 (by simp (decide := true) [docD, Dc.row, int, spansD]) ?_
  simp (decide := true) [int, docD, Dc.row, notesD]
  refine ecall_frz (by rfl) w2 (by simp (decide := true) [docD, Dc.row, int, spansD]) ?_
  simp (decide := true) [int, docD, Dc.row, notesD]
  refine loop_rule mixed (fun k : Nat => { n := 88, next := 4, slots := [(1, .d (spansD l)), (3, .bp 0 0), (8, .bp 2 0), (9, .bp 3 0), (10, .d (int k))], own := [(0, .box 28 (docCells d)), (2, .box 28 (docCells v)), (3, .box 28 (docCells w))], moved := [1] })
    (fun k => k ≤ v.notes.length) (fun k => v.notes.length - k) 0 (by simp) (by simp (decide := true) [int, spansD, notesD]) ?_
  intro k hk
  by_cases hlt : k < v.notes.length
  case neg =>
    have hnl : ¬ (k : Int) < v.notes.length := by omega
    simp (decide := true) [int, ints, notesD, spansD, docD, Dc.row, hnl]
    refine scall_pure (by rfl) (by rfl) w3 (by simp (decide := true) [docD, Dc.row, int, ints, spansD, notesD]) ?_
    simp (decide := true) [int, ints, notesD, spansD, docD, Dc.row]
    refine scall_pure (by rfl) (by rfl) s1 (by simp (decide := true) [docD, Dc.row, int, ints, spansD, notesD]) ?_
    simp (decide := true) [int, ints, notesD, spansD, docD, Dc.row]
    refine scall_pure (by rfl) (by rfl) awake46_R (by simp (decide := true) [docD, Dc.row, int, ints, spansD, notesD]) ?_
    simp (decide := true) [int, ints, notesD, spansD, docD, Dc.row]
  have hlt' : (k : Int) < v.notes.length := by omega
  obtain ⟨x, ex'⟩ : ∃ x, v.notes[k] = x := ⟨_, rfl⟩
  have ex : v.notes[k]? = some x := by rw [List.getElem?_eq_getElem hlt, ex']
  have hxm : x ∈ v.notes := by rw [← ex']; exact List.getElem_mem hlt
  obtain ⟨y, hy1, hy2⟩ := hln x hxm
  have hG := refGet_ok w x.id (by omega)
  rw [hy1] at hG
  simp (decide := true) [int, ints, notesD, hlt, hlt', ex, ex']
  refine draw_f mixed 14 [] (by rfl) (by rfl) (by rfl) (by rfl) ?_
  simp (decide := true) [int, ints, hlt, hlt', ex, ex', Nt.row, notesD]
  refine scall_pure (by rfl) (by rfl) hG (by simp (decide := true) [docD, Dc.row, int, ints, tiersD, notesD]) ?_
  simp (decide := true) [getD', Nt.row, int, ints, notesD, hlt, hlt', ex, ex', I64]
  refine ⟨by rfl, ?_⟩
  have hend : (-9223372036854775808 ≤ (k : Int) + 1 ∧ (k : Int) + 1 ≤ 9223372036854775807) ∧ ∃ y : Nat, y ≤ v.notes.length ∧ v.notes.length - y < v.notes.length - k ∧ (k : Int) + 1 = y := ⟨⟨by omega, by omega⟩, k + 1, hlt, by omega, by omega⟩
  refine ⟨fun hne => ?_, fun _ => hend⟩
  rcases hy2 with e | e
  · exact absurd (bytes_nil.2 e) hne
  · exact ⟨e, fun _ => hend⟩
theorem chain_seen {d : Dc} (h : Rgt d) {l : List Sp} {m : Nt} (hm : m ∈ d.notes) (hs : seenB d l m = true) : ∀ x ∈ chainN d m, ∃ y, getN (viewC d l).notes x.id = (y, true) := by
  intro x hx
  have hk := chain_kept h _ m (Nat.le_refl _) (.seen m hm hs) x hx
  rw [viewC_eq h]
  exact ⟨_, view_get h hk⟩
set_option maxHeartbeats 8000000 in
theorem law_texts46 (d : Dc) (l : List Sp) (hs : ∀ t ∈ d.tiers, t.name.size ≤ 9223372036854775807) (hx : ∀ n ∈ d.notes, n.text.size ≤ 9223372036854775807) :
    PureR Try.prog 8 [docD d, spansD l] (.bool true) := by
  refine pure_of_body mixed Try.func8 rfl call_8 ?_
  simp (decide := true) [Try.f8, docD, Dc.row, int]
  refine ECall.pure (by rfl) (light46_ok d l hs hx) (by simp (decide := true) [docD, Dc.row]) ?_
  cases hl : light46 d l
  · simp (decide := true)
    refine ECall.pure (by rfl) awake46_R (by simp) ?_
    simp (decide := true)
  obtain ⟨h0, h1, h2, h3, hr⟩ := light46_spec hl
  have hl40 : l.length < 2^40 := by omega
  have w1 := view_ok d hr (by omega) l hl40
  have ht20 := tiers20 hr
  have hvl : (viewC d l).notes.length ≤ d.notes.length := by
    have := keptN_len d l d.notes
    show ((keptN d l d.notes).map (clr d l)).length ≤ _
    rw [List.length_map]; exact this
  have hch := fun (m : Nt) (hm : m ∈ d.notes) (hs : seenB d l m = true) => chain_seen hr hm hs
  have hvs := fun (m : Nt) (hm : m ∈ d.notes) (hs : seenB d l m = true) => view_seen hr (l := l) hm hs
  have hvt := fun (m : Nt) (hm : m ∈ d.notes) (hs : seenB d l m = false) => view_text hr (l := l) hm hs
  rw [← viewC_eq hr] at hvs hvt
  generalize viewC d l = v at w1 hch hvs hvt hvl
  simp (decide := true) [int, spansD]
  refine ECall.pure (by rfl) w1 (by simp (decide := true) [docD, Dc.row, int, spansD]) ?_
  simp (decide := true) [int, docD, Dc.row, notesD]
  refine loop_rule mixed (fun k : Nat => { n := 101, next := 2, slots := [(1, .d (spansD l)), (2, .bp 0 0), (5, .bp 1 0), (6, .d (int k))], own := [(0, .box 28 (docCells d)), (1, .box 28 (docCells v))] })
    (fun k => k ≤ d.notes.length) (fun k => d.notes.length - k) 0 (by simp) (by simp (decide := true) [int, spansD, notesD]) ?_
  intro k hk
  by_cases hlt : k < d.notes.length
  case neg =>
    have hnl : ¬ (k : Int) < d.notes.length := by omega
    have hvl' : (v.notes.length : Int) ≤ d.notes.length := by omega
    simp (decide := true) [int, ints, notesD, spansD, docD, Dc.row, hnl, hvl, hvl']
    refine ECall.pure (by rfl) awake46_R (by simp) ?_
    simp (decide := true) [int, ints, notesD, spansD, docD, Dc.row]
  have hlt' : (k : Int) < d.notes.length := by omega
  obtain ⟨m, em'⟩ : ∃ m, d.notes[k] = m := ⟨_, rfl⟩
  have em : d.notes[k]? = some m := by rw [List.getElem?_eq_getElem hlt, em']
  have hmm : m ∈ d.notes := by rw [← em']; exact List.getElem_mem hlt
  have hW := where_ok d hr m.id
  have hG := refGet_ok v m.id (by omega)
  have hC := covers_ok l (whereN d m) (by omega)
  have hch := hch m hmm
  have hvs := hvs m hmm
  have hvt := hvt m hmm
  have hCh := chain_ok d hr m.id
  have hend : (-9223372036854775808 ≤ (k : Int) + 1 ∧ (k : Int) + 1 ≤ 9223372036854775807) ∧ ∃ y : Nat, y ≤ d.notes.length ∧ d.notes.length - y < d.notes.length - k ∧ (k : Int) + 1 = y := ⟨⟨by omega, by omega⟩, k + 1, hlt, by omega, by omega⟩
  unfold whereD at hW
  rw [getN_of hr hmm] at hW hCh
  have hcl : (idsOf (chainN d m)).length ≤ 21 := by
    unfold idsOf
    rw [List.length_map]
    have q1 := (chain_mem hr _ m hmm (Nat.le_refl _)).2
    have q2 := (hr.nok _ hmm).t1
    have q3 := (hr.nok _ hmm).t0
    omega
  change PureR _ _ _ (ints (idsOf (chainN d m))) at hCh
  change PureR _ _ _ (.bool (seenB d l m)) at hC
  rw [if_pos rfl] at hW
  simp only at hW
  generalize whereN d m = sp at hW hC
  generalize getN v.notes m.id = g at hG hvs hvt
  obtain ⟨y, yk⟩ := g
  simp (decide := true) [int, ints, notesD, hlt, hlt', em, em']
  refine draw_f mixed 14 [] (by rfl) (by rfl) (by rfl) (by rfl) ?_
  simp (decide := true) [int, ints, hlt, hlt', em, em', Nt.row, notesD]
  refine scall_pure (by rfl) (by rfl) hW (by simp (decide := true) [docD, Dc.row, int, ints, tiersD, notesD]) ?_
  simp (decide := true) [getD', Nt.row, Sp.row, int, ints, notesD, hlt, hlt', em, em', I64]
  refine ⟨by rfl, ?_⟩
  refine draw_f mixed 14 [] (by rfl) (by rfl) (by rfl) (by rfl) ?_
  simp (decide := true) [int, ints, hlt, hlt', em, em', Nt.row, notesD]
  refine scall_pure (by rfl) (by rfl) hG (by simp (decide := true) [docD, Dc.row, int, ints, tiersD, notesD]) ?_
  simp (decide := true) [getD', Nt.row, Sp.row, int, ints, notesD, hlt, hlt', em, em', I64]
  refine ⟨by rfl, ?_⟩
  refine ECall.pure (by rfl) hC (by simp (decide := true) [docD, Dc.row, int, ints, tiersD, spansD, Sp.row]) ?_
  cases hb : seenB d l m with
  | false =>
    have hyt := hvt hb
    simp only at hyt
    have hyt' := bytes_nil.2 hyt
    simp (decide := true) [int, ints, notesD, spansD, Nt.row, hyt, hyt', I64]
    exact hend
  | true =>
    have hv := hvs hb
    cases hv
    have hch := hch hb
    simp (decide := true) [int, ints, notesD, spansD, Nt.row, hlt, hlt', em, em', I64]
    refine ECall.pure (by rfl) hCh (by simp (decide := true) [docD, Dc.row, int, ints, tiersD, notesD, spansD]) ?_
    simp (decide := true) [int, ints]
    have hil : (idsOf (chainN d m)).length = (chainN d m).length := by simp [idsOf]
    refine loop_rule mixed (fun j : Nat => { n := 101, next := 2, slots := [(1, .d (spansD l)), (2, .bp 0 0), (5, .bp 1 0), (6, .d (int k)), (11, .d (ints (idsOf (chainN d m)))), (12, .d (int j))], own := [(0, .box 28 (docCells d)), (1, .box 28 (docCells v))] })
      (fun j => j ≤ (chainN d m).length) (fun j => (chainN d m).length - j) 0 (by simp) (by simp (decide := true) [int, ints, spansD, notesD]) ?_
    intro j hj
    by_cases hjl : j < (chainN d m).length
    case neg =>
      have hnl : ¬ (j : Int) < (chainN d m).length := by omega
      simp (decide := true) [int, ints, notesD, spansD, hnl, hil, I64]
      exact hend
    have hjl' : (j : Int) < (chainN d m).length := by omega
    have hjl2 : j < (idsOf (chainN d m)).length := by omega
    obtain ⟨c, ec'⟩ : ∃ c, (chainN d m)[j] = c := ⟨_, rfl⟩
    have ec : (idsOf (chainN d m))[j]? = some c.id := by unfold idsOf; rw [List.getElem?_map, List.getElem?_eq_getElem hjl, ec']; rfl
    have eg : (idsOf (chainN d m))[j]'hjl2 = c.id := by simp [idsOf, ec']
    obtain ⟨z, hz⟩ := hch c (by rw [← ec']; exact List.getElem_mem hjl)
    have hGz := refGet_ok v c.id (by omega)
    rw [hz] at hGz
    simp (decide := true) [int, ints, notesD, hjl, hjl', hjl2, ec, eg, hil]
    refine draw_f mixed 12 [] (by rfl) (by rfl) (by rfl) (by rfl) ?_
    simp (decide := true) [int, ints, hjl, hjl', hjl2, ec, eg, hil, Nt.row, notesD]
    refine scall_pure (by rfl) (by rfl) hGz (by simp (decide := true) [docD, Dc.row, int, ints, tiersD, notesD]) ?_
    simp (decide := true) [getD', Nt.row, Sp.row, int, ints, notesD, hjl, hjl', hjl2, ec, eg, hil, I64]
    exact ⟨by rfl, ⟨by omega, by omega⟩, j + 1, hjl, by omega, by omega⟩
end Go.V

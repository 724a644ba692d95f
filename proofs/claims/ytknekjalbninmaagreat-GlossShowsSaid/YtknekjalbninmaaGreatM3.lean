/- Contracts and plain laws of this seat: part M3. It needs no conditions. -/
import Derived.Test.YtknekjalbninmaaGreatU3
import Derived.Test.YtknekjalbninmaaGreatW1
import Derived.Test.YtknekjalbninmaaGreatM1
import Derived.Test.YtknekjalbninmaaGreatU0
set_option linter.unusedVariables false
set_option linter.unusedSimpArgs false
set_option linter.unusedSectionVars false
set_option maxRecDepth 100000
namespace Go.V.Doc
open Go Go.Proofs
def byteN (s : ByteArray) (k : Nat) : Nat := (s.data.toList.getD k 0).toNat
theorem byteAt_nat (s : ByteArray) (k : Nat) : byteAt s (k : Int) = (byteN s k : Int) := by simp [byteAt, byteN]
def badByte (b : Nat) : Bool := decide (b < 32) || decide (b = 127)
def badText (s : ByteArray) : Bool := (List.range s.size).any fun k => badByte (byteN s k)
def textE (s : ByteArray) : Int := if 200 < s.size then 5 else if validB s = true then (if badText s = true then 3 else 0) else 3
end Go.V.Doc
namespace Go.V.Doc
open Go Go.Proofs
structure Tir where
  name : ByteArray
  kind : Int
  role : Int
  par : Int
  deriving Inhabited, DecidableEq
def Tir.row (t : Tir) : List D := [.str t.name, int t.kind, int t.role, int t.par]
def tiersD (l : List Tir) : D := .sl (l.map Tir.row)
structure Dc where
  id : Int
  name : ByteArray
  len : Int
  day : Int
  spk : List Int
  tiers : List Tir
  notes : List Nt
  deriving DecidableEq
def Dc.row (d : Dc) : List D := [int d.id, .str d.name, int d.len, int d.day, ints d.spk, tiersD d.tiers, notesD d.notes]
def docD (d : Dc) : D := .agg d.row
theorem take_snoc' {α : Type} {l : List α} {k : Nat} (h : k < l.length) : l.take (k + 1) = l.take k ++ [l[k]] := by rw [List.take_succ_eq_append_getElem h]
theorem take_all' {α : Type} {p : α → Prop} {l : List α} {k : Nat} (h : k < l.length) (hp : ∀ e ∈ l.take k, p e) (he : p l[k]) : ∀ e ∈ l.take (k + 1), p e := by
  rw [take_snoc' h]
  intro e hm
  rcases List.mem_append.1 hm with hm | hm
  · exact hp e hm
  · simp at hm; rw [hm]; exact he
@[simp] theorem bytes_toList {a b : ByteArray} : a.toList = b.toList ↔ a = b := by
  rw [← MapKept.bytes_beq, beq_toListBytes, beq_iff_eq]
structure Dc.fit (d : Dc) : Prop where
  notes : d.notes.length ≤ 320
  tiers : d.tiers.length ≤ 20
  spk : d.spk.length ≤ 100
def Nt.zero : Nt := ⟨0, 0, 0, 0, 0, 0, ⟨#[]⟩⟩
def getN (l : List Nt) (id : Int) : Nt × Bool := match l.find? (fun n => decide (n.id = id)) with
  | some n => (n, true)
  | none => (Nt.zero, false)
def getD' (r : Nt × Bool) : D := .tup [.agg r.1.row, .bool r.2]
theorem getN_hit {l : List Nt} {id : Int} {k : Nat} (h : k < l.length) (hp : ∀ e ∈ l.take k, e.id ≠ id) (he : l[k].id = id) : getN l id = (l[k], true) := by
  have : l.find? (fun n => decide (n.id = id)) = some l[k] := by
    rw [List.find?_eq_some_iff_append]
    refine ⟨by simpa using he, l.take k, l.drop (k + 1), by rw [List.getElem_cons_drop, List.take_append_drop], fun e hm => by simpa using hp e hm⟩
  simp [getN, this]
theorem getN_miss {l : List Nt} {id : Int} (hp : ∀ e ∈ l, e.id ≠ id) : getN l id = (Nt.zero, false) := by
  have : l.find? (fun n => decide (n.id = id)) = none := by rw [List.find?_eq_none]; intro e he; simpa using hp e he
  simp [getN, this]
abbrev docCells (d : Dc) : List Sym := [.d (int d.id), .d (.str d.name), .d (int d.len), .d (int d.day), .d (ints d.spk), .d (tiersD d.tiers), .d (notesD d.notes)]
abbrev noteCells (n : Nt) : List Sym := [.d (int n.id), .d (int n.tier), .d (int n.par), .d (int n.fr), .d (int n.tO), .d (int n.rank), .d (.str n.text)]
theorem get_ok (d : Dc) (id : Int) (hl : d.notes.length < 2^62) : PureR Tryz.prog 54 [docD d, int id] (getD' (getN d.notes id)) := by
  refine pure_of_body mixed Tryz.func54 rfl call_54 ?_
  simp (decide := true) [Tryz.f54, docD, Dc.row, notesD, tiersD, ints, int]
  refine loop_rule mixed (fun k : Nat => { n := 22, next := 2, slots := [(1, .d (int id)), (2, .bp 0 0), (4, .bp 1 0), (5, .d (.bool false)), (9, .d (notesD d.notes)), (10, .d (.int .i64 d.notes.length)), (11, .d (.int .i64 k))], own := [(0, .box 53 (docCells d)), (1, .box 72 (noteCells Nt.zero))] })
    (fun k => k ≤ d.notes.length ∧ ∀ e ∈ d.notes.take k, e.id ≠ id) (fun k => d.notes.length - k) 0 (by simp) (by simp (decide := true) [notesD, tiersD, ints, int, Nt.zero]) ?_
  intro k ⟨hk, hp⟩
  by_cases hlt : k < d.notes.length
  · have e1 : d.notes[k]? = some d.notes[k] := List.getElem?_eq_getElem hlt
    simp (decide := true) [notesD, tiersD, ints, int, Nt.row, Nt.zero, e1, hlt, I64]
    refine ⟨fun h => ?_, fun h => ⟨by omega, k + 1, ⟨hlt, take_all' hlt hp h⟩, by omega, by omega⟩⟩
    simp [getD', getN_hit hlt hp h, Nt.row, int]
  · have : k = d.notes.length := by omega
    subst this
    rw [List.take_length] at hp
    simp (decide := true) [notesD, tiersD, ints, int, getN_miss hp, getD', Nt.row, Nt.zero]
theorem refGet_ok (d : Dc) (id : Int) (hl : d.notes.length < 2^62) : PureR Tryz.prog 36 [docD d, int id] (getD' (getN d.notes id)) := by
  refine pure_of_body mixed Tryz.func36 rfl call_36 ?_
  simp (decide := true) [Tryz.f36, docD, Dc.row, notesD, tiersD, ints, int]
  refine loop_rule mixed (fun k : Nat => { n := 28, next := 2, slots := [(1, .d (int id)), (2, .bp 0 0), (4, .bp 1 0), (5, .d (.bool false)), (6, .d (.int .i64 k))], own := [(0, .box 53 (docCells d)), (1, .box 72 (noteCells Nt.zero))] })
    (fun k => k ≤ d.notes.length ∧ ∀ e ∈ d.notes.take k, e.id ≠ id) (fun k => d.notes.length - k) 0 (by simp) (by simp (decide := true) [notesD, tiersD, ints, int, Nt.zero]) ?_
  intro k ⟨hk, hp⟩
  by_cases hlt : k < d.notes.length
  · have e1 : d.notes[k]? = some d.notes[k] := List.getElem?_eq_getElem hlt
    simp (decide := true) [notesD, tiersD, ints, int, Nt.row, Nt.zero, e1, hlt, I64]
    refine ⟨fun h => ?_, fun h => ⟨by omega, k + 1, ⟨hlt, take_all' hlt hp h⟩, by omega, by omega⟩⟩
    simp [getD', getN_hit hlt hp h, Nt.row, int]
  · have : k = d.notes.length := by omega
    subst this
    rw [List.take_length] at hp
    simp (decide := true) [notesD, tiersD, ints, int, getN_miss hp, getD', Nt.row, Nt.zero]
end Go.V.Doc
namespace Go.V.Doc
open Go Go.Proofs
def nmS (b : Nat) : Bool := decide (97 ≤ b) && decide (b ≤ 122)
def nmC (b : Nat) : Bool := nmS b || (decide (48 ≤ b) && decide (b ≤ 57)) || decide (b = 45) || decide (b = 95)
def nameP (s : ByteArray) : Bool := decide (1 ≤ s.size) && decide (s.size ≤ 32) && nmS (byteN s 0) && (List.range s.size).all fun k => nmC (byteN s k)
theorem strRows_len (s : ByteArray) : (strRows s).length = s.size := by unfold strRows; rw [List.length_map]; rfl
theorem nm_cases (b : Nat) : (97 ≤ b ∧ b ≤ 122) ∨ (48 ≤ b ∧ b ≤ 57) ∨ b = 45 ∨ b = 95 ∨ (b < 48 ∧ b ≠ 45) ∨ (57 < b ∧ b < 97 ∧ b ≠ 95) ∨ 122 < b := by omega
theorem refName_ok (s : ByteArray) (hs : s.size ≤ 9223372036854775807) : PureR Tryz.prog 143 [.str s] (.bool (nameP s)) := by
  refine pure_of_body mixed Tryz.func143 rfl call_143 ?_
  simp (decide := true) [Tryz.f143]
  refine loop_rule mixed (fun k : Nat => { n := 59, next := 0, slots := [(0, .d (.str s)), (3, .d (.int .i64 k))], own := [] })
    (fun k => k ≤ s.size ∧ ∀ j, j < k → (nmC (byteN s j) = true ∧ (j = 0 → nmS (byteN s 0) = true))) (fun k => s.size - k) 0 (by simp) (by simp (decide := true) [int]) ?_
  intro k ⟨hk, hp⟩
  by_cases hlt : k < s.size
  · have hlt' : (k : Int) < s.size := by omega
    have e0 : byteAt s (k : Int) = (byteN s k : Int) := byteAt_nat s k
    have good : nmC (byteN s k) = true → (k = 0 → nmS (byteN s k) = true) → ∀ j, j < k + 1 → (nmC (byteN s j) = true ∧ (j = 0 → nmS (byteN s 0) = true)) := by
      intro hb h0 j hj
      rcases Nat.lt_or_ge j k with hj' | hj'
      · exact hp j hj'
      · have : j = k := by omega
        subst this; exact ⟨hb, fun e => by subst e; exact h0 rfl⟩
    have bad : nmC (byteN s k) = false → nameP s = false := fun hb => by
      have : (List.range s.size).all (fun k => nmC (byteN s k)) = false := by rw [List.all_eq_false]; exact ⟨k, by simpa using hlt, by simp [hb]⟩
      simp only [nameP, this, Bool.and_false]
    have bad0 : k = 0 → nmS (byteN s k) = false → nameP s = false := fun h0 hb => by
      subst h0
      simp only [nameP, hb, Bool.and_false, Bool.false_and]
    generalize byteN s k = b at e0 good bad bad0
    by_cases hs : 97 ≤ b ∧ b ≤ 122
    · obtain ⟨c1, c2⟩ := hs
      have q1 : (97 : Int) ≤ b := by omega
      have q2 : (b : Int) ≤ 122 := by omega
      have hS : nmS b = true := by simp [nmS]; omega
      simp (decide := true) [hlt, hlt', e0, q1, q2, I64]
      exact ⟨by omega, k + 1, ⟨by omega, good (by simp [nmC, hS]) (fun _ => hS)⟩, by omega, by omega⟩
    · have hS : nmS b = false := by simp [nmS]; omega
      by_cases hk0 : k = 0
      · subst hk0
        have hb := bad0 rfl hS
        have e0' : byteAt s 0 = (b : Int) := e0
        by_cases q1 : (97 : Int) ≤ b
        · have q2 : ¬ (b : Int) ≤ 122 := by omega
          simp (decide := true) [hlt, hlt', e0', q1, q2, hb]
        · simp (decide := true) [hlt, hlt', e0', q1, hb]
      · have hk0' : ¬ (k : Int) = 0 := by omega
        have key : ∀ (r : Bool), nmC b = r → (decide (97 ≤ (b : Int)) && decide ((b : Int) ≤ 122)) = false := fun _ _ => by simp; omega
        by_cases q1 : (97 : Int) ≤ b
        · have q2 : ¬ (b : Int) ≤ 122 := by omega
          have q3 : ¬ (b : Int) = 45 := by omega
          have q4 : ¬ (b : Int) = 95 := by omega
          have q5 : ¬ (b : Int) < 48 := by omega
          have q6 : (57 : Int) < b := by omega
          have hb := bad (by simp [nmC, hS]; omega)
          simp (decide := true) [hlt, hlt', e0, q1, q2, q3, q4, q5, q6, hk0, hk0', hb]
        · rcases nm_cases b with ⟨c1, c2⟩ | ⟨c1, c2⟩ | rfl | rfl | ⟨c1, c2⟩ | ⟨c1, c2, c3⟩ | c1
          · omega
          · have q3 : ¬ (b : Int) = 45 := by omega
            have q4 : ¬ (b : Int) = 95 := by omega
            have q5 : ¬ (b : Int) < 48 := by omega
            have q6 : ¬ (57 : Int) < b := by omega
            simp (decide := true) [hlt, hlt', e0, q1, q3, q4, q5, q6, hk0, hk0', I64]
            exact ⟨by omega, k + 1, ⟨by omega, good (by simp [nmC]; omega) (fun h => absurd h hk0)⟩, by omega, by omega⟩
          · simp (decide := true) [hlt, hlt', e0, hk0, hk0', I64]
            exact ⟨by omega, k + 1, ⟨by omega, good (by decide) (fun h => absurd h hk0)⟩, by omega, by omega⟩
          · simp (decide := true) [hlt, hlt', e0, hk0, hk0', I64]
            exact ⟨by omega, k + 1, ⟨by omega, good (by decide) (fun h => absurd h hk0)⟩, by omega, by omega⟩
          · have q3 : ¬ (b : Int) = 45 := by omega
            have q4 : ¬ (b : Int) = 95 := by omega
            have q5 : (b : Int) < 48 := by omega
            have hb := bad (by simp [nmC, hS]; omega)
            simp (decide := true) [hlt, hlt', e0, q1, q3, q4, q5, hk0, hk0', hb]
          · have q3 : ¬ (b : Int) = 45 := by omega
            have q4 : ¬ (b : Int) = 95 := by omega
            have q5 : ¬ (b : Int) < 48 := by omega
            have q6 : (57 : Int) < b := by omega
            have hb := bad (by simp [nmC, hS]; omega)
            simp (decide := true) [hlt, hlt', e0, q1, q3, q4, q5, q6, hk0, hk0', hb]
          · omega
  · have : k = s.size := by omega
    subst this
    have hall : (List.range s.size).all (fun k => nmC (byteN s k)) = true := by
      rw [List.all_eq_true]; intro j hj; exact (hp j (by simpa using hj)).1
    by_cases h1 : 1 ≤ s.size
    · have h1' : (1 : Int) ≤ s.size := by omega
      have hS := (hp 0 (by omega)).2 rfl
      simp (decide := true) [h1', nameP, hall, hS, h1]
      omega
    · have h1' : ¬ (1 : Int) ≤ s.size := by omega
      simp (decide := true) [h1', nameP, h1]
end Go.V.Doc
namespace Go.V.Doc
open Go Go.Proofs
def alK (k : Int) : Bool := decide (k = 0) || decide (k = 1) || decide (k = 2)
def alT (l : List Tir) (i : Int) : Bool := decide (0 ≤ i) && decide (i < l.length) && alK (l[i.toNat]?.getD default).kind
def findT (l : List Tir) (name : ByteArray) : Bool := l.any fun t => decide (t.name = name)
def roleT (l : List Tir) (role : Int) : Bool := !decide (role = 0) && l.any fun t => decide (t.role = role)
def rolesE (pr tk tr : Int) : Int :=
  if tr = 1 then (if tk = 0 then 0 else 14) else if tr = 2 then (if pr = 1 then 0 else 13) else if tr = 3 then (if tk = 3 then (if pr = 2 then 0 else 13) else 14)
  else if tr = 4 then (if tk = 4 then (if pr = 3 then 0 else 13) else 14) else if tr = 5 then (if tk = 4 then (if pr = 1 then 0 else 13) else 14) else 0
def oneE (before : List Tir) (t : Tir) : Int :=
  if nameP t.name = false then 7 else if findT before t.name = true then 8 else if t.kind < 0 ∨ 4 < t.kind then 14 else if t.role < 0 ∨ 5 < t.role then 2
  else if roleT before t.role = true then 8 else if t.kind = 0 then (if t.par = -1 then rolesE (-1) t.kind t.role else 13)
  else if t.par < 0 ∨ before.length ≤ t.par then 13
  else if alK t.kind = true ∧ alK (before[t.par.toNat]?.getD default).kind = false then 13 else rolesE (before[t.par.toNat]?.getD default).role t.kind t.role
def tiersGo (l : List Tir) : Nat → Nat → Int
  | 0, _ => 0
  | n + 1, i => if h : i < l.length then (if oneE (l.take i) l[i] = 0 then tiersGo l n (i + 1) else oneE (l.take i) l[i]) else 0
def tiersE (l : List Tir) : Int := if 12 < l.length then 11 else tiersGo l l.length 0
end Go.V.Doc
namespace Go.V.Doc
open Go Go.Proofs
theorem timed_ok (k : Int) : PureR Tryz.prog 189 [int k] (.bool (alK k)) := by
  refine pure_of_body mixed Tryz.func189 rfl call_189 ?_
  by_cases h0 : k = 0
  · subst h0; simp (decide := true) [Tryz.f189, int, alK]
  by_cases h1 : k = 1
  · subst h1; simp (decide := true) [Tryz.f189, int, alK]
  by_cases h2 : k = 2
  · subst h2; simp (decide := true) [Tryz.f189, int, alK]
  simp (decide := true) [Tryz.f189, int, alK, h0, h1, h2]
def kindR (r : Int) : Int := if r = 1 then 0 else if r = 3 then 3 else if r = 4 then 4 else if r = 5 then 4 else -1
def overR (r : Int) : Int := if r = 2 then 1 else if r = 5 then 1 else if r = 3 then 2 else if r = 4 then 3 else -1
theorem kindR_ok (r : Int) : PureR Tryz.prog 190 [int r] (int (kindR r)) := by
  refine pure_of_body mixed Tryz.func190 rfl call_190 ?_
  by_cases h1 : r = 1
  · subst h1; simp (decide := true) [Tryz.f190, int, kindR]
  by_cases h3 : r = 3
  · subst h3; simp (decide := true) [Tryz.f190, int, kindR]
  by_cases h4 : r = 4
  · subst h4; simp (decide := true) [Tryz.f190, int, kindR]
  by_cases h5 : r = 5
  · subst h5; simp (decide := true) [Tryz.f190, int, kindR]
  simp (decide := true) [Tryz.f190, int, kindR, h1, h3, h4, h5]
theorem overR_ok (r : Int) : PureR Tryz.prog 191 [int r] (int (overR r)) := by
  refine pure_of_body mixed Tryz.func191 rfl call_191 ?_
  by_cases h2 : r = 2
  · subst h2; simp (decide := true) [Tryz.f191, int, overR]
  by_cases h5 : r = 5
  · subst h5; simp (decide := true) [Tryz.f191, int, overR]
  by_cases h3 : r = 3
  · subst h3; simp (decide := true) [Tryz.f191, int, overR]
  by_cases h4 : r = 4
  · subst h4; simp (decide := true) [Tryz.f191, int, overR]
  simp (decide := true) [Tryz.f191, int, overR, h2, h5, h3, h4]
theorem any_take {α : Type} {l : List α} {p : α → Bool} {k : Nat} (h : k < l.length) : (l.take (k + 1)).any p = ((l.take k).any p || p l[k]) := by
  rw [List.take_succ_eq_append_getElem h, List.any_append]; simp
set_option maxHeartbeats 8000000 in
theorem refTier_ok (l : List Tir) (i : Nat) (hi : i < l.length) (hl : l.length < 2^62) (hs : ∀ t ∈ l, t.name.size ≤ 9223372036854775807) : PureR Tryz.prog 131 [tiersD l, int i] (int (oneE (l.take i) l[i])) := by
  refine pure_of_body mixed Tryz.func131 rfl call_131 ?_
  have hi' : (i : Int) < l.length := by omega
  have ei : l[i]? = some l[i] := List.getElem?_eq_getElem hi
  have hlen : (l.take i).length = i := by rw [List.length_take]; omega
  have hsz := hs _ (List.getElem_mem hi)
  obtain ⟨t, et⟩ : ∃ t, l[i] = t := ⟨_, rfl⟩
  rw [et] at hsz ei ⊢
  obtain ⟨nm, kd, rl, pr⟩ := t
  simp (decide := true) [Tryz.f131, tiersD, Tir.row, int, ei, et, hi, hi']
  refine ECall.pure (by rfl) (refName_ok nm hsz) (by simp) ?_
  by_cases hn : nameP nm = true
  case neg => simp (decide := true) [hn, oneE, int]
  simp (decide := true) [hn, int]
  refine loop_rule mixed (fun k : Nat => { n := 136, next := 1, slots := [(0, .d (tiersD l)), (1, .d (int i)), (4, .d (int 0)), (5, .bp 0 0), (6, .d (.int .i64 k))], own := [(0, .box 74 [.d (.str nm), .d (int kd), .d (int rl), .d (int pr)])] })
    (fun k => k ≤ i ∧ findT (l.take k) nm = false) (fun k => i - k) 0 (by simp [findT]) (by simp (decide := true) [tiersD, int]) ?_
  rintro k ⟨hk, hp⟩
  by_cases hlt : k < i
  · have hlt' : (k : Int) < i := by omega
    have hkl : k < l.length := by omega
    have hkl' : (k : Int) < l.length := by omega
    have e1 : l[k]? = some l[k] := List.getElem?_eq_getElem hkl
    have hst : findT (l.take (k + 1)) nm = decide (l[k].name = nm) := by unfold findT at hp ⊢; rw [any_take hkl, hp, Bool.false_or]
    by_cases hq : l[k].name = nm
    · have hf : findT (l.take i) nm = true := by
        unfold findT; rw [List.any_eq_true]
        exact ⟨l[k], by rw [List.mem_take_iff_getElem]; exact ⟨k, by omega, rfl⟩, by simp [hq]⟩
      simp (decide := true) [tiersD, Tir.row, int, e1, hkl, hkl', hlt', hq, oneE, hn, hf]
    · simp (decide := true) [tiersD, Tir.row, int, e1, hkl, hkl', hlt', hq, I64]
      exact ⟨by omega, k + 1, ⟨by omega, by rw [hst]; simp [hq]⟩, by omega, by omega⟩
  have : k = i := by omega
  subst this
  by_cases k1 : kd < 0
  · simp (decide := true) [int, tiersD, k1, oneE, hn, hp]
  by_cases k2 : 4 < kd
  · simp (decide := true) [int, tiersD, k1, k2, oneE, hn, hp]
  by_cases r1 : rl < 0
  · simp (decide := true) [int, tiersD, k1, k2, r1, oneE, hn, hp]
  by_cases r2 : 5 < rl
  · simp (decide := true) [int, tiersD, k1, k2, r1, r2, oneE, hn, hp]
  simp (decide := true) [int, tiersD, k1, k2, r1, r2]
  refine loop_rule mixed (fun j : Nat => { n := 136, next := 1, slots := [(0, .d (tiersD l)), (1, .d (int k)), (4, .d (int 0)), (5, .bp 0 0), (7, .d (.int .i64 j))], own := [(0, .box 74 [.d (.str nm), .d (int kd), .d (int rl), .d (int pr)])] })
    (fun j => j ≤ k ∧ roleT (l.take j) rl = false) (fun j => k - j) 0 (by simp [roleT]) (by simp (decide := true) [tiersD, int]) ?_
  rintro j ⟨hj, hr⟩
  by_cases hlt : j < k
  · have hlt' : (j : Int) < k := by omega
    have hjl : j < l.length := by omega
    have hjl' : (j : Int) < l.length := by omega
    have e1 : l[j]? = some l[j] := List.getElem?_eq_getElem hjl
    by_cases z : rl = 0
    · subst z
      simp (decide := true) [tiersD, Tir.row, int, e1, hjl, hjl', hlt', I64]
      exact ⟨by omega, j + 1, ⟨by omega, by simp [roleT]⟩, by omega, by omega⟩
    have hst : roleT (l.take (j + 1)) rl = decide (l[j].role = rl) := by
      unfold roleT at hr ⊢
      simp only [z, decide_false, Bool.not_false, Bool.true_and] at hr ⊢
      rw [any_take hjl, hr, Bool.false_or]
    by_cases hq : l[j].role = rl
    · have hf : roleT (l.take k) rl = true := by
        unfold roleT
        simp only [z, decide_false, Bool.not_false, Bool.true_and]
        rw [List.any_eq_true]
        exact ⟨l[j], by rw [List.mem_take_iff_getElem]; exact ⟨j, by omega, rfl⟩, by simp [hq]⟩
      simp (decide := true) [tiersD, Tir.row, int, e1, hjl, hjl', hlt', hq, oneE, hn, hp, hf, k1, k2, r1, r2, z]
    · simp (decide := true) [tiersD, Tir.row, int, e1, hjl, hjl', hlt', hq, I64, z]
      exact ⟨by omega, j + 1, ⟨by omega, by rw [hst]; simp [hq]⟩, by omega, by omega⟩
  have : j = k := by omega
  subst this
  have hE : oneE (l.take j) ⟨nm, kd, rl, pr⟩ = if kd = 0 then (if pr = -1 then rolesE (-1) kd rl else 13) else if pr < 0 ∨ (j : Int) ≤ pr then 13 else if alK kd = true ∧ alK ((l.take j)[pr.toNat]?.getD default).kind = false then 13 else rolesE ((l.take j)[pr.toNat]?.getD default).role kd rl := by
    simp only [oneE]
    rw [if_neg (by simp [hn]), if_neg (by simp [hp]), if_neg (by omega), if_neg (by omega), if_neg (by simp [hr]), hlen]
  rw [hE]
  clear hE hp hr hn hlen
  by_cases k0 : kd = 0
  · subst k0
    by_cases p0 : pr = -1
    case neg =>
      simp (decide := true) [int, tiersD, Tir.row, p0]
    subst p0
    rcases (by omega : rl = 0 ∨ rl = 1 ∨ rl = 2 ∨ rl = 3 ∨ rl = 4 ∨ rl = 5) with rfl | rfl | rfl | rfl | rfl | rfl
    · skip
      simp (decide := true) [int, tiersD, Tir.row, rolesE, kindR, overR]
      repeat first
        | (refine scall_pure (by rfl) (by rfl) (kindR_ok _) (by simp [int]) ?_; simp (decide := true) [int, tiersD, Tir.row, rolesE, kindR, overR])
        | (refine scall_pure (by rfl) (by rfl) (overR_ok _) (by simp [int]) ?_; simp (decide := true) [int, tiersD, Tir.row, rolesE, kindR, overR])
        | (refine scall_pure (by rfl) (by rfl) (timed_ok _) (by simp [int]) ?_; simp (decide := true) [int, tiersD, Tir.row, rolesE, kindR, overR])
        | (refine ECall.pure (by rfl) (timed_ok _) (by simp [int]) ?_; simp (decide := true) [int, tiersD, Tir.row, rolesE, kindR, overR])
    · skip
      simp (decide := true) [int, tiersD, Tir.row, rolesE, kindR, overR]
      repeat first
        | (refine scall_pure (by rfl) (by rfl) (kindR_ok _) (by simp [int]) ?_; simp (decide := true) [int, tiersD, Tir.row, rolesE, kindR, overR])
        | (refine scall_pure (by rfl) (by rfl) (overR_ok _) (by simp [int]) ?_; simp (decide := true) [int, tiersD, Tir.row, rolesE, kindR, overR])
        | (refine scall_pure (by rfl) (by rfl) (timed_ok _) (by simp [int]) ?_; simp (decide := true) [int, tiersD, Tir.row, rolesE, kindR, overR])
        | (refine ECall.pure (by rfl) (timed_ok _) (by simp [int]) ?_; simp (decide := true) [int, tiersD, Tir.row, rolesE, kindR, overR])
    · skip
      simp (decide := true) [int, tiersD, Tir.row, rolesE, kindR, overR]
      repeat first
        | (refine scall_pure (by rfl) (by rfl) (kindR_ok _) (by simp [int]) ?_; simp (decide := true) [int, tiersD, Tir.row, rolesE, kindR, overR])
        | (refine scall_pure (by rfl) (by rfl) (overR_ok _) (by simp [int]) ?_; simp (decide := true) [int, tiersD, Tir.row, rolesE, kindR, overR])
        | (refine scall_pure (by rfl) (by rfl) (timed_ok _) (by simp [int]) ?_; simp (decide := true) [int, tiersD, Tir.row, rolesE, kindR, overR])
        | (refine ECall.pure (by rfl) (timed_ok _) (by simp [int]) ?_; simp (decide := true) [int, tiersD, Tir.row, rolesE, kindR, overR])
    · skip
      simp (decide := true) [int, tiersD, Tir.row, rolesE, kindR, overR]
      repeat first
        | (refine scall_pure (by rfl) (by rfl) (kindR_ok _) (by simp [int]) ?_; simp (decide := true) [int, tiersD, Tir.row, rolesE, kindR, overR])
        | (refine scall_pure (by rfl) (by rfl) (overR_ok _) (by simp [int]) ?_; simp (decide := true) [int, tiersD, Tir.row, rolesE, kindR, overR])
        | (refine scall_pure (by rfl) (by rfl) (timed_ok _) (by simp [int]) ?_; simp (decide := true) [int, tiersD, Tir.row, rolesE, kindR, overR])
        | (refine ECall.pure (by rfl) (timed_ok _) (by simp [int]) ?_; simp (decide := true) [int, tiersD, Tir.row, rolesE, kindR, overR])
    · skip
      simp (decide := true) [int, tiersD, Tir.row, rolesE, kindR, overR]
      repeat first
        | (refine scall_pure (by rfl) (by rfl) (kindR_ok _) (by simp [int]) ?_; simp (decide := true) [int, tiersD, Tir.row, rolesE, kindR, overR])
        | (refine scall_pure (by rfl) (by rfl) (overR_ok _) (by simp [int]) ?_; simp (decide := true) [int, tiersD, Tir.row, rolesE, kindR, overR])
        | (refine scall_pure (by rfl) (by rfl) (timed_ok _) (by simp [int]) ?_; simp (decide := true) [int, tiersD, Tir.row, rolesE, kindR, overR])
        | (refine ECall.pure (by rfl) (timed_ok _) (by simp [int]) ?_; simp (decide := true) [int, tiersD, Tir.row, rolesE, kindR, overR])
    · skip
      simp (decide := true) [int, tiersD, Tir.row, rolesE, kindR, overR]
      repeat first
        | (refine scall_pure (by rfl) (by rfl) (kindR_ok _) (by simp [int]) ?_; simp (decide := true) [int, tiersD, Tir.row, rolesE, kindR, overR])
        | (refine scall_pure (by rfl) (by rfl) (overR_ok _) (by simp [int]) ?_; simp (decide := true) [int, tiersD, Tir.row, rolesE, kindR, overR])
        | (refine scall_pure (by rfl) (by rfl) (timed_ok _) (by simp [int]) ?_; simp (decide := true) [int, tiersD, Tir.row, rolesE, kindR, overR])
        | (refine ECall.pure (by rfl) (timed_ok _) (by simp [int]) ?_; simp (decide := true) [int, tiersD, Tir.row, rolesE, kindR, overR])
  by_cases p0 : pr < 0
  · simp (decide := true) [int, tiersD, Tir.row, k0, p0]
  by_cases p1 : (j : Int) ≤ pr
  · simp (decide := true) [int, tiersD, Tir.row, k0, p0, p1]
  obtain ⟨q, rfl⟩ : ∃ q : Nat, pr = q := ⟨pr.toNat, by omega⟩
  have hq : q < l.length := by omega
  have hq' : (q : Int) < l.length := by omega
  obtain ⟨u, eu'⟩ : ∃ u, l[q] = u := ⟨_, rfl⟩
  have eu : l[q]? = some u := by rw [List.getElem?_eq_getElem hq, eu']
  have et : (l.take j)[(q : Int).toNat]? = some u := by rw [Int.toNat_natCast, List.getElem?_take, if_pos (by omega), eu]
  obtain ⟨un, uk, ur, up⟩ := u
  rw [et]
  simp only [Option.getD_some]
  by_cases a1 : alK kd = true
  · by_cases a2 : alK uk = true
    case neg =>
      simp (decide := true) [int, tiersD, Tir.row, k0, p0, p1, hq, hq', eu, eu', a1, a2, kindR, overR]
      repeat first
        | (refine scall_pure (by rfl) (by rfl) (kindR_ok _) (by simp [int]) ?_; simp (decide := true) [int, tiersD, Tir.row, k0, p0, p1, hq, hq', eu, eu', a1, a2, kindR, overR])
        | (refine scall_pure (by rfl) (by rfl) (overR_ok _) (by simp [int]) ?_; simp (decide := true) [int, tiersD, Tir.row, k0, p0, p1, hq, hq', eu, eu', a1, a2, kindR, overR])
        | (refine scall_pure (by rfl) (by rfl) (timed_ok _) (by simp [int]) ?_; simp (decide := true) [int, tiersD, Tir.row, k0, p0, p1, hq, hq', eu, eu', a1, a2, kindR, overR])
        | (refine ECall.pure (by rfl) (timed_ok _) (by simp [int]) ?_; simp (decide := true) [int, tiersD, Tir.row, k0, p0, p1, hq, hq', eu, eu', a1, a2, kindR, overR])
    rcases (by omega : rl = 0 ∨ rl = 1 ∨ rl = 2 ∨ rl = 3 ∨ rl = 4 ∨ rl = 5) with rfl | rfl | rfl | rfl | rfl | rfl
    · skip
      simp (decide := true) [int, tiersD, Tir.row, k0, p0, p1, hq, hq', eu, eu', a1, a2, rolesE, kindR, overR]
      repeat first
        | (refine scall_pure (by rfl) (by rfl) (kindR_ok _) (by simp [int]) ?_; simp (decide := true) [int, tiersD, Tir.row, k0, p0, p1, hq, hq', eu, eu', a1, a2, rolesE, kindR, overR])
        | (refine scall_pure (by rfl) (by rfl) (overR_ok _) (by simp [int]) ?_; simp (decide := true) [int, tiersD, Tir.row, k0, p0, p1, hq, hq', eu, eu', a1, a2, rolesE, kindR, overR])
        | (refine scall_pure (by rfl) (by rfl) (timed_ok _) (by simp [int]) ?_; simp (decide := true) [int, tiersD, Tir.row, k0, p0, p1, hq, hq', eu, eu', a1, a2, rolesE, kindR, overR])
        | (refine ECall.pure (by rfl) (timed_ok _) (by simp [int]) ?_; simp (decide := true) [int, tiersD, Tir.row, k0, p0, p1, hq, hq', eu, eu', a1, a2, rolesE, kindR, overR])
    · skip
      simp (decide := true) [int, tiersD, Tir.row, k0, p0, p1, hq, hq', eu, eu', a1, a2, rolesE, kindR, overR]
      repeat first
        | (refine scall_pure (by rfl) (by rfl) (kindR_ok _) (by simp [int]) ?_; simp (decide := true) [int, tiersD, Tir.row, k0, p0, p1, hq, hq', eu, eu', a1, a2, rolesE, kindR, overR])
        | (refine scall_pure (by rfl) (by rfl) (overR_ok _) (by simp [int]) ?_; simp (decide := true) [int, tiersD, Tir.row, k0, p0, p1, hq, hq', eu, eu', a1, a2, rolesE, kindR, overR])
        | (refine scall_pure (by rfl) (by rfl) (timed_ok _) (by simp [int]) ?_; simp (decide := true) [int, tiersD, Tir.row, k0, p0, p1, hq, hq', eu, eu', a1, a2, rolesE, kindR, overR])
        | (refine ECall.pure (by rfl) (timed_ok _) (by simp [int]) ?_; simp (decide := true) [int, tiersD, Tir.row, k0, p0, p1, hq, hq', eu, eu', a1, a2, rolesE, kindR, overR])
    · skip
      by_cases o1 : ur = 1
      · skip
        simp (decide := true) [int, tiersD, Tir.row, k0, p0, p1, hq, hq', eu, eu', a1, a2, rolesE, o1, kindR, overR]
        repeat first
          | (refine scall_pure (by rfl) (by rfl) (kindR_ok _) (by simp [int]) ?_; simp (decide := true) [int, tiersD, Tir.row, k0, p0, p1, hq, hq', eu, eu', a1, a2, rolesE, o1, kindR, overR])
          | (refine scall_pure (by rfl) (by rfl) (overR_ok _) (by simp [int]) ?_; simp (decide := true) [int, tiersD, Tir.row, k0, p0, p1, hq, hq', eu, eu', a1, a2, rolesE, o1, kindR, overR])
          | (refine scall_pure (by rfl) (by rfl) (timed_ok _) (by simp [int]) ?_; simp (decide := true) [int, tiersD, Tir.row, k0, p0, p1, hq, hq', eu, eu', a1, a2, rolesE, o1, kindR, overR])
          | (refine ECall.pure (by rfl) (timed_ok _) (by simp [int]) ?_; simp (decide := true) [int, tiersD, Tir.row, k0, p0, p1, hq, hq', eu, eu', a1, a2, rolesE, o1, kindR, overR])
      · skip
        simp (decide := true) [int, tiersD, Tir.row, k0, p0, p1, hq, hq', eu, eu', a1, a2, rolesE, o1, kindR, overR]
        repeat first
          | (refine scall_pure (by rfl) (by rfl) (kindR_ok _) (by simp [int]) ?_; simp (decide := true) [int, tiersD, Tir.row, k0, p0, p1, hq, hq', eu, eu', a1, a2, rolesE, o1, kindR, overR])
          | (refine scall_pure (by rfl) (by rfl) (overR_ok _) (by simp [int]) ?_; simp (decide := true) [int, tiersD, Tir.row, k0, p0, p1, hq, hq', eu, eu', a1, a2, rolesE, o1, kindR, overR])
          | (refine scall_pure (by rfl) (by rfl) (timed_ok _) (by simp [int]) ?_; simp (decide := true) [int, tiersD, Tir.row, k0, p0, p1, hq, hq', eu, eu', a1, a2, rolesE, o1, kindR, overR])
          | (refine ECall.pure (by rfl) (timed_ok _) (by simp [int]) ?_; simp (decide := true) [int, tiersD, Tir.row, k0, p0, p1, hq, hq', eu, eu', a1, a2, rolesE, o1, kindR, overR])
    · skip
      by_cases n1 : kd = 3
      case neg =>
        simp (decide := true) [int, tiersD, Tir.row, k0, p0, p1, hq, hq', eu, eu', a1, a2, rolesE, n1, kindR, overR]
        repeat first
          | (refine scall_pure (by rfl) (by rfl) (kindR_ok _) (by simp [int]) ?_; simp (decide := true) [int, tiersD, Tir.row, k0, p0, p1, hq, hq', eu, eu', a1, a2, rolesE, n1, kindR, overR])
          | (refine scall_pure (by rfl) (by rfl) (overR_ok _) (by simp [int]) ?_; simp (decide := true) [int, tiersD, Tir.row, k0, p0, p1, hq, hq', eu, eu', a1, a2, rolesE, n1, kindR, overR])
          | (refine scall_pure (by rfl) (by rfl) (timed_ok _) (by simp [int]) ?_; simp (decide := true) [int, tiersD, Tir.row, k0, p0, p1, hq, hq', eu, eu', a1, a2, rolesE, n1, kindR, overR])
          | (refine ECall.pure (by rfl) (timed_ok _) (by simp [int]) ?_; simp (decide := true) [int, tiersD, Tir.row, k0, p0, p1, hq, hq', eu, eu', a1, a2, rolesE, n1, kindR, overR])
      subst n1
      exact absurd a1 (by decide)
    · skip
      by_cases n1 : kd = 4
      case neg =>
        simp (decide := true) [int, tiersD, Tir.row, k0, p0, p1, hq, hq', eu, eu', a1, a2, rolesE, n1, kindR, overR]
        repeat first
          | (refine scall_pure (by rfl) (by rfl) (kindR_ok _) (by simp [int]) ?_; simp (decide := true) [int, tiersD, Tir.row, k0, p0, p1, hq, hq', eu, eu', a1, a2, rolesE, n1, kindR, overR])
          | (refine scall_pure (by rfl) (by rfl) (overR_ok _) (by simp [int]) ?_; simp (decide := true) [int, tiersD, Tir.row, k0, p0, p1, hq, hq', eu, eu', a1, a2, rolesE, n1, kindR, overR])
          | (refine scall_pure (by rfl) (by rfl) (timed_ok _) (by simp [int]) ?_; simp (decide := true) [int, tiersD, Tir.row, k0, p0, p1, hq, hq', eu, eu', a1, a2, rolesE, n1, kindR, overR])
          | (refine ECall.pure (by rfl) (timed_ok _) (by simp [int]) ?_; simp (decide := true) [int, tiersD, Tir.row, k0, p0, p1, hq, hq', eu, eu', a1, a2, rolesE, n1, kindR, overR])
      subst n1
      exact absurd a1 (by decide)
    · skip
      by_cases n1 : kd = 4
      case neg =>
        simp (decide := true) [int, tiersD, Tir.row, k0, p0, p1, hq, hq', eu, eu', a1, a2, rolesE, n1, kindR, overR]
        repeat first
          | (refine scall_pure (by rfl) (by rfl) (kindR_ok _) (by simp [int]) ?_; simp (decide := true) [int, tiersD, Tir.row, k0, p0, p1, hq, hq', eu, eu', a1, a2, rolesE, n1, kindR, overR])
          | (refine scall_pure (by rfl) (by rfl) (overR_ok _) (by simp [int]) ?_; simp (decide := true) [int, tiersD, Tir.row, k0, p0, p1, hq, hq', eu, eu', a1, a2, rolesE, n1, kindR, overR])
          | (refine scall_pure (by rfl) (by rfl) (timed_ok _) (by simp [int]) ?_; simp (decide := true) [int, tiersD, Tir.row, k0, p0, p1, hq, hq', eu, eu', a1, a2, rolesE, n1, kindR, overR])
          | (refine ECall.pure (by rfl) (timed_ok _) (by simp [int]) ?_; simp (decide := true) [int, tiersD, Tir.row, k0, p0, p1, hq, hq', eu, eu', a1, a2, rolesE, n1, kindR, overR])
      subst n1
      exact absurd a1 (by decide)
  · skip
    rcases (by omega : rl = 0 ∨ rl = 1 ∨ rl = 2 ∨ rl = 3 ∨ rl = 4 ∨ rl = 5) with rfl | rfl | rfl | rfl | rfl | rfl
    · skip
      simp (decide := true) [int, tiersD, Tir.row, k0, p0, p1, hq, hq', eu, eu', a1, rolesE, kindR, overR]
      repeat first
        | (refine scall_pure (by rfl) (by rfl) (kindR_ok _) (by simp [int]) ?_; simp (decide := true) [int, tiersD, Tir.row, k0, p0, p1, hq, hq', eu, eu', a1, rolesE, kindR, overR])
        | (refine scall_pure (by rfl) (by rfl) (overR_ok _) (by simp [int]) ?_; simp (decide := true) [int, tiersD, Tir.row, k0, p0, p1, hq, hq', eu, eu', a1, rolesE, kindR, overR])
        | (refine scall_pure (by rfl) (by rfl) (timed_ok _) (by simp [int]) ?_; simp (decide := true) [int, tiersD, Tir.row, k0, p0, p1, hq, hq', eu, eu', a1, rolesE, kindR, overR])
        | (refine ECall.pure (by rfl) (timed_ok _) (by simp [int]) ?_; simp (decide := true) [int, tiersD, Tir.row, k0, p0, p1, hq, hq', eu, eu', a1, rolesE, kindR, overR])
    · skip
      simp (decide := true) [int, tiersD, Tir.row, k0, p0, p1, hq, hq', eu, eu', a1, rolesE, kindR, overR]
      repeat first
        | (refine scall_pure (by rfl) (by rfl) (kindR_ok _) (by simp [int]) ?_; simp (decide := true) [int, tiersD, Tir.row, k0, p0, p1, hq, hq', eu, eu', a1, rolesE, kindR, overR])
        | (refine scall_pure (by rfl) (by rfl) (overR_ok _) (by simp [int]) ?_; simp (decide := true) [int, tiersD, Tir.row, k0, p0, p1, hq, hq', eu, eu', a1, rolesE, kindR, overR])
        | (refine scall_pure (by rfl) (by rfl) (timed_ok _) (by simp [int]) ?_; simp (decide := true) [int, tiersD, Tir.row, k0, p0, p1, hq, hq', eu, eu', a1, rolesE, kindR, overR])
        | (refine ECall.pure (by rfl) (timed_ok _) (by simp [int]) ?_; simp (decide := true) [int, tiersD, Tir.row, k0, p0, p1, hq, hq', eu, eu', a1, rolesE, kindR, overR])
    · skip
      by_cases o1 : ur = 1
      · skip
        simp (decide := true) [int, tiersD, Tir.row, k0, p0, p1, hq, hq', eu, eu', a1, rolesE, o1, kindR, overR]
        repeat first
          | (refine scall_pure (by rfl) (by rfl) (kindR_ok _) (by simp [int]) ?_; simp (decide := true) [int, tiersD, Tir.row, k0, p0, p1, hq, hq', eu, eu', a1, rolesE, o1, kindR, overR])
          | (refine scall_pure (by rfl) (by rfl) (overR_ok _) (by simp [int]) ?_; simp (decide := true) [int, tiersD, Tir.row, k0, p0, p1, hq, hq', eu, eu', a1, rolesE, o1, kindR, overR])
          | (refine scall_pure (by rfl) (by rfl) (timed_ok _) (by simp [int]) ?_; simp (decide := true) [int, tiersD, Tir.row, k0, p0, p1, hq, hq', eu, eu', a1, rolesE, o1, kindR, overR])
          | (refine ECall.pure (by rfl) (timed_ok _) (by simp [int]) ?_; simp (decide := true) [int, tiersD, Tir.row, k0, p0, p1, hq, hq', eu, eu', a1, rolesE, o1, kindR, overR])
      · skip
        simp (decide := true) [int, tiersD, Tir.row, k0, p0, p1, hq, hq', eu, eu', a1, rolesE, o1, kindR, overR]
        repeat first
          | (refine scall_pure (by rfl) (by rfl) (kindR_ok _) (by simp [int]) ?_; simp (decide := true) [int, tiersD, Tir.row, k0, p0, p1, hq, hq', eu, eu', a1, rolesE, o1, kindR, overR])
          | (refine scall_pure (by rfl) (by rfl) (overR_ok _) (by simp [int]) ?_; simp (decide := true) [int, tiersD, Tir.row, k0, p0, p1, hq, hq', eu, eu', a1, rolesE, o1, kindR, overR])
          | (refine scall_pure (by rfl) (by rfl) (timed_ok _) (by simp [int]) ?_; simp (decide := true) [int, tiersD, Tir.row, k0, p0, p1, hq, hq', eu, eu', a1, rolesE, o1, kindR, overR])
          | (refine ECall.pure (by rfl) (timed_ok _) (by simp [int]) ?_; simp (decide := true) [int, tiersD, Tir.row, k0, p0, p1, hq, hq', eu, eu', a1, rolesE, o1, kindR, overR])
    · skip
      by_cases n1 : kd = 3
      case neg =>
        simp (decide := true) [int, tiersD, Tir.row, k0, p0, p1, hq, hq', eu, eu', a1, rolesE, n1, kindR, overR]
        repeat first
          | (refine scall_pure (by rfl) (by rfl) (kindR_ok _) (by simp [int]) ?_; simp (decide := true) [int, tiersD, Tir.row, k0, p0, p1, hq, hq', eu, eu', a1, rolesE, n1, kindR, overR])
          | (refine scall_pure (by rfl) (by rfl) (overR_ok _) (by simp [int]) ?_; simp (decide := true) [int, tiersD, Tir.row, k0, p0, p1, hq, hq', eu, eu', a1, rolesE, n1, kindR, overR])
          | (refine scall_pure (by rfl) (by rfl) (timed_ok _) (by simp [int]) ?_; simp (decide := true) [int, tiersD, Tir.row, k0, p0, p1, hq, hq', eu, eu', a1, rolesE, n1, kindR, overR])
          | (refine ECall.pure (by rfl) (timed_ok _) (by simp [int]) ?_; simp (decide := true) [int, tiersD, Tir.row, k0, p0, p1, hq, hq', eu, eu', a1, rolesE, n1, kindR, overR])
      subst n1
      by_cases o1 : ur = 2
      · skip
        simp (decide := true) [int, tiersD, Tir.row, k0, p0, p1, hq, hq', eu, eu', a1, rolesE, o1, kindR, overR]
        repeat first
          | (refine scall_pure (by rfl) (by rfl) (kindR_ok _) (by simp [int]) ?_; simp (decide := true) [int, tiersD, Tir.row, k0, p0, p1, hq, hq', eu, eu', a1, rolesE, o1, kindR, overR])
          | (refine scall_pure (by rfl) (by rfl) (overR_ok _) (by simp [int]) ?_; simp (decide := true) [int, tiersD, Tir.row, k0, p0, p1, hq, hq', eu, eu', a1, rolesE, o1, kindR, overR])
          | (refine scall_pure (by rfl) (by rfl) (timed_ok _) (by simp [int]) ?_; simp (decide := true) [int, tiersD, Tir.row, k0, p0, p1, hq, hq', eu, eu', a1, rolesE, o1, kindR, overR])
          | (refine ECall.pure (by rfl) (timed_ok _) (by simp [int]) ?_; simp (decide := true) [int, tiersD, Tir.row, k0, p0, p1, hq, hq', eu, eu', a1, rolesE, o1, kindR, overR])
      · skip
        simp (decide := true) [int, tiersD, Tir.row, k0, p0, p1, hq, hq', eu, eu', a1, rolesE, o1, kindR, overR]
        repeat first
          | (refine scall_pure (by rfl) (by rfl) (kindR_ok _) (by simp [int]) ?_; simp (decide := true) [int, tiersD, Tir.row, k0, p0, p1, hq, hq', eu, eu', a1, rolesE, o1, kindR, overR])
          | (refine scall_pure (by rfl) (by rfl) (overR_ok _) (by simp [int]) ?_; simp (decide := true) [int, tiersD, Tir.row, k0, p0, p1, hq, hq', eu, eu', a1, rolesE, o1, kindR, overR])
          | (refine scall_pure (by rfl) (by rfl) (timed_ok _) (by simp [int]) ?_; simp (decide := true) [int, tiersD, Tir.row, k0, p0, p1, hq, hq', eu, eu', a1, rolesE, o1, kindR, overR])
          | (refine ECall.pure (by rfl) (timed_ok _) (by simp [int]) ?_; simp (decide := true) [int, tiersD, Tir.row, k0, p0, p1, hq, hq', eu, eu', a1, rolesE, o1, kindR, overR])
    · skip
      by_cases n1 : kd = 4
      case neg =>
        simp (decide := true) [int, tiersD, Tir.row, k0, p0, p1, hq, hq', eu, eu', a1, rolesE, n1, kindR, overR]
        repeat first
          | (refine scall_pure (by rfl) (by rfl) (kindR_ok _) (by simp [int]) ?_; simp (decide := true) [int, tiersD, Tir.row, k0, p0, p1, hq, hq', eu, eu', a1, rolesE, n1, kindR, overR])
          | (refine scall_pure (by rfl) (by rfl) (overR_ok _) (by simp [int]) ?_; simp (decide := true) [int, tiersD, Tir.row, k0, p0, p1, hq, hq', eu, eu', a1, rolesE, n1, kindR, overR])
          | (refine scall_pure (by rfl) (by rfl) (timed_ok _) (by simp [int]) ?_; simp (decide := true) [int, tiersD, Tir.row, k0, p0, p1, hq, hq', eu, eu', a1, rolesE, n1, kindR, overR])
          | (refine ECall.pure (by rfl) (timed_ok _) (by simp [int]) ?_; simp (decide := true) [int, tiersD, Tir.row, k0, p0, p1, hq, hq', eu, eu', a1, rolesE, n1, kindR, overR])
      subst n1
      by_cases o1 : ur = 3
      · skip
        simp (decide := true) [int, tiersD, Tir.row, k0, p0, p1, hq, hq', eu, eu', a1, rolesE, o1, kindR, overR]
        repeat first
          | (refine scall_pure (by rfl) (by rfl) (kindR_ok _) (by simp [int]) ?_; simp (decide := true) [int, tiersD, Tir.row, k0, p0, p1, hq, hq', eu, eu', a1, rolesE, o1, kindR, overR])
          | (refine scall_pure (by rfl) (by rfl) (overR_ok _) (by simp [int]) ?_; simp (decide := true) [int, tiersD, Tir.row, k0, p0, p1, hq, hq', eu, eu', a1, rolesE, o1, kindR, overR])
          | (refine scall_pure (by rfl) (by rfl) (timed_ok _) (by simp [int]) ?_; simp (decide := true) [int, tiersD, Tir.row, k0, p0, p1, hq, hq', eu, eu', a1, rolesE, o1, kindR, overR])
          | (refine ECall.pure (by rfl) (timed_ok _) (by simp [int]) ?_; simp (decide := true) [int, tiersD, Tir.row, k0, p0, p1, hq, hq', eu, eu', a1, rolesE, o1, kindR, overR])
      · skip
        simp (decide := true) [int, tiersD, Tir.row, k0, p0, p1, hq, hq', eu, eu', a1, rolesE, o1, kindR, overR]
        repeat first
          | (refine scall_pure (by rfl) (by rfl) (kindR_ok _) (by simp [int]) ?_; simp (decide := true) [int, tiersD, Tir.row, k0, p0, p1, hq, hq', eu, eu', a1, rolesE, o1, kindR, overR])
          | (refine scall_pure (by rfl) (by rfl) (overR_ok _) (by simp [int]) ?_; simp (decide := true) [int, tiersD, Tir.row, k0, p0, p1, hq, hq', eu, eu', a1, rolesE, o1, kindR, overR])
          | (refine scall_pure (by rfl) (by rfl) (timed_ok _) (by simp [int]) ?_; simp (decide := true) [int, tiersD, Tir.row, k0, p0, p1, hq, hq', eu, eu', a1, rolesE, o1, kindR, overR])
          | (refine ECall.pure (by rfl) (timed_ok _) (by simp [int]) ?_; simp (decide := true) [int, tiersD, Tir.row, k0, p0, p1, hq, hq', eu, eu', a1, rolesE, o1, kindR, overR])
    · skip
      by_cases n1 : kd = 4
      case neg =>
        simp (decide := true) [int, tiersD, Tir.row, k0, p0, p1, hq, hq', eu, eu', a1, rolesE, n1, kindR, overR]
        repeat first
          | (refine scall_pure (by rfl) (by rfl) (kindR_ok _) (by simp [int]) ?_; simp (decide := true) [int, tiersD, Tir.row, k0, p0, p1, hq, hq', eu, eu', a1, rolesE, n1, kindR, overR])
          | (refine scall_pure (by rfl) (by rfl) (overR_ok _) (by simp [int]) ?_; simp (decide := true) [int, tiersD, Tir.row, k0, p0, p1, hq, hq', eu, eu', a1, rolesE, n1, kindR, overR])
          | (refine scall_pure (by rfl) (by rfl) (timed_ok _) (by simp [int]) ?_; simp (decide := true) [int, tiersD, Tir.row, k0, p0, p1, hq, hq', eu, eu', a1, rolesE, n1, kindR, overR])
          | (refine ECall.pure (by rfl) (timed_ok _) (by simp [int]) ?_; simp (decide := true) [int, tiersD, Tir.row, k0, p0, p1, hq, hq', eu, eu', a1, rolesE, n1, kindR, overR])
      subst n1
      by_cases o1 : ur = 1
      · skip
        simp (decide := true) [int, tiersD, Tir.row, k0, p0, p1, hq, hq', eu, eu', a1, rolesE, o1, kindR, overR]
        repeat first
          | (refine scall_pure (by rfl) (by rfl) (kindR_ok _) (by simp [int]) ?_; simp (decide := true) [int, tiersD, Tir.row, k0, p0, p1, hq, hq', eu, eu', a1, rolesE, o1, kindR, overR])
          | (refine scall_pure (by rfl) (by rfl) (overR_ok _) (by simp [int]) ?_; simp (decide := true) [int, tiersD, Tir.row, k0, p0, p1, hq, hq', eu, eu', a1, rolesE, o1, kindR, overR])
          | (refine scall_pure (by rfl) (by rfl) (timed_ok _) (by simp [int]) ?_; simp (decide := true) [int, tiersD, Tir.row, k0, p0, p1, hq, hq', eu, eu', a1, rolesE, o1, kindR, overR])
          | (refine ECall.pure (by rfl) (timed_ok _) (by simp [int]) ?_; simp (decide := true) [int, tiersD, Tir.row, k0, p0, p1, hq, hq', eu, eu', a1, rolesE, o1, kindR, overR])
      · skip
        simp (decide := true) [int, tiersD, Tir.row, k0, p0, p1, hq, hq', eu, eu', a1, rolesE, o1, kindR, overR]
        repeat first
          | (refine scall_pure (by rfl) (by rfl) (kindR_ok _) (by simp [int]) ?_; simp (decide := true) [int, tiersD, Tir.row, k0, p0, p1, hq, hq', eu, eu', a1, rolesE, o1, kindR, overR])
          | (refine scall_pure (by rfl) (by rfl) (overR_ok _) (by simp [int]) ?_; simp (decide := true) [int, tiersD, Tir.row, k0, p0, p1, hq, hq', eu, eu', a1, rolesE, o1, kindR, overR])
          | (refine scall_pure (by rfl) (by rfl) (timed_ok _) (by simp [int]) ?_; simp (decide := true) [int, tiersD, Tir.row, k0, p0, p1, hq, hq', eu, eu', a1, rolesE, o1, kindR, overR])
          | (refine ECall.pure (by rfl) (timed_ok _) (by simp [int]) ?_; simp (decide := true) [int, tiersD, Tir.row, k0, p0, p1, hq, hq', eu, eu', a1, rolesE, o1, kindR, overR])
theorem refTiers_ok (l : List Tir) (hl : l.length < 2^62) (hs : ∀ t ∈ l, t.name.size ≤ 9223372036854775807) : PureR Tryz.prog 79 [tiersD l] (int (tiersE l)) := by
  refine pure_of_body mixed Tryz.func79 rfl call_79 ?_
  by_cases h0 : 12 < l.length
  · have h0' : (12 : Int) < l.length := by omega
    simp (decide := true) [Tryz.f79, tiersD, int, h0', tiersE, h0]
  have h0' : ¬ (12 : Int) < l.length := by omega
  simp (decide := true) [Tryz.f79, tiersD, int, h0', tiersE, h0]
  refine loop_rule mixed (fun k : Nat => { n := 20, next := 0, slots := [(0, .d (tiersD l)), (3, .d (.int .i64 k))], own := [] })
    (fun k => k ≤ l.length ∧ tiersGo l l.length 0 = tiersGo l (l.length - k) k) (fun k => l.length - k) 0 (by simp) (by simp (decide := true) [tiersD, int]) ?_
  intro k ⟨hk, hp⟩
  by_cases hlt : k < l.length
  · have hlt' : (k : Int) < l.length := by omega
    obtain ⟨m, hm⟩ : ∃ m, l.length - k = m + 1 := ⟨l.length - k - 1, by omega⟩
    rw [hm] at hp
    simp only [tiersGo, dif_pos hlt] at hp
    simp (decide := true) [tiersD, int, hlt']
    refine ECall.pure (by rfl) (refTier_ok l k hlt hl hs) (by simp [tiersD, int]) ?_
    by_cases hz : oneE (l.take k) l[k] = 0
    · rw [if_pos hz] at hp
      simp (decide := true) [int, hz, I64]
      exact ⟨by omega, k + 1, ⟨by omega, by rw [hp]; congr 1; omega⟩, by omega, by simp [tiersD]⟩
    · rw [if_neg hz] at hp
      simp (decide := true) [int, hz, hp]
  · have : k = l.length := by omega
    subst this
    rw [Nat.sub_self] at hp
    simp (decide := true) [tiersD, int, hp, tiersGo]
end Go.V.Doc
namespace Go.V.Doc
open Go Go.Proofs
theorem wrap_u8 (n : Int) : IntKind.wrap .u8 n = n % 256 := by
  simp [IntKind.wrap, IntKind.bits, IntKind.signed]
theorem u8_of {n : Int} {m : Nat} (h : n = (m : Int)) : UInt8.ofNat (IntKind.wrap .u8 n).toNat = UInt8.ofNat m := by
  subst h
  apply UInt8.toNat_inj.1
  rw [wrap_u8]
  simp only [UInt8.toNat_ofNat']
  omega
theorem wrap_i64 {n : Int} (h : I64 n) : IntKind.wrap .i64 n = n := by
  obtain ⟨h1, h2⟩ := h
  simp [IntKind.wrap, IntKind.bits, IntKind.signed]
  split <;> omega
theorem wrap_byte (s : ByteArray) (k : Nat) : IntKind.wrap .i64 (byteN s k : Int) = (byteN s k : Int) := by
  have : byteN s k < 256 := UInt8.toNat_lt _
  exact wrap_i64 ⟨by omega, by omega⟩
theorem scalar_ok (p : Nat) : PureR Tryz.prog 257 [int p] (.bool (decide (scalarR p))) := by
  refine pure_of_body mixed Tryz.func257 rfl call_257 ?_
  by_cases h1 : (p : Int) ≤ 1114111
  · by_cases h2 : (p : Int) < 55296
    · have : scalarR p := ⟨by omega, by omega⟩
      simp (decide := true) [Tryz.f257, int, h1, h2, this]
    · have h3 : scalarR p ↔ (57343 : Int) < p := ⟨fun h => by have := h.2; omega, fun h => ⟨by omega, by omega⟩⟩
      simp (decide := true) [Tryz.f257, int, h1, h2, h3]
  · have : ¬ scalarR p := fun h => h1 (by have := h.1; omega)
    simp (decide := true) [Tryz.f257, int, h1, this]
def encS (p : Nat) : ByteArray := ⟨((encR p).map UInt8.ofNat).toArray⟩
theorem enc_ok (p : Nat) (hp : p < 2^40) : PureR Tryz.prog 258 [int p] (.str (encS p)) := by
  refine pure_of_body mixed Tryz.func258 rfl call_258 ?_
  have t1 : (p : Int).tmod 64 = ((p % 64 : Nat) : Int) := rfl
  have t2 : ((p : Int) / 64).tmod 64 = ((p / 64 % 64 : Nat) : Int) := by rw [show (p : Int) / 64 = ((p / 64 : Nat) : Int) by omega]; rfl
  have t3 : ((p : Int) / 4096).tmod 64 = ((p / 4096 % 64 : Nat) : Int) := by rw [show (p : Int) / 4096 = ((p / 4096 : Nat) : Int) by omega]; rfl
  by_cases h1 : p < 128
  · have h1' : (p : Int) < 128 := by omega
    simp (decide := true) [Tryz.f258, int, h1', t1, t2, t3, eBytes, bytesOf]
    rw [u8_of (m := p) (by omega)]
    simp [encS, encR, h1]
  have h1' : ¬ (p : Int) < 128 := by omega
  by_cases h2 : p < 2048
  · have h2' : (p : Int) < 2048 := by omega
    simp (decide := true) [Tryz.f258, int, h1', h2', t1, t2, t3, eBytes, bytesOf, I64]
    rw [u8_of (m := 192 + p / 64) (by omega), u8_of (m := 128 + p % 64) (by omega)]
    refine ⟨by omega, by omega, by omega, ?_⟩
    simp [encS, encR, h1, h2]
  have h2' : ¬ (p : Int) < 2048 := by omega
  by_cases h3 : p < 65536
  · have h3' : (p : Int) < 65536 := by omega
    simp (decide := true) [Tryz.f258, int, h1', h2', h3', t1, t2, t3, eBytes, bytesOf, I64]
    rw [u8_of (m := 224 + p / 4096) (by omega), u8_of (m := 128 + p / 64 % 64) (by omega), u8_of (m := 128 + p % 64) (by omega)]
    refine ⟨by omega, by omega, by omega, by omega, by omega, ?_⟩
    simp [encS, encR, h1, h2, h3]
  have h3' : ¬ (p : Int) < 65536 := by omega
  simp (decide := true) [Tryz.f258, int, h1', h2', h3', t1, t2, t3, eBytes, bytesOf, I64]
  rw [u8_of (m := 240 + p / 262144) (by omega), u8_of (m := 128 + p / 4096 % 64) (by omega), u8_of (m := 128 + p / 64 % 64) (by omega), u8_of (m := 128 + p % 64) (by omega)]
  refine ⟨by omega, by omega, by omega, by omega, by omega, by omega, by omega, ?_⟩
  simp [encS, encR, h1, h2, h3]
end Go.V.Doc
namespace Go.V.Doc
open Go Go.Proofs
theorem bytes_inj {a b : ByteArray} (h : a.toList = b.toList) : a = b := by
  rw [← MapKept.bytes_beq, beq_toListBytes, beq_iff_eq]; exact h
def accR (s : ByteArray) (at_ p0 : Nat) : Nat → Nat
  | 0 => p0
  | k + 1 => accR s at_ p0 k * 64 + byteN s (at_ + (k + 1)) % 64
theorem accR_lt {s : ByteArray} {at_ p0 : Nat} (h : p0 < 256) : ∀ k, accR s at_ p0 k < 256 * 64 ^ k
  | 0 => by simpa [accR] using h
  | k + 1 => by
    have := accR_lt (s := s) (at_ := at_) h k
    simp only [accR, Nat.pow_succ]
    omega
def bytes4 (s : ByteArray) (at_ : Nat) : List Nat := [byteN s at_, byteN s (at_ + 1), byteN s (at_ + 2), byteN s (at_ + 3)]
theorem accR_fold (s : ByteArray) (at_ p0 : Nat) : ∀ n, n ≤ 4 → foldR p0 ([byteN s (at_ + 1), byteN s (at_ + 2), byteN s (at_ + 3)].take (n - 1)) = accR s at_ p0 (n - 1)
  | 0, _ => rfl
  | 1, _ => rfl
  | 2, _ => rfl
  | 3, _ => rfl
  | 4, _ => rfl
theorem toNat_inj_map : ∀ {a b : List UInt8}, a.map UInt8.toNat = b.map UInt8.toNat → a = b
  | [], [], _ => rfl
  | [], _ :: _, h => by simp at h
  | _ :: _, [], h => by simp at h
  | x :: a, y :: b, h => by
    simp only [List.map_cons, List.cons.injEq] at h
    rw [UInt8.toNat_inj.1 h.1, toNat_inj_map h.2]
theorem ext_bytes {s : ByteArray} {at_ n : Nat} (hn : n ≤ 4) (h : at_ + n ≤ s.size) : (s.extract at_ (at_ + n)).data.toList.map UInt8.toNat = (bytes4 s at_).take n := by
  have hsz : s.size = s.data.toList.length := by rw [Array.length_toList]; rfl
  have he : (s.extract at_ (at_ + n)).data.toList = (s.data.toList.drop at_).take n := by
    simp only [ByteArray.data_extract, Array.toList_extract, List.extract_eq_take_drop]
    congr 1; omega
  rw [he]
  apply List.ext_getElem?
  intro j
  rw [List.getElem?_map, List.getElem?_take, List.getElem?_take]
  by_cases hj : j < n
  · rw [if_pos hj, if_pos hj, List.getElem?_drop, List.getElem?_eq_getElem (by omega)]
    have hb : ∀ k, (hk : k < s.data.toList.length) → (s.data.toList[k]'hk).toNat = byteN s k := fun k hk => by simp [byteN, List.getD, List.getElem?_eq_getElem hk]
    have hj4 : j = 0 ∨ j = 1 ∨ j = 2 ∨ j = 3 := by omega
    rw [Option.map_some, hb]
    rcases hj4 with rfl | rfl | rfl | rfl <;> rfl
  · rw [if_neg hj, if_neg hj]; rfl
theorem encS_bytes (p : Nat) : (encS p).data.toList.map UInt8.toNat = (encR p).map (· % 256) := by
  simp only [encS, List.map_map]
  apply List.map_congr_left
  intro b _
  simp
theorem enc_eq {s : ByteArray} {at_ n p : Nat} (hn : n ≤ 4) (h : at_ + n ≤ s.size) : encS p = s.extract at_ (at_ + n) ↔ (encR p).map (· % 256) = (bytes4 s at_).take n := by
  rw [← encS_bytes, ← ext_bytes hn h]
  constructor
  · intro e; rw [e]
  · intro e
    have := toNat_inj_map e
    have e2 : (encS p).data = (s.extract at_ (at_ + n)).data := Array.ext' this
    cases hA : encS p; cases hB : s.extract at_ (at_ + n)
    rw [hA, hB] at e2
    simp only at e2; rw [e2]
def firstS (s : ByteArray) (at_ : Nat) : Option (Nat × Nat) := firstR (s.size - at_) (byteN s at_) (byteN s (at_ + 1)) (byteN s (at_ + 2)) (byteN s (at_ + 3))
def firstD' : Option (Nat × Nat) → D
  | none => .tup [int (-1), int 0]
  | some r => .tup [int r.1, int r.2]
theorem firstS_eq {s : ByteArray} {at_ p0 n : Nat} (hl : leadR (byteN s at_) = (p0, n)) (hn : n ≤ 4) : firstS s at_ = if s.size - at_ < n then none else if scalarR (accR s at_ p0 (n - 1)) ∧ (encR (accR s at_ p0 (n - 1))).map (· % 256) = (bytes4 s at_).take n then some (accR s at_ p0 (n - 1), n) else none := by
  unfold firstS firstR
  rw [hl]
  simp only
  rw [accR_fold s at_ p0 n hn]
  rfl
set_option maxHeartbeats 4000000 in
theorem first_ok (s : ByteArray) (at_ : Nat) (hat : at_ < s.size) (hs : s.size ≤ 1000000) : PureR Tryz.prog 226 [.str s, int at_] (firstD' (firstS s at_)) := by
  refine pure_of_body mixed Tryz.func226 rfl call_226 ?_
  have hb : byteN s at_ < 256 := UInt8.toNat_lt _
  have e0 := byteAt_nat s at_
  have w0 := wrap_byte s at_
  by_cases c4 : 240 ≤ byteN s at_
  · have q4 : (240 : Int) ≤ byteN s at_ := by omega
    have hl : leadR (byteN s at_) = (byteN s at_ - 240, 4) := by simp [leadR, c4]
    rw [firstS_eq hl (by omega)]
    by_cases hsz : s.size - at_ < 4
    · have g1 : (s.size : Int) < (at_ : Int) + 4 := by omega
      rw [if_pos hsz]
      have ep0 : (byteN s at_ : Int) - 240 = ((byteN s at_ - 240 : Nat) : Int) := by omega
      simp (decide := true) [Tryz.f226, int, hat, e0, w0, q4, g1, I64, eBytes, firstD', ep0]
      omega
    have g1 : ¬ (s.size : Int) < (at_ : Int) + 4 := by omega
    rw [if_neg hsz]
    have hp0 : byteN s at_ - 240 < 256 := by omega
    have ep0 : (byteN s at_ : Int) - 240 = ((byteN s at_ - 240 : Nat) : Int) := by omega
    simp (decide := true) [Tryz.f226, int, hat, e0, w0, q4, g1, I64, eBytes, ep0]
    refine ⟨by omega, ⟨by omega, by omega⟩, ?_⟩
    refine loop_rule mixed (fun j : Nat => { n := 65, next := 0, slots := [(0, .d (.str s)), (1, .d (int at_)), (6, .d (int (accR s at_ (byteN s at_ - 240) j))), (7, .d (int 4)), (8, .d (int (j + 1)))], own := [] })
      (fun j => j + 1 ≤ 4) (fun j => 4 - j) 0 (by simp) (by simp (decide := true) [int, accR]) ?_
    intro j hj
    have hac := accR_lt (s := s) (at_ := at_) hp0 j
    have hac2 : accR s at_ (byteN s at_ - 240) j < 2^30 := Nat.lt_of_lt_of_le hac (Nat.le_trans (Nat.mul_le_mul_left _ (Nat.pow_le_pow_right (by omega) (show j ≤ 3 by omega))) (by decide))
    by_cases hjn : j + 1 < 4
    · have k1 : (j : Int) + 1 < 4 := by omega
      have e1 : byteAt s ((at_ : Int) + ((j : Int) + 1)) = (byteN s (at_ + (j + 1)) : Int) := byteAt_nat s (at_ + (j + 1))
      have w1 := wrap_byte s (at_ + (j + 1))
      have t1 : (byteN s (at_ + (j + 1)) : Int).tmod 64 = ((byteN s (at_ + (j + 1)) % 64 : Nat) : Int) := rfl
      simp (decide := true) [int, k1, e1, w1, t1, I64, eBytes]
      exact ⟨by omega, by omega, ⟨by omega, by omega⟩, by omega, by omega, j + 1, by omega, by omega, by simp only [accR]; omega, by omega⟩
    · obtain rfl : j = 3 := by omega
      simp (decide := true) [int, I64, eBytes]
      generalize hq : accR s at_ (byteN s at_ - 240) 3 = q at hac2 ⊢
      refine scall_pure (by rfl) (by rfl) (scalar_ok q) (by simp) ?_
      by_cases hsc : scalarR q
      case neg => simp (decide := true) [hsc, int, firstD']
      simp (decide := true) [hsc, int]
      refine scall_pure (by rfl) (by rfl) (enc_ok q (by omega)) (by simp) ?_
      have z1 : ((at_ : Int) + 4).toNat = at_ + 4 := by omega
      have he := enc_eq (s := s) (at_ := at_) (n := 4) (p := q) (by omega) (by omega)
      by_cases hE : encS q = s.extract at_ (at_ + 4)
      · simp (decide := true) [hsc, int, z1, hE, he.1 hE, firstD', I64]
        omega
      · have hE2 : ¬ ((encR q).map (· % 256) = (bytes4 s at_).take 4) := fun h => hE (he.2 h)
        have hE3 : ¬ (encS q).toList = (s.extract at_ (at_ + 4)).toList := fun h => hE (bytes_inj h)
        simp (decide := true) [hsc, int, z1, hE2, hE3, firstD', I64]
        omega
  have q4 : ¬ (240 : Int) ≤ byteN s at_ := by omega
  by_cases c3 : 224 ≤ byteN s at_
  · have q3 : (224 : Int) ≤ byteN s at_ := by omega
    have hl : leadR (byteN s at_) = (byteN s at_ - 224, 3) := by simp [leadR, c4, c3]
    rw [firstS_eq hl (by omega)]
    by_cases hsz : s.size - at_ < 3
    · have g1 : (s.size : Int) < (at_ : Int) + 3 := by omega
      rw [if_pos hsz]
      have ep0 : (byteN s at_ : Int) - 224 = ((byteN s at_ - 224 : Nat) : Int) := by omega
      simp (decide := true) [Tryz.f226, int, hat, e0, w0, q4, q3, g1, I64, eBytes, firstD', ep0]
      omega
    have g1 : ¬ (s.size : Int) < (at_ : Int) + 3 := by omega
    rw [if_neg hsz]
    have hp0 : byteN s at_ - 224 < 256 := by omega
    have ep0 : (byteN s at_ : Int) - 224 = ((byteN s at_ - 224 : Nat) : Int) := by omega
    simp (decide := true) [Tryz.f226, int, hat, e0, w0, q4, q3, g1, I64, eBytes, ep0]
    refine ⟨by omega, ⟨by omega, by omega⟩, ?_⟩
    refine loop_rule mixed (fun j : Nat => { n := 65, next := 0, slots := [(0, .d (.str s)), (1, .d (int at_)), (6, .d (int (accR s at_ (byteN s at_ - 224) j))), (7, .d (int 3)), (8, .d (int (j + 1)))], own := [] })
      (fun j => j + 1 ≤ 3) (fun j => 3 - j) 0 (by simp) (by simp (decide := true) [int, accR]) ?_
    intro j hj
    have hac := accR_lt (s := s) (at_ := at_) hp0 j
    have hac2 : accR s at_ (byteN s at_ - 224) j < 2^30 := Nat.lt_of_lt_of_le hac (Nat.le_trans (Nat.mul_le_mul_left _ (Nat.pow_le_pow_right (by omega) (show j ≤ 3 by omega))) (by decide))
    by_cases hjn : j + 1 < 3
    · have k1 : (j : Int) + 1 < 3 := by omega
      have e1 : byteAt s ((at_ : Int) + ((j : Int) + 1)) = (byteN s (at_ + (j + 1)) : Int) := byteAt_nat s (at_ + (j + 1))
      have w1 := wrap_byte s (at_ + (j + 1))
      have t1 : (byteN s (at_ + (j + 1)) : Int).tmod 64 = ((byteN s (at_ + (j + 1)) % 64 : Nat) : Int) := rfl
      simp (decide := true) [int, k1, e1, w1, t1, I64, eBytes]
      exact ⟨by omega, by omega, ⟨by omega, by omega⟩, by omega, by omega, j + 1, by omega, by omega, by simp only [accR]; omega, by omega⟩
    · obtain rfl : j = 2 := by omega
      simp (decide := true) [int, I64, eBytes]
      generalize hq : accR s at_ (byteN s at_ - 224) 2 = q at hac2 ⊢
      refine scall_pure (by rfl) (by rfl) (scalar_ok q) (by simp) ?_
      by_cases hsc : scalarR q
      case neg => simp (decide := true) [hsc, int, firstD']
      simp (decide := true) [hsc, int]
      refine scall_pure (by rfl) (by rfl) (enc_ok q (by omega)) (by simp) ?_
      have z1 : ((at_ : Int) + 3).toNat = at_ + 3 := by omega
      have he := enc_eq (s := s) (at_ := at_) (n := 3) (p := q) (by omega) (by omega)
      by_cases hE : encS q = s.extract at_ (at_ + 3)
      · simp (decide := true) [hsc, int, z1, hE, he.1 hE, firstD', I64]
        omega
      · have hE2 : ¬ ((encR q).map (· % 256) = (bytes4 s at_).take 3) := fun h => hE (he.2 h)
        have hE3 : ¬ (encS q).toList = (s.extract at_ (at_ + 3)).toList := fun h => hE (bytes_inj h)
        simp (decide := true) [hsc, int, z1, hE2, hE3, firstD', I64]
        omega
  have q3 : ¬ (224 : Int) ≤ byteN s at_ := by omega
  by_cases c2 : 192 ≤ byteN s at_
  · have q2 : (192 : Int) ≤ byteN s at_ := by omega
    have hl : leadR (byteN s at_) = (byteN s at_ - 192, 2) := by simp [leadR, c4, c3, c2]
    rw [firstS_eq hl (by omega)]
    by_cases hsz : s.size - at_ < 2
    · have g1 : (s.size : Int) < (at_ : Int) + 2 := by omega
      rw [if_pos hsz]
      have ep0 : (byteN s at_ : Int) - 192 = ((byteN s at_ - 192 : Nat) : Int) := by omega
      simp (decide := true) [Tryz.f226, int, hat, e0, w0, q4, q3, q2, g1, I64, eBytes, firstD', ep0]
      omega
    have g1 : ¬ (s.size : Int) < (at_ : Int) + 2 := by omega
    rw [if_neg hsz]
    have hp0 : byteN s at_ - 192 < 256 := by omega
    have ep0 : (byteN s at_ : Int) - 192 = ((byteN s at_ - 192 : Nat) : Int) := by omega
    simp (decide := true) [Tryz.f226, int, hat, e0, w0, q4, q3, q2, g1, I64, eBytes, ep0]
    refine ⟨by omega, ⟨by omega, by omega⟩, ?_⟩
    refine loop_rule mixed (fun j : Nat => { n := 65, next := 0, slots := [(0, .d (.str s)), (1, .d (int at_)), (6, .d (int (accR s at_ (byteN s at_ - 192) j))), (7, .d (int 2)), (8, .d (int (j + 1)))], own := [] })
      (fun j => j + 1 ≤ 2) (fun j => 2 - j) 0 (by simp) (by simp (decide := true) [int, accR]) ?_
    intro j hj
    have hac := accR_lt (s := s) (at_ := at_) hp0 j
    have hac2 : accR s at_ (byteN s at_ - 192) j < 2^30 := Nat.lt_of_lt_of_le hac (Nat.le_trans (Nat.mul_le_mul_left _ (Nat.pow_le_pow_right (by omega) (show j ≤ 3 by omega))) (by decide))
    by_cases hjn : j + 1 < 2
    · have k1 : (j : Int) + 1 < 2 := by omega
      have e1 : byteAt s ((at_ : Int) + ((j : Int) + 1)) = (byteN s (at_ + (j + 1)) : Int) := byteAt_nat s (at_ + (j + 1))
      have w1 := wrap_byte s (at_ + (j + 1))
      have t1 : (byteN s (at_ + (j + 1)) : Int).tmod 64 = ((byteN s (at_ + (j + 1)) % 64 : Nat) : Int) := rfl
      simp (decide := true) [int, k1, e1, w1, t1, I64, eBytes]
      exact ⟨by omega, by omega, ⟨by omega, by omega⟩, by omega, by omega, j + 1, by omega, by omega, by simp only [accR]; omega, by omega⟩
    · obtain rfl : j = 1 := by omega
      simp (decide := true) [int, I64, eBytes]
      generalize hq : accR s at_ (byteN s at_ - 192) 1 = q at hac2 ⊢
      refine scall_pure (by rfl) (by rfl) (scalar_ok q) (by simp) ?_
      by_cases hsc : scalarR q
      case neg => simp (decide := true) [hsc, int, firstD']
      simp (decide := true) [hsc, int]
      refine scall_pure (by rfl) (by rfl) (enc_ok q (by omega)) (by simp) ?_
      have z1 : ((at_ : Int) + 2).toNat = at_ + 2 := by omega
      have he := enc_eq (s := s) (at_ := at_) (n := 2) (p := q) (by omega) (by omega)
      by_cases hE : encS q = s.extract at_ (at_ + 2)
      · simp (decide := true) [hsc, int, z1, hE, he.1 hE, firstD', I64]
        omega
      · have hE2 : ¬ ((encR q).map (· % 256) = (bytes4 s at_).take 2) := fun h => hE (he.2 h)
        have hE3 : ¬ (encS q).toList = (s.extract at_ (at_ + 2)).toList := fun h => hE (bytes_inj h)
        simp (decide := true) [hsc, int, z1, hE2, hE3, firstD', I64]
        omega
  have q2 : ¬ (192 : Int) ≤ byteN s at_ := by omega
  have hl : leadR (byteN s at_) = (byteN s at_, 1) := by simp [leadR, c4, c3, c2]
  rw [firstS_eq hl (by omega)]
  by_cases hsz : s.size - at_ < 1
  · omega
  have g1 : ¬ (s.size : Int) < (at_ : Int) + 1 := by omega
  rw [if_neg hsz]
  have hp0 : byteN s at_ < 256 := by omega
  simp (decide := true) [Tryz.f226, int, hat, e0, w0, q4, q3, q2, g1, I64, eBytes]
  refine ⟨⟨by omega, by omega⟩, ?_⟩
  refine loop_rule mixed (fun j : Nat => { n := 65, next := 0, slots := [(0, .d (.str s)), (1, .d (int at_)), (6, .d (int (accR s at_ (byteN s at_) j))), (7, .d (int 1)), (8, .d (int (j + 1)))], own := [] })
    (fun j => j + 1 ≤ 1) (fun j => 1 - j) 0 (by simp) (by simp (decide := true) [int, accR]) ?_
  intro j hj
  have hac := accR_lt (s := s) (at_ := at_) hp0 j
  have hac2 : accR s at_ (byteN s at_) j < 2^30 := Nat.lt_of_lt_of_le hac (Nat.le_trans (Nat.mul_le_mul_left _ (Nat.pow_le_pow_right (by omega) (show j ≤ 3 by omega))) (by decide))
  by_cases hjn : j + 1 < 1
  · omega
  · obtain rfl : j = 0 := by omega
    simp (decide := true) [int, I64, eBytes]
    generalize hq : accR s at_ (byteN s at_) 0 = q at hac2 ⊢
    refine scall_pure (by rfl) (by rfl) (scalar_ok q) (by simp) ?_
    by_cases hsc : scalarR q
    case neg => simp (decide := true) [hsc, int, firstD']
    simp (decide := true) [hsc, int]
    refine scall_pure (by rfl) (by rfl) (enc_ok q (by omega)) (by simp) ?_
    have z1 : ((at_ : Int) + 1).toNat = at_ + 1 := by omega
    have he := enc_eq (s := s) (at_ := at_) (n := 1) (p := q) (by omega) (by omega)
    by_cases hE : encS q = s.extract at_ (at_ + 1)
    · simp (decide := true) [hsc, int, z1, hE, he.1 hE, firstD', I64]
      omega
    · have hE2 : ¬ ((encR q).map (· % 256) = (bytes4 s at_).take 1) := fun h => hE (he.2 h)
      have hE3 : ¬ (encS q).toList = (s.extract at_ (at_ + 1)).toList := fun h => hE (bytes_inj h)
      simp (decide := true) [hsc, int, z1, hE2, hE3, firstD', I64]
      omega
end Go.V.Doc
namespace Go.V.Doc
open Go Go.Proofs Go.Lib
def ptsGo (s : ByteArray) : Nat → Nat → Option (List Int)
  | 0, _ => some []
  | n + 1, pos => if pos < s.size then (match firstS s pos with
    | none => none
    | some r => (ptsGo s n (pos + r.2)).map ((r.1 : Int) :: ·)) else some []
theorem firstS_good {s : ByteArray} {pos : Nat} (h : pos < s.size) : match firstS s pos with
    | none => decodeN (s.size - pos) (byteN s pos) (byteN s (pos + 1)) (byteN s (pos + 2)) (byteN s (pos + 3)) = (65533, 1)
    | some r => decodeN (s.size - pos) (byteN s pos) (byteN s (pos + 1)) (byteN s (pos + 2)) (byteN s (pos + 3)) = r ∧ ¬ (r.1 = 65533 ∧ r.2 = 1) ∧ r.2 ≤ s.size - pos ∧ 1 ≤ r.2 :=
  firstR_decode _ _ _ _ _ (by omega) (UInt8.toNat_lt _) (UInt8.toNat_lt _) (UInt8.toNat_lt _) (UInt8.toNat_lt _)
theorem valid_at {s : ByteArray} {pos : Nat} (h : pos < s.size) : validD (s.data.toList.drop pos) = match firstS s pos with
    | none => false
    | some r => validD (s.data.toList.drop (pos + r.2)) := by
  have hsz : s.size = s.data.toList.length := by rw [Array.length_toList]; rfl
  have hne : s.data.toList.drop pos ≠ [] := by
    intro e; have := congrArg List.length e; rw [List.length_drop] at this; simp at this; omega
  have hd : decodeL (s.data.toList.drop pos) = decodeN (s.size - pos) (byteN s pos) (byteN s (pos + 1)) (byteN s (pos + 2)) (byteN s (pos + 3)) := by
    rw [decodeL_N, List.length_drop, ← hsz, getD_dropU, getD_dropU, getD_dropU, getD_dropU]; rfl
  rw [validD_step _ hne, hd]
  have hg := firstS_good h
  cases hf : firstS s pos with
  | none => rw [hf] at hg; simp only at hg; rw [hg]; simp
  | some r =>
    rw [hf] at hg; simp only at hg
    obtain ⟨h1, h2, _, _⟩ := hg
    rw [h1, if_neg h2, List.drop_drop]
def badI (p : Int) : Bool := decide (p < 32) || decide (p = 127)
set_option maxHeartbeats 1000000 in
theorem decodeN_bytes (n b0 b1 b2 b3 : Nat) (h0 : b0 < 256) (h1 : b1 < 256) (h2 : b2 < 256) (h3 : b3 < 256) (hb : ¬ ((decodeN n b0 b1 b2 b3).1 = 65533 ∧ (decodeN n b0 b1 b2 b3).2 = 1)) :
    (decodeN n b0 b1 b2 b3 = (b0, 1)) ∨ (128 ≤ (decodeN n b0 b1 b2 b3).1 ∧ 128 ≤ b0 ∧ (1 < (decodeN n b0 b1 b2 b3).2 → 128 ≤ b1) ∧ (2 < (decodeN n b0 b1 b2 b3).2 → 128 ≤ b2) ∧ (3 < (decodeN n b0 b1 b2 b3).2 → 128 ≤ b3) ∧ (decodeN n b0 b1 b2 b3).2 ≤ 4) := by
  revert hb
  unfold decodeN
  repeat' split
  all_goals intro hb
  all_goals first | (left; rfl) | (exfalso; exact hb ⟨rfl, rfl⟩) | (right; simp only; refine ⟨by omega, by omega, fun _ => by omega, fun _ => by omega, fun _ => by omega, by omega⟩)
theorem bad_step {s : ByteArray} {pos : Nat} (h : pos < s.size) {r : Nat × Nat} (hf : firstS s pos = some r) :
    badI (r.1 : Int) = true ↔ ∃ j, pos ≤ j ∧ j < pos + r.2 ∧ badByte (byteN s j) = true := by
  have hg := firstS_good h
  rw [hf] at hg
  simp only at hg
  obtain ⟨h1, h2, h3, h4⟩ := hg
  have hk := decodeN_bytes (s.size - pos) (byteN s pos) (byteN s (pos + 1)) (byteN s (pos + 2)) (byteN s (pos + 3)) (UInt8.toNat_lt _) (UInt8.toNat_lt _) (UInt8.toNat_lt _) (UInt8.toNat_lt _) (by rw [h1]; exact h2)
  rw [h1] at hk
  rcases hk with hk | ⟨g1, g2, g3, g4, g5, g6⟩
  · rw [hk]
    simp only [badI, badByte, Bool.or_eq_true, decide_eq_true_eq]
    constructor
    · intro hb; exact ⟨pos, by omega, by omega, by omega⟩
    · rintro ⟨j, a, b, c⟩
      obtain rfl : j = pos := by omega
      omega
  · simp only [badI, badByte, Bool.or_eq_true, decide_eq_true_eq]
    constructor
    · intro hb; omega
    · rintro ⟨j, a, b, c⟩
      exfalso
      have hj : j = pos ∨ j = pos + 1 ∨ j = pos + 2 ∨ j = pos + 3 := by omega
      rcases hj with rfl | rfl | rfl | rfl
      · omega
      · have := g3 (by omega); omega
      · have := g4 (by omega); omega
      · have := g5 (by omega); omega
theorem pts_valid (s : ByteArray) : ∀ (m pos : Nat), s.size ≤ pos + m → pos ≤ s.size → validD (s.data.toList.drop pos) = (ptsGo s m pos).isSome ∧
    ∀ l, ptsGo s m pos = some l → (l.any badI = true ↔ ∃ j, pos ≤ j ∧ j < s.size ∧ badByte (byteN s j) = true)
  | 0, pos, hm, hp => by
    have hsz : s.size = s.data.toList.length := by rw [Array.length_toList]; rfl
    rw [List.drop_eq_nil_of_le (by omega), validD_nil]
    refine ⟨rfl, fun l hl => ?_⟩
    simp only [ptsGo, Option.some.injEq] at hl
    subst hl
    simp only [List.any_nil, Bool.false_eq_true, false_iff]
    rintro ⟨j, _, _, _⟩; omega
  | m + 1, pos, hm, hp => by
    have hsz : s.size = s.data.toList.length := by rw [Array.length_toList]; rfl
    by_cases h : pos < s.size
    · rw [valid_at h]
      simp only [ptsGo, if_pos h]
      have hg := firstS_good h
      cases hf : firstS s pos with
      | none => exact ⟨rfl, fun l hl => by cases hl⟩
      | some r =>
        rw [hf] at hg
        simp only at hg
        obtain ⟨i1, i2⟩ := pts_valid s m (pos + r.2) (by omega) (by omega)
        simp only
        refine ⟨by rw [i1]; cases ptsGo s m (pos + r.2) <;> rfl, fun l hl => ?_⟩
        rw [Option.map_eq_some_iff] at hl
        obtain ⟨l', hl', rfl⟩ := hl
        rw [List.any_cons, Bool.or_eq_true, i2 l' hl', bad_step h hf]
        constructor
        · rintro (⟨j, a, b, c⟩ | ⟨j, a, b, c⟩)
          · exact ⟨j, by omega, by omega, c⟩
          · exact ⟨j, by omega, b, c⟩
        · rintro ⟨j, a, b, c⟩
          rcases Nat.lt_or_ge j (pos + r.2) with hj | hj
          · exact .inl ⟨j, a, hj, c⟩
          · exact .inr ⟨j, hj, b, c⟩
    · rw [List.drop_eq_nil_of_le (by omega), validD_nil]
      simp only [ptsGo, if_neg h]
      refine ⟨rfl, fun l hl => ?_⟩
      simp only [Option.some.injEq] at hl
      subst hl
      simp only [List.any_nil, Bool.false_eq_true, false_iff]
      rintro ⟨j, _, _, _⟩; omega
theorem textE_eq (s : ByteArray) : textE s = if 200 < s.size then 5 else match ptsGo s s.size 0 with
    | none => 3
    | some l => if l.any badI = true then 3 else 0 := by
  unfold textE
  split
  · rfl
  · obtain ⟨h1, h2⟩ := pts_valid s s.size 0 (by omega) (by omega)
    rw [List.drop_zero] at h1
    have hv : validB s = (ptsGo s s.size 0).isSome := h1
    rw [hv]
    cases hp : ptsGo s s.size 0 with
    | none => rfl
    | some l =>
      simp only [Option.isSome_some, if_true]
      have := h2 l hp
      have hb : badText s = true ↔ l.any badI = true := by
        rw [this]
        unfold badText
        rw [List.any_eq_true]
        constructor
        · rintro ⟨j, hj, hb⟩; exact ⟨j, by omega, by simpa using hj, hb⟩
        · rintro ⟨j, _, hj, hb⟩; exact ⟨j, by simpa using hj, hb⟩
      by_cases h : l.any badI = true
      · rw [if_pos h, if_pos (hb.2 h)]
      · rw [if_neg h, if_neg (fun h' => h (hb.1 h'))]
end Go.V.Doc
namespace Go.V.Doc
open Go Go.Proofs
def rowNt : List D → Option Nt
  | [.int .i64 a, .int .i64 b, .int .i64 c, .int .i64 d, .int .i64 e, .int .i64 f, .str t] => some ⟨a, b, c, d, e, f, t⟩
  | _ => none
def rowsNt : List (List D) → Option (List Nt)
  | [] => some []
  | r :: rs => match rowNt r, rowsNt rs with
    | some x, some l => some (x :: l)
    | _, _ => none
theorem rowNt_eq {r : List D} {x : Nt} (h : rowNt r = some x) : r = x.row := by
  unfold rowNt at h
  split at h
  · cases h; rfl
  · cases h
theorem rowsNt_eq : ∀ {rows : List (List D)} {l : List Nt}, rowsNt rows = some l → rows = l.map Nt.row
  | [], l, h => by simp [rowsNt] at h; subst h; rfl
  | r :: rs, l, h => by
    simp only [rowsNt] at h
    split at h
    · rename_i x l' h1 h2
      cases h
      rw [rowNt_eq h1, rowsNt_eq h2]; rfl
    · cases h
def kcIns (args : List Sym) (own : List (Nat × Obj')) (n : Nat) : Option XR := match args, own, n with
  | [.ar 0, .d (.int .i64 a), .d (.int .i64 b), .fn g []], [(0, .arr T 7 rows)], 1 => match rowsNt rows with
    | some l => oguard (Nat.beq g 113 && decide (a = 0) && decide (b = (l.length : Int)) && Nat.blt 0 l.length && Nat.beq (isort l).length l.length && Nat.blt l.length 1000)
        (some ⟨.d (.tup []), 1, [(0, .arr T 7 ((isort l).map Nt.row))], []⟩)
    | none => none
  | [.d (.sl []), .d (.int .i64 a), .d (.int .i64 b), .fn g []], [], 0 => oguard (Nat.beq g 113 && decide (a = 0) && decide (b = 0)) (some ⟨.tup [], 0, [], []⟩)
  | _, _, _ => none
theorem kcIns_good {args : List Sym} {own : List (Nat × Obj')} {n : Nat} {r : XR} (h : kcIns args own n = some r) : CallC Tryz.prog 172 args own n r.s r.nx r.own r.mv := by
  unfold kcIns at h
  split at h
  · rename_i a b g T rows
    split at h
    · rename_i l hl
      rw [oguard_some] at h
      simp only [Bool.and_eq_true, beq_iff, blt_iff, decide_eq_true_eq] at h
      obtain ⟨⟨⟨⟨⟨⟨h1, h2⟩, h3⟩, h4⟩, h5⟩, h6⟩, h⟩ := h
      cases h
      subst h1; subst h2; subst h3
      rw [rowsNt_eq hl]
      exact ins_ok T l (by intro e; subst e; simp at h4) (by omega) h5
    · cases h
  · rename_i a b g
    rw [oguard_some] at h
    simp only [Bool.and_eq_true, beq_iff, decide_eq_true_eq] at h
    obtain ⟨⟨⟨h1, h2⟩, h3⟩, h⟩ := h
    cases h
    subst h1; subst h2; subst h3
    exact ins_nil
  · cases h
end Go.V.Doc
namespace Go.V.Doc
open Go Go.Proofs
def ptsD : Option (List Int) → D
  | none => .tup [.sl [], .bool false]
  | some l => .tup [ints l, .bool true]
def ptsS (s : ByteArray) (x : List Int × Nat × Nat) : St :=
  { n := 28, next := 2, slots := [(0, .d (.str s)), (4, .ar 1), (5, .d (int x.2.1))], own := [(1, .arr 3 1 (x.1.map fun n => [.int .i64 n]))], moved := [1] }
theorem pts_len (s : ByteArray) : ∀ (m pos : Nat) (l : List Int), ptsGo s m pos = some l → l.length ≤ m
  | 0, pos, l, h => by simp [ptsGo] at h; subst h; simp
  | m + 1, pos, l, h => by
    simp only [ptsGo] at h
    split at h
    · split at h
      · cases h
      · rw [Option.map_eq_some_iff] at h
        obtain ⟨l', h', rfl⟩ := h
        have := pts_len s m _ l' h'
        simp; omega
    · cases h; simp
set_option maxHeartbeats 1000000 in
theorem refPoints_ok (s : ByteArray) (hs : s.size ≤ 1000000) : PureR Tryz.prog 192 [.str s] (ptsD (ptsGo s s.size 0)) := by
  refine pure_of_body_frz mixed Tryz.func192 rfl call_192 [1, 2] ?_
  simp (decide := true) [Tryz.f192]
  refine loop_rule mixed (ptsS s) (fun x => x.2.1 ≤ s.size ∧ s.size ≤ x.2.1 + x.2.2 ∧ x.1.length ≤ x.2.1 ∧ ptsGo s s.size 0 = (ptsGo s x.2.2 x.2.1).map (x.1 ++ ·)) (fun x => x.2.2) ([], 0, s.size)
    ⟨by simp, by simp, by simp, by simp⟩ (by simp (decide := true) [ptsS, int]) ?_
  rintro ⟨acc, pos, m⟩ ⟨h1, h2, h3, h4⟩
  simp only at h1 h2 h3 h4
  by_cases hlt : pos < s.size
  · have hlt' : (pos : Int) < s.size := by omega
    obtain ⟨m, rfl⟩ : ∃ k, m = k + 1 := ⟨m - 1, by omega⟩
    simp only [ptsGo, if_pos hlt] at h4
    have hg := firstS_good hlt
    have hf0 := first_ok s pos hlt hs
    simp (decide := true) [ptsS, int, hlt']
    refine ECall.pure (by rfl) hf0 (by simp) ?_
    cases hf : firstS s pos with
    | none =>
      rw [hf] at h4
      simp (decide := true) [firstD', int, ptsD, h4]
    | some r =>
      rw [hf] at h4 hg
      simp only at h4 hg
      obtain ⟨_, _, g3, g4⟩ := hg
      have e1 : ¬ r.2 = 0 := by omega
      simp (decide := true) [firstD', int, e1, I64]
      refine ⟨by omega, by unfold maxLen; omega, ⟨by omega, by omega⟩, acc ++ [(r.1 : Int)], pos + r.2, m, ⟨by omega, by omega, by simp; omega, by rw [h4]; cases ptsGo s m (pos + r.2) <;> simp⟩, by omega, ?_⟩
      simp (decide := true) [ptsS, int]
  · have hlt' : ¬ (pos : Int) < s.size := by omega
    have hm : ptsGo s m pos = some [] := by cases m <;> simp [ptsGo, hlt]
    rw [hm] at h4
    simp (decide := true) [ptsS, int, hlt', h4, ptsD, ints]
theorem refText_ok (s : ByteArray) : PureR Tryz.prog 132 [.str s] (int (textE s)) := by
  refine pure_of_body mixed Tryz.func132 rfl call_132 ?_
  rw [textE_eq]
  by_cases h0 : 200 < s.size
  · have h0' : (200 : Int) < s.size := by omega
    simp (decide := true) [Tryz.f132, h0', h0, int]
  have h0' : ¬ (200 : Int) < s.size := by omega
  simp (decide := true) [Tryz.f132, h0', h0, int]
  refine ECall.pure (by rfl) (refPoints_ok s (by omega)) (by simp) ?_
  cases hp : ptsGo s s.size 0 with
  | none => simp (decide := true) [ptsD, int]
  | some l =>
    have hll : l.length ≤ s.size := pts_len s _ _ _ hp
    simp (decide := true) [ptsD, ints, int]
    refine loop_rule mixed (fun k : Nat => { n := 34, next := 0, slots := [(3, .d (ints l)), (5, .d (int k))], own := [] })
      (fun k => k ≤ l.length ∧ ∀ x ∈ l.take k, badI x = false) (fun k => l.length - k) 0 (by simp) (by simp (decide := true) [int, ints]) ?_
    intro k ⟨hk, hq⟩
    by_cases hlt : k < l.length
    · have e1 : l[k]? = some l[k] := List.getElem?_eq_getElem hlt
      have hbad : badI l[k] = true → l.any badI = true := fun hb => List.any_eq_true.2 ⟨l[k], List.getElem_mem hlt, hb⟩
      by_cases b1 : l[k] < 32
      · have hb := hbad (by simp [badI, b1])
        simp (decide := true) [ints, int, e1, hlt, b1]
        exact List.any_eq_true.1 hb
      · by_cases b2 : l[k] = 127
        · have hb := hbad (by simp [badI, b2])
          simp (decide := true) [ints, int, e1, hlt, b1, b2]
          exact List.any_eq_true.1 hb
        · simp (decide := true) [ints, int, e1, hlt, b1, b2, I64]
          refine ⟨by omega, k + 1, ⟨hlt, ?_⟩, by omega, by omega⟩
          rw [List.take_succ_eq_append_getElem hlt]
          intro x hx
          rcases List.mem_append.1 hx with hx | hx
          · exact hq x hx
          · simp at hx; rw [hx]; simp [badI, b1, b2]
    · have : k = l.length := by omega
      subst this
      rw [List.take_length] at hq
      have hb : l.any badI = false := by rw [List.any_eq_false]; intro x hx; simp [hq x hx]
      simp (decide := true) [ints, int]
      exact hq
end Go.V.Doc

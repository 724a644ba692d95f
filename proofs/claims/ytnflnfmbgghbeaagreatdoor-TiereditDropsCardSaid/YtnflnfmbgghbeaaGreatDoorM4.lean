/- Contracts and plain laws of this seat: part M4. It needs no conditions. -/
import Derived.Test.YtnflnfmbgghbeaaGreatDoorM3
import Derived.Test.YtnflnfmbgghbeaaGreatDoorM2
import Derived.Test.YtnflnfmbgghbeaaGreatDoorSq
set_option linter.unusedVariables false
set_option linter.unusedSimpArgs false
set_option linter.unusedSectionVars false
set_option maxRecDepth 100000
namespace Go.V
open Go Go.Proofs
def nmS (b : Nat) : Bool := decide (97 ≤ b) && decide (b ≤ 122)
def nmC (b : Nat) : Bool := nmS b || (decide (48 ≤ b) && decide (b ≤ 57)) || decide (b = 45) || decide (b = 95)
def nameP (s : ByteArray) : Bool := decide (1 ≤ s.size) && decide (s.size ≤ 32) && nmS (byteN s 0) && (List.range s.size).all fun k => nmC (byteN s k)
theorem nm_cases (b : Nat) : (97 ≤ b ∧ b ≤ 122) ∨ (48 ≤ b ∧ b ≤ 57) ∨ b = 45 ∨ b = 95 ∨ (b < 48 ∧ b ≠ 45) ∨ (57 < b ∧ b < 97 ∧ b ≠ 95) ∨ 122 < b := by omega
theorem refName_ok (s : ByteArray) (hs : s.size ≤ 9223372036854775807) : PureR Tryz.prog 108 [.str s] (.bool (nameP s)) := by
  refine pure_of_body mixed Tryz.func108 rfl call_108 ?_
  simp (decide := true) [Tryz.f108]
  refine loop_rule mixed (fun k : Nat => { n := 59, next := 0, slots := [(0, .d (.str s)), (3, .d (.int .i64 k))], own := [] })
    (fun k => k ≤ s.size ∧ ∀ j, j < k → (nmC (byteN s j) = true ∧ (j = 0 → nmS (byteN s 0) = true))) (fun k => s.size - k) 0 (by simp) (by simp (decide := true) [int]) ?_
  intro k ⟨hk, hp⟩
  by_cases hlt : k < s.size
  · have hlt' : (k : Int) < s.size := by omega
    have e0 : byteAt s (k : Int) = (byteN s k : Int) := byteAt_nat s k
    have good : nmC (byteN s k) = true → (k = 0 → nmS (byteN s k) = true) → ∀ j, j < k + 1 → (nmC (byteN s j) = true ∧ (j = 0 → nmS (byteN s 0) = true)) := by
      intro hb h0 j hj
      rcases Nat.lt_or_ge j k with hj' | hj'
      · exact hp j hj'
      · have : j = k := by omega
        subst this; exact ⟨hb, fun e => by subst e; exact h0 rfl⟩
    have bad : nmC (byteN s k) = false → nameP s = false := fun hb => by
      have : (List.range s.size).all (fun k => nmC (byteN s k)) = false := by rw [List.all_eq_false]; exact ⟨k, by simpa using hlt, by simp [hb]⟩
      simp only [nameP, this, Bool.and_false]
    have bad0 : k = 0 → nmS (byteN s k) = false → nameP s = false := fun h0 hb => by
      subst h0
      simp only [nameP, hb, Bool.and_false, Bool.false_and]
    generalize byteN s k = b at e0 good bad bad0
    by_cases hs : 97 ≤ b ∧ b ≤ 122
    · obtain ⟨c1, c2⟩ := hs
      have q1 : (97 : Int) ≤ b := by omega
      have q2 : (b : Int) ≤ 122 := by omega
      have hS : nmS b = true := by simp [nmS]; omega
      simp (decide := true) [hlt, hlt', e0, q1, q2, I64]
      exact ⟨by omega, k + 1, ⟨by omega, good (by simp [nmC, hS]) (fun _ => hS)⟩, by omega, by omega⟩
    · have hS : nmS b = false := by simp [nmS]; omega
      by_cases hk0 : k = 0
      · subst hk0
        have hb := bad0 rfl hS
        have e0' : byteAt s 0 = (b : Int) := e0
        by_cases q1 : (97 : Int) ≤ b
        · have q2 : ¬ (b : Int) ≤ 122 := by omega
          simp (decide := true) [hlt, hlt', e0', q1, q2, hb]
        · simp (decide := true) [hlt, hlt', e0', q1, hb]
      · have hk0' : ¬ (k : Int) = 0 := by omega
        have key : ∀ (r : Bool), nmC b = r → (decide (97 ≤ (b : Int)) && decide ((b : Int) ≤ 122)) = false := fun _ _ => by simp; omega
        by_cases q1 : (97 : Int) ≤ b
        · have q2 : ¬ (b : Int) ≤ 122 := by omega
          have q3 : ¬ (b : Int) = 45 := by omega
          have q4 : ¬ (b : Int) = 95 := by omega
          have q5 : ¬ (b : Int) < 48 := by omega
          have q6 : (57 : Int) < b := by omega
          have hb := bad (by simp [nmC, hS]; omega)
          simp (decide := true) [hlt, hlt', e0, q1, q2, q3, q4, q5, q6, hk0, hk0', hb]
        · rcases nm_cases b with ⟨c1, c2⟩ | ⟨c1, c2⟩ | rfl | rfl | ⟨c1, c2⟩ | ⟨c1, c2, c3⟩ | c1
          · omega
          · have q3 : ¬ (b : Int) = 45 := by omega
            have q4 : ¬ (b : Int) = 95 := by omega
            have q5 : ¬ (b : Int) < 48 := by omega
            have q6 : ¬ (57 : Int) < b := by omega
            simp (decide := true) [hlt, hlt', e0, q1, q3, q4, q5, q6, hk0, hk0', I64]
            exact ⟨by omega, k + 1, ⟨by omega, good (by simp [nmC]; omega) (fun h => absurd h hk0)⟩, by omega, by omega⟩
          · simp (decide := true) [hlt, hlt', e0, hk0, hk0', I64]
            exact ⟨by omega, k + 1, ⟨by omega, good (by decide) (fun h => absurd h hk0)⟩, by omega, by omega⟩
          · simp (decide := true) [hlt, hlt', e0, hk0, hk0', I64]
            exact ⟨by omega, k + 1, ⟨by omega, good (by decide) (fun h => absurd h hk0)⟩, by omega, by omega⟩
          · have q3 : ¬ (b : Int) = 45 := by omega
            have q4 : ¬ (b : Int) = 95 := by omega
            have q5 : (b : Int) < 48 := by omega
            have hb := bad (by simp [nmC, hS]; omega)
            simp (decide := true) [hlt, hlt', e0, q1, q3, q4, q5, hk0, hk0', hb]
          · have q3 : ¬ (b : Int) = 45 := by omega
            have q4 : ¬ (b : Int) = 95 := by omega
            have q5 : ¬ (b : Int) < 48 := by omega
            have q6 : (57 : Int) < b := by omega
            have hb := bad (by simp [nmC, hS]; omega)
            simp (decide := true) [hlt, hlt', e0, q1, q3, q4, q5, q6, hk0, hk0', hb]
          · omega
  · have : k = s.size := by omega
    subst this
    have hall : (List.range s.size).all (fun k => nmC (byteN s k)) = true := by
      rw [List.all_eq_true]; intro j hj; exact (hp j (by simpa using hj)).1
    by_cases h1 : 1 ≤ s.size
    · have h1' : (1 : Int) ≤ s.size := by omega
      have hS := (hp 0 (by omega)).2 rfl
      simp (decide := true) [h1', nameP, hall, hS, h1]
      omega
    · have h1' : ¬ (1 : Int) ≤ s.size := by omega
      simp (decide := true) [h1', nameP, h1]
end Go.V
namespace Go.V
open Go Go.Proofs
def alK (k : Int) : Bool := decide (k = 0) || decide (k = 1) || decide (k = 2)
def alT (l : List Tir) (i : Int) : Bool := decide (0 ≤ i) && decide (i < l.length) && alK (l[i.toNat]?.getD default).kind
def findT (l : List Tir) (name : ByteArray) : Bool := l.any fun t => decide (t.name = name)
def roleT (l : List Tir) (role : Int) : Bool := !decide (role = 0) && l.any fun t => decide (t.role = role)
def rolesE (pr tk tr : Int) : Int :=
  if tr = 1 then (if tk = 0 then 0 else 14) else if tr = 2 then (if pr = 1 then 0 else 13) else if tr = 3 then (if tk = 3 then (if pr = 2 then 0 else 13) else 14)
  else if tr = 4 then (if tk = 4 then (if pr = 3 then 0 else 13) else 14) else if tr = 5 then (if tk = 4 then (if pr = 1 then 0 else 13) else 14) else 0
def oneE (before : List Tir) (t : Tir) : Int :=
  if nameP t.name = false then 7 else if findT before t.name = true then 8 else if t.kind < 0 ∨ 4 < t.kind then 14 else if t.role < 0 ∨ 5 < t.role then 2
  else if roleT before t.role = true then 8 else if t.kind = 0 then (if t.par = -1 then rolesE (-1) t.kind t.role else 13)
  else if t.par < 0 ∨ before.length ≤ t.par then 13
  else if alK t.kind = true ∧ alK (before[t.par.toNat]?.getD default).kind = false then 13 else rolesE (before[t.par.toNat]?.getD default).role t.kind t.role
def tiersGo (l : List Tir) : Nat → Nat → Int
  | 0, _ => 0
  | n + 1, i => if h : i < l.length then (if oneE (l.take i) l[i] = 0 then tiersGo l n (i + 1) else oneE (l.take i) l[i]) else 0
def tiersE (l : List Tir) : Int := if 12 < l.length then 11 else tiersGo l l.length 0
end Go.V
namespace Go.V
open Go Go.Proofs
def rightS (f t : Int) : Bool := decide (0 ≤ f) && decide (f < t) && decide (t ≤ 86400000)
def tirAt (d : Dc) (i : Int) : Tir := d.tiers[i.toNat]?.getD default
def withinP (d : Dc) (n p : Nt) : Bool :=
  if alT d.tiers n.tier = true then rightS n.fr n.tO && (if (tirAt d n.tier).kind = 0 then decide (0 ≤ n.fr) && decide (n.tO ≤ d.len) else decide (p.fr ≤ n.fr) && decide (n.tO ≤ p.tO))
  else decide (n.fr = 0) && decide (n.tO = 0)
def noteE (d : Dc) (n : Nt) : Int :=
  if textE n.text = 0 then
    (if (if (tirAt d n.tier).kind = 0 then decide (n.par = 0) else (getN d.notes n.par).2 && decide ((getN d.notes n.par).1.tier = (tirAt d n.tier).par)) = true then
      (if withinP d n (getN d.notes n.par).1 = true then (if n.rank < 0 ∨ (n.rank ≠ 0 ∧ (tirAt d n.tier).kind ≠ 3) then 1 else 0) else 12)
    else 13)
  else textE n.text
end Go.V
namespace Go.V
open Go Go.Proofs Go.Sort Go.RowKit
theorem ltN_iff {a b : Nt} : ltN a b = true ↔ a.par < b.par ∨ (a.par = b.par ∧ (a.fr < b.fr ∨ (a.fr = b.fr ∧ a.rank < b.rank))) := by
  unfold ltN ltOf cmpN
  rw [decide_eq_true_eq]
  simp only [orI, cmpI]
  repeat' split
  all_goals omega
theorem ltN_false {a b : Nt} : ltN a b = false ↔ ¬ (a.par < b.par ∨ (a.par = b.par ∧ (a.fr < b.fr ∨ (a.fr = b.fr ∧ a.rank < b.rank)))) := by
  rw [← ltN_iff, Bool.not_eq_true]
theorem swoN : SWO ltN where
  irrefl := fun x => by rw [ltN_false]; omega
  trans := fun x y z h1 h2 => by rw [ltN_iff] at *; omega
  ntrans := fun x y z h1 h2 => by rw [ltN_false] at *; omega
def sortN (l : List Nt) : List Nt := (pdq ltN l.toArray 0 l.length (Lib.bitLen l.length) true true).toList
theorem sortN_spec (l : List Nt) : PermIn 0 l.length l.toArray (pdq ltN l.toArray 0 l.length (Lib.bitLen l.length) true true) ∧ SortedIn ltN 0 l.length (pdq ltN l.toArray 0 l.length (Lib.bitLen l.length) true true) :=
  pdq_sorts ltN swoN l.toArray 0 l.length (Lib.bitLen l.length) true true (Nat.zero_le _) (by simp) (Or.inl rfl)
theorem sortN_length (l : List Nt) : (sortN l).length = l.length := by
  have := (sortN_spec l).1.1
  unfold sortN
  rw [Array.length_toList, this]; simp
theorem sortN_perm (l : List Nt) : (sortN l).Perm l := by
  obtain ⟨h1, _, h3⟩ := (sortN_spec l).1
  unfold sortN
  generalize pdq ltN l.toArray 0 l.length (Lib.bitLen l.length) true true = A at h1 h3
  have e1 : A.extract 0 l.length = A := by rw [show l.length = A.size by rw [h1]; simp]; simp
  have e2 : l.toArray.extract 0 l.length = l.toArray := by rw [show l.length = l.toArray.size by simp]; simp
  rw [e1, e2] at h3
  simpa using h3
theorem sortN_sorted (l : List Nt) : (sortN l).Pairwise fun a b => ltN b a = false := by
  have hs := (sortN_spec l).2
  have hl := sortN_length l
  unfold sortN at hl ⊢
  generalize pdq ltN l.toArray 0 l.length (Lib.bitLen l.length) true true = A at hs hl
  rw [List.pairwise_iff_getElem]
  intro i j hi hj hij
  rw [Array.length_toList] at hl
  have := hs i j (Nat.zero_le _) hij (by rw [Array.length_toList] at hj; omega)
  rw [Array.length_toList] at hi hj
  simpa [getElem!_pos, hi, hj] using this
abbrev noNotes : List (Nat × Obj') := [(0, .arr 45 7 [])]
theorem insE_ok : CallC Tryz.prog 117 [.ar 0, .d (int 0), .d (int 0), .fn 74 []] noNotes 1 (.tup []) 1 noNotes [] := by
  refine callC_of_body mixed Tryz.func117 rfl call_117 (by simp [Sym.los, Sym.lo]) ?_
  simp (decide := true) [Tryz.f117, int]
  refine ⟨by unfold I64; omega, loop_rule mixed (fun _ : Unit => { n := 53, next := 1, slots := [(2, .d (int 0)), (8, .d (int 1))], own := noNotes, base := 1 })
    (fun _ => True) (fun _ => 0) () trivial (by simp (decide := true) [int]) ?_⟩
  intro _ _
  simp (decide := true) [int]
theorem CallC.unit {P : Program} {f : Nat} {args : List Sym} {own : List (Nat × Obj')} {n nx : Nat} {own' : List (Nat × Obj')} {mv : List Nat} (h : CallC P f args own n (.tup []) nx own' mv) : CallC P f args own n (.d (.tup [])) nx own' mv := by
  refine ⟨h.1, fun X w0 β w vs hβ hm hs => (h.2 X w0 β w vs hβ hm hs).mono fun e w' he => ?_⟩
  obtain ⟨β', v, h1, h2, h3, h4⟩ := he
  refine ⟨β', v, h1, h2, by simp [Sym.lo], ?_⟩
  simp only [Sm, Sms] at h4
  obtain ⟨vs', rfl, rfl⟩ := h4
  simp [Sm, R, Rvals]
end Go.V
namespace Go.V
open Go Go.Proofs
def ofT (l : List Nt) (t : Int) : List Nt := l.filter fun n => decide (n.tier = t)
def firstB (s : List Nt) (i : Nat) : Bool := decide (i = 0) || !decide ((s[i - 1]?.getD default).par = (s[i]?.getD default).par)
def lastB (s : List Nt) (i : Nat) : Bool := decide (i + 1 = s.length) || !decide ((s[i + 1]?.getD default).par = (s[i]?.getD default).par)
def tierGo (notes : List Nt) (kind : Int) (s : List Nt) : Nat → Nat → Int → Int
  | 0, _, why => why
  | m + 1, i, why => if i < s.length then
      (let n := s[i]?.getD default
       let pv := s[i - 1]?.getD default
       let p := (getN notes n.par).1
       if kind = 0 ∨ kind = 1 ∨ kind = 2 then
         (if firstB s i = false ∧ n.fr < pv.tO then 15
          else tierGo notes kind s m (i + 1) (if kind = 1 ∧ ((firstB s i = true ∧ n.fr ≠ p.fr) ∨ (firstB s i = false ∧ pv.tO ≠ n.fr) ∨ (lastB s i = true ∧ n.tO ≠ p.tO)) then 16 else why))
       else if kind = 3 then tierGo notes kind s m (i + 1) (if (firstB s i = true ∧ n.rank ≠ 0) ∨ (firstB s i = false ∧ n.rank ≠ IntKind.i64.wrap (pv.rank + 1)) then 10 else why)
       else if kind = 4 then tierGo notes kind s m (i + 1) (if firstB s i = false then 8 else why)
       else tierGo notes kind s m (i + 1) why)
    else why
def tierE (d : Dc) (t : Int) : Int := tierGo d.notes (tirAt d t).kind (sortN (ofT d.notes t)) (ofT d.notes t).length 0 0
end Go.V
namespace Go.V
open Go Go.Proofs
def notesGo (d : Dc) : Nat → Nat → Int
  | 0, _ => 0
  | m + 1, i => if i < d.notes.length then
      (let n := d.notes[i]?.getD default
       if n.id < 1 ∨ 1099511627776 < n.id then 2 else if i ≠ 0 ∧ n.id ≤ (d.notes[i - 1]?.getD default).id then 10
       else if n.tier < 0 ∨ (d.tiers.length : Int) ≤ n.tier then 2 else if noteE d n = 0 then notesGo d m (i + 1) else noteE d n)
    else 0
def tierGos (d : Dc) : Nat → Nat → Int
  | 0, _ => 0
  | m + 1, i => if i < d.tiers.length then (if tierE d i = 0 then tierGos d m (i + 1) else tierE d i) else 0
def checkE (d : Dc) : Int :=
  if tiersE d.tiers ≠ 0 then tiersE d.tiers else if d.len < 0 ∨ 86400000 < d.len then 12 else if 300 < d.notes.length then 11
  else if notesGo d d.notes.length 0 ≠ 0 then notesGo d d.notes.length 0 else tierGos d d.tiers.length 0
end Go.V

/- The check of an entry by the reference of chapter 24: senses, links, references, all. -/
import Derived.Test.YtgglheknmlfghaaGreatG24
set_option linter.unusedSimpArgs false
set_option linter.unusedVariables false
set_option maxRecDepth 10000
namespace Go.V
open Go Go.Proofs

def bytesAll (f : Nat → Bool) (s : ByteArray) : Bool := (List.range s.size).all fun k => f (byteN s k)
theorem bytesAll_no {f : Nat → Bool} {s : ByteArray} {k : Nat} (hk : k < s.size) (h : f (byteN s k) = false) : bytesAll f s = false := by
  unfold bytesAll; rw [List.all_eq_false]; exact ⟨k, List.mem_range.2 hk, by rw [h]; decide⟩
theorem bytesAll_yes {f : Nat → Bool} {s : ByteArray} (h : ∀ j, j < s.size → f (byteN s j) = true) : bytesAll f s = true := by
  unfold bytesAll; rw [List.all_eq_true]; intro j hj; exact h j (List.mem_range.1 hj)
theorem upto_snoc {p : Nat → Prop} {k : Nat} (h : ∀ j, j < k → p j) (hk : p k) : ∀ j, j < k + 1 → p j := by
  intro j hj
  rcases Nat.lt_succ_iff_lt_or_eq.mp hj with h' | h'
  · exact h j h'
  · rw [h']; exact hk
def labB (b : Nat) : Bool := decide (¬ b < 32) && decide (¬ b = 127)
def labelP (s : ByteArray) : Bool := bytesAll labB s && ((ptsGo s s.size 0).isSome && decide (1 ≤ s.size) && decide (s.size ≤ 32))
theorem label10X_ok (s : ByteArray) (hs : s.size ≤ 1048576) : PureR Tryz.prog 111 [.str s] (.bool (labelP s)) := by
  refine pure_of_body mixed Tryz.func111 rfl call_111 ?_
  simp (decide := true) [Tryz.f111, int]
  refine loop_rule mixed (fun k : Nat => { n := 38, next := 0, slots := [(0, .d (.str s)), (3, .d (int k))], own := [] })
    (fun k => k ≤ s.size ∧ ∀ j, j < k → labB (byteN s j) = true) (fun k => s.size - k) 0 (by simp) (by simp (decide := true) [int]) ?_
  intro k ⟨hk, hp⟩
  by_cases hlt : k < s.size
  · have hlt' : (k : Int) < s.size := by omega
    have e1 : byteAt s (k : Int) = (byteN s k : Int) := byteAt_nat s k
    by_cases b1 : (byteN s k : Int) < 32
    · have : labelP s = false := by unfold labelP; rw [bytesAll_no hlt (by simp [labB]; omega)]; rfl
      rw [this]
      simp (decide := true) [int, hlt, hlt', e1, b1]
    · by_cases b2 : (byteN s k : Int) = 127
      · have : labelP s = false := by unfold labelP; rw [bytesAll_no hlt (by simp [labB]; omega)]; rfl
        rw [this]
        simp (decide := true) [int, hlt, hlt', e1, b1, b2]
      · have hg := upto_snoc hp (show labB (byteN s k) = true by simp [labB]; omega)
        simp (decide := true) [int, hlt, hlt', e1, b1, b2, I64]
        exact ⟨⟨by omega, by omega⟩, k + 1, ⟨hlt, hg⟩, by omega, by omega⟩
  · have hlt' : ¬ (k : Int) < s.size := by omega
    have hall : bytesAll labB s = true := bytesAll_yes fun j hj => hp j (by omega)
    simp (decide := true) [int, hlt']
    refine ECall.pure (by rfl) (refPoints_ok s hs) (by simp) ?_
    unfold labelP
    rw [hall]
    cases hp : ptsGo s s.size 0 with
    | none => simp (decide := true) [ptsD, int]
    | some l =>
      by_cases c1 : 1 ≤ s.size
      · have c1' : (1 : Int) ≤ s.size := by omega
        simp (decide := true) [ptsD, int, ints, c1, c1']
        try omega
      · have c1' : ¬ (1 : Int) ≤ s.size := by omega
        simp (decide := true) [ptsD, int, ints, c1, c1']
def gloB (b : Nat) : Bool := decide (¬ b = 32) && decide (¬ b = 45)
def glossP (s : ByteArray) : Bool := bytesAll gloB s && labelP s
theorem gloss24X_ok (s : ByteArray) (hs : s.size ≤ 1048576) : PureR Tryz.prog 184 [.str s] (.bool (glossP s)) := by
  refine pure_of_body mixed Tryz.func184 rfl call_184 ?_
  simp (decide := true) [Tryz.f184, int]
  refine loop_rule mixed (fun k : Nat => { n := 22, next := 0, slots := [(0, .d (.str s)), (3, .d (int k))], own := [] })
    (fun k => k ≤ s.size ∧ ∀ j, j < k → gloB (byteN s j) = true) (fun k => s.size - k) 0 (by simp) (by simp (decide := true) [int]) ?_
  intro k ⟨hk, hp⟩
  by_cases hlt : k < s.size
  · have hlt' : (k : Int) < s.size := by omega
    have e1 : byteAt s (k : Int) = (byteN s k : Int) := byteAt_nat s k
    by_cases b1 : (byteN s k : Int) = 32
    · have : glossP s = false := by unfold glossP; rw [bytesAll_no hlt (by simp [gloB]; omega)]; rfl
      rw [this]
      simp (decide := true) [int, hlt, hlt', e1, b1]
    · by_cases b2 : (byteN s k : Int) = 45
      · have : glossP s = false := by unfold glossP; rw [bytesAll_no hlt (by simp [gloB]; omega)]; rfl
        rw [this]
        simp (decide := true) [int, hlt, hlt', e1, b1, b2]
      · have hg := upto_snoc hp (show gloB (byteN s k) = true by simp [gloB]; omega)
        simp (decide := true) [int, hlt, hlt', e1, b1, b2, I64]
        exact ⟨⟨by omega, by omega⟩, k + 1, ⟨hlt, hg⟩, by omega, by omega⟩
  · have hlt' : ¬ (k : Int) < s.size := by omega
    have hall : bytesAll gloB s = true := bytesAll_yes fun j hj => hp j (by omega)
    simp (decide := true) [int, hlt']
    refine ECall.pure (by rfl) (label10X_ok s hs) (by simp) ?_
    unfold glossP
    rw [hall]
    simp (decide := true) [int]
def badI (p : Int) : Bool := decide (p < 32) || decide (p = 127)
def textC (s : ByteArray) : Int := if 200 < s.size then 5 else match ptsGo s s.size 0 with
  | none => 3
  | some l => if l.any badI = true then 3 else 0
theorem text12X_ok (s : ByteArray) : PureR Tryz.prog 185 [.str s] (int (textC s)) := by
  refine pure_of_body mixed Tryz.func185 rfl call_185 ?_
  unfold textC
  by_cases h0 : 200 < s.size
  · have h0' : (200 : Int) < s.size := by omega
    simp (decide := true) [Tryz.f185, h0', h0, int]
  have h0' : ¬ (200 : Int) < s.size := by omega
  simp (decide := true) [Tryz.f185, h0', h0, int]
  refine ECall.pure (by rfl) (refPoints_ok s (by omega)) (by simp) ?_
  cases hp : ptsGo s s.size 0 with
  | none => simp (decide := true) [ptsD, int]
  | some l =>
    have hll : l.length ≤ s.size := pts_len s _ _ _ hp
    simp (decide := true) [ptsD, ints, int]
    refine loop_rule mixed (fun k : Nat => { n := 34, next := 0, slots := [(3, .d (ints l)), (5, .d (int k))], own := [] })
      (fun k => k ≤ l.length ∧ ∀ x ∈ l.take k, badI x = false) (fun k => l.length - k) 0 (by simp) (by simp (decide := true) [int, ints]) ?_
    intro k ⟨hk, hq⟩
    by_cases hlt : k < l.length
    · have e1 : l[k]? = some l[k] := List.getElem?_eq_getElem hlt
      have hbad : badI l[k] = true → l.any badI = true := fun hb => List.any_eq_true.2 ⟨l[k], List.getElem_mem hlt, hb⟩
      by_cases b1 : l[k] < 32
      · have hb := hbad (by simp [badI, b1])
        simp (decide := true) [ints, int, e1, hlt, b1]
        exact List.any_eq_true.1 hb
      · by_cases b2 : l[k] = 127
        · have hb := hbad (by simp [badI, b2])
          simp (decide := true) [ints, int, e1, hlt, b1, b2]
          exact List.any_eq_true.1 hb
        · simp (decide := true) [ints, int, e1, hlt, b1, b2, I64]
          refine ⟨by omega, k + 1, ⟨hlt, ?_⟩, by omega, by omega⟩
          rw [List.take_succ_eq_append_getElem hlt]
          intro x hx
          rcases List.mem_append.1 hx with hx | hx
          · exact hq x hx
          · simp at hx; rw [hx]; simp [badI, b1, b2]
    · have : k = l.length := by omega
      subst this
      rw [List.take_length] at hq
      have hb : l.any badI = false := by rw [List.any_eq_false]; intro x hx; simp [hq x hx]
      simp (decide := true) [ints, int]
      exact hq
def glossIn (l : List Sens) (s : ByteArray) : Bool := l.any fun x => decide (x.gloss = s)
theorem has24X_ok (l : List Sens) (s : ByteArray) (hl : l.length < 2^40) : PureR Tryz.prog 186 [sensD l, .str s] (.bool (glossIn l s)) := by
  refine pure_of_body mixed Tryz.func186 rfl call_186 ?_
  simp (decide := true) [Tryz.f186, int, sensD]
  refine loop_rule mixed (fun k : Nat => { n := 19, next := 0, slots := [(0, .d (sensD l)), (1, .d (.str s)), (5, .d (int k))], own := [] })
    (fun k => k ≤ l.length ∧ ∀ x ∈ l.take k, ¬ x.gloss = s) (fun k => l.length - k) 0 (by simp) (by simp (decide := true) [int, sensD]) ?_
  intro k ⟨hk, hp⟩
  by_cases hlt : k < l.length
  · have hlt' : (k : Int) < l.length := by omega
    have hmem := List.getElem_mem hlt
    have hsn := take_snocG hlt
    obtain ⟨x, ex⟩ : ∃ x, l[k] = x := ⟨_, rfl⟩
    have e1 : l[k]? = some x := by rw [List.getElem?_eq_getElem hlt, ex]
    rw [ex] at hmem hsn
    by_cases b1 : x.gloss = s
    · have : glossIn l s = true := List.any_eq_true.2 ⟨x, hmem, by simpa using b1⟩
      rw [this]
      simp (decide := true) [int, sensD, Sens.row, hlt, hlt', e1, ex, b1]
    · simp (decide := true) [int, sensD, Sens.row, hlt, hlt', e1, ex, b1, I64]
      refine ⟨fun h => absurd (bytes_inj h) b1, fun _ => ⟨⟨by omega, by omega⟩, k + 1, ⟨hlt, fun y hy => ?_⟩, by omega, by omega⟩⟩
      rw [hsn] at hy
      rcases List.mem_append.1 hy with h | h
      · exact hp y h
      · rw [List.mem_singleton] at h; rw [h]; exact b1
  · have : k = l.length := by omega
    subst this
    rw [List.take_length] at hp
    have : glossIn l s = false := by unfold glossIn; rw [List.any_eq_false]; intro x hx; simpa using hp x hx
    rw [this]
    simp (decide := true) [int, sensD]
def senseC (l : List Sens) (s : Sens) : Int := if glossP s.gloss = false then 7 else if textC s.defn ≠ 0 then textC s.defn else if glossIn l s.gloss = true then 8 else 0
theorem sense24X_ok (l : List Sens) (s : Sens) (hl : l.length < 2^40) (hs : s.gloss.size ≤ 1048576) : PureR Tryz.prog 174 [sensD l, .agg s.row] (int (senseC l s)) := by
  refine pure_of_body mixed Tryz.func174 rfl call_174 ?_
  have hH := has24X_ok l s.gloss hl
  unfold senseC
  simp (decide := true) [Tryz.f174, int, Sens.row]
  refine ECall.pure (by rfl) (gloss24X_ok s.gloss hs) (by simp) ?_
  cases hg : glossP s.gloss with
  | false => simp (decide := true) [int]
  | true =>
    simp (decide := true) [int]
    refine ECall.pure (by rfl) (text12X_ok s.defn) (by simp) ?_
    by_cases he : textC s.defn = 0
    case neg => simp (decide := true) [int, he]
    simp (decide := true) [int, he]
    generalize glossIn l s.gloss = b at hH ⊢
    refine ECall.pure (by rfl) hH (by simp [int]) ?_
    cases b <;> simp (decide := true) [int]
set_option maxHeartbeats 8000000 in
theorem senses24_ok (e : Ent) (he : EntC e) : PureE Tryz.prog 154 [.agg e.row] (fun x => ∃ n, x = int n ∧ (n = 0 → (e.senses ≠ [] ∨ e.main ≠ 0))) := by
  have hsl := he.senses.1
  refine some_of_body mixed Tryz.func154 rfl call_154 ?_
  by_cases hm : e.main = 0
  · by_cases h2 : e.main = e.id
    · have h2' : e.id = 0 := by omega
      simp (decide := true) [Tryz.f154, int, Ent.row, hm, h2']
    have h2' : ¬ 0 = e.id := by omega
    by_cases h3 : (5 : Int) < e.senses.length
    · simp (decide := true) [Tryz.f154, int, Ent.row, sensD, hm, h2', h3]
    by_cases h4 : (e.senses.length : Int) = 0
    · simp (decide := true) [Tryz.f154, int, Ent.row, sensD, hm, h2', h3, h4]
    simp (decide := true) [Tryz.f154, int, Ent.row, sensD, hm, h2', h3, h4]
    intro hne
    refine loop_rule mixed (fun k : Nat => { n := 52, next := 1, slots := [(1, .bp 0 0), (3, .d (int k))], own := [(0, .box 59 (e.row.map .d))] })
      (fun k => k ≤ e.senses.length) (fun k => e.senses.length - k) 0 (by simp) (by simp (decide := true) [int, ints, Ent.row, sensD, hm]) ?_
    intro k hk
    by_cases hlt : k < e.senses.length
    · have hlt' : (k : Int) < e.senses.length := by omega
      have hkl := he.senses.2 e.senses[k] (List.getElem_mem hlt)
      obtain ⟨s, es⟩ : ∃ s, e.senses[k] = s := ⟨_, rfl⟩
      have es1 : e.senses[k]? = some s := by rw [List.getElem?_eq_getElem hlt, es]
      rw [es] at hkl
      have hS := sense24X_ok (e.senses.take k) s (by rw [List.length_take]; omega) hkl.1
      have eS : sensD (e.senses.take k) = .sl ((e.senses.map Sens.row).take k) := by simp [sensD, List.map_take]
      rw [eS] at hS
      have hrl : ∀ a ∈ e.senses, a.row.length = 2 := fun a _ => rfl
      simp (decide := true) [int, ints, sensD, Ent.row, hlt, hlt', es, es1]
      refine ⟨by omega, hrl, by rfl, by simp [Sens.row], ?_⟩
      refine scall_pure (by rfl) (by rfl) hS (by simp [Sens.row, int]) ?_
      by_cases hz : senseC (e.senses.take k) s = 0
      case neg => simp (decide := true) [int, hz]
      rw [hz]
      simp (decide := true) [int, ints, sensD, Ent.row, I64]
      exact ⟨⟨by omega, by omega⟩, k + 1, hlt, by omega, by omega⟩
    · have hlt' : ¬ (k : Int) < e.senses.length := by omega
      simp (decide := true) [int, ints, sensD, Ent.row, hlt']
      exact hne
  · simp (decide := true) [Tryz.f154, int, Ent.row, sensD, hm]
    refine ECall.pure (by rfl) (ident10_ok e.main) (by simp [int]) ?_
    cases hid : identP e.main with
    | false => simp (decide := true) [int]
    | true =>
      by_cases h2 : e.main = e.id
      · simp (decide := true) [int, h2]
      by_cases h3 : (5 : Int) < e.senses.length
      · simp (decide := true) [int, sensD, h2, h3]
      by_cases h4 : (e.senses.length : Int) = 0
      · simp (decide := true) [int, sensD, hm, h2, h3, h4]
        refine loop_rule mixed (fun k : Nat => { n := 52, next := 1, slots := [(1, .bp 0 0), (3, .d (int k))], own := [(0, .box 59 (e.row.map .d))] })
          (fun k => k ≤ e.senses.length) (fun k => e.senses.length - k) 0 (by simp) (by simp (decide := true) [int, ints, Ent.row, sensD, hm]) ?_
        intro k hk
        by_cases hlt : k < e.senses.length
        · have hlt' : (k : Int) < e.senses.length := by omega
          have hkl := he.senses.2 e.senses[k] (List.getElem_mem hlt)
          obtain ⟨s, es⟩ : ∃ s, e.senses[k] = s := ⟨_, rfl⟩
          have es1 : e.senses[k]? = some s := by rw [List.getElem?_eq_getElem hlt, es]
          rw [es] at hkl
          have hS := sense24X_ok (e.senses.take k) s (by rw [List.length_take]; omega) hkl.1
          have eS : sensD (e.senses.take k) = .sl ((e.senses.map Sens.row).take k) := by simp [sensD, List.map_take]
          rw [eS] at hS
          have hrl : ∀ a ∈ e.senses, a.row.length = 2 := fun a _ => rfl
          simp (decide := true) [int, ints, sensD, Ent.row, hlt, hlt', es, es1]
          refine ⟨by omega, hrl, by rfl, by simp [Sens.row], ?_⟩
          refine scall_pure (by rfl) (by rfl) hS (by simp [Sens.row, int]) ?_
          by_cases hz : senseC (e.senses.take k) s = 0
          case neg => simp (decide := true) [int, hz]
          rw [hz]
          simp (decide := true) [int, ints, sensD, Ent.row, I64]
          exact ⟨⟨by omega, by omega⟩, k + 1, hlt, by omega, by omega⟩
        · have hlt' : ¬ (k : Int) < e.senses.length := by omega
          simp (decide := true) [int, ints, sensD, Ent.row, hlt']
      · have hne : ¬ e.senses = [] := by intro h; rw [h] at h4; simp at h4
        simp (decide := true) [int, sensD, hm, h2, h3, h4, hne]
        refine loop_rule mixed (fun k : Nat => { n := 52, next := 1, slots := [(1, .bp 0 0), (3, .d (int k))], own := [(0, .box 59 (e.row.map .d))] })
          (fun k => k ≤ e.senses.length) (fun k => e.senses.length - k) 0 (by simp) (by simp (decide := true) [int, ints, Ent.row, sensD, hm]) ?_
        intro k hk
        by_cases hlt : k < e.senses.length
        · have hlt' : (k : Int) < e.senses.length := by omega
          have hkl := he.senses.2 e.senses[k] (List.getElem_mem hlt)
          obtain ⟨s, es⟩ : ∃ s, e.senses[k] = s := ⟨_, rfl⟩
          have es1 : e.senses[k]? = some s := by rw [List.getElem?_eq_getElem hlt, es]
          rw [es] at hkl
          have hS := sense24X_ok (e.senses.take k) s (by rw [List.length_take]; omega) hkl.1
          have eS : sensD (e.senses.take k) = .sl ((e.senses.map Sens.row).take k) := by simp [sensD, List.map_take]
          rw [eS] at hS
          have hrl : ∀ a ∈ e.senses, a.row.length = 2 := fun a _ => rfl
          simp (decide := true) [int, ints, sensD, Ent.row, hlt, hlt', es, es1]
          refine ⟨by omega, hrl, by rfl, by simp [Sens.row], ?_⟩
          refine scall_pure (by rfl) (by rfl) hS (by simp [Sens.row, int]) ?_
          by_cases hz : senseC (e.senses.take k) s = 0
          case neg => simp (decide := true) [int, hz]
          rw [hz]
          simp (decide := true) [int, ints, sensD, Ent.row, I64]
          exact ⟨⟨by omega, by omega⟩, k + 1, hlt, by omega, by omega⟩
        · have hlt' : ¬ (k : Int) < e.senses.length := by omega
          simp (decide := true) [int, ints, sensD, Ent.row, hlt']
end Go.V

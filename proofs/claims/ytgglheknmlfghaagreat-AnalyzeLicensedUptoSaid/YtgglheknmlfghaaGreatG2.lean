/- Contracts: whether a net accepts classes; an entry by its Id; the senses of an entry; by the program. -/
import Derived.Test.YtgglheknmlfghaaGreatG1
set_option linter.unusedSimpArgs false
set_option linter.unusedVariables false
set_option maxRecDepth 10000
namespace Go.V
open Go Go.Proofs

def runS (l : List Stp) (cs : List Int) : Nat := cs.foldl (fun m c => afterS l m c) 1
def finalS (l : List Int) : Nat := l.foldl withS 0
theorem runS_lt {l : List Stp} (h : StepsOk l) : ∀ (cs : List Int) (m : Nat), m < 8 → cs.foldl (fun m c => afterS l m c) m < 8
  | [], m, hm => hm
  | c :: cs, m, hm => by rw [List.foldl_cons]; exact runS_lt h cs _ (afterS_lt h m c)
theorem finalS_lt : ∀ (l : List Int) (m : Nat), (∀ q ∈ l, 0 ≤ q ∧ q < 3) → m < 8 → l.foldl withS m < 8
  | [], m, _, hm => hm
  | q :: l, m, h, hm => by
    rw [List.foldl_cons]
    exact finalS_lt l _ (fun x hx => h x (by simp [hx])) (withS_lt hm (h q (by simp)).1 (h q (by simp)).2)
theorem run23_ok (n : Nett) (hok : StepsOk n.steps) (hl : n.steps.length < 2^40) (cs : List Int) (hc : cs.length < 2^40) : PureR Tryz.prog 145 [.agg n.cells, ints cs] (u32 (runS n.steps cs)) := by
  refine pure_of_body mixed Tryz.func145 rfl call_145 ?_
  simp (decide := true) [Tryz.f145, Nett.cells, int, ints, u32]
  refine loop_rule mixed (fun k : Nat => { n := 20, next := 1, slots := [(2, .bp 0 0), (5, .d (u32 (runS n.steps (cs.take k)))), (8, .d (ints cs)), (9, .d (int cs.length)), (10, .d (int k))], own := [(0, .box 33 (n.cells.map .d))] })
    (fun k => k ≤ cs.length) (fun k => cs.length - k) 0 (by simp) (by simp (decide := true) [int, ints, u32, Nett.cells, runS]) ?_
  intro k hk
  by_cases hlt : k < cs.length
  case neg =>
    have : k = cs.length := by omega
    subst this
    rw [List.take_length]
    simp (decide := true) [int, ints, u32]
  have hlt' : (k : Int) < cs.length := by omega
  have hsn : runS n.steps (cs.take (k + 1)) = afterS n.steps (runS n.steps (cs.take k)) cs[k] := by unfold runS; rw [take_snocG hlt, List.foldl_append]; rfl
  have hm8 : runS n.steps (cs.take k) < 8 := runS_lt hok _ 1 (by omega)
  obtain ⟨c, ec⟩ : ∃ c, cs[k] = c := ⟨_, rfl⟩
  have e1 : cs[k]? = some c := by rw [List.getElem?_eq_getElem hlt, ec]
  rw [ec] at hsn
  generalize runS n.steps (cs.take k) = m at hsn hm8
  have hA := after_ok n m c hok hm8 hl
  simp (decide := true) [int, ints, u32, Nett.cells, hlt, hlt', e1, ec, I64]
  refine ECall.pure (by rfl) hA (by simp [u32, int, Nett.cells]) ?_
  simp (decide := true) [int, ints, u32, Nett.cells, I64]
  exact ⟨⟨by omega, by omega⟩, k + 1, hlt, by omega, by rw [hsn], by omega⟩
theorem final23_ok (n : Nett) (hf : ∀ q ∈ n.final, 0 ≤ q ∧ q < 3) (hl : n.final.length < 2^40) : PureR Tryz.prog 146 [.agg n.cells] (u32 (finalS n.final)) := by
  refine pure_of_body mixed Tryz.func146 rfl call_146 ?_
  simp (decide := true) [Tryz.f146, Nett.cells, int, ints, u32]
  refine loop_rule mixed (fun k : Nat => { n := 18, next := 1, slots := [(3, .d (u32 (finalS (n.final.take k)))), (7, .d (ints n.final)), (8, .d (int n.final.length)), (9, .d (int k))], own := [] })
    (fun k => k ≤ n.final.length) (fun k => n.final.length - k) 0 (by simp) (by simp (decide := true) [int, ints, u32, Nett.cells, finalS]) ?_
  intro k hk
  by_cases hlt : k < n.final.length
  case neg =>
    have : k = n.final.length := by omega
    subst this
    rw [List.take_length]
    simp (decide := true) [int, ints, u32]
  have hlt' : (k : Int) < n.final.length := by omega
  have hsn : finalS (n.final.take (k + 1)) = withS (finalS (n.final.take k)) n.final[k] := by unfold finalS; rw [take_snocG hlt, List.foldl_append]; rfl
  have hm8 : finalS (n.final.take k) < 8 := finalS_lt _ 0 (fun x hx => hf x (List.mem_of_mem_take hx)) (by omega)
  have hq := hf n.final[k] (List.getElem_mem hlt)
  obtain ⟨c, ec⟩ : ∃ c, n.final[k] = c := ⟨_, rfl⟩
  have e1 : n.final[k]? = some c := by rw [List.getElem?_eq_getElem hlt, ec]
  rw [ec] at hsn hq
  generalize finalS (n.final.take k) = m at hsn hm8
  have hA := setWith_ok m c hm8 hq.1 hq.2
  simp (decide := true) [int, ints, u32, Nett.cells, hlt, hlt', e1, ec, I64]
  refine ECall.pure (by rfl) hA (by simp [u32, int, Nett.cells]) ?_
  simp (decide := true) [int, ints, u32, Nett.cells, I64]
  exact ⟨⟨by omega, by omega⟩, k + 1, hlt, by omega, by rw [hsn], by omega⟩
def NetOk (n : Nett) : Prop := StepsOk n.steps ∧ (∀ q ∈ n.final, 0 ≤ q ∧ q < 3) ∧ n.steps.length < 2^40 ∧ n.final.length < 2^40
theorem and_bits : ∀ (a b : Fin 8), (bitsD .and .u32 (a.val : Int) (b.val : Int)) = ((a.val &&& b.val : Nat) : Int) := by decide +kernel
def acceptsS (n : Nett) (cs : List Int) : Bool := decide (runS n.steps cs &&& finalS n.final ≠ 0)
theorem accepts_ok (n : Nett) (hn : NetOk n) (cs : List Int) (hc : cs.length < 2^40) : PureR Tryz.prog 100 [.agg n.cells, ints cs] (.bool (acceptsS n cs)) := by
  obtain ⟨h1, h2, h3, h4⟩ := hn
  have w1 := run23_ok n h1 h3 cs hc
  have w2 := final23_ok n h2 h4
  have l1 : runS n.steps cs < 8 := runS_lt h1 cs 1 (by omega)
  have l2 : finalS n.final < 8 := finalS_lt _ 0 h2 (by omega)
  unfold acceptsS
  generalize runS n.steps cs = a at w1 l1 ⊢
  generalize finalS n.final = b at w2 l2 ⊢
  have hb := and_bits ⟨a, l1⟩ ⟨b, l2⟩
  simp only at hb
  refine pure_of_body mixed Tryz.func100 rfl call_100 ?_
  simp (decide := true) [Tryz.f100, Nett.cells, int, ints]
  refine scall_pure (by rfl) (by rfl) w1 (by simp [u32, int, Nett.cells]) ?_
  simp (decide := true) [int, ints, u32, Nett.cells, I64]
  refine scall_pure (by rfl) (by rfl) w2 (by simp [u32, int, Nett.cells]) ?_
  simp (decide := true) [int, ints, u32, Nett.cells, I64, hb]
/-! an entry by its Id -/
def idxE (l : List Ent) (id : Int) : Int := match l.findIdx? (·.id = id) with
  | some k => k
  | none => -1
theorem getF1_ok (e : Ent) (id : Int) : PureR Tryz.prog 144 [.agg e.row, .ptr [int id]] (.bool (decide (e.id = id))) := by
  refine pure_of_body mixed Tryz.func144 rfl call_144 ?_
  simp (decide := true) [Tryz.f144, Ent.row, int]
theorem indexE_ok (l : List Ent) (id : Int) (hl : l.length < 2^62) : PureR Tryz.prog 143 [lexD l, .fn 144 [.ptr [int id]]] (int (findE l id)) := by
  refine pure_of_body mixed Tryz.func143 rfl call_143 ?_
  simp [Tryz.f143, lexD]
  refine loop_rule mixed (fun k : Nat => { n := 19, next := 0, slots := [(0, .d (lexD l)), (1, .d (.fn 144 [.ptr [int id]])), (6, .d (lexD l)), (7, .d (.int .i64 l.length)), (8, .d (.int .i64 k))], own := [] })
    (fun k => k ≤ l.length ∧ ∀ e ∈ l.take k, e.id ≠ id) (fun k => l.length - k) 0 (by simp) (by simp [lexD]) ?_
  intro k ⟨hk, hp⟩
  by_cases hlt : k < l.length
  · have hlt' : (k : Int) < l.length := by omega
    obtain ⟨e, ee⟩ : ∃ e, l[k] = e := ⟨_, rfl⟩
    have e1 : l[k]? = some e := by rw [List.getElem?_eq_getElem hlt, ee]
    simp (decide := true) [lexD, Ent.row, int, e1, ee, hlt, hlt', I64]
    refine ECall.pure (by rfl) (getF1_ok e id) (by simp [Ent.row, int]) ?_
    by_cases he : e.id = id
    · have := findE_hit hlt hp (by rw [ee]; exact he)
      simp (decide := true) [lexD, int, he, I64, findE, this]
    · simp (decide := true) [lexD, int, he, I64]
      exact ⟨⟨by omega, by omega⟩, k + 1, ⟨hlt, take_all hlt hp (by rw [ee]; exact he)⟩, by omega, by omega⟩
  · have : k = l.length := by omega
    subst this
    simp (decide := true) [lexD, int]
    simp [findE, findE_miss (by simpa using hp)]
theorem findE_get (l : List Ent) (id : Int) : (findE l id < 0 ∧ getE l id = (Ent.zero, false)) ∨ ∃ k : Nat, ∃ h : k < l.length, findE l id = k ∧ getE l id = (l[k], true) := by
  unfold findE getE
  cases h : l.findIdx? (·.id = id) with
  | none =>
    left
    rw [List.findIdx?_eq_none_iff] at h
    have : l.find? (·.id = id) = none := by rw [List.find?_eq_none]; intro x hx; simpa using h x hx
    rw [this]
    exact ⟨by simp, rfl⟩
  | some k =>
    right
    rw [List.findIdx?_eq_some_iff_getElem] at h
    obtain ⟨h1, h2, h3⟩ := h
    refine ⟨k, h1, rfl, ?_⟩
    have : l.find? (·.id = id) = some l[k] := by
      rw [List.find?_eq_some_iff_getElem]
      exact ⟨h2, k, h1, rfl, fun j hj => by simpa using h3 j hj⟩
    rw [this]
theorem lexGet_ok (l : List Ent) (id : Int) (hl : l.length < 2^40) : PureR Tryz.prog 99 [lexD l, int id] (.tup [.agg (getE l id).1.row, .bool (getE l id).2]) := by
  refine pure_of_body mixed Tryz.func99 rfl call_99 ?_
  simp (decide := true) [Tryz.f99, lexD, int]
  refine ECall.pure (by rfl) (indexE_ok l id (by omega)) (fun _ => rfl) ?_
  rcases findE_get l id with ⟨h1, h2⟩ | ⟨k, hk, h1, h2⟩
  · rw [h2]
    simp (decide := true) [lexD, int, h1, Ent.zero, Ent.row, ints, listsD, sensD, lnkD, rfD]
  · rw [h2, h1]
    have hk0 : ¬ (k : Int) < 0 := by omega
    have hk' : (k : Int) < l.length := by omega
    simp (decide := true) [lexD, int, hk0, hk, hk', Ent.row, ints, listsD, sensD, lnkD, rfD]
end Go.V

/- Contract of chapter 27: the senses of an entry, or those of its main entries, by the program. -/
import Derived.Test.YtgglheknmlfghaaGreatG2
set_option linter.unusedSimpArgs false
set_option linter.unusedVariables false
set_option maxRecDepth 10000
namespace Go.V
open Go Go.Proofs

/-- The first senses on the way of an entry. -/
def wayR (l : List Ent) : Nat → Int → Option (List Sens)
  | 0, _ => none
  | f + 1, id => if (getE l id).2 = true then (if (getE l id).1.senses ≠ [] then some (getE l id).1.senses else if (getE l id).1.main = 0 then none else wayR l f (getE l id).1.main) else none
def sensesE (l : List Ent) (id : Int) : List Sens := (wayR l (l.length + 1) id).getD []
theorem cloneSens_ok (l : List Sens) (hl : l.length < 2^40) : PureR Tryz.prog 139 [sensD l] (sensD l) := by
  refine pure_of_body mixed Tryz.func139 rfl call_139 ?_
  simp (decide := true) [Tryz.f139, sensD, maxLen]
  exact ⟨fun a _ => rfl, by omega, by omega⟩
/-! the loop of variant.Senses over the way -/
def senCells : List Sym := [.junk, .junk, .junk, .junk, .bp 1 0, .junk, .junk, .junk, .fn 163 [.bp 2 0, .bp 3 0], .junk, .junk, .junk, .junk, .junk, .junk, .junk, .junk]
@[simp] theorem senCells_lo : Sym.los 4 senCells := by simp [senCells, Sym.los, Sym.lo]
@[simp] theorem senCells_ren : rens (rho' [0, 1, 2, 3] 5) senCells = senCells := rfl
noncomputable def senRaw (s : LoopState) (pd : Option Code) : Obj' := .raw (.lp #[9] (rAs Tryz.f93) (rBd Tryz.f93) s pd) senCells
noncomputable def senOwn (l : List Ent) (id : Int) : List (Nat × Obj') :=
  [(0, senRaw .ready none), (1, .box 55 [.nils]), (2, .box 34 [.d (lexD l)]), (3, .box 3 [.d (int id)])]
noncomputable def senOwn1 (l : List Ent) (id : Int) (ss : List Sens) : List (Nat × Obj') :=
  [(0, senRaw .done (some .ret)), (1, .box 55 [.d (sensD ss)]), (2, .box 34 [.d (lexD l)]), (3, .box 3 [.d (int id)])]
theorem sen_round0 (l : List Ent) (id : Int) (e : Ent) (he : e.senses = []) :
    RoundC Tryz.prog 0 [.d (.agg e.row)] (senOwn l id) 4 (.d (.bool true)) 4 (senOwn l id) [] := by
  refine round_ev (cells := senCells) (ps := #[9]) (aS := rAs Tryz.f93) (bd := rBd Tryz.f93) rfl (by simp) (by simp [senCells]) (by omega) (by simp [Sym.los, Sym.lo]) ?_
  simp (decide := true) [senOwn, senRaw, senCells, rAs, rBd, theRange, Tryz.f93, Ent.row, int, he, sensD]
theorem sen_round1 (l : List Ent) (id : Int) (e : Ent) (he : e.senses ≠ []) (hl : e.senses.length < 2^40) :
    RoundC Tryz.prog 0 [.d (.agg e.row)] (senOwn l id) 4 (.d (.bool false)) 4 (senOwn1 l id e.senses) [] := by
  refine round_ev (cells := senCells) (ps := #[9]) (aS := rAs Tryz.f93) (bd := rBd Tryz.f93) rfl (by simp) (by simp [senCells]) (by omega) (by simp [Sym.los, Sym.lo]) ?_
  have hC := cloneSens_ok e.senses hl
  have hp : (0 : Int) < e.senses.length := by
    have : e.senses.length ≠ 0 := fun e2 => he (List.eq_nil_of_length_eq_zero e2)
    omega
  simp (decide := true) [senOwn, senOwn1, senRaw, senCells, rAs, rBd, theRange, Tryz.f93, Ent.row, int, he, hp, sensD]
  intro _
  refine ECall.pure (by rfl) hC (by simp [sensD]) ?_
  simp (decide := true) [senOwn, senOwn1, senRaw, senCells, int, sensD]
/-- What is left of the loop's things. -/
noncomputable def senFin : Option (List Sens) → List (Nat × Obj')
  | none => [(0, senRaw .ready none), (1, .box 55 [.nils])]
  | some ss => [(0, senRaw .done (some .ret)), (1, .box 55 [.d (sensD ss)])]
set_option maxHeartbeats 4000000 in
theorem sen_iter (l : List Ent) (id : Int) (hl : l.length < 2^40) (hs : ∀ e ∈ l, e.senses.length < 2^40) :
    CallC Tryz.prog 163 [.yd 0, .bp 2 0, .bp 3 0] (senOwn l id) 4 (.d (.tup [])) 4 (senFin (wayR l (l.length + 1) id)) [] := by
  refine CallC.unitX (callC_of_body mixed Tryz.func163 rfl call_163 (by simp [Sym.los, Sym.lo]) ?_)
  simp (decide := true) [Tryz.f163, senOwn, lexD, int, I64]
  refine ⟨⟨by omega, by omega⟩, ?_⟩
  refine loop_ruleT mixed (fun x : Nat × Int => { n := 33, next := 4, base := 4, slots := [(0, .yd 0), (1, .bp 2 0), (2, .bp 3 0), (8, .d (int (l.length + 1))), (9, .d (int x.1))], own := senOwn l x.2 })
    (fun x => x.1 ≤ l.length + 1 ∧ wayR l (l.length + 1 - x.1) x.2 = wayR l (l.length + 1) id) (fun x => l.length + 1 - x.1) (0, id) (by simp) (by simp (decide := true) [int, lexD, senOwn, senRaw]) ?_
  rintro ⟨k, i⟩ ⟨hk, hw⟩
  simp only at hk hw
  refine triple_of_evX ?_
  by_cases hlt : k < l.length + 1
  case neg =>
    have : k = l.length + 1 := by omega
    subst this
    rw [Nat.sub_self] at hw
    rw [← hw]
    simp (decide := true) [int, lexD, senOwn, senRaw, wayR, senFin]
  have hlt' : (k : Int) < l.length + 1 := by omega
  rw [show l.length + 1 - k = (l.length - k) + 1 by omega, wayR] at hw
  have hG := lexGet_ok l i hl
  have hmem : (getE l i).2 = true → (getE l i).1 ∈ l := by
    rcases findE_get l i with ⟨_, h2⟩ | ⟨j, hj, _, h2⟩
    · rw [h2]; intro h; cases h
    · rw [h2]; intro _; exact List.getElem_mem hj
  generalize getE l i = g at hw hG hmem
  obtain ⟨e, ok⟩ := g
  simp only at hw hG hmem
  simp (decide := true) [int, lexD, senOwn, senRaw, hlt, hlt']
  refine ECall.pure (by rfl) hG (by simp [lexD, int]) ?_
  cases ok with
  | false =>
    simp only [Bool.false_eq_true, if_false] at hw
    rw [← hw]
    simp (decide := true) [int, lexD, senOwn, senRaw, senFin, Ent.row, hlt, hlt']
  | true =>
    simp only [if_true] at hw
    have hem := hmem rfl
    by_cases hes : e.senses = []
    · have hR := sen_round0 l i e hes
      rw [if_neg (by simp [hes])] at hw
      simp (decide := true) [int, lexD, senOwn, senRaw, Ent.row, hlt, hlt']
      refine EYield.to 0 [0, 1, 2, 3] [.d (.agg e.row)] (senOwn l i) (by simp [rho]) (by simp [Ent.row, int]) (by simp [Sym.los, Sym.lo]) (by simp [senOwn, senRaw, senCells, lexD, int]; rfl) hR ?_
      by_cases hm0 : e.main = 0
      · rw [if_pos hm0] at hw
        rw [← hw]
        simp (decide := true) [int, lexD, senOwn, senRaw, senFin, Ent.row, hlt, hlt', hm0]
      · rw [if_neg hm0] at hw
        simp (decide := true) [int, lexD, senOwn, senRaw, senFin, Ent.row, hlt, hlt', hm0]
        exact ⟨by unfold I64; omega, k + 1, e.main, ⟨by omega, by rw [show l.length + 1 - (k + 1) = l.length - k by omega]; exact hw⟩, by omega, by omega, rfl⟩
    · have hR := sen_round1 l i e hes (hs e hem)
      rw [if_pos hes] at hw
      rw [← hw]
      simp (decide := true) [int, lexD, senOwn, senRaw, Ent.row, hlt, hlt']
      refine EYield.to 0 [0, 1, 2, 3] [.d (.agg e.row)] (senOwn l i) (by simp [rho]) (by simp [Ent.row, int]) (by simp [Sym.los, Sym.lo]) (by simp [senOwn, senRaw, senCells, lexD, int]; rfl) hR ?_
      simp (decide := true) [int, lexD, senOwn1, senRaw, senFin, Ent.row, hlt, hlt']
theorem way_ok (l : List Ent) (id : Int) : CallC Tryz.prog 138 [.d (lexD l), .d (int id)] [] 0 (.fn 163 [.bp 0 0, .bp 1 0]) 2 [(0, .box 34 [.d (lexD l)]), (1, .box 3 [.d (int id)])] [] := by
  refine callC_of_body mixed Tryz.func138 rfl call_138 (by simp [Sym.los, Sym.lo]) ?_
  simp (decide := true) [Tryz.f138, lexD, int]
set_option maxHeartbeats 2000000 in
theorem senses_ok (l : List Ent) (id : Int) (hl : l.length < 2^40) (hs : ∀ e ∈ l, e.senses.length < 2^40) : PureR Tryz.prog 93 [lexD l, int id] (sensD (sensesE l id)) := by
  refine pureN_of_bodyN Tryz.func93 rfl call_93 ?_
  refine cutN_ev mixed 1 { n := 17, next := 1, slots := [(0, .d (lexD l)), (1, .d (int id)), (4, .bp 0 0)], own := [(0, .box 55 [.nils])] } rfl ?_ ?_
  · simp (decide := true) [Tryz.f93, headC, lexD, int]
  simp only [tailC]
  refine tripleN_seqR (cutN_ev mixed 1 { n := 17, next := 3, slots := [(4, .bp 0 0), (8, .fn 163 [.bp 1 0, .bp 2 0])], own := [(0, .box 55 [.nils]), (1, .box 34 [.d (lexD l)]), (2, .box 3 [.d (int id)])] } rfl ?_ ?_)
  · simp (decide := true) [headC, lexD, int]
    refine ECall.mut [] [.d (lexD l), .d (int id)] [] (by rfl) (by simp [lexD, int]) (by simp) (by simp) (way_ok l id) ?_
    simp (decide := true) [lexD, int]
  simp only [tailC]
  refine tripleN_block (tripleN_range (k := 0) (ids := [3, 0, 1, 2]) (args0 := [.yd 0, .bp 2 0, .bp 3 0]) (own0 := senOwn l id) (by rfl) (by simp [rho]) (by simp) (by simp [Sym.los, Sym.lo]) ?_ (sen_iter l id hl hs) ?_)
  · simp (decide := true) [senOwn, senRaw, senCells, rAs, rBd, theRange, Tryz.f93, int, lexD]
  · unfold sensesE
    cases wayR l (l.length + 1) id with
    | none =>
      simp (decide := true) [senFin, senRaw, int, lexD, sensD]
    | some ss =>
      simp (decide := true) [senFin, senRaw, int, lexD]
end Go.V

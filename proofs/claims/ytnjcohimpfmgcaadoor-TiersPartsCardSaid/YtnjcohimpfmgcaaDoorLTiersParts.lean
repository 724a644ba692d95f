/- 'TiersParts' of chapter 12: whatever the arguments, the law returns true, the arguments read as before. -/
import Derived.Test.YtnjcohimpfmgcaaDoorRows
import Derived.WalkKit
import Derived.ProofKit
import Derived.OpenShut
import Derived.ShutString
import Derived.ChangeOld
import Derived.Below
import Derived.Lay
import Derived.LaidOnce
import Derived.SevenTiedAt
import Derived.Test.YtnjcohimpfmgcaaDoorTie
import Derived.Test.YtnjcohimpfmgcaaDoorCards
import Derived.Test.YtnjcohimpfmgcaaDoorM10
import Derived.Test.YtnjcohimpfmgcaaDoorM2
import Derived.Test.YtnjcohimpfmgcaaDoorM8
import Derived.Test.YtnjcohimpfmgcaaDoorM3
namespace Go.Proofs.YtnjcohimpfmgcaaDoor
open Go.ChangeShapes Go.WideShapes Go.ChangeAt Go.RowKit Go.V
open Go.ChangeMaps (open_string shut_string)
set_option linter.unusedVariables false
set_option maxRecDepth 100000

theorem own : ownKnob Tryd.prog.godebug = none := by kernel_rfl
theorem laidOut : laidOutB Tryd.prog = true := by kernel_rfl
theorem shapes_doc : shapes Tryd.prog 8 32 = some docSh := by kernel_rfl

theorem walk {xs : List D} (hb : ∀ dc r, xs = docD dc :: r → dc.lim) (h : FitArgs Tryd.prog 8 [32] xs) : PureR Tryd.prog 10 xs (.bool true) := by
  simp only [FitArgs] at h
  obtain ⟨d0, r0, rfl, h0, rfl⟩ := h
  unfold FitT at h0
  rw [Tryd.underlying32] at h0
  obtain ⟨l0, s0, rfl, hs0, h0⟩ := h0
  rw [shapes_doc] at hs0
  cases hs0
  obtain ⟨x0, e0, g0⟩ := doc_decode h0
  rw [e0]
  exact law_parts x0 (hb x0 _ (by rw [e0]))

theorem lifted (os : Os) (started : os.Started) (H : Type) (enc : TypeId × Value → H) :
    ReturnsInHanded {} Tryd.checked os 10 .any (fun w args => (Rows.tiersPartsSpec.pre enc Tryd.prog Tryd.f10 [] false w args ∧ laidMetH Tryd.prog laidU w) ∧ sizedMet enc Tryd.prog Tryd.f10 (OpenSpec.ofChange Rows.tiersPartsSpec) false w args) (Rows.tiersPartsSpec.post enc Tryd.prog Tryd.f10 false true false false) := by
  refine returnsInHanded_of_change_and (C := Tryd.checked) (X := fun w _ => laidMetH Tryd.prog laidU w) (fun _ _ _ hh h => h.of_heap hh) own started (by kernel_rfl) Tryd.func10
    (ChangeSpec.witness_shaped (enc := enc) (C := Tryd.checked) (os := os) (X := fun w _ => laidMetH Tryd.prog laidU w) false (World.laidAll Tryd.prog os laidU) #[.agg #[.int .i64 0, .string ⟨#[]⟩, .int .i64 0, .int .i64 0, .slice none 0 0, .slice none 0 0, .slice none 0 0]] 8 (World.laidAll_os _ _ _)
      (World.shaped_of_ZipB (by kernel_rfl) (by kernel_rfl)) (by kernel_rfl) (by kernel_rfl) (by kernel_rfl)
      (by rw [MakeChecks.laidMetH_plain _ _ _ (by kernel_rfl)]; exact laidMet_laidAll _ (by kernel_rfl) (by kernel_rfl))) ?_
  intro W base args ds gs before hval0 hW hcnd hwt hL _
  rw [MakeChecks.laidMetH_plain _ _ _ (by kernel_rfl)] at hL
  have hval : ∀ (j : Nat) t v, Tryd.f10.params[j]? = some t → args[j]? = some v → Value.okWide Tryd.prog W .any base t v := hval0
  have hW' := hW
  obtain ⟨p, q, hA0, hV, rfl, hfz, hnd⟩ := hW
  have hA : DataW.TrodAll enc Tryd.prog W 0 (fun _ => true) true Tryd.f10.params.toList args.toList ds p := hA0
  rw [Tryd.params10] at hA hval
  rw [Tryd.params10] at hwt
  have hA1 := hA
  obtain ⟨v0, vs0, d0, ds0, p0, q0, hargs, rfl, rfl, h0, r0⟩ := trodAll_cons hA1
  obtain ⟨rfl, rfl, rfl⟩ := trodAll_nil r0
  obtain rfl : args = #[v0] := by cases args; simp_all
  obtain ⟨rfl, rfl⟩ := trodVars_none hV
  obtain ⟨xs, hfit, hr⟩ := args_read (n := 8) (P := Tryd.prog) (ts := [32]) (by
    intro t ht
    simp only [List.mem_cons, List.not_mem_nil, or_false] at ht
    subst ht
    · rw [shapes_doc]; rfl
    ) (fun j t v hj hv => hval j t v (by simpa using hj) (by simpa using hv)) hA
  have hb : ∀ dc r, xs = docD dc :: r → dc.lim := by
    rintro dc r rfl
    simp only [Rvals] at hr
    obtain ⟨_, _, e, hr0, _⟩ := hr
    cases e
    refine doc_lim h0 (fun b hb => ?_) hr0
    have := List.all_eq_true.1 hwt b (by simp only [List.cons_append, DataW.weightsEach, List.mem_append]; exact .inl hb)
    simpa using this
  have hc := (walk hb hfit).2 W Ez [v0] ⟨fun _ h => h.elim, glob_of_laid hL⟩ hr
  refine hc.mono fun e W' ⟨v, he, bel, hR⟩ => ?_
  simp only [R] at hR
  subst he; subst hR
  exact ⟨_, rfl, _, _, _, [], _, [], hW', trodAll_mk1 (shut_bool Tryd.underlying4 _), trodAll_below (ts := [32]) laidOut bel (by
    intro t ht
    simp only [List.mem_cons, List.not_mem_nil, or_false] at ht
    subst ht
    · exact ⟨by kernel_rfl, of_decide_eq_true (by kernel_rfl)⟩
    ) hA, rfl, bel.frame _, fun h => by cases h⟩

theorem over : Rows.tiersPartsRow.holds Tryd.pinned (OpenSpec.ofChange Rows.tiersPartsSpec) :=
  OpenClaim.holds_of_wide 10 Tryd.f10 rfl rfl rfl rfl rfl rfl rfl ⟨rfl, rfl, rfl, rfl, rfl⟩ rfl rfl rfl rfl rfl (by kernel_rfl) Tryd.func10 (by kernel_rfl)
    (of_decide_eq_true (by kernel_rfl)) (by unfold Func.isWrapper; first | (rw [if_pos (by decide +kernel)]; kernel_rfl) | (rw [if_neg (by decide +kernel)]; exact ⟨rfl, rfl⟩))
    (fun os started H enc _ => lifted os started H enc)

theorem tiersParts_holds : Rows.TiersPartsCardSaid :=
  Claim7.holds_tied_plain_at .later [] [.data, .pinned] true (true, "5d26ac5ff1923762a82b6366ed188d5e77269d7ca9269ddfb3e6a28dab7faf53") false over (fun _ h => by cases h) (by kernel_rfl) (fun _ h => by cases h) tiersParts_row_tie rfl ⟨rfl, rfl⟩ (by kernel_rfl) rfl
    (fun f fn hf hfn => by
      obtain rfl : f = 10 := Option.some.inj ((show Tryd.prog.funcNamed "langdoc/langdoclaw12.TiersParts" = some 10 by kernel_rfl).symm.trans hf) |>.symm
      obtain rfl : fn = Tryd.f10 := (Option.some.inj (Tryd.func10.symm.trans hfn)).symm
      exact ⟨by kernel_rfl, fun j t ht => by
        rw [Tryd.params10] at ht
        have hm : t ∈ [32] := by simpa using Array.mem_of_getElem? ht
        have hall : ([32].all fun u => !Tryd.prog.wantsStandIn u) = true := by kernel_rfl
        exact (show Tryd.prog.wantsStandIn t = false by simpa using List.all_eq_true.1 hall t hm)⟩)
    (by kernel_rfl)
#print axioms tiersParts_holds
end Go.Proofs.YtnjcohimpfmgcaaDoor

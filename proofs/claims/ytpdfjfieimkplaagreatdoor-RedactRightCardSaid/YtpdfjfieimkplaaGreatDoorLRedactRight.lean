/- 'RedactRight' of chapter 46: whatever the arguments, the law returns true, the arguments read as before. -/
import Derived.Test.YtpdfjfieimkplaaGreatDoorRows
import Derived.WalkKit
import Derived.ProofKit
import Derived.OpenShut
import Derived.ShutString
import Derived.ChangeOld
import Derived.Below
import Derived.Lay
import Derived.LaidOnce
import Derived.SevenTiedAt
import Derived.Test.YtpdfjfieimkplaaGreatDoorTie
import Derived.Test.YtpdfjfieimkplaaGreatDoorCards
import Derived.Test.YtpdfjfieimkplaaGreatDoorM9
import Derived.Test.YtpdfjfieimkplaaGreatDoorM3
namespace Go.Proofs.YtpdfjfieimkplaaGreatDoor
open Go.ChangeShapes Go.WideShapes Go.ChangeAt Go.RowKit Go.V
open Go.ChangeMaps (open_string shut_string)
set_option linter.unusedVariables false
set_option maxRecDepth 100000

theorem own : ownKnob Tryz.prog.godebug = none := by kernel_rfl
theorem laidOut : laidOutB Tryz.prog = true := by kernel_rfl
theorem shapes_doc : shapes Tryz.prog 8 28 = some docSh := by kernel_rfl
theorem shapes_spans : shapes Tryz.prog 8 29 = some [.sl spanSh] := by kernel_rfl

theorem walk {xs : List D} (h : FitArgs Tryz.prog 8 [28, 29] xs) : PureR Tryz.prog 3 xs (.bool true) := by
  simp only [FitArgs] at h
  obtain ⟨d0, r0, rfl, h0, d1, r1, rfl, h1, rfl⟩ := h
  unfold FitT at h0 h1
  rw [Tryz.underlying28] at h0
  rw [Tryz.underlying29] at h1
  obtain ⟨l0, s0, rfl, hs0, h0⟩ := h0
  rw [shapes_doc] at hs0
  cases hs0
  obtain ⟨x0, e0, g0⟩ := doc_decode h0
  rw [e0]
  obtain ⟨s1, hs1, h1⟩ := h1
  rw [shapes_spans] at hs1
  cases hs1
  obtain ⟨x1, rfl, g1⟩ := spans_decode h1
  exact law_right46 x0 x1 (fun t ht => (g0.tiers.2 t ht).1) (fun n hn => (g0.notes.2 n hn).text)

theorem lifted (os : Os) (started : os.Started) (H : Type) (enc : TypeId × Value → H) :
    ReturnsInHanded {} Tryz.checked os 3 .any (fun w args => (Rows.redactRightSpec.pre enc Tryz.prog Tryz.f3 [] false w args ∧ laidMetH Tryz.prog laidU w) ∧ sizedMet enc Tryz.prog Tryz.f3 (OpenSpec.ofChange Rows.redactRightSpec) false w args) (Rows.redactRightSpec.post enc Tryz.prog Tryz.f3 false true false false) := by
  refine returnsInHanded_of_change_and (C := Tryz.checked) (X := fun w _ => laidMetH Tryz.prog laidU w) (fun _ _ _ hh h => h.of_heap hh) own started (by kernel_rfl) Tryz.func3
    (ChangeSpec.witness_shaped (enc := enc) (C := Tryz.checked) (os := os) (X := fun w _ => laidMetH Tryz.prog laidU w) false (World.laidAll Tryz.prog os laidU) #[.agg #[.int .i64 0, .string ⟨#[]⟩, .int .i64 0, .int .i64 0, .slice none 0 0, .slice none 0 0, .slice none 0 0], .slice none 0 0] 8 (World.laidAll_os _ _ _)
      (World.shaped_of_ZipB (by kernel_rfl) (by kernel_rfl)) (by kernel_rfl) (by kernel_rfl) (by kernel_rfl)
      (by rw [MakeChecks.laidMetH_plain _ _ _ (by kernel_rfl)]; exact laidMet_laidAll _ (by kernel_rfl) (by kernel_rfl))) ?_
  intro W base args ds gs before hval0 hW hcnd _ hL _
  rw [MakeChecks.laidMetH_plain _ _ _ (by kernel_rfl)] at hL
  have hval : ∀ (j : Nat) t v, Tryz.f3.params[j]? = some t → args[j]? = some v → Value.okWide Tryz.prog W .any base t v := hval0
  have hW' := hW
  obtain ⟨p, q, hA0, hV, rfl, hfz, hnd⟩ := hW
  have hA : DataW.TrodAll enc Tryz.prog W 0 (fun _ => true) true Tryz.f3.params.toList args.toList ds p := hA0
  rw [Tryz.params3] at hA hval
  have hA1 := hA
  obtain ⟨v0, vs0, d0, ds0, p0, q0, hargs, rfl, rfl, h0, r0⟩ := trodAll_cons hA1
  obtain ⟨v1, vs1, d1, ds1, p1, q1, rfl, rfl, rfl, h1, r1⟩ := trodAll_cons r0
  obtain ⟨rfl, rfl, rfl⟩ := trodAll_nil r1
  obtain rfl : args = #[v0, v1] := by cases args; simp_all
  obtain ⟨rfl, rfl⟩ := trodVars_none hV
  obtain ⟨xs, hfit, hr⟩ := args_read (n := 8) (P := Tryz.prog) (ts := [28, 29]) (by
    intro t ht
    simp only [List.mem_cons, List.not_mem_nil, or_false] at ht
    rcases ht with rfl | rfl
    · rw [shapes_doc]; rfl
    · rw [shapes_spans]; rfl
    ) (fun j t v hj hv => hval j t v (by simpa using hj) (by simpa using hv)) hA
  have hc := (walk hfit).2 W Ez [v0, v1] ⟨fun _ h => h.elim, glob_of_laid hL⟩ hr
  refine hc.mono fun e W' ⟨v, he, bel, hR⟩ => ?_
  simp only [R] at hR
  subst he; subst hR
  exact ⟨_, rfl, _, _, _, [], _, [], hW', trodAll_mk1 (shut_bool Tryz.underlying4 _), trodAll_below (ts := [28, 29]) laidOut bel (by
    intro t ht
    simp only [List.mem_cons, List.not_mem_nil, or_false] at ht
    rcases ht with rfl | rfl
    · exact ⟨by kernel_rfl, of_decide_eq_true (by kernel_rfl)⟩
    · exact ⟨by kernel_rfl, of_decide_eq_true (by kernel_rfl)⟩
    ) hA, rfl, bel.frame _, fun h => by cases h⟩

theorem over : Rows.redactRightRow.holds Tryz.pinned (OpenSpec.ofChange Rows.redactRightSpec) :=
  OpenClaim.holds_of_wide 3 Tryz.f3 rfl rfl rfl rfl rfl rfl rfl ⟨rfl, rfl, rfl, rfl, rfl⟩ rfl rfl rfl rfl rfl (by kernel_rfl) Tryz.func3 (by kernel_rfl)
    (of_decide_eq_true (by kernel_rfl)) (by unfold Func.isWrapper; first | (rw [if_pos (by decide +kernel)]; kernel_rfl) | (rw [if_neg (by decide +kernel)]; exact ⟨rfl, rfl⟩))
    (fun os started H enc _ => lifted os started H enc)

theorem redactRight_holds : Rows.RedactRightCardSaid :=
  Claim7.holds_tied_plain_at .later [] [.data, .pinned] true (true, "8d81e4eb62cf99af1436b1e47e96d41fdef9f5ef1853fb4160836ec9692b0578") false over (fun _ h => by cases h) (by kernel_rfl) (fun _ h => by cases h) redactRight_row_tie rfl ⟨rfl, rfl⟩ (by kernel_rfl) rfl
    (fun f fn hf hfn => by
      obtain rfl : f = 3 := Option.some.inj ((show Tryz.prog.funcNamed "langdoc/langdoclaw46.RedactRight" = some 3 by kernel_rfl).symm.trans hf) |>.symm
      obtain rfl : fn = Tryz.f3 := (Option.some.inj (Tryz.func3.symm.trans hfn)).symm
      exact ⟨by kernel_rfl, fun j t ht => by
        rw [Tryz.params3] at ht
        have hm : t ∈ [28, 29] := by simpa using Array.mem_of_getElem? ht
        have hall : ([28, 29].all fun u => !Tryz.prog.wantsStandIn u) = true := by kernel_rfl
        exact (show Tryz.prog.wantsStandIn t = false by simpa using List.all_eq_true.1 hall t hm)⟩)
    (by kernel_rfl)
#print axioms redactRight_holds
end Go.Proofs.YtpdfjfieimkplaaGreatDoor

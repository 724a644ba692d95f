/- 'DecideStates' of chapter 31: where what it reads is of bulk at most 1,048,576, the law returns true, the arguments read as before. -/
import Derived.Test.YtmpknkjlhapcmaaGreatRows
import Derived.WalkKit
import Derived.ProofKit
import Derived.OpenShut
import Derived.ShutString
import Derived.ChangeOld
import Derived.Below
import Derived.JoinedCond
import Derived.Test.YtmpknkjlhapcmaaGreatMC
namespace Go.Proofs.YtmpknkjlhapcmaaGreat
open Go.ChangeShapes Go.WideShapes Go.ChangeAt Go.RowKit Go.V
open Go.ChangeMaps (open_string shut_string)
set_option linter.unusedVariables false
set_option maxRecDepth 100000

theorem own : ownKnob Tryz.prog.godebug = none := by kernel_rfl
theorem laidOut : laidOutB Tryz.prog = true := by kernel_rfl
theorem shapes_word : shapes Tryz.prog 8 58 = some yc1 := by kernel_rfl

theorem walk {xs : List D} (h : zi6 Tryz.prog 8 [58] xs) (hc : ∀ x ∈ xs, CapT 1048576 x) : zam Tryz.prog 7 xs (.bool true) := by
 simp only [zi6] at h
 obtain ⟨d0, r0, rfl, h0, rfl⟩ := h
 unfold FitT at h0
 rw [Tryz.underlying58] at h0
 obtain ⟨l0, s0, rfl, hs0, h0⟩ := h0
 rw [shapes_word] at hs0
 cases hs0
 obtain ⟨x0, e0⟩ := zr3 h0
 rw [e0] at hc ⊢
 simp only [List.mem_cons, List.not_mem_nil, or_false, forall_eq_or_imp, forall_eq] at hc
 have c0 := hc
 exact zw1 x0 c0

/-! the bulk of what is read -/
theorem bulk_one {H : Type} (d : DataW H) : 1 ≤ Rows.uptoBulk d := by
 cases d with
 | lit l => cases l <;> simp [Rows.uptoBulk]
 | nil => simp [Rows.uptoBulk]
 | ptr d => simp [Rows.uptoBulk]
 | slice elems spare => simp [Rows.uptoBulk]
 | agg parts => simp [Rows.uptoBulk]
 | iface t d => simp [Rows.uptoBulk]
 | map entries => simp [Rows.uptoBulk]
 | held h => simp [Rows.uptoBulk]
theorem bulk_len {H : Type} : ∀ l : List (DataW H), l.length ≤ Rows.uptoBulkAll l
 | [] => Nat.zero_le _
 | x :: r => by have := bulk_one x; have := bulk_len r; simp only [Rows.uptoBulkAll, List.length_cons]; omega
theorem bulk_part {H : Type} {d : DataW H} : ∀ {l : List (DataW H)}, d ∈ l → Rows.uptoBulk d ≤ Rows.uptoBulkAll l
 | [], h => by cases h
 | x :: r, h => by
  simp only [Rows.uptoBulkAll]; rcases List.mem_cons.1 h with e | e
  ·subst e; omega
  ·have := bulk_part e; omega
theorem bulkFn (H : Type) : BulkFn (H := H) Rows.uptoBulk where
 str := fun bytes => by simp only [Rows.uptoBulk]; omega
 sl := fun es rest => by have := bulk_len es; simp only [Rows.uptoBulk]; omega
 el := fun es rest e h => by have := bulk_part h; simp only [Rows.uptoBulk]; omega
 part := fun ps p h => by have := bulk_part h; simp only [Rows.uptoBulk]; omega

theorem contract (H : Type) (enc : TypeId × Value → H) (W : World) (base : Nat) (args : Array Value) (ds gs : List (DataW H)) (before : List MemPlace)
  (hval0 : ∀ (j : Nat) t v, Tryz.f7.params[j]? = some t → args[j]? = some v → Value.okWide Tryz.prog W .any base t v)
  (hW : DataW.Whole enc Tryz.prog Tryz.f7.params.toList Rows.decideStatesSpec.vars false W args.toList ds gs before) (hk : Rows.uptoSmall H (ds ++ gs) = true) :
  Calls Tryz.prog 7 args W fun e W' => ∃ v, e = .returned v ∧ Rows.decideStatesSpec.post enc Tryz.prog Tryz.f7 false true false false W args v W' := by
 have hval : ∀ (j : Nat) t v, Tryz.f7.params[j]? = some t → args[j]? = some v → Value.okWide Tryz.prog W .any base t v := hval0
 have hW' := hW
 obtain ⟨p, q, hA0, hV, rfl, hfz, hnd⟩ := hW
 have hA : DataW.TrodAll enc Tryz.prog W 0 (fun _ => true) true Tryz.f7.params.toList args.toList ds p := hA0
 rw [Tryz.params7] at hA hval
 have hA1 := hA
 obtain ⟨v0, vs0, d0, ds0, p0, q0, hargs, rfl, rfl, h0, r0⟩ := trodAll_cons hA1
 obtain ⟨rfl, rfl, rfl⟩ := trodAll_nil r0
 obtain rfl : args = #[v0] := by cases args; simp_all
 obtain ⟨rfl, rfl⟩ := trodVars_none hV
 have hbd : ∀ d ∈ _, Rows.uptoBulk d ≤ 1048576 := fun d hd => Nat.le_trans (bulk_part hd) (of_decide_eq_true hk)
 rw [List.append_nil] at hbd
 obtain ⟨xs, hfit, hcap, hr⟩ := zwc (bulkFn H) (M := 1048576) (n := 8) (P := Tryz.prog) (ts := [58]) (by
  intro t ht; simp only [List.mem_cons, List.not_mem_nil, or_false] at ht; subst ht
  ·rw [shapes_word]; rfl
  ) (fun j t v hj hv => hval j t v (by simpa using hj) (by simpa using hv)) hA hbd
 have hc := (walk hfit hcap).2 W Ez [v0] ⟨fun _ h => h.elim, Glob.of_nil rfl⟩ hr
 refine hc.mono fun e W' ⟨v, he, bel, hR⟩ => ?_
 simp only [R] at hR
 subst he; subst hR
 exact ⟨_, rfl, _, _, _, [], _, [], hW', trodAll_mk1 (shut_bool Tryz.underlying4 _), zh0 (ts := [58]) laidOut bel (by
  intro t ht; simp only [List.mem_cons, List.not_mem_nil, or_false] at ht; subst ht
  ·exact ⟨by kernel_rfl, of_decide_eq_true (by kernel_rfl)⟩
  ) hA, rfl, bel.frame _, fun h => by cases h⟩

theorem lifted (os : Os) (started : os.Started) (H : Type) (enc : TypeId × Value → H) (F : Stop.Interp) :
  ReturnsInHanded {} Tryz.checked os 7 .any ((Rows.OpenSpec.upto Rows.decideStatesSpec).pre6 enc Tryz.prog Tryz.f7 Rows.decideStatesUptoRow.domain false) (((Rows.OpenSpec.upto Rows.decideStatesSpec).at F).post enc Tryz.prog Tryz.f7 false true false false) := by
 refine returnsInHanded_of_cond (C := Tryz.checked) (s := Rows.OpenSpec.upto Rows.decideStatesSpec) (k := Rows.uptoSmall) rfl own started (by kernel_rfl) Tryz.func7
  (OpenSpec.witness (enc := enc) (C := Tryz.checked) (s := Rows.OpenSpec.upto Rows.decideStatesSpec) (k := Rows.uptoSmall) rfl false ⟨#[], #[.agg #[.slice none 0 0, .string ⟨#[]⟩, .slice none 0 0, .slice none 0 0, .slice none 0 0, .int .i64 0, .slice none 0 0, .slice none 0 0, .slice none 0 0, .int .i64 0, .int .i64 0, .string ⟨#[]⟩, .slice none 0 0]], []⟩ 8 (by kernel_rfl) (by kernel_rfl) (by kernel_rfl)
   (x := ([.agg [.agg [.agg [.nil], .agg [.lit (.string []), .nil, .nil], .nil, .agg [.lit (.int .i64 0), .nil, .nil], .nil], .agg [.lit (.int .i64 0), .lit (.int .i64 0)], .lit (.string []), .nil]], [], [])) (by kernel_rfl) rfl (by kernel_rfl)) ?_
 intro W base args ds gs before hval hW _ hk _
 exact contract H enc W base args ds gs before hval hW hk

theorem decideStates_holds : Rows.DecideStatesUptoSaid :=
 OpenClaim.holds_of_cond 7 Tryz.f7 rfl rfl rfl rfl rfl rfl rfl ⟨rfl, rfl, rfl, rfl, rfl⟩ rfl rfl rfl rfl rfl (by kernel_rfl) Tryz.func7 (by kernel_rfl)
  (of_decide_eq_true (by kernel_rfl)) (by unfold Func.isWrapper; first | (rw [if_pos (by decide +kernel)]; kernel_rfl) | (rw [if_neg (by decide +kernel)]; exact ⟨rfl, rfl⟩))
  (fun os started H enc _ F => lifted os started H enc F)
#print axioms decideStates_holds
end Go.Proofs.YtmpknkjlhapcmaaGreat

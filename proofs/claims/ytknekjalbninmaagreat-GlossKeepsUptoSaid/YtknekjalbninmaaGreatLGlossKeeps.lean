/- 'GlossKeeps' of chapter 32: where what it reads is of bulk at most 1,048,576, the law returns true, the arguments read as before. -/
import Derived.Test.YtknekjalbninmaaGreatRows
import Derived.WalkKit
import Derived.ProofKit
import Derived.OpenShut
import Derived.ShutString
import Derived.ChangeOld
import Derived.Below
import Derived.JoinedCond
import Derived.Test.YtknekjalbninmaaGreatMG
namespace Go.Proofs.YtknekjalbninmaaGreat
open Go.ChangeShapes Go.WideShapes Go.ChangeAt Go.RowKit Go.V Go.V.Doc
open Go.ChangeMaps (open_string shut_string)
set_option linter.unusedVariables false
set_option maxRecDepth 100000

theorem own : ownKnob Tryz.prog.godebug = none := by kernel_rfl
theorem laidOut : laidOutB Tryz.prog = true := by kernel_rfl
theorem shapes_doc : shapes Tryz.prog 8 53 = some KZ := by kernel_rfl
theorem shapes_lang : shapes Tryz.prog 8 36 = some BZ := by kernel_rfl
theorem shapes_int : shapes Tryz.prog 8 3 = some [.int .i64] := by kernel_rfl
theorem shapes_ana : shapes Tryz.prog 8 39 = some [.sl Vx] := by kernel_rfl

theorem walk {xs : List D} (h : ZK Tryz.prog 8 [53, 36, 3, 39, 3] xs) (hc : ∀ x ∈ xs, qI 1048576 x) : zj Tryz.prog 10 xs (.bool true) := by
 simp only [ZK] at h
 obtain ⟨d0, r0, rfl, h0, d1, r1, rfl, h1, d2, r2, rfl, h2, d3, r3, rfl, h3, d4, r4, rfl, h4, rfl⟩ := h
 unfold QV at h0 h1 h2 h3 h4
 rw [Tryz.underlying53] at h0
 rw [Tryz.underlying36] at h1
 rw [Tryz.underlying3] at h2
 rw [Tryz.underlying39] at h3
 rw [Tryz.underlying3] at h4
 obtain ⟨l0, s0, rfl, hs0, h0⟩ := h0
 rw [shapes_doc] at hs0
 cases hs0
 obtain ⟨x0, e0⟩ := zch h0
 rw [e0] at hc ⊢
 obtain ⟨l1, s1, rfl, hs1, h1⟩ := h1
 rw [shapes_lang] at hs1
 cases hs1
 obtain ⟨x1, e1⟩ := AU h1
 rw [e1] at hc ⊢
 obtain ⟨s2, hs2, h2⟩ := h2
 rw [shapes_int] at hs2
 cases hs2
 obtain ⟨x2, rfl⟩ := E0 h2
 obtain ⟨l3, s3, rfl, hs3, h3⟩ := h3
 rw [shapes_ana] at hs3
 cases hs3
 obtain ⟨x3, e3⟩ := AX h3
 rw [e3] at hc ⊢
 obtain ⟨s4, hs4, h4⟩ := h4
 rw [shapes_int] at hs4
 cases hs4
 obtain ⟨x4, rfl⟩ := E0 h4
 simp only [List.mem_cons, List.not_mem_nil, or_false, forall_eq_or_imp, forall_eq] at hc
 obtain ⟨c0, c1, c2, c3, c4⟩ := hc
 exact zdn x0 c0 x1 c1 x2 c2 x3 c3 x4 c4

/-! the bulk of what is read -/
theorem bulk_one {H : Type} (d : DataW H) : 1 ≤ Rows.uptoBulk d := by
 cases d with
 | lit l => cases l <;> simp [Rows.uptoBulk]
 | nil => simp [Rows.uptoBulk]
 | ptr d => simp [Rows.uptoBulk]
 | slice elems spare => simp [Rows.uptoBulk]
 | agg parts => simp [Rows.uptoBulk]
 | iface t d => simp [Rows.uptoBulk]
 | map entries => simp [Rows.uptoBulk]
 | held h => simp [Rows.uptoBulk]
theorem bulk_len {H : Type} : ∀ l : List (DataW H), l.length ≤ Rows.uptoBulkAll l
 | [] => Nat.zero_le _
 | x :: r => by have := bulk_one x; have := bulk_len r; simp only [Rows.uptoBulkAll, List.length_cons]; omega
theorem bulk_part {H : Type} {d : DataW H} : ∀ {l : List (DataW H)}, d ∈ l → Rows.uptoBulk d ≤ Rows.uptoBulkAll l
 | [], h => by cases h
 | x :: r, h => by
  simp only [Rows.uptoBulkAll]; rcases List.mem_cons.1 h with e | e
  ·subst e; omega
  ·have := bulk_part e; omega
theorem bulkFn (H : Type) : BulkFn (H := H) Rows.uptoBulk where
 str := fun bytes => by simp only [Rows.uptoBulk]; omega
 sl := fun es rest => by have := bulk_len es; simp only [Rows.uptoBulk]; omega
 el := fun es rest e h => by have := bulk_part h; simp only [Rows.uptoBulk]; omega
 part := fun ps p h => by have := bulk_part h; simp only [Rows.uptoBulk]; omega

theorem contract (H : Type) (enc : TypeId × Value → H) (W : World) (base : Nat) (args : Array Value) (ds gs : List (DataW H)) (before : List MemPlace)
  (hval0 : ∀ (j : Nat) t v, Tryz.f10.params[j]? = some t → args[j]? = some v → Value.okWide Tryz.prog W .any base t v)
  (hW : DataW.Whole enc Tryz.prog Tryz.f10.params.toList Rows.glossKeepsSpec.vars false W args.toList ds gs before) (hk : Rows.uptoSmall H (ds ++ gs) = true) :
  Calls Tryz.prog 10 args W fun e W' => ∃ v, e = .returned v ∧ Rows.glossKeepsSpec.post enc Tryz.prog Tryz.f10 false true false false W args v W' := by
 have hval : ∀ (j : Nat) t v, Tryz.f10.params[j]? = some t → args[j]? = some v → Value.okWide Tryz.prog W .any base t v := hval0
 have hW' := hW
 obtain ⟨p, q, hA0, hV, rfl, hfz, hnd⟩ := hW
 have hA : DataW.TrodAll enc Tryz.prog W 0 (fun _ => true) true Tryz.f10.params.toList args.toList ds p := hA0
 rw [Tryz.params10] at hA hval
 have hA1 := hA
 obtain ⟨v0, vs0, d0, ds0, p0, q0, hargs, rfl, rfl, h0, r0⟩ := trodAll_cons hA1
 obtain ⟨v1, vs1, d1, ds1, p1, q1, rfl, rfl, rfl, h1, r1⟩ := trodAll_cons r0
 obtain ⟨v2, vs2, d2, ds2, p2, q2, rfl, rfl, rfl, h2, r2⟩ := trodAll_cons r1
 obtain ⟨v3, vs3, d3, ds3, p3, q3, rfl, rfl, rfl, h3, r3⟩ := trodAll_cons r2
 obtain ⟨v4, vs4, d4, ds4, p4, q4, rfl, rfl, rfl, h4, r4⟩ := trodAll_cons r3
 obtain ⟨rfl, rfl, rfl⟩ := trodAll_nil r4
 obtain rfl : args = #[v0, v1, v2, v3, v4] := by cases args; simp_all
 obtain ⟨rfl, rfl⟩ := trodVars_none hV
 have hbd : ∀ d ∈ _, Rows.uptoBulk d ≤ 1048576 := fun d hd => Nat.le_trans (bulk_part hd) (of_decide_eq_true hk)
 rw [List.append_nil] at hbd
 obtain ⟨xs, hfit, hcap, hr⟩ := Da (bulkFn H) (M := 1048576) (n := 8) (P := Tryz.prog) (ts := [53, 36, 3, 39, 3]) (by
  intro t ht; simp only [List.mem_cons, List.not_mem_nil, or_false] at ht; rcases ht with rfl | rfl | rfl | rfl | rfl
  ·rw [shapes_doc]; rfl
  ·rw [shapes_lang]; rfl
  ·rw [shapes_int]; rfl
  ·rw [shapes_ana]; rfl
  ·rw [shapes_int]; rfl
  ) (fun j t v hj hv => hval j t v (by simpa using hj) (by simpa using hv)) hA hbd
 have hc := (walk hfit hcap).2 W Ez [v0, v1, v2, v3, v4] ⟨fun _ h => h.elim, Glob.of_nil rfl⟩ hr
 refine hc.mono fun e W' ⟨v, he, bel, hR⟩ => ?_
 simp only [R] at hR
 subst he; subst hR
 exact ⟨_, rfl, _, _, _, [], _, [], hW', trodAll_mk1 (shut_bool Tryz.underlying4 _), FI (ts := [53, 36, 3, 39, 3]) laidOut bel (by
  intro t ht; simp only [List.mem_cons, List.not_mem_nil, or_false] at ht; rcases ht with rfl | rfl | rfl | rfl | rfl
  ·exact ⟨by kernel_rfl, of_decide_eq_true (by kernel_rfl)⟩
  ·exact ⟨by kernel_rfl, of_decide_eq_true (by kernel_rfl)⟩
  ·exact ⟨by kernel_rfl, of_decide_eq_true (by kernel_rfl)⟩
  ·exact ⟨by kernel_rfl, of_decide_eq_true (by kernel_rfl)⟩
  ·exact ⟨by kernel_rfl, of_decide_eq_true (by kernel_rfl)⟩
  ) hA, rfl, bel.frame _, fun h => by cases h⟩

theorem lifted (os : Os) (started : os.Started) (H : Type) (enc : TypeId × Value → H) (F : Stop.Interp) :
  ReturnsInHanded {} Tryz.checked os 10 .any ((Rows.OpenSpec.upto Rows.glossKeepsSpec).pre6 enc Tryz.prog Tryz.f10 Rows.glossKeepsUptoRow.domain false) (((Rows.OpenSpec.upto Rows.glossKeepsSpec).at F).post enc Tryz.prog Tryz.f10 false true false false) := by
 refine returnsInHanded_of_cond (C := Tryz.checked) (s := Rows.OpenSpec.upto Rows.glossKeepsSpec) (k := Rows.uptoSmall) rfl own started (by kernel_rfl) Tryz.func10
  (OpenSpec.witness (enc := enc) (C := Tryz.checked) (s := Rows.OpenSpec.upto Rows.glossKeepsSpec) (k := Rows.uptoSmall) rfl false ⟨#[], #[.agg #[.int .i64 0, .string ⟨#[]⟩, .int .i64 0, .int .i64 0, .slice none 0 0, .slice none 0 0, .slice none 0 0], .agg #[.slice none 0 0, .string ⟨#[]⟩, .slice none 0 0, .slice none 0 0, .slice none 0 0, .int .i64 0, .slice none 0 0, .slice none 0 0, .slice none 0 0], .int .i64 0, .agg #[.slice none 0 0], .int .i64 0], []⟩ 8 (by kernel_rfl) (by kernel_rfl) (by kernel_rfl)
   (x := ([.agg [.agg [.lit (.int .i64 0), .lit (.string []), .lit (.int .i64 0), .lit (.int .i64 0), .nil], .nil, .nil], .agg [.agg [.nil], .agg [.lit (.string []), .nil, .nil], .nil, .agg [.lit (.int .i64 0), .nil, .nil], .nil], .lit (.int .i64 0), .agg [.nil], .lit (.int .i64 0)], [], [])) (by kernel_rfl) rfl (by kernel_rfl)) ?_
 intro W base args ds gs before hval hW _ hk _
 exact contract H enc W base args ds gs before hval hW hk

theorem f_named : (Tryz.pinned).checked.prog.funcNamed Rows.glossKeepsUptoRow.func = some 10 := by kernel_rfl
theorem c_in : (Tryz.pinned).checked.prog.inPlace 10 = Rows.glossKeepsUptoRow.inPlace := by kernel_rfl
theorem c_un : (Tryz.pinned).checked.prog.unfollowed 10 = true := by kernel_rfl
theorem c_re : (Tryz.pinned).checked.prog.recurses 10 = true := by unfold Program.recurses; rw [c_un]; rfl
theorem c_va : (Tryz.pinned).checked.prog.varsNamed 10 = [] := by kernel_rfl
theorem f_closed : joinedFacts (Tryz.pinned).checked.prog 10 Tryz.f10 (Rows.OpenSpec.upto Rows.glossKeepsSpec).bare Rows.glossKeepsUptoRow = true := by
 unfold joinedFacts
 rw [c_in, c_un, c_re, c_va]
 kernel_rfl
theorem f_inst : (Tryz.f10).isInstance (Tryz.pinned).checked.prog Rows.glossKeepsUptoRow.origin Rows.glossKeepsUptoRow.targs := of_decide_eq_true (by kernel_rfl)
theorem f_wrap : (Tryz.f10).isWrapper (Tryz.pinned).checked.prog Rows.glossKeepsUptoRow.wrapper Rows.glossKeepsUptoRow.mainSum := by
 unfold Func.isWrapper; first | (rw [if_pos (by decide +kernel)]; kernel_rfl) | (rw [if_neg (by decide +kernel)]; exact ⟨rfl, rfl⟩)
theorem over : Rows.glossKeepsUptoRow.holds Tryz.pinned (Rows.OpenSpec.upto Rows.glossKeepsSpec) :=
 OpenClaim.holds_of_cond 10 Tryz.f10 (by kernel_rfl) (by kernel_rfl) (by kernel_rfl) (by kernel_rfl) (by kernel_rfl) (by kernel_rfl) (by kernel_rfl) ⟨by kernel_rfl, by kernel_rfl, by kernel_rfl, by kernel_rfl, by kernel_rfl⟩ (by kernel_rfl) (by kernel_rfl) (by kernel_rfl) (by kernel_rfl) (by kernel_rfl) f_named Tryz.func10 f_closed f_inst f_wrap
  (fun os started H enc _ F => lifted os started H enc F)
theorem glossKeeps_holds : Rows.GlossKeepsUptoSaid := over
#print axioms glossKeeps_holds
end Go.Proofs.YtknekjalbninmaaGreat

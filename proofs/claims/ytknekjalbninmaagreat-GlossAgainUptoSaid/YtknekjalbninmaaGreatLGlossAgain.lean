/- 'GlossAgain' of chapter 32: where what it reads is of bulk at most 1,048,576, the law returns true, the arguments read as before. -/
import Derived.Test.YtknekjalbninmaaGreatRows
import Derived.WalkKit
import Derived.ProofKit
import Derived.OpenShut
import Derived.ShutString
import Derived.ChangeOld
import Derived.Below
import Derived.JoinedCond
import Derived.Test.YtknekjalbninmaaGreatMG
namespace Go.Proofs.YtknekjalbninmaaGreat
open Go.ChangeShapes Go.WideShapes Go.ChangeAt Go.RowKit Go.V Go.V.Doc
open Go.ChangeMaps (open_string shut_string)
set_option linter.unusedVariables false
set_option maxRecDepth 100000

theorem own : ownKnob Tryz.prog.godebug = none := by kernel_rfl
theorem laidOut : laidOutB Tryz.prog = true := by kernel_rfl
theorem shapes_doc : shapes Tryz.prog 8 53 = some Fo := by kernel_rfl
theorem shapes_lang : shapes Tryz.prog 8 36 = some ID := by kernel_rfl
theorem shapes_decs : shapes Tryz.prog 8 64 = some [.sl Wt] := by kernel_rfl

theorem walk {xs : List D} (h : YL Tryz.prog 8 [53, 36, 64] xs) (hc : ∀ x ∈ xs, js 1048576 x) (a b : Int) : zl Tryz.prog 11 (xs ++ [.agg [.int .i64 a, .int .i64 b]]) (.bool true) := by
 simp only [YL] at h
 obtain ⟨d0, r0, rfl, h0, d1, r1, rfl, h1, d2, r2, rfl, h2, rfl⟩ := h
 unfold Jd at h0 h1 h2
 rw [Tryz.underlying53] at h0
 rw [Tryz.underlying36] at h1
 rw [Tryz.underlying64] at h2
 obtain ⟨l0, s0, rfl, hs0, h0⟩ := h0
 rw [shapes_doc] at hs0
 cases hs0
 obtain ⟨x0, e0⟩ := zds h0
 rw [e0] at hc ⊢
 obtain ⟨l1, s1, rfl, hs1, h1⟩ := h1
 rw [shapes_lang] at hs1
 cases hs1
 obtain ⟨x1, e1⟩ := zde h1
 rw [e1] at hc ⊢
 obtain ⟨s2, hs2, h2⟩ := h2
 rw [shapes_decs] at hs2
 cases hs2
 obtain ⟨x2, rfl⟩ := zb1 h2
 simp only [List.mem_cons, List.not_mem_nil, or_false, forall_eq_or_imp, forall_eq] at hc
 obtain ⟨c0, c1, c2⟩ := hc
 exact zfr x0 c0 x1 c1 x2 c2 a b

/-! the bulk of what is read -/
theorem bulk_one {H : Type} (d : DataW H) : 1 ≤ Rows.uptoBulk d := by
 cases d with
 | lit l => cases l <;> simp [Rows.uptoBulk]
 | nil => simp [Rows.uptoBulk]
 | ptr d => simp [Rows.uptoBulk]
 | slice elems spare => simp [Rows.uptoBulk]
 | agg parts => simp [Rows.uptoBulk]
 | iface t d => simp [Rows.uptoBulk]
 | map entries => simp [Rows.uptoBulk]
 | held h => simp [Rows.uptoBulk]
theorem bulk_len {H : Type} : ∀ l : List (DataW H), l.length ≤ Rows.uptoBulkAll l
 | [] => Nat.zero_le _
 | x :: r => by have := bulk_one x; have := bulk_len r; simp only [Rows.uptoBulkAll, List.length_cons]; omega
theorem bulk_part {H : Type} {d : DataW H} : ∀ {l : List (DataW H)}, d ∈ l → Rows.uptoBulk d ≤ Rows.uptoBulkAll l
 | [], h => by cases h
 | x :: r, h => by
  simp only [Rows.uptoBulkAll]; rcases List.mem_cons.1 h with e | e
  ·subst e; omega
  ·have := bulk_part e; omega
theorem bulkFn (H : Type) : BulkFn (H := H) Rows.uptoBulk where
 str := fun bytes => by simp only [Rows.uptoBulk]; omega
 sl := fun es rest => by have := bulk_len es; simp only [Rows.uptoBulk]; omega
 el := fun es rest e h => by have := bulk_part h; simp only [Rows.uptoBulk]; omega
 part := fun ps p h => by have := bulk_part h; simp only [Rows.uptoBulk]; omega

theorem contract (H : Type) (enc : TypeId × Value → H) (W : World) (base : Nat) (args : Array Value) (ds gs : List (DataW H)) (before : List MemPlace)
  (hval0 : ∀ (j : Nat) t v, Tryz.f11.params[j]? = some t → args[j]? = some v → Value.okWide Tryz.prog W .any base t v)
  (hW : DataW.Whole enc Tryz.prog Tryz.f11.params.toList Rows.glossAgainSpec.vars false W args.toList ds gs before) (hk : Rows.uptoSmall H (ds ++ gs) = true) :
  Calls Tryz.prog 11 args W fun e W' => ∃ v, e = .returned v ∧ Rows.glossAgainSpec.post enc Tryz.prog Tryz.f11 false true false false W args v W' := by
 have hval : ∀ (j : Nat) t v, Tryz.f11.params[j]? = some t → args[j]? = some v → Value.okWide Tryz.prog W .any base t v := hval0
 have hW' := hW
 obtain ⟨p, q, hA0, hV, rfl, hfz, hnd⟩ := hW
 have hA : DataW.TrodAll enc Tryz.prog W 0 (fun _ => true) true Tryz.f11.params.toList args.toList ds p := hA0
 rw [Tryz.params11] at hA hval
 have hA1 := hA
 obtain ⟨v0, vs0, d0, ds0, p0, q0, hargs, rfl, rfl, h0, r0⟩ := trodAll_cons hA1
 obtain ⟨v1, vs1, d1, ds1, p1, q1, rfl, rfl, rfl, h1, r1⟩ := trodAll_cons r0
 obtain ⟨v2, vs2, d2, ds2, p2, q2, rfl, rfl, rfl, h2, r2⟩ := trodAll_cons r1
 obtain ⟨v3, vs3, d3, ds3, p3, q3, rfl, rfl, rfl, h3, r3⟩ := trodAll_cons r2
 obtain ⟨rfl, rfl, rfl⟩ := trodAll_nil r3
 obtain rfl : args = #[v0, v1, v2, v3] := by cases args; simp_all
 obtain ⟨rfl, rfl⟩ := trodVars_none hV
 have hbd : ∀ d ∈ _, Rows.uptoBulk d ≤ 1048576 := fun d hd => Nat.le_trans (bulk_part hd) (of_decide_eq_true hk)
 rw [List.append_nil] at hbd
 obtain ⟨xs, hfit, hcap, hr⟩ := B8 (bulkFn H) (M := 1048576) (n := 8) (P := Tryz.prog) (ts := [53, 36, 64]) (vs := [v0, v1, v2]) (ds := [d0, d1, d2]) (by
  intro t ht; simp only [List.mem_cons, List.not_mem_nil, or_false] at ht; rcases ht with rfl | rfl | rfl
  ·rw [shapes_doc]; rfl
  ·rw [shapes_lang]; rfl
  ·rw [shapes_decs]; rfl
  ) (fun j t v hj hv => by
   match j, hj, hv with
   | 0, hj, hv => exact hval 0 t v (by simpa using hj) (by simpa using hv)
   | 1, hj, hv => exact hval 1 t v (by simpa using hj) (by simpa using hv)
   | 2, hj, hv => exact hval 2 t v (by simpa using hj) (by simpa using hv)
   | j + 3, hj, hv => simp at hj) (trodAll_cons_mk h0 (trodAll_cons_mk h1 (trodAll_cons_mk h2 rfl))) (fun d hd => hbd d (by simp only [List.mem_cons, List.not_mem_nil, or_false] at hd ⊢; rcases hd with h | h | h <;> simp [h]))
 obtain ⟨a, b, h4⟩ := zmh (hval 3 _ _ (by simp) (by simp)) h3
 have hc := (walk hfit hcap a b).2 W Ez [v0, v1, v2, v3] ⟨fun _ h => h.elim, Glob.of_nil rfl⟩ (Ni hr h4)
 refine hc.mono fun e W' ⟨v, he, bel, hR⟩ => ?_
 simp only [R] at hR
 subst he; subst hR
 exact ⟨_, rfl, _, _, _, [], _, [], hW', trodAll_mk1 (shut_bool Tryz.underlying4 _), Ce (ts := [53, 36, 64, 85]) laidOut bel (by
  intro t ht; simp only [List.mem_cons, List.not_mem_nil, or_false] at ht; rcases ht with rfl | rfl | rfl | rfl
  ·exact ⟨by kernel_rfl, of_decide_eq_true (by kernel_rfl)⟩
  ·exact ⟨by kernel_rfl, of_decide_eq_true (by kernel_rfl)⟩
  ·exact ⟨by kernel_rfl, of_decide_eq_true (by kernel_rfl)⟩
  ·exact ⟨by kernel_rfl, of_decide_eq_true (by kernel_rfl)⟩
  ) hA, rfl, bel.frame _, fun h => by cases h⟩

theorem lifted (os : Os) (started : os.Started) (H : Type) (enc : TypeId × Value → H) (F : Stop.Interp) :
  ReturnsInHanded {} Tryz.checked os 11 .any ((Rows.OpenSpec.upto Rows.glossAgainSpec).pre6 enc Tryz.prog Tryz.f11 Rows.glossAgainUptoRow.domain false) (((Rows.OpenSpec.upto Rows.glossAgainSpec).at F).post enc Tryz.prog Tryz.f11 false true false false) := by
 refine returnsInHanded_of_cond (C := Tryz.checked) (s := Rows.OpenSpec.upto Rows.glossAgainSpec) (k := Rows.uptoSmall) rfl own started (by kernel_rfl) Tryz.func11
  (OpenSpec.witness (enc := enc) (C := Tryz.checked) (s := Rows.OpenSpec.upto Rows.glossAgainSpec) (k := Rows.uptoSmall) rfl false ⟨#[], #[.agg #[.int .i64 0, .string ⟨#[]⟩, .int .i64 0, .int .i64 0, .slice none 0 0, .slice none 0 0, .slice none 0 0], .agg #[.slice none 0 0, .string ⟨#[]⟩, .slice none 0 0, .slice none 0 0, .slice none 0 0, .int .i64 0, .slice none 0 0, .slice none 0 0, .slice none 0 0], .slice none 0 0, .agg #[.int .i64 0, .int .i64 0]], []⟩ 8 (by kernel_rfl) (by kernel_rfl) (by kernel_rfl)
   (x := ([.agg [.agg [.lit (.int .i64 0), .lit (.string []), .lit (.int .i64 0), .lit (.int .i64 0), .nil], .nil, .nil], .agg [.agg [.nil], .agg [.lit (.string []), .nil, .nil], .nil, .agg [.lit (.int .i64 0), .nil, .nil], .nil], .nil, .agg [.lit (.int .i64 0), .lit (.int .i64 0)]], [], [])) (by kernel_rfl) rfl (by kernel_rfl)) ?_
 intro W base args ds gs before hval hW _ hk _
 exact contract H enc W base args ds gs before hval hW hk

theorem f_named : (Tryz.pinned).checked.prog.funcNamed Rows.glossAgainUptoRow.func = some 11 := by kernel_rfl
theorem c_in : (Tryz.pinned).checked.prog.inPlace 11 = Rows.glossAgainUptoRow.inPlace := by kernel_rfl
theorem c_un : (Tryz.pinned).checked.prog.unfollowed 11 = true := by kernel_rfl
theorem c_re : (Tryz.pinned).checked.prog.recurses 11 = true := by unfold Program.recurses; rw [c_un]; rfl
theorem c_va : (Tryz.pinned).checked.prog.varsNamed 11 = [] := by kernel_rfl
theorem f_closed : joinedFacts (Tryz.pinned).checked.prog 11 Tryz.f11 (Rows.OpenSpec.upto Rows.glossAgainSpec).bare Rows.glossAgainUptoRow = true := by
 unfold joinedFacts
 rw [c_in, c_un, c_re, c_va]
 kernel_rfl
theorem f_inst : (Tryz.f11).isInstance (Tryz.pinned).checked.prog Rows.glossAgainUptoRow.origin Rows.glossAgainUptoRow.targs := of_decide_eq_true (by kernel_rfl)
theorem f_wrap : (Tryz.f11).isWrapper (Tryz.pinned).checked.prog Rows.glossAgainUptoRow.wrapper Rows.glossAgainUptoRow.mainSum := by
 unfold Func.isWrapper; first | (rw [if_pos (by decide +kernel)]; kernel_rfl) | (rw [if_neg (by decide +kernel)]; exact ⟨rfl, rfl⟩)
theorem over : Rows.glossAgainUptoRow.holds Tryz.pinned (Rows.OpenSpec.upto Rows.glossAgainSpec) :=
 OpenClaim.holds_of_cond 11 Tryz.f11 (by kernel_rfl) (by kernel_rfl) (by kernel_rfl) (by kernel_rfl) (by kernel_rfl) (by kernel_rfl) (by kernel_rfl) ⟨by kernel_rfl, by kernel_rfl, by kernel_rfl, by kernel_rfl, by kernel_rfl⟩ (by kernel_rfl) (by kernel_rfl) (by kernel_rfl) (by kernel_rfl) (by kernel_rfl) f_named Tryz.func11 f_closed f_inst f_wrap
  (fun os started H enc _ F => lifted os started H enc F)
theorem glossAgain_holds : Rows.GlossAgainUptoSaid := over
#print axioms glossAgain_holds
end Go.Proofs.YtknekjalbninmaaGreat

/- 'GlossAlls' of chapter 32: where what it reads is of bulk at most 1,048,576, the law returns true, the arguments read as before. -/
import Derived.Test.YtknekjalbninmaaGreatRows
import Derived.WalkKit
import Derived.ProofKit
import Derived.OpenShut
import Derived.ShutString
import Derived.ChangeOld
import Derived.Below
import Derived.JoinedCond
import Derived.Test.YtknekjalbninmaaGreatMG
namespace Go.Proofs.YtknekjalbninmaaGreat
open Go.ChangeShapes Go.WideShapes Go.ChangeAt Go.RowKit Go.V Go.V.Doc
open Go.ChangeMaps (open_string shut_string)
set_option linter.unusedVariables false
set_option maxRecDepth 100000

theorem own : ownKnob Tryz.prog.godebug = none := by kernel_rfl
theorem lW : laidOutB Tryz.prog = true := by kernel_rfl
theorem gz : cE Tryz.prog 8 53 = some CN := by kernel_rfl
theorem fQ : cE Tryz.prog 8 36 = some O7 := by kernel_rfl
theorem fL : cE Tryz.prog 8 64 = some [.sl KN] := by kernel_rfl
theorem gM : cE Tryz.prog 8 3 = some [.int .i64] := by kernel_rfl

theorem walk {xs : List D} (h : XL Tryz.prog 8 [53, 36, 64, 3] xs) (hc : ∀ x ∈ xs, jK 1048576 x) : aq Tryz.prog 7 xs (.bool true) := by
 simp only [XL] at h
 obtain ⟨d0, r0, rfl, h0, d1, r1, rfl, h1, d2, r2, rfl, h2, d3, r3, rfl, h3, rfl⟩ := h
 unfold W6 at h0 h1 h2 h3
 rw [Tryz.underlying53] at h0
 rw [Tryz.underlying36] at h1
 rw [Tryz.underlying64] at h2
 rw [Tryz.underlying3] at h3
 obtain ⟨l0, s0, rfl, hs0, h0⟩ := h0
 rw [gz] at hs0
 cases hs0
 obtain ⟨x0, e0⟩ := ze3 h0
 rw [e0] at hc ⊢
 obtain ⟨l1, s1, rfl, hs1, h1⟩ := h1
 rw [fQ] at hs1
 cases hs1
 obtain ⟨x1, e1⟩ := zek h1
 rw [e1] at hc ⊢
 obtain ⟨s2, hs2, h2⟩ := h2
 rw [fL] at hs2
 cases hs2
 obtain ⟨x2, rfl⟩ := zcp h2
 obtain ⟨s3, hs3, h3⟩ := h3
 rw [gM] at hs3
 cases hs3
 obtain ⟨x3, rfl⟩ := zrr h3
 simp only [List.mem_cons, List.not_mem_nil, or_false, forall_eq_or_imp, forall_eq] at hc
 obtain ⟨c0, c1, c2, c3⟩ := hc
 exact zlw x0 c0 x1 c1 x2 c2 x3 c3

/-! the bulk of what is read -/
theorem lG {H : Type} (d : DataW H) : 1 ≤ Rows.uptoBulk d := by
 cases d with
 | lit l => cases l <;> simp [Rows.uptoBulk]
 | nil => simp [Rows.uptoBulk]
 | ptr d => simp [Rows.uptoBulk]
 | slice elems spare => simp [Rows.uptoBulk]
 | agg parts => simp [Rows.uptoBulk]
 | iface t d => simp [Rows.uptoBulk]
 | map entries => simp [Rows.uptoBulk]
 | held h => simp [Rows.uptoBulk]
theorem iK {H : Type} : ∀ l : List (DataW H), l.length ≤ Rows.uptoBulkAll l
 | [] => Nat.zero_le _
 | x :: r => by have := lG x; have := iK r; simp only [Rows.uptoBulkAll, List.length_cons]; omega
theorem eY {H : Type} {d : DataW H} : ∀ {l : List (DataW H)}, d ∈ l → Rows.uptoBulk d ≤ Rows.uptoBulkAll l
 | [], h => by cases h
 | x :: r, h => by
  simp only [Rows.uptoBulkAll]; rcases List.mem_cons.1 h with e | e
  ·subst e; omega
  ·have := eY e; omega
theorem mE (H : Type) : iE (H := H) Rows.uptoBulk where
 str := fun bytes => by simp only [Rows.uptoBulk]; omega
 sl := fun es aC => by have := iK es; simp only [Rows.uptoBulk]; omega
 el := fun es aC e h => by have := eY h; simp only [Rows.uptoBulk]; omega
 part := fun ps p h => by have := eY h; simp only [Rows.uptoBulk]; omega

theorem lD (H : Type) (cv : TypeId × Value → H) (W : World) (ai : Nat) (args : Array Value) (ds gs : List (DataW H)) (di : List MemPlace)
  (hval0 : ∀ (j : Nat) t v, Tryz.f7.params[j]? = some t → args[j]? = some v → Value.okWide Tryz.prog W .any ai t v)
  (hW : DataW.Whole cv Tryz.prog Tryz.f7.params.toList Rows.glossAllsSpec.vars false W args.toList ds gs di) (hk : Rows.uptoSmall H (ds ++ gs) = true) :
  Calls Tryz.prog 7 args W fun e W' => ∃ v, e = .returned v ∧ Rows.glossAllsSpec.post cv Tryz.prog Tryz.f7 false true false false W args v W' := by
 have hval : ∀ (j : Nat) t v, Tryz.f7.params[j]? = some t → args[j]? = some v → Value.okWide Tryz.prog W .any ai t v := hval0
 have hW' := hW
 obtain ⟨p, q, hA0, hV, rfl, hfz, hnd⟩ := hW
 have hA : DataW.TrodAll cv Tryz.prog W 0 (fun _ => true) true Tryz.f7.params.toList args.toList ds p := hA0
 rw [Tryz.params7] at hA hval
 have hA1 := hA
 obtain ⟨v0, vs0, d0, ds0, p0, q0, hargs, rfl, rfl, h0, r0⟩ := trodAll_cons hA1
 obtain ⟨v1, vs1, d1, ds1, p1, q1, rfl, rfl, rfl, h1, r1⟩ := trodAll_cons r0
 obtain ⟨v2, vs2, d2, ds2, p2, q2, rfl, rfl, rfl, h2, r2⟩ := trodAll_cons r1
 obtain ⟨v3, vs3, d3, ds3, p3, q3, rfl, rfl, rfl, h3, r3⟩ := trodAll_cons r2
 obtain ⟨rfl, rfl, rfl⟩ := trodAll_nil r3
 obtain rfl : args = #[v0, v1, v2, v3] := by cases args; simp_all
 obtain ⟨rfl, rfl⟩ := trodVars_none hV
 have hbd : ∀ d ∈ _, Rows.uptoBulk d ≤ 1048576 := fun d hd => Nat.le_trans (eY hd) (of_decide_eq_true hk)
 rw [List.append_nil] at hbd
 obtain ⟨xs, hfit, hcap, hr⟩ := H4 (mE H) (M := 1048576) (n := 8) (P := Tryz.prog) (ts := [53, 36, 64, 3]) (by
  intro t ht; simp only [List.mem_cons, List.not_mem_nil, or_false] at ht; rcases ht with rfl | rfl | rfl | rfl
  ·rw [gz]; rfl
  ·rw [fQ]; rfl
  ·rw [fL]; rfl
  ·rw [gM]; rfl
  ) (fun j t v hj hv => hval j t v (by simpa using hj) (by simpa using hv)) hA hbd
 have hc := (walk hfit hcap).2 W Ez [v0, v1, v2, v3] ⟨fun _ h => h.elim, fW.mA rfl⟩ hr
 refine hc.mono fun e W' ⟨v, he, bel, hR⟩ => ?_
 simp only [R] at hR
 subst he; subst hR
 exact ⟨_, rfl, _, _, _, [], _, [], hW', trodAll_mk1 (shut_bool Tryz.underlying4 _), En (ts := [53, 36, 64, 3]) lW bel (by
  intro t ht; simp only [List.mem_cons, List.not_mem_nil, or_false] at ht; rcases ht with rfl | rfl | rfl | rfl
  ·exact ⟨by kernel_rfl, of_decide_eq_true (by kernel_rfl)⟩
  ·exact ⟨by kernel_rfl, of_decide_eq_true (by kernel_rfl)⟩
  ·exact ⟨by kernel_rfl, of_decide_eq_true (by kernel_rfl)⟩
  ·exact ⟨by kernel_rfl, of_decide_eq_true (by kernel_rfl)⟩
  ) hA, rfl, bel.frame _, fun h => by cases h⟩

theorem lifted (os : Os) (started : os.Started) (H : Type) (cv : TypeId × Value → H) (F : Stop.Interp) :
  ReturnsInHanded {} Tryz.checked os 7 .any ((Rows.OpenSpec.upto Rows.glossAllsSpec).pre6 cv Tryz.prog Tryz.f7 Rows.glossAllsUptoRow.domain false) (((Rows.OpenSpec.upto Rows.glossAllsSpec).at F).post cv Tryz.prog Tryz.f7 false true false false) := by
 refine returnsInHanded_of_cond (C := Tryz.checked) (s := Rows.OpenSpec.upto Rows.glossAllsSpec) (k := Rows.uptoSmall) rfl own started (by kernel_rfl) Tryz.func7
  (OpenSpec.witness (enc := cv) (C := Tryz.checked) (s := Rows.OpenSpec.upto Rows.glossAllsSpec) (k := Rows.uptoSmall) rfl false ⟨#[], #[.agg #[.int .i64 0, .string ⟨#[]⟩, .int .i64 0, .int .i64 0, .slice none 0 0, .slice none 0 0, .slice none 0 0], .agg #[.slice none 0 0, .string ⟨#[]⟩, .slice none 0 0, .slice none 0 0, .slice none 0 0, .int .i64 0, .slice none 0 0, .slice none 0 0, .slice none 0 0], .slice none 0 0, .int .i64 0], []⟩ 8 (by kernel_rfl) (by kernel_rfl) (by kernel_rfl)
   (x := ([.agg [.agg [.lit (.int .i64 0), .lit (.string []), .lit (.int .i64 0), .lit (.int .i64 0), .nil], .nil, .nil], .agg [.agg [.nil], .agg [.lit (.string []), .nil, .nil], .nil, .agg [.lit (.int .i64 0), .nil, .nil], .nil], .nil, .lit (.int .i64 0)], [], [])) (by kernel_rfl) rfl (by kernel_rfl)) ?_
 intro W ai args ds gs di hval hW _ hk _
 exact lD H cv W ai args ds gs di hval hW hk

theorem ma : (Tryz.pinned).checked.prog.funcNamed Rows.glossAllsUptoRow.func = some 7 := by kernel_rfl
theorem c_in : (Tryz.pinned).checked.prog.inPlace 7 = Rows.glossAllsUptoRow.inPlace := by kernel_rfl
theorem nh : (Tryz.pinned).checked.prog.unfollowed 7 = true := by kernel_rfl
theorem c_re : (Tryz.pinned).checked.prog.recurses 7 = true := by unfold Program.recurses; rw [nh]; rfl
theorem c_va : (Tryz.pinned).checked.prog.varsNamed 7 = [] := by kernel_rfl
theorem lv : joinedFacts (Tryz.pinned).checked.prog 7 Tryz.f7 (Rows.OpenSpec.upto Rows.glossAllsSpec).bare Rows.glossAllsUptoRow = true := by
 unfold joinedFacts
 rw [c_in, nh, c_re, c_va]
 kernel_rfl
theorem mC : (Tryz.f7).isInstance (Tryz.pinned).checked.prog Rows.glossAllsUptoRow.origin Rows.glossAllsUptoRow.targs := of_decide_eq_true (by kernel_rfl)
theorem mF : (Tryz.f7).isWrapper (Tryz.pinned).checked.prog Rows.glossAllsUptoRow.wrapper Rows.glossAllsUptoRow.mainSum := by
 unfold Func.isWrapper; first | (rw [if_pos (by decide +kernel)]; kernel_rfl) | (rw [if_neg (by decide +kernel)]; exact ⟨rfl, rfl⟩)
theorem over : Rows.glossAllsUptoRow.holds Tryz.pinned (Rows.OpenSpec.upto Rows.glossAllsSpec) :=
 OpenClaim.holds_of_cond 7 Tryz.f7 (by kernel_rfl) (by kernel_rfl) (by kernel_rfl) (by kernel_rfl) (by kernel_rfl) (by kernel_rfl) (by kernel_rfl) ⟨by kernel_rfl, by kernel_rfl, by kernel_rfl, by kernel_rfl, by kernel_rfl⟩ (by kernel_rfl) (by kernel_rfl) (by kernel_rfl) (by kernel_rfl) (by kernel_rfl) ma Tryz.func7 lv mC mF
  (fun os started H cv _ F => lifted os started H cv F)
theorem glossAlls_holds : Rows.GlossAllsUptoSaid := over
#print axioms glossAlls_holds
end Go.Proofs.YtknekjalbninmaaGreat

/- What the reckoner knows of chapter 12's program, the insertion sort by its contract. The chapter's examples, awake(), are true: reckoned by the kernel. -/
import Derived.Test.YtnjcohimpfmgcaaDoorK0
import Derived.Test.YtnjcohimpfmgcaaDoorN2
set_option linter.unusedSimpArgs false
set_option linter.unusedVariables false
set_option maxRecDepth 100000
namespace Go.V
open Go Go.Proofs
def rowNt : List D → Option Nt
  | [.int .i64 a, .int .i64 b, .int .i64 c, .int .i64 d, .int .i64 e, .int .i64 f, .str t] => some ⟨a, b, c, d, e, f, t⟩
  | _ => none
def rowsNt : List (List D) → Option (List Nt)
  | [] => some []
  | r :: rs => match rowNt r, rowsNt rs with
    | some x, some l => some (x :: l)
    | _, _ => none
theorem rowNt_eq {r : List D} {x : Nt} (h : rowNt r = some x) : r = x.row := by
  unfold rowNt at h
  split at h
  · cases h; rfl
  · cases h
theorem rowsNt_eq : ∀ {rows : List (List D)} {l : List Nt}, rowsNt rows = some l → rows = l.map Nt.row
  | [], l, h => by simp [rowsNt] at h; subst h; rfl
  | r :: rs, l, h => by
    simp only [rowsNt] at h
    split at h
    · rename_i x l' h1 h2
      cases h
      rw [rowNt_eq h1, rowsNt_eq h2]; rfl
    · cases h
def kcIns (args : List Sym) (own : List (Nat × Obj')) (n : Nat) : Option XR := match args, own, n with
  | [.ar 0, .d (.int .i64 a), .d (.int .i64 b), .fn g []], [(0, .arr T 7 rows)], 1 => match rowsNt rows with
    | some l => oguard (Nat.beq g 44 && decide (a = 0) && decide (b = (l.length : Int)) && Nat.blt 0 l.length && Nat.beq (isort l).length l.length && Nat.blt l.length 1000)
        (some ⟨.d (.tup []), 1, [(0, .arr T 7 ((isort l).map Nt.row))], []⟩)
    | none => none
  | [.d (.sl []), .d (.int .i64 a), .d (.int .i64 b), .fn g []], [], 0 => oguard (Nat.beq g 44 && decide (a = 0) && decide (b = 0)) (some ⟨.tup [], 0, [], []⟩)
  | _, _, _ => none
theorem kcIns_good {args : List Sym} {own : List (Nat × Obj')} {n : Nat} {r : XR} (h : kcIns args own n = some r) : CallC Tryd.prog 84 args own n r.s r.nx r.own r.mv := by
  unfold kcIns at h
  split at h
  · rename_i a b g T rows
    split at h
    · rename_i l hl
      rw [oguard_some] at h
      simp only [Bool.and_eq_true, beq_iff, blt_iff, decide_eq_true_eq] at h
      obtain ⟨⟨⟨⟨⟨⟨h1, h2⟩, h3⟩, h4⟩, h5⟩, h6⟩, h⟩ := h
      cases h
      subst h1; subst h2; subst h3
      rw [rowsNt_eq hl]
      exact ins_ok T l (by intro e; subst e; simp at h4) (by omega) h5
    · cases h
  · rename_i a b g
    rw [oguard_some] at h
    simp only [Bool.and_eq_true, beq_iff, decide_eq_true_eq] at h
    obtain ⟨⟨⟨h1, h2⟩, h3⟩, h⟩ := h
    cases h
    subst h1; subst h2; subst h3
    exact ins_nil
  · cases h
noncomputable def mkGs : XG := { mkG Tryd.prog with kc := fun f => match Nat.beq f 84 with
  | true => some kcIns
  | false => none }
theorem mkGs_good : XGood Tryd.prog mkGs := by
  have g := mkG_good can_all
  refine ⟨g.ti, g.zf, g.ek, g.fn, g.kn, ?_⟩
  intro f k args own n r hk hr _
  have hk : (match Nat.beq f 84 with | true => some kcIns | false => none) = some k := hk
  split at hk
  · rename_i e
    rw [beq_iff] at e
    cases hk
    subst e
    exact kcIns_good hr
  · cases hk
theorem pure_of_isTs {f k : Nat} (h : isT (xcall mkGs (xdraw mkGs) k f [] [] 0) = true) : PureR Tryd.prog f [] (.bool true) := by
  have hg := run_sound mixed_X mkGs_good k
  unfold isT at h
  split at h
  · rename_i nx own mv hr
    have := hg _ _ _ _ _ hr (by simp [Sym.los])
    exact pureR_of_callC (ds := []) this
  · cases h
theorem awake12_run : isT (xcall mkGs (xdraw mkGs) 50 15 [] [] 0) = true := by kernel_rfl
theorem awake12_R : PureR Tryd.prog 15 [] (.bool true) := pure_of_isTs awake12_run
end Go.V

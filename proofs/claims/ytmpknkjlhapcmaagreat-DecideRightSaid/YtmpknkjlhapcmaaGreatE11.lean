/- Putting a decision among sorted ones: the program's way and the reference's are one. The law on Put. -/
import Derived.Test.YtmpknkjlhapcmaaGreatE10
import Derived.Test.YtmpknkjlhapcmaaGreatE8
set_option linter.unusedSimpArgs false
set_option linter.unusedVariables false
set_option maxRecDepth 10000
namespace Go.V
open Go Go.Proofs

/-! ### the order of decisions -/
theorem lessP_trans {a b c : Prt} (h : lessP a b = true) (h' : lessP b c = true) : lessP a c = true := by
  unfold lessP at h h' ⊢
  by_cases e1 : a.entry = b.entry <;> by_cases e2 : b.entry = c.entry <;> by_cases e3 : a.alt = b.alt <;> by_cases e4 : b.alt = c.alt <;>
    by_cases e5 : a.entry = c.entry <;> by_cases e6 : a.alt = c.alt <;> simp only [e1, e2, e3, e4, e5, e6, if_true, if_false, decide_eq_true_eq] at h h' ⊢ <;> first | omega | (simp_all; omega) | simp_all
theorem lessP_irrefl (a : Prt) : lessP a a = false := by simp [lessP]
theorem lessA_trans : ∀ {a b c : List Prt}, lessA a b = true → lessA b c = true → lessA a c = true
  | _, [], _, h, _ => by simp [lessA] at h
  | _, _ :: _, [], _, h => by simp [lessA] at h
  | [], _ :: _, _ :: _, _, _ => by simp [lessA]
  | x :: a, y :: b, z :: c, h, h' => by
    simp only [lessA] at h h' ⊢
    by_cases e1 : x = y
    · subst e1
      rw [if_pos rfl] at h
      by_cases e2 : x = z
      · subst e2
        rw [if_pos rfl] at h' ⊢
        exact lessA_trans h h'
      · rw [if_neg e2] at h' ⊢; exact h'
    · rw [if_neg e1] at h
      by_cases e2 : y = z
      · subst e2; rw [if_neg e1]; exact h
      · rw [if_neg e2] at h'
        have h3 := lessP_trans h h'
        have e3 : ¬ x = z := by intro e; subst e; rw [lessP_irrefl] at h3; cases h3
        rw [if_neg e3]; exact h3
theorem lessD_trans {a b c : Dec} (h : lessD a b = true) (h' : lessD b c = true) : lessD a c = true := by
  unfold lessD at h h' ⊢
  by_cases e1 : a.ref.rcd = b.ref.rcd
  · by_cases e2 : b.ref.rcd = c.ref.rcd
    · rw [if_pos e1] at h; rw [if_pos e2] at h'; rw [if_pos (e1.trans e2)]
      by_cases e3 : a.ref.note = b.ref.note
      · by_cases e4 : b.ref.note = c.ref.note
        · rw [if_pos e3] at h; rw [if_pos e4] at h'; rw [if_pos (e3.trans e4)]
          exact lessA_trans h h'
        · rw [if_neg e4] at h'; rw [if_neg (fun e => e4 (e3.symm.trans e))]
          simp only [decide_eq_true_eq] at h' ⊢; omega
      · rw [if_neg e3] at h
        simp only [decide_eq_true_eq] at h
        by_cases e4 : b.ref.note = c.ref.note
        · rw [if_neg (fun e => e3 (e.trans e4.symm))]; simp only [decide_eq_true_eq]; omega
        · rw [if_neg e4] at h'
          simp only [decide_eq_true_eq] at h'
          rw [if_neg (by omega)]; simp only [decide_eq_true_eq]; omega
    · rw [if_neg e2] at h'; rw [if_neg (fun e => e2 (e1.symm.trans e))]
      simp only [decide_eq_true_eq] at h' ⊢; omega
  · rw [if_neg e1] at h
    simp only [decide_eq_true_eq] at h
    by_cases e2 : b.ref.rcd = c.ref.rcd
    · rw [if_neg (fun e => e1 (e.trans e2.symm))]; simp only [decide_eq_true_eq]; omega
    · rw [if_neg e2] at h'
      simp only [decide_eq_true_eq] at h'
      rw [if_neg (by omega)]; simp only [decide_eq_true_eq]; omega
theorem lessD_irrefl (a : Dec) : lessD a a = false := by simp [lessD, lessA_irrefl]
theorem lessD_asym {a b : Dec} (h : lessD a b = true) : lessD b a = false := by
  cases h' : lessD b a with
  | false => rfl
  | true => have := lessD_trans h h'; rw [lessD_irrefl] at this; cases this
theorem lessD_total {a b : Dec} (h : lessD a b = false) (h' : lessD b a = false) : a.ref = b.ref ∧ a.pick = b.pick := by
  unfold lessD at h h'
  by_cases e1 : a.ref.rcd = b.ref.rcd
  · rw [if_pos e1] at h; rw [if_pos e1.symm] at h'
    by_cases e2 : a.ref.note = b.ref.note
    · rw [if_pos e2] at h; rw [if_pos e2.symm] at h'
      exact ⟨rf_eq.2 ⟨e1, e2⟩, lessA_total h h'⟩
    · rw [if_neg e2] at h; rw [if_neg (fun e => e2 e.symm)] at h'
      simp at h h'; omega
  · rw [if_neg e1] at h; rw [if_neg (fun e => e1 e.symm)] at h'
    simp at h h'; omega
/-! ### right decisions are sorted -/
theorem checkAt_ne {l : List Dec} {k : Nat} {e : Int} (h : checkAt l k = some e) : e ≠ 0 := by
  unfold checkAt at h
  split at h
  · cases h
  · repeat' split at h
    all_goals first | (cases h; decide) | cases h
theorem checkL_zero {l : List Dec} (h : checkL l = 0) : ∀ k, k < l.length → checkAt l k = none := by
  unfold checkL at h
  cases hf : (List.range l.length).findSome? (checkAt l) with
  | none =>
    rw [List.findSome?_eq_none_iff] at hf
    intro k hk; exact hf k (List.mem_range.2 hk)
  | some e =>
    rw [hf] at h
    obtain ⟨k, _, hk⟩ := List.exists_of_findSome?_eq_some hf
    exact absurd h (checkAt_ne hk)
structure AtOk (l : List Dec) (k : Nat) (h : k < l.length) : Prop where
  rcd : isId l[k].ref.rcd = true
  note : isId l[k].ref.note = true
  ne : l[k].pick.length ≠ 0
  le : l[k].pick.length ≤ 4
  less : ∀ j (hj : j + 1 = k), lessD (l[j]'(by omega)) l[k] = true
  riv : (l.take k).any (rivalsD l[k]) = false
theorem checkAt_none {l : List Dec} {k : Nat} (h : k < l.length) : checkAt l k = none ↔ AtOk l k h := by
  have e1 : l[k]? = some l[k] := List.getElem?_eq_getElem h
  constructor
  · intro hc
    unfold checkAt at hc
    rw [e1] at hc
    simp only at hc
    by_cases g1 : isId l[k].ref.rcd = true
    · rw [if_pos g1] at hc
      by_cases g2 : isId l[k].ref.note = true
      · rw [if_pos g2] at hc
        by_cases g3 : l[k].pick.length = 0
        · rw [if_pos g3] at hc; cases hc
        · rw [if_neg g3] at hc
          by_cases g4 : l[k].pick.length > 4
          · rw [if_pos g4] at hc; cases hc
          · rw [if_neg g4] at hc
            cases k with
            | zero => exact ⟨g1, g2, g3, by omega, fun j hj => by omega, by simp⟩
            | succ j =>
              have hjl : j < l.length := by omega
              have e0 : l[j]? = some l[j] := List.getElem?_eq_getElem hjl
              simp only [Nat.add_sub_cancel, e0, Nat.zero_lt_succ, decide_true, Bool.true_and] at hc
              by_cases g5 : (!lessD l[j] l[j + 1]) = true
              · rw [if_pos g5] at hc; cases hc
              · rw [if_neg g5] at hc
                by_cases g6 : (l.take (j + 1)).any (rivalsD l[j + 1]) = true
                · rw [if_pos g6] at hc; cases hc
                · refine ⟨g1, g2, g3, by omega, fun j' hj => ?_, by simpa using g6⟩
                  have : j' = j := by omega
                  subst this
                  simpa using g5
      · rw [if_neg g2] at hc; cases hc
    · rw [if_neg g1] at hc; cases hc
  · intro ⟨h1, h2, h3, h4, h5, h6⟩
    have h4' : ¬ l[k].pick.length > 4 := by omega
    cases k with
    | zero => simp only [checkAt, e1, h1, h2, h3, h4', h6, if_true, if_false]; simp
    | succ j =>
      have hjl : j < l.length := by omega
      have e0 : l[j]? = some l[j] := List.getElem?_eq_getElem hjl
      simp only [checkAt, e1, h1, h2, h3, h4', h6, if_true, if_false, Nat.add_sub_cancel, e0, h5 j rfl]; simp
def SortedD (l : List Dec) : Prop := l.Pairwise (fun a b => lessD a b = true)
theorem sorted_of {l : List Dec} (h : ∀ k (hk : k + 1 < l.length), lessD l[k] l[k + 1] = true) : SortedD l := by
  unfold SortedD
  rw [List.pairwise_iff_getElem]
  intro i j hi hj hij
  induction j with
  | zero => omega
  | succ j ih =>
    by_cases e : i = j
    · subst e; exact h i hj
    · exact lessD_trans (ih (by omega) (by omega)) (h j hj)
theorem checkL_sorted {l : List Dec} (h : checkL l = 0) : SortedD l := sorted_of fun k hk => ((checkAt_none hk).1 (checkL_zero h (k + 1) hk)).less k rfl
/-! ### the two ways -/
theorem gone_eq (d x : Dec) : rgoneD d x = goneD d x := by
  unfold rgoneD goneD rivalsD
  have h1 : (decide (x.ref = d.ref) && decide (x.pick = d.pick)) = decide (cmpD x d = 0) := by
    rw [Bool.eq_iff_iff]; simp [cmpD_zero]
  have h2 : decide (x.ref = d.ref) = decide (d.ref = x.ref) := by rw [Bool.eq_iff_iff]; simp [eq_comm]
  rw [h1, h2]
def keepL (d : Dec) (l : List Dec) : List Dec := l.filter fun x => !goneD d x && lessD x d
def keepG (d : Dec) (l : List Dec) : List Dec := l.filter fun x => !goneD d x && !lessD x d
def putN (l : List Dec) (d : Dec) : List Dec := if checkL [d] = 0 then keepL d l ++ d :: keepG d l else l
theorem rest_ge {d x : Dec} {r : List Dec} (hs : SortedD (x :: r)) (hx : lessD x d = false) : ∀ y ∈ r, lessD y d = false := by
  intro y hy
  have hxy := (List.pairwise_cons.1 hs).1 y hy
  cases h : lessD y d with
  | false => rfl
  | true => have := lessD_trans hxy h; rw [hx] at this; cases this
theorem keepL_ge {d : Dec} {r : List Dec} (h : ∀ y ∈ r, lessD y d = false) : keepL d r = [] := by
  unfold keepL; rw [List.filter_eq_nil_iff]; intro y hy; simp [h y hy]
theorem keepG_ge {d : Dec} {r : List Dec} (h : ∀ y ∈ r, lessD y d = false) : keepG d r = r.filter fun x => !goneD d x := by
  unfold keepG; apply List.filter_congr; intro y hy; simp [h y hy]
theorem neg_iff (x d : Dec) : cmpD x d < 0 ↔ lessD x d = true := cmpD_neg x d
theorem putS_ge {d : Dec} : ∀ {r : List Dec} {out : List Dec} {k : Nat}, (∀ y ∈ r, lessD y d = false) → r.foldl (putStep d) (out, k) = (out ++ r.filter (fun x => !goneD d x), k)
  | [], out, k, _ => by simp
  | x :: r, out, k, h => by
    have hx := h x (by simp)
    have hn : ¬ cmpD x d < 0 := by rw [neg_iff, hx]; simp
    simp only [List.foldl_cons, putStep]
    by_cases g : goneD d x = true
    · rw [if_pos g, putS_ge fun y hy => h y (by simp [hy])]; simp [g]
    · rw [if_neg g, if_neg hn, putS_ge fun y hy => h y (by simp [hy])]; simp [g]
theorem putS_all {d : Dec} : ∀ {l : List Dec} {out : List Dec}, SortedD l → insertL (l.foldl (putStep d) (out, out.length)).1 (l.foldl (putStep d) (out, out.length)).2 d = out ++ keepL d l ++ d :: keepG d l
  | [], out, _ => by simp [insertL, keepL, keepG]
  | x :: r, out, hs => by
    have hs' : SortedD r := (List.pairwise_cons.1 hs).2
    simp only [List.foldl_cons]
    by_cases g : goneD d x = true
    · have e : putStep d (out, out.length) x = (out, out.length) := by simp [putStep, g]
      rw [e, putS_all hs']; simp [keepL, keepG, g]
    · cases hx : lessD x d
      · have hn : ¬ cmpD x d < 0 := by rw [neg_iff, hx]; simp
        have e : putStep d (out, out.length) x = (out ++ [x], out.length) := by simp [putStep, g, hn]
        have hr := rest_ge hs hx
        rw [e, putS_ge hr]
        have h1 : keepL d (x :: r) = [] := keepL_ge (by intro y hy; rcases List.mem_cons.1 hy with e | hy; rw [e]; exact hx; exact hr y hy)
        have h2 : keepG d (x :: r) = x :: r.filter (fun x => !goneD d x) := by rw [keepG_ge (by intro y hy; rcases List.mem_cons.1 hy with e | hy; rw [e]; exact hx; exact hr y hy)]; simp [g]
        rw [h1, h2]
        simp [insertL]
      · have hn : cmpD x d < 0 := by rw [neg_iff, hx]
        have e : putStep d (out, out.length) x = (out ++ [x], (out ++ [x]).length) := by simp [putStep, g, hn]
        rw [e, putS_all hs']
        simp [keepL, keepG, g, hx]
theorem putP_eq {l : List Dec} {d : Dec} (hs : SortedD l) : putP l d = putN l d := by
  unfold putP putN
  split
  · have := putS_all (d := d) (out := []) hs
    simpa [putS] using this
  · rfl
def finR (d : Dec) (s : List Dec × Bool) : List Dec := if s.2 = true then s.1 else s.1 ++ [d]
theorem rput_in {d : Dec} : ∀ {r : List Dec} {out : List Dec}, r.foldl (rputStep d) (out, true) = (out ++ r.filter (fun x => !goneD d x), true)
  | [], out => by simp
  | x :: r, out => by
    simp only [List.foldl_cons]
    have e : rputStep d (out, true) x = (out ++ (if goneD d x = true then [] else [x]), true) := by simp [rputStep, gone_eq]
    rw [e, rput_in]
    by_cases g : goneD d x = true <;> simp [g]
theorem rput_ge {d : Dec} : ∀ {r : List Dec} {out : List Dec}, (∀ y ∈ r, lessD y d = false) → finR d (r.foldl (rputStep d) (out, false)) = out ++ d :: r.filter (fun x => !goneD d x)
  | [], out, _ => by simp [finR]
  | x :: r, out, h => by
    simp only [List.foldl_cons]
    have hx := h x (by simp)
    cases hl : lessD d x
    · have hg : goneD d x = true := by
        have := lessD_total hx hl
        simp [goneD, (cmpD_zero x d).2 this]
      have e : rputStep d (out, false) x = (out, false) := by simp [rputStep, gone_eq, hg, hl]
      rw [e, rput_ge fun y hy => h y (by simp [hy])]; simp [hg]
    · have e : rputStep d (out, false) x = (out ++ [d] ++ (if goneD d x = true then [] else [x]), true) := by simp [rputStep, gone_eq, hl]
      rw [e, rput_in]
      by_cases g : goneD d x = true <;> simp [g, finR]
theorem rput_all {d : Dec} : ∀ {l : List Dec} {out : List Dec}, SortedD l → finR d (l.foldl (rputStep d) (out, false)) = out ++ keepL d l ++ d :: keepG d l
  | [], out, _ => by simp [finR, keepL, keepG]
  | x :: r, out, hs => by
    have hs' : SortedD r := (List.pairwise_cons.1 hs).2
    cases hx : lessD x d
    · have hr : ∀ y ∈ x :: r, lessD y d = false := by intro y hy; rcases List.mem_cons.1 hy with e | hy; rw [e]; exact hx; exact rest_ge hs hx y hy
      rw [rput_ge hr, keepL_ge hr, keepG_ge hr]; simp
    · simp only [List.foldl_cons]
      have e : rputStep d (out, false) x = (out ++ (if goneD d x = true then [] else [x]), false) := by simp [rputStep, gone_eq, lessD_asym hx]
      rw [e, rput_all hs']
      by_cases g : goneD d x = true <;> simp [g, keepL, keepG, hx]
theorem putR_eq {l : List Dec} {d : Dec} (hs : SortedD l) : putR l d = putN l d := by
  unfold putR putN
  split
  · have := rput_all (d := d) (out := []) hs
    rw [List.nil_append] at this
    unfold finR at this
    unfold rputS
    exact this
  · rfl
theorem putN_mem {l : List Dec} {d x : Dec} (h : x ∈ putN l d) : x = d ∨ x ∈ l := by
  unfold putN keepL keepG at h
  split at h
  · rcases List.mem_append.1 h with h | h
    · exact .inr (List.mem_filter.1 h).1
    · rcases List.mem_cons.1 h with h | h
      · exact .inl h
      · exact .inr (List.mem_filter.1 h).1
  · exact .inr h
theorem putN_fits {l : List Dec} {d : Dec} (hl : Fits31 l) (hd : d.fit) : Fits31 (putN l d) := fun x hx => (putN_mem hx).elim (fun e => by rw [e]; exact hd) (hl x)
theorem putN_len (l : List Dec) (d : Dec) : (putN l d).length ≤ 2 * l.length + 1 := by
  unfold putN keepL keepG
  split
  · have h1 := List.length_filter_le (fun x => !goneD d x && lessD x d) l
    have h2 := List.length_filter_le (fun x => !goneD d x && !lessD x d) l
    simp only [List.length_append, List.length_cons]; omega
  · omega
theorem rightL_sorted {l : List Dec} (h : rightL l = true) : SortedD l := by
  unfold rightL at h; rw [Bool.and_eq_true, decide_eq_true_eq] at h; exact checkL_sorted h.2
theorem law_puts (l : List Dec) (d : Dec) : PureR Tryz.prog 4 [decsD l, .agg d.row] (.bool true) := by
  refine pure_of_body mixed Tryz.func4 rfl call_4 ?_
  simp [Tryz.f4, decsD, Dec.row, int]
  refine ECall.pure (by rfl) (right_ok l) (by simp) ?_
  cases h : rightL l
  · simp
    refine ECall.pure (by rfl) awake31_R (by simp) ?_
    simp
  simp
  refine ECall.pure (by rfl) (few_ok [d]) (fun _ => rfl) ?_
  cases h' : fewL [d]
  · simp
    refine ECall.pure (by rfl) awake31_R (by simp) ?_
    simp
  have hfew := rightL_few h
  have hlen := fewL_len hfew
  obtain ⟨h1, h2⟩ := fewL_fits hfew
  have hd : d.fit := (fewL_fits h').2 d (by simp)
  have hs := rightL_sorted h
  have hp := put_ok l d (by omega) h2 hd
  have hr := refPut_ok l d (by omega) h2 hd
  rw [putP_eq hs] at hp
  rw [putR_eq hs] at hr
  have hq := putN_len l d
  simp (decide := true)
  refine scall_pure (by rfl) (by rfl) hp (by simp) ?_
  simp (decide := true)
  refine scall_pure (by rfl) (by rfl) hr (by simp) ?_
  simp (decide := true)
  refine scall_pure (by rfl) (by rfl) (refSame31_ok (putN l d) (putN l d) (by omega) (putN_fits h2 hd) (putN_fits h2 hd)) (by simp) ?_
  simp (decide := true)
  refine scall_pure (by rfl) (by rfl) awake31_R (by simp) ?_
  simp (decide := true)
end Go.V

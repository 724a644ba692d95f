/- Contracts and plain laws of this seat: part MC. It needs no conditions. -/
import Derived.Test.YtgglheknmlfghaaGreatMB
import Derived.Test.YtgglheknmlfghaaGreatM6
set_option linter.unusedVariables false
set_option linter.unusedSimpArgs false
set_option linter.unusedSectionVars false
set_option maxRecDepth 100000
namespace Go.V
open Go Go.Proofs
theorem afterS_zero0 (l : List Stp) (c : Int) : afterS l 0 c = 0 := by
  unfold afterS
  induction l with
  | nil => rfl
  | cons x l ih =>
    rw [List.foldl_cons]
    have : takeStep 0 c 0 x = 0 := by
      unfold takeStep hasS
      rw [if_neg (by simp)]
    rw [this]; exact ih
theorem foldS_none (l : List Stp) : ∀ cs : List Int, cs.foldl (fun m c => afterS l m c) 0 = 0
  | [] => rfl
  | c :: cs => by rw [List.foldl_cons, afterS_zero0]; exact foldS_none l cs
theorem walkT_in {g : Lang} {w : List Int} (hg : LightF g) : ∀ (t : List Prt) (f : Nat) (a : List Prt) (s : Nat) (base : List Int), t ≠ [] → t.length ≤ f → (∀ p ∈ t, PartN g p) →
    (classesE g.lex t).foldl (fun m c => afterS g.net.steps m c) s &&& finalS g.net.final ≠ 0 → w.length ≤ (base ++ baseE g.lex t).length → fitsB g w (base ++ baseE g.lex t) = true → (base ++ baseE g.lex t).length ≤ mostE g w →
    (a ++ t, base ++ baseE g.lex t) ∈ walkT g w f a s base
  | [], _, _, _, _, h, _, _, _, _, _, _ => absurd rfl h
  | p :: r, 0, _, _, _, _, h, _, _, _, _, _ => by simp at h
  | p :: r, f + 1, a, s, base, _, hl, hv, hfin, hlen, hfit, hmost => by
    obtain ⟨e, he, alt, ha, rfl⟩ := (hv p (List.mem_cons_self ..)).ok hg
    have hb : baseE g.lex (⟨e.id, (alt : Int), 0⟩ :: r) = e.forms[alt]?.getD [] ++ baseE g.lex r := by
      unfold baseE; rw [List.flatMap_cons, formE_new hg he ha]; rfl
    have hc : classesE g.lex (⟨e.id, (alt : Int), 0⟩ :: r) = e.cls :: classesE g.lex r := by
      unfold classesE; rw [List.flatMap_cons, formE_new hg he ha]; rfl
    rw [hb, ← List.append_assoc] at hlen hfit hmost ⊢
    rw [hc, List.foldl_cons] at hfin
    have hz : afterS g.net.steps s e.cls ≠ 0 := by
      intro h; rw [h, foldS_none] at hfin; simp at hfin
    unfold walkT
    rw [List.mem_flatMap]
    refine ⟨e, he, ?_⟩
    rw [if_pos hz, List.mem_flatMap]
    refine ⟨alt, List.mem_range.2 ha, ?_⟩
    rw [if_neg (by rw [List.length_append] at hmost; omega), List.mem_append]
    by_cases hr : r = []
    · left
      subst hr
      have hb0 : baseE g.lex [] = [] := rfl
      rw [hb0, List.append_nil] at hlen hfit ⊢
      rw [if_pos ⟨hfin, hlen, hfit⟩]
      exact List.mem_singleton.2 rfl
    · right
      have := walkT_in hg r f (a ++ [⟨e.id, (alt : Int), 0⟩]) (afterS g.net.steps s e.cls) (base ++ e.forms[alt]?.getD []) hr (by simp at hl; omega) (fun x hx => hv x (List.mem_cons_of_mem _ hx)) hfin hlen hfit hmost
      rw [List.append_assoc] at this
      exact this
theorem segE_one {inv : List Phon} {r : Rule} (hr : r.dst.length = r.src.length) (h0 : 0 ∉ r.dst) (w : List Int) (k : Nat) (x : Int) (hk : w[k]? = some x) : (segE inv r w k x).length = 1 := by
  unfold segE
  by_cases hs : siteE inv r w k = true
  · rw [if_pos hs]
    unfold siteE at hs
    rw [hk, Option.getD_some] at hs
    simp only [Bool.and_eq_true, decide_eq_true_eq] at hs
    have hm : x ∈ r.src := hs.1.1.1.1.1.1
    have hlt : (idxL r.src x).toNat < r.dst.length := by
      unfold idxL
      cases h : r.src.findIdx? (· = x) with
      | none => rw [List.findIdx?_eq_none_iff] at h; have := h x hm; simp at this
      | some j =>
        rw [List.findIdx?_eq_some_iff_getElem] at h
        have := h.1
        show ((j : Int)).toNat < _
        omega
    rw [List.getElem?_eq_getElem hlt, Option.getD_some, if_neg]
    · rfl
    · intro h; exact h0 (h ▸ List.getElem_mem hlt)
  · rw [if_neg hs]; rfl
theorem flat_len {α β : Type} {f : α → List β} : ∀ {l : List α}, (∀ x ∈ l, (f x).length = 1) → (l.map f).flatten.length = l.length
  | [], _ => rfl
  | a :: l, h => by
    rw [List.map_cons, List.flatten_cons, List.length_append, h a (List.mem_cons_self ..), flat_len fun x hx => h x (List.mem_cons_of_mem _ hx), List.length_cons]
    omega
theorem applyE_keep {inv : List Phon} {r : Rule} (hr : r.dst.length = r.src.length) (h0 : 0 ∉ r.dst) (w : List Int) : (applyE inv r w).length = w.length := by
  unfold applyE
  rw [flat_len, List.length_zipIdx]
  intro x hx
  refine segE_one hr h0 w x.2 x.1 ?_
  have := List.mem_zipIdx_iff_getElem?.1 hx
  exact this
theorem lastE_keep {inv : List Phon} : ∀ (rs : List Rule) (w : List Int), (∀ r ∈ rs, r.dst.length = r.src.length ∧ 0 ∉ r.dst) → (lastE inv rs w).length = w.length
  | [], w, _ => rfl
  | r :: rs, w, h => by
    have ih := lastE_keep (inv := inv) rs (applyE inv r w) fun x hx => h x (List.mem_cons_of_mem _ hx)
    have h1 := h r (List.mem_cons_self ..)
    unfold lastE at ih ⊢
    rw [List.foldl_cons, ih, applyE_keep h1.1 h1.2]
theorem lastE_shr {g : Lang} (hg : LightF g) (h : shrinksR g.rules = false) (w : List Int) : (lastE g.inv g.rules w).length = w.length := by
  refine lastE_keep _ _ fun r hr => ⟨(hg.rules r hr).dst, fun h0 => ?_⟩
  unfold shrinksR at h
  rw [List.any_eq_false] at h
  exact h r hr (decide_eq_true h0)
theorem segE_seg {inv : List Phon} {r : Rule} (hd : DstF inv r) {w : List Int} {k : Nat} {x : Int} (hx : isSeg inv x = true) : ∀ y ∈ segE inv r w k x, isSeg inv y = true := by
  intro y hy
  unfold segE at hy
  split at hy
  · split at hy
    · cases hy
    · rename_i hne
      rw [List.mem_singleton] at hy
      subst hy
      cases hj : r.dst[(idxL r.src x).toNat]? with
      | none => rw [hj] at hne; exact absurd rfl hne
      | some z =>
        rw [Option.getD_some]
        rw [hj, Option.getD_some] at hne
        exact (hd z (List.mem_of_getElem? hj)).resolve_left hne
  · rw [List.mem_singleton] at hy; rw [hy]; exact hx
theorem applyE_seg {inv : List Phon} {r : Rule} (hd : DstF inv r) {w : List Int} (hw : ∀ x ∈ w, isSeg inv x = true) : ∀ y ∈ applyE inv r w, isSeg inv y = true := by
  intro y hy
  unfold applyE at hy
  rw [List.mem_flatten] at hy
  obtain ⟨l, hl, hy⟩ := hy
  obtain ⟨x, hx, rfl⟩ := List.mem_map.1 hl
  exact segE_seg hd (hw x.1 (List.fst_mem_of_mem_zipIdx hx)) y hy
theorem lastE_seg {inv : List Phon} : ∀ (rs : List Rule) (w : List Int), (∀ r ∈ rs, DstF inv r) → (∀ x ∈ w, isSeg inv x = true) → ∀ y ∈ lastE inv rs w, isSeg inv y = true
  | [], w, _, hw => hw
  | r :: rs, w, hd, hw => by
    have ih := lastE_seg rs (applyE inv r w) (fun x hx => hd x (List.mem_cons_of_mem _ hx)) (applyE_seg (hd r (List.mem_cons_self ..)) hw)
    unfold lastE at ih ⊢
    rw [List.foldl_cons]; exact ih
theorem baseE_seg {g : Lang} (hg : LightF g) {a : List Prt} (hv : ∀ p ∈ a, PartN g p) : ∀ y ∈ baseE g.lex a, isSeg g.inv y = true := by
  intro y hy
  unfold baseE at hy
  rw [List.mem_flatMap] at hy
  obtain ⟨p, hp, hy⟩ := hy
  obtain ⟨e, he, alt, ha, rfl⟩ := (hv p hp).ok hg
  rw [formE_new hg he ha, if_pos rfl, List.getElem?_eq_getElem ha] at hy
  have hE := hg.lex.each e he
  have hwf : WordF g.inv e.forms[alt] := by
    rcases List.mem_cons.1 (List.getElem_mem ha) with h1 | h1
    · rw [h1]; exact hE.form
    · exact hE.alts _ h1
  exact hwf.segs y hy
theorem parts_zero {l : List Ent} : ∀ {ps : List Prt}, partsE l ps = 0 → ∀ p ∈ ps, partE l p = 0
  | [], _, p, hp => by cases hp
  | q :: ps, h, p, hp => by
    unfold partsE at h
    split at h
    · rename_i hq
      rcases List.mem_cons.1 hp with e | hp
      · rw [e]; exact hq
      · exact parts_zero h p hp
    · rename_i hq; exact absurd h hq
theorem part_bare {g : Lang} (hg : LightF g) {p : Prt} (h : partE g.lex p = 0) : PartN g ⟨p.entry, p.alt, 0⟩ ∧ 0 ≤ p.sense ∧ p.sense < (sensesE g.lex p.entry).length := by
  unfold partE at h
  split at h
  · cases h
  rename_i h1
  split at h
  · cases h
  rename_i h2
  split at h
  · cases h
  rename_i h3
  have h1' : (getE g.lex p.entry).2 = true := by simpa using h1
  have hm := getE_mem h1'
  refine ⟨⟨(getE g.lex p.entry).1, hm, ?_, rfl, ?_⟩, by omega, by omega⟩
  · unfold getE at h1' ⊢
    cases hf : g.lex.find? (·.id = p.entry) with
    | none => rw [hf] at h1'; cases h1'
    | some e => have := List.find?_some hf; exact (of_decide_eq_true this).symm
  · have h2' : (formE g.lex p).2.2 = true := by simpa using h2
    unfold formE at h2'
    split at h2'
    · rename_i hc
      obtain ⟨_, c2, c3⟩ := hc
      exact ⟨p.alt.toNat, by omega, by show p.alt = _; omega⟩
    · cases h2'
structure FormF (g : Lang) (w : List Int) (a : List Prt) : Prop where
  word : wordC g.inv w = 0
  plain : bare a ∈ plainL g w
  choice : Choice g (bare a) a
theorem choice_self {g : Lang} : ∀ {a : List Prt}, (∀ p ∈ a, 0 ≤ p.sense ∧ p.sense < (sensesE g.lex p.entry).length) → Choice g (bare a) a
  | [], _ => trivial
  | p :: ps, h => ⟨⟨rfl, rfl, h p (List.mem_cons_self ..)⟩, choice_self fun x hx => h x (List.mem_cons_of_mem _ hx)⟩
theorem form_found {g : Lang} (hg : LightF g) {a : List Prt} (h : (formA g a).2 = 0) : FormF g (formA g a).1 a := by
  have hr := form_right h
  have hb24 := right_base hr
  have hlast : ¬ (lastE g.inv g.rules (baseE g.lex a)).length = 0 ∧ (formA g a).1 = lastE g.inv g.rules (baseE g.lex a) := by
    unfold formA at h ⊢
    rw [if_neg (by rw [hr]; simp)] at h ⊢
    split at h
    · cases h
    · rename_i h1; exact ⟨h1, by rw [if_neg h1]⟩
  have hr2 := hr
  unfold rightE at hr2
  split at hr2
  · cases hr2
  rename_i r0
  split at hr2
  · cases hr2
  rename_i r4
  split at hr2
  · rename_i r5; exact absurd hr2 r5
  rename_i r5
  split at hr2
  · cases hr2
  rename_i r6
  have hps : partsE g.lex a = 0 := Classical.byContradiction r5
  have hpz := parts_zero hps
  have hbv : ∀ p ∈ bare a, PartN g p := by
    intro p hp
    unfold bare at hp
    obtain ⟨q, hq, rfl⟩ := List.mem_map.1 hp
    exact (part_bare hg (hpz q hq)).1
  have hll := lastE_len g.inv g.rules (baseE g.lex a)
  have hw := hlast.2
  have hsegs : ∀ y ∈ (formA g a).1, isSeg g.inv y = true := by
    rw [hw, ← base_bare]
    exact lastE_seg _ _ hg.dsts (baseE_seg hg hbv)
  have hwl : (formA g a).1.length = (lastE g.inv g.rules (baseE g.lex a)).length := by rw [hw]
  refine ⟨?_, ?_, choice_self fun p hp => (part_bare hg (hpz p hp)).2⟩
  · unfold wordC
    rw [if_neg (by omega), if_neg (by omega), if_pos (List.all_eq_true.2 hsegs)]
  · have hfit : fitsB g (formA g a).1 (baseE g.lex (bare a)) = true := by
      unfold fitsB
      rw [base_bare, ← hw]
      simp only [decide_true, Bool.and_true, decide_eq_true_eq]
      intro h; rw [h] at hwl; simp at hwl; omega
    have hacc : acceptsS g.net (classesE g.lex (bare a)) = true := by
      rw [classes_bare]
      cases h : acceptsS g.net (classesE g.lex a) with
      | true => rfl
      | false => exact absurd h r6
    have hmost : (baseE g.lex (bare a)).length ≤ mostE g (formA g a).1 := by
      unfold mostE
      rw [base_bare]
      split
      · exact hb24
      · rename_i hs
        have := lastE_shr hg (by simpa using hs) (baseE g.lex a)
        omega
    have hin := walkT_in (w := (formA g a).1) hg (bare a) 4 [] 1 [] (by intro h; have := congrArg List.length h; simp [bare] at this; rw [this] at r0; exact r0 rfl) (by simp [bare]; omega) hbv
      (by unfold acceptsS runS at hacc; simpa using hacc) (by rw [List.nil_append, base_bare]; omega) (by rw [List.nil_append]; exact hfit) (by rw [List.nil_append]; exact hmost)
    have hfur := walk_fur hg (w := (formA g a).1) (by omega) 4 [] rfl (fun p hp => by cases hp)
    have e1 : runS g.net.steps (classesE g.lex []) = 1 := rfl
    have e2 : baseE g.lex [] = [] := rfl
    rw [e1, e2] at hfur
    rw [hfur] at hin
    obtain ⟨b, hb, e⟩ := List.mem_map.1 hin
    unfold plainL
    rw [if_neg (by omega)]
    have := congrArg Prod.fst e
    simp only [List.nil_append] at this
    rw [← this]
    exact hb
end Go.V
namespace Go.V
open Go Go.Proofs
theorem allT_found {g : Lang} (hg : LightF g) {a : List Prt} (h : (formA g a).2 = 0) : (allE g (formA g a).1).2 = 11 ∨ ((allE g (formA g a).1).2 = 0 ∧ a ∈ (allE g (formA g a).1).1) := by
  have hf := form_found hg h
  rw [allE_eq, if_neg (by rw [hf.word]; simp)]
  split
  · exact .inl rfl
  · exact .inr ⟨rfl, insT_mem.2 (allT_mem.2 ⟨_, hf.plain, hf.choice⟩)⟩
theorem uses_found {g : Lang} (hg : LightF g) {a : List Prt} (h : (formA g a).2 = 0) {p : Prt} (hp : p ∈ a) : usesE g (formA g a).1 p.entry = true := by
  have hf := form_found hg h
  unfold usesE
  rw [List.any_eq_true]
  refine ⟨_, hf.plain, ?_⟩
  rw [List.any_eq_true]
  exact ⟨⟨p.entry, p.alt, 0⟩, List.mem_map.2 ⟨p, hp, rfl⟩, decide_eq_true rfl⟩
set_option maxHeartbeats 16000000 in
theorem law_forms (g : Lang) (hg : LangC g) (a : List Prt) (ha : a.length ≤ 1048576) : PureR Tryz.prog 8 [g.d, anaD a] (.bool true) := by
  refine pure_of_body mixed Tryz.func8 rfl call_8 ?_
  by_cases c1 : (10 : Int) < a.length
  · simp (decide := true) [Tryz.f8, int, anaD, partsD, c1]
    refine ECall.pure (by rfl) awake_R (by simp) ?_
    simp (decide := true)
  simp (decide := true) [Tryz.f8, int, anaD, partsD, Lang.d, unAgg, c1]
  refine ECall.some (by rfl) (light29_ok g hg) ?_
  rintro r ⟨b, rfl, hL⟩
  cases b with
  | false =>
    simp (decide := true) [int]
    refine ECall.pure (by rfl) awake_R (by simp) ?_
    simp (decide := true)
  | true =>
    have hL := hL rfl
    have hR := hL.langR hg
    have hF := formA_ok g hR.toLangOk a (by omega)
    simp (decide := true) [int]
    refine ECall.pure (by rfl) hF (by simp [D.scalar]) ?_
    by_cases hz : (formA g a).2 = 0
    case neg =>
      simp (decide := true) [int, ints, hz]
      refine ECall.pure (by rfl) awake_R (by simp) ?_
      simp (decide := true)
    have hfl : (formA g a).1.length ≤ 24 := by
      have := formA_len (g := g) a
      have := right_base (form_right hz)
      omega
    have h1 := all30_ok g hL hg (formA g a).1 (by omega)
    have hfound := allT_found hL hz
    have huses := fun p (hp : p ∈ a) => uses_found hL hz hp
    have hlic : licE g (formA g a).1 a = true := by unfold licE; rw [decide_eq_true_eq]; exact ⟨hz, rfl⟩
    have h2 := licensed_ok g hR.toLangOk (formA g a).1 (by omega) a (by omega)
    unfold licE at hlic
    rw [hlic] at h2
    have hO := allE_ok hL (formA g a).1
    generalize (formA g a).1 = w at *
    generalize (allE g w).2 = e at h1 hfound hO
    generalize (allE g w).1 = O at h1 hfound hO
    simp (decide := true) [int, ints, hz]
    refine ECall.pure (by rfl) h1 (by simp [D.scalar]) ?_
    have hcont : True := trivial
    rcases hfound with he | ⟨he, hmem⟩
    · simp (decide := true) [int, ints, hz, he, anasD]
      refine loop_ruleT mixed (fun k : Nat => { n := 71, next := 2, slots := [(2, .bp 0 0), (3, .bp 1 0), (5, .d (ints w)), (9, .d (int k))], own := [(0, .box 36 (unAgg g.d)), (1, .box 39 [.d (partsD a)])] })
        (fun k => k ≤ a.length) (fun k => a.length - k) 0 (Nat.zero_le _) ?_ ?_
      · simp (decide := true) [int, ints, anaD, partsD, unAgg, Lang.d]
      intro k hk
      refine ev_sound mixed ?_
      by_cases hlt : k < a.length
      case neg =>
        have : k = a.length := by omega
        subst this
        simp (decide := true) [int, ints, anaD, partsD, unAgg, Lang.d]
        refine ECall.pure (by rfl) h2 (by simp [D.scalar]) ?_
        simp (decide := true) [int]
        refine ECall.pure (by rfl) awake_R (by simp) ?_
        simp (decide := true) [int]
      have hlt' : (k : Int) < a.length := by omega
      obtain ⟨p, ep⟩ : ∃ p, a[k] = p := ⟨_, rfl⟩
      have e1 : a[k]? = some p := by rw [List.getElem?_eq_getElem hlt, ep]
      have h3 := uses30_ok g hL hg w (by omega) p.entry
      rw [huses p (by rw [← ep]; exact List.getElem_mem hlt)] at h3
      simp (decide := true) [int, ints, anaD, partsD, unAgg, Lang.d, hlt, hlt', ep, e1, Prt.row]
      refine scall_pure (by rfl) (by rfl) h3 (by simp [D.scalar]) ?_
      simp (decide := true) [int, ints, anaD, partsD, unAgg, Lang.d, hlt, hlt', ep, e1, Prt.row, I64]
      exact ⟨⟨by omega, by omega⟩, k + 1, hlt, by omega, by omega⟩
    · have hO := hO.2 he
      have hA := among_ok O a (by have := hO.few; omega) (fun x hx => by have := (hO.form x hx).2.2; omega)
      rw [decide_eq_true hmem] at hA
      simp (decide := true) [int, ints, hz, he, anasD]
      refine ECall.pure (by rfl) hA (by simp [D.scalar]) ?_
      simp (decide := true) [int, ints, hz, he, anasD]
      refine loop_ruleT mixed (fun k : Nat => { n := 71, next := 2, slots := [(2, .bp 0 0), (3, .bp 1 0), (5, .d (ints w)), (9, .d (int k))], own := [(0, .box 36 (unAgg g.d)), (1, .box 39 [.d (partsD a)])] })
        (fun k => k ≤ a.length) (fun k => a.length - k) 0 (Nat.zero_le _) ?_ ?_
      · simp (decide := true) [int, ints, anaD, partsD, unAgg, Lang.d]
      intro k hk
      refine ev_sound mixed ?_
      by_cases hlt : k < a.length
      case neg =>
        have : k = a.length := by omega
        subst this
        simp (decide := true) [int, ints, anaD, partsD, unAgg, Lang.d]
        refine ECall.pure (by rfl) h2 (by simp [D.scalar]) ?_
        simp (decide := true) [int]
        refine ECall.pure (by rfl) awake_R (by simp) ?_
        simp (decide := true) [int]
      have hlt' : (k : Int) < a.length := by omega
      obtain ⟨p, ep⟩ : ∃ p, a[k] = p := ⟨_, rfl⟩
      have e1 : a[k]? = some p := by rw [List.getElem?_eq_getElem hlt, ep]
      have h3 := uses30_ok g hL hg w (by omega) p.entry
      rw [huses p (by rw [← ep]; exact List.getElem_mem hlt)] at h3
      simp (decide := true) [int, ints, anaD, partsD, unAgg, Lang.d, hlt, hlt', ep, e1, Prt.row]
      refine scall_pure (by rfl) (by rfl) h3 (by simp [D.scalar]) ?_
      simp (decide := true) [int, ints, anaD, partsD, unAgg, Lang.d, hlt, hlt', ep, e1, Prt.row, I64]
      exact ⟨⟨by omega, by omega⟩, k + 1, hlt, by omega, by omega⟩
theorem law_formsU (g : Lang) (c0 : CapT 1048576 g.d) (a : List Prt) (c1 : CapT 1048576 (anaD a)) : PureR Tryz.prog 8 [g.d, anaD a] (.bool true) :=
  law_forms g (lang_caps c0) a (ana_cap c1)
end Go.V

/- Contracts and plain laws of this seat: part MC. It needs no conditions. -/
import Derived.Test.YtknekjalbninmaaGreatMB
import Derived.Test.YtknekjalbninmaaGreatW1
import Derived.Test.YtknekjalbninmaaGreatMA
set_option linter.unusedVariables false
set_option linter.unusedSimpArgs false
set_option linter.unusedSectionVars false
set_option maxRecDepth 100000
namespace Go.V
open Go Go.Proofs
end Go.V
namespace Go.V
open Go Go.Proofs
def Ent.zero : Ent := ⟨0, [], 0, [], 0, [], [], []⟩
end Go.V
namespace Go.V
open Go Go.Proofs
end Go.V
namespace Go.V
open Go Go.Proofs
def Ent.forms (e : Ent) : List (List Int) := e.form :: e.alts
end Go.V
namespace Go.V
open Go Go.Proofs
end Go.V
namespace Go.V
open Go Go.Proofs
end Go.V
namespace Go.V
open Go Go.Proofs
end Go.V
namespace Go.V
open Go Go.Proofs
def u32 (m : Nat) : D := .int .u32 m
abbrev stepsFn (n : Nett) (m : Nat) : D := .fn 264 [.ptr n.cells, .ptr [u32 m]]
def aftCells (n : Nett) (m : Nat) : List Sym := [.junk, .junk, .junk, .junk, .junk, .bp 2 0, .junk, .bp 1 0, .junk, .junk, .junk, .d (stepsFn n m), .junk, .junk, .junk, .junk, .junk, .junk, .junk, .junk, .junk, .junk]
@[simp] theorem aftCells_lo (n : Nett) (m : Nat) : Sym.los 3 (aftCells n m) := by simp [aftCells, Sym.los, Sym.lo]
end Go.V
namespace Go.V
open Go Go.Proofs
end Go.V
namespace Go.V
open Go Go.Proofs
def senCells : List Sym := [.junk, .junk, .junk, .junk, .bp 1 0, .junk, .junk, .junk, .fn 160 [.bp 2 0, .bp 3 0], .junk, .junk, .junk, .junk, .junk, .junk, .junk, .junk]
@[simp] theorem senCells_lo : Sym.los 4 senCells := by simp [senCells, Sym.los, Sym.lo]
@[simp] theorem senCells_ren : rens (rho' [0, 1, 2, 3] 5) senCells = senCells := rfl
end Go.V
namespace Go.V
open Go Go.Proofs
structure LexFit (l : List Ent) : Prop where
  len : l.length < 2^40
  alts : ∀ e ∈ l, e.alts.length < 2^39
  form : ∀ e ∈ l, ∀ w ∈ e.forms, w.length < 2^20
  senses : ∀ e ∈ l, e.senses.length < 2^40
end Go.V
namespace Go.V
open Go Go.Proofs
end Go.V
namespace Go.V
open Go Go.Proofs
def idxL (l : List Int) (x : Int) : Int := match l.findIdx? (· = x) with
  | some k => k
  | none => -1
theorem idxL_mem (l : List Int) (x : Int) : (0 ≤ idxL l x ↔ x ∈ l) := by
  unfold idxL
  cases h : l.findIdx? (· = x) with
  | none =>
    rw [List.findIdx?_eq_none_iff] at h
    constructor
    · intro e; change (0 : Int) ≤ -1 at e; omega
    · intro e; have := h x e; simp at this
  | some k =>
    rw [List.findIdx?_eq_some_iff_getElem] at h
    obtain ⟨h1, h2, _⟩ := h
    constructor
    · intro _; have h3 : l[k] = x := by simpa using h2
      rw [← h3]; exact List.getElem_mem h1
    · intro _; exact Int.natCast_nonneg k
theorem index_ok (l : List Int) (x : Int) (hl : l.length < 2^62) : PureR Tryz.prog 167 [ints l, int x] (int (idxL l x)) := by
  refine pure_of_body mixed Tryz.func167 rfl call_167 ?_
  simp [Tryz.f167, ints]
  refine loop_rule mixed (fun k : Nat => { n := 19, next := 0, slots := [(0, .d (ints l)), (1, .d (int x)), (6, .d (ints l)), (7, .d (.int .i64 l.length)), (8, .d (.int .i64 k))], own := [] })
    (fun k => k ≤ l.length ∧ ∀ y ∈ l.take k, y ≠ x) (fun k => l.length - k) 0 (by simp) (by simp [ints, int]) ?_
  intro k ⟨hk, hp⟩
  by_cases hlt : k < l.length
  · have hlt' : (k : Int) < l.length := by omega
    obtain ⟨c, ec⟩ : ∃ c, l[k] = c := ⟨_, rfl⟩
    have e1 : l[k]? = some c := by rw [List.getElem?_eq_getElem hlt, ec]
    by_cases hx : c = x
    · have hf : l.findIdx? (· = x) = some k := by
        rw [List.findIdx?_eq_some_iff_getElem]
        refine ⟨hlt, by simpa [ec] using hx, fun j hj => ?_⟩
        have := hp l[j] (by rw [List.mem_take_iff_getElem]; exact ⟨j, by omega, rfl⟩)
        simpa using this
      subst hx
      simp (decide := true) [ints, int, e1, ec, hlt, hlt', I64, idxL, hf]
    · have hx' : ¬ x = c := fun e => hx e.symm
      simp (decide := true) [ints, int, e1, ec, hlt, hlt', hx, hx', I64]
      exact ⟨⟨by omega, by omega⟩, k + 1, ⟨hlt, take_all hlt hp (by rw [ec]; exact hx)⟩, by omega, by omega⟩
  · have : k = l.length := by omega
    subst this
    have hf : l.findIdx? (· = x) = none := by
      rw [List.findIdx?_eq_none_iff]; intro y hy; have := hp y (by rwa [List.take_length]); simpa using this
    simp (decide := true) [ints, int, idxL, hf]
theorem containsI_ok (l : List Int) (x : Int) (hl : l.length < 2^62) : PureR Tryz.prog 116 [ints l, int x] (.bool (decide (x ∈ l))) := by
  refine pure_of_body mixed Tryz.func116 rfl call_116 ?_
  simp (decide := true) [Tryz.f116, int, ints]
  refine ECall.pure (by rfl) (index_ok l x hl) (fun _ => rfl) ?_
  have := idxL_mem l x
  simp (decide := true) [int, this]
theorem numHas_ok (l : List Int) (x : Int) (hl : l.length < 2^62) : PureR Tryz.prog 60 [ints l, int x] (.bool (decide (x ∈ l))) := by
  refine pure_of_body mixed Tryz.func60 rfl call_60 ?_
  simp (decide := true) [Tryz.f60, int, ints]
  refine ECall.pure (by rfl) (containsI_ok l x hl) (by simp) ?_
  simp (decide := true) [int]
end Go.V
namespace Go.V.Doc
open Go Go.Proofs
theorem pure_of_callC_frz {P : Program} {f : Nat} {ds : List D} {s : Sym} {k T sz nx : Nat} {rows : List (List D)} {mv : List Nat} {x y : D} (h : CallC P f (ds.map .d) [] 0 s nx [(k, .arr T sz rows)] mv) (ht : thaw k (.sl rows) s = .tup [.d x, .d y]) : PureR P f ds (.tup [x, y]) := by
  refine ⟨h.1, fun w E vs hE hr => ?_⟩
  have hm : Mods E (.of w) (memSt [] 0 0 []) (fun _ => .pointer none) act0 w :=
    ⟨⟨fun b hb hmay => hmay.elim (fun h => by have : w.heap.size ≤ b := h; have := hE.1 b hb; omega) (fun h => h), hE.2.over (Over.less fun b h => h.elim id False.elim)⟩, ⟨Nat.le_refl _, fun _ _ _ => rfl⟩, fun _ => rfl, rfl, rfl, Kept.refl _, by simp [memSt], by simp [memSt], by simp [memSt], by intro t s ht; simp [memSt, alook] at ht⟩
  have hov : Over w E w (Ex E (fun _ => Value.pointer none) []) := Over.less fun b hb => hb.elim id fun ⟨_, _, hx, _⟩ => by cases hx
  refine (h.2 E (.of w) _ w vs rfl hm (Sms.of_vals (Rvals.over hov _ _ hr))).mono fun e w' he => ?_
  obtain ⟨β', v, rfl, hm', hlo, hs⟩ := he
  let st1 : St := { n := 1, next := nx, slots := [(0, s)], own := [(k, .arr T sz rows)], moved := mv }
  have m1 : Mods E (.of w) st1 β' { tmps := #[v], defers := [] } w' := by
    refine ⟨hm'.outer, hm'.still, hm'.one, rfl, rfl, hm'.below, hm'.keys, hm'.own, hm'.apart, fun t s' hs' => ?_⟩
    simp only [st1, alook] at hs'
    split at hs'
    · rename_i e; subst e; cases hs'; exact ⟨hlo, by simpa using hs⟩
    · cases hs'
  have m2 := m1.frz k
  have hlk : st1.look k = some (.arr T sz rows) := by simp [st1, St.look, alook]
  unfold St.frz at m2
  rw [hlk] at m2
  have h0 := (m2.slots 0 (.tup [.d x, .d y]) (by simp [st1, thawSlots, alook, ht])).2
  have h1 : R w' (Ex E β' (thawOwn k (.sl rows) st1.own)) (.tup [x, y]) v := by
    simp only [Sm, Sms] at h0
    simp only [R, Rvals]
    simpa using h0
  exact ⟨v, rfl, hm'.below.below, h1.over (Over.less fun b hb => Or.inl hb) _ _⟩
def goneM (d : Dc) (m : Int) : List Int := m :: sortI (colN d.notes d.tiers.length m)
def goneL (d : Dc) (w : Int) : List Int := (kidsY d w 3).flatMap (goneM d)
def goneB (d : Dc) (w : Int) (n : Nt) : Bool := decide (n.id ∈ goneL d w)
def clearN (d : Dc) (w : Int) : List Nt := d.notes.filter fun n => !goneB d w n
def clearD (d : Dc) (w : Int) : Dc := { d with notes := clearN d w }
theorem kid_note {d : Dc} (h : Rgt d) {w r m : Int} (hm : m ∈ kidsY d w r) : ∃ n ∈ d.notes, n.id = m ∧ n.tier = roleI d.tiers r ∧ n.par = w := by
  unfold kidsY idsOf kidsN at hm
  obtain ⟨n, hn, rfl⟩ := List.mem_map.1 hm
  have hn := List.mem_filter.1 ((isort_perm _).mem_iff.1 hn)
  have hk := hn.2
  unfold kidB at hk
  simp only [Bool.and_eq_true, decide_eq_true_eq] at hk
  exact ⟨n, hn.1, rfl, hk.1.1.1, hk.1.1.2⟩
structure ClearOk (d : Dc) (w : Int) : Prop where
  few : (d.notes.filter (kidB d w (roleI d.tiers 3))).length < 20
  col : ∀ m ∈ kidsY d w 3, (colN d.notes d.tiers.length m).length ≤ 15
theorem kidsY_few {d : Dc} {w : Int} (h : ClearOk d w) : (kidsY d w 3).length < 20 := by
  unfold kidsY idsOf kidsN
  rw [List.length_map, (isort_perm _).length_eq]
  exact h.few
theorem goneM_len {d : Dc} {w : Int} (h : ClearOk d w) {m : Int} (hm : m ∈ kidsY d w 3) : (goneM d m).length ≤ 16 := by
  unfold goneM
  rw [List.length_cons, sortI_length]
  have := h.col m hm
  omega
theorem flat_len {d : Dc} {w : Int} (h : ClearOk d w) : ∀ l : List Int, (∀ m ∈ l, m ∈ kidsY d w 3) → (l.flatMap (goneM d)).length ≤ 16 * l.length
  | [], _ => Nat.le_refl _
  | m :: l, hl => by
    have h1 := goneM_len h (hl m List.mem_cons_self)
    have h2 := flat_len h l fun m hm => hl m (List.mem_cons_of_mem _ hm)
    simp only [List.flatMap_cons, List.length_append, List.length_cons]
    omega
abbrev idRow (l : List Int) : List (List D) := l.map fun n => [int n]
theorem clear_none {d : Dc} (hl : d.notes.length < 2^40) (ht : d.tiers.length < 2^40) (w : Int) (hn : readyB d = false) : PureR Tryz.prog 22 [docD d, int w] (.tup [docD ⟨0, .empty, 0, 0, [], [], []⟩, int 14]) := by
  refine pure_of_body mixed Tryz.func22 rfl call_22 ?_
  have hr := ready_ok d (by omega)
  rw [hn] at hr
  simp (decide := true) [Tryz.f22, docD, Dc.row, int]
  refine ECall.pure (by rfl) hr (fun _ => rfl) ?_
  simp (decide := true) [int]
  exact ⟨rfl, rfl, rfl⟩
theorem clear_word {d : Dc} (hl : d.notes.length < 2^40) (ht : d.tiers.length < 2^40) (w : Int) (hn : readyB d = true) (hw : isWordB d w = false) : PureR Tryz.prog 22 [docD d, int w] (.tup [docD ⟨0, .empty, 0, 0, [], [], []⟩, int 9]) := by
  refine pure_of_body mixed Tryz.func22 rfl call_22 ?_
  have hr := ready_ok d (by omega)
  have hg := get_ok32 d w (by omega) (by omega)
  rw [hn] at hr
  rw [hw] at hg
  simp (decide := true) [Tryz.f22, docD, Dc.row, int]
  refine ECall.pure (by rfl) hr (fun _ => rfl) ?_
  simp (decide := true) [int]
  refine ECall.pure (by rfl) hg (fun _ => rfl) ?_
  simp (decide := true) [Nt.row, int]
  exact ⟨rfl, rfl, rfl⟩
abbrev zeroCells : List Sym := [.d (int 0), .d (.str ⟨#[]⟩), .d (int 0), .d (int 0), .nils, .nils, .nils]
def cSt (d : Dc) (w : Int) (ks : List Int) (x : Nat × List Int) : St :=
  { n := 67, next := 4, slots := [(1, .d (int w)), (2, .bp 0 0), (4, .bp 1 0), (8, .ar 3), (32, .d (ints ks)), (33, .d (int ks.length)), (34, .d (int x.1))], own := [(0, .box 53 (docCells d)), (1, .box 53 zeroCells), (3, .arr 3 1 (idRow x.2))], moved := [3] }
def cSt9 (d : Dc) (w : Int) (ks : List Int) (k : Nat) (G : List Int) (m : Int) : St :=
  { cSt d w ks (k, G) with slots := (10, .d (int m)) :: (cSt d w ks (k, G)).slots }
set_option maxHeartbeats 32000000 in
theorem clear_okC {d : Dc} (h : Rgt d) (w : Int) (hr : readyB d = true) (hw : isWordB d w = true) (hc : ClearOk d w) :
    CallC Tryz.prog 22 [.d (docD d), .d (int w)] [] 0 (.tup [.agg [.d (int d.id), .d (.str d.name), .d (int d.len), .d (int d.day), .d (ints d.spk), .d (tiersD d.tiers), .ar 4], .d (int 0)]) 6 [(4, .arr 72 7 ((clearN d w).map Nt.row))] [3, 4] := by
  have hfew := h.few
  have ht20 := tiersZ h
  have hrd := ready_ok d (by omega)
  have hg := get_ok32 d w (by omega) (by omega)
  have hfi := find_ok32 d (by omega)
  have hk := kidsNG_ok d w (roleI d.tiers 3) (by omega) hc.few
  have hkf := kidsY_few hc
  rw [show idsOf (kidsN d w (roleI d.tiers 3)) = kidsY d w 3 from rfl] at hk
  rw [hr] at hrd
  rw [hw] at hg
  refine callC_of_body mixed Tryz.func22 rfl call_22 (by simp [Sym.los, Sym.lo]) ?_
  simp (decide := true) [Tryz.f22, docD, Dc.row, int]
  refine ECall.pure (by rfl) hrd (fun _ => rfl) ?_
  simp (decide := true) [int]
  refine ECall.pure (by rfl) hg (fun _ => rfl) ?_
  simp (decide := true) [Nt.row, int]
  refine scall_pure (by rfl) (by rfl) hfi (by simp [D.scalar]) ?_
  simp (decide := true) [placesD, int]
  refine scall_pureN (by rfl) (by rfl) hk ?_
  have hU : ∀ m ∈ kidsY d w 3, PureR Tryz.prog 59 [docD d, int m] (ints (sortI (colN d.notes d.tiers.length m))) := by
    intro m hm
    obtain ⟨n, hn, e, _⟩ := kid_note h hm
    have := (h.nok n hn).t0
    have := hc.col m hm
    rw [← e] at this ⊢
    exact under_ok d h (by omega) n hn _ (by omega) this
  have hfl := fun l hl => flat_len hc l hl
  have hcl : clearN d w = d.notes.filter fun n => !decide (n.id ∈ (kidsY d w 3).flatMap (goneM d)) := rfl
  generalize clearN d w = C at hcl ⊢
  generalize kidsY d w 3 = ks at hkf hU hfl hcl
  simp (decide := true) [int, ints]
  refine loop_ruleT mixed (fun k : Nat => cSt d w ks (k, (ks.take k).flatMap (goneM d))) (fun k => k ≤ ks.length) (fun k => ks.length - k) 0 (Nat.zero_le _) ?_ ?_
  · simp (decide := true) [cSt, int, ints]
  intro k hk
  by_cases hlt : k < ks.length
  case neg =>
    have : k = ks.length := by omega
    subst this
    rw [List.take_length]
    refine ev_sound mixed ?_
    have hGl := hfl ks fun m hm => hm
    generalize ks.flatMap (goneM d) = G at hGl hcl
    subst hcl
    simp (decide := true) [cSt, int, notesD]
    refine loop_ruleT mixed (fun k : Nat => { n := 67, next := 5, slots := [(2, .bp 0 0), (4, .bp 1 0), (8, .ar 3), (11, .ar 4), (48, .d (notesD d.notes)), (49, .d (int d.notes.length)), (50, .d (int k))], own := [(0, .box 53 (docCells d)), (1, .box 53 zeroCells), (3, .arr 3 1 (idRow G)), (4, .arr 72 7 (((d.notes.take k).filter fun n => !decide (n.id ∈ G)).map Nt.row))], moved := [3, 4] })
      (fun k => k ≤ d.notes.length) (fun k => d.notes.length - k) 0 (Nat.zero_le _) ?_ ?_
    · simp (decide := true) [int, notesD]
    intro k hk
    refine ev_sound mixed ?_
    by_cases hlt : k < d.notes.length
    case neg =>
      have : k = d.notes.length := by omega
      subst this
      rw [List.take_length]
      simp (decide := true) [int, notesD]
      exact rfl
    have hlt' : (k : Int) < d.notes.length := by omega
    obtain ⟨n, en⟩ : ∃ n, d.notes[k] = n := ⟨_, rfl⟩
    have e1 : d.notes[k]? = some n := by rw [List.getElem?_eq_getElem hlt, en]
    have hH := numHas_ok G n.id (by omega)
    have hsn : (d.notes.take (k + 1)).filter (fun n => !decide (n.id ∈ G)) = (d.notes.take k).filter (fun n => !decide (n.id ∈ G)) ++ (if n.id ∈ G then [] else [n]) := by
      rw [List.take_succ_eq_append_getElem hlt, List.filter_append, en]
      by_cases e : n.id ∈ G <;> simp [e]
    have hfk : ((d.notes.take k).filter fun n => !decide (n.id ∈ G)).length ≤ k := Nat.le_trans (List.length_filter_le _ _) (by rw [List.length_take]; exact Nat.min_le_left _ _)
    generalize (d.notes.take k).filter (fun n => !decide (n.id ∈ G)) = F at hsn hfk
    simp (decide := true) [int, notesD, Nt.row, hlt, hlt', en, e1, I64]
    refine ECall.pure (by rfl) hH (by simp [D.scalar]) ?_
    by_cases hg : n.id ∈ G
    · rw [if_pos hg, List.append_nil] at hsn
      simp (decide := true) [int, Nt.row, I64, hg]
      exact ⟨⟨by omega, by omega⟩, k + 1, hlt, by omega, by omega, by rw [hsn]⟩
    · rw [if_neg hg] at hsn
      simp (decide := true) [int, Nt.row, I64, hg, maxLen]
      exact ⟨by omega, by omega, ⟨by omega, by omega⟩, k + 1, hlt, by omega, by omega, by rw [hsn]; simp [Nt.row, int]⟩
  have hlt' : (k : Int) < ks.length := by omega
  obtain ⟨m, em⟩ : ∃ m, ks[k] = m := ⟨_, rfl⟩
  have em1 : ks[k]? = some m := by rw [List.getElem?_eq_getElem hlt, em]
  have hmk : m ∈ ks := by rw [← em]; exact List.getElem_mem hlt
  have hsn : (ks.take (k + 1)).flatMap (goneM d) = (ks.take k).flatMap (goneM d) ++ goneM d m := by
    rw [List.take_succ_eq_append_getElem hlt, List.flatMap_append, em]; simp
  have hgl : ((ks.take k).flatMap (goneM d)).length ≤ 16 * 20 := by
    have := hfl (ks.take k) fun m hm => List.mem_of_mem_take hm
    rw [List.length_take] at this
    omega
  have hml := hfl [m] (by simpa using hmk)
  simp only [List.flatMap_cons, List.flatMap_nil, List.append_nil, List.length_cons, List.length_nil] at hml
  have hUm := hU m hmk
  generalize (ks.take k).flatMap (goneM d) = G at hsn hgl
  refine cut_ev mixed 2 (cSt d w ks (k, G)) rfl ?_ ?_
  · simp (decide := true) [headC, cSt, int, ints, hlt, hlt']
  simp only [tailC]
  refine triple_seq (cSt d w ks (k, G ++ goneM d m)) ?_ ?_
  · refine triple_block (triple_seq (cSt9 d w ks k G m) ?_ ?_)
    · refine ev_sound mixed ?_
      simp (decide := true) [cSt, cSt9, int, ints, hlt, hlt', em, em1]
    · obtain ⟨S, hS⟩ : ∃ S : St, S = { cSt9 d w ks k G m with slots := (38, .ar 3) :: (39, .d (int m)) :: (40, .d (.sl [[int m]])) :: (42, .d (docD d)) :: (43, .d (int m)) :: (cSt9 d w ks k G m).slots } := ⟨_, rfl⟩
      refine draw_stage mixed 6 3 S ((S.renew 3 (.arr 3 1 (idRow (G ++ [m])))).put (some 41) (.ar 3)) 41 (.ar 3) (purge 3) (fun st => (st.renew 3 (.arr 3 1 (idRow (G ++ [m])))).put (some 41) (.ar 3)) _ (by rfl) (by rfl) (by rfl) (by rfl) (by rfl) rfl rfl rfl ?_ (turn_renew S 3 41 _) ?_ ?_ ?_
      · intro X w0 β a w hm
        subst hS
        refine ⟨rfl, rfl, rfl, rfl, rfl, fun t s hs hj hL => ?_⟩
        simp only [alook] at hs
        split at hs
        · rename_i e; exact (hL 0 _ (by omega) rfl (congrArg some e)).elim
        split at hs
        · rename_i e; exact (hL 1 _ (by omega) rfl (congrArg some e)).elim
        split at hs
        · rename_i e; exact (hL 2 _ (by omega) rfl (congrArg some e)).elim
        split at hs
        · rename_i e; exact (hL 4 _ (by omega) rfl (congrArg some e)).elim
        split at hs
        · rename_i e; exact (hL 5 _ (by omega) rfl (congrArg some e)).elim
        exact hs
      · intro i o hi hne ho
        have : i = 0 ∨ i = 1 ∨ i = 2 ∨ i = 4 ∨ i = 5 := by omega
        rcases this with rfl | rfl | rfl | rfl | rfl <;> simp only [List.getElem?_cons_zero, List.getElem?_cons_succ, Option.some.injEq] at ho <;> subst ho
        · refine pureOp_of (s := .ar 3) rfl rfl (by subst hS; simp [cSt9, cSt]) (by subst hS; simp [Sym.lo, cSt9, cSt]) ⟨by rfl, ?_⟩ (by subst hS; simp [alook]) (.inl ⟨5, by rfl⟩)
          subst hS; simp (decide := true) [cSt9, cSt, alook, St.val]
        · refine pureOp_of (s := .d (int m)) rfl rfl (by subst hS; simp [cSt9, cSt]) (by subst hS; simp [Sym.lo, cSt9, cSt]) ⟨by rfl, ?_⟩ (by subst hS; simp [alook]) (.inl ⟨5, by rfl⟩)
          subst hS; simp (decide := true) [cSt9, cSt, alook, St.val]
        · refine pureOp_of (s := .d (.sl [[int m]])) rfl rfl (by subst hS; simp [cSt9, cSt]) (by subst hS; simp [Sym.lo, cSt9, cSt]) ⟨by rfl, ?_⟩ (by subst hS; simp [alook]) (.inl ⟨5, by rfl⟩)
          subst hS; simp (decide := true) [cSt9, cSt, alook, St.val, int]
        · refine pureOp_of (s := .d (docD d)) rfl rfl (by subst hS; simp [cSt9, cSt]) (by subst hS; simp [Sym.lo, cSt9, cSt]) ⟨by rfl, ?_⟩ (by subst hS; simp [alook]) (.inr ⟨by subst hS; simp [St.put, St.renew, cSt9, cSt], by subst hS; simp [St.put, St.renew, Sym.lo, cSt9, cSt], ⟨by rfl, ?_⟩, by subst hS; simp [alook, St.put, St.renew, purgeSlots, purge, cSt9, cSt]⟩)
          · subst hS; simp (decide := true) [cSt9, cSt, alook, St.val, St.look, docD, Dc.row]
          · subst hS; simp (decide := true) [cSt9, cSt, alook, St.val, St.look, St.put, St.renew, renewOwn, purgeObj, purges, purge, purgeSlots, docD, Dc.row]
        · refine pureOp_of (s := .d (int m)) rfl rfl (by subst hS; simp [cSt9, cSt]) (by subst hS; simp [Sym.lo, cSt9, cSt]) ⟨by rfl, ?_⟩ (by subst hS; simp [alook]) (.inr ⟨by subst hS; simp [St.put, St.renew, cSt9, cSt], by subst hS; simp [St.put, St.renew, Sym.lo, cSt9, cSt], ⟨by rfl, ?_⟩, by subst hS; simp [alook, St.put, St.renew, purgeSlots, purge, cSt9, cSt]⟩)
          · subst hS; simp (decide := true) [cSt9, cSt, alook, St.val, St.look]
          · subst hS; simp (decide := true) [cSt9, cSt, alook, St.val, St.look, St.put, St.renew, purge, purgeSlots]
      · intro X w0 L' st hN hk β a w hm
        have h38 : alook st.slots 38 = some (.ar 3) := hk 38 (by simp [tmpsOf, Op.operands, Call.operands]) (.ar 3) (by subst hS; simp [alook]) (by simp)
        have h40 : alook st.slots 40 = some (.d (.sl [[int m]])) := hk 40 (by simp [tmpsOf, Op.operands, Call.operands]) (.d (.sl [[int m]])) (by subst hS; simp [alook]) (by simp)
        have hlk : alook st.own 3 = some (.arr 3 1 (idRow G)) := by rw [hN.own]; subst hS; simp [cSt9, cSt, alook]
        have hnn : st.n = 67 := by rw [hN.n]; subst hS; rfl
        refine dop_sound hm ?_
        simp (decide := true) [dop, hnn, h38, h40, hlk, int, maxLen]
        exact ⟨by omega, by omega, rfl⟩
      · refine ftots_sound (by simp) rfl (fun i h1 h2 => ?_) ?_
        · have : i = 7 ∨ i = 8 := by simp at h2; omega
          rcases this with rfl | rfl <;> rfl
        subst hS
        simp (decide := true) [cSt9, cSt, int]
        refine ECall.pure (by rfl) hUm (by simp [docD, Dc.row]) ?_
        have hgm : goneM d m = m :: sortI (colN d.notes d.tiers.length m) := rfl
        rw [hgm] at hml ⊢
        rw [List.length_cons] at hml
        generalize sortI (colN d.notes d.tiers.length m) = R at *
        simp (decide := true) [cSt9, cSt, int, ints, maxLen]
        exact ⟨by omega, by omega⟩
  · refine ev_sound mixed ?_
    simp (decide := true) [cSt, int, ints, I64]
    exact ⟨⟨by omega, by omega⟩, k + 1, hlt, by omega, by omega, by rw [hsn]; simp [int]⟩
theorem clear_ok {d : Dc} (h : Rgt d) (w : Int) (hr : readyB d = true) (hw : isWordB d w = true) (hc : ClearOk d w) :
    PureR Tryz.prog 22 [docD d, int w] (.tup [docD (clearD d w), int 0]) :=
  pure_of_callC_frz (ds := [docD d, int w]) (clear_okC h w hr hw hc) (by simp [thaw, thaws, mkAgg, docD, Dc.row, clearD, notesD])
end Go.V.Doc
namespace Go.V.Doc
open Go Go.Proofs
theorem triple_nilcell {P : Program} {c : Code} {Q : DE → St → Prop} {st : St} {id T : Nat} (e sz : Nat) {pre post : List Sym} (h : st.look id = some (.box T (pre ++ .nils :: post))) (ht : Triple P c Q { st.new (.arr e sz []) with own := aset id (.box T (pre ++ .ar st.next :: post)) (st.new (.arr e sz [])).own }) : Triple P c Q st := by
  intro X w0 β a w hm
  refine ht X w0 (fun i => if i = st.next then .slice none 0 0 else β i) a w ?_
  have hm' := hm.newNil e sz
  obtain ⟨hid, hlo, b, vs, h1, hN, hh, hs, ho⟩ := hm.obj h
  have hne : ¬ st.next = id := by omega
  have hne' : ¬ id = st.next := by omega
  have h' : (st.new (.arr e sz [])).look id = some (.box T (pre ++ .nils :: post)) := by simp only [St.look, St.new, alook, if_neg hne]; exact h
  have hlo' := (hm'.obj h').2.1
  obtain ⟨b2, vs2, g1, gN, gh, gs, go⟩ := (hm'.obj h').2.2
  have lo2 : ∀ (l m : List Sym) (n : Nat), Sym.los n (l ++ .nils :: m) → ∀ s, Sym.lo n s → Sym.los n (l ++ s :: m) := by
    intro l
    induction l with
    | nil => intro m n h s hs; simp only [List.nil_append, Sym.los] at h ⊢; exact ⟨hs, h.2⟩
    | cons a l ih => intro m n h s hs; simp only [List.cons_append, Sym.los] at h ⊢; exact ⟨h.1, ih m n h.2 s hs⟩
  have sm2 : ∀ (l m : List Sym) (vs : List Value) (E : Nat → Prop) (β' : Nat → Value) (i : Nat), β' i = .slice none 0 0 → Sms w E β' (l ++ .nils :: m) vs → Sms w E β' (l ++ .ar i :: m) vs := by
    intro l
    induction l with
    | nil =>
      intro m vs E β' i hi h
      simp only [List.nil_append, Sms] at h ⊢
      obtain ⟨v, r, rfl, h1, h2⟩ := h
      exact ⟨v, r, rfl, by simp only [Sm] at h1 ⊢; rw [h1, hi], h2⟩
    | cons a l ih =>
      intro m vs E β' i hi h
      simp only [List.cons_append, Sms] at h ⊢
      obtain ⟨v, r, rfl, h1, h2⟩ := h
      exact ⟨v, r, rfl, h1, ih m r E β' i hi h2⟩
  refine hm'.update h' (b := b2) (by have e := congrArg blk g1; exact e) gN (fun _ _ => rfl) rfl rfl rfl rfl (Drw.refl _) ?_ ?_
  · simp only [Obj'.lo] at hlo' ⊢
    exact lo2 _ _ _ hlo' _ (by simp [Sym.lo, St.new])
  · exact ⟨b2, vs2, g1, gN, gh, sm2 _ _ _ _ _ _ (by simp) gs, go⟩
def belowC (d : Dc) (w : Int) (c : Nt) : Bool := decide (c.tier = roleI d.tiers 3) && decide (c.par = w)
def belowB (d : Dc) (w : Int) (id : Int) : Bool := (chainE d (getN d.notes id)).any (belowC d w)
set_option maxHeartbeats 16000000 in
theorem below_ok {d : Dc} (h : Rgt d) (w id : Int) : PureR Tryz.prog 61 [docD d, int w, int id] (.bool (belowB d w id)) := by
  have hfew := h.few
  have ht20 := tiersZ h
  have hC := refChain_ok d h id
  have h3 := refRole32_ok d 3 (by omega)
  have hin : ∀ c ∈ chainE d (getN d.notes id), c ∈ d.notes := by
    intro c hc
    unfold chainE at hc
    split at hc
    · rename_i hb; exact chain_in h (getN_mem hb).1 hc
    · cases hc
  have hlen : (chainE d (getN d.notes id)).length ≤ 21 := by
    unfold chainE
    split
    · rename_i hb
      have hm := (getN_mem hb).1
      have := (chain_mem h _ _ hm (Nat.le_refl _)).2
      have := (h.nok _ hm).t1
      have := (h.nok _ hm).t0
      omega
    · simp
  unfold belowB
  generalize chainE d (getN d.notes id) = CH at *
  refine pure_of_body mixed Tryz.func61 rfl call_61 ?_
  simp (decide := true) [Tryz.f61, docD, Dc.row, int]
  refine ECall.pure (by rfl) hC (by simp [docD, Dc.row]) ?_
  simp (decide := true) [int]
  refine loop_ruleT mixed (fun k : Nat => { n := 40, next := 1, slots := [(1, .d (int w)), (3, .bp 0 0), (7, .d (ints (idsOf CH))), (8, .d (int k))], own := [(0, .box 53 (docCells d))] })
    (fun k => k ≤ CH.length ∧ (CH.take k).any (belowC d w) = false) (fun k => CH.length - k) 0 ⟨Nat.zero_le _, by simp⟩ ?_ ?_
  · simp (decide := true) [int, ints]
  rintro k ⟨hk, hp⟩
  refine ev_sound mixed ?_
  have hil : (idsOf CH).length = CH.length := by simp [idsOf]
  by_cases hlt : k < CH.length
  case neg =>
    have : k = CH.length := by omega
    subst this
    rw [List.take_length] at hp
    rw [hp]
    simp (decide := true) [int, ints, hil]
  have hlt' : (k : Int) < CH.length := by omega
  obtain ⟨c, ec⟩ : ∃ c, CH[k] = c := ⟨_, rfl⟩
  have hcm := hin CH[k] (List.getElem_mem hlt)
  rw [ec] at hcm
  have hids : (idsOf CH)[k]? = some c.id := by simp [idsOf, List.getElem?_eq_getElem hlt, ec]
  have hkid : k < (idsOf CH).length := by omega
  have hidv : (idsOf CH)[k] = c.id := Option.some.inj (by rw [← List.getElem?_eq_getElem hkid]; exact hids)
  have hG := refGet_ok d c.id (by omega)
  rw [getN_of h hcm] at hG
  simp (decide := true) [int, ints, hil, hlt, hlt', I64]
  refine draw_f mixed 12 [] (by rfl) (by rfl) (by rfl) (by rfl) ?_
  simp (decide := true) [int, ints, hil, hlt, hlt', hkid, hidv, I64]
  refine scall_pure (by rfl) (by rfl) hG (by simp [docD, Dc.row]) ?_
  simp (decide := true) [getD', Nt.row, int, I64]
  refine ⟨by rfl, ?_⟩
  have hsn : (CH.take (k + 1)).any (belowC d w) = belowC d w c := by
    rw [List.take_succ_eq_append_getElem hlt, List.any_append, hp, ec]; simp
  have hall : belowC d w c = true → CH.any (belowC d w) = true := fun e => List.any_eq_true.2 ⟨c, by rw [← ec]; exact List.getElem_mem hlt, e⟩
  refine scall_pure (by rfl) (by rfl) h3 (by simp [D.scalar]) ?_
  by_cases c1 : c.tier = roleI d.tiers 3
  · by_cases c2 : c.par = w
    · rw [hall (by simp [belowC, c1, c2])]
      simp (decide := true) [int, ints, c1, c2, I64]
    · have hb : belowC d w c = false := by simp [belowC, c2]
      rw [hb] at hsn
      simp (decide := true) [int, ints, c1, c2, I64]
      exact ⟨⟨by omega, by omega⟩, k + 1, ⟨hlt, fun x hx => by have := List.any_eq_false.1 hsn x hx; simpa using this⟩, by omega, by omega⟩
  · have hb : belowC d w c = false := by simp [belowC, c1]
    rw [hb] at hsn
    simp (decide := true) [int, ints, c1, I64]
    exact ⟨⟨by omega, by omega⟩, k + 1, ⟨hlt, fun x hx => by have := List.any_eq_false.1 hsn x hx; simpa using this⟩, by omega, by omega⟩
def refClearN (d : Dc) (w : Int) : List Nt := d.notes.filter fun n => !belowB d w n.id
theorem refClear_none {d : Dc} (hl : d.notes.length < 2^40) (ht : d.tiers.length < 2^40) (w : Int) (hn : readyB d = false) : PureR Tryz.prog 23 [docD d, int w] (.tup [docD ⟨0, .empty, 0, 0, [], [], []⟩, int 14]) := by
  refine pure_of_body mixed Tryz.func23 rfl call_23 ?_
  have hr := refReady_ok d (by omega)
  rw [hn] at hr
  simp (decide := true) [Tryz.f23, docD, Dc.row, int]
  refine ECall.pure (by rfl) hr (fun _ => rfl) ?_
  simp (decide := true) [int]
  exact ⟨rfl, rfl, rfl⟩
theorem refClear_word {d : Dc} (hl : d.notes.length < 2^40) (ht : d.tiers.length < 2^40) (w : Int) (hn : readyB d = true) (hw : isWordB d w = false) : PureR Tryz.prog 23 [docD d, int w] (.tup [docD ⟨0, .empty, 0, 0, [], [], []⟩, int 9]) := by
  refine pure_of_body mixed Tryz.func23 rfl call_23 ?_
  have hr := refReady_ok d (by omega)
  have hg := refIsWord_ok d w (by omega) (by omega)
  rw [hn] at hr
  rw [hw] at hg
  simp (decide := true) [Tryz.f23, docD, Dc.row, int]
  refine ECall.pure (by rfl) hr (fun _ => rfl) ?_
  simp (decide := true) [int]
  refine ECall.pure (by rfl) hg (fun _ => rfl) ?_
  simp (decide := true) [int]
  exact ⟨rfl, rfl, rfl⟩
set_option maxHeartbeats 32000000 in
theorem refClear_okC {d : Dc} (h : Rgt d) (w : Int) (hr : readyB d = true) (hw : isWordB d w = true) :
    CallC Tryz.prog 23 [.d (docD d), .d (int w)] [] 0 (.tup [.agg [.d (int d.id), .d (.str d.name), .d (int d.len), .d (int d.day), .d (ints d.spk), .d (tiersD d.tiers), .ar 3], .d (int 0)]) 6 [(3, .arr 72 7 ((refClearN d w).map Nt.row))] [3] := by
  have hfew := h.few
  have ht20 := tiersZ h
  have hrd := refReady_ok d (by omega)
  have hg := refIsWord_ok d w (by omega) (by omega)
  rw [hr] at hrd
  rw [hw] at hg
  refine callC_of_body mixed Tryz.func23 rfl call_23 (by simp [Sym.los, Sym.lo]) ?_
  simp (decide := true) [Tryz.f23, docD, Dc.row, int]
  refine ECall.pure (by rfl) hrd (fun _ => rfl) ?_
  simp (decide := true) [int]
  refine ECall.pure (by rfl) hg (fun _ => rfl) ?_
  simp (decide := true) [int, tiersD]
  refine triple_nilcell (id := 2) (T := 53) 72 7 (pre := [.d (int d.id), .d (.str d.name), .d (int d.len), .d (int d.day), .d (ints d.spk), .d (tiersD d.tiers)]) (post := []) rfl ?_
  unfold refClearN
  refine loop_ruleT mixed (fun k : Nat => { n := 50, next := 4, slots := [(1, .d (int w)), (2, .bp 0 0), (4, .bp 1 0), (6, .bp 2 0), (7, .d (int k))], own := [(0, .box 53 (docCells d)), (1, .box 53 zeroCells), (2, .box 53 [.d (int d.id), .d (.str d.name), .d (int d.len), .d (int d.day), .d (ints d.spk), .d (tiersD d.tiers), .ar 3]), (3, .arr 72 7 (((d.notes.take k).filter fun n => !belowB d w n.id).map Nt.row))], moved := [3] })
    (fun k => k ≤ d.notes.length) (fun k => d.notes.length - k) 0 (Nat.zero_le _) ?_ ?_
  · simp (decide := true) [int, tiersD]
  intro k hk
  refine ev_sound mixed ?_
  by_cases hlt : k < d.notes.length
  case neg =>
    have : k = d.notes.length := by omega
    subst this
    rw [List.take_length]
    simp (decide := true) [int, notesD]
    exact rfl
  have hlt' : (k : Int) < d.notes.length := by omega
  obtain ⟨n, en⟩ : ∃ n, d.notes[k] = n := ⟨_, rfl⟩
  have e1 : d.notes[k]? = some n := by rw [List.getElem?_eq_getElem hlt, en]
  have hB := below_ok h w n.id
  have hsn : (d.notes.take (k + 1)).filter (fun n => !belowB d w n.id) = (d.notes.take k).filter (fun n => !belowB d w n.id) ++ (if belowB d w n.id = true then [] else [n]) := by
    rw [List.take_succ_eq_append_getElem hlt, List.filter_append, en]
    by_cases e : belowB d w n.id = true <;> simp [e]
  have hfk : ((d.notes.take k).filter fun n => !belowB d w n.id).length ≤ k := Nat.le_trans (List.length_filter_le _ _) (by rw [List.length_take]; exact Nat.min_le_left _ _)
  generalize hF : (d.notes.take k).filter (fun n => !belowB d w n.id) = F at hsn hfk
  simp (decide := true) [int, notesD, Nt.row, hlt, hlt', en, e1, I64]
  refine scall_pure (by rfl) (by rfl) hB (by simp [D.scalar]) ?_
  by_cases hg : belowB d w n.id = true
  · rw [if_pos hg, List.append_nil] at hsn
    rw [hg]
    simp (decide := true) [int, Nt.row, I64]
    exact ⟨⟨by omega, by omega⟩, k + 1, hlt, by omega, by omega, by rw [hsn]⟩
  · rw [if_neg hg] at hsn
    rw [Bool.not_eq_true] at hg
    rw [hg]
    simp (decide := true) [int, Nt.row, I64, maxLen]
    refine draw_t mixed 8 (by rfl) (by rfl) (by rfl) (by rfl) (by simp) ?_
    simp (decide := true) [int, notesD, Nt.row, hlt, hlt', en, e1, I64, maxLen]
    exact ⟨by omega, by omega, ⟨by omega, by omega⟩, k + 1, hlt, by omega, by omega, by rw [hsn]; simp [Nt.row, int]⟩
theorem refClear_ok {d : Dc} (h : Rgt d) (w : Int) (hr : readyB d = true) (hw : isWordB d w = true) :
    PureR Tryz.prog 23 [docD d, int w] (.tup [docD { d with notes := refClearN d w }, int 0]) :=
  pure_of_callC_frz (ds := [docD d, int w]) (refClear_okC h w hr hw) (by simp [thaw, thaws, mkAgg, docD, Dc.row, notesD])
end Go.V.Doc
namespace Go.V.Doc
open Go Go.Proofs
theorem dc_eq {a b : Dc} : a = b ↔ a.id = b.id ∧ a.name = b.name ∧ a.len = b.len ∧ a.day = b.day ∧ a.spk = b.spk ∧ a.tiers = b.tiers ∧ a.notes = b.notes := by cases a; cases b; simp
abbrev recCells (d : Dc) : List Sym := [.d (int d.id), .d (.str d.name), .d (int d.len), .d (int d.day), .d (ints d.spk)]
set_option maxHeartbeats 2000000 in
theorem refSame_ok (a b : Dc) (hb : b.fit) : PureR Tryz.prog 24 [docD a, docD b] (.bool (decide (a = b))) := by
  obtain ⟨f1, f2, f3⟩ := hb
  refine pure_of_body mixed Tryz.func24 rfl call_24 ?_
  simp (decide := true) [Tryz.f24, docD, Dc.row]
  refine draw_x mixed (mkG_good can_all) no_call [2, 3, 4, 5, 6] (st' := { n := 99, next := 4, slots := [(2, .bp 0 0), (3, .bp 1 0), (4, .d (.bool false)), (5, .bp 2 0), (6, .bp 3 0)], own := [(2, .box 49 (recCells a)), (3, .box 49 (recCells b)), (1, .box 53 (docCells b)), (0, .box 53 (docCells a))] }) (by kernel_rfl) ?_
  by_cases h4 : a.id = b.id
  case neg => simp (decide := true) [int, h4, dc_eq]
  by_cases h5 : a.name = b.name
  case neg => simp (decide := true) [int, h4, h5, dc_eq]
  by_cases h6 : a.len = b.len
  case neg => simp (decide := true) [int, h4, h5, h6, dc_eq]
  by_cases h7 : a.day = b.day
  case neg => simp (decide := true) [int, h4, h5, h6, h7, dc_eq]
  simp (decide := true) [int, h4, h5, h6, h7]
  refine ECall.pure (by rfl) (ints_ok a.spk b.spk (by omega)) (by simp) ?_
  by_cases h1 : a.spk = b.spk
  case neg => simp (decide := true) [h1, dc_eq]
  by_cases l2 : a.tiers.length = b.tiers.length
  case neg =>
    have : ¬ a.tiers = b.tiers := fun e => l2 (by rw [e])
    have l2' : ¬ (a.tiers.length : Int) = b.tiers.length := by omega
    simp (decide := true) [h1, dc_eq, this, l2, l2', int, tiersD, notesD]
  by_cases l3 : a.notes.length = b.notes.length
  case neg =>
    have : ¬ a.notes = b.notes := fun e => l3 (by rw [e])
    have l3' : ¬ (a.notes.length : Int) = b.notes.length := by omega
    simp (decide := true) [h1, dc_eq, this, l2, l3, l3', int, tiersD, notesD]
  simp (decide := true) [h1, l2, l3, int, tiersD, notesD]
  refine loop_rule mixed (fun k : Nat => { n := 99, next := 2, slots := [(2, .bp 0 0), (3, .bp 1 0), (7, .d (.int .i64 k))], own := [(0, .box 53 (docCells a)), (1, .box 53 (docCells b))] })
    (fun k => k ≤ a.tiers.length ∧ a.tiers.take k = b.tiers.take k) (fun k => a.tiers.length - k) 0 (by simp) (by simp (decide := true) [tiersD, notesD, h1, int]) ?_
  intro k ⟨hk, hp⟩
  by_cases hlt : k < a.tiers.length
  · have e1 : a.tiers[k]? = some a.tiers[k] := List.getElem?_eq_getElem hlt
    have e2 : b.tiers[k]? = some (b.tiers[k]'(by omega)) := List.getElem?_eq_getElem (by omega)
    have hlt' : k < b.tiers.length := by omega
    simp (decide := true) [tiersD, Tir.row, int, e1, e2, hlt, hlt', I64]
    refine ⟨fun hne e => ?_, fun g1 g2 g3 g4 => ⟨by omega, k + 1, ⟨hlt, ?_⟩, by omega, by omega⟩⟩
    · rw [dc_eq] at e
      obtain ⟨_, _, _, _, _, e, _⟩ := e
      simp [e] at hne
    · have he : a.tiers[k] = b.tiers[k] := by
        rcases hA : a.tiers[k] with ⟨x1, x2, x3, x4⟩
        rcases hB : b.tiers[k] with ⟨y1, y2, y3, y4⟩
        rw [hA, hB] at g1 g2 g3 g4
        simp only at g1 g2 g3 g4
        rw [g1, g2, g3, g4]
      rw [take_snoc' hlt, take_snoc' hlt', hp, he]
  · have : k = a.tiers.length := by omega
    subst this
    have ht : a.tiers = b.tiers := by rw [List.take_length, l2, List.take_length] at hp; exact hp
    simp (decide := true) [tiersD, notesD]
    refine loop_rule mixed (fun k : Nat => { n := 99, next := 2, slots := [(2, .bp 0 0), (3, .bp 1 0), (8, .d (.int .i64 k))], own := [(0, .box 53 (docCells a)), (1, .box 53 (docCells b))] })
      (fun k => k ≤ a.notes.length ∧ a.notes.take k = b.notes.take k) (fun k => a.notes.length - k) 0 (by simp) (by simp (decide := true) [tiersD, notesD, h1, int]) ?_
    intro k ⟨hk, hp⟩
    by_cases hlt : k < a.notes.length
    · have e1 : a.notes[k]? = some a.notes[k] := List.getElem?_eq_getElem hlt
      have e2 : b.notes[k]? = some (b.notes[k]'(by omega)) := List.getElem?_eq_getElem (by omega)
      have hlt' : k < b.notes.length := by omega
      simp (decide := true) [notesD, Nt.row, int, e1, e2, hlt, hlt', I64]
      refine ⟨fun hne e => ?_, fun g1 g2 g3 g4 g5 g6 g7 => ⟨by omega, k + 1, ⟨hlt, ?_⟩, by omega, by omega⟩⟩
      · rw [dc_eq] at e
        obtain ⟨_, _, _, _, _, _, e⟩ := e
        simp [e] at hne
      · have he : a.notes[k] = b.notes[k] := by
          rcases hA : a.notes[k] with ⟨x1, x2, x3, x4, x5, x6, x7⟩
          rcases hB : b.notes[k] with ⟨y1, y2, y3, y4, y5, y6, y7⟩
          rw [hA, hB] at g1 g2 g3 g4 g5 g6 g7
          simp only at g1 g2 g3 g4 g5 g6 g7
          rw [g1, g2, g3, g4, g5, g6, g7]
        rw [take_snoc' hlt, take_snoc' hlt', hp, he]
    · have : k = a.notes.length := by omega
      subst this
      have hn : a.notes = b.notes := by rw [List.take_length, l3, List.take_length] at hp; exact hp
      simp (decide := true) [notesD, dc_eq, h1, h4, h5, h6, h7, ht, hn]
end Go.V.Doc
namespace Go.V.Doc
open Go Go.Proofs
theorem kidsY_mem {d : Dc} (h : Rgt d) {w r : Int} {c : Nt} (hc : c ∈ d.notes) (h1 : c.tier = roleI d.tiers r) (h2 : c.par = w) : c.id ∈ kidsY d w r := by
  unfold kidsY idsOf kidsN
  refine List.mem_map.2 ⟨c, (isort_perm _).mem_iff.2 (List.mem_filter.2 ⟨hc, ?_⟩), rfl⟩
  have t0 := (h.nok c hc).t0
  have t1 := (h.nok c hc).t1
  rw [h1] at t0 t1
  simp [kidB, h1, h2, t0, t1]
theorem gone_iff {d : Dc} (h : Rgt d) {w : Int} {n : Nt} (hn : n ∈ d.notes) : n.id ∈ goneL d w ↔ ∃ c ∈ chainN d n, c.tier = roleI d.tiers 3 ∧ c.par = w := by
  unfold goneL
  rw [List.mem_flatMap]
  constructor
  · rintro ⟨m, hm, hx⟩
    obtain ⟨c, hc, rfl, q1, q2⟩ := kid_note h hm
    have t0 := (h.nok c hc).t0
    refine ⟨c, ?_, q1, q2⟩
    unfold goneM at hx
    rcases List.mem_cons.1 hx with e | hx
    · obtain rfl := ids_uniq h hn hc e
      exact chain_self h hn
    · have hx := (sortI_perm _).mem_iff.1 hx
      obtain ⟨m', hm', e, hch⟩ := (col_mem h d.tiers.length c hc (by omega) n.id).1 hx
      obtain rfl := ids_uniq h hm' hn e
      rw [(chain_step h hm').1]
      exact List.mem_cons_of_mem _ hch
  · rintro ⟨c, hc, q1, q2⟩
    have hcm := chain_in h hn hc
    have t0 := (h.nok c hcm).t0
    refine ⟨c.id, kidsY_mem h hcm q1 q2, ?_⟩
    unfold goneM
    rw [(chain_step h hn).1] at hc
    rcases List.mem_cons.1 hc with rfl | hc
    · exact List.mem_cons_self
    · exact List.mem_cons_of_mem _ ((sortI_perm _).mem_iff.2 ((col_mem h d.tiers.length c hcm (by omega) n.id).2 ⟨n, hn, rfl, hc⟩))
theorem clear_eq {d : Dc} (h : Rgt d) (w : Int) : refClearN d w = clearN d w := by
  unfold refClearN clearN
  refine List.filter_congr fun n hn => ?_
  congr 1
  unfold belowB goneB
  rw [getN_of h hn, Bool.eq_iff_iff, List.any_eq_true, decide_eq_true_eq, gone_iff h hn]
  unfold chainE belowC
  simp only [if_true, Bool.and_eq_true, decide_eq_true_eq]
theorem clearOk_of {d : Dc} (h : Rgt d) (hl : d.notes.length ≤ 15) (w : Int) : ClearOk d w where
  few := by have := List.length_filter_le (kidB d w (roleI d.tiers 3)) d.notes; omega
  col := fun m hm => by
    obtain ⟨n, hn, rfl, _⟩ := kid_note h hm
    have := (h.nok n hn).t0
    have := col_len h (f := d.tiers.length) hn (by omega)
    omega
def zeroD : Dc := ⟨0, .empty, 0, 0, [], [], []⟩
def clearE (d : Dc) (w : Int) : Dc × Int := if readyB d = false then (zeroD, 14) else if isWordB d w = false then (zeroD, 9) else (clearD d w, 0)
theorem clear_R {d : Dc} (h : Rgt d) (w : Int) (hc : ClearOk d w) : PureR Tryz.prog 22 [docD d, int w] (.tup [docD (clearE d w).1, int (clearE d w).2]) := by
  have := h.few
  have := tiersZ h
  unfold clearE
  cases hr : readyB d with
  | false => rw [if_pos rfl]; exact clear_none (by omega) (by omega) w hr
  | true =>
    rw [if_neg (by decide)]
    cases hw : isWordB d w with
    | false => rw [if_pos rfl]; exact clear_word (by omega) (by omega) w hr hw
    | true => rw [if_neg (by decide)]; exact clear_ok h w hr hw hc
theorem refClear_R {d : Dc} (h : Rgt d) (w : Int) : PureR Tryz.prog 23 [docD d, int w] (.tup [docD (clearE d w).1, int (clearE d w).2]) := by
  have := h.few
  have := tiersZ h
  unfold clearE
  cases hr : readyB d with
  | false => rw [if_pos rfl]; exact refClear_none (by omega) (by omega) w hr
  | true =>
    rw [if_neg (by decide)]
    cases hw : isWordB d w with
    | false => rw [if_pos rfl]; exact refClear_word (by omega) (by omega) w hr hw
    | true =>
      rw [if_neg (by decide)]
      have := refClear_ok h w hr hw
      rw [clear_eq h] at this
      exact this
theorem clearE_fit {d : Dc} (h : d.fit) (w : Int) : (clearE d w).1.fit := by
  unfold clearE
  split
  · exact ⟨by simp [zeroD], by simp [zeroD], by simp [zeroD]⟩
  · split
    · exact ⟨by simp [zeroD], by simp [zeroD], by simp [zeroD]⟩
    · refine ⟨?_, h.tiers, h.spk⟩
      have h1 := h.notes
      have h2 : (clearN d w).length ≤ d.notes.length := List.length_filter_le _ _
      simp only [clearD]
      omega
set_option maxHeartbeats 16000000 in
theorem law_clears (d : Dc) (w : Int) (hs : ∀ t ∈ d.tiers, t.name.size ≤ 9223372036854775807) (hx : ∀ n ∈ d.notes, n.text.size ≤ 9223372036854775807) : PureR Tryz.prog 5 [docD d, int w] (.bool true) := by
  refine pure_of_body mixed Tryz.func5 rfl call_5 ?_
  simp (decide := true) [Tryz.f5, docD, Dc.row, int]
  refine ECall.pure (by rfl) (light_ok d hs hx) (fun _ => rfl) ?_
  cases hl : lightP d
  · simp (decide := true)
    refine ECall.pure (by rfl) awake32_R (fun _ => rfl) ?_
    simp (decide := true)
  obtain ⟨h1, h2, h3, hr⟩ := lightP_spec hl
  have hA := clear_R hr w (clearOk_of hr (by omega) w)
  have hB := refClear_R hr w
  have hS := refSame_ok (clearE d w).1 (clearE d w).1 (clearE_fit ⟨by omega, by omega, by omega⟩ w)
  rw [decide_eq_true rfl] at hS
  generalize clearE d w = z at *
  obtain ⟨x, e⟩ := z
  simp only at hA hB hS
  simp (decide := true) [int]
  refine ECall.pure (by rfl) hA (by simp) ?_
  simp (decide := true) [int, docD, Dc.row]
  refine ECall.pure (by rfl) hB (by simp) ?_
  simp (decide := true) [int, docD, Dc.row]
  refine ECall.pure (by rfl) hS (fun _ => rfl) ?_
  simp (decide := true) [int, docD, Dc.row]
  refine ECall.pure (by rfl) awake32_R (fun _ => rfl) ?_
  simp (decide := true) [int]
end Go.V.Doc

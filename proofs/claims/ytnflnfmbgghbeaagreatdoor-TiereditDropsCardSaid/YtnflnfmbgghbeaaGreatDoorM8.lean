/- Contracts and plain laws of this seat: part M8. It needs no conditions. -/
import Derived.Test.YtnflnfmbgghbeaaGreatDoorM2
import Derived.Test.YtnflnfmbgghbeaaGreatDoorM4
import Derived.Test.YtnflnfmbgghbeaaGreatDoorM6
import Derived.Test.YtnflnfmbgghbeaaGreatDoorM5
set_option linter.unusedVariables false
set_option linter.unusedSimpArgs false
set_option linter.unusedSectionVars false
set_option maxRecDepth 100000
namespace Go.V
open Go Go.Proofs
noncomputable def mkGm : XG := { mkGs with mf := fun f => Nat.beq f 40 }
theorem mkGm_good : XGood Tryz.prog mkGm := by
  have g := mkGs_good
  exact ⟨g.ti, g.zf, g.ek, g.fn, g.kn, g.kc⟩
theorem pure_of_isTm {f k : Nat} (h : isT (xcall mkGm (xdraw mkGm) k f [] [] 0) = true) : PureR Tryz.prog f [] (.bool true) := by
  have hg := run_sound mixed_X mkGm_good k
  unfold isT at h
  split at h
  · rename_i nx own mv hr
    have := hg _ _ _ _ _ hr (by simp [Sym.los])
    exact pureR_of_callC (ds := []) this
  · cases h
theorem awake13_run : isT (xcall mkGm (xdraw mkGm) 60 14 [] [] 0) = true := by kernel_rfl
theorem awake13_R : PureR Tryz.prog 14 [] (.bool true) := pure_of_isTm awake13_run
end Go.V
namespace Go.V
open Go Go.Proofs
theorem lends_ds (look : Nat → Option Obj') : ∀ (l : List D), lends look (l.map .d) = some (l, false)
  | [] => rfl
  | d :: r => by simp only [List.map_cons, lends, lend, lends_ds look r]; rfl
def idxI {α : Type} (p : α → Bool) (l : List α) : Int := match l.findIdx? p with
  | some k => k
  | none => -1
theorem idxI_hit {α : Type} {p : α → Bool} {l : List α} {k : Nat} (h : k < l.length) (hp : ∀ e ∈ l.take k, p e = false) (he : p l[k] = true) : l.findIdx? p = some k := by
  rw [List.findIdx?_eq_some_iff_getElem]
  refine ⟨h, he, fun j hj => ?_⟩
  have := hp l[j] (by rw [List.mem_take_iff_getElem]; exact ⟨j, by omega, rfl⟩)
  simpa using this
theorem idxI_miss {α : Type} {p : α → Bool} {l : List α} (hp : ∀ e ∈ l, p e = false) : l.findIdx? p = none := by
  rw [List.findIdx?_eq_none_iff]; exact hp
theorem indexN_ok (l : List Nt) (hl : l.length < 2^62) (f : Nat) (caps : List D) (p : Nt → Bool) (hf : ∀ x ∈ l, PureR Tryz.prog f (.agg x.row :: caps) (.bool (p x))) :
    PureR Tryz.prog 75 [notesD l, .fn f caps] (int (idxI p l)) := by
  refine pure_of_body mixed Tryz.func75 rfl call_75 ?_
  simp [Tryz.f75, notesD]
  refine loop_rule mixed (fun k : Nat => { n := 19, next := 0, slots := [(0, .d (notesD l)), (1, .d (.fn f caps)), (6, .d (notesD l)), (7, .d (.int .i64 l.length)), (8, .d (.int .i64 k))], own := [] })
    (fun k => k ≤ l.length ∧ ∀ e ∈ l.take k, p e = false) (fun k => l.length - k) 0 (by simp) (by simp [notesD]) ?_
  intro k ⟨hk, hp⟩
  by_cases hlt : k < l.length
  · have e1 : l[k]? = some l[k] := List.getElem?_eq_getElem hlt
    simp (decide := true) [notesD, Nt.row, int, e1, hlt, I64]
    refine ECall.pure (lent := false) (by simp [lendsArgs, lends_ds]; rfl) (hf l[k] (List.getElem_mem hlt)) (by simp) ?_
    simp (decide := true) [notesD, I64]
    refine ⟨fun h => ?_, fun h => ⟨by omega, k + 1, ⟨hlt, take_all' hlt hp h⟩, by omega, by omega⟩⟩
    simp [idxI, idxI_hit hlt hp h, int]
  · have : k = l.length := by omega
    subst this
    simp (decide := true) [notesD, int]
    simp [idxI, idxI_miss (by simpa using hp)]
theorem at1_ok (n : Nt) (id : Int) : PureR Tryz.prog 81 [.agg n.row, .ptr [int id]] (.bool (decide (n.id = id))) := by
  refine pure_of_body mixed Tryz.func81 rfl call_81 ?_
  simp (decide := true) [Tryz.f81, Nt.row, int]
def atI (l : List Nt) (id : Int) : Int := idxI (fun n => decide (n.id = id)) l
theorem at_ok (d : Dc) (id : Int) (hl : d.notes.length < 2^62) : PureR Tryz.prog 54 [docD d, int id] (int (atI d.notes id)) := by
  refine pure_of_body mixed Tryz.func54 rfl call_54 ?_
  simp (decide := true) [Tryz.f54, docD, Dc.row, int]
  refine ECall.pure (by rfl) (indexN_ok d.notes hl _ [.ptr [int id]] (fun n => decide (n.id = id)) fun x _ => at1_ok x id) (fun _ => rfl) ?_
  simp (decide := true) [int, atI]
theorem kind_ok (d : Dc) (t : Int) (hl : d.tiers.length < 2^62) : PureR Tryz.prog 38 [docD d, int t] (int (if 0 ≤ t ∧ t < d.tiers.length then (d.tiers[t.toNat]?.getD default).kind else -1)) := by
  refine pure_of_body mixed Tryz.func38 rfl call_38 ?_
  by_cases h : 0 ≤ t ∧ t < d.tiers.length
  · obtain ⟨k, rfl⟩ : ∃ k : Nat, t = k := ⟨t.toNat, by omega⟩
    have hk : k < d.tiers.length := by omega
    have hk' : ¬ (d.tiers.length : Int) ≤ k := by omega
    have hk2 : (k : Int) < d.tiers.length := by omega
    have hk0 : ¬ (k : Int) < 0 := by omega
    have e1 : d.tiers[k]? = some d.tiers[k] := List.getElem?_eq_getElem hk
    simp (decide := true) [Tryz.f38, docD, Dc.row, int, tiersD, Tir.row, hk, hk', hk0, hk2, e1]
  · rw [if_neg h]
    by_cases h0 : t < 0
    · simp (decide := true) [Tryz.f38, docD, Dc.row, int, tiersD, h0]
    · have h1 : (d.tiers.length : Int) ≤ t := by omega
      simp (decide := true) [Tryz.f38, docD, Dc.row, int, tiersD, h0, h1]
def docO (d : Dc) (id : Nat) : Sym := .agg [.d (int d.id), .d (.str d.name), .d (int d.len), .d (int d.day), .d (ints d.spk), .d (tiersD d.tiers), .ar id]
theorem copied_ok (d : Dc) (hl : d.notes.length < 2^40) : CallC Tryz.prog 37 [.d (docD d)] [] 0 (docO d 2) 3 [(2, .arr 45 7 (d.notes.map Nt.row))] [] := by
  refine callC_of_body mixed Tryz.func37 rfl call_37 (by simp [Sym.los, Sym.lo]) ?_
  simp (decide := true) [Tryz.f37, docD, Dc.row, int, notesD, tiersD, ints, docO]
  refine ⟨by omega, by unfold maxLen; omega, fun _ _ => rfl, ?_⟩
  simp [List.take_of_length_le]
end Go.V
namespace Go.V
open Go Go.Proofs
def Dc.zero : Dc := ⟨0, ByteArray.mk #[], 0, 0, [], [], []⟩
end Go.V
namespace Go.V
open Go Go.Proofs
def setR (l : List Nt) (n : Nt) : List Nt := l.map fun m => if m.id = n.id then n else m
theorem setR_len (l : List Nt) (n : Nt) : (setR l n).length = l.length := List.length_map ..
theorem refSet_ok (d : Dc) (n : Nt) (hl : d.notes.length < 2^40) : PureR Tryz.prog 60 [docD d, .agg n.row] (docD { d with notes := setR d.notes n }) := by
  refine pure_of_body_frz mixed Tryz.func60 rfl call_60 [3] ?_
  simp (decide := true) [Tryz.f60, docD, Dc.row, int, tiersD, ints, notesD, Nt.row]
  refine loop_rule mixed (fun k : Nat => { n := 38, next := 4, slots := [(2, .bp 0 0), (3, .bp 1 0), (4, .bp 2 0), (5, .ar 3), (9, .d (int d.notes.length)), (10, .d (int k))], own := [(0, .box 28 (docCells d)), (1, .box 45 (noteCells n)), (2, .box 28 [.d (int 0), .d (.str ⟨#[]⟩), .d (int 0), .d (int 0), .nils, .nils, .nils]), (3, .arr 45 7 ((setR (d.notes.take k) n).map Nt.row))], moved := [3] })
    (fun k => k ≤ d.notes.length) (fun k => d.notes.length - k) 0 (by simp) (by simp (decide := true) [int, ints, tiersD, notesD, setR]) ?_
  intro k hk
  by_cases hlt : k < d.notes.length
  · have hlt' : (k : Int) < d.notes.length := by omega
    obtain ⟨m, em'⟩ : ∃ m, d.notes[k] = m := ⟨_, rfl⟩
    have em : d.notes[k]? = some m := by rw [List.getElem?_eq_getElem hlt, em']
    have hsn : setR (d.notes.take (k + 1)) n = setR (d.notes.take k) n ++ [if m.id = n.id then n else m] := by
      unfold setR; rw [take_snoc' hlt, List.map_append, em']; rfl
    have hlen := setR_len (d.notes.take k) n
    rw [List.length_take] at hlen
    by_cases e : m.id = n.id
    · rw [if_pos e] at hsn
      simp (decide := true) [int, notesD, Nt.row, hlt, hlt', em, em', e, I64]
      exact ⟨by omega, by unfold maxLen; omega, ⟨by omega, by omega⟩, k + 1, hlt, by omega, by omega, by rw [hsn]; simp [Nt.row, int]⟩
    · rw [if_neg e] at hsn
      simp (decide := true) [int, notesD, Nt.row, hlt, hlt', em, em', e, I64]
      exact ⟨by omega, by unfold maxLen; omega, ⟨by omega, by omega⟩, k + 1, hlt, by omega, by omega, by rw [hsn]; simp [Nt.row, int]⟩
  · have : k = d.notes.length := by omega
    subst this
    rw [List.take_length]
    have hlen := setR_len d.notes n
    simp (decide := true) [int, ints, tiersD, notesD]
end Go.V
namespace Go.V
open Go Go.Proofs
structure Dc.okS (d : Dc) : Prop where
  t : d.tiers.length < 2^30
  n : d.notes.length < 2^30
  s : ∀ t ∈ d.tiers, t.name.size ≤ 9223372036854775807
  x : ∀ n ∈ d.notes, n.text.size ≤ 9223372036854775807
end Go.V
namespace Go.V
open Go Go.Proofs
end Go.V
namespace Go.V
open Go Go.Proofs
def lightB (d : Dc) (x : ByteArray) : Bool := decide (x.size ≤ 400) && lightP d
theorem light13_ok (d : Dc) (x : ByteArray) (hs : ∀ t ∈ d.tiers, t.name.size ≤ 9223372036854775807) (hx : ∀ n ∈ d.notes, n.text.size ≤ 9223372036854775807) :
    PureR Tryz.prog 13 [docD d, .str x] (.bool (lightB d x)) := by
  refine pure_of_body mixed Tryz.func13 rfl call_13 ?_
  unfold lightB
  by_cases h : x.size ≤ 400
  · have h' : (x.size : Int) ≤ 400 := by omega
    simp (decide := true) [Tryz.f13, docD, Dc.row, int, h, h']
    refine ECall.pure (by rfl) (light_ok d hs hx) (by simp (decide := true) [docD, Dc.row]) ?_
    simp (decide := true)
  · have h' : ¬ (x.size : Int) ≤ 400 := by omega
    simp (decide := true) [Tryz.f13, docD, Dc.row, int, h, h']
theorem lightB_spec {d : Dc} {x : ByteArray} (h : lightB d x = true) : x.size ≤ 400 ∧ d.notes.length ≤ 14 ∧ d.tiers.length ≤ 6 ∧ d.spk.length ≤ 6 ∧ Rgt d := by
  simp only [lightB, lightP, Bool.and_eq_true, decide_eq_true_eq] at h
  exact ⟨h.1, h.2.1.1.1, h.2.1.1.2, h.2.1.2, right_iff.1 (by rw [check_eq]; exact h.2.2)⟩
theorem same13_ok (a b : Dc) (e f : Int) (hb : b.fit) : PureR Tryz.prog 17 [docD a, int e, docD b, int f] (.bool (decide (e = f) && decide (a = b))) := by
  refine pure_of_body mixed Tryz.func17 rfl call_17 ?_
  by_cases h : e = f
  · simp (decide := true) [Tryz.f17, docD, Dc.row, int, h]
    refine ECall.pure (by rfl) (refSame_ok a b hb) (by simp (decide := true) [docD, Dc.row]) ?_
    simp (decide := true)
  · simp (decide := true) [Tryz.f17, docD, Dc.row, int, h]
end Go.V
namespace Go.V
open Go Go.Proofs
structure Chg where
  id : Int
  text : ByteArray
  fr : Int
  tt : Int
structure Chg.ok (c : Chg) : Prop where
  id : IntOk c.id
  text : c.text.size ≤ maxLen
  fr : IntOk c.fr
  tt : IntOk c.tt
end Go.V

/- Contracts and plain laws of this seat: part M8. It needs no conditions. -/
import Derived.Test.YtnflnfmbgghbeaaGreatDoorM2
import Derived.Test.YtnflnfmbgghbeaaGreatDoorM4
import Derived.Test.YtnflnfmbgghbeaaGreatDoorM6
import Derived.Test.YtnflnfmbgghbeaaGreatDoorM5
set_option linter.unusedVariables false
set_option linter.unusedSimpArgs false
set_option linter.unusedSectionVars false
set_option maxRecDepth 100000
namespace Go.V
open Go Go.Proofs
noncomputable def mkGm : XG := { mkGs with mf := fun f => Nat.beq f 40 }
theorem mkGm_good : XGood Tryz.prog mkGm := by
  have g := mkGs_good
  exact ⟨g.ti, g.zf, g.ek, g.fn, g.kn, g.kc⟩
theorem pure_of_isTm {f k : Nat} (h : isT (xcall mkGm (xdraw mkGm) k f [] [] 0) = true) : PureR Tryz.prog f [] (.bool true) := by
  have hg := run_sound mixed_X mkGm_good k
  unfold isT at h
  split at h
  · rename_i nx own mv hr
    have := hg _ _ _ _ _ hr (by simp [Sym.los])
    exact pureR_of_callC (ds := []) this
  · cases h
theorem awake13_run : isT (xcall mkGm (xdraw mkGm) 60 14 [] [] 0) = true := by kernel_rfl
theorem awake13_R : PureR Tryz.prog 14 [] (.bool true) := pure_of_isTm awake13_run
end Go.V
namespace Go.V
open Go Go.Proofs
theorem lends_ds (look : Nat → Option Obj') : ∀ (l : List D), lends look (l.map .d) = some (l, false)
  | [] => rfl
  | d :: r => by simp only [List.map_cons, lends, lend, lends_ds look r]; rfl
def idxI {α : Type} (p : α → Bool) (l : List α) : Int := match l.findIdx? p with
  | some k => k
  | none => -1
theorem idxI_hit {α : Type} {p : α → Bool} {l : List α} {k : Nat} (h : k < l.length) (hp : ∀ e ∈ l.take k, p e = false) (he : p l[k] = true) : l.findIdx? p = some k := by
  rw [List.findIdx?_eq_some_iff_getElem]
  refine ⟨h, he, fun j hj => ?_⟩
  have := hp l[j] (by rw [List.mem_take_iff_getElem]; exact ⟨j, by omega, rfl⟩)
  simpa using this
theorem idxI_miss {α : Type} {p : α → Bool} {l : List α} (hp : ∀ e ∈ l, p e = false) : l.findIdx? p = none := by
  rw [List.findIdx?_eq_none_iff]; exact hp
theorem indexN_ok (l : List Nt) (hl : l.length < 2^62) (f : Nat) (caps : List D) (p : Nt → Bool) (hf : ∀ x ∈ l, PureR Tryz.prog f (.agg x.row :: caps) (.bool (p x))) :
    PureR Tryz.prog 75 [notesD l, .fn f caps] (int (idxI p l)) := by
  refine pure_of_body mixed Tryz.func75 rfl call_75 ?_
  simp [Tryz.f75, notesD]
  refine loop_rule mixed (fun k : Nat => { n := 19, next := 0, slots := [(0, .d (notesD l)), (1, .d (.fn f caps)), (6, .d (notesD l)), (7, .d (.int .i64 l.length)), (8, .d (.int .i64 k))], own := [] })
    (fun k => k ≤ l.length ∧ ∀ e ∈ l.take k, p e = false) (fun k => l.length - k) 0 (by simp) (by simp [notesD]) ?_
  intro k ⟨hk, hp⟩
  by_cases hlt : k < l.length
  · have e1 : l[k]? = some l[k] := List.getElem?_eq_getElem hlt
    simp (decide := true) [notesD, Nt.row, int, e1, hlt, I64]
    refine ECall.pure (lent := false) (by simp [lendsArgs, lends_ds]; rfl) (hf l[k] (List.getElem_mem hlt)) (by simp) ?_
    simp (decide := true) [notesD, I64]
    refine ⟨fun h => ?_, fun h => ⟨by omega, k + 1, ⟨hlt, take_all' hlt hp h⟩, by omega, by omega⟩⟩
    simp [idxI, idxI_hit hlt hp h, int]
  · have : k = l.length := by omega
    subst this
    simp (decide := true) [notesD, int]
    simp [idxI, idxI_miss (by simpa using hp)]
theorem at1_ok (n : Nt) (id : Int) : PureR Tryz.prog 81 [.agg n.row, .ptr [int id]] (.bool (decide (n.id = id))) := by
  refine pure_of_body mixed Tryz.func81 rfl call_81 ?_
  simp (decide := true) [Tryz.f81, Nt.row, int]
def atI (l : List Nt) (id : Int) : Int := idxI (fun n => decide (n.id = id)) l
theorem at_ok (d : Dc) (id : Int) (hl : d.notes.length < 2^62) : PureR Tryz.prog 54 [docD d, int id] (int (atI d.notes id)) := by
  refine pure_of_body mixed Tryz.func54 rfl call_54 ?_
  simp (decide := true) [Tryz.f54, docD, Dc.row, int]
  refine ECall.pure (by rfl) (indexN_ok d.notes hl _ [.ptr [int id]] (fun n => decide (n.id = id)) fun x _ => at1_ok x id) (fun _ => rfl) ?_
  simp (decide := true) [int, atI]
theorem kind_ok (d : Dc) (t : Int) (hl : d.tiers.length < 2^62) : PureR Tryz.prog 38 [docD d, int t] (int (if 0 ≤ t ∧ t < d.tiers.length then (d.tiers[t.toNat]?.getD default).kind else -1)) := by
  refine pure_of_body mixed Tryz.func38 rfl call_38 ?_
  by_cases h : 0 ≤ t ∧ t < d.tiers.length
  · obtain ⟨k, rfl⟩ : ∃ k : Nat, t = k := ⟨t.toNat, by omega⟩
    have hk : k < d.tiers.length := by omega
    have hk' : ¬ (d.tiers.length : Int) ≤ k := by omega
    have hk2 : (k : Int) < d.tiers.length := by omega
    have hk0 : ¬ (k : Int) < 0 := by omega
    have e1 : d.tiers[k]? = some d.tiers[k] := List.getElem?_eq_getElem hk
    simp (decide := true) [Tryz.f38, docD, Dc.row, int, tiersD, Tir.row, hk, hk', hk0, hk2, e1]
  · rw [if_neg h]
    by_cases h0 : t < 0
    · simp (decide := true) [Tryz.f38, docD, Dc.row, int, tiersD, h0]
    · have h1 : (d.tiers.length : Int) ≤ t := by omega
      simp (decide := true) [Tryz.f38, docD, Dc.row, int, tiersD, h0, h1]
def docO (d : Dc) (id : Nat) : Sym := .agg [.d (int d.id), .d (.str d.name), .d (int d.len), .d (int d.day), .d (ints d.spk), .d (tiersD d.tiers), .ar id]
theorem copied_ok (d : Dc) (hl : d.notes.length < 2^40) : CallC Tryz.prog 37 [.d (docD d)] [] 0 (docO d 2) 3 [(2, .arr 45 7 (d.notes.map Nt.row))] [] := by
  refine callC_of_body mixed Tryz.func37 rfl call_37 (by simp [Sym.los, Sym.lo]) ?_
  simp (decide := true) [Tryz.f37, docD, Dc.row, int, notesD, tiersD, ints, docO]
  refine ⟨by omega, by unfold maxLen; omega, fun _ _ => rfl, ?_⟩
  simp [List.take_of_length_le]
theorem write1_ok (l : List Nt) (i : Nat) (hi : i < l.length) (x : ByteArray) : CallC Tryz.prog 62 [.ap 0 7 i 0, .bp 1 0] [(0, .arr 45 7 (l.map Nt.row)), (1, .box 9 [.d (.str x)])] 2 (.tup []) 2 [(0, .arr 45 7 ((l.set i { l[i] with text := x }).map Nt.row)), (1, .box 9 [.d (.str x)])] [] := by
  refine callC_of_body mixed Tryz.func62 rfl call_62 (by simp [Sym.los, Sym.lo]) ?_
  have e1 : l[i]? = some l[i] := List.getElem?_eq_getElem hi
  simp (decide := true) [Tryz.f62, Nt.row, int, e1, hi]
theorem move1_ok (l : List Nt) (i : Nat) (hi : i < l.length) (f t : Int) : CallC Tryz.prog 63 [.ap 0 7 i 0, .bp 1 0] [(0, .arr 45 7 (l.map Nt.row)), (1, .box 43 [.d (int f), .d (int t)])] 2 (.tup []) 2 [(0, .arr 45 7 ((l.set i { l[i] with fr := f, tO := t }).map Nt.row)), (1, .box 43 [.d (int f), .d (int t)])] [] := by
  refine callC_of_body mixed Tryz.func63 rfl call_63 (by simp [Sym.los, Sym.lo]) ?_
  have e1 : l[i]? = some l[i] := List.getElem?_eq_getElem hi
  simp (decide := true) [Tryz.f63, Nt.row, int, e1, hi]
end Go.V
namespace Go.V
open Go Go.Proofs
def Dc.zero : Dc := ⟨0, ByteArray.mk #[], 0, 0, [], [], []⟩
def chk (d : Dc) : Dc × Int := if checkE d = 0 then (d, 0) else (Dc.zero, checkE d)
def resD (r : Dc × Int) : D := .tup [docD r.1, int r.2]
theorem checked_ok (d : Dc) (ht : d.tiers.length < 2^30) (hn : d.notes.length < 2^30) : PureR Tryz.prog 55 [docD d] (resD (chk d)) := by
  refine pure_of_body mixed Tryz.func55 rfl call_55 ?_
  simp (decide := true) [Tryz.f55, docD, Dc.row, int, resD]
  refine ECall.pure (by rfl) (check_ok d ht hn) (by simp (decide := true) [docD, Dc.row]) ?_
  unfold chk
  by_cases h : checkE d = 0
  · simp (decide := true) [int, h]
  · simp (decide := true) [int, h, Dc.zero, ints, tiersD, notesD]
def chgE (d : Dc) (id : Int) (f : Nt → Nt) : Dc × Int := match d.notes.findIdx? (fun n => decide (n.id = id)) with
  | some k => chk { d with notes := d.notes.set k (f (d.notes[k]?.getD default)) }
  | none => (Dc.zero, 9)
theorem rens_ds' (ρ : Nat → Nat) : ∀ ds : List D, rens ρ (ds.map .d) = ds.map .d
  | [] => rfl
  | d :: r => by simp only [List.map_cons, rens, ren, rens_ds' ρ r]
theorem purgesM_ds' (M : List Nat) : ∀ ds : List D, purgesM M (ds.map .d) = ds.map .d
  | [] => rfl
  | d :: r => by simp only [List.map_cons, purgesM, purgeM, purgesM_ds' M r]
theorem change_ok (d : Dc) (id : Int) (F T : Nat) (ds : List D) (f : Nt → Nt) (ht : d.tiers.length < 2^30) (hn : d.notes.length < 2^30)
    (hf : ∀ (l : List Nt) (i : Nat) (hi : i < l.length), CallC Tryz.prog F [.ap 0 7 i 0, .bp 1 0] [(0, .arr 45 7 (l.map Nt.row)), (1, .box T (ds.map .d))] 2 (.tup []) 2 [(0, .arr 45 7 ((l.set i (f l[i])).map Nt.row)), (1, .box T (ds.map .d))] []) :
    CallC Tryz.prog 61 [.d (docD d), .d (int id), .fn F [.bp 0 0]] [(0, .box T (ds.map .d))] 1 (.tup [.d (docD (chgE d id f).1), .d (int (chgE d id f).2)]) 1 [] [] := by
  refine callC_of_body mixed Tryz.func61 rfl call_61 (by simp [Sym.los, Sym.lo]) ?_
  simp (decide := true) [Tryz.f61, docD, Dc.row, int, resD]
  refine ECall.pure (by rfl) (at_ok d id (by omega)) (by simp (decide := true) [docD, Dc.row, int]) ?_
  unfold chgE atI idxI
  cases h : d.notes.findIdx? fun n => decide (n.id = id) with
  | none =>
    simp (decide := true) [int, Dc.zero, ints, tiersD, notesD]
  | some k =>
    rw [List.findIdx?_eq_some_iff_getElem] at h
    obtain ⟨hk, _⟩ := h
    have e1 : d.notes[k]? = some d.notes[k] := List.getElem?_eq_getElem hk
    have hk0 : ¬ (k : Int) < 0 := by omega
    have hk' : (k : Int) < d.notes.length := by omega
    simp (decide := true) [int, hk0]
    refine ECall.mut [] [.d (docD d)] [] (by rfl) (by simp [docD, Dc.row, int]) (by simp) (by simp) (copied_ok d (by omega)) ?_
    simp (decide := true) [docO, int, hk, hk', hk0, e1]
    refine ECall.mut [5, 0] [.ap 0 7 k 0, .bp 1 0] [(0, .arr 45 7 (d.notes.map Nt.row)), (1, .box T (ds.map .d))] (by rfl) (by simp) (by simp [Sym.los, Sym.lo]) (by simp [rens_ds', purgesM_ds', Sym.los_ds]; rfl) (hf d.notes k hk) ?_
    simp (decide := true) [int, rens_ds']
    have hck := checked_ok { d with notes := d.notes.set k (f d.notes[k]) } ht (by simpa using hn)
    generalize chk { d with notes := d.notes.set k (f d.notes[k]) } = r at hck
    simp only [docD, Dc.row, notesD, List.map_set, int] at hck
    refine ecall_frz (by rfl) hck (by simp) ?_
    simp (decide := true) [int, resD, docD, Dc.row]
theorem write_ok (d : Dc) (id : Int) (x : ByteArray) (ht : d.tiers.length < 2^30) (hn : d.notes.length < 2^30) :
    PureR Tryz.prog 23 [docD d, int id, .str x] (resD (chgE d id fun n => { n with text := x })) := by
  refine pure_of_body mixed Tryz.func23 rfl call_23 ?_
  simp (decide := true) [Tryz.f23, docD, Dc.row, int, resD]
  refine ECall.mut [1] [.d (docD d), .d (int id), .fn 62 [.bp 0 0]] [(0, .box 9 [.d (.str x)])] (by rfl) (by simp [docD, Dc.row, int]) (by simp [Sym.los, Sym.lo]) (by simp)
    (change_ok d id 62 9 [.str x] (fun n => { n with text := x }) ht hn fun l i hi => write1_ok l i hi x) ?_
  generalize chgE d id (fun n => { n with text := x }) = r
  simp (decide := true) [int, docD, Dc.row]
theorem move_ok (d : Dc) (id : Int) (f t : Int) (ht : d.tiers.length < 2^30) (hn : d.notes.length < 2^30) :
    PureR Tryz.prog 25 [docD d, int id, .agg [int f, int t]] (resD (chgE d id fun n => { n with fr := f, tO := t })) := by
  refine pure_of_body mixed Tryz.func25 rfl call_25 ?_
  simp (decide := true) [Tryz.f25, docD, Dc.row, int, resD]
  refine ECall.mut [1] [.d (docD d), .d (int id), .fn 63 [.bp 0 0]] [(0, .box 43 [.d (int f), .d (int t)])] (by rfl) (by simp [docD, Dc.row, int]) (by simp [Sym.los, Sym.lo]) (by simp [int])
    (change_ok d id 63 43 [int f, int t] (fun n => { n with fr := f, tO := t }) ht hn fun l i hi => move1_ok l i hi f t) ?_
  generalize chgE d id (fun n => { n with fr := f, tO := t }) = r
  simp (decide := true) [int, docD, Dc.row]
end Go.V
namespace Go.V
open Go Go.Proofs
end Go.V
namespace Go.V
open Go Go.Proofs
structure Dc.okS (d : Dc) : Prop where
  t : d.tiers.length < 2^30
  n : d.notes.length < 2^30
  s : ∀ t ∈ d.tiers, t.name.size ≤ 9223372036854775807
  x : ∀ n ∈ d.notes, n.text.size ≤ 9223372036854775807
end Go.V
namespace Go.V
open Go Go.Proofs
theorem find_get {l : List Nt} {id : Int} : (getN l id).2 = (l.findIdx? fun n => decide (n.id = id)).isSome := by
  unfold getN
  cases h : l.findIdx? fun n => decide (n.id = id) with
  | none =>
    have : l.find? (fun n => decide (n.id = id)) = none := by
      rw [List.find?_eq_none]
      rw [List.findIdx?_eq_none_iff] at h
      exact fun x hx => by rw [h x hx]; simp
    rw [this]; rfl
  | some k =>
    rw [List.findIdx?_eq_some_iff_getElem] at h
    obtain ⟨h1, h2, _⟩ := h
    cases hf : l.find? (fun n => decide (n.id = id)) with
    | none => rw [List.find?_eq_none] at hf; exact absurd h2 (hf _ (List.getElem_mem h1))
    | some m => rfl
end Go.V
namespace Go.V
open Go Go.Proofs
def lightB (d : Dc) (x : ByteArray) : Bool := decide (x.size ≤ 400) && lightP d
theorem light13_ok (d : Dc) (x : ByteArray) (hs : ∀ t ∈ d.tiers, t.name.size ≤ 9223372036854775807) (hx : ∀ n ∈ d.notes, n.text.size ≤ 9223372036854775807) :
    PureR Tryz.prog 13 [docD d, .str x] (.bool (lightB d x)) := by
  refine pure_of_body mixed Tryz.func13 rfl call_13 ?_
  unfold lightB
  by_cases h : x.size ≤ 400
  · have h' : (x.size : Int) ≤ 400 := by omega
    simp (decide := true) [Tryz.f13, docD, Dc.row, int, h, h']
    refine ECall.pure (by rfl) (light_ok d hs hx) (by simp (decide := true) [docD, Dc.row]) ?_
    simp (decide := true)
  · have h' : ¬ (x.size : Int) ≤ 400 := by omega
    simp (decide := true) [Tryz.f13, docD, Dc.row, int, h, h']
theorem lightB_spec {d : Dc} {x : ByteArray} (h : lightB d x = true) : x.size ≤ 400 ∧ d.notes.length ≤ 14 ∧ d.tiers.length ≤ 6 ∧ d.spk.length ≤ 6 ∧ Rgt d := by
  simp only [lightB, lightP, Bool.and_eq_true, decide_eq_true_eq] at h
  exact ⟨h.1, h.2.1.1.1, h.2.1.1.2, h.2.1.2, right_iff.1 (by rw [check_eq]; exact h.2.2)⟩
end Go.V
namespace Go.V
open Go Go.Proofs
structure Chg where
  id : Int
  text : ByteArray
  fr : Int
  tt : Int
def chgD (c : Chg) : D := .agg [int c.id, .str c.text, int c.fr, int c.tt]
structure Chg.ok (c : Chg) : Prop where
  id : IntOk c.id
  text : c.text.size ≤ maxLen
  fr : IntOk c.fr
  tt : IntOk c.tt
abbrev chgSh : List Sh := [.int .i64, .str, .int .i64, .int .i64]
theorem chg_decode {l : List D} (h : FitDs l chgSh) : ∃ c : Chg, D.agg l = chgD c ∧ c.ok := by
  obtain ⟨_, _, rfl, g1, r1⟩ := h.cons_decode
  obtain ⟨_, _, rfl, g2, r2⟩ := r1.cons_decode
  obtain ⟨_, _, rfl, g3, r3⟩ := r2.cons_decode
  obtain ⟨_, _, rfl, g4, r4⟩ := r3.cons_decode
  obtain rfl := r4.nil_decode
  obtain ⟨a, rfl, wa⟩ := g1.int_decode
  obtain ⟨b, rfl, wb⟩ := g2.str_decode
  obtain ⟨c, rfl, wc⟩ := g3.int_decode
  obtain ⟨e, rfl, we⟩ := g4.int_decode
  exact ⟨⟨a, b, c, e⟩, rfl, wa, wb, wc, we⟩
end Go.V

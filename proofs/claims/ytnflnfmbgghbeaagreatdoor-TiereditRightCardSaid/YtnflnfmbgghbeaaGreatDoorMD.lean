/- Contracts and plain laws of this seat: part MD. It needs no conditions. -/
import Derived.Test.YtnflnfmbgghbeaaGreatDoorMC
import Derived.Test.YtnflnfmbgghbeaaGreatDoorSn
import Derived.Test.YtnflnfmbgghbeaaGreatDoorM2
set_option linter.unusedVariables false
set_option linter.unusedSimpArgs false
set_option linter.unusedSectionVars false
set_option maxRecDepth 100000
namespace Go.V
open Go Go.Proofs Go.Sort Go.RowKit
theorem fresh_of_callC {P : Program} {f : Nat} {ds : List D} {T sz k nx : Nat} {rows : List (List D)} {mv : List Nat} (h : CallC P f (ds.map .d) [] 0 (.ar k) nx [(k, .arr T sz rows)] mv) (hrows : ∀ r ∈ rows, r.length = sz) : PureF P f ds T sz rows := by
  refine ⟨h.1, hrows, fun w E vs hE hr => ?_⟩
  have hm : Mods E (.of w) (memSt [] 0 0 []) (fun _ => .pointer none) act0 w :=
    ⟨⟨fun b hb hmay => hmay.elim (fun h => by have : w.heap.size ≤ b := h; have := hE.1 b hb; omega) (fun h => h), hE.2.over (Over.less fun b h => h.elim id False.elim)⟩, ⟨Nat.le_refl _, fun _ _ _ => rfl⟩, fun _ => rfl, rfl, rfl, Kept.refl _, by simp [memSt], by simp [memSt], by simp [memSt], by intro t s ht; simp [memSt, alook] at ht⟩
  have hov : Over w E w (Ex E (fun _ => Value.pointer none) []) := Over.less fun b hb => hb.elim id fun ⟨_, _, hx, _⟩ => by cases hx
  refine (h.2 E (.of w) _ w vs rfl hm (Sms.of_vals (Rvals.over hov _ _ hr))).mono fun e w' he => ?_
  obtain ⟨β', v, rfl, hm', _, hs⟩ := he
  simp only [Sm] at hs
  obtain ⟨_, hlo, xs, hx, hc, hsz⟩ := hm'.obj (id := k) (o := .arr T sz rows) (by simp [memSt, alook, St.look])
  have hN : ∀ b, (Base.of w).may b → w.heap.size ≤ b := fun b hb => hb.elim id False.elim
  rw [← hs] at hx
  exact ⟨v, xs, rfl, hm'.below.below, hx.row hN, fun b hb => (hx.2 b hb).2, Rcells.over (Over.less fun b hb => hb.elim .inl fun hb => .inr ⟨k, _, List.mem_cons_self, by rw [← hs]; exact hb⟩) _ _ hc⟩
def colL (r : Option XR) : Option (List (List D)) := match r with
  | some ⟨.ar k, _, [(k', .arr T sz rows)], _⟩ => if Nat.beq k k' && (Nat.beq T 3 && Nat.beq sz 1) then some rows else none
  | _ => none
theorem col_of {l : List Int} (h : colL (xcall mkGs (xdraw mkGs) 40 114 [.d (.fn 116 [.ptr [.sl (l.map fun n => [.int .i64 n])]])] [] 0) = some (l.map fun n => [.int .i64 n])) :
    PureF Tryz.prog 114 [.fn 116 [.ptr [ints l]]] 3 1 (l.map fun n => [int n]) := by
  have hg := run_sound mixed_X mkGs_good 40
  unfold colL at h
  split at h
  · rename_i k nx k' T sz rows mv hr
    split at h
    · rename_i hc
      simp only [Bool.and_eq_true, Nat.beq_eq] at hc
      obtain ⟨rfl, rfl, rfl⟩ := hc
      cases h
      have := hg _ _ _ _ _ hr (by simp [Sym.los, Sym.lo])
      exact fresh_of_callC (ds := [.fn 116 [.ptr [ints l]]]) this (by simp)
    · cases h
  · cases h
theorem collect_ok : ∀ l : List Int, l ≠ [] → l.length ≤ 15 → PureF Tryz.prog 114 [.fn 116 [.ptr [ints l]]] 3 1 (l.map fun n => [int n])
  | [], h, _ => absurd rfl h
  | [a1], _, _ => col_of (by kernel_rfl)
  | [a1, a2], _, _ => col_of (by kernel_rfl)
  | [a1, a2, a3], _, _ => col_of (by kernel_rfl)
  | [a1, a2, a3, a4], _, _ => col_of (by kernel_rfl)
  | [a1, a2, a3, a4, a5], _, _ => col_of (by kernel_rfl)
  | [a1, a2, a3, a4, a5, a6], _, _ => col_of (by kernel_rfl)
  | [a1, a2, a3, a4, a5, a6, a7], _, _ => col_of (by kernel_rfl)
  | [a1, a2, a3, a4, a5, a6, a7, a8], _, _ => col_of (by kernel_rfl)
  | [a1, a2, a3, a4, a5, a6, a7, a8, a9], _, _ => col_of (by kernel_rfl)
  | [a1, a2, a3, a4, a5, a6, a7, a8, a9, a10], _, _ => col_of (by kernel_rfl)
  | [a1, a2, a3, a4, a5, a6, a7, a8, a9, a10, a11], _, _ => col_of (by kernel_rfl)
  | [a1, a2, a3, a4, a5, a6, a7, a8, a9, a10, a11, a12], _, _ => col_of (by kernel_rfl)
  | [a1, a2, a3, a4, a5, a6, a7, a8, a9, a10, a11, a12, a13], _, _ => col_of (by kernel_rfl)
  | [a1, a2, a3, a4, a5, a6, a7, a8, a9, a10, a11, a12, a13, a14], _, _ => col_of (by kernel_rfl)
  | [a1, a2, a3, a4, a5, a6, a7, a8, a9, a10, a11, a12, a13, a14, a15], _, _ => col_of (by kernel_rfl)
  | _ :: _ :: _ :: _ :: _ :: _ :: _ :: _ :: _ :: _ :: _ :: _ :: _ :: _ :: _ :: _ :: _, _, h => by simp at h
abbrev encI (n : Int) : List Value := [.int .i64 n]
abbrev rowI (n : Int) : List D := [int n]
theorem int_enc : RowEnc encI rowI 1 where
  pos := by decide
  len := fun _ => rfl
  one := fun x v hv => by simp [encI] at hv; subst hv; rfl
  rlen := fun _ => rfl
  read := fun w E x => by simp only [rowI, encI, int, Rcells, R]; exact ⟨_, _, rfl, rfl, rfl, rfl⟩
  uniq := fun w E x vs h => by
    simp only [rowI, int, Rcells, R] at h
    obtain ⟨_, _, rfl, _, rfl, rfl⟩ := h
    rfl
def sortI (l : List Int) : List Int := l.mergeSort fun x y => decide (x ≤ y)
theorem flatK_int (l : List Int) : flatK encI 1 l.toArray = (l.map (Value.int .i64)).toArray := by
  have := int_enc.flatK l
  rw [← Array.toList_inj, this]
  clear this
  induction l with
  | nil => rfl
  | cons n r ih => simpa [encI] using ih
theorem putCells_map (l : List Int) : putCells id 0 (l.map (Value.int .i64)).toArray = putCells (Value.int .i64) 0 l.toArray := by
  funext c
  unfold putCells
  congr 1
  funext k x
  by_cases h : k < l.length
  · simp [h]
  · simp [h]
theorem sortI_length (l : List Int) : (sortI l).length = l.length := List.length_mergeSort l
theorem sortI_perm (l : List Int) : (sortI l).Perm l := List.mergeSort_perm l _
theorem sortI_ok (l : List Int) (hne : l ≠ []) (hl : l.length < 4611686018427387904) :
    CallC Tryz.prog 115 [.ar 0] [(0, .arr 3 1 (l.map rowI))] 1 (.d (.tup [])) 1 [(0, .arr 3 1 ((sortI l).map rowI))] [] := by
  refine sort_bridge int_enc call_115 hne (sortI_length l) ?_
  intro w E β vs hvs hseen g cap hg hE hH
  simp only [Sms] at hvs
  subst hvs
  have hh : Holds (Value.int .i64) w g 0 l.toArray := by
    unfold HoldsK at hH
    rw [flatK_int] at hH
    intro j hj
    have := hH j (by simpa using hj)
    have hj' : j < l.length := by simpa using hj
    simpa [hj'] using this
  have := Any.slices_Sort_int Tryz.sortInt g 0 cap l w hh hg hl
  change Calls Tryz.prog 115 _ _ _ at this
  refine this.mono fun e w' he => ?_
  obtain ⟨h1, n, os, h2⟩ := he
  refine ⟨h1, n, os, ?_⟩
  rw [h2]
  unfold sortWorldK putRowK putRow
  rw [flatK_int, putCells_map]
  rfl
theorem compact_ok (l : List Int) (hs : l.Pairwise fun a b => a < b) (hl : l.length < 2^40) :
    CallC Tryz.prog 95 [.ar 0] [(0, .arr 3 1 (l.map rowI))] 1 (.ar 0) 1 [(0, .arr 3 1 (l.map rowI))] [] := by
  refine callC_of_body mixed Tryz.func95 rfl call_95 (by simp [Sym.los, Sym.lo]) ?_
  by_cases h2 : l.length < 2
  · have h2' : (l.length : Int) < 2 := by omega
    simp (decide := true) [Tryz.f95, int, h2, h2']
  have h2' : ¬ (l.length : Int) < 2 := by omega
  simp (decide := true) [Tryz.f95, int, h2, h2']
  refine loop_rule mixed (fun k : Nat => { n := 61, next := 1, slots := [(0, .ar 0), (3, .d (int k))], own := [(0, .arr 3 1 (l.map rowI))], base := 1 })
    (fun k => 1 ≤ k ∧ k ≤ l.length) (fun k => l.length - k) 1 (by omega) (by simp (decide := true) [int]) ?_
  rintro k ⟨hk1, hk⟩
  by_cases hlt : k < l.length
  · have hlt' : (k : Int) < l.length := by omega
    obtain ⟨j, rfl⟩ : ∃ j, k = j + 1 := ⟨k - 1, by omega⟩
    have hj : j < l.length := by omega
    have hj' : (j : Int) < l.length := by omega
    have e1 : l[j + 1]? = some l[j + 1] := List.getElem?_eq_getElem hlt
    have e0 : l[j]? = some l[j] := List.getElem?_eq_getElem hj
    have hne : ¬ l[j + 1] = l[j] := by
      have := List.pairwise_iff_getElem.1 hs j (j + 1) hj hlt (by omega)
      omega
    have j1 : ((j : Int) + 1 - 1) = j := by omega
    have jn : ((j : Int) + 1).toNat = j + 1 := by omega
    have j0 : (0 : Int) ≤ (j : Int) + 1 := by omega
    simp (decide := true) [int, hlt, hlt', hj, hj', e0, e1, hne, j1, jn, j0, I64]
    exact fun _ => ⟨by omega, by omega, ⟨by omega, by omega⟩, j + 2, ⟨by omega, by omega⟩, by omega, by omega⟩
  · have : k = l.length := by omega
    subst this
    simp (decide := true) [int]
theorem values_ok (l : List Int) : CallC Tryz.prog 97 [.d (ints l)] [] 0 (.fn 116 [.bp 0 0]) 1 [(0, .box 22 [.d (ints l)])] [] := by
  refine callC_of_body mixed Tryz.func97 rfl call_97 (by simp [Sym.los, Sym.lo]) ?_
  simp (decide := true) [Tryz.f97, ints]
theorem sorted_ok (l : List Int) (hne : l ≠ []) (hl : l.length ≤ 15) : PureF Tryz.prog 96 [.fn 116 [.ptr [ints l]]] 3 1 ((sortI l).map rowI) := by
  refine fresh_of_body mixed Tryz.func96 rfl call_96 (by simp) ?_
  simp (decide := true) [Tryz.f96]
  refine ECall.fresh (by rfl) (collect_ok l hne hl) (by simp) ?_
  simp (decide := true)
  refine ECall.mut [1] [.ar 0] [(0, .arr 3 1 (l.map rowI))] (by rfl) (by simp) (by simp [Sym.los, Sym.lo]) (by simp) (sortI_ok l hne (by omega)) ?_
  simp (decide := true)
theorem numSorted_ok (l : List Int) (hne : l ≠ []) (hl : l.length ≤ 15) (hn : l.Nodup) : PureN Tryz.prog 72 [ints l] (ints (sortI l)) := by
  have hs : (sortI l).Pairwise fun a b => a < b := by
    have h1 : (sortI l).Pairwise fun a b => decide (a ≤ b) = true := List.pairwise_mergeSort (fun a b c h1 h2 => by simp at *; omega) (fun a b => by simp; omega) l
    have h2 : (sortI l).Nodup := (sortI_perm l).nodup_iff.2 hn
    exact (List.pairwise_and_iff.2 ⟨h1, h2⟩).imp fun {a b} h => by have := h.1; have := h.2; simp at *; omega
  have hF : PureF Tryz.prog 72 [ints l] 3 1 ((sortI l).map rowI) := by
    refine fresh_of_body mixed Tryz.func72 rfl call_72 (by simp) ?_
    simp (decide := true) [Tryz.f72]
    refine ECall.mut [] [.d (ints l)] [] (by rfl) (by simp) (by simp) (by simp) (values_ok l) ?_
    simp (decide := true)
    refine ECall.fresh (by rfl) (sorted_ok l hne hl) (by simp [ints_scalars]) ?_
    simp (decide := true)
    refine ECall.mut [2] [.ar 0] [(0, .arr 3 1 ((sortI l).map rowI))] (by rfl) (by simp) (by simp [Sym.los, Sym.lo]) (by simp) (compact_ok (sortI l) hs (by rw [sortI_length]; omega)) ?_
    simp (decide := true)
  exact pureN_of_fresh hF (ints_scalars _)
end Go.V
namespace Go.V
open Go Go.Proofs
inductive Dsc (d : Dc) (id : Int) : Int → Prop
  | self : Dsc d id id
  | kid (n : Nt) : n ∈ d.notes → Dsc d id n.par → Dsc d id n.id
open Classical in
noncomputable def subIds (d : Dc) (id : Int) : List Int := idsOf (d.notes.filter fun n => decide (Dsc d id n.id))
theorem sorted_unique {a b : List Int} (ha : a.Pairwise fun x y => x < y) (hb : b.Pairwise fun x y => x < y) (hm : ∀ x, x ∈ a ↔ x ∈ b) : a = b := by
  have na : a.Nodup := ha.imp fun {x y} h e => by omega
  have nb : b.Nodup := hb.imp fun {x y} h e => by omega
  have hp := (List.perm_ext_iff_of_nodup na nb).2 hm
  exact List.Perm.eq_of_pairwise (le := fun x y => x < y) (fun x y _ _ h1 h2 => by omega) ha hb hp
theorem sub_sorted {d : Dc} (h : Rgt d) (id : Int) : (subIds d id).Pairwise fun x y => x < y := by
  unfold subIds idsOf
  rw [List.pairwise_map]
  exact h.inc.sublist List.filter_sublist
theorem sub_mem {d : Dc} {id x : Int} : x ∈ subIds d id ↔ Dsc d id x ∧ ∃ n ∈ d.notes, n.id = x := by
  unfold subIds idsOf
  rw [List.mem_map]
  constructor
  · rintro ⟨n, hn, rfl⟩
    rw [List.mem_filter] at hn
    exact ⟨by simpa using hn.2, n, hn.1, rfl⟩
  · rintro ⟨h1, n, hn, rfl⟩
    exact ⟨n, by rw [List.mem_filter]; exact ⟨hn, by simpa using h1⟩, rfl⟩
theorem desc_note {d : Dc} {id x : Int} (hid : ∃ n ∈ d.notes, n.id = id) (h : Dsc d id x) : ∃ n ∈ d.notes, n.id = x := by
  cases h with
  | self => exact hid
  | kid n hn _ => exact ⟨n, hn, rfl⟩
theorem desc_tier {d : Dc} (h : Rgt d) {id x : Int} (hid : ∃ n ∈ d.notes, n.id = id) (hx : Dsc d id x) : ∀ m ∈ d.notes, m.id = x → ∀ z ∈ d.notes, z.id = id → z.tier ≤ m.tier := by
  induction hx with
  | self =>
    intro m hm e z hz e2
    have := ids_uniq h hm hz (by rw [e, e2])
    rw [this]; omega
  | kid n hn hp ih =>
    intro m hm e z hz e2
    have := ids_uniq h hm hn e
    subst this
    obtain ⟨p, hpn, hpi⟩ := desc_note hid hp
    have h1 := ih p hpn hpi z hz e2
    have h2 := h.below hm hpn hpi.symm
    omega
theorem desc_top {d : Dc} (h : Rgt d) {id : Int} {z : Nt} (hz : z ∈ d.notes) (hi : z.id = id) : ¬ Dsc d id z.par := by
  intro hd
  have hid : ∃ n ∈ d.notes, n.id = id := ⟨z, hz, hi⟩
  obtain ⟨p, hp, hpi⟩ := desc_note hid hd
  have h1 := desc_tier h hid hd p hp hpi z hz hi
  have h2 := h.below hz hp hpi.symm
  omega
def kidI (l : List Nt) (p : Int) : List Int := idsOf (l.filter fun n => decide (n.par = p))
theorem kidI_snoc {l : List Nt} {p : Int} {k : Nat} (h : k < l.length) : kidI (l.take (k + 1)) p = kidI (l.take k) p ++ (if l[k].par = p then [l[k].id] else []) := by
  unfold kidI
  rw [filter_snoc' h]
  unfold idsOf
  rw [List.map_append]
  by_cases e : l[k].par = p <;> simp [e]
theorem kidI_mem {l : List Nt} {p x : Int} : x ∈ kidI l p ↔ ∃ n ∈ l, n.id = x ∧ n.par = p := by
  unfold kidI idsOf
  rw [List.mem_map]
  constructor
  · rintro ⟨n, hn, rfl⟩
    rw [List.mem_filter, decide_eq_true_eq] at hn
    exact ⟨n, hn.1, rfl, hn.2⟩
  · rintro ⟨n, hn, rfl, hp⟩
    exact ⟨n, by rw [List.mem_filter, decide_eq_true_eq]; exact ⟨hn, hp⟩, rfl⟩
theorem nodup_len : ∀ {a b : List Int}, a.Nodup → (∀ x ∈ a, x ∈ b) → a.length ≤ b.length
  | [], b, _, _ => Nat.zero_le _
  | x :: r, b, h, hs => by
    have hx := hs x (by simp)
    rw [List.nodup_cons] at h
    have := nodup_len (a := r) (b := b.erase x) h.2 (fun y hy => by
      have hne : y ≠ x := fun e => h.1 (e ▸ hy)
      exact (List.mem_erase_of_ne hne).2 (hs y (by simp [hy])))
    rw [List.length_erase_of_mem hx] at this
    have hp : 0 < b.length := List.length_pos_of_mem hx
    rw [List.length_cons]
    omega
structure Bfs (d : Dc) (id : Int) (out : List Int) (i : Nat) : Prop where
  le : i ≤ out.length
  nd : out.Nodup
  has : id ∈ out
  desc : ∀ x ∈ out, Dsc d id x
  from_ : ∀ x ∈ out, x = id ∨ ∃ n ∈ d.notes, n.id = x ∧ n.par ∈ out.take i
  done : ∀ n ∈ d.notes, n.par ∈ out.take i → n.id ∈ out
theorem Bfs.len {d : Dc} (h : Rgt d) {id : Int} (hid : ∃ n ∈ d.notes, n.id = id) {out : List Int} {i : Nat} (b : Bfs d id out i) : out.length ≤ d.notes.length := by
  have := nodup_len (a := out) (b := idsOf d.notes) b.nd fun x hx => by
    obtain ⟨n, hn, e⟩ := desc_note hid (b.desc x hx)
    rw [← e]
    exact List.mem_map_of_mem hn
  rwa [idsOf_len] at this
theorem Bfs.step {d : Dc} (h : Rgt d) {id : Int} (hid : ∃ n ∈ d.notes, n.id = id) {out : List Int} {i : Nat} (b : Bfs d id out i) (hi : i < out.length) : Bfs d id (out ++ kidI d.notes out[i]) (i + 1) := by
  have ht : (out ++ kidI d.notes out[i]).take (i + 1) = out.take i ++ [out[i]] := by
    rw [List.take_append_of_le_length (by omega), take_snoc' hi]
  refine ⟨by rw [List.length_append]; omega, ?_, by simp [b.has], ?_, ?_, ?_⟩
  · rw [List.nodup_append]
    refine ⟨b.nd, ?_, ?_⟩
    · unfold kidI idsOf
      show List.Pairwise _ (List.map _ _)
      rw [List.pairwise_map]
      exact (h.inc.sublist List.filter_sublist).imp fun {x y} hxy e => by omega
    · intro x hx y hy e
      subst e
      obtain ⟨n, hn, hni, hnp⟩ := kidI_mem.1 hy
      rcases b.from_ x hx with e | ⟨m, hm, hmi, hmp⟩
      · exact desc_top h hn (hni.trans e) (by rw [hnp]; exact b.desc _ (List.getElem_mem hi))
      · have := ids_uniq h hm hn (hmi.trans hni.symm)
        subst this
        rw [hnp] at hmp
        rw [List.mem_take_iff_getElem] at hmp
        obtain ⟨j, hj, ej⟩ := hmp
        have := List.pairwise_iff_getElem.1 b.nd j i (by omega) hi (by omega)
        exact this ej
  · intro x hx
    rcases List.mem_append.1 hx with hx | hx
    · exact b.desc x hx
    · obtain ⟨n, hn, rfl, hnp⟩ := kidI_mem.1 hx
      exact .kid n hn (by rw [hnp]; exact b.desc _ (List.getElem_mem hi))
  · intro x hx
    rw [ht]
    rcases List.mem_append.1 hx with hx | hx
    · rcases b.from_ x hx with e | ⟨m, hm, hmi, hmp⟩
      · exact .inl e
      · exact .inr ⟨m, hm, hmi, List.mem_append.2 (.inl hmp)⟩
    · obtain ⟨n, hn, rfl, hnp⟩ := kidI_mem.1 hx
      exact .inr ⟨n, hn, rfl, List.mem_append.2 (.inr (by rw [hnp]; exact List.mem_singleton.2 rfl))⟩
  · intro n hn hp
    rw [ht, List.mem_append, List.mem_singleton] at hp
    rw [List.mem_append]
    rcases hp with hp | hp
    · exact .inl (b.done n hn hp)
    · exact .inr (kidI_mem.2 ⟨n, hn, rfl, hp⟩)
theorem Bfs.fin {d : Dc} (h : Rgt d) {id : Int} (hid : ∃ n ∈ d.notes, n.id = id) {out : List Int} (b : Bfs d id out out.length) : sortI out = subIds d id := by
  have hs : (sortI out).Pairwise fun a b => a < b := by
    have h1 : (sortI out).Pairwise fun a b => decide (a ≤ b) = true := List.pairwise_mergeSort (fun a b c h1 h2 => by simp at *; omega) (fun a b => by simp; omega) out
    have h2 : (sortI out).Nodup := (sortI_perm out).nodup_iff.2 b.nd
    exact (List.pairwise_and_iff.2 ⟨h1, h2⟩).imp fun {a b} h => by have := h.1; have := h.2; simp at *; omega
  refine sorted_unique hs (sub_sorted h id) fun x => ?_
  rw [(sortI_perm out).mem_iff, sub_mem]
  have hd := b.done
  rw [List.take_length] at hd
  constructor
  · intro hx
    exact ⟨b.desc x hx, desc_note hid (b.desc x hx)⟩
  · intro hxx
    have hx := hxx.1
    clear hxx
    induction hx with
    | self => exact b.has
    | kid n hn _ ih => exact hd n hn ih
theorem bfs_zero (d : Dc) (id : Int) : Bfs d id [id] 0 := ⟨by simp, by simp, by simp, fun x hx => by simp at hx; subst hx; exact .self, fun x hx => by simp at hx; exact .inl hx, fun n hn hp => by simp at hp⟩
set_option maxHeartbeats 4000000 in
theorem subtree_ok (d : Dc) (h : Rgt d) (hn : d.notes.length ≤ 15) (id : Int) (hid : ∃ n ∈ d.notes, n.id = id) : PureR Tryz.prog 36 [docD d, int id] (ints (subIds d id)) := by
  refine pure_of_body mixed Tryz.func36 rfl call_36 ?_
  simp (decide := true) [Tryz.f36, docD, Dc.row, int, ints, tiersD, notesD]
  refine loop_rule mixed (fun x : List Int × Nat => { n := 39, next := 3, slots := [(2, .bp 0 0), (5, .ar 2), (6, .d (int x.2))], own := [(0, .box 28 (docCells d)), (2, .arr 3 1 (x.1.map rowI))], moved := [2] })
    (fun x => Bfs d id x.1 x.2) (fun x => d.notes.length - x.2) ([id], 0) (bfs_zero d id) (by simp (decide := true) [int, ints, tiersD, notesD]) ?_
  rintro ⟨out, i⟩ hb
  simp only at hb
  have hlen := hb.len h hid
  by_cases hlt : i < out.length
  case neg =>
    have hi : i = out.length := by have := hb.le; omega
    subst hi
    have hf := hb.fin h hid
    have hs := numSorted_ok out (by intro e; subst e; have := hb.has; simp at this) (by omega) hb.nd
    rw [hf] at hs
    simp (decide := true) [int]
    refine ECall.pureN (by rfl) hs ?_
    simp (decide := true) [ints]
  have hlt' : (i : Int) < out.length := by omega
  have hst := hb.step h hid hlt
  have hlen2 := hst.len h hid
  obtain ⟨p, ep⟩ : ∃ p, out[i] = p := ⟨_, rfl⟩
  rw [ep] at hst hlen2
  rw [List.length_append] at hlen2
  simp (decide := true) [int, hlt', notesD]
  refine loop_rule mixed (fun k : Nat => { n := 39, next := 3, slots := [(2, .bp 0 0), (5, .ar 2), (6, .d (int i)), (18, .d (notesD d.notes)), (19, .d (int d.notes.length)), (20, .d (int k))], own := [(0, .box 28 (docCells d)), (2, .arr 3 1 ((out ++ kidI (d.notes.take k) p).map rowI))], moved := [2] })
    (fun k => k ≤ d.notes.length) (fun k => d.notes.length - k) 0 (by simp) (by simp (decide := true) [int, ints, tiersD, notesD, kidI, idsOf]) ?_
  intro k hk
  by_cases hkl : k < d.notes.length
  case neg =>
    have : k = d.notes.length := by omega
    subst this
    rw [List.take_length]
    simp (decide := true) [int, notesD, I64]
    exact ⟨⟨by omega, by omega⟩, _, i + 1, hst, by omega, by omega, by simp⟩
  have hkl' : (k : Int) < d.notes.length := by omega
  obtain ⟨m, em'⟩ : ∃ m, d.notes[k] = m := ⟨_, rfl⟩
  have em : d.notes[k]? = some m := by rw [List.getElem?_eq_getElem hkl, em']
  have hsn := kidI_snoc (p := p) hkl
  rw [em'] at hsn
  have hkk : (kidI (d.notes.take k) p).length ≤ k := by
    unfold kidI; rw [idsOf_len]; exact Nat.le_trans (List.length_filter_le _ _) (by rw [List.length_take]; omega)
  generalize kidI (d.notes.take k) p = q at hsn hkk ⊢
  have hqi : i < (out ++ q).length := by rw [List.length_append]; omega
  have eqi : (out ++ q)[i]? = some p := by rw [List.getElem?_append_left hlt, List.getElem?_eq_getElem hlt, ep]
  have hqi' : (i : Int) < out.length + q.length := by omega
  have eqr : (List.map rowI out ++ List.map rowI q)[i]? = some [D.int .i64 p] := by rw [← List.map_append, List.getElem?_map, eqi]; rfl
  have hqs : i < out.length + q.length := by omega
  have hb2 : i < (List.map rowI out ++ List.map rowI q).length := by simp; omega
  have eqg : (List.map rowI out ++ List.map rowI q)[i]'hb2 = [D.int .i64 p] := by rw [List.getElem?_eq_getElem hb2] at eqr; exact Option.some.inj eqr
  by_cases e : m.par = p
  · rw [if_pos e] at hsn
    simp (decide := true) [int, notesD, Nt.row, hkl, hkl', em, em', hqi, hqi', hqs, eqg, e, I64]
    exact ⟨by omega, by unfold maxLen; omega, ⟨by omega, by omega⟩, k + 1, hkl, by omega, by omega, by rw [hsn]; simp [int]⟩
  · rw [if_neg e, List.append_nil] at hsn
    simp (decide := true) [int, notesD, Nt.row, hkl, hkl', em, em', hqi, hqi', hqs, eqg, e, I64]
    exact ⟨⟨by omega, by omega⟩, k + 1, hkl, by omega, by omega, by rw [hsn]⟩
end Go.V
namespace Go.V
open Go Go.Proofs
def setTm (en : Bool) (time : Int) (n : Nt) : Nt := if en = true then { n with tO := time } else { n with fr := time }
def extPick (en : Bool) (ks : List Nt) : Nt := if en = true then ks[ks.length - 1]?.getD default else ks[0]?.getD default
def extStep (d : Dc) (en : Bool) (ex : List Nt → Int → List Nt) (id : Int) (l : List Nt) (t : Int) : List Nt :=
  if kindI d t = 1 ∧ kidsN { d with notes := l } id t ≠ [] then ex l (extPick en (kidsN { d with notes := l } id t)).id else l
def extP (d : Dc) (time : Int) (en : Bool) : Nat → List Nt → Int → List Nt
  | 0, l, _ => l
  | f + 1, l, id => (kidsT d.tiers (l[(atI l id).toNat]?.getD default).tier).foldl (extStep d en (extP d time en f) id) (l.set (atI l id).toNat (setTm en time (l[(atI l id).toNat]?.getD default)))
def skel (n : Nt) : Int × Int × Int × Int × ByteArray := (n.id, n.tier, n.par, n.rank, n.text)
theorem setTm_skel (en : Bool) (time : Int) (n : Nt) : skel (setTm en time n) = skel n := by unfold setTm; split <;> rfl
theorem set_skel (en : Bool) (time : Int) (l : List Nt) (k : Nat) : (l.set k (setTm en time (l[k]?.getD default))).map skel = l.map skel := by
  rw [List.map_set, setTm_skel]
  by_cases h : k < l.length
  · rw [List.getElem?_eq_getElem h, Option.getD_some]
    apply List.ext_getElem (by simp)
    intro i h1 h2
    rw [List.getElem_set]
    split
    · rename_i e; subst e; rw [List.getElem_map]
    · rfl
  · rw [List.set_eq_of_length_le (by rw [List.length_map]; omega)]
theorem foldl_skel {g : List Nt → Int → List Nt} (hg : ∀ l t, (g l t).map skel = l.map skel) : ∀ (ts : List Int) (l : List Nt), (ts.foldl g l).map skel = l.map skel
  | [], l => rfl
  | t :: r, l => by rw [List.foldl_cons, foldl_skel hg r, hg]
theorem extP_skel (d : Dc) (time : Int) (en : Bool) : ∀ (f : Nat) (l : List Nt) (id : Int), (extP d time en f l id).map skel = l.map skel
  | 0, l, _ => rfl
  | f + 1, l, id => by
    unfold extP
    rw [foldl_skel (fun l t => ?_), set_skel]
    unfold extStep
    split
    · exact extP_skel d time en f l _
    · rfl
theorem skel_len {a b : List Nt} (h : a.map skel = b.map skel) : a.length = b.length := by have := congrArg List.length h; simpa using this
theorem skel_inc {a b : List Nt} (h : a.map skel = b.map skel) (hb : IncL b) : IncL a := by
  unfold IncL at hb ⊢
  have h1 : (b.map skel).Pairwise fun x y => x.1 < y.1 := by rw [List.pairwise_map]; exact hb
  rw [← h, List.pairwise_map] at h1
  exact h1
theorem inc_uniq {l : List Nt} (h : IncL l) {a b : Nt} (ha : a ∈ l) (hb : b ∈ l) (e : a.id = b.id) : a = b := by
  obtain ⟨i, hi, rfl⟩ := List.mem_iff_getElem.1 ha
  obtain ⟨j, hj, rfl⟩ := List.mem_iff_getElem.1 hb
  have hp := List.pairwise_iff_getElem.1 h
  rcases Nat.lt_trichotomy i j with h1 | rfl | h1
  · have := hp i j hi hj h1; omega
  · rfl
  · have := hp j i hj hi h1; omega
theorem inc_at {l : List Nt} (h : IncL l) {n : Nt} (hn : n ∈ l) : ∃ k : Nat, ∃ hk : k < l.length, atI l n.id = k ∧ l[k] = n := by
  have hg : (getN l n.id).2 = true := by
    unfold getN
    cases hf : l.find? fun m => decide (m.id = n.id) with
    | none => rw [List.find?_eq_none] at hf; exact absurd (hf n hn) (by simp)
    | some m => rfl
  obtain ⟨k, hk, e1, e2⟩ := getN_at hg
  refine ⟨k, hk, e1, inc_uniq h (List.getElem_mem hk) hn ?_⟩
  rw [e2]; exact (getN_mem hg).2
theorem pick_mem {en : Bool} {ks : List Nt} (h : ks ≠ []) : extPick en ks ∈ ks := by
  have hl : 0 < ks.length := List.length_pos_iff.2 h
  unfold extPick
  split
  · rw [List.getElem?_eq_getElem (by omega)]; exact List.getElem_mem _
  · rw [List.getElem?_eq_getElem hl]; exact List.getElem_mem _
set_option maxHeartbeats 8000000 in
theorem extend_ok (d : Dc) (time : Int) (en : Bool) (ht : d.tiers.length < 2^29) (hup : ∀ t : Nat, t < d.tiers.length → kindI d t = 1 → ∀ i : Int, (d.tiers[t]?.getD default).par = i → i < t) :
    ∀ (f : Nat) (l : List Nt) (n : Nt), l.length < 20 → IncL l → n ∈ l → 0 ≤ n.tier → n.tier < d.tiers.length → d.tiers.length ≤ n.tier.toNat + f →
    CallC Tryz.prog 42 [docO d 0, .d (int n.id), .d (int time), .d (.bool en)] [(0, .arr 45 7 (l.map Nt.row))] 1 (.tup []) 1 [(0, .arr 45 7 ((extP d time en f l n.id).map Nt.row))] [] := by
  intro f
  induction f with
  | zero => intro l n _ _ _ h0 h1 hf; omega
  | succ f ih =>
  intro l n hl hinc hn h0 h1 hf
  refine callC_of_body mixed Tryz.func42 rfl call_42 (by simp [Sym.los, Sym.lo, docO]) ?_
  obtain ⟨k, hk, hat, hkn⟩ := inc_at hinc hn
  have hA := at_ok { d with notes := l } n.id (by show l.length < _; omega)
  simp only [hat] at hA
  have hk' : (k : Int) < l.length := by omega
  have ek : l[k]? = some n := by rw [List.getElem?_eq_getElem hk, hkn]
  have hset : (l.set k (setTm en time n)).map skel = l.map skel := by have := set_skel en time l k; rwa [ek] at this
  have hT := kidsT_ok d.tiers n.tier (by omega)
  have hTm : ∀ t ∈ kidsT d.tiers n.tier, 0 ≤ t ∧ t < d.tiers.length ∧ (d.tiers[t.toNat]?.getD default).par = n.tier := fun t h => by
    have := kidsT_mem h; exact ⟨this.1, this.2.1, this.2.2.1⟩
  have hTl := kidsT_len d.tiers n.tier
  have hex : extP d time en (f + 1) l n.id = (kidsT d.tiers n.tier).foldl (extStep d en (extP d time en f) n.id) (l.set k (setTm en time n)) := by
    rw [extP, hat, Int.toNat_natCast, ek]; rfl
  rw [hex]
  generalize kidsT d.tiers n.tier = T at hT hTm hTl ⊢
  have hgs : ∀ (m : List Nt) (t : Int), (extStep d en (extP d time en f) n.id m t).map skel = m.map skel := fun m t => by
    unfold extStep
    split
    · exact extP_skel d time en f m _
    · rfl
  simp (decide := true) [Tryz.f42, docO, int, ints, tiersD]
  refine scall_pure (by rfl) (by rfl) hA (fun _ => rfl) ?_
  simp (decide := true) [int, ints, hk, hk', ek, hkn, Nt.row]
  cases en with
  | true =>
    have hs1 : (l.map Nt.row).set k [.int .i64 n.id, .int .i64 n.tier, .int .i64 n.par, .int .i64 n.fr, .int .i64 time, .int .i64 n.rank, .str n.text] = (l.set k (setTm true time n)).map Nt.row := by rw [List.map_set]; rfl
    have hsk : (l.set k (setTm true time n)).length = l.length := List.length_set ..
    have hk1 : (l.set k (setTm true time n))[k]? = some (setTm true time n) := by rw [List.getElem?_set_self hk]
    have hinc1 : IncL (l.set k (setTm true time n)) := skel_inc hset hinc
    have hcells : setTm true time n = { n with tO := time } := rfl
    simp (decide := true) [int, ints, hk, hk', ek, hkn, Nt.row]
    rw [hs1]
    generalize l.set k (setTm true time n) = l1 at hset hs1 hsk hk1 hinc1 ⊢
    rw [hcells] at hk1
    have hkl : k < l1.length := by omega
    have gk1 : l1[k] = { n with tO := time } := by rw [List.getElem?_eq_getElem hkl] at hk1; exact Option.some.inj hk1
    refine scall_pure (by rfl) (by rfl) hT (by simp (decide := true)) ?_
    simp (decide := true) [int, ints]
    refine loop_rule mixed (fun k : Nat => { n := 73, next := 2, slots := [(1, .d (int n.id)), (2, .d (int time)), (3, .d (.bool true)), (4, .bp 1 0), (35, .d (ints T)), (36, .d (int T.length)), (37, .d (int k))], own := [(0, .arr 45 7 (((T.take k).foldl (extStep d true (extP d time true f) n.id) l1).map Nt.row)), (1, .box 28 [.d (int d.id), .d (.str d.name), .d (int d.len), .d (int d.day), .d (ints d.spk), .d (tiersD d.tiers), .ar 0])], base := 1 })
      (fun k => k ≤ T.length) (fun k => T.length - k) 0 (by simp) (by simp (decide := true) [int, ints, tiersD]) ?_
    intro j hj
    by_cases hlt : j < T.length
    case neg =>
      have : j = T.length := by omega
      subst this
      rw [List.take_length]
      simp (decide := true) [int, ints]
    have hlt' : (j : Int) < T.length := by omega
    obtain ⟨u, eu'⟩ : ∃ u, T[j] = u := ⟨_, rfl⟩
    have eu : T[j]? = some u := by rw [List.getElem?_eq_getElem hlt, eu']
    have hsn : (T.take (j + 1)).foldl (extStep d true (extP d time true f) n.id) l1 = extStep d true (extP d time true f) n.id ((T.take j).foldl (extStep d true (extP d time true f) n.id) l1) u := by
      rw [take_snoc' hlt, List.foldl_append, eu']; rfl
    have hsk2 := foldl_skel hgs (T.take j) l1
    have hu := hTm u (by rw [← eu']; exact List.getElem_mem hlt)
    generalize (T.take j).foldl (extStep d true (extP d time true f) n.id) l1 = m at hsn hsk2 ⊢
    have hml : m.length = l.length := by have := skel_len hsk2; omega
    have hmi : IncL m := skel_inc hsk2 hinc1
    have hkn2 := kidsN_ok { d with notes := m } n.id u (by show m.length < _; omega)
    have hkm : ∀ x ∈ kidsN { d with notes := m } n.id u, x ∈ m ∧ x.tier = u := fun x hx => by
      obtain ⟨v, rfl⟩ : ∃ v : Nat, u = v := ⟨u.toNat, by omega⟩
      have := (kid_mem (d := { d with notes := m }) (t := v) (by show v < d.tiers.length; omega)).1 hx
      exact ⟨this.1.1, this.1.2⟩
    have hE : extStep d true (extP d time true f) n.id m u = if kindI d u = 1 ∧ kidsN { d with notes := m } n.id u ≠ [] then extP d time true f m (extPick true (kidsN { d with notes := m } n.id u)).id else m := rfl
    rw [hE] at hsn
    clear hE
    have hkl2 := kidsN_len { d with notes := m } n.id u
    simp only at hkl2
    generalize kidsN { d with notes := m } n.id u = ks at hkn2 hkm hsn hkl2
    have hkd := kind_ok { d with notes := m } u (by show d.tiers.length < _; omega)
    rw [show (if 0 ≤ u ∧ u < ({ d with notes := m } : Dc).tiers.length then ((({ d with notes := m } : Dc).tiers)[u.toNat]?.getD default).kind else -1) = kindI d u from rfl] at hkd
    have hil := idsOf_len ks
    simp (decide := true) [int, ints, hlt, hlt', eu, eu', I64]
    refine ECall.pureN (by rfl) hkn2 ?_
    simp (decide := true) [int, ints]
    refine ECall.pure (by rfl) hkd (fun _ => rfl) ?_
    by_cases h3 : kindI d u = 1
    case neg =>
      rw [if_neg (fun e => h3 e.1)] at hsn
      simp (decide := true) [int, ints, h3, I64]
      exact ⟨⟨by omega, by omega⟩, j + 1, hlt, by omega, by omega, by rw [hsn]⟩
    by_cases hne : ks = []
    · rw [if_neg (fun e => e.2 hne)] at hsn
      subst hne
      simp (decide := true) [int, ints, h3, I64, idsOf]
      exact ⟨⟨by omega, by omega⟩, j + 1, hlt, by omega, by omega, by rw [hsn]⟩
    rw [if_pos ⟨h3, hne⟩] at hsn
    obtain ⟨x, ex⟩ : ∃ x, extPick true ks = x := ⟨_, rfl⟩
    have hxm := pick_mem (en := true) hne
    rw [ex] at hsn hxm
    obtain ⟨hx1, hx2⟩ := hkm x hxm
    have hup2 := hup u.toNat (by omega) (by rw [show ((u.toNat : Nat) : Int) = u by omega]; exact h3) n.tier hu.2.2
    have hrec := ih m x (by omega) hmi hx1 (by omega) (by omega) (by omega)
    have hpos : 0 < ks.length := List.length_pos_iff.2 hne
    have hz : ¬ (ks.length : Int) = 0 := by omega
    have hz2 : ¬ (0 : Int) = ks.length := by omega
    simp (decide := true) [int, ints, h3, hil, hz, hz2, hne]
    refine draw_last2 mixed (by simp) (by rfl) (by rfl) (by rfl) (by simp) ?_
    have elast : (idsOf ks)[ks.length - 1]? = some x.id := by
      unfold extPick at ex
      rw [if_pos rfl, List.getElem?_eq_getElem (by omega), Option.getD_some] at ex
      unfold idsOf
      rw [List.getElem?_map, List.getElem?_eq_getElem (by omega), ex]; rfl
    have hb3 : ks.length - 1 < (idsOf ks).length := by omega
    have elg : (idsOf ks)[ks.length - 1]'hb3 = x.id := by rw [List.getElem?_eq_getElem hb3] at elast; exact Option.some.inj elast
    simp (decide := true) [int, ints, hil, hpos, elast, elg, I64]
    refine ⟨⟨by omega, by omega⟩, by omega, ?_⟩
    refine ECall.mut [0] [docO d 0, .d (int x.id), .d (int time), .d (.bool true)] [(0, .arr 45 7 (m.map Nt.row))] (by rfl) (by simp [docO, int, ints, tiersD]) (by simp [Sym.los, Sym.lo, docO]) (by simp) hrec ?_
    simp (decide := true) [int, ints, I64]
    exact ⟨⟨by omega, by omega⟩, j + 1, hlt, by omega, by omega, by rw [hsn]⟩
  | false =>
    have hs1 : (l.map Nt.row).set k [.int .i64 n.id, .int .i64 n.tier, .int .i64 n.par, .int .i64 time, .int .i64 n.tO, .int .i64 n.rank, .str n.text] = (l.set k (setTm false time n)).map Nt.row := by rw [List.map_set]; rfl
    have hsk : (l.set k (setTm false time n)).length = l.length := List.length_set ..
    have hk1 : (l.set k (setTm false time n))[k]? = some (setTm false time n) := by rw [List.getElem?_set_self hk]
    have hinc1 : IncL (l.set k (setTm false time n)) := skel_inc hset hinc
    have hcells : setTm false time n = { n with fr := time } := rfl
    simp (decide := true) [int, ints, hk, hk', ek, hkn, Nt.row]
    rw [hs1]
    generalize l.set k (setTm false time n) = l1 at hset hs1 hsk hk1 hinc1 ⊢
    rw [hcells] at hk1
    have hkl : k < l1.length := by omega
    have gk1 : l1[k] = { n with fr := time } := by rw [List.getElem?_eq_getElem hkl] at hk1; exact Option.some.inj hk1
    refine scall_pure (by rfl) (by rfl) hT (by simp (decide := true)) ?_
    simp (decide := true) [int, ints]
    refine loop_rule mixed (fun k : Nat => { n := 73, next := 2, slots := [(1, .d (int n.id)), (2, .d (int time)), (3, .d (.bool false)), (4, .bp 1 0), (35, .d (ints T)), (36, .d (int T.length)), (37, .d (int k))], own := [(0, .arr 45 7 (((T.take k).foldl (extStep d false (extP d time false f) n.id) l1).map Nt.row)), (1, .box 28 [.d (int d.id), .d (.str d.name), .d (int d.len), .d (int d.day), .d (ints d.spk), .d (tiersD d.tiers), .ar 0])], base := 1 })
      (fun k => k ≤ T.length) (fun k => T.length - k) 0 (by simp) (by simp (decide := true) [int, ints, tiersD]) ?_
    intro j hj
    by_cases hlt : j < T.length
    case neg =>
      have : j = T.length := by omega
      subst this
      rw [List.take_length]
      simp (decide := true) [int, ints]
    have hlt' : (j : Int) < T.length := by omega
    obtain ⟨u, eu'⟩ : ∃ u, T[j] = u := ⟨_, rfl⟩
    have eu : T[j]? = some u := by rw [List.getElem?_eq_getElem hlt, eu']
    have hsn : (T.take (j + 1)).foldl (extStep d false (extP d time false f) n.id) l1 = extStep d false (extP d time false f) n.id ((T.take j).foldl (extStep d false (extP d time false f) n.id) l1) u := by
      rw [take_snoc' hlt, List.foldl_append, eu']; rfl
    have hsk2 := foldl_skel hgs (T.take j) l1
    have hu := hTm u (by rw [← eu']; exact List.getElem_mem hlt)
    generalize (T.take j).foldl (extStep d false (extP d time false f) n.id) l1 = m at hsn hsk2 ⊢
    have hml : m.length = l.length := by have := skel_len hsk2; omega
    have hmi : IncL m := skel_inc hsk2 hinc1
    have hkn2 := kidsN_ok { d with notes := m } n.id u (by show m.length < _; omega)
    have hkm : ∀ x ∈ kidsN { d with notes := m } n.id u, x ∈ m ∧ x.tier = u := fun x hx => by
      obtain ⟨v, rfl⟩ : ∃ v : Nat, u = v := ⟨u.toNat, by omega⟩
      have := (kid_mem (d := { d with notes := m }) (t := v) (by show v < d.tiers.length; omega)).1 hx
      exact ⟨this.1.1, this.1.2⟩
    have hE : extStep d false (extP d time false f) n.id m u = if kindI d u = 1 ∧ kidsN { d with notes := m } n.id u ≠ [] then extP d time false f m (extPick false (kidsN { d with notes := m } n.id u)).id else m := rfl
    rw [hE] at hsn
    clear hE
    have hkl2 := kidsN_len { d with notes := m } n.id u
    simp only at hkl2
    generalize kidsN { d with notes := m } n.id u = ks at hkn2 hkm hsn hkl2
    have hkd := kind_ok { d with notes := m } u (by show d.tiers.length < _; omega)
    rw [show (if 0 ≤ u ∧ u < ({ d with notes := m } : Dc).tiers.length then ((({ d with notes := m } : Dc).tiers)[u.toNat]?.getD default).kind else -1) = kindI d u from rfl] at hkd
    have hil := idsOf_len ks
    simp (decide := true) [int, ints, hlt, hlt', eu, eu', I64]
    refine ECall.pureN (by rfl) hkn2 ?_
    simp (decide := true) [int, ints]
    refine ECall.pure (by rfl) hkd (fun _ => rfl) ?_
    by_cases h3 : kindI d u = 1
    case neg =>
      rw [if_neg (fun e => h3 e.1)] at hsn
      simp (decide := true) [int, ints, h3, I64]
      exact ⟨⟨by omega, by omega⟩, j + 1, hlt, by omega, by omega, by rw [hsn]⟩
    by_cases hne : ks = []
    · rw [if_neg (fun e => e.2 hne)] at hsn
      subst hne
      simp (decide := true) [int, ints, h3, I64, idsOf]
      exact ⟨⟨by omega, by omega⟩, j + 1, hlt, by omega, by omega, by rw [hsn]⟩
    rw [if_pos ⟨h3, hne⟩] at hsn
    obtain ⟨x, ex⟩ : ∃ x, extPick false ks = x := ⟨_, rfl⟩
    have hxm := pick_mem (en := false) hne
    rw [ex] at hsn hxm
    obtain ⟨hx1, hx2⟩ := hkm x hxm
    have hup2 := hup u.toNat (by omega) (by rw [show ((u.toNat : Nat) : Int) = u by omega]; exact h3) n.tier hu.2.2
    have hrec := ih m x (by omega) hmi hx1 (by omega) (by omega) (by omega)
    have hpos : 0 < ks.length := List.length_pos_iff.2 hne
    have hz : ¬ (ks.length : Int) = 0 := by omega
    have hz2 : ¬ (0 : Int) = ks.length := by omega
    simp (decide := true) [int, ints, h3, hil, hz, hz2, hne]
    refine draw_last2 mixed (by simp) (by rfl) (by rfl) (by rfl) (by simp) ?_
    have elast : (idsOf ks)[0]? = some x.id := by
      unfold extPick at ex
      rw [if_neg Bool.false_ne_true, List.getElem?_eq_getElem hpos, Option.getD_some] at ex
      unfold idsOf
      rw [List.getElem?_map, List.getElem?_eq_getElem hpos, ex]; rfl
    have hb3 : 0 < (idsOf ks).length := by omega
    have elg : (idsOf ks)[0]'hb3 = x.id := by rw [List.getElem?_eq_getElem hb3] at elast; exact Option.some.inj elast
    simp (decide := true) [int, ints, hil, hpos, elast, elg, I64]
    refine ECall.mut [0] [docO d 0, .d (int x.id), .d (int time), .d (.bool false)] [(0, .arr 45 7 (m.map Nt.row))] (by rfl) (by simp [docO, int, ints, tiersD]) (by simp [Sym.los, Sym.lo, docO]) (by simp) hrec ?_
    simp (decide := true) [int, ints, I64]
    exact ⟨⟨by omega, by omega⟩, j + 1, hlt, by omega, by omega, by rw [hsn]⟩
end Go.V
namespace Go.V
open Go Go.Proofs
theorem contains_ok (l : List Int) (v : Int) (hl : l.length < 2^62) : PureR Tryz.prog 76 [ints l, int v] (.bool (decide (v ∈ l))) := by
  refine pure_of_body mixed Tryz.func76 rfl call_76 ?_
  simp (decide := true) [Tryz.f76, ints, int]
  refine ECall.pure (by rfl) (indexI_ok l v hl) (fun _ => rfl) ?_
  have : decide (0 ≤ idxI (fun n => decide (n = v)) l) = decide (v ∈ l) := by
    unfold idxI
    cases h : l.findIdx? fun n => decide (n = v) with
    | none =>
      rw [List.findIdx?_eq_none_iff] at h
      have : v ∉ l := fun hv => by have := h v hv; simp at this
      simp [this]
    | some k =>
      rw [List.findIdx?_eq_some_iff_getElem] at h
      obtain ⟨hk, he, _⟩ := h
      rw [decide_eq_true_eq] at he
      have : v ∈ l := by rw [← he]; exact List.getElem_mem hk
      simp [this]
  simp (decide := true) [int]
  simpa using this
theorem numHas_ok (l : List Int) (v : Int) (hl : l.length < 2^62) : PureR Tryz.prog 45 [ints l, int v] (.bool (decide (v ∈ l))) := by
  refine pure_of_body mixed Tryz.func45 rfl call_45 ?_
  simp (decide := true) [Tryz.f45, ints, int]
  refine ECall.pure (by rfl) (contains_ok l v hl) (fun _ => rfl) ?_
  simp (decide := true)
theorem drop1_ok (n : Nt) (l : List Int) (hl : l.length < 2^62) : PureR Tryz.prog 44 [.agg n.row, .ptr [ints l]] (.bool (decide (n.id ∈ l))) := by
  refine pure_of_body mixed Tryz.func44 rfl call_44 ?_
  simp (decide := true) [Tryz.f44, Nt.row, int]
  refine ECall.pure (by rfl) (numHas_ok l n.id hl) (fun _ => rfl) ?_
  simp (decide := true)
theorem dropDel_ok (l : List Nt) (out : List Int) (hl : l.length < 2^62) (ho : out.length < 2^62) :
    CallC Tryz.prog 43 [.ar 0, .fn 44 [.bp 1 0]] [(0, .arr 45 7 (l.map Nt.row)), (1, .box 22 [.d (ints out)])] 2
      (.d (.sl ((woN out l).map Nt.row))) 2 [(1, .box 22 [.d (ints out)])] [] :=
  deleteN_ok l hl _ _ (fun d => decide (d.id ∈ out)) (ints out) fun x _ => drop1_ok x out ho
def dropL (d : Dc) (n : Nt) : List Nt :=
  if kindI d n.tier = 3 then shN n.tier n.par n.rank (-1) d.notes
  else if kindI d n.tier = 1 then
    (if 0 < idxI (fun x => decide (x = n.id)) (idsOf (kidsN d n.par n.tier)) then extP d n.tO true d.tiers.length d.notes ((idsOf (kidsN d n.par n.tier))[(idxI (fun x => decide (x = n.id)) (idsOf (kidsN d n.par n.tier)) - 1).toNat]?.getD 0)
      else if 1 < (idsOf (kidsN d n.par n.tier)).length then extP d n.fr false d.tiers.length d.notes ((idsOf (kidsN d n.par n.tier))[1]?.getD 0) else d.notes)
  else d.notes
noncomputable def dropE (d : Dc) (id : Int) : Dc × List Int × Int :=
  if (getN d.notes id).2 = false then (Dc.zero, [], 9) else ({ d with notes := woN (subIds d id) (dropL d (getN d.notes id).1) }, subIds d id, 0)
def resL (r : Dc × List Int × Int) : D := .tup [docD r.1, ints r.2.1, int r.2.2]
theorem kind_up {d : Dc} (h : Rgt d) : ∀ t : Nat, t < d.tiers.length → kindI d t = 1 → ∀ i : Int, (d.tiers[t]?.getD default).par = i → i < t := by
  intro t ht hk i hi
  rw [kindI_at ht] at hk
  have := h.up ht (by rw [hk]; decide)
  unfold tirAt at this
  rw [Int.toNat_natCast, hi] at this
  omega
set_option maxHeartbeats 8000000 in
theorem drop_ok (d : Dc) (h : Rgt d) (hn : d.notes.length ≤ 15) (id : Int) : PureR Tryz.prog 15 [docD d, int id] (resL (dropE d id)) := by
  refine pure_of_body_frz mixed Tryz.func15 rfl call_15 [4] ?_
  have ht := tiers20 h
  simp (decide := true) [Tryz.f15, docD, Dc.row, int, resL]
  refine ECall.pure (by rfl) (get_ok d id (by omega)) (by simp (decide := true) [docD, Dc.row]) ?_
  have hm := getN_mem (l := d.notes) (id := id)
  unfold dropE
  obtain ⟨⟨n, ok⟩, eg⟩ : ∃ g, getN d.notes id = g := ⟨_, rfl⟩
  rw [eg] at hm ⊢
  cases ok with
  | false => simp (decide := true) [getD', Nt.row, int, Dc.zero, ints, tiersD, notesD]
  | true =>
  have hn1 : n ∈ d.notes := (hm rfl).1
  have hn2 : n.id = id := (hm rfl).2
  clear hm
  subst hn2
  have hid : ∃ m ∈ d.notes, m.id = n.id := ⟨n, hn1, rfl⟩
  have hsub := subtree_ok d h hn n.id hid
  have hol : (subIds d n.id).length ≤ d.notes.length := by unfold subIds; rw [idsOf_len]; exact List.length_filter_le _ _
  simp (decide := true) [getD', Nt.row, int]
  generalize subIds d n.id = out at hsub hol ⊢
  refine ECall.pure (by rfl) hsub (by simp (decide := true) [docD, Dc.row, int]) ?_
  simp (decide := true) [int, ints, tiersD, notesD]
  refine ECall.mut [] [.d (docD d)] [] (by rfl) (by simp [docD, Dc.row, int, ints, tiersD, notesD]) (by simp) (by simp) (copied_ok d (by omega)) ?_
  simp (decide := true) [docO, int, ints, tiersD]
  refine ECall.pure (by rfl) (kind_ok d n.tier (by omega)) (fun _ => rfl) ?_
  rw [show (if 0 ≤ n.tier ∧ n.tier < d.tiers.length then (d.tiers[n.tier.toNat]?.getD default).kind else -1) = kindI d n.tier from rfl]
  have hok := note_of h.good hn1
  have hrk := h.rank
  unfold dropL
  by_cases h3 : kindI d n.tier = 3
  · rw [if_pos h3]
    have hsh := shift_ok d d.notes n.tier n.par n.rank (-1) (by omega) hrk (by omega)
    have hsl := shN_len n.tier n.par n.rank (-1) d.notes
    generalize shN n.tier n.par n.rank (-1) d.notes = l1 at hsh hsl ⊢
    have hdel := dropDel_ok l1 out (by omega) (by omega)
    generalize woN out l1 = l2 at hdel ⊢
    simp (decide := true) [int, h3, Nt.row]
    refine ECall.mut [7] [docO d 0, .d (int n.tier), .d (int n.par), .d (int n.rank), .d (int (-1))] [(0, .arr 45 7 (d.notes.map Nt.row))] (by rfl) (by simp [docO, int, ints, tiersD]) (by simp [Sym.los, Sym.lo, docO]) (by simp) hsh ?_
    simp (decide := true) [int]
    refine ECall.mut [7, 4] [.ar 0, .fn 44 [.bp 1 0]] [(0, .arr 45 7 (l1.map Nt.row)), (1, .box 22 [.d (ints out)])] (by rfl) (by simp) (by simp [Sym.los, Sym.lo]) (by simp [ints]; rfl) hdel ?_
    simp (decide := true) [int]
    refine draw_x mixed (mkG_good can_all) no_call [4, 5, 6] (st' := { n := 83, next := 8, slots := [(4, .bp 1 0), (5, .d (ints out)), (6, .d (int 0))], own := [(4, .box 22 [.d (ints out)]), (3, .box 45 (noteCells n)), (2, .arr 3 1 []), (1, .box 28 (docCells { d with notes := l2 })), (0, .box 28 (docCells { d with notes := l2 }))] }) (by kernel_rfl) ?_
    simp (decide := true) [int, ints, tiersD, notesD]
  rw [if_neg h3]
  by_cases h1 : kindI d n.tier = 1
  case neg =>
    rw [if_neg h1]
    have hdel := dropDel_ok d.notes out (by omega) (by omega)
    generalize woN out d.notes = l2 at hdel ⊢
    simp (decide := true) [int, h3, h1]
    refine ECall.mut [7, 4] [.ar 0, .fn 44 [.bp 1 0]] [(0, .arr 45 7 (d.notes.map Nt.row)), (1, .box 22 [.d (ints out)])] (by rfl) (by simp) (by simp [Sym.los, Sym.lo]) (by simp [ints]; rfl) hdel ?_
    simp (decide := true) [int]
    refine draw_x mixed (mkG_good can_all) no_call [4, 5, 6] (st' := { n := 83, next := 8, slots := [(4, .bp 1 0), (5, .d (ints out)), (6, .d (int 0))], own := [(4, .box 22 [.d (ints out)]), (3, .box 45 (noteCells n)), (2, .arr 3 1 []), (1, .box 28 (docCells { d with notes := l2 })), (0, .box 28 (docCells { d with notes := l2 }))] }) (by kernel_rfl) ?_
    simp (decide := true) [int, ints, tiersD, notesD]
  rw [if_pos h1]
  obtain ⟨tt, ett⟩ : ∃ tt : Nat, n.tier = tt := ⟨n.tier.toNat, by have := hok.t0; omega⟩
  have htl : tt < d.tiers.length := by have := hok.t1; omega
  have hkn := kidsN_ok d n.par n.tier (by omega)
  have hnd := nodup_ids h (id := n.par) htl
  have hkm : ∀ x ∈ kidsN d n.par n.tier, x ∈ d.notes := fun x hx => by
    rw [ett] at hx
    exact ((kid_mem htl).1 hx).1.1
  have hmn : n ∈ kidsN d n.par n.tier := by rw [ett]; exact (kid_mem htl).2 ⟨⟨hn1, ett⟩, rfl⟩
  have hkl := kidsN_len d n.par n.tier
  rw [← ett] at hnd
  have hil := idsOf_len (kidsN d n.par n.tier)
  generalize kidsN d n.par n.tier = ks at hkn hnd hkm hmn hkl hil ⊢
  obtain ⟨j, hj, ej⟩ := List.mem_iff_getElem.1 hmn
  have hidx := idxI_at hnd (i := j) (a := n.id) (by unfold idsOf; rw [List.getElem?_map, List.getElem?_eq_getElem hj, ej]; rfl)
  have hIx := indexI_ok (idsOf ks) n.id (by omega)
  rw [hidx] at hIx ⊢
  have hget : ∀ i : Nat, (hi : i < ks.length) → (idsOf ks)[i]? = some ks[i].id := fun i hi => by unfold idsOf; rw [List.getElem?_map, List.getElem?_eq_getElem hi]; rfl
  rw [hil]
  by_cases j0 : 0 < j
  · rw [if_pos (by omega), show ((j : Int) - 1).toNat = j - 1 by omega, hget (j - 1) (by omega), Option.getD_some]
    have hgj := hget (j - 1) (by omega)
    obtain ⟨y, ey⟩ : ∃ y, ks[j - 1] = y := ⟨_, rfl⟩
    have hy1 : y ∈ d.notes := by rw [← ey]; exact hkm _ (List.getElem_mem _)
    rw [ey] at hgj ⊢
    have hyt := note_of h.good hy1
    have j0' : (0 : Int) < j := by omega
    have hb3 : j - 1 < (idsOf ks).length := by omega
    have elg : (idsOf ks)[j - 1]'hb3 = y.id := by rw [List.getElem?_eq_getElem hb3] at hgj; exact Option.some.inj hgj
    have hext := extend_ok d n.tO true (by omega) (kind_up h) d.tiers.length d.notes y (by omega) h.inc hy1 hyt.t0 hyt.t1 (by omega)
    have hsl := skel_len (extP_skel d n.tO true d.tiers.length d.notes y.id)
    generalize extP d n.tO true d.tiers.length d.notes y.id = l1 at hext hsl ⊢
    have hdel := dropDel_ok l1 out (by omega) (by omega)
    generalize woN out l1 = l2 at hdel ⊢
    simp (decide := true) [int, ints, h3, h1]
    refine ECall.pureN (by rfl) hkn ?_
    simp (decide := true) [int, ints]
    refine ECall.pure (by rfl) hIx (fun _ => rfl) ?_
    simp (decide := true) [int, ints, h3, h1, Nt.row, j0, j0', I64]
    refine draw_last2 mixed (by simp) (by rfl) (by rfl) (by rfl) (by simp) ?_
    simp (decide := true) [int, ints, hgj, elg, hil, hj, j0, j0, I64]
    refine ⟨⟨by omega, by omega⟩, by omega, ?_⟩
    refine ECall.mut [7] [docO d 0, .d (int y.id), .d (int n.tO), .d (.bool true)] [(0, .arr 45 7 (d.notes.map Nt.row))] (by rfl) (by simp [docO, int, ints, tiersD]) (by simp [Sym.los, Sym.lo, docO]) (by simp) hext ?_
    simp (decide := true) [int, ints]
    refine ECall.mut [7, 4] [.ar 0, .fn 44 [.bp 1 0]] [(0, .arr 45 7 (l1.map Nt.row)), (1, .box 22 [.d (ints out)])] (by rfl) (by simp) (by simp [Sym.los, Sym.lo]) (by simp [ints]; rfl) hdel ?_
    simp (decide := true) [int]
    refine draw_x mixed (mkG_good can_all) no_call [4, 5, 6] (st' := { n := 83, next := 8, slots := [(4, .bp 1 0), (5, .d (ints out)), (6, .d (int 0))], own := [(4, .box 22 [.d (ints out)]), (3, .box 45 (noteCells n)), (2, .arr 3 1 []), (1, .box 28 (docCells { d with notes := l2 })), (0, .box 28 (docCells { d with notes := l2 }))] }) (by kernel_rfl) ?_
    simp (decide := true) [int, ints, tiersD, notesD]
  · have jz : j = 0 := by omega
    subst jz
    rw [if_neg (by omega)]
    by_cases l1c : 1 < ks.length
    · have l1c' : (1 : Int) < ks.length := by omega
      rw [if_pos l1c, hget 1 l1c, Option.getD_some]
      have hgj := hget 1 l1c
      obtain ⟨y, ey⟩ : ∃ y, ks[1] = y := ⟨_, rfl⟩
      have hy1 : y ∈ d.notes := by rw [← ey]; exact hkm _ (List.getElem_mem _)
      rw [ey] at hgj ⊢
      have hyt := note_of h.good hy1
      have hb3 : 1 < (idsOf ks).length := by omega
      have elg : (idsOf ks)[1]'hb3 = y.id := by rw [List.getElem?_eq_getElem hb3] at hgj; exact Option.some.inj hgj
      have hext := extend_ok d n.fr false (by omega) (kind_up h) d.tiers.length d.notes y (by omega) h.inc hy1 hyt.t0 hyt.t1 (by omega)
      have hsl := skel_len (extP_skel d n.fr false d.tiers.length d.notes y.id)
      generalize extP d n.fr false d.tiers.length d.notes y.id = l1 at hext hsl ⊢
      have hdel := dropDel_ok l1 out (by omega) (by omega)
      generalize woN out l1 = l2 at hdel ⊢
      simp (decide := true) [int, ints, h3, h1]
      refine ECall.pureN (by rfl) hkn ?_
      simp (decide := true) [int, ints]
      refine ECall.pure (by rfl) hIx (fun _ => rfl) ?_
      simp (decide := true) [int, ints, h3, h1, Nt.row, l1c, l1c', hil, I64]
      refine draw_last2 mixed (by simp) (by rfl) (by rfl) (by rfl) (by simp) ?_
      simp (decide := true) [int, ints, hgj, elg, hil, l1c, l1c', I64]
      refine ECall.mut [7] [docO d 0, .d (int y.id), .d (int n.fr), .d (.bool false)] [(0, .arr 45 7 (d.notes.map Nt.row))] (by rfl) (by simp [docO, int, ints, tiersD]) (by simp [Sym.los, Sym.lo, docO]) (by simp) hext ?_
      simp (decide := true) [int, ints]
      refine ECall.mut [7, 4] [.ar 0, .fn 44 [.bp 1 0]] [(0, .arr 45 7 (l1.map Nt.row)), (1, .box 22 [.d (ints out)])] (by rfl) (by simp) (by simp [Sym.los, Sym.lo]) (by simp [ints]; rfl) hdel ?_
      simp (decide := true) [int]
      refine draw_x mixed (mkG_good can_all) no_call [4, 5, 6] (st' := { n := 83, next := 8, slots := [(4, .bp 1 0), (5, .d (ints out)), (6, .d (int 0))], own := [(4, .box 22 [.d (ints out)]), (3, .box 45 (noteCells n)), (2, .arr 3 1 []), (1, .box 28 (docCells { d with notes := l2 })), (0, .box 28 (docCells { d with notes := l2 }))] }) (by kernel_rfl) ?_
      simp (decide := true) [int, ints, tiersD, notesD]
    · have l1c' : ¬ (1 : Int) < ks.length := by omega
      rw [if_neg l1c]
      have hdel := dropDel_ok d.notes out (by omega) (by omega)
      generalize woN out d.notes = l2 at hdel ⊢
      simp (decide := true) [int, ints, h3, h1]
      refine ECall.pureN (by rfl) hkn ?_
      simp (decide := true) [int, ints]
      refine ECall.pure (by rfl) hIx (fun _ => rfl) ?_
      simp (decide := true) [int, ints, h3, h1, l1c, l1c', hil]
      refine ECall.mut [7, 4] [.ar 0, .fn 44 [.bp 1 0]] [(0, .arr 45 7 (d.notes.map Nt.row)), (1, .box 22 [.d (ints out)])] (by rfl) (by simp) (by simp [Sym.los, Sym.lo]) (by simp [ints]; rfl) hdel ?_
      simp (decide := true) [int]
      refine draw_x mixed (mkG_good can_all) no_call [4, 5, 6] (st' := { n := 83, next := 8, slots := [(4, .bp 1 0), (5, .d (ints out)), (6, .d (int 0))], own := [(4, .box 22 [.d (ints out)]), (3, .box 45 (noteCells n)), (2, .arr 3 1 []), (1, .box 28 (docCells { d with notes := l2 })), (0, .box 28 (docCells { d with notes := l2 }))] }) (by kernel_rfl) ?_
      simp (decide := true) [int, ints, tiersD, notesD]
end Go.V
namespace Go.V
open Go Go.Proofs
def below (l : List Nt) (t : Int) : Nat := (l.filter fun n => decide (n.tier < t)).length
end Go.V
namespace Go.V
open Go Go.Proofs
end Go.V
namespace Go.V
open Go Go.Proofs
theorem wo_one (b : Int) (l : List Nt) : woN [b] l = l.filter fun n => !decide (n.id = b) := by
  unfold woN
  exact List.filter_congr fun n _ => by simp
theorem sub_one {r : Dc} (h : Rgt r) {n : Nt} (hn : n ∈ r.notes) (hp : ∀ m ∈ r.notes, m.par ≠ n.id) : subIds r n.id = [n.id] := by
  refine sorted_unique (sub_sorted h _) (by simp) fun x => ?_
  rw [sub_mem, List.mem_singleton]
  constructor
  · rintro ⟨hx, _⟩
    have : ∀ y, Dsc r n.id y → y = n.id := by
      intro y hy
      induction hy with
      | self => rfl
      | kid m hm _ ih => exact absurd ih (hp m hm)
    exact this x hx
  · rintro rfl
    exact ⟨.self, n, hn, rfl⟩
structure Added (d : Dc) (n : Nt) (r : Dc) (L : List Nt) : Prop where
  rgt : Rgt r
  tiers : r.tiers = d.tiers
  eq : ({ r with notes := d.notes } : Dc) = d
  notes : r.notes = insN L n
  L : L = if kindI d n.tier = 3 then shN n.tier n.par n.rank 1 d.notes else d.notes
  new : ∀ m ∈ d.notes, m.id ≠ n.id
theorem added {d : Dc} (h : Rgt d) {n : Nt} {r : Dc} (hc : addE d n = (r, 0)) : ∃ L, Added d n r L := by
  unfold addE at hc
  split at hc
  · exact absurd (show (8 : Int) = 0 from congrArg Prod.snd hc) (by decide)
  rename_i ha
  have hnew : ∀ m ∈ d.notes, m.id ≠ n.id := fun m hm e => by
    have := getN_of h hm
    rw [e] at this
    have h2 := atI_get d.notes n.id
    rw [this] at h2
    simp at h2
    exact ha h2
  split at hc
  · rename_i k3
    split at hc
    · exact absurd (show (2 : Int) = 0 from congrArg Prod.snd hc) (by decide)
    · obtain ⟨c0, c1⟩ := chk_some hc
      subst c1
      exact ⟨_, right_iff.1 c0, rfl, rfl, rfl, by rw [if_pos k3], hnew⟩
  · rename_i k3
    obtain ⟨c0, c1⟩ := chk_some hc
    subst c1
    exact ⟨_, right_iff.1 c0, rfl, rfl, rfl, by rw [if_neg k3], hnew⟩
theorem Added.mem {d : Dc} {n : Nt} {r : Dc} {L : List Nt} (a : Added d n r L) : n ∈ r.notes := by rw [a.notes, mem_insI]; exact .inl rfl
theorem Added.len {d : Dc} {n : Nt} {r : Dc} {L : List Nt} (a : Added d n r L) : r.notes.length = d.notes.length + 1 := by
  rw [a.notes, insN_len, a.L]
  split
  · rw [shN_len]
  · rfl
theorem Added.par {d : Dc} (h : Rgt d) {n : Nt} {r : Dc} {L : List Nt} (a : Added d n r L) : ∀ m ∈ r.notes, m.par ≠ n.id := by
  intro m hm
  have hlo := (a.rgt.nok n a.mem).lo
  have hd : ∀ m ∈ d.notes, m.par ≠ n.id := fun m hm e => by
    rcases h.parin hm with h0 | ⟨p, hp, hpi⟩
    · omega
    · exact a.new p hp (by rw [hpi, e])
  rw [a.notes, mem_insI] at hm
  rcases hm with e | e
  · rw [e]; exact a.rgt.selfpar a.mem
  · rw [a.L] at e
    split at e
    · obtain ⟨m0, h0, rfl⟩ := List.mem_map.1 e
      have := hd m0 h0
      unfold sh1
      split
      · exact this
      · exact this
    · exact hd m e
theorem Added.sub {d : Dc} (h : Rgt d) {n : Nt} {r : Dc} {L : List Nt} (a : Added d n r L) : subIds r n.id = [n.id] := sub_one a.rgt a.mem (a.par h)
theorem sh_back (t p r : Int) (m : Nt) : sh1 t p r (-1) (sh1 t p r 1 m) = m := by
  by_cases hb : shB t p r m = true
  · have e1 : sh1 t p r 1 m = { m with rank := m.rank + 1 } := by unfold sh1; rw [if_pos hb]
    have hb2 : shB t p r { m with rank := m.rank + 1 } = true := by
      simp only [shB, Bool.and_eq_true, decide_eq_true_eq] at hb ⊢
      exact ⟨hb.1, by omega⟩
    rw [e1]
    unfold sh1
    rw [if_pos hb2]
    have : m.rank + 1 + -1 = m.rank := by omega
    simp only [this]
  · have e1 : ∀ b, sh1 t p r b m = m := fun b => by unfold sh1; rw [if_neg hb]
    rw [e1, e1]
theorem Added.back {d : Dc} (h : Rgt d) {n : Nt} {r : Dc} {L : List Nt} (a : Added d n r L) (hk : kindI d n.tier ≠ 1) : woN [n.id] (dropL r n) = d.notes := by
  have hki : kindI r n.tier = kindI d n.tier := by unfold kindI; rw [a.tiers]
  have hfil : d.notes.filter (fun m => !decide (m.id = n.id)) = d.notes := by
    rw [List.filter_eq_self]
    intro m hm
    simp [a.new m hm]
  unfold dropL
  rw [hki, wo_one, a.notes]
  by_cases k3 : kindI d n.tier = 3
  · rw [if_pos k3, a.L, if_pos k3]
    unfold shN
    rw [insN_filt (by rw [sh1_id]), List.map_map]
    have : d.notes.map (sh1 n.tier n.par n.rank (-1) ∘ sh1 n.tier n.par n.rank 1) = d.notes := by
      conv => rhs; rw [← List.map_id d.notes]
      refine List.map_congr_left fun m _ => ?_
      exact sh_back _ _ _ m
    rw [this, hfil]
  · rw [if_neg k3, if_neg hk, a.L, if_neg k3]
    have := insN_filt (l := d.notes) (n := n) (F := id) (b := n.id) rfl
    rw [List.map_id, List.map_id] at this
    rw [this, hfil]
end Go.V

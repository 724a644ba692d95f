/- A program logic of my own over the kit: part S1. It needs no conditions. -/
import Derived.Test.YtknekjalbninmaaGreatW1
import Derived.Shelf.SlSortCmp.InsertionK
set_option linter.unusedVariables false
set_option linter.unusedSimpArgs false
set_option linter.unusedSectionVars false
namespace Go.V
variable [Dr] [Ov]
open Go.RowKit Go.Sort Go.Proofs
structure RowEnc {α : Type} (enc : α → List Value) (row : α → List D) (k : Nat) : Prop where
  pos : 0 < k
  len : ∀ x, (enc x).length = k
  one : ∀ x, ∀ v ∈ enc x, v.oneCell' = true
  rlen : ∀ x, (row x).length = k
  read : ∀ w E x, Rcells w E (row x) (enc x)
  uniq : ∀ w E x vs, Rcells w E (row x) vs → vs = enc x
theorem Rcells.split {w : World} {E : Nat → Prop} : ∀ {a b : List D} {vs : List Value}, Rcells w E (a ++ b) vs → ∃ v1 v2, vs = v1 ++ v2 ∧ Rcells w E a v1 ∧ Rcells w E b v2
  | [], b, vs, h => ⟨[], vs, rfl, by simp [Rcells], h⟩
  | x :: a, b, vs, h => by
    simp only [List.cons_append, Rcells] at h
    obtain ⟨v, vs', rfl, h1, h2, h3⟩ := h
    obtain ⟨v1, v2, rfl, q1, q2⟩ := Rcells.split h3
    exact ⟨v :: v1, v2, rfl, by simp only [Rcells]; exact ⟨v, v1, rfl, h1, h2, q1⟩, q2⟩
theorem Rcells.join {w : World} {E : Nat → Prop} : ∀ {a b : List D} {v1 v2 : List Value}, Rcells w E a v1 → Rcells w E b v2 → Rcells w E (a ++ b) (v1 ++ v2)
  | [], b, v1, v2, h, h' => by simp only [Rcells] at h; subst h; exact h'
  | x :: a, b, v1, v2, h, h' => by
    simp only [Rcells] at h
    obtain ⟨v, vs', rfl, h1, h2, h3⟩ := h
    simp only [List.cons_append, Rcells]
    exact ⟨v, _, rfl, h1, h2, Rcells.join h3 h'⟩
section
variable {α : Type} {enc : α → List Value} {row : α → List D} {k : Nat}
theorem RowEnc.flat (h : RowEnc enc row k) {w : World} {E : Nat → Prop} : ∀ (l : List α) (vs : List Value), Rcells w E (l.map row).flatten vs → vs = (l.map enc).flatten
  | [], vs, hr => by simpa [Rcells] using hr
  | x :: l, vs, hr => by
    simp only [List.map_cons, List.flatten_cons] at hr ⊢
    obtain ⟨v1, v2, rfl, h1, h2⟩ := hr.split
    rw [h.uniq w E x v1 h1, h.flat l v2 h2]
theorem RowEnc.back (h : RowEnc enc row k) {w : World} {E : Nat → Prop} : ∀ (l : List α), Rcells w E (l.map row).flatten (l.map enc).flatten
  | [] => by simp [Rcells]
  | x :: l => by
    simp only [List.map_cons, List.flatten_cons]
    exact (h.read w E x).join (h.back l)
theorem RowEnc.flatLen (h : RowEnc enc row k) (l : List α) : (l.map enc).flatten.length = l.length * k := by
  induction l with
  | nil => simp
  | cons x l ih => simp only [List.map_cons, List.flatten_cons, List.length_append, ih, h.len, List.length_cons, Nat.add_mul]; omega
theorem RowEnc.flatOne (h : RowEnc enc row k) (l : List α) : ∀ u ∈ (l.map enc).flatten, u.oneCell' = true := by
  intro u hu
  obtain ⟨r, hr, hu⟩ := List.mem_flatten.1 hu
  obtain ⟨x, _, rfl⟩ := List.mem_map.1 hr
  exact h.one x u hu
theorem RowEnc.get (h : RowEnc enc row k) [Inhabited α] : ∀ (l : List α) (t : Nat), t < l.length * k → (l.map enc).flatten[t]? = some ((enc l[t / k]!)[t % k]!)
  | [], t, ht => by simp at ht
  | x :: l, t, ht => by
    simp only [List.map_cons, List.flatten_cons]
    rcases Nat.lt_or_ge t k with hlt | hge
    · rw [List.getElem?_append_left (by rw [h.len]; exact hlt), Nat.div_eq_of_lt hlt, Nat.mod_eq_of_lt hlt]
      have : t < (enc x).length := by rw [h.len]; exact hlt
      simp [this]
    · obtain ⟨s, rfl⟩ : ∃ s, t = k + s := ⟨t - k, by omega⟩
      rw [List.getElem?_append_right (by rw [h.len]; omega), h.len, Nat.add_sub_cancel_left, Nat.add_div_left s h.pos, Nat.add_mod_left]
      rw [h.get l s (by simp only [List.length_cons, Nat.add_mul] at ht; omega)]
      simp
theorem RowEnc.flatK (h : RowEnc enc row k) [Inhabited α] (l : List α) : (flatK enc k l.toArray).toList = (l.map enc).flatten := by
  apply List.ext_getElem?
  intro t
  by_cases ht : t < l.length * k
  · rw [h.get l t ht]
    have hs : t < (Sort.flatK enc k l.toArray).size := by simpa using ht
    have h1 := get_flatK enc k l.toArray t (by simpa using ht)
    rw [getElem!_pos _ t hs] at h1
    rw [Array.getElem?_toList, Array.getElem?_eq_getElem hs, h1]
    simp
  · rw [List.getElem?_eq_none (by simp; omega), List.getElem?_eq_none (by rw [h.flatLen]; omega)]
end
section
variable {P : Program} {α : Type} [Inhabited α] {enc : α → List Value} {row : α → List D} {k T : Nat}
theorem putCells_list (F cur : Array Value) (h : F.size ≤ cur.size) : (putCells id 0 F cur).toList = F.toList ++ cur.toList.drop F.size := by
  apply List.ext_getElem?
  intro t
  unfold putCells
  rw [Array.getElem?_toList, Array.getElem?_mapIdx]
  by_cases ht : t < F.size
  · rw [List.getElem?_append_left (by simpa using ht), Array.getElem?_eq_getElem (by omega)]
    simp [ht]
  · rw [List.getElem?_append_right (by simp; omega), List.getElem?_drop, Array.length_toList]
    rw [show F.size + (t - F.size) = t by omega, Array.getElem?_toList]
    simp [ht]
theorem putRowK_at {w : World} {g : Nat} {cur : Array Value} {fz : Nat × Nat} (d : Array α) (hh : w.heap[g]? = some (.cells cur T fz)) :
    (putRowK enc k w g 0 d).heap[g]? = some (.cells (putCells id 0 (flatK enc k d) cur) T fz) := by
  unfold putRowK putRow mapBlock
  simp [Array.getElem?_modify, hh, onCells]
theorem putRowK_other {w : World} {g c : Nat} (d : Array α) (hc : c ≠ g) : (putRowK enc k w g 0 d).heap[c]? = w.heap[c]? := by
  unfold putRowK putRow mapBlock
  simp [Array.getElem?_modify, Ne.symm hc]
theorem sort_bridge (h : RowEnc enc row k) {f : Nat} (hcall : callable P f = true) {rest : List Sym} {l l' : List α} (hne : l ≠ []) (hll : l'.length = l.length)
    (hrest : ∀ w E β vs, Sms w E β rest vs → Seen w E → ∀ (g cap : Nat), g < w.heap.size → E g → HoldsK enc k w g 0 l.toArray →
      Calls P f (Value.slice (some ⟨g, 0, none⟩) l.length cap :: vs).toArray w fun e w' => e = .returned (.tuple #[]) ∧ ∃ n os, w' = sortWorldK enc k w g 0 n l'.toArray os) :
    CallC P f (.ar 0 :: rest) [(0, .arr T k (l.map row))] 1 (.d (.tup [])) 1 [(0, .arr T k (l'.map row))] [] := by
  refine ⟨hcall, fun X w0 β w vs hβ hm hs => ?_⟩
  simp only [Sms] at hs
  obtain ⟨v, vs', rfl, hv, hs⟩ := hs
  simp only [Sm] at hv; subst hv
  obtain ⟨_, hlo, xs, hx, hc, hsz⟩ := hm.obj (id := 0) (o := .arr T k (l.map row)) rfl
  simp only [List.length_map] at hx
  have hxs := h.flat l xs hc
  subst hxs
  rcases hx.1.2 with ⟨_, h0⟩ | ⟨g, cap, cur, hg, _, hh, hcap, hmax, hcs, htk⟩
  · exact absurd (List.eq_nil_of_length_eq_zero h0) hne
  have hgN := (hx.2 g (by rw [hg]; rfl)).1
  have hlt := (Array.getElem?_eq_some_iff.1 hh).1
  have hsize : l.length * k ≤ cur.size := by rw [hcs]; exact Nat.mul_le_mul_right k hcap
  have hH : HoldsK enc k w g 0 l.toArray := by
    intro j hj
    rw [size_flatK] at hj
    have hj' : j < l.length * k := by simpa using hj
    rw [Nat.zero_add]
    refine ⟨?_, by simp [World.frozen?, hh]⟩
    have hgt := h.get l j hj'
    rw [row_cells hx.1 hg hgt, get_flatK enc k _ j (by simpa using hj')]
    simp
  rw [hg]
  refine (hrest w _ β vs' hs hm.seen g cap hlt (.inr ⟨0, _, List.mem_cons_self, by rw [hg]; rfl⟩) hH).mono fun e w' he => ?_
  obtain ⟨rfl, n, os, rfl⟩ := he
  have hF : (flatK enc k l'.toArray).size ≤ cur.size := by simp [hll]; exact hsize
  have hcl := putCells_list (flatK enc k l'.toArray) cur hF
  rw [h.flatK l'] at hcl
  have hat : (putRowK enc k (Sort.ahead w n) g 0 l'.toArray).heap[g]? = some (.cells (putCells id 0 (flatK enc k l'.toArray) cur) T (0, 0)) := putRowK_at (w := Sort.ahead w n) _ hh
  have hone : onesAt (putRowK enc k (Sort.ahead w n) g 0 l'.toArray) g := by
    refine onesAt.of hat fun u hu => ?_
    rw [hcl] at hu
    rcases List.mem_append.1 hu with hu | hu
    · exact h.flatOne l' u hu
    · exact (hx.2 g (by rw [hg]; rfl)).2 cur T (0, 0) hh u (List.mem_of_mem_drop hu)
  have hm1 : Mods X w0 { (memSt [(0, .arr T k (l.map row))] 1 1 []) with own := aset 0 (.arr T k (l'.map row)) [(0, .arr T k (l.map row))] } β act0 (putRowK enc k (Sort.ahead w n) g 0 l'.toArray) := by
    refine hm.update (b := g) rfl (by rw [hg]; rfl) hgN (fun c hc => putRowK_other (w := Sort.ahead w n) _ hc) (by simp [putRowK, putRow, mapBlock, Sort.ahead]) rfl rfl rfl (fun _ => Nat.le_add_right _ _) trivial ?_
    refine ⟨(l'.map enc).flatten, ⟨⟨by rw [h.flatLen]; simp, .inr ⟨g, cap, _, ?_, Nat.zero_le _, hat, by simp; omega, hmax, ?_, ?_⟩⟩, ?_⟩, h.back l', ?_⟩
    · rw [hg]; simp [hll]
    · rw [← Array.length_toList, hcl]; simp [h.flatLen, hll]; omega
    · rw [hcl]; simp only [List.length_map]
      rw [List.take_left' (by rw [h.flatLen])]
    · intro b hb
      rw [hg] at hb; simp [blk] at hb; subst hb
      exact ⟨hgN, hone⟩
    · intro r hr
      obtain ⟨x, _, rfl⟩ := List.mem_map.1 hr
      exact h.rlen x
  have hbel : Below (putRowK enc k (Sort.ahead w n) g 0 l'.toArray).heap.size (putRowK enc k (Sort.ahead w n) g 0 l'.toArray) (sortWorldK enc k w g 0 n l'.toArray os) := by
    refine ⟨⟨rfl, rfl, rfl, by simp [sortWorldK, grow], fun c hc => ?_⟩, fun _ => Nat.le_refl _⟩
    simp only [sortWorldK, grow]
    rw [Array.getElem?_append_left hc]
  have hm2 := hm1.put hbel (dst := none) (s := .junk) (v := .bool true) (by simp) (by simp [Sym.lo]) (by simp [Sm])
  exact ⟨β, _, rfl, hm2, by simp [Sym.lo], by simp [Sm, R, Rvals]⟩
theorem Below.grown (hD : Dr.dr = true) {w w' : World} (h : Below w.heap.size w w') : ∃ q os, w' = grow (w.drewN q) os := by
  refine ⟨w'.drawn - w.drawn, (w'.heap.toList.drop w.heap.size).toArray, ?_⟩
  have hh : w'.heap = w.heap ++ (w'.heap.toList.drop w.heap.size).toArray := by
    apply Array.ext'
    have hl : w'.heap.toList.take w.heap.size = w.heap.toList := by
      apply List.ext_getElem?
      intro t
      by_cases ht : t < w.heap.size
      · rw [List.getElem?_take, if_pos ht, Array.getElem?_toList, Array.getElem?_toList, h.block t ht]
      · rw [List.getElem?_take, if_neg ht, List.getElem?_eq_none (by simp; omega)]
    simp only [Array.toList_append]
    rw [← hl, List.take_append_drop]
  have hd := h.drawn hD
  obtain ⟨h1, t1, d1, o1, u1⟩ := w
  obtain ⟨h2, t2, d2, o2, u2⟩ := w'
  have e1 := h.os
  have e2 := h.tape
  have e3 := h.output
  simp only at e1 e2 e3 hh hd
  subst e1; subst e2; subst e3
  have hdn : ∀ (q : Nat) (W : World), W.drewN q = { W with drawn := W.drawn + q } := by
    intro q W
    rfl
  rw [hdn]
  simp only [grow]
  rw [← hh, show d1 + (d2 - d1) = d2 by omega]
theorem seen_sort {w : World} {E : Nat → Prop} {g m off : Nat} {dk : Array α} {os : Array Obj} (hs : Seen w E) (hg : E g) : Seen (sortWorldK enc k w g off m dk os) E := by
  have hsz : (putRowK enc k (Sort.ahead w m) g off dk).heap.size = w.heap.size := by simp [putRowK, putRow, mapBlock, Sort.ahead]
  refine ⟨fun b hb => ?_, hs.2.over fun b hb he => ⟨he, ?_⟩⟩
  · have := hs.1 b hb
    simp only [sortWorldK, grow, Array.size_append]
    omega
  · simp only [sortWorldK, grow]
    rw [Array.getElem?_append_left (by omega)]
    have hne : b ≠ g := fun e => he (e ▸ hg)
    unfold putRowK putRow mapBlock
    simp [Array.getElem?_modify, Ne.symm hne, Sort.ahead]
theorem cmpLays_of (hD : Dr.dr = true) {g : Nat} {cf : α → α → Int} (h : RowEnc enc row k) (hp : ∀ x y, PureR P g [.agg (row x), .agg (row y)] (.int .i64 (cf x y))) {blk off size : Nat} {w : World} {E : Nat → Prop} (hs : Seen w E) (hb : E blk) :
    CmpLays P g #[] enc k cf blk off size w := by
  intro m os dk hdk x y
  have hr : ∀ W, Rvals W E [.agg (row x), .agg (row y)] [.agg (enc x).toArray, .agg (enc y).toArray] := by
    intro W
    simp only [Rvals, R]
    exact ⟨_, _, rfl, ⟨_, rfl, h.read _ _ _⟩, _, _, rfl, ⟨_, rfl, h.read _ _ _⟩, rfl⟩
  have := (hp x y).2 (sortWorldK enc k w blk off m dk os) E _ (seen_sort hs hb) (hr _)
  simp only [Array.append_empty]
  refine Calls.mono this fun e w' ⟨v, he, hb, hv⟩ => ?_
  simp only [R] at hv
  subst hv
  exact ⟨he, Below.grown hD hb⟩
end
end Go.V
namespace Go.V
variable [Dr] [Ov]
open Go.RowKit Go.Sort Go.Proofs
section
variable {α : Type} [Inhabited α] {enc : α → List Value} {row : α → List D} {k : Nat} {P : Program} {T : Nat}
end
end Go.V

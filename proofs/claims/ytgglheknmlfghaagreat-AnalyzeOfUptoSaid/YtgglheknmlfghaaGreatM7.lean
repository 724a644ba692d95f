/- Contracts and plain laws of this seat: part M7. It needs no conditions. -/
import Derived.Test.YtgglheknmlfghaaGreatM3
import Derived.Test.YtgglheknmlfghaaGreatM5
import Derived.Test.YtgglheknmlfghaaGreatM1
set_option linter.unusedVariables false
set_option linter.unusedSimpArgs false
set_option linter.unusedSectionVars false
set_option maxRecDepth 100000
namespace Go.V
open Go Go.Proofs
def blsR (S m : Nat) : List (List D) := (bls S m).map fun b => [.bool b]
set_option maxHeartbeats 4000000 in
theorem zzv (n : Nett) (hn : NetL n) (m : Nat) (c : Int) :
  yd4 Tryz.prog 162 [.agg n.cells, za4 (bls n.states.toNat m), int c] 4 1 (blsR n.states.toNat (zb3 n.steps m c)) := by
 have h1 := hn.lo
 have h3 := hn.hi
 have hfew := hn.few
 refine zvm mixed Tryz.func162 rfl call_162 (by intro r hr; unfold blsR at hr; rw [List.mem_map] at hr; obtain ⟨b, _, rfl⟩ := hr; rfl) ?_
 simp +decide [Tryz.f162, Nett.cells, int, ints, za4]
 refine ⟨by omega, by omega, by unfold maxLen; omega, ?_⟩
 refine zaf mixed (fun k : Nat => { n := 45, next := 3, slots := [(1, .d (za4 (bls n.states.toNat m))), (2, .d (int c)), (3, .bp 0 0), (7, .ar 2), (8, .d (int k))], own := [(0, .box 33 (n.cells.map .d)), (2, .arr 4 1 ((bls n.states.toNat (zb3 (n.steps.take k) m c)).map fun b => [.bool b]))], moved := [] })
  (fun k => k ≤ n.steps.length) (fun k => n.steps.length - k) 0 (by simp) (by simp +decide [int, ints, zb3, zo9, Nett.cells, za4]) ?_
 intro k hk
 by_cases hlt : k < n.steps.length
 case neg =>
  have : k = n.steps.length := by omega
  subst this; rw [List.take_length]; simp +decide [int, ints, za4, Nett.cells, stepsD, blsR]
 have hlt' : (k : Int) < n.steps.length := by omega
 have hq := hn.steps n.steps[k] (List.getElem_mem hlt)
 have hsn : zb3 (n.steps.take (k + 1)) m c = zey m c (zb3 (n.steps.take k) m c) n.steps[k] := by unfold zb3; rw [zaj hlt, List.foldl_append]; rfl
 obtain ⟨x, eq⟩ : ∃ x, n.steps[k] = x := ⟨_, rfl⟩
 have e1 : n.steps[k]? = some x := by rw [List.getElem?_eq_getElem hlt, eq]
 rw [eq] at hq hsn
 obtain ⟨⟨q1, q2⟩, ⟨q3, q4⟩, q5⟩ := hq
 have hb := zin (S := n.states.toNat) (m := m) (q := x.src.toNat) (by omega)
 have hst := zzg (S := n.states.toNat) (m := zb3 (n.steps.take k) m c) (q := x.dst.toNat) (by omega)
 rw [show ((x.dst.toNat : Nat) : Int) = x.dst by omega] at hst
 have hgt := zin (S := n.states.toNat) (m := zb3 (n.steps.take k) m c) (q := x.dst.toNat) (by omega)
 have hms : (List.map (fun b => [D.bool b]) (bls n.states.toNat (zb3 (n.steps.take k) m c))).set x.dst.toNat [D.bool true] = List.map (fun b => [D.bool b]) (bls n.states.toNat (zgt (zb3 (n.steps.take k) m c) x.dst)) := by
  rw [← hst, List.map_set]
 unfold zey hasS at hsn
 cases hx : m.testBit x.src.toNat with
 | false =>
  rw [hx] at hb hsn; rw [if_neg (by simp)] at hsn
  simp +decide [int, ints, hlt, hlt', e1, eq, q1, q2, q3, q4, hb, za4, Nett.cells, stepsD, Stp.row]; exact ⟨by omega, ⟨by omega, by omega⟩, k + 1, hlt, by omega, by omega, by rw [hsn]⟩
 | true =>
  rw [hx] at hb hsn; by_cases hc : c = 0 ∨ x.cls = c
  ·rw [if_pos ⟨rfl, hc⟩] at hsn
   simp +decide [int, ints, hlt, hlt', e1, eq, q1, q2, q3, q4, hb, za4, Nett.cells, stepsD, Stp.row, hc, hgt]; refine ⟨by omega, fun h0 => ⟨fun h => ⟨by omega, by omega, ⟨by omega, by omega⟩, k + 1, hlt, by omega, by omega, by rw [hsn]; exact hms⟩, fun h => absurd hc (by rintro (h' | h'); exact h0 h'; exact h h')⟩, fun h0 => ⟨by omega, by omega, ⟨by omega, by omega⟩, k + 1, hlt, by omega, by omega, by rw [hsn]; exact hms⟩⟩
  ·rw [if_neg (fun h => hc h.2)] at hsn
   have hc1 : ¬ c = 0 := fun h => hc (.inl h)
   have hc2 : ¬ x.cls = c := fun h => hc (.inr h)
   simp +decide [int, ints, hlt, hlt', e1, eq, q1, q2, q3, q4, hb, za4, Nett.cells, stepsD, Stp.row, hc1, hc2]; exact ⟨by omega, ⟨by omega, by omega⟩, k + 1, hlt, by omega, by omega, by rw [hsn]⟩
def zca (l : List Stp) : Nat → Nat → Nat
 | 0, m => m
 | k + 1, m => zb3 l (zca l k m) 0 ||| zca l k m
def mixB (S a b k : Nat) : List Bool := (List.range S).map fun q => if q < k then (a.testBit q || b.testBit q) else a.testBit q
@[simp] theorem yid (S a b k : Nat) : (mixB S a b k).length = S := by simp [mixB]
theorem zis {S a b k q : Nat} (h : q < (mixB S a b k).length) : (mixB S a b k)[q] = if q < k then (a.testBit q || b.testBit q) else a.testBit q := by simp [mixB]
theorem z8l (S a b : Nat) : mixB S a b 0 = bls S a := by
 apply List.ext_getElem
 ·simp
 ·intro i h1 h2; rw [zis, zn5]; simp
theorem z8m (S a b : Nat) : mixB S a b S = bls S (a ||| b) := by
 apply List.ext_getElem
 ·simp
 ·intro i h1 h2
  have : i < S := by simpa using h1
  rw [zis, zn5, if_pos this, Nat.testBit_or]
theorem yc2 {S a b k : Nat} (h : k < S) : (mixB S a b k)[k]? = some (a.testBit k) := by
 rw [List.getElem?_eq_getElem (by simpa using h), zis, if_neg (by omega)]
theorem yc3 {S a b k : Nat} (h : k < S) : (mixB S a b k).set k (a.testBit k || b.testBit k) = mixB S a b (k + 1) := by
 apply List.ext_getElem
 ·simp
 ·intro i h1 h2
  rw [List.getElem_set, zis]; by_cases e : k = i
  ·subst e; rw [if_pos rfl, zis, if_pos (by omega)]
  ·rw [if_neg e, zis]
   by_cases hik : i < k
   ·rw [if_pos hik, if_pos (by omega)]
   ·rw [if_neg hik, if_neg (by omega)]
set_option maxHeartbeats 16000000 in
theorem zwk (n : Nett) (hn : NetL n) (m : Nat) : zaq Tryz.prog 178 [.agg n.cells, za4 (bls n.states.toNat m)] (za4 (bls n.states.toNat (zca n.steps n.states.toNat m))) := by
 have h1 := hn.lo
 have h3 := hn.hi
 refine zaa mixed Tryz.func178 rfl call_178 ?_
 simp +decide [Tryz.f178, Nett.cells, int, ints]
 refine zaz mixed (fun r : Nat => { n := 38, next := 2, slots := [(1, .d (za4 (bls n.states.toNat (zca n.steps r m)))), (2, .bp 0 0), (5, .d (int r))], own := [(0, .box 33 (n.cells.map .d))], moved := [2] })
  (fun r => r ≤ n.states.toNat) (fun r => n.states.toNat - r) 0 (by simp) (by simp +decide [int, ints, Nett.cells, zca]) ?_
 intro r hr
 by_cases hlt : r < n.states.toNat
 ·have hlt' : (r : Int) < n.states := by omega
  have hA := zzv n hn (zca n.steps r m) 0; have hsn : zca n.steps (r + 1) m = zb3 n.steps (zca n.steps r m) 0 ||| zca n.steps r m := rfl
  generalize zca n.steps r m = b at hA hsn; generalize zb3 n.steps b 0 = a at hA hsn; refine ze9 mixed 1 { n := 38, next := 2, slots := [(1, .d (za4 (bls n.states.toNat b))), (2, .bp 0 0), (5, .d (int r))], own := [(0, .box 33 (n.cells.map .d))], moved := [2] } rfl (by simp +decide [ze5, cutK, int, ints, Nett.cells, hlt']) ?_
  simp only [zfg]; refine zce (zb7 (ze9 mixed 2 { n := 38, next := 3, slots := [(1, .d (za4 (bls n.states.toNat b))), (2, .bp 0 0), (5, .d (int r)), (6, .ar 2)], own := [(0, .box 33 (n.cells.map .d)), (2, .arr 4 1 ((mixB n.states.toNat a b n.states.toNat).map fun b => [.bool b]))], moved := [2] } rfl ?_ ?_)) mixed
  ·simp +decide [ze5, int, ints, Nett.cells]
   refine zam.fresh (by rfl) hA (by simp) ?_
   simp +decide [int, ints, Nett.cells]; refine zaf mixed (fun k : Nat => { n := 38, next := 3, slots := [(1, .d (za4 (bls n.states.toNat b))), (2, .bp 0 0), (5, .d (int r)), (6, .ar 2), (7, .d (int k))], own := [(0, .box 33 (n.cells.map .d)), (2, .arr 4 1 ((mixB n.states.toNat a b k).map fun b => [.bool b]))], moved := [2] })
    (fun k => k ≤ n.states.toNat) (fun k => n.states.toNat - k) 0 (by simp) (by simp +decide [int, ints, Nett.cells, z8l, blsR]) ?_
   intro k hk; by_cases hlk : k < n.states.toNat
   ·have hlk' : (k : Int) < n.states := by omega
    have g1 := yc2 (a := a) (b := b) hlk; have g2 := zin (m := b) hlk; have hms : (List.map (fun b => [D.bool b]) (mixB n.states.toNat a b k)).set k [D.bool (a.testBit k || b.testBit k)] = List.map (fun b => [D.bool b]) (mixB n.states.toNat a b (k + 1)) := by
     rw [← yc3 hlk, List.map_set]
    cases hx : a.testBit k with
    | true =>
     rw [hx] at g1 hms; rw [Bool.true_or] at hms; simp +decide [int, ints, Nett.cells, hlk, hlk', g1, zis, zn5, hx, za4, I64]; exact ⟨by omega, ⟨by omega, by omega⟩, k + 1, hlk, by omega, by omega, hms⟩
    | false =>
     rw [hx] at g1 hms; rw [Bool.false_or] at hms; simp +decide [int, ints, Nett.cells, hlk, hlk', g1, g2, zis, zn5, hx, za4, I64]; exact ⟨by omega, ⟨by omega, by omega⟩, k + 1, hlk, by omega, by omega, hms⟩
   ·have : k = n.states.toNat := by omega
    have hlk' : ¬ (k : Int) < n.states := by omega
    rw [this] at hlk' ⊢; simp +decide [int, ints, Nett.cells, hlk', cutK]; omega
  ·simp only [zfg]
   refine zeq [2] ?_
   refine zal mixed ?_
   rw [z8m, ← hsn]; simp +decide [int, ints, Nett.cells, I64]; exact ⟨⟨by omega, by omega⟩, r + 1, hlt, by omega, rfl, by omega⟩
 ·have : r = n.states.toNat := by omega
  have hlt' : ¬ (r : Int) < n.states := by omega
  rw [← this]; refine zal mixed ?_
  simp +decide [int, ints, Nett.cells, hlt']
def endB (n : Nett) (q : Nat) : Bool := zid n.states.toNat (zca n.steps n.states.toNat (zgt 0 (q : Int))) (zbk n.final)
def zie (n : Nett) (k : Nat) : List Bool := (List.range n.states.toNat).map fun q => decide (q < k) && endB n q
def zm4 (n : Nett) : Nat := (List.range n.states.toNat).foldl (fun m q => if endB n q = true then m ||| (1 <<< q) else m) 0
theorem z5b (n : Nett) : zie n 0 = List.replicate n.states.toNat false := by
 apply List.ext_getElem
 ·simp [zie]
 ·intro i h1 h2; simp [zie]
theorem z8n {n : Nett} {k : Nat} (h : k < n.states.toNat) : (zie n k).set k (endB n k) = zie n (k + 1) := by
 apply List.ext_getElem
 ·simp [zie]
 ·intro i h1 h2
  rw [List.getElem_set]; simp only [zie, List.getElem_map, List.getElem_range]; by_cases e : k = i
  ·subst e; simp
  ·rw [if_neg e]
   congr 1
   have : (i < k) ↔ (i < k + 1) := by omega
   simp [this]
theorem z8o {n : Nett} {k : Nat} (h : k < n.states.toNat) : (zie n k)[k]? = some false := by
 rw [List.getElem?_eq_getElem (by simpa [zie] using h)]
 simp [zie]
theorem zuo (f : Nat → Bool) : ∀ (l : List Nat) (m j : Nat), (l.foldl (fun m q => if f q = true then m ||| (1 <<< q) else m) m).testBit j = (m.testBit j || decide (j ∈ l ∧ f j = true))
 | [], m, j => by simp
 | q :: l, m, j => by
  rw [List.foldl_cons, zuo f l]; by_cases hq : f q = true
  ·rw [if_pos hq, zio]
   by_cases e : q = j
   ·subst e; simp [hq]
   ·have e' : ¬ j = q := fun h => e h.symm
    simp [e, e']
  ·rw [if_neg hq]
   by_cases e : j = q
   ·subst e; simp [hq]
   ·simp [e]
theorem z5c (n : Nett) : zie n n.states.toNat = bls n.states.toNat (zm4 n) := by
 apply List.ext_getElem
 ·simp [zie]
 ·intro i h1 h2
  have hi : i < n.states.toNat := by simpa using h2
  rw [zn5]; unfold zm4; rw [zuo]; simp [zie, hi]; intro _; omega
set_option maxHeartbeats 16000000 in
theorem z8p (n : Nett) (hn : NetL n) : zaq Tryz.prog 161 [.agg n.cells] (za4 (bls n.states.toNat (zm4 n))) := by
 have h1 := hn.lo
 have h3 := hn.hi
 refine zaa mixed Tryz.func161 rfl call_161 ?_
 simp +decide [Tryz.f161, Nett.cells, int, ints]
 refine ⟨by omega, by omega, by unfold maxLen; omega, ?_⟩
 refine zaf mixed (fun k : Nat => { n := 29, next := 3, slots := [(1, .bp 0 0), (3, .ar 2), (4, .d (int k))], own := [(0, .box 33 (n.cells.map .d)), (2, .arr 4 1 ((zie n k).map fun b => [.bool b]))], moved := [] })
  (fun k => k ≤ n.states.toNat) (fun k => n.states.toNat - k) 0 (by simp) (by simp +decide [int, ints, Nett.cells, z5b]) ?_
 intro k hk
 by_cases hlk : k < n.states.toNat
 ·have hlk' : (k : Int) < n.states := by omega
  simp +decide [int, ints, Nett.cells, hlk']; have hS := zpa n hn [(k : Int)] (by intro q hq; rw [List.mem_singleton] at hq; omega) (by simp)
  have hR := zwk n hn (zbk [(k : Int)]); have hF := zpa n hn n.final hn.final hn.few2; have hB := zpt n.states.toNat (zca n.steps n.states.toNat (zbk [(k : Int)])) (zbk n.final) (by omega)
  have hE : zid n.states.toNat (zca n.steps n.states.toNat (zbk [(k : Int)])) (zbk n.final) = endB n k := rfl
  rw [hE] at hB; have hms : (List.map (fun b => [D.bool b]) (zie n k)).set k [D.bool (endB n k)] = List.map (fun b => [D.bool b]) (zie n (k + 1)) := by
   rw [← z8n hlk, List.map_set]
  have hg := z8o hlk; have hll : (zie n k).length = n.states.toNat := by simp [zie]
  refine yfe mixed 14 (by rfl) rfl rfl rfl rfl (by rfl) (by simp) ?_
  simp +decide [int, ints, Nett.cells, hlk']; refine zad (by rfl) (by rfl) hS (by simp [int, ints, Nett.cells]) ?_
  simp +decide [int, ints, Nett.cells]; refine zad (by rfl) (by rfl) hR (by simp [int, ints, Nett.cells]) ?_
  simp +decide [int, ints, Nett.cells]; refine zad (by rfl) (by rfl) hF (by simp [int, ints, Nett.cells]) ?_
  simp +decide [int, ints, Nett.cells]; refine zad (by rfl) (by rfl) hB (by simp [int, ints, Nett.cells]) ?_
  simp +decide [int, ints, Nett.cells, hll, hg, hlk, hlk', I64]; exact ⟨⟨by omega, by omega⟩, k + 1, hlk, by omega, by omega, hms⟩
 ·have : k = n.states.toNat := by omega
  have hlk' : ¬ (k : Int) < n.states := by omega
  rw [← z5c, ← this]; simp +decide [int, ints, Nett.cells, hlk', za4]
def zdc (n : Nett) (cs : List Int) (k : Nat) : List Int := ((List.range k).map fun (i : Nat) => (i : Int) + 1).filter fun c => zid n.states.toNat (zay n.steps (runS n.steps cs) c) (zm4 n)
theorem zwl (n : Nett) (cs : List Int) (k : Nat) : zdc n cs (k + 1) = zdc n cs k ++ (if zid n.states.toNat (zay n.steps (runS n.steps cs) ((k : Int) + 1)) (zm4 n) = true then [(k : Int) + 1] else []) := by
 unfold zdc
 rw [List.range_succ, List.map_append, List.filter_append]
 congr 1
 by_cases h : zid n.states.toNat (zay n.steps (runS n.steps cs) ((k : Int) + 1)) (zm4 n) = true
 ·simp [h]
 ·simp [h]
theorem zp2 (n : Nett) (cs : List Int) (k : Nat) : (zdc n cs k).length ≤ k := by
 unfold zdc
 refine Nat.le_trans (List.length_filter_le ..) ?_
 simp
set_option maxHeartbeats 16000000 in
theorem zzw (n : Nett) (hn : NetL n) (cs : List Int) (hc : cs.length < 2^40) : zaq Tryz.prog 136 [.agg n.cells, ints cs] (ints (zdc n cs 20)) := by
 have h1 := hn.lo
 have h3 := hn.hi
 refine zaa mixed Tryz.func136 rfl call_136 ?_
 simp +decide [Tryz.f136, Nett.cells, int, ints]
 refine zam.pure (by rfl) (zpv n hn cs hc) (by simp [int, ints, Nett.cells]) ?_
 simp +decide [Nett.cells, int, ints]
 refine zam.pure (by rfl) (z8p n hn) (by simp [int, ints, Nett.cells]) ?_
 simp +decide [Nett.cells, int, ints, za4]
 refine zaf mixed (fun k : Nat => { n := 29, next := 3, slots := [(2, .bp 0 0), (5, .ar 2), (6, .d (za4 (bls n.states.toNat (runS n.steps cs)))), (7, .d (za4 (bls n.states.toNat (zm4 n)))), (8, .d (int ((k : Int) + 1)))], own := [(0, .box 33 (n.cells.map .d)), (2, .arr 3 1 ((zdc n cs k).map fun n => [int n]))], moved := [2] })
  (fun k => k ≤ 20) (fun k => 20 - k) 0 (by simp) (by simp +decide [int, ints, Nett.cells, za4, zdc]) ?_
 intro k hk
 by_cases hlk : k < 20
 ·have hlk' : (k : Int) + 1 ≤ 20 := by omega
  have hsn := zwl n cs k; have hll := zp2 n cs k; have hA := zsq n hn (runS n.steps cs) ((k : Int) + 1); rw [zpu hn _ (by omega)] at hA
  have hB := zpt n.states.toNat (zay n.steps (runS n.steps cs) ((k : Int) + 1)) (zm4 n) (by omega)
  simp +decide [int, ints, Nett.cells, za4, hlk']; refine zam.pure (by rfl) hA (by simp [int, ints, Nett.cells, za4]) ?_
  simp +decide [int, ints, Nett.cells, za4]; refine zam.pure (by rfl) hB (by simp [int, ints, Nett.cells, za4]) ?_
  cases hb : zid n.states.toNat (zay n.steps (runS n.steps cs) ((k : Int) + 1)) (zm4 n) with
  | false =>
   rw [if_neg (by rw [hb]; decide), List.append_nil] at hsn
   simp +decide [int, ints, Nett.cells, I64]; exact ⟨⟨by omega, by omega⟩, k + 1, hlk, by omega, by omega, by rw [hsn]⟩
  | true =>
   rw [if_pos hb] at hsn; simp +decide [int, ints, Nett.cells, I64]; exact ⟨by omega, by unfold maxLen; omega, ⟨by omega, by omega⟩, k + 1, hlk, by omega, by omega, by rw [hsn]; simp⟩
 ·have : k = 20 := by omega
  subst this; simp +decide [int, ints, Nett.cells]
end Go.V
namespace Go.V
open Go Go.Proofs
theorem z8q (m : Nat) (q : Int) (j : Nat) : (zgt m q).testBit j = (m.testBit j || decide (q.toNat = j)) := by unfold zgt; exact zio m q.toNat j
theorem zs4 (m : Nat) (c : Int) (j : Nat) : ∀ (l : List Stp) (out : Nat), (l.foldl (zey m c) out).testBit j = (out.testBit j || l.any fun x => m.testBit x.src.toNat && (decide (c = 0) || decide (x.cls = c)) && decide (x.dst.toNat = j))
 | [], out => by simp
 | x :: l, out => by
  rw [List.foldl_cons, zs4 m c j l, List.any_cons]; unfold zey hasS; by_cases h : m.testBit x.src.toNat = true ∧ (c = 0 ∨ x.cls = c)
  ·rw [if_pos h, z8q, h.1]
   have : (decide (c = 0) || decide (x.cls = c)) = true := by rcases h.2 with e | e <;> simp [e]
   rw [this, Bool.and_true, Bool.true_and, Bool.or_assoc]
  ·rw [if_neg h]
   have : (m.testBit x.src.toNat && (decide (c = 0) || decide (x.cls = c))) = false := by
    cases hb : m.testBit x.src.toNat with
    | false => rfl
    | true =>
     rw [Bool.true_and]; have h2 : ¬ (c = 0 ∨ x.cls = c) := fun e => h ⟨hb, e⟩
     simp only [Bool.or_eq_false_iff, decide_eq_false_iff_not]; exact ⟨fun e => h2 (.inl e), fun e => h2 (.inr e)⟩
   rw [this, Bool.false_and, Bool.false_or]
theorem zei (l : List Stp) (m : Nat) (c : Int) (j : Nat) : (zb3 l m c).testBit j = l.any fun x => m.testBit x.src.toNat && (decide (c = 0) || decide (x.cls = c)) && decide (x.dst.toNat = j) := by
 unfold zb3; rw [zs4]; simp
def z5d (s0 s1 s2 m : Nat) : Nat := (if m.testBit 0 = true then s0 else 0) ||| (if m.testBit 1 = true then s1 else 0) ||| (if m.testBit 2 = true then s2 else 0)
def zgy (s0 s1 s2 : Nat) : Nat → Nat → Nat
 | 0, m => m
 | k + 1, m => z5d s0 s1 s2 (zgy s0 s1 s2 k m) ||| zgy s0 s1 s2 k m
theorem yfx : ∀ s0 m : Fin 2, z5d s0.val 0 0 (zgy s0.val 0 0 1 m.val) ||| zgy s0.val 0 0 1 m.val = zgy s0.val 0 0 1 m.val := by decide +kernel
theorem closed2 : ∀ s0 s1 m : Fin 4, z5d s0.val s1.val 0 (zgy s0.val s1.val 0 2 m.val) ||| zgy s0.val s1.val 0 2 m.val = zgy s0.val s1.val 0 2 m.val := by decide +kernel
theorem yfy : ∀ s0 s1 s2 m : Fin 8, z5d s0.val s1.val s2.val (zgy s0.val s1.val s2.val 3 m.val) ||| zgy s0.val s1.val s2.val 3 m.val = zgy s0.val s1.val s2.val 3 m.val := by decide +kernel
theorem zm5 (q j : Nat) : (1 <<< q).testBit j = decide (q = j) := by rw [Nat.one_shiftLeft, Nat.testBit_two_pow]
def zkb (l : List Stp) (q : Nat) : Nat := zb3 l (1 <<< q) 0
theorem zp3 (l : List Stp) (hl : ∀ x ∈ l, 0 ≤ x.src ∧ x.src < 3) (m : Nat) : zb3 l m 0 = z5d (zkb l 0) (zkb l 1) (zkb l 2) m := by
 apply Nat.eq_of_testBit_eq
 intro j
 have hb : ∀ q, (zkb l q).testBit j = l.any fun x => decide (q = x.src.toNat) && decide (x.dst.toNat = j) := by
  intro q; unfold zkb; rw [zei]; congr 1
  funext x
  rw [zm5]; simp
 have hi : ∀ q, (if m.testBit q = true then zkb l q else 0).testBit j = (m.testBit q && l.any fun x => decide (q = x.src.toNat) && decide (x.dst.toNat = j)) := by
  intro q; cases h : m.testBit q with
  | true => rw [if_pos rfl, hb]; rfl
  | false => rw [if_neg (by decide)]; simp
 unfold z5d
 rw [Nat.testBit_or, Nat.testBit_or, hi, hi, hi, zei, Bool.eq_iff_iff]
 simp only [Bool.or_eq_true, Bool.and_eq_true, List.any_eq_true, decide_eq_true_eq]
 constructor
 ·rintro ⟨x, hx, ⟨h1, _⟩, h3⟩
  have h4 := hl x hx; have : x.src.toNat = 0 ∨ x.src.toNat = 1 ∨ x.src.toNat = 2 := by omega
  rcases this with e | e | e
  ·rw [e] at h1; exact .inl (.inl ⟨h1, x, hx, e.symm, h3⟩)
  ·rw [e] at h1; exact .inl (.inr ⟨h1, x, hx, e.symm, h3⟩)
  ·rw [e] at h1; exact .inr ⟨h1, x, hx, e.symm, h3⟩
 ·rintro ((⟨h, x, hx, e, h3⟩ | ⟨h, x, hx, e, h3⟩) | ⟨h, x, hx, e, h3⟩) <;> exact ⟨x, hx, ⟨by rw [← e]; exact h, by simp⟩, h3⟩
theorem zwm (l : List Stp) (hl : ∀ x ∈ l, 0 ≤ x.src ∧ x.src < 3) (m : Nat) : ∀ k, zca l k m = zgy (zkb l 0) (zkb l 1) (zkb l 2) k m
 | 0 => rfl
 | k + 1 => by unfold zca zgy; rw [zwm l hl m k, zp3 l hl]
theorem z8r {m S : Nat} (h : ∀ j, m.testBit j = true → j < S) : m < 2^S := by
 apply Nat.lt_pow_two_of_testBit
 intro j hj
 cases hb : m.testBit j with
 | false => rfl
 | true => exact absurd (h j hb) (by omega)
theorem zzx {n : Nett} (hn : NetL n) (q : Nat) : zkb n.steps q < 2^n.states.toNat := by
 apply z8r
 intro j hj
 unfold zkb at hj
 rw [zei, List.any_eq_true] at hj
 obtain ⟨x, hx, h⟩ := hj
 simp only [Bool.and_eq_true, decide_eq_true_eq] at h
 have := (hn.steps x hx).2.1
 omega
theorem zwn {n : Nett} (hn : NetL n) {q : Nat} (hq : n.states.toNat ≤ q) : zkb n.steps q = 0 := by
 apply Nat.eq_of_testBit_eq
 intro j
 rw [Nat.zero_testBit]
 unfold zkb
 rw [zei, List.any_eq_false]
 intro x hx h
 rw [zm5] at h
 simp only [Bool.and_eq_true, decide_eq_true_eq] at h
 have := (hn.steps x hx).1
 omega
theorem zup {n : Nett} (hn : NetL n) {m : Nat} (hm : m < 2^n.states.toNat) : zb3 n.steps (zca n.steps n.states.toNat m) 0 ||| zca n.steps n.states.toNat m = zca n.steps n.states.toNat m := by
 have hl : ∀ x ∈ n.steps, 0 ≤ x.src ∧ x.src < 3 := fun x hx => by have := (hn.steps x hx).1; have := hn.hi; omega
 rw [zp3 _ hl, zwm _ hl]
 have h0 := zzx hn 0
 have h1 := zzx hn 1
 have h2 := zzx hn 2
 have hS : n.states.toNat = 1 ∨ n.states.toNat = 2 ∨ n.states.toNat = 3 := by have := hn.lo; have := hn.hi; omega
 have z1 := fun h => zwn hn (q := 1) h
 have z2 := fun h => zwn hn (q := 2) h
 generalize zkb n.steps 0 = s0 at *
 generalize zkb n.steps 1 = s1 at *
 generalize zkb n.steps 2 = s2 at *
 rcases hS with e | e | e
 ·rw [e] at h0 hm z1 z2 ⊢
  rw [z1 (by omega), z2 (by omega)]
  exact yfx ⟨s0, h0⟩ ⟨m, hm⟩
 ·rw [e] at h0 h1 hm z2 ⊢
  rw [z2 (by omega)]
  exact closed2 ⟨s0, h0⟩ ⟨s1, h1⟩ ⟨m, hm⟩
 ·rw [e] at h0 h1 h2 hm ⊢
  exact yfy ⟨s0, h0⟩ ⟨s1, h1⟩ ⟨s2, h2⟩ ⟨m, hm⟩
def Sub (a b : Nat) : Prop := ∀ j, a.testBit j = true → b.testBit j = true
theorem z8s {l : List Stp} {a b : Nat} {c : Int} (h : Sub a b) : Sub (zb3 l a c) (zb3 l b c) := by
 intro j hj
 rw [zei, List.any_eq_true] at hj ⊢
 obtain ⟨x, hx, h1⟩ := hj
 simp only [Bool.and_eq_true] at h1 ⊢
 exact ⟨x, hx, ⟨h _ h1.1.1, h1.1.2⟩, h1.2⟩
theorem zkx (l : List Stp) (m : Nat) : ∀ k, Sub m (zca l k m)
 | 0 => fun _ h => h
 | k + 1 => fun j h => by unfold zca; rw [Nat.testBit_or, zkx l m k j h, Bool.or_true]
theorem zp4 {l : List Stp} {m R : Nat} (h : Sub m R) (hc : zb3 l R 0 ||| R = R) : ∀ k, Sub (zca l k m) R
 | 0 => h
 | k + 1 => fun j hj => by
  unfold zca at hj; rw [Nat.testBit_or, Bool.or_eq_true] at hj; rcases hj with hj | hj
  ·have := z8s (zp4 h hc k) j hj
   rw [← hc, Nat.testBit_or, this, Bool.true_or]
  ·exact zp4 h hc k j hj
theorem sub_one {m q : Nat} (h : m.testBit q = true) : Sub (1 <<< q) m := by
 intro j hj
 rw [zm5, decide_eq_true_eq] at hj
 rw [← hj]; exact h
theorem zs5 (q : Nat) : zgt 0 (q : Int) = 1 <<< q := by unfold zgt; simp
theorem yhi {q S : Nat} (h : q < S) : 1 <<< q < 2^S := z8r fun j hj => by rw [zm5, decide_eq_true_eq] at hj; omega
theorem z8t {n : Nett} (hn : NetL n) {x : Stp} (hx : x ∈ n.steps) (h : endB n x.dst.toNat = true) : endB n x.src.toNat = true := by
 obtain ⟨⟨s1, s2⟩, ⟨d1, d2⟩, _⟩ := hn.steps x hx
 unfold endB at h ⊢
 rw [zs5] at h ⊢
 unfold zid at h ⊢
 rw [List.any_eq_true] at h ⊢
 obtain ⟨j, hj, h1⟩ := h
 rw [Bool.and_eq_true] at h1
 refine ⟨j, hj, ?_⟩
 rw [Bool.and_eq_true]
 refine ⟨?_, h1.2⟩
 have hcl := zup hn (yhi (S := n.states.toNat) (q := x.src.toNat) (by omega))
 have hself := zkx n.steps (1 <<< x.src.toNat) n.states.toNat x.src.toNat (by rw [zm5]; simp)
 generalize zca n.steps n.states.toNat (1 <<< x.src.toNat) = R at hcl hself ⊢
 refine zp4 (R := R) (sub_one ?_) hcl n.states.toNat j h1.1
 rw [← hcl, Nat.testBit_or, zei, Bool.or_eq_true]
 left
 rw [List.any_eq_true]
 exact ⟨x, hx, by simp [hself]⟩
theorem zwo {n : Nett} {q : Nat} (h : q < n.states.toNat) : (zm4 n).testBit q = endB n q := by
 unfold zm4
 rw [zuo]
 simp [h]
def Dead (n : Nett) (s : Nat) : Prop := zid n.states.toNat s (zm4 n) = false
theorem zuq {n : Nett} {s : Nat} : Dead n s ↔ ∀ q, q < n.states.toNat → s.testBit q = true → endB n q = false := by
 unfold Dead zid
 rw [List.any_eq_false]
 constructor
 ·intro h q hq hs
  have := h q (List.mem_range.2 hq)
  rw [hs, Bool.true_and, zwo hq] at this; simpa using this
 ·intro h q hq
  have hq := List.mem_range.1 hq; cases hs : s.testBit q with
  | false => simp
  | true => rw [zwo hq, h q hq hs]; simp
theorem z5e {n : Nett} (hn : NetL n) {s : Nat} (hs : s < 2^n.states.toNat) (h : Dead n s) {c : Int} (hc : 1 ≤ c) : Dead n (zay n.steps s c) := by
 rw [zuq] at h ⊢
 intro q hq hb
 rw [← zpu hn s hc, zei, List.any_eq_true] at hb
 obtain ⟨x, hx, h1⟩ := hb
 simp only [Bool.and_eq_true, decide_eq_true_eq] at h1
 cases he : endB n q with
 | false => rfl
 | true =>
  rw [← h1.2] at he; have h2 := z8t hn hx he; have := (hn.steps x hx).1
  rw [h x.src.toNat (by omega) h1.1.1] at h2
  cases h2
theorem zs6 {n : Nett} (hn : NetL n) {s : Nat} (hs : s < 2^n.states.toNat) (h : Dead n s) : s &&& zbk n.final = 0 := by
 rw [zuq] at h
 apply Nat.eq_of_testBit_eq
 intro j
 rw [Nat.zero_testBit, Nat.testBit_and]
 cases hb : s.testBit j with
 | false => rfl
 | true =>
  rw [Bool.true_and]; cases hf : (zbk n.final).testBit j with
  | false => rfl
  | true =>
   have hj : j < n.states.toNat := by
    rcases Nat.lt_or_ge j n.states.toNat with h' | h'
    ·exact h'
    ·have h1 := Nat.testBit_lt_two_pow (i := j) (Nat.lt_of_lt_of_le hs (Nat.pow_le_pow_right (by omega) h'))
     rw [h1] at hb; cases hb
   have h2 := h j hj hb; unfold endB zid at h2; rw [List.any_eq_false] at h2; have h3 := h2 j (List.mem_range.2 hj); rw [zs5, zkx _ _ _ j (by rw [zm5]; simp), hf] at h3
   exact absurd rfl h3
end Go.V
namespace Go.V
open Go Go.Proofs
theorem lex_lt {l : List Ent} (h : ∀ k (h : k + 1 < l.length), l[k].id < l[k + 1].id) : ∀ (d i : Nat) (hj : i + d + 1 < l.length), l[i].id < l[i + d + 1].id
 | 0, i, hj => h i hj
 | d + 1, i, hj => by
  have h1 := lex_lt h d i (by omega)
  have h2 := h (i + d + 1) hj; exact Int.lt_trans h1 h2
theorem zur {l : List Ent} (h : ∀ k (h : k + 1 < l.length), l[k].id < l[k + 1].id) {e : Ent} (he : e ∈ l) : getE l e.id = (e, true) := by
 obtain ⟨i, hi, ei⟩ := List.mem_iff_getElem.1 he
 unfold getE
 have : l.find? (fun x => decide (x.id = e.id)) = some e := by
  rw [List.find?_eq_some_iff_getElem]; refine ⟨by simp, i, hi, ei, fun j hj => ?_⟩
  have := lex_lt h (i - j - 1) j (by omega)
  have e2 : j + (i - j - 1) + 1 = i := by omega
  simp only [e2] at this; rw [ei] at this; simp
  omega
 rw [this]
theorem zwp {inv : List Phon} {l : List Ent} (hE : ∀ e ∈ l, EntF inv e) (hM : ∀ e ∈ l, e.main ≠ 0 → 0 ≤ zdq l e.main) : ∀ (f : Nat) (id : Int), (wayG l f id).length < f → (getE l id).2 = true → senW l (wayG l f id) ≠ []
 | 0, id, h, _ => by omega
 | f + 1, id, h, hg => by
  have hmem := zo8 hg; unfold wayG at h ⊢; rw [if_pos hg] at h ⊢; unfold senW; by_cases hs : (getE l id).1.senses ≠ []
  ·rw [if_pos hs]; exact hs
  ·rw [if_neg hs]
   have hm : (getE l id).1.main ≠ 0 := by
    rcases (hE _ hmem).senses with h' | h'
    ·exact absurd h' hs
    ·exact h'
   rw [if_neg hm] at h ⊢; refine zwp hE hM f _ (by simpa using h) ?_
   rcases zcr l (getE l id).1.main with ⟨h1, _⟩ | ⟨j, hj, _, h2⟩
   ·exact absurd (hM _ hmem hm) (by omega)
   ·rw [h2]
theorem LightF.senses {g : Lang} (h : LightF g) {e : Ent} (he : e ∈ g.lex) : zcj g.lex e.id ≠ [] := by
 unfold zcj
 rw [zlr]
 refine zwp h.lex.each h.main.main _ _ ?_ (by rw [zur h.lex.up he])
 have := h.main.ends e he
 omega
section
variable (g : Lang) (w : List Int)
def zdy : Nat := if zeu g.rules = true then 24 else w.length
def licB (b : List Prt) : Bool := decide (w.length ≤ (zbe g.lex b).length) && licE g w b
def furF : Nat → List Prt → List (List Prt)
 | 0, _ => []
 | f + 1, a => g.lex.flatMap fun e => if e.cls ∈ zdc g.net (zax g.lex a) 20 then ((List.range e.forms.length).flatMap fun (alt : Nat) =>
   if zdy g w < (zbe g.lex (a ++ [⟨e.id, alt, 0⟩])).length then [] else (if licB g w (a ++ [⟨e.id, alt, 0⟩]) = true then [a ++ [⟨e.id, alt, 0⟩]] else []) ++ furF f (a ++ [⟨e.id, alt, 0⟩])) else []
def zhj (base : List Int) : Bool := decide (zeh g.inv g.rules base ≠ []) && decide (zeh g.inv g.rules base = w)
def walkT : Nat → List Prt → Nat → List Int → List (List Prt × List Int)
 | 0, _, _, _ => []
 | f + 1, a, s, base => g.lex.flatMap fun e => if zay g.net.steps s e.cls ≠ 0 then ((List.range e.forms.length).flatMap fun (alt : Nat) =>
   if zdy g w < (base ++ e.forms[alt]?.getD []).length then [] else
   (if zay g.net.steps s e.cls &&& zbk g.net.final ≠ 0 ∧ w.length ≤ (base ++ e.forms[alt]?.getD []).length ∧ zhj g w (base ++ e.forms[alt]?.getD []) = true then [(a ++ [⟨e.id, alt, 0⟩], base ++ e.forms[alt]?.getD [])] else []) ++
    walkT f (a ++ [⟨e.id, alt, 0⟩]) (zay g.net.steps s e.cls) (base ++ e.forms[alt]?.getD [])) else []
end
theorem zez {α β : Type} {f h : α → List β} : ∀ {l : List α}, (∀ x ∈ l, f x = h x) → l.flatMap f = l.flatMap h
 | [], _ => rfl
 | a :: l, e => by
  rw [List.flatMap_cons, List.flatMap_cons, e a (List.mem_cons_self ..), zez fun x hx => e x (List.mem_cons_of_mem _ hx)]
theorem zit {α β : Type} {l : List α} {f : α → List β} (h : ∀ x ∈ l, f x = []) : l.flatMap f = [] := by
 rw [List.flatMap_eq_nil_iff]; exact h
theorem zs7 {g : Lang} {w : List Int} (hg : LightF g) : ∀ (f : Nat) (a : List Prt) (s : Nat) (base : List Int), s < 2^g.net.states.toNat → Dead g.net s → walkT g w f a s base = []
 | 0, _, _, _, _, _ => rfl
 | f + 1, a, s, base, hs, hd => by
  unfold walkT; refine zit fun e he => ?_
  split
  ·refine zit fun alt _ => ?_
   have hc := (hg.lex.each e he).cls; have h1 := z5e hg.net' hs hd hc.1; have hlt := zm1 hg.net' s e.cls; have h2 := zs6 hg.net' hlt h1; split
   ·rfl
   ·rw [if_neg (fun h => h.1 h2), zs7 hg f _ _ _ hlt h1]; rfl
  ·rfl
theorem z8u (n : Nett) : Dead n 0 := by
 rw [zuq]; intro q _ h; rw [Nat.zero_testBit] at h; cases h
theorem zs8 {g : Lang} (hg : LightF g) (cs : List Int) {c : Int} (h1 : 1 ≤ c) (h2 : c ≤ 20) : c ∈ zdc g.net cs 20 ↔ ¬ Dead g.net (zay g.net.steps (runS g.net.steps cs) c) := by
 unfold zdc Dead
 rw [List.mem_filter, List.mem_map]
 constructor
 ·rintro ⟨_, h⟩ h'; rw [h'] at h; cases h
 ·intro h
  refine ⟨⟨(c - 1).toNat, List.mem_range.2 (by omega), by omega⟩, ?_⟩
  cases hb : zid g.net.states.toNat (zay g.net.steps (runS g.net.steps cs) c) (zm4 g.net) with
  | true => rfl
  | false => exact absurd hb h
theorem ziu {g : Lang} (hg : LightF g) {e : Ent} (he : e ∈ g.lex) {alt : Nat} (ha : alt < e.forms.length) : zic g.lex ⟨e.id, alt, 0⟩ = (e, e.forms[alt]?.getD [], true) := by
 have h := zur hg.lex.up he
 unfold zic
 simp only
 rw [if_pos ⟨by rw [h], by omega, by rw [h]; show (alt : Int) < e.forms.length; omega⟩, h]
 rfl
theorem zp5 {g : Lang} (hg : LightF g) {e : Ent} (he : e ∈ g.lex) {alt : Nat} (ha : alt < e.forms.length) : zhh g.lex ⟨e.id, alt, 0⟩ = 0 := by
 have hs : 0 < (zcj g.lex e.id).length := List.length_pos_iff.2 (hg.senses he)
 unfold zhh
 rw [ziu hg he ha, zur hg.lex.up he]
 simp only [Bool.true_eq_false, if_false]
 rw [if_neg]
 rintro (h | h) <;> omega
theorem zwq {g : Lang} (hg : LightF g) {e : Ent} (he : e ∈ g.lex) {alt : Nat} (ha : alt < e.forms.length) (a : List Prt) : zax g.lex (a ++ [⟨e.id, alt, 0⟩]) = zax g.lex a ++ [e.cls] := by
 unfold zax
 rw [List.flatMap_append, List.flatMap_singleton, ziu hg he ha]
 rfl
theorem z8v {g : Lang} (hg : LightF g) {e : Ent} (he : e ∈ g.lex) {alt : Nat} (ha : alt < e.forms.length) (a : List Prt) : zbe g.lex (a ++ [⟨e.id, alt, 0⟩]) = zbe g.lex a ++ e.forms[alt]?.getD [] := by
 unfold zbe
 rw [List.flatMap_append, List.flatMap_singleton, ziu hg he ha]
 rfl
theorem zhk {l : List Ent} : ∀ {ps : List Prt}, (∀ p ∈ ps, zhh l p = 0) → zkg l ps = 0
 | [], _ => rfl
 | p :: ps, h => by
  unfold zkg; rw [if_pos (h p (List.mem_cons_self ..))]; exact zhk fun x hx => h x (List.mem_cons_of_mem _ hx)
theorem yc4 {g : Lang} {w : List Int} {b : List Prt} (hv : ∀ p ∈ b, zhh g.lex p = 0) (h1 : 1 ≤ b.length) (h4 : b.length ≤ 4) (hb : (zbe g.lex b).length ≤ 24) :
  licE g w b = (decide (runS g.net.steps (zax g.lex b) &&& zbk g.net.final ≠ 0) && zhj g w (zbe g.lex b)) := by
 have hR : zil g b = if zf3 g.net (zax g.lex b) = false then 21 else 0 := by
  unfold zil; rw [if_neg (by omega), if_neg (by omega), if_neg (by rw [zhk hv]; simp), if_neg (show ¬ 24 < (zbe g.lex b).length by omega)]
 unfold licE zim zhj
 rw [hR]
 have hacc : zf3 g.net (zax g.lex b) = decide (runS g.net.steps (zax g.lex b) &&& zbk g.net.final ≠ 0) := rfl
 rw [← hacc]
 cases zf3 g.net (zax g.lex b) with
 | false => simp
 | true =>
  simp only [Bool.true_eq_false, if_false, ne_eq, not_true_eq_false, Bool.true_and]; by_cases hl : zeh g.inv g.rules (zbe g.lex b) = []
  ·simp [hl]
  ·have hl' : ¬ (zeh g.inv g.rules (zbe g.lex b)).length = 0 := fun h => hl (List.length_eq_zero_iff.mp h)
   simp [hl, hl']
theorem yc5 (n : Nett) (cs : List Int) (c : Int) : runS n.steps (cs ++ [c]) = zay n.steps (runS n.steps cs) c := by unfold runS; rw [List.foldl_append]; rfl
theorem z19 {g : Lang} {w : List Int} (hg : LightF g) (hw : w.length ≤ 24) : ∀ (f : Nat) (a : List Prt), a.length + f = 4 → (∀ p ∈ a, zhh g.lex p = 0) →
  walkT g w f a (runS g.net.steps (zax g.lex a)) (zbe g.lex a) = (furF g w f a).map fun b => (b, zbe g.lex b)
 | 0, _, _, _ => rfl
 | f + 1, a, hl, hv => by
  have hm : zdy g w ≤ 24 := by unfold zdy; split <;> omega
  unfold walkT furF; rw [List.map_flatMap]; refine zez fun e he => ?_
  have hc := (hg.lex.each e he).cls; have hlt := zm1 hg.net' (runS g.net.steps (zax g.lex a)) e.cls; by_cases hd : Dead g.net (zay g.net.steps (runS g.net.steps (zax g.lex a)) e.cls)
  ·rw [if_neg (fun h => (zs8 hg _ hc.1 hc.2).1 h hd)]
   have h2 := zs6 hg.net' hlt hd; rw [List.map_nil]; split
   ·refine zit fun alt _ => ?_
    split
    ·rfl
    ·rw [if_neg (fun h => h.1 h2), zs7 hg f _ _ _ hlt hd]; rfl
   ·rfl
  ·rw [if_pos ((zs8 hg _ hc.1 hc.2).2 hd), if_pos (fun h => hd (by rw [h]; exact z8u _)), List.map_flatMap]
   refine zez fun alt ha => ?_
   have ha := List.mem_range.1 ha; rw [← z8v hg he ha a]; by_cases hmo : zdy g w < (zbe g.lex (a ++ [⟨e.id, (alt : Int), 0⟩])).length
   ·rw [if_pos hmo, if_pos hmo]; rfl
   ·rw [if_neg hmo, if_neg hmo, List.map_append]
    have hv2 : ∀ p ∈ a ++ [⟨e.id, (alt : Int), 0⟩], zhh g.lex p = 0 := by
     intro p hp; rcases List.mem_append.1 hp with h | h
     ·exact hv p h
     ·rw [List.mem_singleton] at h; rw [h]; exact zp5 hg he ha
    have hr : zay g.net.steps (runS g.net.steps (zax g.lex a)) e.cls = runS g.net.steps (zax g.lex (a ++ [⟨e.id, (alt : Int), 0⟩])) := by rw [zwq hg he ha, yc5]
    have hli := yc4 (w := w) hv2 (by simp) (by simp; omega) (by omega)
    rw [hr, z19 hg hw f _ (by simp; omega) hv2]
    congr 1
    unfold licB; rw [hli]; by_cases h1 : runS g.net.steps (zax g.lex (a ++ [⟨e.id, (alt : Int), 0⟩])) &&& zbk g.net.final ≠ 0
    ·by_cases h2 : w.length ≤ (zbe g.lex (a ++ [⟨e.id, (alt : Int), 0⟩])).length
     ·cases h3 : zhj g w (zbe g.lex (a ++ [⟨e.id, (alt : Int), 0⟩])) with
      | true => rw [if_pos ⟨h1, h2, rfl⟩, if_pos (by simp [h1, h2])]; rfl
      | false => rw [if_neg (fun h => by cases h.2.2), if_neg (by simp)]; rfl
     ·rw [if_neg (fun h => h2 h.2.1), if_neg (by simp [h2])]; rfl
    ·rw [if_neg (fun h => h1 h.1), if_neg (by simp only [ne_eq, Decidable.not_not] at h1; simp [h1])]; rfl
end Go.V
namespace Go.V
open Go Go.Proofs
def orE : List Int → Int
 | [] => 0
 | x :: r => if x = 0 then orE r else x
theorem yc6 {l : List Int} {k : Nat} (h : k < l.length) : orE (l.drop k) = if l[k] = 0 then orE (l.drop (k + 1)) else l[k] := by
 rw [List.drop_eq_getElem_cons h]; rfl
theorem yih (l : List Int) (hl : l.length < 2^40) : zaq Tryz.prog 105 [ints l] (int (orE l)) := by
 refine zaa mixed Tryz.func105 rfl call_105 ?_
 simp +decide [Tryz.f105, int, ints]
 refine zaf mixed (fun k : Nat => { n := 18, next := 0, slots := [(3, .d (int 0)), (6, .d (ints l)), (7, .d (int l.length)), (8, .d (int k))], own := [] })
  (fun k => k ≤ l.length ∧ orE (l.drop k) = orE l) (fun k => l.length - k) 0 (by simp) (by simp +decide [int, ints]) ?_
 intro k ⟨hk, hp⟩
 by_cases hlt : k < l.length
 case neg =>
  have : k = l.length := by omega
  subst this; rw [List.drop_length] at hp; simp +decide [int, ints, ← hp, orE]
 have hlt' : (k : Int) < l.length := by omega
 rw [yc6 hlt] at hp
 obtain ⟨x, ex⟩ : ∃ x, l[k] = x := ⟨_, rfl⟩
 have e1 : l[k]? = some x := by rw [List.getElem?_eq_getElem hlt, ex]
 rw [ex] at hp
 by_cases hx : x = 0
 ·rw [if_pos hx] at hp
  simp +decide [int, ints, hlt, hlt', e1, ex, hx, I64]; exact ⟨⟨by omega, by omega⟩, k + 1, ⟨hlt, hp⟩, by omega, by omega⟩
 ·rw [if_neg hx] at hp
  simp +decide [int, ints, hlt, hlt', e1, ex, hx, I64, ← hp]
def cmpP (a b : Prt) : Int := orE [cmpI a.entry b.entry, cmpI a.alt b.alt, cmpI a.sense b.sense]
theorem zfs {a b : Int} : cmpI a b = 0 ↔ a = b := by unfold cmpI; split; omega; split <;> omega
theorem zus {a b : Int} : cmpI a b < 0 ↔ a < b := by unfold cmpI; split; omega; split <;> omega
theorem zwr {a b : Prt} : cmpP a b = 0 ↔ a = b := by
 unfold cmpP orE orE orE orE
 constructor
 ·intro h
  split at h
  ·rename_i h1
   split at h
   ·rename_i h2
    split at h
    ·rename_i h3
     obtain ⟨a1, a2, a3⟩ := a; obtain ⟨b1, b2, b3⟩ := b; rw [zfs] at h1 h2 h3; simp only at h1 h2 h3
     rw [h1, h2, h3]
    ·contradiction
   ·contradiction
  ·contradiction
 ·intro h
  subst h; simp [cmpI]
theorem yc7 {a b : Prt} : decide (cmpP a b < 0) = zhg a b := by
 unfold cmpP orE orE orE orE zhg
 by_cases h1 : a.entry = b.entry
 ·rw [if_pos (zfs.2 h1), if_pos h1]
  by_cases h2 : a.alt = b.alt
  ·rw [if_pos (zfs.2 h2), if_pos h2]
   by_cases h3 : a.sense = b.sense
   ·rw [if_pos (zfs.2 h3)]; simp [h3]
   ·rw [if_neg (fun h => h3 (zfs.1 h))]; simp [zus]
  ·rw [if_neg (fun h => h2 (zfs.1 h)), if_neg h2]; simp [zus]
 ·rw [if_neg (fun h => h1 (zfs.1 h)), if_neg h1]; simp [zus]
theorem z5f (a b : Prt) : zaq Tryz.prog 65 [.agg a.row, .agg b.row] (int (cmpP a b)) := by
 have h1 := zmv a.entry b.entry
 have h2 := zmv a.alt b.alt
 have h3 := zmv a.sense b.sense
 have ho := yih [cmpI a.entry b.entry, cmpI a.alt b.alt, cmpI a.sense b.sense] (by simp)
 refine zaa mixed Tryz.func65 rfl call_65 ?_
 simp +decide [Tryz.f65, int, Prt.row]
 refine zad (by rfl) (by rfl) h1 (by simp [int]) ?_
 simp +decide [int, Prt.row]
 refine zad (by rfl) (by rfl) h2 (by simp [int]) ?_
 simp +decide [int, Prt.row]
 refine zad (by rfl) (by rfl) h3 (by simp [int]) ?_
 simp +decide [int, Prt.row]
 refine zad (by rfl) (by rfl) ho (by simp [int, ints]) ?_
 simp +decide [int, Prt.row, cmpP]
def cmpA : List Prt → List Prt → Int
 | [], [] => 0
 | [], _ :: _ => -1
 | _ :: _, [] => 1
 | a :: l, b :: m => if cmpP a b = 0 then cmpA l m else cmpP a b
theorem z2a : ∀ {a b : List Prt}, decide (cmpA a b < 0) = zbm a b
 | [], [] => rfl
 | [], _ :: _ => rfl
 | _ :: _, [] => rfl
 | a :: l, b :: m => by
  unfold cmpA zbm; by_cases h : a = b
  ·rw [if_pos (zwr.2 h), if_pos h]; exact z2a
  ·rw [if_neg (fun h' => h (zwr.1 h')), if_neg h]; exact yc7
theorem z8w {a b : List Prt} {k : Nat} (h : k < a.length) (h' : k < b.length) : cmpA (a.drop k) (b.drop k) = if cmpP a[k] b[k] = 0 then cmpA (a.drop (k + 1)) (b.drop (k + 1)) else cmpP a[k] b[k] := by
 rw [List.drop_eq_getElem_cons h, List.drop_eq_getElem_cons h']; rfl
theorem zzy (a b : List Prt) (ha : a.length < 2^40) (hb : b.length < 2^40) :
  zaq Tryz.prog 64 [zab a, zab b, .fn 65 []] (int (cmpA a b)) := by
 refine zaa mixed Tryz.func64 rfl call_64 ?_
 simp +decide [Tryz.f64, int, zab]
 refine zaf mixed (fun k : Nat => { n := 39, next := 0, slots := [(0, .d (zab a)), (1, .d (zab b)), (2, .d (.fn 65 [])), (11, .d (zab a)), (12, .d (int a.length)), (13, .d (int k))], own := [] })
  (fun k => k ≤ a.length ∧ k ≤ b.length ∧ cmpA (a.drop k) (b.drop k) = cmpA a b) (fun k => a.length - k) 0 (by simp) (by simp +decide [int, zab]) ?_
 intro k ⟨hk, hkb, hp⟩
 by_cases hlt : k < a.length
 case neg =>
  have : k = a.length := by omega
  subst this; rw [List.drop_length] at hp; by_cases hb2 : a.length < b.length
  ·have hb' : (a.length : Int) < b.length := by omega
   rw [List.drop_eq_getElem_cons hb2] at hp; simp +decide [int, zab, hb', ← hp, cmpA]
  ·have hb' : ¬ (a.length : Int) < b.length := by omega
   rw [show a.length = b.length by omega, List.drop_length] at hp
   simp +decide [int, zab, hb', ← hp, cmpA]
 have hlt' : (k : Int) < a.length := by omega
 obtain ⟨x, ex⟩ : ∃ x, a[k] = x := ⟨_, rfl⟩
 have e1 : a[k]? = some x := by rw [List.getElem?_eq_getElem hlt, ex]
 by_cases hlb : k < b.length
 case neg =>
  have hlb' : (b.length : Int) ≤ k := by omega
  have : b.drop k = [] := List.drop_eq_nil_of_le (by omega)
  rw [this, List.drop_eq_getElem_cons hlt] at hp; simp +decide [int, zab, Prt.row, hlt, hlt', e1, ex, hlb', ← hp, cmpA, I64]
 have hlb' : ¬ (b.length : Int) ≤ k := by omega
 obtain ⟨y, ey⟩ : ∃ y, b[k] = y := ⟨_, rfl⟩
 have e2 : b[k]? = some y := by rw [List.getElem?_eq_getElem hlb, ey]
 rw [z8w hlt hlb, ex, ey] at hp
 simp +decide [int, zab, Prt.row, hlt, hlt', hlb, e1, ex, e2, ey, hlb', I64]
 refine zam.pure (by rfl) (z5f x y) (by simp [Prt.row, int]) ?_
 by_cases hx : cmpP x y = 0
 ·rw [if_pos hx] at hp
  simp +decide [int, zab, Prt.row, hx, I64]; exact ⟨⟨by omega, by omega⟩, k + 1, ⟨hlt, hlb, hp⟩, by omega, by omega⟩
 ·rw [if_neg hx] at hp
  simp +decide [int, zab, Prt.row, hx, I64, ← hp]
theorem yc8 (a b : List Prt) (ha : a.length < 2^40) (hb : b.length < 2^40) : zaq Tryz.prog 30 [anaD a, anaD b] (.bool (zbm a b)) := by
 refine zaa mixed Tryz.func30 rfl call_30 ?_
 simp +decide [Tryz.f30, anaD, zab]
 refine zam.pure (by rfl) (zzy a b ha hb) (by simp [zab, int]) ?_
 simp +decide [int]
 exact z2a
theorem yc9 (inv : List Phon) (s : Int) : zaq Tryz.prog 91 [int s, .ptr [invD inv]] (.bool (!zdk inv s)) := by
 refine zaa mixed Tryz.func91 rfl call_91 ?_
 simp +decide [Tryz.f91, int]
 refine zam.pure (by rfl) (zsn inv s) (by simp [invD, int]) ?_
 simp +decide [int]
def badW (inv : List Phon) (w : List Int) : Int := match w.findIdx? (fun s => !zdk inv s) with
 | some k => k
 | none => -1
theorem z8x (inv : List Phon) (w : List Int) (hl : w.length < 2^40) : zaq Tryz.prog 137 [ints w, .fn 91 [.ptr [invD inv]]] (int (badW inv w)) := by
 refine zaa mixed Tryz.func137 rfl call_137 ?_
 simp +decide [Tryz.f137, ints]
 refine zaf mixed (fun k : Nat => { n := 19, next := 0, slots := [(0, .d (ints w)), (1, .d (.fn 91 [.ptr [invD inv]])), (6, .d (ints w)), (7, .d (.int .i64 w.length)), (8, .d (.int .i64 k))], own := [] })
  (fun k => k ≤ w.length ∧ ∀ e ∈ w.take k, zdk inv e = true) (fun k => w.length - k) 0 (by simp) (by simp [ints]) ?_
 intro k ⟨hk, hp⟩
 by_cases hlt : k < w.length
 ·have hlt' : (k : Int) < w.length := by omega
  obtain ⟨e, ee⟩ : ∃ e, w[k] = e := ⟨_, rfl⟩; have e1 : w[k]? = some e := by rw [List.getElem?_eq_getElem hlt, ee]
  simp +decide [ints, int, e1, ee, hlt, hlt', I64]; refine zam.pure (by rfl) (yc9 inv e) (by simp [int, invD]) ?_
  cases he : zdk inv e with
  | false =>
   have : w.findIdx? (fun s => !zdk inv s) = some k := by
    rw [List.findIdx?_eq_some_iff_getElem]; refine ⟨hlt, by rw [ee, he]; rfl, fun j hj => ?_⟩
    have := hp w[j] (by rw [List.mem_take_iff_getElem]; exact ⟨j, by omega, rfl⟩)
    rw [this]; decide
   simp +decide [ints, int, he, I64, badW, this]
  | true =>
   simp +decide [ints, int, he, I64]; refine ⟨⟨by omega, by omega⟩, k + 1, ⟨hlt, ?_⟩, by omega, by omega⟩
   intro x hx; rw [List.take_succ_eq_append_getElem hlt] at hx; rcases List.mem_append.1 hx with h | h
   ·exact hp x h
   ·rw [List.mem_singleton] at h; rw [h, ee]; exact he
 ·have : k = w.length := by omega
  subst this; have : w.findIdx? (fun s => !zdk inv s) = none := by
   rw [List.findIdx?_eq_none_iff]; intro x hx; rw [hp x (by simpa using hx)]; rfl
  simp +decide [ints, int, badW, this]
theorem yfz (inv : List Phon) (w : List Int) (hw : w.length < 2^40) : zaq Tryz.prog 48 [.agg [invD inv], ints w] (int (zgj inv w)) := by
 have hI := z8x inv w hw
 refine zaa mixed Tryz.func48 rfl call_48 ?_
 obtain ⟨R, hR⟩ : ∃ R, zgj inv w = R := ⟨_, rfl⟩
 rw [hR]
 unfold zgj at hR
 have hC : zaq Tryz.prog 90 [ints w, .fn 91 [.ptr [invD inv]]] (.bool (decide (0 ≤ badW inv w))) := by
  refine zaa mixed Tryz.func90 rfl call_90 ?_
  simp +decide [Tryz.f90, ints]; refine zam.pure (by rfl) hI (by simp [int, invD]) ?_
  simp +decide [int]
 by_cases h0 : w.length = 0
 ·rw [if_pos h0] at hR
  subst hR; have h0' : (w.length : Int) = 0 := by omega
  simp +decide [Tryz.f48, int, ints, h0, h0']; done
 rw [if_neg h0] at hR
 have h0' : ¬ (w.length : Int) = 0 := by omega
 by_cases h1 : 24 < w.length
 ·rw [if_pos h1] at hR
  subst hR; have h1' : (24 : Int) < w.length := by omega
  simp +decide [Tryz.f48, int, ints, h0, h0', h1, h1']; done
 rw [if_neg h1] at hR
 have h1' : ¬ (24 : Int) < w.length := by omega
 simp +decide [Tryz.f48, int, ints, h0, h0', h1, h1']
 refine zam.pure (by rfl) hC (by simp [D.scalar]) ?_
 by_cases hall : (w.all fun x => zdk inv x) = true
 ·rw [if_pos hall] at hR
  have hb : badW inv w = -1 := by
   unfold badW; have : w.findIdx? (fun s => !zdk inv s) = none := by
    rw [List.findIdx?_eq_none_iff]; intro x hx; rw [List.all_eq_true.1 hall x hx]; rfl
   rw [this]
  simp +decide [int, hb, ← hR]
 ·rw [if_neg hall] at hR
  have hb : 0 ≤ badW inv w := by
   unfold badW; cases h : w.findIdx? (fun s => !zdk inv s) with
   | none =>
    rw [List.findIdx?_eq_none_iff] at h; exact absurd (List.all_eq_true.2 fun x hx => by simpa using h x hx) hall
   | some k => simp
  simp +decide [int, hb, ← hR]
end Go.V

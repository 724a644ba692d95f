/- Contracts and plain laws of this seat: part MF. It needs no conditions. -/
import Derived.Test.YtgglheknmlfghaaGreatME
set_option linter.unusedVariables false
set_option linter.unusedSimpArgs false
set_option linter.unusedSectionVars false
set_option maxRecDepth 100000
namespace Go.V
open Go Go.Proofs
def begB (s t : ByteArray) : Bool := decide (t.size ≤ s.size) && decide (s.extract 0 t.size = t)
theorem z0i (s t : ByteArray) (hs : s.size < 2^40) : zaq Tryz.prog 164 [.str s, .str t] (.bool (begB s t)) := by
 refine zaa mixed Tryz.func164 rfl call_164 ?_
 unfold begB
 by_cases h : t.size ≤ s.size
 ·have h' : (t.size : Int) ≤ s.size := by omega
  have hq : ((s.extract 0 t.size).toList == t.toList) = decide (s.extract 0 t.size = t) := by
   by_cases e : s.extract 0 t.size = t
   ·rw [e]; simp
   ·rw [decide_eq_false e, beq_eq_false_iff_ne]; exact fun e' => e (bytes_inj e')
  simp +decide [Tryz.f164, int, h, h', hq]
 ·have h' : ¬ (t.size : Int) ≤ s.size := by omega
  simp +decide [Tryz.f164, int, h, h']
def ze6 (us : List Grap) (t : ByteArray) : Nat → Option Nat
 | 0 => none
 | k + 1 => match us[k]? with
  | none => ze6 us t k
  | some u => if begB t u.graph = true then (match ze6 us t k with
    | none => some k
    | some b => if ((us[b]?.map fun v => v.graph.size).getD 0) < u.graph.size then some k else some b)
   else ze6 us t k
def optI : Option Nat → Int
 | none => -1
 | some b => b
theorem zfc {us : List Grap} {t : ByteArray} : ∀ {k b : Nat}, ze6 us t k = some b → b < k ∧ b < us.length
 | 0, b, h => by cases h
 | k + 1, b, h => by
  unfold ze6 at h; split at h
  ·exact ⟨by have := (zfc h).1; omega, (zfc h).2⟩
  ·rename_i u hu
   have hkl : k < us.length := (List.getElem?_eq_some_iff.1 hu).1
   split at h
   ·split at h
    ·obtain rfl := Option.some.inj h; exact ⟨by omega, hkl⟩
    ·rename_i b' hb'
     split at h
     ·obtain rfl := Option.some.inj h; exact ⟨by omega, hkl⟩
     ·obtain rfl := Option.some.inj h
      exact ⟨by have := (zfc hb').1; omega, (zfc hb').2⟩
   ·exact ⟨by have := (zfc h).1; omega, (zfc h).2⟩
set_option maxHeartbeats 8000000 in
theorem zxk (o : Orth) (ho : OrthC o) (s : ByteArray) (hs : s.size < 2^40) : zaq Tryz.prog 142 [.agg o.cells, .str s] (int (optI (ze6 o.units s o.units.length))) := by
 have hfew := ho.few.1
 refine zaa mixed Tryz.func142 rfl call_142 ?_
 simp +decide [Tryz.f142, int, Orth.cells]
 refine zaz mixed (fun k : Nat => { n := 42, next := 1, slots := [(1, .d (.str s)), (2, .bp 0 0), (5, .d (int (optI (ze6 o.units s k)))), (6, .d (int k))], own := [(0, .box 28 (o.cells.map .d))] })
  (fun k => k ≤ o.units.length) (fun k => o.units.length - k) 0 (Nat.zero_le _) ?_ ?_
 ·simp +decide [int, za5, Orth.cells, ze6, optI]
 intro k hk
 refine zal mixed ?_
 by_cases hlt : k < o.units.length
 case neg =>
  have : k = o.units.length := by omega
  subst this; simp +decide [int, za5, Orth.cells]
 have hlt' : (k : Int) < o.units.length := by omega
 obtain ⟨u, eu⟩ : ∃ u, o.units[k] = u := ⟨_, rfl⟩
 have eu1 : o.units[k]? = some u := by rw [List.getElem?_eq_getElem hlt, eu]
 have hug := (ho.units o.units[k] (List.getElem_mem hlt)).1
 rw [eu] at hug
 have hB := z0i s u.graph hs
 have hstep : ze6 o.units s (k + 1) = if begB s u.graph = true then (match ze6 o.units s k with
    | none => some k
    | some b => if ((o.units[b]?.map fun v => v.graph.size).getD 0) < u.graph.size then some k else some b)
   else ze6 o.units s k := by rw [ze6, eu1]
 simp +decide [int, za5, Orth.cells, hlt, hlt', eu, eu1, Grap.row]
 refine zam.pure (by rfl) hB (by simp [D.scalar]) ?_
 cases hb : begB s u.graph with
 | false =>
  rw [hb, if_neg (by decide)] at hstep
  simp +decide [int, za5, Orth.cells, hlt, hlt', eu, eu1, Grap.row, I64]; exact ⟨⟨by omega, by omega⟩, k + 1, hlt, by omega, by rw [hstep], by omega⟩
 | true =>
  rw [hb, if_pos rfl] at hstep; cases hbb : ze6 o.units s k with
  | none =>
   rw [hbb] at hstep; simp only at hstep
   simp +decide [int, za5, Orth.cells, hlt, hlt', eu, eu1, Grap.row, I64, optI]; exact ⟨⟨by omega, by omega⟩, k + 1, hlt, by omega, by rw [hstep], by omega⟩
  | some b =>
   have hbl := (zfc hbb).2; have hbl' : (b : Int) < o.units.length := by omega
   rw [hbb] at hstep; simp only at hstep
   obtain ⟨v, ev⟩ : ∃ v, o.units[b] = v := ⟨_, rfl⟩; have ev1 : o.units[b]? = some v := by rw [List.getElem?_eq_getElem hbl, ev]
   rw [ev1] at hstep; simp only [Option.map_some, Option.getD_some] at hstep; have hnb : ¬ (b : Int) < 0 := by omega
   by_cases hc : v.graph.size < u.graph.size
   ·have hc' : (v.graph.size : Int) < u.graph.size := by omega
    rw [if_pos hc] at hstep; simp +decide [int, za5, Orth.cells, hlt, hlt', eu, eu1, Grap.row, I64, optI, hbl, hbl', ev, ev1, hc, hc', hnb]; exact ⟨⟨by omega, by omega⟩, k + 1, hlt, by omega, by rw [hstep], by omega⟩
   ·have hc' : ¬ (v.graph.size : Int) < u.graph.size := by omega
    rw [if_neg hc] at hstep; simp +decide [int, za5, Orth.cells, hlt, hlt', eu, eu1, Grap.row, I64, optI, hbl, hbl', ev, ev1, hc, hc', hnb]; exact ⟨⟨by omega, by omega⟩, k + 1, hlt, by omega, by rw [hstep], by omega⟩
def zcp (us : List Grap) (s : ByteArray) : Nat → Nat → List Nat × Nat
 | 0, at_ => ([], at_)
 | f + 1, at_ => if at_ < s.size then (match ze6 us (s.extract at_ s.size) us.length with
   | none => ([], at_)
   | some b => (b :: (zcp us s f (at_ + ((us[b]?.map fun v => v.graph.size).getD 0))).1, (zcp us s f (at_ + ((us[b]?.map fun v => v.graph.size).getD 0))).2))
  else ([], at_)
theorem zl4 {us : List Grap} {t : ByteArray} : ∀ {k b : Nat}, ze6 us t k = some b → ∃ v, us[b]? = some v ∧ begB t v.graph = true
 | 0, b, h => by cases h
 | k + 1, b, h => by
  unfold ze6 at h; split at h
  ·exact zl4 h
  ·rename_i u hu
   split at h
   ·rename_i hb
    split at h
    ·obtain rfl := Option.some.inj h; exact ⟨u, hu, hb⟩
    ·rename_i b' hb'
     split at h
     ·obtain rfl := Option.some.inj h; exact ⟨u, hu, hb⟩
     ·obtain rfl := Option.some.inj h; exact zl4 hb'
   ·exact zl4 h
def zgk (l : List Nat) : D := .sl (l.map fun (n : Nat) => [int (n : Int)])
set_option maxHeartbeats 8000000 in
theorem z5l (o : Orth) (ho : OrthC o) (hp : ∀ u ∈ o.units, 0 < u.graph.size) (s : ByteArray) (hs : s.size < 2^30) : zaq Tryz.prog 98 [.agg o.cells, .str s] (.tup [zgk (zcp o.units s s.size 0).1, int (zcp o.units s s.size 0).2]) := by
 refine zaa mixed Tryz.func98 rfl call_98 ?_
 obtain ⟨T, eT⟩ : ∃ T, zcp o.units s s.size 0 = T := ⟨_, rfl⟩
 rw [eT]
 simp +decide [Tryz.f98, int, Orth.cells]
 refine zaz mixed (fun x : List Nat × Nat => { n := 37, next := 3, slots := [(1, .d (.str s)), (2, .bp 0 0), (6, .ar 2), (7, .d (int x.2))], own := [(0, .box 28 (o.cells.map .d)), (2, .arr 3 1 (x.1.map fun (n : Nat) => [int (n : Int)]))], moved := [2] })
  (fun x => x.2 ≤ s.size ∧ x.1.length ≤ x.2 ∧ ∃ f, s.size - x.2 ≤ f ∧ T = (x.1 ++ (zcp o.units s f x.2).1, (zcp o.units s f x.2).2)) (fun x => s.size - x.2) ([], 0) ⟨Nat.zero_le _, Nat.zero_le _, s.size, by omega, by rw [← eT]; rfl⟩ ?_ ?_
 ·simp +decide [int, ints, Orth.cells]
 rintro ⟨out, at_⟩ ⟨hat, hol, f, hf, hT⟩
 simp only at hat hol hf hT
 refine zal mixed ?_
 by_cases hlt : at_ < s.size
 case neg =>
  have hu : zcp o.units s f at_ = ([], at_) := by
   cases f with
   | zero => rfl
   | succ f => rw [zcp, if_neg hlt]
  rw [hu, List.append_nil] at hT; subst hT; have hlt' : ¬ (at_ : Int) < s.size := by omega
  simp +decide [int, ints, Orth.cells, hlt, hlt', zgk]
 have hlt' : (at_ : Int) < s.size := by omega
 obtain ⟨f, rfl⟩ : ∃ f', f = f' + 1 := ⟨f - 1, by omega⟩
 rw [zcp, if_pos hlt] at hT
 have hL := zxk o ho (s.extract at_ s.size) (by simp; omega)
 simp +decide [int, ints, Orth.cells, hlt, hlt']
 refine ⟨by omega, ?_⟩
 refine zad (by rfl) (by rfl) hL (by simp [D.scalar]) ?_
 cases hb : ze6 o.units (s.extract at_ s.size) o.units.length with
 | none =>
  rw [hb] at hT; simp only [List.append_nil] at hT; subst hT; simp +decide [int, ints, Orth.cells, hlt, hlt', optI, zgk]
 | some b =>
  rw [hb] at hT; simp only at hT
  obtain ⟨v, hv, hbg⟩ := zl4 hb; have hbl := (zfc hb).2; have hbl' : (b : Int) < o.units.length := by omega
  have hve : o.units[b] = v := by rw [List.getElem?_eq_getElem hbl] at hv; exact Option.some.inj hv
  have hvp := hp v (List.mem_of_getElem? hv); have hvs : at_ + v.graph.size ≤ s.size := by
   unfold begB at hbg; rw [Bool.and_eq_true, decide_eq_true_eq] at hbg; have := hbg.1
   simp at this
   omega
  rw [hv] at hT; simp only [Option.map_some, Option.getD_some] at hT; have hnb : ¬ (b : Int) < 0 := by omega
  simp +decide [int, ints, Orth.cells, za5, hlt, hlt', optI, hbl, hbl', hv, hve, hnb, Grap.row, I64]; exact ⟨by omega, by unfold maxLen; omega, ⟨by omega, by omega⟩, out ++ [b], at_ + v.graph.size, ⟨hvs, by simp; omega, f, by omega, by rw [hT, List.append_assoc]; rfl⟩, by omega, by omega, by simp⟩
theorem zqg {us : List Grap} {s : ByteArray} : ∀ {f at_ : Nat}, ∀ b ∈ (zcp us s f at_).1, b < us.length
 | 0, _, b, h => by cases h
 | f + 1, at_, b, h => by
  unfold zcp at h; split at h
  ·split at h
   ·cases h
   ·rename_i c hc
    rcases List.mem_cons.1 h with e | h
    ·rw [e]; exact (zfc hc).2
    ·exact zqg b h
  ·cases h
theorem znb {us : List Grap} {s : ByteArray} : ∀ {f at_ : Nat}, (zcp us s f at_).1.length ≤ f
 | 0, _ => Nat.le_refl _
 | f + 1, at_ => by
  unfold zcp; split
  ·split
   ·exact Nat.zero_le _
   ·rw [List.length_cons]; exact Nat.succ_le_succ znb
  ·exact Nat.zero_le _
def zif (us : List Grap) (l : List Nat) : List Int := l.flatMap fun b => (us[b]?.map fun v => v.segs).getD []
def ziz (us : List Grap) (s : ByteArray) : List Int × Int × Int :=
 if s.size = 0 then ([], 0, 4) else if (zcp us s s.size 0).2 < s.size then ([], (zcp us s s.size 0).2, 20) else if 24 < (zif us (zcp us s s.size 0).1).length then ([], 0, 5) else (zif us (zcp us s s.size 0).1, 0, 0)
theorem zti {us : List Grap} {l : List Nat} {k b : Nat} {v : Grap} (h : k < l.length) (hb : l[k] = b) (hv : us[b]? = some v) : zif us (l.take (k + 1)) = zif us (l.take k) ++ v.segs := by
 unfold zif
 rw [zaj h, List.flatMap_append, List.flatMap_singleton, hb, hv]
 rfl
theorem zqh {us : List Grap} (hs : ∀ u ∈ us, u.segs.length ≤ 1048576) : ∀ l : List Nat, (zif us l).length ≤ l.length * 1048576
 | [] => by simp [zif]
 | b :: l => by
  have ih := zqh hs l; unfold zif at ih ⊢; rw [List.flatMap_cons, List.length_append, List.length_cons]; have : ((us[b]?.map fun v => v.segs).getD []).length ≤ 1048576 := by
   cases h : us[b]? with
   | none => simp
   | some v => exact hs v (List.mem_of_getElem? h)
  omega
set_option maxHeartbeats 8000000 in
theorem z9w (o : Orth) (ho : OrthC o) (hp : ∀ u ∈ o.units, 0 < u.graph.size) (s : ByteArray) (hs : s.size ≤ 200) : zaq Tryz.prog 58 [.agg o.cells, .str s] (.tup [ints (ziz o.units s).1, int (ziz o.units s).2.1, int (ziz o.units s).2.2]) := by
 have hU := z5l o ho hp s (by omega)
 have hlt0 := fun b => zqg (us := o.units) (s := s) (f := s.size) (at_ := 0) b
 have hln := znb (us := o.units) (s := s) (f := s.size) (at_ := 0)
 refine zaa mixed Tryz.func58 rfl call_58 ?_
 unfold ziz
 generalize zcp o.units s s.size 0 = T at hU hlt0 hln
 obtain ⟨l, e⟩ := T
 simp only at hU hlt0 hln
 by_cases h0 : s.size = 0
 ·have hq : s = ByteArray.empty := ByteArray.ext (Array.eq_empty_of_size_eq_zero (by simpa using h0))
  subst hq; simp +decide [Tryz.f58, int, ints, Orth.cells]
 rw [if_neg h0]
 have hq : (s.toList == [] ) = false := by
  rw [beq_eq_false_iff_ne]; intro e; have : s = ByteArray.empty := bytes_inj (e.trans (by first | simp | (unfold ByteArray.toList; rw [ByteArray.toList.loop]; rfl)))
  exact h0 (by rw [this]; rfl)
 simp +decide [Tryz.f58, int, ints, Orth.cells, hq]
 refine zam.pure (by rfl) hU (by simp [D.scalar]) ?_
 by_cases he : e < s.size
 ·have he' : (e : Int) < s.size := by omega
  simp +decide [int, ints, Orth.cells, he, he', zgk]
 have he' : ¬ (e : Int) < s.size := by omega
 rw [if_neg he]
 simp +decide [int, ints, Orth.cells, he, he', zgk]
 refine zaz mixed (fun k : Nat => { n := 45, next := 3, slots := [(2, .bp 0 0), (7, .d (zgk l)), (9, .ar 2), (10, .d (int k))], own := [(0, .box 28 (o.cells.map .d)), (2, .arr 3 1 ((zif o.units (l.take k)).map fun n => [int n]))], moved := [2] })
  (fun k => k ≤ l.length) (fun k => l.length - k) 0 (Nat.zero_le _) ?_ ?_
 ·simp +decide [int, ints, Orth.cells, zif, zgk]
 intro k hk
 refine zal mixed ?_
 by_cases hlt : k < l.length
 case neg =>
  have : k = l.length := by omega
  subst this; rw [List.take_length]; generalize zif o.units l = W; by_cases h24 : 24 < W.length
  ·have h24' : (24 : Int) < W.length := by omega
   simp +decide [int, ints, Orth.cells, zgk, h24, h24']
  ·have h24' : ¬ (24 : Int) < W.length := by omega
   simp +decide [int, ints, Orth.cells, zgk, h24, h24']
 have hlt' : (k : Int) < l.length := by omega
 obtain ⟨b, eb⟩ : ∃ b, l[k] = b := ⟨_, rfl⟩
 have eb1 : l[k]? = some b := by rw [List.getElem?_eq_getElem hlt, eb]
 have hbl : b < o.units.length := by rw [← eb]; exact hlt0 _ (List.getElem_mem hlt)
 have hbl' : (b : Int) < o.units.length := by omega
 obtain ⟨v, ev⟩ : ∃ v, o.units[b] = v := ⟨_, rfl⟩
 have ev1 : o.units[b]? = some v := by rw [List.getElem?_eq_getElem hbl, ev]
 have hvs := (ho.units o.units[b] (List.getElem_mem hbl)).2
 rw [ev] at hvs
 have htk := zti (us := o.units) hlt eb ev1
 have hsl := zqh (us := o.units) (fun u hu => (ho.units u hu).2) (l.take k)
 rw [List.length_take] at hsl
 have hsl : (zif o.units (l.take k)).length ≤ 200 * 1048576 := Nat.le_trans hsl (Nat.mul_le_mul_right _ (by omega))
 generalize zif o.units (l.take k) = W at htk hsl
 simp +decide [int, ints, Orth.cells, zgk, za5, Grap.row, hlt, hlt', eb, eb1, hbl, hbl', ev, ev1, I64]
 refine zyq mixed 10 (by rfl) (by rfl) (by rfl) (by rfl) (by simp) ?_
 simp +decide [int, ints, Orth.cells, zgk, za5, Grap.row, hlt, hlt', eb, eb1, hbl, hbl', ev, ev1, I64]
 exact ⟨by omega, by unfold maxLen; omega, ⟨by omega, by omega⟩, k + 1, hlt, by omega, by omega, by rw [htk, List.map_append]⟩
end Go.V
namespace Go.V
open Go Go.Proofs
def zxl (us : List Grap) : Nat := us.foldl (fun m u => max m u.graph.size) 0
theorem z5m {us : List Grap} {k : Nat} {u : Grap} (h : k < us.length) (hu : us[k] = u) : zxl (us.take (k + 1)) = max (zxl (us.take k)) u.graph.size := by
 unfold zxl
 rw [zaj h, List.foldl_append, hu]; rfl
theorem z5n (us : List Grap) : ∀ m, m ≤ us.foldl (fun m u => max m u.graph.size) m ∧ ∀ u ∈ us, u.graph.size ≤ us.foldl (fun m u => max m u.graph.size) m := by
 induction us with
 | nil => intro m; exact ⟨Nat.le_refl _, fun u h => by cases h⟩
 | cons v us ih =>
  intro m; obtain ⟨h1, h2⟩ := ih (max m v.graph.size); rw [List.foldl_cons]; refine ⟨by omega, fun u hu => ?_⟩
  rcases List.mem_cons.1 hu with e | hu
  ·rw [e]; omega
  ·exact h2 u hu
theorem ydw {us : List Grap} {u : Grap} (h : u ∈ us) : u.graph.size ≤ zxl us := (z5n us 0).2 u h
theorem z9x {us : List Grap} {c : Nat} (h : ∀ u ∈ us, u.graph.size ≤ c) : ∀ m, m ≤ c → us.foldl (fun m u => max m u.graph.size) m ≤ c := by
 induction us with
 | nil => intro m hm; exact hm
 | cons v us ih =>
  intro m hm; rw [List.foldl_cons]; exact ih (fun u hu => h u (List.mem_cons_of_mem _ hu)) _ (by have := h v (List.mem_cons_self ..); omega)
theorem z9y {s t : ByteArray} {at_ : Nat} (h : begB (s.extract at_ s.size) t = true) : t.size ≤ s.size - at_ := by
 unfold begB at h
 rw [Bool.and_eq_true, decide_eq_true_eq] at h
 have := h.1
 simp at this
 omega
theorem yf9 {s : ByteArray} {at_ n : Nat} (h : at_ + n ≤ s.size) : (s.extract at_ s.size).extract 0 n = s.extract at_ (at_ + n) := by
 rw [ByteArray.extract_extract]
 congr 1
 omega
theorem zu8 {s t : ByteArray} {at_ n : Nat} (hn : t.size = n) (h : at_ + n ≤ s.size) : begB (s.extract at_ s.size) t = true ↔ t = s.extract at_ (at_ + n) := by
 unfold begB
 rw [Bool.and_eq_true, decide_eq_true_eq, decide_eq_true_eq, hn, yf9 h]
 constructor
 ·rintro ⟨_, e⟩; exact e.symm
 ·intro e; exact ⟨by rw [ByteArray.size_extract]; omega, e.symm⟩
theorem znc {us : List Grap} {t : ByteArray} (h : ∀ u ∈ us, begB t u.graph = false) : ∀ {k : Nat}, ze6 us t k = none
 | 0 => rfl
 | k + 1 => by
  rw [ze6]; cases hu : us[k]? with
  | none => exact znc h
  | some u =>
   simp only
   rw [if_neg (by rw [h u (List.mem_of_getElem? hu)]; decide)]
   exact znc h
theorem zqi {us : List Grap} {t : ByteArray} {i : Nat} {v : Grap} (hv : us[i]? = some v) (hb : begB t v.graph = true) (hmax : ∀ u ∈ us, begB t u.graph = true → u.graph.size ≤ v.graph.size)
  (hfst : ∀ u ∈ us.take i, begB t u.graph = true → u.graph.size < v.graph.size) : ∀ {k : Nat}, (k ≤ i → ∀ b, ze6 us t k = some b → ∃ w ∈ us.take i, us[b]? = some w ∧ begB t w.graph = true) ∧ (i < k → ze6 us t k = some i)
 | 0 => ⟨(by intro _ b h; cases h), (by intro h; omega)⟩
 | k + 1 => by
  obtain ⟨h1, h2⟩ := zqi hv hb hmax hfst (k := k); have hil : i < us.length := (List.getElem?_eq_some_iff.1 hv).1
  constructor
  ·intro hk b h
   have hkl : k < us.length := by omega
   have ek : us[k]? = some us[k] := List.getElem?_eq_getElem hkl
   have hin : us[k] ∈ us.take i := List.mem_iff_getElem.2 ⟨k, by rw [List.length_take]; omega, by rw [List.getElem_take]⟩
   rw [ze6, ek] at h; simp only at h
   split at h
   ·rename_i hbk
    split at h
    ·obtain rfl := Option.some.inj h; exact ⟨_, hin, ek, hbk⟩
    ·rename_i b' hb'
     split at h
     ·obtain rfl := Option.some.inj h; exact ⟨_, hin, ek, hbk⟩
     ·obtain rfl := Option.some.inj h; exact h1 (by omega) _ hb'
   ·exact h1 (by omega) b h
  ·intro hk
   rw [ze6]; by_cases hki : k = i
   ·subst hki
    rw [hv]; simp only
    rw [if_pos hb]; cases hbk : ze6 us t k with
    | none => rfl
    | some b =>
     simp only
     obtain ⟨w, hw, ew, hwb⟩ := h1 (Nat.le_refl _) b hbk; rw [ew, Option.map_some, Option.getD_some, if_pos (hfst w hw hwb)]
   ·rw [h2 (by omega)]
    cases hu : us[k]? with
    | none => rfl
    | some u =>
     simp only
     split
     ·rename_i hub
      rw [hv, if_neg (by have := hmax u (List.mem_of_getElem? hu) hub; simp; omega)]
     ·rfl
set_option maxHeartbeats 8000000 in
theorem z5o (o : Orth) (ho : OrthC o) (hp : ∀ u ∈ o.units, 0 < u.graph.size) (s : ByteArray) (hs : s.size < 2^30) : zaq Tryz.prog 97 [.agg o.cells, .str s] (.tup [zgk (zcp o.units s s.size 0).1, int (zcp o.units s s.size 0).2]) := by
 refine zaa mixed Tryz.func97 rfl call_97 ?_
 have hfew := ho.few.1
 obtain ⟨T, eT⟩ : ∃ T, zcp o.units s s.size 0 = T := ⟨_, rfl⟩
 rw [eT]
 simp +decide [Tryz.f97, int, Orth.cells, za5]
 refine zaz mixed (fun k : Nat => { n := 68, next := 2, slots := [(1, .d (.str s)), (2, .bp 0 0), (6, .d (int (zxl (o.units.take k)))), (15, .d (za5 o.units)), (16, .d (int o.units.length)), (17, .d (int k))], own := [(0, .box 28 (o.cells.map .d))] })
  (fun k => k ≤ o.units.length) (fun k => o.units.length - k) 0 (Nat.zero_le _) ?_ ?_
 ·simp +decide [int, za5, Orth.cells, zxl]
 intro k hk
 refine zal mixed ?_
 by_cases hlt : k < o.units.length
 case pos =>
  have hlt' : (k : Int) < o.units.length := by omega
  obtain ⟨u, eu⟩ : ∃ u, o.units[k] = u := ⟨_, rfl⟩; have eu1 : o.units[k]? = some u := by rw [List.getElem?_eq_getElem hlt, eu]
  have hug := (ho.units o.units[k] (List.getElem_mem hlt)).1; rw [eu] at hug; have hm := z5m hlt eu; simp +decide [int, za5, Orth.cells, hlt, hlt', eu, eu1, Grap.row, I64]; refine ⟨⟨by omega, by omega⟩, k + 1, hlt, by omega, ?_, by omega⟩
  rw [hm]; split <;> omega
 have : k = o.units.length := by omega
 subst this
 rw [List.take_length]
 simp +decide [int, za5, Orth.cells]
 have hmc : zxl o.units ≤ 1048576 := z9x (fun u hu => (ho.units u hu).1) 0 (by omega)
 have hml := fun u => ydw (us := o.units) (u := u)
 generalize zxl o.units = most at hmc hml
 refine zaz mixed (fun x : List Nat × Nat => { n := 68, next := 3, slots := [(1, .d (.str s)), (2, .bp 0 0), (6, .d (int most)), (9, .ar 2), (10, .d (int x.2))], own := [(0, .box 28 (o.cells.map .d)), (2, .arr 3 1 (x.1.map fun (n : Nat) => [int (n : Int)]))], moved := [2] })
  (fun x => x.2 ≤ s.size ∧ x.1.length ≤ x.2 ∧ ∃ f, s.size - x.2 ≤ f ∧ T = (x.1 ++ (zcp o.units s f x.2).1, (zcp o.units s f x.2).2)) (fun x => s.size - x.2) ([], 0) ⟨Nat.zero_le _, Nat.zero_le _, s.size, by omega, by rw [← eT]; rfl⟩ ?_ ?_
 ·simp +decide [int, ints, Orth.cells, za5]
 rintro ⟨out, at_⟩ ⟨hat, hol, f, hf, hT⟩
 simp only at hat hol hf hT
 refine zal mixed ?_
 by_cases hlt : at_ < s.size
 case neg =>
  have hu : zcp o.units s f at_ = ([], at_) := by
   cases f with
   | zero => rfl
   | succ f => rw [zcp, if_neg hlt]
  rw [hu, List.append_nil] at hT; subst hT; have hlt' : ¬ (at_ : Int) < s.size := by omega
  simp +decide [int, ints, Orth.cells, hlt, hlt', zgk]
 have hlt' : (at_ : Int) < s.size := by omega
 obtain ⟨f, rfl⟩ : ∃ f', f = f' + 1 := ⟨f - 1, by omega⟩
 rw [zcp, if_pos hlt] at hT
 simp +decide [int, ints, Orth.cells, za5, hlt, hlt', I64]
 refine ⟨by omega, ?_⟩
 refine zaz mixed (fun n : Nat => { n := 68, next := 3, slots := [(1, .d (.str s)), (2, .bp 0 0), (6, .d (int most)), (9, .ar 2), (10, .d (int at_)), (11, .d (int n))], own := [(0, .box 28 (o.cells.map .d)), (2, .arr 3 1 (out.map fun (n : Nat) => [int (n : Int)]))], moved := [2] })
  (fun n => n ≤ s.size - at_ ∧ ∀ u ∈ o.units, begB (s.extract at_ s.size) u.graph = true → u.graph.size ≤ n) (fun n => n) (min most (s.size - at_)) ⟨by omega, fun u hu hb => ?_⟩ ?_ ?_
 ·have h1 := hml u hu
  have h2 := (z9y hb); omega
 ·simp +decide [int, ints, Orth.cells, za5]
  split <;> omega
 intro n ⟨hn, hbeg⟩
 refine zal mixed ?_
 by_cases hn0 : n = 0
 ·subst hn0
  have hbn : ze6 o.units (s.extract at_ s.size) o.units.length = none := znc fun u hu => by
   cases hb : begB (s.extract at_ s.size) u.graph with
   | false => rfl
   | true => have := hbeg u hu hb; have := hp u hu; omega
  rw [hbn] at hT; simp only [List.append_nil] at hT; subst hT; simp +decide [int, ints, Orth.cells, za5, zgk]
 have hn0' : (0 : Int) < n := by omega
 have hn0'' : 0 < n := by omega
 simp +decide [int, ints, Orth.cells, za5, hn0', hn0'']
 refine zaz mixed (fun i : Nat => { n := 68, next := 3, slots := [(1, .d (.str s)), (2, .bp 0 0), (6, .d (int most)), (9, .ar 2), (10, .d (int at_)), (11, .d (int n)), (42, .d (za5 o.units)), (43, .d (int o.units.length)), (44, .d (int i))], own := [(0, .box 28 (o.cells.map .d)), (2, .arr 3 1 (out.map fun (n : Nat) => [int (n : Int)]))], moved := [2] })
  (fun i => i ≤ o.units.length ∧ ∀ u ∈ o.units.take i, u.graph ≠ s.extract at_ (at_ + n)) (fun i => o.units.length - i) 0 ⟨Nat.zero_le _, fun u hu => by simp at hu⟩ ?_ ?_
 ·simp +decide [int, ints, Orth.cells, za5]
 intro i ⟨hi, hno⟩
 refine zal mixed ?_
 by_cases hil : i < o.units.length
 case neg =>
  have : i = o.units.length := by omega
  subst this; rw [List.take_length] at hno; simp +decide [int, ints, Orth.cells, za5, I64]; refine ⟨by omega, n - 1, ⟨by omega, fun u hu hb => ?_⟩, by omega, by omega⟩
  have h1 := hbeg u hu hb; have h2 : u.graph.size ≠ n := fun e => hno u hu ((zu8 e (by omega)).1 hb)
  omega
 have hil' : (i : Int) < o.units.length := by omega
 obtain ⟨u, eu⟩ : ∃ u, o.units[i] = u := ⟨_, rfl⟩
 have eu1 : o.units[i]? = some u := by rw [List.getElem?_eq_getElem hil, eu]
 simp +decide [int, ints, Orth.cells, za5, I64, hil, hil', eu, eu1, Grap.row]
 have hnat : ((at_ : Int) + (n : Int)).toNat = at_ + n := by omega
 rw [hnat]
 refine ⟨by omega, ⟨by omega, by omega⟩, fun he => ?_, fun he => ?_⟩
 ·have he : u.graph = s.extract at_ (at_ + n) := bytes_inj he
  have hsz : u.graph.size = n := by rw [he, ByteArray.size_extract]; omega
  have hub := (zu8 hsz (by omega)).2 he
  have hF := (zqi (k := o.units.length) eu1 hub (fun v hv hb => by rw [hsz]; exact hbeg v hv hb) (fun v hv hb => by
   have h1 := hbeg v (List.mem_of_mem_take hv) hb; have h2 : v.graph.size ≠ n := fun e => hno v hv ((zu8 e (by omega)).1 hb)
   omega)).2 hil
  rw [hF] at hT; simp only at hT
  rw [eu1, Option.map_some, Option.getD_some, hsz] at hT; exact ⟨by omega, by unfold maxLen; omega, by omega, out ++ [i], at_ + n, ⟨by omega, by simp; omega, f, by omega, by rw [hT, List.append_assoc]; rfl⟩, by omega, by omega, by simp⟩
 ·refine ⟨by omega, i + 1, ⟨hil, fun v hv => ?_⟩, by omega, by omega⟩
  rw [zaj hil, eu] at hv; rcases List.mem_append.1 hv with h | h
  ·exact hno v h
  ·rw [List.mem_singleton] at h
   rw [h]; exact fun e => he (by rw [e])
end Go.V
namespace Go.V
open Go Go.Proofs
set_option maxHeartbeats 8000000 in
theorem z9z (o : Orth) (ho : OrthC o) (hp : ∀ u ∈ o.units, 0 < u.graph.size) (s : ByteArray) (hs : s.size ≤ 200) : zaq Tryz.prog 57 [.agg o.cells, .str s] (.tup [ints (ziz o.units s).1, int (ziz o.units s).2.1, int (ziz o.units s).2.2]) := by
 have hU := z5o o ho hp s (by omega)
 have hlt0 := fun b => zqg (us := o.units) (s := s) (f := s.size) (at_ := 0) b
 have hln := znb (us := o.units) (s := s) (f := s.size) (at_ := 0)
 refine zaa mixed Tryz.func57 rfl call_57 ?_
 unfold ziz
 generalize zcp o.units s s.size 0 = T at hU hlt0 hln
 obtain ⟨l, e⟩ := T
 simp only at hU hlt0 hln
 by_cases h0 : s.size = 0
 ·have hq : s = ByteArray.empty := ByteArray.ext (Array.eq_empty_of_size_eq_zero (by simpa using h0))
  subst hq; simp +decide [Tryz.f57, int, ints, Orth.cells]
 rw [if_neg h0]
 have hq : (s.toList == [] ) = false := by
  rw [beq_eq_false_iff_ne]; intro e; have : s = ByteArray.empty := bytes_inj (e.trans (by first | simp | (unfold ByteArray.toList; rw [ByteArray.toList.loop]; rfl)))
  exact h0 (by rw [this]; rfl)
 simp +decide [Tryz.f57, int, ints, Orth.cells, hq]
 refine zam.pure (by rfl) hU (by simp [D.scalar]) ?_
 by_cases he : e < s.size
 ·have he' : (e : Int) < s.size := by omega
  simp +decide [int, ints, Orth.cells, he, he', zgk]
 have he' : ¬ (e : Int) < s.size := by omega
 rw [if_neg he]
 simp +decide [int, ints, Orth.cells, he, he', zgk]
 refine zaz mixed (fun k : Nat => { n := 44, next := 3, slots := [(2, .bp 0 0), (9, .ar 2), (25, .d (zgk l)), (26, .d (int l.length)), (27, .d (int k))], own := [(0, .box 28 (o.cells.map .d)), (2, .arr 3 1 ((zif o.units (l.take k)).map fun n => [int n]))], moved := [2] })
  (fun k => k ≤ l.length) (fun k => l.length - k) 0 (Nat.zero_le _) ?_ ?_
 ·simp +decide [int, ints, Orth.cells, zif, zgk]
 intro k hk
 refine zal mixed ?_
 by_cases hlt : k < l.length
 case neg =>
  have : k = l.length := by omega
  subst this; rw [List.take_length]; generalize zif o.units l = W; by_cases h24 : 24 < W.length
  ·have h24' : (24 : Int) < W.length := by omega
   simp +decide [int, ints, Orth.cells, zgk, h24, h24']
  ·have h24' : ¬ (24 : Int) < W.length := by omega
   simp +decide [int, ints, Orth.cells, zgk, h24, h24']
 have hlt' : (k : Int) < l.length := by omega
 obtain ⟨b, eb⟩ : ∃ b, l[k] = b := ⟨_, rfl⟩
 have eb1 : l[k]? = some b := by rw [List.getElem?_eq_getElem hlt, eb]
 have hbl : b < o.units.length := by rw [← eb]; exact hlt0 _ (List.getElem_mem hlt)
 have hbl' : (b : Int) < o.units.length := by omega
 obtain ⟨v, ev⟩ : ∃ v, o.units[b] = v := ⟨_, rfl⟩
 have ev1 : o.units[b]? = some v := by rw [List.getElem?_eq_getElem hbl, ev]
 have hvs := (ho.units o.units[b] (List.getElem_mem hbl)).2
 rw [ev] at hvs
 have htk := zti (us := o.units) hlt eb ev1
 have hsl := zqh (us := o.units) (fun u hu => (ho.units u hu).2) (l.take k)
 rw [List.length_take] at hsl
 have hsl : (zif o.units (l.take k)).length ≤ 200 * 1048576 := Nat.le_trans hsl (Nat.mul_le_mul_right _ (by omega))
 generalize zif o.units (l.take k) = W at htk hsl
 simp +decide [int, ints, Orth.cells, zgk, za5, Grap.row, hlt, hlt', eb, eb1, hbl, hbl', ev, ev1, I64]
 exact ⟨by omega, by unfold maxLen; omega, ⟨by omega, by omega⟩, k + 1, hlt, by omega, by omega, by rw [htk, List.map_append]⟩
theorem zxm (us : List Grap) (s : ByteArray) : (ziz us s).1.length ≤ 24 := by
 unfold ziz
 split
 ·exact Nat.zero_le _
 ·split
  ·exact Nat.zero_le _
  ·split
   ·exact Nat.zero_le _
   ·rename_i h; exact Nat.le_of_not_lt h
def ofE (g : Lang) (s : ByteArray) : List (List Prt) × Int := if (ziz g.orth.units s).2.2 ≠ 0 then ([], (ziz g.orth.units s).2.2) else allE g (ziz g.orth.units s).1
theorem yga (g : Lang) (hg : LightF g) (hc : LangC g) (s : ByteArray) (hs : s.size ≤ 200) : zaq Tryz.prog 23 [g.d, .str s] (.tup [zbh (ofE g s).1, int (ofE g s).2]) := by
 have hR := z9z g.orth hc.orth hg.graphs s hs
 have hA := ydf g hg hc (ziz g.orth.units s).1 (by have := zxm g.orth.units s; omega)
 unfold ofE
 generalize ziz g.orth.units s = z at hR hA
 obtain ⟨w, a, e⟩ := z
 simp only at hR hA
 refine zaa mixed Tryz.func23 rfl call_23 ?_
 simp +decide [Tryz.f23, zai, Lang.d, int, ints]
 refine zam.pure (by rfl) hR (by simp [D.scalar]) ?_
 by_cases he : e = 0
 case neg => simp +decide [int, ints, zbh, he]
 subst he
 simp +decide [int, ints]
 refine zam.pure (by rfl) hA (by simp [D.scalar]) ?_
 simp +decide [int, ints, zbh]
theorem ydx (g : Lang) (hg : LightF g) (hc : LangC g) (s : ByteArray) (hs : s.size ≤ 200) : zaq Tryz.prog 24 [g.d, .str s] (.tup [zbh (ofE g s).1, int (ofE g s).2]) := by
 have hR := z9w g.orth hc.orth hg.graphs s hs
 have hA := z9v g hg hc (ziz g.orth.units s).1 (by have := zxm g.orth.units s; omega)
 unfold ofE
 generalize ziz g.orth.units s = z at hR hA
 obtain ⟨w, a, e⟩ := z
 simp only at hR hA
 refine zaa mixed Tryz.func24 rfl call_24 ?_
 simp +decide [Tryz.f24, zai, Lang.d, int, ints]
 refine zam.pure (by rfl) hR (by simp [D.scalar]) ?_
 by_cases he : e = 0
 case neg => simp +decide [int, ints, zbh, he]
 subst he
 simp +decide [int, ints]
 refine zam.pure (by rfl) hA (by simp [D.scalar]) ?_
 simp +decide [int, ints, zbh]
theorem z5p {g : Lang} (hL : LightF g) (w : List Int) : (allE g w).1.length ≤ 200 ∧ ∀ q ∈ (allE g w).1, q.length ≤ 4 := by
 obtain ⟨hn, hA⟩ := yf3 hL w
 by_cases h0 : (allE g w).2 = 0
 ·exact ⟨(hA h0).few, fun q hq => ((hA h0).form q hq).2.2⟩
 ·rw [hn h0]
  exact ⟨Nat.zero_le _, fun q hq => by cases hq⟩
theorem z90 {g : Lang} (hL : LightF g) (s : ByteArray) : (ofE g s).1.length ≤ 200 ∧ ∀ q ∈ (ofE g s).1, q.length ≤ 4 := by
 unfold ofE
 split
 ·exact ⟨Nat.zero_le _, fun q hq => by cases hq⟩
 ·exact z5p hL _
set_option maxHeartbeats 8000000 in
theorem yhm (g : Lang) (hg : LangC g) (s : ByteArray) : zaq Tryz.prog 6 [g.d, .str s] (.bool true) := by
 refine zaa mixed Tryz.func6 rfl call_6 ?_
 by_cases c1 : (200 : Int) < s.size
 ·simp +decide [Tryz.f6, int, ints, c1]
  refine zam.pure (by rfl) zzt (by simp) ?_
  simp +decide
 simp +decide [Tryz.f6, int, ints, Lang.d, zai, c1]
 refine zam.some (by rfl) (z5a g hg) ?_
 rintro r ⟨b, rfl, hL⟩
 cases b with
 | false =>
  simp +decide [int]; refine zam.pure (by rfl) zzt (by simp) ?_
  simp +decide
 | true =>
  have hL := hL rfl; have h1 := yga g hL hg s (by omega)
  have h2 := ydx g hL hg s (by omega)
  have hsm := z90 hL s; generalize ofE g s = z at h1 h2 hsm; obtain ⟨l, e⟩ := z; simp only at h1 h2 hsm
  have hS := z7b l l (by omega) (fun q hq => by have := hsm.2 q hq; omega) (fun q hq => by have := hsm.2 q hq; omega)
  rw [decide_eq_true rfl] at hS; simp +decide [int, ints]; refine zam.pure (by rfl) h1 (by simp [D.scalar]) ?_
  simp +decide [int, ints]; refine zam.pure (by rfl) h2 (by simp [D.scalar]) ?_
  simp +decide [int, ints, zbh]; refine zam.pure (by rfl) hS (by simp [D.scalar]) ?_
  simp +decide [int, ints, zbh]; refine zam.pure (by rfl) zzt (by simp) ?_
  simp +decide
theorem ygb (g : Lang) (c0 : CapT 1048576 g.d) (s : ByteArray) (c1 : CapT 1048576 (.str s)) : zaq Tryz.prog 6 [g.d, .str s] (.bool true) :=
 yhm g (z8k c0) s
end Go.V

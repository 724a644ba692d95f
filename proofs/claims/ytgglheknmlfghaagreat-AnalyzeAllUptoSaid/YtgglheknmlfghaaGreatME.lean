/- Contracts and plain laws of this seat: part ME. It needs no conditions. -/
import Derived.Test.YtgglheknmlfghaaGreatMD
set_option linter.unusedVariables false
set_option linter.unusedSimpArgs false
set_option linter.unusedSectionVars false
set_option maxRecDepth 100000
namespace Go.V
open Go Go.Proofs
def sN (g : Lang) (p : Prt) : Nat := (sensesE g.lex p.entry).length
theorem zpn {l : List Ent} (h : ∀ e ∈ l, e.senses.length ≤ 5) : ∀ ids, (senW l ids).length ≤ 5
 | [] => by simp [senW]
 | x :: r => by
  unfold senW
  split
  ·unfold getE
   cases hf : l.find? (·.id = x) with
   | none => simp [Ent.zero]
   | some e => exact h e (List.mem_of_find?_eq_some hf)
  ·exact zpn h r
theorem zyi {g : Lang} (hg : LightF g) (p : Prt) : sN g p ≤ 5 := by
 unfold sN sensesE
 rw [zgg]
 exact zpn (fun e he => (hg.lex.each e he).fewS) _
theorem zhm (g : Lang) (hg : LightF g) (hc : LangC g) (p : Prt) : PureR Tryz.prog 95 [g.d, .agg p.row] (int (sN g p)) := by
 have hR := hg.langR hc
 have hS := zjg g.lex p.entry hR.lex.len
 refine zaa mixed Tryz.func95 rfl call_95 ?_
 simp +decide [Tryz.f95, int, Prt.row, Lang.d, unAgg]
 refine ECall.pure (by rfl) hS (by simp [D.scalar]) ?_
 simp +decide [int, sensD, sN]
def waysL (g : Lang) : List Prt → Nat
 | [] => 1
 | p :: ps => sN g p * waysL g ps
theorem zpo (g : Lang) : ∀ a b : List Prt, waysL g (a ++ b) = waysL g a * waysL g b
 | [], b => by simp [waysL]
 | p :: ps, b => by rw [List.cons_append, waysL, waysL, zpo g ps b, Nat.mul_assoc]
theorem zhn {g : Lang} (hg : LightF g) : ∀ a : List Prt, waysL g a ≤ 5 ^ a.length
 | [] => by simp [waysL]
 | p :: ps => by
  rw [waysL, List.length_cons, Nat.pow_succ, Nat.mul_comm]
  exact Nat.mul_le_mul (zhn hg ps) (zyi hg p)
theorem zyj {k : Nat} (h : k ≤ 4) : 5 ^ k ≤ 625 := by
 have : k = 0 ∨ k = 1 ∨ k = 2 ∨ k = 3 ∨ k = 4 := by omega
 rcases this with h | h | h | h | h <;> subst h <;> decide
set_option maxHeartbeats 8000000 in
theorem zyk (g : Lang) (hg : LightF g) (hc : LangC g) (a : List Prt) (ha : a.length ≤ 4) : PureR Tryz.prog 53 [g.d, anaD a] (int (waysL g a)) := by
 refine zaa mixed Tryz.func53 rfl call_53 ?_
 simp +decide [Tryz.f53, int, anaD, partsD, Lang.d, unAgg]
 refine zaj mixed (fun k : Nat => { n := 24, next := 2, slots := [(2, .bp 0 0), (3, .bp 1 0), (5, .d (int (waysL g (a.take k)))), (6, .d (int k))], own := [(0, .box 36 (unAgg g.d)), (1, .box 39 [.d (partsD a)])] })
  (fun k => k ≤ a.length) (fun k => a.length - k) 0 (Nat.zero_le _) ?_ ?_
 ·simp +decide [int, ints, anaD, partsD, Lang.d, unAgg, waysL]
 intro k hk
 refine zaf mixed ?_
 by_cases hlt : k < a.length
 case neg =>
  have : k = a.length := by omega
  subst this
  rw [List.take_length]
  simp +decide [int, ints, anaD, partsD, Lang.d, unAgg]
 have hlt' : (k : Int) < a.length := by omega
 obtain ⟨p, ep⟩ : ∃ p, a[k] = p := ⟨_, rfl⟩
 have e1 : a[k]? = some p := by rw [List.getElem?_eq_getElem hlt, ep]
 have hsn : waysL g (a.take (k + 1)) = waysL g (a.take k) * sN g p := by rw [zae hlt, zpo, ep]; simp [waysL]
 have hw1 : waysL g (a.take (k + 1)) ≤ 625 := Nat.le_trans (zhn hg _) (zyj (by rw [List.length_take]; omega))
 simp +decide [int, ints, anaD, partsD, Lang.d, unAgg, hlt, hlt', ep, e1, Prt.row]
 refine zab (by rfl) (by rfl) (zhm g hg hc p) (by simp [D.scalar]) ?_
 simp +decide [int, ints, anaD, partsD, Lang.d, unAgg, hlt, hlt', ep, e1, Prt.row, I64]
 have hz : ((waysL g (a.take k) : Nat) : Int) * ((sN g p : Nat) : Int) = ((waysL g (a.take (k + 1)) : Nat) : Int) := by rw [hsn, Int.natCast_mul]
 rw [hz]
 exact ⟨by omega, ⟨by omega, by omega⟩, k + 1, hlt, by omega, rfl, by omega⟩
def turnL (g : Lang) : List Prt → Nat → List Prt
 | [], _ => []
 | p :: ps, n => ⟨p.entry, p.alt, ((n % sN g p : Nat) : Int)⟩ :: turnL g ps (n / sN g p)
theorem zco (g : Lang) : ∀ (a : List Prt) (n : Nat), (turnL g a n).length = a.length
 | [], _ => rfl
 | p :: ps, n => by rw [turnL, List.length_cons, List.length_cons, zco g ps]
def turnN (g : Lang) : List Prt → Nat → Nat
 | [], n => n
 | p :: ps, n => turnN g ps (n / sN g p)
theorem zpp (g : Lang) : ∀ (a b : List Prt) (n : Nat), turnN g (a ++ b) n = turnN g b (turnN g a n)
 | [], b, n => rfl
 | p :: ps, b, n => by rw [List.cons_append, turnN, turnN, zpp g ps b]
theorem zpq (g : Lang) : ∀ (a b : List Prt) (n : Nat), turnL g (a ++ b) n = turnL g a n ++ turnL g b (turnN g a n)
 | [], b, n => rfl
 | p :: ps, b, n => by rw [List.cons_append, turnL, turnL, turnN, zpq g ps b, List.cons_append]
theorem ztw (g : Lang) : ∀ (a : List Prt) (n : Nat), turnN g a n ≤ n
 | [], n => Nat.le_refl _
 | p :: ps, n => Nat.le_trans (ztw g ps _) (Nat.div_le_self _ _)
set_option maxHeartbeats 8000000 in
theorem z4a (g : Lang) (hg : LightF g) (hc : LangC g) (a : List Prt) (ha : a.length ≤ 4) (hv : ∀ p ∈ a, 0 < sN g p) (n : Nat) (hn : n ≤ 2^20) : PureR Tryz.prog 55 [g.d, anaD a, int n] (anaD (turnL g a n)) := by
 refine zaa mixed Tryz.func55 rfl call_55 ?_
 simp +decide [Tryz.f55, int, anaD, partsD, Lang.d, unAgg]
 refine ⟨fun p _ => rfl, by omega, by unfold maxLen; omega, ?_⟩
 refine zaj mixed (fun k : Nat => { n := 41, next := 4, slots := [(2, .d (int (turnN g (a.take k) n))), (3, .bp 0 0), (4, .bp 1 0), (6, .bp 2 0), (7, .ar 3), (8, .d (int k))], own := [(0, .box 36 (unAgg g.d)), (1, .box 39 [.d (partsD a)]), (2, .box 39 [.nils]), (3, .arr 64 3 ((turnL g (a.take k) n ++ a.drop k).map Prt.row))], moved := [3] })
  (fun k => k ≤ a.length) (fun k => a.length - k) 0 (Nat.zero_le _) ?_ ?_
 ·simp +decide [int, ints, anaD, partsD, Lang.d, unAgg, turnL, turnN]
 intro k hk
 refine zaf mixed ?_
 by_cases hlt : k < a.length
 case neg =>
  have : k = a.length := by omega
  subst this
  rw [List.take_length, List.drop_length, List.append_nil]
  have hll := zco g a n
  simp +decide [int, ints, anaD, partsD, Lang.d, unAgg, hll]
 have hlt' : (k : Int) < a.length := by omega
 obtain ⟨p, ep⟩ : ∃ p, a[k] = p := ⟨_, rfl⟩
 have hvp : 0 < sN g p := by rw [← ep]; exact hv _ (List.getElem_mem hlt)
 have hvp' : ¬ (sN g p : Int) = 0 := by omega
 have hs5 := zyi hg p
 have hmk : turnN g (a.take k) n ≤ n := ztw g _ _
 have hN : turnN g (a.take (k + 1)) n = turnN g (a.take k) n / sN g p := by rw [zae hlt, zpp, ep]; rfl
 have hL : turnL g (a.take (k + 1)) n = turnL g (a.take k) n ++ [⟨p.entry, p.alt, ((turnN g (a.take k) n % sN g p : Nat) : Int)⟩] := by rw [zae hlt, zpq, ep]; rfl
 have hl1 : (turnL g (a.take k) n).length = k := by rw [zco, List.length_take]; omega
 have hd1 : a.drop k = p :: a.drop (k + 1) := by rw [List.drop_eq_getElem_cons hlt, ep]
 rw [hd1]
 generalize turnN g (a.take k) n = m at hN hL hmk
 generalize turnL g (a.take k) n = L1 at hL hl1
 have hlen : (L1 ++ p :: a.drop (k + 1)).length = a.length := by simp [hl1]; omega
 have hget : (L1 ++ p :: a.drop (k + 1))[k]? = some p := by rw [List.getElem?_append_right (by omega), hl1]; simp
 have hset : ((L1 ++ p :: a.drop (k + 1)).map Prt.row).set k [int p.entry, int p.alt, int ((m % sN g p : Nat) : Int)] = (turnL g (a.take (k + 1)) n ++ a.drop (k + 1)).map Prt.row := by
  rw [hL, List.append_assoc, List.singleton_append, List.map_append, List.map_append, List.map_cons, List.map_cons, List.set_append_right _ _ (by rw [List.length_map]; omega)]
  rw [List.length_map, hl1, Nat.sub_self, List.set_cons_zero]
  rfl
 have hget2 : (turnL g (a.take (k + 1)) n ++ a.drop (k + 1))[k]? = some ⟨p.entry, p.alt, ((m % sN g p : Nat) : Int)⟩ := by
  rw [hL, List.append_assoc, List.singleton_append, List.getElem?_append_right (by omega), hl1]; simp
 have hlen2 : (turnL g (a.take (k + 1)) n ++ a.drop (k + 1)).length = a.length := by rw [List.length_append, zco, List.length_take, List.length_drop]; omega
 have hS1 := zhm g hg hc p
 have hS2 := zhm g hg hc ⟨p.entry, p.alt, ((m % sN g p : Nat) : Int)⟩
 rw [show sN g ⟨p.entry, p.alt, ((m % sN g p : Nat) : Int)⟩ = sN g p from rfl] at hS2
 generalize L1 ++ p :: a.drop (k + 1) = L2 at hlen hget hset
 generalize hL3 : turnL g (a.take (k + 1)) n ++ a.drop (k + 1) = L3 at hset hget2 hlen2
 generalize sN g p = sn at hvp hvp' hs5 hN hS1 hS2 hset hget2
 have htm : (m : Int).tmod (sn : Int) = ((m % sn : Nat) : Int) := (Int.ofNat_tmod m sn).symm
 have htd : (m : Int).tdiv (sn : Int) = ((m / sn : Nat) : Int) := (Int.ofNat_tdiv m sn).symm
 have hmq : m / sn ≤ m := Nat.div_le_self _ _
 have hvpN : ¬ sn = 0 := by omega
 generalize m % sn = mm at htm hS2 hset hget2
 generalize m / sn = mq at htd hN hmq
 have hkL : k < L2.length := by omega
 have hkL' : (k : Int) < L2.length := by omega
 have hkL3 : k < L3.length := by omega
 have hgE : L2[k] = p := by rw [List.getElem?_eq_getElem hkL] at hget; exact Option.some.inj hget
 simp +decide [int, ints, anaD, partsD, Lang.d, unAgg, hlt, hlt', hkL, hkL', hgE]
 refine z3d mixed 12 (by rfl) rfl rfl rfl rfl (by rfl) (by simp) ?_
 simp +decide [int, ints, anaD, partsD, Lang.d, unAgg, hlt, hlt', hkL, hkL', hgE, Prt.row]
 refine zab (by rfl) (by rfl) hS1 (by simp [D.scalar]) ?_
 simp +decide [int, ints, anaD, partsD, Lang.d, unAgg, hlt, hlt', hkL, hkL', hgE, Prt.row, hvp', htm]
 refine ⟨hvpN, ?_⟩
 refine zab (by rfl) (by rfl) hS2 (by simp [D.scalar]) ?_
 simp +decide [int, ints, anaD, partsD, Lang.d, unAgg, hlt, hlt', hkL, hkL', hgE, Prt.row, hvp', htm, htd, hvpN, I64]
 exact ⟨by omega, ⟨by omega, by omega⟩, k + 1, hlt, by omega, ⟨by rw [hN], by omega⟩, by rw [← List.map_drop, ← List.map_append, hL3]; exact hset⟩
set_option maxHeartbeats 8000000 in
theorem z1o (l : List (List Prt)) (a : List Prt) (hl : l.length ≤ 200) (hb : ∀ b ∈ l, b.length ≤ 4) (ha : a.length ≤ 4) : PureR Tryz.prog 54 [anasD l, anaD a] (anasD (insL (fun o => lessA a o) a l)) := by
 refine zaa mixed Tryz.func54 rfl call_54 ?_
 simp +decide [Tryz.f54, int, anaD, partsD, anasD]
 have hrow : ∀ r ∈ l.map (fun a => [D.sl (a.map Prt.row)]), r.length = 1 := fun r hr => by obtain ⟨_, _, rfl⟩ := List.mem_map.1 hr; rfl
 refine zaj mixed (fun k : Nat => { n := 33, next := 1, slots := [(0, .d (anasD l)), (3, .bp 0 0), (5, .d (int k))], own := [(0, .box 39 [.d (partsD a)])] })
  (fun k => k ≤ l.length ∧ posL (fun o => lessA a o) l k = posL (fun o => lessA a o) l l.length) (fun k => k) l.length ⟨Nat.le_refl _, rfl⟩ ?_ ?_
 ·simp +decide [int, ints, anaD, partsD, anasD]
 intro k ⟨hk, hpos⟩
 cases k with
 | zero =>
  refine zaf mixed ?_
  simp +decide [int, ints, anaD, partsD, anasD]
  refine zqo mixed 12 [27] (by rfl) (by rfl) (by rfl) (by rfl) ?_
  simp +decide [int, ints, anaD, partsD, anasD]
  refine ⟨⟨fun r hr => hrow r (List.mem_of_mem_take hr), by omega, by unfold maxLen; omega⟩, by rfl, ?_⟩
  rw [insL, ← hpos, posL]
  simp only [List.take_zero, List.drop_zero, List.nil_append, List.map_cons]
  rw [List.take_of_length_le (by simp)]
 | succ k =>
  obtain ⟨o, eo⟩ : ∃ o, l[k] = o := ⟨_, rfl⟩
  have e1 : l[k]? = some o := by rw [List.getElem?_eq_getElem hk, eo]
  have hol := hb l[k] (List.getElem_mem hk)
  rw [eo] at hol
  have hLs := zjd a o (by omega) (by omega)
  rw [posL, e1] at hpos
  simp only at hpos
  have hk1 : (0 : Int) < (k : Int) + 1 := by omega
  refine zaf mixed ?_
  simp +decide [int, ints, anaD, partsD, anasD, hk, e1, eo, hk1, I64]
  refine ⟨by omega, hk, ?_⟩
  refine zab (by rfl) (by rfl) hLs (by simp [D.scalar]) ?_
  cases hl : lessA a o with
  | true =>
   rw [hl, if_pos rfl] at hpos
   simp +decide [int, ints, anaD, partsD, anasD, hk, e1, eo, hk1, hl, I64]
   exact ⟨by omega, k, ⟨by omega, hpos⟩, by omega, rfl⟩
  | false =>
   rw [hl, if_neg (by decide)] at hpos
   simp +decide [int, ints, anaD, partsD, anasD, hk, e1, eo, hk1, hl, I64]
   refine zqo mixed 12 [27] (by rfl) (by rfl) (by rfl) (by rfl) ?_
   simp +decide [int, ints, anaD, partsD, anasD]
   refine ⟨by omega, ⟨fun r hr => hrow r (List.mem_of_mem_take hr), by omega, by unfold maxLen; omega⟩, ⟨by omega, by unfold maxLen; omega⟩, by omega, ⟨fun r hr => hrow r (List.mem_of_mem_take (List.mem_of_mem_drop hr)), by omega, by unfold maxLen; omega⟩, by rfl, ?_⟩
   rw [insL, ← hpos, List.map_append, List.map_cons, List.map_take, List.map_drop]
   congr 3
   rw [List.take_of_length_le (by simp)]
end Go.V
namespace Go.V
open Go Go.Proofs
theorem zj4 {g : Lang} : ∀ {a : List Prt} {n : Nat}, (∀ p ∈ a, 0 < sN g p) → Choice g a (turnL g a n)
 | [], _, _ => trivial
 | p :: ps, n, h => by
  have hp := h p (List.mem_cons_self ..)
  have := Nat.mod_lt n hp
  exact ⟨⟨rfl, rfl, by show (0 : Int) ≤ ((n % sN g p : Nat) : Int); omega, by show ((n % sN g p : Nat) : Int) < (sN g p : Int); omega⟩, zj4 fun x hx => h x (List.mem_cons_of_mem _ hx)⟩
theorem ztx {g : Lang} : ∀ {a q : List Prt}, Choice g a q → ∃ n, n < waysL g a ∧ turnL g a n = q
 | [], [], _ => ⟨0, by simp [waysL], rfl⟩
 | [], _ :: _, h => h.elim
 | _ :: _, [], h => h.elim
 | p :: ps, q :: qs, h => by
  obtain ⟨⟨h1, h2, h3, h4⟩, h5⟩ := h
  obtain ⟨m, hm, e⟩ := ztx h5
  have h4' : q.sense.toNat < sN g p := by unfold sN; omega
  refine ⟨q.sense.toNat + sN g p * m, ?_, ?_⟩
  ·rw [waysL]
   have : sN g p * (m + 1) ≤ sN g p * waysL g ps := Nat.mul_le_mul_left _ hm
   rw [Nat.mul_add, Nat.mul_one] at this
   omega
  ·rw [turnL, Nat.add_mul_mod_self_left, Nat.mod_eq_of_lt h4', Nat.add_mul_div_left _ _ (by omega), Nat.div_eq_of_lt h4', Nat.zero_add, e]
   congr 1
   exact Prt.ext' h1.symm h2.symm (by show ((q.sense.toNat : Nat) : Int) = q.sense; omega)
theorem zty {g : Lang} : ∀ {a : List Prt} {n m : Nat}, n < waysL g a → m < waysL g a → turnL g a n = turnL g a m → n = m
 | [], n, m, hn, hm, _ => by simp [waysL] at hn hm; omega
 | p :: ps, n, m, hn, hm, h => by
  rw [turnL, turnL] at h
  obtain ⟨h1, h2⟩ := List.cons.inj h
  have h1 := congrArg Prt.sense h1
  simp only at h1
  rw [waysL] at hn hm
  have h3 := zty (Nat.div_lt_of_lt_mul hn) (Nat.div_lt_of_lt_mul hm) h2
  have e1 := Nat.div_add_mod n (sN g p)
  have e2 := Nat.div_add_mod m (sN g p)
  have h4 : n % sN g p = m % sN g p := by omega
  rw [h3, h4] at e1
  omega
def turnT (g : Lang) (a : List Prt) : List (List Prt) := (List.range (waysL g a)).map fun n => turnL g a n
theorem zgr {g : Lang} {a q : List Prt} (h : ∀ p ∈ a, 0 < sN g p) : q ∈ turnT g a ↔ Choice g a q := by
 unfold turnT
 rw [List.mem_map]
 constructor
 ·rintro ⟨n, _, rfl⟩; exact zj4 h
 ·intro hq
  obtain ⟨n, hn, e⟩ := ztx hq
  exact ⟨n, List.mem_range.2 hn, e⟩
theorem zr9 (g : Lang) (a : List Prt) : (turnT g a).Nodup := by
 unfold turnT List.Nodup
 rw [List.pairwise_map]
 refine List.Pairwise.imp_of_mem ?_ List.nodup_range
 intro n m hn hm hne e
 exact hne (zty (List.mem_range.1 hn) (List.mem_range.1 hm) e)
theorem ztz (g : Lang) : ∀ a : List Prt, (sprL g a).length = waysL g a
 | [] => rfl
 | p :: ps => by
  rw [sprL, waysL, List.length_flatMap]
  have : (List.map (fun (k : Nat) => ((sprL g ps).map fun t => (⟨p.entry, p.alt, (k : Int)⟩ : Prt) :: t).length) (List.range (sensesE g.lex p.entry).length)) = List.map (fun _ => waysL g ps) (List.range (sensesE g.lex p.entry).length) := by
   refine List.map_congr_left fun k _ => ?_
   rw [List.length_map, ztz g ps]
  rw [this]
  show (List.map (fun _ => waysL g ps) (List.range (sN g p))).sum = _
  generalize sN g p = n
  induction n with
  | zero => simp
  | succ n ih => rw [List.range_succ, List.map_append, List.sum_append, ih]; simp [Nat.add_mul]
def sumW (g : Lang) (l : List (List Prt)) : Nat := (l.map fun a => waysL g a).sum
theorem z1p (g : Lang) (w : List Int) : (allT g w).length = sumW g (plainL g w) := by
 rw [zr1, List.length_flatMap]
 unfold sumW
 congr 1
 exact List.map_congr_left fun a _ => ztz g a
theorem PlainF.pos' {g : Lang} (hg : LightF g) {w : List Int} {b : List Prt} (h : PlainF g w b) : ∀ p ∈ b, 0 < sN g p := by
 intro p hp
 obtain ⟨e, he, alt, ha, rfl⟩ := (h.parts p hp).ok hg
 exact List.length_pos_iff.2 (hg.senses he)
def refT (g : Lang) (w : List Int) : List (List Prt) := (plainL g w).flatMap (turnT g)
theorem z1q {g : Lang} (hg : LightF g) {w : List Int} {q : List Prt} : q ∈ refT g w ↔ q ∈ allT g w := by
 rw [zi6]
 unfold refT
 rw [List.mem_flatMap]
 constructor
 ·rintro ⟨a, ha, hq⟩; exact ⟨a, ha, (zgr ((za5 ha).pos' hg)).1 hq⟩
 ·rintro ⟨a, ha, hq⟩; exact ⟨a, ha, (zgr ((za5 ha).pos' hg)).2 hq⟩
theorem zvn {g : Lang} (hg : LightF g) (w : List Int) : (refT g w).Nodup := by
 unfold refT List.Nodup
 rw [List.pairwise_flatMap]
 refine ⟨fun a _ => zr9 g a, List.Pairwise.imp_of_mem ?_ (zj0 hg w)⟩
 intro a b ha hb hne x hx y hy e
 subst e
 have h1 := zbl ((zgr ((za5 ha).pos' hg)).1 hx)
 have h2 := zbl ((zgr ((za5 hb).pos' hg)).1 hy)
 rw [(za5 ha).bare] at h1
 rw [(za5 hb).bare] at h2
 exact hne (h1.symm.trans h2)
theorem z1r {g : Lang} (hg : LightF g) (w : List Int) : insT (refT g w) = insT (allT g w) :=
 zpm (lt := lessA) zpf zf1 (zf2 (zvn hg w)) (zf2 (zmg hg w)) fun q => by rw [zfb, zfb, z1q hg]
end Go.V
namespace Go.V
open Go Go.Proofs
theorem zyl (l : List (List Prt)) (a : List Prt) : insT (l ++ [a]) = insL (fun x => lessA a x) a (insT l) := by
 unfold insT; rw [List.foldl_append]; rfl
theorem zt0 (g : Lang) (a b : List (List Prt)) : sumW g (a ++ b) = sumW g a + sumW g b := by
 unfold sumW; rw [List.map_append, List.sum_append]
theorem sumW_snoc (g : Lang) {l : List (List Prt)} {i : Nat} (h : i < l.length) : sumW g (l.take (i + 1)) = sumW g (l.take i) + waysL g l[i] := by
 rw [zae h, zt0]; simp [sumW]
theorem zpr (g : Lang) (l : List (List Prt)) (i : Nat) : sumW g (l.take i) ≤ sumW g l := by
 have := zt0 g (l.take i) (l.drop i)
 rw [List.take_append_drop] at this
 omega
def preT (g : Lang) (l : List (List Prt)) (i k : Nat) : List (List Prt) := (l.take i).flatMap (turnT g) ++ (List.range k).map fun n => turnL g (l.getD i []) n
theorem z1s (g : Lang) (l : List (List Prt)) (i k : Nat) : (preT g l i k).length = sumW g (l.take i) + k := by
 unfold preT sumW
 rw [List.length_append, List.length_flatMap, List.length_map, List.length_range]
 congr 2
 refine List.map_congr_left fun a _ => ?_
 simp [turnT]
theorem zvo {g : Lang} {l : List (List Prt)} (h : ∀ a ∈ l, a.length ≤ 4) {i k : Nat} {q : List Prt} (hq : q ∈ preT g l i k) : q.length ≤ 4 := by
 unfold preT at hq
 rcases List.mem_append.1 hq with hq | hq
 ·obtain ⟨a, ha, hq⟩ := List.mem_flatMap.1 hq
  unfold turnT at hq
  obtain ⟨n, _, rfl⟩ := List.mem_map.1 hq
  rw [zco]
  exact h a (List.mem_of_mem_take ha)
 ·obtain ⟨n, _, rfl⟩ := List.mem_map.1 hq
  rw [zco]
  by_cases hi : i < l.length
  ·rw [List.getD_eq_getElem?_getD, List.getElem?_eq_getElem hi]; exact h _ (List.getElem_mem hi)
  ·rw [List.getD_eq_getElem?_getD, List.getElem?_eq_none (by omega)]; simp
theorem zym {g : Lang} {l : List (List Prt)} {i : Nat} (h : i < l.length) : preT g l i (waysL g l[i]) = preT g l (i + 1) 0 := by
 unfold preT
 rw [zae h, List.flatMap_append, List.flatMap_singleton, List.getD_eq_getElem?_getD, List.getElem?_eq_getElem h]
 simp [turnT]
theorem zyn {g : Lang} {l : List (List Prt)} {i k : Nat} (h : i < l.length) : preT g l i (k + 1) = preT g l i k ++ [turnL g l[i] k] := by
 unfold preT
 rw [List.range_succ, List.map_append, List.getD_eq_getElem?_getD, List.getElem?_eq_getElem h, List.append_assoc]
 rfl
theorem z1t (g : Lang) (w : List Int) : preT g (plainL g w) (plainL g w).length 0 = refT g w := by
 unfold preT refT
 rw [List.take_length]
 simp
theorem z1u {g : Lang} (hg : LightF g) (w : List Int) : allE g w = if wordC g.inv w ≠ 0 then ([], wordC g.inv w) else if 200 < sumW g (plainL g w) then ([], 11) else (insT (refT g w), 0) := by
 rw [zx5, z1p, z1r hg]
set_option maxHeartbeats 16000000 in
theorem zps (g : Lang) (hg : LightF g) (hc : LangC g) (w : List Int) (hw : w.length ≤ 30) : PureR Tryz.prog 21 [g.d, ints w] (.tup [anasD (allE g w).1, int (allE g w).2]) := by
 have hP := zr8 g hg hc w hw
 have hW := zjl g.inv w (by omega)
 have hp4 : ∀ a ∈ plainL g w, a.length ≤ 4 := fun a ha => (za5 ha).len
 have hpv : ∀ a ∈ plainL g w, ∀ p ∈ a, 0 < sN g p := fun a ha => (za5 ha).pos' hg
 have hpl := zyb hg w
 have hall := z1t g w
 rw [z1u hg, ← hall]
 generalize plainL g w = L at hP hp4 hpv hpl
 refine zaa mixed Tryz.func21 rfl call_21 ?_
 generalize wordC g.inv w = e at hW
 by_cases he : e = 0
 case neg =>
  rw [if_pos he]
  simp +decide [Tryz.f21, unAgg, Lang.d, int, ints]
  refine ECall.pure (by rfl) hW (by simp [D.scalar]) ?_
  simp +decide [int, ints, anasD, he]
 subst he
 rw [if_neg (by simp)]
 simp +decide [Tryz.f21, unAgg, Lang.d, int, ints]
 refine ECall.pure (by rfl) hW (by simp [D.scalar]) ?_
 simp +decide [int, ints]
 refine ECall.pure (by rfl) hP (by simp [D.scalar]) ?_
 simp +decide [int, ints, anasD]
 refine zaj mixed (fun i : Nat => { n := 70, next := 1, slots := [(2, .bp 0 0), (7, .d (anasD L)), (8, .d (int (sumW g (L.take i)))), (9, .d (int i))], own := [(0, .box 36 (unAgg g.d))] })
  (fun i => i ≤ L.length ∧ sumW g (L.take i) ≤ 825) (fun i => L.length - i) 0 ⟨Nat.zero_le _, by simp [sumW]⟩ ?_ ?_
 ·simp +decide [int, ints, anasD, sumW, unAgg, Lang.d]
 intro i ⟨hi, hs⟩
 have htk := zpr g L i
 refine zaf mixed ?_
 by_cases hbig : 200 < sumW g (L.take i)
 case pos =>
  have hb1 : ¬ ((sumW g (L.take i) : Nat) : Int) ≤ 200 := by omega
  have hb2 : (200 : Int) < ((sumW g (L.take i) : Nat) : Int) := by omega
  have hb3 : 200 < sumW g L := by omega
  rw [if_pos hb3]
  by_cases hlt : i < L.length
  ·have hlt' : (i : Int) < L.length := by omega
   simp +decide [int, ints, anasD, hlt, hlt', hb1, hb2, hbig, I64]
  ·have hlt' : ¬ (i : Int) < L.length := by omega
   simp +decide [int, ints, anasD, hlt, hlt', hb1, hb2, hbig, I64]
 have hb1 : ((sumW g (L.take i) : Nat) : Int) ≤ 200 := by omega
 have hb2 : ¬ (200 : Int) < ((sumW g (L.take i) : Nat) : Int) := by omega
 by_cases hlt : i < L.length
 case pos =>
  have hlt' : (i : Int) < L.length := by omega
  obtain ⟨a, ea⟩ : ∃ a, L[i] = a := ⟨_, rfl⟩
  have e1 : L[i]? = some a := by rw [List.getElem?_eq_getElem hlt, ea]
  have ha4 := hp4 L[i] (List.getElem_mem hlt)
  rw [ea] at ha4
  have hsn := sumW_snoc g hlt
  rw [ea] at hsn
  have hw5 := Nat.le_trans (zhn hg a) (zyj ha4)
  have hWy := zyk g hg hc a ha4
  simp +decide [int, ints, anasD, unAgg, Lang.d, hlt, hlt', hb1, hb2, ea, e1, I64]
  refine zab (by rfl) (by rfl) hWy (by simp [D.scalar]) ?_
  simp +decide [int, ints, anasD, unAgg, Lang.d, hlt, hlt', hb1, hb2, ea, e1, I64]
  have hz : ((sumW g (L.take i) : Nat) : Int) + ((waysL g a : Nat) : Int) = ((sumW g (L.take (i + 1)) : Nat) : Int) := by omega
  rw [hz]
  exact ⟨by omega, ⟨by omega, by omega⟩, i + 1, ⟨hlt, by omega⟩, by omega, rfl, by omega⟩
 have : i = L.length := by omega
 subst this
 have hlt' : ¬ (L.length : Int) < L.length := by omega
 rw [List.take_length] at hb1 hb2 hbig hs ⊢
 rw [if_neg hbig]
 simp +decide [int, ints, anasD, hb1, hb2, hbig, I64]
 refine zbz [1] ?_
 refine zaj mixed (fun i : Nat => { n := 70, next := 2, slots := [(2, .bp 0 0), (7, .d (anasD L)), (10, .d (anasD (insT (preT g L i 0)))), (11, .d (int i))], own := [(0, .box 36 (unAgg g.d))] })
  (fun i => i ≤ L.length) (fun i => L.length - i) 0 (Nat.zero_le _) ?_ ?_
 ·simp +decide [int, ints, anasD, unAgg, Lang.d, preT, insT]
 intro i hi
 refine zaf mixed ?_
 by_cases hlt : i < L.length
 case neg =>
  have : i = L.length := by omega
  subst this
  simp +decide [int, ints, anasD, unAgg, Lang.d]
 have hlt' : (i : Int) < L.length := by omega
 simp +decide [int, ints, anasD, hlt, hlt']
 refine zaj mixed (fun k : Nat => { n := 70, next := 2, slots := [(2, .bp 0 0), (7, .d (anasD L)), (10, .d (anasD (insT (preT g L i k)))), (11, .d (int i)), (12, .d (int k))], own := [(0, .box 36 (unAgg g.d))] })
  (fun k => k ≤ waysL g L[i]) (fun k => waysL g L[i] - k) 0 (Nat.zero_le _) ?_ ?_
 ·simp +decide [int, ints, anasD, unAgg, Lang.d]
 intro k hk
 obtain ⟨a, ea⟩ : ∃ a, L[i] = a := ⟨_, rfl⟩
 have e1 : L[i]? = some a := by rw [List.getElem?_eq_getElem hlt, ea]
 have ha4 := hp4 L[i] (List.getElem_mem hlt)
 have hav := hpv L[i] (List.getElem_mem hlt)
 have hsn := sumW_snoc g hlt
 have htk2 := zpr g L (i + 1)
 have hnext := zym (g := g) hlt
 have hsnoc := zyn (g := g) (k := k) hlt
 have hpl2 := z1s g L i k
 have hps := fun q => zvo (g := g) hp4 (i := i) (k := k) (q := q)
 rw [ea] at ha4 hav hsn hnext hsnoc hk ⊢
 have hWy := zyk g hg hc a ha4
 refine zaf mixed ?_
 simp +decide [int, ints, anasD, unAgg, Lang.d, hlt, hlt', ea, e1, I64]
 refine zab (by rfl) (by rfl) hWy (by simp [D.scalar]) ?_
 by_cases hka : k < waysL g a
 case neg =>
  have : k = waysL g a := by omega
  subst this
  simp +decide [int, ints, anasD, unAgg, Lang.d, hlt, hlt', ea, e1, I64]
  exact ⟨⟨by omega, by omega⟩, i + 1, hlt, by omega, by rw [hnext], by omega⟩
 have hka' : (k : Int) < waysL g a := by omega
 have hT := z4a g hg hc a ha4 hav k (by omega)
 have hPt := z1o (insT (preT g L i k)) (turnL g a k) (by rw [ztt, hpl2]; omega) (fun q hq => hps q (zfb.1 hq)) (by rw [zco]; exact ha4)
 rw [← zyl, ← hsnoc] at hPt
 simp +decide [int, ints, anasD, unAgg, Lang.d, hlt, hlt', ea, e1, I64, hka, hka']
 refine zab (by rfl) (by rfl) hT (by simp [D.scalar]) ?_
 simp +decide [int, ints, anasD, anaD, unAgg, Lang.d, hlt, hlt', ea, e1, I64, hka, hka']
 refine zab (by rfl) (by rfl) hPt (by simp [D.scalar]) ?_
 simp +decide [int, ints, anasD, anaD, unAgg, Lang.d, hlt, hlt', ea, e1, I64, hka, hka']
 exact ⟨⟨by omega, by omega⟩, k + 1, hka, by omega, rfl, by omega⟩
set_option maxHeartbeats 8000000 in
theorem z4b (g : Lang) (hg : LangC g) (w : List Int) (hw : w.length ≤ 1048576) : PureR Tryz.prog 5 [g.d, ints w] (.bool true) := by
 refine zaa mixed Tryz.func5 rfl call_5 ?_
 by_cases c1 : (30 : Int) < w.length
 ·simp +decide [Tryz.f5, int, ints, c1]
  refine ECall.pure (by rfl) zhh (by simp) ?_
  simp +decide
 simp +decide [Tryz.f5, int, ints, Lang.d, unAgg, c1]
 refine ECall.some (by rfl) (zl4 g hg) ?_
 rintro r ⟨b, rfl, hL⟩
 cases b with
 | false =>
  simp +decide [int]
  refine ECall.pure (by rfl) zhh (by simp) ?_
  simp +decide
 | true =>
  have hL := hL rfl
  have h1 := zto g hL hg w (by omega)
  have h2 := zps g hL hg w (by omega)
  obtain ⟨hn, hA⟩ := zyc hL w
  have hsm : (allE g w).1.length ≤ 200 ∧ ∀ q ∈ (allE g w).1, q.length ≤ 4 := by
   by_cases h0 : (allE g w).2 = 0
   ·exact ⟨(hA h0).few, fun q hq => ((hA h0).form q hq).2.2⟩
   ·rw [hn h0]
    exact ⟨Nat.zero_le _, fun q hq => by cases hq⟩
  generalize allE g w = z at h1 h2 hsm
  obtain ⟨l, e⟩ := z
  simp only at h1 h2 hsm
  have hS := zok l l (by omega) (fun q hq => by have := hsm.2 q hq; omega) (fun q hq => by have := hsm.2 q hq; omega)
  rw [decide_eq_true rfl] at hS
  simp +decide [int, ints]
  refine ECall.pure (by rfl) h1 (by simp [D.scalar]) ?_
  simp +decide [int, ints]
  refine ECall.pure (by rfl) h2 (by simp [D.scalar]) ?_
  simp +decide [int, ints, anasD]
  refine ECall.pure (by rfl) hS (by simp [D.scalar]) ?_
  simp +decide [int, ints, anasD]
  refine ECall.pure (by rfl) zhh (by simp) ?_
  simp +decide
theorem z1v (g : Lang) (c0 : CapT 1048576 g.d) (w : List Int) (c1 : CapT 1048576 (ints w)) : PureR Tryz.prog 5 [g.d, ints w] (.bool true) :=
 z4b g (zou c0) w (z03 c1)
end Go.V

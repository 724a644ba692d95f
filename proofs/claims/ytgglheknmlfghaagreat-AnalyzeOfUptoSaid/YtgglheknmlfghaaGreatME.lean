/- Contracts and plain laws of this seat: part ME. It needs no conditions. -/
import Derived.Test.YtgglheknmlfghaaGreatMD
set_option linter.unusedVariables false
set_option linter.unusedSimpArgs false
set_option linter.unusedSectionVars false
set_option maxRecDepth 100000
namespace Go.V
open Go Go.Proofs
def sN (g : Lang) (p : Prt) : Nat := (zcj g.lex p.entry).length
theorem zxf {l : List Ent} (h : ∀ e ∈ l, e.senses.length ≤ 5) : ∀ ids, (senW l ids).length ≤ 5
 | [] => by simp [senW]
 | x :: r => by
  unfold senW; split
  ·unfold getE
   cases hf : l.find? (·.id = x) with
   | none => simp [Ent.zero]
   | some e => exact h e (List.mem_of_find?_eq_some hf)
  ·exact zxf h r
theorem z9p {g : Lang} (hg : LightF g) (p : Prt) : sN g p ≤ 5 := by
 unfold sN zcj
 rw [zlr]
 exact zxf (fun e he => (hg.lex.each e he).fewS) _
theorem zm9 (g : Lang) (hg : LightF g) (hc : LangC g) (p : Prt) : zaq Tryz.prog 95 [g.d, .agg p.row] (int (sN g p)) := by
 have hR := hg.zzr hc
 have hS := zps g.lex p.entry hR.lex.len
 refine zaa mixed Tryz.func95 rfl call_95 ?_
 simp +decide [Tryz.f95, int, Prt.row, Lang.d, zai]
 refine zam.pure (by rfl) hS (by simp [D.scalar]) ?_
 simp +decide [int, zbl, sN]
def zcu (g : Lang) : List Prt → Nat
 | [] => 1
 | p :: ps => sN g p * zcu g ps
theorem zxg (g : Lang) : ∀ a b : List Prt, zcu g (a ++ b) = zcu g a * zcu g b
 | [], b => by simp [zcu]
 | p :: ps, b => by rw [List.cons_append, zcu, zcu, zxg g ps b, Nat.mul_assoc]
theorem zna {g : Lang} (hg : LightF g) : ∀ a : List Prt, zcu g a ≤ 5 ^ a.length
 | [] => by simp [zcu]
 | p :: ps => by
  rw [zcu, List.length_cons, Nat.pow_succ, Nat.mul_comm]; exact Nat.mul_le_mul (zna hg ps) (z9p hg p)
theorem z9q {k : Nat} (h : k ≤ 4) : 5 ^ k ≤ 625 := by
 have : k = 0 ∨ k = 1 ∨ k = 2 ∨ k = 3 ∨ k = 4 := by omega
 rcases this with h | h | h | h | h <;> subst h <;> decide
set_option maxHeartbeats 8000000 in
theorem z9r (g : Lang) (hg : LightF g) (hc : LangC g) (a : List Prt) (ha : a.length ≤ 4) : zaq Tryz.prog 53 [g.d, anaD a] (int (zcu g a)) := by
 refine zaa mixed Tryz.func53 rfl call_53 ?_
 simp +decide [Tryz.f53, int, anaD, zab, Lang.d, zai]
 refine zaz mixed (fun k : Nat => { n := 24, next := 2, slots := [(2, .bp 0 0), (3, .bp 1 0), (5, .d (int (zcu g (a.take k)))), (6, .d (int k))], own := [(0, .box 36 (zai g.d)), (1, .box 39 [.d (zab a)])] })
  (fun k => k ≤ a.length) (fun k => a.length - k) 0 (Nat.zero_le _) ?_ ?_
 ·simp +decide [int, ints, anaD, zab, Lang.d, zai, zcu]
 intro k hk
 refine zal mixed ?_
 by_cases hlt : k < a.length
 case neg =>
  have : k = a.length := by omega
  subst this; rw [List.take_length]; simp +decide [int, ints, anaD, zab, Lang.d, zai]
 have hlt' : (k : Int) < a.length := by omega
 obtain ⟨p, ep⟩ : ∃ p, a[k] = p := ⟨_, rfl⟩
 have e1 : a[k]? = some p := by rw [List.getElem?_eq_getElem hlt, ep]
 have hsn : zcu g (a.take (k + 1)) = zcu g (a.take k) * sN g p := by rw [zaj hlt, zxg, ep]; simp [zcu]
 have hw1 : zcu g (a.take (k + 1)) ≤ 625 := Nat.le_trans (zna hg _) (z9q (by rw [List.length_take]; omega))
 simp +decide [int, ints, anaD, zab, Lang.d, zai, hlt, hlt', ep, e1, Prt.row]
 refine zad (by rfl) (by rfl) (zm9 g hg hc p) (by simp [D.scalar]) ?_
 simp +decide [int, ints, anaD, zab, Lang.d, zai, hlt, hlt', ep, e1, Prt.row, I64]
 have hz : ((zcu g (a.take k) : Nat) : Int) * ((sN g p : Nat) : Int) = ((zcu g (a.take (k + 1)) : Nat) : Int) := by rw [hsn, Int.natCast_mul]
 rw [hz]
 exact ⟨by omega, ⟨by omega, by omega⟩, k + 1, hlt, by omega, rfl, by omega⟩
def zd5 (g : Lang) : List Prt → Nat → List Prt
 | [], _ => []
 | p :: ps, n => ⟨p.entry, p.alt, ((n % sN g p : Nat) : Int)⟩ :: zd5 g ps (n / sN g p)
theorem zfu (g : Lang) : ∀ (a : List Prt) (n : Nat), (zd5 g a n).length = a.length
 | [], _ => rfl
 | p :: ps, n => by rw [zd5, List.length_cons, List.length_cons, zfu g ps]
def zkc (g : Lang) : List Prt → Nat → Nat
 | [], n => n
 | p :: ps, n => zkc g ps (n / sN g p)
theorem zxh (g : Lang) : ∀ (a b : List Prt) (n : Nat), zkc g (a ++ b) n = zkc g b (zkc g a n)
 | [], b, n => rfl
 | p :: ps, b, n => by rw [List.cons_append, zkc, zkc, zxh g ps b]
theorem zxi (g : Lang) : ∀ (a b : List Prt) (n : Nat), zd5 g (a ++ b) n = zd5 g a n ++ zd5 g b (zkc g a n)
 | [], b, n => rfl
 | p :: ps, b, n => by rw [List.cons_append, zd5, zd5, zkc, zxi g ps b, List.cons_append]
theorem z2o (g : Lang) : ∀ (a : List Prt) (n : Nat), zkc g a n ≤ n
 | [], n => Nat.le_refl _
 | p :: ps, n => Nat.le_trans (z2o g ps _) (Nat.div_le_self _ _)
set_option maxHeartbeats 8000000 in
theorem yf8 (g : Lang) (hg : LightF g) (hc : LangC g) (a : List Prt) (ha : a.length ≤ 4) (hv : ∀ p ∈ a, 0 < sN g p) (n : Nat) (hn : n ≤ 2^20) : zaq Tryz.prog 55 [g.d, anaD a, int n] (anaD (zd5 g a n)) := by
 refine zaa mixed Tryz.func55 rfl call_55 ?_
 simp +decide [Tryz.f55, int, anaD, zab, Lang.d, zai]
 refine ⟨fun p _ => rfl, by omega, by unfold maxLen; omega, ?_⟩
 refine zaz mixed (fun k : Nat => { n := 41, next := 4, slots := [(2, .d (int (zkc g (a.take k) n))), (3, .bp 0 0), (4, .bp 1 0), (6, .bp 2 0), (7, .ar 3), (8, .d (int k))], own := [(0, .box 36 (zai g.d)), (1, .box 39 [.d (zab a)]), (2, .box 39 [.nils]), (3, .arr 64 3 ((zd5 g (a.take k) n ++ a.drop k).map Prt.row))], moved := [3] })
  (fun k => k ≤ a.length) (fun k => a.length - k) 0 (Nat.zero_le _) ?_ ?_
 ·simp +decide [int, ints, anaD, zab, Lang.d, zai, zd5, zkc]
 intro k hk
 refine zal mixed ?_
 by_cases hlt : k < a.length
 case neg =>
  have : k = a.length := by omega
  subst this; rw [List.take_length, List.drop_length, List.append_nil]; have hll := zfu g a n; simp +decide [int, ints, anaD, zab, Lang.d, zai, hll]
 have hlt' : (k : Int) < a.length := by omega
 obtain ⟨p, ep⟩ : ∃ p, a[k] = p := ⟨_, rfl⟩
 have hvp : 0 < sN g p := by rw [← ep]; exact hv _ (List.getElem_mem hlt)
 have hvp' : ¬ (sN g p : Int) = 0 := by omega
 have hs5 := z9p hg p
 have hmk : zkc g (a.take k) n ≤ n := z2o g _ _
 have hN : zkc g (a.take (k + 1)) n = zkc g (a.take k) n / sN g p := by rw [zaj hlt, zxh, ep]; rfl
 have hL : zd5 g (a.take (k + 1)) n = zd5 g (a.take k) n ++ [⟨p.entry, p.alt, ((zkc g (a.take k) n % sN g p : Nat) : Int)⟩] := by rw [zaj hlt, zxi, ep]; rfl
 have hl1 : (zd5 g (a.take k) n).length = k := by rw [zfu, List.length_take]; omega
 have hd1 : a.drop k = p :: a.drop (k + 1) := by rw [List.drop_eq_getElem_cons hlt, ep]
 rw [hd1]
 generalize zkc g (a.take k) n = m at hN hL hmk
 generalize zd5 g (a.take k) n = L1 at hL hl1
 have hlen : (L1 ++ p :: a.drop (k + 1)).length = a.length := by simp [hl1]; omega
 have hget : (L1 ++ p :: a.drop (k + 1))[k]? = some p := by rw [List.getElem?_append_right (by omega), hl1]; simp
 have hset : ((L1 ++ p :: a.drop (k + 1)).map Prt.row).set k [int p.entry, int p.alt, int ((m % sN g p : Nat) : Int)] = (zd5 g (a.take (k + 1)) n ++ a.drop (k + 1)).map Prt.row := by
  rw [hL, List.append_assoc, List.singleton_append, List.map_append, List.map_append, List.map_cons, List.map_cons, List.set_append_right _ _ (by rw [List.length_map]; omega)]
  rw [List.length_map, hl1, Nat.sub_self, List.set_cons_zero]; rfl
 have hget2 : (zd5 g (a.take (k + 1)) n ++ a.drop (k + 1))[k]? = some ⟨p.entry, p.alt, ((m % sN g p : Nat) : Int)⟩ := by
  rw [hL, List.append_assoc, List.singleton_append, List.getElem?_append_right (by omega), hl1]; simp
 have hlen2 : (zd5 g (a.take (k + 1)) n ++ a.drop (k + 1)).length = a.length := by rw [List.length_append, zfu, List.length_take, List.length_drop]; omega
 have hS1 := zm9 g hg hc p
 have hS2 := zm9 g hg hc ⟨p.entry, p.alt, ((m % sN g p : Nat) : Int)⟩
 rw [show sN g ⟨p.entry, p.alt, ((m % sN g p : Nat) : Int)⟩ = sN g p from rfl] at hS2
 generalize L1 ++ p :: a.drop (k + 1) = L2 at hlen hget hset
 generalize hL3 : zd5 g (a.take (k + 1)) n ++ a.drop (k + 1) = L3 at hset hget2 hlen2
 generalize sN g p = sn at hvp hvp' hs5 hN hS1 hS2 hset hget2
 have htm : (m : Int).tmod (sn : Int) = ((m % sn : Nat) : Int) := (Int.ofNat_tmod m sn).symm
 have htd : (m : Int).tdiv (sn : Int) = ((m / sn : Nat) : Int) := (Int.ofNat_tdiv m sn).symm
 have hmq : m / sn ≤ m := Nat.div_le_self _ _
 have hvpN : ¬ sn = 0 := by omega
 generalize m % sn = mm at htm hS2 hset hget2
 generalize m / sn = mq at htd hN hmq
 have hkL : k < L2.length := by omega
 have hkL' : (k : Int) < L2.length := by omega
 have hkL3 : k < L3.length := by omega
 have hgE : L2[k] = p := by rw [List.getElem?_eq_getElem hkL] at hget; exact Option.some.inj hget
 simp +decide [int, ints, anaD, zab, Lang.d, zai, hlt, hlt', hkL, hkL', hgE]
 refine yfe mixed 12 (by rfl) rfl rfl rfl rfl (by rfl) (by simp) ?_
 simp +decide [int, ints, anaD, zab, Lang.d, zai, hlt, hlt', hkL, hkL', hgE, Prt.row]
 refine zad (by rfl) (by rfl) hS1 (by simp [D.scalar]) ?_
 simp +decide [int, ints, anaD, zab, Lang.d, zai, hlt, hlt', hkL, hkL', hgE, Prt.row, hvp', htm]
 refine ⟨hvpN, ?_⟩
 refine zad (by rfl) (by rfl) hS2 (by simp [D.scalar]) ?_
 simp +decide [int, ints, anaD, zab, Lang.d, zai, hlt, hlt', hkL, hkL', hgE, Prt.row, hvp', htm, htd, hvpN, I64]
 exact ⟨by omega, ⟨by omega, by omega⟩, k + 1, hlt, by omega, ⟨by rw [hN], by omega⟩, by rw [← List.map_drop, ← List.map_append, hL3]; exact hset⟩
set_option maxHeartbeats 8000000 in
theorem ydo (l : List (List Prt)) (a : List Prt) (hl : l.length ≤ 200) (hb : ∀ b ∈ l, b.length ≤ 4) (ha : a.length ≤ 4) : zaq Tryz.prog 54 [zbh l, anaD a] (zbh (insL (fun o => zbm a o) a l)) := by
 refine zaa mixed Tryz.func54 rfl call_54 ?_
 simp +decide [Tryz.f54, int, anaD, zab, zbh]
 have hrow : ∀ r ∈ l.map (fun a => [D.sl (a.map Prt.row)]), r.length = 1 := fun r hr => by obtain ⟨_, _, rfl⟩ := List.mem_map.1 hr; rfl
 refine zaz mixed (fun k : Nat => { n := 33, next := 1, slots := [(0, .d (zbh l)), (3, .bp 0 0), (5, .d (int k))], own := [(0, .box 39 [.d (zab a)])] })
  (fun k => k ≤ l.length ∧ posL (fun o => zbm a o) l k = posL (fun o => zbm a o) l l.length) (fun k => k) l.length ⟨Nat.le_refl _, rfl⟩ ?_ ?_
 ·simp +decide [int, ints, anaD, zab, zbh]
 intro k ⟨hk, hpos⟩
 cases k with
 | zero =>
  refine zal mixed ?_
  simp +decide [int, ints, anaD, zab, zbh]; refine zyl mixed 12 [27] (by rfl) (by rfl) (by rfl) (by rfl) ?_
  simp +decide [int, ints, anaD, zab, zbh]; refine ⟨⟨fun r hr => hrow r (List.mem_of_mem_take hr), by omega, by unfold maxLen; omega⟩, by rfl, ?_⟩
  rw [insL, ← hpos, posL]; simp only [List.take_zero, List.drop_zero, List.nil_append, List.map_cons]; rw [List.take_of_length_le (by simp)]
 | succ k =>
  obtain ⟨o, eo⟩ : ∃ o, l[k] = o := ⟨_, rfl⟩; have e1 : l[k]? = some o := by rw [List.getElem?_eq_getElem hk, eo]
  have hol := hb l[k] (List.getElem_mem hk); rw [eo] at hol; have hLs := zpp a o (by omega) (by omega)
  rw [posL, e1] at hpos; simp only at hpos
  have hk1 : (0 : Int) < (k : Int) + 1 := by omega
  refine zal mixed ?_
  simp +decide [int, ints, anaD, zab, zbh, hk, e1, eo, hk1, I64]; refine ⟨by omega, hk, ?_⟩
  refine zad (by rfl) (by rfl) hLs (by simp [D.scalar]) ?_
  cases hl : zbm a o with
  | true =>
   rw [hl, if_pos rfl] at hpos; simp +decide [int, ints, anaD, zab, zbh, hk, e1, eo, hk1, hl, I64]; exact ⟨by omega, k, ⟨by omega, hpos⟩, by omega, rfl⟩
  | false =>
   rw [hl, if_neg (by decide)] at hpos
   simp +decide [int, ints, anaD, zab, zbh, hk, e1, eo, hk1, hl, I64]; refine zyl mixed 12 [27] (by rfl) (by rfl) (by rfl) (by rfl) ?_
   simp +decide [int, ints, anaD, zab, zbh]; refine ⟨by omega, ⟨fun r hr => hrow r (List.mem_of_mem_take hr), by omega, by unfold maxLen; omega⟩, ⟨by omega, by unfold maxLen; omega⟩, by omega, ⟨fun r hr => hrow r (List.mem_of_mem_take (List.mem_of_mem_drop hr)), by omega, by unfold maxLen; omega⟩, by rfl, ?_⟩
   rw [insL, ← hpos, List.map_append, List.map_cons, List.map_take, List.map_drop]; congr 3
   rw [List.take_of_length_le (by simp)]
end Go.V
namespace Go.V
open Go Go.Proofs
theorem zqf {g : Lang} : ∀ {a : List Prt} {n : Nat}, (∀ p ∈ a, 0 < sN g p) → Choice g a (zd5 g a n)
 | [], _, _ => trivial
 | p :: ps, n, h => by
  have hp := h p (List.mem_cons_self ..); have := Nat.mod_lt n hp
  exact ⟨⟨rfl, rfl, by show (0 : Int) ≤ ((n % sN g p : Nat) : Int); omega, by show ((n % sN g p : Nat) : Int) < (sN g p : Int); omega⟩, zqf fun x hx => h x (List.mem_cons_of_mem _ hx)⟩
theorem z2p {g : Lang} : ∀ {a q : List Prt}, Choice g a q → ∃ n, n < zcu g a ∧ zd5 g a n = q
 | [], [], _ => ⟨0, by simp [zcu], rfl⟩
 | [], _ :: _, h => h.elim
 | _ :: _, [], h => h.elim
 | p :: ps, q :: qs, h => by
  obtain ⟨⟨h1, h2, h3, h4⟩, h5⟩ := h; obtain ⟨m, hm, e⟩ := z2p h5; have h4' : q.sense.toNat < sN g p := by unfold sN; omega
  refine ⟨q.sense.toNat + sN g p * m, ?_, ?_⟩
  ·rw [zcu]
   have : sN g p * (m + 1) ≤ sN g p * zcu g ps := Nat.mul_le_mul_left _ hm
   rw [Nat.mul_add, Nat.mul_one] at this; omega
  ·rw [zd5, Nat.add_mul_mod_self_left, Nat.mod_eq_of_lt h4', Nat.add_mul_div_left _ _ (by omega), Nat.div_eq_of_lt h4', Nat.zero_add, e]
   congr 1
   exact Prt.ext' h1.symm h2.symm (by show ((q.sense.toNat : Nat) : Int) = q.sense; omega)
theorem z2q {g : Lang} : ∀ {a : List Prt} {n m : Nat}, n < zcu g a → m < zcu g a → zd5 g a n = zd5 g a m → n = m
 | [], n, m, hn, hm, _ => by simp [zcu] at hn hm; omega
 | p :: ps, n, m, hn, hm, h => by
  rw [zd5, zd5] at h; obtain ⟨h1, h2⟩ := List.cons.inj h; have h1 := congrArg Prt.sense h1; simp only at h1
  rw [zcu] at hn hm; have h3 := z2q (Nat.div_lt_of_lt_mul hn) (Nat.div_lt_of_lt_mul hm) h2; have e1 := Nat.div_add_mod n (sN g p); have e2 := Nat.div_add_mod m (sN g p); have h4 : n % sN g p = m % sN g p := by omega
  rw [h3, h4] at e1; omega
def zu7 (g : Lang) (a : List Prt) : List (List Prt) := (List.range (zcu g a)).map fun n => zd5 g a n
theorem zl3 {g : Lang} {a q : List Prt} (h : ∀ p ∈ a, 0 < sN g p) : q ∈ zu7 g a ↔ Choice g a q := by
 unfold zu7
 rw [List.mem_map]
 constructor
 ·rintro ⟨n, _, rfl⟩; exact zqf h
 ·intro hq
  obtain ⟨n, hn, e⟩ := z2p hq; exact ⟨n, List.mem_range.2 hn, e⟩
theorem z0h (g : Lang) (a : List Prt) : (zu7 g a).Nodup := by
 unfold zu7 List.Nodup
 rw [List.pairwise_map]
 refine List.Pairwise.imp_of_mem ?_ List.nodup_range
 intro n m hn hm hne e
 exact hne (z2q (List.mem_range.1 hn) (List.mem_range.1 hm) e)
theorem z2r (g : Lang) : ∀ a : List Prt, (sprL g a).length = zcu g a
 | [] => rfl
 | p :: ps => by
  rw [sprL, zcu, List.length_flatMap]; have : (List.map (fun (k : Nat) => ((sprL g ps).map fun t => (⟨p.entry, p.alt, (k : Int)⟩ : Prt) :: t).length) (List.range (zcj g.lex p.entry).length)) = List.map (fun _ => zcu g ps) (List.range (zcj g.lex p.entry).length) := by
   refine List.map_congr_left fun k _ => ?_
   rw [List.length_map, z2r g ps]
  rw [this]; show (List.map (fun _ => zcu g ps) (List.range (sN g p))).sum = _
  generalize sN g p = n; induction n with
  | zero => simp
  | succ n ih => rw [List.range_succ, List.map_append, List.sum_append, ih]; simp [Nat.add_mul]
def sumW (g : Lang) (l : List (List Prt)) : Nat := (l.map fun a => zcu g a).sum
theorem ydp (g : Lang) (w : List Int) : (allT g w).length = sumW g (zbx g w) := by
 rw [zz9, List.length_flatMap]
 unfold sumW
 congr 1
 exact List.map_congr_left fun a _ => z2r g a
theorem PlainF.pos' {g : Lang} (hg : LightF g) {w : List Int} {b : List Prt} (h : PlainF g w b) : ∀ p ∈ b, 0 < sN g p := by
 intro p hp
 obtain ⟨e, he, alt, ha, rfl⟩ := (h.parts p hp).ok hg
 exact List.length_pos_iff.2 (hg.senses he)
def refT (g : Lang) (w : List Int) : List (List Prt) := (zbx g w).flatMap (zu7 g)
theorem ydq {g : Lang} (hg : LightF g) {w : List Int} {q : List Prt} : q ∈ refT g w ↔ q ∈ allT g w := by
 rw [zpc]
 unfold refT
 rw [List.mem_flatMap]
 constructor
 ·rintro ⟨a, ha, hq⟩; exact ⟨a, ha, (zl3 ((zcl ha).pos' hg)).1 hq⟩
 ·rintro ⟨a, ha, hq⟩; exact ⟨a, ha, (zl3 ((zcl ha).pos' hg)).2 hq⟩
theorem z5j {g : Lang} (hg : LightF g) (w : List Int) : (refT g w).Nodup := by
 unfold refT List.Nodup
 rw [List.pairwise_flatMap]
 refine ⟨fun a _ => z0h g a, List.Pairwise.imp_of_mem ?_ (zqb hg w)⟩
 intro a b ha hb hne x hx y hy e
 subst e
 have h1 := zdz ((zl3 ((zcl ha).pos' hg)).1 hx)
 have h2 := zdz ((zl3 ((zcl hb).pos' hg)).1 hy)
 rw [(zcl ha).bare] at h1
 rw [(zcl hb).bare] at h2
 exact hne (h1.symm.trans h2)
theorem ydr {g : Lang} (hg : LightF g) (w : List Int) : insT (refT g w) = insT (allT g w) :=
 zxe (lt := zbm) zw6 zk0 (zk1 (z5j hg w)) (zk1 (ztf hg w)) fun q => by rw [zjs, zjs, ydq hg]
end Go.V
namespace Go.V
open Go Go.Proofs
theorem z9s (l : List (List Prt)) (a : List Prt) : insT (l ++ [a]) = insL (fun x => zbm a x) a (insT l) := by
 unfold insT; rw [List.foldl_append]; rfl
theorem z2s (g : Lang) (a b : List (List Prt)) : sumW g (a ++ b) = sumW g a + sumW g b := by
 unfold sumW; rw [List.map_append, List.sum_append]
theorem sumW_snoc (g : Lang) {l : List (List Prt)} {i : Nat} (h : i < l.length) : sumW g (l.take (i + 1)) = sumW g (l.take i) + zcu g l[i] := by
 rw [zaj h, z2s]; simp [sumW]
theorem zxj (g : Lang) (l : List (List Prt)) (i : Nat) : sumW g (l.take i) ≤ sumW g l := by
 have := z2s g (l.take i) (l.drop i)
 rw [List.take_append_drop] at this
 omega
def preT (g : Lang) (l : List (List Prt)) (i k : Nat) : List (List Prt) := (l.take i).flatMap (zu7 g) ++ (List.range k).map fun n => zd5 g (l.getD i []) n
theorem yds (g : Lang) (l : List (List Prt)) (i k : Nat) : (preT g l i k).length = sumW g (l.take i) + k := by
 unfold preT sumW
 rw [List.length_append, List.length_flatMap, List.length_map, List.length_range]
 congr 2
 refine List.map_congr_left fun a _ => ?_
 simp [zu7]
theorem z5k {g : Lang} {l : List (List Prt)} (h : ∀ a ∈ l, a.length ≤ 4) {i k : Nat} {q : List Prt} (hq : q ∈ preT g l i k) : q.length ≤ 4 := by
 unfold preT at hq
 rcases List.mem_append.1 hq with hq | hq
 ·obtain ⟨a, ha, hq⟩ := List.mem_flatMap.1 hq
  unfold zu7 at hq; obtain ⟨n, _, rfl⟩ := List.mem_map.1 hq; rw [zfu]; exact h a (List.mem_of_mem_take ha)
 ·obtain ⟨n, _, rfl⟩ := List.mem_map.1 hq
  rw [zfu]; by_cases hi : i < l.length
  ·rw [List.getD_eq_getElem?_getD, List.getElem?_eq_getElem hi]; exact h _ (List.getElem_mem hi)
  ·rw [List.getD_eq_getElem?_getD, List.getElem?_eq_none (by omega)]; simp
theorem z9t {g : Lang} {l : List (List Prt)} {i : Nat} (h : i < l.length) : preT g l i (zcu g l[i]) = preT g l (i + 1) 0 := by
 unfold preT
 rw [zaj h, List.flatMap_append, List.flatMap_singleton, List.getD_eq_getElem?_getD, List.getElem?_eq_getElem h]
 simp [zu7]
theorem z9u {g : Lang} {l : List (List Prt)} {i k : Nat} (h : i < l.length) : preT g l i (k + 1) = preT g l i k ++ [zd5 g l[i] k] := by
 unfold preT
 rw [List.range_succ, List.map_append, List.getD_eq_getElem?_getD, List.getElem?_eq_getElem h, List.append_assoc]
 rfl
theorem ydt (g : Lang) (w : List Int) : preT g (zbx g w) (zbx g w).length 0 = refT g w := by
 unfold preT refT
 rw [List.take_length]
 simp
theorem ydu {g : Lang} (hg : LightF g) (w : List Int) : allE g w = if zgj g.inv w ≠ 0 then ([], zgj g.inv w) else if 200 < sumW g (zbx g w) then ([], 11) else (insT (refT g w), 0) := by
 rw [z9d, ydp, ydr hg]
set_option maxHeartbeats 16000000 in
theorem z9v (g : Lang) (hg : LightF g) (hc : LangC g) (w : List Int) (hw : w.length ≤ 30) : zaq Tryz.prog 21 [g.d, ints w] (.tup [zbh (allE g w).1, int (allE g w).2]) := by
 have hP := z0g g hg hc w hw
 have hW := zpx g.inv w (by omega)
 have hp4 : ∀ a ∈ zbx g w, a.length ≤ 4 := fun a ha => (zcl ha).len
 have hpv : ∀ a ∈ zbx g w, ∀ p ∈ a, 0 < sN g p := fun a ha => (zcl ha).pos' hg
 have hpl := z9j hg w
 have hall := ydt g w
 rw [ydu hg, ← hall]
 generalize zbx g w = L at hP hp4 hpv hpl
 refine zaa mixed Tryz.func21 rfl call_21 ?_
 generalize zgj g.inv w = e at hW
 by_cases he : e = 0
 case neg =>
  rw [if_pos he]; simp +decide [Tryz.f21, zai, Lang.d, int, ints]; refine zam.pure (by rfl) hW (by simp [D.scalar]) ?_
  simp +decide [int, ints, zbh, he]
 subst he
 rw [if_neg (by simp)]
 simp +decide [Tryz.f21, zai, Lang.d, int, ints]
 refine zam.pure (by rfl) hW (by simp [D.scalar]) ?_
 simp +decide [int, ints]
 refine zam.pure (by rfl) hP (by simp [D.scalar]) ?_
 simp +decide [int, ints, zbh]
 refine zaz mixed (fun i : Nat => { n := 70, next := 1, slots := [(2, .bp 0 0), (7, .d (zbh L)), (8, .d (int (sumW g (L.take i)))), (9, .d (int i))], own := [(0, .box 36 (zai g.d))] })
  (fun i => i ≤ L.length ∧ sumW g (L.take i) ≤ 825) (fun i => L.length - i) 0 ⟨Nat.zero_le _, by simp [sumW]⟩ ?_ ?_
 ·simp +decide [int, ints, zbh, sumW, zai, Lang.d]
 intro i ⟨hi, hs⟩
 have htk := zxj g L i
 refine zal mixed ?_
 by_cases hbig : 200 < sumW g (L.take i)
 case pos =>
  have hb1 : ¬ ((sumW g (L.take i) : Nat) : Int) ≤ 200 := by omega
  have hb2 : (200 : Int) < ((sumW g (L.take i) : Nat) : Int) := by omega
  have hb3 : 200 < sumW g L := by omega
  rw [if_pos hb3]; by_cases hlt : i < L.length
  ·have hlt' : (i : Int) < L.length := by omega
   simp +decide [int, ints, zbh, hlt, hlt', hb1, hb2, hbig, I64]
  ·have hlt' : ¬ (i : Int) < L.length := by omega
   simp +decide [int, ints, zbh, hlt, hlt', hb1, hb2, hbig, I64]
 have hb1 : ((sumW g (L.take i) : Nat) : Int) ≤ 200 := by omega
 have hb2 : ¬ (200 : Int) < ((sumW g (L.take i) : Nat) : Int) := by omega
 by_cases hlt : i < L.length
 case pos =>
  have hlt' : (i : Int) < L.length := by omega
  obtain ⟨a, ea⟩ : ∃ a, L[i] = a := ⟨_, rfl⟩; have e1 : L[i]? = some a := by rw [List.getElem?_eq_getElem hlt, ea]
  have ha4 := hp4 L[i] (List.getElem_mem hlt); rw [ea] at ha4; have hsn := sumW_snoc g hlt; rw [ea] at hsn; have hw5 := Nat.le_trans (zna hg a) (z9q ha4); have hWy := z9r g hg hc a ha4; simp +decide [int, ints, zbh, zai, Lang.d, hlt, hlt', hb1, hb2, ea, e1, I64]; refine zad (by rfl) (by rfl) hWy (by simp [D.scalar]) ?_
  simp +decide [int, ints, zbh, zai, Lang.d, hlt, hlt', hb1, hb2, ea, e1, I64]; have hz : ((sumW g (L.take i) : Nat) : Int) + ((zcu g a : Nat) : Int) = ((sumW g (L.take (i + 1)) : Nat) : Int) := by omega
  rw [hz]; exact ⟨by omega, ⟨by omega, by omega⟩, i + 1, ⟨hlt, by omega⟩, by omega, rfl, by omega⟩
 have : i = L.length := by omega
 subst this
 have hlt' : ¬ (L.length : Int) < L.length := by omega
 rw [List.take_length] at hb1 hb2 hbig hs ⊢
 rw [if_neg hbig]
 simp +decide [int, ints, zbh, hb1, hb2, hbig, I64]
 refine zeq [1] ?_
 refine zaz mixed (fun i : Nat => { n := 70, next := 2, slots := [(2, .bp 0 0), (7, .d (zbh L)), (10, .d (zbh (insT (preT g L i 0)))), (11, .d (int i))], own := [(0, .box 36 (zai g.d))] })
  (fun i => i ≤ L.length) (fun i => L.length - i) 0 (Nat.zero_le _) ?_ ?_
 ·simp +decide [int, ints, zbh, zai, Lang.d, preT, insT]
 intro i hi
 refine zal mixed ?_
 by_cases hlt : i < L.length
 case neg =>
  have : i = L.length := by omega
  subst this; simp +decide [int, ints, zbh, zai, Lang.d]
 have hlt' : (i : Int) < L.length := by omega
 simp +decide [int, ints, zbh, hlt, hlt']
 refine zaz mixed (fun k : Nat => { n := 70, next := 2, slots := [(2, .bp 0 0), (7, .d (zbh L)), (10, .d (zbh (insT (preT g L i k)))), (11, .d (int i)), (12, .d (int k))], own := [(0, .box 36 (zai g.d))] })
  (fun k => k ≤ zcu g L[i]) (fun k => zcu g L[i] - k) 0 (Nat.zero_le _) ?_ ?_
 ·simp +decide [int, ints, zbh, zai, Lang.d]
 intro k hk
 obtain ⟨a, ea⟩ : ∃ a, L[i] = a := ⟨_, rfl⟩
 have e1 : L[i]? = some a := by rw [List.getElem?_eq_getElem hlt, ea]
 have ha4 := hp4 L[i] (List.getElem_mem hlt)
 have hav := hpv L[i] (List.getElem_mem hlt)
 have hsn := sumW_snoc g hlt
 have htk2 := zxj g L (i + 1)
 have hnext := z9t (g := g) hlt
 have hsnoc := z9u (g := g) (k := k) hlt
 have hpl2 := yds g L i k
 have hps := fun q => z5k (g := g) hp4 (i := i) (k := k) (q := q)
 rw [ea] at ha4 hav hsn hnext hsnoc hk ⊢
 have hWy := z9r g hg hc a ha4
 refine zal mixed ?_
 simp +decide [int, ints, zbh, zai, Lang.d, hlt, hlt', ea, e1, I64]
 refine zad (by rfl) (by rfl) hWy (by simp [D.scalar]) ?_
 by_cases hka : k < zcu g a
 case neg =>
  have : k = zcu g a := by omega
  subst this; simp +decide [int, ints, zbh, zai, Lang.d, hlt, hlt', ea, e1, I64]; exact ⟨⟨by omega, by omega⟩, i + 1, hlt, by omega, by rw [hnext], by omega⟩
 have hka' : (k : Int) < zcu g a := by omega
 have hT := yf8 g hg hc a ha4 hav k (by omega)
 have hPt := ydo (insT (preT g L i k)) (zd5 g a k) (by rw [z2k, hpl2]; omega) (fun q hq => hps q (zjs.1 hq)) (by rw [zfu]; exact ha4)
 rw [← z9s, ← hsnoc] at hPt
 simp +decide [int, ints, zbh, zai, Lang.d, hlt, hlt', ea, e1, I64, hka, hka']
 refine zad (by rfl) (by rfl) hT (by simp [D.scalar]) ?_
 simp +decide [int, ints, zbh, anaD, zai, Lang.d, hlt, hlt', ea, e1, I64, hka, hka']
 refine zad (by rfl) (by rfl) hPt (by simp [D.scalar]) ?_
 simp +decide [int, ints, zbh, anaD, zai, Lang.d, hlt, hlt', ea, e1, I64, hka, hka']
 exact ⟨⟨by omega, by omega⟩, k + 1, hka, by omega, rfl, by omega⟩
end Go.V

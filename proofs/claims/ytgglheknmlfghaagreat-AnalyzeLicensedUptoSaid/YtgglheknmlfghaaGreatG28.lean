/- Reach by the reference of chapter 26, exactly; Inverse, has, in. -/
import Derived.Test.YtgglheknmlfghaaGreatG27
set_option linter.unusedSimpArgs false
set_option linter.unusedVariables false
set_option maxRecDepth 10000
namespace Go.V
open Go Go.Proofs

def invC (k : Int) : Int := if k = 0 then k else if k = 1 then k else if k = 2 then 3 else if k = 3 then 2 else if k = 4 then 5 else if k = 5 then 4 else -1
theorem inverse26_ok (k : Int) : PureR Tryz.prog 120 [int k] (int (invC k)) := by
  refine pure_of_body mixed Tryz.func120 rfl call_120 ?_
  unfold invC
  by_cases h0 : k = 0
  · simp (decide := true) [Tryz.f120, int, h0]
  by_cases h1 : k = 1
  · simp (decide := true) [Tryz.f120, int, h0, h1]
  by_cases h2 : k = 2
  · simp (decide := true) [Tryz.f120, int, h0, h1, h2]
  by_cases h3 : k = 3
  · simp (decide := true) [Tryz.f120, int, h0, h1, h2, h3]
  by_cases h4 : k = 4
  · simp (decide := true) [Tryz.f120, int, h0, h1, h2, h3, h4]
  by_cases h5 : k = 5
  · simp (decide := true) [Tryz.f120, int, h0, h1, h2, h3, h4, h5]
  simp (decide := true) [Tryz.f120, int, h0, h1, h2, h3, h4, h5]
def linkIn (e : Ent) (x : Lnk) : Bool := e.links.any fun y => decide (y = x)
theorem has26_ok (e : Ent) (x : Lnk) (hl : e.links.length ≤ 1048576) : PureR Tryz.prog 122 [.agg e.row, .agg x.row] (.bool (linkIn e x)) := by
  refine pure_of_body mixed Tryz.func122 rfl call_122 ?_
  simp (decide := true) [Tryz.f122, int, Ent.row, Lnk.row]
  refine loop_rule mixed (fun k : Nat => { n := 20, next := 2, slots := [(2, .bp 0 0), (3, .bp 1 0), (5, .d (int k))], own := [(0, .box 59 (e.row.map .d)), (1, .box 105 (x.row.map .d))] })
    (fun k => k ≤ e.links.length ∧ ∀ y ∈ e.links.take k, ¬ y = x) (fun k => e.links.length - k) 0 (by simp) (by simp (decide := true) [int, ints, Ent.row, Lnk.row, lnkD]) ?_
  intro k ⟨hk, hp⟩
  by_cases hlt : k < e.links.length
  · have hlt' : (k : Int) < e.links.length := by omega
    have hmem := List.getElem_mem hlt
    have hsn := take_snocG hlt
    obtain ⟨y, ey⟩ : ∃ y, e.links[k] = y := ⟨_, rfl⟩
    have e1 : e.links[k]? = some y := by rw [List.getElem?_eq_getElem hlt, ey]
    rw [ey] at hmem hsn
    by_cases b1 : y = x
    · have : linkIn e x = true := List.any_eq_true.2 ⟨y, hmem, by simpa using b1⟩
      rw [this]
      subst b1
      simp (decide := true) [int, ints, Ent.row, lnkD, Lnk.row, hlt, hlt', e1, ey]
    · simp (decide := true) [int, ints, Ent.row, lnkD, Lnk.row, hlt, hlt', e1, ey, I64]
      have hne : y.kind = x.kind → ¬ y.dst = x.dst := by
        intro h1 h2
        obtain ⟨a, b⟩ := y
        obtain ⟨c, d⟩ := x
        simp only at h1 h2
        exact b1 (by rw [h1, h2])
      refine ⟨fun h1 h2 => absurd h2 (hne h1), fun _ => ⟨⟨by omega, by omega⟩, k + 1, ⟨hlt, fun z hz => ?_⟩, by omega, by omega⟩⟩
      rw [hsn] at hz
      rcases List.mem_append.1 hz with h | h
      · exact hp z h
      · rw [List.mem_singleton] at h; rw [h]; exact b1
  · have : k = e.links.length := by omega
    subst this
    rw [List.take_length] at hp
    have : linkIn e x = false := by unfold linkIn; rw [List.any_eq_false]; intro y hy; simpa using hp y hy
    rw [this]
    simp (decide := true) [int, ints, Ent.row, lnkD]
theorem in26_ok (l : List Int) (x : Int) (hl : l.length < 2^40) : PureR Tryz.prog 123 [ints l, int x] (.bool (decide (x ∈ l))) := by
  refine pure_of_body mixed Tryz.func123 rfl call_123 ?_
  simp (decide := true) [Tryz.f123, int, ints]
  refine loop_rule mixed (fun k : Nat => { n := 18, next := 0, slots := [(0, .d (ints l)), (1, .d (int x)), (5, .d (int k))], own := [] })
    (fun k => k ≤ l.length ∧ ∀ y ∈ l.take k, ¬ y = x) (fun k => l.length - k) 0 (by simp) (by simp (decide := true) [int, ints]) ?_
  intro k ⟨hk, hp⟩
  by_cases hlt : k < l.length
  · have hlt' : (k : Int) < l.length := by omega
    have hmem := List.getElem_mem hlt
    have hsn := take_snocG hlt
    obtain ⟨y, ey⟩ : ∃ y, l[k] = y := ⟨_, rfl⟩
    have e1 : l[k]? = some y := by rw [List.getElem?_eq_getElem hlt, ey]
    rw [ey] at hmem hsn
    by_cases b1 : y = x
    · subst b1
      simp (decide := true) [int, ints, hlt, hlt', e1, ey, hmem]
    · simp (decide := true) [int, ints, hlt, hlt', e1, ey, b1, I64]
      refine ⟨⟨by omega, by omega⟩, k + 1, ⟨hlt, fun z hz => ?_⟩, by omega, by omega⟩
      rw [hsn] at hz
      rcases List.mem_append.1 hz with h | h
      · exact hp z h
      · rw [List.mem_singleton] at h; rw [h]; exact b1
  · have : k = l.length := by omega
    subst this
    rw [List.take_length] at hp
    have hn : ¬ x ∈ l := fun h => hp x h rfl
    simp (decide := true) [int, ints, hn]
/-! Reach, exactly -/
def rStep (l : List Ent) (kind : Int) (s : List Bool × List Int) (x : Lnk) : List Bool × List Int :=
  if x.kind = kind ∧ 0 ≤ findE l x.dst ∧ s.1[(findE l x.dst).toNat]?.getD true = false then (s.1.set (findE l x.dst).toNat true, s.2 ++ [x.dst]) else s
def rOne (l : List Ent) (kind : Int) (s : List Bool × List Int) (t : Int) : List Bool × List Int := (getE l t).1.links.foldl (rStep l kind) s
def rRound (l : List Ent) (kind : Int) (s : List Bool × List Int) : List Bool × List Int := s.2.foldl (rOne l kind) (s.1, [])
def rN (l : List Ent) (id kind : Int) : Nat → List Bool × List Int
  | 0 => (List.replicate l.length false, [id])
  | n + 1 => rRound l kind (rN l id kind n)
def rOut (l : List Ent) (s : List Bool) (k : Nat) : List Int := ((List.range k).filter fun j => s[j]?.getD false).map fun j => ((l[j]?).map Ent.id).getD 0
def reachF (l : List Ent) (id kind : Int) : List Int := rOut l (rN l id kind (l.length + 1)).1 l.length
theorem rStep_len (l : List Ent) (kind : Int) (s : List Bool × List Int) (x : Lnk) : (rStep l kind s x).1.length = s.1.length ∧ (rStep l kind s x).2.length ≤ s.2.length + 1 := by
  unfold rStep; split <;> simp
theorem rFold_len (l : List Ent) (kind : Int) : ∀ (xs : List Lnk) (s : List Bool × List Int), (xs.foldl (rStep l kind) s).1.length = s.1.length ∧ (xs.foldl (rStep l kind) s).2.length ≤ s.2.length + xs.length
  | [], s => ⟨rfl, Nat.le_refl _⟩
  | x :: xs, s => by
    have h1 := rStep_len l kind s x
    have h2 := rFold_len l kind xs (rStep l kind s x)
    rw [List.foldl_cons, List.length_cons]
    exact ⟨h2.1.trans h1.1, by omega⟩
theorem getE_links {l : List Ent} (hk : ∀ e ∈ l, e.links.length ≤ 12) (t : Int) : (getE l t).1.links.length ≤ 12 := by
  rcases findE_get l t with ⟨_, h2⟩ | ⟨j, hj, _, h2⟩
  · rw [h2]; simp [Ent.zero]
  · rw [h2]; exact hk _ (List.getElem_mem hj)
theorem rOnes_len {l : List Ent} (hk : ∀ e ∈ l, e.links.length ≤ 12) (kind : Int) : ∀ (ts : List Int) (s : List Bool × List Int), (ts.foldl (rOne l kind) s).1.length = s.1.length ∧ (ts.foldl (rOne l kind) s).2.length ≤ s.2.length + 12 * ts.length
  | [], s => ⟨rfl, by simp⟩
  | t :: ts, s => by
    have h1 := rFold_len l kind (getE l t).1.links s
    have h0 := getE_links hk t
    have h2 := rOnes_len hk kind ts (rOne l kind s t)
    rw [List.foldl_cons, List.length_cons]
    unfold rOne at h2 ⊢
    exact ⟨h2.1.trans h1.1, by omega⟩
theorem rN_len {l : List Ent} (hk : ∀ e ∈ l, e.links.length ≤ 12) (id kind : Int) : ∀ n, (rN l id kind n).1.length = l.length ∧ (rN l id kind n).2.length ≤ 12 ^ n
  | 0 => by simp [rN]
  | n + 1 => by
    have h := rN_len hk id kind n
    have h2 := rOnes_len hk kind (rN l id kind n).2 ((rN l id kind n).1, [])
    unfold rN rRound
    simp only [List.length_nil, Nat.zero_add] at h2
    refine ⟨h2.1.trans h.1, Nat.le_trans h2.2 ?_⟩
    rw [Nat.pow_succ]; omega
theorem rOut_snoc (l : List Ent) (s : List Bool) (k : Nat) : rOut l s (k + 1) = rOut l s k ++ (if s[k]?.getD false = true then [((l[k]?).map Ent.id).getD 0] else []) := by
  unfold rOut
  rw [List.range_succ, List.filter_append, List.map_append]
  congr 1
  by_cases h : s[k]?.getD false = true
  · simp [h]
  · simp [h]
theorem rOut_len (l : List Ent) (s : List Bool) (k : Nat) : (rOut l s k).length ≤ k := by
  unfold rOut
  rw [List.length_map]
  have := List.length_filter_le (fun j => s[j]?.getD false) (List.range k)
  simpa using this
def rB (l : List Bool) : List (List D) := l.map fun b => [.bool b]
def rI (l : List Int) : List (List D) := l.map fun n => [int n]
def rH (l : List Ent) (id kind : Int) (i : Nat) : St :=
  { n := 110, next := 3, slots := [(0, .d (lexD l)), (1, .d (int id)), (2, .d (int kind)), (7, .ar 1), (8, .d (ints (rN l id kind i).2)), (9, .d (int i))], own := [(1, .arr 4 1 (rB (rN l id kind i).1))], moved := [3] }
def rM (l : List Ent) (id kind : Int) (i : Nat) (todo : List Int) (s : List Bool × List Int) : St :=
  { n := 110, next := 4, slots := [(0, .d (lexD l)), (1, .d (int id)), (2, .d (int kind)), (7, .ar 1), (8, .d (ints todo)), (9, .d (int i)), (10, .ar 3)], own := [(1, .arr 4 1 (rB s.1)), (3, .arr 3 1 (rI s.2))], moved := [3] }
def rMj (l : List Ent) (id kind : Int) (i : Nat) (todo : List Int) (j : Nat) (s : List Bool × List Int) : St :=
  { n := 110, next := 4, slots := [(0, .d (lexD l)), (1, .d (int id)), (2, .d (int kind)), (7, .ar 1), (8, .d (ints todo)), (9, .d (int i)), (10, .ar 3), (11, .d (int j))], own := [(1, .arr 4 1 (rB s.1)), (3, .arr 3 1 (rI s.2))], moved := [3] }
def rL (l : List Ent) (id kind : Int) (i : Nat) (todo : List Int) (j : Nat) (f : Int) (m : Nat) (s : List Bool × List Int) : St :=
  { n := 110, next := 4, slots := [(0, .d (lexD l)), (1, .d (int id)), (2, .d (int kind)), (7, .ar 1), (8, .d (ints todo)), (9, .d (int i)), (10, .ar 3), (11, .d (int j)), (12, .d (int f)), (13, .d (int m))], own := [(1, .arr 4 1 (rB s.1)), (3, .arr 3 1 (rI s.2))], moved := [3] }
set_option maxHeartbeats 16000000 in
theorem reach26_ok (l : List Ent) (id kind : Int) (hl : l.length ≤ 5) (hk : ∀ e ∈ l, e.links.length ≤ 12) : PureR Tryz.prog 124 [lexD l, int id, int kind] (ints (reachF l id kind)) := by
  refine pure_of_body mixed Tryz.func124 rfl call_124 ?_
  simp (decide := true) [Tryz.f124, int, lexD]
  refine ⟨by omega, by unfold maxLen; omega, ?_⟩
  refine triple_frz [2] ?_
  refine loop_ruleT mixed (rH l id kind) (fun i => i ≤ l.length + 1) (fun i => l.length + 1 - i) 0 (by simp) (by simp (decide := true) [rH, rN, int, ints, lexD, rB]) ?_
  intro i hi
  obtain ⟨n1, n2⟩ := rN_len hk id kind i
  have hpw : 12 ^ i ≤ 12 ^ 6 := Nat.pow_le_pow_right (by omega) (by omega)
  by_cases hlt : i < l.length + 1
  · have hlt' : (i : Int) ≤ l.length := by omega
    refine cut_ev mixed 1 (rH l id kind i) rfl (by simp (decide := true) [rH, headC, cutK, int, lexD, hlt']) ?_
    simp only [tailC]
    refine triple_seqE (triple_block (cut_ev mixed 2 (rM l id kind i (rN l id kind i).2 (rN l id kind (i + 1))) rfl ?_ ?_)) mixed
    · unfold rH
      have n3 : (rN l id kind i).2.length ≤ 2985984 := Nat.le_trans n2 (Nat.le_trans hpw (by decide))
      have hsucc : rN l id kind (i + 1) = (rN l id kind i).2.foldl (rOne l kind) ((rN l id kind i).1, []) := rfl
      generalize rN l id kind (i + 1) = nx at hsucc
      generalize rN l id kind i = cur at hsucc n1 n2 n3 ⊢
      obtain ⟨seen, todo⟩ := cur
      simp only at hsucc n1 n2 n3
      simp (decide := true) [rH, headC, int, lexD]
      have hbase : (seen, []) = (([] : List Int).foldl (rOne l kind) (seen, [])) := rfl
      refine loop_rule mixed (fun j : Nat => rMj l id kind i todo j ((todo.take j).foldl (rOne l kind) (seen, []))) (fun j => j ≤ todo.length) (fun j => todo.length - j) 0 (by simp) (by simp (decide := true) [rMj, int, ints, lexD, rB, rI]) ?_
      intro j hj
      obtain ⟨m1, m2⟩ := rOnes_len hk kind (todo.take j) (seen, [])
      rw [List.length_take] at m2
      simp only [List.length_nil, Nat.zero_add] at m1 m2
      by_cases hlj : j < todo.length
      case neg =>
        have : j = todo.length := by omega
        subst this
        rw [List.take_length, ← hsucc]
        simp (decide := true) [rMj, rM, int, ints, lexD, cutK]
        done
      have hlj' : (j : Int) < todo.length := by omega
      have hsn : (todo.take (j + 1)).foldl (rOne l kind) (seen, []) = rOne l kind ((todo.take j).foldl (rOne l kind) (seen, [])) todo[j] := by rw [take_snocG hlj, List.foldl_append]; rfl
      obtain ⟨t, et⟩ : ∃ t, todo[j] = t := ⟨_, rfl⟩
      have et1 : todo[j]? = some t := by rw [List.getElem?_eq_getElem hlj, et]
      rw [et] at hsn
      generalize (todo.take j).foldl (rOne l kind) (seen, []) = s0 at hsn m1 m2
      have hF := find26_ok l t (by omega)
      have hlk := getE_links hk t
      have hone : rOne l kind s0 t = (getE l t).1.links.foldl (rStep l kind) s0 := rfl
      rw [hone] at hsn
      simp (decide := true) [rMj, int, ints, lexD, hlj, hlj', et, et1]
      refine ECall.pure (by rfl) hF (by simp [int, lexD]) ?_
      simp (decide := true) [int, ints, lexD]
      refine loop_rule mixed (fun m : Nat => rL l id kind i todo j (findE l t) m (((getE l t).1.links.take m).foldl (rStep l kind) s0)) (fun m => m ≤ (getE l t).1.links.length) (fun m => (getE l t).1.links.length - m) 0 (by simp) (by simp (decide := true) [rL, int, ints, lexD, rB, rI]) ?_
      intro m hm
      rcases findE_get l t with ⟨f1, f2⟩ | ⟨q, hq, f1, f2⟩
      · have hz : (getE l t).1.links = [] := by rw [f2]; rfl
        rw [hz] at hm hsn ⊢
        have hm0 : m = 0 := by simpa using hm
        subst hm0
        have hf0 : ¬ 0 ≤ findE l t := by omega
        simp only [List.take_zero, List.foldl_nil] at hsn ⊢
        simp (decide := true) [rL, int, ints, lexD, hf0, I64]
        exact ⟨⟨by omega, by omega⟩, j + 1, hlj, by omega, by omega, by rw [hsn], by rw [hsn]⟩
      · rw [f2] at hm hsn hlk ⊢
        simp only at hm hsn hlk ⊢
        rw [f1]
        obtain ⟨e, ee⟩ : ∃ e, l[q] = e := ⟨_, rfl⟩
        have eq1 : l[q]? = some e := by rw [List.getElem?_eq_getElem hq, ee]
        have hq' : (q : Int) < l.length := by omega
        rw [ee] at hm hsn hlk ⊢
        by_cases hlm : m < e.links.length
        case neg =>
          have : m = e.links.length := by omega
          subst this
          rw [List.take_length, ← hsn]
          simp (decide := true) [rL, int, ints, lexD, hq, hq', ee, eq1, Ent.row, lnkD, I64]
          exact ⟨⟨by omega, by omega⟩, j + 1, hlj, by omega, by omega, rfl, rfl⟩
        have hlm' : (m : Int) < e.links.length := by omega
        obtain ⟨p1, p2⟩ := rFold_len l kind (e.links.take m) s0
        rw [List.length_take] at p2
        have hsm : (e.links.take (m + 1)).foldl (rStep l kind) s0 = rStep l kind ((e.links.take m).foldl (rStep l kind) s0) e.links[m] := by rw [take_snocG hlm, List.foldl_append]; rfl
        obtain ⟨x, ex⟩ : ∃ x, e.links[m] = x := ⟨_, rfl⟩
        have ex1 : e.links[m]? = some x := by rw [List.getElem?_eq_getElem hlm, ex]
        rw [ex] at hsm
        generalize (e.links.take m).foldl (rStep l kind) s0 = s1 at hsm p1 p2
        have hG := find26_ok l x.dst (by omega)
        have hstep : rStep l kind s1 x = if x.kind = kind ∧ 0 ≤ findE l x.dst ∧ s1.1[(findE l x.dst).toNat]?.getD true = false then (s1.1.set (findE l x.dst).toNat true, s1.2 ++ [x.dst]) else s1 := rfl
        rw [hstep] at hsm
        simp (decide := true) [rL, int, ints, lexD, hq, hq', ee, eq1, Ent.row, lnkD, Lnk.row, I64, hlm, hlm', ex, ex1]
        refine ECall.pure (by rfl) hG (by simp [int, lexD]) ?_
        by_cases k1 : x.kind = kind
        case neg =>
          rw [if_neg (fun h => k1 h.1)] at hsm
          simp (decide := true) [int, k1, I64]
          exact ⟨⟨by omega, by omega⟩, m + 1, hlm, by omega, by omega, by rw [hsm], by rw [hsm]⟩
        rcases findE_get l x.dst with ⟨g1, g2⟩ | ⟨u, hu, g1, g2⟩
        · have hg0 : ¬ 0 ≤ findE l x.dst := by omega
          rw [if_neg (fun h => hg0 h.2.1)] at hsm
          simp (decide := true) [int, k1, hg0, I64]
          exact ⟨⟨by omega, by omega⟩, m + 1, hlm, by omega, by omega, by rw [hsm], by rw [hsm]⟩
        · have hul : u < s1.1.length := by omega
          obtain ⟨b, eb⟩ : ∃ b, s1.1[u] = b := ⟨_, rfl⟩
          have eb1 : s1.1[u]? = some b := by rw [List.getElem?_eq_getElem hul, eb]
          rw [g1] at hsm
          simp only [Int.toNat_natCast, eb1, Option.getD_some] at hsm
          have hu' : (u : Int) < s1.1.length := by omega
          cases b with
          | true =>
            rw [if_neg (fun h => by cases h.2.2)] at hsm
            simp (decide := true) [int, k1, g1, rB, hul, hu', eb, eb1, I64]
            exact ⟨⟨by omega, by omega⟩, m + 1, hlm, by omega, by omega, by rw [hsm], by rw [hsm]⟩
          | false =>
            rw [if_pos ⟨k1, by omega, rfl⟩] at hsm
            simp (decide := true) [int, k1, g1, rB, rI, hul, hu', eb, eb1, I64]
            exact ⟨by omega, by unfold maxLen; omega, ⟨by omega, by omega⟩, m + 1, hlm, by omega, by omega, by rw [hsm]; simp [List.map_set], by rw [hsm]; simp⟩
    · simp only [tailC]
      refine triple_frz [3] ?_
      refine ev_sound mixed ?_
      simp (decide := true) [rM, int, lexD]
      exact ⟨⟨by omega, by omega⟩, i + 1, by omega, by omega, by simp (decide := true) [rH, int, ints, lexD, rB, rI]⟩
  · have : i = l.length + 1 := by omega
    subst this
    refine ev_sound mixed ?_
    have hn : ¬ (l.length : Int) + 1 ≤ l.length := by omega
    simp (decide := true) [rH, int, lexD, hn]
    have hfin : reachF l id kind = rOut l (rN l id kind (l.length + 1)).1 l.length := rfl
    generalize (rN l id kind (l.length + 1)).1 = seen at hfin n1 ⊢
    refine loop_rule mixed (fun k : Nat => { n := 110, next := 4, slots := [(0, .d (lexD l)), (7, .ar 1), (16, .ar 3), (17, .d (int k))], own := [(1, .arr 4 1 (rB seen)), (3, .arr 3 1 (rI (rOut l seen k)))], moved := [3] }) (fun k => k ≤ l.length) (fun k => l.length - k) 0 (by simp) (by simp (decide := true) [int, ints, lexD, rB, rI, rOut]) ?_
    intro k hkl
    have hol := rOut_len l seen k
    by_cases hlk : k < l.length
    · have hlk' : (k : Int) < l.length := by omega
      have hks : k < seen.length := by omega
      have hks' : (k : Int) < seen.length := by omega
      have hsn := rOut_snoc l seen k
      obtain ⟨e, ee⟩ : ∃ e, l[k] = e := ⟨_, rfl⟩
      have e1 : l[k]? = some e := by rw [List.getElem?_eq_getElem hlk, ee]
      obtain ⟨b, eb⟩ : ∃ b, seen[k] = b := ⟨_, rfl⟩
      have eb1 : seen[k]? = some b := by rw [List.getElem?_eq_getElem hks, eb]
      rw [e1, eb1] at hsn
      cases b with
      | false =>
        simp only [Option.getD_some, Bool.false_eq_true, if_false, List.append_nil] at hsn
        simp (decide := true) [int, ints, lexD, rB, hlk, hlk', hks, hks', ee, e1, eb, eb1, I64]
        exact ⟨⟨by omega, by omega⟩, k + 1, hlk, by omega, by omega, by rw [hsn]⟩
      | true =>
        simp only [Option.getD_some, if_true, Option.map_some] at hsn
        simp (decide := true) [int, ints, lexD, rB, rI, Ent.row, hlk, hlk', hks, hks', ee, e1, eb, eb1, I64]
        exact ⟨by omega, by unfold maxLen; omega, ⟨by omega, by omega⟩, k + 1, hlk, by omega, by omega, by rw [hsn]; simp⟩
    · have : k = l.length := by omega
      subst this
      rw [hfin]
      simp (decide := true) [int, ints, lexD, rI]
end Go.V

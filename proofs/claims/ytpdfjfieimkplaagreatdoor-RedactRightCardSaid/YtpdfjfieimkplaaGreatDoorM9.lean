/- Contracts and plain laws of this seat: part M9. It needs no conditions. -/
import Derived.Test.YtpdfjfieimkplaaGreatDoorM8
import Derived.Test.YtpdfjfieimkplaaGreatDoorSv
import Derived.Test.YtpdfjfieimkplaaGreatDoorM2
import Derived.Test.YtpdfjfieimkplaaGreatDoorM6
set_option linter.unusedVariables false
set_option linter.unusedSimpArgs false
set_option linter.unusedSectionVars false
set_option maxRecDepth 100000
/- Plain law of chapter 46: marking notes from a note on, depth first, marks what is kept. -/
namespace Go.V
open Go Go.Proofs

/-- What must be kept with a note. -/
def succR (d : Dc) (m c : Nt) : Prop := c ∈ d.notes ∧ (c.id = m.par ∨ (c.tier = m.tier ∧ c.par = m.par ∧ (tirAt d m.tier).kind = 1))
def kidsK (d : Dc) (n : Nt) : List Int := if (tirAt d n.tier).kind = 1 then idsOf (kidsN d n.par n.tier) else []
def markE (d : Dc) : Nat → List Int → Int → List Int
  | 0, ms, _ => ms
  | f + 1, ms, id => if (getN d.notes id).2 = true ∧ id ∉ ms then (kidsK d (getN d.notes id).1).foldl (markE d f) (markE d f (ms ++ [id]) (getN d.notes id).1.par) else ms
def cntM (d : Dc) (ms : List Int) : Nat := (d.notes.filter fun n => decide (n.id ∉ ms)).length
theorem cnt_le {d : Dc} {a b : List Int} (h : ∀ x ∈ a, x ∈ b) : cntM d b ≤ cntM d a := by
  unfold cntM
  rw [← List.countP_eq_length_filter, ← List.countP_eq_length_filter]
  apply List.countP_mono_left
  intro x _ hx
  simp only [decide_eq_true_eq] at hx ⊢
  exact fun e => hx (h _ e)
theorem cnt_lt {d : Dc} {a : List Int} {n : Nt} (hn : n ∈ d.notes) (h : n.id ∉ a) : cntM d (a ++ [n.id]) < cntM d a := by
  unfold cntM
  have hsub : (d.notes.filter fun m => decide (m.id ∉ a ++ [n.id])) = (d.notes.filter fun m => decide (m.id ∉ a)).filter fun m => decide (m.id ≠ n.id) := by
    rw [List.filter_filter]
    apply List.filter_congr
    intro x _
    simp [and_comm, not_or]
  rw [hsub]
  have h1 : n ∈ d.notes.filter fun m => decide (m.id ∉ a) := by rw [List.mem_filter]; exact ⟨hn, by simpa using h⟩
  exact List.length_filter_lt_length_iff_exists.2 ⟨n, h1, by simp⟩
structure MarkOk (d : Dc) (ms : List Int) (ids : List Int) (ms' : List Int) : Prop where
  sub : ∀ x ∈ ms, x ∈ ms'
  has : ∀ x ∈ d.notes, x.id ∈ ids → x.id ∈ ms'
  shut : ∀ x ∈ d.notes, x.id ∈ ms' → x.id ∉ ms → ∀ c, succR d x c → c.id ∈ ms'
  only : ∀ Q : Nt → Prop, (∀ x c, Q x → succR d x c → Q c) → (∀ x ∈ d.notes, x.id ∈ ms → Q x) → (∀ x ∈ d.notes, x.id ∈ ids → Q x) → ∀ x ∈ d.notes, x.id ∈ ms' → Q x
  few : ∀ x ∈ ms', x ∈ ms ∨ ∃ n ∈ d.notes, n.id = x
  once : ms.Nodup → ms'.Nodup
theorem MarkOk.nil (d : Dc) (ms : List Int) : MarkOk d ms [] ms where
  sub := fun _ h => h
  has := fun x _ h => by cases h
  shut := fun x _ h1 h2 => absurd h1 h2
  only := fun Q _ h1 _ => h1
  few := fun x h => .inl h
  once := fun h => h
theorem MarkOk.append {d : Dc} {a b c : List Int} {i j : List Int} (h1 : MarkOk d a i b) (h2 : MarkOk d b j c) : MarkOk d a (i ++ j) c where
  sub := fun x h => h2.sub x (h1.sub x h)
  has := fun x hx h => by
    rcases List.mem_append.1 h with h | h
    · exact h2.sub _ (h1.has x hx h)
    · exact h2.has x hx h
  shut := fun x hx hc ha e he => by
    by_cases hb : x.id ∈ b
    · exact h2.sub _ (h1.shut x hx hb ha e he)
    · exact h2.shut x hx hc hb e he
  only := fun Q hQ ha hi => h2.only Q hQ (h1.only Q hQ ha fun x hx e => hi x hx (List.mem_append.2 (.inl e))) fun x hx e => hi x hx (List.mem_append.2 (.inr e))
  few := fun x h => by
    rcases h2.few x h with h | h
    · exact h1.few x h
    · exact .inr h
  once := fun h => h2.once (h1.once h)
theorem markE_ok {d : Dc} (h : Rgt d) : ∀ (f : Nat) (ms : List Int) (id : Int), cntM d ms ≤ f → MarkOk d ms [id] (markE d f ms id)
  | 0, ms, id, hc => by
    have h0 : ∀ x ∈ d.notes, x.id ∈ ms := by
      have : (d.notes.filter fun n => decide (n.id ∉ ms)) = [] := List.eq_nil_of_length_eq_zero (by unfold cntM at hc; omega)
      rw [List.filter_eq_nil_iff] at this
      intro x hx
      have := this x hx
      simpa using this
    exact ⟨fun _ e => e, fun x hx _ => h0 x hx, fun x _ h1 h2 => absurd h1 h2, fun Q _ h1 _ => h1, fun x e => .inl e, fun e => e⟩
  | f + 1, ms, id, hc => by
    unfold markE
    by_cases hg : (getN d.notes id).2 = true ∧ id ∉ ms
    case neg =>
      rw [if_neg hg]
      refine ⟨fun _ e => e, fun x hx e => ?_, fun x _ h1 h2 => absurd h1 h2, fun Q _ h1 _ => h1, fun x e => .inl e, fun e => e⟩
      rw [List.mem_singleton] at e
      by_cases hm : id ∈ ms
      · rw [e]; exact hm
      · have := getN_of h hx
        rw [e] at this
        exact absurd ⟨by rw [this], hm⟩ hg
    rw [if_pos hg]
    obtain ⟨hg1, hg2⟩ := hg
    obtain ⟨n1, n2⟩ := getN_mem hg1
    generalize (getN d.notes id).1 = n at n1 n2
    subst n2
    have hlt := cnt_lt n1 hg2
    have hup := markE_ok h f (ms ++ [n.id]) n.par (by omega)
    have hkids : ∀ (ks : List Int) (b : List Int), (∀ x ∈ ms ++ [n.id], x ∈ b) → MarkOk d b ks (ks.foldl (markE d f) b) := by
      intro ks
      induction ks with
      | nil => intro b _; exact MarkOk.nil d b
      | cons k ks ih =>
        intro b hb
        have h1 := markE_ok h f b k (by have := cnt_le (d := d) hb; omega)
        exact h1.append (ih _ fun x hx => h1.sub x (hb x hx))
    have hall := hup.append (hkids (kidsK d n) _ hup.sub)
    generalize (kidsK d n).foldl (markE d f) (markE d f (ms ++ [n.id]) n.par) = r at hall
    have hkm : ∀ c : Nt, c.id ∈ kidsK d n ↔ ∃ x, x.id = c.id ∧ x ∈ d.notes ∧ x.tier = n.tier ∧ x.par = n.par ∧ (tirAt d n.tier).kind = 1 := by
      intro c
      unfold kidsK
      by_cases k1 : (tirAt d n.tier).kind = 1
      · rw [if_pos k1]
        unfold idsOf kidsN
        rw [List.mem_map]
        have ht := h.nok n n1
        constructor
        · rintro ⟨x, hx, e⟩
          have := (isort_perm _).mem_iff.1 hx
          rw [List.mem_filter] at this
          simp only [kidB, Bool.and_eq_true, decide_eq_true_eq] at this
          exact ⟨x, e, this.1, this.2.1.1.1, this.2.1.1.2, k1⟩
        · rintro ⟨x, e, hx, e1, e2, _⟩
          refine ⟨x, (isort_perm _).mem_iff.2 ?_, e⟩
          rw [List.mem_filter]
          simp only [kidB, Bool.and_eq_true, decide_eq_true_eq]
          exact ⟨hx, ⟨⟨e1, e2⟩, ht.t0⟩, ht.t1⟩
      · rw [if_neg k1]
        constructor
        · intro e; cases e
        · rintro ⟨_, _, _, _, _, e⟩; exact absurd e k1
    have hsucc : ∀ c, succR d n c → c.id ∈ r := by
      rintro c ⟨hcm, hc | hc⟩
      · exact hall.has c hcm (by rw [hc]; simp)
      · exact hall.has c hcm (List.mem_append.2 (.inr ((hkm c).2 ⟨c, rfl, hcm, hc.1, hc.2.1, hc.2.2⟩)))
    have hin : n.id ∈ r := hall.sub _ (by simp)
    refine ⟨fun x e => hall.sub x (by simp [e]), fun x hx e => ?_, fun x hx hr hm c hc' => ?_, fun Q hQ hms hid => ?_, fun x hx => ?_, fun hnd => ?_⟩
    · rw [List.mem_singleton] at e; rw [e]; exact hin
    · by_cases e : x.id = n.id
      · have : x = n := by
          have a1 := getN_of h hx
          have a2 := getN_of h n1
          rw [e, a2] at a1
          exact (congrArg Prod.fst a1).symm
        subst this
        exact hsucc c hc'
      · exact hall.shut x hx hr (by simp [hm, e]) c hc'
    · have hn : Q n := hid n n1 (by simp)
      refine hall.only Q hQ (fun x hx e => ?_) (fun x hx e => ?_)
      · rcases List.mem_append.1 e with e | e
        · exact hms x hx e
        · exact hid x hx e
      · rcases List.mem_append.1 e with e | e
        · rw [List.mem_singleton] at e
          exact hQ n x hn ⟨hx, .inl e⟩
        · obtain ⟨y, e0, hy, e1, e2, e3⟩ := (hkm x).1 e
          have : y = x := by
            have a1 := getN_of h hx
            have a2 := getN_of h hy
            rw [e0, a1] at a2
            exact (congrArg Prod.fst a2).symm
          subst this
          exact hQ n y hn ⟨hy, .inr ⟨e1, e2, e3⟩⟩
    · rcases hall.few x hx with e | e
      · rcases List.mem_append.1 e with e | e
        · exact .inl e
        · rw [List.mem_singleton] at e; exact .inr ⟨n, n1, e.symm⟩
      · exact .inr e
    · exact hall.once (by
        rw [List.nodup_append]
        exact ⟨hnd, by simp, fun a ha b hb e => by rw [List.mem_singleton] at hb; subst hb; subst e; exact hg2 ha⟩)
/-- All seen notes are marked, one after the other. -/
def marksE (d : Dc) (l : List Sp) (ns : List Nt) : List Int := ns.foldl (fun ms n => if seenE d l n.id = true then markE d d.notes.length ms n.id else ms) []
theorem cnt_all (d : Dc) (ms : List Int) : cntM d ms ≤ d.notes.length := List.length_filter_le _ _
theorem marks_snoc {d : Dc} {l : List Sp} {ns : List Nt} {k : Nat} (h : k < ns.length) : marksE d l (ns.take (k + 1)) = if seenE d l ns[k].id = true then markE d d.notes.length (marksE d l (ns.take k)) ns[k].id else marksE d l (ns.take k) := by
  unfold marksE
  rw [take_snoc' h, List.foldl_append]
  rfl
theorem seenE_of {d : Dc} (h : Rgt d) {l : List Sp} {n : Nt} (hn : n ∈ d.notes) : seenE d l n.id = seenB d l n := by
  unfold seenE
  rw [getN_of h hn, Bool.true_and]
theorem marks_ok {d : Dc} (h : Rgt d) (l : List Sp) : ∀ ns : List Nt, ∀ ms, ∃ ids, MarkOk d ms ids (ns.foldl (fun ms n => if seenE d l n.id = true then markE d d.notes.length ms n.id else ms) ms) ∧ ∀ i, i ∈ ids ↔ ∃ n ∈ ns, n.id = i ∧ seenE d l n.id = true
  | [], ms => ⟨[], MarkOk.nil d ms, by simp⟩
  | n :: ns, ms => by
    rw [List.foldl_cons]
    by_cases e : seenE d l n.id = true
    · rw [if_pos e]
      obtain ⟨ids, h1, h2⟩ := marks_ok h l ns (markE d d.notes.length ms n.id)
      refine ⟨[n.id] ++ ids, (markE_ok h _ ms n.id (cnt_all d ms)).append h1, fun i => ?_⟩
      rw [List.mem_append, List.mem_singleton, h2]
      constructor
      · rintro (rfl | ⟨m, hm, e1, e2⟩)
        · exact ⟨n, by simp, rfl, e⟩
        · exact ⟨m, by simp [hm], e1, e2⟩
      · rintro ⟨m, hm, e1, e2⟩
        rcases List.mem_cons.1 hm with rfl | hm
        · exact .inl e1.symm
        · exact .inr ⟨m, hm, e1, e2⟩
    · rw [if_neg e]
      obtain ⟨ids, h1, h2⟩ := marks_ok h l ns ms
      refine ⟨ids, h1, fun i => ?_⟩
      rw [h2]
      constructor
      · rintro ⟨m, hm, e1, e2⟩; exact ⟨m, by simp [hm], e1, e2⟩
      · rintro ⟨m, hm, e1, e2⟩
        rcases List.mem_cons.1 hm with rfl | hm
        · exact absurd e2 e
        · exact ⟨m, hm, e1, e2⟩
theorem marks_kept {d : Dc} (h : Rgt d) (l : List Sp) {n : Nt} (hn : n ∈ d.notes) : n.id ∈ marksE d l d.notes ↔ KeptP d l n := by
  obtain ⟨ids, h1, h2⟩ := marks_ok h l d.notes []
  change MarkOk d [] ids (marksE d l d.notes) at h1
  have same : ∀ {x y : Nt}, x ∈ d.notes → y ∈ d.notes → x.id = y.id → x = y := fun hx hy e => by
    have a1 := getN_of h hx
    have a2 := getN_of h hy
    rw [e, a2] at a1
    exact (congrArg Prod.fst a1).symm
  constructor
  · refine h1.only (KeptP d l) (fun x c hx hc => ?_) (fun x _ e => by cases e) (fun x hx e => ?_) n hn
    · obtain ⟨hc, e | ⟨e1, e2, e3⟩⟩ := hc
      · exact .up x c hx hc e
      · exact .sib x c hx hc e1 e2 e3
    · obtain ⟨m, hm, e1, e2⟩ := (h2 _).1 e
      have := same hm hx e1
      subst this
      exact .seen m hm (by rw [← seenE_of h hm]; exact e2)
  · intro hk
    induction hk with
    | seen n hn hs => exact h1.has n hn ((h2 _).2 ⟨n, hn, rfl, by rw [seenE_of h hn]; exact hs⟩)
    | up m p hm hp e ih => exact h1.shut m hm.mem (ih hm.mem) (by simp) p ⟨hp, .inl e⟩
    | sib m c hm hc e1 e2 e3 ih => exact h1.shut m hm.mem (ih hm.mem) (by simp) c ⟨hc, .inr ⟨e1, e2, e3⟩⟩
theorem marks_few {d : Dc} (h : Rgt d) (l : List Sp) (ns : List Nt) : (marksE d l ns).Nodup ∧ ∀ x ∈ marksE d l ns, ∃ n ∈ d.notes, n.id = x := by
  obtain ⟨ids, h1, _⟩ := marks_ok h l ns []
  exact ⟨h1.once (by simp), fun x hx => (h1.few x hx).elim (fun e => by cases e) id⟩
end Go.V

/- Contracts of chapter 9: spans without the wrong ones, and sorted. -/
namespace Go.V
open Go Go.Proofs Go.Sort Go.RowKit

def Sp.enc (s : Sp) : List Value := [.int .i64 s.fr, .int .i64 s.tO]
theorem sp_enc : RowEnc Sp.enc Sp.row 2 where
  pos := by decide
  len := fun _ => rfl
  one := by intro x v hv; simp [Sp.enc] at hv; rcases hv with rfl | rfl <;> rfl
  rlen := fun _ => rfl
  read := by
    intro w E x
    simp only [Sp.row, Sp.enc, Rcells, R, int]
    exact ⟨_, _, rfl, rfl, rfl, _, _, rfl, rfl, rfl, rfl⟩
  uniq := by
    intro w E x vs h
    simp only [Sp.row, Rcells, R, int] at h
    obtain ⟨_, _, rfl, _, rfl, _, _, rfl, _, rfl, rfl⟩ := h
    rfl
def cmpS (a b : Sp) : Int := cmpI a.fr b.fr
section
variable [Dr]
theorem isNaNd_ok (n : Int) : PureR Tryz.prog 84 [int n] (.bool false) := by
  refine pure_of_body mixed Tryz.func84 rfl call_84 ?_
  simp [Tryz.f84, int]
theorem compared_ok (a b : Int) : PureR Tryz.prog 54 [int a, int b] (int (cmpI a b)) := by
  refine pure_of_body mixed Tryz.func54 rfl call_54 ?_
  simp [Tryz.f54, int]
  refine ECall.pure (by rfl) (isNaNd_ok a) (by simp) ?_
  simp
  refine ECall.pure (by rfl) (isNaNd_ok b) (by simp) ?_
  simp [cmpI]
  refine ⟨fun h h' => by omega, fun h => by omega⟩
theorem union2_ok (a b : Sp) : PureR Tryz.prog 70 [.agg a.row, .agg b.row] (int (cmpS a b)) := by
  refine pure_of_body mixed Tryz.func70 rfl call_70 ?_
  simp (decide := true) [Tryz.f70, Sp.row, int]
  refine ECall.pure (by rfl) (compared_ok a.fr b.fr) (by simp [int]) ?_
  simp (decide := true) [int, cmpS]
end
theorem union2_lays {blk off size : Nat} {w : World} {E : Nat → Prop} (h1 : Seen w E) (hb : E blk) : Go.Proofs.CmpLays Tryz.prog 70 #[] Sp.enc 2 cmpS blk off size w := by
  let d : Dr := ⟨true⟩
  exact @cmpLays_of d _ _ _ _ _ _ _ rfl _ _ sp_enc (fun x y => @union2_ok d x y) _ _ _ _ _ h1 hb
def ltS : Sp → Sp → Bool := ltOf cmpS
theorem ltS_iff {a b : Sp} : ltS a b = true ↔ a.fr < b.fr := by
  unfold ltS ltOf cmpS
  rw [decide_eq_true_eq]
  simp only [cmpI]
  repeat' split
  all_goals omega
theorem ltS_false {a b : Sp} : ltS a b = false ↔ ¬ a.fr < b.fr := by
  rw [← ltS_iff, Bool.not_eq_true]
theorem swoS : SWO ltS where
  irrefl := fun x => by rw [ltS_false]; omega
  trans := fun x y z h1 h2 => by rw [ltS_iff] at *; omega
  ntrans := fun x y z h1 h2 => by rw [ltS_false] at *; omega
def sortS (l : List Sp) : List Sp := (pdq ltS l.toArray 0 l.length (Lib.bitLen l.length) true true).toList
theorem sortS_spec (l : List Sp) : PermIn 0 l.length l.toArray (pdq ltS l.toArray 0 l.length (Lib.bitLen l.length) true true) ∧ SortedIn ltS 0 l.length (pdq ltS l.toArray 0 l.length (Lib.bitLen l.length) true true) :=
  pdq_sorts ltS swoS l.toArray 0 l.length (Lib.bitLen l.length) true true (Nat.zero_le _) (by simp) (Or.inl rfl)
theorem sortS_length (l : List Sp) : (sortS l).length = l.length := by
  have := (sortS_spec l).1.1
  unfold sortS
  rw [Array.length_toList, this]; simp
theorem sortS_perm (l : List Sp) : (sortS l).Perm l := by
  obtain ⟨h1, _, h3⟩ := (sortS_spec l).1
  unfold sortS
  generalize pdq ltS l.toArray 0 l.length (Lib.bitLen l.length) true true = A at h1 h3
  have e1 : A.extract 0 l.length = A := by rw [show l.length = A.size by rw [h1]; simp]; simp
  have e2 : l.toArray.extract 0 l.length = l.toArray := by rw [show l.length = l.toArray.size by simp]; simp
  rw [e1, e2] at h3
  simpa using h3
theorem sortS_sorted (l : List Sp) : (sortS l).Pairwise fun a b => a.fr ≤ b.fr := by
  have hs := (sortS_spec l).2
  have hl := sortS_length l
  unfold sortS at hl ⊢
  generalize pdq ltS l.toArray 0 l.length (Lib.bitLen l.length) true true = A at hs hl
  rw [List.pairwise_iff_getElem]
  intro i j hi hj hij
  rw [Array.length_toList] at hl
  have := hs i j (Nat.zero_le _) hij (by rw [Array.length_toList] at hj; omega)
  rw [Array.length_toList] at hi hj
  have h2 : ltS A[j] A[i] = false := by simpa [getElem!_pos, hi, hj] using this
  rw [ltS_false] at h2
  simp only [Array.getElem_toList]
  omega
theorem enters_union2 : ∀ args w, (callFunc 70 args).run Tryz.prog w = .ok (.enter 70 args) w := enters_of Tryz.func70 (by kernel_rfl) rfl
theorem isAggS : ∀ w, (isAgg 39).run Tryz.prog w = .ok true w := fun w => by kernel_rfl
theorem sizeOfS : ∀ w, (Go.sizeOf 39).run Tryz.prog w = .ok 2 w := fun w => by kernel_rfl
theorem sortS_calls {w : World} {E : Nat → Prop} {β : Nat → Value} {vs : List Value} (l : List Sp) (hl : l.length < 4611686018427387904) (hvs : Sms w E β [.fn 70 []] vs) (hseen : Seen w E) (g cap : Nat) (hg : g < w.heap.size) (hE : E g) (hH : HoldsK Sp.enc 2 w g 0 l.toArray) :
    Calls Tryz.prog 69 (Value.slice (some ⟨g, 0, none⟩) l.length cap :: vs).toArray w fun e w' => e = .returned (.tuple #[]) ∧ ∃ n os, w' = sortWorldK Sp.enc 2 w g 0 n (sortS l).toArray os := by
  simp only [Sms, Sm, R, int] at hvs
  obtain ⟨_, _, rfl, ⟨_, rfl, rfl⟩, rfl⟩ := hvs
  have := AnyQ.slices_SortFunc_eq Tryz.sortSpan 2 isAggS sizeOfS Sp.enc sp_enc.len sp_enc.one cmpS swoS 70 #[] g 0 cap l.toArray w enters_union2
    (union2_lays hseen hE) hH hg (by simpa using hl)
  change Calls Tryz.prog 69 _ _ _ at this
  have e : (pdq (ltOf cmpS) l.toArray 0 l.toArray.size (Lib.bitLen l.toArray.size) true true) = (sortS l).toArray := by
    unfold sortS ltS; simp
  rw [e] at this
  simpa using this
theorem sortSA_ok (T : Nat) (l : List Sp) (hne : l ≠ []) (hl : l.length < 4611686018427387904) :
    CallC Tryz.prog 69 [.ar 0, .fn 70 []] [(0, .arr T 2 (l.map Sp.row))] 1 (.d (.tup [])) 1 [(0, .arr T 2 ((sortS l).map Sp.row))] [] :=
  sort_bridge sp_enc call_69 hne (sortS_length l) fun w E β vs hvs hseen g cap hg hE hH => sortS_calls l hl hvs hseen g cap hg hE hH
theorem sortSB_ok (T : Nat) (l r : List Sp) (hl : l.length < 4611686018427387904) :
    CallC Tryz.prog 69 [.as 0 2 0 l.length, .fn 70 []] [(0, .arr T 2 ((l ++ r).map Sp.row))] 1 (.d (.tup [])) 1 [(0, .arr T 2 ((sortS l ++ r).map Sp.row))] [] :=
  sort_bridge2 sp_enc call_69 (sortS_length l) fun w E β vs hvs hseen g cap hg hE hH => sortS_calls l hl hvs hseen g cap hg hE hH
theorem sortS0_ok : PureR Tryz.prog 69 [.sl [], .fn 70 []] (.tup []) := by
  have hg := run_sound mixed_X (mkG_good can_all) 20
  have hr : xcall (mkG Tryz.prog) (xdraw (mkG Tryz.prog)) 20 69 [.d (.sl []), .d (.fn 70 [])] [] 0 = some ⟨.tup [], 0, [], []⟩ := by kernel_rfl
  exact pureR_of_callC (ds := [.sl [], .fn 70 []]) (CallC.unit (hg _ _ _ _ _ hr (by simp [Sym.los, Sym.lo])))
end Go.V

/- Contracts of chapter 9: spans without some of them, in place (slices.DeleteFunc); a copy of spans. -/
namespace Go.V
open Go Go.Proofs

theorem takeS_set_succ {α : Type} {l : List α} {i : Nat} (v : α) (h : i < l.length) : (l.set i v).take (i + 1) = l.take i ++ [v] := by
  have hl : i < (l.set i v).length := by simpa using h
  rw [take_snoc' hl, List.getElem_set_self]
  congr 1
  apply List.ext_getElem?
  intro j
  simp only [List.getElem?_take, List.getElem?_set]
  by_cases hj : j < i
  · rw [if_pos hj, if_pos hj, if_neg (by omega)]
  · rw [if_neg hj, if_neg hj]
theorem dropS_set_lt {α : Type} {l : List α} {i j : Nat} (v : α) (h : i < j) : (l.set i v).drop j = l.drop j := by
  apply List.ext_getElem?
  intro k
  simp only [List.getElem?_drop, List.getElem?_set]
  rw [if_neg (by omega)]
theorem filterS_snoc {α : Type} {p : α → Bool} {l : List α} {k : Nat} (h : k < l.length) : (l.take (k + 1)).filter p = (l.take k).filter p ++ (if p l[k] = true then [l[k]] else []) := by
  rw [take_snoc' h, List.filter_append]
  by_cases e : p l[k] = true <;> simp [e]
theorem cloneS_ok (l : List Sp) (hl : l.length < 2^40) : PureF Tryz.prog 67 [spansD l] 39 2 (l.map Sp.row) := by
  refine fresh_of_body mixed Tryz.func67 rfl call_67 (by simp [Sp.row]) ?_
  simp [Tryz.f67, spansD, maxLen]
  exact ⟨fun a _ => rfl, by omega, by omega⟩
def delSym (k : Nat) : Sym := if k = 0 then .d (.sl []) else .as 0 2 0 k
def zeroSp (k : Nat) : List Sp := List.replicate k ⟨0, 0⟩
theorem deleteS0_ok (l : List Sp) (hl : l.length < 2^62) (f : Nat) (p : Sp → Bool) (hf : ∀ x ∈ l, PureR Tryz.prog f [.agg x.row] (.bool (p x))) (hi : l.findIdx? p = none) :
    CallC Tryz.prog 66 [.ar 0, .fn f []] [(0, .arr 39 2 (l.map Sp.row))] 1 (.ar 0) 1 [(0, .arr 39 2 (l.map Sp.row))] [] := by
  refine callC_of_body mixed Tryz.func66 rfl call_66 (by simp [Sym.los, Sym.lo]) ?_
  simp [Tryz.f66]
  refine ECall.pure (by rfl) (indexS_ok l hl f [] p hf) (fun _ => rfl) ?_
  have hidx : idxI p l = -1 := by simp [idxI, hi]
  simp (decide := true) [hidx, int]
set_option maxHeartbeats 2000000 in
theorem deleteS1_ok (l : List Sp) (hl : l.length < 2^62) (f : Nat) (p : Sp → Bool) (hf : ∀ x ∈ l, PureR Tryz.prog f [.agg x.row] (.bool (p x))) (k : Nat) (hi : l.findIdx? p = some k) :
    CallC Tryz.prog 66 [.ar 0, .fn f []] [(0, .arr 39 2 (l.map Sp.row))] 1
      (delSym (l.filter fun d => !p d).length) 1 [(0, .arr 39 2 (((l.filter fun d => !p d) ++ zeroSp (l.length - (l.filter fun d => !p d).length)).map Sp.row))] [] := by
  refine callC_of_body mixed Tryz.func66 rfl call_66 (by simp [Sym.los, Sym.lo]) ?_
  simp [Tryz.f66]
  refine ECall.pure (by rfl) (indexS_ok l hl f [] p hf) (fun _ => rfl) ?_
  have hidx : idxI p l = k := by simp [idxI, hi]
  rw [List.findIdx?_eq_some_iff_getElem] at hi
  obtain ⟨hk, hpk, hbef⟩ := hi
  have hn1 : ¬ (k : Int) = -1 := by omega
  simp (decide := true) [hidx, int, hn1, I64]
  refine ⟨by omega, ?_⟩
  have htk : (l.take (k + 1)).filter (fun d => !p d) = l.take k := by
    rw [filterS_snoc hk, List.filter_eq_self.2]
    · simp [hpk]
    · intro a ha
      rw [List.mem_take_iff_getElem] at ha
      obtain ⟨j, hj, rfl⟩ := ha
      have := hbef j (by omega)
      simpa using this
  refine loop_rule mixed (fun x : Nat × Nat × List Sp => { n := 42, next := 1, base := 1, slots := [(0, .ar 0), (1, .fn f []), (5, .d (.int .i64 x.2.1)), (6, .d (.int .i64 x.1))], own := [(0, .arr 39 2 (x.2.2.map Sp.row))] })
    (fun x => x.2.2.length = l.length ∧ x.2.1 < x.1 ∧ x.1 ≤ l.length ∧ x.2.2.take x.2.1 = (l.take x.1).filter (fun d => !p d) ∧ x.2.2.drop x.1 = l.drop x.1) (fun x => l.length - x.1) (k + 1, k, l) (by simp [htk]; omega) (by simp [int]) ?_
  rintro ⟨j, i, cur⟩ ⟨hcl, hij, hjl, htake, hdrop⟩
  simp only at hcl hij hjl htake hdrop
  by_cases hlt : j < l.length
  · have hcj : j < cur.length := by omega
    have hcur : cur[j] = l[j] := by
      have h1 : cur.drop j = cur[j] :: cur.drop (j + 1) := List.drop_eq_getElem_cons hcj
      have h2 : l.drop j = l[j] :: l.drop (j + 1) := List.drop_eq_getElem_cons hlt
      rw [h1, h2] at hdrop
      exact (List.cons.inj hdrop).1
    have hdrop' : cur.drop (j + 1) = l.drop (j + 1) := by
      have := congrArg (List.drop 1) hdrop
      rw [List.drop_drop, List.drop_drop] at this
      exact this
    have e1 : cur[j]? = some cur[j] := List.getElem?_eq_getElem hcj
    have hlt' : (j : Int) < cur.length := by omega
    have hfj : PureR Tryz.prog f [.agg cur[j].row] (.bool (p l[j])) := by rw [hcur]; exact hf l[j] (List.getElem_mem hlt)
    simp (decide := true) [hlt', hcj, e1, Sp.row, int, I64]
    refine ECall.pure (by rfl) hfj (fun _ => rfl) ?_
    cases hp : p l[j]
    · have hic : i < cur.length := by omega
      have e2 : cur[i]? = some cur[i] := List.getElem?_eq_getElem hic
      simp (decide := true) [hic, e2, Sp.row, int, I64]
      refine ⟨by omega, by omega, j + 1, i + 1, cur.set i cur[j], ⟨by simpa using hcl, by omega, hlt, ?_, ?_⟩, by omega, ⟨by omega, by omega⟩, by simp [List.map_set, Sp.row, int]⟩
      · rw [takeS_set_succ _ hic, filterS_snoc hlt, htake, hcur]; simp [hp]
      · rw [dropS_set_lt _ (by omega)]; exact hdrop'
    · simp (decide := true) [int, I64]
      refine ⟨by omega, j + 1, i, cur, ⟨hcl, by omega, hlt, ?_, hdrop'⟩, by omega, ⟨by omega, by omega⟩, rfl⟩
      rw [filterS_snoc hlt, htake]; simp [hp]
  · have hj : j = l.length := by omega
    subst hj
    have hlt' : ¬ (l.length : Int) < cur.length := by omega
    have hin : ¬ (i : Int) = (cur.length : Int) := by omega
    have hfin : cur.take i = (l.filter fun d => !p d) := by
      rw [htake, List.take_length]
    have hfl : (l.filter fun d => !p d).length = i := by rw [← hfin]; simp; omega
    rw [hfl]
    rw [← hfin]
    unfold delSym
    by_cases hi0 : i = 0
    · subst hi0
      have hc0 : ¬ (0 : Int) = (cur.length : Int) := by omega
      simp (decide := true) [hlt', int, I64, hc0]
      rw [List.drop_eq_nil_of_le (by simp), List.append_nil, hcl]
      simp [zeroSp, Sp.row, int]
    · have hi1 : ¬ (0 : Int) = (i : Int) := by omega
      simp (decide := true) [hlt', int, I64, hin, hi1]
      refine ⟨by omega, by omega, by omega, hi0, by rw [if_neg hi0]; simp [Sym.lo], ?_⟩
      rw [List.drop_eq_nil_of_le (by simp; omega), List.append_nil, hcl]
      simp [zeroSp, Sp.row, int]
end Go.V

/- Contract of chapter 46: marking a note and what must be kept with it, by the program. -/
namespace Go.V
open Go Go.Proofs

def markRows (ms : List Int) : List (List D) := ms.map fun i => [int i, .bool true]
theorem look_marks (id : Int) : ∀ ms : List Int, lookD (int id) (markRows ms) = some (if id ∈ ms then some (.bool true) else none)
  | [] => rfl
  | m :: r => by
    simp only [markRows, List.map_cons, lookD, keyEq, int]
    by_cases h : id = m
    · simp [h]
    · have := look_marks id r
      simp only [markRows, int] at this
      simp [h, this]
theorem put_marks (id : Int) : ∀ ms : List Int, id ∉ ms → putD (int id) (.bool true) (markRows ms) = some (markRows (ms ++ [id]))
  | [], _ => rfl
  | m :: r, h => by
    simp only [List.mem_cons, not_or] at h
    have := put_marks id r h.2
    simp only [markRows, int, List.map_cons, List.cons_append, putD, keyEq] at this ⊢
    simp [h.1, this]
abbrev markFn : Sym := .fn 28 [.bp 0 0, .bp 1 0, .bp 3 0]
def markOwn (d : Dc) (ms : List Int) : List (Nat × Obj') :=
  [(0, .box 28 (docCells d)), (1, .box 45 [.mp 2]), (2, .map 45 (markRows ms)), (3, .box 60 [markFn])]
def MarkC (d : Dc) (f : Nat) : Prop := ∀ (ms : List Int) (id : Int), cntM d ms ≤ f →
  CallC Tryz.prog 28 [.d (int id), .bp 0 0, .bp 1 0, .bp 3 0] (markOwn d ms) 4 (.d (.tup [])) 4 (markOwn d (markE d f ms id)) []
theorem kindAt {d : Dc} {n : Nt} (h : Nok d n) : d.tiers[n.tier.toNat]? = some (tirAt d n.tier) := by
  have h0 := h.t0
  have h1 := h.t1
  unfold tirAt
  rw [List.getElem?_eq_getElem (by omega)]; rfl
theorem fold_cnt {d : Dc} (h : Rgt d) {f : Nat} : ∀ (ks : List Int) (b : List Int), cntM d b ≤ f → cntM d (ks.foldl (markE d f) b) ≤ f
  | [], b, hb => hb
  | k :: ks, b, hb => by
    rw [List.foldl_cons]
    refine fold_cnt h ks _ ?_
    have := cnt_le (d := d) (markE_ok h f b k hb).sub
    omega
set_option maxHeartbeats 4000000 in
theorem mark_none (d : Dc) (h : Rgt d) (f : Nat) (ms : List Int) (id : Int) (hn : ¬ ((getN d.notes id).2 = true ∧ id ∉ ms)) :
    CallC Tryz.prog 28 [.d (int id), .bp 0 0, .bp 1 0, .bp 3 0] (markOwn d ms) 4 (.d (.tup [])) 4 (markOwn d ms) [] := by
  have hfew := h.few
  refine CallC.unit (callC_of_body mixed Tryz.func28 rfl call_28 (by simp [Sym.los, Sym.lo]) ?_)
  have hL := look_marks id ms
  have hG := get_ok d id (by omega)
  generalize getN d.notes id = r at hn hG
  obtain ⟨n, ok⟩ := r
  simp (decide := true) [Tryz.f28, markOwn, docD, Dc.row, int]
  refine ECall.pure (by rfl) hG (by simp (decide := true) [docD, Dc.row, int]) ?_
  simp only [int] at hL
  cases ok with
  | false =>
    simp (decide := true) [getD', Nt.row, int]
  | true =>
    have hm : id ∈ ms := by
      by_cases e : id ∈ ms
      · exact e
      · exact absurd ⟨rfl, e⟩ hn
    rw [if_pos hm] at hL
    simp (decide := true) [getD', Nt.row, int, hL]
set_option maxHeartbeats 4000000 in
theorem mark_step (d : Dc) (h : Rgt d) (h20 : d.notes.length < 20) (f : Nat) (ih : MarkC d f) (ms : List Int) (id : Int) (hc : cntM d ms ≤ f + 1) (hg : (getN d.notes id).2 = true) (hm : id ∉ ms) :
    CallC Tryz.prog 28 [.d (int id), .bp 0 0, .bp 1 0, .bp 3 0] (markOwn d ms) 4 (.d (.tup [])) 4 (markOwn d ((kidsK d (getN d.notes id).1).foldl (markE d f) (markE d f (ms ++ [id]) (getN d.notes id).1.par))) [] := by
  have hfew := h.few
  refine CallC.unit (callC_of_body mixed Tryz.func28 rfl call_28 (by simp [Sym.los, Sym.lo]) ?_)
  have hL := look_marks id ms
  have hP := put_marks id ms hm
  have hG := get_ok d id (by omega)
  have hN := getN_mem hg
  rw [if_neg hm] at hL
  generalize getN d.notes id = r at hg hG hN
  obtain ⟨n, ok⟩ := r
  simp only at hg hN
  subst hg
  obtain ⟨hn, he⟩ := hN
  subst he
  have hlt := cnt_lt hn hm
  have hok := h.nok n hn
  have ht0 := hok.t0
  have ht1 := hok.t1
  have hka := kindAt hok
  have hi1 := ih (ms ++ [n.id]) n.par (by omega)
  have hsub := (markE_ok h f (ms ++ [n.id]) n.par (by omega)).sub
  have hK := kidsN_ok d n.par n.tier h20
  simp only [int] at hL hP
  simp (decide := true) [Tryz.f28, markOwn, docD, Dc.row, int]
  refine ECall.pure (by rfl) hG (by simp (decide := true) [docD, Dc.row, int]) ?_
  simp (decide := true) [getD', Nt.row, int, hL, hP]
  refine ECall.mut [0, 1, 2, 3] [.d (int n.par), .bp 0 0, .bp 1 0, .bp 3 0] (markOwn d (ms ++ [n.id])) (by rfl) (by simp [int]) (by simp [Sym.los, Sym.lo]) (by simp [markOwn, docCells, int, docD, Dc.row]; rfl) hi1 ?_
  have hm2 : cntM d (markE d f (ms ++ [n.id]) n.par) ≤ f := by have := cnt_le (d := d) hsub; omega
  generalize markE d f (ms ++ [n.id]) n.par = m2 at hm2
  obtain ⟨tt, ett⟩ : ∃ tt, tirAt d n.tier = tt := ⟨_, rfl⟩
  rw [ett] at hka
  obtain ⟨nm, kd, rl, pr⟩ := tt
  have htl : n.tier.toNat < d.tiers.length := by omega
  have hkg : d.tiers[n.tier.toNat] = ⟨nm, kd, rl, pr⟩ := by rw [List.getElem?_eq_getElem htl] at hka; exact Option.some.inj hka
  have hkk : kidsK d n = if kd = 1 then idsOf (kidsN d n.par n.tier) else [] := by unfold kidsK; rw [ett]
  by_cases k1 : kd = 1
  case neg =>
    rw [if_neg k1] at hkk
    rw [hkk]
    simp (decide := true) [markOwn, int, tiersD, docCells, docD, Dc.row, hka, hkg, htl, Tir.row, k1, ht0, ht1]
    done
  subst k1
  rw [if_pos rfl] at hkk
  rw [hkk]
  simp (decide := true) [markOwn, int, tiersD, docCells, docD, Dc.row, hka, hkg, htl, Tir.row, ht0, ht1]
  refine ECall.pure (by rfl) hK.toR (by simp (decide := true) [docD, Dc.row, int, tiersD]) ?_
  have hkl : (idsOf (kidsN d n.par n.tier)).length ≤ 20 := by
    unfold idsOf kidsN
    rw [List.length_map, isort_length]
    have := List.length_filter_le (kidB d n.par n.tier) d.notes
    omega
  generalize idsOf (kidsN d n.par n.tier) = ks at hkl
  simp (decide := true) [int, ints]
  refine loop_rule mixed (fun k : Nat => { n := 51, next := 5, base := 4, slots := [(1, .bp 0 0), (2, .bp 1 0), (3, .bp 3 0), (41, .d (ints ks)), (42, .d (.int .i64 ks.length)), (43, .d (.int .i64 k))], own := markOwn d ((ks.take k).foldl (markE d f) m2) })
    (fun k => k ≤ ks.length) (fun k => ks.length - k) 0 (by simp) (by simp (decide := true) [int, ints, markOwn, docCells, tiersD]) ?_
  intro k hk
  by_cases hltk : k < ks.length
  case neg =>
    have : k = ks.length := by omega
    subst this
    rw [List.take_length]
    simp (decide := true) [int, ints, markOwn, docCells, tiersD]
  have hltk' : (k : Int) < ks.length := by omega
  have e1 : ks[k]? = some ks[k] := List.getElem?_eq_getElem hltk
  have hsn : (ks.take (k + 1)).foldl (markE d f) m2 = markE d f ((ks.take k).foldl (markE d f) m2) ks[k] := by rw [take_snoc' hltk, List.foldl_append]; rfl
  have hcn := fold_cnt h (ks.take k) m2 hm2
  generalize (ks.take k).foldl (markE d f) m2 = m3 at hsn hcn
  have hi2 := ih m3 ks[k] hcn
  obtain ⟨kid, ek⟩ : ∃ kid, ks[k] = kid := ⟨_, rfl⟩
  rw [ek] at e1 hsn hi2
  simp (decide := true) [int, ints, markOwn, docCells, tiersD, e1, ek, hltk, hltk', I64]
  refine ECall.mut [0, 1, 2, 3] [.d (int kid), .bp 0 0, .bp 1 0, .bp 3 0] (markOwn d m3) (by rfl) (by simp [int]) (by simp [Sym.los, Sym.lo]) (by simp [markOwn, docCells, int, ints, tiersD, docD, Dc.row]; rfl) hi2 ?_
  simp (decide := true) [int, ints, markOwn, docCells, tiersD, I64]
  exact ⟨⟨by omega, by omega⟩, k + 1, hltk, by omega, by omega, by rw [hsn]⟩
theorem mark_ok (d : Dc) (h : Rgt d) (h20 : d.notes.length < 20) : ∀ f, MarkC d f
  | 0, ms, id, hc => mark_none d h 0 ms id fun ⟨h1, h2⟩ => by
    obtain ⟨n1, n2⟩ := getN_mem h1
    have := cnt_lt n1 (by rw [n2]; exact h2)
    omega
  | f + 1, ms, id, hc => by
    have ih := mark_ok d h h20 f
    unfold markE
    by_cases hg : (getN d.notes id).2 = true ∧ id ∉ ms
    · rw [if_pos hg]; exact mark_step d h h20 f ih ms id hc hg.1 hg.2
    · rw [if_neg hg]; exact mark_none d h (f + 1) ms id hg
end Go.V

/- Contract of chapter 9: the times of a list of spans, sorted and joined, by the program. -/
namespace Go.V
open Go Go.Proofs
section
variable [Dr] [Ov]
variable {P : Program} {st : St} {Q : DE → St → Prop}
theorem pure_of_bodyTf {f : Nat} {fn : Func} {c : Code} (hf : P.funcs[f]? = some fn) (hb : fn.body = some c) (hcall : callable P f = true) {args : List D} {r : D} (ids : List Nat)
    (h : Triple P c (atRet (frzR ids (resIs P fn.results.toList r))) (initSt fn.ntmps args)) : PureR P f args r := by
  refine ⟨hcall, fun w E vs hE hr => ?_⟩
  refine calls_of_wp hf hb ?_
  refine wp_mono (h E (.of w) _ _ w (Mods.init hE hr)) ?_
  rintro e a' w' ⟨de, st', β', he, hq, hm'⟩
  cases e <;> cases de <;> simp only [exM] at he
  · obtain ⟨v, h1, h2⟩ := res_sound (hm'.frzs (l := ids)) hq
    exact ⟨hm'.defers, v, h1, v, rfl, hm'.below.below, h2⟩
  · exact hq.elim
  · obtain ⟨v, h1, h2⟩ := res_sound (hm'.frzs (l := ids)) hq
    exact ⟨hm'.defers, v, h1, v, rfl, hm'.below.below, h2⟩
end
def US (L : List Sp) : St := { n := 53, next := 2, slots := [(0, .d (spansD L))], own := [] }
theorem stepU_len (out : List Sp) (s : Sp) : (stepU out s).length ≤ out.length + 1 := by
  unfold stepU
  split
  · split
    · simp
    · simp
  · simp
theorem foldU_len : ∀ (L out : List Sp), (L.foldl stepU out).length ≤ out.length + L.length
  | [], out => by simp
  | s :: L, out => by
    rw [List.foldl_cons, List.length_cons]
    have h1 := foldU_len L (stepU out s)
    have h2 := stepU_len out s
    omega
set_option maxHeartbeats 4000000 in
theorem union_tail (L : List Sp) (hl : L.length < 2^40) :
    Triple Tryz.prog (tailC 3 (Tryz.f42.body.getD .skip)) (atRet (frzR [2] (resIs Tryz.prog Tryz.f42.results.toList (spansD (L.foldl stepU []))))) (US L) := by
  refine ev_sound mixed ?_
  simp (decide := true) [Tryz.f42, tailC, US, spansD]
  refine loop_rule mixed (fun k : Nat => { n := 53, next := 3, slots := [(3, .ar 2), (12, .d (spansD L)), (13, .d (.int .i64 L.length)), (14, .d (.int .i64 k))], own := [(2, .arr 39 2 (((L.take k).foldl stepU []).map Sp.row))], moved := [2] })
    (fun k => k ≤ L.length) (fun k => L.length - k) 0 (by simp) (by simp (decide := true) [int, spansD]) ?_
  intro k hk
  by_cases hlt : k < L.length
  case neg =>
    have : k = L.length := by omega
    subst this
    rw [List.take_length]
    simp (decide := true) [int, spansD]
  have hlt' : (k : Int) < L.length := by omega
  have hsn : (L.take (k + 1)).foldl stepU [] = stepU ((L.take k).foldl stepU []) L[k] := by rw [take_snoc' hlt, List.foldl_append]; rfl
  have hlen := foldU_len (L.take k) []
  rw [List.length_take, List.length_nil] at hlen
  generalize (L.take k).foldl stepU [] = out at hsn hlen ⊢
  have e1 : L[k]? = some L[k] := List.getElem?_eq_getElem hlt
  obtain ⟨s, es⟩ : ∃ s, L[k] = s := ⟨_, rfl⟩
  rw [es] at e1 hsn
  rcases List.eq_nil_or_concat out with rfl | ⟨pre, c, rfl⟩
  · simp (decide := true) [int, spansD, Sp.row, hlt, hlt', e1, es, I64]
    exact ⟨⟨by omega, by omega⟩, k + 1, hlt, by omega, by omega, by rw [hsn]; rfl⟩
  · have hpl : (pre ++ [c])[pre.length]? = some c := by simp
    rw [List.concat_eq_append] at hlen hsn ⊢
    rw [stepU_last] at hsn
    rw [List.length_append, List.length_singleton] at hlen
    simp (decide := true) [int, spansD, Sp.row, hlt, hlt', e1, es, hpl, I64]
    refine ⟨by omega, by omega, fun hsc => ?_, fun hsc => ?_⟩
    · rw [if_pos hsc] at hsn
      refine draw_s mixed 14 (by rfl) rfl rfl rfl rfl (by rfl) (by simp) ?_
      simp (decide := true) [int, spansD, Sp.row, hpl, hsc, I64]
      have hmx : (if c.tO < s.tO then s.tO else c.tO) = max c.tO s.tO := by
        rw [Int.max_def]; split <;> split <;> omega
      exact ⟨by omega, by omega, ⟨by omega, by omega⟩, k + 1, hlt, by omega, by omega, by rw [hsn, hmx]; simp [Sp.row, int]⟩
    · rw [if_neg (by omega)] at hsn
      exact ⟨by omega, by unfold maxLen; omega, ⟨by omega, by omega⟩, k + 1, hlt, by omega, by omega, by rw [hsn]; simp [Sp.row, int]⟩
def unionS (l : List Sp) : List Sp := unionP (sortS (l.filter fun s => s.rt))
theorem unionQ_ok (s : Sp) : PureR Tryz.prog 68 [.agg s.row] (.bool (!s.rt)) := by
  refine pure_of_body mixed Tryz.func68 rfl call_68 ?_
  simp (decide := true) [Tryz.f68, Sp.row, int]
  refine ECall.pure (by rfl) (right_ok s.fr s.tO) (by simp) ?_
  simp (decide := true) [Sp.rt, int]
def UA (a : Sym) (rows : List (List D)) : St := { n := 53, next := 2, slots := [(0, a)], own := [(1, .arr 39 2 rows)] }
set_option maxHeartbeats 4000000 in
theorem union_ok (l : List Sp) (hl : l.length < 2^40) : PureR Tryz.prog 42 [spansD l] (spansD (unionS l)) := by
  have hkeep : (l.filter fun d => !!d.rt) = l.filter fun s => s.rt := List.filter_congr fun x _ => by simp
  have hfl := List.length_filter_le (fun s : Sp => s.rt) l
  have hsl := sortS_length (l.filter fun s => s.rt)
  have htail := union_tail (sortS (l.filter fun s => s.rt)) (by omega)
  rw [foldU_nil] at htail
  change Triple _ _ (atRet (frzR [2] (resIs _ _ (spansD (unionS l))))) _ at htail
  refine pure_of_bodyTf Tryz.func42 rfl call_42 [2] ?_
  have hp : ∀ x ∈ l, PureR Tryz.prog 68 [.agg x.row] (.bool (!x.rt)) := fun x _ => unionQ_ok x
  have hs0 : sortS [] = [] := List.eq_nil_of_length_eq_zero (sortS_length [])
  cases hi : l.findIdx? fun s => !s.rt with
  | none =>
    have hall : (l.filter fun s => s.rt) = l := by
      rw [List.filter_eq_self]
      intro a ha
      rw [List.findIdx?_eq_none_iff] at hi
      have := hi a ha
      simpa using this
    rw [hall] at htail hsl
    cases l with
    | nil =>
      rw [hs0] at htail
      refine cut_ev mixed 3 (US []) rfl ?_ htail
      have hp0 : ([] : List Sp).map Sp.row = [] := rfl
      simp (decide := true) [Tryz.f42, headC, US, spansD]
      refine ECall.fresh (by rfl) (cloneS_ok [] hl) (by simp) ?_
      simp (decide := true) [spansD]
      refine ECall.mut [1] [.ar 0, .fn 68 []] [(0, .arr 39 2 (([] : List Sp).map Sp.row))] (by rfl) (by simp) (by simp [Sym.los, Sym.lo]) (by simp) (deleteS0_ok [] (by simp) _ _ (fun _ h => by cases h) hi) ?_
      simp (decide := true)
      refine ecall_frz (by rfl) sortS0_ok (by simp) ?_
      simp (decide := true)
    | cons a r =>
      refine cut_ev mixed 3 (UA (.ar 1) ((sortS (a :: r)).map Sp.row)) rfl ?_ (triple_frz [1] ?_)
      · simp (decide := true) [Tryz.f42, headC, UA, spansD]
        refine ECall.fresh (by rfl) (cloneS_ok (a :: r) hl) (by simp) ?_
        simp (decide := true) [spansD]
        refine ECall.mut [1] [.ar 0, .fn 68 []] [(0, .arr 39 2 ((a :: r).map Sp.row))] (by rfl) (by simp) (by simp [Sym.los, Sym.lo]) (by simp) (deleteS0_ok (a :: r) (by omega) _ _ hp hi) ?_
        simp (decide := true)
        refine ECall.mut [1] [.ar 0, .fn 70 []] [(0, .arr 39 2 ((a :: r).map Sp.row))] (by rfl) (by simp) (by simp [Sym.los, Sym.lo]) (by simp) (sortSA_ok _ (a :: r) (by simp) (by omega)) ?_
        simp (decide := true)
      · have := htail
        simp (decide := true) [US, UA, spansD] at this ⊢
        exact this
  | some k =>
    have hk0 := deleteS1_ok l (by omega) _ _ hp k hi
    rw [hkeep] at hk0
    generalize hF : (l.filter fun s => s.rt) = F at hk0 htail hsl hfl
    by_cases hz : F = []
    · subst hz
      rw [hs0] at htail
      refine cut_ev mixed 3 (US []) rfl ?_ htail
      simp (decide := true) [Tryz.f42, headC, US, spansD]
      refine ECall.fresh (by rfl) (cloneS_ok l hl) (by simp) ?_
      simp (decide := true) [spansD]
      refine ECall.mut [1] [.ar 0, .fn 68 []] [(0, .arr 39 2 (l.map Sp.row))] (by rfl) (by simp) (by simp [Sym.los, Sym.lo]) (by simp) hk0 ?_
      simp (decide := true) [delSym]
      refine ECall.pure (by rfl) sortS0_ok (by simp) ?_
      simp (decide := true)
    · have hd : delSym F.length = .as 0 2 0 F.length := by
        unfold delSym; rw [if_neg]; intro e; exact hz (List.eq_nil_of_length_eq_zero e)
      rw [hd] at hk0
      refine cut_ev mixed 3 (UA (.as 1 2 0 F.length) ((sortS F ++ zeroSp (l.length - F.length)).map Sp.row)) rfl ?_ (triple_frz [1] ?_)
      · simp (decide := true) [Tryz.f42, headC, UA, spansD]
        refine ECall.fresh (by rfl) (cloneS_ok l hl) (by simp) ?_
        simp (decide := true) [spansD]
        refine ECall.mut [1] [.ar 0, .fn 68 []] [(0, .arr 39 2 (l.map Sp.row))] (by rfl) (by simp) (by simp [Sym.los, Sym.lo]) (by simp) hk0 ?_
        simp (decide := true)
        refine ECall.mut [1] [.as 0 2 0 F.length, .fn 70 []] [(0, .arr 39 2 ((F ++ zeroSp (l.length - F.length)).map Sp.row))] (by rfl) (by simp) (by simp [Sym.los, Sym.lo]) (by simp) (sortSB_ok _ F (zeroSp (l.length - F.length)) (by omega)) ?_
        simp (decide := true)
      · have := htail
        simp (decide := true) [US, UA, spansD] at this ⊢
        rw [List.take_left' (by simp [hsl])]
        rw [if_pos]
        · exact this
        · refine ⟨by omega, ?_⟩
          cases hS : sortS F with
          | nil => rw [hS] at hsl; exact absurd (List.eq_nil_of_length_eq_zero hsl.symm) hz
          | cons a r => rfl
theorem unionS_len (l : List Sp) : (unionS l).length ≤ l.length := by
  have hfl := List.length_filter_le (fun s : Sp => s.rt) l
  have hsl := sortS_length (l.filter fun s => s.rt)
  unfold unionS
  rw [← foldU_nil]
  have := foldU_len (sortS (l.filter fun s => s.rt)) []
  simp only [List.length_nil] at this
  omega
/-- Covers, by the program, is that of the reference. -/
theorem spanCovers_ok (l : List Sp) (hl : l.length < 2^40) (s : Sp) : PureR Tryz.prog 27 [spansD l, .agg s.row] (.bool (coversS l s)) := by
  have h1 := spanCovers_of l (unionS l) (by have := unionS_len l; omega) (union_ok l hl) s
  have h2 : (s.rt && (unionS l).any (inSp s)) = coversS l s := by
    unfold unionS
    refine covers_union (fun y => ?_) (sortS_sorted _) s
    rw [(sortS_perm _).mem_iff, List.mem_filter]
  rw [h2] at h1
  exact h1
end Go.V

/- Contracts of chapter 46: the notes that are seen and hidden, whether a document is clean, by the program. -/
namespace Go.V
open Go Go.Proofs

theorem seen_ok (d : Dc) (h : Rgt d) (l : List Sp) (hl : l.length < 2^40) (id : Int) : PureR Tryz.prog 12 [docD d, spansD l, int id] (.bool (seenE d l id)) := by
  refine pure_of_body mixed Tryz.func12 rfl call_12 ?_
  simp (decide := true) [Tryz.f12, docD, Dc.row, int, spansD]
  refine ECall.pure (by rfl) (where_ok d h id) (by simp (decide := true) [docD, Dc.row, int]) ?_
  unfold seenE whereD seenB
  generalize getN d.notes id = r
  obtain ⟨n, ok⟩ := r
  cases ok with
  | false => simp (decide := true) [int]
  | true =>
    have hc := spanCovers_ok l hl (whereN d n)
    generalize coversS l (whereN d n) = b at hc ⊢
    generalize whereN d n = s at hc ⊢
    simp (decide := true) [int, Sp.row]
    refine ECall.pure (by rfl) hc (by simp (decide := true) [spansD, Sp.row, int]) ?_
    simp (decide := true) [int]
set_option maxHeartbeats 4000000 in
theorem hidden_ok (d : Dc) (h : Rgt d) (l : List Sp) (hl : l.length < 2^40) : PureR Tryz.prog 14 [docD d, spansD l] (ints (idsOf (hidN d l d.notes))) := by
  have hfew := h.few
  refine pure_of_body_frz mixed Tryz.func14 rfl call_14 [1] ?_
  simp (decide := true) [Tryz.f14, docD, Dc.row, int, spansD, notesD]
  refine loop_rule mixed (fun k : Nat => { n := 28, next := 3, slots := [(1, .d (spansD l)), (2, .bp 0 0), (5, .ar 2), (9, .d (notesD d.notes)), (10, .d (.int .i64 d.notes.length)), (11, .d (.int .i64 k))], own := [(0, .box 28 (docCells d)), (2, .arr 3 1 ((idsOf (hidN d l (d.notes.take k))).map fun n => [int n]))], moved := [2] })
    (fun k => k ≤ d.notes.length) (fun k => d.notes.length - k) 0 (by simp) (by simp (decide := true) [int, idsOf, hidN, spansD, notesD]) ?_
  intro k hk
  by_cases hlt : k < d.notes.length
  case neg =>
    have : k = d.notes.length := by omega
    subst this
    rw [List.take_length]
    simp (decide := true) [int, ints, notesD]
  have hlt' : (k : Int) < d.notes.length := by omega
  have hsn := hidN_snoc (d := d) (l := l) hlt
  have hlen := hidN_len d l (d.notes.take k)
  rw [List.length_take] at hlen
  obtain ⟨m, em'⟩ : ∃ m, d.notes[k] = m := ⟨_, rfl⟩
  have em : d.notes[k]? = some m := by rw [List.getElem?_eq_getElem hlt, em']
  have hS := seen_ok d h l hl m.id
  rw [em'] at hsn
  have hil : ∀ L : List Nt, (idsOf L).length = L.length := fun L => by simp [idsOf]
  simp (decide := true) [int, ints, notesD, spansD, Nt.row, hlt, hlt', em, em', I64]
  refine ECall.pure (by rfl) hS (by simp (decide := true) [docD, Dc.row, int, ints, tiersD, notesD, spansD]) ?_
  cases hs : seenE d l m.id with
  | true =>
    rw [if_pos hs, List.append_nil] at hsn
    simp (decide := true) [int, ints, notesD, spansD, Nt.row, hlt, hlt', em, em', I64]
    exact ⟨⟨by omega, by omega⟩, k + 1, hlt, by omega, by omega, by rw [hsn]⟩
  | false =>
    rw [if_neg (by rw [hs]; decide)] at hsn
    simp (decide := true) [int, ints, notesD, spansD, Nt.row, hlt, hlt', em, em', hil, I64]
    refine ⟨by omega, by unfold maxLen; omega, ⟨by omega, by omega⟩, k + 1, hlt, by omega, by omega, by rw [hsn]; simp [idsOf]⟩
theorem bytes_nil {s : ByteArray} : s.toList = [] ↔ s = ⟨#[]⟩ := by
  have h0 : (⟨#[]⟩ : ByteArray).toList = [] := by decide +kernel
  constructor
  · intro e; exact bytes_toList.1 (e.trans h0.symm)
  · rintro rfl; exact h0
set_option maxHeartbeats 4000000 in
theorem clean_ok (d : Dc) (h : Rgt d) (l : List Sp) (hl : l.length < 2^40) : PureR Tryz.prog 8 [docD d, spansD l] (.bool (clnE d l)) := by
  have hfew := h.few
  refine pure_of_body mixed Tryz.func8 rfl call_8 ?_
  simp (decide := true) [Tryz.f8, docD, Dc.row, int, spansD, notesD]
  refine loop_rule mixed (fun k : Nat => { n := 26, next := 1, slots := [(1, .d (spansD l)), (2, .bp 0 0), (8, .d (notesD d.notes)), (9, .d (.int .i64 d.notes.length)), (10, .d (.int .i64 k))], own := [(0, .box 28 (docCells d))] })
    (fun k => k ≤ d.notes.length ∧ ∀ x ∈ d.notes.take k, seenE d l x.id = false → x.text = ⟨#[]⟩) (fun k => d.notes.length - k) 0 (by simp) (by simp (decide := true) [int, spansD, notesD]) ?_
  rintro k ⟨hk, hp⟩
  by_cases hlt : k < d.notes.length
  case neg =>
    have : k = d.notes.length := by omega
    subst this
    rw [List.take_length] at hp
    have : clnE d l = true := by
      unfold clnE
      rw [List.all_eq_true]
      intro x hx
      unfold hidN at hx
      rw [List.mem_filter] at hx
      rw [decide_eq_true_eq]
      exact hp x hx.1 (by simpa using hx.2)
    rw [this]
    simp (decide := true) [int, ints, notesD]
  have hlt' : (k : Int) < d.notes.length := by omega
  obtain ⟨m, em'⟩ : ∃ m, d.notes[k] = m := ⟨_, rfl⟩
  have hmm : m ∈ d.notes := by rw [← em']; exact List.getElem_mem hlt
  have em : d.notes[k]? = some m := by rw [List.getElem?_eq_getElem hlt, em']
  have hS := seen_ok d h l hl m.id
  have hnext : (seenE d l m.id = false → m.text = ⟨#[]⟩) → ∀ x ∈ d.notes.take (k + 1), seenE d l x.id = false → x.text = ⟨#[]⟩ := by
    intro hm x hx
    rw [take_snoc' hlt, em'] at hx
    rcases List.mem_append.1 hx with hx | hx
    · exact hp x hx
    · rw [List.mem_singleton] at hx; rw [hx]; exact hm
  by_cases ht : m.text = ⟨#[]⟩
  · simp (decide := true) [int, ints, notesD, spansD, Nt.row, hlt, hlt', em, em', ht, I64]
    exact ⟨⟨by omega, by omega⟩, k + 1, ⟨hlt, hnext fun _ => ht⟩, by omega, by omega⟩
  · have ht' : ¬ m.text.toList = [] := fun e => ht (bytes_nil.1 e)
    simp (decide := true) [int, ints, notesD, spansD, Nt.row, hlt, hlt', em, em', ht', I64]
    refine ECall.pure (by rfl) hS (by simp (decide := true) [docD, Dc.row, int, ints, tiersD, notesD, spansD]) ?_
    cases hs : seenE d l m.id with
    | true =>
      simp (decide := true) [int, ints, notesD, spansD, Nt.row, ht', I64]
      exact ⟨⟨by omega, by omega⟩, k + 1, ⟨hlt, hnext fun e => by rw [hs] at e; cases e⟩, by omega, by omega⟩
    | false =>
      have : clnE d l = false := by
        unfold clnE
        rw [List.all_eq_false]
        refine ⟨m, ?_, by simpa using ht⟩
        unfold hidN
        rw [List.mem_filter]
        exact ⟨hmm, by rw [hs]; rfl⟩
      rw [this]
      simp (decide := true) [int, ints, notesD, spansD, Nt.row, ht', I64]
def keptOwn (d : Dc) (ms : List Int) : List (Nat × Obj') :=
  [(0, .box 28 (docCells d)), (1, .map 45 (markRows ms)), (2, .box 45 [.mp 1]), (3, .box 60 [.fn 28 [.bp 0 0, .bp 2 0, .bp 3 0]])]
set_option maxHeartbeats 4000000 in
/-- The notes that are marked, by their Ids. -/
theorem kept_ok (d : Dc) (h : Rgt d) (h20 : d.notes.length < 20) (l : List Sp) (hl : l.length < 2^40) : PureR Tryz.prog 16 [docD d, spansD l] (.mp (markRows (marksE d l d.notes))) := by
  have hfew := h.few
  refine pure_of_body_frz mixed Tryz.func16 rfl call_16 [2] ?_
  simp (decide := true) [Tryz.f16, docD, Dc.row, int, spansD, notesD]
  refine loop_rule mixed (fun k : Nat => { n := 29, next := 4, slots := [(1, .d (spansD l)), (2, .bp 0 0), (5, .bp 2 0), (6, .bp 3 0), (12, .d (notesD d.notes)), (13, .d (.int .i64 d.notes.length)), (14, .d (.int .i64 k))], own := keptOwn d (marksE d l (d.notes.take k)) })
    (fun k => k ≤ d.notes.length) (fun k => d.notes.length - k) 0 (by simp) (by simp (decide := true) [int, spansD, notesD, keptOwn, marksE, markRows]) ?_
  intro k hk
  by_cases hlt : k < d.notes.length
  case neg =>
    have : k = d.notes.length := by omega
    subst this
    rw [List.take_length]
    simp (decide := true) [int, ints, notesD, keptOwn]
    done
  have hlt' : (k : Int) < d.notes.length := by omega
  have hsn := marks_snoc (d := d) (l := l) hlt
  obtain ⟨m, em'⟩ : ∃ m, d.notes[k] = m := ⟨_, rfl⟩
  have em : d.notes[k]? = some m := by rw [List.getElem?_eq_getElem hlt, em']
  have hS := seen_ok d h l hl m.id
  rw [em'] at hsn
  generalize marksE d l (d.notes.take k) = ms at hsn
  have hM := mark_ok d h h20 d.notes.length ms m.id (cnt_all d ms)
  simp (decide := true) [int, ints, notesD, spansD, Nt.row, hlt, hlt', em, em', keptOwn, I64]
  refine ECall.pure (by rfl) hS (by simp (decide := true) [docD, Dc.row, int, ints, tiersD, notesD, spansD]) ?_
  cases hs : seenE d l m.id with
  | false =>
    rw [if_neg (by rw [hs]; decide)] at hsn
    simp (decide := true) [int, ints, notesD, spansD, Nt.row, hlt, hlt', em, em', keptOwn, I64]
    exact ⟨⟨by omega, by omega⟩, k + 1, hlt, by omega, by omega, by rw [hsn]⟩
  | true =>
    rw [if_pos hs] at hsn
    simp (decide := true) [int, ints, notesD, spansD, Nt.row, hlt, hlt', em, em', keptOwn, I64]
    refine ECall.mut [0, 2, 1, 3] [.d (int m.id), .bp 0 0, .bp 1 0, .bp 3 0] (markOwn d ms) (by rfl) (by simp [int]) (by simp [Sym.los, Sym.lo]) (by simp [markOwn, docCells, int, ints, tiersD, docD, Dc.row, notesD]; rfl) hM ?_
    simp (decide := true) [int, ints, markOwn, keptOwn, docCells, tiersD, notesD, I64]
    exact ⟨⟨by omega, by omega⟩, k + 1, hlt, by omega, by omega, by rw [hsn]⟩
end Go.V

/- Contracts of chapter 46: the notes that are kept, and what a viewer sees, by the program. -/
namespace Go.V
open Go Go.Proofs

def isKept (d : Dc) (l : List Sp) (n : Nt) : Bool := decide (n.id ∈ marksE d l d.notes)
def keptN (d : Dc) (l : List Sp) (ns : List Nt) : List Nt := ns.filter (isKept d l)
theorem keptN_len (d : Dc) (l : List Sp) (ns : List Nt) : (keptN d l ns).length ≤ ns.length := List.length_filter_le _ _
theorem keptN_snoc {d : Dc} {l : List Sp} {ns : List Nt} {k : Nat} (h : k < ns.length) : keptN d l (ns.take (k + 1)) = keptN d l (ns.take k) ++ (if isKept d l ns[k] = true then [ns[k]] else []) := by
  unfold keptN
  rw [take_snoc' h, List.filter_append]
  by_cases e : isKept d l ns[k] = true <;> simp [e]
theorem isKept_iff {d : Dc} (h : Rgt d) {l : List Sp} {n : Nt} (hn : n ∈ d.notes) : isKept d l n = true ↔ KeptP d l n := by
  unfold isKept; rw [decide_eq_true_eq]; exact marks_kept h l hn
/-- What a viewer sees, reckoned. -/
def viewC (d : Dc) (l : List Sp) : Dc := { d with notes := (keptN d l d.notes).map (clr d l) }
theorem viewC_eq {d : Dc} (h : Rgt d) (l : List Sp) : viewC d l = viewE d l := by
  unfold viewC viewE seenD keptN
  congr 2
  apply List.filter_congr
  intro x hx
  rw [Bool.eq_iff_iff, @decide_eq_true_eq _ (Classical.propDecidable _)]
  exact isKept_iff h hx
set_option maxHeartbeats 4000000 in
theorem keptL_ok (d : Dc) (h : Rgt d) (h20 : d.notes.length < 20) (l : List Sp) (hl : l.length < 2^40) : PureR Tryz.prog 15 [docD d, spansD l] (ints (idsOf (keptN d l d.notes))) := by
  have hfew := h.few
  have hK := kept_ok d h h20 l hl
  have hL := fun i => look_marks i (marksE d l d.notes)
  refine pure_of_body_frz mixed Tryz.func15 rfl call_15 [1] ?_
  simp (decide := true) [Tryz.f15, docD, Dc.row, int, spansD, notesD]
  refine ECall.pure (by rfl) hK (by simp (decide := true) [docD, Dc.row, int, ints, tiersD, notesD, spansD]) ?_
  simp (decide := true) [int, notesD]
  refine loop_rule mixed (fun k : Nat => { n := 30, next := 3, slots := [(5, .d (.mp (markRows (marksE d l d.notes)))), (6, .ar 2), (13, .d (notesD d.notes)), (14, .d (.int .i64 d.notes.length)), (15, .d (.int .i64 k))], own := [(2, .arr 3 1 ((idsOf (keptN d l (d.notes.take k))).map fun n => [int n]))], moved := [2] })
    (fun k => k ≤ d.notes.length) (fun k => d.notes.length - k) 0 (by simp) (by simp (decide := true) [int, idsOf, keptN, spansD, notesD]) ?_
  intro k hk
  by_cases hlt : k < d.notes.length
  case neg =>
    have : k = d.notes.length := by omega
    subst this
    rw [List.take_length]
    simp (decide := true) [int, ints, notesD]
  have hlt' : (k : Int) < d.notes.length := by omega
  have hsn := keptN_snoc (d := d) (l := l) hlt
  have hlen := keptN_len d l (d.notes.take k)
  rw [List.length_take] at hlen
  obtain ⟨m, em'⟩ : ∃ m, d.notes[k] = m := ⟨_, rfl⟩
  have em : d.notes[k]? = some m := by rw [List.getElem?_eq_getElem hlt, em']
  rw [em'] at hsn
  have hLm := hL m.id
  simp only [int] at hLm
  have hil : ∀ L : List Nt, (idsOf L).length = L.length := fun L => by simp [idsOf]
  by_cases hm : m.id ∈ marksE d l d.notes
  · rw [if_pos hm] at hLm
    rw [if_pos (by unfold isKept; simp [hm])] at hsn
    simp (decide := true) [int, ints, notesD, spansD, Nt.row, hlt, hlt', em, em', hLm, hil, I64]
    refine ⟨by omega, by unfold maxLen; omega, ⟨by omega, by omega⟩, k + 1, hlt, by omega, by omega, by rw [hsn]; simp [idsOf]⟩
  · rw [if_neg hm] at hLm
    rw [if_neg (by unfold isKept; simp [hm]), List.append_nil] at hsn
    simp (decide := true) [int, ints, notesD, spansD, Nt.row, hlt, hlt', em, em', hLm, hil, I64]
    exact ⟨⟨by omega, by omega⟩, k + 1, hlt, by omega, by omega, by rw [hsn]⟩
abbrev zeroCells : List Sym := [.d (int 0), .d (.str ⟨#[]⟩), .d (int 0), .d (int 0), .nils, .nils, .nils]
abbrev headCells (d : Dc) : List Sym := [.d (int d.id), .d (.str d.name), .d (int d.len), .d (int d.day), .d (ints d.spk), .d (tiersD d.tiers)]
/-- The document that is being built: without notes at first. -/
def viewSt (d : Dc) (l : List Sp) (ns : List Nt) (k : Nat) : St := match ns with
  | [] => { n := 44, next := 3, slots := [(1, .d (spansD l)), (2, .bp 0 0), (4, .bp 1 0), (5, .d (.mp (markRows (marksE d l d.notes)))), (6, .bp 2 0), (18, .d (notesD d.notes)), (19, .d (.int .i64 d.notes.length)), (20, .d (.int .i64 k))], own := [(0, .box 28 (docCells d)), (1, .box 28 (zeroCells)), (2, .box 28 (headCells d ++ [.nils]))] }
  | ns => { n := 44, next := 6, slots := [(1, .d (spansD l)), (2, .bp 0 0), (4, .bp 1 0), (5, .d (.mp (markRows (marksE d l d.notes)))), (6, .bp 2 0), (18, .d (notesD d.notes)), (19, .d (.int .i64 d.notes.length)), (20, .d (.int .i64 k))], own := [(0, .box 28 (docCells d)), (1, .box 28 (zeroCells)), (2, .box 28 (headCells d ++ [.ar 5])), (5, .arr 44 7 (ns.map Nt.row))], moved := [5] }
set_option maxHeartbeats 4000000 in
theorem view_ok (d : Dc) (h : Rgt d) (h20 : d.notes.length < 20) (l : List Sp) (hl : l.length < 2^40) : PureR Tryz.prog 6 [docD d, spansD l] (docD (viewC d l)) := by
  have hfew := h.few
  have hK := kept_ok d h h20 l hl
  have hL := fun i => look_marks i (marksE d l d.notes)
  refine pure_of_body mixed Tryz.func6 rfl call_6 ?_
  simp (decide := true) [Tryz.f6, docD, Dc.row, int, spansD, notesD]
  refine ECall.pure (by rfl) hK (by simp (decide := true) [docD, Dc.row, int, ints, tiersD, notesD, spansD]) ?_
  simp (decide := true) [int, notesD, tiersD, ints]
  refine loop_rule mixed (fun k : Nat => viewSt d l ((keptN d l (d.notes.take k)).map (clr d l)) k)
    (fun k => k ≤ d.notes.length) (fun k => d.notes.length - k) 0 (by simp) (by simp (decide := true) [int, keptN, viewSt, spansD, notesD, tiersD, ints]) ?_
  intro k hk
  by_cases hlt : k < d.notes.length
  case neg =>
    have : k = d.notes.length := by omega
    subst this
    unfold viewC
    rw [List.take_length]
    generalize (keptN d l d.notes).map (clr d l) = L
    cases L with
    | nil => simp (decide := true) [int, ints, notesD, viewSt, docD, Dc.row, tiersD]
    | cons a r => simp (decide := true) [int, ints, notesD, viewSt, docD, Dc.row, tiersD]
  have hlt' : (k : Int) < d.notes.length := by omega
  have hsn := keptN_snoc (d := d) (l := l) hlt
  have hlen := keptN_len d l (d.notes.take k)
  rw [List.length_take] at hlen
  obtain ⟨m, em'⟩ : ∃ m, d.notes[k] = m := ⟨_, rfl⟩
  have hmm : m ∈ d.notes := by rw [← em']; exact List.getElem_mem hlt
  have em : d.notes[k]? = some m := by rw [List.getElem?_eq_getElem hlt, em']
  rw [em'] at hsn
  have hLm := hL m.id
  have hS := seen_ok d h l hl m.id
  rw [seenE_of h hmm] at hS
  simp only [int] at hLm
  have hsm := congrArg (List.map (clr d l)) hsn
  have hln : ((keptN d l (d.notes.take k)).map (clr d l)).length ≤ d.notes.length := by rw [List.length_map]; omega
  rw [List.map_append] at hsm
  generalize (keptN d l (d.notes.take k)).map (clr d l) = L at hsm hln
  by_cases hm : m.id ∈ marksE d l d.notes
  case neg =>
    rw [if_neg hm] at hLm
    rw [if_neg (by unfold isKept; simp [hm]), List.map_nil, List.append_nil] at hsm
    cases L with
    | nil =>
      simp (decide := true) [int, ints, notesD, spansD, Nt.row, viewSt, hlt, hlt', em, em', hLm, I64]
      refine ⟨⟨by omega, by omega⟩, k + 1, hlt, by omega, ?_⟩
      trace_state
      rw [hsm]
      simp (decide := true) [int, ints, notesD, tiersD, spansD, Nt.row]
    | cons a r =>
      simp (decide := true) [int, ints, notesD, spansD, Nt.row, viewSt, hlt, hlt', em, em', hLm, I64]
      refine ⟨⟨by omega, by omega⟩, k + 1, hlt, by omega, ?_⟩
      trace_state
      rw [hsm]
      simp (decide := true) [int, ints, notesD, tiersD, spansD, Nt.row]
  rw [if_pos hm] at hLm
  rw [if_pos (by unfold isKept; simp [hm]), List.map_cons, List.map_nil] at hsm
  cases hb : seenB d l m with
  | true =>
    have hc : clr d l m = m := by unfold clr; rw [if_pos hb]
    rw [hc] at hsm
    rw [hb] at hS
    cases L with
    | nil =>
      simp (decide := true) [int, ints, notesD, spansD, Nt.row, viewSt, hlt, hlt', em, em', hLm, I64]
      refine ECall.pure (by rfl) hS (by simp (decide := true) [docD, Dc.row, int, ints, tiersD, notesD, spansD]) ?_
      simp (decide := true) [int, ints, notesD, spansD, Nt.row, viewSt, hlt, hlt', em, em', hLm, I64]
      refine ⟨⟨by omega, by omega⟩, k + 1, hlt, by omega, ?_⟩
      trace_state
      rw [hsm]
      simp (decide := true) [int, ints, notesD, tiersD, spansD, Nt.row]
    | cons a r =>
      rw [List.length_cons] at hln
      simp (decide := true) [int, ints, notesD, spansD, Nt.row, viewSt, hlt, hlt', em, em', hLm, I64]
      refine ECall.pure (by rfl) hS (by simp (decide := true) [docD, Dc.row, int, ints, tiersD, notesD, spansD]) ?_
      simp (decide := true) [int, ints, notesD, spansD, Nt.row, viewSt, hlt, hlt', em, em', hLm, I64]
      refine ⟨by omega, by unfold maxLen; omega, ⟨by omega, by omega⟩, k + 1, hlt, by omega, ?_⟩
      rw [hsm]
      simp (decide := true) [int, ints, notesD, tiersD, spansD, Nt.row]
  | false =>
    have hc : clr d l m = { m with text := ⟨#[]⟩ } := by unfold clr; rw [if_neg (by rw [hb]; decide)]
    rw [hc] at hsm
    rw [hb] at hS
    cases L with
    | nil =>
      simp (decide := true) [int, ints, notesD, spansD, Nt.row, viewSt, hlt, hlt', em, em', hLm, I64]
      refine ECall.pure (by rfl) hS (by simp (decide := true) [docD, Dc.row, int, ints, tiersD, notesD, spansD]) ?_
      simp (decide := true) [int, ints, notesD, spansD, Nt.row, viewSt, hlt, hlt', em, em', hLm, I64]
      refine ⟨⟨by omega, by omega⟩, k + 1, hlt, by omega, ?_⟩
      rw [hsm]
      simp (decide := true) [int, ints, notesD, tiersD, spansD, Nt.row]
    | cons a r =>
      rw [List.length_cons] at hln
      simp (decide := true) [int, ints, notesD, spansD, Nt.row, viewSt, hlt, hlt', em, em', hLm, I64]
      refine ECall.pure (by rfl) hS (by simp (decide := true) [docD, Dc.row, int, ints, tiersD, notesD, spansD]) ?_
      simp (decide := true) [int, ints, notesD, spansD, Nt.row, viewSt, hlt, hlt', em, em', hLm, I64]
      refine ⟨by omega, by unfold maxLen; omega, ⟨by omega, by omega⟩, k + 1, hlt, by omega, ?_⟩
      rw [hsm]
      simp (decide := true) [int, ints, notesD, tiersD, spansD, Nt.row]
end Go.V

/- The law of chapter 46 on what a viewer sees: it is right, clean, and seen of itself. -/
namespace Go.V
open Go Go.Proofs

abbrev spanSh : List Sh := [.int .i64, .int .i64]
theorem spans_decode {d : D} (h : FitD d (.sl spanSh)) : ∃ l, d = spansD l ∧ l.length ≤ maxLen := by
  obtain ⟨xs, rfl, h1, h2⟩ := FitD.sl_decode (row := Sp.row) (good := fun _ => True) (fun r hr => by
    obtain ⟨_, _, rfl, g1, r1⟩ := hr.cons_decode
    obtain ⟨_, _, rfl, g2, r2⟩ := r1.cons_decode
    obtain rfl := r2.nil_decode
    obtain ⟨a, rfl, _⟩ := g1.int_decode
    obtain ⟨b, rfl, _⟩ := g2.int_decode
    exact ⟨⟨a, b⟩, rfl, trivial⟩) h
  exact ⟨xs, rfl, h1⟩
theorem viewR_fit {d : Dc} {l : List Sp} (h1 : d.notes.length ≤ 14) (h2 : d.tiers.length ≤ 6) (h3 : d.spk.length ≤ 6) : (viewC d l).fit := by
  have hk := keptN_len d l d.notes
  refine ⟨?_, ?_, ?_⟩
  · show ((keptN d l d.notes).map (clr d l)).length ≤ _
    rw [List.length_map]; omega
  · show d.tiers.length ≤ _; omega
  · show d.spk.length ≤ _; omega
theorem cln_view {d : Dc} (h : Rgt d) (l : List Sp) : clnE (viewE d l) l = true := by
  unfold clnE
  rw [List.all_eq_true]
  intro x hx
  unfold hidN at hx
  rw [List.mem_filter] at hx
  rw [decide_eq_true_eq]
  by_cases e : x.text = ⟨#[]⟩
  · exact e
  · have h1 := view_clean h l x hx.1 e
    have h2 := hx.2
    rw [seenE_of (view_right h l) hx.1, h1] at h2
    cases h2
set_option maxHeartbeats 4000000 in
theorem law_right46 (d : Dc) (l : List Sp) (hs : ∀ t ∈ d.tiers, t.name.size ≤ 9223372036854775807) (hx : ∀ n ∈ d.notes, n.text.size ≤ 9223372036854775807) :
    PureR Tryz.prog 3 [docD d, spansD l] (.bool true) := by
  refine pure_of_body mixed Tryz.func3 rfl call_3 ?_
  simp (decide := true) [Tryz.f3, docD, Dc.row, int]
  refine ECall.pure (by rfl) (light46_ok d l hs hx) (by simp (decide := true) [docD, Dc.row]) ?_
  cases hl : light46 d l
  · simp (decide := true)
    refine ECall.pure (by rfl) awake46_R (by simp) ?_
    simp (decide := true)
  obtain ⟨h0, h1, h2, h3, hr⟩ := light46_spec hl
  have hl40 : l.length < 2^40 := by omega
  have w1 := view_ok d hr (by omega) l hl40
  have f1 := viewR_fit (l := l) h1 h2 h3
  have hrv := view_right hr l
  have hcl := cln_view hr l
  have hvv := view_view hr (Less.refl l)
  have hch : checkE (viewC d l) = 0 := by rw [viewC_eq hr]; exact right_iff.2 hrv
  rw [← viewC_eq hr] at hrv hcl
  rw [← viewC_eq hr, ← viewC_eq hrv] at hvv
  have hnv : (viewC d l).notes.length ≤ 14 := by
    have hk := keptN_len d l d.notes
    show ((keptN d l d.notes).map (clr d l)).length ≤ _
    rw [List.length_map]; omega
  have hfi := f1.tiers
  have c1 := check_ok (viewC d l) (by omega) (by omega)
  have w2 := view_ok (viewC d l) hrv (by omega) l hl40
  have w3 := clean_ok (viewC d l) hrv l hl40
  have s1 := same_ok (viewC d l) (viewC d l) f1
  simp only [decide_true] at s1
  rw [hvv] at w2
  rw [hcl] at w3
  rw [hch] at c1
  generalize viewC d l = v at w1 w2 w3 s1 c1
  simp (decide := true) [int, spansD]
  refine ECall.pure (by rfl) w1 (by simp (decide := true) [docD, Dc.row, int, spansD]) ?_
  simp (decide := true) [int, docD, Dc.row, spansD]
  refine scall_pure (by rfl) (by rfl) c1 (by simp (decide := true) [docD, Dc.row, int]) ?_
  simp (decide := true) [int, docD, Dc.row, spansD]
  refine scall_pure (by rfl) (by rfl) w3 (by simp (decide := true) [docD, Dc.row, int, spansD]) ?_
  simp (decide := true) [int, docD, Dc.row, spansD]
  refine scall_pure (by rfl) (by rfl) w2 (by simp (decide := true) [docD, Dc.row, int, spansD]) ?_
  simp (decide := true) [int, docD, Dc.row, spansD]
  refine scall_pure (by rfl) (by rfl) s1 (by simp (decide := true) [docD, Dc.row, int, spansD]) ?_
  simp (decide := true) [int, docD, Dc.row, spansD]
  refine scall_pure (by rfl) (by rfl) awake46_R (by simp (decide := true) [docD, Dc.row, int]) ?_
  simp (decide := true) [int, docD, Dc.row, ints]
end Go.V

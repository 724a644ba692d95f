/- A program logic of my own over the kit: part W1. It needs no conditions. -/
import Derived.Test.YtknekjalbninmaaGreatB1
set_option linter.unusedVariables false
set_option linter.unusedSimpArgs false
set_option linter.unusedSectionVars false
namespace Go.V
variable [Dr] [Ov]
open Go.RowKit
def ddrawL (P : Program) (all : List Oper) (m : Nat) (o : Oper) : List Oper → St → (St → Prop) → Prop
  | [], st, K => dop P o st K
  | x :: r, st, K => dstB x.dst st.n = true ∧ draw1 P all x st (fun s => Sym.lo m s ∧ ddrawL P all m o r (st.put x.dst s) K)
section
variable {P : Program} {X : Nat → Prop} {w0 : Base} {st : St} {β : Nat → Value} {a : Act} {w w' : World} {all : List Oper}
theorem ddrawL_chain {m : Nat} {o : Oper} : ∀ {l : List Oper} {st : St} {K : St → Prop}, ddrawL P all m o l st K → ∃ ss, Chain P all l ss st ∧ (∀ s ∈ ss, Sym.lo m s) ∧ dop P o (puts l ss st) K
  | [], st, K, h => ⟨[], rfl, by simp, h⟩
  | x :: r, st, K, h => by
    simp only [ddrawL] at h
    obtain ⟨h0, h⟩ := h
    obtain ⟨s, h1, h2, h3⟩ := draw1_ex h
    obtain ⟨ss, q1, q2, q3⟩ := ddrawL_chain h3
    refine ⟨s :: ss, ⟨s, ss, rfl, h0, h1, q1⟩, ?_, q3⟩
    intro u hu
    rcases List.mem_cons.1 hu with e | hu
    · subst e; exact h2
    · exact q2 u hu
theorem draw_last (hmix : P.follows .mixedOrders = true) {id : Nat} {pre : List Oper} {o : Oper} (hok : drawOk (pre ++ [o]) = true) (hcut : cutB (pre ++ [o]) pre.length = true) (hg : o.guard = none) {Q : DE → St → Prop}
    (hkeys : (st.own.map (·.1)).Nodup) (h : ddrawL P (pre ++ [o]) st.next o pre st (Q .normal)) : Triple P (.region id (pre ++ [o]).toArray true) Q st := by
  refine region_sound hmix hok ?_
  obtain ⟨ss, hch, hlo, hd⟩ := ddrawL_chain h
  have hlen := chain_length hch
  have hkd : ∀ i k, (Seg.kd ⟨pre ++ [o], 0, pre.length, ss.map .val, st, fun _ => st.own⟩ i) = some k → ∃ s, ss[i]? = some s ∧ k = .val s := by
    intro i k hk
    unfold Seg.kd at hk
    split at hk
    · simp only [Nat.sub_zero, List.getElem?_map] at hk
      cases hs : ss[i]? with
      | none => rw [hs] at hk; cases hk
      | some s => rw [hs] at hk; simp at hk; exact ⟨s, rfl, hk.symm⟩
    · cases hk
  have hnoU : ∀ t, ¬ (Seg.U ⟨pre ++ [o], 0, pre.length, ss.map .val, st, fun _ => st.own⟩ t) := by
    rintro t ⟨i, ob, y, k, _, hk, _, hm⟩
    obtain ⟨s, _, rfl⟩ := hkd i k hk
    cases hm
  have hnb : ∀ i id ob, Seg.kd ⟨pre ++ [o], 0, pre.length, ss.map .val, st, fun _ => st.own⟩ i ≠ some (.bst id ob) := by
    intro i id ob hk
    obtain ⟨s, _, e⟩ := hkd i _ hk
    cases e
  have hsti : ∀ i, Seg.sti ⟨pre ++ [o], 0, pre.length, ss.map .val, st, fun _ => st.own⟩ i = puts ((pre ++ [o]).take i) (ss.take i) st := by
    intro i
    unfold Seg.sti
    have hmm : (ss.map FK.val).map FK.sym = ss := by
      rw [List.map_map]
      have : (FK.sym ∘ FK.val) = fun s => s := rfl
      rw [this, List.map_id']
    simp only [List.drop_zero, Nat.sub_zero]
    rw [hmm]
  have hpt : ∀ i, i ≤ pre.length → (pre ++ [o]).take i = pre.take i := fun i hi => by rw [List.take_append_of_le_length hi]
  refine RegI.seg (pos := 0) (hi := pre.length) (ss.map .val) (fun _ => st.own) [] st.own ?_ ?_ (.inl hcut) ?_
  · refine ⟨hok, ⟨Nat.zero_le _, by simp, by simp [hlen]⟩, fun t _ _ h => absurd h (hnoU t), fun i t ob m h => absurd ⟨i, ob, h⟩ (hnoU t), fun i j id ob ob' h => absurd h (hnb i id ob), fun _ id ob h => ⟨h, fun i ob hk => absurd hk (hnb i id ob)⟩, ?_⟩
    intro i y k hy hk
    obtain ⟨s, hs, rfl⟩ := hkd i k hk
    have hi : i < pre.length := by
      have := (List.getElem?_eq_some_iff.1 hs).1
      omega
    have hy' : pre[i]? = some y := by
      have : (pre ++ [o])[i]? = pre[i]? := List.getElem?_append_left hi
      rw [← this]; exact hy
    obtain ⟨s', hs', hd', hst⟩ := chain_get hch hy'
    rw [hs] at hs'; cases hs'
    refine ⟨hd', fun t _ => hnoU t, ?_, hlo s (List.mem_of_getElem? hs)⟩
    show DStep P (pre ++ [o]) y (Seg.sti ⟨pre ++ [o], 0, pre.length, ss.map .val, st, fun _ => st.own⟩ i) s
    rw [hsti, hpt i (by omega)]
    exact hst
  · refine ⟨fun t ob h => by simp at h, by simp, rfl, fun _ id ob h => .inr ⟨?_, fun i ob => hnb i id ob⟩⟩
    have hmem : ∀ {l : List (Nat × Obj')}, (l.map (·.1)).Nodup → (id, ob) ∈ l → alook l id = some ob := by
      intro l
      induction l with
      | nil => intro _ h; cases h
      | cons x r ih =>
        intro hn h
        obtain ⟨k, u⟩ := x
        simp only [List.map_cons, List.nodup_cons] at hn
        simp only [alook]
        rcases List.mem_cons.1 h with e | h
        · cases e; simp
        · have hne : k ≠ id := by intro e; subst e; exact hn.1 (List.mem_map.2 ⟨_, h, rfl⟩)
          rw [if_neg hne]; exact ih hn.2 h
    exact hmem hkeys h
  · have hfin : Seg.fin ⟨pre ++ [o], 0, pre.length, ss.map .val, st, fun _ => st.own⟩ [] st.own = puts pre ss st := by
      unfold Seg.fin
      simp only [hsti, hpt pre.length (Nat.le_refl _), List.take_length]
      have hss : ss.take pre.length = ss := by rw [List.take_of_length_le (by omega)]
      obtain ⟨p1, p2, p3, p4, p5⟩ := puts_own pre ss st
      rw [hss]
      simp only [List.length_nil, Nat.add_zero, refF, numF, List.nil_append]
      cases hp : puts pre ss st with
      | mk n next slots own base moved =>
        rw [hp] at p1 p2 p3 p4 p5
        simp only at p1 p2 p3 p4 p5
        subst p1; subst p2; subst p3; subst p4; subst p5
        rfl
    rw [hfin]
    refine RegI.tot (Q .normal) (by simp) (.inr (by simp)) ?_ ?_
    · intro X w0 β a w hm N Q' hN
      unfold wpOp
      have : (pre ++ [o]).toArray[pre.length]? = some o := by simp
      rw [this]
      simp only [Region.wanted, hg, if_true]
      exact .inl (dop_sound hm hd N _ fun a' w' st' β' hk hm' => hN a' w' st' β' hk hm')
    · intro st' hK
      have : pre.length + 1 = (pre ++ [o]).length := by simp
      rw [this]
      exact .done hK
end
attribute [simp] ddrawL
end Go.V
namespace Go.V
variable [Dr] [Ov]
open Go.RowKit
def trOf : List (Nat × Sym) → Tr
  | [] => .leaf
  | (t, s) :: r => (trOf r).put dep t s
def xsOf (st : St) : XS := ⟨st.n, st.next, trOf st.slots, st.own, st.base, st.moved⟩
def pickS (xs : XS) : List Nat → List (Nat × Sym)
  | [] => []
  | t :: r => match xs.get t with
    | some s => (t, s) :: pickS xs r
    | none => pickS xs r
def stOf (ts : List Nat) (xs : XS) : St := { n := xs.n, next := xs.next, slots := pickS xs ts, own := xs.own, base := xs.base, moved := xs.moved }
def smallS (l : List (Nat × Sym)) : Bool := l.all fun x => Nat.blt (x.1 + 1) 4096
theorem trOf_get : ∀ {l : List (Nat × Sym)} {u : Nat}, smallS l = true → Tr.get dep (trOf l) u = alook l u
  | [], u, h => Tr.get_leaf dep u
  | (t, s) :: r, u, h => by
    simp only [smallS, List.all_cons, Bool.and_eq_true] at h
    have ht : t + 1 < 4096 := by simpa using h.1
    simp only [trOf, alook]
    rw [Tr.get_put dep _ t s u (by simpa [dep] using ht), trOf_get (l := r) h.2]
theorem ag_of {st : St} (h : smallS st.slots = true) : Ag st (xsOf st) where
  n := rfl
  next := rfl
  own := rfl
  base := rfl
  moved := fun _ _ h => h
  slots := fun t => (trOf_get h).symm
theorem pickS_get {xs : XS} : ∀ {l : List Nat} {t : Nat} {s : Sym}, alook (pickS xs l) t = some s → xs.get t = some s
  | [], t, s, h => by simp [pickS, alook] at h
  | u :: r, t, s, h => by
    simp only [pickS] at h
    split at h
    · rename_i s' hs
      simp only [alook] at h
      split at h
      · rename_i e; subst e; rw [hs]; exact h
      · exact pickS_get h
    · exact pickS_get h
section
variable {P : Program} {Γ : XG} {call : Caller}
theorem Mods.ofAg {X : Nat → Prop} {w0 : Base} {st : St} {xs : XS} {β : Nat → Value} {a : Act} {w : World} (hm : Mods X w0 st β a w) (hag : Ag st xs) (ts : List Nat) : Mods X w0 (stOf ts xs) β a w := by
  have hn := hag.n; have hx := hag.next; have hb := hag.base
  have hst := hm.still
  refine ⟨hm.outer, ⟨?_, ?_⟩, hm.one, hm.defers, ?_, hm.below, ?_, ?_, ?_, ?_⟩
  · simp only [stOf]; rw [← hb, ← hx]; exact hst.1
  · intro i h1 h2
    simp only [stOf] at h1 h2
    rw [← hb] at h1
    exact hst.2 i h1 fun h => h2 (hag.moved i h1 h)
  · simp only [stOf]; rw [← hn]; exact hm.size
  · simp only [stOf]; rw [← hag.own]; exact hm.keys
  · simp only [stOf]; rw [← hag.own, ← hx]; exact hm.own
  · simp only [stOf]; rw [← hag.own]; exact hm.apart
  · intro t s ht
    have := pickS_get ht
    rw [← hag.slots] at this
    simp only [stOf]
    rw [← hag.own, ← hx]
    exact hm.slots t s this
def drawTo (Γ : XG) (call : Caller) (ops : List Oper) (st : St) (ts : List Nat) : Option St := match smallS st.slots with
  | true => (xdraw Γ call ops (xsOf st)).map (stOf ts)
  | false => none
theorem no_call : GoodCall P (fun _ _ _ _ => none) := by
  intro f args own n r h
  cases h
theorem draw_x (hmix : P.follows .mixedOrders = true) (hg : XGood P Γ) (hc : GoodCall P call) (ts : List Nat) {id : Nat} {ops : List Oper} {st st' : St} {Q : DE → St → Prop} (h : drawTo Γ call ops st ts = some st') (hq : Q .normal st') :
    Triple P (.region id ops.toArray true) Q st := by
  unfold drawTo at h
  split at h
  · rename_i hs
    rw [Option.map_eq_some_iff] at h
    obtain ⟨xs', hx, rfl⟩ := h
    have ht := xdraw_sound hmix hg hc id ops _ _ st (ag_of hs) hx
    intro X w0 β a w hm
    refine wp_mono (ht X w0 β a w hm) ?_
    rintro e a' w' ⟨de, st1, β', he, ⟨hn, hag⟩, hm'⟩
    subst hn
    exact ⟨.normal, _, β', he, hq, hm'.ofAg hag ts⟩
  · cases h
end
end Go.V
namespace Go.V
variable [Dr] [Ov]
open Go.RowKit
def cutK (S : St) (Q : DE → St → Prop) : DE → St → Prop
  | .normal, st => Weak st S
  | e, st => Q e st
def headC : Nat → Code → Code
  | 0, _ => .skip
  | n + 1, .seq a b => .seq a (headC n b)
  | _ + 1, c => c
def seqsC : Nat → Code → Bool
  | 0, _ => true
  | n + 1, .seq _ b => seqsC n b
  | _ + 1, _ => false
def tailC : Nat → Code → Code
  | 0, c => c
  | n + 1, .seq _ b => tailC n b
  | _ + 1, _ => .skip
section
variable {P : Program} {st : St} {Q : DE → St → Prop}
theorem triple_block {id : Nat} {c : Code} (h : Triple P c (afterBlock id Q) st) : Triple P (.block id c) Q st := by
  intro X w0 β a w hm
  refine wp_block (wp_mono (h X w0 β a w hm) ?_)
  rintro e a' w' ⟨de, st', β', he, hq, hm'⟩
  cases e <;> cases de <;> simp only [exM] at he
  · exact ⟨.normal, st', β', trivial, hq, hm'⟩
  · subst he
    simp only [afterBlock] at hq
    simp only [Exit.inBlock]
    split
    · rename_i e; rw [if_pos e] at hq; exact ⟨.normal, st', β', trivial, hq, hm'⟩
    · rename_i e; rw [if_neg e] at hq; exact ⟨.exit _, st', β', rfl, hq, hm'⟩
  · exact ⟨.ret, st', β', trivial, hq, hm'⟩
theorem triple_seq {x y : Code} (S : St) (h : Triple P x (cutK S Q) st) (h2 : Triple P y Q S) : Triple P (.seq x y) Q st := by
  intro X w0 β a w hm
  refine wp_seq (wp_mono (h X w0 β a w hm) ?_)
  rintro e a' w' ⟨de, st', β', he, hq, hm'⟩
  cases e <;> cases de <;> simp only [exM] at he
  · exact h2 X w0 β' a' w' (hm'.weak hq)
  · subst he; exact ⟨.exit _, st', β', rfl, hq, hm'⟩
  · exact ⟨.ret, st', β', trivial, hq, hm'⟩
theorem cut_ev (hmix : P.follows .mixedOrders = true) (n : Nat) {c : Code} (S : St) (hs : seqsC n c = true) : ∀ {st : St}, ev P (headC n c) (cutK S Q) st → Triple P (tailC n c) Q S → Triple P c Q st := by
  induction n generalizing c with
  | zero =>
    intro st h h2 X w0 β a w hm
    exact h2 X w0 β a w (hm.weak h)
  | succ n ih =>
    intro st h h2
    cases c <;> simp only [headC, tailC, seqsC, reduceCtorEq] at h h2 hs
    case seq x y =>
      intro X w0 β a w hm
      simp only [ev] at h
      refine wp_seq (wp_mono (ev_sound hmix h X w0 β a w hm) ?_)
      rintro e a' w' ⟨de, st', β', he, hq, hm'⟩
      cases e <;> cases de <;> simp only [exM] at he
      · exact ih hs hq h2 X w0 β' a' w' hm'
      · subst he; exact ⟨.exit _, st', β', rfl, hq, hm'⟩
      · exact ⟨.ret, st', β', trivial, hq, hm'⟩
theorem wrap64 {n : Int} (h : -9223372036854775808 ≤ n ∧ n ≤ 9223372036854775807) : IntKind.i64.wrap n = n := IntWalk.i64_in n (by omega)
theorem loop_ruleT (hmix : P.follows .mixedOrders = true) {α : Type} {c : Code} {Q : DE → St → Prop} (S : α → St) (inv : α → Prop) (μ : α → Nat) (x0 : α) (h0 : inv x0) (hw : Weak st (S x0))
    (hr : ∀ x, inv x → Triple P c (afterLoop S inv μ x Q) (S x)) : Triple P (.loop c) Q st := by
  intro X w0 β a w hm
  let I : Nat → Act → World → Prop := fun n a w => ∃ x β, inv x ∧ μ x = n ∧ Mods X w0 (S x) β a w
  have key : ∀ a w, (∃ n, I n a w) → ∃ n, I n a w ∧ ∀ m, I m a w → n ≤ m := by
    intro a w ⟨n, hn⟩
    induction n using Nat.strongRecOn with
    | _ n ih =>
      by_cases h : ∃ m, m < n ∧ I m a w
      · obtain ⟨m, h1, h2⟩ := h; exact ih m h1 h2
      · exact ⟨n, hn, fun m hm => by rcases Nat.lt_or_ge m n with h' | h'; exact absurd ⟨m, h', hm⟩ h; exact h'⟩
  classical
  let M : Act → World → Nat := fun a w => if h : ∃ n, I n a w then Classical.choose (key a w h) else 0
  refine wp_loop (fun a w => ∃ n, I n a w) M ⟨_, x0, β, h0, rfl, hm.weak hw⟩ ?_
  intro a w hI
  have hspec := Classical.choose_spec (key a w hI)
  have hM : M a w = Classical.choose (key a w hI) := dif_pos hI
  rw [← hM] at hspec
  obtain ⟨⟨x, β', hx, hμ, hm'⟩, hmin⟩ := hspec
  refine wp_mono (hr x hx X w0 β' a w hm') ?_
  rintro e a' w' ⟨de, st', β'', he, hq, hm''⟩
  cases e <;> cases de <;> simp only [exM] at he
  · obtain ⟨y, hy, hlt, hwk⟩ := hq
    have hI' : ∃ n, I n a' w' := ⟨μ y, y, β'', hy, rfl, hm''.weak hwk⟩
    refine ⟨hI', ?_⟩
    have hs' := Classical.choose_spec (key a' w' hI')
    have hM' : M a' w' = Classical.choose (key a' w' hI') := dif_pos hI'
    rw [← hM'] at hs'
    have := hs'.2 (μ y) ⟨y, β'', hy, rfl, hm''.weak hwk⟩
    omega
  · subst he; exact ⟨.exit _, st', β'', rfl, hq, hm''⟩
  · exact ⟨.ret, st', β'', trivial, hq, hm''⟩
theorem cutK_normal {S : St} : cutK S Q .normal st = Weak st S := rfl
theorem cutK_exit {S : St} (i : Nat) : cutK S Q (.exit i) st = Q (.exit i) st := rfl
theorem cutK_ret {S : St} : cutK S Q .ret st = Q .ret st := rfl
end
attribute [simp] cutK_normal cutK_exit cutK_ret headC tailC
end Go.V
namespace Go.V
variable [Dr] [Ov]
open Go.RowKit
def ddrawV (P : Program) (all : List Oper) (m : Nat) : List Oper → St → (St → Prop) → Prop
  | [], st, K => K st
  | x :: r, st, K => dstB x.dst st.n = true ∧ draw1 P all x st (fun s => Sym.lo m s ∧ ddrawV P all m r (st.put x.dst s) K)
section
variable {P : Program} {st : St} {all : List Oper}
theorem ddrawV_chain {m : Nat} : ∀ {l : List Oper} {st : St} {K : St → Prop}, ddrawV P all m l st K → ∃ ss, Chain P all l ss st ∧ (∀ s ∈ ss, Sym.lo m s) ∧ K (puts l ss st)
  | [], st, K, h => ⟨[], rfl, by simp, h⟩
  | x :: r, st, K, h => by
    simp only [ddrawV] at h
    obtain ⟨h0, h⟩ := h
    obtain ⟨s, h1, h2, h3⟩ := draw1_ex h
    obtain ⟨ss, q1, q2, q3⟩ := ddrawV_chain h3
    refine ⟨s :: ss, ⟨s, ss, rfl, h0, h1, q1⟩, ?_, q3⟩
    intro u hu
    rcases List.mem_cons.1 hu with e | hu
    · subst e; exact h2
    · exact q2 u hu
theorem puts_add : ∀ {l l' : List Oper} {ss ss' : List Sym} {st : St}, ss.length = l.length → puts (l ++ l') (ss ++ ss') st = puts l' ss' (puts l ss st)
  | [], l', [], ss', st, _ => rfl
  | o :: r, l', s :: ss, ss', st, h => by
    simp only [List.cons_append, puts]
    exact puts_add (by simpa using h)
theorem alook_nodup {α : Type} {id : Nat} {ob : α} : ∀ {l : List (Nat × α)}, (l.map (·.1)).Nodup → (id, ob) ∈ l → alook l id = some ob
  | [], _, h => by cases h
  | (k, u) :: r, hn, h => by
    simp only [List.map_cons, List.nodup_cons] at hn
    simp only [alook]
    rcases List.mem_cons.1 h with e | h
    · cases e; simp
    · have hne : k ≠ id := by intro e; subst e; exact hn.1 (List.mem_map.2 ⟨_, h, rfl⟩)
      rw [if_neg hne]; exact alook_nodup hn.2 h
theorem draw_new (hmix : P.follows .mixedOrders = true) {id : Nat} {all : List Oper} {t x : Tmp} {T aty sty : Nat} {aps sps : String} {aaf saf : Array Edge} {ti : TI} {Q : DE → St → Prop}
    (hops : all = all.dropLast.dropLast ++ [(⟨some t, .alloc T, aty, aps, aaf, none⟩ : Oper), ⟨none, .store T (.tmp t) (.tmp x), sty, sps, saf, none⟩])
    (hok : drawOk all = true) (hti : TI.of P T = some ti) (hone : ti.zero.all (·.oneCell') = true) (hzl : ti.zero.length = ti.size) (hxt : x ≠ t)
    (hno : (all.dropLast.dropLast.all fun o => !(tmpsOf all o).contains t) = true) (htn : dstB (some t) st.n = true)
    (h : ddrawV P all st.next all.dropLast.dropLast st (fun st1 => ∃ l, symCells (st1.val (.tmp x)) = some l ∧ l.length = ti.size ∧ Sym.los st.next l ∧ st1.val (.tmp x) ≠ .junk ∧
      Q .normal { st1 with next := st.next + 1, slots := (t, .bp st.next 0) :: (t, .junk) :: st1.slots, own := (st.next, .box T l) :: st.own })) :
    Triple P (.region id all.toArray true) Q st := by
  obtain ⟨ss, hch, hlo, l, hl, hlz, hll, hnj, hQ⟩ := ddrawV_chain h
  have hlen := chain_length hch
  generalize all.dropLast.dropLast = pre at *
  have hall := hops.symm
  have hal : all.length = pre.length + 2 := by rw [← hall]; simp
  have g0 : ∀ i o, i < pre.length → all[i]? = some o → pre[i]? = some o := by
    intro i o hi ho
    rw [← hall, List.getElem?_append_left hi] at ho; exact ho
  have g1 : all[pre.length]? = some ⟨some t, .alloc T, aty, aps, aaf, none⟩ := by rw [← hall]; simp
  have g2 : all[pre.length + 1]? = some ⟨none, .store T (.tmp t) (.tmp x), sty, sps, saf, none⟩ := by rw [← hall]; simp
  let ks : List FK := ss.map .val ++ [.mk (.box T (ti.zero.map ofConst)), .sto t (.box T l)]
  have hkl : ks.length = pre.length + 2 := by simp [ks]; omega
  let S : Seg := ⟨all, 0, all.length, ks, st, fun _ => st.own⟩
  have hkd : ∀ i, S.kd i = if i < all.length then ks[i]? else none := by
    intro i; simp only [Seg.kd, S]; simp
  have k0 : ∀ i, i < pre.length → S.kd i = (ss[i]?).map .val := by
    intro i hi
    rw [hkd, if_pos (by omega)]
    simp only [ks]
    rw [List.getElem?_append_left (by simp; omega), List.getElem?_map]
  have k1 : S.kd pre.length = some (.mk (.box T (ti.zero.map ofConst))) := by
    rw [hkd, if_pos (by omega)]
    simp only [ks]
    rw [List.getElem?_append_right (by simp; omega)]
    simp [hlen]
  have k2 : S.kd (pre.length + 1) = some (.sto t (.box T l)) := by
    rw [hkd, if_pos (by omega)]
    simp only [ks]
    rw [List.getElem?_append_right (by simp; omega)]
    simp [hlen]
  have three : ∀ i k, S.kd i = some k → i < pre.length ∨ i = pre.length ∨ i = pre.length + 1 := by
    intro i k hk
    rw [hkd] at hk
    split at hk
    · omega
    · cases hk
  have hco : ∀ i u ob, S.co i u ob → i = pre.length ∧ u = t ∧ ob = .box T (ti.zero.map ofConst) := by
    rintro i u ob ⟨o, k, h1, h2, h3, h4⟩
    rcases three i k h2 with hi | rfl | rfl
    · rw [k0 i hi, Option.map_eq_some_iff] at h2
      obtain ⟨s, _, rfl⟩ := h2
      cases h4
    · rw [k1] at h2; cases h2
      have h1' : all[pre.length]? = some o := h1
      rw [g1] at h1'; cases h1'; cases h3; cases h4
      exact ⟨rfl, rfl, rfl⟩
    · rw [k2] at h2; cases h2; cases h4
  have hco1 : S.co pre.length t (.box T (ti.zero.map ofConst)) := ⟨_, _, g1, k1, rfl, rfl⟩
  have hU : ∀ u, S.U u → u = t := fun u ⟨i, ob, hc⟩ => (hco i u ob hc).2.1
  have huser : ∀ m, S.user t m → m = pre.length + 1 := by
    rintro m ⟨o, k, h1, h2, h3⟩
    have h1 : all[m]? = some o := h1
    have h3 : t ∈ tmpsOf all o := h3
    rcases three m k h2 with hi | rfl | rfl
    · have := List.all_eq_true.1 hno o (List.mem_of_getElem? (g0 m o hi h1))
      simp at this
      exact absurd h3 this
    · rw [g1] at h1; cases h1
      simp [tmpsOf, Op.operands] at h3
    · rfl
  have nb : ∀ i id' ob, S.kd i ≠ some (.bst id' ob) := by
    intro i id' ob hk
    rcases three i _ hk with hi | rfl | rfl
    · rw [k0 i hi, Option.map_eq_some_iff] at hk
      obtain ⟨s, _, e⟩ := hk; cases e
    · rw [k1] at hk; cases hk
    · rw [k2] at hk; cases hk
  have hsti : ∀ i, i ≤ pre.length → S.sti i = puts (pre.take i) (ss.take i) st := by
    intro i hi
    simp only [Seg.sti, S, List.drop_zero, Nat.sub_zero]
    have e1 : all.take i = pre.take i := by rw [← hall, List.take_append_of_le_length hi]
    have e2 : (ks.map FK.sym).take i = ss.take i := by
      simp only [ks, List.map_append, List.map_map]
      have hf : (FK.sym ∘ FK.val) = fun s => s := rfl
      rw [hf, List.map_id']
      rw [List.take_append_of_le_length (by omega)]
    rw [e1, e2]
  have hstE : S.sti pre.length = puts pre ss st := by
    rw [hsti _ (Nat.le_refl _), List.take_length, List.take_of_length_le (by omega)]
  have hst1 : S.sti (pre.length + 1) = (puts pre ss st).put (some t) .junk := by
    simp only [Seg.sti, S, List.drop_zero, Nat.sub_zero]
    have e1 : all.take (pre.length + 1) = pre ++ [(⟨some t, .alloc T, aty, aps, aaf, none⟩ : Oper)] := by rw [← hall, List.take_append, List.take_of_length_le (by omega)]; simp [Nat.add_sub_cancel_left]
    have e2 : (ks.map FK.sym).take (pre.length + 1) = ss ++ [.junk] := by
      simp only [ks, List.map_append, List.map_map]
      have hf : (FK.sym ∘ FK.val) = fun s => s := rfl
      rw [hf, List.map_id', List.take_append, List.take_of_length_le (by omega)]; simp [hlen, FK.sym]
    rw [e1, e2, puts_add hlen.symm]; rfl
  have hst2 : S.sti (pre.length + 2) = (puts pre ss st).put (some t) .junk := by
    simp only [Seg.sti, S, List.drop_zero, Nat.sub_zero]
    have e1 : all.take (pre.length + 2) = pre ++ [(⟨some t, .alloc T, aty, aps, aaf, none⟩ : Oper), ⟨none, .store T (.tmp t) (.tmp x), sty, sps, saf, none⟩] := by rw [← hall, List.take_append, List.take_of_length_le (by omega)]; simp [Nat.add_sub_cancel_left]
    have e2 : (ks.map FK.sym).take (pre.length + 2) = ss ++ [.junk, .junk] := by
      simp only [ks, List.map_append, List.map_map]
      have hf : (FK.sym ∘ FK.val) = fun s => s := rfl
      rw [hf, List.map_id', List.take_append, List.take_of_length_le (by omega)]; simp [hlen, FK.sym]
    rw [e1, e2, puts_add hlen.symm]; rfl
  refine region_sound hmix hok ?_
  refine RegI.seg (pos := 0) (hi := all.length) ks (fun _ => st.own) [(t, .box T l)] st.own ?_ ?_ (.inr rfl) ?_
  · refine ⟨hok, ⟨Nat.zero_le _, Nat.le_refl _, by simp [hkl, hal]⟩, ?_, ?_, ?_, ?_, ?_⟩
    · intro u m m' hu h1 h2
      have := hU u hu; subst this
      rw [huser m h1, huser m' h2]
    · intro i u ob m hc hu
      obtain ⟨rfl, rfl, rfl⟩ := hco i u ob hc
      rw [huser m hu]; omega
    · intro i j id' ob ob' h1 h2
      exact absurd h1 (nb i id' ob)
    · intro _ id' o ho
      refine ⟨ho, fun i ob hk => absurd hk (nb i id' ob)⟩
    · intro i o k ho hk
      have ho : all[i]? = some o := ho
      have hk : S.kd i = some k := hk
      rcases three i k hk with hi | rfl | rfl
      · rw [k0 i hi, Option.map_eq_some_iff] at hk
        obtain ⟨s, hs, rfl⟩ := hk
        obtain ⟨s', hs', hd', hst⟩ := chain_get hch (g0 i o hi ho)
        rw [hs] at hs'; cases hs'
        refine ⟨hd', fun u hu hUu => ?_, ?_, hlo s (List.mem_of_getElem? hs)⟩
        · have := hU u hUu; subst this
          have := List.all_eq_true.1 hno o (List.mem_of_getElem? (g0 i o hi ho))
          simp at this
          exact this hu
        · show DStep P all o (S.sti i) s
          rw [hsti i (by omega)]; exact hst
      · rw [k1] at hk; cases hk
        rw [g1] at ho; cases ho
        refine ⟨htn, rfl, ⟨t, rfl⟩, by intro u hu; simp [tmpsOf, Op.operands] at hu, ?_, ?_⟩
        · exact los_consts _ _
        · intro st' K hkn hK
          simp only [dop, hti]
          refine ⟨by rw [hkn.1]; exact htn, hone, hK⟩
      · rw [k2] at hk; cases hk
        rw [g2] at ho; cases ho
        refine ⟨rfl, rfl, rfl, ?_, by simp [tmpsOf, Op.operands], ?_, trivial, _, ⟨_, hco1⟩, trivial, ?_⟩
        · intro u _ hu; exact hU u hu
        · exact hll
        · intro st' K id' hkn hv hlk hK
          simp only [dop, hti]
          have hx : st'.val (.tmp x) = (puts pre ss st).val (.tmp x) := by
            have hq : (S.sti (pre.length + 1)).val (.tmp x) = (puts pre ss st).val (.tmp x) := by
              rw [hst1]; simp [St.val, St.put, alook, Ne.symm hxt]
            rw [← hq]
            refine hkn.2 _ (by simp [Op.operands]) ?_
            rw [hq]; exact hnj
          unfold eStore
          rw [hv]; simp only
          rw [hlk]; simp only
          rw [hx, hl]; simp only
          refine ⟨hlz, by simp [hlz, hzl], ?_⟩
          have : splice (ti.zero.map ofConst) 0 l = l := by
            unfold splice; simp; omega
          rw [this]; exact hK
  · refine ⟨?_, by simp, rfl, fun hn id' ob hm => .inr ⟨alook_nodup hn hm, fun i ob' => ?_⟩⟩
    · intro u ob hm
      simp at hm; obtain ⟨rfl, rfl⟩ := hm
      exact ⟨_, _, hco1, .inr ⟨pre.length + 1, ⟨_, _, g2, k2, by simp [tmpsOf, Op.operands]⟩, k2⟩⟩
    · exact (nb i id' ob')
  · have hfin : Seg.fin S [(t, .box T l)] st.own = { (puts pre ss st) with next := st.next + 1, slots := (t, .bp st.next 0) :: (t, .junk) :: (puts pre ss st).slots, own := (st.next, .box T l) :: st.own } := by
      unfold Seg.fin
      have : S.hi = pre.length + 2 := hal
      rw [this, hst2]
      obtain ⟨p1, p2, p3, p4, p5⟩ := puts_own pre ss st
      cases hp : puts pre ss st with
      | mk n next slots own base moved =>
        rw [hp] at p1 p2 p3 p4 p5
        simp only at p1 p2 p3 p4 p5
        subst p1; subst p2; subst p3; subst p4; subst p5
        simp [refF, numF, ref, St.put, S]
    show RegI P all (Q .normal) all.length (Seg.fin S [(t, .box T l)] st.own)
    rw [hfin]
    exact .done hQ
theorem ecall_frz {f : Operand} {xs : List Operand} {dst : Option Tmp} {K : St → Prop} {g : Nat} {ds : List D} {lent : Bool} {r : D} (hl : lendsArgs (st.frzs (arIdss (xs.map st.val))) f xs = some (g, ds, lent)) (hp : PureR P g ds r)
    (hs : lent = true → r.scalar = true) (hk : K ((st.frzs (arIdss (xs.map st.val))).put dst (.d r))) : ECall P st f xs dst K := by
  refine ECall.frozen ?_
  unfold ECall1; rw [hl]; exact .inl ⟨r, hp, fun e => .inl (hs e), hk⟩
end
attribute [simp] ddrawV
end Go.V
namespace Go.V
variable [Dr] [Ov]
open Go.RowKit
def fmkB : Op → Bool
  | .box _ _ | .alloc _ | .makeMap _ none | .buildSlice _ _ _ | .assign (.const (.slice none 0 0)) => true
  | _ => false
def fmk (P : Program) (n0 : Nat) (ρ : Operand → Sym) (ty : Nat) (K : Obj' → Prop) : Op → Prop
  | .box T x => match symCells (ρ x) with
    | some l => Sym.los n0 l ∧ K (.box T l)
    | none => False
  | .alloc T => match TI.of P T with
    | some ti => ti.zero.all (·.oneCell') = true ∧ K (.box T (ti.zero.map ofConst))
    | none => False
  | .makeMap t none => K (.map t [])
  | .assign (.const (.slice none 0 0)) => match TI.of P ty with
    | some ⟨.slice e, _, _, _, _⟩ => match TI.of P e with
      | some te => K (.arr e te.size [])
      | none => False
    | _ => False
  | .buildSlice t n parts => match TI.of P t with
    | some ⟨.slice e, _, _, _, _⟩ => match TI.of P e with
      | some te => match inOrder 0 parts.toList with
        | some l => match arIdss (l.map ρ), rowsOf te.size (l.map ρ) with
          | [], some rows => l.length = n ∧ 0 < te.size ∧ n * te.size ≤ 16777216 ∧ K (.arr e te.size rows)
          | _, _ => False
        | none => False
      | none => False
    | _ => False
  | _ => False
def fsrc (hs : List (Nat × Obj')) (ρ : Operand → Sym) (x : Operand) : Option (Option Nat × List (List D)) :=
  match x with
  | .tmp k => match alook hs k with
    | some (.arr _ _ rows) => some (some k, rows)
    | some _ => none
    | none => match ρ (.tmp k) with
      | .d (.sl l) => some (none, l)
      | .nils => some (none, [])
      | _ => none
  | x => match ρ x with
    | .d (.sl l) => some (none, l)
    | .nils => some (none, [])
    | _ => none
def fdrop (src : Option Nat) (hs : List (Nat × Obj')) : List (Nat × Obj') := match src with
  | some k => hdrop k hs
  | none => hs
def fapp (P : Program) (hs : List (Nat × Obj')) (ρ : Operand → Sym) (j : Nat) (x : Operand) (t t' d : Nat) (K : FK → List (Nat × Obj') → Prop) : Prop :=
  match alook hs j, TI.of P t with
  | some (.arr T sz rows), some ⟨.slice e, _, _, _, _⟩ => match TI.of P e, fsrc hs ρ x with
    | some te, some (src, l) => (t' = t ∧ 0 < te.size ∧ te.zero.length = te.size ∧ te.zero.all (·.oneCell') = true ∧ T = e ∧ sz = te.size ∧ (∀ r ∈ l, r.length = te.size) ∧ (rows.length + l.length) * te.bytes ≤ 140737488355328 ∧
        rows.length + l.length ≤ maxLen ∧ src ≠ some j) ∧ K (.app j src (.arr e te.size (rows ++ l))) ((d, .arr e te.size (rows ++ l)) :: hdrop j (fdrop src hs))
    | _, _ => False
  | _, _ => False
def fsto (P : Program) (n0 : Nat) (hs : List (Nat × Obj')) (ρ : Operand → Sym) (t j : Nat) (x : Operand) (K : FK → List (Nat × Obj') → Prop) : Prop :=
  match TI.of P t, symCells (ρ x), alook hs j with
  | some ti, some l, some (.box T cells) => (l.length = ti.size ∧ Sym.los n0 l ∧ l.length ≤ cells.length) ∧ K (.sto j (.box T (splice cells 0 l))) ((j, .box T (splice cells 0 l)) :: hdrop j hs)
  | _, _, _ => False
def fval (P : Program) (all : List Oper) (n0 : Nat) (o : Oper) (st : St) (hs : List (Nat × Obj')) (K : FK → List (Nat × Obj') → Prop) : Prop :=
  draw1 P all o st (fun s => Sym.lo n0 s ∧ K (.val s) hs)
def fop (P : Program) (all : List Oper) (n0 : Nat) (vl : List Nat) (o : Oper) (st : St) (hs : List (Nat × Obj')) (K : FK → List (Nat × Obj') → Prop) : Prop :=
  match o.op, o.guard, o.dst with
  | .call { callee := .builtin .append, args := xs, argTypes := ts }, none, some d => match xs.toList, ts.toList with
    | [.tmp j, x], [t, t'] => fapp P hs st.val j x t t' d K
    | _, _ => False
  | .store t (.tmp j) x, none, none => fsto P n0 hs st.val t j x K
  | op, none, some d => if fmkB op = true ∧ vl.contains d = false then fmk P n0 st.val o.type (fun ob => K (.mk ob) ((d, ob) :: hs)) op else fval P all n0 o st hs K
  | _, _, _ => fval P all n0 o st hs K
def fseg (P : Program) (all : List Oper) (n0 : Nat) (vl : List Nat) (K : St → List FK → List (Nat × Obj') → Prop) : List Oper → St → List FK → List (Nat × Obj') → Prop
  | [], st, ks, hs => K st ks hs
  | o :: r, st, ks, hs => xdst o.dst st.n = true ∧ fop P all n0 vl o st hs (fun k hs' => fseg P all n0 vl K r (st.put o.dst k.sym) (k :: ks) hs')
def ftail (P : Program) (K : St → Prop) : List Oper → St → Prop
  | [], st => K st
  | [o], st => o.guard = none ∧ dop P o st K
  | _, _ => False
def segOkB (all seg : List Oper) (ks : List FK) : Bool := segB1 all seg ks 0 seg ks && nodupB (bstIds ks)
section
variable {P : Program} {all : List Oper} {lo : Nat} {st0 : St} {F F' : XF} {i : Nat} {o : Oper}
theorem fmk_sound {n n0 : Nat} {ρ : Operand → Sym} {o : Oper} {K : Obj' → Prop} (hd : dstB o.dst n = true) (h : fmk P n0 ρ o.type K o.op) :
    ∃ ob, K ob ∧ ob.lo n0 ∧ ∀ (st : St) (K : St → Prop), KnowsR n ρ o st → K ((st.new ob).put o.dst (ref ob st.next)) → dop P o st K := by
  unfold fmk at h
  split at h
  · rename_i T x ho
    split at h
    · rename_i l hl
      refine ⟨_, h.2, h.1, fun st K hk hK => ?_⟩
      have hv := hk.2 x (by rw [ho]; simp [Op.operands]) (by intro e; rw [e] at hl; simp [symCells] at hl)
      unfold dop; rw [ho]; simp only
      refine ⟨by rw [hk.1]; exact hd, ?_⟩
      unfold eBox
      rw [hv, hl]; exact hK
    · exact h.elim
  · rename_i T ho
    split at h
    · rename_i ti ht
      refine ⟨_, h.2, ofConsts_lo _ _, fun st K hk hK => ?_⟩
      unfold dop; rw [ho]; simp only
      rw [ht]
      exact ⟨by rw [hk.1]; exact hd, h.1, hK⟩
    · exact h.elim
  · rename_i t ho
    refine ⟨_, h, trivial, fun st K hk hK => ?_⟩
    unfold dop; rw [ho]; simp only
    exact ⟨by rw [hk.1]; exact hd, hK⟩
  · rename_i ho
    split at h
    · rename_i e _ _ _ _ ht
      split at h
      · rename_i te hte
        refine ⟨_, h, trivial, fun st K hk hK => ?_⟩
        unfold dop; rw [ho]; simp only
        rw [ht]; simp only
        rw [hte]
        exact ⟨by rw [hk.1]; exact hd, hK⟩
      · exact h.elim
    · exact h.elim
  · rename_i t m parts ho
    split at h
    · rename_i e _ _ _ _ ht
      split at h
      · rename_i te hte
        split at h
        · rename_i l hl
          split at h
          · rename_i rows har hrows
            obtain ⟨h1, h2, h3, h4⟩ := h
            refine ⟨_, h4, trivial, fun st K hk hK => ?_⟩
            have hmap : l.map st.val = l.map ρ := by
              refine List.map_congr_left fun x hx => hk.2 x ?_ (rowsOf_nj hrows x hx)
              obtain ⟨i, hi⟩ := inOrder_mem hl x hx
              rw [ho]; simp only [Op.operands]; simp; exact ⟨i, by simpa using hi⟩
            unfold dop; rw [ho]; simp only
            refine ⟨by rw [hk.1]; exact hd, ?_⟩
            unfold eBuild
            rw [ht]; simp only
            rw [hte]; simp only
            rw [hl]; simp only
            rw [hmap, har]
            refine ⟨h1, h2, h3, ?_⟩
            simp only [St.frzs]
            rw [hmap, hrows]; exact hK
          · exact h.elim
        · exact h.elim
      · exact h.elim
    · exact h.elim
  · exact h.elim
theorem fsrc_spec {hs : List (Nat × Obj')} {ρ : Operand → Sym} {x : Operand} {src : Option Nat} {l : List (List D)} (h : fsrc hs ρ x = some (src, l)) :
    (∃ k T sz, x = .tmp k ∧ src = some k ∧ alook hs k = some (.arr T sz l)) ∨ (src = none ∧ (ρ x = .d (.sl l) ∨ (ρ x = .nils ∧ l = []))) := by
  unfold fsrc at h
  split at h
  · rename_i k
    split at h
    · rename_i T sz rows hk; cases h; exact .inl ⟨k, T, sz, rfl, rfl, hk⟩
    · cases h
    · split at h
      · rename_i l' hv; cases h; exact .inr ⟨rfl, .inl hv⟩
      · rename_i hv; cases h; exact .inr ⟨rfl, .inr ⟨hv, rfl⟩⟩
      · cases h
  · split at h
    · rename_i l' hv; cases h; exact .inr ⟨rfl, .inl hv⟩
    · rename_i hv; cases h; exact .inr ⟨rfl, .inr ⟨hv, rfl⟩⟩
    · cases h
theorem fapp_sound {n n0 : Nat} {hs : List (Nat × Obj')} {ρ : Operand → Sym} {o : Oper} {j t t' d : Nat} {x : Operand} {K : FK → List (Nat × Obj') → Prop} (hd : dstB o.dst n = true) (ho : o.op = .call { callee := .builtin .append, args := #[.tmp j, x], argTypes := #[t, t'] })
    (h : fapp P hs ρ j x t t' d K) : ∃ src ob oj ok, K (.app j src ob) ((d, ob) :: hdrop j (fdrop src hs)) ∧ isArr ob ∧ ob.lo n0 ∧ alook hs j = some oj ∧ isArr oj ∧
      (∀ k, src = some k → x = .tmp k ∧ k ≠ j ∧ alook hs k = some ok ∧ isArr ok) ∧
      ∀ (st : St) (K : St → Prop) (id : Nat), KnowsR n ρ o st → st.val (.tmp j) = .ar id → st.look id = some oj → (∀ k, src = some k → ∃ id', id' ≠ id ∧ st.val (.tmp k) = .ar id' ∧ st.look id' = some ok) →
        K ((st.renew id ob).put o.dst (.ar id)) → dop P o st K := by
  unfold fapp at h
  split at h
  · rename_i T sz rows e _ _ _ _ hj ht
    split at h
    · rename_i te src l hte hsrc
      obtain ⟨⟨h1, h2, h3, h30, h4, h5, h6, h7, h8, h9⟩, h⟩ := h
      have key : ∀ (st : St) (K : St → Prop) (id : Nat), KnowsR n ρ o st → st.val (.tmp j) = .ar id → st.look id = some (.arr T sz rows) → srcRows st id (st.val x) = some l → K ((st.renew id (.arr e te.size (rows ++ l))).put o.dst (.ar id)) → dop P o st K := by
        intro st K id hk hv hl hs hK
        unfold dop; rw [ho]; simp only
        refine ⟨by rw [hk.1]; exact hd, ?_⟩
        refine .inl ?_
        unfold eAppend
        rw [ht]; simp only
        rw [hte]; simp only
        refine ⟨h1, h2, h3, h30, ?_⟩
        rw [hv]; simp only
        rw [hl, hs]; simp only
        exact ⟨h4, h5, h6, h7, h8, hK⟩
      rcases fsrc_spec hsrc with ⟨k, T', sz', rfl, rfl, hk⟩ | ⟨rfl, hv⟩
      · have hne : k ≠ j := fun e => h9 (by rw [e])
        refine ⟨some k, _, .arr T sz rows, .arr T' sz' l, h, trivial, trivial, hj, trivial, fun k' e => by cases e; exact ⟨rfl, hne, hk, trivial⟩, fun st K id hkn hv hl hs hK => ?_⟩
        obtain ⟨id', g1, g2, g3⟩ := hs k rfl
        refine key st K id hkn hv hl ?_ hK
        rw [g2]; simp only [srcRows]; rw [if_neg g1, g3]
      · refine ⟨none, _, .arr T sz rows, .arr T sz rows, h, trivial, trivial, hj, trivial, fun k' e => (by cases e), fun st K id hkn hv' hl hs hK => ?_⟩
        refine key st K id hkn hv' hl ?_ hK
        have hmem : x ∈ o.op.operands := by rw [ho]; simp [Op.operands, Call.operands]
        rcases hv with hv | ⟨hv, rfl⟩
        · rw [hkn.2 x hmem (by rw [hv]; simp), hv]; rfl
        · rw [hkn.2 x hmem (by rw [hv]; simp), hv]; rfl
    · exact h.elim
  · exact h.elim
theorem fsto_sound {n n0 : Nat} {hs : List (Nat × Obj')} {ρ : Operand → Sym} {o : Oper} {j t : Nat} {x : Operand} {K : FK → List (Nat × Obj') → Prop} (hhl : ∀ k ob, alook hs k = some ob → ob.lo n0) (ho : o.op = .store t (.tmp j) x) (hd : o.dst = none)
    (h : fsto P n0 hs ρ t j x K) :
    ∃ ob oj, K (.sto j ob) ((j, ob) :: hdrop j hs) ∧ isBox ob ∧ ob.lo n0 ∧ alook hs j = some oj ∧ isBox oj ∧
      ∀ (st : St) (K : St → Prop) (id : Nat), KnowsR n ρ o st → st.val (.tmp j) = .bp id 0 → st.look id = some oj → K { st with own := aset id ob st.own } → dop P o st K := by
  unfold fsto at h
  split at h
  · rename_i ti l T cells ht hl hj
    obtain ⟨⟨h1, h2, h3⟩, h⟩ := h
    have hnj : ρ x ≠ .junk := by intro e; rw [e] at hl; simp [symCells] at hl
    have hmx : x ∈ o.op.operands := by rw [ho]; simp [Op.operands]
    refine ⟨_, .box T cells, h, trivial, splice_lo (hhl j _ hj) h2, hj, trivial, fun st K id hk hv hlk hK => ?_⟩
    unfold dop; rw [ho]; simp only
    rw [hd, ht]; simp only
    unfold eStore
    rw [hv]; simp only
    rw [hlk]; simp only
    rw [hk.2 x hmx hnj, hl]
    exact ⟨h1, by omega, hK⟩
  · exact h.elim
theorem fop_sound (hok : drawOk all = true) {vl : List Nat} {own0 : List (Nat × Obj')} {stF : St} (hI : FInv P all lo st0 own0 [] F i) (ho : all[i]? = some o) (hsti : Seg.sti ⟨all, lo, i, F.rks.reverse, st0, fun _ => own0⟩ i = stF) (hd : xdst o.dst st0.n = true) {K : FK → List (Nat × Obj') → Prop}
    (h : fop P all st0.next vl o stF F.hs K) : ∃ k hs', K k hs' ∧ FInv P all lo st0 own0 [] (F.push k o.dst hs' F.ow) (i + 1) := by
  have hdb : dstB o.dst st0.n = true := by
    have := (xdst_lt hd).1
    unfold dstB
    split
    · rename_i t ht; simpa using this t ht
    · rfl
  have hval : stF.val = F.xt.val := by rw [← hsti]; exact hI.ag.val
  have hext := fun k => hI.ext (k := k)
  have hv : fval P all st0.next o stF F.hs K → ∃ k hs', K k hs' ∧ FInv P all lo st0 own0 [] (F.push k o.dst hs' F.ow) (i + 1) := by
    intro h
    obtain ⟨s, h1, h2, h3⟩ := draw1_ex h
    refine ⟨.val s, F.hs, h3, hI.push hok ho hd rfl ?_ (fun t2 ob2 hm => .inl ⟨hm, rfl⟩) hI.hsn (.inl ⟨rfl, fun _ _ e => by cases e⟩)⟩
    refine ⟨?_, h2⟩
    rw [List.reverse_cons, sti_snoc (by simpa using hI.len.1) hI.len.2.1 (Nat.le_refl _), hsti]
    exact h1
  have hmk : ∀ d, o.guard = none → o.dst = some d → fmk P st0.next stF.val o.type (fun ob => K (.mk ob) ((d, ob) :: F.hs)) o.op → ∃ k hs', K k hs' ∧ FInv P all lo st0 own0 [] (F.push k o.dst hs' F.ow) (i + 1) := by
    intro d hgd hdst h
    obtain ⟨ob, hK, hlo, hdop⟩ := fmk_sound (n := st0.n) hdb h
    refine ⟨.mk ob, _, hK, hI.push hok ho hd rfl ?_ ?_ ?_ (.inl ⟨rfl, fun _ _ e => by cases e⟩)⟩
    · exact ⟨hgd, ⟨d, hdst⟩, hlo, fun st K hk => hdop st K (by rw [hval]; exact hI.knows hk)⟩
    · intro t2 ob2 hm
      rcases List.mem_cons.1 hm with e | hm
      · cases e; exact .inr (.inl ⟨rfl, hdst⟩)
      · exact .inl ⟨hm, rfl⟩
    · simp only [List.map_cons, List.nodup_cons]
      exact ⟨hI.fresh' hok ho hdst fun x hx => hx, hI.hsn⟩
  unfold fop at h
  split at h
  · rename_i xs' ts d hop hgd hdst
    split at h
    · rename_i j x t t' hx ht
      have e1 : xs' = #[.tmp j, x] := by cases xs'; simp at hx; rw [hx]
      have e2 : ts = #[t, t'] := by cases ts; simp at ht; rw [ht]
      subst e1; subst e2
      obtain ⟨src, ob, oj, ok, hK, har, hlo, hj, harj, hsrc, hdop⟩ := fapp_sound (n0 := st0.next) hdb hop h
      have hjm := alook_mem hj
      have hobs : ∀ x, Operand.tmp x ∈ o.op.operands → x ∈ tmpsOf all o := fun x hx => looks_operand hx
      refine ⟨_, _, hK, hI.push hok ho hd rfl ?_ ?_ ?_ (.inl ⟨rfl, fun _ _ e => by cases e⟩)⟩
      · refine ⟨hgd, ⟨d, hdst⟩, hobs j (by rw [hop]; simp [Op.operands, Call.operands]), fun k hk => ⟨(hsrc k hk).2.1, hobs k (by rw [hop, (hsrc k hk).1]; simp [Op.operands, Call.operands])⟩, hlo, har,
          oj, ok, (hext _).held (hI.hs j oj hjm).1.held, harj, fun k hk => ⟨(hext _).held (hI.hs k ok (alook_mem (hsrc k hk).2.2.1)).1.held, (hsrc k hk).2.2.2⟩, fun st K id hk => hdop st K id (by rw [hval]; exact hI.knows hk)⟩
      · intro t2 ob2 hm
        rcases List.mem_cons.1 hm with e | hm
        · cases e; exact .inr (.inl ⟨rfl, hdst⟩)
        · obtain ⟨h1, h2⟩ := hdrop_mem hm
          left
          have h2' : Nat.beq j t2 = false := by cases hb : Nat.beq j t2 with | false => rfl | true => exact absurd (beq_iff.1 hb).symm h2
          cases src with
          | none => exact ⟨h1, by simp [takes, h2']⟩
          | some k =>
            obtain ⟨h3, h4⟩ := hdrop_mem h1
            have h4' : Nat.beq k t2 = false := by cases hb : Nat.beq k t2 with | false => rfl | true => exact absurd (beq_iff.1 hb).symm h4
            exact ⟨h3, by simp [takes, h2', h4']⟩
      · simp only [List.map_cons, List.nodup_cons]
        cases src with
        | none => exact ⟨hI.fresh' hok ho hdst fun x hx => (hdrop_mem hx).1, hdrop_nodup hI.hsn⟩
        | some k => exact ⟨hI.fresh' hok ho hdst fun x hx => (hdrop_mem (hdrop_mem hx).1).1, hdrop_nodup (hdrop_nodup hI.hsn)⟩
    · exact h.elim
  · rename_i t j x hop hgd hdst
    have hhl : ∀ k ob, alook F.hs k = some ob → ob.lo st0.next := fun k ob hk => (hI.hs k ob (alook_mem hk)).2.2
    have hjt : j ∈ tmpsOf all o := looks_operand (by rw [hop]; simp [Op.operands])
    obtain ⟨ob, oj, hK, hb, hlo, hj, hbj, hdop⟩ := fsto_sound (n := st0.n) hhl hop hdst h
    have hjm := alook_mem hj
    refine ⟨_, _, hK, hI.push hok ho hd rfl ?_ ?_ ?_ (.inl ⟨rfl, fun _ _ e => by cases e⟩)⟩
    · exact ⟨hgd, hdst, hjt, hlo, hb, oj, (hext _).held (hI.hs j oj hjm).1.held, hbj, fun st K id hk => hdop st K id (by rw [hval]; exact hI.knows hk)⟩
    · intro t2 ob2 hm
      rcases List.mem_cons.1 hm with e | hm
      · cases e; exact .inr (.inr ⟨rfl, oj, hjm⟩)
      · obtain ⟨h1, h2⟩ := hdrop_mem hm
        have h2' : Nat.beq j t2 = false := by cases hb : Nat.beq j t2 with | false => rfl | true => exact absurd (beq_iff.1 hb).symm h2
        exact .inl ⟨h1, by simp [takes, h2']⟩
    · simp only [List.map_cons, List.nodup_cons]
      refine ⟨fun hm => ?_, hdrop_nodup hI.hsn⟩
      obtain ⟨⟨t2, ob2⟩, h1, h2⟩ := List.mem_map.1 hm
      exact (hdrop_mem h1).2 h2
  · rename_i hgd hdst _
    split at h
    · exact hmk _ hgd hdst h
    · exact hv h
  · exact hv h
theorem fseg_sound (hok : drawOk all = true) {vl : List Nat} {own0 : List (Nat × Obj')} {K : St → List FK → List (Nat × Obj') → Prop} : ∀ {l : List Oper} {i : Nat} {F : XF} {stF : St}, (all.drop i).take l.length = l → stF.n = st0.n → FInv P all lo st0 own0 [] F i →
    Seg.sti ⟨all, lo, i, F.rks.reverse, st0, fun _ => own0⟩ i = stF → fseg P all st0.next vl K l stF F.rks F.hs → ∃ F' : XF, ∃ st' : St, FInv P all lo st0 own0 [] F' (i + l.length) ∧ Seg.sti ⟨all, lo, i + l.length, F'.rks.reverse, st0, fun _ => own0⟩ (i + l.length) = st' ∧ F'.ow = F.ow ∧ K st' F'.rks F'.hs
  | [], i, F, stF, hl, hn, hI, hsti, h => ⟨F, stF, hI, hsti, rfl, h⟩
  | o :: r, i, F, stF, hl, hn, hI, hsti, h => by
    simp only [fseg] at h
    obtain ⟨hd, h⟩ := h
    rw [hn] at hd
    have ho : all[i]? = some o := by
      have := congrArg (fun l : List Oper => l[0]?) hl
      simpa using this
    obtain ⟨k, hs', hK, hI'⟩ := fop_sound hok hI ho hsti hd h
    have hr : (all.drop (i + 1)).take r.length = r := by
      have := congrArg List.tail hl
      rw [List.tail_cons] at this
      rw [← this]
      have hd : all.drop i = o :: all.drop (i + 1) := by
        obtain ⟨hlt, he⟩ := List.getElem?_eq_some_iff.1 ho
        rw [List.drop_eq_getElem_cons hlt, he]
      rw [hd]; simp
    have hput : ∀ (s : Sym), (stF.put o.dst s).n = stF.n := by intro s; unfold St.put; split <;> rfl
    have hsti' : Seg.sti ⟨all, lo, i + 1, (F.push k o.dst hs' F.ow).rks.reverse, st0, fun _ => own0⟩ (i + 1) = stF.put o.dst k.sym := by
      simp only [XF.push, List.reverse_cons]
      rw [sti_next (by simpa using hI.len.1) hI.len.2.1 ho, hsti]
    obtain ⟨F', st', q1, q2, q3, q4⟩ := fseg_sound hok hr ((hput _).trans hn) hI' hsti' hK
    have e : i + 1 + r.length = i + (o :: r).length := by simp; omega
    rw [e] at q1 q2
    exact ⟨F', st', q1, q2, q3, q4⟩
theorem draw_f (hmix : P.follows .mixedOrders = true) (m : Nat) (vl : List Nat) {id : Nat} {ops : List Oper} {st : St} {Q : DE → St → Prop} (hok : drawOk ops = true) (hm : Nat.ble m ops.length = true) (hcut : (Nat.beq m ops.length || cutB ops m) = true) (hsm : smallS st.slots = true)
    (h : fseg P ops st.next vl (fun stF rks hs => segOkB ops (ops.take m) rks.reverse = true ∧ ftail P (Q .normal) (ops.drop m) { st with next := st.next + hs.length, slots := refF st.next hs ++ stF.slots, own := numF st.next hs ++ st.own }) (ops.take m) st [] []) :
    Triple P (.region id ops.toArray true) Q st := by
  rw [Nat.ble_eq] at hm
  refine region_sound hmix hok ?_
  have hag : Ag st (xsOf st) := ag_of hsm
  obtain ⟨hI0, hown⟩ := begin_inv (P := P) (all := ops) hag (Nat.zero_le _) []
  have e0 : (xbegin (xsOf st) []).xt.own = st.own := rfl
  rw [e0] at hI0 hown
  have hst0 : Seg.sti ⟨ops, 0, 0, (xbegin (xsOf st) []).rks.reverse, st, fun _ => st.own⟩ 0 = st := by
    unfold Seg.sti; simp [puts]
  have hlen : (ops.take m).length = m := by rw [List.length_take]; omega
  obtain ⟨F, st', hI, hsti, how, hseg, htl⟩ := fseg_sound (l := ops.take m) hok (by simp) rfl hI0 hst0 h
  rw [hlen, Nat.zero_add] at hI hsti
  have how' : F.ow = st.own := how
  have hsg : segB1 ops ((ops.drop 0).take (m - 0)) F.rks.reverse 0 ((ops.drop 0).take (m - 0)) F.rks.reverse = true ∧ nodupB (bstIds F.rks.reverse) = true := by
    unfold segOkB at hseg
    rw [Bool.and_eq_true] at hseg
    simpa using hseg
  obtain ⟨g1, g2, g3⟩ := finish_sound (s0 := xsOf st) hok hI hown hag (xs' := { (xsOf st) with next := (xsOf st).next + F.hs.length, slots := xfins F.xt (xsOf st).next F.hs, own := numF (xsOf st).next F.hs ++ F.ow }) (by
    unfold xfinish
    simp only
    rw [oguard_some, Bool.and_eq_true]
    exact ⟨hsg, rfl⟩)
  refine .seg (hi := m) F.rks.reverse (fun _ => st.own) F.hs F.ow g1 g2 ?_ ?_
  · rw [Bool.or_eq_true, beq_iff] at hcut
    exact hcut.elim .inr .inl
  · have hfin : Seg.fin ⟨ops, 0, m, F.rks.reverse, st, fun _ => st.own⟩ F.hs F.ow = { st with next := st.next + F.hs.length, slots := refF st.next F.hs ++ st'.slots, own := numF st.next F.hs ++ st.own } := by
      unfold Seg.fin
      rw [hsti, how']
    rw [hfin]
    generalize ({ st with next := st.next + F.hs.length, slots := refF st.next F.hs ++ st'.slots, own := numF st.next F.hs ++ st.own } : St) = stE at htl
    cases hd : ops.drop m with
    | nil =>
      rw [hd] at htl
      have : m = ops.length := by
        have := congrArg List.length hd
        simp at this; omega
      rw [this]
      exact .done htl
    | cons o r =>
      cases r with
      | cons _ _ => rw [hd] at htl; exact htl.elim
      | nil =>
        rw [hd] at htl
        obtain ⟨hg, hdp⟩ := htl
        have hl1 : m + 1 = ops.length := by
          have := congrArg List.length hd
          simp at this; omega
        have ho : ops[m]? = some o := by
          have := congrArg (fun l : List Oper => l[0]?) hd
          simpa using this
        refine RegI.tot (Q .normal) (by omega) (.inr hl1) ?_ ?_
        · intro X w0 β a w hmm N Q' hN
          unfold wpOp
          have : ops.toArray[m]? = some o := by simpa using ho
          rw [this]
          simp only [Region.wanted, hg, if_true]
          exact .inl (dop_sound hmm hdp N _ fun a' w' st' β' hk hm' => hN a' w' st' β' hk hm')
        · intro st' hK
          rw [hl1]
          exact .done hK
end
attribute [simp] fmkB fmk fsrc fdrop fapp fsto fval fop fseg ftail refF numF ref hdrop xdst FK.sym FK.made
end Go.V
namespace Go.V
variable [Dr] [Ov]
open Go.RowKit
def sstore (P : Program) (st : St) (t : Nat) (ad x : Sym) (K : Nat → Obj' → Prop) : Prop :=
  match TI.of P t, ad with
  | some ti, .ap id sz i off => match st.look id with
    | some (.arr T sz' rows) => match symCells x with
      | some l => match allD l with
        | some ds => (sz = sz' ∧ i < rows.length ∧ ds.length = ti.size ∧ off + ds.length ≤ (rows.getD i []).length) ∧ K id (.arr T sz (rows.set i (splice (rows.getD i []) off ds)))
        | none => False
      | none => False
    | _ => False
  | _, _ => False
def hid (st : St) (b : Bool) : St := { st with own := if b = true then st.own else [] }
def frd (P : Program) (all : List Oper) (n0 : Nat) (dp : Nat → Bool) : Nat → List Oper → St → List Sym → (St → List Sym → Prop) → Prop
  | _, [], st, ss, K => K st ss
  | i, o :: r, st, ss, K => dstB o.dst st.n = true ∧ draw1 P all o (hid st (dp i)) (fun s => Sym.lo n0 s ∧ frd P all n0 dp (i + 1) r (st.put o.dst s) (s :: ss) K)
def ftots (P : Program) (K : St → Prop) : List Oper → St → Prop
  | [], st => K st
  | o :: r, st => o.guard = none ∧ dop P o st (fun st' => ftots P K r st')
def cutsB (all : List Oper) (k : Nat) : Bool := (List.range all.length).all fun i => Nat.ble i k || cutB all i
section
variable {P : Program} {all : List Oper} {st : St}
theorem ftots_sound {K : St → Prop} : ∀ {r : List Oper} {k : Nat} {st : St}, k ≤ all.length → all.drop k = r → (∀ i, k < i → i < all.length → cutB all i = true) → ftots P K r st → RegI P all K k st
  | [], k, st, hkl, hd, hc, h => by
    have : k = all.length := by
      have := congrArg List.length hd
      simp at this; omega
    subst this
    exact .done h
  | o :: r, k, st, hkl, hd, hc, h => by
    obtain ⟨hg, hdp⟩ := h
    have hk : k < all.length := by
      have := congrArg List.length hd
      simp at this; omega
    have ho : all[k]? = some o := by
      have := congrArg (fun l : List Oper => l[0]?) hd
      simpa using this
    have hr : all.drop (k + 1) = r := by
      have := congrArg List.tail hd
      simpa using this
    refine RegI.tot (fun st' => ftots P K r st') hk ?_ ?_ fun st' h' => ftots_sound hk hr (fun i h1 h2 => hc i (by omega) h2) h'
    · rcases Nat.eq_or_lt_of_le (show k + 1 ≤ all.length from hk) with e | e
      · exact .inr e
      · exact .inl (hc (k + 1) (by omega) e)
    · intro X w0 β a w hmm N Q' hN
      unfold wpOp
      have : all.toArray[k]? = some o := by simpa using ho
      rw [this]
      simp only [Region.wanted, hg, if_true]
      exact .inl (dop_sound hmm hdp N _ fun a' w' st' β' hk hm' => hN a' w' st' β' hk hm')
theorem puts_hid (b : Bool) : ∀ (l : List Oper) (ss : List Sym) (st : St), puts l ss (hid st b) = hid (puts l ss st) b
  | [], ss, st => by simp [puts]
  | o :: r, [], st => by simp [puts]
  | o :: r, s :: ss, st => by
    have : (hid st b).put o.dst s = hid (st.put o.dst s) b := by
      unfold hid St.put
      cases o.dst <;> rfl
    simp only [puts]
    rw [this, puts_hid b r ss]
end
attribute [simp] sstore frd ftots hid
end Go.V
namespace Go.V
variable [Dr] [Ov]
open Go.RowKit
section
variable {P : Program} {f : Nat} {args : List D} {r : D} {st : St} {K : St → Prop}
theorem PureN.toR (h : PureN P f args r) : PureR P f args r :=
  ⟨h.1, fun w E vs hS hv => (h.2 w E vs hS hv).mono fun _ w' ⟨v, he, hb, hr⟩ => ⟨v, he, hb, hr.over (Over.less fun _ hb => .inl hb) _ _⟩⟩
theorem pureN_of_fresh {T sz : Nat} {rows : List (List D)} (h : PureF P f args T sz rows) (hs : D.scalars rows.flatten = true) : PureN P f args (.sl rows) := by
  obtain ⟨hc, hl, hp⟩ := h
  refine ⟨hc, fun w E vs hS hv => (hp w E vs hS hv).mono fun _ w' ⟨v, xs, he, hb, ho, h1, hcs⟩ => ⟨v, he, hb, ?_⟩⟩
  have hO : Owns (fun b => w.heap.size ≤ b) w' T sz v rows.length xs := Owns.of_row ho h1 fun _ h => h
  refine rows_read' hO (Rvals.cells (scalars_read hs hcs.vals) hcs.one) hl (fun b hbv => ?_) (Over.refl _ _)
  rintro (h | h)
  · have := (hO.2 b hbv).1
    have := hS.1 b h
    omega
  · have := (hO.2 b hbv).1
    omega
theorem ECall.pureN {f : Operand} {xs : List Operand} {dst : Option Tmp} {g : Nat} {ds : List D} {lent : Bool} {r : D} (hl : lendsArgs st f xs = Option.some (g, ds, lent)) (hp : PureN P g ds r)
    (hk : K (st.put dst (.d r))) : ECall P st f xs dst K := by
  unfold ECall ECall1; left; rw [hl]; exact .inl ⟨r, hp.toR, fun _ => .inr hp, hk⟩
theorem scall_pureN {look : Nat → Option Obj'} {c : Sym} {args : List Sym} {k : Sym → Prop} {f : Nat} {caps : List Sym} {ds : List D} {lent : Bool} {r : D} (hc : scallee c = some (f, caps)) (hl : lends look (args ++ caps) = some (ds, lent)) (hp : PureN P f ds r)
    (hk : k (.d r)) : scall P look c args k := by
  unfold scall scallD
  rw [hc]
  dsimp only
  rw [hl]
  exact ⟨r, hp.toR, fun _ => .inr hp, hk⟩
end
section
variable {P : Program} {all : List Oper} {lo : Nat} {st0 : St} {i : Nat} {o : Oper}
end
end Go.V
namespace Go.V
variable [Dr] [Ov]
open Go.RowKit
def EYield (P : Program) (st : St) (id : Nat) (xs : List Operand) (dst : Option Tmp) (K : St → Prop) : Prop :=
  ∃ (k : Nat) (ids : List Nat) (args0 : List Sym) (own0 : List (Nat × Obj')) (s : Sym) (nx : Nat) (own' : List (Nat × Obj')) (mv : List Nat), (k < ids.length ∧ rho ids k = id) ∧ rens (rho ids) args0 = xs.map st.val ∧ Sym.los ids.length args0 ∧ Fits st ids own0 ∧
    RoundC P k args0 own0 ids.length s nx own' mv ∧ K ((st.after ids nx own' mv).put dst (ren (rho' ids st.next) s))
def ydOf : Sym → Option Nat
  | .yd id => some id
  | _ => none
def dopX (P : Program) (o : Oper) (st : St) (K : St → Prop) : Prop :=
  match o.op with
  | .call { callee := .value f, args := xs, argTypes := ts } => match ydOf (st.val f) with
    | some id => dstB o.dst st.n = true ∧ EYield P st id xs.toList o.dst K
    | none => dop P o st K
  | _ => dop P o st K
def dopsX (P : Program) (all : List Oper) : List Oper → St → (St → Prop) → Prop
  | [], st, K => K st
  | o :: r, st, K => match o.guard with
    | none => dopX P o st (lz fun st' => dopsX P all r st' K)
    | some (j, want) => match (all[j]?).bind (·.dst) with
      | some t => match alook st.slots t with
        | some (.d (.bool b)) => (b = want → dopX P o (st.put (some t) (.d (.bool want))) (lz fun st' => dopsX P all r st' K)) ∧
          (b = !want → dstB o.dst st.n = true ∧ dopsX P all r ((st.put (some t) (.d (.bool !want))).put o.dst (.d (.val undef))) K)
        | some (.d (.val v)) => v = undef ∧ dstB o.dst st.n = true ∧ dopsX P all r (st.put o.dst (.d (.val undef))) K
        | _ => False
      | none => False
def evX (P : Program) : Code → (DE → St → Prop) → St → Prop
  | .skip, Q, st => Q .normal st
  | .region _ ops draw, Q, st => draw = false ∧ dopsX P ops.toList ops.toList st (Q .normal)
  | .seq x y, Q, st => evX P x (afterSeq (fun st' => evX P y Q st') Q) st
  | .cond c x y, Q, st => match st.val c with
    | .d (.bool b) => (b = true → evX P x Q st) ∧ (b = false → evX P y Q st)
    | _ => False
  | .block id c, Q, st => evX P c (afterBlock id Q) st
  | .exit id, Q, st => Q (.exit id) st
  | .ret, Q, st => Q .ret st
  | _, _, _ => False
section
variable {P : Program} {X : Nat → Prop} {w0 : Base} {st : St} {β : Nat → Value} {a : Act} {w w' : World} {K : St → Prop}
theorem MX.back {ms : List Nat} (hd : a.defers = ms.map mark ++ w0.dfs) : ({ ({ a with defers := w0.dfs } : Act) with defers := ms.map mark ++ w0.dfs } : Act) = a := by
  cases a; simp only at hd; subst hd; rfl
def putsS : List Nat → List Sym → St → St
  | p :: ps, s :: ss, st => putsS ps ss (st.put (some p) s)
  | _, _, st => st
def roundEnd (id n nx : Nat) (s : Sym) (own' : List (Nat × Obj')) (mv : List Nat) : DE → St → Prop := fun de st2 =>
  (st2.base = n ∧ id ∉ st2.moved) ∧ match st2.look id with
    | some (.raw (.lp ps as bd .busy none) cells2) => s = .d (.bool (isNormal de)) ∧ Weak { st2 with own := aset id (.raw (.lp ps as bd (stateOf de) (jumpOf de)) cells2) st2.own } { n := st2.n, next := nx, slots := [], own := own', base := n, moved := mv }
    | _ => False
def roundMid (P : Program) (bd : Code) (id n : Nat) (Q : DE → St → Prop) : DE → St → Prop := fun e st1 =>
  match e with
  | .normal => (st1.base = n ∧ id ∉ st1.moved) ∧ match st1.look id with
    | some (.raw (.lp ps as bd' .ready none) cells1) => bd' = bd ∧ evX P bd Q { st1 with own := aset id (.raw (.lp ps as bd' .busy none) cells1) st1.own }
    | _ => False
  | _ => False
def slotS (st : St) : Nat → Nat → List Sym
  | 0, _ => []
  | k + 1, t => (match alook st.slots t with
    | some s => s
    | none => .junk) :: slotS st k (t + 1)
def rangeSt (st : St) (ps : Array Tmp) (as bd : Code) : St := st.new (.raw (.lp ps as bd .ready none) (slotS st st.n 0))
def lessRaw (st : St) (id : Nat) : St := { st with own := st.own.filter fun x => !Nat.beq x.1 id }
def rangeFin (id : Nat) (Q : DE → St → Prop) (st : St) : Prop := match st.look id with
  | some (.raw (.lp _ _ _ s pend) _) => match s, pend with
    | .busy, _ => False
    | _, none => Q .normal (lessRaw st id)
    | _, some .ret => Q .ret (lessRaw st id)
    | _, some (.exit i) => Q (.exit i) (lessRaw st id)
    | _, _ => False
  | _ => False
end
section
variable {P : Program} {st : St} {Q : DE → St → Prop}
def evXK (P : Program) (y : Code) (Q : DE → St → Prop) : DE → St → Prop := afterSeq (fun st => evX P y Q st) Q
end
theorem EYield.tO {P : Program} {st : St} {id : Nat} {xs : List Operand} {dst : Option Tmp} {K : St → Prop} (k : Nat) (ids : List Nat) (args0 : List Sym) (own0 : List (Nat × Obj')) {s : Sym} {nx : Nat} {own' : List (Nat × Obj')} {mv : List Nat}
    (hk : k < ids.length ∧ rho ids k = id) (ha : rens (rho ids) args0 = xs.map st.val) (hl : Sym.los ids.length args0) (hf : Fits st ids own0) (hp : RoundC P k args0 own0 ids.length s nx own' mv)
    (hK : K ((st.after ids nx own' mv).put dst (ren (rho' ids st.next) s))) : EYield P st id xs dst K := ⟨k, ids, args0, own0, s, nx, own', mv, hk, ha, hl, hf, hp, hK⟩
theorem CallC.unitX {P : Program} {f : Nat} {args : List Sym} {own : List (Nat × Obj')} {n nx : Nat} {own' : List (Nat × Obj')} {mv : List Nat} (h : CallC P f args own n (.tup []) nx own' mv) : CallC P f args own n (.d (.tup [])) nx own' mv := by
  refine ⟨h.1, fun X w0 β w vs hβ hm hs => (h.2 X w0 β w vs hβ hm hs).mono fun e w' he => ?_⟩
  obtain ⟨β', v, h1, h2, h3, h4⟩ := he
  refine ⟨β', v, h1, h2, by simp [Sym.lo], ?_⟩
  simp only [Sm, Sms] at h4
  obtain ⟨vs', rfl, rfl⟩ := h4
  simp [Sm, R, Rvals]
section
variable {P : Program} {st : St} {Q : DE → St → Prop} {K : St → Prop} {all r : List Oper}
def dopsXK (P : Program) (all r : List Oper) (K : St → Prop) : St → Prop := fun st => dopsX P all r st K
theorem evX_skip : evX P .skip Q st = Q .normal st := rfl
theorem evX_region (id : Nat) (ops : List Oper) : evX P (.region id ops.toArray false) Q st = dopsX P ops ops st (normK Q) := by simp [evX]; rfl
theorem evX_seq (x y : Code) : evX P (.seq x y) Q st = evX P x (evXK P y Q) st := rfl
theorem evX_cond (c : Operand) (x y : Code) : evX P (.cond c x y) Q st = match st.val c with
    | .d (.bool b) => (b = true → evX P x Q st) ∧ (b = false → evX P y Q st)
    | _ => False := rfl
theorem evX_block (id : Nat) (c : Code) : evX P (.block id c) Q st = evX P c (afterBlock id Q) st := rfl
theorem evX_exit (id : Nat) : evX P (.exit id) Q st = Q (.exit id) st := rfl
theorem evX_ret : evX P .ret Q st = Q .ret st := rfl
theorem evXK_normal (y : Code) : evXK P y Q .normal st = evX P y Q st := rfl
theorem evXK_exit (y : Code) (i : Nat) : evXK P y Q (.exit i) st = Q (.exit i) st := rfl
theorem evXK_ret (y : Code) : evXK P y Q .ret st = Q .ret st := rfl
theorem dopsX_nil : dopsX P all [] st K = K st := rfl
theorem dopsX_plain (dst : Option Tmp) (op : Op) (ty : Nat) (pos : String) (after : Array Edge) :
    dopsX P all (⟨dst, op, ty, pos, after, none⟩ :: r) st K = dopX P ⟨dst, op, ty, pos, after, none⟩ st (dopsXK P all r K) := rfl
theorem dopsX_guard (dst : Option Tmp) (op : Op) (ty : Nat) (pos : String) (after : Array Edge) (j : Nat) (want : Bool) :
    dopsX P all (⟨dst, op, ty, pos, after, some (j, want)⟩ :: r) st K = match (all[j]?).bind (·.dst) with
      | some t => match alook st.slots t with
        | some (.d (.bool b)) => (b = want → dopX P ⟨dst, op, ty, pos, after, some (j, want)⟩ (st.put (some t) (.d (.bool want))) (dopsXK P all r K)) ∧
          (b = !want → dstB dst st.n = true ∧ dopsX P all r ((st.put (some t) (.d (.bool !want))).put dst (.d (.val undef))) K)
        | some (.d (.val v)) => v = undef ∧ dstB dst st.n = true ∧ dopsX P all r (st.put dst (.d (.val undef))) K
        | _ => False
      | none => False := rfl
theorem dopsXK_app : dopsXK P all r K st = dopsX P all r st K := rfl
theorem roundMid_normal {bd : Code} {id n : Nat} : roundMid P bd id n Q .normal st = ((st.base = n ∧ id ∉ st.moved) ∧ match st.look id with
    | some (.raw (.lp ps as bd' .ready none) cells1) => bd' = bd ∧ evX P bd Q { st with own := aset id (.raw (.lp ps as bd' .busy none) cells1) st.own }
    | _ => False) := rfl
end
attribute [simp] evX_skip evX_region evX_seq evX_cond evX_block evX_exit evX_ret evXK_normal evXK_exit evXK_ret dopsX_nil dopsX_plain dopsX_guard dopsXK_app dopX ydOf roundMid_normal putsS initC symSlots roundEnd isNormal stateOf jumpOf slotS rangeSt lessRaw rangeFin
section
variable {P : Program} {st : St} {all : List Oper}
def ddrawT (P : Program) (all : List Oper) (m : Nat) (K : St → Prop) : List Oper → St → Prop
  | [], st => K st
  | x :: r, st => dstB x.dst st.n = true ∧ draw1 P all x st (fun s => Sym.lo m s ∧ ddrawT P all m K r (st.put x.dst s))
theorem ddrawT_chain {m : Nat} {K : St → Prop} : ∀ {l : List Oper} {st : St}, ddrawT P all m K l st → ∃ ss, Chain P all l ss st ∧ (∀ s ∈ ss, Sym.lo m s) ∧ K (puts l ss st)
  | [], st, h => ⟨[], rfl, by simp, h⟩
  | x :: r, st, h => by
    simp only [ddrawT] at h
    obtain ⟨h0, h⟩ := h
    obtain ⟨s, h1, h2, h3⟩ := draw1_ex h
    obtain ⟨ss, q1, q2, q3⟩ := ddrawT_chain h3
    refine ⟨s :: ss, ⟨s, ss, rfl, h0, h1, q1⟩, ?_, q3⟩
    intro u hu
    rcases List.mem_cons.1 hu with e | hu
    · subst e; exact h2
    · exact q2 u hu
theorem draw_tail (hmix : P.follows .mixedOrders = true) {id : Nat} {pre post : List Oper} (hok : drawOk (pre ++ post) = true) (hpost : post ≠ []) (hcut : cutB (pre ++ post) pre.length = true) (hcuts : cutsB (pre ++ post) pre.length = true) {Q : DE → St → Prop}
    (hkeys : (st.own.map (·.1)).Nodup) (h : ddrawT P (pre ++ post) st.next (ftots P (Q .normal) post) pre st) : Triple P (.region id (pre ++ post).toArray true) Q st := by
  refine region_sound hmix hok ?_
  obtain ⟨ss, hch, hlo, hd⟩ := ddrawT_chain h
  have hlen := chain_length hch
  have hkd : ∀ i k, (Seg.kd ⟨pre ++ post, 0, pre.length, ss.map .val, st, fun _ => st.own⟩ i) = some k → ∃ s, ss[i]? = some s ∧ k = .val s := by
    intro i k hk
    unfold Seg.kd at hk
    split at hk
    · simp only [Nat.sub_zero, List.getElem?_map] at hk
      cases hs : ss[i]? with
      | none => rw [hs] at hk; cases hk
      | some s => rw [hs] at hk; simp at hk; exact ⟨s, rfl, hk.symm⟩
    · cases hk
  have hnoU : ∀ t, ¬ (Seg.U ⟨pre ++ post, 0, pre.length, ss.map .val, st, fun _ => st.own⟩ t) := by
    rintro t ⟨i, ob, y, k, _, hk, _, hm⟩
    obtain ⟨s, _, rfl⟩ := hkd i k hk
    cases hm
  have hnb : ∀ i id ob, Seg.kd ⟨pre ++ post, 0, pre.length, ss.map .val, st, fun _ => st.own⟩ i ≠ some (.bst id ob) := by
    intro i id ob hk
    obtain ⟨s, _, e⟩ := hkd i _ hk
    cases e
  have hsti : ∀ i, Seg.sti ⟨pre ++ post, 0, pre.length, ss.map .val, st, fun _ => st.own⟩ i = puts ((pre ++ post).take i) (ss.take i) st := by
    intro i
    unfold Seg.sti
    have hmm : (ss.map FK.val).map FK.sym = ss := by
      rw [List.map_map]
      have : (FK.sym ∘ FK.val) = fun s => s := rfl
      rw [this, List.map_id']
    simp only [List.drop_zero, Nat.sub_zero]
    rw [hmm]
  have hpt : ∀ i, i ≤ pre.length → (pre ++ post).take i = pre.take i := fun i hi => by rw [List.take_append_of_le_length hi]
  refine RegI.seg (pos := 0) (hi := pre.length) (ss.map .val) (fun _ => st.own) [] st.own ?_ ?_ (.inl hcut) ?_
  · refine ⟨hok, ⟨Nat.zero_le _, by simp, by simp [hlen]⟩, fun t _ _ h => absurd h (hnoU t), fun i t ob m h => absurd ⟨i, ob, h⟩ (hnoU t), fun i j id ob ob' h => absurd h (hnb i id ob), fun _ id ob h => ⟨h, fun i ob hk => absurd hk (hnb i id ob)⟩, ?_⟩
    intro i y k hy hk
    obtain ⟨s, hs, rfl⟩ := hkd i k hk
    have hi : i < pre.length := by
      have := (List.getElem?_eq_some_iff.1 hs).1
      omega
    have hy' : pre[i]? = some y := by
      have : (pre ++ post)[i]? = pre[i]? := List.getElem?_append_left hi
      rw [← this]; exact hy
    obtain ⟨s', hs', hd', hst⟩ := chain_get hch hy'
    rw [hs] at hs'; cases hs'
    refine ⟨hd', fun t _ => hnoU t, ?_, hlo s (List.mem_of_getElem? hs)⟩
    show DStep P (pre ++ post) y (Seg.sti ⟨pre ++ post, 0, pre.length, ss.map .val, st, fun _ => st.own⟩ i) s
    rw [hsti, hpt i (by omega)]
    exact hst
  · refine ⟨fun t ob h => by simp at h, by simp, rfl, fun _ id ob h => .inr ⟨?_, fun i ob => hnb i id ob⟩⟩
    have hmem : ∀ {l : List (Nat × Obj')}, (l.map (·.1)).Nodup → (id, ob) ∈ l → alook l id = some ob := by
      intro l
      induction l with
      | nil => intro _ h; cases h
      | cons x r ih =>
        intro hn h
        obtain ⟨k, u⟩ := x
        simp only [List.map_cons, List.nodup_cons] at hn
        simp only [alook]
        rcases List.mem_cons.1 h with e | h
        · cases e; simp
        · have hne : k ≠ id := by intro e; subst e; exact hn.1 (List.mem_map.2 ⟨_, h, rfl⟩)
          rw [if_neg hne]; exact ih hn.2 h
    exact hmem hkeys h
  · have hfin : Seg.fin ⟨pre ++ post, 0, pre.length, ss.map .val, st, fun _ => st.own⟩ [] st.own = puts pre ss st := by
      unfold Seg.fin
      simp only [hsti, hpt pre.length (Nat.le_refl _), List.take_length]
      have hss : ss.take pre.length = ss := by rw [List.take_of_length_le (by omega)]
      obtain ⟨p1, p2, p3, p4, p5⟩ := puts_own pre ss st
      rw [hss]
      simp only [List.length_nil, Nat.add_zero, refF, numF, List.nil_append]
      cases hp : puts pre ss st with
      | mk n next slots own base moved =>
        rw [hp] at p1 p2 p3 p4 p5
        simp only at p1 p2 p3 p4 p5
        subst p1; subst p2; subst p3; subst p4; subst p5
        rfl
    rw [hfin]
    refine ftots_sound (k := pre.length) (by simp) (by simp) (fun i h1 h2 => ?_) hd
    have := List.all_eq_true.1 hcuts i (List.mem_range.2 h2)
    rw [Bool.or_eq_true, Nat.ble_eq] at this
    exact this.elim (fun e => by omega) fun e => e
theorem draw_t (hmix : P.follows .mixedOrders = true) (m : Nat) {id : Nat} {ops : List Oper} {Q : DE → St → Prop} (hok : drawOk ops = true) (hm : decide (m < ops.length) = true) (hcut : cutB ops m = true) (hcuts : cutsB ops m = true)
    (hkeys : (st.own.map (·.1)).Nodup) (h : ddrawT P ops st.next (ftots P (Q .normal) (ops.drop m)) (ops.take m) st) : Triple P (.region id ops.toArray true) Q st := by
  have hm : m < ops.length := of_decide_eq_true hm
  have e : ops.take m ++ ops.drop m = ops := List.take_append_drop m ops
  have hl : (ops.take m).length = m := by rw [List.length_take]; omega
  have := draw_tail (P := P) (st := st) (pre := ops.take m) (post := ops.drop m) (id := id) (Q := Q) hmix (by rw [e]; exact hok) (by intro e2; have := congrArg List.length e2; rw [List.length_drop] at this; simp at this; omega) (by rw [e, hl]; exact hcut) (by rw [e, hl]; exact hcuts) hkeys (by rw [e]; exact h)
  rw [e] at this
  exact this
attribute [simp] ddrawT ftots
end
section
variable {P : Program} {all : List Oper} {st : St} {Q : DE → St → Prop}
def sstoreB (P : Program) (ib n0 : Nat) (st : St) (t : Nat) (ad x : Sym) (K : Nat → Obj' → Prop) : Prop :=
  match TI.of P t, ad with
  | some ti, .bp id off => match st.look id with
    | some (.box T cells) => match symCells x with
      | some l => (id = ib ∧ l.length = ti.size ∧ off + l.length ≤ cells.length ∧ Sym.los n0 (splice cells off l)) ∧ K id (.box T (splice cells off l))
      | none => False
    | _ => False
  | _, _ => False
def hidB (ib : Nat) (st : St) (b : Bool) : St := { st with own := if b = true then st.own else st.own.filter fun x => !Nat.beq x.1 ib }
theorem alook_filt {ib : Nat} : ∀ (l : List (Nat × Obj')) (id : Nat), alook (l.filter fun x => !Nat.beq x.1 ib) id = if id = ib then none else alook l id
  | [], id => by simp [alook]
  | (k, v) :: r, id => by
    have ih := alook_filt (ib := ib) r id
    by_cases h : k = ib
    · subst h
      rw [List.filter_cons_of_neg (by simp), ih]
      by_cases h2 : id = k
      · subst h2; simp
      · rw [if_neg h2, if_neg h2]; simp only [alook]; rw [if_neg (fun e => h2 e.symm)]
    · have hb : Nat.beq k ib = false := by
        cases hq : Nat.beq k ib with
        | true => exact absurd (Nat.eq_of_beq_eq_true hq) h
        | false => rfl
      rw [List.filter_cons_of_pos (by show (!Nat.beq k ib) = true; rw [hb]; rfl)]
      simp only [alook]
      by_cases h2 : k = id
      · subst h2; rw [if_pos rfl, if_neg h, if_pos rfl]
      · rw [if_neg h2, ih, if_neg h2]
def frdB (P : Program) (all : List Oper) (n0 : Nat) (dp : Nat → Bool) (ib : Nat) : Nat → List Oper → St → List Sym → (St → List Sym → Prop) → Prop
  | _, [], st, ss, K => K st ss
  | i, o :: r, st, ss, K => dstB o.dst st.n = true ∧ draw1 P all o (hidB ib st (dp i)) (fun s => Sym.lo n0 s ∧ frdB P all n0 dp ib (i + 1) r (st.put o.dst s) (s :: ss) K)
theorem frdB_chain {n0 : Nat} {dp : Nat → Bool} {ib : Nat} {K : St → List Sym → Prop} : ∀ {l : List Oper} {i : Nat} {st : St} {rs : List Sym}, frdB P all n0 dp ib i l st rs K →
    ∃ ss : List Sym, ss.length = l.length ∧ K (puts l ss st) (ss.reverse ++ rs) ∧ ∀ j o, l[j]? = some o → ∃ s, ss[j]? = some s ∧ dstB o.dst st.n = true ∧ DStep P all o (hidB ib (puts (l.take j) (ss.take j) st) (dp (i + j))) s ∧ Sym.lo n0 s
  | [], i, st, rs, h => ⟨[], rfl, by simp only [frdB] at h; simpa [puts] using h, fun j o hj => by simp at hj⟩
  | x :: r, i, st, rs, h => by
    simp only [frdB] at h
    obtain ⟨hd, h⟩ := h
    obtain ⟨s, h1, h2, h3⟩ := draw1_ex h
    obtain ⟨ss, q1, q2, q3⟩ := frdB_chain h3
    refine ⟨s :: ss, by simp [q1], by simpa [puts] using q2, fun j o hj => ?_⟩
    cases j with
    | zero =>
      simp at hj; subst hj
      exact ⟨s, rfl, hd, by simpa [puts] using h1, h2⟩
    | succ j =>
      obtain ⟨s', e1, e2, e3, e4⟩ := q3 j o (by simpa using hj)
      refine ⟨s', by simpa using e1, ?_, ?_, e4⟩
      · have : (st.put x.dst s).n = st.n := by unfold St.put; split <;> rfl
        rw [this] at e2; exact e2
      · have e : i + (j + 1) = i + 1 + j := by omega
        rw [e]
        simpa [puts] using e3
theorem puts_hidB (ib : Nat) (b : Bool) : ∀ (l : List Oper) (ss : List Sym) (st : St), puts l ss (hidB ib st b) = hidB ib (puts l ss st) b
  | [], ss, st => by simp [puts]
  | o :: r, [], st => by simp [puts]
  | o :: r, s :: ss, st => by
    have : (hidB ib st b).put o.dst s = hidB ib (st.put o.dst s) b := by
      unfold hidB St.put
      cases o.dst <;> rfl
    simp only [puts]
    rw [this, puts_hidB ib b r ss]
theorem draw_b (hmix : P.follows .mixedOrders = true) (m ib : Nat) {id : Nat} {ops : List Oper} {t j : Nat} {x : Operand} {so : Oper} {Q : DE → St → Prop} (hok : drawOk ops = true) (hso : ops[m]? = some so) (hop : so.op = .store t (.tmp j) x) (hg : so.guard = none) (hdn : so.dst = none)
    (hcut : cutsB ops m = true) (hkeys : (st.own.map (·.1)).Nodup)
    (h : frdB P ops st.next (waitsB ops 4 m) ib 0 (ops.take m) st [] (fun stF _ => sstoreB P ib st.next { stF with own := st.own } t (stF.val (.tmp j)) (stF.val x) (fun id ob => ftots P (Q .normal) (ops.drop (m + 1)) { st with slots := stF.slots, own := aset id ob st.own }))) :
    Triple P (.region id ops.toArray true) Q st := by
  refine region_sound hmix hok ?_
  obtain ⟨ss, hlen, hK, hstep⟩ := frdB_chain h
  have hml : m < ops.length := (List.getElem?_eq_some_iff.1 hso).1
  have htl : (ops.take m).length = m := by rw [List.length_take]; omega
  rw [htl] at hlen
  obtain ⟨p1, p2, p3, p4, p5⟩ := puts_own (ops.take m) ss st
  generalize hE : puts (ops.take m) ss st = stE at hK p1 p2 p3 p4 p5
  unfold sstoreB at hK
  split at hK
  · rename_i ti id' off hti had
    split at hK
    · rename_i T cells hlk
      split at hK
      · rename_i l hl
        · obtain ⟨hcond, hK⟩ := hK
          obtain ⟨hid0, hcond⟩ := hcond
          subst hid0
          have hlk0 : alook st.own id' = some (.box T cells) := hlk
          let ob : Obj' := .box T (splice cells off l)
          let ks : List FK := ss.map .val ++ [.bst id' ob]
          have hkl : ks.length = m + 1 := by simp [ks, hlen]
          let dp : Nat → Bool := waitsB ops 4 m
          let S : Seg := ⟨ops, 0, m + 1, ks, st, fun i => if i < m then (if dp i = true then st.own else st.own.filter fun x => !Nat.beq x.1 id') else []⟩
          have hown0 : ∀ i, S.own0 i = if i < m then (if dp i = true then st.own else st.own.filter fun x => !Nat.beq x.1 id') else [] := fun i => rfl
          have hkd : ∀ i, S.kd i = if i < m then (ss[i]?).map .val else if i = m then some (.bst id' ob) else none := by
            intro i
            show (if 0 ≤ i ∧ i < m + 1 then ks[i - 0]? else none) = _
            rw [Nat.sub_zero]
            by_cases h1 : i < m
            · rw [if_pos (by omega), if_pos h1]
              simp only [ks]
              rw [List.getElem?_append_left (by simp; omega), List.getElem?_map]
            · rw [if_neg h1]
              by_cases h2 : i = m
              · subst h2
                rw [if_pos (by omega), if_pos rfl]
                simp only [ks]
                rw [List.getElem?_append_right (by simp; omega)]
                simp [hlen]
              · rw [if_neg (by omega), if_neg h2]
          have hval : ∀ i k, S.kd i = some k → (i < m ∧ ∃ s, ss[i]? = some s ∧ k = .val s) ∨ (i = m ∧ k = .bst id' ob) := by
            intro i k hk
            rw [hkd] at hk
            split at hk
            · rename_i h1
              rw [Option.map_eq_some_iff] at hk
              obtain ⟨s, e1, e2⟩ := hk
              exact .inl ⟨h1, s, e1, e2.symm⟩
            · split at hk
              · rename_i h2; cases hk; exact .inr ⟨h2, rfl⟩
              · cases hk
          have hnoU : ∀ u, ¬ S.U u := by
            rintro u ⟨i, o, y, k, _, hk, _, hm⟩
            rcases hval i k hk with ⟨_, s, _, rfl⟩ | ⟨_, rfl⟩ <;> cases hm
          have hbm : S.kd m = some (.bst id' ob) := by rw [hkd, if_neg (Nat.lt_irrefl _), if_pos rfl]
          have hks : ∀ i, i ≤ m → (ks.map FK.sym).take i = ss.take i := by
            intro i hi
            simp only [ks, List.map_append, List.map_map]
            have hmm : (FK.sym ∘ FK.val) = fun s => s := rfl
            rw [hmm, List.map_id', List.take_append_of_le_length (by omega)]
          have hsti : ∀ i, i < m → S.sti i = hidB id' (puts (ops.take i) (ss.take i) st) (dp i) := by
            intro i hi
            unfold Seg.sti
            show puts ((ops.drop 0).take (i - 0)) ((ks.map FK.sym).take (i - 0)) { st with own := S.own0 i } = _
            rw [hown0]
            simp only [List.drop_zero, Nat.sub_zero]
            rw [hks i (by omega)]
            rw [if_pos hi]
            exact puts_hidB id' (dp i) _ _ st
          have hstm : S.sti m = { stE with own := [] } := by
            unfold Seg.sti
            show puts ((ops.drop 0).take (m - 0)) ((ks.map FK.sym).take (m - 0)) { st with own := S.own0 m } = _
            rw [hown0, if_neg (by omega)]
            simp only [List.drop_zero, Nat.sub_zero]
            rw [hks m (Nat.le_refl _), List.take_of_length_le (show ss.length ≤ m by omega), ← hE]
            exact puts_hid false _ _ st
          have hvm : ∀ y, (S.sti m).val y = stE.val y := by
            intro y; rw [hstm]; cases y <;> rfl
          have cuts : ∀ i, m < i → i < ops.length → cutB ops i = true := by
            intro i h1 h2
            have := List.all_eq_true.1 hcut i (List.mem_range.2 h2)
            rw [Bool.or_eq_true, Nat.ble_eq] at this
            exact this.elim (fun e => by omega) fun e => e
          refine RegI.seg (pos := 0) (hi := m + 1) ks S.own0 [] (aset id' ob st.own) ?_ ?_ ?_ ?_
          · refine ⟨hok, ⟨Nat.zero_le _, hml, by simp [hkl]⟩, fun u _ _ hu => absurd hu (hnoU u), fun i u o m' hc => absurd ⟨i, o, hc⟩ (hnoU u), ?_, ?_, ?_⟩
            · intro a b id ob1 ob2 h1 h2
              rcases hval a _ h1 with ⟨_, s, _, e⟩ | ⟨e1, _⟩
              · cases e
              · rcases hval b _ h2 with ⟨_, s, _, e⟩ | ⟨e2, _⟩
                · cases e
                · omega
            · intro i id o ho
              have ho : alook (S.own0 i) id = some o := ho
              rw [hown0] at ho
              split at ho
              · split at ho
                case isFalse hdp =>
                  rw [alook_filt] at ho
                  split at ho
                  · cases ho
                  · rename_i hne
                    refine ⟨ho, fun m' ob' hk => ?_⟩
                    rcases hval m' _ hk with ⟨_, s, _, e⟩ | ⟨e1, e2⟩
                    · cases e
                    · cases e2; exact absurd rfl hne
                rename_i hb0 hb1
                have hb : i < m ∧ dp i = true := ⟨hb0, hb1⟩
                refine ⟨ho, fun m' ob' hk => ?_⟩
                rcases hval m' _ hk with ⟨_, s, _, e⟩ | ⟨e1, _⟩
                · cases e
                · subst e1
                  exact ⟨4, hb.2⟩
              · simp [alook] at ho
            · intro i o k ho hk
              have ho : ops[i]? = some o := ho
              have hk : S.kd i = some k := hk
              rcases hval i k hk with ⟨hi, s, hs, rfl⟩ | ⟨rfl, rfl⟩
              · obtain ⟨s', e1, e2, e3, e4⟩ := hstep i o (by rw [List.getElem?_take, if_pos hi]; exact ho)
                rw [hs] at e1; cases e1
                refine ⟨e2, fun u _ => hnoU u, ?_, e4⟩
                show DStep P ops o (S.sti i) s
                rw [hsti i hi]
                rw [Nat.zero_add, List.take_take, Nat.min_eq_left (by omega)] at e3
                exact e3
              · rw [hso] at ho; cases ho
                refine ⟨by rw [hdn]; rfl, hg, hdn, fun u _ => hnoU u, hcond.2.2, _, hlk0, ?_⟩
                intro st' K hkn hlk' hK'
                unfold dop
                rw [hop]; simp only
                rw [hdn, hti]; simp only
                unfold eStore
                have hva : st'.val (.tmp j) = .bp id' off := by
                  have hq := hvm (.tmp j)
                  rw [had] at hq
                  rw [hkn.2 (.tmp j) (by rw [hop]; simp [Op.operands]) (by rw [hq]; simp), hq]
                have hvx : symCells (st'.val x) = some l := by
                  have hq := hvm x
                  have hnj : stE.val x ≠ .junk := by intro e; rw [e] at hl; simp [symCells] at hl
                  rw [hkn.2 x (by rw [hop]; simp [Op.operands]) (by rw [hq]; exact hnj), hq]
                  exact hl
                rw [hva]; simp only
                rw [hlk']; simp only
                rw [hvx]; simp only
                exact ⟨hcond.1, hcond.2.1, hK'⟩
          · have hmem : id' ∈ st.own.map (·.1) := List.mem_map.2 ⟨_, alook_mem hlk0, rfl⟩
            refine ⟨fun u ob' hm => by simp at hm, by simp, aset_keys hmem, fun hn id o hio => ?_⟩
            rcases aset_mem hkeys hio with ⟨e1, e2⟩ | ⟨hne, hio⟩
            · subst e1; subst e2; exact .inl ⟨m, hbm⟩
            · refine .inr ⟨alook_of_mem hkeys hio, fun i ob' hk => ?_⟩
              rcases hval i _ hk with ⟨_, s, _, e⟩ | ⟨_, e⟩
              · cases e
              · cases e; exact hne rfl
          · rcases Nat.eq_or_lt_of_le (show m + 1 ≤ ops.length from hml) with e | e
            · exact .inr e
            · exact .inl (cuts (m + 1) (Nat.lt_succ_self m) e)
          · have hfin : Seg.fin ⟨ops, 0, m + 1, ks, st, S.own0⟩ [] (aset id' ob st.own) = { st with slots := stE.slots, own := aset id' ob st.own } := by
              unfold Seg.fin
              have hs : (Seg.sti ⟨ops, 0, m + 1, ks, st, S.own0⟩ (m + 1)).slots = stE.slots := by
                unfold Seg.sti
                simp only [List.drop_zero, Nat.sub_zero]
                have e1 : ops.take (m + 1) = ops.take m ++ [so] := by
                  rw [List.take_add_one, hso]; rfl
                have e2 : (ks.map FK.sym).take (m + 1) = ss ++ [.junk] := by
                  rw [List.take_of_length_le (by simp [hkl])]
                  simp only [ks, List.map_append, List.map_map]
                  have hmm : (FK.sym ∘ FK.val) = fun s => s := rfl
                  rw [hmm, List.map_id']; rfl
                rw [e1, e2, puts_snoc _ _ _ (by rw [htl, hlen]), hdn]
                have e3 : ({ st with own := S.own0 (m + 1) } : St) = { st with own := S.own0 (m + 1) } := rfl
                have e4 : ∀ (o' : List (Nat × Obj')) (l : List Oper) (ss : List Sym) (st : St), (puts l ss { st with own := o' }).slots = (puts l ss st).slots := by
                  intro o' l
                  induction l with
                  | nil => intro ss st; simp [puts]
                  | cons y r ih =>
                    intro ss st
                    cases ss with
                    | nil => simp [puts]
                    | cons s ss =>
                      simp only [puts]
                      have : ({ st with own := o' } : St).put y.dst s = { (st.put y.dst s) with own := o' } := by
                        unfold St.put; cases y.dst <;> rfl
                      rw [this]; exact ih ss (st.put y.dst s)
                show (puts (ops.take m) ss { st with own := S.own0 (m + 1) }).slots = stE.slots
                rw [e4, hE]
              rw [hs]; rfl
            rw [hfin]
            exact ftots_sound hml rfl (fun i h1 h2 => cuts i (by omega) h2) hK
      · exact hK.elim
    · exact hK.elim
  · exact hK.elim
attribute [simp] sstoreB frdB hidB
end
end Go.V

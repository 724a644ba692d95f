/- A program logic of my own over the kit: part W2. It needs no conditions. -/
import Derived.Test.YtknekjalbninmaaGreatS1
import Derived.Recover
set_option linter.unusedVariables false
set_option linter.unusedSimpArgs false
set_option linter.unusedSectionVars false
namespace Go.V
variable [Dr] [Ov]
open Go.RowKit
section
variable {P : Program} {st : St} {Q : DE → St → Prop} {Qp : Value → St → Prop}
end
section
variable {P : Program} {X : Nat → Prop} {w0 : Base} {st : St} {β : Nat → Value} {a : Act} {w w' : World}
theorem fn_val (hm : Mods X w0 st β a w) {f : Operand} {g : Nat} {caps : List Sym} (hc : scallee (st.val f) = some (g, caps)) : ∃ vs : List Value, a.eval f = .func (.func g) #[] vs.toArray ∧ Sms w (Ex X β st.own) β caps vs := by
  have hv := (hm.val f).2
  cases hf : st.val f <;> rw [hf] at hc hv <;> simp only [scallee] at hc
  case d x =>
    cases x <;> simp only [scallee] at hc
    case fn f' l =>
      simp at hc; obtain ⟨rfl, rfl⟩ := hc
      simp only [Sm, R] at hv
      obtain ⟨vs, h1, h2⟩ := hv
      exact ⟨vs, h1, Sms.of_vals h2⟩
    all_goals cases hc
  case fn f' l =>
    simp at hc; obtain ⟨rfl, rfl⟩ := hc
    simp only [Sm] at hv
    exact hv
  all_goals cases hc
theorem Mods.hold (hm : Mods X w0 st β { a with defers := w0.dfs } w) (ds : List Deferred) (hd : a.defers = ds) :
    Mods X { w0 with β0 := β, dfs := ds } { st with base := st.next, moved := [] } β a w := by
  refine ⟨hm.outer, ⟨Nat.le_refl _, fun _ _ _ => rfl⟩, hm.one, hd, hm.size, ⟨hm.below.os, hm.below.tape, hm.below.output, hm.below.size, hm.below.block, hm.below.drawn⟩, hm.keys, hm.own, hm.apart, hm.slots⟩
end
def IdleC (P : Program) (g k : Nat) : Prop := callable P g = true ∧ ∀ (vs : List Value) (w : World), vs.length = k → CallsD P g vs.toArray .returning w fun e u' w' => e = .returned (.tuple #[]) ∧ u' = .returning ∧ Below w.heap.size w w'
theorem Mods.grow {P : Program} {X : Nat → Prop} {w0 : Base} {st : St} {β : Nat → Value} {a : Act} {w w' : World} (hm : Mods X w0 st β a w) (hb : Below w.heap.size w w') : Mods X w0 st β a w' := by
  have := hm.put hb (dst := none) (s := .junk) (v := undef) (by simp) (by simp [Sym.lo]) (by simp [Sm])
  exact this
theorem invoke_run {P : Program} {g : Nat} (hc : callable P g = true) (vs : Array Value) (w : World) : (invoke (.fn (.func g) vs) #[]).run P w = .ok (.enter g vs) w := by
  unfold callable at hc
  cases hfn : P.funcs[g]? with
  | none => simp [hfn] at hc
  | some fnn =>
    simp [hfn] at hc
    have e1 : ¬ fnn.body = none := by intro e; rw [e] at hc; simp at hc
    simp [invoke, callFunc, hfn, e1, hc.1]
end Go.V
namespace Go.V
variable [Dr] [Ov]
open Go.RowKit
end Go.V
namespace Go.V
variable [Dr] [Ov]
open Go.RowKit
def xcut (Γ : XG) (call : Caller) (run : Runner) (draw : List Oper → XS → Option XS) : Nat → Code → XS → Option (XS × Code)
  | 0, c, xs => some (xs, c)
  | n + 1, .seq a b, xs => match xcode Γ call run draw a true xs, hasRange a with
    | some (.normal, xs'), false => xcut Γ call run draw n b xs'
    | _, _ => none
  | _ + 1, _, _ => none
def xdefE (Γ : XG) (call : Caller) : List Oper → XS → Option (Nat × Nat × XS)
  | [], _ => none
  | o :: r, xs => match o.guard with
    | some _ => none
    | none => match r with
      | [] => match o.op with
        | .defer { callee := .value f, args := ⟨[]⟩, argTypes := _ } => match scallee (xs.val f) with
          | some (g, caps) => oguard (xdst o.dst xs.n) (some (g, caps.length, xs.put o.dst (.d (.val undef))))
          | none => none
        | _ => none
      | _ :: _ => match xoper Γ call o xs with
        | some xs' => xdefE Γ call r xs'
        | none => none
def xfunD (Γ : XG) (call : Caller) (run : Runner) (draw : List Oper → XS → Option XS) (g0 n0 f k : Nat) (args : List D) : Option D :=
  match Γ.fn f with
  | some (ntmps, c, rs) => oguard (Nat.blt args.length 4000) (match xcut Γ call run draw k c ⟨args.length + (ntmps - args.length), 0, argTr 0 (args.map .d) .leaf, [], 0, []⟩ with
    | some (xs1, .seq (.region _ ⟨ops⟩ false) B) => match xdefE Γ call ops xs1 with
      | some (g, m, xs2) => oguard (Nat.beq g g0 && Nat.beq m n0 && !hasRange B) (match xcode Γ call run draw B true { xs2 with base := xs2.next, moved := [] } with
        | some (de, xs3) => oguard (isRet de && Nat.beq xs3.base xs2.next) (match xress Γ (xs3.frzs (xfrzL Γ xs3 rs)) rs with
          | some l => match allD l with
            | some [d] => some d
            | some ds => some (.tup ds)
            | none => none
          | none => none)
        | none => none)
      | none => none
    | _ => none)
  | none => none
section
variable {P : Program} {Γ : XG} {call : Caller} {run : Runner} {X : Nat → Prop} {w0 : Base}
theorem xcode_wp (hg : XGood P Γ) (hc : GoodCall P call) (hr : GoodRun P run) {draw : List Oper → XS → Option XS} (hdr : DrawOkay P draw) {c : Code} {xs xs' : XS} {e : DE} {st : St} (h : xcode Γ call run draw c true xs = some (e, xs')) (hn : hasRange c = false)
    (hag : Ag st xs) {β : Nat → Value} {a : Act} {w : World} (hm : Mods X w0 st β a w) : c.wp P (fun e' a' w' => ∃ st' β', exM e' e ∧ Ag st' xs' ∧ Mods X w0 st' β' a' w') a w := by
  refine (wpIn_wide (n := 0)).1 (wpIn_mono (xcode_in (r := none) hg hc hr hdr (range_okay hc) h hag X w0 β a w [] 0 (.of hm) (fun _ => ⟨rfl, rfl⟩)) ?_)
  rintro e' a' w' ⟨st', β', ms', he, hag', hmx, hsame⟩
  have := hsame (by simp [hn])
  subst this
  exact ⟨st', β', he, hag', hmx.nil⟩
theorem xcut_wp (hg : XGood P Γ) (hc : GoodCall P call) (hr : GoodRun P run) {draw : List Oper → XS → Option XS} (hdr : DrawOkay P draw) {Q : Exit → Act → World → Prop} : ∀ {n : Nat} {c c' : Code} {xs xs' : XS} {st : St} {β : Nat → Value} {a : Act} {w : World},
    xcut Γ call run draw n c xs = some (xs', c') → Ag st xs → Mods X w0 st β a w → (∀ st' β' a' w', Ag st' xs' → Mods X w0 st' β' a' w' → c'.wp P Q a' w') → c.wp P Q a w
  | 0, c, c', xs, xs', st, β, a, w, h, hag, hm, hK => by
    simp only [xcut, Option.some.injEq, Prod.mk.injEq] at h
    obtain ⟨rfl, rfl⟩ := h
    exact hK st β a w hag hm
  | n + 1, c, c', xs, xs', st, β, a, w, h, hag, hm, hK => by
    cases c with
    | seq x y =>
      simp only [xcut] at h
      split at h
      · rename_i xs1 h1 h2
        refine wp_seq (wp_mono (xcode_wp hg hc hr hdr h1 h2 hag hm) ?_)
        rintro e' a' w' ⟨st', β', he, hag', hm'⟩
        cases e' <;> simp only [exM] at he
        exact xcut_wp hg hc hr hdr h hag' hm' hK
      · cases h
    | _ => simp [xcut] at h
theorem xdefE_wp (hg : XGood P Γ) (hc : GoodCall P call) {all : List Oper} {N : Exit → Act → World → Prop} {g m : Nat} {xs' : XS} : ∀ {l : List Oper} {xs : XS} {st : St} {β : Nat → Value} {a : Act} {w : World}, xdefE Γ call l xs = some (g, m, xs') → Ag st xs → Mods X w0 st β a w →
    (∀ a' w' st' β' (vs : List Value), Ag st' xs' → Mods X w0 st' β' { a' with defers := w0.dfs } w' → a'.defers = { target := .fn (.func g) vs.toArray, args := #[] } :: w0.dfs → vs.length = m → N .normal a' w') → wpList P all.toArray N l a w
  | [], xs, st, β, a, w, h, hag, hm, hN => by simp [xdefE] at h
  | o :: r, xs, st, β, a, w, h, hag, hm, hN => by
    unfold xdefE at h
    split at h
    · cases h
    · rename_i hgd
      refine wpList_step fun N' hN' => ?_
      simp only [Region.wanted, hgd, if_true]
      cases r with
      | nil =>
        simp only at h
        split at h
        · rename_i f ts ho
          split at h
          · rename_i g' caps hcal
            rw [oguard_some] at h
            obtain ⟨hd, h⟩ := h
            cases h
            rw [← hag.val] at hcal
            obtain ⟨vs, hev, hvs⟩ := fn_val hm hcal
            have hrun : (execOp a.eval o).run P w = .ok (.defer { target := .fn (.func g) vs.toArray, args := #[] }) w := by
              simp [execOp, ho, resolve, hev, Deferred.ofValue]
            have hdn : ∀ t, o.dst = some t → t < st.n := fun t e => by rw [hag.n]; exact (xdst_lt hd).1 t e
            unfold Oper.wp
            rw [hrun]
            simp only [Oper.upon]
            refine hN' _ _ (wpList_nil (hN _ _ (st.put o.dst (.d (.val undef))) β vs (hag.put hd _) ?_ ?_ (by rw [hvs.length])))
            · have h1 := hm.put_same (dst := o.dst) (s := .d (.val undef)) (v := undef) hdn (by simp [Sym.lo]) (by simp [Sm, R])
              have e : ({ ({ a with defers := { target := .fn (.func g) vs.toArray, args := #[] } :: a.defers } : Act).put o.dst undef with defers := w0.dfs } : Act) = a.put o.dst undef := by
                have := hm.defers
                cases a
                simp only at this
                subst this
                cases o.dst <;> rfl
              rw [e]
              exact h1
            · rw [← hm.defers]; cases o.dst <;> rfl
          · cases h
        · cases h
      | cons o2 r2 =>
        simp only at h
        split at h
        · rename_i xs1 h1
          exact xoper_sound hg hc hag hm h1 N' _ fun a' w' st' β' hk hm' => hN' a' w' (xdefE_wp hg hc h hk hm' hN)
        · cases h
theorem xfunD_sound (hg : XGood P Γ) (hc : GoodCall P call) (hr : GoodRun P run) {draw : List Oper → XS → Option XS} (hdr : DrawOkay P draw) {g0 n0 f k : Nat} (hid : IdleC P g0 n0) {args : List D} {r : D} (h : xfunD Γ call run draw g0 n0 f k args = some r) : PureR P f args r := by
  unfold xfunD at h
  split at h
  case h_2 => cases h
  rename_i ntmps c rs hfn
  obtain ⟨hcb, fn, hf, hb, hnt, hrs⟩ := hg.fn hfn
  rw [oguard_some, blt_iff] at h
  obtain ⟨hlen, h⟩ := h
  split at h
  case h_2 => cases h
  rename_i xs1 id ops B hcut
  split at h
  case h_2 => cases h
  rename_i g m xs2 hdef
  rw [oguard_some] at h
  simp only [Bool.and_eq_true, beq_iff, Bool.not_eq_true'] at h
  obtain ⟨⟨⟨rfl, rfl⟩, hnr⟩, h⟩ := h
  split at h
  case h_2 => cases h
  rename_i de xs3 hB
  rw [oguard_some] at h
  simp only [Bool.and_eq_true, beq_iff] at h
  obtain ⟨⟨hret, hbase⟩, h⟩ := h
  split at h
  case h_2 => cases h
  rename_i l hres
  obtain ⟨hgc, hidle⟩ := hid
  refine ⟨hcb, fun w E vs hE hrv => ?_⟩
  refine calls_of_wp_defers hf hb ?_
  have hm : Mods E (.of w) (memSt [] 0 0 []) (fun _ => .pointer none) act0 w :=
    ⟨⟨fun b hb hmay => hmay.elim (fun h => by have : w.heap.size ≤ b := h; have := hE.1 b hb; omega) (fun h => h), hE.2.over (Over.less fun b h => h.elim (fun h => h) False.elim)⟩, ⟨Nat.le_refl _, fun _ _ _ => rfl⟩, fun _ => rfl, rfl, rfl, Kept.refl _, by simp [memSt], by simp [memSt], by simp [memSt], by intro t s ht; simp [memSt, alook] at ht⟩
  have hov : Over w E w (Ex E (fun _ => Value.pointer none) []) := Over.less fun b hb => hb.elim (fun h => h) fun ⟨_, _, hx, _⟩ => by cases hx
  have hl0 : vs.length = args.length := hrv.length
  have hlen' : (args.map Sym.d).length < 4000 := by rw [List.length_map]; exact hlen
  have hag0 := Ag.init (args.map Sym.d) [] 0 fn.ntmps hlen'
  rw [List.length_map, hnt] at hag0
  have hs0 : Sms w (Ex E (fun _ => Value.pointer none) []) (fun _ => Value.pointer none) (args.map Sym.d) vs := Sms.of_vals (Rvals.over hov _ _ hrv)
  have hm0 := hm.initC (ntmps := fn.ntmps) hs0 (Sym.los_ds 0 args)
  rw [hnt] at hm0 ⊢
  refine xcut_wp hg hc hr hdr hcut hag0 hm0 ?_
  intro st1 β1 a1 w1 hag1 hm1
  refine wp_seq (wp_region_list ?_)
  refine xdefE_wp hg hc hdef hag1 hm1 ?_
  intro a2 w2 st2 β2 vs2 hag2 hm2 hds hvl
  show B.wp P _ a2 w2
  have hm3 := hm2.hold [{ target := .fn (.func g) vs2.toArray, args := #[] }] hds
  have hag3 : Ag { st2 with base := st2.next, moved := [] } { xs2 with base := xs2.next, moved := [] } := ⟨hag2.n, hag2.next, hag2.own, hag2.next, fun _ _ h => (by simp at h), hag2.slots⟩
  refine wp_mono (xcode_wp hg hc hr hdr hB hnr hag3 hm3) ?_
  rintro e a' w' ⟨st', β', he, hag', hm'⟩
  have fin : Leaves P fn a'.tmps (fun e w' => ∃ v, e = .returned v ∧ Below w.heap.size w w' ∧ R w' E r v) a'.defers .returning w' := by
    rw [hm'.defers]
    refine leaves_cons (by simp) (invoke_run hgc _ _) ?_
    refine (hidle vs2 w' hvl).mono ?_
    rintro e2 u' w'' ⟨rfl, rfl, hbw⟩
    have hm'' := Mods.grow (P := P) hm' hbw
    have hk : Kept (.of w) w'' := ⟨hm''.below.os, hm''.below.tape, hm''.below.output, hm''.below.size, hm''.below.block, hm''.below.drawn⟩
    have hm4 := hm''.frzs (l := xfrzL Γ xs3 rs)
    have hag4 := hag'.frzs (l := xfrzL Γ xs3 rs)
    obtain ⟨us, q1, q2⟩ := resSyms_sound hm4 (xress_eq hg hag4 hres)
    rw [← hrs] at q1
    have hr' := run_results fn a'.tmps q1
    have hR : R w'' E r (if h : us.length = 1 then us[0] else .tuple us.toArray) := by
      have hless : Over w'' (Ex E β' (st'.frzs (xfrzL Γ xs3 rs)).own) w'' E := Over.less fun b hb => .inl hb
      split at h
      · rename_i d hd
        cases h
        have hv := allD_vals hd q2
        simp only [Rvals] at hv
        obtain ⟨u, _, rfl, hu, rfl⟩ := hv
        simpa using R.over hless _ _ hu
      · rename_i ds hne hd
        cases h
        have hv := allD_vals hd q2
        have hl1 : us.length ≠ 1 := by
          rw [hv.length]
          intro e1
          cases ds with
          | nil => simp at e1
          | cons x y =>
            cases y with
            | nil => exact hne x rfl
            | cons _ _ => simp at e1
        simp only [hl1, dite_false]
        simp only [R]
        exact ⟨us, rfl, Rvals.over hless _ _ hv⟩
      · cases h
    exact ⟨_, hr', _, rfl, hk.below, hR⟩
  cases e <;> cases de <;> simp only [exM] at he <;> simp only [isRet] at hret
  · exact fin
  · cases hret
  · exact fin
end
end Go.V
namespace Go.V
variable [Dr] [Ov]
open Go.RowKit
def arIdsO : List (Nat × Obj') → List Nat
  | [] => []
  | (i, o) :: r => match o with
    | .arr _ _ _ => i :: arIdsO r
    | _ => arIdsO r
def xdrawF (Γ : XG) (call : Caller) (ops : List Oper) (xs : XS) : Option XS := orElse' (xdraw Γ call ops xs) (xdraw Γ call ops (xs.frzs (arIdsO xs.own)))
section
variable {P : Program} {Γ : XG}
theorem xdrawF_sound (hmix : P.follows .mixedOrders = true) (hg : XGood P Γ) {call : Caller} (hc : GoodCall P call) : DrawOkay P (xdrawF Γ call) := by
  intro id ops xs xs' st hag h
  rcases orElse_some h with h | h
  · exact xdraw_sound hmix hg hc id ops xs xs' st hag h
  · have := xdraw_sound hmix hg hc id ops (xs.frzs (arIdsO xs.own)) xs' (st.frzs (arIdsO xs.own)) hag.frzs h
    exact fun X w0 β a w hm => this X w0 β a w hm.frzs
theorem runF_sound (hmix : P.follows .mixedOrders = true) (hg : XGood P Γ) (k : Nat) : GoodCall P (xcall Γ (xdrawF Γ) k) := xcall_sound hg (fun call hc => xdrawF_sound hmix hg hc) k
def xAll (Γ : XG) (k g0 n0 f j : Nat) (ds : List D) : Option D := match xenv Γ (xdrawF Γ) k with
  | (call, run) => xfunD Γ call run (xdrawF Γ call) g0 n0 f j ds
theorem xAll_sound (hmix : P.follows .mixedOrders = true) (hg : XGood P Γ) {k g0 n0 f j : Nat} (hid : IdleC P g0 n0) {ds : List D} {r : D} (h : xAll Γ k g0 n0 f j ds = some r) : PureR P f ds r := by
  obtain ⟨h1, h2⟩ := xenv_sound hg (draw := xdrawF Γ) (fun call hc => xdrawF_sound hmix hg hc) k
  unfold xAll at h
  exact xfunD_sound hg h1 h2 (xdrawF_sound hmix hg h1) hid h
end
def symD : Sym → Option D
  | .tup l => match allD l with
    | some ds => some (.tup ds)
    | none => none
  | s => unD s
def resSt (r : XR) : St := { n := 1, next := r.nx, slots := [(0, r.s)], own := r.own, base := 0, moved := r.mv }
def xpureD (Γ : XG) (k f : Nat) (ds : List D) : Option D := match xcall Γ (xdrawF Γ) k f (ds.map .d) [] 0 with
  | some r => match alook ((resSt r).frzs (arIdsO r.own)).slots 0 with
    | some s => symD s
    | none => none
  | none => none
theorem xpureD_sound {P : Program} {Γ : XG} (hmix : P.follows .mixedOrders = true) (hg : XGood P Γ) {k f : Nat} {ds : List D} {d : D} (h : xpureD Γ k f ds = some d) : PureR P f ds d := by
  unfold xpureD at h
  split at h
  · rename_i r hr
    split at h
    · rename_i s hs
      have hC := runF_sound hmix hg k _ _ _ _ _ hr (Sym.los_ds 0 ds)
      refine ⟨hC.1, fun w E vs hE hrv => ?_⟩
      have hm : Mods E (.of w) (memSt [] 0 0 []) (fun _ => .pointer none) act0 w :=
        ⟨⟨fun b hb hmay => hmay.elim (fun h => by have : w.heap.size ≤ b := h; have := hE.1 b hb; omega) (fun h => h), hE.2.over (Over.less fun b h => h.elim (fun h => h) False.elim)⟩, ⟨Nat.le_refl _, fun _ _ _ => rfl⟩, fun _ => rfl, rfl, rfl, Kept.refl _, by simp [memSt], by simp [memSt], by simp [memSt], by intro t s ht; simp [memSt, alook] at ht⟩
      have hov : Over w E w (Ex E (fun _ => Value.pointer none) []) := Over.less fun b hb => hb.elim (fun h => h) fun ⟨_, _, hx, _⟩ => by cases hx
      refine (hC.2 E (.of w) _ w vs rfl hm (Sms.of_vals (Rvals.over hov _ _ hrv))).mono fun e w' he => ?_
      obtain ⟨β', v, rfl, hm', hlo, hsm⟩ := he
      have hm2 : Mods E (.of w) (resSt r) β' { tmps := #[v], defers := [] } w' := by
        refine ⟨hm'.outer, hm'.still, hm'.one, hm'.defers, rfl, hm'.below, hm'.keys, hm'.own, hm'.apart, ?_⟩
        intro t s0 ht
        simp only [resSt, alook] at ht
        split at ht
        · rename_i e0
          subst e0
          cases ht
          exact ⟨hlo, by simpa [resSt] using hsm⟩
        · cases ht
      have hm3 := hm2.frzs (l := arIdsO r.own)
      have hs1 := (hm3.slots 0 s hs).2
      have hs2 : Sm w' (Ex E β' ((resSt r).frzs (arIdsO r.own)).own) β' s v := by simpa using hs1
      have hless : Over w' (Ex E β' ((resSt r).frzs (arIdsO r.own)).own) w' E := Over.less fun b hb => .inl hb
      refine ⟨v, rfl, hm'.below.below, R.over hless _ _ ?_⟩
      unfold symD at h
      split at h
      · rename_i l
        split at h
        · rename_i xs hxs
          cases h
          simp only [Sm] at hs2
          obtain ⟨us, rfl, hus⟩ := hs2
          simp only [R]
          exact ⟨us, rfl, allD_vals hxs hus⟩
        · cases h
      · exact unD_sound h hs2
    · cases h
  · cases h
end Go.V

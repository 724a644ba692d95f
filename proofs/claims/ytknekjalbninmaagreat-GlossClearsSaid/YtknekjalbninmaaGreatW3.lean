/- A program logic of my own over the kit: part W3. It needs no conditions. -/
import Derived.Test.YtknekjalbninmaaGreatW2
set_option linter.unusedVariables false
set_option linter.unusedSimpArgs false
set_option linter.unusedSectionVars false
namespace Go.V
variable [Dr] [Ov]
open Go.RowKit
def mqGet : List Int → List Sym → Int → Option Sym
  | k :: ks, c :: cs, n => if k = n then some c else mqGet ks cs n
  | _, _, _ => none
def mqPut : List Int → List Sym → Int → Sym → List Int × List Sym
  | k :: ks, c :: cs, n, s => if k = n then (k :: ks, s :: cs) else (k :: (mqPut ks cs n s).1, c :: (mqPut ks cs n s).2)
  | _, _, n, s => ([n], [s])
section
variable {P : Program} {X : Nat → Prop} {w0 : Base} {st : St} {β : Nat → Value} {a : Act} {w w' : World} {E : Nat → Prop}
theorem int_now {u : TypeDesc} {n : Int} (w : World) (hk : isKeyD (kindTI P u) (.int .i64 n) = true) (k : Int) : Instr.sameNow u (.int .i64 n) (.int .i64 k) = some (decide (n = k)) :=
  (keyEq_now (P := P) (w := w) (E := fun _ => False) hk (by simp [R]) (y := .int .i64 k) (by simp [R]) (by simp [keyEq])).1
theorem mqGet_now {u : TypeDesc} {n : Int} (hk : isKeyD (kindTI P u) (.int .i64 n) = true) : ∀ {keys : List Int} {cells : List Sym} {es : List MapEntry} {i : Nat}, es.map (·.key) = keys.map (fun k => Value.int .i64 k) → Sms w E β cells (es.map (·.val)) →
    match mqGet keys cells n with
    | none => Instr.findNow u (.int .i64 n) es i = some none
    | some c => ∃ j t, Instr.findNow u (.int .i64 n) es i = some (some (j, t)) ∧ Sm w E β c t
  | [], cells, es, i, h1, h3 => by
    have : es = [] := by simpa using h1
    subst this
    simp only [mqGet]
    rfl
  | k :: ks, cells, es, i, h1, h3 => by
    cases es with
    | nil => simp at h1
    | cons e es =>
      simp only [List.map_cons, List.cons.injEq] at h1
      simp only [List.map_cons] at h3
      cases cells with
      | nil => simp [Sms] at h3
      | cons c cs =>
        simp only [Sms] at h3
        obtain ⟨v, vs', hv, hc, hr⟩ := h3
        obtain ⟨rfl, rfl⟩ := List.cons.inj hv
        have hs := int_now (P := P) w hk k
        rw [← h1.1] at hs
        simp only [mqGet]
        by_cases hq : k = n
        · rw [if_pos hq]
          rw [decide_eq_true hq.symm] at hs
          exact ⟨i, e.val, by simp [Instr.findNow, hs], hc⟩
        · rw [if_neg hq]
          rw [decide_eq_false (Ne.symm hq)] at hs
          have ih := mqGet_now hk (i := i + 1) h1.2 hr
          cases hg : mqGet ks cs n with
          | none => rw [hg] at ih; simpa [Instr.findNow, hs] using ih
          | some d => rw [hg] at ih; simpa [Instr.findNow, hs] using ih
theorem mqGet_lo {m : Nat} {n : Int} {c : Sym} : ∀ {keys : List Int} {cells : List Sym}, Sym.los m cells → mqGet keys cells n = some c → Sym.lo m c
  | [], cells, _, h => by simp [mqGet] at h
  | k :: ks, [], _, h => by simp [mqGet] at h
  | k :: ks, x :: cs, hl, h => by
    simp only [Sym.los] at hl
    simp only [mqGet] at h
    split at h
    · cases h; exact hl.1
    · exact mqGet_lo hl.2 h
theorem mqPut_lo {m : Nat} {n : Int} {s : Sym} (hs : Sym.lo m s) : ∀ {keys : List Int} {cells : List Sym}, Sym.los m cells → Sym.los m (mqPut keys cells n s).2
  | [], cells, _ => by simp [mqPut, Sym.los, hs]
  | k :: ks, [], _ => by simp [mqPut, Sym.los, hs]
  | k :: ks, x :: cs, hl => by
    simp only [Sym.los] at hl
    simp only [mqPut]
    split
    · simp only [Sym.los]; exact ⟨hs, hl.2⟩
    · simp only [Sym.los]; exact ⟨hl.1, mqPut_lo hs hl.2⟩
theorem mqPut_now {u : TypeDesc} {n : Int} {s : Sym} {t : Value} (hk : isKeyD (kindTI P u) (.int .i64 n) = true) (hs : Sm w E β s t) : ∀ {keys : List Int} {cells : List Sym} {es : List MapEntry} {i : Nat}, es.map (·.key) = keys.map (fun k => Value.int .i64 k) → Sms w E β cells (es.map (·.val)) →
    (Instr.findNow u (.int .i64 n) es i = some none ∧ ∀ c, (es ++ [({ key := .int .i64 n, val := t, born := c } : MapEntry)]).map (·.key) = (mqPut keys cells n s).1.map (fun k => Value.int .i64 k) ∧ Sms w E β (mqPut keys cells n s).2 ((es ++ [({ key := .int .i64 n, val := t, born := c } : MapEntry)]).map (·.val))) ∨
    (∃ j e, Instr.findNow u (.int .i64 n) es i = some (some (i + j, e.val)) ∧ es[j]? = some e ∧ e.key = .int .i64 n ∧ (es.modify j fun e : MapEntry => { e with key := .int .i64 n, val := t }).map (·.key) = (mqPut keys cells n s).1.map (fun k => Value.int .i64 k) ∧
      Sms w E β (mqPut keys cells n s).2 ((es.modify j fun e : MapEntry => { e with key := .int .i64 n, val := t }).map (·.val)))
  | [], cells, es, i, h1, h3 => by
    have : es = [] := by simpa using h1
    subst this
    refine .inl ⟨rfl, fun c => ?_⟩
    simp only [mqPut, List.nil_append, List.map_cons, List.map_nil, true_and]
    simp only [Sms]
    exact ⟨t, [], rfl, hs, rfl⟩
  | k :: ks, cells, es, i, h1, h3 => by
    cases es with
    | nil => simp at h1
    | cons e es =>
      simp only [List.map_cons, List.cons.injEq] at h1
      simp only [List.map_cons] at h3
      cases cells with
      | nil => simp [Sms] at h3
      | cons c cs =>
        simp only [Sms] at h3
        obtain ⟨v, vs', hv, hc, hr⟩ := h3
        obtain ⟨rfl, rfl⟩ := List.cons.inj hv
        have hsn := int_now (P := P) w hk k
        rw [← h1.1] at hsn
        simp only [mqPut]
        by_cases hq : k = n
        · rw [if_pos hq]
          rw [decide_eq_true hq.symm] at hsn
          subst hq
          refine .inr ⟨0, e, by simp [Instr.findNow, hsn], by simp, h1.1, ?_, ?_⟩
          · simp only [List.modify_zero_cons, List.map_cons, h1.2]
          · simp only [List.modify_zero_cons, List.map_cons, Sms]
            exact ⟨t, _, rfl, hs, hr⟩
        · rw [if_neg hq]
          rw [decide_eq_false (Ne.symm hq)] at hsn
          rcases mqPut_now hk hs (i := i + 1) h1.2 hr with ⟨q1, q2⟩ | ⟨j, e', q1, q2, q3, q4, q5⟩
          · refine .inl ⟨by simpa [Instr.findNow, hsn] using q1, fun b => ?_⟩
            obtain ⟨p1, p2⟩ := q2 b
            refine ⟨by simp only [List.cons_append, List.map_cons, p1, h1.1], ?_⟩
            simp only [List.cons_append, List.map_cons, Sms]
            exact ⟨_, _, rfl, hc, p2⟩
          · refine .inr ⟨j + 1, e', ?_, by simpa using q2, q3, ?_, ?_⟩
            · simp only [Instr.findNow, hsn]; rw [q1]; congr 3; omega
            · simp only [List.modify_succ_cons, List.map_cons, q4, h1.1]
            · simp only [List.modify_succ_cons, List.map_cons, Sms]
              exact ⟨_, _, rfl, hc, q5⟩
theorem Mods.mq0 (hm : Mods X w0 st β a w) {id T : Nat} (h : st.look id = some (.map T [])) : Mods X w0 { st with own := aset id (.raw (.mq []) []) st.own } β a w := by
  obtain ⟨_, _, r, es, clock, h1, hN, hh, hents⟩ := hm.obj h
  refine hm.update h (b := r) (by rw [h1]; rfl) hN (fun _ _ => rfl) rfl rfl rfl rfl (Drw.refl _) (by simp [Obj'.lo, Sym.los]) ?_
  simp only [Rents] at hents
  exact ⟨r, 0, 0, [], h1, hN, ⟨es, clock, hh, by rw [hents]; rfl, by rw [hents]; rfl⟩, by simp [Sms]⟩
theorem mq_rows {w : World} {E : Nat → Prop} {β : Nat → Value} : ∀ {keys : List Int} {ds : List D} {es : List MapEntry}, es.map (·.key) = keys.map (fun k => Value.int .i64 k) → Sms w E β (ds.map .d) (es.map (·.val)) → Rents w E ((keys.zip ds).map fun p => [D.int .i64 p.1, p.2]) es
  | [], ds, es, h1, h3 => by
    have : es = [] := by simpa using h1
    subst this
    simp [Rents]
  | k :: ks, ds, es, h1, h3 => by
    cases es with
    | nil => simp at h1
    | cons e es =>
      simp only [List.map_cons, List.cons.injEq] at h1
      simp only [List.map_cons] at h3
      cases ds with
      | nil => simp [Sms] at h3
      | cons d ds =>
        simp only [List.map_cons, Sms] at h3
        obtain ⟨v, vs', hv, hc, hr⟩ := h3
        obtain ⟨rfl, rfl⟩ := List.cons.inj hv
        simp only [List.zip_cons_cons, List.map_cons, Rents, Rvals]
        simp only [Sm] at hc
        exact ⟨e, es, rfl, ⟨_, _, rfl, by rw [h1.1]; simp [R], _, _, rfl, hc, rfl⟩, mq_rows h1.2 hr⟩
theorem Mods.mqD (hm : Mods X w0 st β a w) {id T : Nat} {keys : List Int} {ds : List D} (h : st.look id = some (.raw (.mq keys) (ds.map .d))) :
    Mods X w0 { st with own := aset id (.map T ((keys.zip ds).map fun p => [D.int .i64 p.1, p.2])) st.own } β a w := by
  obtain ⟨_, _, r, fn, D', vs, h1, hN, ⟨es, clock, hh, hk, hv⟩, hs⟩ := hm.obj h
  subst hv
  exact hm.update h (b := r) (by rw [h1]; rfl) hN (fun _ _ => rfl) rfl rfl rfl rfl (Drw.refl _) trivial ⟨r, es, clock, h1, hN, hh, mq_rows hk hs⟩
theorem goes_lookup_mq (hm : Mods X w0 st β a w) {o : Oper} {t : Nat} {m x : Operand} (ho : o.op = .lookup t m x false) (hd : ∀ t, o.dst = some t → t < st.n) {id : Nat} {keys : List Int} {cells : List Sym} {n : Int}
    (hmv : st.val m = .mp id) (hob : st.look id = some (.raw (.mq keys) cells)) (hx : st.val x = .d (.int .i64 n)) {kt et : Nat} {tk te : TI} (hu : P.underlying t = some (.map kt et)) (hk : TI.of P kt = some tk) (he : TI.of P et = some te)
    (hkey : isKeyD tk.kind (.int .i64 n) = true) (hz : te.zero = [.slice none 0 0]) (hag : te.agg = false) (hzf : zfit P et = true) {K : St → Prop} (hK : K (st.put o.dst ((mqGet keys cells n).getD .nils))) : Goes P X w0 o a w K := by
  obtain ⟨ik, uk, zk, hik, huk, hzk, hkk, _⟩ := ti_spec hk
  obtain ⟨ie, ue, ze, hie, hue, hze, _⟩ := ti_spec he
  rw [hkk] at hkey
  obtain ⟨_, hlo, r, fn, D', vs, h1, hN, ⟨es, clock, hh, hks, hvs⟩, hs⟩ := hm.obj hob
  subst hvs
  have hma := (hm.val m).2
  rw [hmv] at hma; simp only [Sm] at hma
  have hxa := (hm.val x).2
  rw [hx] at hxa; simp only [Sm, R] at hxa
  have hmv' : a.eval m = .map (some r) := by rw [hma, h1]; rfl
  have hkv : MapKept.IsKey uk (a.eval x) := key_is (w := w) (E := fun _ => False) hkey (by simp only [R]; exact hxa)
  have hck := fun e => MapKept.run_checkKey (P := P) (w := w) huk hkv e 9999
  have hg := mqGet_now (P := P) hkey (i := 0) hks hs
  rw [← hxa] at hg
  cases hgc : mqGet keys cells n with
  | none =>
    rw [hgc] at hg hK
    have hrun : (Instr.lookup t (a.eval m) (a.eval x) false).run P w = .ok ze w := by
      simp [Instr.lookup, run_underlying hu, hmv', MapKept.run_getObj_map hh, hck, MapKept.run_findKey huk hg, zeroValue, typeInfo, hie, hze]
    have hzv := zero_form he hie hze hzf
    rw [if_neg (by rw [hag]; decide)] at hzv
    have hzv := hzv _ hz
    subst hzv
    exact Goes.of_value (v := .slice none 0 0) (w' := w) (by simp [execOp, ho, hrun]) hK (hm.put_same hd (by simp [Sym.lo]) (by simp [Sm]))
  | some c =>
    rw [hgc] at hg hK
    obtain ⟨j, t', hf, hc⟩ := hg
    have hrun : (Instr.lookup t (a.eval m) (a.eval x) false).run P w = .ok t' w := by
      simp [Instr.lookup, run_underlying hu, hmv', MapKept.run_getObj_map hh, hck, MapKept.run_findKey huk hf]
    exact Goes.of_value (v := t') (w' := w) (by simp [execOp, ho, hrun]) hK (hm.put_same hd (mqGet_lo hlo hgc) hc)
theorem goes_update_mq (hm : Mods X w0 st β a w) {o : Oper} {t : Nat} {m x v : Operand} (ho : o.op = .mapUpdate t m x v) (hd : o.dst = none) {id : Nat} {keys : List Int} {cells : List Sym} {n : Int}
    (hmv : st.val m = .mp id) (hob : st.look id = some (.raw (.mq keys) cells)) (hx : st.val x = .d (.int .i64 n)) {kt et : Nat} {tk : TI} (hu : P.underlying t = some (.map kt et)) (hk : TI.of P kt = some tk)
    (hkey : isKeyD tk.kind (.int .i64 n) = true) {K : St → Prop} (hK : K { st with own := aset id (.raw (.mq (mqPut keys cells n (st.val v)).1) (mqPut keys cells n (st.val v)).2) st.own }) : Goes P X w0 o a w K := by
  obtain ⟨ik, uk, zk, hik, huk, hzk, hkk, _⟩ := ti_spec hk
  rw [hkk] at hkey
  obtain ⟨_, hlo, r, fn, D', vs, h1, hN, ⟨es, clock, hh, hks, hvs⟩, hs⟩ := hm.obj hob
  subst hvs
  have hma := (hm.val m).2
  rw [hmv] at hma; simp only [Sm] at hma
  have hxa := (hm.val x).2
  rw [hx] at hxa; simp only [Sm, R] at hxa
  obtain ⟨hvl, hva⟩ := hm.val v
  have hmv' : a.eval m = .map (some r) := by rw [hma, h1]; rfl
  have hkv : MapKept.IsKey uk (a.eval x) := key_is (w := w) (E := fun _ => False) hkey (by simp only [R]; exact hxa)
  have hck := MapKept.run_checkKey (P := P) (w := w) huk hkv false 9999
  have hlo' := mqPut_lo (n := n) (keys := keys) hvl hlo
  have fin : ∀ es' clock', (Instr.mapUpdate t (a.eval m) (a.eval x) (a.eval v)).run P w = .ok () { w with heap := w.heap.setIfInBounds r (.map es' clock') } →
      es'.toList.map (·.key) = (mqPut keys cells n (st.val v)).1.map (fun k => Value.int .i64 k) → Sms w (Ex X β st.own) β (mqPut keys cells n (st.val v)).2 (es'.toList.map (·.val)) → Goes P X w0 o a w K := by
    intro es' clock' hrun hks' hs'
    have hset := MapKept.heap_set (o' := .map es' clock') hh
    have hbE : Ex X β st.own r := .inr ⟨id, _, alook_mem hob, by rw [h1]; rfl⟩
    have hov := over_own (w' := { w with heap := w.heap.setIfInBounds r (.map es' clock') }) hbE (fun c hc => hset.2 c hc)
    refine Goes.of_skip (β' := β) (w' := { w with heap := w.heap.setIfInBounds r (.map es' clock') }) ?_ hK ?_
    · simp [execOp, ho, hrun]
    · have hput' : (a.put o.dst undef) = a := by rw [hd]; rfl
      rw [hput']
      refine hm.update hob (b := r) (by rw [h1]; rfl) hN (fun c hc => hset.2 c hc) (by simp) rfl rfl rfl (fun _ => by simp) hlo' ?_
      exact ⟨r, 0, 0, _, h1, hN, ⟨es', clock', hset.1, hks', rfl⟩, Sms.over (m := st.next) (fun _ _ => rfl) hov hlo' hs'⟩
  rcases mqPut_now (P := P) hkey hva (i := 0) hks hs with ⟨q1, q2⟩ | ⟨j, e, q1, q2, q3, q4, q5⟩
  · rw [← hxa] at q1
    have q2c := q2 clock
    refine fin (es.push { key := a.eval x, val := a.eval v, born := clock }) (clock + 1) ?_ (by rw [hxa]; simpa using q2c.1) (by rw [hxa]; simpa using q2c.2)
    simp [Instr.mapUpdate, run_underlying hu, hmv', MapKept.run_getObj_map hh, hck, MapKept.run_findKey huk q1, MapKept.run_setObj_map _ hh]
  · rw [← hxa] at q1 q3
    have hj : es[j]? = some e := by simpa using q2
    refine fin (es.modify j fun e => { e with key := a.eval x, val := a.eval v }) clock ?_ (by rw [hxa]; simpa using q4) (by rw [hxa]; simpa using q5)
    simp [Instr.mapUpdate, run_underlying hu, hmv', MapKept.run_getObj_map hh, hck, MapKept.run_findKey huk q1, hj, q3, MapKept.run_keyThatStays hkv, MapKept.run_setObj_map _ hh]
end
end Go.V
namespace Go.V
variable [Dr] [Ov]
open Go.RowKit
structure Near (all : List Oper) (m : Nat) (S : St) (L : Nat → Prop) (st : St) : Prop where
  n : st.n = S.n
  base : st.base = S.base
  next : st.next = S.next
  moved : st.moved = S.moved
  own : st.own = S.own
  slot : ∀ t s, alook S.slots t = some s → s ≠ .junk → (∀ i o, i < m → all[i]? = some o → o.dst = some t → L i) → alook st.slots t = some s
def PureAt (P : Program) (S : St) (o : Oper) (s : Sym) : Prop := opD S.val o.op = true ∧ sopB P S.look S.val o.op (fun s' => s' = s)
def StepAt (P : Program) (all : List Oper) (S : St) (o : Oper) (s : Sym) : Prop := ∀ (X : Nat → Prop) (w0 : Base) (st : St) (β : Nat → Value) (a : Act) (w : World), st.n = S.n → st.next = S.next → st.own = S.own →
  (∀ t ∈ tmpsOf all o, ∀ s, alook S.slots t = some s → s ≠ .junk → alook st.slots t = some s) → Mods X w0 st β a w → Goes P X w0 o a w (fun st' => st' = st.put o.dst s)
def distB (all : List Oper) (m : Nat) : Bool := (List.range m).all fun i => (List.range m).all fun j => Nat.blt j i || (match all[i]?, (all[j]?).bind (·.dst) with
  | some o, some t => !(tmpsOf all o).contains t
  | _, _ => true)
section
variable {P : Program} {X : Nat → Prop} {w0 : Base} {st S S1 : St} {β : Nat → Value} {a : Act} {w w' : World} {all : List Oper} {Lb : Array Bool} {m : Nat}
theorem Near.full {L : Nat → Prop} (h : Near all m S L st) (hL : ∀ i, i < m → L i) (hm : Mods X w0 st β a w) : Mods X w0 S β a w := by
  obtain ⟨h1, h2, h3, h4, h5, h6⟩ := h
  obtain ⟨q1, q2, q3, q4, q5, q6, q7, q8, q9, q10⟩ := hm
  rw [h2, h3, h4] at q2
  rw [h1] at q5
  rw [h5] at q7 q8 q9 q10
  rw [h3] at q8 q10
  refine ⟨q1, q2, q3, q4, q5, q6, q7, q8, q9, fun t s hs => ?_⟩
  by_cases hj : s = .junk
  · subst hj; exact ⟨by simp [Sym.lo], by simp [Sm]⟩
  · exact q10 t s (h6 t s hs hj fun i _ hi _ _ => hL i hi)
theorem dist_of (h : distB all m = true) {i j t : Nat} {o y : Oper} (hi : i < m) (hj : j < m) (hio : all[i]? = some o) (hjy : all[j]? = some y) (hd : y.dst = some t) (ht : t ∈ tmpsOf all o) : j < i := by
  unfold distB at h
  have := List.all_eq_true.1 (List.all_eq_true.1 h i (List.mem_range.2 hi)) j (List.mem_range.2 hj)
  rw [hio, hjy] at this
  simp only [Option.bind_some, hd, Bool.or_eq_true] at this
  rcases this with e | e
  · simpa using e
  · simp [ht] at e
theorem Near.opnd {L : Nat → Prop} (hok : drawOk all = true) (hdb : distB all m = true) (hL : L = lst Lb) (h : Near all m S L st) {i : Nat} {o : Oper} (hi : i < m) (ho : all[i]? = some o) (hready : ∀ e ∈ o.after.toList, Region.binds .any e = true → Lb.getD e.on false = true) {t : Nat} (ht : t ∈ tmpsOf all o)
    {s : Sym} (hs : alook S.slots t = some s) (hj : s ≠ .junk) : alook st.slots t = some s := by
  refine h.slot t s hs hj fun j y hjm hy hd => ?_
  have hji := dist_of hdb hi hjm ho hy hd ht
  obtain ⟨e, he, hb, hon⟩ := bound_mem (((drawOk_pair hok hy ho hji).1 t hd).1 ht)
  have := hready e he hb
  rw [hon] at this
  rw [hL]; exact lst_false this
theorem PureAt.step {o : Oper} {s : Sym} (hd : ∀ t, o.dst = some t → t < S.n) (hlo : Sym.lo S.next s) (hp : PureAt P S o s) : StepAt P all S o s := by
  intro X w0 st β a w hn hx hown hslots hm
  let st1 : St := { st with slots := seen all o S }
  have hm' : Mods X w0 st1 β a w := by
    refine ⟨hm.outer, hm.still, hm.one, hm.defers, hm.size, hm.below, hm.keys, hm.own, hm.apart, ?_⟩
    intro t s' ht
    obtain ⟨q1, q2⟩ := seen_look ht
    by_cases hj : s' = .junk
    · subst hj; exact ⟨by simp [Sym.lo], by simp [Sm]⟩
    · exact hm.slots t s' (hslots t q1 s' q2 hj)
  have hval : ∀ x ∈ o.op.operands, S.val x = st1.val x := by
    intro x hx'
    cases x with
    | tmp t =>
      simp only [St.val]
      have hmem : t ∈ tmpsOf all o := looks_operand hx'
      cases hl : alook S.slots t with
      | some s' => rw [show alook st1.slots t = some s' from seen_mem hmem hl]
      | none =>
        cases hl' : alook st1.slots t with
        | none => rfl
        | some s' => have := (seen_look hl').2; rw [hl] at this; cases this
    | _ => rfl
  have hlook : S.look = st1.look := by funext id; simp only [St.look, st1, hown]
  have h3 := sopB_cong hval hp.2
  rw [hlook] at h3
  intro N Q hNN
  refine sopB_sound hm' o h3 N Q fun s' v w' e hl hb hsm => ?_
  subst e
  exact hNN _ _ (st.put o.dst s') β rfl (hm.put hb (fun u hu => by rw [hn]; exact hd u hu) (by rw [hx]; exact hlo) hsm)
theorem pure_step (hok : drawOk all = true) (hdb : distB all m = true) (hst : Stands all Lb) (hm : Mods X w0 st β a w) (hN : Near all m S (lst Lb) st) {i : Nat} {o : Oper} {t : Nat} {s : Sym} (hi : i < m) (ho : all[i]? = some o) (hnot : ¬ lst Lb i)
    (hready : ∀ e ∈ o.after.toList, Region.binds .any e = true → Lb.getD e.on false = true) (hd : o.dst = some t) (hs : ∀ s', alook S.slots t = some s' → s' ≠ .junk → s' = s) (hp : StepAt P all S o s) :
    Goes P X w0 o a w (fun st' => Near all m S (lst (Lb.setIfInBounds i true)) st') := by
  have hilt : i < Lb.size := by rw [hst.size]; exact (List.getElem?_eq_some_iff.1 ho).1
  intro N Q hNN
  refine hp X w0 st β a w hN.n hN.next hN.own (fun t ht s hs hj => hN.opnd hok hdb rfl hi ho hready ht hs hj) hm N Q fun a' w' st' β' e hm' => ?_
  subst e
  refine hNN _ _ (st.put o.dst s) β' ?_ hm'
  have hput := put_own st o.dst s
  refine ⟨hput.2.2.1.trans hN.n, hput.2.2.2.1.trans hN.base, hput.2.1.trans hN.next, hput.2.2.2.2.trans hN.moved, hput.1.trans hN.own, fun u s2 hu hj hL => ?_⟩
  rw [put_look]
  by_cases e : o.dst = some u
  · rw [if_pos e]
    rw [hd] at e; cases e
    rw [hs s2 hu hj]
  · rw [if_neg e]
    refine hN.slot u s2 hu hj fun j y hjm hy hdy => ?_
    rcases (lst_set hilt).1 (hL j y hjm hy hdy) with e2 | e2
    · subst e2; rw [ho] at hy; cases hy; exact absurd hdy e
    · exact e2
structure Turn (S S1 : St) (d : Nat) (sd : Sym) (f : Sym → Sym) (F : St → St) : Prop where
  junk : f .junk = .junk
  there : alook S1.slots d = some sd
  look : ∀ t s, t ≠ d → alook S1.slots t = some s → ∃ s0, alook S.slots t = some s0 ∧ f s0 = s
  go : ∀ st, st.n = S.n → st.base = S.base → st.next = S.next → st.moved = S.moved → st.own = S.own →
    (F st).n = S1.n ∧ (F st).base = S1.base ∧ (F st).next = S1.next ∧ (F st).moved = S1.moved ∧ (F st).own = S1.own ∧ ∀ t, alook (F st).slots t = if t = d then some sd else (alook st.slots t).map f
theorem Turn.near {d : Nat} {sd : Sym} {f : Sym → Sym} {F : St → St} {L L' : Nat → Prop} {e : Nat} {oe : Oper} (h : Turn S S1 d sd f F) (hN : Near all m S L st) (hL : ∀ j, L' j → j = e ∨ L j) (hoe : all[e]? = some oe) (hd : oe.dst = some d) : Near all m S1 L' (F st) := by
  obtain ⟨g1, g2, g3, g4, g5, g6⟩ := h.go st hN.n hN.base hN.next hN.moved hN.own
  refine ⟨g1, g2, g3, g4, g5, fun t s hs hj hLt => ?_⟩
  rw [g6]
  by_cases e1 : t = d
  · subst e1; rw [if_pos rfl, ← h.there, hs]
  · rw [if_neg e1]
    obtain ⟨s0, h0, hf⟩ := h.look t s e1 hs
    have hj0 : s0 ≠ .junk := fun e2 => hj (by rw [← hf, e2, h.junk])
    have := hN.slot t s0 h0 hj0 fun i y hi hy hdy => by
      rcases hL i (hLt i y hi hy hdy) with e2 | e2
      · subst e2; rw [hoe] at hy; cases hy; rw [hd] at hdy; cases hdy; exact absurd rfl e1
      · exact e2
    rw [this, Option.map_some, hf]
def PureOp (P : Program) (all : List Oper) (S S1 : St) (oe : Oper) (e i : Nat) (o : Oper) : Prop :=
  o.guard = none ∧ ∃ t s, o.dst = some t ∧ ((∃ f, waitsB all f e i = true) ∨ (StepAt P all S1 o s ∧ ∀ s', alook S1.slots t = some s' → s' ≠ .junk → s' = s)) ∧ StepAt P all S o s ∧ ∀ s', alook S.slots t = some s' → s' ≠ .junk → s' = s
theorem pureOp_of {oe o : Oper} {e i t : Nat} {s : Sym} (hg : o.guard = none) (hd : o.dst = some t) (ht : t < S.n) (hlo : Sym.lo S.next s) (hp : PureAt P S o s) (hs : alook S.slots t = some s)
    (late : (∃ f, waitsB all f e i = true) ∨ (t < S1.n ∧ Sym.lo S1.next s ∧ PureAt P S1 o s ∧ alook S1.slots t = some s)) : PureOp P all S S1 oe e i o := by
  have one : ∀ s', some s = some s' → s' ≠ .junk → s' = s := fun s' h _ => by cases h; rfl
  refine ⟨hg, t, s, hd, ?_, hp.step (fun u hu => by rw [hd] at hu; cases hu; exact ht) hlo, by rw [hs]; exact one⟩
  rcases late with h | ⟨h1, h2, h3, h4⟩
  · exact .inl h
  · exact .inr ⟨h3.step (fun u hu => by rw [hd] at hu; cases hu; exact h1) h2, by rw [h4]; exact one⟩
theorem stage_run (hok : drawOk all = true) (hdb : distB all m = true) (hcut : cutB all m = true ∨ m = all.length) (hm0 : m ≤ all.length) {e d : Nat} {sd : Sym} {f : Sym → Sym} {F : St → St} {oe : Oper} (he : e < m) (hoe : all[e]? = some oe) (hge : oe.guard = none) (hde : oe.dst = some d)
    (hT : Turn S S1 d sd f F)
    (hpure : ∀ i o, i < m → i ≠ e → all[i]? = some o → PureOp P all S S1 oe e i o)
    (heff : ∀ L st, Near all m S L st → (∀ t ∈ tmpsOf all oe, ∀ s, alook S.slots t = some s → s ≠ .junk → alook st.slots t = some s) → ∀ β a w, Mods X w0 st β a w → Goes P X w0 oe a w (fun st' => st' = F st))
    {Q : Exit → Act → World → Prop}
    (hend : ∀ β a w Lb', Mods X w0 S1 β a w → Stands all Lb' → (∀ j, j < all.length → (lst Lb' j ↔ j < m)) → ∀ fuel, left Lb' ≤ fuel → wpAny P .any all.toArray Q fuel Lb' a w) :
    ∀ (fuel : Nat) (Lb : Array Bool) (st : St) (β : Nat → _) (a : Act) (w : World), Mods X w0 st β a w → ((¬ lst Lb e ∧ Near all m S (lst Lb) st) ∨ (lst Lb e ∧ Near all m S1 (lst Lb) st)) → Stands all Lb → (∀ j, m ≤ j → j < all.length → ¬ lst Lb j) → left Lb ≤ fuel →
      wpAny P .any all.toArray Q fuel Lb a w
  | fuel, Lb, st, β, a, w, hm, hD, hst, hhi, hf => by
    by_cases hd : ∀ j, j < m → lst Lb j
    · rcases hD with ⟨hne, _⟩ | ⟨_, hN⟩
      · exact absurd (hd e he) hne
      · exact hend β a w Lb (hN.full hd hm) hst (fun j hj => ⟨fun hl => by
          rcases Nat.lt_or_ge j m with h | h
          · exact h
          · exact absurd hl (hhi j h hj), hd j⟩) fuel hf
    · have hx : ∃ j, j < m ∧ ¬ lst Lb j := Classical.byContradiction fun hn => hd fun j h2 => Classical.byContradiction fun h3 => hn ⟨j, h2, h3⟩
      obtain ⟨j, hj2, hj3⟩ := hx
      cases fuel with
      | zero => have := left_pos (Lb := Lb) (by rw [hst.size]; omega) hj3; omega
      | succ fuel =>
        refine ⟨fun hr => absurd (unlisted_ready hok hst.size hr j (by omega)) hj3, fun i hi => ?_⟩
        obtain ⟨o, ho, hil, hnot, hready⟩ := ready_of hst hi
        have hi2 : i < m := by
          rcases Nat.lt_or_ge i m with h | h
          · exact h
          · rcases hcut with hc | hc
            · exact absurd (cut_all hok hc hst.size hst.down hhi ho h hready j hj2) hj3
            · omega
        have hilt : i < Lb.size := by rw [hst.size]; exact hil
        have hia : all.toArray[i]? = some o := by simpa using ho
        have hhi' : ∀ j, m ≤ j → j < all.length → ¬ lst (Lb.setIfInBounds i true) j := fun j h1 h2 hl => by
          rcases (lst_set hilt).1 hl with e | hl
          · omega
          · exact hhi j h1 h2 hl
        have hlf := left_set hilt hnot
        unfold wpOp
        rw [hia]
        simp only
        by_cases hie : i = e
        · subst hie
          rw [hoe] at ho; cases ho
          simp only [Region.wanted, hge, if_true]
          rcases hD with ⟨_, hN⟩ | ⟨h1, _⟩
          · refine .inl (heff (lst Lb) st hN (fun t ht s hs hj => hN.opnd hok hdb rfl hi2 hoe hready ht hs hj) β a w hm _ Q fun a' w' st' β' e1 hm' => ?_)
            subst e1
            exact stage_run hok hdb hcut hm0 he hoe hge hde hT hpure heff hend fuel _ _ β' a' w' hm' (.inr ⟨(lst_set hilt).2 (.inl rfl), hT.near hN (fun j hj => (lst_set hilt).1 hj) hoe hde⟩) (hst.set hoe hready) hhi' (by omega)
          · exact absurd h1 hnot
        · obtain ⟨hg, t, s, hdst, hlate, hp, hs⟩ := hpure i o hi2 hie ho
          simp only [Region.wanted, hg, if_true]
          rcases hD with ⟨h1, hN⟩ | ⟨h1, hN⟩
          · refine .inl (pure_step hok hdb hst hm hN hi2 ho hnot hready hdst hs hp _ Q fun a' w' st' β' hN' hm' => ?_)
            refine stage_run hok hdb hcut hm0 he hoe hge hde hT hpure heff hend fuel _ _ β' a' w' hm' (.inl ⟨fun hl => ?_, hN'⟩) (hst.set ho hready) hhi' (by omega)
            rcases (lst_set hilt).1 hl with e1 | e1
            · exact hie e1.symm
            · exact h1 e1
          · rcases hlate with ⟨f', hw⟩ | ⟨hp1, hs1⟩
            · exact absurd (waits_down hst.down f' h1 hw) hnot
            · refine .inl (pure_step hok hdb hst hm hN hi2 ho hnot hready hdst hs1 hp1 _ Q fun a' w' st' β' hN' hm' => ?_)
              exact stage_run hok hdb hcut hm0 he hoe hge hde hT hpure heff hend fuel _ _ β' a' w' hm' (.inr ⟨(lst_set hilt).2 (.inr h1), hN'⟩) (hst.set ho hready) hhi' (by omega)
theorem turn_renew (S : St) (id d : Nat) (ob : Obj') : Turn S ((S.renew id ob).put (some d) (.ar id)) d (.ar id) (purge id) (fun st => (st.renew id ob).put (some d) (.ar id)) where
  junk := rfl
  there := by simp [St.put, alook]
  look := fun t s ht hs => by
    have ht' : ¬ d = t := fun e => ht e.symm
    simp only [St.put, St.renew, alook, if_neg ht', alook_purgeSlots] at hs
    cases h0 : alook S.slots t with
    | none => rw [h0] at hs; cases hs
    | some s0 => rw [h0] at hs; simp only [Option.map_some, Option.some.injEq] at hs; exact ⟨s0, rfl, hs⟩
  go := fun st h1 h2 h3 h4 h5 => by
    refine ⟨h1, h2, h3, by simp [St.put, St.renew, h4], by simp [St.put, St.renew, h5], fun t => ?_⟩
    by_cases e : t = d
    · subst e; simp [St.put, alook]
    · have e' : ¬ d = t := fun e2 => e e2.symm
      simp [St.put, St.renew, alook, e, e', alook_purgeSlots]
theorem turn_new (S : St) (d : Nat) (o0 ob : Obj') : Turn S (((S.new o0).renew S.next ob).put (some d) (.ar S.next)) d (.ar S.next) (purge S.next) (fun st => ((st.new o0).renew st.next ob).put (some d) (.ar st.next)) where
  junk := rfl
  there := by simp [St.put, alook]
  look := fun t s ht hs => by
    have ht' : ¬ d = t := fun e => ht e.symm
    simp only [St.put, St.renew, St.new, alook, if_neg ht', alook_purgeSlots] at hs
    cases h0 : alook S.slots t with
    | none => rw [h0] at hs; cases hs
    | some s0 => rw [h0] at hs; simp only [Option.map_some, Option.some.injEq] at hs; exact ⟨s0, rfl, hs⟩
  go := fun st h1 h2 h3 h4 h5 => by
    refine ⟨h1, h2, by simp [St.put, St.renew, St.new, h3], by simp [St.put, St.renew, St.new, h4, h3], by simp [St.put, St.renew, St.new, h5, h3], fun t => ?_⟩
    by_cases e : t = d
    · subst e; simp [St.put, alook, h3]
    · have e' : ¬ d = t := fun e2 => e e2.symm
      simp [St.put, St.renew, St.new, alook, e, e', alook_purgeSlots, h3]
theorem regI_last {K : St → Prop} {o : Oper} (hlen : all.length = m + 1) (ho : all[m]? = some o) (hg : o.guard = none) (h : ∀ X w0 β a w, Mods X w0 S1 β a w → Goes P X w0 o a w K) : RegI P all K m S1 := by
  refine .tot K (by omega) (.inr hlen.symm) ?_ fun st' hk => ?_
  · intro X w0 β a w hm N Q hN
    unfold wpOp
    have : all.toArray[m]? = some o := by simpa using ho
    rw [this]
    simp only [Region.wanted, hg, if_true]
    exact .inl (h X w0 β a w hm N Q hN)
  · rw [← hlen]; exact .done hk
theorem draw_stage (hmix : P.follows .mixedOrders = true) (m e : Nat) (S S1 : St) (d : Nat) (sd : Sym) (f : Sym → Sym) (F : St → St) (oe : Oper) {id : Nat} {ops : List Oper} {st : St} {Q : DE → St → Prop} (hok : drawOk ops = true) (hdb : distB ops m = true) (hcut : (Nat.beq m ops.length || cutB ops m) = true) (hm0 : Nat.ble m ops.length = true)
    (he : Nat.blt e m = true) (hoe : ops[e]? = some oe) (hge : oe.guard = none) (hde : oe.dst = some d) (h0 : ∀ X w0 β a w, Mods X w0 st β a w → Near ops m S (fun _ => False) st) (hT : Turn S S1 d sd f F)
    (hpure : ∀ i o, i < m → i ≠ e → ops[i]? = some o → PureOp P ops S S1 oe e i o)
    (heff : ∀ X w0 L st, Near ops m S L st → (∀ t ∈ tmpsOf ops oe, ∀ s, alook S.slots t = some s → s ≠ .junk → alook st.slots t = some s) → ∀ β a w, Mods X w0 st β a w → Goes P X w0 oe a w (fun st' => st' = F st))
    (h : RegI P ops (Q .normal) m S1) : Triple P (.region id ops.toArray true) Q st := by
  intro X w0 β a w hm
  rw [Nat.ble_eq] at hm0
  have he : e < m := by simpa using he
  have hcut : cutB ops m = true ∨ m = ops.length := by
    rw [Bool.or_eq_true, beq_iff] at hcut
    exact hcut.elim .inr .inl
  refine wp_region_any hmix ?_
  have hm1 : Mods X w0 st β a { w with drawn := w.drawn + 1 } := by
    have hb : Below w.heap.size w { w with drawn := w.drawn + 1 } := ⟨⟨rfl, rfl, rfl, Nat.le_refl _, fun _ _ => rfl⟩, fun _ => Nat.le_succ _⟩
    have := hm.put hb (dst := none) (s := .junk) (v := undef) (by simp) (by simp [Sym.lo]) (by simp [Sm])
    simpa [St.put, Act.put] using this
  have hnone : ∀ j, j < ops.length → ¬ lst (Array.replicate ops.toArray.size false) j := by
    intro j hj h
    unfold lst at h
    simp [Array.getD, hj] at h
  have hN0 := h0 X w0 β a w hm
  refine stage_run (P := P) (X := X) (w0 := w0) hok hdb hcut hm0 he hoe hge hde hT hpure (heff X w0) ?_ _ _ st β a _ hm1 (.inl ⟨hnone e (by omega), ?_⟩) ⟨by simp, ?_⟩ (fun j _ hj => hnone j hj) ?_
  · intro β a w Lb' hm' hst' hL' fuel hf
    exact pieces_sound (P := P) (X := X) (w0 := w0) hok (K := Q .normal) (fun a w st' β hk hm' => ⟨.normal, st', β, trivial, hk, hm'⟩) h β a w Lb' hm' hst' hL' fuel hf
  · exact ⟨hN0.n, hN0.base, hN0.next, hN0.moved, hN0.own, fun t s hs hj hL => hN0.slot t s hs hj fun i o hi ho hd => absurd (hL i o hi ho hd) (hnone i (by omega))⟩
  · intro j y hj hl
    exact absurd hl (hnone j (List.getElem?_eq_some_iff.1 hj).1)
  · simp [left]
end
end Go.V

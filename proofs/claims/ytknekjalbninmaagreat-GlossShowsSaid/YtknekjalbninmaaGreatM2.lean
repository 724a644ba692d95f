/- Contracts and plain laws of this seat: part M2. It needs no conditions. -/
import Derived.Test.YtknekjalbninmaaGreatSw
import Derived.WalkKit
import Derived.BigCall
import Derived.KernelRfl
import Derived.Shelf.Strings.Builder1
import Derived.Test.YtknekjalbninmaaGreatM1
import Derived.Test.YtknekjalbninmaaGreatS3
import Derived.Test.YtknekjalbninmaaGreatW2
import Derived.Recover
set_option linter.unusedVariables false
set_option linter.unusedSimpArgs false
set_option linter.unusedSectionVars false
set_option maxRecDepth 100000
namespace Go.Proofs
open Go.RowKit Go.Shelf
theorem sizeB : (Tryz.prog.info? 166).map (·.size) = some 2 := by kernel_rfl
theorem liesB : liesAt Tryz.prog Tryz.prog.depth 166 (2 / Tryz.prog.cellsOf 166) 0 166 1 = true := by kernel_rfl
theorem cc_used (b : Nat) (w : World) (h0 : w.cell? ⟨b, 0, none⟩ = some (.pointer (some ⟨b, 0, none⟩))) :
    Calls Tryz.prog 159 #[.pointer (some ⟨b, 0, none⟩)] w fun e w' => e = .returned (.tuple #[]) ∧ w' = w := by
  obtain ⟨j, hj, _⟩ := Option.map_eq_some_iff.1 sizeB
  go_enter Tryz.func159, Tryz.ntmps159
  go_wp2
  rw [Lib.run_neq_ptr_same w _ Tryz.underlying163 hj]
  go_wp2
  go_end0
  exact ⟨rfl, rfl⟩
theorem cc_fresh (b : Nat) (w : World) (h0 : w.cell? ⟨b, 0, none⟩ = some (.pointer none)) (hsh : w.shape? b = some (166, 2)) (hfz : w.frozen? ⟨b, 0, none⟩ = false) :
    Calls Tryz.prog 159 #[.pointer (some ⟨b, 0, none⟩)] w fun e w' => e = .returned (.tuple #[]) ∧ w' = w.setCell ⟨b, 0, none⟩ (.pointer (some ⟨b, 0, none⟩)) := by
  obtain ⟨j, hj, hjs⟩ := Option.map_eq_some_iff.1 sizeB
  go_enter Tryz.func159, Tryz.ntmps159
  go_wp2
  rw [Lib.run_to_unsafe w ⟨b, 0, none⟩ Tryz.underlying163 Tryz.underlying258 hj (by rw [hjs]; decide) hsh (Nat.zero_lt_succ 1)]
  simp only [Result.andThen]
  rw [Oper.upon_value]
  go_wp2
  rw [run_callFunc_extern Tryz.func205 (by kernel_rfl) (by kernel_rfl) (by kernel_rfl) (e := Extern.AbiNoEscape.same) (by kernel_rfl)]
  rw [Lib.run_noEscape]
  simp only [Result.andThen]
  rw [Oper.upon_value]
  go_wp2
  rw [Lib.run_from_unsafe w ⟨b, 0, none⟩ Tryz.underlying258 Tryz.underlying163 hj hsh liesB]
  simp only [Result.andThen]
  rw [Oper.upon_value]
  go_wp2
  go_end0
  exact ⟨rfl, rfl⟩
theorem bldX2 : Builder.X72 Tryz.prog Tryz.bldStr_ren := ⟨sizeB, liesB⟩
theorem bldX : Builder.Extra Tryz.prog Tryz.bldStr_ren := { bldX2 with
  t5 := Tryz.underlying5
  a5 := Tryz.isAgg5
  z5 := Tryz.sizeOf5
  v5 := Tryz.zeroValue5
  infoByte := by kernel_rfl
  cellsByte := by kernel_rfl
  sizeByte := by kernel_rfl
  neB5 := by decide }
end Go.Proofs
namespace Go.V
open Go Go.Proofs
def rowNt : List D → Option Doc.Nt
  | [.int .i64 a, .int .i64 b, .int .i64 c, .int .i64 d, .int .i64 e, .int .i64 f, .str t] => some ⟨a, b, c, d, e, f, t⟩
  | _ => none
def rowsNt : List (List D) → Option (List Doc.Nt)
  | [] => some []
  | r :: rs => match rowNt r, rowsNt rs with
    | some x, some l => some (x :: l)
    | _, _ => none
theorem rowNt_eq {r : List D} {x : Doc.Nt} (h : rowNt r = some x) : r = x.row := by
  unfold rowNt at h
  split at h
  · cases h; rfl
  · cases h
theorem rowsNt_eq : ∀ {rows : List (List D)} {l : List Doc.Nt}, rowsNt rows = some l → rows = l.map Doc.Nt.row
  | [], l, h => by simp [rowsNt] at h; subst h; rfl
  | r :: rs, l, h => by
    simp only [rowsNt] at h
    split at h
    · rename_i x l' h1 h2
      cases h
      rw [rowNt_eq h1, rowsNt_eq h2]; rfl
    · cases h
theorem ins_e (T g : Nat) : CallC Tryz.prog 172 [.ar 0, .d (int 0), .d (int 0), .fn g []] [(0, .arr T 7 [])] 1 (.tup []) 1 [(0, .arr T 7 [])] [] := by
  refine callC_of_body mixed Tryz.func172 rfl call_172 (by simp [Sym.los, Sym.lo]) ?_
  simp (decide := true) [Tryz.f172, int]
  refine ⟨by unfold I64; omega, loop_rule mixed (fun _ : Unit => { n := 53, next := 1, base := 1, slots := [(2, .d (int 0)), (8, .d (int 1))], own := [(0, .arr T 7 [])] })
    (fun _ => True) (fun _ => 0) () trivial (by simp (decide := true) [int]) ?_⟩
  intro _ _
  simp (decide := true) [int]
def kcIns (args : List Sym) (own : List (Nat × Obj')) (n : Nat) : Option XR := match args, own, n with
  | [.ar 0, .d (.int .i64 a), .d (.int .i64 b), .fn g []], [(0, .arr T 7 (r0 :: rows))], 1 => match rowsNt (r0 :: rows) with
    | some l => match Nat.beq g 66 with
      | true => oguard (decide (a = 0) && decide (b = (l.length : Int)) && Nat.blt 0 l.length && Nat.beq (Doc.isortI l).length l.length && Nat.blt l.length 1000)
        (some ⟨.d (.tup []), 1, [(0, .arr T 7 ((Doc.isortI l).map Doc.Nt.row))], []⟩)
      | false => oguard (Nat.beq g 113 && decide (a = 0) && decide (b = (l.length : Int)) && Nat.blt 0 l.length && Nat.beq (Doc.isort l).length l.length && Nat.blt l.length 1000)
        (some ⟨.d (.tup []), 1, [(0, .arr T 7 ((Doc.isort l).map Doc.Nt.row))], []⟩)
    | none => none
  | [.ar 0, .d (.int .i64 a), .d (.int .i64 b), .fn g []], [(0, .arr T 7 [])], 1 => oguard (decide (a = 0) && decide (b = 0)) (some ⟨.tup [], 1, [(0, .arr T 7 [])], []⟩)
  | [.d (.sl []), .d (.int .i64 a), .d (.int .i64 b), .fn g []], [], 0 => oguard (Nat.beq g 113 && decide (a = 0) && decide (b = 0)) (some ⟨.tup [], 0, [], []⟩)
  | _, _, _ => none
theorem kcIns_good {args : List Sym} {own : List (Nat × Obj')} {n : Nat} {r : XR} (h : kcIns args own n = some r) : CallC Tryz.prog 172 args own n r.s r.nx r.own r.mv := by
  unfold kcIns at h
  split at h
  · rename_i a b g T r0 rows
    split at h
    · rename_i l hl
      split at h
      · rename_i hg
        rw [oguard_some] at h
        simp only [Bool.and_eq_true, beq_iff, blt_iff, decide_eq_true_eq] at h
        obtain ⟨⟨⟨⟨⟨h2, h3⟩, h4⟩, h5⟩, h6⟩, h⟩ := h
        rw [beq_iff] at hg
        cases h
        subst hg; subst h2; subst h3
        rw [rowsNt_eq hl]
        exact Doc.insI_ok T l (by intro e; subst e; simp at h4) (by omega) h5
      · rw [oguard_some] at h
        simp only [Bool.and_eq_true, beq_iff, blt_iff, decide_eq_true_eq] at h
        obtain ⟨⟨⟨⟨⟨⟨h1, h2⟩, h3⟩, h4⟩, h5⟩, h6⟩, h⟩ := h
        cases h
        subst h1; subst h2; subst h3
        rw [rowsNt_eq hl]
        exact Doc.ins_ok T l (by intro e; subst e; simp at h4) (by omega) h5
    · cases h
  · rename_i a b g T
    rw [oguard_some] at h
    simp only [Bool.and_eq_true, beq_iff, decide_eq_true_eq] at h
    obtain ⟨⟨h2, h3⟩, h⟩ := h
    cases h
    subst h2; subst h3
    exact ins_e T g
  · rename_i a b g
    rw [oguard_some] at h
    simp only [Bool.and_eq_true, beq_iff, decide_eq_true_eq] at h
    obtain ⟨⟨⟨h1, h2⟩, h3⟩, h⟩ := h
    cases h
    subst h1; subst h2; subst h3
    exact Doc.ins_nil
  · cases h
theorem writeF_ok (s : ByteArray) (hs : s.size < 2^40) :
    CallC Tryz.prog 100 [.bp 0 0, .d (.str s)] [(0, .box 166 [.d (.val (.pointer none)), .nils])] 1 (.tup [.d (int s.size), .d (.val .nilIface)]) 2 [(1, .arr 5 1 (strRows s)), (0, .box 166 [.bp 0 0, .ar 1])] [1] := by
  have hC : CallC Tryz.prog 159 [.bp 0 0] [(0, .box 166 [.d (.val (.pointer none)), .nils])] 1 (.d (.tup [])) 1 [(0, .box 166 [.bp 0 0, .nils])] [] := bld_fresh (by rfl) cc_fresh
  refine callC_of_body mixed Tryz.func100 rfl call_100 (by simp [Sym.los, Sym.lo]) ?_
  simp (decide := true) [Tryz.f100, int]
  refine ECall.mut [0] [.bp 0 0] [(0, .box 166 [.d (.val (.pointer none)), .nils])] (by rfl) (by simp) (by simp) (by simp) hC ?_
  simp (decide := true) [int, maxLen]
  exact ⟨by omega, by omega⟩
theorem writeU_ok (s : ByteArray) (rows : List (List D)) (hs : rows.length + s.size < 2^40) :
    CallC Tryz.prog 100 [.bp 0 0, .d (.str s)] [(0, .box 166 [.bp 0 0, .ar 1]), (1, .arr 5 1 rows)] 2 (.tup [.d (int s.size), .d (.val .nilIface)]) 2 [(0, .box 166 [.bp 0 0, .ar 1]), (1, .arr 5 1 (rows ++ strRows s))] [1] := by
  have hC : CallC Tryz.prog 159 [.bp 0 0] [(0, .box 166 [.bp 0 0, .ar 1]), (1, .arr 5 1 rows)] 2 (.d (.tup [])) 2 [(0, .box 166 [.bp 0 0, .ar 1]), (1, .arr 5 1 rows)] [] := bld_used (by rfl) cc_used _ _ _
  refine callC_of_body mixed Tryz.func100 rfl call_100 (by simp [Sym.los, Sym.lo]) ?_
  simp (decide := true) [Tryz.f100, int]
  refine ECall.mut [0, 1] [.bp 0 0] [(0, .box 166 [.bp 0 0, .ar 1]), (1, .arr 5 1 rows)] (by rfl) (by simp) (by simp) (by simp; rfl) hC ?_
  simp (decide := true) [int, maxLen]
  exact ⟨by omega, by omega⟩
end Go.V
namespace Go.V
open Go Go.Proofs Go.RowKit
def kcF (f : Nat) : Option (List Sym → List (Nat × Obj') → Nat → Option XR) := match Nat.beq f 172 with
  | true => some kcIns
  | false => match Nat.beq f 159 with
    | true => some (kcCopy 166)
    | false => match Nat.beq f 100 with
      | true => some (kcWrite 166 5)
      | false => match Nat.beq f 101 with
        | true => some (kcString 166 5)
        | false => none
def mfB (f : Nat) : Bool := Nat.beq f 53 || (Nat.beq f 54 || (Nat.beq f 52 || (Nat.beq f 20 || (Nat.beq f 51 ||
  (Nat.beq f 65 || (Nat.beq f 121 || (Nat.beq f 112 || (Nat.beq f 165 || Nat.beq f 172))))))))
noncomputable def mkGb : XG := { mkG Tryz.prog with kc := kcF, mf := mfB }
theorem mkGb_good : XGood Tryz.prog mkGb := by
  have g := mkG_good can_all
  refine ⟨g.ti, g.zf, g.ek, g.fn, g.kn, ?_⟩
  intro f k args own n r hk hr _
  have hk : kcF f = some k := hk
  unfold kcF at hk
  split at hk
  · rename_i e
    rw [beq_iff] at e
    cases hk
    subst e
    exact kcIns_good hr
  · split at hk
    · rename_i e
      rw [beq_iff] at e
      cases hk
      subst e
      exact kcCopy_good (bld_fresh (by rfl) cc_fresh) (bld_used (by rfl) cc_used) hr
    · split at hk
      · rename_i e
        rw [beq_iff] at e
        cases hk
        subst e
        exact kcWrite_good (fun s hs => writeF_ok s hs) (fun s rows hs => writeU_ok s rows hs) hr
      · split at hk
        · rename_i e
          rw [beq_iff] at e
          cases hk
          subst e
          exact kcString_good (fun s hs => bld_string Tryz.bldStr bldX (by rfl) s hs) hr
        · cases hk
theorem idle_all : IdleC Tryz.prog 70 2 := by
  refine ⟨call_70, fun vs w hv => ?_⟩
  obtain ⟨p, q, rfl⟩ : ∃ p q, vs = [p, q] := by
    match vs, hv with
    | [p, q], _ => exact ⟨p, q, rfl⟩
  have hta : ∀ w, (Instr.typeAssert Value.nilIface 20 127 true).run Tryz.prog w = .ok (.tuple #[.agg #[.int .i64 0], .bool false]) w := fun w => by kernel_rfl
  refine callsD_of_wpS Tryz.func70 rfl fun c₀ cs hu => ?_
  apply wpS_seq
  apply wpS_region
  simp [wpOpsS, go_sem, recoverD, hu, Tryz.ntmps70, Exit.thenS, hta]
  apply wpS_seq
  apply wpS_region
  simp [wpOpsS, go_sem, Exit.thenS]
  refine wpS_cond (t := false) (by simp [Act.eval, Array.replicate]) ?_
  simp only [Bool.false_eq_true, if_false]
  refine wpS_of_wp (wp_skip ?_)
  have hbel := below_alloc w (Obj.cells #[Value.int IntKind.i64 0] 127)
  cases c₀
  simp_all [bodyPostS, results, Tryz.results70]
end Go.V
namespace Go.V
open Go Go.Proofs
mutual
def eqD : D → D → Bool
  | .int k n, .int k' n' => decide (k = k') && decide (n = n')
  | .bool a, .bool b => decide (a = b)
  | .str a, .str b => decide (a.data.toList = b.data.toList)
  | .sl l, .sl m => eqR l m
  | .agg l, .agg m => eqDs l m
  | _, _ => false
def eqR : List (List D) → List (List D) → Bool
  | [], [] => true
  | r :: rs, s :: ss => eqDs r s && eqR rs ss
  | _, _ => false
def eqDs : List D → List D → Bool
  | [], [] => true
  | a :: r, b :: s => eqD a b && eqDs r s
  | _, _ => false
end
mutual
theorem eqD_eq : ∀ {a b : D}, eqD a b = true → a = b
  | .int k n, b, h => by
    cases b <;> simp [eqD] at h
    obtain ⟨rfl, rfl⟩ := h; rfl
  | .bool x, b, h => by
    cases b <;> simp [eqD] at h
    subst h; rfl
  | .str x, b, h => by
    cases b <;> simp [eqD] at h
    rename_i y
    obtain ⟨⟨x⟩⟩ := x
    obtain ⟨⟨y⟩⟩ := y
    cases h; rfl
  | .sl l, b, h => by
    cases b <;> simp only [eqD, Bool.false_eq_true] at h
    rw [eqR_eq h]
  | .agg l, b, h => by
    cases b <;> simp only [eqD, Bool.false_eq_true] at h
    rw [eqDs_eq h]
  | .ptr _, b, h => by cases b <;> simp [eqD] at h
  | .tup _, b, h => by cases b <;> simp [eqD] at h
  | .fn _ _, b, h => by cases b <;> simp [eqD] at h
  | .val _, b, h => by cases b <;> simp [eqD] at h
  | .mp _, b, h => by cases b <;> simp [eqD] at h
theorem eqR_eq : ∀ {a b : List (List D)}, eqR a b = true → a = b
  | [], b, h => by cases b with
    | nil => rfl
    | cons => simp [eqR] at h
  | r :: rs, b, h => by cases b with
    | nil => simp [eqR] at h
    | cons s ss =>
      simp only [eqR, Bool.and_eq_true] at h
      rw [eqDs_eq h.1, eqR_eq h.2]
theorem eqDs_eq : ∀ {a b : List D}, eqDs a b = true → a = b
  | [], b, h => by cases b with
    | nil => rfl
    | cons => simp [eqDs] at h
  | r :: rs, b, h => by cases b with
    | nil => simp [eqDs] at h
    | cons s ss =>
      simp only [eqDs, Bool.and_eq_true] at h
      rw [eqD_eq h.1, eqDs_eq h.2]
end
abbrev ii (n : Int) : D := .int .i64 n
def ka1 : List D := [.agg [ii 5, .str ⟨⟨[116]⟩⟩, ii 1000, ii 1, .sl [[ii 1]], .sl [[.str ⟨⟨[116, 101, 120, 116]⟩⟩, ii 0, ii 1, ii (-1)], [.str ⟨⟨[119, 111, 114, 100]⟩⟩, ii 2, ii 2, ii 0], [.str ⟨⟨[109, 111, 114, 112, 104]⟩⟩, ii 3, ii 3, ii 1], [.str ⟨⟨[103, 108, 111, 115, 115]⟩⟩, ii 4, ii 4, ii 2]], .sl [[ii 1, ii 0, ii 0, ii 0, ii 900, ii 0, .str ⟨⟨[98, 97, 98, 105, 32, 120, 120]⟩⟩], [ii 2, ii 1, ii 1, ii 0, ii 400, ii 0, .str ⟨⟨[98, 97, 98, 105]⟩⟩], [ii 3, ii 1, ii 1, ii 400, ii 900, ii 0, .str ⟨⟨[120, 120]⟩⟩]]], .agg [.sl [[.str ⟨⟨[98]⟩⟩, ii 2], [.str ⟨⟨[97]⟩⟩, ii 3], [.str ⟨⟨[112]⟩⟩, ii 0], [.str ⟨⟨[105]⟩⟩, ii 11]], .str ⟨⟨[109, 97, 105, 110]⟩⟩, .sl [[.str ⟨⟨[98]⟩⟩, .sl [[ii 1]]], [.str ⟨⟨[97]⟩⟩, .sl [[ii 2]]], [.str ⟨⟨[112]⟩⟩, .sl [[ii 3]]], [.str ⟨⟨[105]⟩⟩, .sl [[ii 4]]]], .sl [], .sl [[.sl [[ii 3]], .sl [[ii 1]], .sl [[ii 1, ii 1]], .sl [[ii 1, ii 1]], .bool false, .bool false]], ii 2, .sl [[ii 0, ii 1, ii 1], [ii 1, ii 2, ii 1]], .sl [[ii 1]], .sl [[ii 1, .sl [[ii 1], [ii 2]], ii 1, .sl [], ii 0, .sl [[.str ⟨⟨[100, 111, 103]⟩⟩, .str ⟨⟨[]⟩⟩]], .sl [], .sl []], [ii 2, .sl [[ii 3], [ii 4]], ii 2, .sl [], ii 0, .sl [[.str ⟨⟨[80, 76]⟩⟩, .str ⟨⟨[]⟩⟩]], .sl [], .sl []]]], .sl [[ii 5, ii 2, .bool true, .sl [[ii 1, ii 0, ii 0], [ii 2, ii 0, ii 0]]]], ii 100]
def kr1 : D := .tup [.agg [ii 5, .str ⟨⟨[116]⟩⟩, ii 1000, ii 1, .sl [[ii 1]], .sl [[.str ⟨⟨[116, 101, 120, 116]⟩⟩, ii 0, ii 1, ii (-1)], [.str ⟨⟨[119, 111, 114, 100]⟩⟩, ii 2, ii 2, ii 0], [.str ⟨⟨[109, 111, 114, 112, 104]⟩⟩, ii 3, ii 3, ii 1], [.str ⟨⟨[103, 108, 111, 115, 115]⟩⟩, ii 4, ii 4, ii 2]], .sl [[ii 1, ii 0, ii 0, ii 0, ii 900, ii 0, .str ⟨⟨[98, 97, 98, 105, 32, 120, 120]⟩⟩], [ii 2, ii 1, ii 1, ii 0, ii 400, ii 0, .str ⟨⟨[98, 97, 98, 105]⟩⟩], [ii 3, ii 1, ii 1, ii 400, ii 900, ii 0, .str ⟨⟨[120, 120]⟩⟩], [ii 100, ii 2, ii 2, ii 0, ii 0, ii 0, .str ⟨⟨[98, 97]⟩⟩], [ii 101, ii 3, ii 100, ii 0, ii 0, ii 0, .str ⟨⟨[100, 111, 103]⟩⟩], [ii 102, ii 2, ii 2, ii 0, ii 0, ii 1, .str ⟨⟨[112, 105]⟩⟩], [ii 103, ii 3, ii 102, ii 0, ii 0, ii 0, .str ⟨⟨[80, 76]⟩⟩]]], ii 0]
theorem kt1 : PureR Tryz.prog 28 ka1 kr1 := xAll_sound mixed_X mkGb_good idle_all (k := 40) (j := 1) (by kernel_rfl)
def ka2 : List D := [.agg [ii 5, .str ⟨⟨[116]⟩⟩, ii 1000, ii 1, .sl [[ii 1]], .sl [[.str ⟨⟨[116, 101, 120, 116]⟩⟩, ii 0, ii 1, ii (-1)], [.str ⟨⟨[119, 111, 114, 100]⟩⟩, ii 2, ii 2, ii 0], [.str ⟨⟨[109, 111, 114, 112, 104]⟩⟩, ii 3, ii 3, ii 1], [.str ⟨⟨[103, 108, 111, 115, 115]⟩⟩, ii 4, ii 4, ii 2]], .sl [[ii 1, ii 0, ii 0, ii 0, ii 900, ii 0, .str ⟨⟨[98, 97, 98, 105, 32, 120, 120]⟩⟩], [ii 2, ii 1, ii 1, ii 0, ii 400, ii 0, .str ⟨⟨[98, 97, 98, 105]⟩⟩], [ii 3, ii 1, ii 1, ii 400, ii 900, ii 0, .str ⟨⟨[120, 120]⟩⟩], [ii 100, ii 2, ii 2, ii 0, ii 0, ii 0, .str ⟨⟨[98, 97]⟩⟩], [ii 101, ii 3, ii 100, ii 0, ii 0, ii 0, .str ⟨⟨[100, 111, 103]⟩⟩], [ii 102, ii 2, ii 2, ii 0, ii 0, ii 1, .str ⟨⟨[112, 105]⟩⟩], [ii 103, ii 3, ii 102, ii 0, ii 0, ii 0, .str ⟨⟨[80, 76]⟩⟩]]], ii 2]
def kr2 : D := .tup [.sl [[.str ⟨⟨[98, 97]⟩⟩], [.str ⟨⟨[112, 105]⟩⟩]], .sl [[.str ⟨⟨[100, 111, 103]⟩⟩], [.str ⟨⟨[80, 76]⟩⟩]]]
theorem kt2 : PureR Tryz.prog 18 ka2 kr2 := xpureD_sound mixed_X mkGb_good (k := 40) (by kernel_rfl)
def ka3 : List D := [.agg [ii 5, .str ⟨⟨[116]⟩⟩, ii 1000, ii 1, .sl [[ii 1]], .sl [[.str ⟨⟨[116, 101, 120, 116]⟩⟩, ii 0, ii 1, ii (-1)], [.str ⟨⟨[119, 111, 114, 100]⟩⟩, ii 2, ii 2, ii 0], [.str ⟨⟨[109, 111, 114, 112, 104]⟩⟩, ii 3, ii 3, ii 1], [.str ⟨⟨[103, 108, 111, 115, 115]⟩⟩, ii 4, ii 4, ii 2]], .sl [[ii 1, ii 0, ii 0, ii 0, ii 900, ii 0, .str ⟨⟨[98, 97, 98, 105, 32, 120, 120]⟩⟩], [ii 2, ii 1, ii 1, ii 0, ii 400, ii 0, .str ⟨⟨[98, 97, 98, 105]⟩⟩], [ii 3, ii 1, ii 1, ii 400, ii 900, ii 0, .str ⟨⟨[120, 120]⟩⟩], [ii 100, ii 2, ii 2, ii 0, ii 0, ii 0, .str ⟨⟨[98, 97]⟩⟩], [ii 101, ii 3, ii 100, ii 0, ii 0, ii 0, .str ⟨⟨[100, 111, 103]⟩⟩], [ii 102, ii 2, ii 2, ii 0, ii 0, ii 1, .str ⟨⟨[112, 105]⟩⟩], [ii 103, ii 3, ii 102, ii 0, ii 0, ii 0, .str ⟨⟨[80, 76]⟩⟩]]], .agg [.sl [[.str ⟨⟨[98]⟩⟩, ii 2], [.str ⟨⟨[97]⟩⟩, ii 3], [.str ⟨⟨[112]⟩⟩, ii 0], [.str ⟨⟨[105]⟩⟩, ii 11]], .str ⟨⟨[109, 97, 105, 110]⟩⟩, .sl [[.str ⟨⟨[98]⟩⟩, .sl [[ii 1]]], [.str ⟨⟨[97]⟩⟩, .sl [[ii 2]]], [.str ⟨⟨[112]⟩⟩, .sl [[ii 3]]], [.str ⟨⟨[105]⟩⟩, .sl [[ii 4]]]], .sl [], .sl [[.sl [[ii 3]], .sl [[ii 1]], .sl [[ii 1, ii 1]], .sl [[ii 1, ii 1]], .bool false, .bool false]], ii 2, .sl [[ii 0, ii 1, ii 1], [ii 1, ii 2, ii 1]], .sl [[ii 1]], .sl [[ii 1, .sl [[ii 1], [ii 2]], ii 1, .sl [], ii 0, .sl [[.str ⟨⟨[100, 111, 103]⟩⟩, .str ⟨⟨[]⟩⟩]], .sl [], .sl []], [ii 2, .sl [[ii 3], [ii 4]], ii 2, .sl [], ii 0, .sl [[.str ⟨⟨[80, 76]⟩⟩, .str ⟨⟨[]⟩⟩]], .sl [], .sl []]]], .sl []]
def kr3 : D := .sl [[ii 2]]
theorem kt3 : PureR Tryz.prog 30 ka3 kr3 := xpureD_sound mixed_X mkGb_good (k := 40) (by kernel_rfl)
def ka4 : List D := [.agg [ii 5, .str ⟨⟨[116]⟩⟩, ii 1000, ii 1, .sl [[ii 1]], .sl [[.str ⟨⟨[116, 101, 120, 116]⟩⟩, ii 0, ii 1, ii (-1)], [.str ⟨⟨[119, 111, 114, 100]⟩⟩, ii 2, ii 2, ii 0], [.str ⟨⟨[109, 111, 114, 112, 104]⟩⟩, ii 3, ii 3, ii 1], [.str ⟨⟨[103, 108, 111, 115, 115]⟩⟩, ii 4, ii 4, ii 2]], .sl [[ii 1, ii 0, ii 0, ii 0, ii 900, ii 0, .str ⟨⟨[98, 97, 98, 105, 32, 120, 120]⟩⟩], [ii 2, ii 1, ii 1, ii 0, ii 400, ii 0, .str ⟨⟨[98, 97, 98, 105]⟩⟩], [ii 3, ii 1, ii 1, ii 400, ii 900, ii 0, .str ⟨⟨[120, 120]⟩⟩], [ii 100, ii 2, ii 2, ii 0, ii 0, ii 0, .str ⟨⟨[98, 97]⟩⟩], [ii 101, ii 3, ii 100, ii 0, ii 0, ii 0, .str ⟨⟨[100, 111, 103]⟩⟩], [ii 102, ii 2, ii 2, ii 0, ii 0, ii 1, .str ⟨⟨[112, 105]⟩⟩], [ii 103, ii 3, ii 102, ii 0, ii 0, ii 0, .str ⟨⟨[80, 76]⟩⟩]]], .agg [.sl [[.str ⟨⟨[98]⟩⟩, ii 2], [.str ⟨⟨[97]⟩⟩, ii 3], [.str ⟨⟨[112]⟩⟩, ii 0], [.str ⟨⟨[105]⟩⟩, ii 11]], .str ⟨⟨[109, 97, 105, 110]⟩⟩, .sl [[.str ⟨⟨[98]⟩⟩, .sl [[ii 1]]], [.str ⟨⟨[97]⟩⟩, .sl [[ii 2]]], [.str ⟨⟨[112]⟩⟩, .sl [[ii 3]]], [.str ⟨⟨[105]⟩⟩, .sl [[ii 4]]]], .sl [], .sl [[.sl [[ii 3]], .sl [[ii 1]], .sl [[ii 1, ii 1]], .sl [[ii 1, ii 1]], .bool false, .bool false]], ii 2, .sl [[ii 0, ii 1, ii 1], [ii 1, ii 2, ii 1]], .sl [[ii 1]], .sl [[ii 1, .sl [[ii 1], [ii 2]], ii 1, .sl [], ii 0, .sl [[.str ⟨⟨[100, 111, 103]⟩⟩, .str ⟨⟨[]⟩⟩]], .sl [], .sl []], [ii 2, .sl [[ii 3], [ii 4]], ii 2, .sl [], ii 0, .sl [[.str ⟨⟨[80, 76]⟩⟩, .str ⟨⟨[]⟩⟩]], .sl [], .sl []]]], .sl [[ii 5, ii 2, .bool true, .sl [[ii 1, ii 0, ii 0], [ii 2, ii 0, ii 0]]]]]
def kr4 : D := .sl []
theorem kt4 : PureR Tryz.prog 30 ka4 kr4 := xpureD_sound mixed_X mkGb_good (k := 40) (by kernel_rfl)
def knC (f : Nat) (ds : List D) : Option D :=
  match Nat.beq f 28 && eqDs ds ka1 with
  | true => some kr1
  | false =>
    match Nat.beq f 18 && eqDs ds ka2 with
    | true => some kr2
    | false =>
      match Nat.beq f 30 && eqDs ds ka3 with
      | true => some kr3
      | false =>
        match Nat.beq f 30 && eqDs ds ka4 with
        | true => some kr4
        | false =>
          none
theorem knC_good {f : Nat} {ds : List D} {r : D} (h : knC f ds = some r) : PureR Tryz.prog f ds r := by
  unfold knC at h
  split at h
  · rename_i e
    rw [Bool.and_eq_true, beq_iff] at e
    cases h
    rw [e.1, eqDs_eq e.2]
    exact kt1
  · split at h
    · rename_i e
      rw [Bool.and_eq_true, beq_iff] at e
      cases h
      rw [e.1, eqDs_eq e.2]
      exact kt2
    · split at h
      · rename_i e
        rw [Bool.and_eq_true, beq_iff] at e
        cases h
        rw [e.1, eqDs_eq e.2]
        exact kt3
      · split at h
        · rename_i e
          rw [Bool.and_eq_true, beq_iff] at e
          cases h
          rw [e.1, eqDs_eq e.2]
          exact kt4
        · cases h
noncomputable def mkGc : XG := { mkGb with kn := fun f => some (knC f) }
theorem mkGc_good : XGood Tryz.prog mkGc := by
  have g := mkGb_good
  refine ⟨g.ti, g.zf, g.ek, g.fn, ?_, g.kc⟩
  intro f k ds r hk hr
  have hk : some (knC f) = some k := hk
  cases hk
  exact knC_good hr
theorem pure_of_isTc {f k : Nat} (h : isT (xcall mkGc (xdrawF mkGc) k f [] [] 0) = true) : PureR Tryz.prog f [] (.bool true) := by
  have hg := runF_sound mixed_X mkGc_good k
  unfold isT at h
  split at h
  · rename_i nx own mv hr
    have := hg _ _ _ _ _ hr (by simp [Sym.los])
    exact pureR_of_callC (ds := []) this
  · cases h
theorem awake32_run : isT (xcall mkGc (xdrawF mkGc) 50 13 [] [] 0) = true := by kernel_rfl
theorem awake32_R : PureR Tryz.prog 13 [] (.bool true) := pure_of_isTc awake32_run
end Go.V

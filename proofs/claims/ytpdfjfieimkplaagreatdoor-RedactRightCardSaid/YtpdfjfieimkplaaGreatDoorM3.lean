/- Contracts and plain laws of this seat: part M3. It needs no conditions. -/
import Derived.Test.YtpdfjfieimkplaaGreatDoorW1
import Derived.Test.YtpdfjfieimkplaaGreatDoorM1
import Derived.Test.YtpdfjfieimkplaaGreatDoorRows
import Derived.Lib.LaidU8T
import Derived.PinnedBridge
import Derived.ProofKit
import Derived.RangeFuncBox
import Derived.RangeFuncLeaves
import Derived.Shelf.Abstract
import Derived.WalkKit
import Derived.OwnWalkIn
import Derived.TacticsInMore
import Derived.LoopNIn
import Derived.LoopIn
import Derived.BigFrameIn
import Derived.Maps.AppendAt
import Derived.Lib.OthersKept
import Derived.Lib.TrimU
import Derived.Test.YtpdfjfieimkplaaGreatDoorProg
import Derived.Test.YtpdfjfieimkplaaGreatDoorSu
import Derived.Test.YtpdfjfieimkplaaGreatDoorU0
import Derived.Test.YtpdfjfieimkplaaGreatDoorM2
set_option linter.unusedVariables false
set_option linter.unusedSimpArgs false
set_option linter.unusedSectionVars false
set_option maxRecDepth 100000
/- The package variables of unicode/utf8 as a call finds them: out of the row's own premise. -/
namespace Go.V
open Go Go.Proofs Go.Proofs.YtpdfjfieimkplaaGreatDoor Go.RowKit Go.Lib Go.Shelf

theorem glob_of_tabs {w : World} (h : Lib.Utf8Tabs 0 1 w) : Glob w Ez := by
  intro g l hm
  have hlt : ∀ {b i : Nat} {v : Value}, w.cell? ⟨b, i, none⟩ = some v → b < w.heap.size := by
    intro b i v hv
    unfold World.cell? at hv
    split at hv
    · rename_i hb
      exact (Array.getElem?_eq_some_iff.1 hb).1
    · cases hv
  simp only [GT, List.mem_cons, List.not_mem_nil, or_false, Prod.mk.injEq] at hm
  rcases hm with ⟨rfl, rfl⟩ | ⟨rfl, rfl⟩
  · simp only [R]
    refine ⟨0, 0, rfl, fun h => h, hlt (h.1 0 (by omega)), ?_⟩
    refine Rrow.of_cells (vs := (List.range 256).map fun c => Value.int .u8 (firstT c : Int)) ?_ ?_
    · unfold firstD
      generalize List.range 256 = m
      induction m with
      | nil => simp [Rcells]
      | cons x r ih => simp only [List.map_cons, Rcells]; exact ⟨_, _, rfl, rfl, by simp [R], ih⟩
    · intro j v hj
      rw [List.getElem?_map] at hj
      by_cases hl : j < 256
      · rw [List.getElem?_range hl] at hj
        simp at hj; subst hj
        rw [Nat.zero_add]; exact h.1 j hl
      · rw [List.getElem?_eq_none (by simp; omega)] at hj; cases hj
  · simp only [R]
    refine ⟨1, 0, rfl, fun h => h, hlt (h.2 0 (by omega)).1, ?_⟩
    refine Rrow.of_cells (vs := (List.range 16).flatMap fun i => [Value.int .u8 (accLo i : Int), Value.int .u8 (accHi i : Int)]) ?_ ?_
    · unfold accD
      generalize List.range 16 = m
      induction m with
      | nil => simp [Rcells]
      | cons x r ih => simp only [List.flatMap_cons, List.cons_append, List.nil_append, Rcells]; exact ⟨_, _, rfl, rfl, by simp [R], _, _, rfl, rfl, by simp [R], ih⟩
    · have key : ∀ (n k : Nat) (j : Nat) (v : Value), ((List.range' k n).flatMap fun i => [Value.int .u8 (accLo i : Int), Value.int .u8 (accHi i : Int)])[j]? = some v → k + n ≤ 16 → w.cell? ⟨1, 2 * k + j, none⟩ = some v := by
        intro n
        induction n with
        | zero => intro k j v hj; simp at hj
        | succ n ih =>
          intro k j v hj hk
          rw [List.range'_succ, List.flatMap_cons] at hj
          match j, hj with
          | 0, hj => simp at hj; subst hj; exact (h.2 k (by omega)).1
          | 1, hj => simp at hj; subst hj; exact (h.2 k (by omega)).2
          | j + 2, hj =>
            have := ih (k + 1) j v (by simpa using hj) (by omega)
            rw [← this]; congr 2; omega
      intro j v hj
      rw [List.range_eq_range'] at hj
      have := key 16 0 j v hj (by omega)
      simpa using this
def laidU : List (String × DataW Unit) := [("unicode/utf8.acceptRanges", Rows.laid_unicode_utf8_acceptRanges), ("unicode/utf8.first", Rows.laid_unicode_utf8_first)]
def renU : Ren := ⟨fun x => x, fun | 5 => 5 | 119 => 116 | 138 => 118 | 139 => 119 | x => x, fun | 3 => 0 | 4 => 1 | x => x⟩
theorem typesU : U8Types Tryz.prog renU := ⟨by kernel_rfl, by kernel_rfl, by kernel_rfl, by kernel_rfl⟩
theorem extraU : U8Extra Tryz.prog renU := ⟨by kernel_rfl, by kernel_rfl, by kernel_rfl, by kernel_rfl, by kernel_rfl, by kernel_rfl, by kernel_rfl⟩
theorem acc_eq : Rows.laid_unicode_utf8_acceptRanges (H := Unit) = acceptData := by kernel_rfl
theorem tabs_of_laid {w : World} (h : laidMet Tryz.prog laidU w) : Lib.Utf8Tabs 0 1 w :=
  utf8Tabs_of_readsT (ρ := renU) typesU extraU (Pinned.utf8First_eq ▸ laidMet.reads h (.tail _ (.head _))) (acc_eq ▸ laidMet.reads h (.head _))
theorem glob_of_laid {w : World} (h : laidMet Tryz.prog laidU w) : Glob w Ez := glob_of_tabs (tabs_of_laid h)
end Go.V

/- runes.Points at a valid string: a list of numbers, and true. -/
namespace Go.Proofs
open Go.RowKit Go.Shelf

attribute [local go_sem] Oper.semAt_some

abbrev runeEncs (p : Int × Int) : Array Value := #[.int .i64 p.1, .int .i64 p.2]

set_option maxHeartbeats 1000000 in
theorem scal1_in (F : Fence) (n : Nat) (h6 : F.fn 95) (hro : F.round = none) (hn : 1 ≤ n) (l Bn : Nat) (s : ByteArray) (J Jx : List (Int × Int) → World → Prop)
    (W : World) (hJ : AbidesFrom W.heap.size J) (hJx : AbidesFrom W.heap.size Jx)
    (hY : ∀ pre x W, J pre W → pre.length < s.size → YieldAt F (n - 1) Tryz.prog l (runeEncs x) W fun e W' =>
      (e = .returned (.bool true) ∧ J (pre ++ [x]) W' ∧ KeepsWalks W W') ∨ (e = .returned (.bool false) ∧ Jx (pre ++ [x]) W'))
    (hBn : W.cell? ⟨Bn, 0, none⟩ = some (.string s)) (h0 : J [] W) :
    CallsIn F n Tryz.prog 95 #[.func (.yield l) #[] #[], .pointer (some ⟨Bn, 0, none⟩)] W fun e W' => (∃ v, e = .returned v) ∧
      ((∃ ys : List (Int × Int), True ∧ J ys W') ∨ (∃ pre : List (Int × Int), True ∧ Jx pre W')) := by
  refine callsIn_of_wp Tryz.func95 rfl h6 ?_ hro
  simp only [Tryz.ntmps95, List.size_toArray, List.length_cons, List.length_nil, Nat.reduceAdd, Nat.reduceSub, Array.replicate_succ, Array.replicate_zero, List.push_toArray, List.append_toArray, List.nil_append, List.cons_append]
  gi_wp2
  gi_loopw [] (fun wr => ∃ (pre : List (Int × Int)) (pos : Nat), wr.heap[W.heap.size]? = some (.stringIter s pos) ∧ pre.length ≤ pos ∧ J pre wr)
    (fun wr => s.size - wr.iterPos W.heap.size)
  case atStart =>
    exact ⟨[], 0, World.iter_heap W s 0, Nat.le_refl _, hJ _ _ _ none h0 (World.grownBy_alloc W _ none) (fun r e => by cases e)⟩
  case round =>
    obtain ⟨pre, pos, hit, hle, hJs⟩ := hrel
    by_cases hps : pos < s.size
    · have hnx : ∀ ty, (Instr.next (.pointer (some ⟨W.heap.size, 0, none⟩)) true ty).run Tryz.prog wr = _ := fun ty => Lib.run_next_any_at wr W.heap.size s pos ty hit hps
      have hwd := Lib.width_pos s pos
      have hrl := Lib.rune_le s pos
      obtain ⟨R, hR⟩ : ∃ R, (Utf8.decode s pos).1 = R := ⟨_, rfl⟩
      obtain ⟨K, hK⟩ : ∃ K, (Utf8.decode s pos).2 = K := ⟨_, rfl⟩
      rw [hR, hK] at hnx
      rw [hK] at hwd
      rw [hR] at hrl
      have hit2 := Lib.iterAt_heap wr W.heap.size s pos (pos + K) hit
      have hJ2 : J pre (wr.iterAt W.heap.size s (pos + K)) := hJ _ _ _ (some W.heap.size) hJs ⟨rfl, rfl, rfl, by rw [Lib.iterAt_size]; exact Nat.le_refl _, fun k hk hne => Lib.iterAt_other wr W.heap.size k s (pos + K) (fun e => hne (by rw [e]))⟩
        (fun r e => by cases e; exact ⟨Nat.le_refl _, _, hit, rfl⟩)
      obtain ⟨W2, hW2⟩ : ∃ W2, wr.iterAt W.heap.size s (pos + K) = W2 := ⟨_, rfl⟩
      rw [hW2] at hnx hit2 hJ2
      obtain ⟨fn, tmps, assign, body, hy, hRd⟩ := hY pre ((pos : Int), (R : Int)) W2 hJ2 (by omega)
      gi_wp2
      refine hRd.mono ?_
      rintro e W3 (⟨rfl, hJ3, hk3⟩ | ⟨rfl, hJx3⟩)
      · have hit3 := hk3.same _ _ hit2 rfl
        gi_wp2
        go_roundw
        case rel => exact ⟨pre ++ [((pos : Int), (R : Int))], pos + K, hit3, by simp; omega, hJ3⟩
        case measure =>
          have e1 : wr.iterPos W.heap.size = pos := by simp [World.iterPos, hit]
          have e2 : W3.iterPos W.heap.size = pos + K := by simp [World.iterPos, hit3]
          rw [e1, e2]; omega
      · gi_wp2
        refine bodyPost_ret (results_none rfl _ _ _) rfl ?_
        exact ⟨⟨_, rfl⟩, .inr ⟨pre ++ [((pos : Int), (R : Int))], trivial, hJx3⟩⟩
    · have hnx : ∀ ty, (Instr.next (.pointer (some ⟨W.heap.size, 0, none⟩)) true ty).run Tryz.prog wr = _ := fun ty => Lib.run_next_end_at wr W.heap.size s pos ty hit hps
      gi_wp2
      go_end0
      exact ⟨⟨_, rfl⟩, .inl ⟨pre, trivial, hJs⟩⟩

set_option maxHeartbeats 1000000 in
theorem scal_in (F : Fence) (n : Nat) (h5 : F.fn 73) (hro : F.round = none) (s : ByteArray) (w : World) :
    CallsIn F n Tryz.prog 73 #[.string s] w fun e w' => e = .returned (.func (.func 95) #[] #[.pointer (some ⟨w.heap.size, 0, none⟩)]) ∧ w' = w.alloc (.cells #[.string s] 9) := by
  refine callsIn_of_wp Tryz.func73 rfl h5 ?_ hro
  simp only [Tryz.ntmps73, List.size_toArray, List.length_cons, List.length_nil, Nat.reduceAdd, Nat.reduceSub, Array.replicate_succ, Array.replicate_zero, List.push_toArray, List.append_toArray, List.nil_append, List.cons_append]
  gi_wp2
  go_ret
  exact ⟨rfl, rfl⟩
theorem scal_stops (F : Fence) (n : Nat) (h6 : F.fn 95) (hro : F.round = none) (hn : 1 ≤ n) (Bn : Nat) (s : ByteArray) (w : World) (hBn : Bn < w.heap.size)
    (hc : w.cell? ⟨Bn, 0, none⟩ = some (.string s)) :
    SeqStopsK F n Tryz.prog 95 #[.pointer (some ⟨Bn, 0, none⟩)] runeEncs KeepsWalks (fun _ => True) (fun _ => True) s.size w := fun l J Jx W hW hJ hJx hY h0 =>
  scal1_in F n h6 hro hn l Bn s J Jx W hJ hJx hY ((hW.cell (p := ⟨Bn, 0, none⟩) hBn).trans hc) h0
theorem infoI : (Tryz.prog.info? 3).map (fun i => (i.zero, i.size, i.bytes)) = some (some (.int .i64 0), 1, 8) := by kernel_rfl

set_option maxHeartbeats 2000000 in
theorem points_yes (s : ByteArray) (w : World) (hs : s.size ≤ 1000000)
    (cV : Calls Tryz.prog 72 #[.string s] w fun e w' => e = .returned (.bool true) ∧ Below w.heap.size w w') :
    Calls Tryz.prog 50 #[.string s] w fun e W' => ∃ v, ∃ ys : List Int, e = .returned (.tuple #[v, .bool true]) ∧ W'.ownsRow w.heap.size 3 1 v ys.length (ys.map (Value.int .i64)) ∧ Below w.heap.size w W' := by
  obtain ⟨i0, hi, hz0, hz1, hz2⟩ := info_parts infoI
  refine (callsIn_wide (n := 3)).1 ?_
  refine callsIn_of_wp_marks Tryz.func50 rfl trivial ?_ rfl
  simp only [Tryz.ntmps50, List.size_toArray, List.length_cons, List.length_nil, Nat.reduceAdd, Nat.reduceSub, Array.replicate_succ, Array.replicate_zero, List.push_toArray, List.append_toArray, List.nil_append, List.cons_append]
  gi_wp2
  refine ⟨trivial, ?_⟩
  refine (callsIn_wide.2 cV).mono ?_
  rintro e w1 ⟨rfl, hb1⟩
  gi_wp2
  refine ⟨trivial, ?_⟩
  refine (scal_in Fence.wide _ trivial rfl _ _).mono ?_
  rintro e w' ⟨rfl, rfl⟩
  gi_wp2
  have hsz1 := hb1.size
  have bO := Boxed.new w1 22 (.slice none 0 0)
  have bN := Boxed.new (w1.alloc (.cells #[.slice none 0 0] 22)) 9 (.string s)
  rw [World.size_alloc] at bN
  have hB0 : Below w.heap.size w ((w1.alloc (.cells #[.slice none 0 0] 22)).alloc (.cells #[.string s] 9)) := (hb1.alloc hb1.size _).alloc (by simp; exact Nat.le_succ_of_le hb1.size) _
  refine wpIn_rangeFunc_ownF rfl (by omega) (gf := 95) (lb := #[.pointer (some ⟨w1.heap.size + 1, 0, none⟩)]) rfl trivial (enters_of Tryz.func95 (by kernel_rfl) rfl)
    (scal_stops Fence.wide _ trivial rfl (by omega) (w1.heap.size + 1) s _ (by simp) bN.cell) walksK_t (walksK_b (w := _)) (Below.refl _ _) (fun _ => rfl)
    (fun pre W => (∃ v, Boxed W w1.heap.size 22 v ∧ W.ownsRow w.heap.size 3 1 v pre.length (pre.map fun x => Value.int .i64 x.2) ∧ True) ∧ Below w.heap.size w W)
    (fun _ _ _ => False)
    (OwnFrom.and (Own.from (holdsRow_own w.heap.size w1.heap.size 22 3 1 (fun pre : List (Int × Int) => pre.length) (fun pre => pre.map fun x => Value.int .i64 x.2) (fun _ _ => True)) _) (ownFrom_below (Nat.le_refl _) (by simp; have := hb1.size; omega)))
    (fun _ _ _ _ _ hs _ _ => hs)
    ⟨⟨_, bO.alloc _, World.ownsRow_nil _ _ _ _, trivial⟩, hB0⟩
    (fun x => { tmps := #[.string s, undef, .slice none 0 0, .bool false, .pointer (some ⟨w1.heap.size, 0, none⟩), undef, .int .i64 x.2, .string s, .bool true, .bool false, .string s, .func (.func 95) #[] #[.pointer (some ⟨w1.heap.size + 1, 0, none⟩)], .int .i64 x.1, .int .i64 x.2, undef, undef, undef, undef, undef], defers := [] }) ?assign ?body ?done ?stop
  case assign =>
    intro l x W K hK
    gi_wp2
    exact hK
  case body =>
    rintro l pre x W ⟨⟨v, hv, hrow, _⟩, hB⟩ hlt
    have hc := hv.cell
    gi_wp2_with (gi_at_builtin; refine wpListIn_append_own _ rfl _ _ 22 rfl w.heap.size 3 i0 (.int .i64 0) 1 8 Tryz.underlying22 hi hz0 hz1 hz2 rfl (by decide) _ _ _ rfl (hrow.alloc _) ⟨W.heap.size, 0, none⟩ 1 1 [.int .i64 x.2] rfl rfl (cell_one_new _ _ _) (by simp [Value.oneCell']) (by unfold maxLen; omega) (by omega) (by have := hB.size; simp; omega) ?_; intro v' w2 hown' hgrow _; obtain ⟨g', cap', rfl⟩ := ownsRow_succ hown'; obtain ⟨hv1, hv2, hr2, hk2, hb2⟩ := hv.appended (by decide) hrow hB.size (by omega) hown' hgrow; have hc1 := hv1.cell; have hf1 := hv1.frozen)
    exact ⟨hk2, hk2.walks, ⟨_, hv2, by simpa using hr2, trivial⟩, hB.trans hb2⟩
  case done =>
    rintro D ys W hD _ ⟨⟨v, hv, hrow, _⟩, hB⟩ hK
    have hc := hv.cell
    gi_wp2
    refine ⟨by simp, .inl ⟨_, _, rfl, run_takeDeferred hK, ?_⟩⟩
    exact ⟨_, results_tmp2 rfl _ _ _, v, ys.map (·.2), rfl, by simpa [List.map_map, Function.comp_def] using ownsRow_putObj hrow _ hK rfl, hB.trans (belowK_b (w := w) (Nat.le_refl _) W D _ _ (by simp at hD; omega) hK rfl rfl)⟩
  case stop =>
    rintro D c pre W _ _ h _
    exact h.elim
theorem points_no (s : ByteArray) (w : World)
    (cV : Calls Tryz.prog 72 #[.string s] w fun e w' => e = .returned (.bool false) ∧ Below w.heap.size w w') :
    Calls Tryz.prog 50 #[.string s] w fun e W' => e = .returned (.tuple #[.slice none 0 0, .bool false]) ∧ Below w.heap.size w W' := by
  refine (callsIn_wide (n := 3)).1 ?_
  refine callsIn_of_wp_marks Tryz.func50 rfl trivial ?_ rfl
  simp only [Tryz.ntmps50, List.size_toArray, List.length_cons, List.length_nil, Nat.reduceAdd, Nat.reduceSub, Array.replicate_succ, Array.replicate_zero, List.push_toArray, List.append_toArray, List.nil_append, List.cons_append]
  gi_wp2
  refine ⟨trivial, ?_⟩
  refine (callsIn_wide.2 cV).mono ?_
  rintro e w1 ⟨rfl, hb1⟩
  gi_wp2
  exact ⟨_, results_tmp2 rfl _ _ _, rfl, hb1⟩
end Go.Proofs

/- utf8.ValidString and runes.Points, as contracts of the logic. -/
namespace Go.V
open Go Go.Proofs

def validB (s : ByteArray) : Bool := Lib.validD s.data.toList
theorem tabs_of_glob {w : World} {E : Nat → Prop} (h : Glob w E) : Lib.Utf8Tabs 0 1 w := by
  have h0 := h 0 firstD (by simp [GT])
  have h1 := h 1 accD (by simp [GT])
  simp only [R] at h0 h1
  obtain ⟨b, off, e, _, _, r0⟩ := h0
  cases e
  obtain ⟨b, off, e, _, _, r1⟩ := h1
  cases e
  refine ⟨fun c hc => ?_, fun i hi => ?_⟩
  · obtain ⟨v, h1, _, h2⟩ := r0.get (j := c) (d := .int .u8 (Lib.firstT c : Int)) (by unfold firstD; rw [List.getElem?_map, List.getElem?_range hc]; rfl)
    simp only [R] at h2
    subst h2
    simpa using h1
  · have key : ∀ (n k : Nat), k + n ≤ 16 → i < n → ((List.range' k n).flatMap fun i => [D.int .u8 (Lib.accLo i : Int), D.int .u8 (Lib.accHi i : Int)])[2 * i]? = some (.int .u8 (Lib.accLo (k + i) : Int)) ∧
        ((List.range' k n).flatMap fun i => [D.int .u8 (Lib.accLo i : Int), D.int .u8 (Lib.accHi i : Int)])[2 * i + 1]? = some (.int .u8 (Lib.accHi (k + i) : Int)) := by
      clear r0 r1 h
      induction i with
      | zero =>
        intro n k _ hn
        obtain ⟨m, rfl⟩ : ∃ m, n = m + 1 := ⟨n - 1, by omega⟩
        rw [List.range'_succ, List.flatMap_cons]
        simp
      | succ i ih =>
        intro n k hk hn
        obtain ⟨m, rfl⟩ : ∃ m, n = m + 1 := ⟨n - 1, by omega⟩
        rw [List.range'_succ, List.flatMap_cons]
        obtain ⟨e1, e2⟩ := ih (by omega) m (k + 1) (by omega) (by omega)
        rw [show 2 * (i + 1) = 2 * i + 2 by omega, show 2 * i + 2 + 1 = (2 * i + 1) + 2 by omega]
        refine ⟨by simpa [Nat.add_assoc, Nat.add_comm 1 i] using e1, by simpa [Nat.add_assoc, Nat.add_comm 1 i] using e2⟩
    obtain ⟨e1, e2⟩ := key 16 0 (by omega) hi
    rw [Nat.zero_add] at e1 e2
    constructor
    · obtain ⟨v, g1, _, g2⟩ := r1.get (j := 2 * i) (d := .int .u8 (Lib.accLo i : Int)) (by unfold accD; rw [List.range_eq_range']; exact e1)
      simp only [R] at g2
      subst g2
      simpa using g1
    · obtain ⟨v, g1, _, g2⟩ := r1.get (j := 2 * i + 1) (d := .int .u8 (Lib.accHi i : Int)) (by unfold accD; rw [List.range_eq_range']; exact e2)
      simp only [R] at g2
      subst g2
      simpa using g1
theorem below_of {w w' : World} (h : RowKit.Below w.heap.size w w') : Below w.heap.size w w' := ⟨h, fun h => Bool.noConfusion (show false = true from h)⟩
theorem valid_calls (s : ByteArray) {w : World} {E : Nat → Prop} (hs : s.size ≤ 1000000) (hE : Seen w E) :
    Calls Tryz.prog 72 #[.string s] w fun e w' => e = .returned (.bool (validB s)) ∧ RowKit.Below w.heap.size w w' :=
  Any.utf8_ValidString Tryz.validStr s w (by omega) (tabs_of_glob hE.2)
theorem valid_ok (s : ByteArray) (hs : s.size ≤ 1000000) : PureR Tryz.prog 72 [.str s] (.bool (validB s)) := by
  refine ⟨call_72, fun w E vs hE hv => ?_⟩
  simp only [Rvals, R] at hv
  obtain ⟨_, _, rfl, rfl, rfl⟩ := hv
  exact (valid_calls s hs hE).mono fun e w' ⟨h1, h2⟩ => ⟨_, h1, below_of h2, by simp [R]⟩
/-- A slice of numbers that has come to be since reads as they do. -/
theorem ints_of_row {w W : World} {E : Nat → Prop} {v : Value} {ys : List Int} (hE : ∀ b, E b → b < w.heap.size) (h : W.ownsRow w.heap.size 3 1 v ys.length (ys.map (Value.int .i64))) : R W E (ints ys) v := by
  unfold ints
  simp only [R, List.length_map]
  rcases h.2 with ⟨rfl, h0⟩ | ⟨g, cap, cur, rfl, hb, hgb, h1, h2, h3, h4⟩
  · have : ys = [] := List.eq_nil_of_length_eq_zero h0
    subst this
    exact ⟨none, 0, rfl, by simp, by simp, fun _ => rfl, fun h => absurd rfl h⟩
  · refine ⟨some ⟨g, 0, none⟩, cap, rfl, h1, h2, (fun h => by cases h), fun hne => ⟨g, 0, rfl, fun he => ?_, (Array.getElem?_eq_some_iff.1 hgb).1, ?_⟩⟩
    · have := hE g he; omega
    · have hrl : rowLen (ys.map fun n => [D.int .i64 n]) = 1 := by
        cases ys with
        | nil => exact absurd rfl hne
        | cons y r => rfl
      rw [hrl]
      refine Rrows.of_flat (fun r hr => ?_) ?_
      · obtain ⟨n, _, rfl⟩ := List.mem_map.1 hr; rfl
      · have hfl : (ys.map fun n => [D.int .i64 n]).flatten = ys.map (D.int .i64) := by
          clear h h1 h2 h3 h4 hne hrl
          induction ys with
          | nil => rfl
          | cons y r ih => simp [ih]
        rw [hfl]
        refine Rrow.of_cells (vs := ys.map (Value.int .i64)) ?_ ?_
        · clear h h1 h2 h3 h4 hne hrl hfl
          induction ys with
          | nil => simp [Rcells]
          | cons y r ih => simp only [List.map_cons, Rcells]; exact ⟨_, _, rfl, rfl, by simp [R], ih⟩
        · intro j u hj
          rw [Nat.zero_add]
          simp only [World.cell?, hgb]
          rw [← h4, List.getElem?_take] at hj
          split at hj
          · simpa using hj
          · cases hj
theorem points_ok (s : ByteArray) (hs : s.size ≤ 1000000) : PureE Tryz.prog 50 [.str s] (fun r => ∃ l, r = .tup [ints l, .bool (validB s)]) := by
  refine ⟨call_50, fun w E vs hE hv => ?_⟩
  simp only [Rvals, R] at hv
  obtain ⟨_, _, rfl, rfl, rfl⟩ := hv
  have hc := valid_calls s hs hE
  cases hb : validB s with
  | false =>
    rw [hb] at hc
    refine (points_no s w hc).mono fun e w' ⟨h1, h2⟩ => ⟨_, _, h1, below_of h2, ⟨[], rfl⟩, ?_⟩
    simp only [R]
    refine ⟨[.slice none 0 0, .bool false], rfl, ?_⟩
    simp only [Rvals]
    exact ⟨_, _, rfl, by simp only [ints, R, List.map_nil, List.length_nil]; exact ⟨none, 0, rfl, by simp, by simp, fun _ => rfl, fun h => absurd rfl h⟩, _, _, rfl, by simp [R], rfl⟩
  | true =>
    rw [hb] at hc
    refine (points_yes s w hs hc).mono fun e w' ⟨v, ys, h1, h2, h3⟩ => ⟨_, _, h1, below_of h3, ⟨ys, rfl⟩, ?_⟩
    simp only [R]
    refine ⟨[v, .bool true], rfl, ?_⟩
    have := ints_of_row hE.1 h2
    simp only [Rvals]
    exact ⟨_, _, rfl, this, _, _, rfl, by simp [R], rfl⟩
end Go.V

/- Contracts: the text of a note, by the program. -/
namespace Go.V
open Go Go.Proofs

def byteN (s : ByteArray) (k : Nat) : Nat := (s.data.toList.getD k 0).toNat
theorem byteAt_nat (s : ByteArray) (k : Nat) : byteAt s (k : Int) = (byteN s k : Int) := by simp [byteAt, byteN]
/-- A byte that no text may hold. -/
def badByte (b : Nat) : Bool := decide (b < 32) || decide (b = 127)
def badText (s : ByteArray) : Bool := (List.range s.size).any fun k => badByte (byteN s k)
def textE (s : ByteArray) : Int := if 200 < s.size then 5 else if validB s = true then (if badText s = true then 3 else 0) else 3
theorem text_ok (s : ByteArray) : PureR Tryz.prog 32 [.str s] (int (textE s)) := by
  refine pure_of_body mixed Tryz.func32 rfl call_32 ?_
  by_cases h0 : 200 < s.size
  · have h0' : (200 : Int) < s.size := by omega
    simp (decide := true) [Tryz.f32, h0', textE, h0, int]
  have h0' : ¬ (200 : Int) < s.size := by omega
  simp (decide := true) [Tryz.f32, h0', int]
  refine ECall.some (by rfl) (points_ok s (by omega)) ?_
  rintro r ⟨l, rfl⟩
  refine ⟨by simp, ?_⟩
  by_cases hv : validB s = true
  case neg => simp (decide := true) [hv, textE, h0, int]
  simp (decide := true) [hv, int]
  refine loop_rule mixed (fun k : Nat => { n := 32, next := 0, slots := [(0, .d (.str s)), (17, .d (.int .i64 s.size)), (18, .d (.int .i64 k))], own := [] })
    (fun k => k ≤ s.size ∧ ∀ j, j < k → badByte (byteN s j) = false) (fun k => s.size - k) 0 (by simp) (by simp (decide := true) [int]) ?_
  intro k ⟨hk, hp⟩
  by_cases hlt : k < s.size
  · have e1 : byteAt s (k : Int) = (byteN s k : Int) := byteAt_nat s k
    have hst : badByte (byteN s k) = false → ∀ j, j < k + 1 → badByte (byteN s j) = false := by
      intro hb j hj
      rcases Nat.lt_or_ge j k with hj' | hj'
      · exact hp j hj'
      · have : j = k := by omega
        subst this; exact hb
    have hbad : badByte (byteN s k) = true → badText s = true := fun hb => by
      unfold badText; rw [List.any_eq_true]; exact ⟨k, by simpa using hlt, hb⟩
    by_cases b1 : byteN s k < 32
    · have b1' : (byteN s k : Int) < 32 := by omega
      have hb := hbad (by simp [badByte, b1])
      simp (decide := true) [int, hlt, e1, b1', textE, h0, hv, hb]
    · have b1' : ¬ (byteN s k : Int) < 32 := by omega
      by_cases b2 : byteN s k = 127
      · have b2' : (byteN s k : Int) = 127 := by omega
        have hb := hbad (by simp [badByte, b2])
        simp (decide := true) [int, hlt, e1, b1', b2', textE, h0, hv, hb]
      · have b2' : ¬ (byteN s k : Int) = 127 := by omega
        simp (decide := true) [int, hlt, e1, b1', b2', I64]
        exact ⟨by omega, k + 1, ⟨hlt, hst (by simp [badByte, b1, b2])⟩, by omega, by omega⟩
  · have : k = s.size := by omega
    subst this
    have hb : badText s = false := by
      unfold badText; rw [List.any_eq_false]
      intro j hj
      have := hp j (by simpa using hj)
      simp [this]
    simp (decide := true) [int, textE, h0, hv, hb]
end Go.V

/- Contracts: the scalars of a string, by the reference of chapter 2. -/
namespace Go.V
open Go Go.Proofs

theorem wrap_u8 (n : Int) : IntKind.wrap .u8 n = n % 256 := by
  simp [IntKind.wrap, IntKind.bits, IntKind.signed]
theorem u8_of {n : Int} {m : Nat} (h : n = (m : Int)) : UInt8.ofNat (IntKind.wrap .u8 n).toNat = UInt8.ofNat m := by
  subst h
  apply UInt8.toNat_inj.1
  rw [wrap_u8]
  simp only [UInt8.toNat_ofNat']
  omega
theorem wrap_i64 {n : Int} (h : I64 n) : IntKind.wrap .i64 n = n := by
  obtain ⟨h1, h2⟩ := h
  simp [IntKind.wrap, IntKind.bits, IntKind.signed]
  split <;> omega
theorem wrap_byte (s : ByteArray) (k : Nat) : IntKind.wrap .i64 (byteN s k : Int) = (byteN s k : Int) := by
  have : byteN s k < 256 := UInt8.toNat_lt _
  exact wrap_i64 ⟨by omega, by omega⟩
theorem scalar_ok (p : Nat) : PureR Tryz.prog 114 [int p] (.bool (decide (scalarR p))) := by
  refine pure_of_body mixed Tryz.func114 rfl call_114 ?_
  by_cases h1 : (p : Int) ≤ 1114111
  · by_cases h2 : (p : Int) < 55296
    · have : scalarR p := ⟨by omega, by omega⟩
      simp (decide := true) [Tryz.f114, int, h1, h2, this]
    · have h3 : scalarR p ↔ (57343 : Int) < p := ⟨fun h => by have := h.2; omega, fun h => ⟨by omega, by omega⟩⟩
      simp (decide := true) [Tryz.f114, int, h1, h2, h3]
  · have : ¬ scalarR p := fun h => h1 (by have := h.1; omega)
    simp (decide := true) [Tryz.f114, int, h1, this]
/-- The string of a scalar. -/
def encS (p : Nat) : ByteArray := ⟨((encR p).map UInt8.ofNat).toArray⟩
theorem enc_ok (p : Nat) (hp : p < 2^40) : PureR Tryz.prog 115 [int p] (.str (encS p)) := by
  refine pure_of_body mixed Tryz.func115 rfl call_115 ?_
  have t1 : (p : Int).tmod 64 = ((p % 64 : Nat) : Int) := rfl
  have t2 : ((p : Int) / 64).tmod 64 = ((p / 64 % 64 : Nat) : Int) := by rw [show (p : Int) / 64 = ((p / 64 : Nat) : Int) by omega]; rfl
  have t3 : ((p : Int) / 4096).tmod 64 = ((p / 4096 % 64 : Nat) : Int) := by rw [show (p : Int) / 4096 = ((p / 4096 : Nat) : Int) by omega]; rfl
  by_cases h1 : p < 128
  · have h1' : (p : Int) < 128 := by omega
    simp (decide := true) [Tryz.f115, int, h1', t1, t2, t3, eBytes, bytesOf]
    rw [u8_of (m := p) (by omega)]
    simp [encS, encR, h1]
  have h1' : ¬ (p : Int) < 128 := by omega
  by_cases h2 : p < 2048
  · have h2' : (p : Int) < 2048 := by omega
    simp (decide := true) [Tryz.f115, int, h1', h2', t1, t2, t3, eBytes, bytesOf, I64]
    rw [u8_of (m := 192 + p / 64) (by omega), u8_of (m := 128 + p % 64) (by omega)]
    refine ⟨by omega, by omega, by omega, ?_⟩
    simp [encS, encR, h1, h2]
  have h2' : ¬ (p : Int) < 2048 := by omega
  by_cases h3 : p < 65536
  · have h3' : (p : Int) < 65536 := by omega
    simp (decide := true) [Tryz.f115, int, h1', h2', h3', t1, t2, t3, eBytes, bytesOf, I64]
    rw [u8_of (m := 224 + p / 4096) (by omega), u8_of (m := 128 + p / 64 % 64) (by omega), u8_of (m := 128 + p % 64) (by omega)]
    refine ⟨by omega, by omega, by omega, by omega, by omega, ?_⟩
    simp [encS, encR, h1, h2, h3]
  have h3' : ¬ (p : Int) < 65536 := by omega
  simp (decide := true) [Tryz.f115, int, h1', h2', h3', t1, t2, t3, eBytes, bytesOf, I64]
  rw [u8_of (m := 240 + p / 262144) (by omega), u8_of (m := 128 + p / 4096 % 64) (by omega), u8_of (m := 128 + p / 64 % 64) (by omega), u8_of (m := 128 + p % 64) (by omega)]
  refine ⟨by omega, by omega, by omega, by omega, by omega, by omega, by omega, ?_⟩
  simp [encS, encR, h1, h2, h3]
end Go.V

/- Contracts: the first scalar at a place, by the reference of chapter 2. -/
namespace Go.V
open Go Go.Proofs

theorem bytes_inj {a b : ByteArray} (h : a.toList = b.toList) : a = b := by
  rw [← MapKept.bytes_beq, beq_toListBytes, beq_iff_eq]; exact h
/-- The scalar as it grows, byte by byte. -/
def accR (s : ByteArray) (at_ p0 : Nat) : Nat → Nat
  | 0 => p0
  | k + 1 => accR s at_ p0 k * 64 + byteN s (at_ + (k + 1)) % 64
theorem accR_lt {s : ByteArray} {at_ p0 : Nat} (h : p0 < 256) : ∀ k, accR s at_ p0 k < 256 * 64 ^ k
  | 0 => by simpa [accR] using h
  | k + 1 => by
    have := accR_lt (s := s) (at_ := at_) h k
    simp only [accR, Nat.pow_succ]
    omega
def bytes4 (s : ByteArray) (at_ : Nat) : List Nat := [byteN s at_, byteN s (at_ + 1), byteN s (at_ + 2), byteN s (at_ + 3)]
theorem accR_fold (s : ByteArray) (at_ p0 : Nat) : ∀ n, n ≤ 4 → foldR p0 ([byteN s (at_ + 1), byteN s (at_ + 2), byteN s (at_ + 3)].take (n - 1)) = accR s at_ p0 (n - 1)
  | 0, _ => rfl
  | 1, _ => rfl
  | 2, _ => rfl
  | 3, _ => rfl
  | 4, _ => rfl
theorem toNat_inj_map : ∀ {a b : List UInt8}, a.map UInt8.toNat = b.map UInt8.toNat → a = b
  | [], [], _ => rfl
  | [], _ :: _, h => by simp at h
  | _ :: _, [], h => by simp at h
  | x :: a, y :: b, h => by
    simp only [List.map_cons, List.cons.injEq] at h
    rw [UInt8.toNat_inj.1 h.1, toNat_inj_map h.2]
theorem ext_bytes {s : ByteArray} {at_ n : Nat} (hn : n ≤ 4) (h : at_ + n ≤ s.size) : (s.extract at_ (at_ + n)).data.toList.map UInt8.toNat = (bytes4 s at_).take n := by
  have hsz : s.size = s.data.toList.length := by rw [Array.length_toList]; rfl
  have he : (s.extract at_ (at_ + n)).data.toList = (s.data.toList.drop at_).take n := by
    simp only [ByteArray.data_extract, Array.toList_extract, List.extract_eq_take_drop]
    congr 1; omega
  rw [he]
  apply List.ext_getElem?
  intro j
  rw [List.getElem?_map, List.getElem?_take, List.getElem?_take]
  by_cases hj : j < n
  · rw [if_pos hj, if_pos hj, List.getElem?_drop, List.getElem?_eq_getElem (by omega)]
    have hb : ∀ k, (hk : k < s.data.toList.length) → (s.data.toList[k]'hk).toNat = byteN s k := fun k hk => by simp [byteN, List.getD, List.getElem?_eq_getElem hk]
    have hj4 : j = 0 ∨ j = 1 ∨ j = 2 ∨ j = 3 := by omega
    rw [Option.map_some, hb]
    rcases hj4 with rfl | rfl | rfl | rfl <;> rfl
  · rw [if_neg hj, if_neg hj]; rfl
theorem encS_bytes (p : Nat) : (encS p).data.toList.map UInt8.toNat = (encR p).map (· % 256) := by
  simp only [encS, List.map_map]
  apply List.map_congr_left
  intro b _
  simp
theorem enc_eq {s : ByteArray} {at_ n p : Nat} (hn : n ≤ 4) (h : at_ + n ≤ s.size) : encS p = s.extract at_ (at_ + n) ↔ (encR p).map (· % 256) = (bytes4 s at_).take n := by
  rw [← encS_bytes, ← ext_bytes hn h]
  constructor
  · intro e; rw [e]
  · intro e
    have := toNat_inj_map e
    have e2 : (encS p).data = (s.extract at_ (at_ + n)).data := Array.ext' this
    cases hA : encS p; cases hB : s.extract at_ (at_ + n)
    rw [hA, hB] at e2
    simp only at e2; rw [e2]
def firstS (s : ByteArray) (at_ : Nat) : Option (Nat × Nat) := firstR (s.size - at_) (byteN s at_) (byteN s (at_ + 1)) (byteN s (at_ + 2)) (byteN s (at_ + 3))
def firstD' : Option (Nat × Nat) → D
  | none => .tup [int (-1), int 0]
  | some r => .tup [int r.1, int r.2]
theorem firstS_eq {s : ByteArray} {at_ p0 n : Nat} (hl : leadR (byteN s at_) = (p0, n)) (hn : n ≤ 4) : firstS s at_ = if s.size - at_ < n then none else if scalarR (accR s at_ p0 (n - 1)) ∧ (encR (accR s at_ p0 (n - 1))).map (· % 256) = (bytes4 s at_).take n then some (accR s at_ p0 (n - 1), n) else none := by
  unfold firstS firstR
  rw [hl]
  simp only
  rw [accR_fold s at_ p0 n hn]
  rfl
set_option maxHeartbeats 4000000 in
theorem first_ok (s : ByteArray) (at_ : Nat) (hat : at_ < s.size) (hs : s.size ≤ 1000000) : PureR Tryz.prog 101 [.str s, int at_] (firstD' (firstS s at_)) := by
  refine pure_of_body mixed Tryz.func101 rfl call_101 ?_
  have hb : byteN s at_ < 256 := UInt8.toNat_lt _
  have e0 := byteAt_nat s at_
  have w0 := wrap_byte s at_
  by_cases c4 : 240 ≤ byteN s at_
  · have q4 : (240 : Int) ≤ byteN s at_ := by omega
    have hl : leadR (byteN s at_) = (byteN s at_ - 240, 4) := by simp [leadR, c4]
    rw [firstS_eq hl (by omega)]
    by_cases hsz : s.size - at_ < 4
    · have g1 : (s.size : Int) < (at_ : Int) + 4 := by omega
      rw [if_pos hsz]
      have ep0 : (byteN s at_ : Int) - 240 = ((byteN s at_ - 240 : Nat) : Int) := by omega
      simp (decide := true) [Tryz.f101, int, hat, e0, w0, q4, g1, I64, eBytes, firstD', ep0]
      omega
    have g1 : ¬ (s.size : Int) < (at_ : Int) + 4 := by omega
    rw [if_neg hsz]
    have hp0 : byteN s at_ - 240 < 256 := by omega
    have ep0 : (byteN s at_ : Int) - 240 = ((byteN s at_ - 240 : Nat) : Int) := by omega
    simp (decide := true) [Tryz.f101, int, hat, e0, w0, q4, g1, I64, eBytes, ep0]
    refine ⟨by omega, ⟨by omega, by omega⟩, ?_⟩
    refine loop_rule mixed (fun j : Nat => { n := 65, next := 0, slots := [(0, .d (.str s)), (1, .d (int at_)), (6, .d (int (accR s at_ (byteN s at_ - 240) j))), (7, .d (int 4)), (8, .d (int (j + 1)))], own := [] })
      (fun j => j + 1 ≤ 4) (fun j => 4 - j) 0 (by simp) (by simp (decide := true) [int, accR]) ?_
    intro j hj
    have hac := accR_lt (s := s) (at_ := at_) hp0 j
    have hac2 : accR s at_ (byteN s at_ - 240) j < 2^30 := Nat.lt_of_lt_of_le hac (Nat.le_trans (Nat.mul_le_mul_left _ (Nat.pow_le_pow_right (by omega) (show j ≤ 3 by omega))) (by decide))
    by_cases hjn : j + 1 < 4
    · have k1 : (j : Int) + 1 < 4 := by omega
      have e1 : byteAt s ((at_ : Int) + ((j : Int) + 1)) = (byteN s (at_ + (j + 1)) : Int) := byteAt_nat s (at_ + (j + 1))
      have w1 := wrap_byte s (at_ + (j + 1))
      have t1 : (byteN s (at_ + (j + 1)) : Int).tmod 64 = ((byteN s (at_ + (j + 1)) % 64 : Nat) : Int) := rfl
      simp (decide := true) [int, k1, e1, w1, t1, I64, eBytes]
      exact ⟨by omega, by omega, ⟨by omega, by omega⟩, by omega, by omega, j + 1, by omega, by omega, by simp only [accR]; omega, by omega⟩
    · obtain rfl : j = 3 := by omega
      simp (decide := true) [int, I64, eBytes]
      generalize hq : accR s at_ (byteN s at_ - 240) 3 = q at hac2 ⊢
      refine scall_pure (by rfl) (by rfl) (scalar_ok q) (by simp) ?_
      by_cases hsc : scalarR q
      case neg => simp (decide := true) [hsc, int, firstD']
      simp (decide := true) [hsc, int]
      refine scall_pure (by rfl) (by rfl) (enc_ok q (by omega)) (by simp) ?_
      have z1 : ((at_ : Int) + 4).toNat = at_ + 4 := by omega
      have he := enc_eq (s := s) (at_ := at_) (n := 4) (p := q) (by omega) (by omega)
      by_cases hE : encS q = s.extract at_ (at_ + 4)
      · simp (decide := true) [hsc, int, z1, hE, he.1 hE, firstD', I64]
        omega
      · have hE2 : ¬ ((encR q).map (· % 256) = (bytes4 s at_).take 4) := fun h => hE (he.2 h)
        have hE3 : ¬ (encS q).toList = (s.extract at_ (at_ + 4)).toList := fun h => hE (bytes_inj h)
        simp (decide := true) [hsc, int, z1, hE2, hE3, firstD', I64]
        omega
  have q4 : ¬ (240 : Int) ≤ byteN s at_ := by omega
  by_cases c3 : 224 ≤ byteN s at_
  · have q3 : (224 : Int) ≤ byteN s at_ := by omega
    have hl : leadR (byteN s at_) = (byteN s at_ - 224, 3) := by simp [leadR, c4, c3]
    rw [firstS_eq hl (by omega)]
    by_cases hsz : s.size - at_ < 3
    · have g1 : (s.size : Int) < (at_ : Int) + 3 := by omega
      rw [if_pos hsz]
      have ep0 : (byteN s at_ : Int) - 224 = ((byteN s at_ - 224 : Nat) : Int) := by omega
      simp (decide := true) [Tryz.f101, int, hat, e0, w0, q4, q3, g1, I64, eBytes, firstD', ep0]
      omega
    have g1 : ¬ (s.size : Int) < (at_ : Int) + 3 := by omega
    rw [if_neg hsz]
    have hp0 : byteN s at_ - 224 < 256 := by omega
    have ep0 : (byteN s at_ : Int) - 224 = ((byteN s at_ - 224 : Nat) : Int) := by omega
    simp (decide := true) [Tryz.f101, int, hat, e0, w0, q4, q3, g1, I64, eBytes, ep0]
    refine ⟨by omega, ⟨by omega, by omega⟩, ?_⟩
    refine loop_rule mixed (fun j : Nat => { n := 65, next := 0, slots := [(0, .d (.str s)), (1, .d (int at_)), (6, .d (int (accR s at_ (byteN s at_ - 224) j))), (7, .d (int 3)), (8, .d (int (j + 1)))], own := [] })
      (fun j => j + 1 ≤ 3) (fun j => 3 - j) 0 (by simp) (by simp (decide := true) [int, accR]) ?_
    intro j hj
    have hac := accR_lt (s := s) (at_ := at_) hp0 j
    have hac2 : accR s at_ (byteN s at_ - 224) j < 2^30 := Nat.lt_of_lt_of_le hac (Nat.le_trans (Nat.mul_le_mul_left _ (Nat.pow_le_pow_right (by omega) (show j ≤ 3 by omega))) (by decide))
    by_cases hjn : j + 1 < 3
    · have k1 : (j : Int) + 1 < 3 := by omega
      have e1 : byteAt s ((at_ : Int) + ((j : Int) + 1)) = (byteN s (at_ + (j + 1)) : Int) := byteAt_nat s (at_ + (j + 1))
      have w1 := wrap_byte s (at_ + (j + 1))
      have t1 : (byteN s (at_ + (j + 1)) : Int).tmod 64 = ((byteN s (at_ + (j + 1)) % 64 : Nat) : Int) := rfl
      simp (decide := true) [int, k1, e1, w1, t1, I64, eBytes]
      exact ⟨by omega, by omega, ⟨by omega, by omega⟩, by omega, by omega, j + 1, by omega, by omega, by simp only [accR]; omega, by omega⟩
    · obtain rfl : j = 2 := by omega
      simp (decide := true) [int, I64, eBytes]
      generalize hq : accR s at_ (byteN s at_ - 224) 2 = q at hac2 ⊢
      refine scall_pure (by rfl) (by rfl) (scalar_ok q) (by simp) ?_
      by_cases hsc : scalarR q
      case neg => simp (decide := true) [hsc, int, firstD']
      simp (decide := true) [hsc, int]
      refine scall_pure (by rfl) (by rfl) (enc_ok q (by omega)) (by simp) ?_
      have z1 : ((at_ : Int) + 3).toNat = at_ + 3 := by omega
      have he := enc_eq (s := s) (at_ := at_) (n := 3) (p := q) (by omega) (by omega)
      by_cases hE : encS q = s.extract at_ (at_ + 3)
      · simp (decide := true) [hsc, int, z1, hE, he.1 hE, firstD', I64]
        omega
      · have hE2 : ¬ ((encR q).map (· % 256) = (bytes4 s at_).take 3) := fun h => hE (he.2 h)
        have hE3 : ¬ (encS q).toList = (s.extract at_ (at_ + 3)).toList := fun h => hE (bytes_inj h)
        simp (decide := true) [hsc, int, z1, hE2, hE3, firstD', I64]
        omega
  have q3 : ¬ (224 : Int) ≤ byteN s at_ := by omega
  by_cases c2 : 192 ≤ byteN s at_
  · have q2 : (192 : Int) ≤ byteN s at_ := by omega
    have hl : leadR (byteN s at_) = (byteN s at_ - 192, 2) := by simp [leadR, c4, c3, c2]
    rw [firstS_eq hl (by omega)]
    by_cases hsz : s.size - at_ < 2
    · have g1 : (s.size : Int) < (at_ : Int) + 2 := by omega
      rw [if_pos hsz]
      have ep0 : (byteN s at_ : Int) - 192 = ((byteN s at_ - 192 : Nat) : Int) := by omega
      simp (decide := true) [Tryz.f101, int, hat, e0, w0, q4, q3, q2, g1, I64, eBytes, firstD', ep0]
      omega
    have g1 : ¬ (s.size : Int) < (at_ : Int) + 2 := by omega
    rw [if_neg hsz]
    have hp0 : byteN s at_ - 192 < 256 := by omega
    have ep0 : (byteN s at_ : Int) - 192 = ((byteN s at_ - 192 : Nat) : Int) := by omega
    simp (decide := true) [Tryz.f101, int, hat, e0, w0, q4, q3, q2, g1, I64, eBytes, ep0]
    refine ⟨by omega, ⟨by omega, by omega⟩, ?_⟩
    refine loop_rule mixed (fun j : Nat => { n := 65, next := 0, slots := [(0, .d (.str s)), (1, .d (int at_)), (6, .d (int (accR s at_ (byteN s at_ - 192) j))), (7, .d (int 2)), (8, .d (int (j + 1)))], own := [] })
      (fun j => j + 1 ≤ 2) (fun j => 2 - j) 0 (by simp) (by simp (decide := true) [int, accR]) ?_
    intro j hj
    have hac := accR_lt (s := s) (at_ := at_) hp0 j
    have hac2 : accR s at_ (byteN s at_ - 192) j < 2^30 := Nat.lt_of_lt_of_le hac (Nat.le_trans (Nat.mul_le_mul_left _ (Nat.pow_le_pow_right (by omega) (show j ≤ 3 by omega))) (by decide))
    by_cases hjn : j + 1 < 2
    · have k1 : (j : Int) + 1 < 2 := by omega
      have e1 : byteAt s ((at_ : Int) + ((j : Int) + 1)) = (byteN s (at_ + (j + 1)) : Int) := byteAt_nat s (at_ + (j + 1))
      have w1 := wrap_byte s (at_ + (j + 1))
      have t1 : (byteN s (at_ + (j + 1)) : Int).tmod 64 = ((byteN s (at_ + (j + 1)) % 64 : Nat) : Int) := rfl
      simp (decide := true) [int, k1, e1, w1, t1, I64, eBytes]
      exact ⟨by omega, by omega, ⟨by omega, by omega⟩, by omega, by omega, j + 1, by omega, by omega, by simp only [accR]; omega, by omega⟩
    · obtain rfl : j = 1 := by omega
      simp (decide := true) [int, I64, eBytes]
      generalize hq : accR s at_ (byteN s at_ - 192) 1 = q at hac2 ⊢
      refine scall_pure (by rfl) (by rfl) (scalar_ok q) (by simp) ?_
      by_cases hsc : scalarR q
      case neg => simp (decide := true) [hsc, int, firstD']
      simp (decide := true) [hsc, int]
      refine scall_pure (by rfl) (by rfl) (enc_ok q (by omega)) (by simp) ?_
      have z1 : ((at_ : Int) + 2).toNat = at_ + 2 := by omega
      have he := enc_eq (s := s) (at_ := at_) (n := 2) (p := q) (by omega) (by omega)
      by_cases hE : encS q = s.extract at_ (at_ + 2)
      · simp (decide := true) [hsc, int, z1, hE, he.1 hE, firstD', I64]
        omega
      · have hE2 : ¬ ((encR q).map (· % 256) = (bytes4 s at_).take 2) := fun h => hE (he.2 h)
        have hE3 : ¬ (encS q).toList = (s.extract at_ (at_ + 2)).toList := fun h => hE (bytes_inj h)
        simp (decide := true) [hsc, int, z1, hE2, hE3, firstD', I64]
        omega
  have q2 : ¬ (192 : Int) ≤ byteN s at_ := by omega
  have hl : leadR (byteN s at_) = (byteN s at_, 1) := by simp [leadR, c4, c3, c2]
  rw [firstS_eq hl (by omega)]
  by_cases hsz : s.size - at_ < 1
  · omega
  have g1 : ¬ (s.size : Int) < (at_ : Int) + 1 := by omega
  rw [if_neg hsz]
  have hp0 : byteN s at_ < 256 := by omega
  simp (decide := true) [Tryz.f101, int, hat, e0, w0, q4, q3, q2, g1, I64, eBytes]
  refine ⟨⟨by omega, by omega⟩, ?_⟩
  refine loop_rule mixed (fun j : Nat => { n := 65, next := 0, slots := [(0, .d (.str s)), (1, .d (int at_)), (6, .d (int (accR s at_ (byteN s at_) j))), (7, .d (int 1)), (8, .d (int (j + 1)))], own := [] })
    (fun j => j + 1 ≤ 1) (fun j => 1 - j) 0 (by simp) (by simp (decide := true) [int, accR]) ?_
  intro j hj
  have hac := accR_lt (s := s) (at_ := at_) hp0 j
  have hac2 : accR s at_ (byteN s at_) j < 2^30 := Nat.lt_of_lt_of_le hac (Nat.le_trans (Nat.mul_le_mul_left _ (Nat.pow_le_pow_right (by omega) (show j ≤ 3 by omega))) (by decide))
  by_cases hjn : j + 1 < 1
  · omega
  · obtain rfl : j = 0 := by omega
    simp (decide := true) [int, I64, eBytes]
    generalize hq : accR s at_ (byteN s at_) 0 = q at hac2 ⊢
    refine scall_pure (by rfl) (by rfl) (scalar_ok q) (by simp) ?_
    by_cases hsc : scalarR q
    case neg => simp (decide := true) [hsc, int, firstD']
    simp (decide := true) [hsc, int]
    refine scall_pure (by rfl) (by rfl) (enc_ok q (by omega)) (by simp) ?_
    have z1 : ((at_ : Int) + 1).toNat = at_ + 1 := by omega
    have he := enc_eq (s := s) (at_ := at_) (n := 1) (p := q) (by omega) (by omega)
    by_cases hE : encS q = s.extract at_ (at_ + 1)
    · simp (decide := true) [hsc, int, z1, hE, he.1 hE, firstD', I64]
      omega
    · have hE2 : ¬ ((encR q).map (· % 256) = (bytes4 s at_).take 1) := fun h => hE (he.2 h)
      have hE3 : ¬ (encS q).toList = (s.extract at_ (at_ + 1)).toList := fun h => hE (bytes_inj h)
      simp (decide := true) [hsc, int, z1, hE2, hE3, firstD', I64]
      omega
end Go.V

/- The text of a note: the program and the reference agree, whatever the string. -/
namespace Go.V
open Go Go.Proofs Go.Lib

/-- The scalars from a place on. -/
def ptsGo (s : ByteArray) : Nat → Nat → Option (List Int)
  | 0, _ => some []
  | n + 1, pos => if pos < s.size then (match firstS s pos with
    | none => none
    | some r => (ptsGo s n (pos + r.2)).map ((r.1 : Int) :: ·)) else some []
theorem firstS_good {s : ByteArray} {pos : Nat} (h : pos < s.size) : match firstS s pos with
    | none => decodeN (s.size - pos) (byteN s pos) (byteN s (pos + 1)) (byteN s (pos + 2)) (byteN s (pos + 3)) = (65533, 1)
    | some r => decodeN (s.size - pos) (byteN s pos) (byteN s (pos + 1)) (byteN s (pos + 2)) (byteN s (pos + 3)) = r ∧ ¬ (r.1 = 65533 ∧ r.2 = 1) ∧ r.2 ≤ s.size - pos ∧ 1 ≤ r.2 :=
  firstR_decode _ _ _ _ _ (by omega) (UInt8.toNat_lt _) (UInt8.toNat_lt _) (UInt8.toNat_lt _) (UInt8.toNat_lt _)
theorem valid_at {s : ByteArray} {pos : Nat} (h : pos < s.size) : validD (s.data.toList.drop pos) = match firstS s pos with
    | none => false
    | some r => validD (s.data.toList.drop (pos + r.2)) := by
  have hsz : s.size = s.data.toList.length := by rw [Array.length_toList]; rfl
  have hne : s.data.toList.drop pos ≠ [] := by
    intro e; have := congrArg List.length e; rw [List.length_drop] at this; simp at this; omega
  have hd : decodeL (s.data.toList.drop pos) = decodeN (s.size - pos) (byteN s pos) (byteN s (pos + 1)) (byteN s (pos + 2)) (byteN s (pos + 3)) := by
    rw [decodeL_N, List.length_drop, ← hsz, getD_dropU, getD_dropU, getD_dropU, getD_dropU]; rfl
  rw [validD_step _ hne, hd]
  have hg := firstS_good h
  cases hf : firstS s pos with
  | none => rw [hf] at hg; simp only at hg; rw [hg]; simp
  | some r =>
    rw [hf] at hg; simp only at hg
    obtain ⟨h1, h2, _, _⟩ := hg
    rw [h1, if_neg h2, List.drop_drop]
def badI (p : Int) : Bool := decide (p < 32) || decide (p = 127)
set_option maxHeartbeats 1000000 in
theorem decodeN_bytes (n b0 b1 b2 b3 : Nat) (h0 : b0 < 256) (h1 : b1 < 256) (h2 : b2 < 256) (h3 : b3 < 256) (hb : ¬ ((decodeN n b0 b1 b2 b3).1 = 65533 ∧ (decodeN n b0 b1 b2 b3).2 = 1)) :
    (decodeN n b0 b1 b2 b3 = (b0, 1)) ∨ (128 ≤ (decodeN n b0 b1 b2 b3).1 ∧ 128 ≤ b0 ∧ (1 < (decodeN n b0 b1 b2 b3).2 → 128 ≤ b1) ∧ (2 < (decodeN n b0 b1 b2 b3).2 → 128 ≤ b2) ∧ (3 < (decodeN n b0 b1 b2 b3).2 → 128 ≤ b3) ∧ (decodeN n b0 b1 b2 b3).2 ≤ 4) := by
  revert hb
  unfold decodeN
  repeat' split
  all_goals intro hb
  all_goals first | (left; rfl) | (exfalso; exact hb ⟨rfl, rfl⟩) | (right; simp only; refine ⟨by omega, by omega, fun _ => by omega, fun _ => by omega, fun _ => by omega, by omega⟩)
theorem bad_step {s : ByteArray} {pos : Nat} (h : pos < s.size) {r : Nat × Nat} (hf : firstS s pos = some r) :
    badI (r.1 : Int) = true ↔ ∃ j, pos ≤ j ∧ j < pos + r.2 ∧ badByte (byteN s j) = true := by
  have hg := firstS_good h
  rw [hf] at hg
  simp only at hg
  obtain ⟨h1, h2, h3, h4⟩ := hg
  have hk := decodeN_bytes (s.size - pos) (byteN s pos) (byteN s (pos + 1)) (byteN s (pos + 2)) (byteN s (pos + 3)) (UInt8.toNat_lt _) (UInt8.toNat_lt _) (UInt8.toNat_lt _) (UInt8.toNat_lt _) (by rw [h1]; exact h2)
  rw [h1] at hk
  rcases hk with hk | ⟨g1, g2, g3, g4, g5, g6⟩
  · rw [hk]
    simp only [badI, badByte, Bool.or_eq_true, decide_eq_true_eq]
    constructor
    · intro hb; exact ⟨pos, by omega, by omega, by omega⟩
    · rintro ⟨j, a, b, c⟩
      obtain rfl : j = pos := by omega
      omega
  · simp only [badI, badByte, Bool.or_eq_true, decide_eq_true_eq]
    constructor
    · intro hb; omega
    · rintro ⟨j, a, b, c⟩
      exfalso
      have hj : j = pos ∨ j = pos + 1 ∨ j = pos + 2 ∨ j = pos + 3 := by omega
      rcases hj with rfl | rfl | rfl | rfl
      · omega
      · have := g3 (by omega); omega
      · have := g4 (by omega); omega
      · have := g5 (by omega); omega
theorem pts_valid (s : ByteArray) : ∀ (m pos : Nat), s.size ≤ pos + m → pos ≤ s.size → validD (s.data.toList.drop pos) = (ptsGo s m pos).isSome ∧
    ∀ l, ptsGo s m pos = some l → (l.any badI = true ↔ ∃ j, pos ≤ j ∧ j < s.size ∧ badByte (byteN s j) = true)
  | 0, pos, hm, hp => by
    have hsz : s.size = s.data.toList.length := by rw [Array.length_toList]; rfl
    rw [List.drop_eq_nil_of_le (by omega), validD_nil]
    refine ⟨rfl, fun l hl => ?_⟩
    simp only [ptsGo, Option.some.injEq] at hl
    subst hl
    simp only [List.any_nil, Bool.false_eq_true, false_iff]
    rintro ⟨j, _, _, _⟩; omega
  | m + 1, pos, hm, hp => by
    have hsz : s.size = s.data.toList.length := by rw [Array.length_toList]; rfl
    by_cases h : pos < s.size
    · rw [valid_at h]
      simp only [ptsGo, if_pos h]
      have hg := firstS_good h
      cases hf : firstS s pos with
      | none => exact ⟨rfl, fun l hl => by cases hl⟩
      | some r =>
        rw [hf] at hg
        simp only at hg
        obtain ⟨i1, i2⟩ := pts_valid s m (pos + r.2) (by omega) (by omega)
        simp only
        refine ⟨by rw [i1]; cases ptsGo s m (pos + r.2) <;> rfl, fun l hl => ?_⟩
        rw [Option.map_eq_some_iff] at hl
        obtain ⟨l', hl', rfl⟩ := hl
        rw [List.any_cons, Bool.or_eq_true, i2 l' hl', bad_step h hf]
        constructor
        · rintro (⟨j, a, b, c⟩ | ⟨j, a, b, c⟩)
          · exact ⟨j, by omega, by omega, c⟩
          · exact ⟨j, by omega, b, c⟩
        · rintro ⟨j, a, b, c⟩
          rcases Nat.lt_or_ge j (pos + r.2) with hj | hj
          · exact .inl ⟨j, a, hj, c⟩
          · exact .inr ⟨j, hj, b, c⟩
    · rw [List.drop_eq_nil_of_le (by omega), validD_nil]
      simp only [ptsGo, if_neg h]
      refine ⟨rfl, fun l hl => ?_⟩
      simp only [Option.some.injEq] at hl
      subst hl
      simp only [List.any_nil, Bool.false_eq_true, false_iff]
      rintro ⟨j, _, _, _⟩; omega
theorem textE_eq (s : ByteArray) : textE s = if 200 < s.size then 5 else match ptsGo s s.size 0 with
    | none => 3
    | some l => if l.any badI = true then 3 else 0 := by
  unfold textE
  split
  · rfl
  · obtain ⟨h1, h2⟩ := pts_valid s s.size 0 (by omega) (by omega)
    rw [List.drop_zero] at h1
    have hv : validB s = (ptsGo s s.size 0).isSome := h1
    rw [hv]
    cases hp : ptsGo s s.size 0 with
    | none => rfl
    | some l =>
      simp only [Option.isSome_some, if_true]
      have := h2 l hp
      have hb : badText s = true ↔ l.any badI = true := by
        rw [this]
        unfold badText
        rw [List.any_eq_true]
        constructor
        · rintro ⟨j, hj, hb⟩; exact ⟨j, by omega, by simpa using hj, hb⟩
        · rintro ⟨j, _, hj, hb⟩; exact ⟨j, by simpa using hj, hb⟩
      by_cases h : l.any badI = true
      · rw [if_pos h, if_pos (hb.2 h)]
      · rw [if_neg h, if_neg (fun h' => h (hb.1 h'))]
end Go.V

/- Contracts: the reference's points and text; the law on texts. -/
namespace Go.V
open Go Go.Proofs

def ptsD : Option (List Int) → D
  | none => .tup [.sl [], .bool false]
  | some l => .tup [ints l, .bool true]
def ptsS (s : ByteArray) (x : List Int × Nat × Nat) : St :=
  { n := 28, next := 2, slots := [(0, .d (.str s)), (4, .ar 1), (5, .d (int x.2.1))], own := [(1, .arr 3 1 (x.1.map fun n => [.int .i64 n]))], moved := [1] }
theorem pts_len (s : ByteArray) : ∀ (m pos : Nat) (l : List Int), ptsGo s m pos = some l → l.length ≤ m
  | 0, pos, l, h => by simp [ptsGo] at h; subst h; simp
  | m + 1, pos, l, h => by
    simp only [ptsGo] at h
    split at h
    · split at h
      · cases h
      · rw [Option.map_eq_some_iff] at h
        obtain ⟨l', h', rfl⟩ := h
        have := pts_len s m _ l' h'
        simp; omega
    · cases h; simp
set_option maxHeartbeats 1000000 in
theorem refPoints_ok (s : ByteArray) (hs : s.size ≤ 1000000) : PureR Tryz.prog 89 [.str s] (ptsD (ptsGo s s.size 0)) := by
  refine pure_of_body_frz mixed Tryz.func89 rfl call_89 [1, 2] ?_
  simp (decide := true) [Tryz.f89]
  refine loop_rule mixed (ptsS s) (fun x => x.2.1 ≤ s.size ∧ s.size ≤ x.2.1 + x.2.2 ∧ x.1.length ≤ x.2.1 ∧ ptsGo s s.size 0 = (ptsGo s x.2.2 x.2.1).map (x.1 ++ ·)) (fun x => x.2.2) ([], 0, s.size)
    ⟨by simp, by simp, by simp, by simp⟩ (by simp (decide := true) [ptsS, int]) ?_
  rintro ⟨acc, pos, m⟩ ⟨h1, h2, h3, h4⟩
  simp only at h1 h2 h3 h4
  by_cases hlt : pos < s.size
  · have hlt' : (pos : Int) < s.size := by omega
    obtain ⟨m, rfl⟩ : ∃ k, m = k + 1 := ⟨m - 1, by omega⟩
    simp only [ptsGo, if_pos hlt] at h4
    have hg := firstS_good hlt
    have hf0 := first_ok s pos hlt hs
    simp (decide := true) [ptsS, int, hlt']
    refine ECall.pure (by rfl) hf0 (by simp) ?_
    cases hf : firstS s pos with
    | none =>
      rw [hf] at h4
      simp (decide := true) [firstD', int, ptsD, h4]
    | some r =>
      rw [hf] at h4 hg
      simp only at h4 hg
      obtain ⟨_, _, g3, g4⟩ := hg
      have e1 : ¬ r.2 = 0 := by omega
      simp (decide := true) [firstD', int, e1, I64]
      refine ⟨by omega, by unfold maxLen; omega, ⟨by omega, by omega⟩, acc ++ [(r.1 : Int)], pos + r.2, m, ⟨by omega, by omega, by simp; omega, by rw [h4]; cases ptsGo s m (pos + r.2) <;> simp⟩, by omega, ?_⟩
      simp (decide := true) [ptsS, int]
  · have hlt' : ¬ (pos : Int) < s.size := by omega
    have hm : ptsGo s m pos = some [] := by cases m <;> simp [ptsGo, hlt]
    rw [hm] at h4
    simp (decide := true) [ptsS, int, hlt', h4, ptsD, ints]
theorem refText_ok (s : ByteArray) : PureR Tryz.prog 56 [.str s] (int (textE s)) := by
  refine pure_of_body mixed Tryz.func56 rfl call_56 ?_
  rw [textE_eq]
  by_cases h0 : 200 < s.size
  · have h0' : (200 : Int) < s.size := by omega
    simp (decide := true) [Tryz.f56, h0', h0, int]
  have h0' : ¬ (200 : Int) < s.size := by omega
  simp (decide := true) [Tryz.f56, h0', h0, int]
  refine ECall.pure (by rfl) (refPoints_ok s (by omega)) (by simp) ?_
  cases hp : ptsGo s s.size 0 with
  | none => simp (decide := true) [ptsD, int]
  | some l =>
    have hll : l.length ≤ s.size := pts_len s _ _ _ hp
    simp (decide := true) [ptsD, ints, int]
    refine loop_rule mixed (fun k : Nat => { n := 34, next := 0, slots := [(3, .d (ints l)), (5, .d (int k))], own := [] })
      (fun k => k ≤ l.length ∧ ∀ x ∈ l.take k, badI x = false) (fun k => l.length - k) 0 (by simp) (by simp (decide := true) [int, ints]) ?_
    intro k ⟨hk, hq⟩
    by_cases hlt : k < l.length
    · have e1 : l[k]? = some l[k] := List.getElem?_eq_getElem hlt
      have hbad : badI l[k] = true → l.any badI = true := fun hb => List.any_eq_true.2 ⟨l[k], List.getElem_mem hlt, hb⟩
      by_cases b1 : l[k] < 32
      · have hb := hbad (by simp [badI, b1])
        simp (decide := true) [ints, int, e1, hlt, b1]
        exact List.any_eq_true.1 hb
      · by_cases b2 : l[k] = 127
        · have hb := hbad (by simp [badI, b2])
          simp (decide := true) [ints, int, e1, hlt, b1, b2]
          exact List.any_eq_true.1 hb
        · simp (decide := true) [ints, int, e1, hlt, b1, b2, I64]
          refine ⟨by omega, k + 1, ⟨hlt, ?_⟩, by omega, by omega⟩
          rw [List.take_succ_eq_append_getElem hlt]
          intro x hx
          rcases List.mem_append.1 hx with hx | hx
          · exact hq x hx
          · simp at hx; rw [hx]; simp [badI, b1, b2]
    · have : k = l.length := by omega
      subst this
      rw [List.take_length] at hq
      have hb : l.any badI = false := by rw [List.any_eq_false]; intro x hx; simp [hq x hx]
      simp (decide := true) [ints, int]
      exact hq
end Go.V

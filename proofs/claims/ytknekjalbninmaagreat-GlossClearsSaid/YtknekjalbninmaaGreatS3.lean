/- A program logic of my own over the kit: part S3. It needs no conditions. -/
import Derived.Test.YtknekjalbninmaaGreatW3
import Derived.Shelf.Strings.Builder1
set_option linter.unusedVariables false
set_option linter.unusedSimpArgs false
set_option linter.unusedSectionVars false
namespace Go.V
variable [Dr] [Ov]
open Go.RowKit Go.Proofs Go.Shelf
section
variable {P : Program} {ρ : Ren}
theorem bld_fresh {f T : Nat} (hc : callable P f = true) (hC : ∀ (b : Nat) (w : World), w.cell? ⟨b, 0, none⟩ = some (.pointer none) → w.shape? b = some (T, 2) → w.frozen? ⟨b, 0, none⟩ = false →
      Calls P f #[.pointer (some ⟨b, 0, none⟩)] w fun e w' => e = .returned (.tuple #[]) ∧ w' = w.setCell ⟨b, 0, none⟩ (.pointer (some ⟨b, 0, none⟩))) :
    CallC P f [.bp 0 0] [(0, .box T [.d (.val (.pointer none)), .nils])] 1 (.d (.tup [])) 1 [(0, .box T [.bp 0 0, .nils])] [] := by
  refine ⟨hc, fun X w0 β w vs hβ hm hs => ?_⟩
  simp only [Sms] at hs
  obtain ⟨v, vs', rfl, hv, rfl⟩ := hs
  simp only [Sm] at hv
  obtain ⟨b, hb, rfl⟩ := hv
  obtain ⟨_, hlo, b', us, hb', hmay, hh, hsm, h1⟩ := hm.obj (id := 0) (o := .box T [.d (.val (.pointer none)), .nils]) rfl
  rw [hb] at hb'; cases hb'
  simp only [Sms, Sm, R] at hsm
  obtain ⟨_, _, rfl, rfl, _, _, rfl, rfl, rfl⟩ := hsm
  have c0 : w.cell? ⟨b, 0, none⟩ = some (.pointer none) := by rw [Lib.cell_of_heap hh]; rfl
  refine (hC b w c0 (by simp [World.shape?, hh]) (Lib.frozen_of_heap hh 0)).mono ?_
  rintro e w' ⟨rfl, rfl⟩
  have hnew : (w.setCell ⟨b, 0, none⟩ (.pointer (some ⟨b, 0, none⟩))).heap[b]? = some (.cells #[.pointer (some ⟨b, 0, none⟩), .slice none 0 0] T (0, 0)) := by
    simp [World.setCell, Array.getElem?_modify, hh]
  have hm1 : Mods X w0 { (memSt [(0, .box T [.d (.val (.pointer none)), .nils])] 1 1 []) with own := aset 0 (.box T [.bp 0 0, .nils]) [(0, .box T [.d (.val (.pointer none)), .nils])] } β act0 (w.setCell ⟨b, 0, none⟩ (.pointer (some ⟨b, 0, none⟩))) := by
    refine hm.update (b := b) rfl (by rw [hb]; rfl) hmay (fun c hc => Go.RowKit.Below.heap_setCell _ _ _ _ hc) (by simp [World.setCell]) rfl rfl rfl (fun _ => by simp [World.setCell]) (by simp [Obj'.lo, Sym.los, Sym.lo, memSt]) ?_
    exact ⟨b, [.pointer (some ⟨b, 0, none⟩), .slice none 0 0], hb, hmay, hnew, by simp [Sms, Sm, hb], by simp [Value.oneCell']⟩
  exact ⟨β, _, rfl, hm1, by simp [Sym.lo], by simp [Sm, R, Rvals]⟩
theorem bld_used {f T : Nat} (hc : callable P f = true) (hC : ∀ (b : Nat) (w : World), w.cell? ⟨b, 0, none⟩ = some (.pointer (some ⟨b, 0, none⟩)) →
      Calls P f #[.pointer (some ⟨b, 0, none⟩)] w fun e w' => e = .returned (.tuple #[]) ∧ w' = w) (e sz : Nat) (rows : List (List D)) :
    CallC P f [.bp 0 0] [(0, .box T [.bp 0 0, .ar 1]), (1, .arr e sz rows)] 2 (.d (.tup [])) 2 [(0, .box T [.bp 0 0, .ar 1]), (1, .arr e sz rows)] [] := by
  refine ⟨hc, fun X w0 β w vs hβ hm hs => ?_⟩
  simp only [Sms] at hs
  obtain ⟨v, vs', rfl, hv, rfl⟩ := hs
  simp only [Sm] at hv
  obtain ⟨b, hb, rfl⟩ := hv
  obtain ⟨_, hlo, b', us, hb', hmay, hh, hsm, h1⟩ := hm.obj (id := 0) (o := .box T [.bp 0 0, .ar 1]) rfl
  rw [hb] at hb'; cases hb'
  simp only [Sms, Sm] at hsm
  obtain ⟨_, _, rfl, ⟨b2, hb2, rfl⟩, _, _, rfl, rfl, rfl⟩ := hsm
  rw [hb] at hb2; cases hb2
  have c0 : w.cell? ⟨b, 0, none⟩ = some (.pointer (some ⟨b, 0, none⟩)) := by rw [Lib.cell_of_heap hh]; rfl
  refine (hC b w c0).mono ?_
  rintro e w' ⟨rfl, rfl⟩
  exact ⟨β, _, rfl, hm, by simp [Sym.lo], by simp [Sm, R, Rvals]⟩
set_option maxHeartbeats 1000000 in
set_option maxRecDepth 100000 in
theorem bld_str (L : Lays.n169 P ρ) (X : Builder.Extra P ρ) (b g cap : Nat) (p : Value) (cur : Array Value) (l : List UInt8) (w : World) (hbk : w.heap[b]? = some (.cells #[p, .slice (some ⟨g, 0, none⟩) l.length cap] (ρ.t 72) (0, 0)))
    (hg : w.heap[g]? = some (.cells cur (ρ.t 5) (0, 0))) (h0 : l ≠ []) (hnc : l.length ≤ cap) (hcm : cap ≤ maxLen) (hcs : cur.size = cap) (hcells : ∀ (j : Nat) (x : UInt8), l[j]? = some x → w.drew.cell? ((⟨g, 0, none⟩ : Addr).add j) = some (.int .u8 x.toNat)) :
    Calls P (ρ.f 169) #[.pointer (some ⟨b, 0, none⟩)] w fun e w' => e = .returned (.string ⟨l.toArray⟩) ∧ w' = w.drew.freeze ⟨g, 0, none⟩ l.length := by
  have hl0 : l.length ≠ 0 := by simpa using h0
  have c1 : w.drew.cell? ⟨b, 1, none⟩ = some (.slice (some ⟨g, 0, none⟩) l.length cap) := by
    have : w.drew.heap[b]? = some (.cells #[p, .slice (some ⟨g, 0, none⟩) l.length cap] (ρ.t 72) (0, 0)) := hbk
    rw [Lib.cell_of_heap this]; rfl
  have hSD : (Builtin.unsafeSliceData_ #[(ρ.t 37)] (ρ.t 127) #[.slice (some ⟨g, 0, none⟩) l.length cap]).run P w.drew = .ok (.pointer (some ⟨g, 0, none⟩)) w.drew :=
    Lib.run_unsafeSliceData_row _ _ _ _ _ _ (by omega)
  have hUS : (Builtin.unsafeString_ #[(ρ.t 127), (ρ.t 3)] (ρ.t 9) #[.pointer (some ⟨g, 0, none⟩), .int .i64 l.length]).run P w.drew = .ok (.string ⟨l.toArray⟩) (w.drew.freeze ⟨g, 0, none⟩ l.length) := by
    exact Lib.run_unsafeString_row w.drew (ρ.t 127) (ρ.t 3) (ρ.t 9) (ρ.t 5) L.t127 X.cellsByte g cur.size (by have hg' : w.drew.heap[g]? = some (.cells cur (ρ.t 5) (0, 0)) := hg; simp [World.shape?, hg']) l h0 (by omega) (by unfold maxLen at hcm; omega) hcells
  have mixed := L.mixed
  have t72 := L.t72; have a72 := L.a72; have z72 := L.z72; have v72 := L.v72; have u72 := run_underlying L.t72
  have t70 := L.t70; have a70 := L.a70; have z70 := L.z70; have v70 := L.v70; have u70 := run_underlying L.t70
  have t37 := L.t37; have a37 := L.a37; have z37 := L.z37; have v37 := L.v37; have u37 := run_underlying L.t37
  have t127 := L.t127; have a127 := L.a127; have z127 := L.z127; have v127 := L.v127; have u127 := run_underlying L.t127
  have t3 := L.t3; have a3 := L.a3; have z3 := L.z3; have v3 := L.v3; have u3 := run_underlying L.t3
  have t9 := L.t9; have a9 := L.a9; have z9 := L.z9; have v9 := L.v9; have u9 := run_underlying L.t9
  have t5 := X.t5; have a5 := X.a5; have z5 := X.z5; have v5 := X.v5; have u5 := run_underlying X.t5
  go_enter L.f169, Body.n169_ntmps ρ
  go_wp2
  go_region_o
  all_goals (go_wp2; go_ret; exact ⟨rfl, rfl⟩)
theorem freeze_other (w : World) (g n c : Nat) (h : c ≠ g) : (w.freeze ⟨g, 0, none⟩ n).heap[c]? = w.heap[c]? := by
  unfold World.freeze
  split
  · rfl
  · simp only [Array.getElem?_modify]
    rw [if_neg (fun e => h e.symm)]
theorem freeze_size (w : World) (a : Addr) (n : Nat) : (w.freeze a n).heap.size = w.heap.size := by
  unfold World.freeze
  split <;> simp
theorem freeze_drawn (w : World) (a : Addr) (n : Nat) : (w.freeze a n).drawn = w.drawn ∧ (w.freeze a n).os = w.os ∧ (w.freeze a n).tape = w.tape ∧ (w.freeze a n).output = w.output := by
  unfold World.freeze
  split <;> exact ⟨rfl, rfl, rfl, rfl⟩
theorem bld_string (L : Lays.n169 P ρ) (X2 : Builder.Extra P ρ) (hc : callable P (ρ.f 169) = true) (s : ByteArray) (hs0 : s.size ≠ 0) :
    CallC P (ρ.f 169) [.bp 0 0] [(0, .box (ρ.t 72) [.bp 0 0, .ar 1]), (1, .arr (ρ.t 5) 1 (strRows s))] 2 (.d (.str s)) 2 [] [] := by
  refine ⟨hc, fun X w0 β w vs hβ hm hs => ?_⟩
  simp only [Sms] at hs
  obtain ⟨v, vs', rfl, hv, rfl⟩ := hs
  simp only [Sm] at hv
  obtain ⟨b, hb, rfl⟩ := hv
  obtain ⟨_, hlo, b', us, hb', hmay, hh, hsm, h1⟩ := hm.obj (id := 0) (o := .box (ρ.t 72) [.bp 0 0, .ar 1]) rfl
  rw [hb] at hb'; cases hb'
  simp only [Sms, Sm] at hsm
  obtain ⟨_, _, rfl, ⟨b2, hb2, rfl⟩, _, _, rfl, rfl, rfl⟩ := hsm
  rw [hb] at hb2; cases hb2
  obtain ⟨_, _, xs, hx, hxc, hsz⟩ := hm.obj (id := 1) (o := .arr (ρ.t 5) 1 (strRows s)) rfl
  have hlen : (strRows s).length = s.data.toList.length := by rw [strRows_len]; rfl
  have hsd : s.data.toList.length = s.size := rfl
  rcases hx.1.2 with ⟨_, h0⟩ | ⟨g, cap, cur, hg, _, hgh, hcap, hmax, hcs, htk⟩
  · rw [strRows_len] at h0; exact absurd h0 hs0
  have hgmay := (hx.2 g (by rw [hg]; rfl)).1
  rw [hg, hlen] at hh
  have hxs : xs = s.data.toList.map fun c => Value.int .u8 (c.toNat : Int) := by
    have := bytes_news (w := w) (E := Ex X β _) (ns := s.data.toList.map fun c => (c.toNat : Int)) (news := xs) (by simpa [strRows, List.map_map, Function.comp_def] using hxc)
    simpa [List.map_map, Function.comp_def] using this
  have hstr : (⟨s.data.toList.toArray⟩ : ByteArray) = s := by simp
  refine (bld_str L X2 b g cap _ cur s.data.toList w hh hgh (fun e => hs0 (by rw [← hsd, e]; rfl)) (by rw [← hlen]; exact hcap) hmax (by simpa using hcs) ?_).mono ?_
  · intro j x hj
    have := hx.1.cells (g := g) (by rw [hg]; rfl) j (.int .u8 (x.toNat : Int)) (by rw [hxs]; simp [hj])
    exact this
  rintro e w' ⟨rfl, rfl⟩
  obtain ⟨f1, f2, f3, f4⟩ := freeze_drawn w.drew ⟨g, 0, none⟩ s.data.toList.length
  have hbg : ∀ c, ¬ Ex X β [(0, .box (ρ.t 72) [.bp 0 0, .ar 1]), (1, .arr (ρ.t 5) 1 (strRows s))] c → c ≠ g := fun c hc e => hc (.inr ⟨1, .arr (ρ.t 5) 1 (strRows s), by simp, by rw [hg, e]; rfl⟩)
  have hk : Kept w0 (w.drew.freeze ⟨g, 0, none⟩ s.data.toList.length) :=
    hm.below.turn f2 f3 f4 (by rw [freeze_size]; exact Nat.le_refl _) (fun k hk hn => freeze_other w.drew g _ k (fun e => hn (by rw [e]; exact hgmay))) (fun _ => by rw [f1]; exact Nat.le_succ _)
  have hm1 : Mods X w0 { (memSt [(0, .box (ρ.t 72) [.bp 0 0, .ar 1]), (1, .arr (ρ.t 5) 1 (strRows s))] 2 2 []) with own := [] } β act0 (w.drew.freeze ⟨g, 0, none⟩ s.data.toList.length) := by
    refine hm.step (next' := 2) (Nat.le_refl _) hm.one (fun _ _ => rfl) hk (by simp) (fun id o h => by cases h) (fun i x j y c hx => by cases hx) ?_
    intro c hcl hce
    refine ⟨fun h => hce (h.elim .inl fun ⟨i, x, hx, e⟩ => by cases hx), freeze_other w.drew g _ c (hbg c hce)⟩
  refine ⟨β, _, rfl, hm1, by simp [Sym.lo], ?_⟩
  simp only [Sm, R, hstr]
end
end Go.V
namespace Go.V
variable [Dr] [Ov]
open Go.RowKit
def bytesL : List (List D) → Option (List UInt8)
  | [] => some []
  | r :: rs => match r with
    | [.int k (.ofNat m)] => match k, Nat.blt m 256, bytesL rs with
      | .u8, true, some l => some (UInt8.ofNat m :: l)
      | _, _, _ => none
    | _ => none
theorem bytesL_rows : ∀ {rows : List (List D)} {l : List UInt8}, bytesL rows = some l → rows = l.map fun c => [D.int .u8 (c.toNat : Int)]
  | [], l, h => by simp [bytesL] at h; subst h; rfl
  | r :: rs, l, h => by
    unfold bytesL at h
    split at h
    · rename_i k m
      split at h
      · rename_i l' h1 h2
        cases h
        rw [blt_iff] at h1
        rw [bytesL_rows h2]
        simp only [List.map_cons, List.cons.injEq, and_true]
        have : (UInt8.ofNat m).toNat = m := by
          rw [UInt8.toNat_ofNat']; omega
        rw [this]
        rfl
      · cases h
    · cases h
def kcCopy (T : Nat) : List Sym → List (Nat × Obj') → Nat → Option XR := fun args own n => match args, own with
  | [.bp 0 0], [(0, .box T' [.d (.val (.pointer none)), .nils])] => oguard (Nat.beq T' T && Nat.beq n 1) (some ⟨.d (.tup []), 1, [(0, .box T [.bp 0 0, .nils])], []⟩)
  | [.bp 0 0], [(0, .box T' [.bp 0 0, .ar 1]), (1, .arr e sz rows)] => oguard (Nat.beq T' T && Nat.beq n 2) (some ⟨.d (.tup []), 2, [(0, .box T [.bp 0 0, .ar 1]), (1, .arr e sz rows)], []⟩)
  | _, _ => none
def kcString (T U : Nat) : List Sym → List (Nat × Obj') → Nat → Option XR := fun args own n => match args, own with
  | [.bp 0 0], [(0, .box T' [.bp 0 0, .ar 1]), (1, .arr U' 1 rows)] => match bytesL rows with
    | some (c :: l) => oguard (Nat.beq T' T && (Nat.beq U' U && Nat.beq n 2)) (some ⟨.d (.str ⟨⟨c :: l⟩⟩), 2, [], []⟩)
    | _ => none
  | _, _ => none
def kcWrite (T U : Nat) : List Sym → List (Nat × Obj') → Nat → Option XR := fun args own n => match args, own with
  | [.bp 0 0, .d (.str s)], [(0, .box T' [.d (.val (.pointer none)), .nils])] => oguard (Nat.beq T' T && (Nat.beq n 1 && Nat.blt s.size 1099511627776)) (some ⟨.tup [.d (.int .i64 s.size), .d (.val .nilIface)], 2, [(1, .arr U 1 (strRows s)), (0, .box T [.bp 0 0, .ar 1])], [1]⟩)
  | [.bp 0 0, .d (.str s)], [(0, .box T' [.bp 0 0, .ar 1]), (1, .arr U' 1 rows)] => oguard (Nat.beq T' T && (Nat.beq U' U && (Nat.beq n 2 && Nat.blt (rows.length + s.size) 1099511627776))) (some ⟨.tup [.d (.int .i64 s.size), .d (.val .nilIface)], 2, [(0, .box T [.bp 0 0, .ar 1]), (1, .arr U 1 (rows ++ strRows s))], [1]⟩)
  | _, _ => none
section
variable {P : Program}
theorem kcWrite_good {f T U : Nat}
    (hF : ∀ s : ByteArray, s.size < 2^40 → CallC P f [.bp 0 0, .d (.str s)] [(0, .box T [.d (.val (.pointer none)), .nils])] 1 (.tup [.d (.int .i64 s.size), .d (.val .nilIface)]) 2 [(1, .arr U 1 (strRows s)), (0, .box T [.bp 0 0, .ar 1])] [1])
    (hU : ∀ (s : ByteArray) (rows : List (List D)), rows.length + s.size < 2^40 → CallC P f [.bp 0 0, .d (.str s)] [(0, .box T [.bp 0 0, .ar 1]), (1, .arr U 1 rows)] 2 (.tup [.d (.int .i64 s.size), .d (.val .nilIface)]) 2 [(0, .box T [.bp 0 0, .ar 1]), (1, .arr U 1 (rows ++ strRows s))] [1])
    {args : List Sym} {own : List (Nat × Obj')} {n : Nat} {r : XR} (h : kcWrite T U args own n = some r) : CallC P f args own n r.s r.nx r.own r.mv := by
  unfold kcWrite at h
  split at h
  · rw [oguard_some] at h
    simp only [Bool.and_eq_true, beq_iff, blt_iff] at h
    obtain ⟨⟨rfl, rfl, hs⟩, h⟩ := h
    cases h
    exact hF _ hs
  · rw [oguard_some] at h
    simp only [Bool.and_eq_true, beq_iff, blt_iff] at h
    obtain ⟨⟨rfl, rfl, rfl, hs⟩, h⟩ := h
    cases h
    exact hU _ _ hs
  · cases h
theorem kcCopy_good {f T : Nat} (hF : CallC P f [.bp 0 0] [(0, .box T [.d (.val (.pointer none)), .nils])] 1 (.d (.tup [])) 1 [(0, .box T [.bp 0 0, .nils])] [])
    (hU : ∀ e sz rows, CallC P f [.bp 0 0] [(0, .box T [.bp 0 0, .ar 1]), (1, .arr e sz rows)] 2 (.d (.tup [])) 2 [(0, .box T [.bp 0 0, .ar 1]), (1, .arr e sz rows)] [])
    {args : List Sym} {own : List (Nat × Obj')} {n : Nat} {r : XR} (h : kcCopy T args own n = some r) : CallC P f args own n r.s r.nx r.own r.mv := by
  unfold kcCopy at h
  split at h
  · rw [oguard_some] at h
    simp only [Bool.and_eq_true, beq_iff] at h
    obtain ⟨⟨rfl, rfl⟩, h⟩ := h
    cases h
    exact hF
  · rw [oguard_some] at h
    simp only [Bool.and_eq_true, beq_iff] at h
    obtain ⟨⟨rfl, rfl⟩, h⟩ := h
    cases h
    exact hU _ _ _
  · cases h
theorem kcString_good {f T U : Nat} (hS : ∀ s : ByteArray, s.size ≠ 0 → CallC P f [.bp 0 0] [(0, .box T [.bp 0 0, .ar 1]), (1, .arr U 1 (strRows s))] 2 (.d (.str s)) 2 [] [])
    {args : List Sym} {own : List (Nat × Obj')} {n : Nat} {r : XR} (h : kcString T U args own n = some r) : CallC P f args own n r.s r.nx r.own r.mv := by
  unfold kcString at h
  split at h
  · split at h
    · rename_i c l hb
      rw [oguard_some] at h
      simp only [Bool.and_eq_true, beq_iff] at h
      obtain ⟨⟨rfl, rfl, rfl⟩, h⟩ := h
      cases h
      rw [bytesL_rows hb]
      have h0 : (⟨⟨c :: l⟩⟩ : ByteArray).size ≠ 0 := fun e => absurd (show (c :: l).length = 0 from e) (Nat.succ_ne_zero _)
      exact hS ⟨⟨c :: l⟩⟩ h0
    · cases h
  · cases h
end
end Go.V

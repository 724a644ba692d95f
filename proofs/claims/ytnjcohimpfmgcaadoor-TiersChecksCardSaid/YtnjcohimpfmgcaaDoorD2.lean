/- What the arguments of chapter 12's statements are as plain data. -/
import Derived.Test.YtnjcohimpfmgcaaDoorN3
import Derived.Test.YtnjcohimpfmgcaaDoorB1
namespace Go.V
open Go Go.Proofs

def IntOk (n : Int) : Prop := (Lit.int .i64 n).wf = true
theorem IntOk.I64 {n : Int} (h : IntOk n) : I64 n := by
  have := bounds_i64 h
  unfold Go.V.I64; omega
def IntsOk (l : List Int) : Prop := l.length ≤ maxLen ∧ ∀ n ∈ l, IntOk n
theorem ints_decode {d : D} (h : FitD d (.sl [.int .i64])) : ∃ l, d = ints l ∧ IntsOk l := by
  obtain ⟨xs, rfl, h1, h2⟩ := FitD.sl_decode (row := fun n => [int n]) (good := IntOk) (fun r hr => by
    obtain ⟨_, _, rfl, g1, r1⟩ := hr.cons_decode
    obtain rfl := r1.nil_decode
    obtain ⟨n, rfl, hn⟩ := g1.int_decode
    exact ⟨n, rfl, hn⟩) h
  exact ⟨xs, rfl, h1, h2⟩
theorem int_decode1 {d : D} (h : FitD d (.int .i64)) : ∃ n, d = int n ∧ IntOk n := h.int_decode
theorem str_decode1 {d : D} (h : FitD d .str) : ∃ s, d = .str s ∧ s.size ≤ maxLen := h.str_decode
abbrev tierSh : List Sh := [.str, .int .i64, .int .i64, .int .i64]
abbrev noteSh : List Sh := [.int .i64, .int .i64, .int .i64, .int .i64, .int .i64, .int .i64, .str]
abbrev docSh : List Sh := [.int .i64, .str, .int .i64, .int .i64, .sl [.int .i64], .sl tierSh, .sl noteSh]
def Tir.ok (t : Tir) : Prop := t.name.size ≤ maxLen ∧ IntOk t.kind ∧ IntOk t.role ∧ IntOk t.par
structure Nt.ok (n : Nt) : Prop where
  id : IntOk n.id
  tier : IntOk n.tier
  par : IntOk n.par
  fr : IntOk n.fr
  tO : IntOk n.tO
  rank : IntOk n.rank
  text : n.text.size ≤ maxLen
structure Dc.ok (d : Dc) : Prop where
  id : IntOk d.id
  name : d.name.size ≤ maxLen
  len : IntOk d.len
  day : IntOk d.day
  spk : IntsOk d.spk
  tiers : d.tiers.length ≤ maxLen ∧ ∀ t ∈ d.tiers, t.ok
  notes : d.notes.length ≤ maxLen ∧ ∀ n ∈ d.notes, n.ok
theorem tier_decode {r : List D} (h : FitDs r tierSh) : ∃ t : Tir, r = t.row ∧ t.ok := by
  obtain ⟨_, _, rfl, g1, r1⟩ := h.cons_decode
  obtain ⟨_, _, rfl, g2, r2⟩ := r1.cons_decode
  obtain ⟨_, _, rfl, g3, r3⟩ := r2.cons_decode
  obtain ⟨_, _, rfl, g4, r4⟩ := r3.cons_decode
  obtain rfl := r4.nil_decode
  obtain ⟨a, rfl, wa⟩ := g1.str_decode
  obtain ⟨b, rfl, wb⟩ := g2.int_decode
  obtain ⟨c, rfl, wc⟩ := g3.int_decode
  obtain ⟨e, rfl, we⟩ := g4.int_decode
  exact ⟨⟨a, b, c, e⟩, rfl, wa, wb, wc, we⟩
theorem note_decode {r : List D} (h : FitDs r noteSh) : ∃ n : Nt, r = n.row ∧ n.ok := by
  obtain ⟨_, _, rfl, g1, r1⟩ := h.cons_decode
  obtain ⟨_, _, rfl, g2, r2⟩ := r1.cons_decode
  obtain ⟨_, _, rfl, g3, r3⟩ := r2.cons_decode
  obtain ⟨_, _, rfl, g4, r4⟩ := r3.cons_decode
  obtain ⟨_, _, rfl, g5, r5⟩ := r4.cons_decode
  obtain ⟨_, _, rfl, g6, r6⟩ := r5.cons_decode
  obtain ⟨_, _, rfl, g7, r7⟩ := r6.cons_decode
  obtain rfl := r7.nil_decode
  obtain ⟨a, rfl, wa⟩ := g1.int_decode
  obtain ⟨b, rfl, wb⟩ := g2.int_decode
  obtain ⟨c, rfl, wc⟩ := g3.int_decode
  obtain ⟨e, rfl, we⟩ := g4.int_decode
  obtain ⟨f, rfl, wf⟩ := g5.int_decode
  obtain ⟨g, rfl, wg⟩ := g6.int_decode
  obtain ⟨s, rfl, ws⟩ := g7.str_decode
  exact ⟨⟨a, b, c, e, f, g, s⟩, rfl, wa, wb, wc, we, wf, wg, ws⟩
theorem doc_decode {l : List D} (h : FitDs l docSh) : ∃ d : Dc, D.agg l = docD d ∧ d.ok := by
  obtain ⟨_, _, rfl, g1, r1⟩ := h.cons_decode
  obtain ⟨_, _, rfl, g2, r2⟩ := r1.cons_decode
  obtain ⟨_, _, rfl, g3, r3⟩ := r2.cons_decode
  obtain ⟨_, _, rfl, g4, r4⟩ := r3.cons_decode
  obtain ⟨_, _, rfl, g5, r5⟩ := r4.cons_decode
  obtain ⟨_, _, rfl, g6, r6⟩ := r5.cons_decode
  obtain ⟨_, _, rfl, g7, r7⟩ := r6.cons_decode
  obtain rfl := r7.nil_decode
  obtain ⟨a, rfl, wa⟩ := g1.int_decode
  obtain ⟨b, rfl, wb⟩ := g2.str_decode
  obtain ⟨c, rfl, wc⟩ := g3.int_decode
  obtain ⟨e, rfl, we⟩ := g4.int_decode
  obtain ⟨f, rfl, wf⟩ := ints_decode g5
  obtain ⟨ts, rfl, wt1, wt2⟩ := FitD.sl_decode (row := Tir.row) (good := Tir.ok) (fun r hr => tier_decode hr) g6
  obtain ⟨ns, rfl, wn1, wn2⟩ := FitD.sl_decode (row := Nt.row) (good := Nt.ok) (fun r hr => note_decode hr) g7
  exact ⟨⟨a, b, c, e, f, ts, ns⟩, rfl, wa, wb, wc, we, wf, ⟨wt1, wt2⟩, wn1, wn2⟩
end Go.V

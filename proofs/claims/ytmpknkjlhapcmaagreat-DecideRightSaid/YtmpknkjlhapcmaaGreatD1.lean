/- What the arguments of chapter 31's statements are as plain data. -/
import Derived.Test.YtmpknkjlhapcmaaGreatD0
import Derived.Test.YtmpknkjlhapcmaaGreatE1
namespace Go.V
open Go Go.Proofs

def Rf.ok (r : Rf) : Prop := IntOk r.rcd ∧ IntOk r.note
def Dec.ok (d : Dec) : Prop := d.ref.ok ∧ PrtsOk d.pick
abbrev refSh : List Sh := [.int .i64, .int .i64]
abbrev decSh : List Sh := [.int .i64, .int .i64, .bool, .sl prtSh]
theorem decRow_decode {r : List D} (h : FitDs r decSh) : ∃ d : Dec, r = d.row ∧ d.ok := by
  obtain ⟨_, _, rfl, g1, r1⟩ := h.cons_decode
  obtain ⟨_, _, rfl, g2, r2⟩ := r1.cons_decode
  obtain ⟨_, _, rfl, g3, r3⟩ := r2.cons_decode
  obtain ⟨_, _, rfl, g4, r4⟩ := r3.cons_decode
  obtain rfl := r4.nil_decode
  obtain ⟨a, rfl, wa⟩ := g1.int_decode
  obtain ⟨b, rfl, wb⟩ := g2.int_decode
  obtain ⟨c, rfl⟩ := g3.bool_decode
  obtain ⟨l, rfl, wl⟩ := parts_decode g4
  exact ⟨⟨⟨a, b⟩, c, l⟩, rfl, ⟨wa, wb⟩, wl⟩
theorem decs_decode {d : D} (h : FitD d (.sl decSh)) : ∃ l, d = decsD l ∧ l.length ≤ maxLen ∧ ∀ x ∈ l, x.ok := by
  obtain ⟨xs, rfl, h1, h2⟩ := FitD.sl_decode (row := Dec.row) (good := Dec.ok) (fun r hr => decRow_decode hr) h
  exact ⟨xs, rfl, h1, h2⟩
theorem dec_decode {l : List D} (h : FitDs l decSh) : ∃ d : Dec, D.agg l = .agg d.row ∧ d.ok := by
  obtain ⟨d, rfl, hd⟩ := decRow_decode h
  exact ⟨d, rfl, hd⟩
theorem ref_decode {l : List D} (h : FitDs l refSh) : ∃ r : Rf, D.agg l = refD r ∧ r.ok := by
  obtain ⟨_, _, rfl, g1, r1⟩ := h.cons_decode
  obtain ⟨_, _, rfl, g2, r2⟩ := r1.cons_decode
  obtain rfl := r2.nil_decode
  obtain ⟨a, rfl, wa⟩ := g1.int_decode
  obtain ⟨b, rfl, wb⟩ := g2.int_decode
  exact ⟨⟨a, b⟩, rfl, wa, wb⟩
end Go.V

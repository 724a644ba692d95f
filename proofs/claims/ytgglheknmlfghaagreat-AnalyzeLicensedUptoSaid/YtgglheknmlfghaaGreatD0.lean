/- What the statement's arguments are as plain data. -/
import Derived.Test.YtgglheknmlfghaaGreatC0
import Derived.Test.YtgglheknmlfghaaGreatB1
namespace Go.V
open Go Go.Proofs

def IntOk (n : Int) : Prop := (Lit.int .i64 n).wf = true
theorem IntOk.I64 {n : Int} (h : IntOk n) : I64 n := by
  have := bounds_i64 h
  unfold Go.V.I64; omega
def IntsOk (l : List Int) : Prop := l.length ≤ maxLen ∧ ∀ n ∈ l, IntOk n
theorem ints_decode {d : D} (h : FitD d (.sl [.int .i64])) : ∃ l, d = ints l ∧ IntsOk l := by
  obtain ⟨xs, rfl, h1, h2⟩ := FitD.sl_decode (row := fun n : Int => [D.int .i64 n]) (good := IntOk) (fun r hr => by
    obtain ⟨d, r, rfl, h1, h2⟩ := hr.cons_decode
    obtain ⟨n, rfl, hw⟩ := h1.int_decode
    obtain rfl := h2.nil_decode
    exact ⟨n, rfl, hw⟩) h
  exact ⟨xs, rfl, h1, h2⟩
def Prt.ok (p : Prt) : Prop := IntOk p.entry ∧ IntOk p.alt ∧ IntOk p.sense
abbrev prtSh : List Sh := [.int .i64, .int .i64, .int .i64]
def PrtsOk (l : List Prt) : Prop := l.length ≤ maxLen ∧ ∀ x ∈ l, x.ok
theorem parts_decode {d : D} (h : FitD d (.sl prtSh)) : ∃ l, d = partsD l ∧ PrtsOk l := by
  obtain ⟨xs, rfl, h1, h2⟩ := FitD.sl_decode (row := Prt.row) (good := Prt.ok) (fun r hr => by
    obtain ⟨_, _, rfl, g1, r1⟩ := hr.cons_decode
    obtain ⟨_, _, rfl, g2, r2⟩ := r1.cons_decode
    obtain ⟨_, _, rfl, g3, r3⟩ := r2.cons_decode
    obtain rfl := r3.nil_decode
    obtain ⟨a, rfl, wa⟩ := g1.int_decode
    obtain ⟨b, rfl, wb⟩ := g2.int_decode
    obtain ⟨c, rfl, wc⟩ := g3.int_decode
    exact ⟨⟨a, b, c⟩, rfl, wa, wb, wc⟩) h
  exact ⟨xs, rfl, h1, h2⟩
theorem anas_decode {d : D} (h : FitD d (.sl [.sl prtSh])) : ∃ l, d = anasD l ∧ l.length ≤ maxLen ∧ ∀ x ∈ l, PrtsOk x := by
  obtain ⟨xs, rfl, h1, h2⟩ := FitD.sl_decode (row := fun a : List Prt => [partsD a]) (good := PrtsOk) (fun r hr => by
    obtain ⟨_, _, rfl, g1, r1⟩ := hr.cons_decode
    obtain rfl := r1.nil_decode
    obtain ⟨l, rfl, hl⟩ := parts_decode g1
    exact ⟨l, rfl, hl⟩) h
  exact ⟨xs, rfl, h1, h2⟩
theorem ana_decode {l : List D} (h : FitDs l [.sl prtSh]) : ∃ a, D.agg l = anaD a ∧ PrtsOk a := by
  obtain ⟨_, _, rfl, g1, r1⟩ := h.cons_decode
  obtain rfl := r1.nil_decode
  obtain ⟨a, rfl, ha⟩ := parts_decode g1
  exact ⟨a, rfl, ha⟩
end Go.V

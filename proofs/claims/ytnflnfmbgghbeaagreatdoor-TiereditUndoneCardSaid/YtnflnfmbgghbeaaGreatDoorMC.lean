/- Contracts and plain laws of this seat: part MC. It needs no conditions. -/
import Derived.Test.YtnflnfmbgghbeaaGreatDoorM8
import Derived.Test.YtnflnfmbgghbeaaGreatDoorM7
import Derived.Test.YtnflnfmbgghbeaaGreatDoorMB
set_option linter.unusedVariables false
set_option linter.unusedSimpArgs false
set_option linter.unusedSectionVars false
set_option maxRecDepth 100000
namespace Go.V
open Go Go.Proofs
theorem chk_some {d : Dc} {r : Dc} (h : chk d = (r, 0)) : checkE d = 0 ∧ r = d := by
  unfold chk at h
  split at h
  · rename_i e; cases h; exact ⟨e, rfl⟩
  · rename_i e; exact absurd (congrArg Prod.snd h) e
end Go.V
namespace Go.V
open Go Go.Proofs
section
variable {d : Dc}
end
end Go.V
namespace Go.V
open Go Go.Proofs
theorem Rgt.parin {d : Dc} (h : Rgt d) {n : Nt} (hn : n ∈ d.notes) : n.par = 0 ∨ ∃ p ∈ d.notes, p.id = n.par := by
  have hok := note_of h.good hn
  obtain ⟨t, et⟩ : ∃ t : Nat, n.tier = t := ⟨n.tier.toNat, by have := hok.t0; omega⟩
  have ht : t < d.tiers.length := by have := hok.t1; omega
  by_cases hk : (tirAt d t).kind = 0
  · exact .inl (h.root ⟨hn, et⟩ hk)
  · obtain ⟨h1, h2⟩ := h.parent ⟨hn, et⟩ ht hk
    exact .inr ⟨_, h1.1, h2⟩
theorem mem_insI {l : List Nt} {n x : Nt} : x ∈ insN l n ↔ x = n ∨ x ∈ l := by
  unfold insN insertL
  rw [List.mem_append, List.mem_cons]
  constructor
  · rintro (h | h | h)
    · exact .inr (List.mem_of_mem_take h)
    · exact .inl h
    · exact .inr (List.mem_of_mem_drop h)
  · rintro (h | h)
    · exact .inr (.inl h)
    · rw [← List.take_append_drop (posI l n) l, List.mem_append] at h
      exact h.elim .inl (fun h => .inr (.inr h))
theorem insN_filt {l : List Nt} {n : Nt} {F : Nt → Nt} {b : Int} (hF : (F n).id = b) : ((insN l n).map F).filter (fun x => !decide (x.id = b)) = (l.map F).filter fun x => !decide (x.id = b) := by
  unfold insN insertL
  rw [List.map_append, List.map_cons, List.filter_append, List.filter_cons_of_neg (by simp [hF]), ← List.filter_append, ← List.map_append, List.take_append_drop]
theorem tiers20 {d : Dc} (h : Rgt d) : d.tiers.length ≤ 20 := by
  have := h.tiers
  unfold tiersE at this
  split at this
  · cases this
  · omega
end Go.V

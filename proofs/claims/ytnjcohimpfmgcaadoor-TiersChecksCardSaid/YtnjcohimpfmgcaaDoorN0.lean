/- Notes as plain data; the order of notes, in plain words. It needs no conditions. -/
import GoSem.Core.Value
set_option linter.unusedVariables false
namespace Go.V
open Go

structure Nt where
  id : Int
  tier : Int
  par : Int
  fr : Int
  tO : Int
  rank : Int
  text : ByteArray
  deriving Inhabited, DecidableEq
def Nt.enc (n : Nt) : List Value := [.int .i64 n.id, .int .i64 n.tier, .int .i64 n.par, .int .i64 n.fr, .int .i64 n.tO, .int .i64 n.rank, .string n.text]
def cmpI (a b : Int) : Int := if a < b then -1 else if b < a then 1 else 0
/-- The first number that is not 0. -/
def orI : List Int → Int
  | [] => 0
  | x :: l => if x = 0 then orI l else x
theorem orI_drop {l : List Int} {k : Nat} (h : k < l.length) : orI (l.drop k) = if l[k] = 0 then orI (l.drop (k + 1)) else l[k] := by
  rw [List.drop_eq_getElem_cons h]; rfl
def cmpN (a b : Nt) : Int := orI [cmpI a.par b.par, cmpI a.fr b.fr, cmpI a.rank b.rank]
end Go.V

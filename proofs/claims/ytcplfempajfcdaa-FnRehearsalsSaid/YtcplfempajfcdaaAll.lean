/- The walk of allWithin: whether all numbers of a list lie in a range. -/
import Derived.Test.YtcplfempajfcdaaMem
namespace Go.Proofs.Ytcplfempajfcdaa
open Go.ChangeShapes Go.WideShapes Go.ChangeAt Go.RowKit Go.Joins

/-- All numbers lie in the range. -/
def allB (zs : List Int) (a b : Int) : Bool := zs.all fun z => inB z a b
theorem allB_cons (z : Int) (zs : List Int) (a b : Int) : allB (z :: zs) a b = (inB z a b && allB zs a b) := rfl
theorem allB_mem {zs : List Int} {a b : Int} (h : allB zs a b = true) : ∀ z ∈ zs, a ≤ z ∧ z ≤ b := by
  intro z hz
  exact inB_true.1 (List.all_eq_true.1 h z hz)
theorem getD_lt {zs : List Int} {k : Nat} (h : k < zs.length) : zs.getD k 0 = zs[k] := by simp [h]

end Go.Proofs.Ytcplfempajfcdaa

/- The walks of the laws' helpers on [][]int: szIntSS counts, toIntSS copies, eqIntSS compares two equal ones, markIntSS writes numbers in turn, heldIntSS finds them there. -/
import Derived.Test.YtfedhjfijcnpdaaSS
import Derived.Test.YtfedhjfijcnpdaaRg
namespace Go.Proofs.Ytfedhjfijcnpdaa
open Go.ChangeShapes Go.WideShapes Go.ChangeAt Go.RowKit Go.Joins
set_option linter.unusedSimpArgs false
set_option linter.unusedVariables false

def totL : LL → Nat
  | [] => 0
  | zs :: r => zs.length + totL r
theorem totL_mem {zss : LL} {zs : List Int} (h : zs ∈ zss) : zs.length ≤ totL zss := by
  induction zss with
  | nil => simp at h
  | cons y r ih =>
    simp only [totL]
    rcases List.mem_cons.1 h with rfl | h
    · omega
    · have := ih h; omega
theorem totL_append (a b : LL) : totL (a ++ b) = totL a + totL b := by
  induction a with
  | nil => simp [totL]
  | cons y r ih => simp only [List.cons_append, totL, ih]; omega
theorem getSS {zss : LL} {k : Nat} (h : k < zss.length) : ∃ zs, zss[k]? = some zs ∧ zs ∈ zss ∧ zss.drop k = zs :: zss.drop (k + 1) ∧ zss.take (k + 1) = zss.take k ++ [zs] := by
  have hk := List.getElem?_eq_getElem h
  refine ⟨_, hk, List.getElem_mem h, List.drop_eq_getElem_cons h, ?_⟩
  rw [List.take_succ_eq_append_getElem h]
/-- Rows of numbers in turn. -/
def marksSS (q : Int) : LL → LL
  | [] => []
  | zs :: r => marks q zs.length :: marksSS (q + zs.length) r
theorem marksSS_append (q : Int) (a b : LL) : marksSS q (a ++ b) = marksSS q a ++ marksSS (q + totL a) b := by
  induction a generalizing q with
  | nil => simp [marksSS, totL]
  | cons y r ih =>
    simp only [List.cons_append, marksSS, ih, totL]
    congr 3
    omega
theorem marksSS_length (q : Int) (a : LL) : (marksSS q a).length = a.length := by
  induction a generalizing q with
  | nil => rfl
  | cons y r ih => simp [marksSS, ih]
theorem marksSS_get (q : Int) (a : LL) (k : Nat) : (marksSS q a)[k]? = (a[k]?).map fun zs => marks (q + totL (a.take k)) zs.length := by
  induction a generalizing q k with
  | nil => simp [marksSS]
  | cons y r ih =>
    cases k with
    | zero => simp [marksSS, totL]
    | succ k =>
      simp only [marksSS, List.getElem?_cons_succ, ih, List.take_succ_cons, totL]
      congr
      funext zs
      congr 1
      omega
end Go.Proofs.Ytfedhjfijcnpdaa

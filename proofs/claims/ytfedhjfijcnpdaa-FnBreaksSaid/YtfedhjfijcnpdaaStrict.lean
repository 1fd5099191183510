/- The walks of isStrict and l11Rising: whether a list strictly rises within a range. -/
import Derived.Test.YtfedhjfijcnpdaaAll
namespace Go.Proofs.Ytfedhjfijcnpdaa
open Go.ChangeShapes Go.WideShapes Go.ChangeAt Go.RowKit Go.Joins

/-- A list strictly rises. -/
def strictB : List Int → Bool
  | [] => true
  | [_] => true
  | x :: y :: r => decide (x < y) && strictB (y :: r)
theorem strictB_cons (x y : Int) (r : List Int) : strictB (x :: y :: r) = (decide (x < y) && strictB (y :: r)) := rfl
def risesB (zs : List Int) (a b : Int) : Bool := strictB zs && allB zs a b
theorem drop_two {zs : List Int} {k : Nat} (h0 : 0 < k) (h : k < zs.length) : zs.drop (k - 1) = zs.getD (k - 1) 0 :: zs.getD k 0 :: zs.drop (k + 1) := by
  obtain ⟨j, rfl⟩ : ∃ j, k = j + 1 := ⟨k - 1, by omega⟩
  have hj : j < zs.length := by omega
  rw [Nat.add_sub_cancel, drop_get zs j hj, drop_get zs (j + 1) h, getD_lt hj, getD_lt h]
theorem drop_one {zs : List Int} {k : Nat} (h : k < zs.length) : zs.drop k = zs.getD k 0 :: zs.drop (k + 1) := by rw [getD_lt h]; exact drop_get zs k h

theorem strict_last (zs : List Int) : strictB (zs.drop (zs.length - 1)) = true := by
  rcases Nat.eq_zero_or_pos zs.length with h0 | h0
  · rw [List.drop_of_length_le (by omega)]; rfl
  · rw [drop_one (by omega), show zs.length - 1 + 1 = zs.length by omega, List.drop_length]; rfl

end Go.Proofs.Ytfedhjfijcnpdaa

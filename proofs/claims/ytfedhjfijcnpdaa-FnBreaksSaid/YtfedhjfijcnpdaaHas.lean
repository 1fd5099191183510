/- The laws' own helpers has and btoi; facts on draws. -/
import Derived.Test.YtfedhjfijcnpdaaDraw
import Derived.Test.YtfedhjfijcnpdaaStrict
namespace Go.Proofs.Ytfedhjfijcnpdaa
open Go.ChangeShapes Go.WideShapes Go.ChangeAt Go.RowKit Go.Joins
set_option linter.unusedSimpArgs false
set_option linter.unusedVariables false
theorem below_drewN {B : Nat} {a w : World} (h : Below B a w) (n : Nat) : Below B a (w.drewN n) := ⟨h.os, h.tape, h.output, h.size, h.block⟩
theorem inB_of {a b c : Int} (h1 : b ≤ a) (h2 : a ≤ c) : inB a b c = true := inB_true.2 ⟨h1, h2⟩
theorem btoi_any (b : Bool) (w : World) : Calls Try.prog 14 #[.bool b] w fun e w' => e = .returned (.int .i64 (if b = true then 1 else 0)) ∧ w = w' := by
  cases b with
  | true =>
    go_enter Try.func14, Try.ntmps14
    go_wp2
    go_ret
    exact ⟨rfl, rfl⟩
  | false =>
    go_enter Try.func14, Try.ntmps14
    go_wp2
    go_ret
    exact ⟨rfl, rfl⟩
theorem l01Once_any (B g : Nat) (n : Int) (hn : n ≤ 9223372036854775807) (w : World) (h : Cur w B g) :
    Calls Try.prog 60 #[.pointer (some ⟨g, 0, none⟩), .int .i64 n] w fun e w' => ∃ b : Bool, e = .returned (.bool b) ∧ Cur w' B g ∧ w.grownBy w' (curV g).ownBlock := by
  go_enter Try.func60, Try.ntmps60
  go_wp2_with (fail)
  refine (l01Below_any B g n hn _ h).mono ?_
  rintro e w1 ⟨x, rfl, x0, x1, x2, hc, hg⟩
  go_wp2_with (fail)
  go_ret
  exact ⟨_, rfl, hc, hg⟩
end Go.Proofs.Ytfedhjfijcnpdaa

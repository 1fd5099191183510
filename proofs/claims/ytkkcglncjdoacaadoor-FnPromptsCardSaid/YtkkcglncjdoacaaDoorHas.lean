/- The laws' own helpers has and btoi; facts on draws. -/
import Derived.Test.YtkkcglncjdoacaaDoorDraw
import Derived.Test.YtkkcglncjdoacaaDoorStrict
namespace Go.Proofs.YtkkcglncjdoacaaDoor
open Go.ChangeShapes Go.WideShapes Go.ChangeAt Go.RowKit Go.Joins
set_option linter.unusedSimpArgs false
set_option linter.unusedVariables false
theorem below_drewN {B : Nat} {a w : World} (h : Below B a w) (n : Nat) : Below B a (w.drewN n) := ⟨h.os, h.tape, h.output, h.size, h.block⟩
theorem inB_of {a b c : Int} (h1 : b ≤ a) (h2 : a ≤ c) : inB a b c = true := inB_true.2 ⟨h1, h2⟩
theorem l01Once_any (B g : Nat) (n : Int) (hn : n ≤ 9223372036854775807) (w : World) (h : Cur w B g) :
    Calls Tryd.prog 66 #[.pointer (some ⟨g, 0, none⟩), .int .i64 n] w fun e w' => ∃ b : Bool, e = .returned (.bool b) ∧ Cur w' B g ∧ w.grownBy w' (curV g).ownBlock := by
  go_enter Tryd.func66, Tryd.ntmps66
  go_wp2_with (fail)
  refine (l01Below_any B g n hn _ h).mono ?_
  rintro e w1 ⟨x, rfl, x0, x1, x2, hc, hg⟩
  go_wp2_with (fail)
  go_ret
  exact ⟨_, rfl, hc, hg⟩
end Go.Proofs.YtkkcglncjdoacaaDoor

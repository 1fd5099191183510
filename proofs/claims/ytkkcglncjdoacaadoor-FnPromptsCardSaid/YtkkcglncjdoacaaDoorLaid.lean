/- The listed tables: a world that holds them; the powers of ten out of a row's condition. -/
import Derived.Test.YtkkcglncjdoacaaDoorStr
import Derived.Stop.LaidErr
namespace Go.Proofs.YtkkcglncjdoacaaDoor
open Go.ChangeShapes Go.WideShapes Go.ChangeAt Go.RowKit Go.Joins Go.Deep Go.Sort
set_option linter.unusedVariables false
set_option maxRecDepth 100000

def datumCells : DataW Unit → Array Value
  | .agg l => (l.map fun
      | .lit (.int k z) => Value.int k z
      | _ => undef).toArray
  | _ => #[]
def layAt (os : Array Obj) (g : Nat) (d : DataW Unit) : Array Obj := os.modify g fun
  | .cells _ t frozen => .cells (datumCells d) t frozen
  | o => o
/-- The settled world, the three tables holding what their initialisers lay: the witness. -/
noncomputable def laidWorld (os : Os) : World :=
  { World.holding Tryd.prog os ⟨#[], #[], []⟩ with heap := layAt (layAt (layAt (World.holding Tryd.prog os ⟨#[], #[], []⟩).heap ((Tryd.prog.globalNamed "math/bits.deBruijn32tab").getD 0) Rows.laid_math_bits_deBruijn32tab)
      ((Tryd.prog.globalNamed "math/bits.deBruijn64tab").getD 0) Rows.laid_math_bits_deBruijn64tab) ((Tryd.prog.globalNamed "internal/strconv.uint64pow10").getD 0) Rows.laid_internal_strconv_uint64pow10 }
theorem pow10_of {W : World} {rest : List (String × DataW Unit)} (h : laidMet Tryd.prog (("math/bits.deBruijn32tab", Rows.laid_math_bits_deBruijn32tab) :: ("math/bits.deBruijn64tab", Rows.laid_math_bits_deBruijn64tab) :: ("internal/strconv.uint64pow10", Rows.laid_internal_strconv_uint64pow10) :: rest) W) : Pow10 W :=
  Lib.tabIs_of_head (t := 122) (e := 109) (n := 20) (g := 3) (by kernel_rfl) (by kernel_rfl) Tryd.underlying122 Tryd.underlying109 (by kernel_rfl) (by kernel_rfl) (rest := rest) (laidMet.tail (laidMet.tail h))
end Go.Proofs.YtkkcglncjdoacaaDoor

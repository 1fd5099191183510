/- The seven listed variables: a world that holds them; the facts that the walks want. -/
import Derived.Test.YtkkcglncjdoacaaDoorLaid
import Derived.Test.YtkkcglncjdoacaaDoorRdN
import Derived.Deep.DeepHandedRow
import Derived.LaidLaws
namespace Go.Proofs.YtkkcglncjdoacaaDoor
open Go.ChangeShapes Go.WideShapes Go.ChangeAt Go.RowKit Go.Joins Go.Deep Go.Sort
set_option linter.unusedVariables false
set_option maxRecDepth 100000

def datumFlat : Nat → DataW Unit → List Value
  | _ + 1, .lit (.int k z) => [Value.int k z]
  | n + 1, .agg l => l.flatMap (datumFlat n)
  | _, _ => []
def layRow (os : Array Obj) (g : Nat) (cs : Array Value) : Array Obj := os.modify g fun
  | .cells _ t frozen => .cells cs t frozen
  | o => o
abbrev rangeS : ByteArray := ⟨#[118, 97, 108, 117, 101, 32, 111, 117, 116, 32, 111, 102, 32, 114, 97, 110, 103, 101]⟩
abbrev syntaxS : ByteArray := ⟨#[105, 110, 118, 97, 108, 105, 100, 32, 115, 121, 110, 116, 97, 120]⟩
noncomputable def low : Nat := (World.holding Tryd.prog default ⟨#[], #[], []⟩).heap.size
/-- The settled world, the seven variables holding what their initialisers lay: the witness. -/
noncomputable def laidWorld7 (os : Os) : World :=
  let w0 := World.holding Tryd.prog os ⟨#[.cells #[.string rangeS] 136, .cells #[.string syntaxS] 136], #[], []⟩
  { w0 with heap := layRow (layRow (layRow (layRow (layRow (layRow (layRow w0.heap 6 (datumFlat 3 Rows.laid_math_bits_deBruijn32tab).toArray) 7 (datumFlat 3 Rows.laid_math_bits_deBruijn64tab).toArray) 3 (datumFlat 3 Rows.laid_internal_strconv_uint64pow10).toArray)
      5 (datumFlat 3 Rows.laid_unicode_utf8_acceptRanges).toArray) 4 (datumFlat 3 Rows.laid_unicode_utf8_first).toArray) 2 #[.iface 134 (.pointer (some ⟨low, 0, none⟩))]) 1 #[.iface 134 (.pointer (some ⟨low + 1, 0, none⟩))] }
abbrev laid7 : List (String × DataW Unit) := [("math/bits.deBruijn32tab", Rows.laid_math_bits_deBruijn32tab), ("math/bits.deBruijn64tab", Rows.laid_math_bits_deBruijn64tab), ("internal/strconv.uint64pow10", Rows.laid_internal_strconv_uint64pow10), ("unicode/utf8.acceptRanges", Rows.laid_unicode_utf8_acceptRanges), ("strconv.ErrRange", Rows.laid_strconv_ErrRange), ("strconv.ErrSyntax", Rows.laid_strconv_ErrSyntax), ("unicode/utf8.first", Rows.laid_unicode_utf8_first)]
theorem laid7_met (os : Os) (args : Array Value) : laidMet Tryd.prog laid7 ((laidWorld7 os).forCall (fun _ _ => 0) ⟨#[], args, []⟩).memory :=
  laidMet_of_run' 8 (by kernel_rfl) (by kernel_rfl)
theorem hasErr_of {W : World} (h : laidMet Tryd.prog laid7 W) : HasErr W := by
  have h5 := laidMet.tail (laidMet.tail (laidMet.tail (laidMet.tail (laidMet.tail h))))
  obtain ⟨ps, ⟨g', t', cs, fuel, p, q, hg', ht', hvar, hd, _, _⟩, _⟩ := h5
  have hg : Tryd.prog.globalNamed "strconv.ErrSyntax" = some 1 := by kernel_rfl
  have hty : (Tryd.prog.globals[1]?).map (·.type) = some 75 := by kernel_rfl
  obtain rfl := Option.some.inj (hg.symm.trans hg')
  obtain rfl := Option.some.inj (hty.symm.trans ht')
  obtain ⟨_, tp, p2, hcs, _, _⟩ := iface_of_trod Tryd.underlying75 hd
  refine ⟨tp, p2, ?_⟩
  rw [World.var?_cell hg hvar 0, ← Array.getElem?_toList, hcs]
  rfl
theorem hasMax_of {W : World} (h : W.ShapedOpen Tryd.prog) : HasMax W := Tryd.laysM146.s1_3 W h
end Go.Proofs.YtkkcglncjdoacaaDoor

/-
  No cell of these rows narrows 'for every input' (looked for: loops, veiled, ifaces, maps, wideKeys, modest, calm, conditions, laid).
  DERIVED. THE GIVEN ROWS OF THIS SEAT. 7 by the template 'for every input the law returns true; each argument reads behind the call as it read before'; 0 by the template 'total and deterministic' (their statements: YtgfpnadjkemafaaTotals.lean).
  GIVEN WITH THE SEED: the statements are not yours to turn. If you find one false, say at which input.
  Laid BY PROGRAM, IN A SANDBOX (cutbox-rows.mjs): the forced cells as the released guide's own fill.sh prints them over the translation dd5c6044afda3030… (all of the seat's roots in one cut). By AI agents, Wed Nov 11 2026. No macro, syntax, notation, axiom, sorry.
-/
import Derived.Test.YtgfpnadjkemafaaChecked
import GoSem.Claim
import GoSem.ClaimJoined
import GoSem.ClaimMapViews
import Derived.JoinedTies
import Derived.KernelRfl
namespace Go.Proofs.Ytgfpnadjkemafaa
/- THE CELL 'sum', in the pinned program and in every row, IS THE sha256 OF THE DUMP (.gsa) THAT YtgfpnadjkemafaaProg.lean LOADS. Nothing in Lean hashes anything: it is a label: what it is worth is what the hold of that sum in a sandbox is worth. -/
noncomputable def Try.pinned : Pinned := { name := "ytgfpnadjkemafaa", sum := "dd5c6044afda30305ef1c81bee29144ab4b48ca0fa6335d4b122babe0faa7aca", checked := Try.checked }
namespace Rows
def none {H : Type} : Left H := { results := [], args := [] }

/-- 'laws.FnExactLoansOk': WHATEVER THE INPUT: true; the input reads as it did. -/
def fnExactLoansOkSpec : ChangeSpec := { name := "fnExactLoansOk", fn := fun _ => fun
  | [d] => { results := [.lit (.bool true)], args := [d] }
  | _ => none }
def fnExactLoansOkRow : OpenClaim := { program := "ytgfpnadjkemafaa", sum := "dd5c6044afda30305ef1c81bee29144ab4b48ca0fa6335d4b122babe0faa7aca", func := "loop.example/g03306/laws.FnExactLoansOk", spec := "fnExactLoansOk", apart := false }
def FnExactLoansOkSaid : Prop := fnExactLoansOkRow.holds Try.pinned (OpenSpec.ofChange fnExactLoansOkSpec)

/-- ITS FALSE NEIGHBOUR: 'it returns false'. Refute it at one input. -/
def fnExactLoansOkWrong : ChangeSpec := { name := "fnExactLoansOk", fn := fun _ => fun
  | [d] => { results := [.lit (.bool false)], args := [d] }
  | _ => none }
def FnExactLoansOkWrongFalsely : Prop := fnExactLoansOkRow.holds Try.pinned (OpenSpec.ofChange fnExactLoansOkWrong)

/-- 'laws.FnExactLend': WHATEVER THE INPUT: true; the input reads as it did. -/
def fnExactLendSpec : ChangeSpec := { name := "fnExactLend", fn := fun _ => fun
  | [d1, d2, d3] => { results := [.lit (.bool true)], args := [d1, d2, d3] }
  | _ => none }
def fnExactLendRow : OpenClaim := { program := "ytgfpnadjkemafaa", sum := "dd5c6044afda30305ef1c81bee29144ab4b48ca0fa6335d4b122babe0faa7aca", func := "loop.example/g03306/laws.FnExactLend", spec := "fnExactLend", apart := false }
def FnExactLendSaid : Prop := fnExactLendRow.holds Try.pinned (OpenSpec.ofChange fnExactLendSpec)

/-- ITS FALSE NEIGHBOUR: 'it returns false'. Refute it at one input. -/
def fnExactLendWrong : ChangeSpec := { name := "fnExactLend", fn := fun _ => fun
  | [d1, d2, d3] => { results := [.lit (.bool false)], args := [d1, d2, d3] }
  | _ => none }
def FnExactLendWrongFalsely : Prop := fnExactLendRow.holds Try.pinned (OpenSpec.ofChange fnExactLendWrong)

/-- 'laws.FnExactGiveBack': WHATEVER THE INPUT: true; the input reads as it did. -/
def fnExactGiveBackSpec : ChangeSpec := { name := "fnExactGiveBack", fn := fun _ => fun
  | [d1, d2] => { results := [.lit (.bool true)], args := [d1, d2] }
  | _ => none }
def fnExactGiveBackRow : OpenClaim := { program := "ytgfpnadjkemafaa", sum := "dd5c6044afda30305ef1c81bee29144ab4b48ca0fa6335d4b122babe0faa7aca", func := "loop.example/g03306/laws.FnExactGiveBack", spec := "fnExactGiveBack", apart := false }
def FnExactGiveBackSaid : Prop := fnExactGiveBackRow.holds Try.pinned (OpenSpec.ofChange fnExactGiveBackSpec)

/-- ITS FALSE NEIGHBOUR: 'it returns false'. Refute it at one input. -/
def fnExactGiveBackWrong : ChangeSpec := { name := "fnExactGiveBack", fn := fun _ => fun
  | [d1, d2] => { results := [.lit (.bool false)], args := [d1, d2] }
  | _ => none }
def FnExactGiveBackWrongFalsely : Prop := fnExactGiveBackRow.holds Try.pinned (OpenSpec.ofChange fnExactGiveBackWrong)

/-- 'laws.FnExactMovePropsTo': WHATEVER THE INPUT: true; the input reads as it did. -/
def fnExactMovePropsToSpec : ChangeSpec := { name := "fnExactMovePropsTo", fn := fun _ => fun
  | [d1, d2, d3] => { results := [.lit (.bool true)], args := [d1, d2, d3] }
  | _ => none }
def fnExactMovePropsToRow : OpenClaim := { program := "ytgfpnadjkemafaa", sum := "dd5c6044afda30305ef1c81bee29144ab4b48ca0fa6335d4b122babe0faa7aca", func := "loop.example/g03306/laws.FnExactMovePropsTo", spec := "fnExactMovePropsTo", apart := false }
def FnExactMovePropsToSaid : Prop := fnExactMovePropsToRow.holds Try.pinned (OpenSpec.ofChange fnExactMovePropsToSpec)

/-- ITS FALSE NEIGHBOUR: 'it returns false'. Refute it at one input. -/
def fnExactMovePropsToWrong : ChangeSpec := { name := "fnExactMovePropsTo", fn := fun _ => fun
  | [d1, d2, d3] => { results := [.lit (.bool false)], args := [d1, d2, d3] }
  | _ => none }
def FnExactMovePropsToWrongFalsely : Prop := fnExactMovePropsToRow.holds Try.pinned (OpenSpec.ofChange fnExactMovePropsToWrong)

/-- 'laws.FnExactPropsIn': WHATEVER THE INPUT: true; the input reads as it did. -/
def fnExactPropsInSpec : ChangeSpec := { name := "fnExactPropsIn", fn := fun _ => fun
  | [d1, d2] => { results := [.lit (.bool true)], args := [d1, d2] }
  | _ => none }
def fnExactPropsInRow : OpenClaim := { program := "ytgfpnadjkemafaa", sum := "dd5c6044afda30305ef1c81bee29144ab4b48ca0fa6335d4b122babe0faa7aca", func := "loop.example/g03306/laws.FnExactPropsIn", spec := "fnExactPropsIn", apart := false }
def FnExactPropsInSaid : Prop := fnExactPropsInRow.holds Try.pinned (OpenSpec.ofChange fnExactPropsInSpec)

/-- ITS FALSE NEIGHBOUR: 'it returns false'. Refute it at one input. -/
def fnExactPropsInWrong : ChangeSpec := { name := "fnExactPropsIn", fn := fun _ => fun
  | [d1, d2] => { results := [.lit (.bool false)], args := [d1, d2] }
  | _ => none }
def FnExactPropsInWrongFalsely : Prop := fnExactPropsInRow.holds Try.pinned (OpenSpec.ofChange fnExactPropsInWrong)

/-- 'laws.FnExactEmptyScenes': WHATEVER THE INPUT: true; the input reads as it did. -/
def fnExactEmptyScenesSpec : ChangeSpec := { name := "fnExactEmptyScenes", fn := fun _ => fun
  | [d1, d2] => { results := [.lit (.bool true)], args := [d1, d2] }
  | _ => none }
def fnExactEmptyScenesRow : OpenClaim := { program := "ytgfpnadjkemafaa", sum := "dd5c6044afda30305ef1c81bee29144ab4b48ca0fa6335d4b122babe0faa7aca", func := "loop.example/g03306/laws.FnExactEmptyScenes", spec := "fnExactEmptyScenes", apart := false }
def FnExactEmptyScenesSaid : Prop := fnExactEmptyScenesRow.holds Try.pinned (OpenSpec.ofChange fnExactEmptyScenesSpec)

/-- ITS FALSE NEIGHBOUR: 'it returns false'. Refute it at one input. -/
def fnExactEmptyScenesWrong : ChangeSpec := { name := "fnExactEmptyScenes", fn := fun _ => fun
  | [d1, d2] => { results := [.lit (.bool false)], args := [d1, d2] }
  | _ => none }
def FnExactEmptyScenesWrongFalsely : Prop := fnExactEmptyScenesRow.holds Try.pinned (OpenSpec.ofChange fnExactEmptyScenesWrong)

/-- 'laws.FnProps': WHATEVER THE INPUT: true; the input reads as it did. -/
def fnPropsSpec : ChangeSpec := { name := "fnProps", fn := fun _ => fun
  | [d] => { results := [.lit (.bool true)], args := [d] }
  | _ => none }
def fnPropsRow : OpenClaim := { program := "ytgfpnadjkemafaa", sum := "dd5c6044afda30305ef1c81bee29144ab4b48ca0fa6335d4b122babe0faa7aca", func := "loop.example/g03306/laws.FnProps", spec := "fnProps", apart := false }
def FnPropsSaid : Prop := fnPropsRow.holds Try.pinned (OpenSpec.ofChange fnPropsSpec)

/-- ITS FALSE NEIGHBOUR: 'it returns false'. Refute it at one input. -/
def fnPropsWrong : ChangeSpec := { name := "fnProps", fn := fun _ => fun
  | [d] => { results := [.lit (.bool false)], args := [d] }
  | _ => none }
def FnPropsWrongFalsely : Prop := fnPropsRow.holds Try.pinned (OpenSpec.ofChange fnPropsWrong)

/- THE SECOND FORM. 'bulk': how many values and letters a reading holds, each counted each time it is reached (what is shared counts as often as it is met; a slice's spare places count too). A statement '..UptoSaid' is the law's where the arguments, and the package variables that the reading takes, are together of bulk at most 1048576: NARROWER than '..Said'. Prove '..Said' where nothing that the law and all that it calls make is longer than what came in: it says more and counts as full. Else prove '..UptoSaid'. A law counts once. -/
mutual
def uptoBulk {H : Type} : DataW H → Nat
  | .lit (.string bytes) => bytes.length + 1
  | .lit _ => 1
  | .nil => 1
  | .ptr d => uptoBulk d + 1
  | .slice elems spare => uptoBulkAll elems + uptoBulkAll spare + 1
  | .agg parts => uptoBulkAll parts + 1
  | .iface _ d => uptoBulk d + 1
  | .map entries => uptoBulkEntries entries + 1
  | .held _ => 1
def uptoBulkAll {H : Type} : List (DataW H) → Nat
  | [] => 0
  | d :: r => uptoBulk d + uptoBulkAll r
def uptoBulkEntries {H : Type} : List (Lit × DataW H) → Nat
  | [] => 0
  | x :: r => uptoBulkEntry x + uptoBulkEntries r
def uptoBulkEntry {H : Type} : Lit × DataW H → Nat
  | (.string bytes, d) => bytes.length + uptoBulk d + 1
  | (_, d) => uptoBulk d + 1
 end
def uptoSmall : (H : Type) → List (DataW H) → Bool := fun _ ds => decide (uptoBulkAll ds ≤ 1048576)
def OpenSpec.upto (s : _root_.Go.ChangeSpec) : _root_.Go.OpenSpec := { _root_.Go.OpenSpec.ofChange s with cond := some uptoSmall }

/-- 'laws.FnExactLoansOk', WHERE WHAT IT READS IS OF BULK AT MOST 1048576: true; the input reads as it did. -/
def fnExactLoansOkUptoRow : OpenClaim := { program := "ytgfpnadjkemafaa", sum := "dd5c6044afda30305ef1c81bee29144ab4b48ca0fa6335d4b122babe0faa7aca", func := "loop.example/g03306/laws.FnExactLoansOk", spec := "fnExactLoansOk", apart := false, narrowed := true }
def FnExactLoansOkUptoSaid : Prop := fnExactLoansOkUptoRow.holds Try.pinned (OpenSpec.upto fnExactLoansOkSpec)

/-- 'laws.FnExactLend', WHERE WHAT IT READS IS OF BULK AT MOST 1048576: true; the input reads as it did. -/
def fnExactLendUptoRow : OpenClaim := { program := "ytgfpnadjkemafaa", sum := "dd5c6044afda30305ef1c81bee29144ab4b48ca0fa6335d4b122babe0faa7aca", func := "loop.example/g03306/laws.FnExactLend", spec := "fnExactLend", apart := false, narrowed := true }
def FnExactLendUptoSaid : Prop := fnExactLendUptoRow.holds Try.pinned (OpenSpec.upto fnExactLendSpec)

/-- 'laws.FnExactGiveBack', WHERE WHAT IT READS IS OF BULK AT MOST 1048576: true; the input reads as it did. -/
def fnExactGiveBackUptoRow : OpenClaim := { program := "ytgfpnadjkemafaa", sum := "dd5c6044afda30305ef1c81bee29144ab4b48ca0fa6335d4b122babe0faa7aca", func := "loop.example/g03306/laws.FnExactGiveBack", spec := "fnExactGiveBack", apart := false, narrowed := true }
def FnExactGiveBackUptoSaid : Prop := fnExactGiveBackUptoRow.holds Try.pinned (OpenSpec.upto fnExactGiveBackSpec)

/-- 'laws.FnExactMovePropsTo', WHERE WHAT IT READS IS OF BULK AT MOST 1048576: true; the input reads as it did. -/
def fnExactMovePropsToUptoRow : OpenClaim := { program := "ytgfpnadjkemafaa", sum := "dd5c6044afda30305ef1c81bee29144ab4b48ca0fa6335d4b122babe0faa7aca", func := "loop.example/g03306/laws.FnExactMovePropsTo", spec := "fnExactMovePropsTo", apart := false, narrowed := true }
def FnExactMovePropsToUptoSaid : Prop := fnExactMovePropsToUptoRow.holds Try.pinned (OpenSpec.upto fnExactMovePropsToSpec)

/-- 'laws.FnExactPropsIn', WHERE WHAT IT READS IS OF BULK AT MOST 1048576: true; the input reads as it did. -/
def fnExactPropsInUptoRow : OpenClaim := { program := "ytgfpnadjkemafaa", sum := "dd5c6044afda30305ef1c81bee29144ab4b48ca0fa6335d4b122babe0faa7aca", func := "loop.example/g03306/laws.FnExactPropsIn", spec := "fnExactPropsIn", apart := false, narrowed := true }
def FnExactPropsInUptoSaid : Prop := fnExactPropsInUptoRow.holds Try.pinned (OpenSpec.upto fnExactPropsInSpec)

/-- 'laws.FnExactEmptyScenes', WHERE WHAT IT READS IS OF BULK AT MOST 1048576: true; the input reads as it did. -/
def fnExactEmptyScenesUptoRow : OpenClaim := { program := "ytgfpnadjkemafaa", sum := "dd5c6044afda30305ef1c81bee29144ab4b48ca0fa6335d4b122babe0faa7aca", func := "loop.example/g03306/laws.FnExactEmptyScenes", spec := "fnExactEmptyScenes", apart := false, narrowed := true }
def FnExactEmptyScenesUptoSaid : Prop := fnExactEmptyScenesUptoRow.holds Try.pinned (OpenSpec.upto fnExactEmptyScenesSpec)

/-- 'laws.FnProps', WHERE WHAT IT READS IS OF BULK AT MOST 1048576: true; the input reads as it did. -/
def fnPropsUptoRow : OpenClaim := { program := "ytgfpnadjkemafaa", sum := "dd5c6044afda30305ef1c81bee29144ab4b48ca0fa6335d4b122babe0faa7aca", func := "loop.example/g03306/laws.FnProps", spec := "fnProps", apart := false, narrowed := true }
def FnPropsUptoSaid : Prop := fnPropsUptoRow.holds Try.pinned (OpenSpec.upto fnPropsSpec)

end Rows
end Go.Proofs.Ytgfpnadjkemafaa

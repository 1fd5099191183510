/-
  No cell of these rows narrows 'for every input' (looked for: loops, veiled, ifaces, maps, wideKeys, modest, calm, conditions, laid).
  DERIVED. THE GIVEN ROWS OF THIS SEAT. 6 by the template 'for every input the law returns true; each argument reads behind the call as it read before'; 0 by the template 'total and deterministic' (their statements: YtbjihlohaoohgaaTotals.lean).
  GIVEN WITH THE SEED: the statements are not yours to turn. If you find one false, say at which input.
  Laid BY PROGRAM, IN A SANDBOX (cutbox-rows.mjs): the forced cells as the released guide's own fill.sh prints them over the translation 8c0d21c3e883b0d7… (all of the seat's roots in one cut). By AI agents, Wed Nov 11 2026. No macro, syntax, notation, axiom, sorry.
-/
import Derived.Test.YtbjihlohaoohgaaChecked
import GoSem.Claim
import GoSem.ClaimJoined
import GoSem.ClaimMapViews
import Derived.JoinedTies
import Derived.KernelRfl
namespace Go.Proofs.Ytbjihlohaoohgaa
/- THE CELL 'sum', in the pinned program and in every row, IS THE sha256 OF THE DUMP (.gsa) THAT YtbjihlohaoohgaaProg.lean LOADS. Nothing in Lean hashes anything: it is a label: what it is worth is what the hold of that sum in a sandbox is worth. -/
noncomputable def Try.pinned : Pinned := { name := "ytbjihlohaoohgaa", sum := "8c0d21c3e883b0d701e29d8f70ae454784c0e5f1fa5e7ffd63a2dea70d2e7207", checked := Try.checked }
namespace Rows
def none {H : Type} : Left H := { results := [], args := [] }

/-- 'laws.FnExactThreadOk': WHATEVER THE INPUT: true; the input reads as it did. -/
def fnExactThreadOkSpec : ChangeSpec := { name := "fnExactThreadOk", fn := fun _ => fun
  | [d] => { results := [.lit (.bool true)], args := [d] }
  | _ => none }
def fnExactThreadOkRow : OpenClaim := { program := "ytbjihlohaoohgaa", sum := "8c0d21c3e883b0d701e29d8f70ae454784c0e5f1fa5e7ffd63a2dea70d2e7207", func := "loop.example/g03306/laws.FnExactThreadOk", spec := "fnExactThreadOk", apart := false }
def FnExactThreadOkSaid : Prop := fnExactThreadOkRow.holds Try.pinned (OpenSpec.ofChange fnExactThreadOkSpec)

/-- ITS FALSE NEIGHBOUR: 'it returns false'. Refute it at one input. -/
def fnExactThreadOkWrong : ChangeSpec := { name := "fnExactThreadOk", fn := fun _ => fun
  | [d] => { results := [.lit (.bool false)], args := [d] }
  | _ => none }
def FnExactThreadOkWrongFalsely : Prop := fnExactThreadOkRow.holds Try.pinned (OpenSpec.ofChange fnExactThreadOkWrong)

/-- 'laws.FnExactShadowSize': WHATEVER THE INPUT: true; the input reads as it did. -/
def fnExactShadowSizeSpec : ChangeSpec := { name := "fnExactShadowSize", fn := fun _ => fun
  | [d1, d2, d3] => { results := [.lit (.bool true)], args := [d1, d2, d3] }
  | _ => none }
def fnExactShadowSizeRow : OpenClaim := { program := "ytbjihlohaoohgaa", sum := "8c0d21c3e883b0d701e29d8f70ae454784c0e5f1fa5e7ffd63a2dea70d2e7207", func := "loop.example/g03306/laws.FnExactShadowSize", spec := "fnExactShadowSize", apart := false }
def FnExactShadowSizeSaid : Prop := fnExactShadowSizeRow.holds Try.pinned (OpenSpec.ofChange fnExactShadowSizeSpec)

/-- ITS FALSE NEIGHBOUR: 'it returns false'. Refute it at one input. -/
def fnExactShadowSizeWrong : ChangeSpec := { name := "fnExactShadowSize", fn := fun _ => fun
  | [d1, d2, d3] => { results := [.lit (.bool false)], args := [d1, d2, d3] }
  | _ => none }
def FnExactShadowSizeWrongFalsely : Prop := fnExactShadowSizeRow.holds Try.pinned (OpenSpec.ofChange fnExactShadowSizeWrong)

/-- 'laws.FnExactKeepBack': WHATEVER THE INPUT: true; the input reads as it did. -/
def fnExactKeepBackSpec : ChangeSpec := { name := "fnExactKeepBack", fn := fun _ => fun
  | [d1, d2] => { results := [.lit (.bool true)], args := [d1, d2] }
  | _ => none }
def fnExactKeepBackRow : OpenClaim := { program := "ytbjihlohaoohgaa", sum := "8c0d21c3e883b0d701e29d8f70ae454784c0e5f1fa5e7ffd63a2dea70d2e7207", func := "loop.example/g03306/laws.FnExactKeepBack", spec := "fnExactKeepBack", apart := false }
def FnExactKeepBackSaid : Prop := fnExactKeepBackRow.holds Try.pinned (OpenSpec.ofChange fnExactKeepBackSpec)

/-- ITS FALSE NEIGHBOUR: 'it returns false'. Refute it at one input. -/
def fnExactKeepBackWrong : ChangeSpec := { name := "fnExactKeepBack", fn := fun _ => fun
  | [d1, d2] => { results := [.lit (.bool false)], args := [d1, d2] }
  | _ => none }
def FnExactKeepBackWrongFalsely : Prop := fnExactKeepBackRow.holds Try.pinned (OpenSpec.ofChange fnExactKeepBackWrong)

/-- 'laws.FnExactPullsLeft': WHATEVER THE INPUT: true; the input reads as it did. -/
def fnExactPullsLeftSpec : ChangeSpec := { name := "fnExactPullsLeft", fn := fun _ => fun
  | [d1, d2] => { results := [.lit (.bool true)], args := [d1, d2] }
  | _ => none }
def fnExactPullsLeftRow : OpenClaim := { program := "ytbjihlohaoohgaa", sum := "8c0d21c3e883b0d701e29d8f70ae454784c0e5f1fa5e7ffd63a2dea70d2e7207", func := "loop.example/g03306/laws.FnExactPullsLeft", spec := "fnExactPullsLeft", apart := false }
def FnExactPullsLeftSaid : Prop := fnExactPullsLeftRow.holds Try.pinned (OpenSpec.ofChange fnExactPullsLeftSpec)

/-- ITS FALSE NEIGHBOUR: 'it returns false'. Refute it at one input. -/
def fnExactPullsLeftWrong : ChangeSpec := { name := "fnExactPullsLeft", fn := fun _ => fun
  | [d1, d2] => { results := [.lit (.bool false)], args := [d1, d2] }
  | _ => none }
def FnExactPullsLeftWrongFalsely : Prop := fnExactPullsLeftRow.holds Try.pinned (OpenSpec.ofChange fnExactPullsLeftWrong)

/-- 'laws.FnExactStepsBetween': WHATEVER THE INPUT: true; the input reads as it did. -/
def fnExactStepsBetweenSpec : ChangeSpec := { name := "fnExactStepsBetween", fn := fun _ => fun
  | [d1, d2] => { results := [.lit (.bool true)], args := [d1, d2] }
  | _ => none }
def fnExactStepsBetweenRow : OpenClaim := { program := "ytbjihlohaoohgaa", sum := "8c0d21c3e883b0d701e29d8f70ae454784c0e5f1fa5e7ffd63a2dea70d2e7207", func := "loop.example/g03306/laws.FnExactStepsBetween", spec := "fnExactStepsBetween", apart := false }
def FnExactStepsBetweenSaid : Prop := fnExactStepsBetweenRow.holds Try.pinned (OpenSpec.ofChange fnExactStepsBetweenSpec)

/-- ITS FALSE NEIGHBOUR: 'it returns false'. Refute it at one input. -/
def fnExactStepsBetweenWrong : ChangeSpec := { name := "fnExactStepsBetween", fn := fun _ => fun
  | [d1, d2] => { results := [.lit (.bool false)], args := [d1, d2] }
  | _ => none }
def FnExactStepsBetweenWrongFalsely : Prop := fnExactStepsBetweenRow.holds Try.pinned (OpenSpec.ofChange fnExactStepsBetweenWrong)

/-- 'laws.FnExactPuppetFor': WHATEVER THE INPUT: true; the input reads as it did. -/
def fnExactPuppetForSpec : ChangeSpec := { name := "fnExactPuppetFor", fn := fun _ => fun
  | [d1, d2, d3] => { results := [.lit (.bool true)], args := [d1, d2, d3] }
  | _ => none }
def fnExactPuppetForRow : OpenClaim := { program := "ytbjihlohaoohgaa", sum := "8c0d21c3e883b0d701e29d8f70ae454784c0e5f1fa5e7ffd63a2dea70d2e7207", func := "loop.example/g03306/laws.FnExactPuppetFor", spec := "fnExactPuppetFor", apart := false }
def FnExactPuppetForSaid : Prop := fnExactPuppetForRow.holds Try.pinned (OpenSpec.ofChange fnExactPuppetForSpec)

/-- ITS FALSE NEIGHBOUR: 'it returns false'. Refute it at one input. -/
def fnExactPuppetForWrong : ChangeSpec := { name := "fnExactPuppetFor", fn := fun _ => fun
  | [d1, d2, d3] => { results := [.lit (.bool false)], args := [d1, d2, d3] }
  | _ => none }
def FnExactPuppetForWrongFalsely : Prop := fnExactPuppetForRow.holds Try.pinned (OpenSpec.ofChange fnExactPuppetForWrong)

/- THE SECOND FORM. 'bulk': how many values and letters a reading holds, each counted each time it is reached (what is shared counts as often as it is met; a slice's spare places count too). A statement '..UptoSaid' is the law's where the arguments, and the package variables that the reading takes, are together of bulk at most 1048576: NARROWER than '..Said'. Prove '..Said' where nothing that the law and all that it calls make is longer than what came in: it says more and counts as full. Else prove '..UptoSaid'. A law counts once. -/
mutual
def uptoBulk {H : Type} : DataW H → Nat
  | .lit (.string bytes) => bytes.length + 1
  | .lit _ => 1
  | .nil => 1
  | .ptr d => uptoBulk d + 1
  | .slice elems spare => uptoBulkAll elems + uptoBulkAll spare + 1
  | .agg parts => uptoBulkAll parts + 1
  | .iface _ d => uptoBulk d + 1
  | .map entries => uptoBulkEntries entries + 1
  | .held _ => 1
def uptoBulkAll {H : Type} : List (DataW H) → Nat
  | [] => 0
  | d :: r => uptoBulk d + uptoBulkAll r
def uptoBulkEntries {H : Type} : List (Lit × DataW H) → Nat
  | [] => 0
  | x :: r => uptoBulkEntry x + uptoBulkEntries r
def uptoBulkEntry {H : Type} : Lit × DataW H → Nat
  | (.string bytes, d) => bytes.length + uptoBulk d + 1
  | (_, d) => uptoBulk d + 1
 end
def uptoSmall : (H : Type) → List (DataW H) → Bool := fun _ ds => decide (uptoBulkAll ds ≤ 1048576)
def OpenSpec.upto (s : _root_.Go.ChangeSpec) : _root_.Go.OpenSpec := { _root_.Go.OpenSpec.ofChange s with cond := some uptoSmall }

/-- 'laws.FnExactThreadOk', WHERE WHAT IT READS IS OF BULK AT MOST 1048576: true; the input reads as it did. -/
def fnExactThreadOkUptoRow : OpenClaim := { program := "ytbjihlohaoohgaa", sum := "8c0d21c3e883b0d701e29d8f70ae454784c0e5f1fa5e7ffd63a2dea70d2e7207", func := "loop.example/g03306/laws.FnExactThreadOk", spec := "fnExactThreadOk", apart := false, narrowed := true }
def FnExactThreadOkUptoSaid : Prop := fnExactThreadOkUptoRow.holds Try.pinned (OpenSpec.upto fnExactThreadOkSpec)

/-- 'laws.FnExactShadowSize', WHERE WHAT IT READS IS OF BULK AT MOST 1048576: true; the input reads as it did. -/
def fnExactShadowSizeUptoRow : OpenClaim := { program := "ytbjihlohaoohgaa", sum := "8c0d21c3e883b0d701e29d8f70ae454784c0e5f1fa5e7ffd63a2dea70d2e7207", func := "loop.example/g03306/laws.FnExactShadowSize", spec := "fnExactShadowSize", apart := false, narrowed := true }
def FnExactShadowSizeUptoSaid : Prop := fnExactShadowSizeUptoRow.holds Try.pinned (OpenSpec.upto fnExactShadowSizeSpec)

/-- 'laws.FnExactKeepBack', WHERE WHAT IT READS IS OF BULK AT MOST 1048576: true; the input reads as it did. -/
def fnExactKeepBackUptoRow : OpenClaim := { program := "ytbjihlohaoohgaa", sum := "8c0d21c3e883b0d701e29d8f70ae454784c0e5f1fa5e7ffd63a2dea70d2e7207", func := "loop.example/g03306/laws.FnExactKeepBack", spec := "fnExactKeepBack", apart := false, narrowed := true }
def FnExactKeepBackUptoSaid : Prop := fnExactKeepBackUptoRow.holds Try.pinned (OpenSpec.upto fnExactKeepBackSpec)

/-- 'laws.FnExactPullsLeft', WHERE WHAT IT READS IS OF BULK AT MOST 1048576: true; the input reads as it did. -/
def fnExactPullsLeftUptoRow : OpenClaim := { program := "ytbjihlohaoohgaa", sum := "8c0d21c3e883b0d701e29d8f70ae454784c0e5f1fa5e7ffd63a2dea70d2e7207", func := "loop.example/g03306/laws.FnExactPullsLeft", spec := "fnExactPullsLeft", apart := false, narrowed := true }
def FnExactPullsLeftUptoSaid : Prop := fnExactPullsLeftUptoRow.holds Try.pinned (OpenSpec.upto fnExactPullsLeftSpec)

/-- 'laws.FnExactStepsBetween', WHERE WHAT IT READS IS OF BULK AT MOST 1048576: true; the input reads as it did. -/
def fnExactStepsBetweenUptoRow : OpenClaim := { program := "ytbjihlohaoohgaa", sum := "8c0d21c3e883b0d701e29d8f70ae454784c0e5f1fa5e7ffd63a2dea70d2e7207", func := "loop.example/g03306/laws.FnExactStepsBetween", spec := "fnExactStepsBetween", apart := false, narrowed := true }
def FnExactStepsBetweenUptoSaid : Prop := fnExactStepsBetweenUptoRow.holds Try.pinned (OpenSpec.upto fnExactStepsBetweenSpec)

/-- 'laws.FnExactPuppetFor', WHERE WHAT IT READS IS OF BULK AT MOST 1048576: true; the input reads as it did. -/
def fnExactPuppetForUptoRow : OpenClaim := { program := "ytbjihlohaoohgaa", sum := "8c0d21c3e883b0d701e29d8f70ae454784c0e5f1fa5e7ffd63a2dea70d2e7207", func := "loop.example/g03306/laws.FnExactPuppetFor", spec := "fnExactPuppetFor", apart := false, narrowed := true }
def FnExactPuppetForUptoSaid : Prop := fnExactPuppetForUptoRow.holds Try.pinned (OpenSpec.upto fnExactPuppetForSpec)

end Rows
end Go.Proofs.Ytbjihlohaoohgaa

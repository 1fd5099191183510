/-
  No cell of these rows narrows 'for every input' (looked for: loops, veiled, ifaces, maps, wideKeys, modest, calm, conditions, laid).
  DERIVED. THE GIVEN ROWS OF THIS SEAT. 7 by the template 'for every input the law returns true; each argument reads behind the call as it read before'; 0 by the template 'total and deterministic' (their statements: YtcplfempajfcdaaTotals.lean).
  GIVEN WITH THE SEED: the statements are not yours to turn. If you find one false, say at which input.
  Laid BY PROGRAM, IN A SANDBOX (cutbox-rows.mjs): the forced cells as the released guide's own fill.sh prints them over the translation f247f56d62291dbc… (all of the seat's roots in one cut). By AI agents, Wed Nov 11 2026. No macro, syntax, notation, axiom, sorry.
-/
import Derived.Test.YtcplfempajfcdaaChecked
import GoSem.Claim
import GoSem.ClaimJoined
import GoSem.ClaimMapViews
import Derived.JoinedTies
import Derived.KernelRfl
namespace Go.Proofs.Ytcplfempajfcdaa
/- THE CELL 'sum', in the pinned program and in every row, IS THE sha256 OF THE DUMP (.gsa) THAT YtcplfempajfcdaaProg.lean LOADS. Nothing in Lean hashes anything: it is a label: what it is worth is what the hold of that sum in a sandbox is worth. -/
noncomputable def Try.pinned : Pinned := { name := "ytcplfempajfcdaa", sum := "f247f56d62291dbc983849a0246456edeee47d3e0df70bda368971440d20db52", checked := Try.checked }
namespace Rows
def none {H : Type} : Left H := { results := [], args := [] }

/-- 'laws.FnExactNotesOk': WHATEVER THE INPUT: true; the input reads as it did. -/
def fnExactNotesOkSpec : ChangeSpec := { name := "fnExactNotesOk", fn := fun _ => fun
  | [d] => { results := [.lit (.bool true)], args := [d] }
  | _ => none }
def fnExactNotesOkRow : OpenClaim := { program := "ytcplfempajfcdaa", sum := "f247f56d62291dbc983849a0246456edeee47d3e0df70bda368971440d20db52", func := "loop.example/g03306/laws.FnExactNotesOk", spec := "fnExactNotesOk", apart := false }
def FnExactNotesOkSaid : Prop := fnExactNotesOkRow.holds Try.pinned (OpenSpec.ofChange fnExactNotesOkSpec)

/-- ITS FALSE NEIGHBOUR: 'it returns false'. Refute it at one input. -/
def fnExactNotesOkWrong : ChangeSpec := { name := "fnExactNotesOk", fn := fun _ => fun
  | [d] => { results := [.lit (.bool false)], args := [d] }
  | _ => none }
def FnExactNotesOkWrongFalsely : Prop := fnExactNotesOkRow.holds Try.pinned (OpenSpec.ofChange fnExactNotesOkWrong)

/-- 'laws.FnExactWeightOf': WHATEVER THE INPUT: true; the input reads as it did. -/
def fnExactWeightOfSpec : ChangeSpec := { name := "fnExactWeightOf", fn := fun _ => fun
  | [d1, d2] => { results := [.lit (.bool true)], args := [d1, d2] }
  | _ => none }
def fnExactWeightOfRow : OpenClaim := { program := "ytcplfempajfcdaa", sum := "f247f56d62291dbc983849a0246456edeee47d3e0df70bda368971440d20db52", func := "loop.example/g03306/laws.FnExactWeightOf", spec := "fnExactWeightOf", apart := false }
def FnExactWeightOfSaid : Prop := fnExactWeightOfRow.holds Try.pinned (OpenSpec.ofChange fnExactWeightOfSpec)

/-- ITS FALSE NEIGHBOUR: 'it returns false'. Refute it at one input. -/
def fnExactWeightOfWrong : ChangeSpec := { name := "fnExactWeightOf", fn := fun _ => fun
  | [d1, d2] => { results := [.lit (.bool false)], args := [d1, d2] }
  | _ => none }
def FnExactWeightOfWrongFalsely : Prop := fnExactWeightOfRow.holds Try.pinned (OpenSpec.ofChange fnExactWeightOfWrong)

/-- 'laws.FnExactHardestCue': WHATEVER THE INPUT: true; the input reads as it did. -/
def fnExactHardestCueSpec : ChangeSpec := { name := "fnExactHardestCue", fn := fun _ => fun
  | [d] => { results := [.lit (.bool true)], args := [d] }
  | _ => none }
def fnExactHardestCueRow : OpenClaim := { program := "ytcplfempajfcdaa", sum := "f247f56d62291dbc983849a0246456edeee47d3e0df70bda368971440d20db52", func := "loop.example/g03306/laws.FnExactHardestCue", spec := "fnExactHardestCue", apart := false }
def FnExactHardestCueSaid : Prop := fnExactHardestCueRow.holds Try.pinned (OpenSpec.ofChange fnExactHardestCueSpec)

/-- ITS FALSE NEIGHBOUR: 'it returns false'. Refute it at one input. -/
def fnExactHardestCueWrong : ChangeSpec := { name := "fnExactHardestCue", fn := fun _ => fun
  | [d] => { results := [.lit (.bool false)], args := [d] }
  | _ => none }
def FnExactHardestCueWrongFalsely : Prop := fnExactHardestCueRow.holds Try.pinned (OpenSpec.ofChange fnExactHardestCueWrong)

/-- 'laws.FnExactIsBetter': WHATEVER THE INPUT: true; the input reads as it did. -/
def fnExactIsBetterSpec : ChangeSpec := { name := "fnExactIsBetter", fn := fun _ => fun
  | [d1, d2] => { results := [.lit (.bool true)], args := [d1, d2] }
  | _ => none }
def fnExactIsBetterRow : OpenClaim := { program := "ytcplfempajfcdaa", sum := "f247f56d62291dbc983849a0246456edeee47d3e0df70bda368971440d20db52", func := "loop.example/g03306/laws.FnExactIsBetter", spec := "fnExactIsBetter", apart := false }
def FnExactIsBetterSaid : Prop := fnExactIsBetterRow.holds Try.pinned (OpenSpec.ofChange fnExactIsBetterSpec)

/-- ITS FALSE NEIGHBOUR: 'it returns false'. Refute it at one input. -/
def fnExactIsBetterWrong : ChangeSpec := { name := "fnExactIsBetter", fn := fun _ => fun
  | [d1, d2] => { results := [.lit (.bool false)], args := [d1, d2] }
  | _ => none }
def FnExactIsBetterWrongFalsely : Prop := fnExactIsBetterRow.holds Try.pinned (OpenSpec.ofChange fnExactIsBetterWrong)

/-- 'laws.FnExactMergedNotes': WHATEVER THE INPUT: true; the input reads as it did. -/
def fnExactMergedNotesSpec : ChangeSpec := { name := "fnExactMergedNotes", fn := fun _ => fun
  | [d] => { results := [.lit (.bool true)], args := [d] }
  | _ => none }
def fnExactMergedNotesRow : OpenClaim := { program := "ytcplfempajfcdaa", sum := "f247f56d62291dbc983849a0246456edeee47d3e0df70bda368971440d20db52", func := "loop.example/g03306/laws.FnExactMergedNotes", spec := "fnExactMergedNotes", apart := false }
def FnExactMergedNotesSaid : Prop := fnExactMergedNotesRow.holds Try.pinned (OpenSpec.ofChange fnExactMergedNotesSpec)

/-- ITS FALSE NEIGHBOUR: 'it returns false'. Refute it at one input. -/
def fnExactMergedNotesWrong : ChangeSpec := { name := "fnExactMergedNotes", fn := fun _ => fun
  | [d] => { results := [.lit (.bool false)], args := [d] }
  | _ => none }
def FnExactMergedNotesWrongFalsely : Prop := fnExactMergedNotesRow.holds Try.pinned (OpenSpec.ofChange fnExactMergedNotesWrong)

/-- 'laws.FnExactRehearsalPlan': WHATEVER THE INPUT: true; the input reads as it did. -/
def fnExactRehearsalPlanSpec : ChangeSpec := { name := "fnExactRehearsalPlan", fn := fun _ => fun
  | [d1, d2] => { results := [.lit (.bool true)], args := [d1, d2] }
  | _ => none }
def fnExactRehearsalPlanRow : OpenClaim := { program := "ytcplfempajfcdaa", sum := "f247f56d62291dbc983849a0246456edeee47d3e0df70bda368971440d20db52", func := "loop.example/g03306/laws.FnExactRehearsalPlan", spec := "fnExactRehearsalPlan", apart := false }
def FnExactRehearsalPlanSaid : Prop := fnExactRehearsalPlanRow.holds Try.pinned (OpenSpec.ofChange fnExactRehearsalPlanSpec)

/-- ITS FALSE NEIGHBOUR: 'it returns false'. Refute it at one input. -/
def fnExactRehearsalPlanWrong : ChangeSpec := { name := "fnExactRehearsalPlan", fn := fun _ => fun
  | [d1, d2] => { results := [.lit (.bool false)], args := [d1, d2] }
  | _ => none }
def FnExactRehearsalPlanWrongFalsely : Prop := fnExactRehearsalPlanRow.holds Try.pinned (OpenSpec.ofChange fnExactRehearsalPlanWrong)

/-- 'laws.FnRehearsals': WHATEVER THE INPUT: true; the input reads as it did. -/
def fnRehearsalsSpec : ChangeSpec := { name := "fnRehearsals", fn := fun _ => fun
  | [d] => { results := [.lit (.bool true)], args := [d] }
  | _ => none }
def fnRehearsalsRow : OpenClaim := { program := "ytcplfempajfcdaa", sum := "f247f56d62291dbc983849a0246456edeee47d3e0df70bda368971440d20db52", func := "loop.example/g03306/laws.FnRehearsals", spec := "fnRehearsals", apart := false }
def FnRehearsalsSaid : Prop := fnRehearsalsRow.holds Try.pinned (OpenSpec.ofChange fnRehearsalsSpec)

/-- ITS FALSE NEIGHBOUR: 'it returns false'. Refute it at one input. -/
def fnRehearsalsWrong : ChangeSpec := { name := "fnRehearsals", fn := fun _ => fun
  | [d] => { results := [.lit (.bool false)], args := [d] }
  | _ => none }
def FnRehearsalsWrongFalsely : Prop := fnRehearsalsRow.holds Try.pinned (OpenSpec.ofChange fnRehearsalsWrong)

/- THE SECOND FORM. 'bulk': how many values and letters a reading holds, each counted each time it is reached (what is shared counts as often as it is met; a slice's spare places count too). A statement '..UptoSaid' is the law's where the arguments, and the package variables that the reading takes, are together of bulk at most 1048576: NARROWER than '..Said'. Prove '..Said' where nothing that the law and all that it calls make is longer than what came in: it says more and counts as full. Else prove '..UptoSaid'. A law counts once. -/
mutual
def uptoBulk {H : Type} : DataW H → Nat
  | .lit (.string bytes) => bytes.length + 1
  | .lit _ => 1
  | .nil => 1
  | .ptr d => uptoBulk d + 1
  | .slice elems spare => uptoBulkAll elems + uptoBulkAll spare + 1
  | .agg parts => uptoBulkAll parts + 1
  | .iface _ d => uptoBulk d + 1
  | .map entries => uptoBulkEntries entries + 1
  | .held _ => 1
def uptoBulkAll {H : Type} : List (DataW H) → Nat
  | [] => 0
  | d :: r => uptoBulk d + uptoBulkAll r
def uptoBulkEntries {H : Type} : List (Lit × DataW H) → Nat
  | [] => 0
  | x :: r => uptoBulkEntry x + uptoBulkEntries r
def uptoBulkEntry {H : Type} : Lit × DataW H → Nat
  | (.string bytes, d) => bytes.length + uptoBulk d + 1
  | (_, d) => uptoBulk d + 1
 end
def uptoSmall : (H : Type) → List (DataW H) → Bool := fun _ ds => decide (uptoBulkAll ds ≤ 1048576)
def OpenSpec.upto (s : _root_.Go.ChangeSpec) : _root_.Go.OpenSpec := { _root_.Go.OpenSpec.ofChange s with cond := some uptoSmall }

/-- 'laws.FnExactNotesOk', WHERE WHAT IT READS IS OF BULK AT MOST 1048576: true; the input reads as it did. -/
def fnExactNotesOkUptoRow : OpenClaim := { program := "ytcplfempajfcdaa", sum := "f247f56d62291dbc983849a0246456edeee47d3e0df70bda368971440d20db52", func := "loop.example/g03306/laws.FnExactNotesOk", spec := "fnExactNotesOk", apart := false, narrowed := true }
def FnExactNotesOkUptoSaid : Prop := fnExactNotesOkUptoRow.holds Try.pinned (OpenSpec.upto fnExactNotesOkSpec)

/-- 'laws.FnExactWeightOf', WHERE WHAT IT READS IS OF BULK AT MOST 1048576: true; the input reads as it did. -/
def fnExactWeightOfUptoRow : OpenClaim := { program := "ytcplfempajfcdaa", sum := "f247f56d62291dbc983849a0246456edeee47d3e0df70bda368971440d20db52", func := "loop.example/g03306/laws.FnExactWeightOf", spec := "fnExactWeightOf", apart := false, narrowed := true }
def FnExactWeightOfUptoSaid : Prop := fnExactWeightOfUptoRow.holds Try.pinned (OpenSpec.upto fnExactWeightOfSpec)

/-- 'laws.FnExactHardestCue', WHERE WHAT IT READS IS OF BULK AT MOST 1048576: true; the input reads as it did. -/
def fnExactHardestCueUptoRow : OpenClaim := { program := "ytcplfempajfcdaa", sum := "f247f56d62291dbc983849a0246456edeee47d3e0df70bda368971440d20db52", func := "loop.example/g03306/laws.FnExactHardestCue", spec := "fnExactHardestCue", apart := false, narrowed := true }
def FnExactHardestCueUptoSaid : Prop := fnExactHardestCueUptoRow.holds Try.pinned (OpenSpec.upto fnExactHardestCueSpec)

/-- 'laws.FnExactIsBetter', WHERE WHAT IT READS IS OF BULK AT MOST 1048576: true; the input reads as it did. -/
def fnExactIsBetterUptoRow : OpenClaim := { program := "ytcplfempajfcdaa", sum := "f247f56d62291dbc983849a0246456edeee47d3e0df70bda368971440d20db52", func := "loop.example/g03306/laws.FnExactIsBetter", spec := "fnExactIsBetter", apart := false, narrowed := true }
def FnExactIsBetterUptoSaid : Prop := fnExactIsBetterUptoRow.holds Try.pinned (OpenSpec.upto fnExactIsBetterSpec)

/-- 'laws.FnExactMergedNotes', WHERE WHAT IT READS IS OF BULK AT MOST 1048576: true; the input reads as it did. -/
def fnExactMergedNotesUptoRow : OpenClaim := { program := "ytcplfempajfcdaa", sum := "f247f56d62291dbc983849a0246456edeee47d3e0df70bda368971440d20db52", func := "loop.example/g03306/laws.FnExactMergedNotes", spec := "fnExactMergedNotes", apart := false, narrowed := true }
def FnExactMergedNotesUptoSaid : Prop := fnExactMergedNotesUptoRow.holds Try.pinned (OpenSpec.upto fnExactMergedNotesSpec)

/-- 'laws.FnExactRehearsalPlan', WHERE WHAT IT READS IS OF BULK AT MOST 1048576: true; the input reads as it did. -/
def fnExactRehearsalPlanUptoRow : OpenClaim := { program := "ytcplfempajfcdaa", sum := "f247f56d62291dbc983849a0246456edeee47d3e0df70bda368971440d20db52", func := "loop.example/g03306/laws.FnExactRehearsalPlan", spec := "fnExactRehearsalPlan", apart := false, narrowed := true }
def FnExactRehearsalPlanUptoSaid : Prop := fnExactRehearsalPlanUptoRow.holds Try.pinned (OpenSpec.upto fnExactRehearsalPlanSpec)

/-- 'laws.FnRehearsals', WHERE WHAT IT READS IS OF BULK AT MOST 1048576: true; the input reads as it did. -/
def fnRehearsalsUptoRow : OpenClaim := { program := "ytcplfempajfcdaa", sum := "f247f56d62291dbc983849a0246456edeee47d3e0df70bda368971440d20db52", func := "loop.example/g03306/laws.FnRehearsals", spec := "fnRehearsals", apart := false, narrowed := true }
def FnRehearsalsUptoSaid : Prop := fnRehearsalsUptoRow.holds Try.pinned (OpenSpec.upto fnRehearsalsSpec)

end Rows
end Go.Proofs.Ytcplfempajfcdaa

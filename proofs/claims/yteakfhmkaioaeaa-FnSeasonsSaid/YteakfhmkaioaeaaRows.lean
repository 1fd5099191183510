/-
  No cell of these rows narrows 'for every input' (looked for: loops, veiled, ifaces, maps, wideKeys, modest, calm, conditions, laid).
  DERIVED. THE GIVEN ROWS OF THIS SEAT. 12 by the template 'for every input the law returns true; each argument reads behind the call as it read before'; 0 by the template 'total and deterministic' (their statements: YteakfhmkaioaeaaTotals.lean).
  GIVEN WITH THE SEED: the statements are not yours to turn. If you find one false, say at which input.
  Laid BY PROGRAM, IN A SANDBOX (cutbox-rows.mjs): the forced cells as the released guide's own fill.sh prints them over the translation 15059314d7759547… (all of the seat's roots in one cut). By AI agents, Wed Nov 11 2026. No macro, syntax, notation, axiom, sorry.
-/
import Derived.Test.YteakfhmkaioaeaaChecked
import GoSem.Claim
import GoSem.ClaimJoined
import GoSem.ClaimMapViews
import Derived.JoinedTies
import Derived.KernelRfl
namespace Go.Proofs.Yteakfhmkaioaeaa
/- THE CELL 'sum', in the pinned program and in every row, IS THE sha256 OF THE DUMP (.gsa) THAT YteakfhmkaioaeaaProg.lean LOADS. Nothing in Lean hashes anything: it is a label: what it is worth is what the hold of that sum in a sandbox is worth. -/
noncomputable def Try.pinned : Pinned := { name := "yteakfhmkaioaeaa", sum := "15059314d77595479a3bdac69146ac293f628a028ded03d3a78f6de4d107add9", checked := Try.checked }
namespace Rows
def none {H : Type} : Left H := { results := [], args := [] }

/-- 'laws.FnExactSeasonOk': WHATEVER THE INPUT: true; the input reads as it did. -/
def fnExactSeasonOkSpec : ChangeSpec := { name := "fnExactSeasonOk", fn := fun _ => fun
  | [d] => { results := [.lit (.bool true)], args := [d] }
  | _ => none }
def fnExactSeasonOkRow : OpenClaim := { program := "yteakfhmkaioaeaa", sum := "15059314d77595479a3bdac69146ac293f628a028ded03d3a78f6de4d107add9", func := "loop.example/g03306/laws.FnExactSeasonOk", spec := "fnExactSeasonOk", apart := false }
def FnExactSeasonOkSaid : Prop := fnExactSeasonOkRow.holds Try.pinned (OpenSpec.ofChange fnExactSeasonOkSpec)

/-- ITS FALSE NEIGHBOUR: 'it returns false'. Refute it at one input. -/
def fnExactSeasonOkWrong : ChangeSpec := { name := "fnExactSeasonOk", fn := fun _ => fun
  | [d] => { results := [.lit (.bool false)], args := [d] }
  | _ => none }
def FnExactSeasonOkWrongFalsely : Prop := fnExactSeasonOkRow.holds Try.pinned (OpenSpec.ofChange fnExactSeasonOkWrong)

/-- 'laws.FnExactWithoutString': WHATEVER THE INPUT: true; the input reads as it did. -/
def fnExactWithoutStringSpec : ChangeSpec := { name := "fnExactWithoutString", fn := fun _ => fun
  | [d1, d2] => { results := [.lit (.bool true)], args := [d1, d2] }
  | _ => none }
def fnExactWithoutStringRow : OpenClaim := { program := "yteakfhmkaioaeaa", sum := "15059314d77595479a3bdac69146ac293f628a028ded03d3a78f6de4d107add9", func := "loop.example/g03306/laws.FnExactWithoutString", spec := "fnExactWithoutString", apart := false }
def FnExactWithoutStringSaid : Prop := fnExactWithoutStringRow.holds Try.pinned (OpenSpec.ofChange fnExactWithoutStringSpec)

/-- ITS FALSE NEIGHBOUR: 'it returns false'. Refute it at one input. -/
def fnExactWithoutStringWrong : ChangeSpec := { name := "fnExactWithoutString", fn := fun _ => fun
  | [d1, d2] => { results := [.lit (.bool false)], args := [d1, d2] }
  | _ => none }
def FnExactWithoutStringWrongFalsely : Prop := fnExactWithoutStringRow.holds Try.pinned (OpenSpec.ofChange fnExactWithoutStringWrong)

/-- 'laws.FnExactFairnessOf': WHATEVER THE INPUT: true; the input reads as it did. -/
def fnExactFairnessOfSpec : ChangeSpec := { name := "fnExactFairnessOf", fn := fun _ => fun
  | [d] => { results := [.lit (.bool true)], args := [d] }
  | _ => none }
def fnExactFairnessOfRow : OpenClaim := { program := "yteakfhmkaioaeaa", sum := "15059314d77595479a3bdac69146ac293f628a028ded03d3a78f6de4d107add9", func := "loop.example/g03306/laws.FnExactFairnessOf", spec := "fnExactFairnessOf", apart := false }
def FnExactFairnessOfSaid : Prop := fnExactFairnessOfRow.holds Try.pinned (OpenSpec.ofChange fnExactFairnessOfSpec)

/-- ITS FALSE NEIGHBOUR: 'it returns false'. Refute it at one input. -/
def fnExactFairnessOfWrong : ChangeSpec := { name := "fnExactFairnessOf", fn := fun _ => fun
  | [d] => { results := [.lit (.bool false)], args := [d] }
  | _ => none }
def FnExactFairnessOfWrongFalsely : Prop := fnExactFairnessOfRow.holds Try.pinned (OpenSpec.ofChange fnExactFairnessOfWrong)

/-- 'laws.FnExactShareEqually': WHATEVER THE INPUT: true; the input reads as it did. -/
def fnExactShareEquallySpec : ChangeSpec := { name := "fnExactShareEqually", fn := fun _ => fun
  | [d1, d2] => { results := [.lit (.bool true)], args := [d1, d2] }
  | _ => none }
def fnExactShareEquallyRow : OpenClaim := { program := "yteakfhmkaioaeaa", sum := "15059314d77595479a3bdac69146ac293f628a028ded03d3a78f6de4d107add9", func := "loop.example/g03306/laws.FnExactShareEqually", spec := "fnExactShareEqually", apart := false }
def FnExactShareEquallySaid : Prop := fnExactShareEquallyRow.holds Try.pinned (OpenSpec.ofChange fnExactShareEquallySpec)

/-- ITS FALSE NEIGHBOUR: 'it returns false'. Refute it at one input. -/
def fnExactShareEquallyWrong : ChangeSpec := { name := "fnExactShareEqually", fn := fun _ => fun
  | [d1, d2] => { results := [.lit (.bool false)], args := [d1, d2] }
  | _ => none }
def FnExactShareEquallyWrongFalsely : Prop := fnExactShareEquallyRow.holds Try.pinned (OpenSpec.ofChange fnExactShareEquallyWrong)

/-- 'laws.FnExactLongestRest': WHATEVER THE INPUT: true; the input reads as it did. -/
def fnExactLongestRestSpec : ChangeSpec := { name := "fnExactLongestRest", fn := fun _ => fun
  | [d] => { results := [.lit (.bool true)], args := [d] }
  | _ => none }
def fnExactLongestRestRow : OpenClaim := { program := "yteakfhmkaioaeaa", sum := "15059314d77595479a3bdac69146ac293f628a028ded03d3a78f6de4d107add9", func := "loop.example/g03306/laws.FnExactLongestRest", spec := "fnExactLongestRest", apart := false }
def FnExactLongestRestSaid : Prop := fnExactLongestRestRow.holds Try.pinned (OpenSpec.ofChange fnExactLongestRestSpec)

/-- ITS FALSE NEIGHBOUR: 'it returns false'. Refute it at one input. -/
def fnExactLongestRestWrong : ChangeSpec := { name := "fnExactLongestRest", fn := fun _ => fun
  | [d] => { results := [.lit (.bool false)], args := [d] }
  | _ => none }
def FnExactLongestRestWrongFalsely : Prop := fnExactLongestRestRow.holds Try.pinned (OpenSpec.ofChange fnExactLongestRestWrong)

/-- 'laws.FnExactLongestRun': WHATEVER THE INPUT: true; the input reads as it did. -/
def fnExactLongestRunSpec : ChangeSpec := { name := "fnExactLongestRun", fn := fun _ => fun
  | [d] => { results := [.lit (.bool true)], args := [d] }
  | _ => none }
def fnExactLongestRunRow : OpenClaim := { program := "yteakfhmkaioaeaa", sum := "15059314d77595479a3bdac69146ac293f628a028ded03d3a78f6de4d107add9", func := "loop.example/g03306/laws.FnExactLongestRun", spec := "fnExactLongestRun", apart := false }
def FnExactLongestRunSaid : Prop := fnExactLongestRunRow.holds Try.pinned (OpenSpec.ofChange fnExactLongestRunSpec)

/-- ITS FALSE NEIGHBOUR: 'it returns false'. Refute it at one input. -/
def fnExactLongestRunWrong : ChangeSpec := { name := "fnExactLongestRun", fn := fun _ => fun
  | [d] => { results := [.lit (.bool false)], args := [d] }
  | _ => none }
def FnExactLongestRunWrongFalsely : Prop := fnExactLongestRunRow.holds Try.pinned (OpenSpec.ofChange fnExactLongestRunWrong)

/-- 'laws.FnExactShadowOf': WHATEVER THE INPUT: true; the input reads as it did. -/
def fnExactShadowOfSpec : ChangeSpec := { name := "fnExactShadowOf", fn := fun _ => fun
  | [d1, d2, d3, d4] => { results := [.lit (.bool true)], args := [d1, d2, d3, d4] }
  | _ => none }
def fnExactShadowOfRow : OpenClaim := { program := "yteakfhmkaioaeaa", sum := "15059314d77595479a3bdac69146ac293f628a028ded03d3a78f6de4d107add9", func := "loop.example/g03306/laws.FnExactShadowOf", spec := "fnExactShadowOf", apart := false }
def FnExactShadowOfSaid : Prop := fnExactShadowOfRow.holds Try.pinned (OpenSpec.ofChange fnExactShadowOfSpec)

/-- ITS FALSE NEIGHBOUR: 'it returns false'. Refute it at one input. -/
def fnExactShadowOfWrong : ChangeSpec := { name := "fnExactShadowOf", fn := fun _ => fun
  | [d1, d2, d3, d4] => { results := [.lit (.bool false)], args := [d1, d2, d3, d4] }
  | _ => none }
def FnExactShadowOfWrongFalsely : Prop := fnExactShadowOfRow.holds Try.pinned (OpenSpec.ofChange fnExactShadowOfWrong)

/-- 'laws.FnExactKeepsRest': WHATEVER THE INPUT: true; the input reads as it did. -/
def fnExactKeepsRestSpec : ChangeSpec := { name := "fnExactKeepsRest", fn := fun _ => fun
  | [d1, d2] => { results := [.lit (.bool true)], args := [d1, d2] }
  | _ => none }
def fnExactKeepsRestRow : OpenClaim := { program := "yteakfhmkaioaeaa", sum := "15059314d77595479a3bdac69146ac293f628a028ded03d3a78f6de4d107add9", func := "loop.example/g03306/laws.FnExactKeepsRest", spec := "fnExactKeepsRest", apart := false }
def FnExactKeepsRestSaid : Prop := fnExactKeepsRestRow.holds Try.pinned (OpenSpec.ofChange fnExactKeepsRestSpec)

/-- ITS FALSE NEIGHBOUR: 'it returns false'. Refute it at one input. -/
def fnExactKeepsRestWrong : ChangeSpec := { name := "fnExactKeepsRest", fn := fun _ => fun
  | [d1, d2] => { results := [.lit (.bool false)], args := [d1, d2] }
  | _ => none }
def FnExactKeepsRestWrongFalsely : Prop := fnExactKeepsRestRow.holds Try.pinned (OpenSpec.ofChange fnExactKeepsRestWrong)

/-- 'laws.FnExactMostShows': WHATEVER THE INPUT: true; the input reads as it did. -/
def fnExactMostShowsSpec : ChangeSpec := { name := "fnExactMostShows", fn := fun _ => fun
  | [d1, d2] => { results := [.lit (.bool true)], args := [d1, d2] }
  | _ => none }
def fnExactMostShowsRow : OpenClaim := { program := "yteakfhmkaioaeaa", sum := "15059314d77595479a3bdac69146ac293f628a028ded03d3a78f6de4d107add9", func := "loop.example/g03306/laws.FnExactMostShows", spec := "fnExactMostShows", apart := false }
def FnExactMostShowsSaid : Prop := fnExactMostShowsRow.holds Try.pinned (OpenSpec.ofChange fnExactMostShowsSpec)

/-- ITS FALSE NEIGHBOUR: 'it returns false'. Refute it at one input. -/
def fnExactMostShowsWrong : ChangeSpec := { name := "fnExactMostShows", fn := fun _ => fun
  | [d1, d2] => { results := [.lit (.bool false)], args := [d1, d2] }
  | _ => none }
def FnExactMostShowsWrongFalsely : Prop := fnExactMostShowsRow.holds Try.pinned (OpenSpec.ofChange fnExactMostShowsWrong)

/-- 'laws.FnExactAddShow': WHATEVER THE INPUT: true; the input reads as it did. -/
def fnExactAddShowSpec : ChangeSpec := { name := "fnExactAddShow", fn := fun _ => fun
  | [d1, d2] => { results := [.lit (.bool true)], args := [d1, d2] }
  | _ => none }
def fnExactAddShowRow : OpenClaim := { program := "yteakfhmkaioaeaa", sum := "15059314d77595479a3bdac69146ac293f628a028ded03d3a78f6de4d107add9", func := "loop.example/g03306/laws.FnExactAddShow", spec := "fnExactAddShow", apart := false }
def FnExactAddShowSaid : Prop := fnExactAddShowRow.holds Try.pinned (OpenSpec.ofChange fnExactAddShowSpec)

/-- ITS FALSE NEIGHBOUR: 'it returns false'. Refute it at one input. -/
def fnExactAddShowWrong : ChangeSpec := { name := "fnExactAddShow", fn := fun _ => fun
  | [d1, d2] => { results := [.lit (.bool false)], args := [d1, d2] }
  | _ => none }
def FnExactAddShowWrongFalsely : Prop := fnExactAddShowRow.holds Try.pinned (OpenSpec.ofChange fnExactAddShowWrong)

/-- 'laws.FnExactShareByWork': WHATEVER THE INPUT: true; the input reads as it did. -/
def fnExactShareByWorkSpec : ChangeSpec := { name := "fnExactShareByWork", fn := fun _ => fun
  | [d1, d2] => { results := [.lit (.bool true)], args := [d1, d2] }
  | _ => none }
def fnExactShareByWorkRow : OpenClaim := { program := "yteakfhmkaioaeaa", sum := "15059314d77595479a3bdac69146ac293f628a028ded03d3a78f6de4d107add9", func := "loop.example/g03306/laws.FnExactShareByWork", spec := "fnExactShareByWork", apart := false }
def FnExactShareByWorkSaid : Prop := fnExactShareByWorkRow.holds Try.pinned (OpenSpec.ofChange fnExactShareByWorkSpec)

/-- ITS FALSE NEIGHBOUR: 'it returns false'. Refute it at one input. -/
def fnExactShareByWorkWrong : ChangeSpec := { name := "fnExactShareByWork", fn := fun _ => fun
  | [d1, d2] => { results := [.lit (.bool false)], args := [d1, d2] }
  | _ => none }
def FnExactShareByWorkWrongFalsely : Prop := fnExactShareByWorkRow.holds Try.pinned (OpenSpec.ofChange fnExactShareByWorkWrong)

/-- 'laws.FnSeasons': WHATEVER THE INPUT: true; the input reads as it did. -/
def fnSeasonsSpec : ChangeSpec := { name := "fnSeasons", fn := fun _ => fun
  | [d] => { results := [.lit (.bool true)], args := [d] }
  | _ => none }
def fnSeasonsRow : OpenClaim := { program := "yteakfhmkaioaeaa", sum := "15059314d77595479a3bdac69146ac293f628a028ded03d3a78f6de4d107add9", func := "loop.example/g03306/laws.FnSeasons", spec := "fnSeasons", apart := false }
def FnSeasonsSaid : Prop := fnSeasonsRow.holds Try.pinned (OpenSpec.ofChange fnSeasonsSpec)

/-- ITS FALSE NEIGHBOUR: 'it returns false'. Refute it at one input. -/
def fnSeasonsWrong : ChangeSpec := { name := "fnSeasons", fn := fun _ => fun
  | [d] => { results := [.lit (.bool false)], args := [d] }
  | _ => none }
def FnSeasonsWrongFalsely : Prop := fnSeasonsRow.holds Try.pinned (OpenSpec.ofChange fnSeasonsWrong)

/- THE SECOND FORM. 'bulk': how many values and letters a reading holds, each counted each time it is reached (what is shared counts as often as it is met; a slice's spare places count too). A statement '..UptoSaid' is the law's where the arguments, and the package variables that the reading takes, are together of bulk at most 1048576: NARROWER than '..Said'. Prove '..Said' where nothing that the law and all that it calls make is longer than what came in: it says more and counts as full. Else prove '..UptoSaid'. A law counts once. -/
mutual
def uptoBulk {H : Type} : DataW H → Nat
  | .lit (.string bytes) => bytes.length + 1
  | .lit _ => 1
  | .nil => 1
  | .ptr d => uptoBulk d + 1
  | .slice elems spare => uptoBulkAll elems + uptoBulkAll spare + 1
  | .agg parts => uptoBulkAll parts + 1
  | .iface _ d => uptoBulk d + 1
  | .map entries => uptoBulkEntries entries + 1
  | .held _ => 1
def uptoBulkAll {H : Type} : List (DataW H) → Nat
  | [] => 0
  | d :: r => uptoBulk d + uptoBulkAll r
def uptoBulkEntries {H : Type} : List (Lit × DataW H) → Nat
  | [] => 0
  | x :: r => uptoBulkEntry x + uptoBulkEntries r
def uptoBulkEntry {H : Type} : Lit × DataW H → Nat
  | (.string bytes, d) => bytes.length + uptoBulk d + 1
  | (_, d) => uptoBulk d + 1
 end
def uptoSmall : (H : Type) → List (DataW H) → Bool := fun _ ds => decide (uptoBulkAll ds ≤ 1048576)
def OpenSpec.upto (s : _root_.Go.ChangeSpec) : _root_.Go.OpenSpec := { _root_.Go.OpenSpec.ofChange s with cond := some uptoSmall }

/-- 'laws.FnExactSeasonOk', WHERE WHAT IT READS IS OF BULK AT MOST 1048576: true; the input reads as it did. -/
def fnExactSeasonOkUptoRow : OpenClaim := { program := "yteakfhmkaioaeaa", sum := "15059314d77595479a3bdac69146ac293f628a028ded03d3a78f6de4d107add9", func := "loop.example/g03306/laws.FnExactSeasonOk", spec := "fnExactSeasonOk", apart := false, narrowed := true }
def FnExactSeasonOkUptoSaid : Prop := fnExactSeasonOkUptoRow.holds Try.pinned (OpenSpec.upto fnExactSeasonOkSpec)

/-- 'laws.FnExactWithoutString', WHERE WHAT IT READS IS OF BULK AT MOST 1048576: true; the input reads as it did. -/
def fnExactWithoutStringUptoRow : OpenClaim := { program := "yteakfhmkaioaeaa", sum := "15059314d77595479a3bdac69146ac293f628a028ded03d3a78f6de4d107add9", func := "loop.example/g03306/laws.FnExactWithoutString", spec := "fnExactWithoutString", apart := false, narrowed := true }
def FnExactWithoutStringUptoSaid : Prop := fnExactWithoutStringUptoRow.holds Try.pinned (OpenSpec.upto fnExactWithoutStringSpec)

/-- 'laws.FnExactFairnessOf', WHERE WHAT IT READS IS OF BULK AT MOST 1048576: true; the input reads as it did. -/
def fnExactFairnessOfUptoRow : OpenClaim := { program := "yteakfhmkaioaeaa", sum := "15059314d77595479a3bdac69146ac293f628a028ded03d3a78f6de4d107add9", func := "loop.example/g03306/laws.FnExactFairnessOf", spec := "fnExactFairnessOf", apart := false, narrowed := true }
def FnExactFairnessOfUptoSaid : Prop := fnExactFairnessOfUptoRow.holds Try.pinned (OpenSpec.upto fnExactFairnessOfSpec)

/-- 'laws.FnExactShareEqually', WHERE WHAT IT READS IS OF BULK AT MOST 1048576: true; the input reads as it did. -/
def fnExactShareEquallyUptoRow : OpenClaim := { program := "yteakfhmkaioaeaa", sum := "15059314d77595479a3bdac69146ac293f628a028ded03d3a78f6de4d107add9", func := "loop.example/g03306/laws.FnExactShareEqually", spec := "fnExactShareEqually", apart := false, narrowed := true }
def FnExactShareEquallyUptoSaid : Prop := fnExactShareEquallyUptoRow.holds Try.pinned (OpenSpec.upto fnExactShareEquallySpec)

/-- 'laws.FnExactLongestRest', WHERE WHAT IT READS IS OF BULK AT MOST 1048576: true; the input reads as it did. -/
def fnExactLongestRestUptoRow : OpenClaim := { program := "yteakfhmkaioaeaa", sum := "15059314d77595479a3bdac69146ac293f628a028ded03d3a78f6de4d107add9", func := "loop.example/g03306/laws.FnExactLongestRest", spec := "fnExactLongestRest", apart := false, narrowed := true }
def FnExactLongestRestUptoSaid : Prop := fnExactLongestRestUptoRow.holds Try.pinned (OpenSpec.upto fnExactLongestRestSpec)

/-- 'laws.FnExactLongestRun', WHERE WHAT IT READS IS OF BULK AT MOST 1048576: true; the input reads as it did. -/
def fnExactLongestRunUptoRow : OpenClaim := { program := "yteakfhmkaioaeaa", sum := "15059314d77595479a3bdac69146ac293f628a028ded03d3a78f6de4d107add9", func := "loop.example/g03306/laws.FnExactLongestRun", spec := "fnExactLongestRun", apart := false, narrowed := true }
def FnExactLongestRunUptoSaid : Prop := fnExactLongestRunUptoRow.holds Try.pinned (OpenSpec.upto fnExactLongestRunSpec)

/-- 'laws.FnExactShadowOf', WHERE WHAT IT READS IS OF BULK AT MOST 1048576: true; the input reads as it did. -/
def fnExactShadowOfUptoRow : OpenClaim := { program := "yteakfhmkaioaeaa", sum := "15059314d77595479a3bdac69146ac293f628a028ded03d3a78f6de4d107add9", func := "loop.example/g03306/laws.FnExactShadowOf", spec := "fnExactShadowOf", apart := false, narrowed := true }
def FnExactShadowOfUptoSaid : Prop := fnExactShadowOfUptoRow.holds Try.pinned (OpenSpec.upto fnExactShadowOfSpec)

/-- 'laws.FnExactKeepsRest', WHERE WHAT IT READS IS OF BULK AT MOST 1048576: true; the input reads as it did. -/
def fnExactKeepsRestUptoRow : OpenClaim := { program := "yteakfhmkaioaeaa", sum := "15059314d77595479a3bdac69146ac293f628a028ded03d3a78f6de4d107add9", func := "loop.example/g03306/laws.FnExactKeepsRest", spec := "fnExactKeepsRest", apart := false, narrowed := true }
def FnExactKeepsRestUptoSaid : Prop := fnExactKeepsRestUptoRow.holds Try.pinned (OpenSpec.upto fnExactKeepsRestSpec)

/-- 'laws.FnExactMostShows', WHERE WHAT IT READS IS OF BULK AT MOST 1048576: true; the input reads as it did. -/
def fnExactMostShowsUptoRow : OpenClaim := { program := "yteakfhmkaioaeaa", sum := "15059314d77595479a3bdac69146ac293f628a028ded03d3a78f6de4d107add9", func := "loop.example/g03306/laws.FnExactMostShows", spec := "fnExactMostShows", apart := false, narrowed := true }
def FnExactMostShowsUptoSaid : Prop := fnExactMostShowsUptoRow.holds Try.pinned (OpenSpec.upto fnExactMostShowsSpec)

/-- 'laws.FnExactAddShow', WHERE WHAT IT READS IS OF BULK AT MOST 1048576: true; the input reads as it did. -/
def fnExactAddShowUptoRow : OpenClaim := { program := "yteakfhmkaioaeaa", sum := "15059314d77595479a3bdac69146ac293f628a028ded03d3a78f6de4d107add9", func := "loop.example/g03306/laws.FnExactAddShow", spec := "fnExactAddShow", apart := false, narrowed := true }
def FnExactAddShowUptoSaid : Prop := fnExactAddShowUptoRow.holds Try.pinned (OpenSpec.upto fnExactAddShowSpec)

/-- 'laws.FnExactShareByWork', WHERE WHAT IT READS IS OF BULK AT MOST 1048576: true; the input reads as it did. -/
def fnExactShareByWorkUptoRow : OpenClaim := { program := "yteakfhmkaioaeaa", sum := "15059314d77595479a3bdac69146ac293f628a028ded03d3a78f6de4d107add9", func := "loop.example/g03306/laws.FnExactShareByWork", spec := "fnExactShareByWork", apart := false, narrowed := true }
def FnExactShareByWorkUptoSaid : Prop := fnExactShareByWorkUptoRow.holds Try.pinned (OpenSpec.upto fnExactShareByWorkSpec)

/-- 'laws.FnSeasons', WHERE WHAT IT READS IS OF BULK AT MOST 1048576: true; the input reads as it did. -/
def fnSeasonsUptoRow : OpenClaim := { program := "yteakfhmkaioaeaa", sum := "15059314d77595479a3bdac69146ac293f628a028ded03d3a78f6de4d107add9", func := "loop.example/g03306/laws.FnSeasons", spec := "fnSeasons", apart := false, narrowed := true }
def FnSeasonsUptoSaid : Prop := fnSeasonsUptoRow.holds Try.pinned (OpenSpec.upto fnSeasonsSpec)

end Rows
end Go.Proofs.Yteakfhmkaioaeaa

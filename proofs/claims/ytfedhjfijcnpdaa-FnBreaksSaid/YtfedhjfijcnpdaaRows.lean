/-
  No cell of these rows narrows 'for every input' (looked for: loops, veiled, ifaces, maps, wideKeys, modest, calm, conditions, laid).
  DERIVED. THE GIVEN ROWS OF THIS SEAT. 7 by the template 'for every input the law returns true; each argument reads behind the call as it read before'; 0 by the template 'total and deterministic' (their statements: YtfedhjfijcnpdaaTotals.lean).
  GIVEN WITH THE SEED: the statements are not yours to turn. If you find one false, say at which input.
  Laid BY PROGRAM, IN A SANDBOX (cutbox-rows.mjs): the forced cells as the released guide's own fill.sh prints them over the translation eae402eaa9aa3a2b… (all of the seat's roots in one cut). By AI agents, Wed Nov 11 2026. No macro, syntax, notation, axiom, sorry.
-/
import Derived.Test.YtfedhjfijcnpdaaChecked
import GoSem.Claim
import GoSem.ClaimJoined
import GoSem.ClaimMapViews
import Derived.JoinedTies
import Derived.KernelRfl
namespace Go.Proofs.Ytfedhjfijcnpdaa
/- THE CELL 'sum', in the pinned program and in every row, IS THE sha256 OF THE DUMP (.gsa) THAT YtfedhjfijcnpdaaProg.lean LOADS. Nothing in Lean hashes anything: it is a label: what it is worth is what the hold of that sum in a sandbox is worth. -/
noncomputable def Try.pinned : Pinned := { name := "ytfedhjfijcnpdaa", sum := "eae402eaa9aa3a2bca42669be40ea43b4db5c49919ec81d3c2b23b951a50db1f", checked := Try.checked }
namespace Rows
def none {H : Type} : Left H := { results := [], args := [] }

/-- 'laws.FnBreaks': WHATEVER THE INPUT: true; the input reads as it did. -/
def fnBreaksSpec : ChangeSpec := { name := "fnBreaks", fn := fun _ => fun
  | [d] => { results := [.lit (.bool true)], args := [d] }
  | _ => none }
def fnBreaksRow : OpenClaim := { program := "ytfedhjfijcnpdaa", sum := "eae402eaa9aa3a2bca42669be40ea43b4db5c49919ec81d3c2b23b951a50db1f", func := "loop.example/g03306/laws.FnBreaks", spec := "fnBreaks", recurses := true, apart := false }
def FnBreaksSaid : Prop := fnBreaksRow.holds Try.pinned (OpenSpec.ofChange fnBreaksSpec)

/-- ITS FALSE NEIGHBOUR: 'it returns false'. Refute it at one input. -/
def fnBreaksWrong : ChangeSpec := { name := "fnBreaks", fn := fun _ => fun
  | [d] => { results := [.lit (.bool false)], args := [d] }
  | _ => none }
def FnBreaksWrongFalsely : Prop := fnBreaksRow.holds Try.pinned (OpenSpec.ofChange fnBreaksWrong)

/-- 'laws.FnShadows': WHATEVER THE INPUT: true; the input reads as it did. -/
def fnShadowsSpec : ChangeSpec := { name := "fnShadows", fn := fun _ => fun
  | [d] => { results := [.lit (.bool true)], args := [d] }
  | _ => none }
def fnShadowsRow : OpenClaim := { program := "ytfedhjfijcnpdaa", sum := "eae402eaa9aa3a2bca42669be40ea43b4db5c49919ec81d3c2b23b951a50db1f", func := "loop.example/g03306/laws.FnShadows", spec := "fnShadows", recurses := true, apart := false }
def FnShadowsSaid : Prop := fnShadowsRow.holds Try.pinned (OpenSpec.ofChange fnShadowsSpec)

/-- ITS FALSE NEIGHBOUR: 'it returns false'. Refute it at one input. -/
def fnShadowsWrong : ChangeSpec := { name := "fnShadows", fn := fun _ => fun
  | [d] => { results := [.lit (.bool false)], args := [d] }
  | _ => none }
def FnShadowsWrongFalsely : Prop := fnShadowsRow.holds Try.pinned (OpenSpec.ofChange fnShadowsWrong)

/-- 'laws.FnExactHangsSame': WHATEVER THE INPUT: true; the input reads as it did. -/
def fnExactHangsSameSpec : ChangeSpec := { name := "fnExactHangsSame", fn := fun _ => fun
  | [d1, d2, d3] => { results := [.lit (.bool true)], args := [d1, d2, d3] }
  | _ => none }
def fnExactHangsSameRow : OpenClaim := { program := "ytfedhjfijcnpdaa", sum := "eae402eaa9aa3a2bca42669be40ea43b4db5c49919ec81d3c2b23b951a50db1f", func := "loop.example/g03306/laws.FnExactHangsSame", spec := "fnExactHangsSame", recurses := true, apart := false }
def FnExactHangsSameSaid : Prop := fnExactHangsSameRow.holds Try.pinned (OpenSpec.ofChange fnExactHangsSameSpec)

/-- ITS FALSE NEIGHBOUR: 'it returns false'. Refute it at one input. -/
def fnExactHangsSameWrong : ChangeSpec := { name := "fnExactHangsSame", fn := fun _ => fun
  | [d1, d2, d3] => { results := [.lit (.bool false)], args := [d1, d2, d3] }
  | _ => none }
def FnExactHangsSameWrongFalsely : Prop := fnExactHangsSameRow.holds Try.pinned (OpenSpec.ofChange fnExactHangsSameWrong)

/-- 'laws.FnExactFallOf': WHATEVER THE INPUT: true; the input reads as it did. -/
def fnExactFallOfSpec : ChangeSpec := { name := "fnExactFallOf", fn := fun _ => fun
  | [d1, d2, d3] => { results := [.lit (.bool true)], args := [d1, d2, d3] }
  | _ => none }
def fnExactFallOfRow : OpenClaim := { program := "ytfedhjfijcnpdaa", sum := "eae402eaa9aa3a2bca42669be40ea43b4db5c49919ec81d3c2b23b951a50db1f", func := "loop.example/g03306/laws.FnExactFallOf", spec := "fnExactFallOf", recurses := true, apart := false }
def FnExactFallOfSaid : Prop := fnExactFallOfRow.holds Try.pinned (OpenSpec.ofChange fnExactFallOfSpec)

/-- ITS FALSE NEIGHBOUR: 'it returns false'. Refute it at one input. -/
def fnExactFallOfWrong : ChangeSpec := { name := "fnExactFallOf", fn := fun _ => fun
  | [d1, d2, d3] => { results := [.lit (.bool false)], args := [d1, d2, d3] }
  | _ => none }
def FnExactFallOfWrongFalsely : Prop := fnExactFallOfRow.holds Try.pinned (OpenSpec.ofChange fnExactFallOfWrong)

/-- 'laws.FnExactIsNeeded': WHATEVER THE INPUT: true; the input reads as it did. -/
def fnExactIsNeededSpec : ChangeSpec := { name := "fnExactIsNeeded", fn := fun _ => fun
  | [d1, d2, d3] => { results := [.lit (.bool true)], args := [d1, d2, d3] }
  | _ => none }
def fnExactIsNeededRow : OpenClaim := { program := "ytfedhjfijcnpdaa", sum := "eae402eaa9aa3a2bca42669be40ea43b4db5c49919ec81d3c2b23b951a50db1f", func := "loop.example/g03306/laws.FnExactIsNeeded", spec := "fnExactIsNeeded", recurses := true, apart := false }
def FnExactIsNeededSaid : Prop := fnExactIsNeededRow.holds Try.pinned (OpenSpec.ofChange fnExactIsNeededSpec)

/-- ITS FALSE NEIGHBOUR: 'it returns false'. Refute it at one input. -/
def fnExactIsNeededWrong : ChangeSpec := { name := "fnExactIsNeeded", fn := fun _ => fun
  | [d1, d2, d3] => { results := [.lit (.bool false)], args := [d1, d2, d3] }
  | _ => none }
def FnExactIsNeededWrongFalsely : Prop := fnExactIsNeededRow.holds Try.pinned (OpenSpec.ofChange fnExactIsNeededWrong)

/-- 'laws.FnExactWorstString': WHATEVER THE INPUT: true; the input reads as it did. -/
def fnExactWorstStringSpec : ChangeSpec := { name := "fnExactWorstString", fn := fun _ => fun
  | [d1, d2] => { results := [.lit (.bool true)], args := [d1, d2] }
  | _ => none }
def fnExactWorstStringRow : OpenClaim := { program := "ytfedhjfijcnpdaa", sum := "eae402eaa9aa3a2bca42669be40ea43b4db5c49919ec81d3c2b23b951a50db1f", func := "loop.example/g03306/laws.FnExactWorstString", spec := "fnExactWorstString", recurses := true, apart := false }
def FnExactWorstStringSaid : Prop := fnExactWorstStringRow.holds Try.pinned (OpenSpec.ofChange fnExactWorstStringSpec)

/-- ITS FALSE NEIGHBOUR: 'it returns false'. Refute it at one input. -/
def fnExactWorstStringWrong : ChangeSpec := { name := "fnExactWorstString", fn := fun _ => fun
  | [d1, d2] => { results := [.lit (.bool false)], args := [d1, d2] }
  | _ => none }
def FnExactWorstStringWrongFalsely : Prop := fnExactWorstStringRow.holds Try.pinned (OpenSpec.ofChange fnExactWorstStringWrong)

/-- 'laws.FnExactFewestStrings': WHATEVER THE INPUT: true; the input reads as it did. -/
def fnExactFewestStringsSpec : ChangeSpec := { name := "fnExactFewestStrings", fn := fun _ => fun
  | [d1, d2] => { results := [.lit (.bool true)], args := [d1, d2] }
  | _ => none }
def fnExactFewestStringsRow : OpenClaim := { program := "ytfedhjfijcnpdaa", sum := "eae402eaa9aa3a2bca42669be40ea43b4db5c49919ec81d3c2b23b951a50db1f", func := "loop.example/g03306/laws.FnExactFewestStrings", spec := "fnExactFewestStrings", recurses := true, apart := false }
def FnExactFewestStringsSaid : Prop := fnExactFewestStringsRow.holds Try.pinned (OpenSpec.ofChange fnExactFewestStringsSpec)

/-- ITS FALSE NEIGHBOUR: 'it returns false'. Refute it at one input. -/
def fnExactFewestStringsWrong : ChangeSpec := { name := "fnExactFewestStrings", fn := fun _ => fun
  | [d1, d2] => { results := [.lit (.bool false)], args := [d1, d2] }
  | _ => none }
def FnExactFewestStringsWrongFalsely : Prop := fnExactFewestStringsRow.holds Try.pinned (OpenSpec.ofChange fnExactFewestStringsWrong)

/- THE SECOND FORM. 'bulk': how many values and letters a reading holds, each counted each time it is reached (what is shared counts as often as it is met; a slice's spare places count too). A statement '..UptoSaid' is the law's where the arguments, and the package variables that the reading takes, are together of bulk at most 1048576: NARROWER than '..Said'. Prove '..Said' where nothing that the law and all that it calls make is longer than what came in: it says more and counts as full. Else prove '..UptoSaid'. A law counts once. -/
mutual
def uptoBulk {H : Type} : DataW H → Nat
  | .lit (.string bytes) => bytes.length + 1
  | .lit _ => 1
  | .nil => 1
  | .ptr d => uptoBulk d + 1
  | .slice elems spare => uptoBulkAll elems + uptoBulkAll spare + 1
  | .agg parts => uptoBulkAll parts + 1
  | .iface _ d => uptoBulk d + 1
  | .map entries => uptoBulkEntries entries + 1
  | .held _ => 1
def uptoBulkAll {H : Type} : List (DataW H) → Nat
  | [] => 0
  | d :: r => uptoBulk d + uptoBulkAll r
def uptoBulkEntries {H : Type} : List (Lit × DataW H) → Nat
  | [] => 0
  | x :: r => uptoBulkEntry x + uptoBulkEntries r
def uptoBulkEntry {H : Type} : Lit × DataW H → Nat
  | (.string bytes, d) => bytes.length + uptoBulk d + 1
  | (_, d) => uptoBulk d + 1
 end
def uptoSmall : (H : Type) → List (DataW H) → Bool := fun _ ds => decide (uptoBulkAll ds ≤ 1048576)
def OpenSpec.upto (s : _root_.Go.ChangeSpec) : _root_.Go.OpenSpec := { _root_.Go.OpenSpec.ofChange s with cond := some uptoSmall }

/-- 'laws.FnBreaks', WHERE WHAT IT READS IS OF BULK AT MOST 1048576: true; the input reads as it did. -/
def fnBreaksUptoRow : OpenClaim := { program := "ytfedhjfijcnpdaa", sum := "eae402eaa9aa3a2bca42669be40ea43b4db5c49919ec81d3c2b23b951a50db1f", func := "loop.example/g03306/laws.FnBreaks", spec := "fnBreaks", recurses := true, apart := false, narrowed := true }
def FnBreaksUptoSaid : Prop := fnBreaksUptoRow.holds Try.pinned (OpenSpec.upto fnBreaksSpec)

/-- 'laws.FnShadows', WHERE WHAT IT READS IS OF BULK AT MOST 1048576: true; the input reads as it did. -/
def fnShadowsUptoRow : OpenClaim := { program := "ytfedhjfijcnpdaa", sum := "eae402eaa9aa3a2bca42669be40ea43b4db5c49919ec81d3c2b23b951a50db1f", func := "loop.example/g03306/laws.FnShadows", spec := "fnShadows", recurses := true, apart := false, narrowed := true }
def FnShadowsUptoSaid : Prop := fnShadowsUptoRow.holds Try.pinned (OpenSpec.upto fnShadowsSpec)

/-- 'laws.FnExactHangsSame', WHERE WHAT IT READS IS OF BULK AT MOST 1048576: true; the input reads as it did. -/
def fnExactHangsSameUptoRow : OpenClaim := { program := "ytfedhjfijcnpdaa", sum := "eae402eaa9aa3a2bca42669be40ea43b4db5c49919ec81d3c2b23b951a50db1f", func := "loop.example/g03306/laws.FnExactHangsSame", spec := "fnExactHangsSame", recurses := true, apart := false, narrowed := true }
def FnExactHangsSameUptoSaid : Prop := fnExactHangsSameUptoRow.holds Try.pinned (OpenSpec.upto fnExactHangsSameSpec)

/-- 'laws.FnExactFallOf', WHERE WHAT IT READS IS OF BULK AT MOST 1048576: true; the input reads as it did. -/
def fnExactFallOfUptoRow : OpenClaim := { program := "ytfedhjfijcnpdaa", sum := "eae402eaa9aa3a2bca42669be40ea43b4db5c49919ec81d3c2b23b951a50db1f", func := "loop.example/g03306/laws.FnExactFallOf", spec := "fnExactFallOf", recurses := true, apart := false, narrowed := true }
def FnExactFallOfUptoSaid : Prop := fnExactFallOfUptoRow.holds Try.pinned (OpenSpec.upto fnExactFallOfSpec)

/-- 'laws.FnExactIsNeeded', WHERE WHAT IT READS IS OF BULK AT MOST 1048576: true; the input reads as it did. -/
def fnExactIsNeededUptoRow : OpenClaim := { program := "ytfedhjfijcnpdaa", sum := "eae402eaa9aa3a2bca42669be40ea43b4db5c49919ec81d3c2b23b951a50db1f", func := "loop.example/g03306/laws.FnExactIsNeeded", spec := "fnExactIsNeeded", recurses := true, apart := false, narrowed := true }
def FnExactIsNeededUptoSaid : Prop := fnExactIsNeededUptoRow.holds Try.pinned (OpenSpec.upto fnExactIsNeededSpec)

/-- 'laws.FnExactWorstString', WHERE WHAT IT READS IS OF BULK AT MOST 1048576: true; the input reads as it did. -/
def fnExactWorstStringUptoRow : OpenClaim := { program := "ytfedhjfijcnpdaa", sum := "eae402eaa9aa3a2bca42669be40ea43b4db5c49919ec81d3c2b23b951a50db1f", func := "loop.example/g03306/laws.FnExactWorstString", spec := "fnExactWorstString", recurses := true, apart := false, narrowed := true }
def FnExactWorstStringUptoSaid : Prop := fnExactWorstStringUptoRow.holds Try.pinned (OpenSpec.upto fnExactWorstStringSpec)

/-- 'laws.FnExactFewestStrings', WHERE WHAT IT READS IS OF BULK AT MOST 1048576: true; the input reads as it did. -/
def fnExactFewestStringsUptoRow : OpenClaim := { program := "ytfedhjfijcnpdaa", sum := "eae402eaa9aa3a2bca42669be40ea43b4db5c49919ec81d3c2b23b951a50db1f", func := "loop.example/g03306/laws.FnExactFewestStrings", spec := "fnExactFewestStrings", recurses := true, apart := false, narrowed := true }
def FnExactFewestStringsUptoSaid : Prop := fnExactFewestStringsUptoRow.holds Try.pinned (OpenSpec.upto fnExactFewestStringsSpec)

end Rows
end Go.Proofs.Ytfedhjfijcnpdaa

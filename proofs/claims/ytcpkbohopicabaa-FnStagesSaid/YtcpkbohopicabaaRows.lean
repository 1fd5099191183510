/-
  No cell of these rows narrows 'for every input' (looked for: loops, veiled, ifaces, maps, wideKeys, modest, calm, conditions, laid).
  DERIVED. THE GIVEN ROWS OF THIS SEAT. 7 by the template 'for every input the law returns true; each argument reads behind the call as it read before'; 0 by the template 'total and deterministic' (their statements: YtcpkbohopicabaaTotals.lean).
  GIVEN WITH THE SEED: the statements are not yours to turn. If you find one false, say at which input.
  Laid BY PROGRAM, IN A SANDBOX (cutbox-rows.mjs): the forced cells as the released guide's own fill.sh prints them over the translation cb7cf5e005eebf15… (all of the seat's roots in one cut). By AI agents, Wed Nov 11 2026. No macro, syntax, notation, axiom, sorry.
-/
import Derived.Test.YtcpkbohopicabaaChecked
import GoSem.Claim
import GoSem.ClaimJoined
import GoSem.ClaimMapViews
import Derived.JoinedTies
import Derived.KernelRfl
namespace Go.Proofs.Ytcpkbohopicabaa
/- THE CELL 'sum', in the pinned program and in every row, IS THE sha256 OF THE DUMP (.gsa) THAT YtcpkbohopicabaaProg.lean LOADS. Nothing in Lean hashes anything: it is a label: what it is worth is what the hold of that sum in a sandbox is worth. -/
noncomputable def Try.pinned : Pinned := { name := "ytcpkbohopicabaa", sum := "cb7cf5e005eebf152aa5101bbb4d878e5255bfb7bf34e60703b5ac1a7c6c6545", checked := Try.checked }
namespace Rows
def none {H : Type} : Left H := { results := [], args := [] }

/-- 'laws.FnExactSpotsOk': WHATEVER THE INPUT: true; the input reads as it did. -/
def fnExactSpotsOkSpec : ChangeSpec := { name := "fnExactSpotsOk", fn := fun _ => fun
  | [d1, d2, d3] => { results := [.lit (.bool true)], args := [d1, d2, d3] }
  | _ => none }
def fnExactSpotsOkRow : OpenClaim := { program := "ytcpkbohopicabaa", sum := "cb7cf5e005eebf152aa5101bbb4d878e5255bfb7bf34e60703b5ac1a7c6c6545", func := "loop.example/g03306/laws.FnExactSpotsOk", spec := "fnExactSpotsOk", apart := false }
def FnExactSpotsOkSaid : Prop := fnExactSpotsOkRow.holds Try.pinned (OpenSpec.ofChange fnExactSpotsOkSpec)

/-- ITS FALSE NEIGHBOUR: 'it returns false'. Refute it at one input. -/
def fnExactSpotsOkWrong : ChangeSpec := { name := "fnExactSpotsOk", fn := fun _ => fun
  | [d1, d2, d3] => { results := [.lit (.bool false)], args := [d1, d2, d3] }
  | _ => none }
def FnExactSpotsOkWrongFalsely : Prop := fnExactSpotsOkRow.holds Try.pinned (OpenSpec.ofChange fnExactSpotsOkWrong)

/-- 'laws.FnTickets': WHATEVER THE INPUT: true; the input reads as it did. -/
def fnTicketsSpec : ChangeSpec := { name := "fnTickets", fn := fun _ => fun
  | [d] => { results := [.lit (.bool true)], args := [d] }
  | _ => none }
def fnTicketsRow : OpenClaim := { program := "ytcpkbohopicabaa", sum := "cb7cf5e005eebf152aa5101bbb4d878e5255bfb7bf34e60703b5ac1a7c6c6545", func := "loop.example/g03306/laws.FnTickets", spec := "fnTickets", apart := false }
def FnTicketsSaid : Prop := fnTicketsRow.holds Try.pinned (OpenSpec.ofChange fnTicketsSpec)

/-- ITS FALSE NEIGHBOUR: 'it returns false'. Refute it at one input. -/
def fnTicketsWrong : ChangeSpec := { name := "fnTickets", fn := fun _ => fun
  | [d] => { results := [.lit (.bool false)], args := [d] }
  | _ => none }
def FnTicketsWrongFalsely : Prop := fnTicketsRow.holds Try.pinned (OpenSpec.ofChange fnTicketsWrong)

/-- 'laws.FnExactCoversAll': WHATEVER THE INPUT: true; the input reads as it did. -/
def fnExactCoversAllSpec : ChangeSpec := { name := "fnExactCoversAll", fn := fun _ => fun
  | [d1, d2, d3] => { results := [.lit (.bool true)], args := [d1, d2, d3] }
  | _ => none }
def fnExactCoversAllRow : OpenClaim := { program := "ytcpkbohopicabaa", sum := "cb7cf5e005eebf152aa5101bbb4d878e5255bfb7bf34e60703b5ac1a7c6c6545", func := "loop.example/g03306/laws.FnExactCoversAll", spec := "fnExactCoversAll", apart := false }
def FnExactCoversAllSaid : Prop := fnExactCoversAllRow.holds Try.pinned (OpenSpec.ofChange fnExactCoversAllSpec)

/-- ITS FALSE NEIGHBOUR: 'it returns false'. Refute it at one input. -/
def fnExactCoversAllWrong : ChangeSpec := { name := "fnExactCoversAll", fn := fun _ => fun
  | [d1, d2, d3] => { results := [.lit (.bool false)], args := [d1, d2, d3] }
  | _ => none }
def FnExactCoversAllWrongFalsely : Prop := fnExactCoversAllRow.holds Try.pinned (OpenSpec.ofChange fnExactCoversAllWrong)

/-- 'laws.FnExactWalk': WHATEVER THE INPUT: true; the input reads as it did. -/
def fnExactWalkSpec : ChangeSpec := { name := "fnExactWalk", fn := fun _ => fun
  | [d1, d2, d3, d4, d5, d6] => { results := [.lit (.bool true)], args := [d1, d2, d3, d4, d5, d6] }
  | _ => none }
def fnExactWalkRow : OpenClaim := { program := "ytcpkbohopicabaa", sum := "cb7cf5e005eebf152aa5101bbb4d878e5255bfb7bf34e60703b5ac1a7c6c6545", func := "loop.example/g03306/laws.FnExactWalk", spec := "fnExactWalk", apart := false }
def FnExactWalkSaid : Prop := fnExactWalkRow.holds Try.pinned (OpenSpec.ofChange fnExactWalkSpec)

/-- ITS FALSE NEIGHBOUR: 'it returns false'. Refute it at one input. -/
def fnExactWalkWrong : ChangeSpec := { name := "fnExactWalk", fn := fun _ => fun
  | [d1, d2, d3, d4, d5, d6] => { results := [.lit (.bool false)], args := [d1, d2, d3, d4, d5, d6] }
  | _ => none }
def FnExactWalkWrongFalsely : Prop := fnExactWalkRow.holds Try.pinned (OpenSpec.ofChange fnExactWalkWrong)

/-- 'laws.FnExactWayAround': WHATEVER THE INPUT: true; the input reads as it did. -/
def fnExactWayAroundSpec : ChangeSpec := { name := "fnExactWayAround", fn := fun _ => fun
  | [d1, d2, d3, d4, d5] => { results := [.lit (.bool true)], args := [d1, d2, d3, d4, d5] }
  | _ => none }
def fnExactWayAroundRow : OpenClaim := { program := "ytcpkbohopicabaa", sum := "cb7cf5e005eebf152aa5101bbb4d878e5255bfb7bf34e60703b5ac1a7c6c6545", func := "loop.example/g03306/laws.FnExactWayAround", spec := "fnExactWayAround", apart := false }
def FnExactWayAroundSaid : Prop := fnExactWayAroundRow.holds Try.pinned (OpenSpec.ofChange fnExactWayAroundSpec)

/-- ITS FALSE NEIGHBOUR: 'it returns false'. Refute it at one input. -/
def fnExactWayAroundWrong : ChangeSpec := { name := "fnExactWayAround", fn := fun _ => fun
  | [d1, d2, d3, d4, d5] => { results := [.lit (.bool false)], args := [d1, d2, d3, d4, d5] }
  | _ => none }
def FnExactWayAroundWrongFalsely : Prop := fnExactWayAroundRow.holds Try.pinned (OpenSpec.ofChange fnExactWayAroundWrong)

/-- 'laws.FnExactCloseEnough': WHATEVER THE INPUT: true; the input reads as it did. -/
def fnExactCloseEnoughSpec : ChangeSpec := { name := "fnExactCloseEnough", fn := fun _ => fun
  | [d1, d2] => { results := [.lit (.bool true)], args := [d1, d2] }
  | _ => none }
def fnExactCloseEnoughRow : OpenClaim := { program := "ytcpkbohopicabaa", sum := "cb7cf5e005eebf152aa5101bbb4d878e5255bfb7bf34e60703b5ac1a7c6c6545", func := "loop.example/g03306/laws.FnExactCloseEnough", spec := "fnExactCloseEnough", apart := false }
def FnExactCloseEnoughSaid : Prop := fnExactCloseEnoughRow.holds Try.pinned (OpenSpec.ofChange fnExactCloseEnoughSpec)

/-- ITS FALSE NEIGHBOUR: 'it returns false'. Refute it at one input. -/
def fnExactCloseEnoughWrong : ChangeSpec := { name := "fnExactCloseEnough", fn := fun _ => fun
  | [d1, d2] => { results := [.lit (.bool false)], args := [d1, d2] }
  | _ => none }
def FnExactCloseEnoughWrongFalsely : Prop := fnExactCloseEnoughRow.holds Try.pinned (OpenSpec.ofChange fnExactCloseEnoughWrong)

/-- 'laws.FnStages': WHATEVER THE INPUT: true; the input reads as it did. -/
def fnStagesSpec : ChangeSpec := { name := "fnStages", fn := fun _ => fun
  | [d] => { results := [.lit (.bool true)], args := [d] }
  | _ => none }
def fnStagesRow : OpenClaim := { program := "ytcpkbohopicabaa", sum := "cb7cf5e005eebf152aa5101bbb4d878e5255bfb7bf34e60703b5ac1a7c6c6545", func := "loop.example/g03306/laws.FnStages", spec := "fnStages", apart := false }
def FnStagesSaid : Prop := fnStagesRow.holds Try.pinned (OpenSpec.ofChange fnStagesSpec)

/-- ITS FALSE NEIGHBOUR: 'it returns false'. Refute it at one input. -/
def fnStagesWrong : ChangeSpec := { name := "fnStages", fn := fun _ => fun
  | [d] => { results := [.lit (.bool false)], args := [d] }
  | _ => none }
def FnStagesWrongFalsely : Prop := fnStagesRow.holds Try.pinned (OpenSpec.ofChange fnStagesWrong)

/- THE SECOND FORM. 'bulk': how many values and letters a reading holds, each counted each time it is reached (what is shared counts as often as it is met; a slice's spare places count too). A statement '..UptoSaid' is the law's where the arguments, and the package variables that the reading takes, are together of bulk at most 1048576: NARROWER than '..Said'. Prove '..Said' where nothing that the law and all that it calls make is longer than what came in: it says more and counts as full. Else prove '..UptoSaid'. A law counts once. -/
mutual
def uptoBulk {H : Type} : DataW H → Nat
  | .lit (.string bytes) => bytes.length + 1
  | .lit _ => 1
  | .nil => 1
  | .ptr d => uptoBulk d + 1
  | .slice elems spare => uptoBulkAll elems + uptoBulkAll spare + 1
  | .agg parts => uptoBulkAll parts + 1
  | .iface _ d => uptoBulk d + 1
  | .map entries => uptoBulkEntries entries + 1
  | .held _ => 1
def uptoBulkAll {H : Type} : List (DataW H) → Nat
  | [] => 0
  | d :: r => uptoBulk d + uptoBulkAll r
def uptoBulkEntries {H : Type} : List (Lit × DataW H) → Nat
  | [] => 0
  | x :: r => uptoBulkEntry x + uptoBulkEntries r
def uptoBulkEntry {H : Type} : Lit × DataW H → Nat
  | (.string bytes, d) => bytes.length + uptoBulk d + 1
  | (_, d) => uptoBulk d + 1
 end
def uptoSmall : (H : Type) → List (DataW H) → Bool := fun _ ds => decide (uptoBulkAll ds ≤ 1048576)
def OpenSpec.upto (s : _root_.Go.ChangeSpec) : _root_.Go.OpenSpec := { _root_.Go.OpenSpec.ofChange s with cond := some uptoSmall }

/-- 'laws.FnExactSpotsOk', WHERE WHAT IT READS IS OF BULK AT MOST 1048576: true; the input reads as it did. -/
def fnExactSpotsOkUptoRow : OpenClaim := { program := "ytcpkbohopicabaa", sum := "cb7cf5e005eebf152aa5101bbb4d878e5255bfb7bf34e60703b5ac1a7c6c6545", func := "loop.example/g03306/laws.FnExactSpotsOk", spec := "fnExactSpotsOk", apart := false, narrowed := true }
def FnExactSpotsOkUptoSaid : Prop := fnExactSpotsOkUptoRow.holds Try.pinned (OpenSpec.upto fnExactSpotsOkSpec)

/-- 'laws.FnTickets', WHERE WHAT IT READS IS OF BULK AT MOST 1048576: true; the input reads as it did. -/
def fnTicketsUptoRow : OpenClaim := { program := "ytcpkbohopicabaa", sum := "cb7cf5e005eebf152aa5101bbb4d878e5255bfb7bf34e60703b5ac1a7c6c6545", func := "loop.example/g03306/laws.FnTickets", spec := "fnTickets", apart := false, narrowed := true }
def FnTicketsUptoSaid : Prop := fnTicketsUptoRow.holds Try.pinned (OpenSpec.upto fnTicketsSpec)

/-- 'laws.FnExactCoversAll', WHERE WHAT IT READS IS OF BULK AT MOST 1048576: true; the input reads as it did. -/
def fnExactCoversAllUptoRow : OpenClaim := { program := "ytcpkbohopicabaa", sum := "cb7cf5e005eebf152aa5101bbb4d878e5255bfb7bf34e60703b5ac1a7c6c6545", func := "loop.example/g03306/laws.FnExactCoversAll", spec := "fnExactCoversAll", apart := false, narrowed := true }
def FnExactCoversAllUptoSaid : Prop := fnExactCoversAllUptoRow.holds Try.pinned (OpenSpec.upto fnExactCoversAllSpec)

/-- 'laws.FnExactWalk', WHERE WHAT IT READS IS OF BULK AT MOST 1048576: true; the input reads as it did. -/
def fnExactWalkUptoRow : OpenClaim := { program := "ytcpkbohopicabaa", sum := "cb7cf5e005eebf152aa5101bbb4d878e5255bfb7bf34e60703b5ac1a7c6c6545", func := "loop.example/g03306/laws.FnExactWalk", spec := "fnExactWalk", apart := false, narrowed := true }
def FnExactWalkUptoSaid : Prop := fnExactWalkUptoRow.holds Try.pinned (OpenSpec.upto fnExactWalkSpec)

/-- 'laws.FnExactWayAround', WHERE WHAT IT READS IS OF BULK AT MOST 1048576: true; the input reads as it did. -/
def fnExactWayAroundUptoRow : OpenClaim := { program := "ytcpkbohopicabaa", sum := "cb7cf5e005eebf152aa5101bbb4d878e5255bfb7bf34e60703b5ac1a7c6c6545", func := "loop.example/g03306/laws.FnExactWayAround", spec := "fnExactWayAround", apart := false, narrowed := true }
def FnExactWayAroundUptoSaid : Prop := fnExactWayAroundUptoRow.holds Try.pinned (OpenSpec.upto fnExactWayAroundSpec)

/-- 'laws.FnExactCloseEnough', WHERE WHAT IT READS IS OF BULK AT MOST 1048576: true; the input reads as it did. -/
def fnExactCloseEnoughUptoRow : OpenClaim := { program := "ytcpkbohopicabaa", sum := "cb7cf5e005eebf152aa5101bbb4d878e5255bfb7bf34e60703b5ac1a7c6c6545", func := "loop.example/g03306/laws.FnExactCloseEnough", spec := "fnExactCloseEnough", apart := false, narrowed := true }
def FnExactCloseEnoughUptoSaid : Prop := fnExactCloseEnoughUptoRow.holds Try.pinned (OpenSpec.upto fnExactCloseEnoughSpec)

/-- 'laws.FnStages', WHERE WHAT IT READS IS OF BULK AT MOST 1048576: true; the input reads as it did. -/
def fnStagesUptoRow : OpenClaim := { program := "ytcpkbohopicabaa", sum := "cb7cf5e005eebf152aa5101bbb4d878e5255bfb7bf34e60703b5ac1a7c6c6545", func := "loop.example/g03306/laws.FnStages", spec := "fnStages", apart := false, narrowed := true }
def FnStagesUptoSaid : Prop := fnStagesUptoRow.holds Try.pinned (OpenSpec.upto fnStagesSpec)

end Rows
end Go.Proofs.Ytcpkbohopicabaa

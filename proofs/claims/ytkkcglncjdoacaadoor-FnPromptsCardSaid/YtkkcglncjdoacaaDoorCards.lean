/-
  DERIVED. GIVEN WITH THE SEED: THE CARDS: each row of YtkkcglncjdoacaaDoorRows.lean that lists a variable, with what it lists TIED to the program's text (the seventh form; the later family's looks); each row that meets fmt, with fmt's text TOLD by the authors' own Lean function (tested against real Go, not proved from fmt's source: count such statements apart). THE CARD IS WHAT COUNTS. Prove the row's statement (the work); the ties are given (YtkkcglncjdoacaaDoorTie.lean); close each card by the builder's one call (the guide's Derived/Test/ToyasCard.lean, 'card_holds'). Laid BY PROGRAM, IN A SANDBOX (cutbox-door.mjs). By AI agents, Wed Nov 11 2026. No macro, syntax, notation, axiom, sorry.
-/
import Derived.Test.YtkkcglncjdoacaaDoorRows
import GoSem.ClaimSeven
namespace Go.Proofs.YtkkcglncjdoacaaDoor
namespace Rows

/-- THE TIED CARD OF 'laws.FnExactNumbersText'. -/
def fnExactNumbersTextCard : Claim7 := { stood := { row := fnExactNumbersTextRow, standIns := [], harness := (true, "7ac4aea05df8411da8b2add4e69a709e1367bf187de924cdf95b7840d43ac1aa"), looks := true }, kinds := [], alts := [], laidByText := true, laidKinds := [.data, .data, .data], laidTests := true, laidLooks := .later }
def FnExactNumbersTextCardSaid : Prop := Claim7.holds Tryd.pinned (.plain (OpenSpec.ofChange fnExactNumbersTextSpec)) fnExactNumbersTextCard

/-- THE TIED CARD OF 'laws.FnExactCueText'. -/
def fnExactCueTextCard : Claim7 := { stood := { row := fnExactCueTextRow, standIns := [], harness := (true, "7ac4aea05df8411da8b2add4e69a709e1367bf187de924cdf95b7840d43ac1aa"), looks := true }, kinds := [], alts := [], laidByText := true, laidKinds := [.data, .data, .data], laidTests := true, laidLooks := .later }
def FnExactCueTextCardSaid : Prop := Claim7.holds Tryd.pinned (.plain (OpenSpec.ofChange fnExactCueTextSpec)) fnExactCueTextCard

/-- THE TIED CARD OF 'laws.FnExactSceneText'. -/
def fnExactSceneTextCard : Claim7 := { stood := { row := fnExactSceneTextRow, standIns := [], harness := (true, "7ac4aea05df8411da8b2add4e69a709e1367bf187de924cdf95b7840d43ac1aa"), looks := true }, kinds := [], alts := [], laidByText := true, laidKinds := [.data, .data, .data], laidTests := true, laidLooks := .later }
def FnExactSceneTextCardSaid : Prop := Claim7.holds Tryd.pinned (.plain (OpenSpec.ofChange fnExactSceneTextSpec)) fnExactSceneTextCard

/-- THE TIED CARD OF 'laws.FnExactReadNumbers'. -/
def fnExactReadNumbersCard : Claim7 := { stood := { row := fnExactReadNumbersRow, standIns := [], harness := (true, "7ac4aea05df8411da8b2add4e69a709e1367bf187de924cdf95b7840d43ac1aa"), looks := true }, kinds := [], alts := [], laidByText := true, laidKinds := [.data, .data, .data, .data, .sentinel, .sentinel, .pinned], laidTests := true, laidLooks := .later }
def FnExactReadNumbersCardSaid : Prop := Claim7.holds Tryd.pinned (.plain (OpenSpec.ofChange fnExactReadNumbersSpec)) fnExactReadNumbersCard

/-- THE TIED CARD OF 'laws.FnPrompts'. -/
def fnPromptsCard : Claim7 := { stood := { row := fnPromptsRow, standIns := [], harness := (true, "7ac4aea05df8411da8b2add4e69a709e1367bf187de924cdf95b7840d43ac1aa"), looks := true }, kinds := [], alts := [], laidByText := true, laidKinds := [.data, .data, .data, .data, .sentinel, .sentinel, .pinned], laidTests := true, laidLooks := .later }
def FnPromptsCardSaid : Prop := Claim7.holds Tryd.pinned (.plain (OpenSpec.ofChange fnPromptsSpec)) fnPromptsCard

/-- THE TIED CARD OF 'laws.FnExactReadCue'. -/
def fnExactReadCueCard : Claim7 := { stood := { row := fnExactReadCueRow, standIns := [], harness := (true, "7ac4aea05df8411da8b2add4e69a709e1367bf187de924cdf95b7840d43ac1aa"), looks := true }, kinds := [], alts := [], laidByText := true, laidKinds := [.data, .data, .data, .data, .sentinel, .sentinel, .pinned], laidTests := true, laidLooks := .later }
def FnExactReadCueCardSaid : Prop := Claim7.holds Tryd.pinned (.plain (OpenSpec.ofChange fnExactReadCueSpec)) fnExactReadCueCard

/-- THE TIED CARD OF 'laws.FnExactReadScene'. -/
def fnExactReadSceneCard : Claim7 := { stood := { row := fnExactReadSceneRow, standIns := [], harness := (true, "7ac4aea05df8411da8b2add4e69a709e1367bf187de924cdf95b7840d43ac1aa"), looks := true }, kinds := [], alts := [], laidByText := true, laidKinds := [.data, .data, .data, .data, .sentinel, .sentinel, .pinned], laidTests := true, laidLooks := .later }
def FnExactReadSceneCardSaid : Prop := Claim7.holds Tryd.pinned (.plain (OpenSpec.ofChange fnExactReadSceneSpec)) fnExactReadSceneCard

/-- THE SECOND FORM's CARD OF 'laws.FnExactNumbersText'. -/
def fnExactNumbersTextUptoCard : Claim7 := { stood := { row := fnExactNumbersTextUptoRow, standIns := [], harness := (true, "7ac4aea05df8411da8b2add4e69a709e1367bf187de924cdf95b7840d43ac1aa"), looks := true }, kinds := [], alts := [], laidByText := true, laidKinds := [.data, .data, .data], laidTests := true, laidLooks := .later }
def FnExactNumbersTextUptoCardSaid : Prop := Claim7.holds Tryd.pinned (.plain (OpenSpec.upto fnExactNumbersTextSpec)) fnExactNumbersTextUptoCard

/-- THE SECOND FORM's CARD OF 'laws.FnExactCueText'. -/
def fnExactCueTextUptoCard : Claim7 := { stood := { row := fnExactCueTextUptoRow, standIns := [], harness := (true, "7ac4aea05df8411da8b2add4e69a709e1367bf187de924cdf95b7840d43ac1aa"), looks := true }, kinds := [], alts := [], laidByText := true, laidKinds := [.data, .data, .data], laidTests := true, laidLooks := .later }
def FnExactCueTextUptoCardSaid : Prop := Claim7.holds Tryd.pinned (.plain (OpenSpec.upto fnExactCueTextSpec)) fnExactCueTextUptoCard

/-- THE SECOND FORM's CARD OF 'laws.FnExactSceneText'. -/
def fnExactSceneTextUptoCard : Claim7 := { stood := { row := fnExactSceneTextUptoRow, standIns := [], harness := (true, "7ac4aea05df8411da8b2add4e69a709e1367bf187de924cdf95b7840d43ac1aa"), looks := true }, kinds := [], alts := [], laidByText := true, laidKinds := [.data, .data, .data], laidTests := true, laidLooks := .later }
def FnExactSceneTextUptoCardSaid : Prop := Claim7.holds Tryd.pinned (.plain (OpenSpec.upto fnExactSceneTextSpec)) fnExactSceneTextUptoCard

/-- THE SECOND FORM's CARD OF 'laws.FnExactReadNumbers'. -/
def fnExactReadNumbersUptoCard : Claim7 := { stood := { row := fnExactReadNumbersUptoRow, standIns := [], harness := (true, "7ac4aea05df8411da8b2add4e69a709e1367bf187de924cdf95b7840d43ac1aa"), looks := true }, kinds := [], alts := [], laidByText := true, laidKinds := [.data, .data, .data, .data, .sentinel, .sentinel, .pinned], laidTests := true, laidLooks := .later }
def FnExactReadNumbersUptoCardSaid : Prop := Claim7.holds Tryd.pinned (.plain (OpenSpec.upto fnExactReadNumbersSpec)) fnExactReadNumbersUptoCard

/-- THE SECOND FORM's CARD OF 'laws.FnPrompts'. -/
def fnPromptsUptoCard : Claim7 := { stood := { row := fnPromptsUptoRow, standIns := [], harness := (true, "7ac4aea05df8411da8b2add4e69a709e1367bf187de924cdf95b7840d43ac1aa"), looks := true }, kinds := [], alts := [], laidByText := true, laidKinds := [.data, .data, .data, .data, .sentinel, .sentinel, .pinned], laidTests := true, laidLooks := .later }
def FnPromptsUptoCardSaid : Prop := Claim7.holds Tryd.pinned (.plain (OpenSpec.upto fnPromptsSpec)) fnPromptsUptoCard

/-- THE SECOND FORM's CARD OF 'laws.FnExactReadCue'. -/
def fnExactReadCueUptoCard : Claim7 := { stood := { row := fnExactReadCueUptoRow, standIns := [], harness := (true, "7ac4aea05df8411da8b2add4e69a709e1367bf187de924cdf95b7840d43ac1aa"), looks := true }, kinds := [], alts := [], laidByText := true, laidKinds := [.data, .data, .data, .data, .sentinel, .sentinel, .pinned], laidTests := true, laidLooks := .later }
def FnExactReadCueUptoCardSaid : Prop := Claim7.holds Tryd.pinned (.plain (OpenSpec.upto fnExactReadCueSpec)) fnExactReadCueUptoCard

/-- THE SECOND FORM's CARD OF 'laws.FnExactReadScene'. -/
def fnExactReadSceneUptoCard : Claim7 := { stood := { row := fnExactReadSceneUptoRow, standIns := [], harness := (true, "7ac4aea05df8411da8b2add4e69a709e1367bf187de924cdf95b7840d43ac1aa"), looks := true }, kinds := [], alts := [], laidByText := true, laidKinds := [.data, .data, .data, .data, .sentinel, .sentinel, .pinned], laidTests := true, laidLooks := .later }
def FnExactReadSceneUptoCardSaid : Prop := Claim7.holds Tryd.pinned (.plain (OpenSpec.upto fnExactReadSceneSpec)) fnExactReadSceneUptoCard
end Rows
end Go.Proofs.YtkkcglncjdoacaaDoor

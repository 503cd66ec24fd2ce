/-
  DERIVED. GIVEN WITH THE SEED: THE CARDS: each row of YtgbdnbbfgcogjaaGreatDoorRows.lean that lists a variable, with what it lists TIED to the program's text (the seventh form; the later family's looks); each row that meets fmt, with fmt's text TOLD by the authors' own Lean function (tested against real Go, not proved from fmt's source: count such statements apart). THE CARD IS WHAT COUNTS. Prove the row's statement (the work); the ties are given (YtgbdnbbfgcogjaaGreatDoorTie.lean); close each card by the builder's one call (the guide's Derived/Test/ToyasCard.lean, 'card_holds'). Laid BY PROGRAM, IN A SANDBOX (cutbox-door.mjs). By AI agents, Wed Nov 11 2026. No macro, syntax, notation, axiom, sorry.
-/
import Derived.Test.YtgbdnbbfgcogjaaGreatDoorRows
import GoSem.ClaimSeven
namespace Go.Proofs.YtgbdnbbfgcogjaaGreatDoor
namespace Rows

/-- THE TIED CARD OF 'laws.FnExactRulesGet'. -/
def fnExactRulesGetCard : Claim7 := { stood := { row := fnExactRulesGetRow, standIns := [], harness := (true, "f61e80bd2dfc30d34aa1dbb9d57781174b895e6ee703e121d0ea6ea454929872"), looks := true }, kinds := [], alts := [], laidByText := true, laidKinds := [.data, .data, .data, .data, .sentinel, .sentinel, .pinned], laidTests := true, laidLooks := .later }
def FnExactRulesGetCardSaid : Prop := Claim7.holds Tryz.pinned (.plain (OpenSpec.ofChange fnExactRulesGetSpec)) fnExactRulesGetCard

/-- THE TIED CARD OF 'laws.FnRulesText'. -/
def fnRulesTextCard : Claim7 := { stood := { row := fnRulesTextRow, standIns := [], harness := (true, "f61e80bd2dfc30d34aa1dbb9d57781174b895e6ee703e121d0ea6ea454929872"), looks := true }, kinds := [], alts := [], laidByText := true, laidKinds := [.data, .data, .data, .data, .sentinel, .sentinel, .pinned], laidTests := true, laidLooks := .later }
def FnRulesTextCardSaid : Prop := Claim7.holds Tryz.pinned (.plain (OpenSpec.ofChange fnRulesTextSpec)) fnRulesTextCard

/-- THE SECOND FORM's CARD OF 'laws.FnExactRulesGet'. -/
def fnExactRulesGetUptoCard : Claim7 := { stood := { row := fnExactRulesGetUptoRow, standIns := [], harness := (true, "f61e80bd2dfc30d34aa1dbb9d57781174b895e6ee703e121d0ea6ea454929872"), looks := true }, kinds := [], alts := [], laidByText := true, laidKinds := [.data, .data, .data, .data, .sentinel, .sentinel, .pinned], laidTests := true, laidLooks := .later }
def FnExactRulesGetUptoCardSaid : Prop := Claim7.holds Tryz.pinned (.plain (OpenSpec.upto fnExactRulesGetSpec)) fnExactRulesGetUptoCard

/-- THE SECOND FORM's CARD OF 'laws.FnRulesText'. -/
def fnRulesTextUptoCard : Claim7 := { stood := { row := fnRulesTextUptoRow, standIns := [], harness := (true, "f61e80bd2dfc30d34aa1dbb9d57781174b895e6ee703e121d0ea6ea454929872"), looks := true }, kinds := [], alts := [], laidByText := true, laidKinds := [.data, .data, .data, .data, .sentinel, .sentinel, .pinned], laidTests := true, laidLooks := .later }
def FnRulesTextUptoCardSaid : Prop := Claim7.holds Tryz.pinned (.plain (OpenSpec.upto fnRulesTextSpec)) fnRulesTextUptoCard
end Rows
end Go.Proofs.YtgbdnbbfgcogjaaGreatDoor

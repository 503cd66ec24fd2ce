/-
  DERIVED. GIVEN WITH THE SEED: THE CARDS: each row of YtgbdnbbfgcogjaaDoorRows.lean that lists a variable, with what it lists TIED to the program's text (the seventh form; the later family's looks); each row that meets fmt, with fmt's text TOLD by the authors' own Lean function (tested against real Go, not proved from fmt's source: count such statements apart). THE CARD IS WHAT COUNTS. Prove the row's statement (the work); the ties are given (YtgbdnbbfgcogjaaDoorTie.lean); close each card by the builder's one call (the guide's Derived/Test/ToyasCard.lean, 'card_holds'). Laid BY PROGRAM, IN A SANDBOX (cutbox-door.mjs). By AI agents, Wed Nov 11 2026. No macro, syntax, notation, axiom, sorry.
-/
import Derived.Test.YtgbdnbbfgcogjaaDoorRows
import GoSem.ClaimSeven
namespace Go.Proofs.YtgbdnbbfgcogjaaDoor
namespace Rows

/-- THE TIED CARD OF 'laws.FnExactAddrText'. -/
def fnExactAddrTextCard : Claim7 := { stood := { row := fnExactAddrTextRow, standIns := [], harness := (true, "97c8d26cae83a2f067d11ea8752188d9b630d7cf1ff1ddf7524d710d3f062912"), looks := true }, kinds := [], alts := [], laidByText := true, laidKinds := [.data, .data, .data], laidTests := true, laidLooks := .later }
def FnExactAddrTextCardSaid : Prop := Claim7.holds Tryd.pinned (.plain (OpenSpec.ofChange fnExactAddrTextSpec)) fnExactAddrTextCard

/-- THE TIED CARD OF 'laws.FnExactBlockText'. -/
def fnExactBlockTextCard : Claim7 := { stood := { row := fnExactBlockTextRow, standIns := [], harness := (true, "97c8d26cae83a2f067d11ea8752188d9b630d7cf1ff1ddf7524d710d3f062912"), looks := true }, kinds := [], alts := [], laidByText := true, laidKinds := [.data, .data, .data], laidTests := true, laidLooks := .later }
def FnExactBlockTextCardSaid : Prop := Claim7.holds Tryd.pinned (.plain (OpenSpec.ofChange fnExactBlockTextSpec)) fnExactBlockTextCard

/-- THE TIED CARD OF 'laws.FnExactRulesPut'. -/
def fnExactRulesPutCard : Claim7 := { stood := { row := fnExactRulesPutRow, standIns := [], harness := (true, "97c8d26cae83a2f067d11ea8752188d9b630d7cf1ff1ddf7524d710d3f062912"), looks := true }, kinds := [], alts := [], laidByText := true, laidKinds := [.data, .data, .data], laidTests := true, laidLooks := .later }
def FnExactRulesPutCardSaid : Prop := Claim7.holds Tryd.pinned (.plain (OpenSpec.ofChange fnExactRulesPutSpec)) fnExactRulesPutCard

/-- THE TIED CARD OF 'laws.FnExactAddrGet'. -/
def fnExactAddrGetCard : Claim7 := { stood := { row := fnExactAddrGetRow, standIns := [], harness := (true, "97c8d26cae83a2f067d11ea8752188d9b630d7cf1ff1ddf7524d710d3f062912"), looks := true }, kinds := [], alts := [], laidByText := true, laidKinds := [.data, .data, .data, .data, .sentinel, .sentinel, .pinned], laidTests := true, laidLooks := .later }
def FnExactAddrGetCardSaid : Prop := Claim7.holds Tryd.pinned (.plain (OpenSpec.ofChange fnExactAddrGetSpec)) fnExactAddrGetCard

/-- THE TIED CARD OF 'laws.FnExactBlockGet'. -/
def fnExactBlockGetCard : Claim7 := { stood := { row := fnExactBlockGetRow, standIns := [], harness := (true, "97c8d26cae83a2f067d11ea8752188d9b630d7cf1ff1ddf7524d710d3f062912"), looks := true }, kinds := [], alts := [], laidByText := true, laidKinds := [.data, .data, .data, .data, .sentinel, .sentinel, .pinned], laidTests := true, laidLooks := .later }
def FnExactBlockGetCardSaid : Prop := Claim7.holds Tryd.pinned (.plain (OpenSpec.ofChange fnExactBlockGetSpec)) fnExactBlockGetCard

/-- THE TIED CARD OF 'laws.FnAddrText'. -/
def fnAddrTextCard : Claim7 := { stood := { row := fnAddrTextRow, standIns := [], harness := (true, "97c8d26cae83a2f067d11ea8752188d9b630d7cf1ff1ddf7524d710d3f062912"), looks := true }, kinds := [], alts := [], laidByText := true, laidKinds := [.data, .data, .data, .data, .sentinel, .sentinel, .pinned], laidTests := true, laidLooks := .later }
def FnAddrTextCardSaid : Prop := Claim7.holds Tryd.pinned (.plain (OpenSpec.ofChange fnAddrTextSpec)) fnAddrTextCard

/-- THE TIED CARD OF 'laws.FnBlockText'. -/
def fnBlockTextCard : Claim7 := { stood := { row := fnBlockTextRow, standIns := [], harness := (true, "97c8d26cae83a2f067d11ea8752188d9b630d7cf1ff1ddf7524d710d3f062912"), looks := true }, kinds := [], alts := [], laidByText := true, laidKinds := [.data, .data, .data, .data, .sentinel, .sentinel, .pinned], laidTests := true, laidLooks := .later }
def FnBlockTextCardSaid : Prop := Claim7.holds Tryd.pinned (.plain (OpenSpec.ofChange fnBlockTextSpec)) fnBlockTextCard

/-- THE SECOND FORM's CARD OF 'laws.FnExactAddrText'. -/
def fnExactAddrTextUptoCard : Claim7 := { stood := { row := fnExactAddrTextUptoRow, standIns := [], harness := (true, "97c8d26cae83a2f067d11ea8752188d9b630d7cf1ff1ddf7524d710d3f062912"), looks := true }, kinds := [], alts := [], laidByText := true, laidKinds := [.data, .data, .data], laidTests := true, laidLooks := .later }
def FnExactAddrTextUptoCardSaid : Prop := Claim7.holds Tryd.pinned (.plain (OpenSpec.upto fnExactAddrTextSpec)) fnExactAddrTextUptoCard

/-- THE SECOND FORM's CARD OF 'laws.FnExactBlockText'. -/
def fnExactBlockTextUptoCard : Claim7 := { stood := { row := fnExactBlockTextUptoRow, standIns := [], harness := (true, "97c8d26cae83a2f067d11ea8752188d9b630d7cf1ff1ddf7524d710d3f062912"), looks := true }, kinds := [], alts := [], laidByText := true, laidKinds := [.data, .data, .data], laidTests := true, laidLooks := .later }
def FnExactBlockTextUptoCardSaid : Prop := Claim7.holds Tryd.pinned (.plain (OpenSpec.upto fnExactBlockTextSpec)) fnExactBlockTextUptoCard

/-- THE SECOND FORM's CARD OF 'laws.FnExactRulesPut'. -/
def fnExactRulesPutUptoCard : Claim7 := { stood := { row := fnExactRulesPutUptoRow, standIns := [], harness := (true, "97c8d26cae83a2f067d11ea8752188d9b630d7cf1ff1ddf7524d710d3f062912"), looks := true }, kinds := [], alts := [], laidByText := true, laidKinds := [.data, .data, .data], laidTests := true, laidLooks := .later }
def FnExactRulesPutUptoCardSaid : Prop := Claim7.holds Tryd.pinned (.plain (OpenSpec.upto fnExactRulesPutSpec)) fnExactRulesPutUptoCard

/-- THE SECOND FORM's CARD OF 'laws.FnExactAddrGet'. -/
def fnExactAddrGetUptoCard : Claim7 := { stood := { row := fnExactAddrGetUptoRow, standIns := [], harness := (true, "97c8d26cae83a2f067d11ea8752188d9b630d7cf1ff1ddf7524d710d3f062912"), looks := true }, kinds := [], alts := [], laidByText := true, laidKinds := [.data, .data, .data, .data, .sentinel, .sentinel, .pinned], laidTests := true, laidLooks := .later }
def FnExactAddrGetUptoCardSaid : Prop := Claim7.holds Tryd.pinned (.plain (OpenSpec.upto fnExactAddrGetSpec)) fnExactAddrGetUptoCard

/-- THE SECOND FORM's CARD OF 'laws.FnExactBlockGet'. -/
def fnExactBlockGetUptoCard : Claim7 := { stood := { row := fnExactBlockGetUptoRow, standIns := [], harness := (true, "97c8d26cae83a2f067d11ea8752188d9b630d7cf1ff1ddf7524d710d3f062912"), looks := true }, kinds := [], alts := [], laidByText := true, laidKinds := [.data, .data, .data, .data, .sentinel, .sentinel, .pinned], laidTests := true, laidLooks := .later }
def FnExactBlockGetUptoCardSaid : Prop := Claim7.holds Tryd.pinned (.plain (OpenSpec.upto fnExactBlockGetSpec)) fnExactBlockGetUptoCard

/-- THE SECOND FORM's CARD OF 'laws.FnAddrText'. -/
def fnAddrTextUptoCard : Claim7 := { stood := { row := fnAddrTextUptoRow, standIns := [], harness := (true, "97c8d26cae83a2f067d11ea8752188d9b630d7cf1ff1ddf7524d710d3f062912"), looks := true }, kinds := [], alts := [], laidByText := true, laidKinds := [.data, .data, .data, .data, .sentinel, .sentinel, .pinned], laidTests := true, laidLooks := .later }
def FnAddrTextUptoCardSaid : Prop := Claim7.holds Tryd.pinned (.plain (OpenSpec.upto fnAddrTextSpec)) fnAddrTextUptoCard

/-- THE SECOND FORM's CARD OF 'laws.FnBlockText'. -/
def fnBlockTextUptoCard : Claim7 := { stood := { row := fnBlockTextUptoRow, standIns := [], harness := (true, "97c8d26cae83a2f067d11ea8752188d9b630d7cf1ff1ddf7524d710d3f062912"), looks := true }, kinds := [], alts := [], laidByText := true, laidKinds := [.data, .data, .data, .data, .sentinel, .sentinel, .pinned], laidTests := true, laidLooks := .later }
def FnBlockTextUptoCardSaid : Prop := Claim7.holds Tryd.pinned (.plain (OpenSpec.upto fnBlockTextSpec)) fnBlockTextUptoCard
end Rows
end Go.Proofs.YtgbdnbbfgcogjaaDoor

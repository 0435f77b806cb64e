/-
  DERIVED. GIVEN WITH THE SEED: THE CARDS: each row of YtjompmflommadaaGreatDoorRows.lean that lists a variable, with what it lists TIED to the program's text (the seventh form; the later family's looks); each row that meets fmt, with fmt's text TOLD by the authors' own Lean function (tested against real Go, not proved from fmt's source: count such statements apart). THE CARD IS WHAT COUNTS. Prove the row's statement (the work); the ties are given (YtjompmflommadaaGreatDoorTie.lean); close each card by the builder's one call (the guide's Derived/Test/ToyasCard.lean, 'card_holds'). Laid BY PROGRAM, IN A SANDBOX (cutbox-door.mjs). By AI agents, Wed Nov 11 2026. No macro, syntax, notation, axiom, sorry.
-/
import Derived.Test.YtjompmflommadaaGreatDoorRows
import GoSem.ClaimSeven
namespace Go.Proofs.YtjompmflommadaaGreatDoor
namespace Rows

/-- THE TIED CARD OF 'laws.FnExactIsProgram'. -/
def fnExactIsProgramCard : Claim7 := { stood := { row := fnExactIsProgramRow, standIns := [], harness := (true, "d4ad9ba8e3a97d00c5cc123a56869d5bc39b5731d24b833c156fa00a7d4c1861"), looks := true }, kinds := [], alts := [], laidByText := true, laidKinds := [.data, .data, .data, .sentinel, .sentinel], laidTests := true, laidLooks := .later }
def FnExactIsProgramCardSaid : Prop := Claim7.holds Tryz.pinned (.plain (OpenSpec.ofChange fnExactIsProgramSpec)) fnExactIsProgramCard

/-- THE TIED CARD OF 'laws.FnExactDepthOf'. -/
def fnExactDepthOfCard : Claim7 := { stood := { row := fnExactDepthOfRow, standIns := [], harness := (true, "d4ad9ba8e3a97d00c5cc123a56869d5bc39b5731d24b833c156fa00a7d4c1861"), looks := true }, kinds := [], alts := [], laidByText := true, laidKinds := [.data, .data, .data, .sentinel, .sentinel], laidTests := true, laidLooks := .later }
def FnExactDepthOfCardSaid : Prop := Claim7.holds Tryz.pinned (.plain (OpenSpec.ofChange fnExactDepthOfSpec)) fnExactDepthOfCard

/-- THE TIED CARD OF 'laws.FnExactVariablesOf'. -/
def fnExactVariablesOfCard : Claim7 := { stood := { row := fnExactVariablesOfRow, standIns := [], harness := (true, "d4ad9ba8e3a97d00c5cc123a56869d5bc39b5731d24b833c156fa00a7d4c1861"), looks := true }, kinds := [], alts := [], laidByText := true, laidKinds := [.data, .data, .data, .sentinel, .sentinel], laidTests := true, laidLooks := .later }
def FnExactVariablesOfCardSaid : Prop := Claim7.holds Tryz.pinned (.plain (OpenSpec.ofChange fnExactVariablesOfSpec)) fnExactVariablesOfCard

/-- THE TIED CARD OF 'laws.FnExactProgramText'. -/
def fnExactProgramTextCard : Claim7 := { stood := { row := fnExactProgramTextRow, standIns := [], harness := (true, "d4ad9ba8e3a97d00c5cc123a56869d5bc39b5731d24b833c156fa00a7d4c1861"), looks := true }, kinds := [], alts := [], laidByText := true, laidKinds := [.data, .data, .data, .sentinel, .sentinel], laidTests := true, laidLooks := .later }
def FnExactProgramTextCardSaid : Prop := Claim7.holds Tryz.pinned (.plain (OpenSpec.ofChange fnExactProgramTextSpec)) fnExactProgramTextCard

/-- THE TIED CARD OF 'laws.FnExactParseProgram'. -/
def fnExactParseProgramCard : Claim7 := { stood := { row := fnExactParseProgramRow, standIns := [], harness := (true, "d4ad9ba8e3a97d00c5cc123a56869d5bc39b5731d24b833c156fa00a7d4c1861"), looks := true }, kinds := [], alts := [], laidByText := true, laidKinds := [.data, .data, .data, .data, .sentinel, .sentinel, .pinned], laidTests := true, laidLooks := .later }
def FnExactParseProgramCardSaid : Prop := Claim7.holds Tryz.pinned (.plain (OpenSpec.ofChange fnExactParseProgramSpec)) fnExactParseProgramCard

/-- THE TIED CARD OF 'laws.FnExactIsServer'. -/
def fnExactIsServerCard : Claim7 := { stood := { row := fnExactIsServerRow, standIns := [], harness := (true, "d4ad9ba8e3a97d00c5cc123a56869d5bc39b5731d24b833c156fa00a7d4c1861"), looks := true }, kinds := [], alts := [], laidByText := true, laidKinds := [.data, .data, .data, .sentinel, .sentinel], laidTests := true, laidLooks := .later }
def FnExactIsServerCardSaid : Prop := Claim7.holds Tryz.pinned (.plain (OpenSpec.ofChange fnExactIsServerSpec)) fnExactIsServerCard

/-- THE TIED CARD OF 'laws.FnExactRunExact'. -/
def fnExactRunExactCard : Claim7 := { stood := { row := fnExactRunExactRow, standIns := [], harness := (true, "d4ad9ba8e3a97d00c5cc123a56869d5bc39b5731d24b833c156fa00a7d4c1861"), looks := true }, kinds := [], alts := [], laidByText := true, laidKinds := [.data, .data, .data, .sentinel, .sentinel], laidTests := true, laidLooks := .later }
def FnExactRunExactCardSaid : Prop := Claim7.holds Tryz.pinned (.plain (OpenSpec.ofChange fnExactRunExactSpec)) fnExactRunExactCard

/-- THE TIED CARD OF 'laws.FnExactRunPair'. -/
def fnExactRunPairCard : Claim7 := { stood := { row := fnExactRunPairRow, standIns := [], harness := (true, "d4ad9ba8e3a97d00c5cc123a56869d5bc39b5731d24b833c156fa00a7d4c1861"), looks := true }, kinds := [], alts := [], laidByText := true, laidKinds := [.data, .data, .data, .sentinel, .sentinel], laidTests := true, laidLooks := .later }
def FnExactRunPairCardSaid : Prop := Claim7.holds Tryz.pinned (.plain (OpenSpec.ofChange fnExactRunPairSpec)) fnExactRunPairCard

/-- THE TIED CARD OF 'laws.FnProgramTexts'. -/
def fnProgramTextsCard : Claim7 := { stood := { row := fnProgramTextsRow, standIns := [], harness := (true, "d4ad9ba8e3a97d00c5cc123a56869d5bc39b5731d24b833c156fa00a7d4c1861"), looks := true }, kinds := [], alts := [], laidByText := true, laidKinds := [.data, .data, .data, .data, .sentinel, .sentinel, .pinned], laidTests := true, laidLooks := .later }
def FnProgramTextsCardSaid : Prop := Claim7.holds Tryz.pinned (.plain (OpenSpec.ofChange fnProgramTextsSpec)) fnProgramTextsCard

/-- THE SECOND FORM's CARD OF 'laws.FnExactIsProgram'. -/
def fnExactIsProgramUptoCard : Claim7 := { stood := { row := fnExactIsProgramUptoRow, standIns := [], harness := (true, "d4ad9ba8e3a97d00c5cc123a56869d5bc39b5731d24b833c156fa00a7d4c1861"), looks := true }, kinds := [], alts := [], laidByText := true, laidKinds := [.data, .data, .data, .sentinel, .sentinel], laidTests := true, laidLooks := .later }
def FnExactIsProgramUptoCardSaid : Prop := Claim7.holds Tryz.pinned (.plain (OpenSpec.upto fnExactIsProgramSpec)) fnExactIsProgramUptoCard

/-- THE SECOND FORM's CARD OF 'laws.FnExactDepthOf'. -/
def fnExactDepthOfUptoCard : Claim7 := { stood := { row := fnExactDepthOfUptoRow, standIns := [], harness := (true, "d4ad9ba8e3a97d00c5cc123a56869d5bc39b5731d24b833c156fa00a7d4c1861"), looks := true }, kinds := [], alts := [], laidByText := true, laidKinds := [.data, .data, .data, .sentinel, .sentinel], laidTests := true, laidLooks := .later }
def FnExactDepthOfUptoCardSaid : Prop := Claim7.holds Tryz.pinned (.plain (OpenSpec.upto fnExactDepthOfSpec)) fnExactDepthOfUptoCard

/-- THE SECOND FORM's CARD OF 'laws.FnExactVariablesOf'. -/
def fnExactVariablesOfUptoCard : Claim7 := { stood := { row := fnExactVariablesOfUptoRow, standIns := [], harness := (true, "d4ad9ba8e3a97d00c5cc123a56869d5bc39b5731d24b833c156fa00a7d4c1861"), looks := true }, kinds := [], alts := [], laidByText := true, laidKinds := [.data, .data, .data, .sentinel, .sentinel], laidTests := true, laidLooks := .later }
def FnExactVariablesOfUptoCardSaid : Prop := Claim7.holds Tryz.pinned (.plain (OpenSpec.upto fnExactVariablesOfSpec)) fnExactVariablesOfUptoCard

/-- THE SECOND FORM's CARD OF 'laws.FnExactProgramText'. -/
def fnExactProgramTextUptoCard : Claim7 := { stood := { row := fnExactProgramTextUptoRow, standIns := [], harness := (true, "d4ad9ba8e3a97d00c5cc123a56869d5bc39b5731d24b833c156fa00a7d4c1861"), looks := true }, kinds := [], alts := [], laidByText := true, laidKinds := [.data, .data, .data, .sentinel, .sentinel], laidTests := true, laidLooks := .later }
def FnExactProgramTextUptoCardSaid : Prop := Claim7.holds Tryz.pinned (.plain (OpenSpec.upto fnExactProgramTextSpec)) fnExactProgramTextUptoCard

/-- THE SECOND FORM's CARD OF 'laws.FnExactParseProgram'. -/
def fnExactParseProgramUptoCard : Claim7 := { stood := { row := fnExactParseProgramUptoRow, standIns := [], harness := (true, "d4ad9ba8e3a97d00c5cc123a56869d5bc39b5731d24b833c156fa00a7d4c1861"), looks := true }, kinds := [], alts := [], laidByText := true, laidKinds := [.data, .data, .data, .data, .sentinel, .sentinel, .pinned], laidTests := true, laidLooks := .later }
def FnExactParseProgramUptoCardSaid : Prop := Claim7.holds Tryz.pinned (.plain (OpenSpec.upto fnExactParseProgramSpec)) fnExactParseProgramUptoCard

/-- THE SECOND FORM's CARD OF 'laws.FnExactIsServer'. -/
def fnExactIsServerUptoCard : Claim7 := { stood := { row := fnExactIsServerUptoRow, standIns := [], harness := (true, "d4ad9ba8e3a97d00c5cc123a56869d5bc39b5731d24b833c156fa00a7d4c1861"), looks := true }, kinds := [], alts := [], laidByText := true, laidKinds := [.data, .data, .data, .sentinel, .sentinel], laidTests := true, laidLooks := .later }
def FnExactIsServerUptoCardSaid : Prop := Claim7.holds Tryz.pinned (.plain (OpenSpec.upto fnExactIsServerSpec)) fnExactIsServerUptoCard

/-- THE SECOND FORM's CARD OF 'laws.FnExactRunExact'. -/
def fnExactRunExactUptoCard : Claim7 := { stood := { row := fnExactRunExactUptoRow, standIns := [], harness := (true, "d4ad9ba8e3a97d00c5cc123a56869d5bc39b5731d24b833c156fa00a7d4c1861"), looks := true }, kinds := [], alts := [], laidByText := true, laidKinds := [.data, .data, .data, .sentinel, .sentinel], laidTests := true, laidLooks := .later }
def FnExactRunExactUptoCardSaid : Prop := Claim7.holds Tryz.pinned (.plain (OpenSpec.upto fnExactRunExactSpec)) fnExactRunExactUptoCard

/-- THE SECOND FORM's CARD OF 'laws.FnExactRunPair'. -/
def fnExactRunPairUptoCard : Claim7 := { stood := { row := fnExactRunPairUptoRow, standIns := [], harness := (true, "d4ad9ba8e3a97d00c5cc123a56869d5bc39b5731d24b833c156fa00a7d4c1861"), looks := true }, kinds := [], alts := [], laidByText := true, laidKinds := [.data, .data, .data, .sentinel, .sentinel], laidTests := true, laidLooks := .later }
def FnExactRunPairUptoCardSaid : Prop := Claim7.holds Tryz.pinned (.plain (OpenSpec.upto fnExactRunPairSpec)) fnExactRunPairUptoCard

/-- THE SECOND FORM's CARD OF 'laws.FnProgramTexts'. -/
def fnProgramTextsUptoCard : Claim7 := { stood := { row := fnProgramTextsUptoRow, standIns := [], harness := (true, "d4ad9ba8e3a97d00c5cc123a56869d5bc39b5731d24b833c156fa00a7d4c1861"), looks := true }, kinds := [], alts := [], laidByText := true, laidKinds := [.data, .data, .data, .data, .sentinel, .sentinel, .pinned], laidTests := true, laidLooks := .later }
def FnProgramTextsUptoCardSaid : Prop := Claim7.holds Tryz.pinned (.plain (OpenSpec.upto fnProgramTextsSpec)) fnProgramTextsUptoCard
end Rows
end Go.Proofs.YtjompmflommadaaGreatDoor

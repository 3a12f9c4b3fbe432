/-
  DERIVED. GIVEN WITH THE SEED: THE CARDS: each row of YtoijjielnbcphaaDoorRows.lean that lists a variable, with what it lists TIED to the program's text (the seventh form; the later family's looks); each row that meets fmt, with fmt's text TOLD by the authors' own Lean function (tested against real Go, not proved from fmt's source: count such statements apart). THE CARD IS WHAT COUNTS. Prove the row's statement (the work); the ties are given (YtoijjielnbcphaaDoorTie.lean); close each card by the builder's one call (the guide's Derived/Test/ToyasCard.lean, 'card_holds'). Laid BY PROGRAM, IN A SANDBOX (cutbox-door.mjs). By AI agents, Wed Nov 11 2026. No macro, syntax, notation, axiom, sorry.
-/
import Derived.Test.YtoijjielnbcphaaDoorRows
import GoSem.ClaimSeven
namespace Go.Proofs.YtoijjielnbcphaaDoor
namespace Rows

/-- THE TIED CARD OF 'laws.FnSounds'. -/
def fnSoundsCard : Claim7 := { stood := { row := fnSoundsRow, standIns := [], harness := (true, "ae26eb781d09861b174e40a479d3c549dac4dee95d142096bfbe7109ac87fb38"), looks := true }, kinds := [], alts := [], laidByText := true, laidKinds := [.data, .data, .pinned], laidTests := true, laidLooks := .later }
def FnSoundsCardSaid : Prop := Claim7.holds Tryd.pinned (.plain (OpenSpec.ofChange fnSoundsSpec)) fnSoundsCard

/-- THE TIED CARD OF 'laws.FnIntegerEncodings'. -/
def fnIntegerEncodingsCard : Claim7 := { stood := { row := fnIntegerEncodingsRow, standIns := [], harness := (true, "ae26eb781d09861b174e40a479d3c549dac4dee95d142096bfbe7109ac87fb38"), looks := true }, kinds := [], alts := [], laidByText := true, laidKinds := [.data, .data, .data, .sentinel, .sentinel], laidTests := true, laidLooks := .later }
def FnIntegerEncodingsCardSaid : Prop := Claim7.holds Tryd.pinned (.plain (OpenSpec.ofChange fnIntegerEncodingsSpec)) fnIntegerEncodingsCard

/-- THE TIED CARD OF 'laws.FnNumberScores'. -/
def fnNumberScoresCard : Claim7 := { stood := { row := fnNumberScoresRow, standIns := [], harness := (true, "ae26eb781d09861b174e40a479d3c549dac4dee95d142096bfbe7109ac87fb38"), looks := true }, kinds := [], alts := [], laidByText := true, laidKinds := [.data, .data, .data, .sentinel, .sentinel], laidTests := true, laidLooks := .later }
def FnNumberScoresCardSaid : Prop := Claim7.holds Tryd.pinned (.plain (OpenSpec.ofChange fnNumberScoresSpec)) fnNumberScoresCard

/-- THE SECOND FORM's CARD OF 'laws.FnSounds'. -/
def fnSoundsUptoCard : Claim7 := { stood := { row := fnSoundsUptoRow, standIns := [], harness := (true, "ae26eb781d09861b174e40a479d3c549dac4dee95d142096bfbe7109ac87fb38"), looks := true }, kinds := [], alts := [], laidByText := true, laidKinds := [.data, .data, .pinned], laidTests := true, laidLooks := .later }
def FnSoundsUptoCardSaid : Prop := Claim7.holds Tryd.pinned (.plain (OpenSpec.upto fnSoundsSpec)) fnSoundsUptoCard

/-- THE SECOND FORM's CARD OF 'laws.FnIntegerEncodings'. -/
def fnIntegerEncodingsUptoCard : Claim7 := { stood := { row := fnIntegerEncodingsUptoRow, standIns := [], harness := (true, "ae26eb781d09861b174e40a479d3c549dac4dee95d142096bfbe7109ac87fb38"), looks := true }, kinds := [], alts := [], laidByText := true, laidKinds := [.data, .data, .data, .sentinel, .sentinel], laidTests := true, laidLooks := .later }
def FnIntegerEncodingsUptoCardSaid : Prop := Claim7.holds Tryd.pinned (.plain (OpenSpec.upto fnIntegerEncodingsSpec)) fnIntegerEncodingsUptoCard

/-- THE SECOND FORM's CARD OF 'laws.FnNumberScores'. -/
def fnNumberScoresUptoCard : Claim7 := { stood := { row := fnNumberScoresUptoRow, standIns := [], harness := (true, "ae26eb781d09861b174e40a479d3c549dac4dee95d142096bfbe7109ac87fb38"), looks := true }, kinds := [], alts := [], laidByText := true, laidKinds := [.data, .data, .data, .sentinel, .sentinel], laidTests := true, laidLooks := .later }
def FnNumberScoresUptoCardSaid : Prop := Claim7.holds Tryd.pinned (.plain (OpenSpec.upto fnNumberScoresSpec)) fnNumberScoresUptoCard
end Rows
end Go.Proofs.YtoijjielnbcphaaDoor

/-
  DERIVED. GIVEN WITH THE SEED: THE CARDS: each row of YtoijjielnbcphaaGreatDoorRows.lean that lists a variable, with what it lists TIED to the program's text (the seventh form; the later family's looks); each row that meets fmt, with fmt's text TOLD by the authors' own Lean function (tested against real Go, not proved from fmt's source: count such statements apart). THE CARD IS WHAT COUNTS. Prove the row's statement (the work); the ties are given (YtoijjielnbcphaaGreatDoorTie.lean); close each card by the builder's one call (the guide's Derived/Test/ToyasCard.lean, 'card_holds'). Laid BY PROGRAM, IN A SANDBOX (cutbox-door.mjs). By AI agents, Wed Nov 11 2026. No macro, syntax, notation, axiom, sorry.
-/
import Derived.Test.YtoijjielnbcphaaGreatDoorRows
import GoSem.ClaimSeven
namespace Go.Proofs.YtoijjielnbcphaaGreatDoor
namespace Rows

/-- THE TIED CARD OF 'laws.FnNormalization'. -/
def fnNormalizationCard : Claim7 := { stood := { row := fnNormalizationRow, standIns := [], harness := (true, "a0091f916c37f88b34eaa2f340d06ae5cc5549dfce554a6a27381e39af59fb1e"), looks := false }, kinds := [], alts := [], laidByText := true, laidKinds := [.data, .pinned], laidTests := true, laidLooks := .later }
def FnNormalizationCardSaid : Prop := Claim7.holds Tryz.pinned (.plain (OpenSpec.ofChange fnNormalizationSpec)) fnNormalizationCard

/-- THE SECOND FORM's CARD OF 'laws.FnNormalization'. -/
def fnNormalizationUptoCard : Claim7 := { stood := { row := fnNormalizationUptoRow, standIns := [], harness := (true, "a0091f916c37f88b34eaa2f340d06ae5cc5549dfce554a6a27381e39af59fb1e"), looks := false }, kinds := [], alts := [], laidByText := true, laidKinds := [.data, .pinned], laidTests := true, laidLooks := .later }
def FnNormalizationUptoCardSaid : Prop := Claim7.holds Tryz.pinned (.plain (OpenSpec.upto fnNormalizationSpec)) fnNormalizationUptoCard
end Rows
end Go.Proofs.YtoijjielnbcphaaGreatDoor

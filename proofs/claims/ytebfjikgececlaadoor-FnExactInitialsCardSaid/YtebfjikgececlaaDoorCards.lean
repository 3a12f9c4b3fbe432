/-
  DERIVED. GIVEN WITH THE SEED: THE CARDS: each row of YtebfjikgececlaaDoorRows.lean that lists a variable, with what it lists TIED to the program's text (the seventh form; the later family's looks); each row that meets fmt, with fmt's text TOLD by the authors' own Lean function (tested against real Go, not proved from fmt's source: count such statements apart). THE CARD IS WHAT COUNTS. Prove the row's statement (the work); the ties are given (YtebfjikgececlaaDoorTie.lean); close each card by the builder's one call (the guide's Derived/Test/ToyasCard.lean, 'card_holds'). Laid BY PROGRAM, IN A SANDBOX (cutbox-door.mjs). By AI agents, Wed Nov 11 2026. No macro, syntax, notation, axiom, sorry.
-/
import Derived.Test.YtebfjikgececlaaDoorRows
import GoSem.ClaimSeven
namespace Go.Proofs.YtebfjikgececlaaDoor
namespace Rows

/-- THE TIED CARD OF 'laws.FnExactSoundex'. -/
def fnExactSoundexCard : Claim7 := { stood := { row := fnExactSoundexRow, standIns := [], harness := (true, "2fe669fe6bec73e4bf987ed876f27d4ed56cafde568b821c30c5c1a374c93d23"), looks := false }, kinds := [], alts := [], laidByText := true, laidKinds := [.data], laidTests := true, laidLooks := .later }
def FnExactSoundexCardSaid : Prop := Claim7.holds Tryd.pinned (.plain (OpenSpec.ofChange fnExactSoundexSpec)) fnExactSoundexCard

/-- THE TIED CARD OF 'laws.FnExactSoundsAlike'. -/
def fnExactSoundsAlikeCard : Claim7 := { stood := { row := fnExactSoundsAlikeRow, standIns := [], harness := (true, "2fe669fe6bec73e4bf987ed876f27d4ed56cafde568b821c30c5c1a374c93d23"), looks := false }, kinds := [], alts := [], laidByText := true, laidKinds := [.data], laidTests := true, laidLooks := .later }
def FnExactSoundsAlikeCardSaid : Prop := Claim7.holds Tryd.pinned (.plain (OpenSpec.ofChange fnExactSoundsAlikeSpec)) fnExactSoundsAlikeCard

/-- THE TIED CARD OF 'laws.FnExactFormatInt'. -/
def fnExactFormatIntCard : Claim7 := { stood := { row := fnExactFormatIntRow, standIns := [], harness := (true, "2fe669fe6bec73e4bf987ed876f27d4ed56cafde568b821c30c5c1a374c93d23"), looks := false }, kinds := [], alts := [], laidByText := true, laidKinds := [.data, .data, .data], laidTests := true, laidLooks := .later }
def FnExactFormatIntCardSaid : Prop := Claim7.holds Tryd.pinned (.plain (OpenSpec.ofChange fnExactFormatIntSpec)) fnExactFormatIntCard

/-- THE TIED CARD OF 'laws.FnExactStripMarks'. -/
def fnExactStripMarksCard : Claim7 := { stood := { row := fnExactStripMarksRow, standIns := [], harness := (true, "2fe669fe6bec73e4bf987ed876f27d4ed56cafde568b821c30c5c1a374c93d23"), looks := false }, kinds := [], alts := [], laidByText := true, laidKinds := [.data, .pinned], laidTests := true, laidLooks := .later }
def FnExactStripMarksCardSaid : Prop := Claim7.holds Tryd.pinned (.plain (OpenSpec.ofChange fnExactStripMarksSpec)) fnExactStripMarksCard

/-- THE TIED CARD OF 'laws.FnExactNormalize'. -/
def fnExactNormalizeCard : Claim7 := { stood := { row := fnExactNormalizeRow, standIns := [], harness := (true, "2fe669fe6bec73e4bf987ed876f27d4ed56cafde568b821c30c5c1a374c93d23"), looks := false }, kinds := [], alts := [], laidByText := true, laidKinds := [.data, .pinned], laidTests := true, laidLooks := .later }
def FnExactNormalizeCardSaid : Prop := Claim7.holds Tryd.pinned (.plain (OpenSpec.ofChange fnExactNormalizeSpec)) fnExactNormalizeCard

/-- THE TIED CARD OF 'laws.FnExactIsNormal'. -/
def fnExactIsNormalCard : Claim7 := { stood := { row := fnExactIsNormalRow, standIns := [], harness := (true, "2fe669fe6bec73e4bf987ed876f27d4ed56cafde568b821c30c5c1a374c93d23"), looks := false }, kinds := [], alts := [], laidByText := true, laidKinds := [.data, .pinned], laidTests := true, laidLooks := .later }
def FnExactIsNormalCardSaid : Prop := Claim7.holds Tryd.pinned (.plain (OpenSpec.ofChange fnExactIsNormalSpec)) fnExactIsNormalCard

/-- THE TIED CARD OF 'laws.FnExactInitials'. -/
def fnExactInitialsCard : Claim7 := { stood := { row := fnExactInitialsRow, standIns := [], harness := (true, "2fe669fe6bec73e4bf987ed876f27d4ed56cafde568b821c30c5c1a374c93d23"), looks := false }, kinds := [], alts := [], laidByText := true, laidKinds := [.data, .pinned], laidTests := true, laidLooks := .later }
def FnExactInitialsCardSaid : Prop := Claim7.holds Tryd.pinned (.plain (OpenSpec.ofChange fnExactInitialsSpec)) fnExactInitialsCard

/-- THE SECOND FORM's CARD OF 'laws.FnExactSoundex'. -/
def fnExactSoundexUptoCard : Claim7 := { stood := { row := fnExactSoundexUptoRow, standIns := [], harness := (true, "2fe669fe6bec73e4bf987ed876f27d4ed56cafde568b821c30c5c1a374c93d23"), looks := false }, kinds := [], alts := [], laidByText := true, laidKinds := [.data], laidTests := true, laidLooks := .later }
def FnExactSoundexUptoCardSaid : Prop := Claim7.holds Tryd.pinned (.plain (OpenSpec.upto fnExactSoundexSpec)) fnExactSoundexUptoCard

/-- THE SECOND FORM's CARD OF 'laws.FnExactSoundsAlike'. -/
def fnExactSoundsAlikeUptoCard : Claim7 := { stood := { row := fnExactSoundsAlikeUptoRow, standIns := [], harness := (true, "2fe669fe6bec73e4bf987ed876f27d4ed56cafde568b821c30c5c1a374c93d23"), looks := false }, kinds := [], alts := [], laidByText := true, laidKinds := [.data], laidTests := true, laidLooks := .later }
def FnExactSoundsAlikeUptoCardSaid : Prop := Claim7.holds Tryd.pinned (.plain (OpenSpec.upto fnExactSoundsAlikeSpec)) fnExactSoundsAlikeUptoCard

/-- THE SECOND FORM's CARD OF 'laws.FnExactFormatInt'. -/
def fnExactFormatIntUptoCard : Claim7 := { stood := { row := fnExactFormatIntUptoRow, standIns := [], harness := (true, "2fe669fe6bec73e4bf987ed876f27d4ed56cafde568b821c30c5c1a374c93d23"), looks := false }, kinds := [], alts := [], laidByText := true, laidKinds := [.data, .data, .data], laidTests := true, laidLooks := .later }
def FnExactFormatIntUptoCardSaid : Prop := Claim7.holds Tryd.pinned (.plain (OpenSpec.upto fnExactFormatIntSpec)) fnExactFormatIntUptoCard

/-- THE SECOND FORM's CARD OF 'laws.FnExactStripMarks'. -/
def fnExactStripMarksUptoCard : Claim7 := { stood := { row := fnExactStripMarksUptoRow, standIns := [], harness := (true, "2fe669fe6bec73e4bf987ed876f27d4ed56cafde568b821c30c5c1a374c93d23"), looks := false }, kinds := [], alts := [], laidByText := true, laidKinds := [.data, .pinned], laidTests := true, laidLooks := .later }
def FnExactStripMarksUptoCardSaid : Prop := Claim7.holds Tryd.pinned (.plain (OpenSpec.upto fnExactStripMarksSpec)) fnExactStripMarksUptoCard

/-- THE SECOND FORM's CARD OF 'laws.FnExactNormalize'. -/
def fnExactNormalizeUptoCard : Claim7 := { stood := { row := fnExactNormalizeUptoRow, standIns := [], harness := (true, "2fe669fe6bec73e4bf987ed876f27d4ed56cafde568b821c30c5c1a374c93d23"), looks := false }, kinds := [], alts := [], laidByText := true, laidKinds := [.data, .pinned], laidTests := true, laidLooks := .later }
def FnExactNormalizeUptoCardSaid : Prop := Claim7.holds Tryd.pinned (.plain (OpenSpec.upto fnExactNormalizeSpec)) fnExactNormalizeUptoCard

/-- THE SECOND FORM's CARD OF 'laws.FnExactIsNormal'. -/
def fnExactIsNormalUptoCard : Claim7 := { stood := { row := fnExactIsNormalUptoRow, standIns := [], harness := (true, "2fe669fe6bec73e4bf987ed876f27d4ed56cafde568b821c30c5c1a374c93d23"), looks := false }, kinds := [], alts := [], laidByText := true, laidKinds := [.data, .pinned], laidTests := true, laidLooks := .later }
def FnExactIsNormalUptoCardSaid : Prop := Claim7.holds Tryd.pinned (.plain (OpenSpec.upto fnExactIsNormalSpec)) fnExactIsNormalUptoCard

/-- THE SECOND FORM's CARD OF 'laws.FnExactInitials'. -/
def fnExactInitialsUptoCard : Claim7 := { stood := { row := fnExactInitialsUptoRow, standIns := [], harness := (true, "2fe669fe6bec73e4bf987ed876f27d4ed56cafde568b821c30c5c1a374c93d23"), looks := false }, kinds := [], alts := [], laidByText := true, laidKinds := [.data, .pinned], laidTests := true, laidLooks := .later }
def FnExactInitialsUptoCardSaid : Prop := Claim7.holds Tryd.pinned (.plain (OpenSpec.upto fnExactInitialsSpec)) fnExactInitialsUptoCard
end Rows
end Go.Proofs.YtebfjikgececlaaDoor

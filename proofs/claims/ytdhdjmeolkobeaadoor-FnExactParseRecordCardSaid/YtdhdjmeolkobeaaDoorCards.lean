/-
  DERIVED. GIVEN WITH THE SEED: THE CARDS: each row of YtdhdjmeolkobeaaDoorRows.lean that lists a variable, with what it lists TIED to the program's text (the seventh form; the later family's looks); each row that meets fmt, with fmt's text TOLD by the authors' own Lean function (tested against real Go, not proved from fmt's source: count such statements apart). THE CARD IS WHAT COUNTS. Prove the row's statement (the work); the ties are given (YtdhdjmeolkobeaaDoorTie.lean); close each card by the builder's one call (the guide's Derived/Test/ToyasCard.lean, 'card_holds'). Laid BY PROGRAM, IN A SANDBOX (cutbox-door.mjs). By AI agents, Wed Nov 11 2026. No macro, syntax, notation, axiom, sorry.
-/
import Derived.Test.YtdhdjmeolkobeaaDoorRows
import GoSem.ClaimSeven
namespace Go.Proofs.YtdhdjmeolkobeaaDoor
namespace Rows

/-- THE TIED CARD OF 'laws.FnExactRecordName'. -/
def fnExactRecordNameCard : Claim7 := { stood := { row := fnExactRecordNameRow, standIns := [], harness := (true, "f2440fede5d97d44161c5bbfe78fa7ab2ed56255e59fafdee5c646a5e9250ee6"), looks := true }, kinds := [], alts := [], laidByText := true, laidKinds := [.data, .data, .data], laidTests := true, laidLooks := .later }
def FnExactRecordNameCardSaid : Prop := Claim7.holds Tryd.pinned (.plain (OpenSpec.ofChange fnExactRecordNameSpec)) fnExactRecordNameCard

/-- THE TIED CARD OF 'laws.FnExactParseInt'. -/
def fnExactParseIntCard : Claim7 := { stood := { row := fnExactParseIntRow, standIns := [], harness := (true, "f2440fede5d97d44161c5bbfe78fa7ab2ed56255e59fafdee5c646a5e9250ee6"), looks := true }, kinds := [], alts := [], laidByText := true, laidKinds := [.data, .data, .data, .sentinel, .sentinel], laidTests := true, laidLooks := .later }
def FnExactParseIntCardSaid : Prop := Claim7.holds Tryd.pinned (.plain (OpenSpec.ofChange fnExactParseIntSpec)) fnExactParseIntCard

/-- THE TIED CARD OF 'laws.FnExactParseYear'. -/
def fnExactParseYearCard : Claim7 := { stood := { row := fnExactParseYearRow, standIns := [], harness := (true, "f2440fede5d97d44161c5bbfe78fa7ab2ed56255e59fafdee5c646a5e9250ee6"), looks := true }, kinds := [], alts := [], laidByText := true, laidKinds := [.data, .data, .data, .sentinel, .sentinel], laidTests := true, laidLooks := .later }
def FnExactParseYearCardSaid : Prop := Claim7.holds Tryd.pinned (.plain (OpenSpec.ofChange fnExactParseYearSpec)) fnExactParseYearCard

/-- THE TIED CARD OF 'laws.FnExactFormatRecord'. -/
def fnExactFormatRecordCard : Claim7 := { stood := { row := fnExactFormatRecordRow, standIns := [], harness := (true, "f2440fede5d97d44161c5bbfe78fa7ab2ed56255e59fafdee5c646a5e9250ee6"), looks := true }, kinds := [], alts := [], laidByText := true, laidKinds := [.data, .data, .data], laidTests := true, laidLooks := .later }
def FnExactFormatRecordCardSaid : Prop := Claim7.holds Tryd.pinned (.plain (OpenSpec.ofChange fnExactFormatRecordSpec)) fnExactFormatRecordCard

/-- THE TIED CARD OF 'laws.FnExactParseRecord'. -/
def fnExactParseRecordCard : Claim7 := { stood := { row := fnExactParseRecordRow, standIns := [], harness := (true, "f2440fede5d97d44161c5bbfe78fa7ab2ed56255e59fafdee5c646a5e9250ee6"), looks := true }, kinds := [], alts := [], laidByText := true, laidKinds := [.data, .data, .data, .data, .sentinel, .sentinel, .pinned], laidTests := true, laidLooks := .later }
def FnExactParseRecordCardSaid : Prop := Claim7.holds Tryd.pinned (.plain (OpenSpec.ofChange fnExactParseRecordSpec)) fnExactParseRecordCard

/-- THE TIED CARD OF 'laws.FnExactTokens'. -/
def fnExactTokensCard : Claim7 := { stood := { row := fnExactTokensRow, standIns := [], harness := (true, "f2440fede5d97d44161c5bbfe78fa7ab2ed56255e59fafdee5c646a5e9250ee6"), looks := true }, kinds := [], alts := [], laidByText := true, laidKinds := [.data, .pinned], laidTests := true, laidLooks := .later }
def FnExactTokensCardSaid : Prop := Claim7.holds Tryd.pinned (.plain (OpenSpec.ofChange fnExactTokensSpec)) fnExactTokensCard

/-- THE TIED CARD OF 'laws.FnExactSoundKeys'. -/
def fnExactSoundKeysCard : Claim7 := { stood := { row := fnExactSoundKeysRow, standIns := [], harness := (true, "f2440fede5d97d44161c5bbfe78fa7ab2ed56255e59fafdee5c646a5e9250ee6"), looks := true }, kinds := [], alts := [], laidByText := true, laidKinds := [.data, .data, .pinned], laidTests := true, laidLooks := .later }
def FnExactSoundKeysCardSaid : Prop := Claim7.holds Tryd.pinned (.plain (OpenSpec.ofChange fnExactSoundKeysSpec)) fnExactSoundKeysCard

/-- THE SECOND FORM's CARD OF 'laws.FnExactRecordName'. -/
def fnExactRecordNameUptoCard : Claim7 := { stood := { row := fnExactRecordNameUptoRow, standIns := [], harness := (true, "f2440fede5d97d44161c5bbfe78fa7ab2ed56255e59fafdee5c646a5e9250ee6"), looks := true }, kinds := [], alts := [], laidByText := true, laidKinds := [.data, .data, .data], laidTests := true, laidLooks := .later }
def FnExactRecordNameUptoCardSaid : Prop := Claim7.holds Tryd.pinned (.plain (OpenSpec.upto fnExactRecordNameSpec)) fnExactRecordNameUptoCard

/-- THE SECOND FORM's CARD OF 'laws.FnExactParseInt'. -/
def fnExactParseIntUptoCard : Claim7 := { stood := { row := fnExactParseIntUptoRow, standIns := [], harness := (true, "f2440fede5d97d44161c5bbfe78fa7ab2ed56255e59fafdee5c646a5e9250ee6"), looks := true }, kinds := [], alts := [], laidByText := true, laidKinds := [.data, .data, .data, .sentinel, .sentinel], laidTests := true, laidLooks := .later }
def FnExactParseIntUptoCardSaid : Prop := Claim7.holds Tryd.pinned (.plain (OpenSpec.upto fnExactParseIntSpec)) fnExactParseIntUptoCard

/-- THE SECOND FORM's CARD OF 'laws.FnExactParseYear'. -/
def fnExactParseYearUptoCard : Claim7 := { stood := { row := fnExactParseYearUptoRow, standIns := [], harness := (true, "f2440fede5d97d44161c5bbfe78fa7ab2ed56255e59fafdee5c646a5e9250ee6"), looks := true }, kinds := [], alts := [], laidByText := true, laidKinds := [.data, .data, .data, .sentinel, .sentinel], laidTests := true, laidLooks := .later }
def FnExactParseYearUptoCardSaid : Prop := Claim7.holds Tryd.pinned (.plain (OpenSpec.upto fnExactParseYearSpec)) fnExactParseYearUptoCard

/-- THE SECOND FORM's CARD OF 'laws.FnExactFormatRecord'. -/
def fnExactFormatRecordUptoCard : Claim7 := { stood := { row := fnExactFormatRecordUptoRow, standIns := [], harness := (true, "f2440fede5d97d44161c5bbfe78fa7ab2ed56255e59fafdee5c646a5e9250ee6"), looks := true }, kinds := [], alts := [], laidByText := true, laidKinds := [.data, .data, .data], laidTests := true, laidLooks := .later }
def FnExactFormatRecordUptoCardSaid : Prop := Claim7.holds Tryd.pinned (.plain (OpenSpec.upto fnExactFormatRecordSpec)) fnExactFormatRecordUptoCard

/-- THE SECOND FORM's CARD OF 'laws.FnExactParseRecord'. -/
def fnExactParseRecordUptoCard : Claim7 := { stood := { row := fnExactParseRecordUptoRow, standIns := [], harness := (true, "f2440fede5d97d44161c5bbfe78fa7ab2ed56255e59fafdee5c646a5e9250ee6"), looks := true }, kinds := [], alts := [], laidByText := true, laidKinds := [.data, .data, .data, .data, .sentinel, .sentinel, .pinned], laidTests := true, laidLooks := .later }
def FnExactParseRecordUptoCardSaid : Prop := Claim7.holds Tryd.pinned (.plain (OpenSpec.upto fnExactParseRecordSpec)) fnExactParseRecordUptoCard

/-- THE SECOND FORM's CARD OF 'laws.FnExactTokens'. -/
def fnExactTokensUptoCard : Claim7 := { stood := { row := fnExactTokensUptoRow, standIns := [], harness := (true, "f2440fede5d97d44161c5bbfe78fa7ab2ed56255e59fafdee5c646a5e9250ee6"), looks := true }, kinds := [], alts := [], laidByText := true, laidKinds := [.data, .pinned], laidTests := true, laidLooks := .later }
def FnExactTokensUptoCardSaid : Prop := Claim7.holds Tryd.pinned (.plain (OpenSpec.upto fnExactTokensSpec)) fnExactTokensUptoCard

/-- THE SECOND FORM's CARD OF 'laws.FnExactSoundKeys'. -/
def fnExactSoundKeysUptoCard : Claim7 := { stood := { row := fnExactSoundKeysUptoRow, standIns := [], harness := (true, "f2440fede5d97d44161c5bbfe78fa7ab2ed56255e59fafdee5c646a5e9250ee6"), looks := true }, kinds := [], alts := [], laidByText := true, laidKinds := [.data, .data, .pinned], laidTests := true, laidLooks := .later }
def FnExactSoundKeysUptoCardSaid : Prop := Claim7.holds Tryd.pinned (.plain (OpenSpec.upto fnExactSoundKeysSpec)) fnExactSoundKeysUptoCard
end Rows
end Go.Proofs.YtdhdjmeolkobeaaDoor

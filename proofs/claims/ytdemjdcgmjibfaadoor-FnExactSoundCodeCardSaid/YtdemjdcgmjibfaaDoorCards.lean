/-
  DERIVED. GIVEN WITH THE SEED: THE CARDS: each row of YtdemjdcgmjibfaaDoorRows.lean that lists a variable, with what it lists TIED to the program's text (the seventh form; the later family's looks); each row that meets fmt, with fmt's text TOLD by the authors' own Lean function (tested against real Go, not proved from fmt's source: count such statements apart). THE CARD IS WHAT COUNTS. Prove the row's statement (the work); the ties are given (YtdemjdcgmjibfaaDoorTie.lean); close each card by the builder's one call (the guide's Derived/Test/ToyasCard.lean, 'card_holds'). Laid BY PROGRAM, IN A SANDBOX (cutbox-door.mjs). By AI agents, Wed Nov 11 2026. No macro, syntax, notation, axiom, sorry.
-/
import Derived.Test.YtdemjdcgmjibfaaDoorRows
import GoSem.ClaimSeven
namespace Go.Proofs.YtdemjdcgmjibfaaDoor
namespace Rows

/-- THE TIED CARD OF 'laws.FnExactParseRecord'. -/
def fnExactParseRecordCard : Claim7 := { stood := { row := fnExactParseRecordRow, standIns := [], harness := (true, "31d7e9faf56f81019b7f30fefcce5f154acc2922f120811e6a0ae755cb9bd0f5"), looks := true }, kinds := [], alts := [], laidByText := true, laidKinds := [.data, .data, .data, .data, .sentinel, .sentinel, .pinned], laidTests := true, laidLooks := .later }
def FnExactParseRecordCardSaid : Prop := Claim7.holds Tryd.pinned (.plain (OpenSpec.ofChange fnExactParseRecordSpec)) fnExactParseRecordCard

/-- THE TIED CARD OF 'laws.FnExactTokens'. -/
def fnExactTokensCard : Claim7 := { stood := { row := fnExactTokensRow, standIns := [], harness := (true, "31d7e9faf56f81019b7f30fefcce5f154acc2922f120811e6a0ae755cb9bd0f5"), looks := true }, kinds := [], alts := [], laidByText := true, laidKinds := [.data, .pinned], laidTests := true, laidLooks := .later }
def FnExactTokensCardSaid : Prop := Claim7.holds Tryd.pinned (.plain (OpenSpec.ofChange fnExactTokensSpec)) fnExactTokensCard

/-- THE TIED CARD OF 'laws.FnExactSoundKeys'. -/
def fnExactSoundKeysCard : Claim7 := { stood := { row := fnExactSoundKeysRow, standIns := [], harness := (true, "31d7e9faf56f81019b7f30fefcce5f154acc2922f120811e6a0ae755cb9bd0f5"), looks := true }, kinds := [], alts := [], laidByText := true, laidKinds := [.data, .data, .pinned], laidTests := true, laidLooks := .later }
def FnExactSoundKeysCardSaid : Prop := Claim7.holds Tryd.pinned (.plain (OpenSpec.ofChange fnExactSoundKeysSpec)) fnExactSoundKeysCard

/-- THE TIED CARD OF 'laws.FnExactSoundCode'. -/
def fnExactSoundCodeCard : Claim7 := { stood := { row := fnExactSoundCodeRow, standIns := [], harness := (true, "31d7e9faf56f81019b7f30fefcce5f154acc2922f120811e6a0ae755cb9bd0f5"), looks := true }, kinds := [], alts := [], laidByText := true, laidKinds := [.data], laidTests := true, laidLooks := .later }
def FnExactSoundCodeCardSaid : Prop := Claim7.holds Tryd.pinned (.plain (OpenSpec.ofChange fnExactSoundCodeSpec)) fnExactSoundCodeCard

/-- THE SECOND FORM's CARD OF 'laws.FnExactParseRecord'. -/
def fnExactParseRecordUptoCard : Claim7 := { stood := { row := fnExactParseRecordUptoRow, standIns := [], harness := (true, "31d7e9faf56f81019b7f30fefcce5f154acc2922f120811e6a0ae755cb9bd0f5"), looks := true }, kinds := [], alts := [], laidByText := true, laidKinds := [.data, .data, .data, .data, .sentinel, .sentinel, .pinned], laidTests := true, laidLooks := .later }
def FnExactParseRecordUptoCardSaid : Prop := Claim7.holds Tryd.pinned (.plain (OpenSpec.upto fnExactParseRecordSpec)) fnExactParseRecordUptoCard

/-- THE SECOND FORM's CARD OF 'laws.FnExactTokens'. -/
def fnExactTokensUptoCard : Claim7 := { stood := { row := fnExactTokensUptoRow, standIns := [], harness := (true, "31d7e9faf56f81019b7f30fefcce5f154acc2922f120811e6a0ae755cb9bd0f5"), looks := true }, kinds := [], alts := [], laidByText := true, laidKinds := [.data, .pinned], laidTests := true, laidLooks := .later }
def FnExactTokensUptoCardSaid : Prop := Claim7.holds Tryd.pinned (.plain (OpenSpec.upto fnExactTokensSpec)) fnExactTokensUptoCard

/-- THE SECOND FORM's CARD OF 'laws.FnExactSoundKeys'. -/
def fnExactSoundKeysUptoCard : Claim7 := { stood := { row := fnExactSoundKeysUptoRow, standIns := [], harness := (true, "31d7e9faf56f81019b7f30fefcce5f154acc2922f120811e6a0ae755cb9bd0f5"), looks := true }, kinds := [], alts := [], laidByText := true, laidKinds := [.data, .data, .pinned], laidTests := true, laidLooks := .later }
def FnExactSoundKeysUptoCardSaid : Prop := Claim7.holds Tryd.pinned (.plain (OpenSpec.upto fnExactSoundKeysSpec)) fnExactSoundKeysUptoCard

/-- THE SECOND FORM's CARD OF 'laws.FnExactSoundCode'. -/
def fnExactSoundCodeUptoCard : Claim7 := { stood := { row := fnExactSoundCodeUptoRow, standIns := [], harness := (true, "31d7e9faf56f81019b7f30fefcce5f154acc2922f120811e6a0ae755cb9bd0f5"), looks := true }, kinds := [], alts := [], laidByText := true, laidKinds := [.data], laidTests := true, laidLooks := .later }
def FnExactSoundCodeUptoCardSaid : Prop := Claim7.holds Tryd.pinned (.plain (OpenSpec.upto fnExactSoundCodeSpec)) fnExactSoundCodeUptoCard
end Rows
end Go.Proofs.YtdemjdcgmjibfaaDoor

/-
  NARROWER THAN 'FOR EVERY INPUT', by the rows' own cells (each row's printed sentence says how): FnExactSoundex: laid · FnExactSoundsAlike: laid · FnExactFormatInt: laid · FnExactStripMarks: laid · FnExactNormalize: laid · FnExactIsNormal: laid · FnExactInitials: laid.
  DERIVED. THE GIVEN ROWS OF THIS SEAT. 7 by the template 'for every input the law returns true; each argument reads behind the call as it read before'; 0 by the template 'total and deterministic' (their statements: YtebfjikgececlaaDoorTotals.lean).
  GIVEN WITH THE SEED: the statements are not yours to turn. If you find one false, say at which input.
  Laid BY PROGRAM, IN A SANDBOX (cutbox-rows.mjs): the forced cells as the released guide's own fill.sh prints them over the translation 1c9deb84e2799333… (all of the seat's roots in one cut). By AI agents, Wed Nov 11 2026. No macro, syntax, notation, axiom, sorry.
-/
import Derived.Test.YtebfjikgececlaaDoorChecked
import GoSem.PinnedTables
import GoSem.Claim
import GoSem.ClaimJoined
import GoSem.ClaimMapViews
import Derived.JoinedTies
import Derived.KernelRfl
namespace Go.Proofs.YtebfjikgececlaaDoor
/- THE CELL 'sum', in the pinned program and in every row, IS THE sha256 OF THE DUMP (.gsa) THAT YtebfjikgececlaaDoorProg.lean LOADS. Nothing in Lean hashes anything: it is a label: what it is worth is what the hold of that sum in a sandbox is worth. -/
noncomputable def Tryd.pinned : Pinned := { name := "ytebfjikgececlaadoor", sum := "1c9deb84e27993331a690b2d9cc6e180b6c89547fffbd50f87cb9ad1d3bb068c", checked := Tryd.checked }
namespace Rows
def none {H : Type} : Left H := { results := [], args := [] }

/- WHAT THE LISTED PACKAGE-LEVEL VARIABLES READ AS WHEN THE CALL BEGINS. Each datum BY PROGRAM (the guide's laid-datum.mjs) off the statement by which the dump's own 'gosem.cut.vars' lays the variable. In a bare row this is a premise. The card (YtebfjikgececlaaDoorCards.lean) ties it to the program's text. -/
def laid_loop_example_g01923_impl_soundCodes {H : Type} : DataW H := .agg [.lit (.int .i64 0), .lit (.int .i64 1), .lit (.int .i64 2), .lit (.int .i64 3), .lit (.int .i64 0), .lit (.int .i64 1), .lit (.int .i64 2), .lit (.int .i64 (-1)), .lit (.int .i64 0), .lit (.int .i64 2), .lit (.int .i64 2), .lit (.int .i64 4), .lit (.int .i64 5), .lit (.int .i64 5), .lit (.int .i64 0), .lit (.int .i64 1), .lit (.int .i64 2), .lit (.int .i64 6), .lit (.int .i64 2), .lit (.int .i64 3), .lit (.int .i64 0), .lit (.int .i64 1), .lit (.int .i64 (-1)), .lit (.int .i64 2), .lit (.int .i64 0), .lit (.int .i64 2)]
def laid_math_bits_deBruijn32tab {H : Type} : DataW H := .agg [.lit (.int .u8 0), .lit (.int .u8 1), .lit (.int .u8 28), .lit (.int .u8 2), .lit (.int .u8 29), .lit (.int .u8 14), .lit (.int .u8 24), .lit (.int .u8 3), .lit (.int .u8 30), .lit (.int .u8 22), .lit (.int .u8 20), .lit (.int .u8 15), .lit (.int .u8 25), .lit (.int .u8 17), .lit (.int .u8 4), .lit (.int .u8 8), .lit (.int .u8 31), .lit (.int .u8 27), .lit (.int .u8 13), .lit (.int .u8 23), .lit (.int .u8 21), .lit (.int .u8 19), .lit (.int .u8 16), .lit (.int .u8 7), .lit (.int .u8 26), .lit (.int .u8 12), .lit (.int .u8 18), .lit (.int .u8 6), .lit (.int .u8 11), .lit (.int .u8 5), .lit (.int .u8 10), .lit (.int .u8 9)]
def laid_math_bits_deBruijn64tab {H : Type} : DataW H := .agg [.lit (.int .u8 0), .lit (.int .u8 1), .lit (.int .u8 56), .lit (.int .u8 2), .lit (.int .u8 57), .lit (.int .u8 49), .lit (.int .u8 28), .lit (.int .u8 3), .lit (.int .u8 61), .lit (.int .u8 58), .lit (.int .u8 42), .lit (.int .u8 50), .lit (.int .u8 38), .lit (.int .u8 29), .lit (.int .u8 17), .lit (.int .u8 4), .lit (.int .u8 62), .lit (.int .u8 47), .lit (.int .u8 59), .lit (.int .u8 36), .lit (.int .u8 45), .lit (.int .u8 43), .lit (.int .u8 51), .lit (.int .u8 22), .lit (.int .u8 53), .lit (.int .u8 39), .lit (.int .u8 33), .lit (.int .u8 30), .lit (.int .u8 24), .lit (.int .u8 18), .lit (.int .u8 12), .lit (.int .u8 5), .lit (.int .u8 63), .lit (.int .u8 55), .lit (.int .u8 48), .lit (.int .u8 27), .lit (.int .u8 60), .lit (.int .u8 41), .lit (.int .u8 37), .lit (.int .u8 16), .lit (.int .u8 46), .lit (.int .u8 35), .lit (.int .u8 44), .lit (.int .u8 21), .lit (.int .u8 52), .lit (.int .u8 32), .lit (.int .u8 23), .lit (.int .u8 11), .lit (.int .u8 54), .lit (.int .u8 26), .lit (.int .u8 40), .lit (.int .u8 15), .lit (.int .u8 34), .lit (.int .u8 20), .lit (.int .u8 31), .lit (.int .u8 10), .lit (.int .u8 25), .lit (.int .u8 14), .lit (.int .u8 19), .lit (.int .u8 9), .lit (.int .u8 13), .lit (.int .u8 8), .lit (.int .u8 7), .lit (.int .u8 6)]
def laid_internal_strconv_uint64pow10 {H : Type} : DataW H := .agg [.lit (.int .u64 1), .lit (.int .u64 10), .lit (.int .u64 100), .lit (.int .u64 1000), .lit (.int .u64 10000), .lit (.int .u64 100000), .lit (.int .u64 1000000), .lit (.int .u64 10000000), .lit (.int .u64 100000000), .lit (.int .u64 1000000000), .lit (.int .u64 10000000000), .lit (.int .u64 100000000000), .lit (.int .u64 1000000000000), .lit (.int .u64 10000000000000), .lit (.int .u64 100000000000000), .lit (.int .u64 1000000000000000), .lit (.int .u64 10000000000000000), .lit (.int .u64 100000000000000000), .lit (.int .u64 1000000000000000000), .lit (.int .u64 10000000000000000000)]
def laid_unicode_utf8_acceptRanges {H : Type} : DataW H := .agg [.agg [.lit (.int .u8 128), .lit (.int .u8 191)], .agg [.lit (.int .u8 160), .lit (.int .u8 191)], .agg [.lit (.int .u8 128), .lit (.int .u8 159)], .agg [.lit (.int .u8 144), .lit (.int .u8 191)], .agg [.lit (.int .u8 128), .lit (.int .u8 143)], .agg [.lit (.int .u8 0), .lit (.int .u8 0)], .agg [.lit (.int .u8 0), .lit (.int .u8 0)], .agg [.lit (.int .u8 0), .lit (.int .u8 0)], .agg [.lit (.int .u8 0), .lit (.int .u8 0)], .agg [.lit (.int .u8 0), .lit (.int .u8 0)], .agg [.lit (.int .u8 0), .lit (.int .u8 0)], .agg [.lit (.int .u8 0), .lit (.int .u8 0)], .agg [.lit (.int .u8 0), .lit (.int .u8 0)], .agg [.lit (.int .u8 0), .lit (.int .u8 0)], .agg [.lit (.int .u8 0), .lit (.int .u8 0)], .agg [.lit (.int .u8 0), .lit (.int .u8 0)]]
/-- One of Go's own tables, pinned by name: the form's constant. -/
def laid_unicode_utf8_first : DataW Unit := Go.Pinned.utf8First

/-- 'laws.FnExactSoundex': WHATEVER THE INPUT: true; the input reads as it did. -/
def fnExactSoundexSpec : ChangeSpec := { name := "fnExactSoundex", vars := ["loop.example/g01923/impl.soundCodes"], fn := fun _ => fun
  | [d, g1] => { results := [.lit (.bool true)], args := [d], vars := [g1] }
  | _ => none }
def fnExactSoundexRow : OpenClaim := { program := "ytebfjikgececlaadoor", sum := "1c9deb84e27993331a690b2d9cc6e180b6c89547fffbd50f87cb9ad1d3bb068c", func := "loop.example/g01923/laws.FnExactSoundex", spec := "fnExactSoundex", unfollowed := true, recurses := true, named := ["loop.example/g01923/impl.soundCodes"], apart := false, laid := [("loop.example/g01923/impl.soundCodes", laid_loop_example_g01923_impl_soundCodes)] }
def FnExactSoundexSaid : Prop := fnExactSoundexRow.holds Tryd.pinned (OpenSpec.ofChange fnExactSoundexSpec)

/-- ITS FALSE NEIGHBOUR: 'it returns false'. Refute it at one input. -/
def fnExactSoundexWrong : ChangeSpec := { name := "fnExactSoundex", vars := ["loop.example/g01923/impl.soundCodes"], fn := fun _ => fun
  | [d, g1] => { results := [.lit (.bool false)], args := [d], vars := [g1] }
  | _ => none }
def FnExactSoundexWrongFalsely : Prop := fnExactSoundexRow.holds Tryd.pinned (OpenSpec.ofChange fnExactSoundexWrong)

/-- 'laws.FnExactSoundsAlike': WHATEVER THE INPUT: true; the input reads as it did. -/
def fnExactSoundsAlikeSpec : ChangeSpec := { name := "fnExactSoundsAlike", vars := ["loop.example/g01923/impl.soundCodes"], fn := fun _ => fun
  | [d1, d2, g1] => { results := [.lit (.bool true)], args := [d1, d2], vars := [g1] }
  | _ => none }
def fnExactSoundsAlikeRow : OpenClaim := { program := "ytebfjikgececlaadoor", sum := "1c9deb84e27993331a690b2d9cc6e180b6c89547fffbd50f87cb9ad1d3bb068c", func := "loop.example/g01923/laws.FnExactSoundsAlike", spec := "fnExactSoundsAlike", unfollowed := true, recurses := true, named := ["loop.example/g01923/impl.soundCodes"], apart := false, laid := [("loop.example/g01923/impl.soundCodes", laid_loop_example_g01923_impl_soundCodes)] }
def FnExactSoundsAlikeSaid : Prop := fnExactSoundsAlikeRow.holds Tryd.pinned (OpenSpec.ofChange fnExactSoundsAlikeSpec)

/-- ITS FALSE NEIGHBOUR: 'it returns false'. Refute it at one input. -/
def fnExactSoundsAlikeWrong : ChangeSpec := { name := "fnExactSoundsAlike", vars := ["loop.example/g01923/impl.soundCodes"], fn := fun _ => fun
  | [d1, d2, g1] => { results := [.lit (.bool false)], args := [d1, d2], vars := [g1] }
  | _ => none }
def FnExactSoundsAlikeWrongFalsely : Prop := fnExactSoundsAlikeRow.holds Tryd.pinned (OpenSpec.ofChange fnExactSoundsAlikeWrong)

/-- 'laws.FnExactFormatInt': WHATEVER THE INPUT: true; the input reads as it did. -/
def fnExactFormatIntSpec : ChangeSpec := { name := "fnExactFormatInt", fn := fun _ => fun
  | [d] => { results := [.lit (.bool true)], args := [d] }
  | _ => none }
def fnExactFormatIntRow : OpenClaim := { program := "ytebfjikgececlaadoor", sum := "1c9deb84e27993331a690b2d9cc6e180b6c89547fffbd50f87cb9ad1d3bb068c", func := "loop.example/g01923/laws.FnExactFormatInt", spec := "fnExactFormatInt", named := ["internal/strconv.uint64pow10", "math/bits.deBruijn32tab", "math/bits.deBruijn64tab"], apart := false, laid := [("math/bits.deBruijn32tab", laid_math_bits_deBruijn32tab), ("math/bits.deBruijn64tab", laid_math_bits_deBruijn64tab), ("internal/strconv.uint64pow10", laid_internal_strconv_uint64pow10)] }
def FnExactFormatIntSaid : Prop := fnExactFormatIntRow.holds Tryd.pinned (OpenSpec.ofChange fnExactFormatIntSpec)

/-- ITS FALSE NEIGHBOUR: 'it returns false'. Refute it at one input. -/
def fnExactFormatIntWrong : ChangeSpec := { name := "fnExactFormatInt", fn := fun _ => fun
  | [d] => { results := [.lit (.bool false)], args := [d] }
  | _ => none }
def FnExactFormatIntWrongFalsely : Prop := fnExactFormatIntRow.holds Tryd.pinned (OpenSpec.ofChange fnExactFormatIntWrong)

/-- 'laws.FnExactStripMarks': WHATEVER THE INPUT: true; the input reads as it did. -/
def fnExactStripMarksSpec : ChangeSpec := { name := "fnExactStripMarks", fn := fun _ => fun
  | [d] => { results := [.lit (.bool true)], args := [d] }
  | _ => none }
def fnExactStripMarksRow : OpenClaim := { program := "ytebfjikgececlaadoor", sum := "1c9deb84e27993331a690b2d9cc6e180b6c89547fffbd50f87cb9ad1d3bb068c", func := "loop.example/g01923/laws.FnExactStripMarks", spec := "fnExactStripMarks", inPlace := ["internal/bytealg.CountString", "internal/bytealg.IndexByteString", "internal/bytealg.IndexString", "internal/abi.NoEscape", "internal/bytealg.MakeNoZero"], unfollowed := true, recurses := true, named := ["internal/bytealg.MaxLen", "unicode/utf8.first", "unicode/utf8.acceptRanges"], apart := false, laid := [("unicode/utf8.acceptRanges", laid_unicode_utf8_acceptRanges), ("unicode/utf8.first", laid_unicode_utf8_first)] }
def FnExactStripMarksSaid : Prop := fnExactStripMarksRow.holds Tryd.pinned (OpenSpec.ofChange fnExactStripMarksSpec)

/-- ITS FALSE NEIGHBOUR: 'it returns false'. Refute it at one input. -/
def fnExactStripMarksWrong : ChangeSpec := { name := "fnExactStripMarks", fn := fun _ => fun
  | [d] => { results := [.lit (.bool false)], args := [d] }
  | _ => none }
def FnExactStripMarksWrongFalsely : Prop := fnExactStripMarksRow.holds Tryd.pinned (OpenSpec.ofChange fnExactStripMarksWrong)

/-- 'laws.FnExactNormalize': WHATEVER THE INPUT: true; the input reads as it did. -/
def fnExactNormalizeSpec : ChangeSpec := { name := "fnExactNormalize", fn := fun _ => fun
  | [d] => { results := [.lit (.bool true)], args := [d] }
  | _ => none }
def fnExactNormalizeRow : OpenClaim := { program := "ytebfjikgececlaadoor", sum := "1c9deb84e27993331a690b2d9cc6e180b6c89547fffbd50f87cb9ad1d3bb068c", func := "loop.example/g01923/laws.FnExactNormalize", spec := "fnExactNormalize", inPlace := ["internal/bytealg.CountString", "internal/bytealg.IndexByteString", "internal/bytealg.IndexString", "internal/abi.NoEscape", "internal/bytealg.MakeNoZero"], unfollowed := true, recurses := true, named := ["internal/bytealg.MaxLen", "unicode/utf8.first", "unicode/utf8.acceptRanges"], apart := false, laid := [("unicode/utf8.acceptRanges", laid_unicode_utf8_acceptRanges), ("unicode/utf8.first", laid_unicode_utf8_first)] }
def FnExactNormalizeSaid : Prop := fnExactNormalizeRow.holds Tryd.pinned (OpenSpec.ofChange fnExactNormalizeSpec)

/-- ITS FALSE NEIGHBOUR: 'it returns false'. Refute it at one input. -/
def fnExactNormalizeWrong : ChangeSpec := { name := "fnExactNormalize", fn := fun _ => fun
  | [d] => { results := [.lit (.bool false)], args := [d] }
  | _ => none }
def FnExactNormalizeWrongFalsely : Prop := fnExactNormalizeRow.holds Tryd.pinned (OpenSpec.ofChange fnExactNormalizeWrong)

/-- 'laws.FnExactIsNormal': WHATEVER THE INPUT: true; the input reads as it did. -/
def fnExactIsNormalSpec : ChangeSpec := { name := "fnExactIsNormal", fn := fun _ => fun
  | [d] => { results := [.lit (.bool true)], args := [d] }
  | _ => none }
def fnExactIsNormalRow : OpenClaim := { program := "ytebfjikgececlaadoor", sum := "1c9deb84e27993331a690b2d9cc6e180b6c89547fffbd50f87cb9ad1d3bb068c", func := "loop.example/g01923/laws.FnExactIsNormal", spec := "fnExactIsNormal", inPlace := ["internal/bytealg.CountString", "internal/bytealg.IndexByteString", "internal/bytealg.IndexString", "internal/abi.NoEscape", "internal/bytealg.MakeNoZero"], unfollowed := true, recurses := true, named := ["internal/bytealg.MaxLen", "unicode/utf8.first", "unicode/utf8.acceptRanges"], apart := false, laid := [("unicode/utf8.acceptRanges", laid_unicode_utf8_acceptRanges), ("unicode/utf8.first", laid_unicode_utf8_first)] }
def FnExactIsNormalSaid : Prop := fnExactIsNormalRow.holds Tryd.pinned (OpenSpec.ofChange fnExactIsNormalSpec)

/-- ITS FALSE NEIGHBOUR: 'it returns false'. Refute it at one input. -/
def fnExactIsNormalWrong : ChangeSpec := { name := "fnExactIsNormal", fn := fun _ => fun
  | [d] => { results := [.lit (.bool false)], args := [d] }
  | _ => none }
def FnExactIsNormalWrongFalsely : Prop := fnExactIsNormalRow.holds Tryd.pinned (OpenSpec.ofChange fnExactIsNormalWrong)

/-- 'laws.FnExactInitials': WHATEVER THE INPUT: true; the input reads as it did. -/
def fnExactInitialsSpec : ChangeSpec := { name := "fnExactInitials", fn := fun _ => fun
  | [d] => { results := [.lit (.bool true)], args := [d] }
  | _ => none }
def fnExactInitialsRow : OpenClaim := { program := "ytebfjikgececlaadoor", sum := "1c9deb84e27993331a690b2d9cc6e180b6c89547fffbd50f87cb9ad1d3bb068c", func := "loop.example/g01923/laws.FnExactInitials", spec := "fnExactInitials", inPlace := ["internal/bytealg.CountString", "internal/bytealg.IndexByteString", "internal/bytealg.IndexString", "internal/abi.NoEscape", "internal/bytealg.MakeNoZero"], unfollowed := true, recurses := true, named := ["internal/bytealg.MaxLen", "unicode/utf8.first", "unicode/utf8.acceptRanges"], apart := false, laid := [("unicode/utf8.acceptRanges", laid_unicode_utf8_acceptRanges), ("unicode/utf8.first", laid_unicode_utf8_first)] }
def FnExactInitialsSaid : Prop := fnExactInitialsRow.holds Tryd.pinned (OpenSpec.ofChange fnExactInitialsSpec)

/-- ITS FALSE NEIGHBOUR: 'it returns false'. Refute it at one input. -/
def fnExactInitialsWrong : ChangeSpec := { name := "fnExactInitials", fn := fun _ => fun
  | [d] => { results := [.lit (.bool false)], args := [d] }
  | _ => none }
def FnExactInitialsWrongFalsely : Prop := fnExactInitialsRow.holds Tryd.pinned (OpenSpec.ofChange fnExactInitialsWrong)

/- THE SECOND FORM. 'bulk': how many values and letters a reading holds, each counted each time it is reached (what is shared counts as often as it is met; a slice's spare places count too). A statement '..UptoSaid' is the law's where the arguments, and the package variables that the reading takes, are together of bulk at most 1048576: NARROWER than '..Said'. Prove '..Said' where nothing that the law and all that it calls make is longer than what came in: it says more and counts as full. Else prove '..UptoSaid'. A law counts once. -/
mutual
def uptoBulk {H : Type} : DataW H → Nat
  | .lit (.string bytes) => bytes.length + 1
  | .lit _ => 1
  | .nil => 1
  | .ptr d => uptoBulk d + 1
  | .slice elems spare => uptoBulkAll elems + uptoBulkAll spare + 1
  | .agg parts => uptoBulkAll parts + 1
  | .iface _ d => uptoBulk d + 1
  | .map entries => uptoBulkEntries entries + 1
  | .held _ => 1
def uptoBulkAll {H : Type} : List (DataW H) → Nat
  | [] => 0
  | d :: r => uptoBulk d + uptoBulkAll r
def uptoBulkEntries {H : Type} : List (Lit × DataW H) → Nat
  | [] => 0
  | x :: r => uptoBulkEntry x + uptoBulkEntries r
def uptoBulkEntry {H : Type} : Lit × DataW H → Nat
  | (.string bytes, d) => bytes.length + uptoBulk d + 1
  | (_, d) => uptoBulk d + 1
 end
def uptoSmall : (H : Type) → List (DataW H) → Bool := fun _ ds => decide (uptoBulkAll ds ≤ 1048576)
def OpenSpec.upto (s : _root_.Go.ChangeSpec) : _root_.Go.OpenSpec := { _root_.Go.OpenSpec.ofChange s with cond := some uptoSmall }

/-- 'laws.FnExactSoundex', WHERE WHAT IT READS IS OF BULK AT MOST 1048576: true; the input reads as it did. -/
def fnExactSoundexUptoRow : OpenClaim := { program := "ytebfjikgececlaadoor", sum := "1c9deb84e27993331a690b2d9cc6e180b6c89547fffbd50f87cb9ad1d3bb068c", func := "loop.example/g01923/laws.FnExactSoundex", spec := "fnExactSoundex", unfollowed := true, recurses := true, named := ["loop.example/g01923/impl.soundCodes"], apart := false, laid := [("loop.example/g01923/impl.soundCodes", laid_loop_example_g01923_impl_soundCodes)], narrowed := true }
def FnExactSoundexUptoSaid : Prop := fnExactSoundexUptoRow.holds Tryd.pinned (OpenSpec.upto fnExactSoundexSpec)

/-- 'laws.FnExactSoundsAlike', WHERE WHAT IT READS IS OF BULK AT MOST 1048576: true; the input reads as it did. -/
def fnExactSoundsAlikeUptoRow : OpenClaim := { program := "ytebfjikgececlaadoor", sum := "1c9deb84e27993331a690b2d9cc6e180b6c89547fffbd50f87cb9ad1d3bb068c", func := "loop.example/g01923/laws.FnExactSoundsAlike", spec := "fnExactSoundsAlike", unfollowed := true, recurses := true, named := ["loop.example/g01923/impl.soundCodes"], apart := false, laid := [("loop.example/g01923/impl.soundCodes", laid_loop_example_g01923_impl_soundCodes)], narrowed := true }
def FnExactSoundsAlikeUptoSaid : Prop := fnExactSoundsAlikeUptoRow.holds Tryd.pinned (OpenSpec.upto fnExactSoundsAlikeSpec)

/-- 'laws.FnExactFormatInt', WHERE WHAT IT READS IS OF BULK AT MOST 1048576: true; the input reads as it did. -/
def fnExactFormatIntUptoRow : OpenClaim := { program := "ytebfjikgececlaadoor", sum := "1c9deb84e27993331a690b2d9cc6e180b6c89547fffbd50f87cb9ad1d3bb068c", func := "loop.example/g01923/laws.FnExactFormatInt", spec := "fnExactFormatInt", named := ["internal/strconv.uint64pow10", "math/bits.deBruijn32tab", "math/bits.deBruijn64tab"], apart := false, laid := [("math/bits.deBruijn32tab", laid_math_bits_deBruijn32tab), ("math/bits.deBruijn64tab", laid_math_bits_deBruijn64tab), ("internal/strconv.uint64pow10", laid_internal_strconv_uint64pow10)], narrowed := true }
def FnExactFormatIntUptoSaid : Prop := fnExactFormatIntUptoRow.holds Tryd.pinned (OpenSpec.upto fnExactFormatIntSpec)

/-- 'laws.FnExactStripMarks', WHERE WHAT IT READS IS OF BULK AT MOST 1048576: true; the input reads as it did. -/
def fnExactStripMarksUptoRow : OpenClaim := { program := "ytebfjikgececlaadoor", sum := "1c9deb84e27993331a690b2d9cc6e180b6c89547fffbd50f87cb9ad1d3bb068c", func := "loop.example/g01923/laws.FnExactStripMarks", spec := "fnExactStripMarks", inPlace := ["internal/bytealg.CountString", "internal/bytealg.IndexByteString", "internal/bytealg.IndexString", "internal/abi.NoEscape", "internal/bytealg.MakeNoZero"], unfollowed := true, recurses := true, named := ["internal/bytealg.MaxLen", "unicode/utf8.first", "unicode/utf8.acceptRanges"], apart := false, laid := [("unicode/utf8.acceptRanges", laid_unicode_utf8_acceptRanges), ("unicode/utf8.first", laid_unicode_utf8_first)], narrowed := true }
def FnExactStripMarksUptoSaid : Prop := fnExactStripMarksUptoRow.holds Tryd.pinned (OpenSpec.upto fnExactStripMarksSpec)

/-- 'laws.FnExactNormalize', WHERE WHAT IT READS IS OF BULK AT MOST 1048576: true; the input reads as it did. -/
def fnExactNormalizeUptoRow : OpenClaim := { program := "ytebfjikgececlaadoor", sum := "1c9deb84e27993331a690b2d9cc6e180b6c89547fffbd50f87cb9ad1d3bb068c", func := "loop.example/g01923/laws.FnExactNormalize", spec := "fnExactNormalize", inPlace := ["internal/bytealg.CountString", "internal/bytealg.IndexByteString", "internal/bytealg.IndexString", "internal/abi.NoEscape", "internal/bytealg.MakeNoZero"], unfollowed := true, recurses := true, named := ["internal/bytealg.MaxLen", "unicode/utf8.first", "unicode/utf8.acceptRanges"], apart := false, laid := [("unicode/utf8.acceptRanges", laid_unicode_utf8_acceptRanges), ("unicode/utf8.first", laid_unicode_utf8_first)], narrowed := true }
def FnExactNormalizeUptoSaid : Prop := fnExactNormalizeUptoRow.holds Tryd.pinned (OpenSpec.upto fnExactNormalizeSpec)

/-- 'laws.FnExactIsNormal', WHERE WHAT IT READS IS OF BULK AT MOST 1048576: true; the input reads as it did. -/
def fnExactIsNormalUptoRow : OpenClaim := { program := "ytebfjikgececlaadoor", sum := "1c9deb84e27993331a690b2d9cc6e180b6c89547fffbd50f87cb9ad1d3bb068c", func := "loop.example/g01923/laws.FnExactIsNormal", spec := "fnExactIsNormal", inPlace := ["internal/bytealg.CountString", "internal/bytealg.IndexByteString", "internal/bytealg.IndexString", "internal/abi.NoEscape", "internal/bytealg.MakeNoZero"], unfollowed := true, recurses := true, named := ["internal/bytealg.MaxLen", "unicode/utf8.first", "unicode/utf8.acceptRanges"], apart := false, laid := [("unicode/utf8.acceptRanges", laid_unicode_utf8_acceptRanges), ("unicode/utf8.first", laid_unicode_utf8_first)], narrowed := true }
def FnExactIsNormalUptoSaid : Prop := fnExactIsNormalUptoRow.holds Tryd.pinned (OpenSpec.upto fnExactIsNormalSpec)

/-- 'laws.FnExactInitials', WHERE WHAT IT READS IS OF BULK AT MOST 1048576: true; the input reads as it did. -/
def fnExactInitialsUptoRow : OpenClaim := { program := "ytebfjikgececlaadoor", sum := "1c9deb84e27993331a690b2d9cc6e180b6c89547fffbd50f87cb9ad1d3bb068c", func := "loop.example/g01923/laws.FnExactInitials", spec := "fnExactInitials", inPlace := ["internal/bytealg.CountString", "internal/bytealg.IndexByteString", "internal/bytealg.IndexString", "internal/abi.NoEscape", "internal/bytealg.MakeNoZero"], unfollowed := true, recurses := true, named := ["internal/bytealg.MaxLen", "unicode/utf8.first", "unicode/utf8.acceptRanges"], apart := false, laid := [("unicode/utf8.acceptRanges", laid_unicode_utf8_acceptRanges), ("unicode/utf8.first", laid_unicode_utf8_first)], narrowed := true }
def FnExactInitialsUptoSaid : Prop := fnExactInitialsUptoRow.holds Tryd.pinned (OpenSpec.upto fnExactInitialsSpec)

end Rows
end Go.Proofs.YtebfjikgececlaaDoor

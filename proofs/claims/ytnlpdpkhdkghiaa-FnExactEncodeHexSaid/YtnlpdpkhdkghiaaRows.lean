/-
  No cell of these rows narrows 'for every input' (looked for: loops, veiled, ifaces, maps, wideKeys, modest, calm, conditions, laid).
  DERIVED. THE GIVEN ROWS OF THIS SEAT. 12 by the template 'for every input the law returns true; each argument reads behind the call as it read before'; 0 by the template 'total and deterministic' (their statements: YtnlpdpkhdkghiaaTotals.lean).
  GIVEN WITH THE SEED: the statements are not yours to turn. If you find one false, say at which input.
  Laid BY PROGRAM, IN A SANDBOX (cutbox-rows.mjs): the forced cells as the released guide's own fill.sh prints them over the translation 9007bf21bc1323d6… (all of the seat's roots in one cut). By AI agents, Wed Nov 11 2026. No macro, syntax, notation, axiom, sorry.
-/
import Derived.Test.YtnlpdpkhdkghiaaChecked
import GoSem.Claim
import GoSem.ClaimJoined
import GoSem.ClaimMapViews
import Derived.JoinedTies
import Derived.KernelRfl
namespace Go.Proofs.Ytnlpdpkhdkghiaa
/- THE CELL 'sum', in the pinned program and in every row, IS THE sha256 OF THE DUMP (.gsa) THAT YtnlpdpkhdkghiaaProg.lean LOADS. Nothing in Lean hashes anything: it is a label: what it is worth is what the hold of that sum in a sandbox is worth. -/
noncomputable def Try.pinned : Pinned := { name := "ytnlpdpkhdkghiaa", sum := "9007bf21bc1323d6f868d9bb7f9d2b1ce832fc1fbb49c9ba08a97fbcd1a07b3f", checked := Try.checked }
namespace Rows
def none {H : Type} : Left H := { results := [], args := [] }

/-- 'laws.FnExactConstants': WHATEVER THE INPUT: true; the input reads as it did. -/
def fnExactConstantsSpec : ChangeSpec := { name := "fnExactConstants", fn := fun _ => fun
  | [] => { results := [.lit (.bool true)], args := [] }
  | _ => none }
def fnExactConstantsRow : OpenClaim := { program := "ytnlpdpkhdkghiaa", sum := "9007bf21bc1323d6f868d9bb7f9d2b1ce832fc1fbb49c9ba08a97fbcd1a07b3f", func := "loop.example/g01923/laws.FnExactConstants", spec := "fnExactConstants", apart := false }
def FnExactConstantsSaid : Prop := fnExactConstantsRow.holds Try.pinned (OpenSpec.ofChange fnExactConstantsSpec)

/-- ITS FALSE NEIGHBOUR: 'it returns false'. Refute it at one input. -/
def fnExactConstantsWrong : ChangeSpec := { name := "fnExactConstants", fn := fun _ => fun
  | [] => { results := [.lit (.bool false)], args := [] }
  | _ => none }
def FnExactConstantsWrongFalsely : Prop := fnExactConstantsRow.holds Try.pinned (OpenSpec.ofChange fnExactConstantsWrong)

/-- 'laws.FnExactEncodeHex': WHATEVER THE INPUT: true; the input reads as it did. -/
def fnExactEncodeHexSpec : ChangeSpec := { name := "fnExactEncodeHex", fn := fun _ => fun
  | [d] => { results := [.lit (.bool true)], args := [d] }
  | _ => none }
def fnExactEncodeHexRow : OpenClaim := { program := "ytnlpdpkhdkghiaa", sum := "9007bf21bc1323d6f868d9bb7f9d2b1ce832fc1fbb49c9ba08a97fbcd1a07b3f", func := "loop.example/g01923/laws.FnExactEncodeHex", spec := "fnExactEncodeHex", apart := false }
def FnExactEncodeHexSaid : Prop := fnExactEncodeHexRow.holds Try.pinned (OpenSpec.ofChange fnExactEncodeHexSpec)

/-- ITS FALSE NEIGHBOUR: 'it returns false'. Refute it at one input. -/
def fnExactEncodeHexWrong : ChangeSpec := { name := "fnExactEncodeHex", fn := fun _ => fun
  | [d] => { results := [.lit (.bool false)], args := [d] }
  | _ => none }
def FnExactEncodeHexWrongFalsely : Prop := fnExactEncodeHexRow.holds Try.pinned (OpenSpec.ofChange fnExactEncodeHexWrong)

/-- 'laws.FnExactIsText': WHATEVER THE INPUT: true; the input reads as it did. -/
def fnExactIsTextSpec : ChangeSpec := { name := "fnExactIsText", fn := fun _ => fun
  | [d] => { results := [.lit (.bool true)], args := [d] }
  | _ => none }
def fnExactIsTextRow : OpenClaim := { program := "ytnlpdpkhdkghiaa", sum := "9007bf21bc1323d6f868d9bb7f9d2b1ce832fc1fbb49c9ba08a97fbcd1a07b3f", func := "loop.example/g01923/laws.FnExactIsText", spec := "fnExactIsText", apart := false }
def FnExactIsTextSaid : Prop := fnExactIsTextRow.holds Try.pinned (OpenSpec.ofChange fnExactIsTextSpec)

/-- ITS FALSE NEIGHBOUR: 'it returns false'. Refute it at one input. -/
def fnExactIsTextWrong : ChangeSpec := { name := "fnExactIsText", fn := fun _ => fun
  | [d] => { results := [.lit (.bool false)], args := [d] }
  | _ => none }
def FnExactIsTextWrongFalsely : Prop := fnExactIsTextRow.holds Try.pinned (OpenSpec.ofChange fnExactIsTextWrong)

/-- 'laws.FnExactDigitsOf': WHATEVER THE INPUT: true; the input reads as it did. -/
def fnExactDigitsOfSpec : ChangeSpec := { name := "fnExactDigitsOf", fn := fun _ => fun
  | [d] => { results := [.lit (.bool true)], args := [d] }
  | _ => none }
def fnExactDigitsOfRow : OpenClaim := { program := "ytnlpdpkhdkghiaa", sum := "9007bf21bc1323d6f868d9bb7f9d2b1ce832fc1fbb49c9ba08a97fbcd1a07b3f", func := "loop.example/g01923/laws.FnExactDigitsOf", spec := "fnExactDigitsOf", apart := false }
def FnExactDigitsOfSaid : Prop := fnExactDigitsOfRow.holds Try.pinned (OpenSpec.ofChange fnExactDigitsOfSpec)

/-- ITS FALSE NEIGHBOUR: 'it returns false'. Refute it at one input. -/
def fnExactDigitsOfWrong : ChangeSpec := { name := "fnExactDigitsOf", fn := fun _ => fun
  | [d] => { results := [.lit (.bool false)], args := [d] }
  | _ => none }
def FnExactDigitsOfWrongFalsely : Prop := fnExactDigitsOfRow.holds Try.pinned (OpenSpec.ofChange fnExactDigitsOfWrong)

/-- 'laws.FnExactNumberScore': WHATEVER THE INPUT: true; the input reads as it did. -/
def fnExactNumberScoreSpec : ChangeSpec := { name := "fnExactNumberScore", fn := fun _ => fun
  | [d1, d2, d3] => { results := [.lit (.bool true)], args := [d1, d2, d3] }
  | _ => none }
def fnExactNumberScoreRow : OpenClaim := { program := "ytnlpdpkhdkghiaa", sum := "9007bf21bc1323d6f868d9bb7f9d2b1ce832fc1fbb49c9ba08a97fbcd1a07b3f", func := "loop.example/g01923/laws.FnExactNumberScore", spec := "fnExactNumberScore", apart := false }
def FnExactNumberScoreSaid : Prop := fnExactNumberScoreRow.holds Try.pinned (OpenSpec.ofChange fnExactNumberScoreSpec)

/-- ITS FALSE NEIGHBOUR: 'it returns false'. Refute it at one input. -/
def fnExactNumberScoreWrong : ChangeSpec := { name := "fnExactNumberScore", fn := fun _ => fun
  | [d1, d2, d3] => { results := [.lit (.bool false)], args := [d1, d2, d3] }
  | _ => none }
def FnExactNumberScoreWrongFalsely : Prop := fnExactNumberScoreRow.holds Try.pinned (OpenSpec.ofChange fnExactNumberScoreWrong)

/-- 'laws.FnExactLengthBounds': WHATEVER THE INPUT: true; the input reads as it did. -/
def fnExactLengthBoundsSpec : ChangeSpec := { name := "fnExactLengthBounds", fn := fun _ => fun
  | [d1, d2] => { results := [.lit (.bool true)], args := [d1, d2] }
  | _ => none }
def fnExactLengthBoundsRow : OpenClaim := { program := "ytnlpdpkhdkghiaa", sum := "9007bf21bc1323d6f868d9bb7f9d2b1ce832fc1fbb49c9ba08a97fbcd1a07b3f", func := "loop.example/g01923/laws.FnExactLengthBounds", spec := "fnExactLengthBounds", apart := false }
def FnExactLengthBoundsSaid : Prop := fnExactLengthBoundsRow.holds Try.pinned (OpenSpec.ofChange fnExactLengthBoundsSpec)

/-- ITS FALSE NEIGHBOUR: 'it returns false'. Refute it at one input. -/
def fnExactLengthBoundsWrong : ChangeSpec := { name := "fnExactLengthBounds", fn := fun _ => fun
  | [d1, d2] => { results := [.lit (.bool false)], args := [d1, d2] }
  | _ => none }
def FnExactLengthBoundsWrongFalsely : Prop := fnExactLengthBoundsRow.holds Try.pinned (OpenSpec.ofChange fnExactLengthBoundsWrong)

/-- 'laws.FnExactMinOverlap': WHATEVER THE INPUT: true; the input reads as it did. -/
def fnExactMinOverlapSpec : ChangeSpec := { name := "fnExactMinOverlap", fn := fun _ => fun
  | [d1, d2, d3] => { results := [.lit (.bool true)], args := [d1, d2, d3] }
  | _ => none }
def fnExactMinOverlapRow : OpenClaim := { program := "ytnlpdpkhdkghiaa", sum := "9007bf21bc1323d6f868d9bb7f9d2b1ce832fc1fbb49c9ba08a97fbcd1a07b3f", func := "loop.example/g01923/laws.FnExactMinOverlap", spec := "fnExactMinOverlap", apart := false }
def FnExactMinOverlapSaid : Prop := fnExactMinOverlapRow.holds Try.pinned (OpenSpec.ofChange fnExactMinOverlapSpec)

/-- ITS FALSE NEIGHBOUR: 'it returns false'. Refute it at one input. -/
def fnExactMinOverlapWrong : ChangeSpec := { name := "fnExactMinOverlap", fn := fun _ => fun
  | [d1, d2, d3] => { results := [.lit (.bool false)], args := [d1, d2, d3] }
  | _ => none }
def FnExactMinOverlapWrongFalsely : Prop := fnExactMinOverlapRow.holds Try.pinned (OpenSpec.ofChange fnExactMinOverlapWrong)

/-- 'laws.FnExactDecodeFixed': WHATEVER THE INPUT: true; the input reads as it did. -/
def fnExactDecodeFixedSpec : ChangeSpec := { name := "fnExactDecodeFixed", fn := fun _ => fun
  | [d1, d2] => { results := [.lit (.bool true)], args := [d1, d2] }
  | _ => none }
def fnExactDecodeFixedRow : OpenClaim := { program := "ytnlpdpkhdkghiaa", sum := "9007bf21bc1323d6f868d9bb7f9d2b1ce832fc1fbb49c9ba08a97fbcd1a07b3f", func := "loop.example/g01923/laws.FnExactDecodeFixed", spec := "fnExactDecodeFixed", apart := false }
def FnExactDecodeFixedSaid : Prop := fnExactDecodeFixedRow.holds Try.pinned (OpenSpec.ofChange fnExactDecodeFixedSpec)

/-- ITS FALSE NEIGHBOUR: 'it returns false'. Refute it at one input. -/
def fnExactDecodeFixedWrong : ChangeSpec := { name := "fnExactDecodeFixed", fn := fun _ => fun
  | [d1, d2] => { results := [.lit (.bool false)], args := [d1, d2] }
  | _ => none }
def FnExactDecodeFixedWrongFalsely : Prop := fnExactDecodeFixedRow.holds Try.pinned (OpenSpec.ofChange fnExactDecodeFixedWrong)

/-- 'laws.FnExactFoldCase': WHATEVER THE INPUT: true; the input reads as it did. -/
def fnExactFoldCaseSpec : ChangeSpec := { name := "fnExactFoldCase", fn := fun _ => fun
  | [d] => { results := [.lit (.bool true)], args := [d] }
  | _ => none }
def fnExactFoldCaseRow : OpenClaim := { program := "ytnlpdpkhdkghiaa", sum := "9007bf21bc1323d6f868d9bb7f9d2b1ce832fc1fbb49c9ba08a97fbcd1a07b3f", func := "loop.example/g01923/laws.FnExactFoldCase", spec := "fnExactFoldCase", unfollowed := true, recurses := true, apart := false }
def FnExactFoldCaseSaid : Prop := fnExactFoldCaseRow.holds Try.pinned (OpenSpec.ofChange fnExactFoldCaseSpec)

/-- ITS FALSE NEIGHBOUR: 'it returns false'. Refute it at one input. -/
def fnExactFoldCaseWrong : ChangeSpec := { name := "fnExactFoldCase", fn := fun _ => fun
  | [d] => { results := [.lit (.bool false)], args := [d] }
  | _ => none }
def FnExactFoldCaseWrongFalsely : Prop := fnExactFoldCaseRow.holds Try.pinned (OpenSpec.ofChange fnExactFoldCaseWrong)

/-- 'laws.FnExactEncodeFixed': WHATEVER THE INPUT: true; the input reads as it did. -/
def fnExactEncodeFixedSpec : ChangeSpec := { name := "fnExactEncodeFixed", fn := fun _ => fun
  | [d1, d2] => { results := [.lit (.bool true)], args := [d1, d2] }
  | _ => none }
def fnExactEncodeFixedRow : OpenClaim := { program := "ytnlpdpkhdkghiaa", sum := "9007bf21bc1323d6f868d9bb7f9d2b1ce832fc1fbb49c9ba08a97fbcd1a07b3f", func := "loop.example/g01923/laws.FnExactEncodeFixed", spec := "fnExactEncodeFixed", apart := false }
def FnExactEncodeFixedSaid : Prop := fnExactEncodeFixedRow.holds Try.pinned (OpenSpec.ofChange fnExactEncodeFixedSpec)

/-- ITS FALSE NEIGHBOUR: 'it returns false'. Refute it at one input. -/
def fnExactEncodeFixedWrong : ChangeSpec := { name := "fnExactEncodeFixed", fn := fun _ => fun
  | [d1, d2] => { results := [.lit (.bool false)], args := [d1, d2] }
  | _ => none }
def FnExactEncodeFixedWrongFalsely : Prop := fnExactEncodeFixedRow.holds Try.pinned (OpenSpec.ofChange fnExactEncodeFixedWrong)

/-- 'laws.FnExactEncodeVarint': WHATEVER THE INPUT: true; the input reads as it did. -/
def fnExactEncodeVarintSpec : ChangeSpec := { name := "fnExactEncodeVarint", fn := fun _ => fun
  | [d] => { results := [.lit (.bool true)], args := [d] }
  | _ => none }
def fnExactEncodeVarintRow : OpenClaim := { program := "ytnlpdpkhdkghiaa", sum := "9007bf21bc1323d6f868d9bb7f9d2b1ce832fc1fbb49c9ba08a97fbcd1a07b3f", func := "loop.example/g01923/laws.FnExactEncodeVarint", spec := "fnExactEncodeVarint", apart := false }
def FnExactEncodeVarintSaid : Prop := fnExactEncodeVarintRow.holds Try.pinned (OpenSpec.ofChange fnExactEncodeVarintSpec)

/-- ITS FALSE NEIGHBOUR: 'it returns false'. Refute it at one input. -/
def fnExactEncodeVarintWrong : ChangeSpec := { name := "fnExactEncodeVarint", fn := fun _ => fun
  | [d] => { results := [.lit (.bool false)], args := [d] }
  | _ => none }
def FnExactEncodeVarintWrongFalsely : Prop := fnExactEncodeVarintRow.holds Try.pinned (OpenSpec.ofChange fnExactEncodeVarintWrong)

/-- 'laws.FnExactCollapseSpaces': WHATEVER THE INPUT: true; the input reads as it did. -/
def fnExactCollapseSpacesSpec : ChangeSpec := { name := "fnExactCollapseSpaces", fn := fun _ => fun
  | [d] => { results := [.lit (.bool true)], args := [d] }
  | _ => none }
def fnExactCollapseSpacesRow : OpenClaim := { program := "ytnlpdpkhdkghiaa", sum := "9007bf21bc1323d6f868d9bb7f9d2b1ce832fc1fbb49c9ba08a97fbcd1a07b3f", func := "loop.example/g01923/laws.FnExactCollapseSpaces", spec := "fnExactCollapseSpaces", apart := false }
def FnExactCollapseSpacesSaid : Prop := fnExactCollapseSpacesRow.holds Try.pinned (OpenSpec.ofChange fnExactCollapseSpacesSpec)

/-- ITS FALSE NEIGHBOUR: 'it returns false'. Refute it at one input. -/
def fnExactCollapseSpacesWrong : ChangeSpec := { name := "fnExactCollapseSpaces", fn := fun _ => fun
  | [d] => { results := [.lit (.bool false)], args := [d] }
  | _ => none }
def FnExactCollapseSpacesWrongFalsely : Prop := fnExactCollapseSpacesRow.holds Try.pinned (OpenSpec.ofChange fnExactCollapseSpacesWrong)

/- THE SECOND FORM. 'bulk': how many values and letters a reading holds, each counted each time it is reached (what is shared counts as often as it is met; a slice's spare places count too). A statement '..UptoSaid' is the law's where the arguments, and the package variables that the reading takes, are together of bulk at most 1048576: NARROWER than '..Said'. Prove '..Said' where nothing that the law and all that it calls make is longer than what came in: it says more and counts as full. Else prove '..UptoSaid'. A law counts once. -/
mutual
def uptoBulk {H : Type} : DataW H → Nat
  | .lit (.string bytes) => bytes.length + 1
  | .lit _ => 1
  | .nil => 1
  | .ptr d => uptoBulk d + 1
  | .slice elems spare => uptoBulkAll elems + uptoBulkAll spare + 1
  | .agg parts => uptoBulkAll parts + 1
  | .iface _ d => uptoBulk d + 1
  | .map entries => uptoBulkEntries entries + 1
  | .held _ => 1
def uptoBulkAll {H : Type} : List (DataW H) → Nat
  | [] => 0
  | d :: r => uptoBulk d + uptoBulkAll r
def uptoBulkEntries {H : Type} : List (Lit × DataW H) → Nat
  | [] => 0
  | x :: r => uptoBulkEntry x + uptoBulkEntries r
def uptoBulkEntry {H : Type} : Lit × DataW H → Nat
  | (.string bytes, d) => bytes.length + uptoBulk d + 1
  | (_, d) => uptoBulk d + 1
 end
def uptoSmall : (H : Type) → List (DataW H) → Bool := fun _ ds => decide (uptoBulkAll ds ≤ 1048576)
def OpenSpec.upto (s : _root_.Go.ChangeSpec) : _root_.Go.OpenSpec := { _root_.Go.OpenSpec.ofChange s with cond := some uptoSmall }

/-- 'laws.FnExactConstants', WHERE WHAT IT READS IS OF BULK AT MOST 1048576: true; the input reads as it did. -/
def fnExactConstantsUptoRow : OpenClaim := { program := "ytnlpdpkhdkghiaa", sum := "9007bf21bc1323d6f868d9bb7f9d2b1ce832fc1fbb49c9ba08a97fbcd1a07b3f", func := "loop.example/g01923/laws.FnExactConstants", spec := "fnExactConstants", apart := false, narrowed := true }
def FnExactConstantsUptoSaid : Prop := fnExactConstantsUptoRow.holds Try.pinned (OpenSpec.upto fnExactConstantsSpec)

/-- 'laws.FnExactEncodeHex', WHERE WHAT IT READS IS OF BULK AT MOST 1048576: true; the input reads as it did. -/
def fnExactEncodeHexUptoRow : OpenClaim := { program := "ytnlpdpkhdkghiaa", sum := "9007bf21bc1323d6f868d9bb7f9d2b1ce832fc1fbb49c9ba08a97fbcd1a07b3f", func := "loop.example/g01923/laws.FnExactEncodeHex", spec := "fnExactEncodeHex", apart := false, narrowed := true }
def FnExactEncodeHexUptoSaid : Prop := fnExactEncodeHexUptoRow.holds Try.pinned (OpenSpec.upto fnExactEncodeHexSpec)

/-- 'laws.FnExactIsText', WHERE WHAT IT READS IS OF BULK AT MOST 1048576: true; the input reads as it did. -/
def fnExactIsTextUptoRow : OpenClaim := { program := "ytnlpdpkhdkghiaa", sum := "9007bf21bc1323d6f868d9bb7f9d2b1ce832fc1fbb49c9ba08a97fbcd1a07b3f", func := "loop.example/g01923/laws.FnExactIsText", spec := "fnExactIsText", apart := false, narrowed := true }
def FnExactIsTextUptoSaid : Prop := fnExactIsTextUptoRow.holds Try.pinned (OpenSpec.upto fnExactIsTextSpec)

/-- 'laws.FnExactDigitsOf', WHERE WHAT IT READS IS OF BULK AT MOST 1048576: true; the input reads as it did. -/
def fnExactDigitsOfUptoRow : OpenClaim := { program := "ytnlpdpkhdkghiaa", sum := "9007bf21bc1323d6f868d9bb7f9d2b1ce832fc1fbb49c9ba08a97fbcd1a07b3f", func := "loop.example/g01923/laws.FnExactDigitsOf", spec := "fnExactDigitsOf", apart := false, narrowed := true }
def FnExactDigitsOfUptoSaid : Prop := fnExactDigitsOfUptoRow.holds Try.pinned (OpenSpec.upto fnExactDigitsOfSpec)

/-- 'laws.FnExactNumberScore', WHERE WHAT IT READS IS OF BULK AT MOST 1048576: true; the input reads as it did. -/
def fnExactNumberScoreUptoRow : OpenClaim := { program := "ytnlpdpkhdkghiaa", sum := "9007bf21bc1323d6f868d9bb7f9d2b1ce832fc1fbb49c9ba08a97fbcd1a07b3f", func := "loop.example/g01923/laws.FnExactNumberScore", spec := "fnExactNumberScore", apart := false, narrowed := true }
def FnExactNumberScoreUptoSaid : Prop := fnExactNumberScoreUptoRow.holds Try.pinned (OpenSpec.upto fnExactNumberScoreSpec)

/-- 'laws.FnExactLengthBounds', WHERE WHAT IT READS IS OF BULK AT MOST 1048576: true; the input reads as it did. -/
def fnExactLengthBoundsUptoRow : OpenClaim := { program := "ytnlpdpkhdkghiaa", sum := "9007bf21bc1323d6f868d9bb7f9d2b1ce832fc1fbb49c9ba08a97fbcd1a07b3f", func := "loop.example/g01923/laws.FnExactLengthBounds", spec := "fnExactLengthBounds", apart := false, narrowed := true }
def FnExactLengthBoundsUptoSaid : Prop := fnExactLengthBoundsUptoRow.holds Try.pinned (OpenSpec.upto fnExactLengthBoundsSpec)

/-- 'laws.FnExactMinOverlap', WHERE WHAT IT READS IS OF BULK AT MOST 1048576: true; the input reads as it did. -/
def fnExactMinOverlapUptoRow : OpenClaim := { program := "ytnlpdpkhdkghiaa", sum := "9007bf21bc1323d6f868d9bb7f9d2b1ce832fc1fbb49c9ba08a97fbcd1a07b3f", func := "loop.example/g01923/laws.FnExactMinOverlap", spec := "fnExactMinOverlap", apart := false, narrowed := true }
def FnExactMinOverlapUptoSaid : Prop := fnExactMinOverlapUptoRow.holds Try.pinned (OpenSpec.upto fnExactMinOverlapSpec)

/-- 'laws.FnExactDecodeFixed', WHERE WHAT IT READS IS OF BULK AT MOST 1048576: true; the input reads as it did. -/
def fnExactDecodeFixedUptoRow : OpenClaim := { program := "ytnlpdpkhdkghiaa", sum := "9007bf21bc1323d6f868d9bb7f9d2b1ce832fc1fbb49c9ba08a97fbcd1a07b3f", func := "loop.example/g01923/laws.FnExactDecodeFixed", spec := "fnExactDecodeFixed", apart := false, narrowed := true }
def FnExactDecodeFixedUptoSaid : Prop := fnExactDecodeFixedUptoRow.holds Try.pinned (OpenSpec.upto fnExactDecodeFixedSpec)

/-- 'laws.FnExactFoldCase', WHERE WHAT IT READS IS OF BULK AT MOST 1048576: true; the input reads as it did. -/
def fnExactFoldCaseUptoRow : OpenClaim := { program := "ytnlpdpkhdkghiaa", sum := "9007bf21bc1323d6f868d9bb7f9d2b1ce832fc1fbb49c9ba08a97fbcd1a07b3f", func := "loop.example/g01923/laws.FnExactFoldCase", spec := "fnExactFoldCase", unfollowed := true, recurses := true, apart := false, narrowed := true }
def FnExactFoldCaseUptoSaid : Prop := fnExactFoldCaseUptoRow.holds Try.pinned (OpenSpec.upto fnExactFoldCaseSpec)

/-- 'laws.FnExactEncodeFixed', WHERE WHAT IT READS IS OF BULK AT MOST 1048576: true; the input reads as it did. -/
def fnExactEncodeFixedUptoRow : OpenClaim := { program := "ytnlpdpkhdkghiaa", sum := "9007bf21bc1323d6f868d9bb7f9d2b1ce832fc1fbb49c9ba08a97fbcd1a07b3f", func := "loop.example/g01923/laws.FnExactEncodeFixed", spec := "fnExactEncodeFixed", apart := false, narrowed := true }
def FnExactEncodeFixedUptoSaid : Prop := fnExactEncodeFixedUptoRow.holds Try.pinned (OpenSpec.upto fnExactEncodeFixedSpec)

/-- 'laws.FnExactEncodeVarint', WHERE WHAT IT READS IS OF BULK AT MOST 1048576: true; the input reads as it did. -/
def fnExactEncodeVarintUptoRow : OpenClaim := { program := "ytnlpdpkhdkghiaa", sum := "9007bf21bc1323d6f868d9bb7f9d2b1ce832fc1fbb49c9ba08a97fbcd1a07b3f", func := "loop.example/g01923/laws.FnExactEncodeVarint", spec := "fnExactEncodeVarint", apart := false, narrowed := true }
def FnExactEncodeVarintUptoSaid : Prop := fnExactEncodeVarintUptoRow.holds Try.pinned (OpenSpec.upto fnExactEncodeVarintSpec)

/-- 'laws.FnExactCollapseSpaces', WHERE WHAT IT READS IS OF BULK AT MOST 1048576: true; the input reads as it did. -/
def fnExactCollapseSpacesUptoRow : OpenClaim := { program := "ytnlpdpkhdkghiaa", sum := "9007bf21bc1323d6f868d9bb7f9d2b1ce832fc1fbb49c9ba08a97fbcd1a07b3f", func := "loop.example/g01923/laws.FnExactCollapseSpaces", spec := "fnExactCollapseSpaces", apart := false, narrowed := true }
def FnExactCollapseSpacesUptoSaid : Prop := fnExactCollapseSpacesUptoRow.holds Try.pinned (OpenSpec.upto fnExactCollapseSpacesSpec)

end Rows
end Go.Proofs.Ytnlpdpkhdkghiaa

/-
  No cell of these rows narrows 'for every input' (looked for: loops, veiled, ifaces, maps, wideKeys, modest, calm, conditions, laid).
  DERIVED. THE GIVEN ROWS OF THIS SEAT. 11 by the template 'for every input the law returns true; each argument reads behind the call as it read before'; 0 by the template 'total and deterministic' (their statements: YtnnfjikfpihojaaTotals.lean).
  GIVEN WITH THE SEED: the statements are not yours to turn. If you find one false, say at which input.
  Laid BY PROGRAM, IN A SANDBOX (cutbox-rows.mjs): the forced cells as the released guide's own fill.sh prints them over the translation a46b86b76efd82ce… (all of the seat's roots in one cut). By AI agents, Wed Nov 11 2026. No macro, syntax, notation, axiom, sorry.
-/
import Derived.Test.YtnnfjikfpihojaaChecked
import GoSem.Claim
import GoSem.ClaimJoined
import GoSem.ClaimMapViews
import Derived.JoinedTies
import Derived.KernelRfl
namespace Go.Proofs.Ytnnfjikfpihojaa
/- THE CELL 'sum', in the pinned program and in every row, IS THE sha256 OF THE DUMP (.gsa) THAT YtnnfjikfpihojaaProg.lean LOADS. Nothing in Lean hashes anything: it is a label: what it is worth is what the hold of that sum in a sandbox is worth. -/
noncomputable def Try.pinned : Pinned := { name := "ytnnfjikfpihojaa", sum := "a46b86b76efd82ce3e7c98c096757c20d45dd7ed341cb90860d89e512c7a434d", checked := Try.checked }
namespace Rows
def none {H : Type} : Left H := { results := [], args := [] }

/-- 'laws.FnExactDecodeHex': WHATEVER THE INPUT: true; the input reads as it did. -/
def fnExactDecodeHexSpec : ChangeSpec := { name := "fnExactDecodeHex", fn := fun _ => fun
  | [d] => { results := [.lit (.bool true)], args := [d] }
  | _ => none }
def fnExactDecodeHexRow : OpenClaim := { program := "ytnnfjikfpihojaa", sum := "a46b86b76efd82ce3e7c98c096757c20d45dd7ed341cb90860d89e512c7a434d", func := "loop.example/g01923/laws.FnExactDecodeHex", spec := "fnExactDecodeHex", inPlace := ["internal/bytealg.IndexByteString"], apart := false }
def FnExactDecodeHexSaid : Prop := fnExactDecodeHexRow.holds Try.pinned (OpenSpec.ofChange fnExactDecodeHexSpec)

/-- ITS FALSE NEIGHBOUR: 'it returns false'. Refute it at one input. -/
def fnExactDecodeHexWrong : ChangeSpec := { name := "fnExactDecodeHex", fn := fun _ => fun
  | [d] => { results := [.lit (.bool false)], args := [d] }
  | _ => none }
def FnExactDecodeHexWrongFalsely : Prop := fnExactDecodeHexRow.holds Try.pinned (OpenSpec.ofChange fnExactDecodeHexWrong)

/-- 'laws.FnExactDecodeVarint': WHATEVER THE INPUT: true; the input reads as it did. -/
def fnExactDecodeVarintSpec : ChangeSpec := { name := "fnExactDecodeVarint", fn := fun _ => fun
  | [d] => { results := [.lit (.bool true)], args := [d] }
  | _ => none }
def fnExactDecodeVarintRow : OpenClaim := { program := "ytnnfjikfpihojaa", sum := "a46b86b76efd82ce3e7c98c096757c20d45dd7ed341cb90860d89e512c7a434d", func := "loop.example/g01923/laws.FnExactDecodeVarint", spec := "fnExactDecodeVarint", apart := false }
def FnExactDecodeVarintSaid : Prop := fnExactDecodeVarintRow.holds Try.pinned (OpenSpec.ofChange fnExactDecodeVarintSpec)

/-- ITS FALSE NEIGHBOUR: 'it returns false'. Refute it at one input. -/
def fnExactDecodeVarintWrong : ChangeSpec := { name := "fnExactDecodeVarint", fn := fun _ => fun
  | [d] => { results := [.lit (.bool false)], args := [d] }
  | _ => none }
def FnExactDecodeVarintWrongFalsely : Prop := fnExactDecodeVarintRow.holds Try.pinned (OpenSpec.ofChange fnExactDecodeVarintWrong)

/-- 'laws.FnExactEqualTokens': WHATEVER THE INPUT: true; the input reads as it did. -/
def fnExactEqualTokensSpec : ChangeSpec := { name := "fnExactEqualTokens", fn := fun _ => fun
  | [d1, d2] => { results := [.lit (.bool true)], args := [d1, d2] }
  | _ => none }
def fnExactEqualTokensRow : OpenClaim := { program := "ytnnfjikfpihojaa", sum := "a46b86b76efd82ce3e7c98c096757c20d45dd7ed341cb90860d89e512c7a434d", func := "loop.example/g01923/laws.FnExactEqualTokens", spec := "fnExactEqualTokens", apart := false }
def FnExactEqualTokensSaid : Prop := fnExactEqualTokensRow.holds Try.pinned (OpenSpec.ofChange fnExactEqualTokensSpec)

/-- ITS FALSE NEIGHBOUR: 'it returns false'. Refute it at one input. -/
def fnExactEqualTokensWrong : ChangeSpec := { name := "fnExactEqualTokens", fn := fun _ => fun
  | [d1, d2] => { results := [.lit (.bool false)], args := [d1, d2] }
  | _ => none }
def FnExactEqualTokensWrongFalsely : Prop := fnExactEqualTokensRow.holds Try.pinned (OpenSpec.ofChange fnExactEqualTokensWrong)

/-- 'laws.FnExactCombineScores': WHATEVER THE INPUT: true; the input reads as it did. -/
def fnExactCombineScoresSpec : ChangeSpec := { name := "fnExactCombineScores", fn := fun _ => fun
  | [d1, d2] => { results := [.lit (.bool true)], args := [d1, d2] }
  | _ => none }
def fnExactCombineScoresRow : OpenClaim := { program := "ytnnfjikfpihojaa", sum := "a46b86b76efd82ce3e7c98c096757c20d45dd7ed341cb90860d89e512c7a434d", func := "loop.example/g01923/laws.FnExactCombineScores", spec := "fnExactCombineScores", apart := false }
def FnExactCombineScoresSaid : Prop := fnExactCombineScoresRow.holds Try.pinned (OpenSpec.ofChange fnExactCombineScoresSpec)

/-- ITS FALSE NEIGHBOUR: 'it returns false'. Refute it at one input. -/
def fnExactCombineScoresWrong : ChangeSpec := { name := "fnExactCombineScores", fn := fun _ => fun
  | [d1, d2] => { results := [.lit (.bool false)], args := [d1, d2] }
  | _ => none }
def FnExactCombineScoresWrongFalsely : Prop := fnExactCombineScoresRow.holds Try.pinned (OpenSpec.ofChange fnExactCombineScoresWrong)

/-- 'laws.FnExactPhoneScore': WHATEVER THE INPUT: true; the input reads as it did. -/
def fnExactPhoneScoreSpec : ChangeSpec := { name := "fnExactPhoneScore", fn := fun _ => fun
  | [d1, d2] => { results := [.lit (.bool true)], args := [d1, d2] }
  | _ => none }
def fnExactPhoneScoreRow : OpenClaim := { program := "ytnnfjikfpihojaa", sum := "a46b86b76efd82ce3e7c98c096757c20d45dd7ed341cb90860d89e512c7a434d", func := "loop.example/g01923/laws.FnExactPhoneScore", spec := "fnExactPhoneScore", apart := false }
def FnExactPhoneScoreSaid : Prop := fnExactPhoneScoreRow.holds Try.pinned (OpenSpec.ofChange fnExactPhoneScoreSpec)

/-- ITS FALSE NEIGHBOUR: 'it returns false'. Refute it at one input. -/
def fnExactPhoneScoreWrong : ChangeSpec := { name := "fnExactPhoneScore", fn := fun _ => fun
  | [d1, d2] => { results := [.lit (.bool false)], args := [d1, d2] }
  | _ => none }
def FnExactPhoneScoreWrongFalsely : Prop := fnExactPhoneScoreRow.holds Try.pinned (OpenSpec.ofChange fnExactPhoneScoreWrong)

/-- 'laws.FnExactApplyScript': WHATEVER THE INPUT: true; the input reads as it did. -/
def fnExactApplyScriptSpec : ChangeSpec := { name := "fnExactApplyScript", fn := fun _ => fun
  | [d1, d2] => { results := [.lit (.bool true)], args := [d1, d2] }
  | _ => none }
def fnExactApplyScriptRow : OpenClaim := { program := "ytnnfjikfpihojaa", sum := "a46b86b76efd82ce3e7c98c096757c20d45dd7ed341cb90860d89e512c7a434d", func := "loop.example/g01923/laws.FnExactApplyScript", spec := "fnExactApplyScript", apart := false }
def FnExactApplyScriptSaid : Prop := fnExactApplyScriptRow.holds Try.pinned (OpenSpec.ofChange fnExactApplyScriptSpec)

/-- ITS FALSE NEIGHBOUR: 'it returns false'. Refute it at one input. -/
def fnExactApplyScriptWrong : ChangeSpec := { name := "fnExactApplyScript", fn := fun _ => fun
  | [d1, d2] => { results := [.lit (.bool false)], args := [d1, d2] }
  | _ => none }
def FnExactApplyScriptWrongFalsely : Prop := fnExactApplyScriptRow.holds Try.pinned (OpenSpec.ofChange fnExactApplyScriptWrong)

/-- 'laws.FnExactEditDistance': WHATEVER THE INPUT: true; the input reads as it did. -/
def fnExactEditDistanceSpec : ChangeSpec := { name := "fnExactEditDistance", fn := fun _ => fun
  | [d1, d2] => { results := [.lit (.bool true)], args := [d1, d2] }
  | _ => none }
def fnExactEditDistanceRow : OpenClaim := { program := "ytnnfjikfpihojaa", sum := "a46b86b76efd82ce3e7c98c096757c20d45dd7ed341cb90860d89e512c7a434d", func := "loop.example/g01923/laws.FnExactEditDistance", spec := "fnExactEditDistance", apart := false }
def FnExactEditDistanceSaid : Prop := fnExactEditDistanceRow.holds Try.pinned (OpenSpec.ofChange fnExactEditDistanceSpec)

/-- ITS FALSE NEIGHBOUR: 'it returns false'. Refute it at one input. -/
def fnExactEditDistanceWrong : ChangeSpec := { name := "fnExactEditDistance", fn := fun _ => fun
  | [d1, d2] => { results := [.lit (.bool false)], args := [d1, d2] }
  | _ => none }
def FnExactEditDistanceWrongFalsely : Prop := fnExactEditDistanceRow.holds Try.pinned (OpenSpec.ofChange fnExactEditDistanceWrong)

/-- 'laws.FnExactSwapDistance': WHATEVER THE INPUT: true; the input reads as it did. -/
def fnExactSwapDistanceSpec : ChangeSpec := { name := "fnExactSwapDistance", fn := fun _ => fun
  | [d1, d2] => { results := [.lit (.bool true)], args := [d1, d2] }
  | _ => none }
def fnExactSwapDistanceRow : OpenClaim := { program := "ytnnfjikfpihojaa", sum := "a46b86b76efd82ce3e7c98c096757c20d45dd7ed341cb90860d89e512c7a434d", func := "loop.example/g01923/laws.FnExactSwapDistance", spec := "fnExactSwapDistance", apart := false }
def FnExactSwapDistanceSaid : Prop := fnExactSwapDistanceRow.holds Try.pinned (OpenSpec.ofChange fnExactSwapDistanceSpec)

/-- ITS FALSE NEIGHBOUR: 'it returns false'. Refute it at one input. -/
def fnExactSwapDistanceWrong : ChangeSpec := { name := "fnExactSwapDistance", fn := fun _ => fun
  | [d1, d2] => { results := [.lit (.bool false)], args := [d1, d2] }
  | _ => none }
def FnExactSwapDistanceWrongFalsely : Prop := fnExactSwapDistanceRow.holds Try.pinned (OpenSpec.ofChange fnExactSwapDistanceWrong)

/-- 'laws.FnExactEditWithin': WHATEVER THE INPUT: true; the input reads as it did. -/
def fnExactEditWithinSpec : ChangeSpec := { name := "fnExactEditWithin", fn := fun _ => fun
  | [d1, d2, d3] => { results := [.lit (.bool true)], args := [d1, d2, d3] }
  | _ => none }
def fnExactEditWithinRow : OpenClaim := { program := "ytnnfjikfpihojaa", sum := "a46b86b76efd82ce3e7c98c096757c20d45dd7ed341cb90860d89e512c7a434d", func := "loop.example/g01923/laws.FnExactEditWithin", spec := "fnExactEditWithin", apart := false }
def FnExactEditWithinSaid : Prop := fnExactEditWithinRow.holds Try.pinned (OpenSpec.ofChange fnExactEditWithinSpec)

/-- ITS FALSE NEIGHBOUR: 'it returns false'. Refute it at one input. -/
def fnExactEditWithinWrong : ChangeSpec := { name := "fnExactEditWithin", fn := fun _ => fun
  | [d1, d2, d3] => { results := [.lit (.bool false)], args := [d1, d2, d3] }
  | _ => none }
def FnExactEditWithinWrongFalsely : Prop := fnExactEditWithinRow.holds Try.pinned (OpenSpec.ofChange fnExactEditWithinWrong)

/-- 'laws.FnExactEditScore': WHATEVER THE INPUT: true; the input reads as it did. -/
def fnExactEditScoreSpec : ChangeSpec := { name := "fnExactEditScore", fn := fun _ => fun
  | [d1, d2] => { results := [.lit (.bool true)], args := [d1, d2] }
  | _ => none }
def fnExactEditScoreRow : OpenClaim := { program := "ytnnfjikfpihojaa", sum := "a46b86b76efd82ce3e7c98c096757c20d45dd7ed341cb90860d89e512c7a434d", func := "loop.example/g01923/laws.FnExactEditScore", spec := "fnExactEditScore", apart := false }
def FnExactEditScoreSaid : Prop := fnExactEditScoreRow.holds Try.pinned (OpenSpec.ofChange fnExactEditScoreSpec)

/-- ITS FALSE NEIGHBOUR: 'it returns false'. Refute it at one input. -/
def fnExactEditScoreWrong : ChangeSpec := { name := "fnExactEditScore", fn := fun _ => fun
  | [d1, d2] => { results := [.lit (.bool false)], args := [d1, d2] }
  | _ => none }
def FnExactEditScoreWrongFalsely : Prop := fnExactEditScoreRow.holds Try.pinned (OpenSpec.ofChange fnExactEditScoreWrong)

/-- 'laws.FnExactEditScript': WHATEVER THE INPUT: true; the input reads as it did. -/
def fnExactEditScriptSpec : ChangeSpec := { name := "fnExactEditScript", fn := fun _ => fun
  | [d1, d2] => { results := [.lit (.bool true)], args := [d1, d2] }
  | _ => none }
def fnExactEditScriptRow : OpenClaim := { program := "ytnnfjikfpihojaa", sum := "a46b86b76efd82ce3e7c98c096757c20d45dd7ed341cb90860d89e512c7a434d", func := "loop.example/g01923/laws.FnExactEditScript", spec := "fnExactEditScript", apart := false }
def FnExactEditScriptSaid : Prop := fnExactEditScriptRow.holds Try.pinned (OpenSpec.ofChange fnExactEditScriptSpec)

/-- ITS FALSE NEIGHBOUR: 'it returns false'. Refute it at one input. -/
def fnExactEditScriptWrong : ChangeSpec := { name := "fnExactEditScript", fn := fun _ => fun
  | [d1, d2] => { results := [.lit (.bool false)], args := [d1, d2] }
  | _ => none }
def FnExactEditScriptWrongFalsely : Prop := fnExactEditScriptRow.holds Try.pinned (OpenSpec.ofChange fnExactEditScriptWrong)

/- THE SECOND FORM. 'bulk': how many values and letters a reading holds, each counted each time it is reached (what is shared counts as often as it is met; a slice's spare places count too). A statement '..UptoSaid' is the law's where the arguments, and the package variables that the reading takes, are together of bulk at most 1048576: NARROWER than '..Said'. Prove '..Said' where nothing that the law and all that it calls make is longer than what came in: it says more and counts as full. Else prove '..UptoSaid'. A law counts once. -/
mutual
def uptoBulk {H : Type} : DataW H → Nat
  | .lit (.string bytes) => bytes.length + 1
  | .lit _ => 1
  | .nil => 1
  | .ptr d => uptoBulk d + 1
  | .slice elems spare => uptoBulkAll elems + uptoBulkAll spare + 1
  | .agg parts => uptoBulkAll parts + 1
  | .iface _ d => uptoBulk d + 1
  | .map entries => uptoBulkEntries entries + 1
  | .held _ => 1
def uptoBulkAll {H : Type} : List (DataW H) → Nat
  | [] => 0
  | d :: r => uptoBulk d + uptoBulkAll r
def uptoBulkEntries {H : Type} : List (Lit × DataW H) → Nat
  | [] => 0
  | x :: r => uptoBulkEntry x + uptoBulkEntries r
def uptoBulkEntry {H : Type} : Lit × DataW H → Nat
  | (.string bytes, d) => bytes.length + uptoBulk d + 1
  | (_, d) => uptoBulk d + 1
 end
def uptoSmall : (H : Type) → List (DataW H) → Bool := fun _ ds => decide (uptoBulkAll ds ≤ 1048576)
def OpenSpec.upto (s : _root_.Go.ChangeSpec) : _root_.Go.OpenSpec := { _root_.Go.OpenSpec.ofChange s with cond := some uptoSmall }

/-- 'laws.FnExactDecodeHex', WHERE WHAT IT READS IS OF BULK AT MOST 1048576: true; the input reads as it did. -/
def fnExactDecodeHexUptoRow : OpenClaim := { program := "ytnnfjikfpihojaa", sum := "a46b86b76efd82ce3e7c98c096757c20d45dd7ed341cb90860d89e512c7a434d", func := "loop.example/g01923/laws.FnExactDecodeHex", spec := "fnExactDecodeHex", inPlace := ["internal/bytealg.IndexByteString"], apart := false, narrowed := true }
def FnExactDecodeHexUptoSaid : Prop := fnExactDecodeHexUptoRow.holds Try.pinned (OpenSpec.upto fnExactDecodeHexSpec)

/-- 'laws.FnExactDecodeVarint', WHERE WHAT IT READS IS OF BULK AT MOST 1048576: true; the input reads as it did. -/
def fnExactDecodeVarintUptoRow : OpenClaim := { program := "ytnnfjikfpihojaa", sum := "a46b86b76efd82ce3e7c98c096757c20d45dd7ed341cb90860d89e512c7a434d", func := "loop.example/g01923/laws.FnExactDecodeVarint", spec := "fnExactDecodeVarint", apart := false, narrowed := true }
def FnExactDecodeVarintUptoSaid : Prop := fnExactDecodeVarintUptoRow.holds Try.pinned (OpenSpec.upto fnExactDecodeVarintSpec)

/-- 'laws.FnExactEqualTokens', WHERE WHAT IT READS IS OF BULK AT MOST 1048576: true; the input reads as it did. -/
def fnExactEqualTokensUptoRow : OpenClaim := { program := "ytnnfjikfpihojaa", sum := "a46b86b76efd82ce3e7c98c096757c20d45dd7ed341cb90860d89e512c7a434d", func := "loop.example/g01923/laws.FnExactEqualTokens", spec := "fnExactEqualTokens", apart := false, narrowed := true }
def FnExactEqualTokensUptoSaid : Prop := fnExactEqualTokensUptoRow.holds Try.pinned (OpenSpec.upto fnExactEqualTokensSpec)

/-- 'laws.FnExactCombineScores', WHERE WHAT IT READS IS OF BULK AT MOST 1048576: true; the input reads as it did. -/
def fnExactCombineScoresUptoRow : OpenClaim := { program := "ytnnfjikfpihojaa", sum := "a46b86b76efd82ce3e7c98c096757c20d45dd7ed341cb90860d89e512c7a434d", func := "loop.example/g01923/laws.FnExactCombineScores", spec := "fnExactCombineScores", apart := false, narrowed := true }
def FnExactCombineScoresUptoSaid : Prop := fnExactCombineScoresUptoRow.holds Try.pinned (OpenSpec.upto fnExactCombineScoresSpec)

/-- 'laws.FnExactPhoneScore', WHERE WHAT IT READS IS OF BULK AT MOST 1048576: true; the input reads as it did. -/
def fnExactPhoneScoreUptoRow : OpenClaim := { program := "ytnnfjikfpihojaa", sum := "a46b86b76efd82ce3e7c98c096757c20d45dd7ed341cb90860d89e512c7a434d", func := "loop.example/g01923/laws.FnExactPhoneScore", spec := "fnExactPhoneScore", apart := false, narrowed := true }
def FnExactPhoneScoreUptoSaid : Prop := fnExactPhoneScoreUptoRow.holds Try.pinned (OpenSpec.upto fnExactPhoneScoreSpec)

/-- 'laws.FnExactApplyScript', WHERE WHAT IT READS IS OF BULK AT MOST 1048576: true; the input reads as it did. -/
def fnExactApplyScriptUptoRow : OpenClaim := { program := "ytnnfjikfpihojaa", sum := "a46b86b76efd82ce3e7c98c096757c20d45dd7ed341cb90860d89e512c7a434d", func := "loop.example/g01923/laws.FnExactApplyScript", spec := "fnExactApplyScript", apart := false, narrowed := true }
def FnExactApplyScriptUptoSaid : Prop := fnExactApplyScriptUptoRow.holds Try.pinned (OpenSpec.upto fnExactApplyScriptSpec)

/-- 'laws.FnExactEditDistance', WHERE WHAT IT READS IS OF BULK AT MOST 1048576: true; the input reads as it did. -/
def fnExactEditDistanceUptoRow : OpenClaim := { program := "ytnnfjikfpihojaa", sum := "a46b86b76efd82ce3e7c98c096757c20d45dd7ed341cb90860d89e512c7a434d", func := "loop.example/g01923/laws.FnExactEditDistance", spec := "fnExactEditDistance", apart := false, narrowed := true }
def FnExactEditDistanceUptoSaid : Prop := fnExactEditDistanceUptoRow.holds Try.pinned (OpenSpec.upto fnExactEditDistanceSpec)

/-- 'laws.FnExactSwapDistance', WHERE WHAT IT READS IS OF BULK AT MOST 1048576: true; the input reads as it did. -/
def fnExactSwapDistanceUptoRow : OpenClaim := { program := "ytnnfjikfpihojaa", sum := "a46b86b76efd82ce3e7c98c096757c20d45dd7ed341cb90860d89e512c7a434d", func := "loop.example/g01923/laws.FnExactSwapDistance", spec := "fnExactSwapDistance", apart := false, narrowed := true }
def FnExactSwapDistanceUptoSaid : Prop := fnExactSwapDistanceUptoRow.holds Try.pinned (OpenSpec.upto fnExactSwapDistanceSpec)

/-- 'laws.FnExactEditWithin', WHERE WHAT IT READS IS OF BULK AT MOST 1048576: true; the input reads as it did. -/
def fnExactEditWithinUptoRow : OpenClaim := { program := "ytnnfjikfpihojaa", sum := "a46b86b76efd82ce3e7c98c096757c20d45dd7ed341cb90860d89e512c7a434d", func := "loop.example/g01923/laws.FnExactEditWithin", spec := "fnExactEditWithin", apart := false, narrowed := true }
def FnExactEditWithinUptoSaid : Prop := fnExactEditWithinUptoRow.holds Try.pinned (OpenSpec.upto fnExactEditWithinSpec)

/-- 'laws.FnExactEditScore', WHERE WHAT IT READS IS OF BULK AT MOST 1048576: true; the input reads as it did. -/
def fnExactEditScoreUptoRow : OpenClaim := { program := "ytnnfjikfpihojaa", sum := "a46b86b76efd82ce3e7c98c096757c20d45dd7ed341cb90860d89e512c7a434d", func := "loop.example/g01923/laws.FnExactEditScore", spec := "fnExactEditScore", apart := false, narrowed := true }
def FnExactEditScoreUptoSaid : Prop := fnExactEditScoreUptoRow.holds Try.pinned (OpenSpec.upto fnExactEditScoreSpec)

/-- 'laws.FnExactEditScript', WHERE WHAT IT READS IS OF BULK AT MOST 1048576: true; the input reads as it did. -/
def fnExactEditScriptUptoRow : OpenClaim := { program := "ytnnfjikfpihojaa", sum := "a46b86b76efd82ce3e7c98c096757c20d45dd7ed341cb90860d89e512c7a434d", func := "loop.example/g01923/laws.FnExactEditScript", spec := "fnExactEditScript", apart := false, narrowed := true }
def FnExactEditScriptUptoSaid : Prop := fnExactEditScriptUptoRow.holds Try.pinned (OpenSpec.upto fnExactEditScriptSpec)

end Rows
end Go.Proofs.Ytnnfjikfpihojaa

/-
  No cell of these rows narrows 'for every input' (looked for: loops, veiled, ifaces, maps, wideKeys, modest, calm, conditions, laid).
  DERIVED. THE GIVEN ROWS OF THIS SEAT. 4 by the template 'for every input the law returns true; each argument reads behind the call as it read before'; 0 by the template 'total and deterministic' (their statements: YtdhdjmeolkobeaaTotals.lean).
  GIVEN WITH THE SEED: the statements are not yours to turn. If you find one false, say at which input.
  Laid BY PROGRAM, IN A SANDBOX (cutbox-rows.mjs): the forced cells as the released guide's own fill.sh prints them over the translation 5c77f2f467770dc1… (all of the seat's roots in one cut). By AI agents, Wed Nov 11 2026. No macro, syntax, notation, axiom, sorry.
-/
import Derived.Test.YtdhdjmeolkobeaaChecked
import GoSem.Claim
import GoSem.ClaimJoined
import GoSem.ClaimMapViews
import Derived.JoinedTies
import Derived.KernelRfl
namespace Go.Proofs.Ytdhdjmeolkobeaa
/- THE CELL 'sum', in the pinned program and in every row, IS THE sha256 OF THE DUMP (.gsa) THAT YtdhdjmeolkobeaaProg.lean LOADS. Nothing in Lean hashes anything: it is a label: what it is worth is what the hold of that sum in a sandbox is worth. -/
noncomputable def Try.pinned : Pinned := { name := "ytdhdjmeolkobeaa", sum := "5c77f2f467770dc11cb653bb6a5d922cc1dfc7a5f8a2200adce2fa772e6fae32", checked := Try.checked }
namespace Rows
def none {H : Type} : Left H := { results := [], args := [] }

/-- 'laws.FnExactEditScript': WHATEVER THE INPUT: true; the input reads as it did. -/
def fnExactEditScriptSpec : ChangeSpec := { name := "fnExactEditScript", fn := fun _ => fun
  | [d1, d2] => { results := [.lit (.bool true)], args := [d1, d2] }
  | _ => none }
def fnExactEditScriptRow : OpenClaim := { program := "ytdhdjmeolkobeaa", sum := "5c77f2f467770dc11cb653bb6a5d922cc1dfc7a5f8a2200adce2fa772e6fae32", func := "loop.example/g01923/laws.FnExactEditScript", spec := "fnExactEditScript", apart := false }
def FnExactEditScriptSaid : Prop := fnExactEditScriptRow.holds Try.pinned (OpenSpec.ofChange fnExactEditScriptSpec)

/-- ITS FALSE NEIGHBOUR: 'it returns false'. Refute it at one input. -/
def fnExactEditScriptWrong : ChangeSpec := { name := "fnExactEditScript", fn := fun _ => fun
  | [d1, d2] => { results := [.lit (.bool false)], args := [d1, d2] }
  | _ => none }
def FnExactEditScriptWrongFalsely : Prop := fnExactEditScriptRow.holds Try.pinned (OpenSpec.ofChange fnExactEditScriptWrong)

/-- 'laws.FnExactQGrams': WHATEVER THE INPUT: true; the input reads as it did. -/
def fnExactQGramsSpec : ChangeSpec := { name := "fnExactQGrams", fn := fun _ => fun
  | [d1, d2] => { results := [.lit (.bool true)], args := [d1, d2] }
  | _ => none }
def fnExactQGramsRow : OpenClaim := { program := "ytdhdjmeolkobeaa", sum := "5c77f2f467770dc11cb653bb6a5d922cc1dfc7a5f8a2200adce2fa772e6fae32", func := "loop.example/g01923/laws.FnExactQGrams", spec := "fnExactQGrams", recurses := true, apart := false }
def FnExactQGramsSaid : Prop := fnExactQGramsRow.holds Try.pinned (OpenSpec.ofChange fnExactQGramsSpec)

/-- ITS FALSE NEIGHBOUR: 'it returns false'. Refute it at one input. -/
def fnExactQGramsWrong : ChangeSpec := { name := "fnExactQGrams", fn := fun _ => fun
  | [d1, d2] => { results := [.lit (.bool false)], args := [d1, d2] }
  | _ => none }
def FnExactQGramsWrongFalsely : Prop := fnExactQGramsRow.holds Try.pinned (OpenSpec.ofChange fnExactQGramsWrong)

/-- 'laws.FnExactUniteTokens': WHATEVER THE INPUT: true; the input reads as it did. -/
def fnExactUniteTokensSpec : ChangeSpec := { name := "fnExactUniteTokens", fn := fun _ => fun
  | [d1, d2] => { results := [.lit (.bool true)], args := [d1, d2] }
  | _ => none }
def fnExactUniteTokensRow : OpenClaim := { program := "ytdhdjmeolkobeaa", sum := "5c77f2f467770dc11cb653bb6a5d922cc1dfc7a5f8a2200adce2fa772e6fae32", func := "loop.example/g01923/laws.FnExactUniteTokens", spec := "fnExactUniteTokens", recurses := true, apart := false }
def FnExactUniteTokensSaid : Prop := fnExactUniteTokensRow.holds Try.pinned (OpenSpec.ofChange fnExactUniteTokensSpec)

/-- ITS FALSE NEIGHBOUR: 'it returns false'. Refute it at one input. -/
def fnExactUniteTokensWrong : ChangeSpec := { name := "fnExactUniteTokens", fn := fun _ => fun
  | [d1, d2] => { results := [.lit (.bool false)], args := [d1, d2] }
  | _ => none }
def FnExactUniteTokensWrongFalsely : Prop := fnExactUniteTokensRow.holds Try.pinned (OpenSpec.ofChange fnExactUniteTokensWrong)

/-- 'laws.FnExactCommonTokens': WHATEVER THE INPUT: true; the input reads as it did. -/
def fnExactCommonTokensSpec : ChangeSpec := { name := "fnExactCommonTokens", fn := fun _ => fun
  | [d1, d2] => { results := [.lit (.bool true)], args := [d1, d2] }
  | _ => none }
def fnExactCommonTokensRow : OpenClaim := { program := "ytdhdjmeolkobeaa", sum := "5c77f2f467770dc11cb653bb6a5d922cc1dfc7a5f8a2200adce2fa772e6fae32", func := "loop.example/g01923/laws.FnExactCommonTokens", spec := "fnExactCommonTokens", unfollowed := true, recurses := true, apart := false }
def FnExactCommonTokensSaid : Prop := fnExactCommonTokensRow.holds Try.pinned (OpenSpec.ofChange fnExactCommonTokensSpec)

/-- ITS FALSE NEIGHBOUR: 'it returns false'. Refute it at one input. -/
def fnExactCommonTokensWrong : ChangeSpec := { name := "fnExactCommonTokens", fn := fun _ => fun
  | [d1, d2] => { results := [.lit (.bool false)], args := [d1, d2] }
  | _ => none }
def FnExactCommonTokensWrongFalsely : Prop := fnExactCommonTokensRow.holds Try.pinned (OpenSpec.ofChange fnExactCommonTokensWrong)

/- THE SECOND FORM. 'bulk': how many values and letters a reading holds, each counted each time it is reached (what is shared counts as often as it is met; a slice's spare places count too). A statement '..UptoSaid' is the law's where the arguments, and the package variables that the reading takes, are together of bulk at most 1048576: NARROWER than '..Said'. Prove '..Said' where nothing that the law and all that it calls make is longer than what came in: it says more and counts as full. Else prove '..UptoSaid'. A law counts once. -/
mutual
def uptoBulk {H : Type} : DataW H → Nat
  | .lit (.string bytes) => bytes.length + 1
  | .lit _ => 1
  | .nil => 1
  | .ptr d => uptoBulk d + 1
  | .slice elems spare => uptoBulkAll elems + uptoBulkAll spare + 1
  | .agg parts => uptoBulkAll parts + 1
  | .iface _ d => uptoBulk d + 1
  | .map entries => uptoBulkEntries entries + 1
  | .held _ => 1
def uptoBulkAll {H : Type} : List (DataW H) → Nat
  | [] => 0
  | d :: r => uptoBulk d + uptoBulkAll r
def uptoBulkEntries {H : Type} : List (Lit × DataW H) → Nat
  | [] => 0
  | x :: r => uptoBulkEntry x + uptoBulkEntries r
def uptoBulkEntry {H : Type} : Lit × DataW H → Nat
  | (.string bytes, d) => bytes.length + uptoBulk d + 1
  | (_, d) => uptoBulk d + 1
 end
def uptoSmall : (H : Type) → List (DataW H) → Bool := fun _ ds => decide (uptoBulkAll ds ≤ 1048576)
def OpenSpec.upto (s : _root_.Go.ChangeSpec) : _root_.Go.OpenSpec := { _root_.Go.OpenSpec.ofChange s with cond := some uptoSmall }

/-- 'laws.FnExactEditScript', WHERE WHAT IT READS IS OF BULK AT MOST 1048576: true; the input reads as it did. -/
def fnExactEditScriptUptoRow : OpenClaim := { program := "ytdhdjmeolkobeaa", sum := "5c77f2f467770dc11cb653bb6a5d922cc1dfc7a5f8a2200adce2fa772e6fae32", func := "loop.example/g01923/laws.FnExactEditScript", spec := "fnExactEditScript", apart := false, narrowed := true }
def FnExactEditScriptUptoSaid : Prop := fnExactEditScriptUptoRow.holds Try.pinned (OpenSpec.upto fnExactEditScriptSpec)

/-- 'laws.FnExactQGrams', WHERE WHAT IT READS IS OF BULK AT MOST 1048576: true; the input reads as it did. -/
def fnExactQGramsUptoRow : OpenClaim := { program := "ytdhdjmeolkobeaa", sum := "5c77f2f467770dc11cb653bb6a5d922cc1dfc7a5f8a2200adce2fa772e6fae32", func := "loop.example/g01923/laws.FnExactQGrams", spec := "fnExactQGrams", recurses := true, apart := false, narrowed := true }
def FnExactQGramsUptoSaid : Prop := fnExactQGramsUptoRow.holds Try.pinned (OpenSpec.upto fnExactQGramsSpec)

/-- 'laws.FnExactUniteTokens', WHERE WHAT IT READS IS OF BULK AT MOST 1048576: true; the input reads as it did. -/
def fnExactUniteTokensUptoRow : OpenClaim := { program := "ytdhdjmeolkobeaa", sum := "5c77f2f467770dc11cb653bb6a5d922cc1dfc7a5f8a2200adce2fa772e6fae32", func := "loop.example/g01923/laws.FnExactUniteTokens", spec := "fnExactUniteTokens", recurses := true, apart := false, narrowed := true }
def FnExactUniteTokensUptoSaid : Prop := fnExactUniteTokensUptoRow.holds Try.pinned (OpenSpec.upto fnExactUniteTokensSpec)

/-- 'laws.FnExactCommonTokens', WHERE WHAT IT READS IS OF BULK AT MOST 1048576: true; the input reads as it did. -/
def fnExactCommonTokensUptoRow : OpenClaim := { program := "ytdhdjmeolkobeaa", sum := "5c77f2f467770dc11cb653bb6a5d922cc1dfc7a5f8a2200adce2fa772e6fae32", func := "loop.example/g01923/laws.FnExactCommonTokens", spec := "fnExactCommonTokens", unfollowed := true, recurses := true, apart := false, narrowed := true }
def FnExactCommonTokensUptoSaid : Prop := fnExactCommonTokensUptoRow.holds Try.pinned (OpenSpec.upto fnExactCommonTokensSpec)

end Rows
end Go.Proofs.Ytdhdjmeolkobeaa

/-
  No cell of these rows narrows 'for every input' (looked for: loops, veiled, ifaces, maps, wideKeys, modest, calm, conditions, laid).
  DERIVED. THE GIVEN ROWS OF THIS SEAT. 5 by the template 'for every input the law returns true; each argument reads behind the call as it read before'; 0 by the template 'total and deterministic' (their statements: YtebfjikgececlaaTotals.lean).
  GIVEN WITH THE SEED: the statements are not yours to turn. If you find one false, say at which input.
  Laid BY PROGRAM, IN A SANDBOX (cutbox-rows.mjs): the forced cells as the released guide's own fill.sh prints them over the translation 360ef1bda093ed91… (all of the seat's roots in one cut). By AI agents, Wed Nov 11 2026. No macro, syntax, notation, axiom, sorry.
-/
import Derived.Test.YtebfjikgececlaaChecked
import GoSem.Claim
import GoSem.ClaimJoined
import GoSem.ClaimMapViews
import Derived.JoinedTies
import Derived.KernelRfl
namespace Go.Proofs.Ytebfjikgececlaa
/- THE CELL 'sum', in the pinned program and in every row, IS THE sha256 OF THE DUMP (.gsa) THAT YtebfjikgececlaaProg.lean LOADS. Nothing in Lean hashes anything: it is a label: what it is worth is what the hold of that sum in a sandbox is worth. -/
noncomputable def Try.pinned : Pinned := { name := "ytebfjikgececlaa", sum := "360ef1bda093ed91d6c57c6d26ffa96d5f6e8caf39c0d845f0a1f646aa40b785", checked := Try.checked }
namespace Rows
def none {H : Type} : Left H := { results := [], args := [] }

/-- 'laws.FnExactIsTokenSet': WHATEVER THE INPUT: true; the input reads as it did. -/
def fnExactIsTokenSetSpec : ChangeSpec := { name := "fnExactIsTokenSet", fn := fun _ => fun
  | [d] => { results := [.lit (.bool true)], args := [d] }
  | _ => none }
def fnExactIsTokenSetRow : OpenClaim := { program := "ytebfjikgececlaa", sum := "360ef1bda093ed91d6c57c6d26ffa96d5f6e8caf39c0d845f0a1f646aa40b785", func := "loop.example/g01923/laws.FnExactIsTokenSet", spec := "fnExactIsTokenSet", apart := false }
def FnExactIsTokenSetSaid : Prop := fnExactIsTokenSetRow.holds Try.pinned (OpenSpec.ofChange fnExactIsTokenSetSpec)

/-- ITS FALSE NEIGHBOUR: 'it returns false'. Refute it at one input. -/
def fnExactIsTokenSetWrong : ChangeSpec := { name := "fnExactIsTokenSet", fn := fun _ => fun
  | [d] => { results := [.lit (.bool false)], args := [d] }
  | _ => none }
def FnExactIsTokenSetWrongFalsely : Prop := fnExactIsTokenSetRow.holds Try.pinned (OpenSpec.ofChange fnExactIsTokenSetWrong)

/-- 'laws.FnExactSameOrigin': WHATEVER THE INPUT: true; the input reads as it did. -/
def fnExactSameOriginSpec : ChangeSpec := { name := "fnExactSameOrigin", fn := fun _ => fun
  | [d1, d2] => { results := [.lit (.bool true)], args := [d1, d2] }
  | _ => none }
def fnExactSameOriginRow : OpenClaim := { program := "ytebfjikgececlaa", sum := "360ef1bda093ed91d6c57c6d26ffa96d5f6e8caf39c0d845f0a1f646aa40b785", func := "loop.example/g01923/laws.FnExactSameOrigin", spec := "fnExactSameOrigin", apart := false }
def FnExactSameOriginSaid : Prop := fnExactSameOriginRow.holds Try.pinned (OpenSpec.ofChange fnExactSameOriginSpec)

/-- ITS FALSE NEIGHBOUR: 'it returns false'. Refute it at one input. -/
def fnExactSameOriginWrong : ChangeSpec := { name := "fnExactSameOrigin", fn := fun _ => fun
  | [d1, d2] => { results := [.lit (.bool false)], args := [d1, d2] }
  | _ => none }
def FnExactSameOriginWrongFalsely : Prop := fnExactSameOriginRow.holds Try.pinned (OpenSpec.ofChange fnExactSameOriginWrong)

/-- 'laws.FnExactCompareRecords': WHATEVER THE INPUT: true; the input reads as it did. -/
def fnExactCompareRecordsSpec : ChangeSpec := { name := "fnExactCompareRecords", fn := fun _ => fun
  | [d1, d2] => { results := [.lit (.bool true)], args := [d1, d2] }
  | _ => none }
def fnExactCompareRecordsRow : OpenClaim := { program := "ytebfjikgececlaa", sum := "360ef1bda093ed91d6c57c6d26ffa96d5f6e8caf39c0d845f0a1f646aa40b785", func := "loop.example/g01923/laws.FnExactCompareRecords", spec := "fnExactCompareRecords", apart := false }
def FnExactCompareRecordsSaid : Prop := fnExactCompareRecordsRow.holds Try.pinned (OpenSpec.ofChange fnExactCompareRecordsSpec)

/-- ITS FALSE NEIGHBOUR: 'it returns false'. Refute it at one input. -/
def fnExactCompareRecordsWrong : ChangeSpec := { name := "fnExactCompareRecords", fn := fun _ => fun
  | [d1, d2] => { results := [.lit (.bool false)], args := [d1, d2] }
  | _ => none }
def FnExactCompareRecordsWrongFalsely : Prop := fnExactCompareRecordsRow.holds Try.pinned (OpenSpec.ofChange fnExactCompareRecordsWrong)

/-- 'laws.FnExactIsValidRecord': WHATEVER THE INPUT: true; the input reads as it did. -/
def fnExactIsValidRecordSpec : ChangeSpec := { name := "fnExactIsValidRecord", fn := fun _ => fun
  | [d] => { results := [.lit (.bool true)], args := [d] }
  | _ => none }
def fnExactIsValidRecordRow : OpenClaim := { program := "ytebfjikgececlaa", sum := "360ef1bda093ed91d6c57c6d26ffa96d5f6e8caf39c0d845f0a1f646aa40b785", func := "loop.example/g01923/laws.FnExactIsValidRecord", spec := "fnExactIsValidRecord", inPlace := ["internal/bytealg.IndexByteString", "internal/bytealg.IndexString"], unfollowed := true, recurses := true, named := ["internal/bytealg.MaxLen"], apart := false }
def FnExactIsValidRecordSaid : Prop := fnExactIsValidRecordRow.holds Try.pinned (OpenSpec.ofChange fnExactIsValidRecordSpec)

/-- ITS FALSE NEIGHBOUR: 'it returns false'. Refute it at one input. -/
def fnExactIsValidRecordWrong : ChangeSpec := { name := "fnExactIsValidRecord", fn := fun _ => fun
  | [d] => { results := [.lit (.bool false)], args := [d] }
  | _ => none }
def FnExactIsValidRecordWrongFalsely : Prop := fnExactIsValidRecordRow.holds Try.pinned (OpenSpec.ofChange fnExactIsValidRecordWrong)

/-- 'laws.FnExactNewRecord': WHATEVER THE INPUT: true; the input reads as it did. -/
def fnExactNewRecordSpec : ChangeSpec := { name := "fnExactNewRecord", fn := fun _ => fun
  | [d1, d2, d3, d4] => { results := [.lit (.bool true)], args := [d1, d2, d3, d4] }
  | _ => none }
def fnExactNewRecordRow : OpenClaim := { program := "ytebfjikgececlaa", sum := "360ef1bda093ed91d6c57c6d26ffa96d5f6e8caf39c0d845f0a1f646aa40b785", func := "loop.example/g01923/laws.FnExactNewRecord", spec := "fnExactNewRecord", inPlace := ["internal/bytealg.IndexByteString", "internal/bytealg.IndexString"], unfollowed := true, recurses := true, named := ["internal/bytealg.MaxLen"], apart := false }
def FnExactNewRecordSaid : Prop := fnExactNewRecordRow.holds Try.pinned (OpenSpec.ofChange fnExactNewRecordSpec)

/-- ITS FALSE NEIGHBOUR: 'it returns false'. Refute it at one input. -/
def fnExactNewRecordWrong : ChangeSpec := { name := "fnExactNewRecord", fn := fun _ => fun
  | [d1, d2, d3, d4] => { results := [.lit (.bool false)], args := [d1, d2, d3, d4] }
  | _ => none }
def FnExactNewRecordWrongFalsely : Prop := fnExactNewRecordRow.holds Try.pinned (OpenSpec.ofChange fnExactNewRecordWrong)

/- THE SECOND FORM. 'bulk': how many values and letters a reading holds, each counted each time it is reached (what is shared counts as often as it is met; a slice's spare places count too). A statement '..UptoSaid' is the law's where the arguments, and the package variables that the reading takes, are together of bulk at most 1048576: NARROWER than '..Said'. Prove '..Said' where nothing that the law and all that it calls make is longer than what came in: it says more and counts as full. Else prove '..UptoSaid'. A law counts once. -/
mutual
def uptoBulk {H : Type} : DataW H → Nat
  | .lit (.string bytes) => bytes.length + 1
  | .lit _ => 1
  | .nil => 1
  | .ptr d => uptoBulk d + 1
  | .slice elems spare => uptoBulkAll elems + uptoBulkAll spare + 1
  | .agg parts => uptoBulkAll parts + 1
  | .iface _ d => uptoBulk d + 1
  | .map entries => uptoBulkEntries entries + 1
  | .held _ => 1
def uptoBulkAll {H : Type} : List (DataW H) → Nat
  | [] => 0
  | d :: r => uptoBulk d + uptoBulkAll r
def uptoBulkEntries {H : Type} : List (Lit × DataW H) → Nat
  | [] => 0
  | x :: r => uptoBulkEntry x + uptoBulkEntries r
def uptoBulkEntry {H : Type} : Lit × DataW H → Nat
  | (.string bytes, d) => bytes.length + uptoBulk d + 1
  | (_, d) => uptoBulk d + 1
 end
def uptoSmall : (H : Type) → List (DataW H) → Bool := fun _ ds => decide (uptoBulkAll ds ≤ 1048576)
def OpenSpec.upto (s : _root_.Go.ChangeSpec) : _root_.Go.OpenSpec := { _root_.Go.OpenSpec.ofChange s with cond := some uptoSmall }

/-- 'laws.FnExactIsTokenSet', WHERE WHAT IT READS IS OF BULK AT MOST 1048576: true; the input reads as it did. -/
def fnExactIsTokenSetUptoRow : OpenClaim := { program := "ytebfjikgececlaa", sum := "360ef1bda093ed91d6c57c6d26ffa96d5f6e8caf39c0d845f0a1f646aa40b785", func := "loop.example/g01923/laws.FnExactIsTokenSet", spec := "fnExactIsTokenSet", apart := false, narrowed := true }
def FnExactIsTokenSetUptoSaid : Prop := fnExactIsTokenSetUptoRow.holds Try.pinned (OpenSpec.upto fnExactIsTokenSetSpec)

/-- 'laws.FnExactSameOrigin', WHERE WHAT IT READS IS OF BULK AT MOST 1048576: true; the input reads as it did. -/
def fnExactSameOriginUptoRow : OpenClaim := { program := "ytebfjikgececlaa", sum := "360ef1bda093ed91d6c57c6d26ffa96d5f6e8caf39c0d845f0a1f646aa40b785", func := "loop.example/g01923/laws.FnExactSameOrigin", spec := "fnExactSameOrigin", apart := false, narrowed := true }
def FnExactSameOriginUptoSaid : Prop := fnExactSameOriginUptoRow.holds Try.pinned (OpenSpec.upto fnExactSameOriginSpec)

/-- 'laws.FnExactCompareRecords', WHERE WHAT IT READS IS OF BULK AT MOST 1048576: true; the input reads as it did. -/
def fnExactCompareRecordsUptoRow : OpenClaim := { program := "ytebfjikgececlaa", sum := "360ef1bda093ed91d6c57c6d26ffa96d5f6e8caf39c0d845f0a1f646aa40b785", func := "loop.example/g01923/laws.FnExactCompareRecords", spec := "fnExactCompareRecords", apart := false, narrowed := true }
def FnExactCompareRecordsUptoSaid : Prop := fnExactCompareRecordsUptoRow.holds Try.pinned (OpenSpec.upto fnExactCompareRecordsSpec)

/-- 'laws.FnExactIsValidRecord', WHERE WHAT IT READS IS OF BULK AT MOST 1048576: true; the input reads as it did. -/
def fnExactIsValidRecordUptoRow : OpenClaim := { program := "ytebfjikgececlaa", sum := "360ef1bda093ed91d6c57c6d26ffa96d5f6e8caf39c0d845f0a1f646aa40b785", func := "loop.example/g01923/laws.FnExactIsValidRecord", spec := "fnExactIsValidRecord", inPlace := ["internal/bytealg.IndexByteString", "internal/bytealg.IndexString"], unfollowed := true, recurses := true, named := ["internal/bytealg.MaxLen"], apart := false, narrowed := true }
def FnExactIsValidRecordUptoSaid : Prop := fnExactIsValidRecordUptoRow.holds Try.pinned (OpenSpec.upto fnExactIsValidRecordSpec)

/-- 'laws.FnExactNewRecord', WHERE WHAT IT READS IS OF BULK AT MOST 1048576: true; the input reads as it did. -/
def fnExactNewRecordUptoRow : OpenClaim := { program := "ytebfjikgececlaa", sum := "360ef1bda093ed91d6c57c6d26ffa96d5f6e8caf39c0d845f0a1f646aa40b785", func := "loop.example/g01923/laws.FnExactNewRecord", spec := "fnExactNewRecord", inPlace := ["internal/bytealg.IndexByteString", "internal/bytealg.IndexString"], unfollowed := true, recurses := true, named := ["internal/bytealg.MaxLen"], apart := false, narrowed := true }
def FnExactNewRecordUptoSaid : Prop := fnExactNewRecordUptoRow.holds Try.pinned (OpenSpec.upto fnExactNewRecordSpec)

end Rows
end Go.Proofs.Ytebfjikgececlaa

/-
  No cell of these rows narrows 'for every input' (looked for: loops, veiled, ifaces, maps, wideKeys, modest, calm, conditions, laid).
  DERIVED. THE GIVEN ROWS OF THIS SEAT. 12 by the template 'for every input the law returns true; each argument reads behind the call as it read before'; 0 by the template 'total and deterministic' (their statements: YtehhdnphpjmghaaTotals.lean).
  GIVEN WITH THE SEED: the statements are not yours to turn. If you find one false, say at which input.
  Laid BY PROGRAM, IN A SANDBOX (cutbox-rows.mjs): the forced cells as the released guide's own fill.sh prints them over the translation ccf7f9d83ee18e8a… (all of the seat's roots in one cut). By AI agents, Wed Nov 11 2026. No macro, syntax, notation, axiom, sorry.
-/
import Derived.Test.YtehhdnphpjmghaaChecked
import GoSem.Claim
import GoSem.ClaimJoined
import GoSem.ClaimMapViews
import Derived.JoinedTies
import Derived.KernelRfl
namespace Go.Proofs.Ytehhdnphpjmghaa
/- THE CELL 'sum', in the pinned program and in every row, IS THE sha256 OF THE DUMP (.gsa) THAT YtehhdnphpjmghaaProg.lean LOADS. Nothing in Lean hashes anything: it is a label: what it is worth is what the hold of that sum in a sandbox is worth. -/
noncomputable def Try.pinned : Pinned := { name := "ytehhdnphpjmghaa", sum := "ccf7f9d83ee18e8a76d3f0c565f7c2e2e7265092e4346ee1fd4646fedabc0311", checked := Try.checked }
namespace Rows
def none {H : Type} : Left H := { results := [], args := [] }

/-- 'laws.FnExactConstants': WHATEVER THE INPUT: true; the input reads as it did. -/
def fnExactConstantsSpec : ChangeSpec := { name := "fnExactConstants", fn := fun _ => fun
  | [] => { results := [.lit (.bool true)], args := [] }
  | _ => none }
def fnExactConstantsRow : OpenClaim := { program := "ytehhdnphpjmghaa", sum := "ccf7f9d83ee18e8a76d3f0c565f7c2e2e7265092e4346ee1fd4646fedabc0311", func := "loop.example/g00968/laws.FnExactConstants", spec := "fnExactConstants", apart := false }
def FnExactConstantsSaid : Prop := fnExactConstantsRow.holds Try.pinned (OpenSpec.ofChange fnExactConstantsSpec)

/-- ITS FALSE NEIGHBOUR: 'it returns false'. Refute it at one input. -/
def fnExactConstantsWrong : ChangeSpec := { name := "fnExactConstants", fn := fun _ => fun
  | [] => { results := [.lit (.bool false)], args := [] }
  | _ => none }
def FnExactConstantsWrongFalsely : Prop := fnExactConstantsRow.holds Try.pinned (OpenSpec.ofChange fnExactConstantsWrong)

/-- 'laws.FnExactRuneOk': WHATEVER THE INPUT: true; the input reads as it did. -/
def fnExactRuneOkSpec : ChangeSpec := { name := "fnExactRuneOk", fn := fun _ => fun
  | [d] => { results := [.lit (.bool true)], args := [d] }
  | _ => none }
def fnExactRuneOkRow : OpenClaim := { program := "ytehhdnphpjmghaa", sum := "ccf7f9d83ee18e8a76d3f0c565f7c2e2e7265092e4346ee1fd4646fedabc0311", func := "loop.example/g00968/laws.FnExactRuneOk", spec := "fnExactRuneOk", apart := false }
def FnExactRuneOkSaid : Prop := fnExactRuneOkRow.holds Try.pinned (OpenSpec.ofChange fnExactRuneOkSpec)

/-- ITS FALSE NEIGHBOUR: 'it returns false'. Refute it at one input. -/
def fnExactRuneOkWrong : ChangeSpec := { name := "fnExactRuneOk", fn := fun _ => fun
  | [d] => { results := [.lit (.bool false)], args := [d] }
  | _ => none }
def FnExactRuneOkWrongFalsely : Prop := fnExactRuneOkRow.holds Try.pinned (OpenSpec.ofChange fnExactRuneOkWrong)

/-- 'laws.FnExactAddInt': WHATEVER THE INPUT: true; the input reads as it did. -/
def fnExactAddIntSpec : ChangeSpec := { name := "fnExactAddInt", fn := fun _ => fun
  | [d1, d2] => { results := [.lit (.bool true)], args := [d1, d2] }
  | _ => none }
def fnExactAddIntRow : OpenClaim := { program := "ytehhdnphpjmghaa", sum := "ccf7f9d83ee18e8a76d3f0c565f7c2e2e7265092e4346ee1fd4646fedabc0311", func := "loop.example/g00968/laws.FnExactAddInt", spec := "fnExactAddInt", apart := false }
def FnExactAddIntSaid : Prop := fnExactAddIntRow.holds Try.pinned (OpenSpec.ofChange fnExactAddIntSpec)

/-- ITS FALSE NEIGHBOUR: 'it returns false'. Refute it at one input. -/
def fnExactAddIntWrong : ChangeSpec := { name := "fnExactAddInt", fn := fun _ => fun
  | [d1, d2] => { results := [.lit (.bool false)], args := [d1, d2] }
  | _ => none }
def FnExactAddIntWrongFalsely : Prop := fnExactAddIntRow.holds Try.pinned (OpenSpec.ofChange fnExactAddIntWrong)

/-- 'laws.FnExactMulInt': WHATEVER THE INPUT: true; the input reads as it did. -/
def fnExactMulIntSpec : ChangeSpec := { name := "fnExactMulInt", fn := fun _ => fun
  | [d1, d2] => { results := [.lit (.bool true)], args := [d1, d2] }
  | _ => none }
def fnExactMulIntRow : OpenClaim := { program := "ytehhdnphpjmghaa", sum := "ccf7f9d83ee18e8a76d3f0c565f7c2e2e7265092e4346ee1fd4646fedabc0311", func := "loop.example/g00968/laws.FnExactMulInt", spec := "fnExactMulInt", apart := false }
def FnExactMulIntSaid : Prop := fnExactMulIntRow.holds Try.pinned (OpenSpec.ofChange fnExactMulIntSpec)

/-- ITS FALSE NEIGHBOUR: 'it returns false'. Refute it at one input. -/
def fnExactMulIntWrong : ChangeSpec := { name := "fnExactMulInt", fn := fun _ => fun
  | [d1, d2] => { results := [.lit (.bool false)], args := [d1, d2] }
  | _ => none }
def FnExactMulIntWrongFalsely : Prop := fnExactMulIntRow.holds Try.pinned (OpenSpec.ofChange fnExactMulIntWrong)

/-- 'laws.FnExactSubInt': WHATEVER THE INPUT: true; the input reads as it did. -/
def fnExactSubIntSpec : ChangeSpec := { name := "fnExactSubInt", fn := fun _ => fun
  | [d1, d2] => { results := [.lit (.bool true)], args := [d1, d2] }
  | _ => none }
def fnExactSubIntRow : OpenClaim := { program := "ytehhdnphpjmghaa", sum := "ccf7f9d83ee18e8a76d3f0c565f7c2e2e7265092e4346ee1fd4646fedabc0311", func := "loop.example/g00968/laws.FnExactSubInt", spec := "fnExactSubInt", apart := false }
def FnExactSubIntSaid : Prop := fnExactSubIntRow.holds Try.pinned (OpenSpec.ofChange fnExactSubIntSpec)

/-- ITS FALSE NEIGHBOUR: 'it returns false'. Refute it at one input. -/
def fnExactSubIntWrong : ChangeSpec := { name := "fnExactSubInt", fn := fun _ => fun
  | [d1, d2] => { results := [.lit (.bool false)], args := [d1, d2] }
  | _ => none }
def FnExactSubIntWrongFalsely : Prop := fnExactSubIntRow.holds Try.pinned (OpenSpec.ofChange fnExactSubIntWrong)

/-- 'laws.FnExactBrought': WHATEVER THE INPUT: true; the input reads as it did. -/
def fnExactBroughtSpec : ChangeSpec := { name := "fnExactBrought", fn := fun _ => fun
  | [d1, d2, d3] => { results := [.lit (.bool true)], args := [d1, d2, d3] }
  | _ => none }
def fnExactBroughtRow : OpenClaim := { program := "ytehhdnphpjmghaa", sum := "ccf7f9d83ee18e8a76d3f0c565f7c2e2e7265092e4346ee1fd4646fedabc0311", func := "loop.example/g00968/laws.FnExactBrought", spec := "fnExactBrought", apart := false }
def FnExactBroughtSaid : Prop := fnExactBroughtRow.holds Try.pinned (OpenSpec.ofChange fnExactBroughtSpec)

/-- ITS FALSE NEIGHBOUR: 'it returns false'. Refute it at one input. -/
def fnExactBroughtWrong : ChangeSpec := { name := "fnExactBrought", fn := fun _ => fun
  | [d1, d2, d3] => { results := [.lit (.bool false)], args := [d1, d2, d3] }
  | _ => none }
def FnExactBroughtWrongFalsely : Prop := fnExactBroughtRow.holds Try.pinned (OpenSpec.ofChange fnExactBroughtWrong)

/-- 'laws.FnExactCompareInt': WHATEVER THE INPUT: true; the input reads as it did. -/
def fnExactCompareIntSpec : ChangeSpec := { name := "fnExactCompareInt", fn := fun _ => fun
  | [d1, d2] => { results := [.lit (.bool true)], args := [d1, d2] }
  | _ => none }
def fnExactCompareIntRow : OpenClaim := { program := "ytehhdnphpjmghaa", sum := "ccf7f9d83ee18e8a76d3f0c565f7c2e2e7265092e4346ee1fd4646fedabc0311", func := "loop.example/g00968/laws.FnExactCompareInt", spec := "fnExactCompareInt", apart := false }
def FnExactCompareIntSaid : Prop := fnExactCompareIntRow.holds Try.pinned (OpenSpec.ofChange fnExactCompareIntSpec)

/-- ITS FALSE NEIGHBOUR: 'it returns false'. Refute it at one input. -/
def fnExactCompareIntWrong : ChangeSpec := { name := "fnExactCompareInt", fn := fun _ => fun
  | [d1, d2] => { results := [.lit (.bool false)], args := [d1, d2] }
  | _ => none }
def FnExactCompareIntWrongFalsely : Prop := fnExactCompareIntRow.holds Try.pinned (OpenSpec.ofChange fnExactCompareIntWrong)

/-- 'laws.FnExactSumInts': WHATEVER THE INPUT: true; the input reads as it did. -/
def fnExactSumIntsSpec : ChangeSpec := { name := "fnExactSumInts", fn := fun _ => fun
  | [d] => { results := [.lit (.bool true)], args := [d] }
  | _ => none }
def fnExactSumIntsRow : OpenClaim := { program := "ytehhdnphpjmghaa", sum := "ccf7f9d83ee18e8a76d3f0c565f7c2e2e7265092e4346ee1fd4646fedabc0311", func := "loop.example/g00968/laws.FnExactSumInts", spec := "fnExactSumInts", apart := false }
def FnExactSumIntsSaid : Prop := fnExactSumIntsRow.holds Try.pinned (OpenSpec.ofChange fnExactSumIntsSpec)

/-- ITS FALSE NEIGHBOUR: 'it returns false'. Refute it at one input. -/
def fnExactSumIntsWrong : ChangeSpec := { name := "fnExactSumInts", fn := fun _ => fun
  | [d] => { results := [.lit (.bool false)], args := [d] }
  | _ => none }
def FnExactSumIntsWrongFalsely : Prop := fnExactSumIntsRow.holds Try.pinned (OpenSpec.ofChange fnExactSumIntsWrong)

/-- 'laws.FnExactPowInt': WHATEVER THE INPUT: true; the input reads as it did. -/
def fnExactPowIntSpec : ChangeSpec := { name := "fnExactPowInt", fn := fun _ => fun
  | [d1, d2] => { results := [.lit (.bool true)], args := [d1, d2] }
  | _ => none }
def fnExactPowIntRow : OpenClaim := { program := "ytehhdnphpjmghaa", sum := "ccf7f9d83ee18e8a76d3f0c565f7c2e2e7265092e4346ee1fd4646fedabc0311", func := "loop.example/g00968/laws.FnExactPowInt", spec := "fnExactPowInt", apart := false }
def FnExactPowIntSaid : Prop := fnExactPowIntRow.holds Try.pinned (OpenSpec.ofChange fnExactPowIntSpec)

/-- ITS FALSE NEIGHBOUR: 'it returns false'. Refute it at one input. -/
def fnExactPowIntWrong : ChangeSpec := { name := "fnExactPowInt", fn := fun _ => fun
  | [d1, d2] => { results := [.lit (.bool false)], args := [d1, d2] }
  | _ => none }
def FnExactPowIntWrongFalsely : Prop := fnExactPowIntRow.holds Try.pinned (OpenSpec.ofChange fnExactPowIntWrong)

/-- 'laws.FnExactSuffixes': WHATEVER THE INPUT: true; the input reads as it did. -/
def fnExactSuffixesSpec : ChangeSpec := { name := "fnExactSuffixes", fn := fun _ => fun
  | [] => { results := [.lit (.bool true)], args := [] }
  | _ => none }
def fnExactSuffixesRow : OpenClaim := { program := "ytehhdnphpjmghaa", sum := "ccf7f9d83ee18e8a76d3f0c565f7c2e2e7265092e4346ee1fd4646fedabc0311", func := "loop.example/g00968/laws.FnExactSuffixes", spec := "fnExactSuffixes", apart := false }
def FnExactSuffixesSaid : Prop := fnExactSuffixesRow.holds Try.pinned (OpenSpec.ofChange fnExactSuffixesSpec)

/-- ITS FALSE NEIGHBOUR: 'it returns false'. Refute it at one input. -/
def fnExactSuffixesWrong : ChangeSpec := { name := "fnExactSuffixes", fn := fun _ => fun
  | [] => { results := [.lit (.bool false)], args := [] }
  | _ => none }
def FnExactSuffixesWrongFalsely : Prop := fnExactSuffixesRow.holds Try.pinned (OpenSpec.ofChange fnExactSuffixesWrong)

/-- 'laws.FnExactUnitOf': WHATEVER THE INPUT: true; the input reads as it did. -/
def fnExactUnitOfSpec : ChangeSpec := { name := "fnExactUnitOf", fn := fun _ => fun
  | [d] => { results := [.lit (.bool true)], args := [d] }
  | _ => none }
def fnExactUnitOfRow : OpenClaim := { program := "ytehhdnphpjmghaa", sum := "ccf7f9d83ee18e8a76d3f0c565f7c2e2e7265092e4346ee1fd4646fedabc0311", func := "loop.example/g00968/laws.FnExactUnitOf", spec := "fnExactUnitOf", apart := false }
def FnExactUnitOfSaid : Prop := fnExactUnitOfRow.holds Try.pinned (OpenSpec.ofChange fnExactUnitOfSpec)

/-- ITS FALSE NEIGHBOUR: 'it returns false'. Refute it at one input. -/
def fnExactUnitOfWrong : ChangeSpec := { name := "fnExactUnitOf", fn := fun _ => fun
  | [d] => { results := [.lit (.bool false)], args := [d] }
  | _ => none }
def FnExactUnitOfWrongFalsely : Prop := fnExactUnitOfRow.holds Try.pinned (OpenSpec.ofChange fnExactUnitOfWrong)

/-- 'laws.FnChecked': WHATEVER THE INPUT: true; the input reads as it did. -/
def fnCheckedSpec : ChangeSpec := { name := "fnChecked", fn := fun _ => fun
  | [d] => { results := [.lit (.bool true)], args := [d] }
  | _ => none }
def fnCheckedRow : OpenClaim := { program := "ytehhdnphpjmghaa", sum := "ccf7f9d83ee18e8a76d3f0c565f7c2e2e7265092e4346ee1fd4646fedabc0311", func := "loop.example/g00968/laws.FnChecked", spec := "fnChecked", apart := false }
def FnCheckedSaid : Prop := fnCheckedRow.holds Try.pinned (OpenSpec.ofChange fnCheckedSpec)

/-- ITS FALSE NEIGHBOUR: 'it returns false'. Refute it at one input. -/
def fnCheckedWrong : ChangeSpec := { name := "fnChecked", fn := fun _ => fun
  | [d] => { results := [.lit (.bool false)], args := [d] }
  | _ => none }
def FnCheckedWrongFalsely : Prop := fnCheckedRow.holds Try.pinned (OpenSpec.ofChange fnCheckedWrong)

/- THE SECOND FORM. 'bulk': how many values and letters a reading holds, each counted each time it is reached (what is shared counts as often as it is met; a slice's spare places count too). A statement '..UptoSaid' is the law's where the arguments, and the package variables that the reading takes, are together of bulk at most 1048576: NARROWER than '..Said'. Prove '..Said' where nothing that the law and all that it calls make is longer than what came in: it says more and counts as full. Else prove '..UptoSaid'. A law counts once. -/
mutual
def uptoBulk {H : Type} : DataW H → Nat
  | .lit (.string bytes) => bytes.length + 1
  | .lit _ => 1
  | .nil => 1
  | .ptr d => uptoBulk d + 1
  | .slice elems spare => uptoBulkAll elems + uptoBulkAll spare + 1
  | .agg parts => uptoBulkAll parts + 1
  | .iface _ d => uptoBulk d + 1
  | .map entries => uptoBulkEntries entries + 1
  | .held _ => 1
def uptoBulkAll {H : Type} : List (DataW H) → Nat
  | [] => 0
  | d :: r => uptoBulk d + uptoBulkAll r
def uptoBulkEntries {H : Type} : List (Lit × DataW H) → Nat
  | [] => 0
  | x :: r => uptoBulkEntry x + uptoBulkEntries r
def uptoBulkEntry {H : Type} : Lit × DataW H → Nat
  | (.string bytes, d) => bytes.length + uptoBulk d + 1
  | (_, d) => uptoBulk d + 1
 end
def uptoSmall : (H : Type) → List (DataW H) → Bool := fun _ ds => decide (uptoBulkAll ds ≤ 1048576)
def OpenSpec.upto (s : _root_.Go.ChangeSpec) : _root_.Go.OpenSpec := { _root_.Go.OpenSpec.ofChange s with cond := some uptoSmall }

/-- 'laws.FnExactConstants', WHERE WHAT IT READS IS OF BULK AT MOST 1048576: true; the input reads as it did. -/
def fnExactConstantsUptoRow : OpenClaim := { program := "ytehhdnphpjmghaa", sum := "ccf7f9d83ee18e8a76d3f0c565f7c2e2e7265092e4346ee1fd4646fedabc0311", func := "loop.example/g00968/laws.FnExactConstants", spec := "fnExactConstants", apart := false, narrowed := true }
def FnExactConstantsUptoSaid : Prop := fnExactConstantsUptoRow.holds Try.pinned (OpenSpec.upto fnExactConstantsSpec)

/-- 'laws.FnExactRuneOk', WHERE WHAT IT READS IS OF BULK AT MOST 1048576: true; the input reads as it did. -/
def fnExactRuneOkUptoRow : OpenClaim := { program := "ytehhdnphpjmghaa", sum := "ccf7f9d83ee18e8a76d3f0c565f7c2e2e7265092e4346ee1fd4646fedabc0311", func := "loop.example/g00968/laws.FnExactRuneOk", spec := "fnExactRuneOk", apart := false, narrowed := true }
def FnExactRuneOkUptoSaid : Prop := fnExactRuneOkUptoRow.holds Try.pinned (OpenSpec.upto fnExactRuneOkSpec)

/-- 'laws.FnExactAddInt', WHERE WHAT IT READS IS OF BULK AT MOST 1048576: true; the input reads as it did. -/
def fnExactAddIntUptoRow : OpenClaim := { program := "ytehhdnphpjmghaa", sum := "ccf7f9d83ee18e8a76d3f0c565f7c2e2e7265092e4346ee1fd4646fedabc0311", func := "loop.example/g00968/laws.FnExactAddInt", spec := "fnExactAddInt", apart := false, narrowed := true }
def FnExactAddIntUptoSaid : Prop := fnExactAddIntUptoRow.holds Try.pinned (OpenSpec.upto fnExactAddIntSpec)

/-- 'laws.FnExactMulInt', WHERE WHAT IT READS IS OF BULK AT MOST 1048576: true; the input reads as it did. -/
def fnExactMulIntUptoRow : OpenClaim := { program := "ytehhdnphpjmghaa", sum := "ccf7f9d83ee18e8a76d3f0c565f7c2e2e7265092e4346ee1fd4646fedabc0311", func := "loop.example/g00968/laws.FnExactMulInt", spec := "fnExactMulInt", apart := false, narrowed := true }
def FnExactMulIntUptoSaid : Prop := fnExactMulIntUptoRow.holds Try.pinned (OpenSpec.upto fnExactMulIntSpec)

/-- 'laws.FnExactSubInt', WHERE WHAT IT READS IS OF BULK AT MOST 1048576: true; the input reads as it did. -/
def fnExactSubIntUptoRow : OpenClaim := { program := "ytehhdnphpjmghaa", sum := "ccf7f9d83ee18e8a76d3f0c565f7c2e2e7265092e4346ee1fd4646fedabc0311", func := "loop.example/g00968/laws.FnExactSubInt", spec := "fnExactSubInt", apart := false, narrowed := true }
def FnExactSubIntUptoSaid : Prop := fnExactSubIntUptoRow.holds Try.pinned (OpenSpec.upto fnExactSubIntSpec)

/-- 'laws.FnExactBrought', WHERE WHAT IT READS IS OF BULK AT MOST 1048576: true; the input reads as it did. -/
def fnExactBroughtUptoRow : OpenClaim := { program := "ytehhdnphpjmghaa", sum := "ccf7f9d83ee18e8a76d3f0c565f7c2e2e7265092e4346ee1fd4646fedabc0311", func := "loop.example/g00968/laws.FnExactBrought", spec := "fnExactBrought", apart := false, narrowed := true }
def FnExactBroughtUptoSaid : Prop := fnExactBroughtUptoRow.holds Try.pinned (OpenSpec.upto fnExactBroughtSpec)

/-- 'laws.FnExactCompareInt', WHERE WHAT IT READS IS OF BULK AT MOST 1048576: true; the input reads as it did. -/
def fnExactCompareIntUptoRow : OpenClaim := { program := "ytehhdnphpjmghaa", sum := "ccf7f9d83ee18e8a76d3f0c565f7c2e2e7265092e4346ee1fd4646fedabc0311", func := "loop.example/g00968/laws.FnExactCompareInt", spec := "fnExactCompareInt", apart := false, narrowed := true }
def FnExactCompareIntUptoSaid : Prop := fnExactCompareIntUptoRow.holds Try.pinned (OpenSpec.upto fnExactCompareIntSpec)

/-- 'laws.FnExactSumInts', WHERE WHAT IT READS IS OF BULK AT MOST 1048576: true; the input reads as it did. -/
def fnExactSumIntsUptoRow : OpenClaim := { program := "ytehhdnphpjmghaa", sum := "ccf7f9d83ee18e8a76d3f0c565f7c2e2e7265092e4346ee1fd4646fedabc0311", func := "loop.example/g00968/laws.FnExactSumInts", spec := "fnExactSumInts", apart := false, narrowed := true }
def FnExactSumIntsUptoSaid : Prop := fnExactSumIntsUptoRow.holds Try.pinned (OpenSpec.upto fnExactSumIntsSpec)

/-- 'laws.FnExactPowInt', WHERE WHAT IT READS IS OF BULK AT MOST 1048576: true; the input reads as it did. -/
def fnExactPowIntUptoRow : OpenClaim := { program := "ytehhdnphpjmghaa", sum := "ccf7f9d83ee18e8a76d3f0c565f7c2e2e7265092e4346ee1fd4646fedabc0311", func := "loop.example/g00968/laws.FnExactPowInt", spec := "fnExactPowInt", apart := false, narrowed := true }
def FnExactPowIntUptoSaid : Prop := fnExactPowIntUptoRow.holds Try.pinned (OpenSpec.upto fnExactPowIntSpec)

/-- 'laws.FnExactSuffixes', WHERE WHAT IT READS IS OF BULK AT MOST 1048576: true; the input reads as it did. -/
def fnExactSuffixesUptoRow : OpenClaim := { program := "ytehhdnphpjmghaa", sum := "ccf7f9d83ee18e8a76d3f0c565f7c2e2e7265092e4346ee1fd4646fedabc0311", func := "loop.example/g00968/laws.FnExactSuffixes", spec := "fnExactSuffixes", apart := false, narrowed := true }
def FnExactSuffixesUptoSaid : Prop := fnExactSuffixesUptoRow.holds Try.pinned (OpenSpec.upto fnExactSuffixesSpec)

/-- 'laws.FnExactUnitOf', WHERE WHAT IT READS IS OF BULK AT MOST 1048576: true; the input reads as it did. -/
def fnExactUnitOfUptoRow : OpenClaim := { program := "ytehhdnphpjmghaa", sum := "ccf7f9d83ee18e8a76d3f0c565f7c2e2e7265092e4346ee1fd4646fedabc0311", func := "loop.example/g00968/laws.FnExactUnitOf", spec := "fnExactUnitOf", apart := false, narrowed := true }
def FnExactUnitOfUptoSaid : Prop := fnExactUnitOfUptoRow.holds Try.pinned (OpenSpec.upto fnExactUnitOfSpec)

/-- 'laws.FnChecked', WHERE WHAT IT READS IS OF BULK AT MOST 1048576: true; the input reads as it did. -/
def fnCheckedUptoRow : OpenClaim := { program := "ytehhdnphpjmghaa", sum := "ccf7f9d83ee18e8a76d3f0c565f7c2e2e7265092e4346ee1fd4646fedabc0311", func := "loop.example/g00968/laws.FnChecked", spec := "fnChecked", apart := false, narrowed := true }
def FnCheckedUptoSaid : Prop := fnCheckedUptoRow.holds Try.pinned (OpenSpec.upto fnCheckedSpec)

end Rows
end Go.Proofs.Ytehhdnphpjmghaa

/-
  No cell of these rows narrows 'for every input' (looked for: loops, veiled, ifaces, maps, wideKeys, modest, calm, conditions, laid).
  DERIVED. THE GIVEN ROWS OF THIS SEAT. 14 by the template 'for every input the law returns true; each argument reads behind the call as it read before'; 0 by the template 'total and deterministic' (their statements: YtfelhmcejkbpfaaTotals.lean).
  GIVEN WITH THE SEED: the statements are not yours to turn. If you find one false, say at which input.
  Laid BY PROGRAM, IN A SANDBOX (cutbox-rows.mjs): the forced cells as the released guide's own fill.sh prints them over the translation a2bd586166e4a902… (all of the seat's roots in one cut). By AI agents, Wed Nov 11 2026. No macro, syntax, notation, axiom, sorry.
-/
import Derived.Test.YtfelhmcejkbpfaaChecked
import GoSem.Claim
import GoSem.ClaimJoined
import GoSem.ClaimMapViews
import Derived.JoinedTies
import Derived.KernelRfl
namespace Go.Proofs.Ytfelhmcejkbpfaa
/- THE CELL 'sum', in the pinned program and in every row, IS THE sha256 OF THE DUMP (.gsa) THAT YtfelhmcejkbpfaaProg.lean LOADS. Nothing in Lean hashes anything: it is a label: what it is worth is what the hold of that sum in a sandbox is worth. -/
noncomputable def Try.pinned : Pinned := { name := "ytfelhmcejkbpfaa", sum := "a2bd586166e4a90229a486d75870c147bfb2d9cbbca9bc0f81d882882fb24d2c", checked := Try.checked }
namespace Rows
def none {H : Type} : Left H := { results := [], args := [] }

/-- 'laws.FnExactFlipped': WHATEVER THE INPUT: true; the input reads as it did. -/
def fnExactFlippedSpec : ChangeSpec := { name := "fnExactFlipped", fn := fun _ => fun
  | [d1, d2, d3] => { results := [.lit (.bool true)], args := [d1, d2, d3] }
  | _ => none }
def fnExactFlippedRow : OpenClaim := { program := "ytfelhmcejkbpfaa", sum := "a2bd586166e4a90229a486d75870c147bfb2d9cbbca9bc0f81d882882fb24d2c", func := "loop.example/g00968/laws.FnExactFlipped", spec := "fnExactFlipped", apart := false }
def FnExactFlippedSaid : Prop := fnExactFlippedRow.holds Try.pinned (OpenSpec.ofChange fnExactFlippedSpec)

/-- ITS FALSE NEIGHBOUR: 'it returns false'. Refute it at one input. -/
def fnExactFlippedWrong : ChangeSpec := { name := "fnExactFlipped", fn := fun _ => fun
  | [d1, d2, d3] => { results := [.lit (.bool false)], args := [d1, d2, d3] }
  | _ => none }
def FnExactFlippedWrongFalsely : Prop := fnExactFlippedRow.holds Try.pinned (OpenSpec.ofChange fnExactFlippedWrong)

/-- 'laws.FnExactSumMore': WHATEVER THE INPUT: true; the input reads as it did. -/
def fnExactSumMoreSpec : ChangeSpec := { name := "fnExactSumMore", fn := fun _ => fun
  | [d1, d2] => { results := [.lit (.bool true)], args := [d1, d2] }
  | _ => none }
def fnExactSumMoreRow : OpenClaim := { program := "ytfelhmcejkbpfaa", sum := "a2bd586166e4a90229a486d75870c147bfb2d9cbbca9bc0f81d882882fb24d2c", func := "loop.example/g00968/laws.FnExactSumMore", spec := "fnExactSumMore", apart := false }
def FnExactSumMoreSaid : Prop := fnExactSumMoreRow.holds Try.pinned (OpenSpec.ofChange fnExactSumMoreSpec)

/-- ITS FALSE NEIGHBOUR: 'it returns false'. Refute it at one input. -/
def fnExactSumMoreWrong : ChangeSpec := { name := "fnExactSumMore", fn := fun _ => fun
  | [d1, d2] => { results := [.lit (.bool false)], args := [d1, d2] }
  | _ => none }
def FnExactSumMoreWrongFalsely : Prop := fnExactSumMoreRow.holds Try.pinned (OpenSpec.ofChange fnExactSumMoreWrong)

/-- 'laws.FnExactSumOf': WHATEVER THE INPUT: true; the input reads as it did. -/
def fnExactSumOfSpec : ChangeSpec := { name := "fnExactSumOf", fn := fun _ => fun
  | [d] => { results := [.lit (.bool true)], args := [d] }
  | _ => none }
def fnExactSumOfRow : OpenClaim := { program := "ytfelhmcejkbpfaa", sum := "a2bd586166e4a90229a486d75870c147bfb2d9cbbca9bc0f81d882882fb24d2c", func := "loop.example/g00968/laws.FnExactSumOf", spec := "fnExactSumOf", apart := false }
def FnExactSumOfSaid : Prop := fnExactSumOfRow.holds Try.pinned (OpenSpec.ofChange fnExactSumOfSpec)

/-- ITS FALSE NEIGHBOUR: 'it returns false'. Refute it at one input. -/
def fnExactSumOfWrong : ChangeSpec := { name := "fnExactSumOf", fn := fun _ => fun
  | [d] => { results := [.lit (.bool false)], args := [d] }
  | _ => none }
def FnExactSumOfWrongFalsely : Prop := fnExactSumOfRow.holds Try.pinned (OpenSpec.ofChange fnExactSumOfWrong)

/-- 'laws.FnExactSealed': WHATEVER THE INPUT: true; the input reads as it did. -/
def fnExactSealedSpec : ChangeSpec := { name := "fnExactSealed", fn := fun _ => fun
  | [d] => { results := [.lit (.bool true)], args := [d] }
  | _ => none }
def fnExactSealedRow : OpenClaim := { program := "ytfelhmcejkbpfaa", sum := "a2bd586166e4a90229a486d75870c147bfb2d9cbbca9bc0f81d882882fb24d2c", func := "loop.example/g00968/laws.FnExactSealed", spec := "fnExactSealed", apart := false }
def FnExactSealedSaid : Prop := fnExactSealedRow.holds Try.pinned (OpenSpec.ofChange fnExactSealedSpec)

/-- ITS FALSE NEIGHBOUR: 'it returns false'. Refute it at one input. -/
def fnExactSealedWrong : ChangeSpec := { name := "fnExactSealed", fn := fun _ => fun
  | [d] => { results := [.lit (.bool false)], args := [d] }
  | _ => none }
def FnExactSealedWrongFalsely : Prop := fnExactSealedRow.holds Try.pinned (OpenSpec.ofChange fnExactSealedWrong)

/-- 'laws.FnExactUnsealed': WHATEVER THE INPUT: true; the input reads as it did. -/
def fnExactUnsealedSpec : ChangeSpec := { name := "fnExactUnsealed", fn := fun _ => fun
  | [d] => { results := [.lit (.bool true)], args := [d] }
  | _ => none }
def fnExactUnsealedRow : OpenClaim := { program := "ytfelhmcejkbpfaa", sum := "a2bd586166e4a90229a486d75870c147bfb2d9cbbca9bc0f81d882882fb24d2c", func := "loop.example/g00968/laws.FnExactUnsealed", spec := "fnExactUnsealed", apart := false }
def FnExactUnsealedSaid : Prop := fnExactUnsealedRow.holds Try.pinned (OpenSpec.ofChange fnExactUnsealedSpec)

/-- ITS FALSE NEIGHBOUR: 'it returns false'. Refute it at one input. -/
def fnExactUnsealedWrong : ChangeSpec := { name := "fnExactUnsealed", fn := fun _ => fun
  | [d] => { results := [.lit (.bool false)], args := [d] }
  | _ => none }
def FnExactUnsealedWrongFalsely : Prop := fnExactUnsealedRow.holds Try.pinned (OpenSpec.ofChange fnExactUnsealedWrong)

/-- 'laws.FnSums': WHATEVER THE INPUT: true; the input reads as it did. -/
def fnSumsSpec : ChangeSpec := { name := "fnSums", fn := fun _ => fun
  | [d] => { results := [.lit (.bool true)], args := [d] }
  | _ => none }
def fnSumsRow : OpenClaim := { program := "ytfelhmcejkbpfaa", sum := "a2bd586166e4a90229a486d75870c147bfb2d9cbbca9bc0f81d882882fb24d2c", func := "loop.example/g00968/laws.FnSums", spec := "fnSums", apart := false }
def FnSumsSaid : Prop := fnSumsRow.holds Try.pinned (OpenSpec.ofChange fnSumsSpec)

/-- ITS FALSE NEIGHBOUR: 'it returns false'. Refute it at one input. -/
def fnSumsWrong : ChangeSpec := { name := "fnSums", fn := fun _ => fun
  | [d] => { results := [.lit (.bool false)], args := [d] }
  | _ => none }
def FnSumsWrongFalsely : Prop := fnSumsRow.holds Try.pinned (OpenSpec.ofChange fnSumsWrong)

/-- 'laws.FnExactFrameText': WHATEVER THE INPUT: true; the input reads as it did. -/
def fnExactFrameTextSpec : ChangeSpec := { name := "fnExactFrameText", fn := fun _ => fun
  | [d] => { results := [.lit (.bool true)], args := [d] }
  | _ => none }
def fnExactFrameTextRow : OpenClaim := { program := "ytfelhmcejkbpfaa", sum := "a2bd586166e4a90229a486d75870c147bfb2d9cbbca9bc0f81d882882fb24d2c", func := "loop.example/g00968/laws.FnExactFrameText", spec := "fnExactFrameText", apart := false }
def FnExactFrameTextSaid : Prop := fnExactFrameTextRow.holds Try.pinned (OpenSpec.ofChange fnExactFrameTextSpec)

/-- ITS FALSE NEIGHBOUR: 'it returns false'. Refute it at one input. -/
def fnExactFrameTextWrong : ChangeSpec := { name := "fnExactFrameText", fn := fun _ => fun
  | [d] => { results := [.lit (.bool false)], args := [d] }
  | _ => none }
def FnExactFrameTextWrongFalsely : Prop := fnExactFrameTextRow.holds Try.pinned (OpenSpec.ofChange fnExactFrameTextWrong)

/-- 'laws.FnExactFrameSize': WHATEVER THE INPUT: true; the input reads as it did. -/
def fnExactFrameSizeSpec : ChangeSpec := { name := "fnExactFrameSize", fn := fun _ => fun
  | [d] => { results := [.lit (.bool true)], args := [d] }
  | _ => none }
def fnExactFrameSizeRow : OpenClaim := { program := "ytfelhmcejkbpfaa", sum := "a2bd586166e4a90229a486d75870c147bfb2d9cbbca9bc0f81d882882fb24d2c", func := "loop.example/g00968/laws.FnExactFrameSize", spec := "fnExactFrameSize", apart := false }
def FnExactFrameSizeSaid : Prop := fnExactFrameSizeRow.holds Try.pinned (OpenSpec.ofChange fnExactFrameSizeSpec)

/-- ITS FALSE NEIGHBOUR: 'it returns false'. Refute it at one input. -/
def fnExactFrameSizeWrong : ChangeSpec := { name := "fnExactFrameSize", fn := fun _ => fun
  | [d] => { results := [.lit (.bool false)], args := [d] }
  | _ => none }
def FnExactFrameSizeWrongFalsely : Prop := fnExactFrameSizeRow.holds Try.pinned (OpenSpec.ofChange fnExactFrameSizeWrong)

/-- 'laws.FnBursts': WHATEVER THE INPUT: true; the input reads as it did. -/
def fnBurstsSpec : ChangeSpec := { name := "fnBursts", fn := fun _ => fun
  | [d] => { results := [.lit (.bool true)], args := [d] }
  | _ => none }
def fnBurstsRow : OpenClaim := { program := "ytfelhmcejkbpfaa", sum := "a2bd586166e4a90229a486d75870c147bfb2d9cbbca9bc0f81d882882fb24d2c", func := "loop.example/g00968/laws.FnBursts", spec := "fnBursts", apart := false }
def FnBurstsSaid : Prop := fnBurstsRow.holds Try.pinned (OpenSpec.ofChange fnBurstsSpec)

/-- ITS FALSE NEIGHBOUR: 'it returns false'. Refute it at one input. -/
def fnBurstsWrong : ChangeSpec := { name := "fnBursts", fn := fun _ => fun
  | [d] => { results := [.lit (.bool false)], args := [d] }
  | _ => none }
def FnBurstsWrongFalsely : Prop := fnBurstsRow.holds Try.pinned (OpenSpec.ofChange fnBurstsWrong)

/-- 'laws.FnExactVersionIn': WHATEVER THE INPUT: true; the input reads as it did. -/
def fnExactVersionInSpec : ChangeSpec := { name := "fnExactVersionIn", fn := fun _ => fun
  | [d] => { results := [.lit (.bool true)], args := [d] }
  | _ => none }
def fnExactVersionInRow : OpenClaim := { program := "ytfelhmcejkbpfaa", sum := "a2bd586166e4a90229a486d75870c147bfb2d9cbbca9bc0f81d882882fb24d2c", func := "loop.example/g00968/laws.FnExactVersionIn", spec := "fnExactVersionIn", apart := false }
def FnExactVersionInSaid : Prop := fnExactVersionInRow.holds Try.pinned (OpenSpec.ofChange fnExactVersionInSpec)

/-- ITS FALSE NEIGHBOUR: 'it returns false'. Refute it at one input. -/
def fnExactVersionInWrong : ChangeSpec := { name := "fnExactVersionIn", fn := fun _ => fun
  | [d] => { results := [.lit (.bool false)], args := [d] }
  | _ => none }
def FnExactVersionInWrongFalsely : Prop := fnExactVersionInRow.holds Try.pinned (OpenSpec.ofChange fnExactVersionInWrong)

/-- 'laws.FnExactReadFrame': WHATEVER THE INPUT: true; the input reads as it did. -/
def fnExactReadFrameSpec : ChangeSpec := { name := "fnExactReadFrame", fn := fun _ => fun
  | [d] => { results := [.lit (.bool true)], args := [d] }
  | _ => none }
def fnExactReadFrameRow : OpenClaim := { program := "ytfelhmcejkbpfaa", sum := "a2bd586166e4a90229a486d75870c147bfb2d9cbbca9bc0f81d882882fb24d2c", func := "loop.example/g00968/laws.FnExactReadFrame", spec := "fnExactReadFrame", apart := false }
def FnExactReadFrameSaid : Prop := fnExactReadFrameRow.holds Try.pinned (OpenSpec.ofChange fnExactReadFrameSpec)

/-- ITS FALSE NEIGHBOUR: 'it returns false'. Refute it at one input. -/
def fnExactReadFrameWrong : ChangeSpec := { name := "fnExactReadFrame", fn := fun _ => fun
  | [d] => { results := [.lit (.bool false)], args := [d] }
  | _ => none }
def FnExactReadFrameWrongFalsely : Prop := fnExactReadFrameRow.holds Try.pinned (OpenSpec.ofChange fnExactReadFrameWrong)

/-- 'laws.FnFrames': WHATEVER THE INPUT: true; the input reads as it did. -/
def fnFramesSpec : ChangeSpec := { name := "fnFrames", fn := fun _ => fun
  | [d] => { results := [.lit (.bool true)], args := [d] }
  | _ => none }
def fnFramesRow : OpenClaim := { program := "ytfelhmcejkbpfaa", sum := "a2bd586166e4a90229a486d75870c147bfb2d9cbbca9bc0f81d882882fb24d2c", func := "loop.example/g00968/laws.FnFrames", spec := "fnFrames", apart := false }
def FnFramesSaid : Prop := fnFramesRow.holds Try.pinned (OpenSpec.ofChange fnFramesSpec)

/-- ITS FALSE NEIGHBOUR: 'it returns false'. Refute it at one input. -/
def fnFramesWrong : ChangeSpec := { name := "fnFrames", fn := fun _ => fun
  | [d] => { results := [.lit (.bool false)], args := [d] }
  | _ => none }
def FnFramesWrongFalsely : Prop := fnFramesRow.holds Try.pinned (OpenSpec.ofChange fnFramesWrong)

/-- 'laws.FnFrameBursts': WHATEVER THE INPUT: true; the input reads as it did. -/
def fnFrameBurstsSpec : ChangeSpec := { name := "fnFrameBursts", fn := fun _ => fun
  | [d] => { results := [.lit (.bool true)], args := [d] }
  | _ => none }
def fnFrameBurstsRow : OpenClaim := { program := "ytfelhmcejkbpfaa", sum := "a2bd586166e4a90229a486d75870c147bfb2d9cbbca9bc0f81d882882fb24d2c", func := "loop.example/g00968/laws.FnFrameBursts", spec := "fnFrameBursts", apart := false }
def FnFrameBurstsSaid : Prop := fnFrameBurstsRow.holds Try.pinned (OpenSpec.ofChange fnFrameBurstsSpec)

/-- ITS FALSE NEIGHBOUR: 'it returns false'. Refute it at one input. -/
def fnFrameBurstsWrong : ChangeSpec := { name := "fnFrameBursts", fn := fun _ => fun
  | [d] => { results := [.lit (.bool false)], args := [d] }
  | _ => none }
def FnFrameBurstsWrongFalsely : Prop := fnFrameBurstsRow.holds Try.pinned (OpenSpec.ofChange fnFrameBurstsWrong)

/-- 'laws.FnExactReframed': WHATEVER THE INPUT: true; the input reads as it did. -/
def fnExactReframedSpec : ChangeSpec := { name := "fnExactReframed", fn := fun _ => fun
  | [d1, d2] => { results := [.lit (.bool true)], args := [d1, d2] }
  | _ => none }
def fnExactReframedRow : OpenClaim := { program := "ytfelhmcejkbpfaa", sum := "a2bd586166e4a90229a486d75870c147bfb2d9cbbca9bc0f81d882882fb24d2c", func := "loop.example/g00968/laws.FnExactReframed", spec := "fnExactReframed", apart := false }
def FnExactReframedSaid : Prop := fnExactReframedRow.holds Try.pinned (OpenSpec.ofChange fnExactReframedSpec)

/-- ITS FALSE NEIGHBOUR: 'it returns false'. Refute it at one input. -/
def fnExactReframedWrong : ChangeSpec := { name := "fnExactReframed", fn := fun _ => fun
  | [d1, d2] => { results := [.lit (.bool false)], args := [d1, d2] }
  | _ => none }
def FnExactReframedWrongFalsely : Prop := fnExactReframedRow.holds Try.pinned (OpenSpec.ofChange fnExactReframedWrong)

/- THE SECOND FORM. 'bulk': how many values and letters a reading holds, each counted each time it is reached (what is shared counts as often as it is met; a slice's spare places count too). A statement '..UptoSaid' is the law's where the arguments, and the package variables that the reading takes, are together of bulk at most 1048576: NARROWER than '..Said'. Prove '..Said' where nothing that the law and all that it calls make is longer than what came in: it says more and counts as full. Else prove '..UptoSaid'. A law counts once. -/
mutual
def uptoBulk {H : Type} : DataW H → Nat
  | .lit (.string bytes) => bytes.length + 1
  | .lit _ => 1
  | .nil => 1
  | .ptr d => uptoBulk d + 1
  | .slice elems spare => uptoBulkAll elems + uptoBulkAll spare + 1
  | .agg parts => uptoBulkAll parts + 1
  | .iface _ d => uptoBulk d + 1
  | .map entries => uptoBulkEntries entries + 1
  | .held _ => 1
def uptoBulkAll {H : Type} : List (DataW H) → Nat
  | [] => 0
  | d :: r => uptoBulk d + uptoBulkAll r
def uptoBulkEntries {H : Type} : List (Lit × DataW H) → Nat
  | [] => 0
  | x :: r => uptoBulkEntry x + uptoBulkEntries r
def uptoBulkEntry {H : Type} : Lit × DataW H → Nat
  | (.string bytes, d) => bytes.length + uptoBulk d + 1
  | (_, d) => uptoBulk d + 1
 end
def uptoSmall : (H : Type) → List (DataW H) → Bool := fun _ ds => decide (uptoBulkAll ds ≤ 1048576)
def OpenSpec.upto (s : _root_.Go.ChangeSpec) : _root_.Go.OpenSpec := { _root_.Go.OpenSpec.ofChange s with cond := some uptoSmall }

/-- 'laws.FnExactFlipped', WHERE WHAT IT READS IS OF BULK AT MOST 1048576: true; the input reads as it did. -/
def fnExactFlippedUptoRow : OpenClaim := { program := "ytfelhmcejkbpfaa", sum := "a2bd586166e4a90229a486d75870c147bfb2d9cbbca9bc0f81d882882fb24d2c", func := "loop.example/g00968/laws.FnExactFlipped", spec := "fnExactFlipped", apart := false, narrowed := true }
def FnExactFlippedUptoSaid : Prop := fnExactFlippedUptoRow.holds Try.pinned (OpenSpec.upto fnExactFlippedSpec)

/-- 'laws.FnExactSumMore', WHERE WHAT IT READS IS OF BULK AT MOST 1048576: true; the input reads as it did. -/
def fnExactSumMoreUptoRow : OpenClaim := { program := "ytfelhmcejkbpfaa", sum := "a2bd586166e4a90229a486d75870c147bfb2d9cbbca9bc0f81d882882fb24d2c", func := "loop.example/g00968/laws.FnExactSumMore", spec := "fnExactSumMore", apart := false, narrowed := true }
def FnExactSumMoreUptoSaid : Prop := fnExactSumMoreUptoRow.holds Try.pinned (OpenSpec.upto fnExactSumMoreSpec)

/-- 'laws.FnExactSumOf', WHERE WHAT IT READS IS OF BULK AT MOST 1048576: true; the input reads as it did. -/
def fnExactSumOfUptoRow : OpenClaim := { program := "ytfelhmcejkbpfaa", sum := "a2bd586166e4a90229a486d75870c147bfb2d9cbbca9bc0f81d882882fb24d2c", func := "loop.example/g00968/laws.FnExactSumOf", spec := "fnExactSumOf", apart := false, narrowed := true }
def FnExactSumOfUptoSaid : Prop := fnExactSumOfUptoRow.holds Try.pinned (OpenSpec.upto fnExactSumOfSpec)

/-- 'laws.FnExactSealed', WHERE WHAT IT READS IS OF BULK AT MOST 1048576: true; the input reads as it did. -/
def fnExactSealedUptoRow : OpenClaim := { program := "ytfelhmcejkbpfaa", sum := "a2bd586166e4a90229a486d75870c147bfb2d9cbbca9bc0f81d882882fb24d2c", func := "loop.example/g00968/laws.FnExactSealed", spec := "fnExactSealed", apart := false, narrowed := true }
def FnExactSealedUptoSaid : Prop := fnExactSealedUptoRow.holds Try.pinned (OpenSpec.upto fnExactSealedSpec)

/-- 'laws.FnExactUnsealed', WHERE WHAT IT READS IS OF BULK AT MOST 1048576: true; the input reads as it did. -/
def fnExactUnsealedUptoRow : OpenClaim := { program := "ytfelhmcejkbpfaa", sum := "a2bd586166e4a90229a486d75870c147bfb2d9cbbca9bc0f81d882882fb24d2c", func := "loop.example/g00968/laws.FnExactUnsealed", spec := "fnExactUnsealed", apart := false, narrowed := true }
def FnExactUnsealedUptoSaid : Prop := fnExactUnsealedUptoRow.holds Try.pinned (OpenSpec.upto fnExactUnsealedSpec)

/-- 'laws.FnSums', WHERE WHAT IT READS IS OF BULK AT MOST 1048576: true; the input reads as it did. -/
def fnSumsUptoRow : OpenClaim := { program := "ytfelhmcejkbpfaa", sum := "a2bd586166e4a90229a486d75870c147bfb2d9cbbca9bc0f81d882882fb24d2c", func := "loop.example/g00968/laws.FnSums", spec := "fnSums", apart := false, narrowed := true }
def FnSumsUptoSaid : Prop := fnSumsUptoRow.holds Try.pinned (OpenSpec.upto fnSumsSpec)

/-- 'laws.FnExactFrameText', WHERE WHAT IT READS IS OF BULK AT MOST 1048576: true; the input reads as it did. -/
def fnExactFrameTextUptoRow : OpenClaim := { program := "ytfelhmcejkbpfaa", sum := "a2bd586166e4a90229a486d75870c147bfb2d9cbbca9bc0f81d882882fb24d2c", func := "loop.example/g00968/laws.FnExactFrameText", spec := "fnExactFrameText", apart := false, narrowed := true }
def FnExactFrameTextUptoSaid : Prop := fnExactFrameTextUptoRow.holds Try.pinned (OpenSpec.upto fnExactFrameTextSpec)

/-- 'laws.FnExactFrameSize', WHERE WHAT IT READS IS OF BULK AT MOST 1048576: true; the input reads as it did. -/
def fnExactFrameSizeUptoRow : OpenClaim := { program := "ytfelhmcejkbpfaa", sum := "a2bd586166e4a90229a486d75870c147bfb2d9cbbca9bc0f81d882882fb24d2c", func := "loop.example/g00968/laws.FnExactFrameSize", spec := "fnExactFrameSize", apart := false, narrowed := true }
def FnExactFrameSizeUptoSaid : Prop := fnExactFrameSizeUptoRow.holds Try.pinned (OpenSpec.upto fnExactFrameSizeSpec)

/-- 'laws.FnBursts', WHERE WHAT IT READS IS OF BULK AT MOST 1048576: true; the input reads as it did. -/
def fnBurstsUptoRow : OpenClaim := { program := "ytfelhmcejkbpfaa", sum := "a2bd586166e4a90229a486d75870c147bfb2d9cbbca9bc0f81d882882fb24d2c", func := "loop.example/g00968/laws.FnBursts", spec := "fnBursts", apart := false, narrowed := true }
def FnBurstsUptoSaid : Prop := fnBurstsUptoRow.holds Try.pinned (OpenSpec.upto fnBurstsSpec)

/-- 'laws.FnExactVersionIn', WHERE WHAT IT READS IS OF BULK AT MOST 1048576: true; the input reads as it did. -/
def fnExactVersionInUptoRow : OpenClaim := { program := "ytfelhmcejkbpfaa", sum := "a2bd586166e4a90229a486d75870c147bfb2d9cbbca9bc0f81d882882fb24d2c", func := "loop.example/g00968/laws.FnExactVersionIn", spec := "fnExactVersionIn", apart := false, narrowed := true }
def FnExactVersionInUptoSaid : Prop := fnExactVersionInUptoRow.holds Try.pinned (OpenSpec.upto fnExactVersionInSpec)

/-- 'laws.FnExactReadFrame', WHERE WHAT IT READS IS OF BULK AT MOST 1048576: true; the input reads as it did. -/
def fnExactReadFrameUptoRow : OpenClaim := { program := "ytfelhmcejkbpfaa", sum := "a2bd586166e4a90229a486d75870c147bfb2d9cbbca9bc0f81d882882fb24d2c", func := "loop.example/g00968/laws.FnExactReadFrame", spec := "fnExactReadFrame", apart := false, narrowed := true }
def FnExactReadFrameUptoSaid : Prop := fnExactReadFrameUptoRow.holds Try.pinned (OpenSpec.upto fnExactReadFrameSpec)

/-- 'laws.FnFrames', WHERE WHAT IT READS IS OF BULK AT MOST 1048576: true; the input reads as it did. -/
def fnFramesUptoRow : OpenClaim := { program := "ytfelhmcejkbpfaa", sum := "a2bd586166e4a90229a486d75870c147bfb2d9cbbca9bc0f81d882882fb24d2c", func := "loop.example/g00968/laws.FnFrames", spec := "fnFrames", apart := false, narrowed := true }
def FnFramesUptoSaid : Prop := fnFramesUptoRow.holds Try.pinned (OpenSpec.upto fnFramesSpec)

/-- 'laws.FnFrameBursts', WHERE WHAT IT READS IS OF BULK AT MOST 1048576: true; the input reads as it did. -/
def fnFrameBurstsUptoRow : OpenClaim := { program := "ytfelhmcejkbpfaa", sum := "a2bd586166e4a90229a486d75870c147bfb2d9cbbca9bc0f81d882882fb24d2c", func := "loop.example/g00968/laws.FnFrameBursts", spec := "fnFrameBursts", apart := false, narrowed := true }
def FnFrameBurstsUptoSaid : Prop := fnFrameBurstsUptoRow.holds Try.pinned (OpenSpec.upto fnFrameBurstsSpec)

/-- 'laws.FnExactReframed', WHERE WHAT IT READS IS OF BULK AT MOST 1048576: true; the input reads as it did. -/
def fnExactReframedUptoRow : OpenClaim := { program := "ytfelhmcejkbpfaa", sum := "a2bd586166e4a90229a486d75870c147bfb2d9cbbca9bc0f81d882882fb24d2c", func := "loop.example/g00968/laws.FnExactReframed", spec := "fnExactReframed", apart := false, narrowed := true }
def FnExactReframedUptoSaid : Prop := fnExactReframedUptoRow.holds Try.pinned (OpenSpec.upto fnExactReframedSpec)

end Rows
end Go.Proofs.Ytfelhmcejkbpfaa

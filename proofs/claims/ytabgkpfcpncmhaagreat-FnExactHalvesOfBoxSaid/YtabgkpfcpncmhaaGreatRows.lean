/-
  No cell of these rows narrows 'for every input' (looked for: loops, veiled, ifaces, maps, wideKeys, modest, calm, conditions, laid).
  DERIVED. THE GIVEN ROWS OF THIS SEAT. 11 by the template 'for every input the law returns true; each argument reads behind the call as it read before'; 0 by the template 'total and deterministic' (their statements: YtabgkpfcpncmhaaGreatTotals.lean).
  GIVEN WITH THE SEED: the statements are not yours to turn. If you find one false, say at which input.
  Laid BY PROGRAM, IN A SANDBOX (cutbox-rows.mjs): the forced cells as the released guide's own fill.sh prints them over the translation fd34bdb197aac5e3… (all of the seat's roots in one cut). By AI agents, Wed Nov 11 2026. No macro, syntax, notation, axiom, sorry.
-/
import Derived.Test.YtabgkpfcpncmhaaGreatChecked
import GoSem.Claim
import GoSem.ClaimJoined
import GoSem.ClaimMapViews
import Derived.JoinedTies
import Derived.KernelRfl
namespace Go.Proofs.YtabgkpfcpncmhaaGreat
/- THE CELL 'sum', in the pinned program and in every row, IS THE sha256 OF THE DUMP (.gsa) THAT YtabgkpfcpncmhaaGreatProg.lean LOADS. Nothing in Lean hashes anything: it is a label: what it is worth is what the hold of that sum in a sandbox is worth. -/
noncomputable def Tryz.pinned : Pinned := { name := "ytabgkpfcpncmhaagreat", sum := "fd34bdb197aac5e35f50e3a257cdf5a91bad2b3a66fcd927ba2c61505baa8339", checked := Tryz.checked }
namespace Rows
def none {H : Type} : Left H := { results := [], args := [] }

/-- 'laws.FnExactGapOf': WHATEVER THE INPUT: true; the input reads as it did. -/
def fnExactGapOfSpec : ChangeSpec := { name := "fnExactGapOf", fn := fun _ => fun
  | [d1, d2] => { results := [.lit (.bool true)], args := [d1, d2] }
  | _ => none }
def fnExactGapOfRow : OpenClaim := { program := "ytabgkpfcpncmhaagreat", sum := "fd34bdb197aac5e35f50e3a257cdf5a91bad2b3a66fcd927ba2c61505baa8339", func := "loop.example/g01172/laws.FnExactGapOf", spec := "fnExactGapOf", inPlace := ["math.Float32bits"], apart := false }
def FnExactGapOfSaid : Prop := fnExactGapOfRow.holds Tryz.pinned (OpenSpec.ofChange fnExactGapOfSpec)

/-- ITS FALSE NEIGHBOUR: 'it returns false'. Refute it at one input. -/
def fnExactGapOfWrong : ChangeSpec := { name := "fnExactGapOf", fn := fun _ => fun
  | [d1, d2] => { results := [.lit (.bool false)], args := [d1, d2] }
  | _ => none }
def FnExactGapOfWrongFalsely : Prop := fnExactGapOfRow.holds Tryz.pinned (OpenSpec.ofChange fnExactGapOfWrong)

/-- 'laws.FnExactNormOfMatrix': WHATEVER THE INPUT: true; the input reads as it did. -/
def fnExactNormOfMatrixSpec : ChangeSpec := { name := "fnExactNormOfMatrix", fn := fun _ => fun
  | [d] => { results := [.lit (.bool true)], args := [d] }
  | _ => none }
def fnExactNormOfMatrixRow : OpenClaim := { program := "ytabgkpfcpncmhaagreat", sum := "fd34bdb197aac5e35f50e3a257cdf5a91bad2b3a66fcd927ba2c61505baa8339", func := "loop.example/g01172/laws.FnExactNormOfMatrix", spec := "fnExactNormOfMatrix", inPlace := ["math.Float32bits", "math.Float32frombits", "math.Float64frombits", "math.Float64bits"], unfollowed := true, recurses := true, apart := false }
def FnExactNormOfMatrixSaid : Prop := fnExactNormOfMatrixRow.holds Tryz.pinned (OpenSpec.ofChange fnExactNormOfMatrixSpec)

/-- ITS FALSE NEIGHBOUR: 'it returns false'. Refute it at one input. -/
def fnExactNormOfMatrixWrong : ChangeSpec := { name := "fnExactNormOfMatrix", fn := fun _ => fun
  | [d] => { results := [.lit (.bool false)], args := [d] }
  | _ => none }
def FnExactNormOfMatrixWrongFalsely : Prop := fnExactNormOfMatrixRow.holds Tryz.pinned (OpenSpec.ofChange fnExactNormOfMatrixWrong)

/-- 'laws.FnExactResidualOf': WHATEVER THE INPUT: true; the input reads as it did. -/
def fnExactResidualOfSpec : ChangeSpec := { name := "fnExactResidualOf", fn := fun _ => fun
  | [d1, d2, d3] => { results := [.lit (.bool true)], args := [d1, d2, d3] }
  | _ => none }
def fnExactResidualOfRow : OpenClaim := { program := "ytabgkpfcpncmhaagreat", sum := "fd34bdb197aac5e35f50e3a257cdf5a91bad2b3a66fcd927ba2c61505baa8339", func := "loop.example/g01172/laws.FnExactResidualOf", spec := "fnExactResidualOf", inPlace := ["math.Float32bits", "math.Float32frombits", "math.Float64frombits", "math.Float64bits"], unfollowed := true, recurses := true, apart := false }
def FnExactResidualOfSaid : Prop := fnExactResidualOfRow.holds Tryz.pinned (OpenSpec.ofChange fnExactResidualOfSpec)

/-- ITS FALSE NEIGHBOUR: 'it returns false'. Refute it at one input. -/
def fnExactResidualOfWrong : ChangeSpec := { name := "fnExactResidualOf", fn := fun _ => fun
  | [d1, d2, d3] => { results := [.lit (.bool false)], args := [d1, d2, d3] }
  | _ => none }
def FnExactResidualOfWrongFalsely : Prop := fnExactResidualOfRow.holds Tryz.pinned (OpenSpec.ofChange fnExactResidualOfWrong)

/-- 'laws.FnExactHalvesOfBox': WHATEVER THE INPUT: true; the input reads as it did. -/
def fnExactHalvesOfBoxSpec : ChangeSpec := { name := "fnExactHalvesOfBox", fn := fun _ => fun
  | [d] => { results := [.lit (.bool true)], args := [d] }
  | _ => none }
def fnExactHalvesOfBoxRow : OpenClaim := { program := "ytabgkpfcpncmhaagreat", sum := "fd34bdb197aac5e35f50e3a257cdf5a91bad2b3a66fcd927ba2c61505baa8339", func := "loop.example/g01172/laws.FnExactHalvesOfBox", spec := "fnExactHalvesOfBox", inPlace := ["math.Float64frombits", "math.Float32bits", "math.Float64bits", "math.Float32frombits"], unfollowed := true, recurses := true, apart := false }
def FnExactHalvesOfBoxSaid : Prop := fnExactHalvesOfBoxRow.holds Tryz.pinned (OpenSpec.ofChange fnExactHalvesOfBoxSpec)

/-- ITS FALSE NEIGHBOUR: 'it returns false'. Refute it at one input. -/
def fnExactHalvesOfBoxWrong : ChangeSpec := { name := "fnExactHalvesOfBox", fn := fun _ => fun
  | [d] => { results := [.lit (.bool false)], args := [d] }
  | _ => none }
def FnExactHalvesOfBoxWrongFalsely : Prop := fnExactHalvesOfBoxRow.holds Tryz.pinned (OpenSpec.ofChange fnExactHalvesOfBoxWrong)

/-- 'laws.FnExactRoundedDeterminant': WHATEVER THE INPUT: true; the input reads as it did. -/
def fnExactRoundedDeterminantSpec : ChangeSpec := { name := "fnExactRoundedDeterminant", fn := fun _ => fun
  | [d1, d2] => { results := [.lit (.bool true)], args := [d1, d2] }
  | _ => none }
def fnExactRoundedDeterminantRow : OpenClaim := { program := "ytabgkpfcpncmhaagreat", sum := "fd34bdb197aac5e35f50e3a257cdf5a91bad2b3a66fcd927ba2c61505baa8339", func := "loop.example/g01172/laws.FnExactRoundedDeterminant", spec := "fnExactRoundedDeterminant", inPlace := ["math.Float32bits", "math.Float32frombits", "math.Float64frombits", "math.Float64bits"], unfollowed := true, recurses := true, apart := false }
def FnExactRoundedDeterminantSaid : Prop := fnExactRoundedDeterminantRow.holds Tryz.pinned (OpenSpec.ofChange fnExactRoundedDeterminantSpec)

/-- ITS FALSE NEIGHBOUR: 'it returns false'. Refute it at one input. -/
def fnExactRoundedDeterminantWrong : ChangeSpec := { name := "fnExactRoundedDeterminant", fn := fun _ => fun
  | [d1, d2] => { results := [.lit (.bool false)], args := [d1, d2] }
  | _ => none }
def FnExactRoundedDeterminantWrongFalsely : Prop := fnExactRoundedDeterminantRow.holds Tryz.pinned (OpenSpec.ofChange fnExactRoundedDeterminantWrong)

/-- 'laws.FnExactVolumeOfBox': WHATEVER THE INPUT: true; the input reads as it did. -/
def fnExactVolumeOfBoxSpec : ChangeSpec := { name := "fnExactVolumeOfBox", fn := fun _ => fun
  | [d] => { results := [.lit (.bool true)], args := [d] }
  | _ => none }
def fnExactVolumeOfBoxRow : OpenClaim := { program := "ytabgkpfcpncmhaagreat", sum := "fd34bdb197aac5e35f50e3a257cdf5a91bad2b3a66fcd927ba2c61505baa8339", func := "loop.example/g01172/laws.FnExactVolumeOfBox", spec := "fnExactVolumeOfBox", inPlace := ["math.Float64frombits", "math.Float32bits", "math.Float64bits", "math.Float32frombits"], unfollowed := true, recurses := true, apart := false }
def FnExactVolumeOfBoxSaid : Prop := fnExactVolumeOfBoxRow.holds Tryz.pinned (OpenSpec.ofChange fnExactVolumeOfBoxSpec)

/-- ITS FALSE NEIGHBOUR: 'it returns false'. Refute it at one input. -/
def fnExactVolumeOfBoxWrong : ChangeSpec := { name := "fnExactVolumeOfBox", fn := fun _ => fun
  | [d] => { results := [.lit (.bool false)], args := [d] }
  | _ => none }
def FnExactVolumeOfBoxWrongFalsely : Prop := fnExactVolumeOfBoxRow.holds Tryz.pinned (OpenSpec.ofChange fnExactVolumeOfBoxWrong)

/-- 'laws.FnExactRefineSolution': WHATEVER THE INPUT: true; the input reads as it did. -/
def fnExactRefineSolutionSpec : ChangeSpec := { name := "fnExactRefineSolution", fn := fun _ => fun
  | [d1, d2, d3, d4] => { results := [.lit (.bool true)], args := [d1, d2, d3, d4] }
  | _ => none }
def fnExactRefineSolutionRow : OpenClaim := { program := "ytabgkpfcpncmhaagreat", sum := "fd34bdb197aac5e35f50e3a257cdf5a91bad2b3a66fcd927ba2c61505baa8339", func := "loop.example/g01172/laws.FnExactRefineSolution", spec := "fnExactRefineSolution", inPlace := ["math.Float32bits", "math.Float32frombits", "math.Float64frombits", "math.Float64bits"], unfollowed := true, recurses := true, apart := false }
def FnExactRefineSolutionSaid : Prop := fnExactRefineSolutionRow.holds Tryz.pinned (OpenSpec.ofChange fnExactRefineSolutionSpec)

/-- ITS FALSE NEIGHBOUR: 'it returns false'. Refute it at one input. -/
def fnExactRefineSolutionWrong : ChangeSpec := { name := "fnExactRefineSolution", fn := fun _ => fun
  | [d1, d2, d3, d4] => { results := [.lit (.bool false)], args := [d1, d2, d3, d4] }
  | _ => none }
def FnExactRefineSolutionWrongFalsely : Prop := fnExactRefineSolutionRow.holds Tryz.pinned (OpenSpec.ofChange fnExactRefineSolutionWrong)

/-- 'laws.FnExactEncloseSolution': WHATEVER THE INPUT: true; the input reads as it did. -/
def fnExactEncloseSolutionSpec : ChangeSpec := { name := "fnExactEncloseSolution", fn := fun _ => fun
  | [d1, d2] => { results := [.lit (.bool true)], args := [d1, d2] }
  | _ => none }
def fnExactEncloseSolutionRow : OpenClaim := { program := "ytabgkpfcpncmhaagreat", sum := "fd34bdb197aac5e35f50e3a257cdf5a91bad2b3a66fcd927ba2c61505baa8339", func := "loop.example/g01172/laws.FnExactEncloseSolution", spec := "fnExactEncloseSolution", inPlace := ["math.Float32bits", "math.Float32frombits", "math.Float64frombits", "math.Float64bits"], unfollowed := true, recurses := true, apart := false }
def FnExactEncloseSolutionSaid : Prop := fnExactEncloseSolutionRow.holds Tryz.pinned (OpenSpec.ofChange fnExactEncloseSolutionSpec)

/-- ITS FALSE NEIGHBOUR: 'it returns false'. Refute it at one input. -/
def fnExactEncloseSolutionWrong : ChangeSpec := { name := "fnExactEncloseSolution", fn := fun _ => fun
  | [d1, d2] => { results := [.lit (.bool false)], args := [d1, d2] }
  | _ => none }
def FnExactEncloseSolutionWrongFalsely : Prop := fnExactEncloseSolutionRow.holds Tryz.pinned (OpenSpec.ofChange fnExactEncloseSolutionWrong)

/-- 'laws.FnExactEncloseInverse': WHATEVER THE INPUT: true; the input reads as it did. -/
def fnExactEncloseInverseSpec : ChangeSpec := { name := "fnExactEncloseInverse", fn := fun _ => fun
  | [d] => { results := [.lit (.bool true)], args := [d] }
  | _ => none }
def fnExactEncloseInverseRow : OpenClaim := { program := "ytabgkpfcpncmhaagreat", sum := "fd34bdb197aac5e35f50e3a257cdf5a91bad2b3a66fcd927ba2c61505baa8339", func := "loop.example/g01172/laws.FnExactEncloseInverse", spec := "fnExactEncloseInverse", inPlace := ["math.Float32bits", "math.Float32frombits", "math.Float64frombits", "math.Float64bits"], unfollowed := true, recurses := true, apart := false }
def FnExactEncloseInverseSaid : Prop := fnExactEncloseInverseRow.holds Tryz.pinned (OpenSpec.ofChange fnExactEncloseInverseSpec)

/-- ITS FALSE NEIGHBOUR: 'it returns false'. Refute it at one input. -/
def fnExactEncloseInverseWrong : ChangeSpec := { name := "fnExactEncloseInverse", fn := fun _ => fun
  | [d] => { results := [.lit (.bool false)], args := [d] }
  | _ => none }
def FnExactEncloseInverseWrongFalsely : Prop := fnExactEncloseInverseRow.holds Tryz.pinned (OpenSpec.ofChange fnExactEncloseInverseWrong)

/-- 'laws.FnEliminations': WHATEVER THE INPUT: true; the input reads as it did. -/
def fnEliminationsSpec : ChangeSpec := { name := "fnEliminations", fn := fun _ => fun
  | [d] => { results := [.lit (.bool true)], args := [d] }
  | _ => none }
def fnEliminationsRow : OpenClaim := { program := "ytabgkpfcpncmhaagreat", sum := "fd34bdb197aac5e35f50e3a257cdf5a91bad2b3a66fcd927ba2c61505baa8339", func := "loop.example/g01172/laws.FnEliminations", spec := "fnEliminations", inPlace := ["math.Float32bits", "math.Float32frombits", "math.Float64frombits", "math.Float64bits"], unfollowed := true, recurses := true, apart := false }
def FnEliminationsSaid : Prop := fnEliminationsRow.holds Tryz.pinned (OpenSpec.ofChange fnEliminationsSpec)

/-- ITS FALSE NEIGHBOUR: 'it returns false'. Refute it at one input. -/
def fnEliminationsWrong : ChangeSpec := { name := "fnEliminations", fn := fun _ => fun
  | [d] => { results := [.lit (.bool false)], args := [d] }
  | _ => none }
def FnEliminationsWrongFalsely : Prop := fnEliminationsRow.holds Tryz.pinned (OpenSpec.ofChange fnEliminationsWrong)

/-- 'laws.FnMatrices': WHATEVER THE INPUT: true; the input reads as it did. -/
def fnMatricesSpec : ChangeSpec := { name := "fnMatrices", fn := fun _ => fun
  | [d] => { results := [.lit (.bool true)], args := [d] }
  | _ => none }
def fnMatricesRow : OpenClaim := { program := "ytabgkpfcpncmhaagreat", sum := "fd34bdb197aac5e35f50e3a257cdf5a91bad2b3a66fcd927ba2c61505baa8339", func := "loop.example/g01172/laws.FnMatrices", spec := "fnMatrices", inPlace := ["math.Float32bits", "math.Float32frombits", "math.Float64frombits", "math.Float64bits"], unfollowed := true, recurses := true, apart := false }
def FnMatricesSaid : Prop := fnMatricesRow.holds Tryz.pinned (OpenSpec.ofChange fnMatricesSpec)

/-- ITS FALSE NEIGHBOUR: 'it returns false'. Refute it at one input. -/
def fnMatricesWrong : ChangeSpec := { name := "fnMatrices", fn := fun _ => fun
  | [d] => { results := [.lit (.bool false)], args := [d] }
  | _ => none }
def FnMatricesWrongFalsely : Prop := fnMatricesRow.holds Tryz.pinned (OpenSpec.ofChange fnMatricesWrong)

/- THE SECOND FORM. 'bulk': how many values and letters a reading holds, each counted each time it is reached (what is shared counts as often as it is met; a slice's spare places count too). A statement '..UptoSaid' is the law's where the arguments, and the package variables that the reading takes, are together of bulk at most 1048576: NARROWER than '..Said'. Prove '..Said' where nothing that the law and all that it calls make is longer than what came in: it says more and counts as full. Else prove '..UptoSaid'. A law counts once. -/
mutual
def uptoBulk {H : Type} : DataW H → Nat
  | .lit (.string bytes) => bytes.length + 1
  | .lit _ => 1
  | .nil => 1
  | .ptr d => uptoBulk d + 1
  | .slice elems spare => uptoBulkAll elems + uptoBulkAll spare + 1
  | .agg parts => uptoBulkAll parts + 1
  | .iface _ d => uptoBulk d + 1
  | .map entries => uptoBulkEntries entries + 1
  | .held _ => 1
def uptoBulkAll {H : Type} : List (DataW H) → Nat
  | [] => 0
  | d :: r => uptoBulk d + uptoBulkAll r
def uptoBulkEntries {H : Type} : List (Lit × DataW H) → Nat
  | [] => 0
  | x :: r => uptoBulkEntry x + uptoBulkEntries r
def uptoBulkEntry {H : Type} : Lit × DataW H → Nat
  | (.string bytes, d) => bytes.length + uptoBulk d + 1
  | (_, d) => uptoBulk d + 1
 end
def uptoSmall : (H : Type) → List (DataW H) → Bool := fun _ ds => decide (uptoBulkAll ds ≤ 1048576)
def OpenSpec.upto (s : _root_.Go.ChangeSpec) : _root_.Go.OpenSpec := { _root_.Go.OpenSpec.ofChange s with cond := some uptoSmall }

/-- 'laws.FnExactGapOf', WHERE WHAT IT READS IS OF BULK AT MOST 1048576: true; the input reads as it did. -/
def fnExactGapOfUptoRow : OpenClaim := { program := "ytabgkpfcpncmhaagreat", sum := "fd34bdb197aac5e35f50e3a257cdf5a91bad2b3a66fcd927ba2c61505baa8339", func := "loop.example/g01172/laws.FnExactGapOf", spec := "fnExactGapOf", inPlace := ["math.Float32bits"], apart := false, narrowed := true }
def FnExactGapOfUptoSaid : Prop := fnExactGapOfUptoRow.holds Tryz.pinned (OpenSpec.upto fnExactGapOfSpec)

/-- 'laws.FnExactNormOfMatrix', WHERE WHAT IT READS IS OF BULK AT MOST 1048576: true; the input reads as it did. -/
def fnExactNormOfMatrixUptoRow : OpenClaim := { program := "ytabgkpfcpncmhaagreat", sum := "fd34bdb197aac5e35f50e3a257cdf5a91bad2b3a66fcd927ba2c61505baa8339", func := "loop.example/g01172/laws.FnExactNormOfMatrix", spec := "fnExactNormOfMatrix", inPlace := ["math.Float32bits", "math.Float32frombits", "math.Float64frombits", "math.Float64bits"], unfollowed := true, recurses := true, apart := false, narrowed := true }
def FnExactNormOfMatrixUptoSaid : Prop := fnExactNormOfMatrixUptoRow.holds Tryz.pinned (OpenSpec.upto fnExactNormOfMatrixSpec)

/-- 'laws.FnExactResidualOf', WHERE WHAT IT READS IS OF BULK AT MOST 1048576: true; the input reads as it did. -/
def fnExactResidualOfUptoRow : OpenClaim := { program := "ytabgkpfcpncmhaagreat", sum := "fd34bdb197aac5e35f50e3a257cdf5a91bad2b3a66fcd927ba2c61505baa8339", func := "loop.example/g01172/laws.FnExactResidualOf", spec := "fnExactResidualOf", inPlace := ["math.Float32bits", "math.Float32frombits", "math.Float64frombits", "math.Float64bits"], unfollowed := true, recurses := true, apart := false, narrowed := true }
def FnExactResidualOfUptoSaid : Prop := fnExactResidualOfUptoRow.holds Tryz.pinned (OpenSpec.upto fnExactResidualOfSpec)

/-- 'laws.FnExactHalvesOfBox', WHERE WHAT IT READS IS OF BULK AT MOST 1048576: true; the input reads as it did. -/
def fnExactHalvesOfBoxUptoRow : OpenClaim := { program := "ytabgkpfcpncmhaagreat", sum := "fd34bdb197aac5e35f50e3a257cdf5a91bad2b3a66fcd927ba2c61505baa8339", func := "loop.example/g01172/laws.FnExactHalvesOfBox", spec := "fnExactHalvesOfBox", inPlace := ["math.Float64frombits", "math.Float32bits", "math.Float64bits", "math.Float32frombits"], unfollowed := true, recurses := true, apart := false, narrowed := true }
def FnExactHalvesOfBoxUptoSaid : Prop := fnExactHalvesOfBoxUptoRow.holds Tryz.pinned (OpenSpec.upto fnExactHalvesOfBoxSpec)

/-- 'laws.FnExactRoundedDeterminant', WHERE WHAT IT READS IS OF BULK AT MOST 1048576: true; the input reads as it did. -/
def fnExactRoundedDeterminantUptoRow : OpenClaim := { program := "ytabgkpfcpncmhaagreat", sum := "fd34bdb197aac5e35f50e3a257cdf5a91bad2b3a66fcd927ba2c61505baa8339", func := "loop.example/g01172/laws.FnExactRoundedDeterminant", spec := "fnExactRoundedDeterminant", inPlace := ["math.Float32bits", "math.Float32frombits", "math.Float64frombits", "math.Float64bits"], unfollowed := true, recurses := true, apart := false, narrowed := true }
def FnExactRoundedDeterminantUptoSaid : Prop := fnExactRoundedDeterminantUptoRow.holds Tryz.pinned (OpenSpec.upto fnExactRoundedDeterminantSpec)

/-- 'laws.FnExactVolumeOfBox', WHERE WHAT IT READS IS OF BULK AT MOST 1048576: true; the input reads as it did. -/
def fnExactVolumeOfBoxUptoRow : OpenClaim := { program := "ytabgkpfcpncmhaagreat", sum := "fd34bdb197aac5e35f50e3a257cdf5a91bad2b3a66fcd927ba2c61505baa8339", func := "loop.example/g01172/laws.FnExactVolumeOfBox", spec := "fnExactVolumeOfBox", inPlace := ["math.Float64frombits", "math.Float32bits", "math.Float64bits", "math.Float32frombits"], unfollowed := true, recurses := true, apart := false, narrowed := true }
def FnExactVolumeOfBoxUptoSaid : Prop := fnExactVolumeOfBoxUptoRow.holds Tryz.pinned (OpenSpec.upto fnExactVolumeOfBoxSpec)

/-- 'laws.FnExactRefineSolution', WHERE WHAT IT READS IS OF BULK AT MOST 1048576: true; the input reads as it did. -/
def fnExactRefineSolutionUptoRow : OpenClaim := { program := "ytabgkpfcpncmhaagreat", sum := "fd34bdb197aac5e35f50e3a257cdf5a91bad2b3a66fcd927ba2c61505baa8339", func := "loop.example/g01172/laws.FnExactRefineSolution", spec := "fnExactRefineSolution", inPlace := ["math.Float32bits", "math.Float32frombits", "math.Float64frombits", "math.Float64bits"], unfollowed := true, recurses := true, apart := false, narrowed := true }
def FnExactRefineSolutionUptoSaid : Prop := fnExactRefineSolutionUptoRow.holds Tryz.pinned (OpenSpec.upto fnExactRefineSolutionSpec)

/-- 'laws.FnExactEncloseSolution', WHERE WHAT IT READS IS OF BULK AT MOST 1048576: true; the input reads as it did. -/
def fnExactEncloseSolutionUptoRow : OpenClaim := { program := "ytabgkpfcpncmhaagreat", sum := "fd34bdb197aac5e35f50e3a257cdf5a91bad2b3a66fcd927ba2c61505baa8339", func := "loop.example/g01172/laws.FnExactEncloseSolution", spec := "fnExactEncloseSolution", inPlace := ["math.Float32bits", "math.Float32frombits", "math.Float64frombits", "math.Float64bits"], unfollowed := true, recurses := true, apart := false, narrowed := true }
def FnExactEncloseSolutionUptoSaid : Prop := fnExactEncloseSolutionUptoRow.holds Tryz.pinned (OpenSpec.upto fnExactEncloseSolutionSpec)

/-- 'laws.FnExactEncloseInverse', WHERE WHAT IT READS IS OF BULK AT MOST 1048576: true; the input reads as it did. -/
def fnExactEncloseInverseUptoRow : OpenClaim := { program := "ytabgkpfcpncmhaagreat", sum := "fd34bdb197aac5e35f50e3a257cdf5a91bad2b3a66fcd927ba2c61505baa8339", func := "loop.example/g01172/laws.FnExactEncloseInverse", spec := "fnExactEncloseInverse", inPlace := ["math.Float32bits", "math.Float32frombits", "math.Float64frombits", "math.Float64bits"], unfollowed := true, recurses := true, apart := false, narrowed := true }
def FnExactEncloseInverseUptoSaid : Prop := fnExactEncloseInverseUptoRow.holds Tryz.pinned (OpenSpec.upto fnExactEncloseInverseSpec)

/-- 'laws.FnEliminations', WHERE WHAT IT READS IS OF BULK AT MOST 1048576: true; the input reads as it did. -/
def fnEliminationsUptoRow : OpenClaim := { program := "ytabgkpfcpncmhaagreat", sum := "fd34bdb197aac5e35f50e3a257cdf5a91bad2b3a66fcd927ba2c61505baa8339", func := "loop.example/g01172/laws.FnEliminations", spec := "fnEliminations", inPlace := ["math.Float32bits", "math.Float32frombits", "math.Float64frombits", "math.Float64bits"], unfollowed := true, recurses := true, apart := false, narrowed := true }
def FnEliminationsUptoSaid : Prop := fnEliminationsUptoRow.holds Tryz.pinned (OpenSpec.upto fnEliminationsSpec)

/-- 'laws.FnMatrices', WHERE WHAT IT READS IS OF BULK AT MOST 1048576: true; the input reads as it did. -/
def fnMatricesUptoRow : OpenClaim := { program := "ytabgkpfcpncmhaagreat", sum := "fd34bdb197aac5e35f50e3a257cdf5a91bad2b3a66fcd927ba2c61505baa8339", func := "loop.example/g01172/laws.FnMatrices", spec := "fnMatrices", inPlace := ["math.Float32bits", "math.Float32frombits", "math.Float64frombits", "math.Float64bits"], unfollowed := true, recurses := true, apart := false, narrowed := true }
def FnMatricesUptoSaid : Prop := fnMatricesUptoRow.holds Tryz.pinned (OpenSpec.upto fnMatricesSpec)

end Rows
end Go.Proofs.YtabgkpfcpncmhaaGreat

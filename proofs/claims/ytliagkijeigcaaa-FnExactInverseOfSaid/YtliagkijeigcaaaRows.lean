/-
  No cell of these rows narrows 'for every input' (looked for: loops, veiled, ifaces, maps, wideKeys, modest, calm, conditions, laid).
  DERIVED. THE GIVEN ROWS OF THIS SEAT. 7 by the template 'for every input the law returns true; each argument reads behind the call as it read before'; 0 by the template 'total and deterministic' (their statements: YtliagkijeigcaaaTotals.lean).
  GIVEN WITH THE SEED: the statements are not yours to turn. If you find one false, say at which input.
  Laid BY PROGRAM, IN A SANDBOX (cutbox-rows.mjs): the forced cells as the released guide's own fill.sh prints them over the translation 5997798e25d3eba8… (all of the seat's roots in one cut). By AI agents, Wed Nov 11 2026. No macro, syntax, notation, axiom, sorry.
-/
import Derived.Test.YtliagkijeigcaaaChecked
import GoSem.Claim
import GoSem.ClaimJoined
import GoSem.ClaimMapViews
import Derived.JoinedTies
import Derived.KernelRfl
namespace Go.Proofs.Ytliagkijeigcaaa
/- THE CELL 'sum', in the pinned program and in every row, IS THE sha256 OF THE DUMP (.gsa) THAT YtliagkijeigcaaaProg.lean LOADS. Nothing in Lean hashes anything: it is a label: what it is worth is what the hold of that sum in a sandbox is worth. -/
noncomputable def Try.pinned : Pinned := { name := "ytliagkijeigcaaa", sum := "5997798e25d3eba87236314f846bbb10319faea38d06747a87ee61513c701dbe", checked := Try.checked }
namespace Rows
def none {H : Type} : Left H := { results := [], args := [] }

/-- 'laws.FnExactIsMatrix': WHATEVER THE INPUT: true; the input reads as it did. -/
def fnExactIsMatrixSpec : ChangeSpec := { name := "fnExactIsMatrix", fn := fun _ => fun
  | [d] => { results := [.lit (.bool true)], args := [d] }
  | _ => none }
def fnExactIsMatrixRow : OpenClaim := { program := "ytliagkijeigcaaa", sum := "5997798e25d3eba87236314f846bbb10319faea38d06747a87ee61513c701dbe", func := "loop.example/g01172/laws.FnExactIsMatrix", spec := "fnExactIsMatrix", inPlace := ["math.Float32bits"], apart := false }
def FnExactIsMatrixSaid : Prop := fnExactIsMatrixRow.holds Try.pinned (OpenSpec.ofChange fnExactIsMatrixSpec)

/-- ITS FALSE NEIGHBOUR: 'it returns false'. Refute it at one input. -/
def fnExactIsMatrixWrong : ChangeSpec := { name := "fnExactIsMatrix", fn := fun _ => fun
  | [d] => { results := [.lit (.bool false)], args := [d] }
  | _ => none }
def FnExactIsMatrixWrongFalsely : Prop := fnExactIsMatrixRow.holds Try.pinned (OpenSpec.ofChange fnExactIsMatrixWrong)

/-- 'laws.FnExactNewServer': WHATEVER THE INPUT: true; the input reads as it did. -/
def fnExactNewServerSpec : ChangeSpec := { name := "fnExactNewServer", fn := fun _ => fun
  | [] => { results := [.lit (.bool true)], args := [] }
  | _ => none }
def fnExactNewServerRow : OpenClaim := { program := "ytliagkijeigcaaa", sum := "5997798e25d3eba87236314f846bbb10319faea38d06747a87ee61513c701dbe", func := "loop.example/g01172/laws.FnExactNewServer", spec := "fnExactNewServer", apart := false }
def FnExactNewServerSaid : Prop := fnExactNewServerRow.holds Try.pinned (OpenSpec.ofChange fnExactNewServerSpec)

/-- ITS FALSE NEIGHBOUR: 'it returns false'. Refute it at one input. -/
def fnExactNewServerWrong : ChangeSpec := { name := "fnExactNewServer", fn := fun _ => fun
  | [] => { results := [.lit (.bool false)], args := [] }
  | _ => none }
def FnExactNewServerWrongFalsely : Prop := fnExactNewServerRow.holds Try.pinned (OpenSpec.ofChange fnExactNewServerWrong)

/-- 'laws.FnExactTimesVector': WHATEVER THE INPUT: true; the input reads as it did. -/
def fnExactTimesVectorSpec : ChangeSpec := { name := "fnExactTimesVector", fn := fun _ => fun
  | [d1, d2] => { results := [.lit (.bool true)], args := [d1, d2] }
  | _ => none }
def fnExactTimesVectorRow : OpenClaim := { program := "ytliagkijeigcaaa", sum := "5997798e25d3eba87236314f846bbb10319faea38d06747a87ee61513c701dbe", func := "loop.example/g01172/laws.FnExactTimesVector", spec := "fnExactTimesVector", inPlace := ["math.Float32bits"], apart := false }
def FnExactTimesVectorSaid : Prop := fnExactTimesVectorRow.holds Try.pinned (OpenSpec.ofChange fnExactTimesVectorSpec)

/-- ITS FALSE NEIGHBOUR: 'it returns false'. Refute it at one input. -/
def fnExactTimesVectorWrong : ChangeSpec := { name := "fnExactTimesVector", fn := fun _ => fun
  | [d1, d2] => { results := [.lit (.bool false)], args := [d1, d2] }
  | _ => none }
def FnExactTimesVectorWrongFalsely : Prop := fnExactTimesVectorRow.holds Try.pinned (OpenSpec.ofChange fnExactTimesVectorWrong)

/-- 'laws.FnExactTimesMatrix': WHATEVER THE INPUT: true; the input reads as it did. -/
def fnExactTimesMatrixSpec : ChangeSpec := { name := "fnExactTimesMatrix", fn := fun _ => fun
  | [d1, d2] => { results := [.lit (.bool true)], args := [d1, d2] }
  | _ => none }
def fnExactTimesMatrixRow : OpenClaim := { program := "ytliagkijeigcaaa", sum := "5997798e25d3eba87236314f846bbb10319faea38d06747a87ee61513c701dbe", func := "loop.example/g01172/laws.FnExactTimesMatrix", spec := "fnExactTimesMatrix", inPlace := ["math.Float32bits"], apart := false }
def FnExactTimesMatrixSaid : Prop := fnExactTimesMatrixRow.holds Try.pinned (OpenSpec.ofChange fnExactTimesMatrixSpec)

/-- ITS FALSE NEIGHBOUR: 'it returns false'. Refute it at one input. -/
def fnExactTimesMatrixWrong : ChangeSpec := { name := "fnExactTimesMatrix", fn := fun _ => fun
  | [d1, d2] => { results := [.lit (.bool false)], args := [d1, d2] }
  | _ => none }
def FnExactTimesMatrixWrongFalsely : Prop := fnExactTimesMatrixRow.holds Try.pinned (OpenSpec.ofChange fnExactTimesMatrixWrong)

/-- 'laws.FnExactEliminationOf': WHATEVER THE INPUT: true; the input reads as it did. -/
def fnExactEliminationOfSpec : ChangeSpec := { name := "fnExactEliminationOf", fn := fun _ => fun
  | [d] => { results := [.lit (.bool true)], args := [d] }
  | _ => none }
def fnExactEliminationOfRow : OpenClaim := { program := "ytliagkijeigcaaa", sum := "5997798e25d3eba87236314f846bbb10319faea38d06747a87ee61513c701dbe", func := "loop.example/g01172/laws.FnExactEliminationOf", spec := "fnExactEliminationOf", inPlace := ["math.Float32bits"], apart := false }
def FnExactEliminationOfSaid : Prop := fnExactEliminationOfRow.holds Try.pinned (OpenSpec.ofChange fnExactEliminationOfSpec)

/-- ITS FALSE NEIGHBOUR: 'it returns false'. Refute it at one input. -/
def fnExactEliminationOfWrong : ChangeSpec := { name := "fnExactEliminationOf", fn := fun _ => fun
  | [d] => { results := [.lit (.bool false)], args := [d] }
  | _ => none }
def FnExactEliminationOfWrongFalsely : Prop := fnExactEliminationOfRow.holds Try.pinned (OpenSpec.ofChange fnExactEliminationOfWrong)

/-- 'laws.FnExactSolveSystem': WHATEVER THE INPUT: true; the input reads as it did. -/
def fnExactSolveSystemSpec : ChangeSpec := { name := "fnExactSolveSystem", fn := fun _ => fun
  | [d1, d2] => { results := [.lit (.bool true)], args := [d1, d2] }
  | _ => none }
def fnExactSolveSystemRow : OpenClaim := { program := "ytliagkijeigcaaa", sum := "5997798e25d3eba87236314f846bbb10319faea38d06747a87ee61513c701dbe", func := "loop.example/g01172/laws.FnExactSolveSystem", spec := "fnExactSolveSystem", inPlace := ["math.Float32bits"], unfollowed := true, recurses := true, apart := false }
def FnExactSolveSystemSaid : Prop := fnExactSolveSystemRow.holds Try.pinned (OpenSpec.ofChange fnExactSolveSystemSpec)

/-- ITS FALSE NEIGHBOUR: 'it returns false'. Refute it at one input. -/
def fnExactSolveSystemWrong : ChangeSpec := { name := "fnExactSolveSystem", fn := fun _ => fun
  | [d1, d2] => { results := [.lit (.bool false)], args := [d1, d2] }
  | _ => none }
def FnExactSolveSystemWrongFalsely : Prop := fnExactSolveSystemRow.holds Try.pinned (OpenSpec.ofChange fnExactSolveSystemWrong)

/-- 'laws.FnExactInverseOf': WHATEVER THE INPUT: true; the input reads as it did. -/
def fnExactInverseOfSpec : ChangeSpec := { name := "fnExactInverseOf", fn := fun _ => fun
  | [d] => { results := [.lit (.bool true)], args := [d] }
  | _ => none }
def fnExactInverseOfRow : OpenClaim := { program := "ytliagkijeigcaaa", sum := "5997798e25d3eba87236314f846bbb10319faea38d06747a87ee61513c701dbe", func := "loop.example/g01172/laws.FnExactInverseOf", spec := "fnExactInverseOf", inPlace := ["math.Float32bits"], unfollowed := true, recurses := true, apart := false }
def FnExactInverseOfSaid : Prop := fnExactInverseOfRow.holds Try.pinned (OpenSpec.ofChange fnExactInverseOfSpec)

/-- ITS FALSE NEIGHBOUR: 'it returns false'. Refute it at one input. -/
def fnExactInverseOfWrong : ChangeSpec := { name := "fnExactInverseOf", fn := fun _ => fun
  | [d] => { results := [.lit (.bool false)], args := [d] }
  | _ => none }
def FnExactInverseOfWrongFalsely : Prop := fnExactInverseOfRow.holds Try.pinned (OpenSpec.ofChange fnExactInverseOfWrong)

/- THE SECOND FORM. 'bulk': how many values and letters a reading holds, each counted each time it is reached (what is shared counts as often as it is met; a slice's spare places count too). A statement '..UptoSaid' is the law's where the arguments, and the package variables that the reading takes, are together of bulk at most 1048576: NARROWER than '..Said'. Prove '..Said' where nothing that the law and all that it calls make is longer than what came in: it says more and counts as full. Else prove '..UptoSaid'. A law counts once. -/
mutual
def uptoBulk {H : Type} : DataW H → Nat
  | .lit (.string bytes) => bytes.length + 1
  | .lit _ => 1
  | .nil => 1
  | .ptr d => uptoBulk d + 1
  | .slice elems spare => uptoBulkAll elems + uptoBulkAll spare + 1
  | .agg parts => uptoBulkAll parts + 1
  | .iface _ d => uptoBulk d + 1
  | .map entries => uptoBulkEntries entries + 1
  | .held _ => 1
def uptoBulkAll {H : Type} : List (DataW H) → Nat
  | [] => 0
  | d :: r => uptoBulk d + uptoBulkAll r
def uptoBulkEntries {H : Type} : List (Lit × DataW H) → Nat
  | [] => 0
  | x :: r => uptoBulkEntry x + uptoBulkEntries r
def uptoBulkEntry {H : Type} : Lit × DataW H → Nat
  | (.string bytes, d) => bytes.length + uptoBulk d + 1
  | (_, d) => uptoBulk d + 1
 end
def uptoSmall : (H : Type) → List (DataW H) → Bool := fun _ ds => decide (uptoBulkAll ds ≤ 1048576)
def OpenSpec.upto (s : _root_.Go.ChangeSpec) : _root_.Go.OpenSpec := { _root_.Go.OpenSpec.ofChange s with cond := some uptoSmall }

/-- 'laws.FnExactIsMatrix', WHERE WHAT IT READS IS OF BULK AT MOST 1048576: true; the input reads as it did. -/
def fnExactIsMatrixUptoRow : OpenClaim := { program := "ytliagkijeigcaaa", sum := "5997798e25d3eba87236314f846bbb10319faea38d06747a87ee61513c701dbe", func := "loop.example/g01172/laws.FnExactIsMatrix", spec := "fnExactIsMatrix", inPlace := ["math.Float32bits"], apart := false, narrowed := true }
def FnExactIsMatrixUptoSaid : Prop := fnExactIsMatrixUptoRow.holds Try.pinned (OpenSpec.upto fnExactIsMatrixSpec)

/-- 'laws.FnExactNewServer', WHERE WHAT IT READS IS OF BULK AT MOST 1048576: true; the input reads as it did. -/
def fnExactNewServerUptoRow : OpenClaim := { program := "ytliagkijeigcaaa", sum := "5997798e25d3eba87236314f846bbb10319faea38d06747a87ee61513c701dbe", func := "loop.example/g01172/laws.FnExactNewServer", spec := "fnExactNewServer", apart := false, narrowed := true }
def FnExactNewServerUptoSaid : Prop := fnExactNewServerUptoRow.holds Try.pinned (OpenSpec.upto fnExactNewServerSpec)

/-- 'laws.FnExactTimesVector', WHERE WHAT IT READS IS OF BULK AT MOST 1048576: true; the input reads as it did. -/
def fnExactTimesVectorUptoRow : OpenClaim := { program := "ytliagkijeigcaaa", sum := "5997798e25d3eba87236314f846bbb10319faea38d06747a87ee61513c701dbe", func := "loop.example/g01172/laws.FnExactTimesVector", spec := "fnExactTimesVector", inPlace := ["math.Float32bits"], apart := false, narrowed := true }
def FnExactTimesVectorUptoSaid : Prop := fnExactTimesVectorUptoRow.holds Try.pinned (OpenSpec.upto fnExactTimesVectorSpec)

/-- 'laws.FnExactTimesMatrix', WHERE WHAT IT READS IS OF BULK AT MOST 1048576: true; the input reads as it did. -/
def fnExactTimesMatrixUptoRow : OpenClaim := { program := "ytliagkijeigcaaa", sum := "5997798e25d3eba87236314f846bbb10319faea38d06747a87ee61513c701dbe", func := "loop.example/g01172/laws.FnExactTimesMatrix", spec := "fnExactTimesMatrix", inPlace := ["math.Float32bits"], apart := false, narrowed := true }
def FnExactTimesMatrixUptoSaid : Prop := fnExactTimesMatrixUptoRow.holds Try.pinned (OpenSpec.upto fnExactTimesMatrixSpec)

/-- 'laws.FnExactEliminationOf', WHERE WHAT IT READS IS OF BULK AT MOST 1048576: true; the input reads as it did. -/
def fnExactEliminationOfUptoRow : OpenClaim := { program := "ytliagkijeigcaaa", sum := "5997798e25d3eba87236314f846bbb10319faea38d06747a87ee61513c701dbe", func := "loop.example/g01172/laws.FnExactEliminationOf", spec := "fnExactEliminationOf", inPlace := ["math.Float32bits"], apart := false, narrowed := true }
def FnExactEliminationOfUptoSaid : Prop := fnExactEliminationOfUptoRow.holds Try.pinned (OpenSpec.upto fnExactEliminationOfSpec)

/-- 'laws.FnExactSolveSystem', WHERE WHAT IT READS IS OF BULK AT MOST 1048576: true; the input reads as it did. -/
def fnExactSolveSystemUptoRow : OpenClaim := { program := "ytliagkijeigcaaa", sum := "5997798e25d3eba87236314f846bbb10319faea38d06747a87ee61513c701dbe", func := "loop.example/g01172/laws.FnExactSolveSystem", spec := "fnExactSolveSystem", inPlace := ["math.Float32bits"], unfollowed := true, recurses := true, apart := false, narrowed := true }
def FnExactSolveSystemUptoSaid : Prop := fnExactSolveSystemUptoRow.holds Try.pinned (OpenSpec.upto fnExactSolveSystemSpec)

/-- 'laws.FnExactInverseOf', WHERE WHAT IT READS IS OF BULK AT MOST 1048576: true; the input reads as it did. -/
def fnExactInverseOfUptoRow : OpenClaim := { program := "ytliagkijeigcaaa", sum := "5997798e25d3eba87236314f846bbb10319faea38d06747a87ee61513c701dbe", func := "loop.example/g01172/laws.FnExactInverseOf", spec := "fnExactInverseOf", inPlace := ["math.Float32bits"], unfollowed := true, recurses := true, apart := false, narrowed := true }
def FnExactInverseOfUptoSaid : Prop := fnExactInverseOfUptoRow.holds Try.pinned (OpenSpec.upto fnExactInverseOfSpec)

end Rows
end Go.Proofs.Ytliagkijeigcaaa

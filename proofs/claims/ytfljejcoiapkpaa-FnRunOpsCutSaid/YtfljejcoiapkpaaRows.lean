/-
  No cell of these rows narrows 'for every input' (looked for: loops, veiled, ifaces, maps, wideKeys, modest, calm, conditions, laid).
  DERIVED. THE GIVEN ROWS OF THIS SEAT. 12 by the template 'for every input the law returns true; each argument reads behind the call as it read before'; 0 by the template 'total and deterministic' (their statements: YtfljejcoiapkpaaTotals.lean).
  GIVEN WITH THE SEED: the statements are not yours to turn. If you find one false, say at which input.
  Laid BY PROGRAM, IN A SANDBOX (cutbox-rows.mjs): the forced cells as the released guide's own fill.sh prints them over the translation cd07e6ef060156c2… (all of the seat's roots in one cut). By AI agents, Wed Nov 11 2026. No macro, syntax, notation, axiom, sorry.
-/
import Derived.Test.YtfljejcoiapkpaaChecked
import GoSem.Claim
import GoSem.ClaimJoined
import GoSem.ClaimMapViews
import Derived.JoinedTies
import Derived.KernelRfl
namespace Go.Proofs.Ytfljejcoiapkpaa
/- THE CELL 'sum', in the pinned program and in every row, IS THE sha256 OF THE DUMP (.gsa) THAT YtfljejcoiapkpaaProg.lean LOADS. Nothing in Lean hashes anything: it is a label: what it is worth is what the hold of that sum in a sandbox is worth. -/
noncomputable def Try.pinned : Pinned := { name := "ytfljejcoiapkpaa", sum := "cd07e6ef060156c27c28323164aa744b10f7031e7ed9df6f94d0eec2a147fd19", checked := Try.checked }
namespace Rows
def none {H : Type} : Left H := { results := [], args := [] }

/-- 'laws.FnStepMachine': WHATEVER THE INPUT: true; the input reads as it did. -/
def fnStepMachineSpec : ChangeSpec := { name := "fnStepMachine", fn := fun _ => fun
  | [d] => { results := [.lit (.bool true)], args := [d] }
  | _ => none }
def fnStepMachineRow : OpenClaim := { program := "ytfljejcoiapkpaa", sum := "cd07e6ef060156c27c28323164aa744b10f7031e7ed9df6f94d0eec2a147fd19", func := "loop.example/graphcode/laws.FnStepMachine", spec := "fnStepMachine", apart := false }
def FnStepMachineSaid : Prop := fnStepMachineRow.holds Try.pinned (OpenSpec.ofChange fnStepMachineSpec)

/-- ITS FALSE NEIGHBOUR: 'it returns false'. Refute it at one input. -/
def fnStepMachineWrong : ChangeSpec := { name := "fnStepMachine", fn := fun _ => fun
  | [d] => { results := [.lit (.bool false)], args := [d] }
  | _ => none }
def FnStepMachineWrongFalsely : Prop := fnStepMachineRow.holds Try.pinned (OpenSpec.ofChange fnStepMachineWrong)

/-- 'laws.FnIsWhole': WHATEVER THE INPUT: true; the input reads as it did. -/
def fnIsWholeSpec : ChangeSpec := { name := "fnIsWhole", fn := fun _ => fun
  | [d] => { results := [.lit (.bool true)], args := [d] }
  | _ => none }
def fnIsWholeRow : OpenClaim := { program := "ytfljejcoiapkpaa", sum := "cd07e6ef060156c27c28323164aa744b10f7031e7ed9df6f94d0eec2a147fd19", func := "loop.example/graphcode/laws.FnIsWhole", spec := "fnIsWhole", unfollowed := true, recurses := true, apart := false }
def FnIsWholeSaid : Prop := fnIsWholeRow.holds Try.pinned (OpenSpec.ofChange fnIsWholeSpec)

/-- ITS FALSE NEIGHBOUR: 'it returns false'. Refute it at one input. -/
def fnIsWholeWrong : ChangeSpec := { name := "fnIsWhole", fn := fun _ => fun
  | [d] => { results := [.lit (.bool false)], args := [d] }
  | _ => none }
def FnIsWholeWrongFalsely : Prop := fnIsWholeRow.holds Try.pinned (OpenSpec.ofChange fnIsWholeWrong)

/-- 'laws.FnFirstBad': WHATEVER THE INPUT: true; the input reads as it did. -/
def fnFirstBadSpec : ChangeSpec := { name := "fnFirstBad", fn := fun _ => fun
  | [d] => { results := [.lit (.bool true)], args := [d] }
  | _ => none }
def fnFirstBadRow : OpenClaim := { program := "ytfljejcoiapkpaa", sum := "cd07e6ef060156c27c28323164aa744b10f7031e7ed9df6f94d0eec2a147fd19", func := "loop.example/graphcode/laws.FnFirstBad", spec := "fnFirstBad", unfollowed := true, recurses := true, apart := false }
def FnFirstBadSaid : Prop := fnFirstBadRow.holds Try.pinned (OpenSpec.ofChange fnFirstBadSpec)

/-- ITS FALSE NEIGHBOUR: 'it returns false'. Refute it at one input. -/
def fnFirstBadWrong : ChangeSpec := { name := "fnFirstBad", fn := fun _ => fun
  | [d] => { results := [.lit (.bool false)], args := [d] }
  | _ => none }
def FnFirstBadWrongFalsely : Prop := fnFirstBadRow.holds Try.pinned (OpenSpec.ofChange fnFirstBadWrong)

/-- 'laws.FnStepMachineTakes': WHATEVER THE INPUT: true; the input reads as it did. -/
def fnStepMachineTakesSpec : ChangeSpec := { name := "fnStepMachineTakes", fn := fun _ => fun
  | [d] => { results := [.lit (.bool true)], args := [d] }
  | _ => none }
def fnStepMachineTakesRow : OpenClaim := { program := "ytfljejcoiapkpaa", sum := "cd07e6ef060156c27c28323164aa744b10f7031e7ed9df6f94d0eec2a147fd19", func := "loop.example/graphcode/laws.FnStepMachineTakes", spec := "fnStepMachineTakes", apart := false }
def FnStepMachineTakesSaid : Prop := fnStepMachineTakesRow.holds Try.pinned (OpenSpec.ofChange fnStepMachineTakesSpec)

/-- ITS FALSE NEIGHBOUR: 'it returns false'. Refute it at one input. -/
def fnStepMachineTakesWrong : ChangeSpec := { name := "fnStepMachineTakes", fn := fun _ => fun
  | [d] => { results := [.lit (.bool false)], args := [d] }
  | _ => none }
def FnStepMachineTakesWrongFalsely : Prop := fnStepMachineTakesRow.holds Try.pinned (OpenSpec.ofChange fnStepMachineTakesWrong)

/-- 'laws.FnShapesOf': WHATEVER THE INPUT: true; the input reads as it did. -/
def fnShapesOfSpec : ChangeSpec := { name := "fnShapesOf", fn := fun _ => fun
  | [d] => { results := [.lit (.bool true)], args := [d] }
  | _ => none }
def fnShapesOfRow : OpenClaim := { program := "ytfljejcoiapkpaa", sum := "cd07e6ef060156c27c28323164aa744b10f7031e7ed9df6f94d0eec2a147fd19", func := "loop.example/graphcode/laws.FnShapesOf", spec := "fnShapesOf", unfollowed := true, recurses := true, apart := false }
def FnShapesOfSaid : Prop := fnShapesOfRow.holds Try.pinned (OpenSpec.ofChange fnShapesOfSpec)

/-- ITS FALSE NEIGHBOUR: 'it returns false'. Refute it at one input. -/
def fnShapesOfWrong : ChangeSpec := { name := "fnShapesOf", fn := fun _ => fun
  | [d] => { results := [.lit (.bool false)], args := [d] }
  | _ => none }
def FnShapesOfWrongFalsely : Prop := fnShapesOfRow.holds Try.pinned (OpenSpec.ofChange fnShapesOfWrong)

/-- 'laws.FnCutOps': WHATEVER THE INPUT: true; the input reads as it did. -/
def fnCutOpsSpec : ChangeSpec := { name := "fnCutOps", fn := fun _ => fun
  | [d] => { results := [.lit (.bool true)], args := [d] }
  | _ => none }
def fnCutOpsRow : OpenClaim := { program := "ytfljejcoiapkpaa", sum := "cd07e6ef060156c27c28323164aa744b10f7031e7ed9df6f94d0eec2a147fd19", func := "loop.example/graphcode/laws.FnCutOps", spec := "fnCutOps", unfollowed := true, recurses := true, apart := false }
def FnCutOpsSaid : Prop := fnCutOpsRow.holds Try.pinned (OpenSpec.ofChange fnCutOpsSpec)

/-- ITS FALSE NEIGHBOUR: 'it returns false'. Refute it at one input. -/
def fnCutOpsWrong : ChangeSpec := { name := "fnCutOps", fn := fun _ => fun
  | [d] => { results := [.lit (.bool false)], args := [d] }
  | _ => none }
def FnCutOpsWrongFalsely : Prop := fnCutOpsRow.holds Try.pinned (OpenSpec.ofChange fnCutOpsWrong)

/-- 'laws.FnDepthsOf': WHATEVER THE INPUT: true; the input reads as it did. -/
def fnDepthsOfSpec : ChangeSpec := { name := "fnDepthsOf", fn := fun _ => fun
  | [d] => { results := [.lit (.bool true)], args := [d] }
  | _ => none }
def fnDepthsOfRow : OpenClaim := { program := "ytfljejcoiapkpaa", sum := "cd07e6ef060156c27c28323164aa744b10f7031e7ed9df6f94d0eec2a147fd19", func := "loop.example/graphcode/laws.FnDepthsOf", spec := "fnDepthsOf", unfollowed := true, recurses := true, apart := false }
def FnDepthsOfSaid : Prop := fnDepthsOfRow.holds Try.pinned (OpenSpec.ofChange fnDepthsOfSpec)

/-- ITS FALSE NEIGHBOUR: 'it returns false'. Refute it at one input. -/
def fnDepthsOfWrong : ChangeSpec := { name := "fnDepthsOf", fn := fun _ => fun
  | [d] => { results := [.lit (.bool false)], args := [d] }
  | _ => none }
def FnDepthsOfWrongFalsely : Prop := fnDepthsOfRow.holds Try.pinned (OpenSpec.ofChange fnDepthsOfWrong)

/-- 'laws.FnEndOps': WHATEVER THE INPUT: true; the input reads as it did. -/
def fnEndOpsSpec : ChangeSpec := { name := "fnEndOps", fn := fun _ => fun
  | [d] => { results := [.lit (.bool true)], args := [d] }
  | _ => none }
def fnEndOpsRow : OpenClaim := { program := "ytfljejcoiapkpaa", sum := "cd07e6ef060156c27c28323164aa744b10f7031e7ed9df6f94d0eec2a147fd19", func := "loop.example/graphcode/laws.FnEndOps", spec := "fnEndOps", unfollowed := true, recurses := true, apart := false }
def FnEndOpsSaid : Prop := fnEndOpsRow.holds Try.pinned (OpenSpec.ofChange fnEndOpsSpec)

/-- ITS FALSE NEIGHBOUR: 'it returns false'. Refute it at one input. -/
def fnEndOpsWrong : ChangeSpec := { name := "fnEndOps", fn := fun _ => fun
  | [d] => { results := [.lit (.bool false)], args := [d] }
  | _ => none }
def FnEndOpsWrongFalsely : Prop := fnEndOpsRow.holds Try.pinned (OpenSpec.ofChange fnEndOpsWrong)

/-- 'laws.FnMarksOf': WHATEVER THE INPUT: true; the input reads as it did. -/
def fnMarksOfSpec : ChangeSpec := { name := "fnMarksOf", fn := fun _ => fun
  | [d] => { results := [.lit (.bool true)], args := [d] }
  | _ => none }
def fnMarksOfRow : OpenClaim := { program := "ytfljejcoiapkpaa", sum := "cd07e6ef060156c27c28323164aa744b10f7031e7ed9df6f94d0eec2a147fd19", func := "loop.example/graphcode/laws.FnMarksOf", spec := "fnMarksOf", unfollowed := true, recurses := true, apart := false }
def FnMarksOfSaid : Prop := fnMarksOfRow.holds Try.pinned (OpenSpec.ofChange fnMarksOfSpec)

/-- ITS FALSE NEIGHBOUR: 'it returns false'. Refute it at one input. -/
def fnMarksOfWrong : ChangeSpec := { name := "fnMarksOf", fn := fun _ => fun
  | [d] => { results := [.lit (.bool false)], args := [d] }
  | _ => none }
def FnMarksOfWrongFalsely : Prop := fnMarksOfRow.holds Try.pinned (OpenSpec.ofChange fnMarksOfWrong)

/-- 'laws.FnBuildGraph': WHATEVER THE INPUT: true; the input reads as it did. -/
def fnBuildGraphSpec : ChangeSpec := { name := "fnBuildGraph", fn := fun _ => fun
  | [d] => { results := [.lit (.bool true)], args := [d] }
  | _ => none }
def fnBuildGraphRow : OpenClaim := { program := "ytfljejcoiapkpaa", sum := "cd07e6ef060156c27c28323164aa744b10f7031e7ed9df6f94d0eec2a147fd19", func := "loop.example/graphcode/laws.FnBuildGraph", spec := "fnBuildGraph", unfollowed := true, recurses := true, apart := false }
def FnBuildGraphSaid : Prop := fnBuildGraphRow.holds Try.pinned (OpenSpec.ofChange fnBuildGraphSpec)

/-- ITS FALSE NEIGHBOUR: 'it returns false'. Refute it at one input. -/
def fnBuildGraphWrong : ChangeSpec := { name := "fnBuildGraph", fn := fun _ => fun
  | [d] => { results := [.lit (.bool false)], args := [d] }
  | _ => none }
def FnBuildGraphWrongFalsely : Prop := fnBuildGraphRow.holds Try.pinned (OpenSpec.ofChange fnBuildGraphWrong)

/-- 'laws.FnRunOps': WHATEVER THE INPUT: true; the input reads as it did. -/
def fnRunOpsSpec : ChangeSpec := { name := "fnRunOps", fn := fun _ => fun
  | [d] => { results := [.lit (.bool true)], args := [d] }
  | _ => none }
def fnRunOpsRow : OpenClaim := { program := "ytfljejcoiapkpaa", sum := "cd07e6ef060156c27c28323164aa744b10f7031e7ed9df6f94d0eec2a147fd19", func := "loop.example/graphcode/laws.FnRunOps", spec := "fnRunOps", unfollowed := true, recurses := true, apart := false }
def FnRunOpsSaid : Prop := fnRunOpsRow.holds Try.pinned (OpenSpec.ofChange fnRunOpsSpec)

/-- ITS FALSE NEIGHBOUR: 'it returns false'. Refute it at one input. -/
def fnRunOpsWrong : ChangeSpec := { name := "fnRunOps", fn := fun _ => fun
  | [d] => { results := [.lit (.bool false)], args := [d] }
  | _ => none }
def FnRunOpsWrongFalsely : Prop := fnRunOpsRow.holds Try.pinned (OpenSpec.ofChange fnRunOpsWrong)

/-- 'laws.FnRunOpsCut': WHATEVER THE INPUT: true; the input reads as it did. -/
def fnRunOpsCutSpec : ChangeSpec := { name := "fnRunOpsCut", fn := fun _ => fun
  | [d] => { results := [.lit (.bool true)], args := [d] }
  | _ => none }
def fnRunOpsCutRow : OpenClaim := { program := "ytfljejcoiapkpaa", sum := "cd07e6ef060156c27c28323164aa744b10f7031e7ed9df6f94d0eec2a147fd19", func := "loop.example/graphcode/laws.FnRunOpsCut", spec := "fnRunOpsCut", unfollowed := true, recurses := true, apart := false }
def FnRunOpsCutSaid : Prop := fnRunOpsCutRow.holds Try.pinned (OpenSpec.ofChange fnRunOpsCutSpec)

/-- ITS FALSE NEIGHBOUR: 'it returns false'. Refute it at one input. -/
def fnRunOpsCutWrong : ChangeSpec := { name := "fnRunOpsCut", fn := fun _ => fun
  | [d] => { results := [.lit (.bool false)], args := [d] }
  | _ => none }
def FnRunOpsCutWrongFalsely : Prop := fnRunOpsCutRow.holds Try.pinned (OpenSpec.ofChange fnRunOpsCutWrong)

/- THE SECOND FORM. 'bulk': how many values and letters a reading holds, each counted each time it is reached (what is shared counts as often as it is met; a slice's spare places count too). A statement '..UptoSaid' is the law's where the arguments, and the package variables that the reading takes, are together of bulk at most 1048576: NARROWER than '..Said'. Prove '..Said' where nothing that the law and all that it calls make is longer than what came in: it says more and counts as full. Else prove '..UptoSaid'. A law counts once. -/
mutual
def uptoBulk {H : Type} : DataW H → Nat
  | .lit (.string bytes) => bytes.length + 1
  | .lit _ => 1
  | .nil => 1
  | .ptr d => uptoBulk d + 1
  | .slice elems spare => uptoBulkAll elems + uptoBulkAll spare + 1
  | .agg parts => uptoBulkAll parts + 1
  | .iface _ d => uptoBulk d + 1
  | .map entries => uptoBulkEntries entries + 1
  | .held _ => 1
def uptoBulkAll {H : Type} : List (DataW H) → Nat
  | [] => 0
  | d :: r => uptoBulk d + uptoBulkAll r
def uptoBulkEntries {H : Type} : List (Lit × DataW H) → Nat
  | [] => 0
  | x :: r => uptoBulkEntry x + uptoBulkEntries r
def uptoBulkEntry {H : Type} : Lit × DataW H → Nat
  | (.string bytes, d) => bytes.length + uptoBulk d + 1
  | (_, d) => uptoBulk d + 1
 end
def uptoSmall : (H : Type) → List (DataW H) → Bool := fun _ ds => decide (uptoBulkAll ds ≤ 1048576)
def OpenSpec.upto (s : _root_.Go.ChangeSpec) : _root_.Go.OpenSpec := { _root_.Go.OpenSpec.ofChange s with cond := some uptoSmall }

/-- 'laws.FnStepMachine', WHERE WHAT IT READS IS OF BULK AT MOST 1048576: true; the input reads as it did. -/
def fnStepMachineUptoRow : OpenClaim := { program := "ytfljejcoiapkpaa", sum := "cd07e6ef060156c27c28323164aa744b10f7031e7ed9df6f94d0eec2a147fd19", func := "loop.example/graphcode/laws.FnStepMachine", spec := "fnStepMachine", apart := false, narrowed := true }
def FnStepMachineUptoSaid : Prop := fnStepMachineUptoRow.holds Try.pinned (OpenSpec.upto fnStepMachineSpec)

/-- 'laws.FnIsWhole', WHERE WHAT IT READS IS OF BULK AT MOST 1048576: true; the input reads as it did. -/
def fnIsWholeUptoRow : OpenClaim := { program := "ytfljejcoiapkpaa", sum := "cd07e6ef060156c27c28323164aa744b10f7031e7ed9df6f94d0eec2a147fd19", func := "loop.example/graphcode/laws.FnIsWhole", spec := "fnIsWhole", unfollowed := true, recurses := true, apart := false, narrowed := true }
def FnIsWholeUptoSaid : Prop := fnIsWholeUptoRow.holds Try.pinned (OpenSpec.upto fnIsWholeSpec)

/-- 'laws.FnFirstBad', WHERE WHAT IT READS IS OF BULK AT MOST 1048576: true; the input reads as it did. -/
def fnFirstBadUptoRow : OpenClaim := { program := "ytfljejcoiapkpaa", sum := "cd07e6ef060156c27c28323164aa744b10f7031e7ed9df6f94d0eec2a147fd19", func := "loop.example/graphcode/laws.FnFirstBad", spec := "fnFirstBad", unfollowed := true, recurses := true, apart := false, narrowed := true }
def FnFirstBadUptoSaid : Prop := fnFirstBadUptoRow.holds Try.pinned (OpenSpec.upto fnFirstBadSpec)

/-- 'laws.FnStepMachineTakes', WHERE WHAT IT READS IS OF BULK AT MOST 1048576: true; the input reads as it did. -/
def fnStepMachineTakesUptoRow : OpenClaim := { program := "ytfljejcoiapkpaa", sum := "cd07e6ef060156c27c28323164aa744b10f7031e7ed9df6f94d0eec2a147fd19", func := "loop.example/graphcode/laws.FnStepMachineTakes", spec := "fnStepMachineTakes", apart := false, narrowed := true }
def FnStepMachineTakesUptoSaid : Prop := fnStepMachineTakesUptoRow.holds Try.pinned (OpenSpec.upto fnStepMachineTakesSpec)

/-- 'laws.FnShapesOf', WHERE WHAT IT READS IS OF BULK AT MOST 1048576: true; the input reads as it did. -/
def fnShapesOfUptoRow : OpenClaim := { program := "ytfljejcoiapkpaa", sum := "cd07e6ef060156c27c28323164aa744b10f7031e7ed9df6f94d0eec2a147fd19", func := "loop.example/graphcode/laws.FnShapesOf", spec := "fnShapesOf", unfollowed := true, recurses := true, apart := false, narrowed := true }
def FnShapesOfUptoSaid : Prop := fnShapesOfUptoRow.holds Try.pinned (OpenSpec.upto fnShapesOfSpec)

/-- 'laws.FnCutOps', WHERE WHAT IT READS IS OF BULK AT MOST 1048576: true; the input reads as it did. -/
def fnCutOpsUptoRow : OpenClaim := { program := "ytfljejcoiapkpaa", sum := "cd07e6ef060156c27c28323164aa744b10f7031e7ed9df6f94d0eec2a147fd19", func := "loop.example/graphcode/laws.FnCutOps", spec := "fnCutOps", unfollowed := true, recurses := true, apart := false, narrowed := true }
def FnCutOpsUptoSaid : Prop := fnCutOpsUptoRow.holds Try.pinned (OpenSpec.upto fnCutOpsSpec)

/-- 'laws.FnDepthsOf', WHERE WHAT IT READS IS OF BULK AT MOST 1048576: true; the input reads as it did. -/
def fnDepthsOfUptoRow : OpenClaim := { program := "ytfljejcoiapkpaa", sum := "cd07e6ef060156c27c28323164aa744b10f7031e7ed9df6f94d0eec2a147fd19", func := "loop.example/graphcode/laws.FnDepthsOf", spec := "fnDepthsOf", unfollowed := true, recurses := true, apart := false, narrowed := true }
def FnDepthsOfUptoSaid : Prop := fnDepthsOfUptoRow.holds Try.pinned (OpenSpec.upto fnDepthsOfSpec)

/-- 'laws.FnEndOps', WHERE WHAT IT READS IS OF BULK AT MOST 1048576: true; the input reads as it did. -/
def fnEndOpsUptoRow : OpenClaim := { program := "ytfljejcoiapkpaa", sum := "cd07e6ef060156c27c28323164aa744b10f7031e7ed9df6f94d0eec2a147fd19", func := "loop.example/graphcode/laws.FnEndOps", spec := "fnEndOps", unfollowed := true, recurses := true, apart := false, narrowed := true }
def FnEndOpsUptoSaid : Prop := fnEndOpsUptoRow.holds Try.pinned (OpenSpec.upto fnEndOpsSpec)

/-- 'laws.FnMarksOf', WHERE WHAT IT READS IS OF BULK AT MOST 1048576: true; the input reads as it did. -/
def fnMarksOfUptoRow : OpenClaim := { program := "ytfljejcoiapkpaa", sum := "cd07e6ef060156c27c28323164aa744b10f7031e7ed9df6f94d0eec2a147fd19", func := "loop.example/graphcode/laws.FnMarksOf", spec := "fnMarksOf", unfollowed := true, recurses := true, apart := false, narrowed := true }
def FnMarksOfUptoSaid : Prop := fnMarksOfUptoRow.holds Try.pinned (OpenSpec.upto fnMarksOfSpec)

/-- 'laws.FnBuildGraph', WHERE WHAT IT READS IS OF BULK AT MOST 1048576: true; the input reads as it did. -/
def fnBuildGraphUptoRow : OpenClaim := { program := "ytfljejcoiapkpaa", sum := "cd07e6ef060156c27c28323164aa744b10f7031e7ed9df6f94d0eec2a147fd19", func := "loop.example/graphcode/laws.FnBuildGraph", spec := "fnBuildGraph", unfollowed := true, recurses := true, apart := false, narrowed := true }
def FnBuildGraphUptoSaid : Prop := fnBuildGraphUptoRow.holds Try.pinned (OpenSpec.upto fnBuildGraphSpec)

/-- 'laws.FnRunOps', WHERE WHAT IT READS IS OF BULK AT MOST 1048576: true; the input reads as it did. -/
def fnRunOpsUptoRow : OpenClaim := { program := "ytfljejcoiapkpaa", sum := "cd07e6ef060156c27c28323164aa744b10f7031e7ed9df6f94d0eec2a147fd19", func := "loop.example/graphcode/laws.FnRunOps", spec := "fnRunOps", unfollowed := true, recurses := true, apart := false, narrowed := true }
def FnRunOpsUptoSaid : Prop := fnRunOpsUptoRow.holds Try.pinned (OpenSpec.upto fnRunOpsSpec)

/-- 'laws.FnRunOpsCut', WHERE WHAT IT READS IS OF BULK AT MOST 1048576: true; the input reads as it did. -/
def fnRunOpsCutUptoRow : OpenClaim := { program := "ytfljejcoiapkpaa", sum := "cd07e6ef060156c27c28323164aa744b10f7031e7ed9df6f94d0eec2a147fd19", func := "loop.example/graphcode/laws.FnRunOpsCut", spec := "fnRunOpsCut", unfollowed := true, recurses := true, apart := false, narrowed := true }
def FnRunOpsCutUptoSaid : Prop := fnRunOpsCutUptoRow.holds Try.pinned (OpenSpec.upto fnRunOpsCutSpec)

end Rows
end Go.Proofs.Ytfljejcoiapkpaa

/-
  No cell of these rows narrows 'for every input' (looked for: loops, veiled, ifaces, maps, wideKeys, modest, calm, conditions, laid).
  DERIVED. THE GIVEN ROWS OF THIS SEAT. 4 by the template 'for every input the law returns true; each argument reads behind the call as it read before'; 0 by the template 'total and deterministic' (their statements: YthdjflfiekaneaaTotals.lean).
  GIVEN WITH THE SEED: the statements are not yours to turn. If you find one false, say at which input.
  Laid BY PROGRAM, IN A SANDBOX (cutbox-rows.mjs): the forced cells as the released guide's own fill.sh prints them over the translation c48a7ada1c6a6aca… (all of the seat's roots in one cut). By AI agents, Wed Nov 11 2026. No macro, syntax, notation, axiom, sorry.
-/
import Derived.Test.YthdjflfiekaneaaChecked
import GoSem.Claim
import GoSem.ClaimJoined
import GoSem.ClaimMapViews
import Derived.JoinedTies
import Derived.KernelRfl
namespace Go.Proofs.Ythdjflfiekaneaa
/- THE CELL 'sum', in the pinned program and in every row, IS THE sha256 OF THE DUMP (.gsa) THAT YthdjflfiekaneaaProg.lean LOADS. Nothing in Lean hashes anything: it is a label: what it is worth is what the hold of that sum in a sandbox is worth. -/
noncomputable def Try.pinned : Pinned := { name := "ythdjflfiekaneaa", sum := "c48a7ada1c6a6aca980ab52a3ba3c0eb894390663c74711f38c4b19965bec1ac", checked := Try.checked }
namespace Rows
def none {H : Type} : Left H := { results := [], args := [] }

/-- 'laws.FnSharedOf': WHATEVER THE INPUT: true; the input reads as it did. -/
def fnSharedOfSpec : ChangeSpec := { name := "fnSharedOf", fn := fun _ => fun
  | [d] => { results := [.lit (.bool true)], args := [d] }
  | _ => none }
def fnSharedOfRow : OpenClaim := { program := "ythdjflfiekaneaa", sum := "c48a7ada1c6a6aca980ab52a3ba3c0eb894390663c74711f38c4b19965bec1ac", func := "loop.example/graphcode/laws.FnSharedOf", spec := "fnSharedOf", unfollowed := true, recurses := true, apart := false }
def FnSharedOfSaid : Prop := fnSharedOfRow.holds Try.pinned (OpenSpec.ofChange fnSharedOfSpec)

/-- ITS FALSE NEIGHBOUR: 'it returns false'. Refute it at one input. -/
def fnSharedOfWrong : ChangeSpec := { name := "fnSharedOf", fn := fun _ => fun
  | [d] => { results := [.lit (.bool false)], args := [d] }
  | _ => none }
def FnSharedOfWrongFalsely : Prop := fnSharedOfRow.holds Try.pinned (OpenSpec.ofChange fnSharedOfWrong)

/-- 'laws.FnExactUnshareGraph': WHATEVER THE INPUT: true; the input reads as it did. -/
def fnExactUnshareGraphSpec : ChangeSpec := { name := "fnExactUnshareGraph", fn := fun _ => fun
  | [d] => { results := [.lit (.bool true)], args := [d] }
  | _ => none }
def fnExactUnshareGraphRow : OpenClaim := { program := "ythdjflfiekaneaa", sum := "c48a7ada1c6a6aca980ab52a3ba3c0eb894390663c74711f38c4b19965bec1ac", func := "loop.example/graphcode/laws.FnExactUnshareGraph", spec := "fnExactUnshareGraph", unfollowed := true, recurses := true, apart := false }
def FnExactUnshareGraphSaid : Prop := fnExactUnshareGraphRow.holds Try.pinned (OpenSpec.ofChange fnExactUnshareGraphSpec)

/-- ITS FALSE NEIGHBOUR: 'it returns false'. Refute it at one input. -/
def fnExactUnshareGraphWrong : ChangeSpec := { name := "fnExactUnshareGraph", fn := fun _ => fun
  | [d] => { results := [.lit (.bool false)], args := [d] }
  | _ => none }
def FnExactUnshareGraphWrongFalsely : Prop := fnExactUnshareGraphRow.holds Try.pinned (OpenSpec.ofChange fnExactUnshareGraphWrong)

/-- 'laws.FnUnshareGraph': WHATEVER THE INPUT: true; the input reads as it did. -/
def fnUnshareGraphSpec : ChangeSpec := { name := "fnUnshareGraph", fn := fun _ => fun
  | [d] => { results := [.lit (.bool true)], args := [d] }
  | _ => none }
def fnUnshareGraphRow : OpenClaim := { program := "ythdjflfiekaneaa", sum := "c48a7ada1c6a6aca980ab52a3ba3c0eb894390663c74711f38c4b19965bec1ac", func := "loop.example/graphcode/laws.FnUnshareGraph", spec := "fnUnshareGraph", unfollowed := true, recurses := true, apart := false }
def FnUnshareGraphSaid : Prop := fnUnshareGraphRow.holds Try.pinned (OpenSpec.ofChange fnUnshareGraphSpec)

/-- ITS FALSE NEIGHBOUR: 'it returns false'. Refute it at one input. -/
def fnUnshareGraphWrong : ChangeSpec := { name := "fnUnshareGraph", fn := fun _ => fun
  | [d] => { results := [.lit (.bool false)], args := [d] }
  | _ => none }
def FnUnshareGraphWrongFalsely : Prop := fnUnshareGraphRow.holds Try.pinned (OpenSpec.ofChange fnUnshareGraphWrong)

/-- 'laws.FnEqualDeepSame': WHATEVER THE INPUT: true; the input reads as it did. -/
def fnEqualDeepSameSpec : ChangeSpec := { name := "fnEqualDeepSame", fn := fun _ => fun
  | [d] => { results := [.lit (.bool true)], args := [d] }
  | _ => none }
def fnEqualDeepSameRow : OpenClaim := { program := "ythdjflfiekaneaa", sum := "c48a7ada1c6a6aca980ab52a3ba3c0eb894390663c74711f38c4b19965bec1ac", func := "loop.example/graphcode/laws.FnEqualDeepSame", spec := "fnEqualDeepSame", unfollowed := true, recurses := true, apart := false }
def FnEqualDeepSameSaid : Prop := fnEqualDeepSameRow.holds Try.pinned (OpenSpec.ofChange fnEqualDeepSameSpec)

/-- ITS FALSE NEIGHBOUR: 'it returns false'. Refute it at one input. -/
def fnEqualDeepSameWrong : ChangeSpec := { name := "fnEqualDeepSame", fn := fun _ => fun
  | [d] => { results := [.lit (.bool false)], args := [d] }
  | _ => none }
def FnEqualDeepSameWrongFalsely : Prop := fnEqualDeepSameRow.holds Try.pinned (OpenSpec.ofChange fnEqualDeepSameWrong)

/- THE SECOND FORM. 'bulk': how many values and letters a reading holds, each counted each time it is reached (what is shared counts as often as it is met; a slice's spare places count too). A statement '..UptoSaid' is the law's where the arguments, and the package variables that the reading takes, are together of bulk at most 1048576: NARROWER than '..Said'. Prove '..Said' where nothing that the law and all that it calls make is longer than what came in: it says more and counts as full. Else prove '..UptoSaid'. A law counts once. -/
mutual
def uptoBulk {H : Type} : DataW H → Nat
  | .lit (.string bytes) => bytes.length + 1
  | .lit _ => 1
  | .nil => 1
  | .ptr d => uptoBulk d + 1
  | .slice elems spare => uptoBulkAll elems + uptoBulkAll spare + 1
  | .agg parts => uptoBulkAll parts + 1
  | .iface _ d => uptoBulk d + 1
  | .map entries => uptoBulkEntries entries + 1
  | .held _ => 1
def uptoBulkAll {H : Type} : List (DataW H) → Nat
  | [] => 0
  | d :: r => uptoBulk d + uptoBulkAll r
def uptoBulkEntries {H : Type} : List (Lit × DataW H) → Nat
  | [] => 0
  | x :: r => uptoBulkEntry x + uptoBulkEntries r
def uptoBulkEntry {H : Type} : Lit × DataW H → Nat
  | (.string bytes, d) => bytes.length + uptoBulk d + 1
  | (_, d) => uptoBulk d + 1
 end
def uptoSmall : (H : Type) → List (DataW H) → Bool := fun _ ds => decide (uptoBulkAll ds ≤ 1048576)
def OpenSpec.upto (s : _root_.Go.ChangeSpec) : _root_.Go.OpenSpec := { _root_.Go.OpenSpec.ofChange s with cond := some uptoSmall }

/-- 'laws.FnSharedOf', WHERE WHAT IT READS IS OF BULK AT MOST 1048576: true; the input reads as it did. -/
def fnSharedOfUptoRow : OpenClaim := { program := "ythdjflfiekaneaa", sum := "c48a7ada1c6a6aca980ab52a3ba3c0eb894390663c74711f38c4b19965bec1ac", func := "loop.example/graphcode/laws.FnSharedOf", spec := "fnSharedOf", unfollowed := true, recurses := true, apart := false, narrowed := true }
def FnSharedOfUptoSaid : Prop := fnSharedOfUptoRow.holds Try.pinned (OpenSpec.upto fnSharedOfSpec)

/-- 'laws.FnExactUnshareGraph', WHERE WHAT IT READS IS OF BULK AT MOST 1048576: true; the input reads as it did. -/
def fnExactUnshareGraphUptoRow : OpenClaim := { program := "ythdjflfiekaneaa", sum := "c48a7ada1c6a6aca980ab52a3ba3c0eb894390663c74711f38c4b19965bec1ac", func := "loop.example/graphcode/laws.FnExactUnshareGraph", spec := "fnExactUnshareGraph", unfollowed := true, recurses := true, apart := false, narrowed := true }
def FnExactUnshareGraphUptoSaid : Prop := fnExactUnshareGraphUptoRow.holds Try.pinned (OpenSpec.upto fnExactUnshareGraphSpec)

/-- 'laws.FnUnshareGraph', WHERE WHAT IT READS IS OF BULK AT MOST 1048576: true; the input reads as it did. -/
def fnUnshareGraphUptoRow : OpenClaim := { program := "ythdjflfiekaneaa", sum := "c48a7ada1c6a6aca980ab52a3ba3c0eb894390663c74711f38c4b19965bec1ac", func := "loop.example/graphcode/laws.FnUnshareGraph", spec := "fnUnshareGraph", unfollowed := true, recurses := true, apart := false, narrowed := true }
def FnUnshareGraphUptoSaid : Prop := fnUnshareGraphUptoRow.holds Try.pinned (OpenSpec.upto fnUnshareGraphSpec)

/-- 'laws.FnEqualDeepSame', WHERE WHAT IT READS IS OF BULK AT MOST 1048576: true; the input reads as it did. -/
def fnEqualDeepSameUptoRow : OpenClaim := { program := "ythdjflfiekaneaa", sum := "c48a7ada1c6a6aca980ab52a3ba3c0eb894390663c74711f38c4b19965bec1ac", func := "loop.example/graphcode/laws.FnEqualDeepSame", spec := "fnEqualDeepSame", unfollowed := true, recurses := true, apart := false, narrowed := true }
def FnEqualDeepSameUptoSaid : Prop := fnEqualDeepSameUptoRow.holds Try.pinned (OpenSpec.upto fnEqualDeepSameSpec)

end Rows
end Go.Proofs.Ythdjflfiekaneaa

/-
  No cell of these rows narrows 'for every input' (looked for: loops, veiled, ifaces, maps, wideKeys, modest, calm, conditions, laid).
  DERIVED. THE GIVEN ROWS OF THIS SEAT. 6 by the template 'for every input the law returns true; each argument reads behind the call as it read before'; 0 by the template 'total and deterministic' (their statements: YtbfaapoaimoimaaTotals.lean).
  GIVEN WITH THE SEED: the statements are not yours to turn. If you find one false, say at which input.
  Laid BY PROGRAM, IN A SANDBOX (cutbox-rows.mjs): the forced cells as the released guide's own fill.sh prints them over the translation 7080f63a926a6b08… (all of the seat's roots in one cut). By AI agents, Wed Nov 11 2026. No macro, syntax, notation, axiom, sorry.
-/
import Derived.Test.YtbfaapoaimoimaaChecked
import GoSem.Claim
import GoSem.ClaimJoined
import GoSem.ClaimMapViews
import Derived.JoinedTies
import Derived.KernelRfl
namespace Go.Proofs.Ytbfaapoaimoimaa
/- THE CELL 'sum', in the pinned program and in every row, IS THE sha256 OF THE DUMP (.gsa) THAT YtbfaapoaimoimaaProg.lean LOADS. Nothing in Lean hashes anything: it is a label: what it is worth is what the hold of that sum in a sandbox is worth. -/
noncomputable def Try.pinned : Pinned := { name := "ytbfaapoaimoimaa", sum := "7080f63a926a6b088193792af373a3b41face66e9aaa218806ae64097fc8f8f4", checked := Try.checked }
namespace Rows
def none {H : Type} : Left H := { results := [], args := [] }

/-- 'laws.FnIdlePuts': WHATEVER THE INPUT: true; the input reads as it did. -/
def fnIdlePutsSpec : ChangeSpec := { name := "fnIdlePuts", fn := fun _ => fun
  | [d] => { results := [.lit (.bool true)], args := [d] }
  | _ => none }
def fnIdlePutsRow : OpenClaim := { program := "ytbfaapoaimoimaa", sum := "7080f63a926a6b088193792af373a3b41face66e9aaa218806ae64097fc8f8f4", func := "loop.example/graphcode/laws.FnIdlePuts", spec := "fnIdlePuts", unfollowed := true, recurses := true, apart := false }
def FnIdlePutsSaid : Prop := fnIdlePutsRow.holds Try.pinned (OpenSpec.ofChange fnIdlePutsSpec)

/-- ITS FALSE NEIGHBOUR: 'it returns false'. Refute it at one input. -/
def fnIdlePutsWrong : ChangeSpec := { name := "fnIdlePuts", fn := fun _ => fun
  | [d] => { results := [.lit (.bool false)], args := [d] }
  | _ => none }
def FnIdlePutsWrongFalsely : Prop := fnIdlePutsRow.holds Try.pinned (OpenSpec.ofChange fnIdlePutsWrong)

/-- 'laws.FnLeanOps': WHATEVER THE INPUT: true; the input reads as it did. -/
def fnLeanOpsSpec : ChangeSpec := { name := "fnLeanOps", fn := fun _ => fun
  | [d] => { results := [.lit (.bool true)], args := [d] }
  | _ => none }
def fnLeanOpsRow : OpenClaim := { program := "ytbfaapoaimoimaa", sum := "7080f63a926a6b088193792af373a3b41face66e9aaa218806ae64097fc8f8f4", func := "loop.example/graphcode/laws.FnLeanOps", spec := "fnLeanOps", unfollowed := true, recurses := true, apart := false }
def FnLeanOpsSaid : Prop := fnLeanOpsRow.holds Try.pinned (OpenSpec.ofChange fnLeanOpsSpec)

/-- ITS FALSE NEIGHBOUR: 'it returns false'. Refute it at one input. -/
def fnLeanOpsWrong : ChangeSpec := { name := "fnLeanOps", fn := fun _ => fun
  | [d] => { results := [.lit (.bool false)], args := [d] }
  | _ => none }
def FnLeanOpsWrongFalsely : Prop := fnLeanOpsRow.holds Try.pinned (OpenSpec.ofChange fnLeanOpsWrong)

/-- 'laws.FnBuiltCode': WHATEVER THE INPUT: true; the input reads as it did. -/
def fnBuiltCodeSpec : ChangeSpec := { name := "fnBuiltCode", fn := fun _ => fun
  | [d] => { results := [.lit (.bool true)], args := [d] }
  | _ => none }
def fnBuiltCodeRow : OpenClaim := { program := "ytbfaapoaimoimaa", sum := "7080f63a926a6b088193792af373a3b41face66e9aaa218806ae64097fc8f8f4", func := "loop.example/graphcode/laws.FnBuiltCode", spec := "fnBuiltCode", unfollowed := true, recurses := true, apart := false }
def FnBuiltCodeSaid : Prop := fnBuiltCodeRow.holds Try.pinned (OpenSpec.ofChange fnBuiltCodeSpec)

/-- ITS FALSE NEIGHBOUR: 'it returns false'. Refute it at one input. -/
def fnBuiltCodeWrong : ChangeSpec := { name := "fnBuiltCode", fn := fun _ => fun
  | [d] => { results := [.lit (.bool false)], args := [d] }
  | _ => none }
def FnBuiltCodeWrongFalsely : Prop := fnBuiltCodeRow.holds Try.pinned (OpenSpec.ofChange fnBuiltCodeWrong)

/-- 'laws.FnReadMany': WHATEVER THE INPUT: true; the input reads as it did. -/
def fnReadManySpec : ChangeSpec := { name := "fnReadMany", fn := fun _ => fun
  | [d] => { results := [.lit (.bool true)], args := [d] }
  | _ => none }
def fnReadManyRow : OpenClaim := { program := "ytbfaapoaimoimaa", sum := "7080f63a926a6b088193792af373a3b41face66e9aaa218806ae64097fc8f8f4", func := "loop.example/graphcode/laws.FnReadMany", spec := "fnReadMany", unfollowed := true, recurses := true, apart := false }
def FnReadManySaid : Prop := fnReadManyRow.holds Try.pinned (OpenSpec.ofChange fnReadManySpec)

/-- ITS FALSE NEIGHBOUR: 'it returns false'. Refute it at one input. -/
def fnReadManyWrong : ChangeSpec := { name := "fnReadMany", fn := fun _ => fun
  | [d] => { results := [.lit (.bool false)], args := [d] }
  | _ => none }
def FnReadManyWrongFalsely : Prop := fnReadManyRow.holds Try.pinned (OpenSpec.ofChange fnReadManyWrong)

/-- 'laws.FnReadManyTorn': WHATEVER THE INPUT: true; the input reads as it did. -/
def fnReadManyTornSpec : ChangeSpec := { name := "fnReadManyTorn", fn := fun _ => fun
  | [d] => { results := [.lit (.bool true)], args := [d] }
  | _ => none }
def fnReadManyTornRow : OpenClaim := { program := "ytbfaapoaimoimaa", sum := "7080f63a926a6b088193792af373a3b41face66e9aaa218806ae64097fc8f8f4", func := "loop.example/graphcode/laws.FnReadManyTorn", spec := "fnReadManyTorn", recurses := true, apart := false }
def FnReadManyTornSaid : Prop := fnReadManyTornRow.holds Try.pinned (OpenSpec.ofChange fnReadManyTornSpec)

/-- ITS FALSE NEIGHBOUR: 'it returns false'. Refute it at one input. -/
def fnReadManyTornWrong : ChangeSpec := { name := "fnReadManyTorn", fn := fun _ => fun
  | [d] => { results := [.lit (.bool false)], args := [d] }
  | _ => none }
def FnReadManyTornWrongFalsely : Prop := fnReadManyTornRow.holds Try.pinned (OpenSpec.ofChange fnReadManyTornWrong)

/-- 'laws.FnReadCode': WHATEVER THE INPUT: true; the input reads as it did. -/
def fnReadCodeSpec : ChangeSpec := { name := "fnReadCode", fn := fun _ => fun
  | [d] => { results := [.lit (.bool true)], args := [d] }
  | _ => none }
def fnReadCodeRow : OpenClaim := { program := "ytbfaapoaimoimaa", sum := "7080f63a926a6b088193792af373a3b41face66e9aaa218806ae64097fc8f8f4", func := "loop.example/graphcode/laws.FnReadCode", spec := "fnReadCode", unfollowed := true, recurses := true, apart := false }
def FnReadCodeSaid : Prop := fnReadCodeRow.holds Try.pinned (OpenSpec.ofChange fnReadCodeSpec)

/-- ITS FALSE NEIGHBOUR: 'it returns false'. Refute it at one input. -/
def fnReadCodeWrong : ChangeSpec := { name := "fnReadCode", fn := fun _ => fun
  | [d] => { results := [.lit (.bool false)], args := [d] }
  | _ => none }
def FnReadCodeWrongFalsely : Prop := fnReadCodeRow.holds Try.pinned (OpenSpec.ofChange fnReadCodeWrong)

/- THE SECOND FORM. 'bulk': how many values and letters a reading holds, each counted each time it is reached (what is shared counts as often as it is met; a slice's spare places count too). A statement '..UptoSaid' is the law's where the arguments, and the package variables that the reading takes, are together of bulk at most 1048576: NARROWER than '..Said'. Prove '..Said' where nothing that the law and all that it calls make is longer than what came in: it says more and counts as full. Else prove '..UptoSaid'. A law counts once. -/
mutual
def uptoBulk {H : Type} : DataW H → Nat
  | .lit (.string bytes) => bytes.length + 1
  | .lit _ => 1
  | .nil => 1
  | .ptr d => uptoBulk d + 1
  | .slice elems spare => uptoBulkAll elems + uptoBulkAll spare + 1
  | .agg parts => uptoBulkAll parts + 1
  | .iface _ d => uptoBulk d + 1
  | .map entries => uptoBulkEntries entries + 1
  | .held _ => 1
def uptoBulkAll {H : Type} : List (DataW H) → Nat
  | [] => 0
  | d :: r => uptoBulk d + uptoBulkAll r
def uptoBulkEntries {H : Type} : List (Lit × DataW H) → Nat
  | [] => 0
  | x :: r => uptoBulkEntry x + uptoBulkEntries r
def uptoBulkEntry {H : Type} : Lit × DataW H → Nat
  | (.string bytes, d) => bytes.length + uptoBulk d + 1
  | (_, d) => uptoBulk d + 1
 end
def uptoSmall : (H : Type) → List (DataW H) → Bool := fun _ ds => decide (uptoBulkAll ds ≤ 1048576)
def OpenSpec.upto (s : _root_.Go.ChangeSpec) : _root_.Go.OpenSpec := { _root_.Go.OpenSpec.ofChange s with cond := some uptoSmall }

/-- 'laws.FnIdlePuts', WHERE WHAT IT READS IS OF BULK AT MOST 1048576: true; the input reads as it did. -/
def fnIdlePutsUptoRow : OpenClaim := { program := "ytbfaapoaimoimaa", sum := "7080f63a926a6b088193792af373a3b41face66e9aaa218806ae64097fc8f8f4", func := "loop.example/graphcode/laws.FnIdlePuts", spec := "fnIdlePuts", unfollowed := true, recurses := true, apart := false, narrowed := true }
def FnIdlePutsUptoSaid : Prop := fnIdlePutsUptoRow.holds Try.pinned (OpenSpec.upto fnIdlePutsSpec)

/-- 'laws.FnLeanOps', WHERE WHAT IT READS IS OF BULK AT MOST 1048576: true; the input reads as it did. -/
def fnLeanOpsUptoRow : OpenClaim := { program := "ytbfaapoaimoimaa", sum := "7080f63a926a6b088193792af373a3b41face66e9aaa218806ae64097fc8f8f4", func := "loop.example/graphcode/laws.FnLeanOps", spec := "fnLeanOps", unfollowed := true, recurses := true, apart := false, narrowed := true }
def FnLeanOpsUptoSaid : Prop := fnLeanOpsUptoRow.holds Try.pinned (OpenSpec.upto fnLeanOpsSpec)

/-- 'laws.FnBuiltCode', WHERE WHAT IT READS IS OF BULK AT MOST 1048576: true; the input reads as it did. -/
def fnBuiltCodeUptoRow : OpenClaim := { program := "ytbfaapoaimoimaa", sum := "7080f63a926a6b088193792af373a3b41face66e9aaa218806ae64097fc8f8f4", func := "loop.example/graphcode/laws.FnBuiltCode", spec := "fnBuiltCode", unfollowed := true, recurses := true, apart := false, narrowed := true }
def FnBuiltCodeUptoSaid : Prop := fnBuiltCodeUptoRow.holds Try.pinned (OpenSpec.upto fnBuiltCodeSpec)

/-- 'laws.FnReadMany', WHERE WHAT IT READS IS OF BULK AT MOST 1048576: true; the input reads as it did. -/
def fnReadManyUptoRow : OpenClaim := { program := "ytbfaapoaimoimaa", sum := "7080f63a926a6b088193792af373a3b41face66e9aaa218806ae64097fc8f8f4", func := "loop.example/graphcode/laws.FnReadMany", spec := "fnReadMany", unfollowed := true, recurses := true, apart := false, narrowed := true }
def FnReadManyUptoSaid : Prop := fnReadManyUptoRow.holds Try.pinned (OpenSpec.upto fnReadManySpec)

/-- 'laws.FnReadManyTorn', WHERE WHAT IT READS IS OF BULK AT MOST 1048576: true; the input reads as it did. -/
def fnReadManyTornUptoRow : OpenClaim := { program := "ytbfaapoaimoimaa", sum := "7080f63a926a6b088193792af373a3b41face66e9aaa218806ae64097fc8f8f4", func := "loop.example/graphcode/laws.FnReadManyTorn", spec := "fnReadManyTorn", recurses := true, apart := false, narrowed := true }
def FnReadManyTornUptoSaid : Prop := fnReadManyTornUptoRow.holds Try.pinned (OpenSpec.upto fnReadManyTornSpec)

/-- 'laws.FnReadCode', WHERE WHAT IT READS IS OF BULK AT MOST 1048576: true; the input reads as it did. -/
def fnReadCodeUptoRow : OpenClaim := { program := "ytbfaapoaimoimaa", sum := "7080f63a926a6b088193792af373a3b41face66e9aaa218806ae64097fc8f8f4", func := "loop.example/graphcode/laws.FnReadCode", spec := "fnReadCode", unfollowed := true, recurses := true, apart := false, narrowed := true }
def FnReadCodeUptoSaid : Prop := fnReadCodeUptoRow.holds Try.pinned (OpenSpec.upto fnReadCodeSpec)

end Rows
end Go.Proofs.Ytbfaapoaimoimaa

/-
  No cell of these rows narrows 'for every input' (looked for: loops, veiled, ifaces, maps, wideKeys, modest, calm, conditions, laid).
  DERIVED. THE GIVEN ROWS OF THIS SEAT. 6 by the template 'for every input the law returns true; each argument reads behind the call as it read before'; 0 by the template 'total and deterministic' (their statements: YtahpblckgakjjaaTotals.lean).
  GIVEN WITH THE SEED: the statements are not yours to turn. If you find one false, say at which input.
  Laid BY PROGRAM, IN A SANDBOX (cutbox-rows.mjs): the forced cells as the released guide's own fill.sh prints them over the translation 11b9a101c0fc698b… (all of the seat's roots in one cut). By AI agents, Wed Nov 11 2026. No macro, syntax, notation, axiom, sorry.
-/
import Derived.Test.YtahpblckgakjjaaChecked
import GoSem.Claim
import GoSem.ClaimJoined
import GoSem.ClaimMapViews
import Derived.JoinedTies
import Derived.KernelRfl
namespace Go.Proofs.Ytahpblckgakjjaa
/- THE CELL 'sum', in the pinned program and in every row, IS THE sha256 OF THE DUMP (.gsa) THAT YtahpblckgakjjaaProg.lean LOADS. Nothing in Lean hashes anything: it is a label: what it is worth is what the hold of that sum in a sandbox is worth. -/
noncomputable def Try.pinned : Pinned := { name := "ytahpblckgakjjaa", sum := "11b9a101c0fc698b02ea63544527470bbada4b08c8d1ac25fa8964d525510a54", checked := Try.checked }
namespace Rows
def none {H : Type} : Left H := { results := [], args := [] }

/-- 'laws.FnSafeRun': WHATEVER THE INPUT: true; the input reads as it did. -/
def fnSafeRunSpec : ChangeSpec := { name := "fnSafeRun", fn := fun _ => fun
  | [d] => { results := [.lit (.bool true)], args := [d] }
  | _ => none }
def fnSafeRunRow : OpenClaim := { program := "ytahpblckgakjjaa", sum := "11b9a101c0fc698b02ea63544527470bbada4b08c8d1ac25fa8964d525510a54", func := "loop.example/graphcode/laws.FnSafeRun", spec := "fnSafeRun", unfollowed := true, recurses := true, apart := false }
def FnSafeRunSaid : Prop := fnSafeRunRow.holds Try.pinned (OpenSpec.ofChange fnSafeRunSpec)

/-- ITS FALSE NEIGHBOUR: 'it returns false'. Refute it at one input. -/
def fnSafeRunWrong : ChangeSpec := { name := "fnSafeRun", fn := fun _ => fun
  | [d] => { results := [.lit (.bool false)], args := [d] }
  | _ => none }
def FnSafeRunWrongFalsely : Prop := fnSafeRunRow.holds Try.pinned (OpenSpec.ofChange fnSafeRunWrong)

/-- 'laws.FnSafeRunWider': WHATEVER THE INPUT: true; the input reads as it did. -/
def fnSafeRunWiderSpec : ChangeSpec := { name := "fnSafeRunWider", fn := fun _ => fun
  | [d] => { results := [.lit (.bool true)], args := [d] }
  | _ => none }
def fnSafeRunWiderRow : OpenClaim := { program := "ytahpblckgakjjaa", sum := "11b9a101c0fc698b02ea63544527470bbada4b08c8d1ac25fa8964d525510a54", func := "loop.example/graphcode/laws.FnSafeRunWider", spec := "fnSafeRunWider", unfollowed := true, recurses := true, apart := false }
def FnSafeRunWiderSaid : Prop := fnSafeRunWiderRow.holds Try.pinned (OpenSpec.ofChange fnSafeRunWiderSpec)

/-- ITS FALSE NEIGHBOUR: 'it returns false'. Refute it at one input. -/
def fnSafeRunWiderWrong : ChangeSpec := { name := "fnSafeRunWider", fn := fun _ => fun
  | [d] => { results := [.lit (.bool false)], args := [d] }
  | _ => none }
def FnSafeRunWiderWrongFalsely : Prop := fnSafeRunWiderRow.holds Try.pinned (OpenSpec.ofChange fnSafeRunWiderWrong)

/-- 'laws.FnLeastRules': WHATEVER THE INPUT: true; the input reads as it did. -/
def fnLeastRulesSpec : ChangeSpec := { name := "fnLeastRules", fn := fun _ => fun
  | [d] => { results := [.lit (.bool true)], args := [d] }
  | _ => none }
def fnLeastRulesRow : OpenClaim := { program := "ytahpblckgakjjaa", sum := "11b9a101c0fc698b02ea63544527470bbada4b08c8d1ac25fa8964d525510a54", func := "loop.example/graphcode/laws.FnLeastRules", spec := "fnLeastRules", unfollowed := true, recurses := true, apart := false }
def FnLeastRulesSaid : Prop := fnLeastRulesRow.holds Try.pinned (OpenSpec.ofChange fnLeastRulesSpec)

/-- ITS FALSE NEIGHBOUR: 'it returns false'. Refute it at one input. -/
def fnLeastRulesWrong : ChangeSpec := { name := "fnLeastRules", fn := fun _ => fun
  | [d] => { results := [.lit (.bool false)], args := [d] }
  | _ => none }
def FnLeastRulesWrongFalsely : Prop := fnLeastRulesRow.holds Try.pinned (OpenSpec.ofChange fnLeastRulesWrong)

/-- 'laws.FnExactLeastRules': WHATEVER THE INPUT: true; the input reads as it did. -/
def fnExactLeastRulesSpec : ChangeSpec := { name := "fnExactLeastRules", fn := fun _ => fun
  | [d] => { results := [.lit (.bool true)], args := [d] }
  | _ => none }
def fnExactLeastRulesRow : OpenClaim := { program := "ytahpblckgakjjaa", sum := "11b9a101c0fc698b02ea63544527470bbada4b08c8d1ac25fa8964d525510a54", func := "loop.example/graphcode/laws.FnExactLeastRules", spec := "fnExactLeastRules", unfollowed := true, recurses := true, apart := false }
def FnExactLeastRulesSaid : Prop := fnExactLeastRulesRow.holds Try.pinned (OpenSpec.ofChange fnExactLeastRulesSpec)

/-- ITS FALSE NEIGHBOUR: 'it returns false'. Refute it at one input. -/
def fnExactLeastRulesWrong : ChangeSpec := { name := "fnExactLeastRules", fn := fun _ => fun
  | [d] => { results := [.lit (.bool false)], args := [d] }
  | _ => none }
def FnExactLeastRulesWrongFalsely : Prop := fnExactLeastRulesRow.holds Try.pinned (OpenSpec.ofChange fnExactLeastRulesWrong)

/-- 'laws.FnClassesIn': WHATEVER THE INPUT: true; the input reads as it did. -/
def fnClassesInSpec : ChangeSpec := { name := "fnClassesIn", fn := fun _ => fun
  | [d] => { results := [.lit (.bool true)], args := [d] }
  | _ => none }
def fnClassesInRow : OpenClaim := { program := "ytahpblckgakjjaa", sum := "11b9a101c0fc698b02ea63544527470bbada4b08c8d1ac25fa8964d525510a54", func := "loop.example/graphcode/laws.FnClassesIn", spec := "fnClassesIn", unfollowed := true, recurses := true, apart := false }
def FnClassesInSaid : Prop := fnClassesInRow.holds Try.pinned (OpenSpec.ofChange fnClassesInSpec)

/-- ITS FALSE NEIGHBOUR: 'it returns false'. Refute it at one input. -/
def fnClassesInWrong : ChangeSpec := { name := "fnClassesIn", fn := fun _ => fun
  | [d] => { results := [.lit (.bool false)], args := [d] }
  | _ => none }
def FnClassesInWrongFalsely : Prop := fnClassesInRow.holds Try.pinned (OpenSpec.ofChange fnClassesInWrong)

/-- 'laws.FnForbidClass': WHATEVER THE INPUT: true; the input reads as it did. -/
def fnForbidClassSpec : ChangeSpec := { name := "fnForbidClass", fn := fun _ => fun
  | [d] => { results := [.lit (.bool true)], args := [d] }
  | _ => none }
def fnForbidClassRow : OpenClaim := { program := "ytahpblckgakjjaa", sum := "11b9a101c0fc698b02ea63544527470bbada4b08c8d1ac25fa8964d525510a54", func := "loop.example/graphcode/laws.FnForbidClass", spec := "fnForbidClass", unfollowed := true, recurses := true, apart := false }
def FnForbidClassSaid : Prop := fnForbidClassRow.holds Try.pinned (OpenSpec.ofChange fnForbidClassSpec)

/-- ITS FALSE NEIGHBOUR: 'it returns false'. Refute it at one input. -/
def fnForbidClassWrong : ChangeSpec := { name := "fnForbidClass", fn := fun _ => fun
  | [d] => { results := [.lit (.bool false)], args := [d] }
  | _ => none }
def FnForbidClassWrongFalsely : Prop := fnForbidClassRow.holds Try.pinned (OpenSpec.ofChange fnForbidClassWrong)

/- THE SECOND FORM. 'bulk': how many values and letters a reading holds, each counted each time it is reached (what is shared counts as often as it is met; a slice's spare places count too). A statement '..UptoSaid' is the law's where the arguments, and the package variables that the reading takes, are together of bulk at most 1048576: NARROWER than '..Said'. Prove '..Said' where nothing that the law and all that it calls make is longer than what came in: it says more and counts as full. Else prove '..UptoSaid'. A law counts once. -/
mutual
def uptoBulk {H : Type} : DataW H → Nat
  | .lit (.string bytes) => bytes.length + 1
  | .lit _ => 1
  | .nil => 1
  | .ptr d => uptoBulk d + 1
  | .slice elems spare => uptoBulkAll elems + uptoBulkAll spare + 1
  | .agg parts => uptoBulkAll parts + 1
  | .iface _ d => uptoBulk d + 1
  | .map entries => uptoBulkEntries entries + 1
  | .held _ => 1
def uptoBulkAll {H : Type} : List (DataW H) → Nat
  | [] => 0
  | d :: r => uptoBulk d + uptoBulkAll r
def uptoBulkEntries {H : Type} : List (Lit × DataW H) → Nat
  | [] => 0
  | x :: r => uptoBulkEntry x + uptoBulkEntries r
def uptoBulkEntry {H : Type} : Lit × DataW H → Nat
  | (.string bytes, d) => bytes.length + uptoBulk d + 1
  | (_, d) => uptoBulk d + 1
 end
def uptoSmall : (H : Type) → List (DataW H) → Bool := fun _ ds => decide (uptoBulkAll ds ≤ 1048576)
def OpenSpec.upto (s : _root_.Go.ChangeSpec) : _root_.Go.OpenSpec := { _root_.Go.OpenSpec.ofChange s with cond := some uptoSmall }

/-- 'laws.FnSafeRun', WHERE WHAT IT READS IS OF BULK AT MOST 1048576: true; the input reads as it did. -/
def fnSafeRunUptoRow : OpenClaim := { program := "ytahpblckgakjjaa", sum := "11b9a101c0fc698b02ea63544527470bbada4b08c8d1ac25fa8964d525510a54", func := "loop.example/graphcode/laws.FnSafeRun", spec := "fnSafeRun", unfollowed := true, recurses := true, apart := false, narrowed := true }
def FnSafeRunUptoSaid : Prop := fnSafeRunUptoRow.holds Try.pinned (OpenSpec.upto fnSafeRunSpec)

/-- 'laws.FnSafeRunWider', WHERE WHAT IT READS IS OF BULK AT MOST 1048576: true; the input reads as it did. -/
def fnSafeRunWiderUptoRow : OpenClaim := { program := "ytahpblckgakjjaa", sum := "11b9a101c0fc698b02ea63544527470bbada4b08c8d1ac25fa8964d525510a54", func := "loop.example/graphcode/laws.FnSafeRunWider", spec := "fnSafeRunWider", unfollowed := true, recurses := true, apart := false, narrowed := true }
def FnSafeRunWiderUptoSaid : Prop := fnSafeRunWiderUptoRow.holds Try.pinned (OpenSpec.upto fnSafeRunWiderSpec)

/-- 'laws.FnLeastRules', WHERE WHAT IT READS IS OF BULK AT MOST 1048576: true; the input reads as it did. -/
def fnLeastRulesUptoRow : OpenClaim := { program := "ytahpblckgakjjaa", sum := "11b9a101c0fc698b02ea63544527470bbada4b08c8d1ac25fa8964d525510a54", func := "loop.example/graphcode/laws.FnLeastRules", spec := "fnLeastRules", unfollowed := true, recurses := true, apart := false, narrowed := true }
def FnLeastRulesUptoSaid : Prop := fnLeastRulesUptoRow.holds Try.pinned (OpenSpec.upto fnLeastRulesSpec)

/-- 'laws.FnExactLeastRules', WHERE WHAT IT READS IS OF BULK AT MOST 1048576: true; the input reads as it did. -/
def fnExactLeastRulesUptoRow : OpenClaim := { program := "ytahpblckgakjjaa", sum := "11b9a101c0fc698b02ea63544527470bbada4b08c8d1ac25fa8964d525510a54", func := "loop.example/graphcode/laws.FnExactLeastRules", spec := "fnExactLeastRules", unfollowed := true, recurses := true, apart := false, narrowed := true }
def FnExactLeastRulesUptoSaid : Prop := fnExactLeastRulesUptoRow.holds Try.pinned (OpenSpec.upto fnExactLeastRulesSpec)

/-- 'laws.FnClassesIn', WHERE WHAT IT READS IS OF BULK AT MOST 1048576: true; the input reads as it did. -/
def fnClassesInUptoRow : OpenClaim := { program := "ytahpblckgakjjaa", sum := "11b9a101c0fc698b02ea63544527470bbada4b08c8d1ac25fa8964d525510a54", func := "loop.example/graphcode/laws.FnClassesIn", spec := "fnClassesIn", unfollowed := true, recurses := true, apart := false, narrowed := true }
def FnClassesInUptoSaid : Prop := fnClassesInUptoRow.holds Try.pinned (OpenSpec.upto fnClassesInSpec)

/-- 'laws.FnForbidClass', WHERE WHAT IT READS IS OF BULK AT MOST 1048576: true; the input reads as it did. -/
def fnForbidClassUptoRow : OpenClaim := { program := "ytahpblckgakjjaa", sum := "11b9a101c0fc698b02ea63544527470bbada4b08c8d1ac25fa8964d525510a54", func := "loop.example/graphcode/laws.FnForbidClass", spec := "fnForbidClass", unfollowed := true, recurses := true, apart := false, narrowed := true }
def FnForbidClassUptoSaid : Prop := fnForbidClassUptoRow.holds Try.pinned (OpenSpec.upto fnForbidClassSpec)

end Rows
end Go.Proofs.Ytahpblckgakjjaa

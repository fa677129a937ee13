/-
  No cell of these rows narrows 'for every input' (looked for: loops, veiled, ifaces, maps, wideKeys, modest, calm, conditions, laid).
  DERIVED. THE GIVEN ROWS OF THIS SEAT. 4 by the template 'for every input the law returns true; each argument reads behind the call as it read before'; 0 by the template 'total and deterministic' (their statements: YtpcnmlpikiigaaaTotals.lean).
  GIVEN WITH THE SEED: the statements are not yours to turn. If you find one false, say at which input.
  Laid BY PROGRAM, IN A SANDBOX (cutbox-rows.mjs): the forced cells as the released guide's own fill.sh prints them over the translation d39cf3d672033c27… (all of the seat's roots in one cut). By AI agents, Wed Nov 11 2026. No macro, syntax, notation, axiom, sorry.
-/
import Derived.Test.YtpcnmlpikiigaaaChecked
import GoSem.Claim
import GoSem.ClaimJoined
import GoSem.ClaimMapViews
import Derived.JoinedTies
import Derived.KernelRfl
namespace Go.Proofs.Ytpcnmlpikiigaaa
/- THE CELL 'sum', in the pinned program and in every row, IS THE sha256 OF THE DUMP (.gsa) THAT YtpcnmlpikiigaaaProg.lean LOADS. Nothing in Lean hashes anything: it is a label: what it is worth is what the hold of that sum in a sandbox is worth. -/
noncomputable def Try.pinned : Pinned := { name := "ytpcnmlpikiigaaa", sum := "d39cf3d672033c2780879c284ed06ffd864cafc4270ad2a0a78d1f2080eeac50", checked := Try.checked }
namespace Rows
def none {H : Type} : Left H := { results := [], args := [] }

/-- 'laws.FnDecodeOps': WHATEVER THE INPUT: true; the input reads as it did. -/
def fnDecodeOpsSpec : ChangeSpec := { name := "fnDecodeOps", fn := fun _ => fun
  | [d] => { results := [.lit (.bool true)], args := [d] }
  | _ => none }
def fnDecodeOpsRow : OpenClaim := { program := "ytpcnmlpikiigaaa", sum := "d39cf3d672033c2780879c284ed06ffd864cafc4270ad2a0a78d1f2080eeac50", func := "loop.example/graphcode/laws.FnDecodeOps", spec := "fnDecodeOps", unfollowed := true, recurses := true, apart := false }
def FnDecodeOpsSaid : Prop := fnDecodeOpsRow.holds Try.pinned (OpenSpec.ofChange fnDecodeOpsSpec)

/-- ITS FALSE NEIGHBOUR: 'it returns false'. Refute it at one input. -/
def fnDecodeOpsWrong : ChangeSpec := { name := "fnDecodeOps", fn := fun _ => fun
  | [d] => { results := [.lit (.bool false)], args := [d] }
  | _ => none }
def FnDecodeOpsWrongFalsely : Prop := fnDecodeOpsRow.holds Try.pinned (OpenSpec.ofChange fnDecodeOpsWrong)

/-- 'laws.FnDecodeTorn': WHATEVER THE INPUT: true; the input reads as it did. -/
def fnDecodeTornSpec : ChangeSpec := { name := "fnDecodeTorn", fn := fun _ => fun
  | [d] => { results := [.lit (.bool true)], args := [d] }
  | _ => none }
def fnDecodeTornRow : OpenClaim := { program := "ytpcnmlpikiigaaa", sum := "d39cf3d672033c2780879c284ed06ffd864cafc4270ad2a0a78d1f2080eeac50", func := "loop.example/graphcode/laws.FnDecodeTorn", spec := "fnDecodeTorn", unfollowed := true, recurses := true, apart := false }
def FnDecodeTornSaid : Prop := fnDecodeTornRow.holds Try.pinned (OpenSpec.ofChange fnDecodeTornSpec)

/-- ITS FALSE NEIGHBOUR: 'it returns false'. Refute it at one input. -/
def fnDecodeTornWrong : ChangeSpec := { name := "fnDecodeTorn", fn := fun _ => fun
  | [d] => { results := [.lit (.bool false)], args := [d] }
  | _ => none }
def FnDecodeTornWrongFalsely : Prop := fnDecodeTornRow.holds Try.pinned (OpenSpec.ofChange fnDecodeTornWrong)

/-- 'laws.FnRecoverStream': WHATEVER THE INPUT: true; the input reads as it did. -/
def fnRecoverStreamSpec : ChangeSpec := { name := "fnRecoverStream", fn := fun _ => fun
  | [d] => { results := [.lit (.bool true)], args := [d] }
  | _ => none }
def fnRecoverStreamRow : OpenClaim := { program := "ytpcnmlpikiigaaa", sum := "d39cf3d672033c2780879c284ed06ffd864cafc4270ad2a0a78d1f2080eeac50", func := "loop.example/graphcode/laws.FnRecoverStream", spec := "fnRecoverStream", unfollowed := true, recurses := true, apart := false }
def FnRecoverStreamSaid : Prop := fnRecoverStreamRow.holds Try.pinned (OpenSpec.ofChange fnRecoverStreamSpec)

/-- ITS FALSE NEIGHBOUR: 'it returns false'. Refute it at one input. -/
def fnRecoverStreamWrong : ChangeSpec := { name := "fnRecoverStream", fn := fun _ => fun
  | [d] => { results := [.lit (.bool false)], args := [d] }
  | _ => none }
def FnRecoverStreamWrongFalsely : Prop := fnRecoverStreamRow.holds Try.pinned (OpenSpec.ofChange fnRecoverStreamWrong)

/-- 'laws.FnStreamBytes': WHATEVER THE INPUT: true; the input reads as it did. -/
def fnStreamBytesSpec : ChangeSpec := { name := "fnStreamBytes", fn := fun _ => fun
  | [d] => { results := [.lit (.bool true)], args := [d] }
  | _ => none }
def fnStreamBytesRow : OpenClaim := { program := "ytpcnmlpikiigaaa", sum := "d39cf3d672033c2780879c284ed06ffd864cafc4270ad2a0a78d1f2080eeac50", func := "loop.example/graphcode/laws.FnStreamBytes", spec := "fnStreamBytes", unfollowed := true, recurses := true, apart := false }
def FnStreamBytesSaid : Prop := fnStreamBytesRow.holds Try.pinned (OpenSpec.ofChange fnStreamBytesSpec)

/-- ITS FALSE NEIGHBOUR: 'it returns false'. Refute it at one input. -/
def fnStreamBytesWrong : ChangeSpec := { name := "fnStreamBytes", fn := fun _ => fun
  | [d] => { results := [.lit (.bool false)], args := [d] }
  | _ => none }
def FnStreamBytesWrongFalsely : Prop := fnStreamBytesRow.holds Try.pinned (OpenSpec.ofChange fnStreamBytesWrong)

/- THE SECOND FORM. 'bulk': how many values and letters a reading holds, each counted each time it is reached (what is shared counts as often as it is met; a slice's spare places count too). A statement '..UptoSaid' is the law's where the arguments, and the package variables that the reading takes, are together of bulk at most 1048576: NARROWER than '..Said'. Prove '..Said' where nothing that the law and all that it calls make is longer than what came in: it says more and counts as full. Else prove '..UptoSaid'. A law counts once. -/
mutual
def uptoBulk {H : Type} : DataW H → Nat
  | .lit (.string bytes) => bytes.length + 1
  | .lit _ => 1
  | .nil => 1
  | .ptr d => uptoBulk d + 1
  | .slice elems spare => uptoBulkAll elems + uptoBulkAll spare + 1
  | .agg parts => uptoBulkAll parts + 1
  | .iface _ d => uptoBulk d + 1
  | .map entries => uptoBulkEntries entries + 1
  | .held _ => 1
def uptoBulkAll {H : Type} : List (DataW H) → Nat
  | [] => 0
  | d :: r => uptoBulk d + uptoBulkAll r
def uptoBulkEntries {H : Type} : List (Lit × DataW H) → Nat
  | [] => 0
  | x :: r => uptoBulkEntry x + uptoBulkEntries r
def uptoBulkEntry {H : Type} : Lit × DataW H → Nat
  | (.string bytes, d) => bytes.length + uptoBulk d + 1
  | (_, d) => uptoBulk d + 1
 end
def uptoSmall : (H : Type) → List (DataW H) → Bool := fun _ ds => decide (uptoBulkAll ds ≤ 1048576)
def OpenSpec.upto (s : _root_.Go.ChangeSpec) : _root_.Go.OpenSpec := { _root_.Go.OpenSpec.ofChange s with cond := some uptoSmall }

/-- 'laws.FnDecodeOps', WHERE WHAT IT READS IS OF BULK AT MOST 1048576: true; the input reads as it did. -/
def fnDecodeOpsUptoRow : OpenClaim := { program := "ytpcnmlpikiigaaa", sum := "d39cf3d672033c2780879c284ed06ffd864cafc4270ad2a0a78d1f2080eeac50", func := "loop.example/graphcode/laws.FnDecodeOps", spec := "fnDecodeOps", unfollowed := true, recurses := true, apart := false, narrowed := true }
def FnDecodeOpsUptoSaid : Prop := fnDecodeOpsUptoRow.holds Try.pinned (OpenSpec.upto fnDecodeOpsSpec)

/-- 'laws.FnDecodeTorn', WHERE WHAT IT READS IS OF BULK AT MOST 1048576: true; the input reads as it did. -/
def fnDecodeTornUptoRow : OpenClaim := { program := "ytpcnmlpikiigaaa", sum := "d39cf3d672033c2780879c284ed06ffd864cafc4270ad2a0a78d1f2080eeac50", func := "loop.example/graphcode/laws.FnDecodeTorn", spec := "fnDecodeTorn", unfollowed := true, recurses := true, apart := false, narrowed := true }
def FnDecodeTornUptoSaid : Prop := fnDecodeTornUptoRow.holds Try.pinned (OpenSpec.upto fnDecodeTornSpec)

/-- 'laws.FnRecoverStream', WHERE WHAT IT READS IS OF BULK AT MOST 1048576: true; the input reads as it did. -/
def fnRecoverStreamUptoRow : OpenClaim := { program := "ytpcnmlpikiigaaa", sum := "d39cf3d672033c2780879c284ed06ffd864cafc4270ad2a0a78d1f2080eeac50", func := "loop.example/graphcode/laws.FnRecoverStream", spec := "fnRecoverStream", unfollowed := true, recurses := true, apart := false, narrowed := true }
def FnRecoverStreamUptoSaid : Prop := fnRecoverStreamUptoRow.holds Try.pinned (OpenSpec.upto fnRecoverStreamSpec)

/-- 'laws.FnStreamBytes', WHERE WHAT IT READS IS OF BULK AT MOST 1048576: true; the input reads as it did. -/
def fnStreamBytesUptoRow : OpenClaim := { program := "ytpcnmlpikiigaaa", sum := "d39cf3d672033c2780879c284ed06ffd864cafc4270ad2a0a78d1f2080eeac50", func := "loop.example/graphcode/laws.FnStreamBytes", spec := "fnStreamBytes", unfollowed := true, recurses := true, apart := false, narrowed := true }
def FnStreamBytesUptoSaid : Prop := fnStreamBytesUptoRow.holds Try.pinned (OpenSpec.upto fnStreamBytesSpec)

end Rows
end Go.Proofs.Ytpcnmlpikiigaaa

/-
  The calls of the table (printed by gen.py).
-/
import Derived.Test.YtpcnmlpikiigaaaXEq
import Derived.Test.YtpcnmlpikiigaaaXR
set_option linter.unusedVariables false
namespace Go.Gx
open Go.Proofs
theorem c_s_newReader (k : Nat) (code : List Int) : T.call k 26 sg_s_newReader (code, ()) = F_s_newReader k code := by
  cases k with
  | zero => rfl
  | succ k => exact (b_s_newReader k code)
theorem c_s_reader_pick (k : Nat) (r_b : List Int) (r_p : Int) (n1 : Int) : T.call k 48 sg_s_reader_pick ((r_b, r_p, ()), n1, ()) = F_s_reader_pick k r_b r_p n1 := by
  cases k with
  | zero => rfl
  | succ k => exact (b_s_reader_pick k r_b r_p n1)
theorem c_s_newShapes (k : Nat) : T.call k 70 sg_s_newShapes () = F_s_newShapes k := by
  cases k with
  | zero => rfl
  | succ k => exact (b_s_newShapes k)
theorem c_s_reader_one (k : Nat) (r_b : List Int) (r_p : Int) (list : List Int) : T.call k 38 sg_s_reader_one ((r_b, r_p, ()), list, ()) = F_s_reader_one k r_b r_p list := by
  cases k with
  | zero => rfl
  | succ k => exact (b_s_reader_one k r_b r_p list).trans (congrFun (congrFun (congrFun (congrArg (B_s_reader_one k) (funext fun a0 => funext fun a1 => funext fun a2 => c_s_reader_pick k a0 a1 a2)) r_b) r_p) list)
theorem c_s_someOp (k : Nat) (r_b : List Int) (r_p : Int) : T.call k 57 sg_s_someOp ((r_b, r_p, ()), ()) = F_s_someOp k r_b r_p := by
  cases k with
  | zero => rfl
  | succ k => exact (b_s_someOp k r_b r_p).trans (congrFun (congrFun (congr (congrArg (B_s_someOp k) (funext fun a0 => funext fun a1 => funext fun a2 => c_s_reader_pick k a0 a1 a2)) (funext fun a0 => funext fun a1 => funext fun a2 => c_s_reader_one k a0 a1 a2)) r_b) r_p)
theorem c_s_copyInts (k : Nat) (list : List Int) : T.call k 88 sg_s_copyInts (list, ()) = F_s_copyInts k list := by
  cases k with
  | zero => rfl
  | succ k => exact (b_s_copyInts k list)
theorem c_s_copyShapes (k : Nat) (s_0 : List Int) (s_1 : List Bool) (s_2 : List Int) (s_3 : List Int) (s_4 : Bool) : T.call k 72 sg_s_copyShapes ((s_0, s_1, s_2, s_3, s_4, ()), ()) = F_s_copyShapes k s_0 s_1 s_2 s_3 s_4 := by
  cases k with
  | zero => rfl
  | succ k => exact (b_s_copyShapes k s_0 s_1 s_2 s_3 s_4).trans (congrFun (congrFun (congrFun (congrFun (congrFun (congrArg (B_s_copyShapes k) (funext fun a0 => c_s_copyInts k a0)) s_0) s_1) s_2) s_3) s_4)
theorem c_s_newKind (k : Nat) (c : Int) : T.call k 84 sg_s_newKind (c, ()) = F_s_newKind k c := by
  cases k with
  | zero => rfl
  | succ k => exact (b_s_newKind k c)
theorem c_s_pushShape (k : Nat) (s_0 : List Int) (s_1 : List Bool) (s_2 : List Int) (s_3 : List Int) (s_4 : Bool) (kind : Int) : T.call k 85 sg_s_pushShape ((s_0, s_1, s_2, s_3, s_4, ()), kind, ()) = F_s_pushShape k s_0 s_1 s_2 s_3 s_4 kind := by
  cases k with
  | zero => rfl
  | succ k => exact (b_s_pushShape k s_0 s_1 s_2 s_3 s_4 kind)
theorem c_s_shapeAt (k : Nat) (s_0 : List Int) (s_1 : List Bool) (s_2 : List Int) (s_3 : List Int) (s_4 : Bool) (deep : Int) : T.call k 92 sg_s_shapeAt ((s_0, s_1, s_2, s_3, s_4, ()), deep, ()) = F_s_shapeAt k s_0 s_1 s_2 s_3 s_4 deep := by
  cases k with
  | zero => rfl
  | succ k => exact (b_s_shapeAt k s_0 s_1 s_2 s_3 s_4 deep)
theorem c_s_keyKind (k : Nat) (kind : Int) : T.call k 93 sg_s_keyKind (kind, ()) = F_s_keyKind k kind := by
  cases k with
  | zero => rfl
  | succ k => exact (b_s_keyKind k kind)
theorem c_s_markShapes (k : Nat) (s_0 : List Int) (s_1 : List Bool) (s_2 : List Int) (s_3 : List Int) (s_4 : Bool) (c : Int) : T.call k 86 sg_s_markShapes ((s_0, s_1, s_2, s_3, s_4, ()), c, ()) = F_s_markShapes k s_0 s_1 s_2 s_3 s_4 c := by
  cases k with
  | zero => rfl
  | succ k => exact (b_s_markShapes k s_0 s_1 s_2 s_3 s_4 c).trans (congrFun (congrFun (congrFun (congrFun (congrFun (congrFun (congr (congr (congr (congrArg (B_s_markShapes k) (funext fun a0 => c_s_copyInts k a0)) (funext fun a0 => funext fun a1 => funext fun a2 => funext fun a3 => funext fun a4 => funext fun a5 => c_s_pushShape k a0 a1 a2 a3 a4 a5)) (funext fun a0 => funext fun a1 => funext fun a2 => funext fun a3 => funext fun a4 => funext fun a5 => c_s_shapeAt k a0 a1 a2 a3 a4 a5)) (funext fun a0 => c_s_keyKind k a0)) s_0) s_1) s_2) s_3) s_4) c)
theorem c_s_takeShapes (k : Nat) (s_0 : List Int) (s_1 : List Bool) (s_2 : List Int) (s_3 : List Int) (s_4 : Bool) (o_0 : Int) (o_1 : Int) : T.call k 87 sg_s_takeShapes ((s_0, s_1, s_2, s_3, s_4, ()), (o_0, o_1, ()), ()) = F_s_takeShapes k s_0 s_1 s_2 s_3 s_4 o_0 o_1 := by
  cases k with
  | zero => rfl
  | succ k => exact (b_s_takeShapes k s_0 s_1 s_2 s_3 s_4 o_0 o_1).trans (congrFun (congrFun (congrFun (congrFun (congrFun (congrFun (congrFun (congr (congr (congrArg (B_s_takeShapes k) (funext fun a0 => funext fun a1 => funext fun a2 => funext fun a3 => funext fun a4 => funext fun a5 => c_s_shapeAt k a0 a1 a2 a3 a4 a5)) (funext fun a0 => funext fun a1 => funext fun a2 => funext fun a3 => funext fun a4 => funext fun a5 => c_s_pushShape k a0 a1 a2 a3 a4 a5)) (funext fun a0 => c_s_keyKind k a0)) s_0) s_1) s_2) s_3) s_4) o_0) o_1)
theorem c_s_stepShapes (k : Nat) (s_0 : List Int) (s_1 : List Bool) (s_2 : List Int) (s_3 : List Int) (s_4 : Bool) (o_0 : Int) (o_1 : Int) : T.call k 71 sg_s_stepShapes ((s_0, s_1, s_2, s_3, s_4, ()), (o_0, o_1, ()), ()) = F_s_stepShapes k s_0 s_1 s_2 s_3 s_4 o_0 o_1 := by
  cases k with
  | zero => rfl
  | succ k => exact (b_s_stepShapes k s_0 s_1 s_2 s_3 s_4 o_0 o_1).trans (congrFun (congrFun (congrFun (congrFun (congrFun (congrFun (congrFun (congr (congr (congr (congrArg (B_s_stepShapes k) (funext fun a0 => c_s_newKind k a0)) (funext fun a0 => funext fun a1 => funext fun a2 => funext fun a3 => funext fun a4 => funext fun a5 => c_s_pushShape k a0 a1 a2 a3 a4 a5)) (funext fun a0 => funext fun a1 => funext fun a2 => funext fun a3 => funext fun a4 => funext fun a5 => c_s_markShapes k a0 a1 a2 a3 a4 a5)) (funext fun a0 => funext fun a1 => funext fun a2 => funext fun a3 => funext fun a4 => funext fun a5 => funext fun a6 => c_s_takeShapes k a0 a1 a2 a3 a4 a5 a6)) s_0) s_1) s_2) s_3) s_4) o_0) o_1)
theorem c_s_argOf (k : Nat) (c : Int) : T.call k 64 sg_s_argOf (c, ()) = F_s_argOf k c := by
  cases k with
  | zero => rfl
  | succ k => exact (b_s_argOf k c)
theorem c_s_inRange (k : Nat) (n0 : Int) (low : Int) (high : Int) : T.call k 42 sg_s_inRange (n0, low, high, ()) = F_s_inRange k n0 low high := by
  cases k with
  | zero => rfl
  | succ k => exact (b_s_inRange k n0 low high)
theorem c_s_validOp (k : Nat) (o_0 : Int) (o_1 : Int) : T.call k 58 sg_s_validOp ((o_0, o_1, ()), ()) = F_s_validOp k o_0 o_1 := by
  cases k with
  | zero => rfl
  | succ k => exact (b_s_validOp k o_0 o_1).trans (congrFun (congrFun (congr (congrArg (B_s_validOp k) (funext fun a0 => c_s_argOf k a0)) (funext fun a0 => funext fun a1 => funext fun a2 => c_s_inRange k a0 a1 a2)) o_0) o_1)
theorem c_s_validOps (k : Nat) (ops : List (Int × Int)) : T.call k 41 sg_s_validOps (ops, ()) = F_s_validOps k ops := by
  cases k with
  | zero => rfl
  | succ k => exact (b_s_validOps k ops).trans (congrFun (congrArg (B_s_validOps k) (funext fun a0 => funext fun a1 => c_s_validOp k a0 a1)) ops)
theorem c_s_runShapes (k : Nat) (ops : List (Int × Int)) : T.call k 89 sg_s_runShapes (ops, ()) = F_s_runShapes k ops := by
  cases k with
  | zero => rfl
  | succ k => exact (b_s_runShapes k ops).trans (congrFun (congr (congr (congrArg (B_s_runShapes k) (c_s_newShapes k)) (funext fun a0 => funext fun a1 => funext fun a2 => funext fun a3 => funext fun a4 => c_s_copyShapes k a0 a1 a2 a3 a4)) (funext fun a0 => funext fun a1 => funext fun a2 => funext fun a3 => funext fun a4 => funext fun a5 => funext fun a6 => c_s_stepShapes k a0 a1 a2 a3 a4 a5 a6)) ops)
theorem c_s_EndOps (k : Nat) (ops : List (Int × Int)) : T.call k 73 sg_s_EndOps (ops, ()) = F_s_EndOps k ops := by
  cases k with
  | zero => rfl
  | succ k => exact (b_s_EndOps k ops).trans (congrFun (congr (congrArg (B_s_EndOps k) (funext fun a0 => c_s_validOps k a0)) (funext fun a0 => c_s_runShapes k a0)) ops)
theorem c_s_CutOps (k : Nat) (ops : List (Int × Int)) : T.call k 74 sg_s_CutOps (ops, ()) = F_s_CutOps k ops := by
  cases k with
  | zero => rfl
  | succ k => exact (b_s_CutOps k ops).trans (congrFun (congr (congrArg (B_s_CutOps k) (funext fun a0 => c_s_validOps k a0)) (funext fun a0 => c_s_runShapes k a0)) ops)
theorem c_s_likelyOps (k : Nat) (r_b : List Int) (r_p : Int) : T.call k 60 sg_s_likelyOps ((r_b, r_p, ()), ()) = F_s_likelyOps k r_b r_p := by
  cases k with
  | zero => rfl
  | succ k => exact (b_s_likelyOps k r_b r_p).trans (congrFun (congrFun (congr (congr (congr (congr (congr (congr (congr (congrArg (B_s_likelyOps k) (c_s_newShapes k)) (funext fun a0 => funext fun a1 => funext fun a2 => c_s_reader_one k a0 a1 a2)) (funext fun a0 => funext fun a1 => c_s_someOp k a0 a1)) (funext fun a0 => funext fun a1 => funext fun a2 => c_s_reader_pick k a0 a1 a2)) (funext fun a0 => funext fun a1 => funext fun a2 => funext fun a3 => funext fun a4 => c_s_copyShapes k a0 a1 a2 a3 a4)) (funext fun a0 => funext fun a1 => funext fun a2 => funext fun a3 => funext fun a4 => funext fun a5 => funext fun a6 => c_s_stepShapes k a0 a1 a2 a3 a4 a5 a6)) (funext fun a0 => c_s_EndOps k a0)) (funext fun a0 => c_s_CutOps k a0)) r_b) r_p)
theorem c_s_someNode (k : Nat) (r_b : List Int) (r_p : Int) : T.call k 75 sg_s_someNode ((r_b, r_p, ()), ()) = F_s_someNode k r_b r_p := by
  cases k with
  | zero => rfl
  | succ k => exact (b_s_someNode k r_b r_p).trans (congrFun (congrFun (congr (congrArg (B_s_someNode k) (funext fun a0 => funext fun a1 => funext fun a2 => c_s_reader_pick k a0 a1 a2)) (funext fun a0 => funext fun a1 => funext fun a2 => c_s_reader_one k a0 a1 a2)) r_b) r_p)
theorem c_s_isKey (k : Nat) (n_0 : Int) (n_1 : Int) (n_2 : List Int) : T.call k 90 sg_s_isKey ((n_0, n_1, n_2, ()), ()) = F_s_isKey k n_0 n_1 n_2 := by
  cases k with
  | zero => rfl
  | succ k => exact (b_s_isKey k n_0 n_1 n_2)
theorem c_s_allIn (k : Nat) (list : List Int) (low : Int) (high : Int) : T.call k 51 sg_s_allIn (list, low, high, ()) = F_s_allIn k list low high := by
  cases k with
  | zero => rfl
  | succ k => exact (b_s_allIn k list low high).trans (congrFun (congrFun (congrFun (congrArg (B_s_allIn k) (funext fun a0 => funext fun a1 => funext fun a2 => c_s_inRange k a0 a1 a2)) list) low) high)
theorem c_s_sameKey (k : Nat) (a_0 : Int) (a_1 : Int) (a_2 : List Int) (b_0 : Int) (b_1 : Int) (b_2 : List Int) : T.call k 94 sg_s_sameKey ((a_0, a_1, a_2, ()), (b_0, b_1, b_2, ()), ()) = F_s_sameKey k a_0 a_1 a_2 b_0 b_1 b_2 := by
  cases k with
  | zero => rfl
  | succ k => exact (b_s_sameKey k a_0 a_1 a_2 b_0 b_1 b_2)
theorem c_s_validDict (k : Nat) (g_0 : List (Int × Int × List Int)) (g_1 : Int) (n_0 : Int) (n_1 : Int) (n_2 : List Int) : T.call k 91 sg_s_validDict ((g_0, g_1, ()), (n_0, n_1, n_2, ()), ()) = F_s_validDict k g_0 g_1 n_0 n_1 n_2 := by
  cases k with
  | zero => rfl
  | succ k => exact (b_s_validDict k g_0 g_1 n_0 n_1 n_2).trans (congrFun (congrFun (congrFun (congrFun (congrFun (congr (congrArg (B_s_validDict k) (funext fun a0 => funext fun a1 => funext fun a2 => c_s_isKey k a0 a1 a2)) (funext fun a0 => funext fun a1 => funext fun a2 => funext fun a3 => funext fun a4 => funext fun a5 => c_s_sameKey k a0 a1 a2 a3 a4 a5)) g_0) g_1) n_0) n_1) n_2)
theorem c_s_validNode (k : Nat) (g_0 : List (Int × Int × List Int)) (g_1 : Int) (n_0 : Int) (n_1 : Int) (n_2 : List Int) : T.call k 77 sg_s_validNode ((g_0, g_1, ()), (n_0, n_1, n_2, ()), ()) = F_s_validNode k g_0 g_1 n_0 n_1 n_2 := by
  cases k with
  | zero => rfl
  | succ k => exact (b_s_validNode k g_0 g_1 n_0 n_1 n_2).trans (congrFun (congrFun (congrFun (congrFun (congrFun (congr (congr (congrArg (B_s_validNode k) (funext fun a0 => funext fun a1 => funext fun a2 => c_s_allIn k a0 a1 a2)) (funext fun a0 => funext fun a1 => funext fun a2 => c_s_inRange k a0 a1 a2)) (funext fun a0 => funext fun a1 => funext fun a2 => funext fun a3 => funext fun a4 => c_s_validDict k a0 a1 a2 a3 a4)) g_0) g_1) n_0) n_1) n_2)
theorem c_s_placeIn (k : Nat) (list : List Int) (n1 : Int) : T.call k 78 sg_s_placeIn (list, n1, ()) = F_s_placeIn k list n1 := by
  cases k with
  | zero => rfl
  | succ k => exact (b_s_placeIn k list n1)
theorem c_s_tupleReach (k : Nat) (g_0 : List (Int × Int × List Int)) (g_1 : Int) (at1 : Int) : T.call k 79 sg_s_tupleReach ((g_0, g_1, ()), at1, ()) = F_s_tupleReach k g_0 g_1 at1 := by
  cases k with
  | zero => rfl
  | succ k => exact (b_s_tupleReach k g_0 g_1 at1).trans (congrFun (congrFun (congrFun (congr (congrArg (B_s_tupleReach k) (funext fun a0 => c_s_copyInts k a0)) (funext fun a0 => funext fun a1 => c_s_placeIn k a0 a1)) g_0) g_1) at1)
theorem c_s_validGraph (k : Nat) (g_0 : List (Int × Int × List Int)) (g_1 : Int) : T.call k 66 sg_s_validGraph ((g_0, g_1, ()), ()) = F_s_validGraph k g_0 g_1 := by
  cases k with
  | zero => rfl
  | succ k => exact (b_s_validGraph k g_0 g_1).trans (congrFun (congrFun (congr (congr (congr (congrArg (B_s_validGraph k) (funext fun a0 => funext fun a1 => funext fun a2 => c_s_inRange k a0 a1 a2)) (funext fun a0 => funext fun a1 => funext fun a2 => funext fun a3 => funext fun a4 => c_s_validNode k a0 a1 a2 a3 a4)) (funext fun a0 => funext fun a1 => funext fun a2 => c_s_tupleReach k a0 a1 a2)) (funext fun a0 => funext fun a1 => c_s_placeIn k a0 a1)) g_0) g_1)
theorem c_s_addKids (k : Nat) (r_b : List Int) (r_p : Int) (g_0 : List (Int × Int × Option (List Int))) (g_1 : Int) (at2 : Int) : T.call k 76 sg_s_addKids ((r_b, r_p, ()), (g_0, g_1, ()), at2, ()) = F_s_addKids k r_b r_p g_0 g_1 at2 := by
  cases k with
  | zero => rfl
  | succ k => exact (b_s_addKids k r_b r_p g_0 g_1 at2).trans (congrFun (congrFun (congrFun (congrFun (congrFun (congr (congr (congr (congrArg (B_s_addKids k) (funext fun a0 => funext fun a1 => funext fun a2 => c_s_reader_one k a0 a1 a2)) (funext fun a0 => funext fun a1 => funext fun a2 => c_s_reader_pick k a0 a1 a2)) (funext fun a0 => funext fun a1 => funext fun a2 => c_s_isKey k a0 a1 a2)) (funext fun a0 => funext fun a1 => c_s_validGraph k a0 a1)) r_b) r_p) g_0) g_1) at2)
theorem c_s_someGraph (k : Nat) (r_b : List Int) (r_p : Int) : T.call k 62 sg_s_someGraph ((r_b, r_p, ()), ()) = F_s_someGraph k r_b r_p := by
  cases k with
  | zero => rfl
  | succ k => exact (b_s_someGraph k r_b r_p).trans (congrFun (congrFun (congr (congr (congr (congrArg (B_s_someGraph k) (funext fun a0 => funext fun a1 => funext fun a2 => c_s_reader_one k a0 a1 a2)) (funext fun a0 => funext fun a1 => c_s_someNode k a0 a1)) (funext fun a0 => funext fun a1 => funext fun a2 => funext fun a3 => funext fun a4 => c_s_addKids k a0 a1 a2 a3 a4)) (funext fun a0 => funext fun a1 => funext fun a2 => c_s_reader_pick k a0 a1 a2)) r_b) r_p)
theorem c_s_emptyMemo (k : Nat) (g_0 : List (Int × Int × List Int)) (g_1 : Int) : T.call k 67 sg_s_emptyMemo ((g_0, g_1, ()), ()) = F_s_emptyMemo k g_0 g_1 := by
  cases k with
  | zero => rfl
  | succ k => exact (b_s_emptyMemo k g_0 g_1)
theorem c_s_emit (k : Nat) (ops : List (Int × Int)) (more1 : List (Int × Int)) : T.call k 69 sg_s_emit (ops, more1, ()) = F_s_emit k ops more1 := by
  cases k with
  | zero => rfl
  | succ k => exact (b_s_emit k ops more1)
theorem c_s_memoed (k : Nat) (ops : List (Int × Int)) (memo : List Int) (at2 : Int) : T.call k 80 sg_s_memoed (ops, memo, at2, ()) = F_s_memoed k ops memo at2 := by
  cases k with
  | zero => rfl
  | succ k => exact (b_s_memoed k ops memo at2).trans (congrFun (congrFun (congrFun (congr (congrArg (B_s_memoed k) (funext fun a0 => c_s_copyInts k a0)) (funext fun a0 => funext fun a1 => c_s_emit k a0 a1)) ops) memo) at2)
theorem c_s_saveAll_s_saveTuple_s_fill_s_save : ∀ k : Nat, (∀ (g_0 : List (Int × Int × List Int)) (g_1 : Int) (level : Int) (list : List Int) (ops : List (Int × Int)) (memo : List Int), T.call k 83 sg_s_saveAll ((g_0, g_1, ()), level, list, ops, memo, ()) = F_s_saveAll k g_0 g_1 level list ops memo) ∧ (∀ (g_0 : List (Int × Int × List Int)) (g_1 : Int) (level : Int) (at2 : Int) (ops : List (Int × Int)) (memo : List Int), T.call k 81 sg_s_saveTuple ((g_0, g_1, ()), level, at2, ops, memo, ()) = F_s_saveTuple k g_0 g_1 level at2 ops memo) ∧ (∀ (g_0 : List (Int × Int × List Int)) (g_1 : Int) (level : Int) (kids : List Int) (each : Int) (one : Int) (all : Int) (ops : List (Int × Int)) (memo : List Int), T.call k 82 sg_s_fill ((g_0, g_1, ()), level, kids, each, one, all, ops, memo, ()) = F_s_fill k g_0 g_1 level kids each one all ops memo) ∧ (∀ (g_0 : List (Int × Int × List Int)) (g_1 : Int) (level : Int) (at2 : Int) (ops : List (Int × Int)) (memo : List Int), T.call k 68 sg_s_save ((g_0, g_1, ()), level, at2, ops, memo, ()) = F_s_save k g_0 g_1 level at2 ops memo) := by
  intro k
  induction k with
  | zero => exact ⟨by intros; first | rfl | (rw [F_s_saveAll]; rfl), by intros; first | rfl | (rw [F_s_saveTuple]; rfl), by intros; first | rfl | (rw [F_s_fill]; rfl), by intros; first | rfl | (rw [F_s_save]; rfl)⟩
  | succ k ih =>
    obtain ⟨h_s_saveAll, h_s_saveTuple, h_s_fill, h_s_save⟩ := ih
    refine ⟨?_, ?_, ?_, ?_⟩
    · intro g_0 g_1 level list ops memo; rw [F_s_saveAll_succ]; exact (b_s_saveAll k g_0 g_1 level list ops memo).trans (congrFun (congrFun (congrFun (congrFun (congrFun (congrFun (congrArg (B_s_saveAll k) (funext fun a0 => funext fun a1 => funext fun a2 => funext fun a3 => funext fun a4 => funext fun a5 => h_s_save a0 a1 a2 a3 a4 a5)) g_0) g_1) level) list) ops) memo)
    · intro g_0 g_1 level at2 ops memo; rw [F_s_saveTuple_succ]; exact (b_s_saveTuple k g_0 g_1 level at2 ops memo).trans (congrFun (congrFun (congrFun (congrFun (congrFun (congrFun (congr (congr (congrArg (B_s_saveTuple k) (funext fun a0 => funext fun a1 => c_s_emit k a0 a1)) (funext fun a0 => funext fun a1 => funext fun a2 => c_s_memoed k a0 a1 a2)) (funext fun a0 => funext fun a1 => funext fun a2 => funext fun a3 => funext fun a4 => funext fun a5 => h_s_saveAll a0 a1 a2 a3 a4 a5)) g_0) g_1) level) at2) ops) memo)
    · intro g_0 g_1 level kids each one all ops memo; rw [F_s_fill_succ]; exact (b_s_fill k g_0 g_1 level kids each one all ops memo).trans (congrFun (congrFun (congrFun (congrFun (congrFun (congrFun (congrFun (congrFun (congrFun (congr (congrArg (B_s_fill k) (funext fun a0 => funext fun a1 => c_s_emit k a0 a1)) (funext fun a0 => funext fun a1 => funext fun a2 => funext fun a3 => funext fun a4 => funext fun a5 => h_s_saveAll a0 a1 a2 a3 a4 a5)) g_0) g_1) level) kids) each) one) all) ops) memo)
    · intro g_0 g_1 level at2 ops memo; rw [F_s_save_succ]; exact (b_s_save k g_0 g_1 level at2 ops memo).trans (congrFun (congrFun (congrFun (congrFun (congrFun (congrFun (congr (congr (congr (congr (congrArg (B_s_save k) (funext fun a0 => funext fun a1 => c_s_emit k a0 a1)) (funext fun a0 => funext fun a1 => funext fun a2 => c_s_memoed k a0 a1 a2)) (funext fun a0 => funext fun a1 => funext fun a2 => funext fun a3 => funext fun a4 => funext fun a5 => h_s_saveTuple a0 a1 a2 a3 a4 a5)) (funext fun a0 => funext fun a1 => funext fun a2 => funext fun a3 => funext fun a4 => funext fun a5 => funext fun a6 => funext fun a7 => funext fun a8 => h_s_fill a0 a1 a2 a3 a4 a5 a6 a7 a8)) (funext fun a0 => funext fun a1 => funext fun a2 => funext fun a3 => funext fun a4 => funext fun a5 => h_s_saveAll a0 a1 a2 a3 a4 a5)) g_0) g_1) level) at2) ops) memo)
theorem c_s_saveAll (k : Nat) (g_0 : List (Int × Int × List Int)) (g_1 : Int) (level : Int) (list : List Int) (ops : List (Int × Int)) (memo : List Int) : T.call k 83 sg_s_saveAll ((g_0, g_1, ()), level, list, ops, memo, ()) = F_s_saveAll k g_0 g_1 level list ops memo := (c_s_saveAll_s_saveTuple_s_fill_s_save k).1 g_0 g_1 level list ops memo
theorem c_s_saveTuple (k : Nat) (g_0 : List (Int × Int × List Int)) (g_1 : Int) (level : Int) (at2 : Int) (ops : List (Int × Int)) (memo : List Int) : T.call k 81 sg_s_saveTuple ((g_0, g_1, ()), level, at2, ops, memo, ()) = F_s_saveTuple k g_0 g_1 level at2 ops memo := (c_s_saveAll_s_saveTuple_s_fill_s_save k).2.1 g_0 g_1 level at2 ops memo
theorem c_s_fill (k : Nat) (g_0 : List (Int × Int × List Int)) (g_1 : Int) (level : Int) (kids : List Int) (each : Int) (one : Int) (all : Int) (ops : List (Int × Int)) (memo : List Int) : T.call k 82 sg_s_fill ((g_0, g_1, ()), level, kids, each, one, all, ops, memo, ()) = F_s_fill k g_0 g_1 level kids each one all ops memo := (c_s_saveAll_s_saveTuple_s_fill_s_save k).2.2.1 g_0 g_1 level kids each one all ops memo
theorem c_s_save (k : Nat) (g_0 : List (Int × Int × List Int)) (g_1 : Int) (level : Int) (at2 : Int) (ops : List (Int × Int)) (memo : List Int) : T.call k 68 sg_s_save ((g_0, g_1, ()), level, at2, ops, memo, ()) = F_s_save k g_0 g_1 level at2 ops memo := (c_s_saveAll_s_saveTuple_s_fill_s_save k).2.2.2 g_0 g_1 level at2 ops memo
theorem c_s_written (k : Nat) (g_0 : List (Int × Int × List Int)) (g_1 : Int) (level : Int) : T.call k 61 sg_s_written ((g_0, g_1, ()), level, ()) = F_s_written k g_0 g_1 level := by
  cases k with
  | zero => rfl
  | succ k => exact (b_s_written k g_0 g_1 level).trans (congrFun (congrFun (congrFun (congr (congr (congrArg (B_s_written k) (funext fun a0 => funext fun a1 => c_s_emptyMemo k a0 a1)) (funext fun a0 => funext fun a1 => funext fun a2 => funext fun a3 => funext fun a4 => funext fun a5 => c_s_save k a0 a1 a2 a3 a4 a5)) (funext fun a0 => funext fun a1 => c_s_emit k a0 a1)) g_0) g_1) level)
theorem c_s_someOps (k : Nat) (r_b : List Int) (r_p : Int) : T.call k 47 sg_s_someOps ((r_b, r_p, ()), ()) = F_s_someOps k r_b r_p := by
  cases k with
  | zero => rfl
  | succ k => exact (b_s_someOps k r_b r_p).trans (congrFun (congrFun (congr (congr (congr (congr (congr (congrArg (B_s_someOps k) (funext fun a0 => funext fun a1 => funext fun a2 => c_s_reader_pick k a0 a1 a2)) (funext fun a0 => funext fun a1 => c_s_likelyOps k a0 a1)) (funext fun a0 => funext fun a1 => c_s_someGraph k a0 a1)) (funext fun a0 => funext fun a1 => funext fun a2 => c_s_written k a0 a1 a2)) (funext fun a0 => funext fun a1 => c_s_someOp k a0 a1)) (funext fun a0 => funext fun a1 => funext fun a2 => c_s_reader_one k a0 a1 a2)) r_b) r_p)
theorem c_s_bytesOf (k : Nat) (o_0 : Int) (o_1 : Int) : T.call k 59 sg_s_bytesOf ((o_0, o_1, ()), ()) = F_s_bytesOf k o_0 o_1 := by
  cases k with
  | zero => rfl
  | succ k => exact (b_s_bytesOf k o_0 o_1).trans (congrFun (congrFun (congrArg (B_s_bytesOf k) (funext fun a0 => c_s_argOf k a0)) o_0) o_1)
theorem c_s_EncodeOps (k : Nat) (ops : List (Int × Int)) : T.call k 45 sg_s_EncodeOps (ops, ()) = F_s_EncodeOps k ops := by
  cases k with
  | zero => rfl
  | succ k => exact (b_s_EncodeOps k ops).trans (congrFun (congr (congrArg (B_s_EncodeOps k) (funext fun a0 => c_s_validOps k a0)) (funext fun a0 => funext fun a1 => c_s_bytesOf k a0 a1)) ops)
theorem c_s_someBytes (k : Nat) (r_b : List Int) (r_p : Int) : T.call k 25 sg_s_someBytes ((r_b, r_p, ()), ()) = F_s_someBytes k r_b r_p := by
  cases k with
  | zero => rfl
  | succ k => exact (b_s_someBytes k r_b r_p).trans (congrFun (congrFun (congr (congr (congr (congr (congrArg (B_s_someBytes k) (funext fun a0 => funext fun a1 => c_s_someOps k a0 a1)) (funext fun a0 => c_s_validOps k a0)) (funext fun a0 => c_s_EncodeOps k a0)) (funext fun a0 => funext fun a1 => funext fun a2 => c_s_reader_pick k a0 a1 a2)) (funext fun a0 => funext fun a1 => funext fun a2 => c_s_reader_one k a0 a1 a2)) r_b) r_p)
theorem c_s_DrawDecodeTorn (k : Nat) (code : List Int) : T.call k 14 sg_s_DrawDecodeTorn (code, ()) = F_s_DrawDecodeTorn k code := by
  cases k with
  | zero => rfl
  | succ k => exact (b_s_DrawDecodeTorn k code).trans (congrFun (congr (congrArg (B_s_DrawDecodeTorn k) (funext fun a0 => c_s_newReader k a0)) (funext fun a0 => funext fun a1 => c_s_someBytes k a0 a1)) code)
theorem c_i_bytesOk_1 (k : Nat) (n0 : Int) : T.call k 50 sg_i_bytesOk_1 (n0, ()) = F_i_bytesOk_1 k n0 := by
  cases k with
  | zero => rfl
  | succ k => exact (b_i_bytesOk_1 k n0)
theorem c_slices_IndexFunc_int_int__i_bytesOk_1 (k : Nat) (s : List Int) : T.call k 63 sg_slices_IndexFunc_int_int__i_bytesOk_1 (s, 50, ()) = F_slices_IndexFunc_int_int__i_bytesOk_1 k s := by
  cases k with
  | zero => rfl
  | succ k => exact (b_slices_IndexFunc_int_int__i_bytesOk_1 k s).trans (congrFun (congrArg (B_slices_IndexFunc_int_int__i_bytesOk_1 k) (funext fun a0 => c_i_bytesOk_1 k a0)) s)
theorem c_slices_ContainsFunc_int_int__i_bytesOk_1 (k : Nat) (s : List Int) : T.call k 49 sg_slices_ContainsFunc_int_int__i_bytesOk_1 (s, 50, ()) = F_slices_ContainsFunc_int_int__i_bytesOk_1 k s := by
  cases k with
  | zero => rfl
  | succ k => exact (b_slices_ContainsFunc_int_int__i_bytesOk_1 k s).trans (congrFun (congrArg (B_slices_ContainsFunc_int_int__i_bytesOk_1 k) (funext fun a0 => c_slices_IndexFunc_int_int__i_bytesOk_1 k a0)) s)
theorem c_i_bytesOk (k : Nat) (list : List Int) (most : Int) : T.call k 27 sg_i_bytesOk (list, most, ()) = F_i_bytesOk k list most := by
  cases k with
  | zero => rfl
  | succ k => exact (b_i_bytesOk k list most).trans (congrFun (congrFun (congrArg (B_i_bytesOk k) (funext fun a0 => c_slices_ContainsFunc_int_int__i_bytesOk_1 k a0)) list) most)
theorem c_i_mostArg (k : Nat) (code : Int) : T.call k 31 sg_i_mostArg (code, ()) = F_i_mostArg k code := by
  cases k with
  | zero => rfl
  | succ k => exact (b_i_mostArg k code)
theorem c_i_opOk (k : Nat) (o_0 : Int) (o_1 : Int) : T.call k 32 sg_i_opOk ((o_0, o_1, ()), ()) = F_i_opOk k o_0 o_1 := by
  cases k with
  | zero => rfl
  | succ k => exact (b_i_opOk k o_0 o_1).trans (congrFun (congrFun (congrArg (B_i_opOk k) (funext fun a0 => c_i_mostArg k a0)) o_0) o_1)
theorem c_i_decoded (k : Nat) (list : List Int) : T.call k 28 sg_i_decoded (list, ()) = F_i_decoded k list := by
  cases k with
  | zero => rfl
  | succ k => exact (b_i_decoded k list).trans (congrFun (congr (congrArg (B_i_decoded k) (funext fun a0 => c_i_mostArg k a0)) (funext fun a0 => funext fun a1 => c_i_opOk k a0 a1)) list)
theorem c_i_DecodeTorn (k : Nat) (list : List Int) : T.call k 15 sg_i_DecodeTorn (list, ()) = F_i_DecodeTorn k list := by
  cases k with
  | zero => rfl
  | succ k => exact (b_i_DecodeTorn k list).trans (congrFun (congr (congrArg (B_i_DecodeTorn k) (funext fun a0 => funext fun a1 => c_i_bytesOk k a0 a1)) (funext fun a0 => c_i_decoded k a0)) list)
theorem c_s_validBytes (k : Nat) (list : List Int) : T.call k 29 sg_s_validBytes (list, ()) = F_s_validBytes k list := by
  cases k with
  | zero => rfl
  | succ k => exact (b_s_validBytes k list).trans (congrFun (congrArg (B_s_validBytes k) (funext fun a0 => funext fun a1 => funext fun a2 => c_s_allIn k a0 a1 a2)) list)
theorem c_s_readOp (k : Nat) (list : List Int) : T.call k 52 sg_s_readOp (list, ()) = F_s_readOp k list := by
  cases k with
  | zero => rfl
  | succ k => exact (b_s_readOp k list).trans (congrFun (congr (congr (congrArg (B_s_readOp k) (funext fun a0 => c_s_argOf k a0)) (funext fun a0 => funext fun a1 => c_s_validOp k a0 a1)) (funext fun a0 => funext fun a1 => c_s_bytesOf k a0 a1)) list)
theorem c_s_readOps (k : Nat) (list : List Int) : T.call k 30 sg_s_readOps (list, ()) = F_s_readOps k list := by
  cases k with
  | zero => rfl
  | succ k => exact (b_s_readOps k list).trans (congrFun (congrArg (B_s_readOps k) (funext fun a0 => c_s_readOp k a0)) list)
theorem c_s_DecodeTorn (k : Nat) (list : List Int) : T.call k 16 sg_s_DecodeTorn (list, ()) = F_s_DecodeTorn k list := by
  cases k with
  | zero => rfl
  | succ k => exact (b_s_DecodeTorn k list).trans (congrFun (congr (congrArg (B_s_DecodeTorn k) (funext fun a0 => c_s_validBytes k a0)) (funext fun a0 => c_s_readOps k a0)) list)
theorem c_l_equalOps (k : Nat) (a : List (Int × Int)) (b : List (Int × Int)) : T.call k 10 sg_l_equalOps (a, b, ()) = F_l_equalOps k a b := by
  cases k with
  | zero => rfl
  | succ k => exact (b_l_equalOps k a b)
theorem c_l_begins (k : Nat) (a : List (Int × Int)) (b : List (Int × Int)) : T.call k 17 sg_l_begins (a, b, ()) = F_l_begins k a b := by
  cases k with
  | zero => rfl
  | succ k => exact (b_l_begins k a b).trans (congrFun (congrFun (congrArg (B_l_begins k) (funext fun a0 => funext fun a1 => c_l_equalOps k a0 a1)) a) b)
theorem c_i_DecodeOps (k : Nat) (list : List Int) : T.call k 8 sg_i_DecodeOps (list, ()) = F_i_DecodeOps k list := by
  cases k with
  | zero => rfl
  | succ k => exact (b_i_DecodeOps k list).trans (congrFun (congr (congrArg (B_i_DecodeOps k) (funext fun a0 => funext fun a1 => c_i_bytesOk k a0 a1)) (funext fun a0 => c_i_decoded k a0)) list)
theorem c_i_ValidOps (k : Nat) (ops : List (Int × Int)) : T.call k 13 sg_i_ValidOps (ops, ()) = F_i_ValidOps k ops := by
  cases k with
  | zero => rfl
  | succ k => exact (b_i_ValidOps k ops).trans (congrFun (congrArg (B_i_ValidOps k) (funext fun a0 => funext fun a1 => c_i_opOk k a0 a1)) ops)
theorem c_i_EncodeOps (k : Nat) (ops : List (Int × Int)) : T.call k 12 sg_i_EncodeOps (ops, ()) = F_i_EncodeOps k ops := by
  cases k with
  | zero => rfl
  | succ k => exact (b_i_EncodeOps k ops).trans (congrFun (congr (congrArg (B_i_EncodeOps k) (funext fun a0 => c_i_ValidOps k a0)) (funext fun a0 => c_i_mostArg k a0)) ops)
theorem c_l_equalInts (k : Nat) (a : List Int) (b : List Int) : T.call k 11 sg_l_equalInts (a, b, ()) = F_l_equalInts k a b := by
  cases k with
  | zero => rfl
  | succ k => exact (b_l_equalInts k a b)
theorem c_l_FnDecodeTorn (k : Nat) (code : List Int) : T.call k 4 sg_l_FnDecodeTorn (code, ()) = F_l_FnDecodeTorn k code := by
  cases k with
  | zero => rfl
  | succ k => exact (b_l_FnDecodeTorn k code).trans (congrFun (congr (congr (congr (congr (congr (congr (congr (congrArg (B_l_FnDecodeTorn k) (funext fun a0 => c_s_DrawDecodeTorn k a0)) (funext fun a0 => c_i_DecodeTorn k a0)) (funext fun a0 => c_s_DecodeTorn k a0)) (funext fun a0 => funext fun a1 => c_l_equalOps k a0 a1)) (funext fun a0 => funext fun a1 => c_l_begins k a0 a1)) (funext fun a0 => c_i_DecodeOps k a0)) (funext fun a0 => c_i_EncodeOps k a0)) (funext fun a0 => funext fun a1 => c_l_equalInts k a0 a1)) code)
theorem fo4 : FnOK Try.prog 4 := ⟨Try.f4, Try.func4, by kernel_rfl, by kernel_rfl⟩
theorem fo8 : FnOK Try.prog 8 := ⟨Try.f8, Try.func8, by kernel_rfl, by kernel_rfl⟩
theorem fo10 : FnOK Try.prog 10 := ⟨Try.f10, Try.func10, by kernel_rfl, by kernel_rfl⟩
theorem fo11 : FnOK Try.prog 11 := ⟨Try.f11, Try.func11, by kernel_rfl, by kernel_rfl⟩
theorem fo12 : FnOK Try.prog 12 := ⟨Try.f12, Try.func12, by kernel_rfl, by kernel_rfl⟩
theorem fo13 : FnOK Try.prog 13 := ⟨Try.f13, Try.func13, by kernel_rfl, by kernel_rfl⟩
theorem fo14 : FnOK Try.prog 14 := ⟨Try.f14, Try.func14, by kernel_rfl, by kernel_rfl⟩
theorem fo15 : FnOK Try.prog 15 := ⟨Try.f15, Try.func15, by kernel_rfl, by kernel_rfl⟩
theorem fo16 : FnOK Try.prog 16 := ⟨Try.f16, Try.func16, by kernel_rfl, by kernel_rfl⟩
theorem fo17 : FnOK Try.prog 17 := ⟨Try.f17, Try.func17, by kernel_rfl, by kernel_rfl⟩
theorem fo25 : FnOK Try.prog 25 := ⟨Try.f25, Try.func25, by kernel_rfl, by kernel_rfl⟩
theorem fo26 : FnOK Try.prog 26 := ⟨Try.f26, Try.func26, by kernel_rfl, by kernel_rfl⟩
theorem fo27 : FnOK Try.prog 27 := ⟨Try.f27, Try.func27, by kernel_rfl, by kernel_rfl⟩
theorem fo28 : FnOK Try.prog 28 := ⟨Try.f28, Try.func28, by kernel_rfl, by kernel_rfl⟩
theorem fo29 : FnOK Try.prog 29 := ⟨Try.f29, Try.func29, by kernel_rfl, by kernel_rfl⟩
theorem fo30 : FnOK Try.prog 30 := ⟨Try.f30, Try.func30, by kernel_rfl, by kernel_rfl⟩
theorem fo31 : FnOK Try.prog 31 := ⟨Try.f31, Try.func31, by kernel_rfl, by kernel_rfl⟩
theorem fo32 : FnOK Try.prog 32 := ⟨Try.f32, Try.func32, by kernel_rfl, by kernel_rfl⟩
theorem fo38 : FnOK Try.prog 38 := ⟨Try.f38, Try.func38, by kernel_rfl, by kernel_rfl⟩
theorem fo41 : FnOK Try.prog 41 := ⟨Try.f41, Try.func41, by kernel_rfl, by kernel_rfl⟩
theorem fo42 : FnOK Try.prog 42 := ⟨Try.f42, Try.func42, by kernel_rfl, by kernel_rfl⟩
theorem fo45 : FnOK Try.prog 45 := ⟨Try.f45, Try.func45, by kernel_rfl, by kernel_rfl⟩
theorem fo47 : FnOK Try.prog 47 := ⟨Try.f47, Try.func47, by kernel_rfl, by kernel_rfl⟩
theorem fo48 : FnOK Try.prog 48 := ⟨Try.f48, Try.func48, by kernel_rfl, by kernel_rfl⟩
theorem fo49 : FnOK Try.prog 49 := ⟨Try.f49, Try.func49, by kernel_rfl, by kernel_rfl⟩
theorem fo50 : FnOK Try.prog 50 := ⟨Try.f50, Try.func50, by kernel_rfl, by kernel_rfl⟩
theorem fo51 : FnOK Try.prog 51 := ⟨Try.f51, Try.func51, by kernel_rfl, by kernel_rfl⟩
theorem fo52 : FnOK Try.prog 52 := ⟨Try.f52, Try.func52, by kernel_rfl, by kernel_rfl⟩
theorem fo57 : FnOK Try.prog 57 := ⟨Try.f57, Try.func57, by kernel_rfl, by kernel_rfl⟩
theorem fo58 : FnOK Try.prog 58 := ⟨Try.f58, Try.func58, by kernel_rfl, by kernel_rfl⟩
theorem fo59 : FnOK Try.prog 59 := ⟨Try.f59, Try.func59, by kernel_rfl, by kernel_rfl⟩
theorem fo60 : FnOK Try.prog 60 := ⟨Try.f60, Try.func60, by kernel_rfl, by kernel_rfl⟩
theorem fo61 : FnOK Try.prog 61 := ⟨Try.f61, Try.func61, by kernel_rfl, by kernel_rfl⟩
theorem fo62 : FnOK Try.prog 62 := ⟨Try.f62, Try.func62, by kernel_rfl, by kernel_rfl⟩
theorem fo63 : FnOK Try.prog 63 := ⟨Try.f63, Try.func63, by kernel_rfl, by kernel_rfl⟩
theorem fo64 : FnOK Try.prog 64 := ⟨Try.f64, Try.func64, by kernel_rfl, by kernel_rfl⟩
theorem fo66 : FnOK Try.prog 66 := ⟨Try.f66, Try.func66, by kernel_rfl, by kernel_rfl⟩
theorem fo67 : FnOK Try.prog 67 := ⟨Try.f67, Try.func67, by kernel_rfl, by kernel_rfl⟩
theorem fo68 : FnOK Try.prog 68 := ⟨Try.f68, Try.func68, by kernel_rfl, by kernel_rfl⟩
theorem fo69 : FnOK Try.prog 69 := ⟨Try.f69, Try.func69, by kernel_rfl, by kernel_rfl⟩
theorem fo70 : FnOK Try.prog 70 := ⟨Try.f70, Try.func70, by kernel_rfl, by kernel_rfl⟩
theorem fo71 : FnOK Try.prog 71 := ⟨Try.f71, Try.func71, by kernel_rfl, by kernel_rfl⟩
theorem fo72 : FnOK Try.prog 72 := ⟨Try.f72, Try.func72, by kernel_rfl, by kernel_rfl⟩
theorem fo73 : FnOK Try.prog 73 := ⟨Try.f73, Try.func73, by kernel_rfl, by kernel_rfl⟩
theorem fo74 : FnOK Try.prog 74 := ⟨Try.f74, Try.func74, by kernel_rfl, by kernel_rfl⟩
theorem fo75 : FnOK Try.prog 75 := ⟨Try.f75, Try.func75, by kernel_rfl, by kernel_rfl⟩
theorem fo76 : FnOK Try.prog 76 := ⟨Try.f76, Try.func76, by kernel_rfl, by kernel_rfl⟩
theorem fo77 : FnOK Try.prog 77 := ⟨Try.f77, Try.func77, by kernel_rfl, by kernel_rfl⟩
theorem fo78 : FnOK Try.prog 78 := ⟨Try.f78, Try.func78, by kernel_rfl, by kernel_rfl⟩
theorem fo79 : FnOK Try.prog 79 := ⟨Try.f79, Try.func79, by kernel_rfl, by kernel_rfl⟩
theorem fo80 : FnOK Try.prog 80 := ⟨Try.f80, Try.func80, by kernel_rfl, by kernel_rfl⟩
theorem fo81 : FnOK Try.prog 81 := ⟨Try.f81, Try.func81, by kernel_rfl, by kernel_rfl⟩
theorem fo82 : FnOK Try.prog 82 := ⟨Try.f82, Try.func82, by kernel_rfl, by kernel_rfl⟩
theorem fo83 : FnOK Try.prog 83 := ⟨Try.f83, Try.func83, by kernel_rfl, by kernel_rfl⟩
theorem fo84 : FnOK Try.prog 84 := ⟨Try.f84, Try.func84, by kernel_rfl, by kernel_rfl⟩
theorem fo85 : FnOK Try.prog 85 := ⟨Try.f85, Try.func85, by kernel_rfl, by kernel_rfl⟩
theorem fo86 : FnOK Try.prog 86 := ⟨Try.f86, Try.func86, by kernel_rfl, by kernel_rfl⟩
theorem fo87 : FnOK Try.prog 87 := ⟨Try.f87, Try.func87, by kernel_rfl, by kernel_rfl⟩
theorem fo88 : FnOK Try.prog 88 := ⟨Try.f88, Try.func88, by kernel_rfl, by kernel_rfl⟩
theorem fo89 : FnOK Try.prog 89 := ⟨Try.f89, Try.func89, by kernel_rfl, by kernel_rfl⟩
theorem fo90 : FnOK Try.prog 90 := ⟨Try.f90, Try.func90, by kernel_rfl, by kernel_rfl⟩
theorem fo91 : FnOK Try.prog 91 := ⟨Try.f91, Try.func91, by kernel_rfl, by kernel_rfl⟩
theorem fo92 : FnOK Try.prog 92 := ⟨Try.f92, Try.func92, by kernel_rfl, by kernel_rfl⟩
theorem fo93 : FnOK Try.prog 93 := ⟨Try.f93, Try.func93, by kernel_rfl, by kernel_rfl⟩
theorem fo94 : FnOK Try.prog 94 := ⟨Try.f94, Try.func94, by kernel_rfl, by kernel_rfl⟩
theorem sigs_ok : AllP (fun p => FnOK Try.prog p.1) sigs := ⟨fo4, fo8, fo10, fo11, fo12, fo13, fo14, fo15, fo16, fo17, fo25, fo26, fo27, fo28, fo29, fo30, fo31, fo32, fo38, fo41, fo42, fo45, fo47, fo48, fo49, fo50, fo51, fo52, fo57, fo58, fo59, fo60, fo61, fo62, fo63, fo64, fo66, fo67, fo68, fo69, fo70, fo71, fo72, fo73, fo74, fo75, fo76, fo77, fo78, fo79, fo80, fo81, fo82, fo83, fo84, fo85, fo86, fo87, fo88, fo89, fo90, fo91, fo92, fo93, fo94, trivial⟩
theorem fns_ok : AllP (fun p => Try.prog.funcs[p.1]? = some p.2.fn) fns := ⟨Try.func4, Try.func8, Try.func10, Try.func11, Try.func12, Try.func13, Try.func14, Try.func15, Try.func16, Try.func17, Try.func25, Try.func26, Try.func27, Try.func28, Try.func29, Try.func30, Try.func31, Try.func32, Try.func38, Try.func41, Try.func42, Try.func45, Try.func47, Try.func48, Try.func49, Try.func50, Try.func51, Try.func52, Try.func57, Try.func58, Try.func59, Try.func60, Try.func61, Try.func62, Try.func63, Try.func64, Try.func66, Try.func67, Try.func68, Try.func69, Try.func70, Try.func71, Try.func72, Try.func73, Try.func74, Try.func75, Try.func76, Try.func77, Try.func78, Try.func79, Try.func80, Try.func81, Try.func82, Try.func83, Try.func84, Try.func85, Try.func86, Try.func87, Try.func88, Try.func89, Try.func90, Try.func91, Try.func92, Try.func93, Try.func94, trivial⟩
noncomputable def arityB (p : Nat × FnI) : Bool := match lk sigs p.1 with
  | some sg => Nat.ble sg.ps.length p.2.fn.ntmps
  | none => true
theorem arity_ok : fns.all arityB = true := by kernel_rfl
theorem tab_ok : TabOK Try.prog T where
  ord := by kernel_rfl
  ok := ⟨fun t i h => tts_ok.mem (t, i) (lk_mem h), fun t h => by
    have h : t ∈ eqts := hasN_mem.1 h
    simp only [eqts, List.mem_cons, List.not_mem_nil, or_false] at h
    subst h; exact (eqt_pair (P := Try.prog) (t := 37) Try.underlying37 (by kernel_rfl) (by kernel_rfl) Try.underlying3 Try.underlying3 rfl rfl tt3 tt3 rfl rfl (by kernel_rfl) (by kernel_rfl))⟩
  fnok := fun f sg h => sigs_ok.mem (f, sg) (lk_mem h)
  fns := fun f fi h => fns_ok.mem (f, fi) (lk_mem h)
  arity := fun f fi sg h1 h2 => by
    have := List.all_eq_true.1 arity_ok (f, fi) (lk_mem h1)
    unfold arityB at this
    rw [show lk sigs f = some sg from h2] at this
    exact Nat.le_of_ble_eq_true this
  ext := fun k f sg g x r h1 h2 h3 => by cases h2
end Go.Gx

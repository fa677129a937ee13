/-
  The tables of the seat, and what each function comes to.
-/
import Derived.Test.YtfljejcoiapkpaaXGpart5
import Derived.Test.YtfljejcoiapkpaaProg
import Derived.KernelRfl
import Derived.Test.YtfljejcoiapkpaaXSh
set_option linter.unusedVariables false
namespace Go.Gx
open Go.Proofs
def tts : List (Nat × TI) := [
  (3, { agg := false, size := 1, bytes := 8, zero := .int .i64 0, fields := [], elem := none, ik := some .i64, isStr := false, isB := false, hasZ := true, arr := none, mp := none }),
  (4, { agg := false, size := 1, bytes := 1, zero := .bool false, fields := [], elem := none, ik := none, isStr := false, isB := true, hasZ := true, arr := none, mp := none }),
  (5, { agg := false, size := 1, bytes := 1, zero := .int .u8 0, fields := [], elem := none, ik := some .u8, isStr := false, isB := false, hasZ := true, arr := none, mp := none }),
  (22, { agg := false, size := 1, bytes := 24, zero := .slice none 0 0, fields := [], elem := some 5, ik := none, isStr := false, isB := false, hasZ := true, arr := none, mp := none }),
  (23, { agg := false, size := 1, bytes := 24, zero := .slice none 0 0, fields := [], elem := some 35, ik := none, isStr := false, isB := false, hasZ := true, arr := none, mp := none }),
  (24, { agg := false, size := 1, bytes := 24, zero := .slice none 0 0, fields := [], elem := some 3, ik := none, isStr := false, isB := false, hasZ := true, arr := none, mp := none }),
  (26, { agg := true, size := 4, bytes := 80, zero := .agg #[.slice none 0 0, .slice none 0 0, .slice none 0 0, .bool false], fields := [(0, 1, false), (1, 1, false), (2, 1, false), (3, 1, false)], elem := none, ik := none, isStr := false, isB := false, hasZ := true, arr := none, mp := none }),
  (28, { agg := true, size := 2, bytes := 16, zero := .agg #[.int .i64 0, .int .i64 0], fields := [(0, 1, false), (1, 1, false)], elem := none, ik := none, isStr := false, isB := false, hasZ := true, arr := none, mp := none }),
  (35, { agg := true, size := 3, bytes := 40, zero := .agg #[.int .i64 0, .int .i64 0, .slice none 0 0], fields := [(0, 1, false), (1, 1, false), (2, 1, false)], elem := none, ik := none, isStr := false, isB := false, hasZ := true, arr := none, mp := none }),
  (38, { agg := false, size := 1, bytes := 24, zero := .slice none 0 0, fields := [], elem := some 28, ik := none, isStr := false, isB := false, hasZ := true, arr := none, mp := none }),
  (42, { agg := true, size := 2, bytes := 32, zero := .agg #[.slice none 0 0, .int .i64 0], fields := [(0, 1, false), (1, 1, false)], elem := none, ik := none, isStr := false, isB := false, hasZ := true, arr := none, mp := none }),
  (52, { agg := false, size := 1, bytes := 24, zero := .slice none 0 0, fields := [], elem := some 4, ik := none, isStr := false, isB := false, hasZ := true, arr := none, mp := none }),
  (54, { agg := true, size := 5, bytes := 104, zero := .agg #[.slice none 0 0, .slice none 0 0, .slice none 0 0, .slice none 0 0, .bool false], fields := [(0, 1, false), (1, 1, false), (2, 1, false), (3, 1, false), (4, 1, false)], elem := none, ik := none, isStr := false, isB := false, hasZ := true, arr := none, mp := none }),
  (83, { agg := true, size := 2, bytes := 32, zero := .agg #[.slice none 0 0, .int .i64 0], fields := [(0, 1, false), (1, 1, false)], elem := none, ik := none, isStr := false, isB := false, hasZ := true, arr := none, mp := none })]
theorem tt3 : tinfo Try.prog 3 = lk tts 3 := by kernel_rfl
theorem tt4 : tinfo Try.prog 4 = lk tts 4 := by kernel_rfl
theorem tt5 : tinfo Try.prog 5 = lk tts 5 := by kernel_rfl
theorem tt22 : tinfo Try.prog 22 = lk tts 22 := by kernel_rfl
theorem tt23 : tinfo Try.prog 23 = lk tts 23 := by kernel_rfl
theorem tt24 : tinfo Try.prog 24 = lk tts 24 := by kernel_rfl
theorem tt26 : tinfo Try.prog 26 = lk tts 26 := by kernel_rfl
theorem tt28 : tinfo Try.prog 28 = lk tts 28 := by kernel_rfl
theorem tt35 : tinfo Try.prog 35 = lk tts 35 := by kernel_rfl
theorem tt38 : tinfo Try.prog 38 = lk tts 38 := by kernel_rfl
theorem tt42 : tinfo Try.prog 42 = lk tts 42 := by kernel_rfl
theorem tt52 : tinfo Try.prog 52 = lk tts 52 := by kernel_rfl
theorem tt54 : tinfo Try.prog 54 = lk tts 54 := by kernel_rfl
theorem tt83 : tinfo Try.prog 83 = lk tts 83 := by kernel_rfl
theorem tts_ok : AllP (fun p => tinfo Try.prog p.1 = some p.2) tts := ⟨tt3, tt4, tt5, tt22, tt23, tt24, tt26, tt28, tt35, tt38, tt42, tt52, tt54, tt83, trivial⟩
abbrev sg_s_newReader : Sig := ⟨[.leaf (.ro (.int .u8))], [.box 83 [.ro (.int .u8), .int .i64] []]⟩
def an_s_newReader : Ann := .seq none .leaf (.seq (some ⟨[0], [.leaf (.ro (.int .u8))]⟩) (.seq none .leaf (.cond .leaf .leaf)) (.seq none .leaf .leaf))
def ty_s_newReader : List (Nat × Ty) := []
def vr_s_newReader : Nat → Nat := fun _ => 0
abbrev sg_s_reader_pick : Sig := ⟨[.box 83 [.ro (.int .u8), .int .i64] [.ro (.int .u8), .int .i64], .leaf (.int .i64)], [.leaf (.int .i64)]⟩
def an_s_reader_pick : Ann := .seq none .leaf (.seq none .leaf (.seq none (.seq (some ⟨[0, 1, 24], [.box 83 [.ro (.int .u8), .int .i64] [], .leaf (.int .i64), .leaf .bool]⟩) .leaf (.cond (.seq none .leaf .leaf) .leaf)) (.seq none .leaf (.seq none (.seq none .leaf (.cond (.seq none .leaf .leaf) .leaf)) (.seq none .leaf (.seq none .leaf (.seq none .leaf .leaf)))))))
def ty_s_reader_pick : List (Nat × Ty) := []
def vr_s_reader_pick : Nat → Nat := fun _ => 0
abbrev sg_s_newShapes : Sig := ⟨[], [.agg [.own 3 (.int .i64), .own 4 .bool, .own 3 (.int .i64), .own 3 (.int .i64), .bool]]⟩
def an_s_newShapes : Ann := .seq none .leaf (.seq none .leaf (.seq none (.seq none .leaf (.block (.loop ⟨[0, 1, 2], [.box 54 [.nil, .nil, .nil, .nil, .bool] [], .box 54 [.nil, .nil, .nil, .own 3 (.int .i64), .bool] [], .leaf (.int .i64)]⟩ (.seq none (.seq none .leaf (.cond .leaf .leaf)) (.seq none (.block .leaf) .leaf))))) (.seq none .leaf .leaf)))
def ty_s_newShapes : List (Nat × Ty) := [(3, (.int .i64))]
def vr_s_newShapes : Nat → Nat := fun _ => 0
abbrev sg_s_reader_one : Sig := ⟨[.box 83 [.ro (.int .u8), .int .i64] [.ro (.int .u8), .int .i64], .leaf (.ro (.int .i64))], [.leaf (.int .i64)]⟩
def an_s_reader_one : Ann := .seq none .leaf (.seq none .leaf .leaf)
def ty_s_reader_one : List (Nat × Ty) := []
def vr_s_reader_one : Nat → Nat := fun _ => 0
abbrev sg_s_someOp : Sig := ⟨[.box 83 [.ro (.int .u8), .int .i64] [.ro (.int .u8), .int .i64]], [.agg [.int .i64, .int .i64]]⟩
def an_s_someOp : Ann := .seq none .leaf (.seq none .leaf (.seq (some ⟨[0, 2, 3], [.box 83 [.ro (.int .u8), .int .i64] [], .box 28 [.int .i64, .int .i64] [], .box 28 [.int .i64, .int .i64] []]⟩) (.seq none .leaf (.block (.seq none .leaf (.cond .leaf (.seq (some ⟨[0, 2, 3, 17], [.box 83 [.ro (.int .u8), .int .i64] [], .box 28 [.int .i64, .int .i64] [], .box 28 [.int .i64, .int .i64] [], .leaf .bool]⟩) (.seq none .leaf (.cond .leaf (.seq none .leaf (.cond .leaf (.seq none .leaf (.cond .leaf .leaf)))))) (.cond .leaf .leaf)))))) (.seq none .leaf .leaf)))
def ty_s_someOp : List (Nat × Ty) := [(3, (.int .i64))]
def vr_s_someOp : Nat → Nat := fun _ => 0
abbrev sg_s_copyInts : Sig := ⟨[.leaf (.ro (.int .i64))], [.leaf (.own 3 (.int .i64))]⟩
def an_s_copyInts : Ann := .seq none .leaf (.seq none .leaf .leaf)
def ty_s_copyInts : List (Nat × Ty) := [(3, (.int .i64))]
def vr_s_copyInts : Nat → Nat := fun _ => 0
abbrev sg_s_copyShapes : Sig := ⟨[.agg [.ro (.int .i64), .ro .bool, .ro (.int .i64), .ro (.int .i64), .bool]], [.agg [.own 3 (.int .i64), .own 4 .bool, .own 3 (.int .i64), .own 3 (.int .i64), .bool]]⟩
def an_s_copyShapes : Ann := .seq none .leaf (.seq none .leaf .leaf)
def ty_s_copyShapes : List (Nat × Ty) := [(4, .bool)]
def vr_s_copyShapes : Nat → Nat := fun _ => 0
abbrev sg_s_newKind : Sig := ⟨[.leaf (.int .i64)], [.leaf (.int .i64)]⟩
def an_s_newKind : Ann := .seq none .leaf (.seq none (.seq none .leaf (.block (.seq none .leaf (.cond (.seq none .leaf .leaf) (.seq none .leaf (.cond (.seq none .leaf .leaf) (.seq none .leaf (.cond (.seq none .leaf .leaf) (.seq none .leaf (.cond (.seq none .leaf .leaf) (.seq none .leaf (.cond (.seq none .leaf .leaf) (.seq none .leaf (.cond (.seq none .leaf .leaf) .leaf)))))))))))))) (.seq none .leaf .leaf))
def ty_s_newKind : List (Nat × Ty) := []
def vr_s_newKind : Nat → Nat := fun _ => 0
abbrev sg_s_pushShape : Sig := ⟨[.agg [.own 3 (.int .i64), .own 4 .bool, .own 3 (.int .i64), .own 3 (.int .i64), .bool], .leaf (.int .i64)], [.agg [.own 3 (.int .i64), .own 4 .bool, .own 3 (.int .i64), .own 3 (.int .i64), .bool]]⟩
def an_s_pushShape : Ann := .seq none .leaf (.seq none .leaf (.seq none .leaf (.seq none .leaf (.seq none .leaf .leaf))))
def ty_s_pushShape : List (Nat × Ty) := [(3, (.int .i64)), (4, .bool)]
def vr_s_pushShape : Nat → Nat := fun _ => 0
abbrev sg_s_shapeAt : Sig := ⟨[.agg [.ro (.int .i64), .ro .bool, .ro (.int .i64), .ro (.int .i64), .bool], .leaf (.int .i64)], [.leaf (.int .i64)]⟩
def an_s_shapeAt : Ann := .seq none .leaf (.seq none .leaf (.seq none (.seq (some ⟨[2, 5, 21], [.box 54 [.ro (.int .i64), .ro .bool, .ro (.int .i64), .ro (.int .i64), .bool] [], .leaf (.int .i64), .leaf .bool]⟩) .leaf (.cond (.seq none .leaf .leaf) .leaf)) (.seq none .leaf .leaf)))
def ty_s_shapeAt : List (Nat × Ty) := []
def vr_s_shapeAt : Nat → Nat := fun _ => 0
abbrev sg_s_keyKind : Sig := ⟨[.leaf (.int .i64)], [.leaf .bool]⟩
def an_s_keyKind : Ann := .seq none .leaf (.seq none .leaf .leaf)
def ty_s_keyKind : List (Nat × Ty) := []
def vr_s_keyKind : Nat → Nat := fun _ => 0
abbrev sg_s_markShapes : Sig := ⟨[.agg [.own 3 (.int .i64), .own 4 .bool, .own 3 (.int .i64), .own 3 (.int .i64), .bool], .leaf (.int .i64)], [.agg [.own 3 (.int .i64), .own 4 .bool, .own 3 (.int .i64), .own 3 (.int .i64), .bool], .leaf .bool]⟩
def an_s_markShapes : Ann := .seq none .leaf (.seq none .leaf (.seq none (.block (.loop ⟨[1, 2, 4, 6], [.leaf (.int .i64), .box 54 [.own 3 (.int .i64), .own 4 .bool, .own 3 (.int .i64), .own 3 (.int .i64), .bool] [], .box 54 [.nil, .nil, .nil, .nil, .bool] [], .leaf (.int .i64)]⟩ (.seq none (.seq (some ⟨[1, 2, 4, 6, 22], [.leaf (.int .i64), .box 54 [.own 3 (.int .i64), .own 4 .bool, .own 3 (.int .i64), .own 3 (.int .i64), .bool] [], .box 54 [.nil, .nil, .nil, .nil, .bool] [], .leaf (.int .i64), .leaf .bool]⟩) .leaf (.cond .leaf .leaf)) (.block .leaf)))) (.seq none (.seq none .leaf (.cond (.seq none .leaf .leaf) .leaf)) (.seq none .leaf (.seq none .leaf (.seq none (.seq none .leaf (.block (.seq none .leaf (.cond (.seq none .leaf .leaf) (.seq none .leaf (.cond (.seq none .leaf .leaf) (.seq none .leaf (.cond (.seq none (.seq none .leaf (.block (.loop ⟨[2, 4, 7, 8], [.box 54 [.own 3 (.int .i64), .own 4 .bool, .own 3 (.int .i64), .own 3 (.int .i64), .bool] [], .box 54 [.nil, .nil, .nil, .nil, .bool] [], .leaf (.own 3 (.int .i64)), .leaf (.int .i64)]⟩ (.seq none (.seq none .leaf (.cond .leaf .leaf)) (.seq none (.block (.seq none .leaf (.cond (.seq none .leaf .leaf) .leaf))) .leaf))))) (.seq none .leaf .leaf)) .leaf)))))))) (.seq none .leaf .leaf)))))))
def ty_s_markShapes : List (Nat × Ty) := []
def vr_s_markShapes : Nat → Nat := fun _ => 0
abbrev sg_s_takeShapes : Sig := ⟨[.agg [.own 3 (.int .i64), .own 4 .bool, .own 3 (.int .i64), .own 3 (.int .i64), .bool], .agg [.int .i64, .int .i64]], [.agg [.own 3 (.int .i64), .own 4 .bool, .own 3 (.int .i64), .own 3 (.int .i64), .bool], .leaf .bool]⟩
def an_s_takeShapes : Ann := .seq none .leaf (.seq none .leaf (.seq none .leaf (.seq none .leaf (.seq none .leaf (.seq (some ⟨[2, 4, 8, 9], [.box 54 [.own 3 (.int .i64), .own 4 .bool, .own 3 (.int .i64), .own 3 (.int .i64), .bool] [], .box 54 [.nil, .nil, .nil, .nil, .bool] [], .leaf .bool, .leaf (.int .i64)]⟩) (.seq none .leaf (.block (.seq none .leaf (.cond (.seq none (.seq none .leaf (.cond (.seq none .leaf .leaf) .leaf)) (.seq none .leaf (.seq none .leaf .leaf))) (.seq none .leaf (.cond (.seq none (.seq (some ⟨[2, 4, 40], [.box 54 [.own 3 (.int .i64), .own 4 .bool, .own 3 (.int .i64), .own 3 (.int .i64), .bool] [], .box 54 [.nil, .nil, .nil, .nil, .bool] [], .leaf .bool]⟩) .leaf (.cond (.seq none .leaf .leaf) .leaf)) (.seq none .leaf (.seq none .leaf .leaf))) (.seq none .leaf (.cond .leaf (.seq none .leaf (.cond (.seq none .leaf .leaf) (.seq none .leaf (.cond (.seq (some ⟨[2, 4, 8, 9], [.box 54 [.own 3 (.int .i64), .own 4 .bool, .own 3 (.int .i64), .own 3 (.int .i64), .bool] [], .box 54 [.nil, .nil, .nil, .nil, .bool] [], .leaf .bool, .leaf (.int .i64)]⟩) .leaf (.seq none .leaf (.cond .leaf .leaf))) (.seq none .leaf (.cond (.seq none (.seq none .leaf (.cond .leaf .leaf)) .leaf) (.seq none .leaf (.cond (.seq none .leaf (.seq none .leaf .leaf)) .leaf)))))))))))))))) (.seq none (.seq none .leaf (.cond (.seq none .leaf .leaf) .leaf)) (.seq none .leaf (.seq none .leaf .leaf))))))))
def ty_s_takeShapes : List (Nat × Ty) := []
def vr_s_takeShapes : Nat → Nat := fun _ => 0
abbrev sg_s_stepShapes : Sig := ⟨[.agg [.own 3 (.int .i64), .own 4 .bool, .own 3 (.int .i64), .own 3 (.int .i64), .bool], .agg [.int .i64, .int .i64]], [.agg [.own 3 (.int .i64), .own 4 .bool, .own 3 (.int .i64), .own 3 (.int .i64), .bool], .leaf .bool]⟩
def an_s_stepShapes : Ann := .seq none .leaf (.seq none .leaf (.seq none (.seq none .leaf (.cond (.seq none .leaf .leaf) .leaf)) (.seq (some ⟨[2, 4, 6], [.box 54 [.own 3 (.int .i64), .own 4 .bool, .own 3 (.int .i64), .own 3 (.int .i64), .bool] [], .box 54 [.nil, .nil, .nil, .nil, .bool] [], .leaf .bool]⟩) (.block (.seq none .leaf (.cond .leaf (.seq none .leaf (.cond .leaf (.seq none .leaf (.cond (.seq none (.seq none .leaf (.cond (.seq none .leaf .leaf) .leaf)) .leaf) (.seq (some ⟨[2, 3, 4, 61], [.box 54 [.own 3 (.int .i64), .own 4 .bool, .own 3 (.int .i64), .own 3 (.int .i64), .bool] [], .box 28 [.int .i64, .int .i64] [], .box 54 [.nil, .nil, .nil, .nil, .bool] [], .leaf .bool]⟩) .leaf (.cond .leaf .leaf))))))))) (.seq none .leaf .leaf))))
def ty_s_stepShapes : List (Nat × Ty) := [(3, (.int .i64))]
def vr_s_stepShapes : Nat → Nat := fun _ => 0
abbrev sg_s_argOf : Sig := ⟨[.leaf (.int .i64)], [.leaf (.int .i64)]⟩
def an_s_argOf : Ann := .seq none .leaf (.seq none (.seq none .leaf (.block (.seq none .leaf (.cond (.seq none .leaf .leaf) (.seq none .leaf (.cond (.seq none .leaf .leaf) (.seq none .leaf (.cond (.seq none .leaf .leaf) (.seq (some ⟨[10], [.leaf .bool]⟩) (.seq none .leaf (.cond .leaf .leaf)) (.cond (.seq none .leaf .leaf) .leaf)))))))))) (.seq none .leaf .leaf))
def ty_s_argOf : List (Nat × Ty) := []
def vr_s_argOf : Nat → Nat := fun _ => 0
abbrev sg_s_inRange : Sig := ⟨[.leaf (.int .i64), .leaf (.int .i64), .leaf (.int .i64)], [.leaf .bool]⟩
def an_s_inRange : Ann := .seq none .leaf (.seq none .leaf .leaf)
def ty_s_inRange : List (Nat × Ty) := []
def vr_s_inRange : Nat → Nat := fun _ => 0
abbrev sg_s_validOp : Sig := ⟨[.agg [.int .i64, .int .i64]], [.leaf .bool]⟩
def an_s_validOp : Ann := .seq none .leaf (.seq none .leaf (.seq none .leaf .leaf))
def ty_s_validOp : List (Nat × Ty) := []
def vr_s_validOp : Nat → Nat := fun _ => 0
abbrev sg_s_validOps : Sig := ⟨[.leaf (.ro (.pair (.int .i64) (.int .i64)))], [.leaf .bool]⟩
def an_s_validOps : Ann := .seq none .leaf (.seq none (.seq none .leaf (.block (.loop ⟨[0, 3], [.leaf (.ro (.pair (.int .i64) (.int .i64))), .leaf (.int .i64)]⟩ (.seq none (.seq none .leaf (.cond .leaf .leaf)) (.seq none (.block (.seq none .leaf (.cond (.seq none .leaf .leaf) .leaf))) .leaf))))) (.seq none .leaf .leaf))
def ty_s_validOps : List (Nat × Ty) := []
def vr_s_validOps : Nat → Nat := fun _ => 0
abbrev sg_s_runShapes : Sig := ⟨[.leaf (.ro (.pair (.int .i64) (.int .i64)))], [.agg [.own 3 (.int .i64), .own 4 .bool, .own 3 (.int .i64), .own 3 (.int .i64), .bool], .leaf (.int .i64)]⟩
def an_s_runShapes : Ann := .seq none .leaf (.seq none .leaf (.seq none (.seq none .leaf (.block (.loop ⟨[0, 2, 4, 5], [.leaf (.ro (.pair (.int .i64) (.int .i64))), .box 54 [.nil, .nil, .nil, .nil, .bool] [], .box 54 [.own 3 (.int .i64), .own 4 .bool, .own 3 (.int .i64), .own 3 (.int .i64), .bool] [], .leaf (.int .i64)]⟩ (.seq none (.seq none .leaf (.cond .leaf .leaf)) (.seq none (.block (.seq none .leaf (.seq none (.seq none .leaf (.cond (.seq none .leaf .leaf) .leaf)) .leaf))) .leaf))))) (.seq none .leaf .leaf)))
def ty_s_runShapes : List (Nat × Ty) := []
def vr_s_runShapes : Nat → Nat := fun _ => 0
abbrev sg_s_EndOps : Sig := ⟨[.leaf (.ro (.pair (.int .i64) (.int .i64)))], [.leaf (.own 28 (.pair (.int .i64) (.int .i64))), .leaf .bool]⟩
def an_s_EndOps : Ann := .seq none .leaf (.seq none (.seq none .leaf (.cond (.seq none .leaf .leaf) .leaf)) (.seq none .leaf (.seq none .leaf (.seq none (.seq none .leaf (.cond (.seq none .leaf .leaf) .leaf)) (.seq none .leaf (.seq none (.seq none .leaf (.block (.loop ⟨[0, 4, 5, 6, 7, 8], [.leaf (.ro (.pair (.int .i64) (.int .i64))), .box 54 [.own 3 (.int .i64), .own 4 .bool, .own 3 (.int .i64), .own 3 (.int .i64), .bool] [], .leaf (.int .i64), .leaf (.own 28 (.pair (.int .i64) (.int .i64))), .leaf (.int .i64), .leaf (.int .i64)]⟩ (.seq none (.seq none .leaf (.cond .leaf .leaf)) (.seq (some ⟨[0, 4, 5, 6, 7, 8], [.leaf (.ro (.pair (.int .i64) (.int .i64))), .box 54 [.own 3 (.int .i64), .own 4 .bool, .own 3 (.int .i64), .own 3 (.int .i64), .bool] [], .leaf (.int .i64), .leaf (.own 28 (.pair (.int .i64) (.int .i64))), .leaf (.int .i64), .leaf (.int .i64)]⟩) (.block (.seq none .leaf (.cond .leaf .leaf))) .leaf))))) (.seq none (.seq none .leaf (.block (.loop ⟨[0, 4, 5, 6, 7, 9], [.leaf (.ro (.pair (.int .i64) (.int .i64))), .box 54 [.own 3 (.int .i64), .own 4 .bool, .own 3 (.int .i64), .own 3 (.int .i64), .bool] [], .leaf (.int .i64), .leaf (.own 28 (.pair (.int .i64) (.int .i64))), .leaf (.int .i64), .leaf (.int .i64)]⟩ (.seq none (.seq none .leaf (.cond .leaf .leaf)) (.seq none (.block .leaf) .leaf))))) (.seq none .leaf (.seq none (.block (.loop ⟨[0, 4, 5, 6, 7, 10], [.leaf (.ro (.pair (.int .i64) (.int .i64))), .box 54 [.own 3 (.int .i64), .own 4 .bool, .own 3 (.int .i64), .own 3 (.int .i64), .bool] [], .leaf (.int .i64), .leaf (.own 28 (.pair (.int .i64) (.int .i64))), .leaf (.int .i64), .leaf (.int .i64)]⟩ (.seq none (.seq (some ⟨[0, 4, 5, 6, 7, 10, 63], [.leaf (.ro (.pair (.int .i64) (.int .i64))), .box 54 [.own 3 (.int .i64), .own 4 .bool, .own 3 (.int .i64), .own 3 (.int .i64), .bool] [], .leaf (.int .i64), .leaf (.own 28 (.pair (.int .i64) (.int .i64))), .leaf (.int .i64), .leaf (.int .i64), .leaf .bool]⟩) .leaf (.cond .leaf .leaf)) (.block .leaf)))) (.seq (some ⟨[0, 5, 6, 10], [.leaf (.ro (.pair (.int .i64) (.int .i64))), .leaf (.int .i64), .leaf (.own 28 (.pair (.int .i64) (.int .i64))), .leaf (.int .i64)]⟩) (.seq none .leaf (.cond .leaf .leaf)) (.seq none (.seq none .leaf (.block (.loop ⟨[0, 5, 6, 10, 11], [.leaf (.ro (.pair (.int .i64) (.int .i64))), .leaf (.int .i64), .leaf (.own 28 (.pair (.int .i64) (.int .i64))), .leaf (.int .i64), .leaf (.int .i64)]⟩ (.seq none (.seq none .leaf (.cond .leaf .leaf)) (.seq none (.block .leaf) .leaf))))) (.seq (some ⟨[0, 5, 6], [.leaf (.ro (.pair (.int .i64) (.int .i64))), .leaf (.int .i64), .leaf (.own 28 (.pair (.int .i64) (.int .i64)))]⟩) (.seq none .leaf (.cond .leaf .leaf)) (.seq none .leaf (.seq (some ⟨[6, 12], [.leaf (.own 28 (.pair (.int .i64) (.int .i64))), .leaf (.ro (.pair (.int .i64) (.int .i64)))]⟩) .leaf (.seq none .leaf (.seq none (.seq (some ⟨[6, 109], [.leaf (.own 28 (.pair (.int .i64) (.int .i64))), .leaf .bool]⟩) .leaf (.cond (.seq none .leaf .leaf) .leaf)) (.seq none .leaf .leaf)))))))))))))))))
def ty_s_EndOps : List (Nat × Ty) := [(28, (.pair (.int .i64) (.int .i64)))]
def vr_s_EndOps : Nat → Nat := fun _ => 0
abbrev sg_s_CutOps : Sig := ⟨[.leaf (.ro (.pair (.int .i64) (.int .i64)))], [.leaf (.own 28 (.pair (.int .i64) (.int .i64)))]⟩
def an_s_CutOps : Ann := .seq none .leaf (.seq none (.seq none .leaf (.cond (.seq none .leaf .leaf) .leaf)) (.seq none .leaf (.seq none .leaf .leaf)))
def ty_s_CutOps : List (Nat × Ty) := [(28, (.pair (.int .i64) (.int .i64)))]
def vr_s_CutOps : Nat → Nat := fun _ => 0
abbrev sg_s_likelyOps : Sig := ⟨[.box 83 [.ro (.int .u8), .int .i64] [.ro (.int .u8), .int .i64]], [.leaf (.own 28 (.pair (.int .i64) (.int .i64)))]⟩
def an_s_likelyOps : Ann := .seq none .leaf (.seq none .leaf (.seq none .leaf (.seq none (.seq none .leaf (.block (.loop ⟨[0, 3, 4, 5], [.box 83 [.ro (.int .u8), .int .i64] [], .leaf (.own 28 (.pair (.int .i64) (.int .i64))), .box 54 [.own 3 (.int .i64), .own 4 .bool, .own 3 (.int .i64), .own 3 (.int .i64), .bool] [], .leaf (.int .i64)]⟩ (.seq none (.seq none .leaf (.cond .leaf .leaf)) (.seq (some ⟨[0, 3, 4, 5], [.box 83 [.ro (.int .u8), .int .i64] [], .leaf (.own 28 (.pair (.int .i64) (.int .i64))), .box 54 [.own 3 (.int .i64), .own 4 .bool, .own 3 (.int .i64), .own 3 (.int .i64), .bool] [], .leaf (.int .i64)]⟩) (.block (.seq none .leaf (.seq none (.seq (some ⟨[0, 3, 4, 5, 6, 29], [.box 83 [.ro (.int .u8), .int .i64] [], .leaf (.own 28 (.pair (.int .i64) (.int .i64))), .box 54 [.own 3 (.int .i64), .own 4 .bool, .own 3 (.int .i64), .own 3 (.int .i64), .bool] [], .leaf (.int .i64), .box 28 [.int .i64, .int .i64] [], .leaf .bool]⟩) .leaf (.cond .leaf .leaf)) (.seq none .leaf (.seq (some ⟨[0, 3, 4, 5, 6, 8], [.box 83 [.ro (.int .u8), .int .i64] [], .leaf (.own 28 (.pair (.int .i64) (.int .i64))), .box 54 [.own 3 (.int .i64), .own 4 .bool, .own 3 (.int .i64), .own 3 (.int .i64), .bool] [], .leaf (.int .i64), .box 28 [.int .i64, .int .i64] [], .leaf .bool]⟩) (.seq none .leaf (.cond .leaf .leaf)) (.seq (some ⟨[0, 3, 4, 5, 6, 44], [.box 83 [.ro (.int .u8), .int .i64] [], .leaf (.own 28 (.pair (.int .i64) (.int .i64))), .box 54 [.own 3 (.int .i64), .own 4 .bool, .own 3 (.int .i64), .own 3 (.int .i64), .bool] [], .leaf (.int .i64), .box 28 [.int .i64, .int .i64] [], .leaf .bool]⟩) .leaf (.cond .leaf .leaf))))))) .leaf))))) (.seq none (.seq none .leaf (.cond (.seq none .leaf (.seq none .leaf (.cond .leaf .leaf))) .leaf)) (.seq none .leaf .leaf)))))
def ty_s_likelyOps : List (Nat × Ty) := [(3, (.int .i64)), (28, (.pair (.int .i64) (.int .i64)))]
def vr_s_likelyOps : Nat → Nat := fun _ => 0
abbrev sg_s_someNode : Sig := ⟨[.box 83 [.ro (.int .u8), .int .i64] [.ro (.int .u8), .int .i64]], [.agg [.int .i64, .int .i64, .nil]]⟩
def an_s_someNode : Ann := .seq none .leaf (.seq none (.seq none .leaf (.block (.seq none .leaf (.cond (.seq none .leaf .leaf) (.seq none .leaf (.cond (.seq none .leaf .leaf) (.seq (some ⟨[0, 2, 4, 18], [.box 83 [.ro (.int .u8), .int .i64] [], .box 35 [.int .i64, .int .i64, .nil] [], .leaf (.int .i64), .leaf .bool]⟩) (.seq none .leaf (.cond .leaf .leaf)) (.cond (.seq none .leaf .leaf) (.seq (some ⟨[0, 2, 4, 22], [.box 83 [.ro (.int .u8), .int .i64] [], .box 35 [.int .i64, .int .i64, .nil] [], .leaf (.int .i64), .leaf .bool]⟩) (.seq none .leaf (.cond .leaf .leaf)) (.cond (.seq none .leaf .leaf) (.seq none .leaf (.cond (.seq none .leaf .leaf) .leaf)))))))))))) (.seq none .leaf .leaf))
def ty_s_someNode : List (Nat × Ty) := [(3, (.int .i64))]
def vr_s_someNode : Nat → Nat := fun _ => 0
abbrev sg_s_isKey : Sig := ⟨[.agg [.int .i64, .int .i64, .any]], [.leaf .bool]⟩
def an_s_isKey : Ann := .seq none .leaf (.seq none .leaf .leaf)
def ty_s_isKey : List (Nat × Ty) := []
def vr_s_isKey : Nat → Nat := fun _ => 0
abbrev sg_s_allIn : Sig := ⟨[.leaf (.ro (.int .i64)), .leaf (.int .i64), .leaf (.int .i64)], [.leaf .bool]⟩
def an_s_allIn : Ann := .seq none .leaf (.seq none (.seq none .leaf (.block (.loop ⟨[0, 1, 2, 7], [.leaf (.ro (.int .i64)), .leaf (.int .i64), .leaf (.int .i64), .leaf (.int .i64)]⟩ (.seq none (.seq none .leaf (.cond .leaf .leaf)) (.seq none (.block (.seq none .leaf (.cond (.seq none .leaf .leaf) .leaf))) .leaf))))) (.seq none .leaf .leaf))
def ty_s_allIn : List (Nat × Ty) := []
def vr_s_allIn : Nat → Nat := fun _ => 0
abbrev sg_s_sameKey : Sig := ⟨[.agg [.int .i64, .int .i64, .any], .agg [.int .i64, .int .i64, .any]], [.leaf .bool]⟩
def an_s_sameKey : Ann := .seq none .leaf (.seq none .leaf .leaf)
def ty_s_sameKey : List (Nat × Ty) := []
def vr_s_sameKey : Nat → Nat := fun _ => 0
abbrev sg_s_validDict : Sig := ⟨[.agg [.ro (.pair (.int .i64) (.pair (.int .i64) (.sl (.int .i64)))), .int .i64], .agg [.int .i64, .int .i64, .ro (.int .i64)]], [.leaf .bool]⟩
def an_s_validDict : Ann := .seq none .leaf (.seq none (.seq none .leaf (.block (.loop ⟨[2, 3, 5], [.box 42 [.ro (.pair (.int .i64) (.pair (.int .i64) (.sl (.int .i64)))), .int .i64] [], .box 35 [.int .i64, .int .i64, .ro (.int .i64)] [], .leaf (.int .i64)]⟩ (.seq none (.seq none .leaf (.cond .leaf .leaf)) (.seq none (.block (.seq none (.seq none .leaf (.cond (.seq none .leaf .leaf) .leaf)) (.seq none .leaf (.block (.loop ⟨[2, 3, 5, 6], [.box 42 [.ro (.pair (.int .i64) (.pair (.int .i64) (.sl (.int .i64)))), .int .i64] [], .box 35 [.int .i64, .int .i64, .ro (.int .i64)] [], .leaf (.int .i64), .leaf (.int .i64)]⟩ (.seq none (.seq none .leaf (.cond .leaf .leaf)) (.seq none (.block (.seq none .leaf (.cond (.seq none .leaf .leaf) .leaf))) .leaf))))))) .leaf))))) (.seq none .leaf .leaf))
def ty_s_validDict : List (Nat × Ty) := []
def vr_s_validDict : Nat → Nat := fun _ => 0
abbrev sg_s_validNode : Sig := ⟨[.agg [.ro (.pair (.int .i64) (.pair (.int .i64) (.sl (.int .i64)))), .int .i64], .agg [.int .i64, .int .i64, .ro (.int .i64)]], [.leaf .bool]⟩
def an_s_validNode : Ann := .seq none .leaf (.seq none (.seq (some ⟨[2, 3, 18], [.box 42 [.ro (.pair (.int .i64) (.pair (.int .i64) (.sl (.int .i64)))), .int .i64] [], .box 35 [.int .i64, .int .i64, .ro (.int .i64)] [], .leaf .bool]⟩) .leaf (.cond (.seq none .leaf .leaf) .leaf)) (.seq none (.seq none .leaf (.block (.seq none .leaf (.cond (.seq none .leaf .leaf) (.seq none .leaf (.cond (.seq none .leaf .leaf) (.seq (some ⟨[2, 3, 20, 43], [.box 42 [.ro (.pair (.int .i64) (.pair (.int .i64) (.sl (.int .i64)))), .int .i64] [], .box 35 [.int .i64, .int .i64, .ro (.int .i64)] [], .leaf (.int .i64), .leaf .bool]⟩) (.seq none .leaf (.cond .leaf .leaf)) (.cond (.seq none .leaf .leaf) (.seq none .leaf (.cond (.seq none .leaf .leaf) (.seq none .leaf (.cond (.seq none .leaf .leaf) .leaf)))))))))))) (.seq none .leaf .leaf)))
def ty_s_validNode : List (Nat × Ty) := []
def vr_s_validNode : Nat → Nat := fun _ => 0
abbrev sg_s_placeIn : Sig := ⟨[.leaf (.ro (.int .i64)), .leaf (.int .i64)], [.leaf (.int .i64)]⟩
def an_s_placeIn : Ann := .seq none .leaf (.seq none (.seq none .leaf (.block (.loop ⟨[0, 1, 5], [.leaf (.ro (.int .i64)), .leaf (.int .i64), .leaf (.int .i64)]⟩ (.seq none (.seq none .leaf (.cond .leaf .leaf)) (.seq none (.block (.seq none .leaf (.cond (.seq none .leaf .leaf) .leaf))) .leaf))))) (.seq none .leaf .leaf))
def ty_s_placeIn : List (Nat × Ty) := []
def vr_s_placeIn : Nat → Nat := fun _ => 0
abbrev sg_s_tupleReach : Sig := ⟨[.agg [.ro (.pair (.int .i64) (.pair (.int .i64) (.sl (.int .i64)))), .int .i64], .leaf (.int .i64)], [.leaf (.own 3 (.int .i64))]⟩
def an_s_tupleReach : Ann := .seq none .leaf (.seq none .leaf (.seq none .leaf (.seq none (.seq none .leaf (.block (.loop ⟨[2, 5, 6, 7], [.box 42 [.ro (.pair (.int .i64) (.pair (.int .i64) (.sl (.int .i64)))), .int .i64] [], .leaf (.own 3 (.int .i64)), .leaf (.own 3 (.int .i64)), .leaf (.int .i64)]⟩ (.seq none (.seq none .leaf (.cond .leaf .leaf)) (.seq (some ⟨[2, 5, 6, 7], [.box 42 [.ro (.pair (.int .i64) (.pair (.int .i64) (.sl (.int .i64)))), .int .i64] [], .leaf (.own 3 (.int .i64)), .leaf (.own 3 (.int .i64)), .leaf (.int .i64)]⟩) (.block (.seq none .leaf (.cond (.seq none .leaf (.seq none .leaf (.cond .leaf .leaf))) .leaf))) .leaf))))) (.seq none .leaf .leaf))))
def ty_s_tupleReach : List (Nat × Ty) := [(3, (.int .i64))]
def vr_s_tupleReach : Nat → Nat := fun _ => 0
abbrev sg_s_validGraph : Sig := ⟨[.agg [.ro (.pair (.int .i64) (.pair (.int .i64) (.sl (.int .i64)))), .int .i64]], [.leaf .bool]⟩
def an_s_validGraph : Ann := .seq none .leaf (.seq none (.seq (some ⟨[1, 19], [.box 42 [.ro (.pair (.int .i64) (.pair (.int .i64) (.sl (.int .i64)))), .int .i64] [], .leaf .bool]⟩) .leaf (.cond (.seq none .leaf .leaf) .leaf)) (.seq none (.seq none .leaf (.block (.loop ⟨[1, 3], [.box 42 [.ro (.pair (.int .i64) (.pair (.int .i64) (.sl (.int .i64)))), .int .i64] [], .leaf (.int .i64)]⟩ (.seq none (.seq none .leaf (.cond .leaf .leaf)) (.seq none (.block (.seq none .leaf (.cond (.seq none .leaf .leaf) .leaf))) .leaf))))) (.seq none (.seq none .leaf (.block (.loop ⟨[1, 4], [.box 42 [.ro (.pair (.int .i64) (.pair (.int .i64) (.sl (.int .i64)))), .int .i64] [], .leaf (.int .i64)]⟩ (.seq none (.seq none .leaf (.cond .leaf .leaf)) (.seq none (.block (.seq (some ⟨[1, 4, 56], [.box 42 [.ro (.pair (.int .i64) (.pair (.int .i64) (.sl (.int .i64)))), .int .i64] [], .leaf (.int .i64), .leaf .bool]⟩) .leaf (.cond (.seq none .leaf .leaf) .leaf))) .leaf))))) (.seq none .leaf .leaf))))
def ty_s_validGraph : List (Nat × Ty) := []
def vr_s_validGraph : Nat → Nat := fun _ => 0
abbrev sg_s_addKids : Sig := ⟨[.box 83 [.ro (.int .u8), .int .i64] [.ro (.int .u8), .int .i64], .agg [.own 35 (.pair (.int .i64) (.pair (.int .i64) (.slo (.int .i64)))), .int .i64], .leaf (.int .i64)], [.agg [.own 35 (.pair (.int .i64) (.pair (.int .i64) (.slo (.int .i64)))), .int .i64]]⟩
def an_s_addKids : Ann := .seq none .leaf (.seq none .leaf (.seq none (.seq none .leaf (.block (.loop ⟨[0, 2, 4, 6, 7, 8], [.box 83 [.ro (.int .u8), .int .i64] [], .leaf (.int .i64), .box 42 [.own 35 (.pair (.int .i64) (.pair (.int .i64) (.slo (.int .i64)))), .int .i64] [], .box 42 [.nil, .int .i64] [], .box 35 [.int .i64, .int .i64, .own 3 (.int .i64)] [], .leaf (.int .i64)]⟩ (.seq none (.seq none .leaf (.cond .leaf .leaf)) (.seq (some ⟨[0, 2, 4, 6, 7, 8], [.box 83 [.ro (.int .u8), .int .i64] [], .leaf (.int .i64), .box 42 [.own 35 (.pair (.int .i64) (.pair (.int .i64) (.slo (.int .i64)))), .int .i64] [], .box 42 [.nil, .int .i64] [], .box 35 [.int .i64, .int .i64, .own 3 (.int .i64)] [], .leaf (.int .i64)]⟩) (.block (.seq none .leaf (.seq none .leaf (.block (.seq (some ⟨[0, 2, 4, 6, 7, 8, 9, 29, 30], [.box 83 [.ro (.int .u8), .int .i64] [], .leaf (.int .i64), .box 42 [.own 35 (.pair (.int .i64) (.pair (.int .i64) (.slo (.int .i64)))), .int .i64] [], .box 42 [.nil, .int .i64] [], .box 35 [.int .i64, .int .i64, .own 3 (.int .i64)] [], .leaf (.int .i64), .leaf (.int .i64), .leaf (.int .i64), .leaf .bool]⟩) (.seq none .leaf (.cond .leaf .leaf)) (.cond .leaf (.seq none .leaf (.cond .leaf (.seq none .leaf (.cond (.seq (some ⟨[0, 2, 4, 6, 7, 8, 9, 57], [.box 83 [.ro (.int .u8), .int .i64] [], .leaf (.int .i64), .box 42 [.own 35 (.pair (.int .i64) (.pair (.int .i64) (.slo (.int .i64)))), .int .i64] [], .box 42 [.nil, .int .i64] [], .box 35 [.int .i64, .int .i64, .own 3 (.int .i64)] [], .leaf (.int .i64), .leaf (.int .i64), .leaf .bool]⟩) .leaf (.cond .leaf .leaf)) .leaf)))))))))) .leaf))))) (.seq none .leaf (.seq none .leaf (.seq (some ⟨[0, 4, 6], [.box 83 [.ro (.int .u8), .int .i64] [], .box 42 [.own 35 (.pair (.int .i64) (.pair (.int .i64) (.slo (.int .i64)))), .int .i64] [], .box 42 [.nil, .int .i64] []]⟩) (.seq none .leaf (.cond .leaf .leaf)) (.seq none .leaf .leaf))))))
def ty_s_addKids : List (Nat × Ty) := [(3, (.int .i64))]
def vr_s_addKids : Nat → Nat := fun _ => 0
abbrev sg_s_someGraph : Sig := ⟨[.box 83 [.ro (.int .u8), .int .i64] [.ro (.int .u8), .int .i64]], [.agg [.ro (.pair (.int .i64) (.pair (.int .i64) (.sl (.int .i64)))), .int .i64]]⟩
def an_s_someGraph : Ann := .seq none .leaf (.seq none .leaf (.seq none (.seq none .leaf (.block (.loop ⟨[0, 2, 3, 4], [.box 83 [.ro (.int .u8), .int .i64] [], .box 42 [.nil, .int .i64] [], .box 42 [.own 35 (.pair (.int .i64) (.pair (.int .i64) (.slo (.int .i64)))), .int .i64] [], .leaf (.int .i64)]⟩ (.seq none (.seq none .leaf (.cond .leaf .leaf)) (.seq none (.block .leaf) .leaf))))) (.seq none .leaf (.seq none (.seq none .leaf (.block (.loop ⟨[0, 2, 3, 5], [.box 83 [.ro (.int .u8), .int .i64] [], .box 42 [.nil, .int .i64] [], .box 42 [.own 35 (.pair (.int .i64) (.pair (.int .i64) (.slo (.int .i64)))), .int .i64] [], .leaf (.int .i64)]⟩ (.seq none (.seq none .leaf (.cond .leaf .leaf)) (.seq none (.block .leaf) .leaf))))) (.seq (some ⟨[0, 2, 3], [.box 83 [.ro (.int .u8), .int .i64] [], .box 42 [.nil, .int .i64] [], .box 42 [.own 35 (.pair (.int .i64) (.pair (.int .i64) (.slo (.int .i64)))), .int .i64] []]⟩) (.seq none .leaf (.cond .leaf .leaf)) (.seq none .leaf .leaf))))))
def ty_s_someGraph : List (Nat × Ty) := [(3, (.int .i64)), (35, (.pair (.int .i64) (.pair (.int .i64) (.slo (.int .i64)))))]
def vr_s_someGraph : Nat → Nat := fun _ => 0
abbrev sg_s_emptyMemo : Sig := ⟨[.agg [.ro (.pair (.int .i64) (.pair (.int .i64) (.sl (.int .i64)))), .int .i64]], [.leaf (.own 3 (.int .i64))]⟩
def an_s_emptyMemo : Ann := .seq none .leaf (.seq none .leaf (.seq none (.seq none .leaf (.block (.loop ⟨[1, 3, 4], [.box 42 [.ro (.pair (.int .i64) (.pair (.int .i64) (.sl (.int .i64)))), .int .i64] [], .leaf (.own 3 (.int .i64)), .leaf (.int .i64)]⟩ (.seq none (.seq none .leaf (.cond .leaf .leaf)) (.seq none (.block .leaf) .leaf))))) (.seq none .leaf .leaf)))
def ty_s_emptyMemo : List (Nat × Ty) := [(3, (.int .i64))]
def vr_s_emptyMemo : Nat → Nat := fun _ => 0
abbrev sg_s_emit : Sig := ⟨[.leaf (.ro (.pair (.int .i64) (.int .i64))), .leaf (.ro (.pair (.int .i64) (.int .i64)))], [.leaf (.own 28 (.pair (.int .i64) (.int .i64)))]⟩
def an_s_emit : Ann := .seq none .leaf (.seq none .leaf .leaf)
def ty_s_emit : List (Nat × Ty) := [(28, (.pair (.int .i64) (.int .i64)))]
def vr_s_emit : Nat → Nat := fun _ => 0
abbrev sg_s_memoed : Sig := ⟨[.leaf (.ro (.pair (.int .i64) (.int .i64))), .leaf (.ro (.int .i64)), .leaf (.int .i64)], [.leaf (.own 28 (.pair (.int .i64) (.int .i64))), .leaf (.own 3 (.int .i64))]⟩
def an_s_memoed : Ann := .seq none .leaf (.seq none .leaf (.seq none (.seq none .leaf (.block (.loop ⟨[0, 1, 2, 8, 9], [.leaf (.ro (.pair (.int .i64) (.int .i64))), .leaf (.ro (.int .i64)), .leaf (.int .i64), .leaf (.int .i64), .leaf (.int .i64)]⟩ (.seq none (.seq none .leaf (.cond .leaf .leaf)) (.seq (some ⟨[0, 1, 2, 8, 9], [.leaf (.ro (.pair (.int .i64) (.int .i64))), .leaf (.ro (.int .i64)), .leaf (.int .i64), .leaf (.int .i64), .leaf (.int .i64)]⟩) (.block (.seq none .leaf (.cond .leaf .leaf))) .leaf))))) (.seq none .leaf (.seq none .leaf (.seq none .leaf .leaf)))))
def ty_s_memoed : List (Nat × Ty) := [(28, (.pair (.int .i64) (.int .i64)))]
def vr_s_memoed : Nat → Nat := fun _ => 0
abbrev sg_s_saveAll : Sig := ⟨[.agg [.ro (.pair (.int .i64) (.pair (.int .i64) (.sl (.int .i64)))), .int .i64], .leaf (.int .i64), .leaf (.ro (.int .i64)), .leaf (.ro (.pair (.int .i64) (.int .i64))), .leaf (.ro (.int .i64))], [.leaf (.ro (.pair (.int .i64) (.int .i64))), .leaf (.ro (.int .i64))]⟩
def an_s_saveAll : Ann := .seq none .leaf (.seq none (.seq none .leaf (.block (.loop ⟨[1, 2, 3, 4, 5, 12], [.leaf (.int .i64), .leaf (.ro (.int .i64)), .leaf (.ro (.pair (.int .i64) (.int .i64))), .leaf (.ro (.int .i64)), .box 42 [.ro (.pair (.int .i64) (.pair (.int .i64) (.sl (.int .i64)))), .int .i64] [], .leaf (.int .i64)]⟩ (.seq none (.seq none .leaf (.cond .leaf .leaf)) (.seq none (.block .leaf) .leaf))))) (.seq none .leaf .leaf))
def ty_s_saveAll : List (Nat × Ty) := []
def vr_s_saveAll : Nat → Nat := fun _ => 0
abbrev sg_s_saveTuple : Sig := ⟨[.agg [.ro (.pair (.int .i64) (.pair (.int .i64) (.sl (.int .i64)))), .int .i64], .leaf (.int .i64), .leaf (.int .i64), .leaf (.ro (.pair (.int .i64) (.int .i64))), .leaf (.ro (.int .i64))], [.leaf (.ro (.pair (.int .i64) (.int .i64))), .leaf (.ro (.int .i64))]⟩
def an_s_saveTuple : Ann := .seq none .leaf (.seq none .leaf (.seq none (.seq none .leaf (.cond (.seq none .leaf .leaf) .leaf)) (.seq (some ⟨[1, 2, 3, 4, 5, 12, 13], [.leaf (.int .i64), .leaf (.int .i64), .leaf (.ro (.pair (.int .i64) (.int .i64))), .leaf (.ro (.int .i64)), .box 42 [.ro (.pair (.int .i64) (.pair (.int .i64) (.sl (.int .i64)))), .int .i64] [], .leaf (.ro (.int .i64)), .leaf .bool]⟩) .leaf (.seq (some ⟨[1, 2, 3, 4, 5, 12, 13], [.leaf (.int .i64), .leaf (.int .i64), .leaf (.ro (.pair (.int .i64) (.int .i64))), .leaf (.ro (.int .i64)), .box 42 [.ro (.pair (.int .i64) (.pair (.int .i64) (.sl (.int .i64)))), .int .i64] [], .leaf (.ro (.int .i64)), .leaf .bool]⟩) (.seq none .leaf (.cond .leaf .leaf)) (.seq none .leaf (.seq none (.seq none .leaf (.cond (.seq none (.seq none .leaf (.block (.loop ⟨[2, 3, 4, 12, 13, 14], [.leaf (.int .i64), .leaf (.ro (.pair (.int .i64) (.int .i64))), .leaf (.ro (.int .i64)), .leaf (.ro (.int .i64)), .leaf .bool, .leaf (.int .i64)]⟩ (.seq none (.seq (some ⟨[2, 3, 4, 12, 13, 14, 67], [.leaf (.int .i64), .leaf (.ro (.pair (.int .i64) (.int .i64))), .leaf (.ro (.int .i64)), .leaf (.ro (.int .i64)), .leaf .bool, .leaf (.int .i64), .leaf .bool]⟩) .leaf (.cond .leaf .leaf)) (.seq none (.block .leaf) .leaf))))) (.seq (some ⟨[2, 3, 4], [.leaf (.int .i64), .leaf (.ro (.pair (.int .i64) (.int .i64))), .leaf (.ro (.int .i64))]⟩) (.seq none .leaf (.cond .leaf .leaf)) (.seq none .leaf .leaf))) .leaf)) (.seq none .leaf (.seq (some ⟨[2, 3, 4, 15], [.leaf (.int .i64), .leaf (.ro (.pair (.int .i64) (.int .i64))), .leaf (.ro (.int .i64)), .leaf (.int .i64)]⟩) (.seq none .leaf (.cond .leaf .leaf)) (.seq none .leaf .leaf)))))))))
def ty_s_saveTuple : List (Nat × Ty) := [(28, (.pair (.int .i64) (.int .i64)))]
def vr_s_saveTuple : Nat → Nat := fun _ => 0
abbrev sg_s_fill : Sig := ⟨[.agg [.ro (.pair (.int .i64) (.pair (.int .i64) (.sl (.int .i64)))), .int .i64], .leaf (.int .i64), .leaf (.ro (.int .i64)), .leaf (.int .i64), .leaf (.int .i64), .leaf (.int .i64), .leaf (.ro (.pair (.int .i64) (.int .i64))), .leaf (.ro (.int .i64))], [.leaf (.ro (.pair (.int .i64) (.int .i64))), .leaf (.ro (.int .i64))]⟩
def an_s_fill : Ann := .seq none .leaf (.seq none (.seq (some ⟨[1, 2, 3, 4, 5, 6, 7, 8, 26], [.leaf (.int .i64), .leaf (.ro (.int .i64)), .leaf (.int .i64), .leaf (.int .i64), .leaf (.int .i64), .leaf (.ro (.pair (.int .i64) (.int .i64))), .leaf (.ro (.int .i64)), .box 42 [.ro (.pair (.int .i64) (.pair (.int .i64) (.sl (.int .i64)))), .int .i64] [], .leaf .bool]⟩) .leaf (.cond (.seq none .leaf (.seq none .leaf (.seq none .leaf .leaf))) .leaf)) (.seq none (.seq none .leaf (.block (.loop ⟨[1, 2, 3, 4, 6, 7, 8, 18], [.leaf (.int .i64), .leaf (.ro (.int .i64)), .leaf (.int .i64), .leaf (.int .i64), .leaf (.ro (.pair (.int .i64) (.int .i64))), .leaf (.ro (.int .i64)), .box 42 [.ro (.pair (.int .i64) (.pair (.int .i64) (.sl (.int .i64)))), .int .i64] [], .leaf (.int .i64)]⟩ (.seq none (.seq none .leaf (.cond .leaf .leaf)) (.seq none (.block (.seq none .leaf .leaf)) .leaf))))) (.seq none .leaf .leaf)))
def ty_s_fill : List (Nat × Ty) := [(28, (.pair (.int .i64) (.int .i64)))]
def vr_s_fill : Nat → Nat := fun _ => 0
abbrev sg_s_save : Sig := ⟨[.agg [.ro (.pair (.int .i64) (.pair (.int .i64) (.sl (.int .i64)))), .int .i64], .leaf (.int .i64), .leaf (.int .i64), .leaf (.ro (.pair (.int .i64) (.int .i64))), .leaf (.ro (.int .i64))], [.leaf (.ro (.pair (.int .i64) (.int .i64))), .leaf (.ro (.int .i64))]⟩
def an_s_save : Ann := .seq none .leaf (.seq none .leaf (.seq none (.seq none .leaf (.cond (.seq none .leaf .leaf) .leaf)) (.seq none (.seq none .leaf (.block (.seq none .leaf (.cond (.seq none .leaf .leaf) (.seq none .leaf (.cond (.seq none .leaf .leaf) (.seq none .leaf (.cond (.seq none .leaf .leaf) (.seq none .leaf (.cond (.seq none .leaf (.seq none .leaf .leaf)) (.seq none .leaf (.cond (.seq none .leaf (.seq none .leaf .leaf)) .leaf)))))))))))) (.seq none .leaf (.seq none .leaf (.seq (some ⟨[3, 4], [.leaf (.ro (.pair (.int .i64) (.int .i64))), .leaf (.ro (.int .i64))]⟩) (.seq none .leaf (.cond .leaf .leaf)) (.seq none .leaf .leaf)))))))
def ty_s_save : List (Nat × Ty) := [(28, (.pair (.int .i64) (.int .i64)))]
def vr_s_save : Nat → Nat := fun _ => 0
abbrev sg_s_written : Sig := ⟨[.agg [.ro (.pair (.int .i64) (.pair (.int .i64) (.sl (.int .i64)))), .int .i64], .leaf (.int .i64)], [.leaf (.own 28 (.pair (.int .i64) (.int .i64)))]⟩
def an_s_written : Ann := .seq none .leaf (.seq none .leaf (.seq none .leaf .leaf))
def ty_s_written : List (Nat × Ty) := [(28, (.pair (.int .i64) (.int .i64)))]
def vr_s_written : Nat → Nat := fun _ => 0
abbrev sg_s_someOps : Sig := ⟨[.box 83 [.ro (.int .u8), .int .i64] [.ro (.int .u8), .int .i64]], [.leaf (.own 28 (.pair (.int .i64) (.int .i64)))]⟩
def an_s_someOps : Ann := .seq none .leaf (.seq none .leaf (.seq (some ⟨[0, 3], [.box 83 [.ro (.int .u8), .int .i64] [], .leaf (.own 28 (.pair (.int .i64) (.int .i64)))]⟩) (.seq none .leaf (.cond .leaf (.seq none .leaf (.seq (some ⟨[0, 3], [.box 83 [.ro (.int .u8), .int .i64] [], .leaf (.own 28 (.pair (.int .i64) (.int .i64)))]⟩) (.seq (some ⟨[0, 3, 22], [.box 83 [.ro (.int .u8), .int .i64] [], .leaf (.own 28 (.pair (.int .i64) (.int .i64))), .leaf .bool]⟩) .leaf (.cond .leaf .leaf)) (.seq none .leaf (.cond .leaf .leaf)))))) (.seq none (.seq none .leaf (.cond (.seq none .leaf (.block (.seq none .leaf (.cond .leaf (.seq none .leaf (.cond .leaf .leaf)))))) .leaf)) (.seq none .leaf .leaf))))
def ty_s_someOps : List (Nat × Ty) := [(3, (.int .i64)), (28, (.pair (.int .i64) (.int .i64)))]
def vr_s_someOps : Nat → Nat := fun _ => 0
abbrev sg_s_DrawMarksOf : Sig := ⟨[.leaf (.ro (.int .u8))], [.leaf (.own 28 (.pair (.int .i64) (.int .i64)))]⟩
def an_s_DrawMarksOf : Ann := .seq none .leaf (.seq none .leaf .leaf)
def ty_s_DrawMarksOf : List (Nat × Ty) := []
def vr_s_DrawMarksOf : Nat → Nat := fun _ => 0
abbrev sg_i_mostArg : Sig := ⟨[.leaf (.int .i64)], [.leaf (.int .i64)]⟩
def an_i_mostArg : Ann := .seq none .leaf (.seq none (.seq none .leaf (.block (.seq none .leaf (.cond (.seq none .leaf .leaf) (.seq none .leaf (.cond (.seq none .leaf .leaf) (.seq none .leaf (.cond (.seq none .leaf .leaf) (.seq (some ⟨[10], [.leaf .bool]⟩) (.seq none .leaf (.cond .leaf .leaf)) (.cond (.seq none .leaf .leaf) .leaf)))))))))) (.seq none .leaf .leaf))
def ty_i_mostArg : List (Nat × Ty) := []
def vr_i_mostArg : Nat → Nat := fun _ => 0
abbrev sg_i_opOk : Sig := ⟨[.agg [.int .i64, .int .i64]], [.leaf .bool]⟩
def an_i_opOk : Ann := .seq none .leaf (.seq none .leaf .leaf)
def ty_i_opOk : List (Nat × Ty) := []
def vr_i_opOk : Nat → Nat := fun _ => 0
abbrev sg_i_ValidOps : Sig := ⟨[.leaf (.ro (.pair (.int .i64) (.int .i64)))], [.leaf .bool]⟩
def an_i_ValidOps : Ann := .seq none .leaf (.seq none (.seq none .leaf (.block (.loop ⟨[0, 5, 6, 7], [.leaf (.ro (.pair (.int .i64) (.int .i64))), .leaf (.ro (.pair (.int .i64) (.int .i64))), .leaf (.int .i64), .leaf (.int .i64)]⟩ (.seq none .leaf (.seq none (.cond .leaf .leaf) (.seq none (.block (.seq none .leaf (.seq none .leaf (.cond (.seq none .leaf .leaf) .leaf)))) .leaf)))))) (.seq none .leaf .leaf))
def ty_i_ValidOps : List (Nat × Ty) := []
def vr_i_ValidOps : Nat → Nat := fun _ => 0
abbrev sg_i_marks : Sig := ⟨[.agg [.ro (.pair (.int .i64) (.pair (.int .i64) (.sl (.int .i64)))), .ro (.int .i64), .ro (.int .i64), .bool]], [.leaf (.int .i64)]⟩
def an_i_marks : Ann := .seq none .leaf (.seq none .leaf (.seq none (.seq none .leaf (.block (.loop ⟨[3, 7, 8, 9], [.leaf (.int .i64), .leaf (.ro (.int .i64)), .leaf (.int .i64), .leaf (.int .i64)]⟩ (.seq none .leaf (.seq none (.cond .leaf .leaf) (.seq (some ⟨[3, 7, 8, 9], [.leaf (.int .i64), .leaf (.ro (.int .i64)), .leaf (.int .i64), .leaf (.int .i64)]⟩) (.block (.seq none .leaf (.seq none .leaf (.cond .leaf .leaf)))) .leaf)))))) (.seq none .leaf .leaf)))
def ty_i_marks : List (Nat × Ty) := []
def vr_i_marks : Nat → Nat := fun _ => 0
abbrev sg_i_MarksOf_1 : Sig := ⟨[.agg [.ro (.pair (.int .i64) (.pair (.int .i64) (.sl (.int .i64)))), .ro (.int .i64), .ro (.int .i64), .bool], .box 24 [.own 3 (.int .i64)] [.own 3 (.int .i64)]], []⟩
def an_i_MarksOf_1 : Ann := .seq none .leaf .leaf
def ty_i_MarksOf_1 : List (Nat × Ty) := [(3, (.int .i64))]
def vr_i_MarksOf_1 : Nat → Nat := fun _ => 0
abbrev sg_i_NewMachine : Sig := ⟨[.leaf (.int .i64)], [.agg [.own 35 (.pair (.int .i64) (.pair (.int .i64) (.os 3 (.int .i64)))), .nil, .own 3 (.int .i64), .bool]]⟩
def an_i_NewMachine : Ann := .seq none .leaf (.seq none (.seq (some ⟨[0, 2, 10], [.leaf (.int .i64), .box 26 [.nil, .nil, .nil, .bool] [], .leaf .bool]⟩) .leaf (.cond (.seq none .leaf .leaf) .leaf)) (.seq none .leaf (.seq none (.seq none .leaf (.block (.loop ⟨[0, 2, 3, 16, 17], [.leaf (.int .i64), .box 26 [.nil, .nil, .nil, .bool] [], .box 26 [.nil, .nil, .own 3 (.int .i64), .bool] [], .leaf (.int .i64), .leaf (.int .i64)]⟩ (.seq none .leaf (.seq none (.cond .leaf .leaf) (.seq (some ⟨[0, 2, 3, 16, 17], [.leaf (.int .i64), .box 26 [.nil, .nil, .nil, .bool] [], .box 26 [.nil, .nil, .own 3 (.int .i64), .bool] [], .leaf (.int .i64), .leaf (.int .i64)]⟩) (.block (.seq none .leaf (.seq none .leaf (.cond .leaf .leaf)))) .leaf)))))) (.seq (some ⟨[2, 3], [.box 26 [.nil, .nil, .nil, .bool] [], .box 26 [.own 35 (.pair (.int .i64) (.pair (.int .i64) (.os 3 (.int .i64)))), .nil, .own 3 (.int .i64), .bool] []]⟩) (.seq none .leaf (.cond .leaf .leaf)) (.seq none .leaf .leaf)))))
def ty_i_NewMachine : List (Nat × Ty) := [(3, (.int .i64)), (35, (.pair (.int .i64) (.pair (.int .i64) (.os 3 (.int .i64)))))]
def vr_i_NewMachine : Nat → Nat := fun _ => 0
abbrev sg_slices_Clone_int_int : Sig := ⟨[.leaf (.ro (.int .i64))], [.leaf (.own 3 (.int .i64))]⟩
def an_slices_Clone_int_int : Ann := anClone
def ty_slices_Clone_int_int : List (Nat × Ty) := [(3, (.int .i64))]
def vr_slices_Clone_int_int : Nat → Nat := fun _ => 0
abbrev sg_i_Machine_nodes : Sig := ⟨[.box 26 [.ownA 1 35 (.pair (.int .i64) (.pair (.int .i64) (.os 3 (.int .i64)))), .own 3 (.int .i64), .own 3 (.int .i64), .bool] [.ownA 1 35 (.pair (.int .i64) (.pair (.int .i64) (.os 3 (.int .i64)))), .own 3 (.int .i64), .own 3 (.int .i64), .bool]], [.leaf (.int .i64)]⟩
def an_i_Machine_nodes : Ann := .seq none .leaf (.seq none .leaf (.seq none (.block (.loop ⟨[0, 3], [.box 26 [.ownA 1 35 (.pair (.int .i64) (.pair (.int .i64) (.os 3 (.int .i64)))), .own 3 (.int .i64), .own 3 (.int .i64), .bool] [], .leaf (.int .i64)]⟩ (.seq none (.seq (some ⟨[0, 3, 27], [.box 26 [.ownA 1 35 (.pair (.int .i64) (.pair (.int .i64) (.os 3 (.int .i64)))), .own 3 (.int .i64), .own 3 (.int .i64), .bool] [], .leaf (.int .i64), .leaf .bool]⟩) .leaf (.cond .leaf .leaf)) (.block .leaf)))) (.seq none .leaf .leaf)))
def ty_i_Machine_nodes : List (Nat × Ty) := []
def vr_i_Machine_nodes : Nat → Nat := fun _ => 0
abbrev sg_i_Machine_push : Sig := ⟨[.box 26 [.ownA 1 35 (.pair (.int .i64) (.pair (.int .i64) (.os 3 (.int .i64)))), .own 3 (.int .i64), .own 3 (.int .i64), .bool] [.ownA 1 35 (.pair (.int .i64) (.pair (.int .i64) (.os 3 (.int .i64)))), .own 3 (.int .i64), .own 3 (.int .i64), .bool], .leaf (.int .i64)], [.leaf .bool]⟩
def an_i_Machine_push : Ann := .seq none .leaf (.seq none .leaf (.seq none .leaf .leaf))
def ty_i_Machine_push : List (Nat × Ty) := [(3, (.int .i64))]
def vr_i_Machine_push : Nat → Nat := fun _ => 0
abbrev sg_i_Machine_make : Sig := ⟨[.box 26 [.own 35 (.pair (.int .i64) (.pair (.int .i64) (.os 3 (.int .i64)))), .own 3 (.int .i64), .own 3 (.int .i64), .bool] [.own 35 (.pair (.int .i64) (.pair (.int .i64) (.os 3 (.int .i64)))), .own 3 (.int .i64), .own 3 (.int .i64), .bool], .leaf (.int .i64), .leaf (.int .i64), .leaf (.ro (.int .i64))], [.leaf .bool]⟩
def an_i_Machine_make : Ann := .seq none .leaf (.seq none .leaf (.seq none .leaf .leaf))
def ty_i_Machine_make : List (Nat × Ty) := [(35, (.pair (.int .i64) (.pair (.int .i64) (.os 3 (.int .i64)))))]
def vr_i_Machine_make : Nat → Nat := fun _ => 0
abbrev sg_i_Machine_take : Sig := ⟨[.box 26 [.ownA 1 35 (.pair (.int .i64) (.pair (.int .i64) (.os 3 (.int .i64)))), .own 3 (.int .i64), .own 3 (.int .i64), .bool] [.ownA 1 35 (.pair (.int .i64) (.pair (.int .i64) (.os 3 (.int .i64)))), .own 3 (.int .i64), .own 3 (.int .i64), .bool], .leaf (.int .i64)], [.leaf (.own 3 (.int .i64))]⟩
def an_i_Machine_take : Ann := .seq none .leaf (.seq none .leaf (.seq none .leaf (.seq none .leaf (.seq none .leaf .leaf))))
def ty_i_Machine_take : List (Nat × Ty) := []
def vr_i_Machine_take : Nat → Nat := fun _ => 0
abbrev sg_i_Machine_above : Sig := ⟨[.box 26 [.ownA 1 35 (.pair (.int .i64) (.pair (.int .i64) (.os 3 (.int .i64)))), .own 3 (.int .i64), .own 3 (.int .i64), .bool] [.ownA 1 35 (.pair (.int .i64) (.pair (.int .i64) (.os 3 (.int .i64)))), .own 3 (.int .i64), .own 3 (.int .i64), .bool]], [.leaf (.ro (.int .i64)), .leaf .bool]⟩
def an_i_Machine_above : Ann := .seq none .leaf (.seq none .leaf (.seq none (.seq none .leaf (.cond (.seq none .leaf .leaf) .leaf)) (.seq none .leaf .leaf)))
def ty_i_Machine_above : List (Nat × Ty) := []
def vr_i_Machine_above : Nat → Nat := fun _ => 0
abbrev sg_i_Machine_top : Sig := ⟨[.box 26 [.ownA 1 35 (.pair (.int .i64) (.pair (.int .i64) (.os 3 (.int .i64)))), .own 3 (.int .i64), .own 3 (.int .i64), .bool] [.ownA 1 35 (.pair (.int .i64) (.pair (.int .i64) (.os 3 (.int .i64)))), .own 3 (.int .i64), .own 3 (.int .i64), .bool], .leaf (.int .i64)], [.leaf (.elo 1 0), .leaf .bool]⟩
def an_i_Machine_top : Ann := .seq none .leaf (.seq none (.seq none .leaf (.cond (.seq none .leaf .leaf) .leaf)) (.seq none .leaf (.seq none .leaf .leaf)))
def ty_i_Machine_top : List (Nat × Ty) := []
def vr_i_Machine_top : Nat → Nat := fun _ => 0
abbrev sg_i_findKey : Sig := ⟨[.leaf (.ro (.pair (.int .i64) (.pair (.int .i64) (.sl (.int .i64))))), .leaf (.ro (.int .i64)), .agg [.int .i64, .int .i64, .any]], [.leaf (.int .i64)]⟩
def an_i_findKey : Ann := .seq none .leaf (.seq none (.seq none .leaf (.block (.loop ⟨[0, 1, 5, 7], [.leaf (.ro (.pair (.int .i64) (.pair (.int .i64) (.sl (.int .i64))))), .leaf (.ro (.int .i64)), .box 35 [.int .i64, .int .i64, .any] [], .leaf (.int .i64)]⟩ (.seq none (.seq none .leaf (.cond .leaf .leaf)) (.seq none (.block (.seq none .leaf (.seq (some ⟨[0, 1, 5, 7, 33], [.leaf (.ro (.pair (.int .i64) (.pair (.int .i64) (.sl (.int .i64))))), .leaf (.ro (.int .i64)), .box 35 [.int .i64, .int .i64, .any] [], .leaf (.int .i64), .leaf .bool]⟩) .leaf (.cond (.seq none .leaf .leaf) .leaf)))) .leaf))))) (.seq none .leaf .leaf))
def ty_i_findKey : List (Nat × Ty) := []
def vr_i_findKey : Nat → Nat := fun _ => 0
abbrev sg_i_Machine_set : Sig := ⟨[.box 26 [.ownA 1 35 (.pair (.int .i64) (.pair (.int .i64) (.os 3 (.int .i64)))), .own 3 (.int .i64), .own 3 (.int .i64), .bool] [.ownA 1 35 (.pair (.int .i64) (.pair (.int .i64) (.os 3 (.int .i64)))), .own 3 (.int .i64), .own 3 (.int .i64), .bool], .leaf (.ro (.int .i64))], [.leaf .bool]⟩
def an_i_Machine_set : Ann := .seq none .leaf (.seq none .leaf (.seq none (.seq (some ⟨[0, 1, 23, 5], [.box 26 [.ownA 1 35 (.pair (.int .i64) (.pair (.int .i64) (.os 3 (.int .i64)))), .own 3 (.int .i64), .own 3 (.int .i64), .bool] [], .leaf (.ro (.int .i64)), .leaf .bool, .leaf (.elo 1 0)]⟩) .leaf (.cond (.seq none .leaf .leaf) .leaf)) (.seq none (.seq none .leaf (.block (.loop ⟨[0, 1, 7, 5], [.box 26 [.ownA 1 35 (.pair (.int .i64) (.pair (.int .i64) (.os 3 (.int .i64)))), .own 3 (.int .i64), .own 3 (.int .i64), .bool] [], .leaf (.ro (.int .i64)), .leaf (.int .i64), .leaf (.elo 1 0)]⟩ (.seq none (.seq none .leaf (.cond .leaf .leaf)) (.seq none (.block (.seq none .leaf (.cond (.seq none .leaf .leaf) .leaf))) .leaf))))) (.seq none (.seq none .leaf (.block (.loop ⟨[0, 1, 8, 5], [.box 26 [.ownA 1 35 (.pair (.int .i64) (.pair (.int .i64) (.os 3 (.int .i64)))), .own 3 (.int .i64), .own 3 (.int .i64), .bool] [], .leaf (.ro (.int .i64)), .leaf (.int .i64), .leaf (.elo 1 0)]⟩ (.seq none (.seq none .leaf (.cond .leaf .leaf)) (.seq (some ⟨[0, 1, 8, 5], [.box 26 [.ownA 1 35 (.pair (.int .i64) (.pair (.int .i64) (.os 3 (.int .i64)))), .own 3 (.int .i64), .own 3 (.int .i64), .bool] [], .leaf (.ro (.int .i64)), .leaf (.int .i64), .leaf (.elo 1 0)]⟩) (.block (.seq none .leaf (.seq none .leaf (.seq none .leaf (.cond .leaf .leaf))))) .leaf))))) (.seq none .leaf .leaf)))))
def ty_i_Machine_set : List (Nat × Ty) := [(3, (.int .i64))]
def vr_i_Machine_set : Nat → Nat := fun _ => 0
abbrev sg_i_Machine_do : Sig := ⟨[.box 26 [.ownA 1 35 (.pair (.int .i64) (.pair (.int .i64) (.os 3 (.int .i64)))), .own 3 (.int .i64), .own 3 (.int .i64), .bool] [.ownk 1 35 (.pair (.int .i64) (.pair (.int .i64) (.os 3 (.int .i64)))), .own 3 (.int .i64), .own 3 (.int .i64), .bool], .agg [.int .i64, .int .i64]], [.leaf .bool]⟩
def an_i_Machine_do : Ann := .seq none .leaf (.seq none .leaf (.seq none (.seq none .leaf (.block (.seq none .leaf (.cond (.seq none .leaf .leaf) (.seq none .leaf (.cond (.seq none .leaf .leaf) (.seq none .leaf (.cond (.seq none .leaf .leaf) (.seq none .leaf (.cond (.seq none .leaf .leaf) (.seq none .leaf (.cond (.seq none .leaf .leaf) (.seq none .leaf (.cond (.seq none .leaf .leaf) (.seq none .leaf (.cond (.seq none .leaf .leaf) (.seq none .leaf (.cond (.seq none .leaf (.seq none .leaf .leaf)) (.seq none .leaf (.cond (.seq none .leaf .leaf) (.seq none .leaf (.cond (.seq none .leaf .leaf) (.seq none .leaf (.cond (.seq none (.seq none .leaf (.cond (.seq none .leaf .leaf) .leaf)) (.seq none .leaf (.seq none .leaf (.seq none (.seq none .leaf (.cond .leaf .leaf)) (.seq none .leaf .leaf))))) (.seq none .leaf (.cond (.seq none .leaf (.seq none (.seq none .leaf (.cond (.seq none .leaf .leaf) .leaf)) (.seq none .leaf (.seq none (.seq none .leaf (.cond .leaf .leaf)) (.seq none .leaf .leaf))))) (.seq none .leaf (.cond (.seq none .leaf .leaf) (.seq none .leaf (.cond (.seq none .leaf (.seq none .leaf .leaf)) (.seq none .leaf (.cond (.seq none (.seq none .leaf (.cond (.seq none .leaf .leaf) .leaf)) (.seq none .leaf (.seq none .leaf (.seq none (.seq (some ⟨[0, 17, 183, 18], [.box 26 [.ownA 1 35 (.pair (.int .i64) (.pair (.int .i64) (.os 3 (.int .i64)))), .own 3 (.int .i64), .own 3 (.int .i64), .bool] [], .leaf (.own 3 (.int .i64)), .leaf .bool, .leaf (.elo 1 0)]⟩) .leaf (.cond (.seq none .leaf .leaf) .leaf)) (.seq none .leaf (.seq none .leaf .leaf)))))) (.seq none .leaf (.cond (.seq none (.seq none .leaf (.cond (.seq none .leaf .leaf) .leaf)) (.seq none .leaf (.seq none .leaf .leaf))) (.seq none .leaf (.cond (.seq none .leaf .leaf) (.seq none .leaf (.cond (.seq none (.seq none .leaf (.cond (.seq none .leaf .leaf) .leaf)) (.seq none .leaf (.seq none .leaf .leaf))) (.seq none .leaf (.cond (.seq none .leaf (.seq none .leaf .leaf)) .leaf)))))))))))))))))))))))))))))))))))))))) (.seq (some ⟨[0], [.box 26 [.ownA 1 35 (.pair (.int .i64) (.pair (.int .i64) (.os 3 (.int .i64)))), .own 3 (.int .i64), .own 3 (.int .i64), .bool] []]⟩) .leaf (.seq none .leaf .leaf))))
def ty_i_Machine_do : List (Nat × Ty) := []
def vr_i_Machine_do : Nat → Nat := fun _ => 0
abbrev sg_i_Machine_step : Sig := ⟨[.box 26 [.own 35 (.pair (.int .i64) (.pair (.int .i64) (.os 3 (.int .i64)))), .own 3 (.int .i64), .own 3 (.int .i64), .bool] [.may 35 (.pair (.int .i64) (.pair (.int .i64) (.os 3 (.int .i64)))), .own 3 (.int .i64), .own 3 (.int .i64), .bool], .agg [.int .i64, .int .i64]], [.leaf .bool]⟩
def an_i_Machine_step : Ann := .seq none .leaf (.seq none .leaf (.seq none (.seq none .leaf (.cond (.seq none .leaf .leaf) .leaf)) (.seq none .leaf (.seq none .leaf .leaf))))
def ty_i_Machine_step : List (Nat × Ty) := []
def vr_i_Machine_step : Nat → Nat := fun _ => 0
abbrev sg_i_copyNodes : Sig := ⟨[.leaf (.ro (.pair (.int .i64) (.pair (.int .i64) (.sl (.int .i64)))))], [.leaf (.own 35 (.pair (.int .i64) (.pair (.int .i64) (.os 3 (.int .i64)))))]⟩
def an_i_copyNodes : Ann := .seq none .leaf (.seq none .leaf (.seq none (.seq none .leaf (.block (.loop ⟨[3, 7, 8, 9], [.leaf (.own 35 (.pair (.int .i64) (.pair (.int .i64) (.os 3 (.int .i64))))), .leaf (.ro (.pair (.int .i64) (.pair (.int .i64) (.sl (.int .i64))))), .leaf (.int .i64), .leaf (.int .i64)]⟩ (.seq none .leaf (.seq none (.cond .leaf .leaf) (.seq none (.block (.seq none .leaf .leaf)) .leaf)))))) (.seq none .leaf .leaf)))
def ty_i_copyNodes : List (Nat × Ty) := [(35, (.pair (.int .i64) (.pair (.int .i64) (.os 3 (.int .i64)))))]
def vr_i_copyNodes : Nat → Nat := fun _ => 0
abbrev sg_i_copyMachine : Sig := ⟨[.agg [.ro (.pair (.int .i64) (.pair (.int .i64) (.sl (.int .i64)))), .ro (.int .i64), .ro (.int .i64), .bool]], [.agg [.own 35 (.pair (.int .i64) (.pair (.int .i64) (.os 3 (.int .i64)))), .own 3 (.int .i64), .own 3 (.int .i64), .bool]]⟩
def an_i_copyMachine : Ann := .seq none .leaf (.seq none .leaf .leaf)
def ty_i_copyMachine : List (Nat × Ty) := []
def vr_i_copyMachine : Nat → Nat := fun _ => 0
abbrev sg_i_running__c_i_MarksOf_1 : Sig := ⟨[.leaf (.ro (.pair (.int .i64) (.int .i64))), .clo 83 24 [.own 3 (.int .i64)] [.own 3 (.int .i64)]], [.agg [.own 35 (.pair (.int .i64) (.pair (.int .i64) (.os 3 (.int .i64)))), .own 3 (.int .i64), .own 3 (.int .i64), .bool], .leaf (.int .i64)]⟩
def an_i_running__c_i_MarksOf_1 : Ann := .seq none .leaf (.seq none .leaf (.seq none (.seq none .leaf (.block (.loop ⟨[0, 1, 4, 6, 10, 11, 12], [.leaf (.ro (.pair (.int .i64) (.int .i64))), .clo 83 24 [.own 3 (.int .i64)] [], .box 26 [.nil, .nil, .nil, .bool] [], .box 26 [.own 35 (.pair (.int .i64) (.pair (.int .i64) (.os 3 (.int .i64)))), .own 3 (.int .i64), .own 3 (.int .i64), .bool] [], .leaf (.ro (.pair (.int .i64) (.int .i64))), .leaf (.int .i64), .leaf (.int .i64)]⟩ (.seq none .leaf (.seq none (.cond .leaf .leaf) (.seq none (.block (.seq none .leaf (.seq none (.seq none .leaf (.cond (.seq none .leaf .leaf) .leaf)) .leaf))) .leaf)))))) (.seq none .leaf .leaf)))
def ty_i_running__c_i_MarksOf_1 : List (Nat × Ty) := []
def vr_i_running__c_i_MarksOf_1 : Nat → Nat := fun _ => 0
abbrev sg_i_MarksOf : Sig := ⟨[.leaf (.ro (.pair (.int .i64) (.int .i64)))], [.leaf (.own 3 (.int .i64))]⟩
def an_i_MarksOf : Ann := .seq none .leaf (.seq none (.seq none .leaf (.cond (.seq none .leaf .leaf) .leaf)) (.seq none .leaf (.seq none .leaf (.seq none .leaf .leaf))))
def ty_i_MarksOf : List (Nat × Ty) := [(3, (.int .i64))]
def vr_i_MarksOf : Nat → Nat := fun _ => 0
abbrev sg_s_MarksOf : Sig := ⟨[.leaf (.ro (.pair (.int .i64) (.int .i64)))], [.leaf (.own 3 (.int .i64))]⟩
def an_s_MarksOf : Ann := .seq none .leaf (.seq none (.seq none .leaf (.cond (.seq none .leaf .leaf) .leaf)) (.seq none .leaf (.seq none .leaf (.seq none (.seq none .leaf (.block (.loop ⟨[0, 3, 5, 6], [.leaf (.ro (.pair (.int .i64) (.int .i64))), .leaf (.own 3 (.int .i64)), .leaf (.int .i64), .leaf (.int .i64)]⟩ (.seq none (.seq none .leaf (.cond .leaf .leaf)) (.seq none (.block (.seq none .leaf (.seq none .leaf (.seq none (.seq none .leaf (.block (.loop ⟨[0, 3, 5, 6, 7, 9, 10], [.leaf (.ro (.pair (.int .i64) (.int .i64))), .leaf (.own 3 (.int .i64)), .leaf (.int .i64), .leaf (.int .i64), .box 54 [.own 3 (.int .i64), .own 4 .bool, .own 3 (.int .i64), .own 3 (.int .i64), .bool] [], .leaf (.int .i64), .leaf (.int .i64)]⟩ (.seq none (.seq none .leaf (.cond .leaf .leaf)) (.seq (some ⟨[0, 3, 5, 6, 7, 9, 10], [.leaf (.ro (.pair (.int .i64) (.int .i64))), .leaf (.own 3 (.int .i64)), .leaf (.int .i64), .leaf (.int .i64), .box 54 [.own 3 (.int .i64), .own 4 .bool, .own 3 (.int .i64), .own 3 (.int .i64), .bool] [], .leaf (.int .i64), .leaf (.int .i64)]⟩) (.block (.seq none .leaf (.cond .leaf .leaf))) .leaf))))) .leaf)))) .leaf))))) (.seq none .leaf .leaf)))))
def ty_s_MarksOf : List (Nat × Ty) := [(3, (.int .i64))]
def vr_s_MarksOf : Nat → Nat := fun _ => 0
abbrev sg_l_equalInts : Sig := ⟨[.leaf (.ro (.int .i64)), .leaf (.ro (.int .i64))], [.leaf .bool]⟩
def an_l_equalInts : Ann := .seq none .leaf (.seq none (.seq none .leaf (.cond (.seq none .leaf .leaf) .leaf)) (.seq none (.seq none .leaf (.block (.loop ⟨[0, 1, 5], [.leaf (.ro (.int .i64)), .leaf (.ro (.int .i64)), .leaf (.int .i64)]⟩ (.seq none (.seq none .leaf (.cond .leaf .leaf)) (.seq none (.block (.seq none .leaf (.cond (.seq none .leaf .leaf) .leaf))) .leaf))))) (.seq none .leaf .leaf)))
def ty_l_equalInts : List (Nat × Ty) := []
def vr_l_equalInts : Nat → Nat := fun _ => 0
abbrev sg_i_TakesOf : Sig := ⟨[.leaf (.int .i64)], [.leaf (.int .i64), .leaf (.int .i64)]⟩
def an_i_TakesOf : Ann := .seq none .leaf (.seq none (.seq none .leaf (.block (.seq (some ⟨[4, 5], [.leaf (.int .i64), .leaf .bool]⟩) (.seq none .leaf (.cond .leaf (.seq none .leaf (.cond .leaf (.seq none .leaf (.cond .leaf (.seq none .leaf (.cond .leaf (.seq none .leaf (.cond .leaf (.seq none .leaf (.cond .leaf (.seq none .leaf (.cond .leaf .leaf)))))))))))))) (.cond (.seq none .leaf .leaf) (.seq none .leaf (.cond (.seq none .leaf .leaf) (.seq none .leaf (.cond (.seq none .leaf .leaf) (.seq (some ⟨[4, 18], [.leaf (.int .i64), .leaf .bool]⟩) (.seq none .leaf (.cond .leaf (.seq none .leaf (.cond .leaf .leaf)))) (.cond (.seq none .leaf .leaf) (.seq none .leaf (.cond (.seq none .leaf .leaf) (.seq (some ⟨[4, 24], [.leaf (.int .i64), .leaf .bool]⟩) (.seq none .leaf (.cond .leaf .leaf)) (.cond (.seq none .leaf .leaf) (.seq none .leaf (.cond (.seq none .leaf .leaf) (.seq (some ⟨[29], [.leaf .bool]⟩) (.seq none .leaf (.cond .leaf (.seq none .leaf (.cond .leaf .leaf)))) (.cond (.seq none .leaf .leaf) .leaf)))))))))))))))))) (.seq none .leaf .leaf))
def ty_i_TakesOf : List (Nat × Ty) := []
def vr_i_TakesOf : Nat → Nat := fun _ => 0
abbrev sg_i_DepthsOf_1 : Sig := ⟨[.agg [.ro (.pair (.int .i64) (.pair (.int .i64) (.sl (.int .i64)))), .ro (.int .i64), .ro (.int .i64), .bool], .box 24 [.own 3 (.int .i64)] [.own 3 (.int .i64)]], []⟩
def an_i_DepthsOf_1 : Ann := .seq none .leaf .leaf
def ty_i_DepthsOf_1 : List (Nat × Ty) := [(3, (.int .i64))]
def vr_i_DepthsOf_1 : Nat → Nat := fun _ => 0
abbrev sg_i_running__c_i_DepthsOf_1 : Sig := ⟨[.leaf (.ro (.pair (.int .i64) (.int .i64))), .clo 80 24 [.own 3 (.int .i64)] [.own 3 (.int .i64)]], [.agg [.own 35 (.pair (.int .i64) (.pair (.int .i64) (.os 3 (.int .i64)))), .own 3 (.int .i64), .own 3 (.int .i64), .bool], .leaf (.int .i64)]⟩
def an_i_running__c_i_DepthsOf_1 : Ann := .seq none .leaf (.seq none .leaf (.seq none (.seq none .leaf (.block (.loop ⟨[0, 1, 4, 6, 10, 11, 12], [.leaf (.ro (.pair (.int .i64) (.int .i64))), .clo 80 24 [.own 3 (.int .i64)] [], .box 26 [.nil, .nil, .nil, .bool] [], .box 26 [.own 35 (.pair (.int .i64) (.pair (.int .i64) (.os 3 (.int .i64)))), .own 3 (.int .i64), .own 3 (.int .i64), .bool] [], .leaf (.ro (.pair (.int .i64) (.int .i64))), .leaf (.int .i64), .leaf (.int .i64)]⟩ (.seq none .leaf (.seq none (.cond .leaf .leaf) (.seq none (.block (.seq none .leaf (.seq none (.seq none .leaf (.cond (.seq none .leaf .leaf) .leaf)) .leaf))) .leaf)))))) (.seq none .leaf .leaf)))
def ty_i_running__c_i_DepthsOf_1 : List (Nat × Ty) := []
def vr_i_running__c_i_DepthsOf_1 : Nat → Nat := fun _ => 0
abbrev sg_i_DepthsOf : Sig := ⟨[.leaf (.ro (.pair (.int .i64) (.int .i64)))], [.leaf (.own 3 (.int .i64))]⟩
def an_i_DepthsOf : Ann := .seq none .leaf (.seq none (.seq none .leaf (.cond (.seq none .leaf .leaf) .leaf)) (.seq none .leaf (.seq none .leaf (.seq none .leaf .leaf))))
def ty_i_DepthsOf : List (Nat × Ty) := [(3, (.int .i64))]
def vr_i_DepthsOf : Nat → Nat := fun d => (lk [(10, 1)] d).getD 0
abbrev sg_i_BuildGraph_1 : Sig := ⟨[.agg [.ro (.pair (.int .i64) (.pair (.int .i64) (.sl (.int .i64)))), .ro (.int .i64), .ro (.int .i64), .bool]], []⟩
def an_i_BuildGraph_1 : Ann := .leaf
def ty_i_BuildGraph_1 : List (Nat × Ty) := []
def vr_i_BuildGraph_1 : Nat → Nat := fun _ => 0
abbrev sg_i_running__i_BuildGraph_1 : Sig := ⟨[.leaf (.ro (.pair (.int .i64) (.int .i64))), .leaf .fn], [.agg [.own 35 (.pair (.int .i64) (.pair (.int .i64) (.os 3 (.int .i64)))), .own 3 (.int .i64), .own 3 (.int .i64), .bool], .leaf (.int .i64)]⟩
def an_i_running__i_BuildGraph_1 : Ann := .seq none .leaf (.seq none .leaf (.seq none (.seq none .leaf (.block (.loop ⟨[0, 1, 4, 6, 10, 11, 12], [.leaf (.ro (.pair (.int .i64) (.int .i64))), .leaf (.fnc 73), .box 26 [.nil, .nil, .nil, .bool] [], .box 26 [.own 35 (.pair (.int .i64) (.pair (.int .i64) (.os 3 (.int .i64)))), .own 3 (.int .i64), .own 3 (.int .i64), .bool] [], .leaf (.ro (.pair (.int .i64) (.int .i64))), .leaf (.int .i64), .leaf (.int .i64)]⟩ (.seq none .leaf (.seq none (.cond .leaf .leaf) (.seq none (.block (.seq none .leaf (.seq none (.seq none .leaf (.cond (.seq none .leaf .leaf) .leaf)) .leaf))) .leaf)))))) (.seq none .leaf .leaf)))
def ty_i_running__i_BuildGraph_1 : List (Nat × Ty) := []
def vr_i_running__i_BuildGraph_1 : Nat → Nat := fun _ => 0
abbrev sg_i_BuildGraph : Sig := ⟨[.leaf (.ro (.pair (.int .i64) (.int .i64)))], [.agg [.own 35 (.pair (.int .i64) (.pair (.int .i64) (.os 3 (.int .i64)))), .int .i64], .leaf .bool]⟩
def an_i_BuildGraph : Ann := .seq none .leaf (.seq none (.seq none .leaf (.cond (.seq none .leaf .leaf) .leaf)) (.seq none .leaf (.seq none (.seq (some ⟨[2, 4, 23], [.box 42 [.nil, .int .i64] [], .box 26 [.own 35 (.pair (.int .i64) (.pair (.int .i64) (.os 3 (.int .i64)))), .own 3 (.int .i64), .own 3 (.int .i64), .bool] [], .leaf .bool]⟩) .leaf (.cond (.seq none .leaf .leaf) .leaf)) (.seq none .leaf .leaf))))
def ty_i_BuildGraph : List (Nat × Ty) := []
def vr_i_BuildGraph : Nat → Nat := fun d => (lk [(12, 2)] d).getD 0
abbrev sg_i_IsWhole : Sig := ⟨[.leaf (.ro (.pair (.int .i64) (.int .i64)))], [.leaf .bool]⟩
def an_i_IsWhole : Ann := .seq none .leaf (.seq none .leaf (.seq none .leaf .leaf))
def ty_i_IsWhole : List (Nat × Ty) := []
def vr_i_IsWhole : Nat → Nat := fun _ => 0
abbrev sg_l_FnMarksOf : Sig := ⟨[.leaf (.ro (.int .u8))], [.leaf .bool]⟩
def an_l_FnMarksOf : Ann := .seq none .leaf (.seq none (.seq none .leaf (.cond (.seq none .leaf .leaf) .leaf)) (.seq none .leaf (.seq none .leaf (.seq none (.seq (some ⟨[3, 4, 26], [.leaf (.own 28 (.pair (.int .i64) (.int .i64))), .leaf (.own 3 (.int .i64)), .leaf .bool]⟩) .leaf (.cond (.seq none .leaf .leaf) .leaf)) (.seq none .leaf (.seq none (.seq none .leaf (.block (.loop ⟨[3, 4, 5, 6], [.leaf (.own 28 (.pair (.int .i64) (.int .i64))), .leaf (.own 3 (.int .i64)), .leaf (.int .i64), .leaf (.int .i64)]⟩ (.seq none (.seq none .leaf (.cond .leaf .leaf)) (.seq none (.block (.seq none .leaf (.seq none .leaf (.seq (some ⟨[3, 4, 5, 6, 7, 9], [.leaf (.own 28 (.pair (.int .i64) (.int .i64))), .leaf (.own 3 (.int .i64)), .leaf (.int .i64), .leaf (.int .i64), .leaf (.int .i64), .leaf (.int .i64)]⟩) (.seq none .leaf (.cond .leaf .leaf)) (.seq (some ⟨[3, 4, 5, 6, 9], [.leaf (.own 28 (.pair (.int .i64) (.int .i64))), .leaf (.own 3 (.int .i64)), .leaf (.int .i64), .leaf (.int .i64), .leaf (.int .i64)]⟩) (.seq none .leaf (.cond .leaf .leaf)) (.seq none (.seq none .leaf (.cond (.seq none .leaf .leaf) .leaf)) .leaf)))))) .leaf))))) (.seq none .leaf .leaf)))))))
def ty_l_FnMarksOf : List (Nat × Ty) := []
def vr_l_FnMarksOf : Nat → Nat := fun _ => 0
noncomputable def sigs : List (Nat × Sig) := [(11, sg_l_FnMarksOf), (21, sg_i_IsWhole), (23, sg_i_ValidOps), (24, sg_i_BuildGraph), (30, sg_i_TakesOf), (31, sg_l_equalInts), (38, sg_s_CutOps), (41, sg_i_DepthsOf), (45, sg_s_EndOps), (47, sg_s_DrawMarksOf), (48, sg_i_MarksOf), (49, sg_s_MarksOf), (56, sg_s_newReader), (58, sg_s_someOp), (59, sg_s_reader_pick), (60, sg_s_reader_one), (61, sg_i_opOk), (62, sg_i_copyMachine), (63, sg_i_Machine_step), (65, sg_s_validOp), (68, sg_slices_Clone_int_int), (69, sg_s_someOps), (70, sg_s_validOps), (71, sg_s_runShapes), (72, sg_i_running__c_i_MarksOf_1), (73, sg_i_BuildGraph_1), (80, sg_i_DepthsOf_1), (82, sg_i_marks), (83, sg_i_MarksOf_1), (87, sg_s_likelyOps), (88, sg_i_mostArg), (89, sg_i_copyNodes), (90, sg_i_Machine_do), (91, sg_s_allIn), (92, sg_s_inRange), (93, sg_s_isKey), (94, sg_s_argOf), (98, sg_s_copyInts), (99, sg_s_written), (100, sg_s_someGraph), (101, sg_s_newShapes), (102, sg_s_stepShapes), (103, sg_s_copyShapes), (104, sg_i_NewMachine), (105, sg_i_Machine_nodes), (106, sg_i_Machine_make), (107, sg_i_Machine_push), (108, sg_i_Machine_above), (109, sg_i_Machine_take), (110, sg_i_Machine_top), (111, sg_i_Machine_set), (118, sg_s_save), (119, sg_s_emptyMemo), (120, sg_s_emit), (121, sg_s_someNode), (122, sg_s_addKids), (123, sg_s_newKind), (124, sg_s_pushShape), (125, sg_s_markShapes), (126, sg_s_takeShapes), (127, sg_i_findKey), (128, sg_s_sameKey), (129, sg_s_memoed), (130, sg_s_saveTuple), (131, sg_s_fill), (132, sg_s_saveAll), (133, sg_s_validGraph), (134, sg_s_shapeAt), (135, sg_s_keyKind), (136, sg_s_validNode), (137, sg_s_placeIn), (138, sg_s_tupleReach), (139, sg_s_validDict), (100072, sg_i_running__c_i_DepthsOf_1), (200072, sg_i_running__i_BuildGraph_1)]
noncomputable def fns : List (Nat × FnI) := [(11, ⟨Try.f11, an_l_FnMarksOf, lk ty_l_FnMarksOf, vr_l_FnMarksOf⟩), (21, ⟨Try.f21, an_i_IsWhole, lk ty_i_IsWhole, vr_i_IsWhole⟩), (23, ⟨Try.f23, an_i_ValidOps, lk ty_i_ValidOps, vr_i_ValidOps⟩), (24, ⟨Try.f24, an_i_BuildGraph, lk ty_i_BuildGraph, vr_i_BuildGraph⟩), (30, ⟨Try.f30, an_i_TakesOf, lk ty_i_TakesOf, vr_i_TakesOf⟩), (31, ⟨Try.f31, an_l_equalInts, lk ty_l_equalInts, vr_l_equalInts⟩), (38, ⟨Try.f38, an_s_CutOps, lk ty_s_CutOps, vr_s_CutOps⟩), (41, ⟨Try.f41, an_i_DepthsOf, lk ty_i_DepthsOf, vr_i_DepthsOf⟩), (45, ⟨Try.f45, an_s_EndOps, lk ty_s_EndOps, vr_s_EndOps⟩), (47, ⟨Try.f47, an_s_DrawMarksOf, lk ty_s_DrawMarksOf, vr_s_DrawMarksOf⟩), (48, ⟨Try.f48, an_i_MarksOf, lk ty_i_MarksOf, vr_i_MarksOf⟩), (49, ⟨Try.f49, an_s_MarksOf, lk ty_s_MarksOf, vr_s_MarksOf⟩), (56, ⟨Try.f56, an_s_newReader, lk ty_s_newReader, vr_s_newReader⟩), (58, ⟨Try.f58, an_s_someOp, lk ty_s_someOp, vr_s_someOp⟩), (59, ⟨Try.f59, an_s_reader_pick, lk ty_s_reader_pick, vr_s_reader_pick⟩), (60, ⟨Try.f60, an_s_reader_one, lk ty_s_reader_one, vr_s_reader_one⟩), (61, ⟨Try.f61, an_i_opOk, lk ty_i_opOk, vr_i_opOk⟩), (62, ⟨Try.f62, an_i_copyMachine, lk ty_i_copyMachine, vr_i_copyMachine⟩), (63, ⟨Try.f63, an_i_Machine_step, lk ty_i_Machine_step, vr_i_Machine_step⟩), (65, ⟨Try.f65, an_s_validOp, lk ty_s_validOp, vr_s_validOp⟩), (68, ⟨Try.f68, an_slices_Clone_int_int, lk ty_slices_Clone_int_int, vr_slices_Clone_int_int⟩), (69, ⟨Try.f69, an_s_someOps, lk ty_s_someOps, vr_s_someOps⟩), (70, ⟨Try.f70, an_s_validOps, lk ty_s_validOps, vr_s_validOps⟩), (71, ⟨Try.f71, an_s_runShapes, lk ty_s_runShapes, vr_s_runShapes⟩), (72, ⟨Try.f72, an_i_running__c_i_MarksOf_1, lk ty_i_running__c_i_MarksOf_1, vr_i_running__c_i_MarksOf_1⟩), (73, ⟨Try.f73, an_i_BuildGraph_1, lk ty_i_BuildGraph_1, vr_i_BuildGraph_1⟩), (80, ⟨Try.f80, an_i_DepthsOf_1, lk ty_i_DepthsOf_1, vr_i_DepthsOf_1⟩), (82, ⟨Try.f82, an_i_marks, lk ty_i_marks, vr_i_marks⟩), (83, ⟨Try.f83, an_i_MarksOf_1, lk ty_i_MarksOf_1, vr_i_MarksOf_1⟩), (87, ⟨Try.f87, an_s_likelyOps, lk ty_s_likelyOps, vr_s_likelyOps⟩), (88, ⟨Try.f88, an_i_mostArg, lk ty_i_mostArg, vr_i_mostArg⟩), (89, ⟨Try.f89, an_i_copyNodes, lk ty_i_copyNodes, vr_i_copyNodes⟩), (90, ⟨Try.f90, an_i_Machine_do, lk ty_i_Machine_do, vr_i_Machine_do⟩), (91, ⟨Try.f91, an_s_allIn, lk ty_s_allIn, vr_s_allIn⟩), (92, ⟨Try.f92, an_s_inRange, lk ty_s_inRange, vr_s_inRange⟩), (93, ⟨Try.f93, an_s_isKey, lk ty_s_isKey, vr_s_isKey⟩), (94, ⟨Try.f94, an_s_argOf, lk ty_s_argOf, vr_s_argOf⟩), (98, ⟨Try.f98, an_s_copyInts, lk ty_s_copyInts, vr_s_copyInts⟩), (99, ⟨Try.f99, an_s_written, lk ty_s_written, vr_s_written⟩), (100, ⟨Try.f100, an_s_someGraph, lk ty_s_someGraph, vr_s_someGraph⟩), (101, ⟨Try.f101, an_s_newShapes, lk ty_s_newShapes, vr_s_newShapes⟩), (102, ⟨Try.f102, an_s_stepShapes, lk ty_s_stepShapes, vr_s_stepShapes⟩), (103, ⟨Try.f103, an_s_copyShapes, lk ty_s_copyShapes, vr_s_copyShapes⟩), (104, ⟨Try.f104, an_i_NewMachine, lk ty_i_NewMachine, vr_i_NewMachine⟩), (105, ⟨Try.f105, an_i_Machine_nodes, lk ty_i_Machine_nodes, vr_i_Machine_nodes⟩), (106, ⟨Try.f106, an_i_Machine_make, lk ty_i_Machine_make, vr_i_Machine_make⟩), (107, ⟨Try.f107, an_i_Machine_push, lk ty_i_Machine_push, vr_i_Machine_push⟩), (108, ⟨Try.f108, an_i_Machine_above, lk ty_i_Machine_above, vr_i_Machine_above⟩), (109, ⟨Try.f109, an_i_Machine_take, lk ty_i_Machine_take, vr_i_Machine_take⟩), (110, ⟨Try.f110, an_i_Machine_top, lk ty_i_Machine_top, vr_i_Machine_top⟩), (111, ⟨Try.f111, an_i_Machine_set, lk ty_i_Machine_set, vr_i_Machine_set⟩), (118, ⟨Try.f118, an_s_save, lk ty_s_save, vr_s_save⟩), (119, ⟨Try.f119, an_s_emptyMemo, lk ty_s_emptyMemo, vr_s_emptyMemo⟩), (120, ⟨Try.f120, an_s_emit, lk ty_s_emit, vr_s_emit⟩), (121, ⟨Try.f121, an_s_someNode, lk ty_s_someNode, vr_s_someNode⟩), (122, ⟨Try.f122, an_s_addKids, lk ty_s_addKids, vr_s_addKids⟩), (123, ⟨Try.f123, an_s_newKind, lk ty_s_newKind, vr_s_newKind⟩), (124, ⟨Try.f124, an_s_pushShape, lk ty_s_pushShape, vr_s_pushShape⟩), (125, ⟨Try.f125, an_s_markShapes, lk ty_s_markShapes, vr_s_markShapes⟩), (126, ⟨Try.f126, an_s_takeShapes, lk ty_s_takeShapes, vr_s_takeShapes⟩), (127, ⟨Try.f127, an_i_findKey, lk ty_i_findKey, vr_i_findKey⟩), (128, ⟨Try.f128, an_s_sameKey, lk ty_s_sameKey, vr_s_sameKey⟩), (129, ⟨Try.f129, an_s_memoed, lk ty_s_memoed, vr_s_memoed⟩), (130, ⟨Try.f130, an_s_saveTuple, lk ty_s_saveTuple, vr_s_saveTuple⟩), (131, ⟨Try.f131, an_s_fill, lk ty_s_fill, vr_s_fill⟩), (132, ⟨Try.f132, an_s_saveAll, lk ty_s_saveAll, vr_s_saveAll⟩), (133, ⟨Try.f133, an_s_validGraph, lk ty_s_validGraph, vr_s_validGraph⟩), (134, ⟨Try.f134, an_s_shapeAt, lk ty_s_shapeAt, vr_s_shapeAt⟩), (135, ⟨Try.f135, an_s_keyKind, lk ty_s_keyKind, vr_s_keyKind⟩), (136, ⟨Try.f136, an_s_validNode, lk ty_s_validNode, vr_s_validNode⟩), (137, ⟨Try.f137, an_s_placeIn, lk ty_s_placeIn, vr_s_placeIn⟩), (138, ⟨Try.f138, an_s_tupleReach, lk ty_s_tupleReach, vr_s_tupleReach⟩), (139, ⟨Try.f139, an_s_validDict, lk ty_s_validDict, vr_s_validDict⟩), (100072, ⟨Try.f72, an_i_running__c_i_DepthsOf_1, lk ty_i_running__c_i_DepthsOf_1, vr_i_running__c_i_DepthsOf_1⟩), (200072, ⟨Try.f72, an_i_running__i_BuildGraph_1, lk ty_i_running__i_BuildGraph_1, vr_i_running__i_BuildGraph_1⟩)]
def eqts : List Nat := []
def clones : List Nat := [68]
noncomputable def T : Tab := ⟨lk tts, hasN eqts, lk sigs, lk fns, fun _ f s => bif hasN clones f then cloneX s else none⟩
end Go.Gx

/-
  What each function comes to (printed by gen.py).
-/
set_option linter.unusedVariables false
namespace Go.Gx
open Go.Proofs
theorem b_s_newReader (k : Nat) (code : List Int) : T.call (k + 1) 56 sg_s_newReader (code, ()) = B_s_newReader k code := by kernel_rfl
theorem b_s_reader_pick (k : Nat) (r_b : List Int) (r_p : Int) (n1 : Int) : T.call (k + 1) 59 sg_s_reader_pick ((r_b, r_p, ()), n1, ()) = B_s_reader_pick k r_b r_p n1 := by kernel_rfl
theorem b_s_newShapes (k : Nat) : T.call (k + 1) 101 sg_s_newShapes () = B_s_newShapes k := by kernel_rfl
theorem b_s_reader_one (k : Nat) (r_b : List Int) (r_p : Int) (list : List Int) : T.call (k + 1) 60 sg_s_reader_one ((r_b, r_p, ()), list, ()) = B_s_reader_one k (fun a0 a1 a2 => T.call k 59 sg_s_reader_pick ((a0, a1, ()), a2, ())) r_b r_p list := by kernel_rfl
theorem b_s_someOp (k : Nat) (r_b : List Int) (r_p : Int) : T.call (k + 1) 58 sg_s_someOp ((r_b, r_p, ()), ()) = B_s_someOp k (fun a0 a1 a2 => T.call k 59 sg_s_reader_pick ((a0, a1, ()), a2, ())) (fun a0 a1 a2 => T.call k 60 sg_s_reader_one ((a0, a1, ()), a2, ())) r_b r_p := by kernel_rfl
theorem b_s_copyInts (k : Nat) (list : List Int) : T.call (k + 1) 98 sg_s_copyInts (list, ()) = B_s_copyInts k list := by kernel_rfl
theorem b_s_copyShapes (k : Nat) (s_0 : List Int) (s_1 : List Bool) (s_2 : List Int) (s_3 : List Int) (s_4 : Bool) : T.call (k + 1) 103 sg_s_copyShapes ((s_0, s_1, s_2, s_3, s_4, ()), ()) = B_s_copyShapes k (fun a0 => T.call k 98 sg_s_copyInts (a0, ())) s_0 s_1 s_2 s_3 s_4 := by kernel_rfl
theorem b_s_newKind (k : Nat) (c : Int) : T.call (k + 1) 123 sg_s_newKind (c, ()) = B_s_newKind k c := by kernel_rfl
theorem b_s_pushShape (k : Nat) (s_0 : List Int) (s_1 : List Bool) (s_2 : List Int) (s_3 : List Int) (s_4 : Bool) (kind : Int) : T.call (k + 1) 124 sg_s_pushShape ((s_0, s_1, s_2, s_3, s_4, ()), kind, ()) = B_s_pushShape k s_0 s_1 s_2 s_3 s_4 kind := by kernel_rfl
theorem b_s_shapeAt (k : Nat) (s_0 : List Int) (s_1 : List Bool) (s_2 : List Int) (s_3 : List Int) (s_4 : Bool) (deep : Int) : T.call (k + 1) 134 sg_s_shapeAt ((s_0, s_1, s_2, s_3, s_4, ()), deep, ()) = B_s_shapeAt k s_0 s_1 s_2 s_3 s_4 deep := by kernel_rfl
theorem b_s_keyKind (k : Nat) (kind : Int) : T.call (k + 1) 135 sg_s_keyKind (kind, ()) = B_s_keyKind k kind := by kernel_rfl
theorem b_s_markShapes (k : Nat) (s_0 : List Int) (s_1 : List Bool) (s_2 : List Int) (s_3 : List Int) (s_4 : Bool) (c : Int) : T.call (k + 1) 125 sg_s_markShapes ((s_0, s_1, s_2, s_3, s_4, ()), c, ()) = B_s_markShapes k (fun a0 => T.call k 98 sg_s_copyInts (a0, ())) (fun a0 a1 a2 a3 a4 a5 => T.call k 124 sg_s_pushShape ((a0, a1, a2, a3, a4, ()), a5, ())) (fun a0 a1 a2 a3 a4 a5 => T.call k 134 sg_s_shapeAt ((a0, a1, a2, a3, a4, ()), a5, ())) (fun a0 => T.call k 135 sg_s_keyKind (a0, ())) s_0 s_1 s_2 s_3 s_4 c := by kernel_rfl
theorem b_s_takeShapes (k : Nat) (s_0 : List Int) (s_1 : List Bool) (s_2 : List Int) (s_3 : List Int) (s_4 : Bool) (o_0 : Int) (o_1 : Int) : T.call (k + 1) 126 sg_s_takeShapes ((s_0, s_1, s_2, s_3, s_4, ()), (o_0, o_1, ()), ()) = B_s_takeShapes k (fun a0 a1 a2 a3 a4 a5 => T.call k 134 sg_s_shapeAt ((a0, a1, a2, a3, a4, ()), a5, ())) (fun a0 a1 a2 a3 a4 a5 => T.call k 124 sg_s_pushShape ((a0, a1, a2, a3, a4, ()), a5, ())) (fun a0 => T.call k 135 sg_s_keyKind (a0, ())) s_0 s_1 s_2 s_3 s_4 o_0 o_1 := by kernel_rfl
theorem b_s_stepShapes (k : Nat) (s_0 : List Int) (s_1 : List Bool) (s_2 : List Int) (s_3 : List Int) (s_4 : Bool) (o_0 : Int) (o_1 : Int) : T.call (k + 1) 102 sg_s_stepShapes ((s_0, s_1, s_2, s_3, s_4, ()), (o_0, o_1, ()), ()) = B_s_stepShapes k (fun a0 => T.call k 123 sg_s_newKind (a0, ())) (fun a0 a1 a2 a3 a4 a5 => T.call k 124 sg_s_pushShape ((a0, a1, a2, a3, a4, ()), a5, ())) (fun a0 a1 a2 a3 a4 a5 => T.call k 125 sg_s_markShapes ((a0, a1, a2, a3, a4, ()), a5, ())) (fun a0 a1 a2 a3 a4 a5 a6 => T.call k 126 sg_s_takeShapes ((a0, a1, a2, a3, a4, ()), (a5, a6, ()), ())) s_0 s_1 s_2 s_3 s_4 o_0 o_1 := by kernel_rfl
theorem b_s_argOf (k : Nat) (c : Int) : T.call (k + 1) 94 sg_s_argOf (c, ()) = B_s_argOf k c := by kernel_rfl
theorem b_s_inRange (k : Nat) (n0 : Int) (low : Int) (high : Int) : T.call (k + 1) 92 sg_s_inRange (n0, low, high, ()) = B_s_inRange k n0 low high := by kernel_rfl
theorem b_s_validOp (k : Nat) (o_0 : Int) (o_1 : Int) : T.call (k + 1) 65 sg_s_validOp ((o_0, o_1, ()), ()) = B_s_validOp k (fun a0 => T.call k 94 sg_s_argOf (a0, ())) (fun a0 a1 a2 => T.call k 92 sg_s_inRange (a0, a1, a2, ())) o_0 o_1 := by kernel_rfl
theorem b_s_validOps (k : Nat) (ops : List (Int × Int)) : T.call (k + 1) 70 sg_s_validOps (ops, ()) = B_s_validOps k (fun a0 a1 => T.call k 65 sg_s_validOp ((a0, a1, ()), ())) ops := by kernel_rfl
theorem b_s_runShapes (k : Nat) (ops : List (Int × Int)) : T.call (k + 1) 71 sg_s_runShapes (ops, ()) = B_s_runShapes k (T.call k 101 sg_s_newShapes ()) (fun a0 a1 a2 a3 a4 => T.call k 103 sg_s_copyShapes ((a0, a1, a2, a3, a4, ()), ())) (fun a0 a1 a2 a3 a4 a5 a6 => T.call k 102 sg_s_stepShapes ((a0, a1, a2, a3, a4, ()), (a5, a6, ()), ())) ops := by kernel_rfl
theorem b_s_EndOps (k : Nat) (ops : List (Int × Int)) : T.call (k + 1) 45 sg_s_EndOps (ops, ()) = B_s_EndOps k (fun a0 => T.call k 70 sg_s_validOps (a0, ())) (fun a0 => T.call k 71 sg_s_runShapes (a0, ())) ops := by kernel_rfl
theorem b_s_CutOps (k : Nat) (ops : List (Int × Int)) : T.call (k + 1) 38 sg_s_CutOps (ops, ()) = B_s_CutOps k (fun a0 => T.call k 70 sg_s_validOps (a0, ())) (fun a0 => T.call k 71 sg_s_runShapes (a0, ())) ops := by kernel_rfl
theorem b_s_likelyOps (k : Nat) (r_b : List Int) (r_p : Int) : T.call (k + 1) 87 sg_s_likelyOps ((r_b, r_p, ()), ()) = B_s_likelyOps k (T.call k 101 sg_s_newShapes ()) (fun a0 a1 a2 => T.call k 60 sg_s_reader_one ((a0, a1, ()), a2, ())) (fun a0 a1 => T.call k 58 sg_s_someOp ((a0, a1, ()), ())) (fun a0 a1 a2 => T.call k 59 sg_s_reader_pick ((a0, a1, ()), a2, ())) (fun a0 a1 a2 a3 a4 => T.call k 103 sg_s_copyShapes ((a0, a1, a2, a3, a4, ()), ())) (fun a0 a1 a2 a3 a4 a5 a6 => T.call k 102 sg_s_stepShapes ((a0, a1, a2, a3, a4, ()), (a5, a6, ()), ())) (fun a0 => T.call k 45 sg_s_EndOps (a0, ())) (fun a0 => T.call k 38 sg_s_CutOps (a0, ())) r_b r_p := by kernel_rfl
theorem b_s_someNode (k : Nat) (r_b : List Int) (r_p : Int) : T.call (k + 1) 121 sg_s_someNode ((r_b, r_p, ()), ()) = B_s_someNode k (fun a0 a1 a2 => T.call k 59 sg_s_reader_pick ((a0, a1, ()), a2, ())) (fun a0 a1 a2 => T.call k 60 sg_s_reader_one ((a0, a1, ()), a2, ())) r_b r_p := by kernel_rfl
theorem b_s_isKey (k : Nat) (n_0 : Int) (n_1 : Int) : T.call (k + 1) 93 sg_s_isKey ((n_0, n_1, (), ()), ()) = B_s_isKey k n_0 n_1 := by kernel_rfl
theorem b_s_allIn (k : Nat) (list : List Int) (low : Int) (high : Int) : T.call (k + 1) 91 sg_s_allIn (list, low, high, ()) = B_s_allIn k (fun a0 a1 a2 => T.call k 92 sg_s_inRange (a0, a1, a2, ())) list low high := by kernel_rfl
theorem b_s_sameKey (k : Nat) (a_0 : Int) (a_1 : Int) (b_0 : Int) (b_1 : Int) : T.call (k + 1) 128 sg_s_sameKey ((a_0, a_1, (), ()), (b_0, b_1, (), ()), ()) = B_s_sameKey k a_0 a_1 b_0 b_1 := by kernel_rfl
theorem b_s_validDict (k : Nat) (g_0 : List (Int × Int × List Int)) (g_1 : Int) (n_0 : Int) (n_1 : Int) (n_2 : List Int) : T.call (k + 1) 139 sg_s_validDict ((g_0, g_1, ()), (n_0, n_1, n_2, ()), ()) = B_s_validDict k (fun a0 a1 => T.call k 93 sg_s_isKey ((a0, a1, (), ()), ())) (fun a0 a1 a2 a3 => T.call k 128 sg_s_sameKey ((a0, a1, (), ()), (a2, a3, (), ()), ())) g_0 g_1 n_0 n_1 n_2 := by kernel_rfl
theorem b_s_validNode (k : Nat) (g_0 : List (Int × Int × List Int)) (g_1 : Int) (n_0 : Int) (n_1 : Int) (n_2 : List Int) : T.call (k + 1) 136 sg_s_validNode ((g_0, g_1, ()), (n_0, n_1, n_2, ()), ()) = B_s_validNode k (fun a0 a1 a2 => T.call k 91 sg_s_allIn (a0, a1, a2, ())) (fun a0 a1 a2 => T.call k 92 sg_s_inRange (a0, a1, a2, ())) (fun a0 a1 a2 a3 a4 => T.call k 139 sg_s_validDict ((a0, a1, ()), (a2, a3, a4, ()), ())) g_0 g_1 n_0 n_1 n_2 := by kernel_rfl
theorem b_s_placeIn (k : Nat) (list : List Int) (n1 : Int) : T.call (k + 1) 137 sg_s_placeIn (list, n1, ()) = B_s_placeIn k list n1 := by kernel_rfl
theorem b_s_tupleReach (k : Nat) (g_0 : List (Int × Int × List Int)) (g_1 : Int) (at1 : Int) : T.call (k + 1) 138 sg_s_tupleReach ((g_0, g_1, ()), at1, ()) = B_s_tupleReach k (fun a0 => T.call k 98 sg_s_copyInts (a0, ())) (fun a0 a1 => T.call k 137 sg_s_placeIn (a0, a1, ())) g_0 g_1 at1 := by kernel_rfl
theorem b_s_validGraph (k : Nat) (g_0 : List (Int × Int × List Int)) (g_1 : Int) : T.call (k + 1) 133 sg_s_validGraph ((g_0, g_1, ()), ()) = B_s_validGraph k (fun a0 a1 a2 => T.call k 92 sg_s_inRange (a0, a1, a2, ())) (fun a0 a1 a2 a3 a4 => T.call k 136 sg_s_validNode ((a0, a1, ()), (a2, a3, a4, ()), ())) (fun a0 a1 a2 => T.call k 138 sg_s_tupleReach ((a0, a1, ()), a2, ())) (fun a0 a1 => T.call k 137 sg_s_placeIn (a0, a1, ())) g_0 g_1 := by kernel_rfl
theorem b_s_addKids (k : Nat) (r_b : List Int) (r_p : Int) (g_0 : List (Int × Int × Option (List Int))) (g_1 : Int) (at2 : Int) : T.call (k + 1) 122 sg_s_addKids ((r_b, r_p, ()), (g_0, g_1, ()), at2, ()) = B_s_addKids k (fun a0 a1 a2 => T.call k 60 sg_s_reader_one ((a0, a1, ()), a2, ())) (fun a0 a1 a2 => T.call k 59 sg_s_reader_pick ((a0, a1, ()), a2, ())) (fun a0 a1 => T.call k 93 sg_s_isKey ((a0, a1, (), ()), ())) (fun a0 a1 => T.call k 133 sg_s_validGraph ((a0, a1, ()), ())) r_b r_p g_0 g_1 at2 := by kernel_rfl
theorem b_s_someGraph (k : Nat) (r_b : List Int) (r_p : Int) : T.call (k + 1) 100 sg_s_someGraph ((r_b, r_p, ()), ()) = B_s_someGraph k (fun a0 a1 a2 => T.call k 60 sg_s_reader_one ((a0, a1, ()), a2, ())) (fun a0 a1 => T.call k 121 sg_s_someNode ((a0, a1, ()), ())) (fun a0 a1 a2 a3 a4 => T.call k 122 sg_s_addKids ((a0, a1, ()), (a2, a3, ()), a4, ())) (fun a0 a1 a2 => T.call k 59 sg_s_reader_pick ((a0, a1, ()), a2, ())) r_b r_p := by kernel_rfl
theorem b_s_emptyMemo (k : Nat) (g_0 : List (Int × Int × List Int)) (g_1 : Int) : T.call (k + 1) 119 sg_s_emptyMemo ((g_0, g_1, ()), ()) = B_s_emptyMemo k g_0 g_1 := by kernel_rfl
theorem b_s_emit (k : Nat) (ops : List (Int × Int)) (more1 : List (Int × Int)) : T.call (k + 1) 120 sg_s_emit (ops, more1, ()) = B_s_emit k ops more1 := by kernel_rfl
theorem b_s_memoed (k : Nat) (ops : List (Int × Int)) (memo : List Int) (at2 : Int) : T.call (k + 1) 129 sg_s_memoed (ops, memo, at2, ()) = B_s_memoed k (fun a0 => T.call k 98 sg_s_copyInts (a0, ())) (fun a0 a1 => T.call k 120 sg_s_emit (a0, a1, ())) ops memo at2 := by kernel_rfl
theorem b_s_saveAll (k : Nat) (g_0 : List (Int × Int × List Int)) (g_1 : Int) (level : Int) (list : List Int) (ops : List (Int × Int)) (memo : List Int) : T.call (k + 1) 132 sg_s_saveAll ((g_0, g_1, ()), level, list, ops, memo, ()) = B_s_saveAll k (fun a0 a1 a2 a3 a4 a5 => T.call k 118 sg_s_save ((a0, a1, ()), a2, a3, a4, a5, ())) g_0 g_1 level list ops memo := by kernel_rfl
theorem b_s_saveTuple (k : Nat) (g_0 : List (Int × Int × List Int)) (g_1 : Int) (level : Int) (at2 : Int) (ops : List (Int × Int)) (memo : List Int) : T.call (k + 1) 130 sg_s_saveTuple ((g_0, g_1, ()), level, at2, ops, memo, ()) = B_s_saveTuple k (fun a0 a1 => T.call k 120 sg_s_emit (a0, a1, ())) (fun a0 a1 a2 => T.call k 129 sg_s_memoed (a0, a1, a2, ())) (fun a0 a1 a2 a3 a4 a5 => T.call k 132 sg_s_saveAll ((a0, a1, ()), a2, a3, a4, a5, ())) g_0 g_1 level at2 ops memo := by kernel_rfl
theorem b_s_fill (k : Nat) (g_0 : List (Int × Int × List Int)) (g_1 : Int) (level : Int) (kids : List Int) (each : Int) (one : Int) (all : Int) (ops : List (Int × Int)) (memo : List Int) : T.call (k + 1) 131 sg_s_fill ((g_0, g_1, ()), level, kids, each, one, all, ops, memo, ()) = B_s_fill k (fun a0 a1 => T.call k 120 sg_s_emit (a0, a1, ())) (fun a0 a1 a2 a3 a4 a5 => T.call k 132 sg_s_saveAll ((a0, a1, ()), a2, a3, a4, a5, ())) g_0 g_1 level kids each one all ops memo := by kernel_rfl
theorem b_s_save (k : Nat) (g_0 : List (Int × Int × List Int)) (g_1 : Int) (level : Int) (at2 : Int) (ops : List (Int × Int)) (memo : List Int) : T.call (k + 1) 118 sg_s_save ((g_0, g_1, ()), level, at2, ops, memo, ()) = B_s_save k (fun a0 a1 => T.call k 120 sg_s_emit (a0, a1, ())) (fun a0 a1 a2 => T.call k 129 sg_s_memoed (a0, a1, a2, ())) (fun a0 a1 a2 a3 a4 a5 => T.call k 130 sg_s_saveTuple ((a0, a1, ()), a2, a3, a4, a5, ())) (fun a0 a1 a2 a3 a4 a5 a6 a7 a8 => T.call k 131 sg_s_fill ((a0, a1, ()), a2, a3, a4, a5, a6, a7, a8, ())) (fun a0 a1 a2 a3 a4 a5 => T.call k 132 sg_s_saveAll ((a0, a1, ()), a2, a3, a4, a5, ())) g_0 g_1 level at2 ops memo := by kernel_rfl
theorem b_s_written (k : Nat) (g_0 : List (Int × Int × List Int)) (g_1 : Int) (level : Int) : T.call (k + 1) 99 sg_s_written ((g_0, g_1, ()), level, ()) = B_s_written k (fun a0 a1 => T.call k 119 sg_s_emptyMemo ((a0, a1, ()), ())) (fun a0 a1 a2 a3 a4 a5 => T.call k 118 sg_s_save ((a0, a1, ()), a2, a3, a4, a5, ())) (fun a0 a1 => T.call k 120 sg_s_emit (a0, a1, ())) g_0 g_1 level := by kernel_rfl
theorem b_s_someOps (k : Nat) (r_b : List Int) (r_p : Int) : T.call (k + 1) 69 sg_s_someOps ((r_b, r_p, ()), ()) = B_s_someOps k (fun a0 a1 a2 => T.call k 59 sg_s_reader_pick ((a0, a1, ()), a2, ())) (fun a0 a1 => T.call k 87 sg_s_likelyOps ((a0, a1, ()), ())) (fun a0 a1 => T.call k 100 sg_s_someGraph ((a0, a1, ()), ())) (fun a0 a1 a2 => T.call k 99 sg_s_written ((a0, a1, ()), a2, ())) (fun a0 a1 => T.call k 58 sg_s_someOp ((a0, a1, ()), ())) (fun a0 a1 a2 => T.call k 60 sg_s_reader_one ((a0, a1, ()), a2, ())) r_b r_p := by kernel_rfl
theorem b_s_DrawMarksOf (k : Nat) (code : List Int) : T.call (k + 1) 47 sg_s_DrawMarksOf (code, ()) = B_s_DrawMarksOf k (fun a0 => T.call k 56 sg_s_newReader (a0, ())) (fun a0 a1 => T.call k 69 sg_s_someOps ((a0, a1, ()), ())) code := by kernel_rfl
theorem b_i_mostArg (k : Nat) (code : Int) : T.call (k + 1) 88 sg_i_mostArg (code, ()) = B_i_mostArg k code := by kernel_rfl
theorem b_i_opOk (k : Nat) (o_0 : Int) (o_1 : Int) : T.call (k + 1) 61 sg_i_opOk ((o_0, o_1, ()), ()) = B_i_opOk k (fun a0 => T.call k 88 sg_i_mostArg (a0, ())) o_0 o_1 := by kernel_rfl
theorem b_i_ValidOps (k : Nat) (ops : List (Int × Int)) : T.call (k + 1) 23 sg_i_ValidOps (ops, ()) = B_i_ValidOps k (fun a0 a1 => T.call k 61 sg_i_opOk ((a0, a1, ()), ())) ops := by kernel_rfl
theorem b_i_marks (k : Nat) (m_0 : List (Int × Int × List Int)) (m_1 : List Int) (m_2 : List Int) (m_3 : Bool) : T.call (k + 1) 82 sg_i_marks ((m_0, m_1, m_2, m_3, ()), ()) = B_i_marks k m_0 m_1 m_2 m_3 := by kernel_rfl
theorem b_i_MarksOf_1 (k : Nat) (m_0 : List (Int × Int × List Int)) (m_1 : List Int) (m_2 : List Int) (m_3 : Bool) (t1 : List Int) : T.call (k + 1) 83 sg_i_MarksOf_1 ((m_0, m_1, m_2, m_3, ()), (t1, ()), ()) = B_i_MarksOf_1 k (fun a0 a1 a2 a3 => T.call k 82 sg_i_marks ((a0, a1, a2, a3, ()), ())) m_0 m_1 m_2 m_3 t1 := by kernel_rfl
theorem b_i_NewMachine (k : Nat) (filled : Int) : T.call (k + 1) 104 sg_i_NewMachine (filled, ()) = B_i_NewMachine k filled := by kernel_rfl
theorem b_slices_Clone_int_int (k : Nat) (s : List Int) : T.call (k + 1) 68 sg_slices_Clone_int_int (s, ()) = B_slices_Clone_int_int k s := by kernel_rfl
theorem b_i_Machine_nodes (k : Nat) (m_Nodes : List (Int × Int × List Int)) (m_Stack : List Int) (m_Memo : List Int) (m_Done : Bool) : T.call (k + 1) 105 sg_i_Machine_nodes ((m_Nodes, m_Stack, m_Memo, m_Done, ()), ()) = B_i_Machine_nodes k m_Nodes m_Stack m_Memo m_Done := by kernel_rfl
theorem b_i_Machine_push (k : Nat) (m_Nodes : List (Int × Int × List Int)) (m_Stack : List Int) (m_Memo : List Int) (m_Done : Bool) (i : Int) : T.call (k + 1) 107 sg_i_Machine_push ((m_Nodes, m_Stack, m_Memo, m_Done, ()), i, ()) = B_i_Machine_push k m_Nodes m_Stack m_Memo m_Done i := by kernel_rfl
theorem b_i_Machine_make (k : Nat) (m_Nodes : List (Int × Int × List Int)) (m_Stack : List Int) (m_Memo : List Int) (m_Done : Bool) (kind : Int) (value : Int) (kids : List Int) : T.call (k + 1) 106 sg_i_Machine_make ((m_Nodes, m_Stack, m_Memo, m_Done, ()), kind, value, kids, ()) = B_i_Machine_make k (fun a0 => T.call k 68 sg_slices_Clone_int_int (a0, ())) (fun a0 a1 a2 a3 a4 => T.call k 107 sg_i_Machine_push ((a0, a1, a2, a3, ()), a4, ())) m_Nodes m_Stack m_Memo m_Done kind value kids := by kernel_rfl
theorem b_i_Machine_take (k : Nat) (m_Nodes : List (Int × Int × List Int)) (m_Stack : List Int) (m_Memo : List Int) (m_Done : Bool) (n1 : Int) : T.call (k + 1) 109 sg_i_Machine_take ((m_Nodes, m_Stack, m_Memo, m_Done, ()), n1, ()) = B_i_Machine_take k (fun a0 => T.call k 68 sg_slices_Clone_int_int (a0, ())) m_Nodes m_Stack m_Memo m_Done n1 := by kernel_rfl
theorem b_i_Machine_above (k : Nat) (m_Nodes : List (Int × Int × List Int)) (m_Stack : List Int) (m_Memo : List Int) (m_Done : Bool) : T.call (k + 1) 108 sg_i_Machine_above ((m_Nodes, m_Stack, m_Memo, m_Done, ()), ()) = B_i_Machine_above k (fun a0 a1 a2 a3 => T.call k 105 sg_i_Machine_nodes ((a0, a1, a2, a3, ()), ())) (fun a0 a1 a2 a3 a4 => T.call k 109 sg_i_Machine_take ((a0, a1, a2, a3, ()), a4, ())) m_Nodes m_Stack m_Memo m_Done := by kernel_rfl
theorem b_i_Machine_top (k : Nat) (m_Nodes : List (Int × Int × List Int)) (m_Stack : List Int) (m_Memo : List Int) (m_Done : Bool) (kind : Int) : T.call (k + 1) 110 sg_i_Machine_top ((m_Nodes, m_Stack, m_Memo, m_Done, ()), kind, ()) = B_i_Machine_top k (fun a0 a1 a2 a3 => T.call k 105 sg_i_Machine_nodes ((a0, a1, a2, a3, ()), ())) m_Nodes m_Stack m_Memo m_Done kind := by kernel_rfl
theorem b_i_findKey (k : Nat) (nodes : List (Int × Int × List Int)) (kids : List Int) (key_0 : Int) (key_1 : Int) : T.call (k + 1) 127 sg_i_findKey (nodes, kids, (key_0, key_1, (), ()), ()) = B_i_findKey k nodes kids key_0 key_1 := by kernel_rfl
theorem b_i_Machine_set (k : Nat) (m_Nodes : List (Int × Int × List Int)) (m_Stack : List Int) (m_Memo : List Int) (m_Done : Bool) (pairs : List Int) : T.call (k + 1) 111 sg_i_Machine_set ((m_Nodes, m_Stack, m_Memo, m_Done, ()), pairs, ()) = B_i_Machine_set k (fun a0 a1 a2 a3 a4 => T.call k 110 sg_i_Machine_top ((a0, a1, a2, a3, ()), a4, ())) (fun a0 a1 a2 a3 => T.call k 127 sg_i_findKey (a0, a1, (a2, a3, (), ()), ())) m_Nodes m_Stack m_Memo m_Done pairs := by kernel_rfl
theorem b_i_Machine_do (k : Nat) (m_Nodes : List (Int × Int × List Int)) (m_Stack : List Int) (m_Memo : List Int) (m_Done : Bool) (o_0 : Int) (o_1 : Int) : T.call (k + 1) 90 sg_i_Machine_do ((m_Nodes, m_Stack, m_Memo, m_Done, ()), (o_0, o_1, ()), ()) = B_i_Machine_do k (fun a0 a1 a2 a3 => T.call k 105 sg_i_Machine_nodes ((a0, a1, a2, a3, ()), ())) (fun a0 a1 a2 a3 a4 a5 a6 => T.call k 106 sg_i_Machine_make ((a0, a1, a2, a3, ()), a4, a5, a6, ())) (fun a0 a1 a2 a3 a4 => T.call k 107 sg_i_Machine_push ((a0, a1, a2, a3, ()), a4, ())) (fun a0 a1 a2 a3 => T.call k 108 sg_i_Machine_above ((a0, a1, a2, a3, ()), ())) (fun a0 a1 a2 a3 a4 => T.call k 109 sg_i_Machine_take ((a0, a1, a2, a3, ()), a4, ())) (fun a0 a1 a2 a3 a4 => T.call k 110 sg_i_Machine_top ((a0, a1, a2, a3, ()), a4, ())) (fun a0 a1 a2 a3 a4 => T.call k 111 sg_i_Machine_set ((a0, a1, a2, a3, ()), a4, ())) m_Nodes m_Stack m_Memo m_Done o_0 o_1 := by kernel_rfl
theorem b_i_Machine_step (k : Nat) (m_Nodes : List (Int × Int × List Int)) (m_Stack : List Int) (m_Memo : List Int) (m_Done : Bool) (o_0 : Int) (o_1 : Int) : T.call (k + 1) 63 sg_i_Machine_step ((m_Nodes, m_Stack, m_Memo, m_Done, ()), (o_0, o_1, ()), ()) = B_i_Machine_step k (fun a0 => T.call k 68 sg_slices_Clone_int_int (a0, ())) (fun a0 a1 a2 a3 a4 a5 => T.call k 90 sg_i_Machine_do ((a0, a1, a2, a3, ()), (a4, a5, ()), ())) m_Nodes m_Stack m_Memo m_Done o_0 o_1 := by kernel_rfl
theorem b_i_copyNodes (k : Nat) (nodes : List (Int × Int × List Int)) : T.call (k + 1) 89 sg_i_copyNodes (nodes, ()) = B_i_copyNodes k (fun a0 => T.call k 68 sg_slices_Clone_int_int (a0, ())) nodes := by kernel_rfl
theorem b_i_copyMachine (k : Nat) (m_0 : List (Int × Int × List Int)) (m_1 : List Int) (m_2 : List Int) (m_3 : Bool) : T.call (k + 1) 62 sg_i_copyMachine ((m_0, m_1, m_2, m_3, ()), ()) = B_i_copyMachine k (fun a0 => T.call k 89 sg_i_copyNodes (a0, ())) (fun a0 => T.call k 68 sg_slices_Clone_int_int (a0, ())) m_0 m_1 m_2 m_3 := by kernel_rfl
theorem b_i_running__c_i_MarksOf_1 (k : Nat) (ops : List (Int × Int)) (after : List Int) : T.call (k + 1) 72 sg_i_running__c_i_MarksOf_1 (ops, (after, ()), ()) = B_i_running__c_i_MarksOf_1 k (fun a0 => T.call k 104 sg_i_NewMachine (a0, ())) (fun a0 a1 a2 a3 a4 a5 => T.call k 63 sg_i_Machine_step ((a0, a1, a2, a3, ()), (a4, a5, ()), ())) (fun a0 a1 a2 a3 => T.call k 62 sg_i_copyMachine ((a0, a1, a2, a3, ()), ())) (fun a0 a1 a2 a3 a4 => T.call k 83 sg_i_MarksOf_1 ((a0, a1, a2, a3, ()), (a4, ()), ())) ops after := by kernel_rfl
theorem b_i_MarksOf (k : Nat) (ops : List (Int × Int)) : T.call (k + 1) 48 sg_i_MarksOf (ops, ()) = B_i_MarksOf k (fun a0 => T.call k 23 sg_i_ValidOps (a0, ())) (fun a0 a1 => T.call k 72 sg_i_running__c_i_MarksOf_1 (a0, (a1, ()), ())) ops := by kernel_rfl
theorem b_s_MarksOf (k : Nat) (ops : List (Int × Int)) : T.call (k + 1) 49 sg_s_MarksOf (ops, ()) = B_s_MarksOf k (fun a0 => T.call k 70 sg_s_validOps (a0, ())) (fun a0 => T.call k 71 sg_s_runShapes (a0, ())) ops := by kernel_rfl
theorem b_l_equalInts (k : Nat) (a : List Int) (b : List Int) : T.call (k + 1) 31 sg_l_equalInts (a, b, ()) = B_l_equalInts k a b := by kernel_rfl
theorem b_i_TakesOf (k : Nat) (c : Int) : T.call (k + 1) 30 sg_i_TakesOf (c, ()) = B_i_TakesOf k c := by kernel_rfl
theorem b_i_DepthsOf_1 (k : Nat) (m_0 : List (Int × Int × List Int)) (m_1 : List Int) (m_2 : List Int) (m_3 : Bool) (t1 : List Int) : T.call (k + 1) 80 sg_i_DepthsOf_1 ((m_0, m_1, m_2, m_3, ()), (t1, ()), ()) = B_i_DepthsOf_1 k m_0 m_1 m_2 m_3 t1 := by kernel_rfl
theorem b_i_running__c_i_DepthsOf_1 (k : Nat) (ops : List (Int × Int)) (after : List Int) : T.call (k + 1) 100072 sg_i_running__c_i_DepthsOf_1 (ops, (after, ()), ()) = B_i_running__c_i_DepthsOf_1 k (fun a0 => T.call k 104 sg_i_NewMachine (a0, ())) (fun a0 a1 a2 a3 a4 a5 => T.call k 63 sg_i_Machine_step ((a0, a1, a2, a3, ()), (a4, a5, ()), ())) (fun a0 a1 a2 a3 => T.call k 62 sg_i_copyMachine ((a0, a1, a2, a3, ()), ())) (fun a0 a1 a2 a3 a4 => T.call k 80 sg_i_DepthsOf_1 ((a0, a1, a2, a3, ()), (a4, ()), ())) ops after := by kernel_rfl
theorem b_i_DepthsOf (k : Nat) (ops : List (Int × Int)) : T.call (k + 1) 41 sg_i_DepthsOf (ops, ()) = B_i_DepthsOf k (fun a0 => T.call k 23 sg_i_ValidOps (a0, ())) (fun a0 a1 => T.call k 100072 sg_i_running__c_i_DepthsOf_1 (a0, (a1, ()), ())) ops := by kernel_rfl
theorem b_i_BuildGraph_1 (k : Nat) (t0_0 : List (Int × Int × List Int)) (t0_1 : List Int) (t0_2 : List Int) (t0_3 : Bool) : T.call (k + 1) 73 sg_i_BuildGraph_1 ((t0_0, t0_1, t0_2, t0_3, ()), ()) = B_i_BuildGraph_1 k t0_0 t0_1 t0_2 t0_3 := by kernel_rfl
theorem b_i_running__i_BuildGraph_1 (k : Nat) (ops : List (Int × Int)) : T.call (k + 1) 200072 sg_i_running__i_BuildGraph_1 (ops, 73, ()) = B_i_running__i_BuildGraph_1 k (fun a0 => T.call k 104 sg_i_NewMachine (a0, ())) (fun a0 a1 a2 a3 a4 a5 => T.call k 63 sg_i_Machine_step ((a0, a1, a2, a3, ()), (a4, a5, ()), ())) (fun a0 a1 a2 a3 => T.call k 62 sg_i_copyMachine ((a0, a1, a2, a3, ()), ())) (fun a0 a1 a2 a3 => T.call k 73 sg_i_BuildGraph_1 ((a0, a1, a2, a3, ()), ())) ops := by kernel_rfl
theorem b_i_BuildGraph (k : Nat) (ops : List (Int × Int)) : T.call (k + 1) 24 sg_i_BuildGraph (ops, ()) = B_i_BuildGraph k (fun a0 => T.call k 23 sg_i_ValidOps (a0, ())) (fun a0 => T.call k 200072 sg_i_running__i_BuildGraph_1 (a0, 73, ())) ops := by kernel_rfl
theorem b_i_IsWhole (k : Nat) (ops : List (Int × Int)) : T.call (k + 1) 21 sg_i_IsWhole (ops, ()) = B_i_IsWhole k (fun a0 => T.call k 24 sg_i_BuildGraph (a0, ())) ops := by kernel_rfl
theorem b_l_FnMarksOf (k : Nat) (code : List Int) : T.call (k + 1) 11 sg_l_FnMarksOf (code, ()) = B_l_FnMarksOf k (fun a0 => T.call k 47 sg_s_DrawMarksOf (a0, ())) (fun a0 => T.call k 48 sg_i_MarksOf (a0, ())) (fun a0 => T.call k 49 sg_s_MarksOf (a0, ())) (fun a0 a1 => T.call k 31 sg_l_equalInts (a0, a1, ())) (fun a0 => T.call k 30 sg_i_TakesOf (a0, ())) (fun a0 => T.call k 41 sg_i_DepthsOf (a0, ())) (fun a0 => T.call k 21 sg_i_IsWhole (a0, ())) code := by kernel_rfl
end Go.Gx

/-
  The calls of the table (printed by gen.py).
-/
set_option linter.unusedVariables false
namespace Go.Gx
open Go.Proofs
theorem c_s_newReader (k : Nat) (code : List Int) : T.call k 56 sg_s_newReader (code, ()) = F_s_newReader k code := by
  cases k with
  | zero => rfl
  | succ k => exact (b_s_newReader k code)
theorem c_s_reader_pick (k : Nat) (r_b : List Int) (r_p : Int) (n1 : Int) : T.call k 59 sg_s_reader_pick ((r_b, r_p, ()), n1, ()) = F_s_reader_pick k r_b r_p n1 := by
  cases k with
  | zero => rfl
  | succ k => exact (b_s_reader_pick k r_b r_p n1)
theorem c_s_newShapes (k : Nat) : T.call k 101 sg_s_newShapes () = F_s_newShapes k := by
  cases k with
  | zero => rfl
  | succ k => exact (b_s_newShapes k)
theorem c_s_reader_one (k : Nat) (r_b : List Int) (r_p : Int) (list : List Int) : T.call k 60 sg_s_reader_one ((r_b, r_p, ()), list, ()) = F_s_reader_one k r_b r_p list := by
  cases k with
  | zero => rfl
  | succ k => exact (b_s_reader_one k r_b r_p list).trans (congrFun (congrFun (congrFun (congrArg (B_s_reader_one k) (funext fun a0 => funext fun a1 => funext fun a2 => c_s_reader_pick k a0 a1 a2)) r_b) r_p) list)
theorem c_s_someOp (k : Nat) (r_b : List Int) (r_p : Int) : T.call k 58 sg_s_someOp ((r_b, r_p, ()), ()) = F_s_someOp k r_b r_p := by
  cases k with
  | zero => rfl
  | succ k => exact (b_s_someOp k r_b r_p).trans (congrFun (congrFun (congr (congrArg (B_s_someOp k) (funext fun a0 => funext fun a1 => funext fun a2 => c_s_reader_pick k a0 a1 a2)) (funext fun a0 => funext fun a1 => funext fun a2 => c_s_reader_one k a0 a1 a2)) r_b) r_p)
theorem c_s_copyInts (k : Nat) (list : List Int) : T.call k 98 sg_s_copyInts (list, ()) = F_s_copyInts k list := by
  cases k with
  | zero => rfl
  | succ k => exact (b_s_copyInts k list)
theorem c_s_copyShapes (k : Nat) (s_0 : List Int) (s_1 : List Bool) (s_2 : List Int) (s_3 : List Int) (s_4 : Bool) : T.call k 103 sg_s_copyShapes ((s_0, s_1, s_2, s_3, s_4, ()), ()) = F_s_copyShapes k s_0 s_1 s_2 s_3 s_4 := by
  cases k with
  | zero => rfl
  | succ k => exact (b_s_copyShapes k s_0 s_1 s_2 s_3 s_4).trans (congrFun (congrFun (congrFun (congrFun (congrFun (congrArg (B_s_copyShapes k) (funext fun a0 => c_s_copyInts k a0)) s_0) s_1) s_2) s_3) s_4)
theorem c_s_newKind (k : Nat) (c : Int) : T.call k 123 sg_s_newKind (c, ()) = F_s_newKind k c := by
  cases k with
  | zero => rfl
  | succ k => exact (b_s_newKind k c)
theorem c_s_pushShape (k : Nat) (s_0 : List Int) (s_1 : List Bool) (s_2 : List Int) (s_3 : List Int) (s_4 : Bool) (kind : Int) : T.call k 124 sg_s_pushShape ((s_0, s_1, s_2, s_3, s_4, ()), kind, ()) = F_s_pushShape k s_0 s_1 s_2 s_3 s_4 kind := by
  cases k with
  | zero => rfl
  | succ k => exact (b_s_pushShape k s_0 s_1 s_2 s_3 s_4 kind)
theorem c_s_shapeAt (k : Nat) (s_0 : List Int) (s_1 : List Bool) (s_2 : List Int) (s_3 : List Int) (s_4 : Bool) (deep : Int) : T.call k 134 sg_s_shapeAt ((s_0, s_1, s_2, s_3, s_4, ()), deep, ()) = F_s_shapeAt k s_0 s_1 s_2 s_3 s_4 deep := by
  cases k with
  | zero => rfl
  | succ k => exact (b_s_shapeAt k s_0 s_1 s_2 s_3 s_4 deep)
theorem c_s_keyKind (k : Nat) (kind : Int) : T.call k 135 sg_s_keyKind (kind, ()) = F_s_keyKind k kind := by
  cases k with
  | zero => rfl
  | succ k => exact (b_s_keyKind k kind)
theorem c_s_markShapes (k : Nat) (s_0 : List Int) (s_1 : List Bool) (s_2 : List Int) (s_3 : List Int) (s_4 : Bool) (c : Int) : T.call k 125 sg_s_markShapes ((s_0, s_1, s_2, s_3, s_4, ()), c, ()) = F_s_markShapes k s_0 s_1 s_2 s_3 s_4 c := by
  cases k with
  | zero => rfl
  | succ k => exact (b_s_markShapes k s_0 s_1 s_2 s_3 s_4 c).trans (congrFun (congrFun (congrFun (congrFun (congrFun (congrFun (congr (congr (congr (congrArg (B_s_markShapes k) (funext fun a0 => c_s_copyInts k a0)) (funext fun a0 => funext fun a1 => funext fun a2 => funext fun a3 => funext fun a4 => funext fun a5 => c_s_pushShape k a0 a1 a2 a3 a4 a5)) (funext fun a0 => funext fun a1 => funext fun a2 => funext fun a3 => funext fun a4 => funext fun a5 => c_s_shapeAt k a0 a1 a2 a3 a4 a5)) (funext fun a0 => c_s_keyKind k a0)) s_0) s_1) s_2) s_3) s_4) c)
theorem c_s_takeShapes (k : Nat) (s_0 : List Int) (s_1 : List Bool) (s_2 : List Int) (s_3 : List Int) (s_4 : Bool) (o_0 : Int) (o_1 : Int) : T.call k 126 sg_s_takeShapes ((s_0, s_1, s_2, s_3, s_4, ()), (o_0, o_1, ()), ()) = F_s_takeShapes k s_0 s_1 s_2 s_3 s_4 o_0 o_1 := by
  cases k with
  | zero => rfl
  | succ k => exact (b_s_takeShapes k s_0 s_1 s_2 s_3 s_4 o_0 o_1).trans (congrFun (congrFun (congrFun (congrFun (congrFun (congrFun (congrFun (congr (congr (congrArg (B_s_takeShapes k) (funext fun a0 => funext fun a1 => funext fun a2 => funext fun a3 => funext fun a4 => funext fun a5 => c_s_shapeAt k a0 a1 a2 a3 a4 a5)) (funext fun a0 => funext fun a1 => funext fun a2 => funext fun a3 => funext fun a4 => funext fun a5 => c_s_pushShape k a0 a1 a2 a3 a4 a5)) (funext fun a0 => c_s_keyKind k a0)) s_0) s_1) s_2) s_3) s_4) o_0) o_1)
theorem c_s_stepShapes (k : Nat) (s_0 : List Int) (s_1 : List Bool) (s_2 : List Int) (s_3 : List Int) (s_4 : Bool) (o_0 : Int) (o_1 : Int) : T.call k 102 sg_s_stepShapes ((s_0, s_1, s_2, s_3, s_4, ()), (o_0, o_1, ()), ()) = F_s_stepShapes k s_0 s_1 s_2 s_3 s_4 o_0 o_1 := by
  cases k with
  | zero => rfl
  | succ k => exact (b_s_stepShapes k s_0 s_1 s_2 s_3 s_4 o_0 o_1).trans (congrFun (congrFun (congrFun (congrFun (congrFun (congrFun (congrFun (congr (congr (congr (congrArg (B_s_stepShapes k) (funext fun a0 => c_s_newKind k a0)) (funext fun a0 => funext fun a1 => funext fun a2 => funext fun a3 => funext fun a4 => funext fun a5 => c_s_pushShape k a0 a1 a2 a3 a4 a5)) (funext fun a0 => funext fun a1 => funext fun a2 => funext fun a3 => funext fun a4 => funext fun a5 => c_s_markShapes k a0 a1 a2 a3 a4 a5)) (funext fun a0 => funext fun a1 => funext fun a2 => funext fun a3 => funext fun a4 => funext fun a5 => funext fun a6 => c_s_takeShapes k a0 a1 a2 a3 a4 a5 a6)) s_0) s_1) s_2) s_3) s_4) o_0) o_1)
theorem c_s_argOf (k : Nat) (c : Int) : T.call k 94 sg_s_argOf (c, ()) = F_s_argOf k c := by
  cases k with
  | zero => rfl
  | succ k => exact (b_s_argOf k c)
theorem c_s_inRange (k : Nat) (n0 : Int) (low : Int) (high : Int) : T.call k 92 sg_s_inRange (n0, low, high, ()) = F_s_inRange k n0 low high := by
  cases k with
  | zero => rfl
  | succ k => exact (b_s_inRange k n0 low high)
theorem c_s_validOp (k : Nat) (o_0 : Int) (o_1 : Int) : T.call k 65 sg_s_validOp ((o_0, o_1, ()), ()) = F_s_validOp k o_0 o_1 := by
  cases k with
  | zero => rfl
  | succ k => exact (b_s_validOp k o_0 o_1).trans (congrFun (congrFun (congr (congrArg (B_s_validOp k) (funext fun a0 => c_s_argOf k a0)) (funext fun a0 => funext fun a1 => funext fun a2 => c_s_inRange k a0 a1 a2)) o_0) o_1)
theorem c_s_validOps (k : Nat) (ops : List (Int × Int)) : T.call k 70 sg_s_validOps (ops, ()) = F_s_validOps k ops := by
  cases k with
  | zero => rfl
  | succ k => exact (b_s_validOps k ops).trans (congrFun (congrArg (B_s_validOps k) (funext fun a0 => funext fun a1 => c_s_validOp k a0 a1)) ops)
theorem c_s_runShapes (k : Nat) (ops : List (Int × Int)) : T.call k 71 sg_s_runShapes (ops, ()) = F_s_runShapes k ops := by
  cases k with
  | zero => rfl
  | succ k => exact (b_s_runShapes k ops).trans (congrFun (congr (congr (congrArg (B_s_runShapes k) (c_s_newShapes k)) (funext fun a0 => funext fun a1 => funext fun a2 => funext fun a3 => funext fun a4 => c_s_copyShapes k a0 a1 a2 a3 a4)) (funext fun a0 => funext fun a1 => funext fun a2 => funext fun a3 => funext fun a4 => funext fun a5 => funext fun a6 => c_s_stepShapes k a0 a1 a2 a3 a4 a5 a6)) ops)
theorem c_s_EndOps (k : Nat) (ops : List (Int × Int)) : T.call k 45 sg_s_EndOps (ops, ()) = F_s_EndOps k ops := by
  cases k with
  | zero => rfl
  | succ k => exact (b_s_EndOps k ops).trans (congrFun (congr (congrArg (B_s_EndOps k) (funext fun a0 => c_s_validOps k a0)) (funext fun a0 => c_s_runShapes k a0)) ops)
theorem c_s_CutOps (k : Nat) (ops : List (Int × Int)) : T.call k 38 sg_s_CutOps (ops, ()) = F_s_CutOps k ops := by
  cases k with
  | zero => rfl
  | succ k => exact (b_s_CutOps k ops).trans (congrFun (congr (congrArg (B_s_CutOps k) (funext fun a0 => c_s_validOps k a0)) (funext fun a0 => c_s_runShapes k a0)) ops)
theorem c_s_likelyOps (k : Nat) (r_b : List Int) (r_p : Int) : T.call k 87 sg_s_likelyOps ((r_b, r_p, ()), ()) = F_s_likelyOps k r_b r_p := by
  cases k with
  | zero => rfl
  | succ k => exact (b_s_likelyOps k r_b r_p).trans (congrFun (congrFun (congr (congr (congr (congr (congr (congr (congr (congrArg (B_s_likelyOps k) (c_s_newShapes k)) (funext fun a0 => funext fun a1 => funext fun a2 => c_s_reader_one k a0 a1 a2)) (funext fun a0 => funext fun a1 => c_s_someOp k a0 a1)) (funext fun a0 => funext fun a1 => funext fun a2 => c_s_reader_pick k a0 a1 a2)) (funext fun a0 => funext fun a1 => funext fun a2 => funext fun a3 => funext fun a4 => c_s_copyShapes k a0 a1 a2 a3 a4)) (funext fun a0 => funext fun a1 => funext fun a2 => funext fun a3 => funext fun a4 => funext fun a5 => funext fun a6 => c_s_stepShapes k a0 a1 a2 a3 a4 a5 a6)) (funext fun a0 => c_s_EndOps k a0)) (funext fun a0 => c_s_CutOps k a0)) r_b) r_p)
theorem c_s_someNode (k : Nat) (r_b : List Int) (r_p : Int) : T.call k 121 sg_s_someNode ((r_b, r_p, ()), ()) = F_s_someNode k r_b r_p := by
  cases k with
  | zero => rfl
  | succ k => exact (b_s_someNode k r_b r_p).trans (congrFun (congrFun (congr (congrArg (B_s_someNode k) (funext fun a0 => funext fun a1 => funext fun a2 => c_s_reader_pick k a0 a1 a2)) (funext fun a0 => funext fun a1 => funext fun a2 => c_s_reader_one k a0 a1 a2)) r_b) r_p)
theorem c_s_isKey (k : Nat) (n_0 : Int) (n_1 : Int) : T.call k 93 sg_s_isKey ((n_0, n_1, (), ()), ()) = F_s_isKey k n_0 n_1 := by
  cases k with
  | zero => rfl
  | succ k => exact (b_s_isKey k n_0 n_1)
theorem c_s_allIn (k : Nat) (list : List Int) (low : Int) (high : Int) : T.call k 91 sg_s_allIn (list, low, high, ()) = F_s_allIn k list low high := by
  cases k with
  | zero => rfl
  | succ k => exact (b_s_allIn k list low high).trans (congrFun (congrFun (congrFun (congrArg (B_s_allIn k) (funext fun a0 => funext fun a1 => funext fun a2 => c_s_inRange k a0 a1 a2)) list) low) high)
theorem c_s_sameKey (k : Nat) (a_0 : Int) (a_1 : Int) (b_0 : Int) (b_1 : Int) : T.call k 128 sg_s_sameKey ((a_0, a_1, (), ()), (b_0, b_1, (), ()), ()) = F_s_sameKey k a_0 a_1 b_0 b_1 := by
  cases k with
  | zero => rfl
  | succ k => exact (b_s_sameKey k a_0 a_1 b_0 b_1)
theorem c_s_validDict (k : Nat) (g_0 : List (Int × Int × List Int)) (g_1 : Int) (n_0 : Int) (n_1 : Int) (n_2 : List Int) : T.call k 139 sg_s_validDict ((g_0, g_1, ()), (n_0, n_1, n_2, ()), ()) = F_s_validDict k g_0 g_1 n_0 n_1 n_2 := by
  cases k with
  | zero => rfl
  | succ k => exact (b_s_validDict k g_0 g_1 n_0 n_1 n_2).trans (congrFun (congrFun (congrFun (congrFun (congrFun (congr (congrArg (B_s_validDict k) (funext fun a0 => funext fun a1 => c_s_isKey k a0 a1)) (funext fun a0 => funext fun a1 => funext fun a2 => funext fun a3 => c_s_sameKey k a0 a1 a2 a3)) g_0) g_1) n_0) n_1) n_2)
theorem c_s_validNode (k : Nat) (g_0 : List (Int × Int × List Int)) (g_1 : Int) (n_0 : Int) (n_1 : Int) (n_2 : List Int) : T.call k 136 sg_s_validNode ((g_0, g_1, ()), (n_0, n_1, n_2, ()), ()) = F_s_validNode k g_0 g_1 n_0 n_1 n_2 := by
  cases k with
  | zero => rfl
  | succ k => exact (b_s_validNode k g_0 g_1 n_0 n_1 n_2).trans (congrFun (congrFun (congrFun (congrFun (congrFun (congr (congr (congrArg (B_s_validNode k) (funext fun a0 => funext fun a1 => funext fun a2 => c_s_allIn k a0 a1 a2)) (funext fun a0 => funext fun a1 => funext fun a2 => c_s_inRange k a0 a1 a2)) (funext fun a0 => funext fun a1 => funext fun a2 => funext fun a3 => funext fun a4 => c_s_validDict k a0 a1 a2 a3 a4)) g_0) g_1) n_0) n_1) n_2)
theorem c_s_placeIn (k : Nat) (list : List Int) (n1 : Int) : T.call k 137 sg_s_placeIn (list, n1, ()) = F_s_placeIn k list n1 := by
  cases k with
  | zero => rfl
  | succ k => exact (b_s_placeIn k list n1)
theorem c_s_tupleReach (k : Nat) (g_0 : List (Int × Int × List Int)) (g_1 : Int) (at1 : Int) : T.call k 138 sg_s_tupleReach ((g_0, g_1, ()), at1, ()) = F_s_tupleReach k g_0 g_1 at1 := by
  cases k with
  | zero => rfl
  | succ k => exact (b_s_tupleReach k g_0 g_1 at1).trans (congrFun (congrFun (congrFun (congr (congrArg (B_s_tupleReach k) (funext fun a0 => c_s_copyInts k a0)) (funext fun a0 => funext fun a1 => c_s_placeIn k a0 a1)) g_0) g_1) at1)
theorem c_s_validGraph (k : Nat) (g_0 : List (Int × Int × List Int)) (g_1 : Int) : T.call k 133 sg_s_validGraph ((g_0, g_1, ()), ()) = F_s_validGraph k g_0 g_1 := by
  cases k with
  | zero => rfl
  | succ k => exact (b_s_validGraph k g_0 g_1).trans (congrFun (congrFun (congr (congr (congr (congrArg (B_s_validGraph k) (funext fun a0 => funext fun a1 => funext fun a2 => c_s_inRange k a0 a1 a2)) (funext fun a0 => funext fun a1 => funext fun a2 => funext fun a3 => funext fun a4 => c_s_validNode k a0 a1 a2 a3 a4)) (funext fun a0 => funext fun a1 => funext fun a2 => c_s_tupleReach k a0 a1 a2)) (funext fun a0 => funext fun a1 => c_s_placeIn k a0 a1)) g_0) g_1)
theorem c_s_addKids (k : Nat) (r_b : List Int) (r_p : Int) (g_0 : List (Int × Int × Option (List Int))) (g_1 : Int) (at2 : Int) : T.call k 122 sg_s_addKids ((r_b, r_p, ()), (g_0, g_1, ()), at2, ()) = F_s_addKids k r_b r_p g_0 g_1 at2 := by
  cases k with
  | zero => rfl
  | succ k => exact (b_s_addKids k r_b r_p g_0 g_1 at2).trans (congrFun (congrFun (congrFun (congrFun (congrFun (congr (congr (congr (congrArg (B_s_addKids k) (funext fun a0 => funext fun a1 => funext fun a2 => c_s_reader_one k a0 a1 a2)) (funext fun a0 => funext fun a1 => funext fun a2 => c_s_reader_pick k a0 a1 a2)) (funext fun a0 => funext fun a1 => c_s_isKey k a0 a1)) (funext fun a0 => funext fun a1 => c_s_validGraph k a0 a1)) r_b) r_p) g_0) g_1) at2)
theorem c_s_someGraph (k : Nat) (r_b : List Int) (r_p : Int) : T.call k 100 sg_s_someGraph ((r_b, r_p, ()), ()) = F_s_someGraph k r_b r_p := by
  cases k with
  | zero => rfl
  | succ k => exact (b_s_someGraph k r_b r_p).trans (congrFun (congrFun (congr (congr (congr (congrArg (B_s_someGraph k) (funext fun a0 => funext fun a1 => funext fun a2 => c_s_reader_one k a0 a1 a2)) (funext fun a0 => funext fun a1 => c_s_someNode k a0 a1)) (funext fun a0 => funext fun a1 => funext fun a2 => funext fun a3 => funext fun a4 => c_s_addKids k a0 a1 a2 a3 a4)) (funext fun a0 => funext fun a1 => funext fun a2 => c_s_reader_pick k a0 a1 a2)) r_b) r_p)
theorem c_s_emptyMemo (k : Nat) (g_0 : List (Int × Int × List Int)) (g_1 : Int) : T.call k 119 sg_s_emptyMemo ((g_0, g_1, ()), ()) = F_s_emptyMemo k g_0 g_1 := by
  cases k with
  | zero => rfl
  | succ k => exact (b_s_emptyMemo k g_0 g_1)
theorem c_s_emit (k : Nat) (ops : List (Int × Int)) (more1 : List (Int × Int)) : T.call k 120 sg_s_emit (ops, more1, ()) = F_s_emit k ops more1 := by
  cases k with
  | zero => rfl
  | succ k => exact (b_s_emit k ops more1)
theorem c_s_memoed (k : Nat) (ops : List (Int × Int)) (memo : List Int) (at2 : Int) : T.call k 129 sg_s_memoed (ops, memo, at2, ()) = F_s_memoed k ops memo at2 := by
  cases k with
  | zero => rfl
  | succ k => exact (b_s_memoed k ops memo at2).trans (congrFun (congrFun (congrFun (congr (congrArg (B_s_memoed k) (funext fun a0 => c_s_copyInts k a0)) (funext fun a0 => funext fun a1 => c_s_emit k a0 a1)) ops) memo) at2)
theorem c_s_saveAll_s_saveTuple_s_fill_s_save : ∀ k : Nat, (∀ (g_0 : List (Int × Int × List Int)) (g_1 : Int) (level : Int) (list : List Int) (ops : List (Int × Int)) (memo : List Int), T.call k 132 sg_s_saveAll ((g_0, g_1, ()), level, list, ops, memo, ()) = F_s_saveAll k g_0 g_1 level list ops memo) ∧ (∀ (g_0 : List (Int × Int × List Int)) (g_1 : Int) (level : Int) (at2 : Int) (ops : List (Int × Int)) (memo : List Int), T.call k 130 sg_s_saveTuple ((g_0, g_1, ()), level, at2, ops, memo, ()) = F_s_saveTuple k g_0 g_1 level at2 ops memo) ∧ (∀ (g_0 : List (Int × Int × List Int)) (g_1 : Int) (level : Int) (kids : List Int) (each : Int) (one : Int) (all : Int) (ops : List (Int × Int)) (memo : List Int), T.call k 131 sg_s_fill ((g_0, g_1, ()), level, kids, each, one, all, ops, memo, ()) = F_s_fill k g_0 g_1 level kids each one all ops memo) ∧ (∀ (g_0 : List (Int × Int × List Int)) (g_1 : Int) (level : Int) (at2 : Int) (ops : List (Int × Int)) (memo : List Int), T.call k 118 sg_s_save ((g_0, g_1, ()), level, at2, ops, memo, ()) = F_s_save k g_0 g_1 level at2 ops memo) := by
  intro k
  induction k with
  | zero => exact ⟨by intros; first | rfl | (rw [F_s_saveAll]; rfl), by intros; first | rfl | (rw [F_s_saveTuple]; rfl), by intros; first | rfl | (rw [F_s_fill]; rfl), by intros; first | rfl | (rw [F_s_save]; rfl)⟩
  | succ k ih =>
    obtain ⟨h_s_saveAll, h_s_saveTuple, h_s_fill, h_s_save⟩ := ih
    refine ⟨?_, ?_, ?_, ?_⟩
    · intro g_0 g_1 level list ops memo; rw [F_s_saveAll_succ]; exact (b_s_saveAll k g_0 g_1 level list ops memo).trans (congrFun (congrFun (congrFun (congrFun (congrFun (congrFun (congrArg (B_s_saveAll k) (funext fun a0 => funext fun a1 => funext fun a2 => funext fun a3 => funext fun a4 => funext fun a5 => h_s_save a0 a1 a2 a3 a4 a5)) g_0) g_1) level) list) ops) memo)
    · intro g_0 g_1 level at2 ops memo; rw [F_s_saveTuple_succ]; exact (b_s_saveTuple k g_0 g_1 level at2 ops memo).trans (congrFun (congrFun (congrFun (congrFun (congrFun (congrFun (congr (congr (congrArg (B_s_saveTuple k) (funext fun a0 => funext fun a1 => c_s_emit k a0 a1)) (funext fun a0 => funext fun a1 => funext fun a2 => c_s_memoed k a0 a1 a2)) (funext fun a0 => funext fun a1 => funext fun a2 => funext fun a3 => funext fun a4 => funext fun a5 => h_s_saveAll a0 a1 a2 a3 a4 a5)) g_0) g_1) level) at2) ops) memo)
    · intro g_0 g_1 level kids each one all ops memo; rw [F_s_fill_succ]; exact (b_s_fill k g_0 g_1 level kids each one all ops memo).trans (congrFun (congrFun (congrFun (congrFun (congrFun (congrFun (congrFun (congrFun (congrFun (congr (congrArg (B_s_fill k) (funext fun a0 => funext fun a1 => c_s_emit k a0 a1)) (funext fun a0 => funext fun a1 => funext fun a2 => funext fun a3 => funext fun a4 => funext fun a5 => h_s_saveAll a0 a1 a2 a3 a4 a5)) g_0) g_1) level) kids) each) one) all) ops) memo)
    · intro g_0 g_1 level at2 ops memo; rw [F_s_save_succ]; exact (b_s_save k g_0 g_1 level at2 ops memo).trans (congrFun (congrFun (congrFun (congrFun (congrFun (congrFun (congr (congr (congr (congr (congrArg (B_s_save k) (funext fun a0 => funext fun a1 => c_s_emit k a0 a1)) (funext fun a0 => funext fun a1 => funext fun a2 => c_s_memoed k a0 a1 a2)) (funext fun a0 => funext fun a1 => funext fun a2 => funext fun a3 => funext fun a4 => funext fun a5 => h_s_saveTuple a0 a1 a2 a3 a4 a5)) (funext fun a0 => funext fun a1 => funext fun a2 => funext fun a3 => funext fun a4 => funext fun a5 => funext fun a6 => funext fun a7 => funext fun a8 => h_s_fill a0 a1 a2 a3 a4 a5 a6 a7 a8)) (funext fun a0 => funext fun a1 => funext fun a2 => funext fun a3 => funext fun a4 => funext fun a5 => h_s_saveAll a0 a1 a2 a3 a4 a5)) g_0) g_1) level) at2) ops) memo)
theorem c_s_saveAll (k : Nat) (g_0 : List (Int × Int × List Int)) (g_1 : Int) (level : Int) (list : List Int) (ops : List (Int × Int)) (memo : List Int) : T.call k 132 sg_s_saveAll ((g_0, g_1, ()), level, list, ops, memo, ()) = F_s_saveAll k g_0 g_1 level list ops memo := (c_s_saveAll_s_saveTuple_s_fill_s_save k).1 g_0 g_1 level list ops memo
theorem c_s_saveTuple (k : Nat) (g_0 : List (Int × Int × List Int)) (g_1 : Int) (level : Int) (at2 : Int) (ops : List (Int × Int)) (memo : List Int) : T.call k 130 sg_s_saveTuple ((g_0, g_1, ()), level, at2, ops, memo, ()) = F_s_saveTuple k g_0 g_1 level at2 ops memo := (c_s_saveAll_s_saveTuple_s_fill_s_save k).2.1 g_0 g_1 level at2 ops memo
theorem c_s_fill (k : Nat) (g_0 : List (Int × Int × List Int)) (g_1 : Int) (level : Int) (kids : List Int) (each : Int) (one : Int) (all : Int) (ops : List (Int × Int)) (memo : List Int) : T.call k 131 sg_s_fill ((g_0, g_1, ()), level, kids, each, one, all, ops, memo, ()) = F_s_fill k g_0 g_1 level kids each one all ops memo := (c_s_saveAll_s_saveTuple_s_fill_s_save k).2.2.1 g_0 g_1 level kids each one all ops memo
theorem c_s_save (k : Nat) (g_0 : List (Int × Int × List Int)) (g_1 : Int) (level : Int) (at2 : Int) (ops : List (Int × Int)) (memo : List Int) : T.call k 118 sg_s_save ((g_0, g_1, ()), level, at2, ops, memo, ()) = F_s_save k g_0 g_1 level at2 ops memo := (c_s_saveAll_s_saveTuple_s_fill_s_save k).2.2.2 g_0 g_1 level at2 ops memo
theorem c_s_written (k : Nat) (g_0 : List (Int × Int × List Int)) (g_1 : Int) (level : Int) : T.call k 99 sg_s_written ((g_0, g_1, ()), level, ()) = F_s_written k g_0 g_1 level := by
  cases k with
  | zero => rfl
  | succ k => exact (b_s_written k g_0 g_1 level).trans (congrFun (congrFun (congrFun (congr (congr (congrArg (B_s_written k) (funext fun a0 => funext fun a1 => c_s_emptyMemo k a0 a1)) (funext fun a0 => funext fun a1 => funext fun a2 => funext fun a3 => funext fun a4 => funext fun a5 => c_s_save k a0 a1 a2 a3 a4 a5)) (funext fun a0 => funext fun a1 => c_s_emit k a0 a1)) g_0) g_1) level)
theorem c_s_someOps (k : Nat) (r_b : List Int) (r_p : Int) : T.call k 69 sg_s_someOps ((r_b, r_p, ()), ()) = F_s_someOps k r_b r_p := by
  cases k with
  | zero => rfl
  | succ k => exact (b_s_someOps k r_b r_p).trans (congrFun (congrFun (congr (congr (congr (congr (congr (congrArg (B_s_someOps k) (funext fun a0 => funext fun a1 => funext fun a2 => c_s_reader_pick k a0 a1 a2)) (funext fun a0 => funext fun a1 => c_s_likelyOps k a0 a1)) (funext fun a0 => funext fun a1 => c_s_someGraph k a0 a1)) (funext fun a0 => funext fun a1 => funext fun a2 => c_s_written k a0 a1 a2)) (funext fun a0 => funext fun a1 => c_s_someOp k a0 a1)) (funext fun a0 => funext fun a1 => funext fun a2 => c_s_reader_one k a0 a1 a2)) r_b) r_p)
theorem c_s_DrawMarksOf (k : Nat) (code : List Int) : T.call k 47 sg_s_DrawMarksOf (code, ()) = F_s_DrawMarksOf k code := by
  cases k with
  | zero => rfl
  | succ k => exact (b_s_DrawMarksOf k code).trans (congrFun (congr (congrArg (B_s_DrawMarksOf k) (funext fun a0 => c_s_newReader k a0)) (funext fun a0 => funext fun a1 => c_s_someOps k a0 a1)) code)
theorem c_i_mostArg (k : Nat) (code : Int) : T.call k 88 sg_i_mostArg (code, ()) = F_i_mostArg k code := by
  cases k with
  | zero => rfl
  | succ k => exact (b_i_mostArg k code)
theorem c_i_opOk (k : Nat) (o_0 : Int) (o_1 : Int) : T.call k 61 sg_i_opOk ((o_0, o_1, ()), ()) = F_i_opOk k o_0 o_1 := by
  cases k with
  | zero => rfl
  | succ k => exact (b_i_opOk k o_0 o_1).trans (congrFun (congrFun (congrArg (B_i_opOk k) (funext fun a0 => c_i_mostArg k a0)) o_0) o_1)
theorem c_i_ValidOps (k : Nat) (ops : List (Int × Int)) : T.call k 23 sg_i_ValidOps (ops, ()) = F_i_ValidOps k ops := by
  cases k with
  | zero => rfl
  | succ k => exact (b_i_ValidOps k ops).trans (congrFun (congrArg (B_i_ValidOps k) (funext fun a0 => funext fun a1 => c_i_opOk k a0 a1)) ops)
theorem c_i_marks (k : Nat) (m_0 : List (Int × Int × List Int)) (m_1 : List Int) (m_2 : List Int) (m_3 : Bool) : T.call k 82 sg_i_marks ((m_0, m_1, m_2, m_3, ()), ()) = F_i_marks k m_0 m_1 m_2 m_3 := by
  cases k with
  | zero => rfl
  | succ k => exact (b_i_marks k m_0 m_1 m_2 m_3)
theorem c_i_MarksOf_1 (k : Nat) (m_0 : List (Int × Int × List Int)) (m_1 : List Int) (m_2 : List Int) (m_3 : Bool) (t1 : List Int) : T.call k 83 sg_i_MarksOf_1 ((m_0, m_1, m_2, m_3, ()), (t1, ()), ()) = F_i_MarksOf_1 k m_0 m_1 m_2 m_3 t1 := by
  cases k with
  | zero => rfl
  | succ k => exact (b_i_MarksOf_1 k m_0 m_1 m_2 m_3 t1).trans (congrFun (congrFun (congrFun (congrFun (congrFun (congrArg (B_i_MarksOf_1 k) (funext fun a0 => funext fun a1 => funext fun a2 => funext fun a3 => c_i_marks k a0 a1 a2 a3)) m_0) m_1) m_2) m_3) t1)
theorem c_i_NewMachine (k : Nat) (filled : Int) : T.call k 104 sg_i_NewMachine (filled, ()) = F_i_NewMachine k filled := by
  cases k with
  | zero => rfl
  | succ k => exact (b_i_NewMachine k filled)
theorem c_slices_Clone_int_int (k : Nat) (s : List Int) : T.call k 68 sg_slices_Clone_int_int (s, ()) = F_slices_Clone_int_int k s := by
  cases k with
  | zero => rfl
  | succ k => exact (b_slices_Clone_int_int k s)
theorem c_i_Machine_nodes (k : Nat) (m_Nodes : List (Int × Int × List Int)) (m_Stack : List Int) (m_Memo : List Int) (m_Done : Bool) : T.call k 105 sg_i_Machine_nodes ((m_Nodes, m_Stack, m_Memo, m_Done, ()), ()) = F_i_Machine_nodes k m_Nodes m_Stack m_Memo m_Done := by
  cases k with
  | zero => rfl
  | succ k => exact (b_i_Machine_nodes k m_Nodes m_Stack m_Memo m_Done)
theorem c_i_Machine_push (k : Nat) (m_Nodes : List (Int × Int × List Int)) (m_Stack : List Int) (m_Memo : List Int) (m_Done : Bool) (i : Int) : T.call k 107 sg_i_Machine_push ((m_Nodes, m_Stack, m_Memo, m_Done, ()), i, ()) = F_i_Machine_push k m_Nodes m_Stack m_Memo m_Done i := by
  cases k with
  | zero => rfl
  | succ k => exact (b_i_Machine_push k m_Nodes m_Stack m_Memo m_Done i)
theorem c_i_Machine_make (k : Nat) (m_Nodes : List (Int × Int × List Int)) (m_Stack : List Int) (m_Memo : List Int) (m_Done : Bool) (kind : Int) (value : Int) (kids : List Int) : T.call k 106 sg_i_Machine_make ((m_Nodes, m_Stack, m_Memo, m_Done, ()), kind, value, kids, ()) = F_i_Machine_make k m_Nodes m_Stack m_Memo m_Done kind value kids := by
  cases k with
  | zero => rfl
  | succ k => exact (b_i_Machine_make k m_Nodes m_Stack m_Memo m_Done kind value kids).trans (congrFun (congrFun (congrFun (congrFun (congrFun (congrFun (congrFun (congr (congrArg (B_i_Machine_make k) (funext fun a0 => c_slices_Clone_int_int k a0)) (funext fun a0 => funext fun a1 => funext fun a2 => funext fun a3 => funext fun a4 => c_i_Machine_push k a0 a1 a2 a3 a4)) m_Nodes) m_Stack) m_Memo) m_Done) kind) value) kids)
theorem c_i_Machine_take (k : Nat) (m_Nodes : List (Int × Int × List Int)) (m_Stack : List Int) (m_Memo : List Int) (m_Done : Bool) (n1 : Int) : T.call k 109 sg_i_Machine_take ((m_Nodes, m_Stack, m_Memo, m_Done, ()), n1, ()) = F_i_Machine_take k m_Nodes m_Stack m_Memo m_Done n1 := by
  cases k with
  | zero => rfl
  | succ k => exact (b_i_Machine_take k m_Nodes m_Stack m_Memo m_Done n1).trans (congrFun (congrFun (congrFun (congrFun (congrFun (congrArg (B_i_Machine_take k) (funext fun a0 => c_slices_Clone_int_int k a0)) m_Nodes) m_Stack) m_Memo) m_Done) n1)
theorem c_i_Machine_above (k : Nat) (m_Nodes : List (Int × Int × List Int)) (m_Stack : List Int) (m_Memo : List Int) (m_Done : Bool) : T.call k 108 sg_i_Machine_above ((m_Nodes, m_Stack, m_Memo, m_Done, ()), ()) = F_i_Machine_above k m_Nodes m_Stack m_Memo m_Done := by
  cases k with
  | zero => rfl
  | succ k => exact (b_i_Machine_above k m_Nodes m_Stack m_Memo m_Done).trans (congrFun (congrFun (congrFun (congrFun (congr (congrArg (B_i_Machine_above k) (funext fun a0 => funext fun a1 => funext fun a2 => funext fun a3 => c_i_Machine_nodes k a0 a1 a2 a3)) (funext fun a0 => funext fun a1 => funext fun a2 => funext fun a3 => funext fun a4 => c_i_Machine_take k a0 a1 a2 a3 a4)) m_Nodes) m_Stack) m_Memo) m_Done)
theorem c_i_Machine_top (k : Nat) (m_Nodes : List (Int × Int × List Int)) (m_Stack : List Int) (m_Memo : List Int) (m_Done : Bool) (kind : Int) : T.call k 110 sg_i_Machine_top ((m_Nodes, m_Stack, m_Memo, m_Done, ()), kind, ()) = F_i_Machine_top k m_Nodes m_Stack m_Memo m_Done kind := by
  cases k with
  | zero => rfl
  | succ k => exact (b_i_Machine_top k m_Nodes m_Stack m_Memo m_Done kind).trans (congrFun (congrFun (congrFun (congrFun (congrFun (congrArg (B_i_Machine_top k) (funext fun a0 => funext fun a1 => funext fun a2 => funext fun a3 => c_i_Machine_nodes k a0 a1 a2 a3)) m_Nodes) m_Stack) m_Memo) m_Done) kind)
theorem c_i_findKey (k : Nat) (nodes : List (Int × Int × List Int)) (kids : List Int) (key_0 : Int) (key_1 : Int) : T.call k 127 sg_i_findKey (nodes, kids, (key_0, key_1, (), ()), ()) = F_i_findKey k nodes kids key_0 key_1 := by
  cases k with
  | zero => rfl
  | succ k => exact (b_i_findKey k nodes kids key_0 key_1)
theorem c_i_Machine_set (k : Nat) (m_Nodes : List (Int × Int × List Int)) (m_Stack : List Int) (m_Memo : List Int) (m_Done : Bool) (pairs : List Int) : T.call k 111 sg_i_Machine_set ((m_Nodes, m_Stack, m_Memo, m_Done, ()), pairs, ()) = F_i_Machine_set k m_Nodes m_Stack m_Memo m_Done pairs := by
  cases k with
  | zero => rfl
  | succ k => exact (b_i_Machine_set k m_Nodes m_Stack m_Memo m_Done pairs).trans (congrFun (congrFun (congrFun (congrFun (congrFun (congr (congrArg (B_i_Machine_set k) (funext fun a0 => funext fun a1 => funext fun a2 => funext fun a3 => funext fun a4 => c_i_Machine_top k a0 a1 a2 a3 a4)) (funext fun a0 => funext fun a1 => funext fun a2 => funext fun a3 => c_i_findKey k a0 a1 a2 a3)) m_Nodes) m_Stack) m_Memo) m_Done) pairs)
theorem c_i_Machine_do (k : Nat) (m_Nodes : List (Int × Int × List Int)) (m_Stack : List Int) (m_Memo : List Int) (m_Done : Bool) (o_0 : Int) (o_1 : Int) : T.call k 90 sg_i_Machine_do ((m_Nodes, m_Stack, m_Memo, m_Done, ()), (o_0, o_1, ()), ()) = F_i_Machine_do k m_Nodes m_Stack m_Memo m_Done o_0 o_1 := by
  cases k with
  | zero => rfl
  | succ k => exact (b_i_Machine_do k m_Nodes m_Stack m_Memo m_Done o_0 o_1).trans (congrFun (congrFun (congrFun (congrFun (congrFun (congrFun (congr (congr (congr (congr (congr (congr (congrArg (B_i_Machine_do k) (funext fun a0 => funext fun a1 => funext fun a2 => funext fun a3 => c_i_Machine_nodes k a0 a1 a2 a3)) (funext fun a0 => funext fun a1 => funext fun a2 => funext fun a3 => funext fun a4 => funext fun a5 => funext fun a6 => c_i_Machine_make k a0 a1 a2 a3 a4 a5 a6)) (funext fun a0 => funext fun a1 => funext fun a2 => funext fun a3 => funext fun a4 => c_i_Machine_push k a0 a1 a2 a3 a4)) (funext fun a0 => funext fun a1 => funext fun a2 => funext fun a3 => c_i_Machine_above k a0 a1 a2 a3)) (funext fun a0 => funext fun a1 => funext fun a2 => funext fun a3 => funext fun a4 => c_i_Machine_take k a0 a1 a2 a3 a4)) (funext fun a0 => funext fun a1 => funext fun a2 => funext fun a3 => funext fun a4 => c_i_Machine_top k a0 a1 a2 a3 a4)) (funext fun a0 => funext fun a1 => funext fun a2 => funext fun a3 => funext fun a4 => c_i_Machine_set k a0 a1 a2 a3 a4)) m_Nodes) m_Stack) m_Memo) m_Done) o_0) o_1)
theorem c_i_Machine_step (k : Nat) (m_Nodes : List (Int × Int × List Int)) (m_Stack : List Int) (m_Memo : List Int) (m_Done : Bool) (o_0 : Int) (o_1 : Int) : T.call k 63 sg_i_Machine_step ((m_Nodes, m_Stack, m_Memo, m_Done, ()), (o_0, o_1, ()), ()) = F_i_Machine_step k m_Nodes m_Stack m_Memo m_Done o_0 o_1 := by
  cases k with
  | zero => rfl
  | succ k => exact (b_i_Machine_step k m_Nodes m_Stack m_Memo m_Done o_0 o_1).trans (congrFun (congrFun (congrFun (congrFun (congrFun (congrFun (congr (congrArg (B_i_Machine_step k) (funext fun a0 => c_slices_Clone_int_int k a0)) (funext fun a0 => funext fun a1 => funext fun a2 => funext fun a3 => funext fun a4 => funext fun a5 => c_i_Machine_do k a0 a1 a2 a3 a4 a5)) m_Nodes) m_Stack) m_Memo) m_Done) o_0) o_1)
theorem c_i_copyNodes (k : Nat) (nodes : List (Int × Int × List Int)) : T.call k 89 sg_i_copyNodes (nodes, ()) = F_i_copyNodes k nodes := by
  cases k with
  | zero => rfl
  | succ k => exact (b_i_copyNodes k nodes).trans (congrFun (congrArg (B_i_copyNodes k) (funext fun a0 => c_slices_Clone_int_int k a0)) nodes)
theorem c_i_copyMachine (k : Nat) (m_0 : List (Int × Int × List Int)) (m_1 : List Int) (m_2 : List Int) (m_3 : Bool) : T.call k 62 sg_i_copyMachine ((m_0, m_1, m_2, m_3, ()), ()) = F_i_copyMachine k m_0 m_1 m_2 m_3 := by
  cases k with
  | zero => rfl
  | succ k => exact (b_i_copyMachine k m_0 m_1 m_2 m_3).trans (congrFun (congrFun (congrFun (congrFun (congr (congrArg (B_i_copyMachine k) (funext fun a0 => c_i_copyNodes k a0)) (funext fun a0 => c_slices_Clone_int_int k a0)) m_0) m_1) m_2) m_3)
theorem c_i_running__c_i_MarksOf_1 (k : Nat) (ops : List (Int × Int)) (after : List Int) : T.call k 72 sg_i_running__c_i_MarksOf_1 (ops, (after, ()), ()) = F_i_running__c_i_MarksOf_1 k ops after := by
  cases k with
  | zero => rfl
  | succ k => exact (b_i_running__c_i_MarksOf_1 k ops after).trans (congrFun (congrFun (congr (congr (congr (congrArg (B_i_running__c_i_MarksOf_1 k) (funext fun a0 => c_i_NewMachine k a0)) (funext fun a0 => funext fun a1 => funext fun a2 => funext fun a3 => funext fun a4 => funext fun a5 => c_i_Machine_step k a0 a1 a2 a3 a4 a5)) (funext fun a0 => funext fun a1 => funext fun a2 => funext fun a3 => c_i_copyMachine k a0 a1 a2 a3)) (funext fun a0 => funext fun a1 => funext fun a2 => funext fun a3 => funext fun a4 => c_i_MarksOf_1 k a0 a1 a2 a3 a4)) ops) after)
theorem c_i_MarksOf (k : Nat) (ops : List (Int × Int)) : T.call k 48 sg_i_MarksOf (ops, ()) = F_i_MarksOf k ops := by
  cases k with
  | zero => rfl
  | succ k => exact (b_i_MarksOf k ops).trans (congrFun (congr (congrArg (B_i_MarksOf k) (funext fun a0 => c_i_ValidOps k a0)) (funext fun a0 => funext fun a1 => c_i_running__c_i_MarksOf_1 k a0 a1)) ops)
theorem c_s_MarksOf (k : Nat) (ops : List (Int × Int)) : T.call k 49 sg_s_MarksOf (ops, ()) = F_s_MarksOf k ops := by
  cases k with
  | zero => rfl
  | succ k => exact (b_s_MarksOf k ops).trans (congrFun (congr (congrArg (B_s_MarksOf k) (funext fun a0 => c_s_validOps k a0)) (funext fun a0 => c_s_runShapes k a0)) ops)
theorem c_l_equalInts (k : Nat) (a : List Int) (b : List Int) : T.call k 31 sg_l_equalInts (a, b, ()) = F_l_equalInts k a b := by
  cases k with
  | zero => rfl
  | succ k => exact (b_l_equalInts k a b)
theorem c_i_TakesOf (k : Nat) (c : Int) : T.call k 30 sg_i_TakesOf (c, ()) = F_i_TakesOf k c := by
  cases k with
  | zero => rfl
  | succ k => exact (b_i_TakesOf k c)
theorem c_i_DepthsOf_1 (k : Nat) (m_0 : List (Int × Int × List Int)) (m_1 : List Int) (m_2 : List Int) (m_3 : Bool) (t1 : List Int) : T.call k 80 sg_i_DepthsOf_1 ((m_0, m_1, m_2, m_3, ()), (t1, ()), ()) = F_i_DepthsOf_1 k m_0 m_1 m_2 m_3 t1 := by
  cases k with
  | zero => rfl
  | succ k => exact (b_i_DepthsOf_1 k m_0 m_1 m_2 m_3 t1)
theorem c_i_running__c_i_DepthsOf_1 (k : Nat) (ops : List (Int × Int)) (after : List Int) : T.call k 100072 sg_i_running__c_i_DepthsOf_1 (ops, (after, ()), ()) = F_i_running__c_i_DepthsOf_1 k ops after := by
  cases k with
  | zero => rfl
  | succ k => exact (b_i_running__c_i_DepthsOf_1 k ops after).trans (congrFun (congrFun (congr (congr (congr (congrArg (B_i_running__c_i_DepthsOf_1 k) (funext fun a0 => c_i_NewMachine k a0)) (funext fun a0 => funext fun a1 => funext fun a2 => funext fun a3 => funext fun a4 => funext fun a5 => c_i_Machine_step k a0 a1 a2 a3 a4 a5)) (funext fun a0 => funext fun a1 => funext fun a2 => funext fun a3 => c_i_copyMachine k a0 a1 a2 a3)) (funext fun a0 => funext fun a1 => funext fun a2 => funext fun a3 => funext fun a4 => c_i_DepthsOf_1 k a0 a1 a2 a3 a4)) ops) after)
theorem c_i_DepthsOf (k : Nat) (ops : List (Int × Int)) : T.call k 41 sg_i_DepthsOf (ops, ()) = F_i_DepthsOf k ops := by
  cases k with
  | zero => rfl
  | succ k => exact (b_i_DepthsOf k ops).trans (congrFun (congr (congrArg (B_i_DepthsOf k) (funext fun a0 => c_i_ValidOps k a0)) (funext fun a0 => funext fun a1 => c_i_running__c_i_DepthsOf_1 k a0 a1)) ops)
theorem c_i_BuildGraph_1 (k : Nat) (t0_0 : List (Int × Int × List Int)) (t0_1 : List Int) (t0_2 : List Int) (t0_3 : Bool) : T.call k 73 sg_i_BuildGraph_1 ((t0_0, t0_1, t0_2, t0_3, ()), ()) = F_i_BuildGraph_1 k t0_0 t0_1 t0_2 t0_3 := by
  cases k with
  | zero => rfl
  | succ k => exact (b_i_BuildGraph_1 k t0_0 t0_1 t0_2 t0_3)
theorem c_i_running__i_BuildGraph_1 (k : Nat) (ops : List (Int × Int)) : T.call k 200072 sg_i_running__i_BuildGraph_1 (ops, 73, ()) = F_i_running__i_BuildGraph_1 k ops := by
  cases k with
  | zero => rfl
  | succ k => exact (b_i_running__i_BuildGraph_1 k ops).trans (congrFun (congr (congr (congr (congrArg (B_i_running__i_BuildGraph_1 k) (funext fun a0 => c_i_NewMachine k a0)) (funext fun a0 => funext fun a1 => funext fun a2 => funext fun a3 => funext fun a4 => funext fun a5 => c_i_Machine_step k a0 a1 a2 a3 a4 a5)) (funext fun a0 => funext fun a1 => funext fun a2 => funext fun a3 => c_i_copyMachine k a0 a1 a2 a3)) (funext fun a0 => funext fun a1 => funext fun a2 => funext fun a3 => c_i_BuildGraph_1 k a0 a1 a2 a3)) ops)
theorem c_i_BuildGraph (k : Nat) (ops : List (Int × Int)) : T.call k 24 sg_i_BuildGraph (ops, ()) = F_i_BuildGraph k ops := by
  cases k with
  | zero => rfl
  | succ k => exact (b_i_BuildGraph k ops).trans (congrFun (congr (congrArg (B_i_BuildGraph k) (funext fun a0 => c_i_ValidOps k a0)) (funext fun a0 => c_i_running__i_BuildGraph_1 k a0)) ops)
theorem c_i_IsWhole (k : Nat) (ops : List (Int × Int)) : T.call k 21 sg_i_IsWhole (ops, ()) = F_i_IsWhole k ops := by
  cases k with
  | zero => rfl
  | succ k => exact (b_i_IsWhole k ops).trans (congrFun (congrArg (B_i_IsWhole k) (funext fun a0 => c_i_BuildGraph k a0)) ops)
theorem c_l_FnMarksOf (k : Nat) (code : List Int) : T.call k 11 sg_l_FnMarksOf (code, ()) = F_l_FnMarksOf k code := by
  cases k with
  | zero => rfl
  | succ k => exact (b_l_FnMarksOf k code).trans (congrFun (congr (congr (congr (congr (congr (congr (congrArg (B_l_FnMarksOf k) (funext fun a0 => c_s_DrawMarksOf k a0)) (funext fun a0 => c_i_MarksOf k a0)) (funext fun a0 => c_s_MarksOf k a0)) (funext fun a0 => funext fun a1 => c_l_equalInts k a0 a1)) (funext fun a0 => c_i_TakesOf k a0)) (funext fun a0 => c_i_DepthsOf k a0)) (funext fun a0 => c_i_IsWhole k a0)) code)
theorem fo11 : FnOK Try.prog 11 := ⟨Try.f11, Try.func11, by kernel_rfl, by kernel_rfl⟩
theorem fo21 : FnOK Try.prog 21 := ⟨Try.f21, Try.func21, by kernel_rfl, by kernel_rfl⟩
theorem fo23 : FnOK Try.prog 23 := ⟨Try.f23, Try.func23, by kernel_rfl, by kernel_rfl⟩
theorem fo24 : FnOK Try.prog 24 := ⟨Try.f24, Try.func24, by kernel_rfl, by kernel_rfl⟩
theorem fo30 : FnOK Try.prog 30 := ⟨Try.f30, Try.func30, by kernel_rfl, by kernel_rfl⟩
theorem fo31 : FnOK Try.prog 31 := ⟨Try.f31, Try.func31, by kernel_rfl, by kernel_rfl⟩
theorem fo38 : FnOK Try.prog 38 := ⟨Try.f38, Try.func38, by kernel_rfl, by kernel_rfl⟩
theorem fo41 : FnOK Try.prog 41 := ⟨Try.f41, Try.func41, by kernel_rfl, by kernel_rfl⟩
theorem fo45 : FnOK Try.prog 45 := ⟨Try.f45, Try.func45, by kernel_rfl, by kernel_rfl⟩
theorem fo47 : FnOK Try.prog 47 := ⟨Try.f47, Try.func47, by kernel_rfl, by kernel_rfl⟩
theorem fo48 : FnOK Try.prog 48 := ⟨Try.f48, Try.func48, by kernel_rfl, by kernel_rfl⟩
theorem fo49 : FnOK Try.prog 49 := ⟨Try.f49, Try.func49, by kernel_rfl, by kernel_rfl⟩
theorem fo56 : FnOK Try.prog 56 := ⟨Try.f56, Try.func56, by kernel_rfl, by kernel_rfl⟩
theorem fo58 : FnOK Try.prog 58 := ⟨Try.f58, Try.func58, by kernel_rfl, by kernel_rfl⟩
theorem fo59 : FnOK Try.prog 59 := ⟨Try.f59, Try.func59, by kernel_rfl, by kernel_rfl⟩
theorem fo60 : FnOK Try.prog 60 := ⟨Try.f60, Try.func60, by kernel_rfl, by kernel_rfl⟩
theorem fo61 : FnOK Try.prog 61 := ⟨Try.f61, Try.func61, by kernel_rfl, by kernel_rfl⟩
theorem fo62 : FnOK Try.prog 62 := ⟨Try.f62, Try.func62, by kernel_rfl, by kernel_rfl⟩
theorem fo63 : FnOK Try.prog 63 := ⟨Try.f63, Try.func63, by kernel_rfl, by kernel_rfl⟩
theorem fo65 : FnOK Try.prog 65 := ⟨Try.f65, Try.func65, by kernel_rfl, by kernel_rfl⟩
theorem fo68 : FnOK Try.prog 68 := ⟨Try.f68, Try.func68, by kernel_rfl, by kernel_rfl⟩
theorem fo69 : FnOK Try.prog 69 := ⟨Try.f69, Try.func69, by kernel_rfl, by kernel_rfl⟩
theorem fo70 : FnOK Try.prog 70 := ⟨Try.f70, Try.func70, by kernel_rfl, by kernel_rfl⟩
theorem fo71 : FnOK Try.prog 71 := ⟨Try.f71, Try.func71, by kernel_rfl, by kernel_rfl⟩
theorem fo72 : FnOK Try.prog 72 := ⟨Try.f72, Try.func72, by kernel_rfl, by kernel_rfl⟩
theorem fo73 : FnOK Try.prog 73 := ⟨Try.f73, Try.func73, by kernel_rfl, by kernel_rfl⟩
theorem fo80 : FnOK Try.prog 80 := ⟨Try.f80, Try.func80, by kernel_rfl, by kernel_rfl⟩
theorem fo82 : FnOK Try.prog 82 := ⟨Try.f82, Try.func82, by kernel_rfl, by kernel_rfl⟩
theorem fo83 : FnOK Try.prog 83 := ⟨Try.f83, Try.func83, by kernel_rfl, by kernel_rfl⟩
theorem fo87 : FnOK Try.prog 87 := ⟨Try.f87, Try.func87, by kernel_rfl, by kernel_rfl⟩
theorem fo88 : FnOK Try.prog 88 := ⟨Try.f88, Try.func88, by kernel_rfl, by kernel_rfl⟩
theorem fo89 : FnOK Try.prog 89 := ⟨Try.f89, Try.func89, by kernel_rfl, by kernel_rfl⟩
theorem fo90 : FnOK Try.prog 90 := ⟨Try.f90, Try.func90, by kernel_rfl, by kernel_rfl⟩
theorem fo91 : FnOK Try.prog 91 := ⟨Try.f91, Try.func91, by kernel_rfl, by kernel_rfl⟩
theorem fo92 : FnOK Try.prog 92 := ⟨Try.f92, Try.func92, by kernel_rfl, by kernel_rfl⟩
theorem fo93 : FnOK Try.prog 93 := ⟨Try.f93, Try.func93, by kernel_rfl, by kernel_rfl⟩
theorem fo94 : FnOK Try.prog 94 := ⟨Try.f94, Try.func94, by kernel_rfl, by kernel_rfl⟩
theorem fo98 : FnOK Try.prog 98 := ⟨Try.f98, Try.func98, by kernel_rfl, by kernel_rfl⟩
theorem fo99 : FnOK Try.prog 99 := ⟨Try.f99, Try.func99, by kernel_rfl, by kernel_rfl⟩
theorem fo100 : FnOK Try.prog 100 := ⟨Try.f100, Try.func100, by kernel_rfl, by kernel_rfl⟩
theorem fo101 : FnOK Try.prog 101 := ⟨Try.f101, Try.func101, by kernel_rfl, by kernel_rfl⟩
theorem fo102 : FnOK Try.prog 102 := ⟨Try.f102, Try.func102, by kernel_rfl, by kernel_rfl⟩
theorem fo103 : FnOK Try.prog 103 := ⟨Try.f103, Try.func103, by kernel_rfl, by kernel_rfl⟩
theorem fo104 : FnOK Try.prog 104 := ⟨Try.f104, Try.func104, by kernel_rfl, by kernel_rfl⟩
theorem fo105 : FnOK Try.prog 105 := ⟨Try.f105, Try.func105, by kernel_rfl, by kernel_rfl⟩
theorem fo106 : FnOK Try.prog 106 := ⟨Try.f106, Try.func106, by kernel_rfl, by kernel_rfl⟩
theorem fo107 : FnOK Try.prog 107 := ⟨Try.f107, Try.func107, by kernel_rfl, by kernel_rfl⟩
theorem fo108 : FnOK Try.prog 108 := ⟨Try.f108, Try.func108, by kernel_rfl, by kernel_rfl⟩
theorem fo109 : FnOK Try.prog 109 := ⟨Try.f109, Try.func109, by kernel_rfl, by kernel_rfl⟩
theorem fo110 : FnOK Try.prog 110 := ⟨Try.f110, Try.func110, by kernel_rfl, by kernel_rfl⟩
theorem fo111 : FnOK Try.prog 111 := ⟨Try.f111, Try.func111, by kernel_rfl, by kernel_rfl⟩
theorem fo118 : FnOK Try.prog 118 := ⟨Try.f118, Try.func118, by kernel_rfl, by kernel_rfl⟩
theorem fo119 : FnOK Try.prog 119 := ⟨Try.f119, Try.func119, by kernel_rfl, by kernel_rfl⟩
theorem fo120 : FnOK Try.prog 120 := ⟨Try.f120, Try.func120, by kernel_rfl, by kernel_rfl⟩
theorem fo121 : FnOK Try.prog 121 := ⟨Try.f121, Try.func121, by kernel_rfl, by kernel_rfl⟩
theorem fo122 : FnOK Try.prog 122 := ⟨Try.f122, Try.func122, by kernel_rfl, by kernel_rfl⟩
theorem fo123 : FnOK Try.prog 123 := ⟨Try.f123, Try.func123, by kernel_rfl, by kernel_rfl⟩
theorem fo124 : FnOK Try.prog 124 := ⟨Try.f124, Try.func124, by kernel_rfl, by kernel_rfl⟩
theorem fo125 : FnOK Try.prog 125 := ⟨Try.f125, Try.func125, by kernel_rfl, by kernel_rfl⟩
theorem fo126 : FnOK Try.prog 126 := ⟨Try.f126, Try.func126, by kernel_rfl, by kernel_rfl⟩
theorem fo127 : FnOK Try.prog 127 := ⟨Try.f127, Try.func127, by kernel_rfl, by kernel_rfl⟩
theorem fo128 : FnOK Try.prog 128 := ⟨Try.f128, Try.func128, by kernel_rfl, by kernel_rfl⟩
theorem fo129 : FnOK Try.prog 129 := ⟨Try.f129, Try.func129, by kernel_rfl, by kernel_rfl⟩
theorem fo130 : FnOK Try.prog 130 := ⟨Try.f130, Try.func130, by kernel_rfl, by kernel_rfl⟩
theorem fo131 : FnOK Try.prog 131 := ⟨Try.f131, Try.func131, by kernel_rfl, by kernel_rfl⟩
theorem fo132 : FnOK Try.prog 132 := ⟨Try.f132, Try.func132, by kernel_rfl, by kernel_rfl⟩
theorem fo133 : FnOK Try.prog 133 := ⟨Try.f133, Try.func133, by kernel_rfl, by kernel_rfl⟩
theorem fo134 : FnOK Try.prog 134 := ⟨Try.f134, Try.func134, by kernel_rfl, by kernel_rfl⟩
theorem fo135 : FnOK Try.prog 135 := ⟨Try.f135, Try.func135, by kernel_rfl, by kernel_rfl⟩
theorem fo136 : FnOK Try.prog 136 := ⟨Try.f136, Try.func136, by kernel_rfl, by kernel_rfl⟩
theorem fo137 : FnOK Try.prog 137 := ⟨Try.f137, Try.func137, by kernel_rfl, by kernel_rfl⟩
theorem fo138 : FnOK Try.prog 138 := ⟨Try.f138, Try.func138, by kernel_rfl, by kernel_rfl⟩
theorem fo139 : FnOK Try.prog 139 := ⟨Try.f139, Try.func139, by kernel_rfl, by kernel_rfl⟩
theorem sigs_ok : AllP (fun p => FnOK Try.prog (p.1 % 100000)) sigs := ⟨fo11, fo21, fo23, fo24, fo30, fo31, fo38, fo41, fo45, fo47, fo48, fo49, fo56, fo58, fo59, fo60, fo61, fo62, fo63, fo65, fo68, fo69, fo70, fo71, fo72, fo73, fo80, fo82, fo83, fo87, fo88, fo89, fo90, fo91, fo92, fo93, fo94, fo98, fo99, fo100, fo101, fo102, fo103, fo104, fo105, fo106, fo107, fo108, fo109, fo110, fo111, fo118, fo119, fo120, fo121, fo122, fo123, fo124, fo125, fo126, fo127, fo128, fo129, fo130, fo131, fo132, fo133, fo134, fo135, fo136, fo137, fo138, fo139, fo72, fo72, trivial⟩
theorem fns_ok : AllP (fun p => Try.prog.funcs[p.1 % 100000]? = some p.2.fn) fns := ⟨Try.func11, Try.func21, Try.func23, Try.func24, Try.func30, Try.func31, Try.func38, Try.func41, Try.func45, Try.func47, Try.func48, Try.func49, Try.func56, Try.func58, Try.func59, Try.func60, Try.func61, Try.func62, Try.func63, Try.func65, Try.func68, Try.func69, Try.func70, Try.func71, Try.func72, Try.func73, Try.func80, Try.func82, Try.func83, Try.func87, Try.func88, Try.func89, Try.func90, Try.func91, Try.func92, Try.func93, Try.func94, Try.func98, Try.func99, Try.func100, Try.func101, Try.func102, Try.func103, Try.func104, Try.func105, Try.func106, Try.func107, Try.func108, Try.func109, Try.func110, Try.func111, Try.func118, Try.func119, Try.func120, Try.func121, Try.func122, Try.func123, Try.func124, Try.func125, Try.func126, Try.func127, Try.func128, Try.func129, Try.func130, Try.func131, Try.func132, Try.func133, Try.func134, Try.func135, Try.func136, Try.func137, Try.func138, Try.func139, Try.func72, Try.func72, trivial⟩
noncomputable def arityB (p : Nat × FnI) : Bool := match lk sigs p.1 with
  | some sg => Nat.ble sg.ps.length p.2.fn.ntmps
  | none => true
theorem arity_ok : fns.all arityB = true := by kernel_rfl
theorem ordered : Try.prog.follows .mixedOrders = true := by kernel_rfl
theorem env_ok : EnvOK Try.prog ⟨T.tt, fun _ => none, T.eqt, T.sig, fun _ _ _ => none, fun _ => 0⟩ := ⟨fun t i h => tts_ok.mem (t, i) (lk_mem h), fun t h => by
    have h : t ∈ eqts := hasN_mem.1 h
    exact absurd h (by simp [eqts])⟩
theorem envx_ok : EnvCl Try.prog (envX (lk tts) (hasN eqts)) := ⟨⟨env_ok.tt, env_ok.eqt⟩, (fun f sg h => by cases h), (fun f sg x r h _ => by cases h)⟩
theorem cl_68 (xs : List Int) (r : sg_slices_Clone_int_int.R) (h : chk (room ([] : List Int).length xs.length) (some ((xs, ()), ())) = some r) : CallOK Try.prog 68 sg_slices_Clone_int_int (xs, ()) r :=
  clone_ok (e := 3) (t := (.int .i64)) ordered envx_ok (f := 68) (fi := ⟨Try.f68, anClone, lk ty_slices_Clone_int_int, fun _ => 0⟩) Try.func68 (Nat.le_of_ble_eq_true (by kernel_rfl)) (by kernel_rfl) (fun xs => by kernel_rfl) xs r h
theorem tab_ok : TabOK Try.prog T where
  ord := ordered
  ok := env_ok
  fnok := fun f sg h => sigs_ok.mem (f, sg) (lk_mem h)
  fns := fun f fi h => fns_ok.mem (f, fi) (lk_mem h)
  arity := fun f fi sg h1 h2 => by
    have := List.all_eq_true.1 arity_ok (f, fi) (lk_mem h1)
    unfold arityB at this
    rw [show lk sigs f = some sg from h2] at this
    exact Nat.le_of_ble_eq_true this
  ext := fun k f sg g x r h1 h2 h3 => by
    have h2 : (bif hasN clones f then cloneX sg else none) = some g := h2
    cases hq : hasN clones f with
    | false => rw [hq] at h2; cases h2
    | true =>
      rw [hq] at h2
      have hm : f ∈ clones := hasN_mem.1 hq
      simp only [clones, List.mem_cons, List.not_mem_nil, or_false] at hm
      rcases hm with rfl
      · exact cloneX_ok (Option.some.inj (h1.symm.trans (show T.sig 68 = some sg_slices_Clone_int_int by kernel_rfl))) cl_68 h2 h3
end Go.Gx

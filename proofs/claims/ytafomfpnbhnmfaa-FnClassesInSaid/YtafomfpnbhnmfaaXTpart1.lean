/-
  The tables of the seat, and what each function comes to.
-/
import Derived.Test.YtafomfpnbhnmfaaXGpart5
import Derived.Test.YtafomfpnbhnmfaaProg
import Derived.KernelRfl
import Derived.Test.YtafomfpnbhnmfaaXSh
set_option linter.unusedVariables false
namespace Go.Gx
open Go.Proofs
def tts : List (Nat × TI) := [
  (3, { agg := false, size := 1, bytes := 8, zero := .int .i64 0, fields := [], elem := none, ik := some .i64, isStr := false, isB := false, hasZ := true, arr := none, mp := none }),
  (4, { agg := false, size := 1, bytes := 1, zero := .bool false, fields := [], elem := none, ik := none, isStr := false, isB := true, hasZ := true, arr := none, mp := none }),
  (5, { agg := false, size := 1, bytes := 1, zero := .int .u8 0, fields := [], elem := none, ik := some .u8, isStr := false, isB := false, hasZ := true, arr := none, mp := none }),
  (9, { agg := false, size := 1, bytes := 16, zero := .string ByteArray.empty, fields := [], elem := none, ik := none, isStr := true, isB := false, hasZ := true, arr := none, mp := none }),
  (22, { agg := false, size := 1, bytes := 24, zero := .slice none 0 0, fields := [], elem := some 5, ik := none, isStr := false, isB := false, hasZ := true, arr := none, mp := none }),
  (23, { agg := false, size := 1, bytes := 24, zero := .slice none 0 0, fields := [], elem := some 52, ik := none, isStr := false, isB := false, hasZ := true, arr := none, mp := none }),
  (24, { agg := false, size := 1, bytes := 24, zero := .slice none 0 0, fields := [], elem := some 3, ik := none, isStr := false, isB := false, hasZ := true, arr := none, mp := none }),
  (42, { agg := false, size := 1, bytes := 24, zero := .slice none 0 0, fields := [], elem := some 59, ik := none, isStr := false, isB := false, hasZ := true, arr := none, mp := none }),
  (44, { agg := true, size := 4, bytes := 80, zero := .agg #[.slice none 0 0, .slice none 0 0, .slice none 0 0, .bool false], fields := [(0, 1, false), (1, 1, false), (2, 1, false), (3, 1, false)], elem := none, ik := none, isStr := false, isB := false, hasZ := true, arr := none, mp := none }),
  (52, { agg := true, size := 2, bytes := 16, zero := .agg #[.int .i64 0, .int .i64 0], fields := [(0, 1, false), (1, 1, false)], elem := none, ik := none, isStr := false, isB := false, hasZ := true, arr := none, mp := none }),
  (55, { agg := true, size := 2, bytes := 32, zero := .agg #[.slice none 0 0, .int .i64 0], fields := [(0, 1, false), (1, 1, false)], elem := none, ik := none, isStr := false, isB := false, hasZ := true, arr := none, mp := none }),
  (59, { agg := true, size := 3, bytes := 40, zero := .agg #[.int .i64 0, .int .i64 0, .slice none 0 0], fields := [(0, 1, false), (1, 1, false), (2, 1, false)], elem := none, ik := none, isStr := false, isB := false, hasZ := true, arr := none, mp := none }),
  (65, { agg := false, size := 1, bytes := 24, zero := .slice none 0 0, fields := [], elem := some 4, ik := none, isStr := false, isB := false, hasZ := true, arr := none, mp := none }),
  (67, { agg := true, size := 5, bytes := 104, zero := .agg #[.slice none 0 0, .slice none 0 0, .slice none 0 0, .slice none 0 0, .bool false], fields := [(0, 1, false), (1, 1, false), (2, 1, false), (3, 1, false), (4, 1, false)], elem := none, ik := none, isStr := false, isB := false, hasZ := true, arr := none, mp := none }),
  (95, { agg := true, size := 2, bytes := 32, zero := .agg #[.slice none 0 0, .int .i64 0], fields := [(0, 1, false), (1, 1, false)], elem := none, ik := none, isStr := false, isB := false, hasZ := true, arr := none, mp := none }),
  (108, { agg := false, size := 1, bytes := 8, zero := .int .u64 0, fields := [], elem := none, ik := some .u64, isStr := false, isB := false, hasZ := true, arr := none, mp := none }),
  (141, { agg := false, size := 1, bytes := 8, zero := .int .u64 0, fields := [], elem := none, ik := some .u64, isStr := false, isB := false, hasZ := true, arr := none, mp := none }),
  (148, { agg := false, size := 1, bytes := 8, zero := .int .u64 0, fields := [], elem := none, ik := some .u64, isStr := false, isB := false, hasZ := true, arr := none, mp := none })]
theorem tt3 : tinfo Try.prog 3 = lk tts 3 := by kernel_rfl
theorem tt4 : tinfo Try.prog 4 = lk tts 4 := by kernel_rfl
theorem tt5 : tinfo Try.prog 5 = lk tts 5 := by kernel_rfl
theorem tt9 : tinfo Try.prog 9 = lk tts 9 := by kernel_rfl
theorem tt22 : tinfo Try.prog 22 = lk tts 22 := by kernel_rfl
theorem tt23 : tinfo Try.prog 23 = lk tts 23 := by kernel_rfl
theorem tt24 : tinfo Try.prog 24 = lk tts 24 := by kernel_rfl
theorem tt42 : tinfo Try.prog 42 = lk tts 42 := by kernel_rfl
theorem tt44 : tinfo Try.prog 44 = lk tts 44 := by kernel_rfl
theorem tt52 : tinfo Try.prog 52 = lk tts 52 := by kernel_rfl
theorem tt55 : tinfo Try.prog 55 = lk tts 55 := by kernel_rfl
theorem tt59 : tinfo Try.prog 59 = lk tts 59 := by kernel_rfl
theorem tt65 : tinfo Try.prog 65 = lk tts 65 := by kernel_rfl
theorem tt67 : tinfo Try.prog 67 = lk tts 67 := by kernel_rfl
theorem tt95 : tinfo Try.prog 95 = lk tts 95 := by kernel_rfl
theorem tt108 : tinfo Try.prog 108 = lk tts 108 := by kernel_rfl
theorem tt141 : tinfo Try.prog 141 = lk tts 141 := by kernel_rfl
theorem tt148 : tinfo Try.prog 148 = lk tts 148 := by kernel_rfl
theorem tts_ok : AllP (fun p => tinfo Try.prog p.1 = some p.2) tts := ⟨tt3, tt4, tt5, tt9, tt22, tt23, tt24, tt42, tt44, tt52, tt55, tt59, tt65, tt67, tt95, tt108, tt141, tt148, trivial⟩
abbrev sg_s_newReader : Sig := ⟨[.leaf (.ro (.int .u8))], [.box 95 [.ro (.int .u8), .int .i64] []]⟩
def an_s_newReader : Ann := .seq none .leaf (.seq (some ⟨[0], [.leaf (.ro (.int .u8))]⟩) (.seq none .leaf (.cond .leaf .leaf)) (.seq none .leaf .leaf))
def ty_s_newReader : List (Nat × Ty) := []
def vr_s_newReader : Nat → Nat := fun _ => 0
abbrev sg_s_reader_pick : Sig := ⟨[.box 95 [.ro (.int .u8), .int .i64] [.ro (.int .u8), .int .i64], .leaf (.int .i64)], [.leaf (.int .i64)]⟩
def an_s_reader_pick : Ann := .seq none .leaf (.seq none .leaf (.seq none (.seq (some ⟨[0, 1, 24], [.box 95 [.ro (.int .u8), .int .i64] [], .leaf (.int .i64), .leaf .bool]⟩) .leaf (.cond (.seq none .leaf .leaf) .leaf)) (.seq none .leaf (.seq none (.seq none .leaf (.cond (.seq none .leaf .leaf) .leaf)) (.seq none .leaf (.seq none .leaf (.seq none .leaf .leaf)))))))
def ty_s_reader_pick : List (Nat × Ty) := []
def vr_s_reader_pick : Nat → Nat := fun _ => 0
abbrev sg_s_newShapes : Sig := ⟨[], [.agg [.own 3 (.int .i64), .own 4 .bool, .own 3 (.int .i64), .own 3 (.int .i64), .bool]]⟩
def an_s_newShapes : Ann := .seq none .leaf (.seq none .leaf (.seq none (.seq none .leaf (.block (.loop ⟨[0, 1, 2], [.box 67 [.nil, .nil, .nil, .nil, .bool] [], .box 67 [.nil, .nil, .nil, .own 3 (.int .i64), .bool] [], .leaf (.int .i64)]⟩ (.seq none (.seq none .leaf (.cond .leaf .leaf)) (.seq none (.block .leaf) .leaf))))) (.seq none .leaf .leaf)))
def ty_s_newShapes : List (Nat × Ty) := [(3, (.int .i64))]
def vr_s_newShapes : Nat → Nat := fun _ => 0
abbrev sg_s_reader_one : Sig := ⟨[.box 95 [.ro (.int .u8), .int .i64] [.ro (.int .u8), .int .i64], .leaf (.ro (.int .i64))], [.leaf (.int .i64)]⟩
def an_s_reader_one : Ann := .seq none .leaf (.seq none .leaf .leaf)
def ty_s_reader_one : List (Nat × Ty) := []
def vr_s_reader_one : Nat → Nat := fun _ => 0
abbrev sg_s_someOp : Sig := ⟨[.box 95 [.ro (.int .u8), .int .i64] [.ro (.int .u8), .int .i64]], [.agg [.int .i64, .int .i64]]⟩
def an_s_someOp : Ann := .seq none .leaf (.seq none .leaf (.seq (some ⟨[0, 2, 3], [.box 95 [.ro (.int .u8), .int .i64] [], .box 52 [.int .i64, .int .i64] [], .box 52 [.int .i64, .int .i64] []]⟩) (.seq none .leaf (.block (.seq none .leaf (.cond .leaf (.seq (some ⟨[0, 2, 3, 17], [.box 95 [.ro (.int .u8), .int .i64] [], .box 52 [.int .i64, .int .i64] [], .box 52 [.int .i64, .int .i64] [], .leaf .bool]⟩) (.seq none .leaf (.cond .leaf (.seq none .leaf (.cond .leaf (.seq none .leaf (.cond .leaf .leaf)))))) (.cond .leaf .leaf)))))) (.seq none .leaf .leaf)))
def ty_s_someOp : List (Nat × Ty) := [(3, (.int .i64))]
def vr_s_someOp : Nat → Nat := fun _ => 0
abbrev sg_s_copyInts : Sig := ⟨[.leaf (.ro (.int .i64))], [.leaf (.own 3 (.int .i64))]⟩
def an_s_copyInts : Ann := .seq none .leaf (.seq none .leaf .leaf)
def ty_s_copyInts : List (Nat × Ty) := [(3, (.int .i64))]
def vr_s_copyInts : Nat → Nat := fun _ => 0
abbrev sg_s_copyShapes : Sig := ⟨[.agg [.ro (.int .i64), .ro .bool, .ro (.int .i64), .ro (.int .i64), .bool]], [.agg [.own 3 (.int .i64), .own 4 .bool, .own 3 (.int .i64), .own 3 (.int .i64), .bool]]⟩
def an_s_copyShapes : Ann := .seq none .leaf (.seq none .leaf .leaf)
def ty_s_copyShapes : List (Nat × Ty) := [(4, .bool)]
def vr_s_copyShapes : Nat → Nat := fun _ => 0
abbrev sg_s_newKind : Sig := ⟨[.leaf (.int .i64)], [.leaf (.int .i64)]⟩
def an_s_newKind : Ann := .seq none .leaf (.seq none (.seq none .leaf (.block (.seq none .leaf (.cond (.seq none .leaf .leaf) (.seq none .leaf (.cond (.seq none .leaf .leaf) (.seq none .leaf (.cond (.seq none .leaf .leaf) (.seq none .leaf (.cond (.seq none .leaf .leaf) (.seq none .leaf (.cond (.seq none .leaf .leaf) (.seq none .leaf (.cond (.seq none .leaf .leaf) .leaf)))))))))))))) (.seq none .leaf .leaf))
def ty_s_newKind : List (Nat × Ty) := []
def vr_s_newKind : Nat → Nat := fun _ => 0
abbrev sg_s_pushShape : Sig := ⟨[.agg [.own 3 (.int .i64), .own 4 .bool, .own 3 (.int .i64), .own 3 (.int .i64), .bool], .leaf (.int .i64)], [.agg [.own 3 (.int .i64), .own 4 .bool, .own 3 (.int .i64), .own 3 (.int .i64), .bool]]⟩
def an_s_pushShape : Ann := .seq none .leaf (.seq none .leaf (.seq none .leaf (.seq none .leaf (.seq none .leaf .leaf))))
def ty_s_pushShape : List (Nat × Ty) := [(3, (.int .i64)), (4, .bool)]
def vr_s_pushShape : Nat → Nat := fun _ => 0
abbrev sg_s_shapeAt : Sig := ⟨[.agg [.ro (.int .i64), .ro .bool, .ro (.int .i64), .ro (.int .i64), .bool], .leaf (.int .i64)], [.leaf (.int .i64)]⟩
def an_s_shapeAt : Ann := .seq none .leaf (.seq none .leaf (.seq none (.seq (some ⟨[2, 5, 21], [.box 67 [.ro (.int .i64), .ro .bool, .ro (.int .i64), .ro (.int .i64), .bool] [], .leaf (.int .i64), .leaf .bool]⟩) .leaf (.cond (.seq none .leaf .leaf) .leaf)) (.seq none .leaf .leaf)))
def ty_s_shapeAt : List (Nat × Ty) := []
def vr_s_shapeAt : Nat → Nat := fun _ => 0
abbrev sg_s_keyKind : Sig := ⟨[.leaf (.int .i64)], [.leaf .bool]⟩
def an_s_keyKind : Ann := .seq none .leaf (.seq none .leaf .leaf)
def ty_s_keyKind : List (Nat × Ty) := []
def vr_s_keyKind : Nat → Nat := fun _ => 0
abbrev sg_s_markShapes : Sig := ⟨[.agg [.own 3 (.int .i64), .own 4 .bool, .own 3 (.int .i64), .own 3 (.int .i64), .bool], .leaf (.int .i64)], [.agg [.own 3 (.int .i64), .own 4 .bool, .own 3 (.int .i64), .own 3 (.int .i64), .bool], .leaf .bool]⟩
def an_s_markShapes : Ann := .seq none .leaf (.seq none .leaf (.seq none (.block (.loop ⟨[1, 2, 4, 6], [.leaf (.int .i64), .box 67 [.own 3 (.int .i64), .own 4 .bool, .own 3 (.int .i64), .own 3 (.int .i64), .bool] [], .box 67 [.nil, .nil, .nil, .nil, .bool] [], .leaf (.int .i64)]⟩ (.seq none (.seq (some ⟨[1, 2, 4, 6, 22], [.leaf (.int .i64), .box 67 [.own 3 (.int .i64), .own 4 .bool, .own 3 (.int .i64), .own 3 (.int .i64), .bool] [], .box 67 [.nil, .nil, .nil, .nil, .bool] [], .leaf (.int .i64), .leaf .bool]⟩) .leaf (.cond .leaf .leaf)) (.block .leaf)))) (.seq none (.seq none .leaf (.cond (.seq none .leaf .leaf) .leaf)) (.seq none .leaf (.seq none .leaf (.seq none (.seq none .leaf (.block (.seq none .leaf (.cond (.seq none .leaf .leaf) (.seq none .leaf (.cond (.seq none .leaf .leaf) (.seq none .leaf (.cond (.seq none (.seq none .leaf (.block (.loop ⟨[2, 4, 7, 8], [.box 67 [.own 3 (.int .i64), .own 4 .bool, .own 3 (.int .i64), .own 3 (.int .i64), .bool] [], .box 67 [.nil, .nil, .nil, .nil, .bool] [], .leaf (.own 3 (.int .i64)), .leaf (.int .i64)]⟩ (.seq none (.seq none .leaf (.cond .leaf .leaf)) (.seq none (.block (.seq none .leaf (.cond (.seq none .leaf .leaf) .leaf))) .leaf))))) (.seq none .leaf .leaf)) .leaf)))))))) (.seq none .leaf .leaf)))))))
def ty_s_markShapes : List (Nat × Ty) := []
def vr_s_markShapes : Nat → Nat := fun _ => 0
abbrev sg_s_takeShapes : Sig := ⟨[.agg [.own 3 (.int .i64), .own 4 .bool, .own 3 (.int .i64), .own 3 (.int .i64), .bool], .agg [.int .i64, .int .i64]], [.agg [.own 3 (.int .i64), .own 4 .bool, .own 3 (.int .i64), .own 3 (.int .i64), .bool], .leaf .bool]⟩
def an_s_takeShapes : Ann := .seq none .leaf (.seq none .leaf (.seq none .leaf (.seq none .leaf (.seq none .leaf (.seq (some ⟨[2, 4, 8, 9], [.box 67 [.own 3 (.int .i64), .own 4 .bool, .own 3 (.int .i64), .own 3 (.int .i64), .bool] [], .box 67 [.nil, .nil, .nil, .nil, .bool] [], .leaf .bool, .leaf (.int .i64)]⟩) (.seq none .leaf (.block (.seq none .leaf (.cond (.seq none (.seq none .leaf (.cond (.seq none .leaf .leaf) .leaf)) (.seq none .leaf (.seq none .leaf .leaf))) (.seq none .leaf (.cond (.seq none (.seq (some ⟨[2, 4, 40], [.box 67 [.own 3 (.int .i64), .own 4 .bool, .own 3 (.int .i64), .own 3 (.int .i64), .bool] [], .box 67 [.nil, .nil, .nil, .nil, .bool] [], .leaf .bool]⟩) .leaf (.cond (.seq none .leaf .leaf) .leaf)) (.seq none .leaf (.seq none .leaf .leaf))) (.seq none .leaf (.cond .leaf (.seq none .leaf (.cond (.seq none .leaf .leaf) (.seq none .leaf (.cond (.seq (some ⟨[2, 4, 8, 9], [.box 67 [.own 3 (.int .i64), .own 4 .bool, .own 3 (.int .i64), .own 3 (.int .i64), .bool] [], .box 67 [.nil, .nil, .nil, .nil, .bool] [], .leaf .bool, .leaf (.int .i64)]⟩) .leaf (.seq none .leaf (.cond .leaf .leaf))) (.seq none .leaf (.cond (.seq none (.seq none .leaf (.cond .leaf .leaf)) .leaf) (.seq none .leaf (.cond (.seq none .leaf (.seq none .leaf .leaf)) .leaf)))))))))))))))) (.seq none (.seq none .leaf (.cond (.seq none .leaf .leaf) .leaf)) (.seq none .leaf (.seq none .leaf .leaf))))))))
def ty_s_takeShapes : List (Nat × Ty) := []
def vr_s_takeShapes : Nat → Nat := fun _ => 0
abbrev sg_s_stepShapes : Sig := ⟨[.agg [.own 3 (.int .i64), .own 4 .bool, .own 3 (.int .i64), .own 3 (.int .i64), .bool], .agg [.int .i64, .int .i64]], [.agg [.own 3 (.int .i64), .own 4 .bool, .own 3 (.int .i64), .own 3 (.int .i64), .bool], .leaf .bool]⟩
def an_s_stepShapes : Ann := .seq none .leaf (.seq none .leaf (.seq none (.seq none .leaf (.cond (.seq none .leaf .leaf) .leaf)) (.seq (some ⟨[2, 4, 6], [.box 67 [.own 3 (.int .i64), .own 4 .bool, .own 3 (.int .i64), .own 3 (.int .i64), .bool] [], .box 67 [.nil, .nil, .nil, .nil, .bool] [], .leaf .bool]⟩) (.block (.seq none .leaf (.cond .leaf (.seq none .leaf (.cond .leaf (.seq none .leaf (.cond (.seq none (.seq none .leaf (.cond (.seq none .leaf .leaf) .leaf)) .leaf) (.seq (some ⟨[2, 3, 4, 61], [.box 67 [.own 3 (.int .i64), .own 4 .bool, .own 3 (.int .i64), .own 3 (.int .i64), .bool] [], .box 52 [.int .i64, .int .i64] [], .box 67 [.nil, .nil, .nil, .nil, .bool] [], .leaf .bool]⟩) .leaf (.cond .leaf .leaf))))))))) (.seq none .leaf .leaf))))
def ty_s_stepShapes : List (Nat × Ty) := [(3, (.int .i64))]
def vr_s_stepShapes : Nat → Nat := fun _ => 0
abbrev sg_s_argOf : Sig := ⟨[.leaf (.int .i64)], [.leaf (.int .i64)]⟩
def an_s_argOf : Ann := .seq none .leaf (.seq none (.seq none .leaf (.block (.seq none .leaf (.cond (.seq none .leaf .leaf) (.seq none .leaf (.cond (.seq none .leaf .leaf) (.seq none .leaf (.cond (.seq none .leaf .leaf) (.seq (some ⟨[10], [.leaf .bool]⟩) (.seq none .leaf (.cond .leaf .leaf)) (.cond (.seq none .leaf .leaf) .leaf)))))))))) (.seq none .leaf .leaf))
def ty_s_argOf : List (Nat × Ty) := []
def vr_s_argOf : Nat → Nat := fun _ => 0
abbrev sg_s_inRange : Sig := ⟨[.leaf (.int .i64), .leaf (.int .i64), .leaf (.int .i64)], [.leaf .bool]⟩
def an_s_inRange : Ann := .seq none .leaf (.seq none .leaf .leaf)
def ty_s_inRange : List (Nat × Ty) := []
def vr_s_inRange : Nat → Nat := fun _ => 0
abbrev sg_s_validOp : Sig := ⟨[.agg [.int .i64, .int .i64]], [.leaf .bool]⟩
def an_s_validOp : Ann := .seq none .leaf (.seq none .leaf (.seq none .leaf .leaf))
def ty_s_validOp : List (Nat × Ty) := []
def vr_s_validOp : Nat → Nat := fun _ => 0
abbrev sg_s_validOps : Sig := ⟨[.leaf (.ro (.pair (.int .i64) (.int .i64)))], [.leaf .bool]⟩
def an_s_validOps : Ann := .seq none .leaf (.seq none (.seq none .leaf (.block (.loop ⟨[0, 3], [.leaf (.ro (.pair (.int .i64) (.int .i64))), .leaf (.int .i64)]⟩ (.seq none (.seq none .leaf (.cond .leaf .leaf)) (.seq none (.block (.seq none .leaf (.cond (.seq none .leaf .leaf) .leaf))) .leaf))))) (.seq none .leaf .leaf))
def ty_s_validOps : List (Nat × Ty) := []
def vr_s_validOps : Nat → Nat := fun _ => 0
abbrev sg_s_runShapes : Sig := ⟨[.leaf (.ro (.pair (.int .i64) (.int .i64)))], [.agg [.own 3 (.int .i64), .own 4 .bool, .own 3 (.int .i64), .own 3 (.int .i64), .bool], .leaf (.int .i64)]⟩
def an_s_runShapes : Ann := .seq none .leaf (.seq none .leaf (.seq none (.seq none .leaf (.block (.loop ⟨[0, 2, 4, 5], [.leaf (.ro (.pair (.int .i64) (.int .i64))), .box 67 [.nil, .nil, .nil, .nil, .bool] [], .box 67 [.own 3 (.int .i64), .own 4 .bool, .own 3 (.int .i64), .own 3 (.int .i64), .bool] [], .leaf (.int .i64)]⟩ (.seq none (.seq none .leaf (.cond .leaf .leaf)) (.seq none (.block (.seq none .leaf (.seq none (.seq none .leaf (.cond (.seq none .leaf .leaf) .leaf)) .leaf))) .leaf))))) (.seq none .leaf .leaf)))
def ty_s_runShapes : List (Nat × Ty) := []
def vr_s_runShapes : Nat → Nat := fun _ => 0
abbrev sg_s_EndOps : Sig := ⟨[.leaf (.ro (.pair (.int .i64) (.int .i64)))], [.leaf (.own 52 (.pair (.int .i64) (.int .i64))), .leaf .bool]⟩
def an_s_EndOps : Ann := .seq none .leaf (.seq none (.seq none .leaf (.cond (.seq none .leaf .leaf) .leaf)) (.seq none .leaf (.seq none .leaf (.seq none (.seq none .leaf (.cond (.seq none .leaf .leaf) .leaf)) (.seq none .leaf (.seq none (.seq none .leaf (.block (.loop ⟨[0, 4, 5, 6, 7, 8], [.leaf (.ro (.pair (.int .i64) (.int .i64))), .box 67 [.own 3 (.int .i64), .own 4 .bool, .own 3 (.int .i64), .own 3 (.int .i64), .bool] [], .leaf (.int .i64), .leaf (.own 52 (.pair (.int .i64) (.int .i64))), .leaf (.int .i64), .leaf (.int .i64)]⟩ (.seq none (.seq none .leaf (.cond .leaf .leaf)) (.seq (some ⟨[0, 4, 5, 6, 7, 8], [.leaf (.ro (.pair (.int .i64) (.int .i64))), .box 67 [.own 3 (.int .i64), .own 4 .bool, .own 3 (.int .i64), .own 3 (.int .i64), .bool] [], .leaf (.int .i64), .leaf (.own 52 (.pair (.int .i64) (.int .i64))), .leaf (.int .i64), .leaf (.int .i64)]⟩) (.block (.seq none .leaf (.cond .leaf .leaf))) .leaf))))) (.seq none (.seq none .leaf (.block (.loop ⟨[0, 4, 5, 6, 7, 9], [.leaf (.ro (.pair (.int .i64) (.int .i64))), .box 67 [.own 3 (.int .i64), .own 4 .bool, .own 3 (.int .i64), .own 3 (.int .i64), .bool] [], .leaf (.int .i64), .leaf (.own 52 (.pair (.int .i64) (.int .i64))), .leaf (.int .i64), .leaf (.int .i64)]⟩ (.seq none (.seq none .leaf (.cond .leaf .leaf)) (.seq none (.block .leaf) .leaf))))) (.seq none .leaf (.seq none (.block (.loop ⟨[0, 4, 5, 6, 7, 10], [.leaf (.ro (.pair (.int .i64) (.int .i64))), .box 67 [.own 3 (.int .i64), .own 4 .bool, .own 3 (.int .i64), .own 3 (.int .i64), .bool] [], .leaf (.int .i64), .leaf (.own 52 (.pair (.int .i64) (.int .i64))), .leaf (.int .i64), .leaf (.int .i64)]⟩ (.seq none (.seq (some ⟨[0, 4, 5, 6, 7, 10, 63], [.leaf (.ro (.pair (.int .i64) (.int .i64))), .box 67 [.own 3 (.int .i64), .own 4 .bool, .own 3 (.int .i64), .own 3 (.int .i64), .bool] [], .leaf (.int .i64), .leaf (.own 52 (.pair (.int .i64) (.int .i64))), .leaf (.int .i64), .leaf (.int .i64), .leaf .bool]⟩) .leaf (.cond .leaf .leaf)) (.block .leaf)))) (.seq (some ⟨[0, 5, 6, 10], [.leaf (.ro (.pair (.int .i64) (.int .i64))), .leaf (.int .i64), .leaf (.own 52 (.pair (.int .i64) (.int .i64))), .leaf (.int .i64)]⟩) (.seq none .leaf (.cond .leaf .leaf)) (.seq none (.seq none .leaf (.block (.loop ⟨[0, 5, 6, 10, 11], [.leaf (.ro (.pair (.int .i64) (.int .i64))), .leaf (.int .i64), .leaf (.own 52 (.pair (.int .i64) (.int .i64))), .leaf (.int .i64), .leaf (.int .i64)]⟩ (.seq none (.seq none .leaf (.cond .leaf .leaf)) (.seq none (.block .leaf) .leaf))))) (.seq (some ⟨[0, 5, 6], [.leaf (.ro (.pair (.int .i64) (.int .i64))), .leaf (.int .i64), .leaf (.own 52 (.pair (.int .i64) (.int .i64)))]⟩) (.seq none .leaf (.cond .leaf .leaf)) (.seq none .leaf (.seq (some ⟨[6, 12], [.leaf (.own 52 (.pair (.int .i64) (.int .i64))), .leaf (.ro (.pair (.int .i64) (.int .i64)))]⟩) .leaf (.seq none .leaf (.seq none (.seq (some ⟨[6, 109], [.leaf (.own 52 (.pair (.int .i64) (.int .i64))), .leaf .bool]⟩) .leaf (.cond (.seq none .leaf .leaf) .leaf)) (.seq none .leaf .leaf)))))))))))))))))
def ty_s_EndOps : List (Nat × Ty) := [(52, (.pair (.int .i64) (.int .i64)))]
def vr_s_EndOps : Nat → Nat := fun _ => 0
abbrev sg_s_CutOps : Sig := ⟨[.leaf (.ro (.pair (.int .i64) (.int .i64)))], [.leaf (.own 52 (.pair (.int .i64) (.int .i64)))]⟩
def an_s_CutOps : Ann := .seq none .leaf (.seq none (.seq none .leaf (.cond (.seq none .leaf .leaf) .leaf)) (.seq none .leaf (.seq none .leaf .leaf)))
def ty_s_CutOps : List (Nat × Ty) := [(52, (.pair (.int .i64) (.int .i64)))]
def vr_s_CutOps : Nat → Nat := fun _ => 0
abbrev sg_s_likelyOps : Sig := ⟨[.box 95 [.ro (.int .u8), .int .i64] [.ro (.int .u8), .int .i64]], [.leaf (.own 52 (.pair (.int .i64) (.int .i64)))]⟩
def an_s_likelyOps : Ann := .seq none .leaf (.seq none .leaf (.seq none .leaf (.seq none (.seq none .leaf (.block (.loop ⟨[0, 3, 4, 5], [.box 95 [.ro (.int .u8), .int .i64] [], .leaf (.own 52 (.pair (.int .i64) (.int .i64))), .box 67 [.own 3 (.int .i64), .own 4 .bool, .own 3 (.int .i64), .own 3 (.int .i64), .bool] [], .leaf (.int .i64)]⟩ (.seq none (.seq none .leaf (.cond .leaf .leaf)) (.seq (some ⟨[0, 3, 4, 5], [.box 95 [.ro (.int .u8), .int .i64] [], .leaf (.own 52 (.pair (.int .i64) (.int .i64))), .box 67 [.own 3 (.int .i64), .own 4 .bool, .own 3 (.int .i64), .own 3 (.int .i64), .bool] [], .leaf (.int .i64)]⟩) (.block (.seq none .leaf (.seq none (.seq (some ⟨[0, 3, 4, 5, 6, 29], [.box 95 [.ro (.int .u8), .int .i64] [], .leaf (.own 52 (.pair (.int .i64) (.int .i64))), .box 67 [.own 3 (.int .i64), .own 4 .bool, .own 3 (.int .i64), .own 3 (.int .i64), .bool] [], .leaf (.int .i64), .box 52 [.int .i64, .int .i64] [], .leaf .bool]⟩) .leaf (.cond .leaf .leaf)) (.seq none .leaf (.seq (some ⟨[0, 3, 4, 5, 6, 8], [.box 95 [.ro (.int .u8), .int .i64] [], .leaf (.own 52 (.pair (.int .i64) (.int .i64))), .box 67 [.own 3 (.int .i64), .own 4 .bool, .own 3 (.int .i64), .own 3 (.int .i64), .bool] [], .leaf (.int .i64), .box 52 [.int .i64, .int .i64] [], .leaf .bool]⟩) (.seq none .leaf (.cond .leaf .leaf)) (.seq (some ⟨[0, 3, 4, 5, 6, 44], [.box 95 [.ro (.int .u8), .int .i64] [], .leaf (.own 52 (.pair (.int .i64) (.int .i64))), .box 67 [.own 3 (.int .i64), .own 4 .bool, .own 3 (.int .i64), .own 3 (.int .i64), .bool] [], .leaf (.int .i64), .box 52 [.int .i64, .int .i64] [], .leaf .bool]⟩) .leaf (.cond .leaf .leaf))))))) .leaf))))) (.seq none (.seq none .leaf (.cond (.seq none .leaf (.seq none .leaf (.cond .leaf .leaf))) .leaf)) (.seq none .leaf .leaf)))))
def ty_s_likelyOps : List (Nat × Ty) := [(3, (.int .i64)), (52, (.pair (.int .i64) (.int .i64)))]
def vr_s_likelyOps : Nat → Nat := fun _ => 0
abbrev sg_s_someNode : Sig := ⟨[.box 95 [.ro (.int .u8), .int .i64] [.ro (.int .u8), .int .i64]], [.agg [.int .i64, .int .i64, .nil]]⟩
def an_s_someNode : Ann := .seq none .leaf (.seq none (.seq none .leaf (.block (.seq none .leaf (.cond (.seq none .leaf .leaf) (.seq none .leaf (.cond (.seq none .leaf .leaf) (.seq (some ⟨[0, 2, 4, 18], [.box 95 [.ro (.int .u8), .int .i64] [], .box 59 [.int .i64, .int .i64, .nil] [], .leaf (.int .i64), .leaf .bool]⟩) (.seq none .leaf (.cond .leaf .leaf)) (.cond (.seq none .leaf .leaf) (.seq (some ⟨[0, 2, 4, 22], [.box 95 [.ro (.int .u8), .int .i64] [], .box 59 [.int .i64, .int .i64, .nil] [], .leaf (.int .i64), .leaf .bool]⟩) (.seq none .leaf (.cond .leaf .leaf)) (.cond (.seq none .leaf .leaf) (.seq none .leaf (.cond (.seq none .leaf .leaf) .leaf)))))))))))) (.seq none .leaf .leaf))
def ty_s_someNode : List (Nat × Ty) := [(3, (.int .i64))]
def vr_s_someNode : Nat → Nat := fun _ => 0
abbrev sg_s_isKey : Sig := ⟨[.agg [.int .i64, .int .i64, .any]], [.leaf .bool]⟩
def an_s_isKey : Ann := .seq none .leaf (.seq none .leaf .leaf)
def ty_s_isKey : List (Nat × Ty) := []
def vr_s_isKey : Nat → Nat := fun _ => 0
abbrev sg_s_allIn : Sig := ⟨[.leaf (.ro (.int .i64)), .leaf (.int .i64), .leaf (.int .i64)], [.leaf .bool]⟩
def an_s_allIn : Ann := .seq none .leaf (.seq none (.seq none .leaf (.block (.loop ⟨[0, 1, 2, 7], [.leaf (.ro (.int .i64)), .leaf (.int .i64), .leaf (.int .i64), .leaf (.int .i64)]⟩ (.seq none (.seq none .leaf (.cond .leaf .leaf)) (.seq none (.block (.seq none .leaf (.cond (.seq none .leaf .leaf) .leaf))) .leaf))))) (.seq none .leaf .leaf))
def ty_s_allIn : List (Nat × Ty) := []
def vr_s_allIn : Nat → Nat := fun _ => 0
abbrev sg_s_sameKey : Sig := ⟨[.agg [.int .i64, .int .i64, .any], .agg [.int .i64, .int .i64, .any]], [.leaf .bool]⟩
def an_s_sameKey : Ann := .seq none .leaf (.seq none .leaf .leaf)
def ty_s_sameKey : List (Nat × Ty) := []
def vr_s_sameKey : Nat → Nat := fun _ => 0
abbrev sg_s_validDict : Sig := ⟨[.agg [.ro (.pair (.int .i64) (.pair (.int .i64) (.sl (.int .i64)))), .int .i64], .agg [.int .i64, .int .i64, .ro (.int .i64)]], [.leaf .bool]⟩
def an_s_validDict : Ann := .seq none .leaf (.seq none (.seq none .leaf (.block (.loop ⟨[2, 3, 5], [.box 55 [.ro (.pair (.int .i64) (.pair (.int .i64) (.sl (.int .i64)))), .int .i64] [], .box 59 [.int .i64, .int .i64, .ro (.int .i64)] [], .leaf (.int .i64)]⟩ (.seq none (.seq none .leaf (.cond .leaf .leaf)) (.seq none (.block (.seq none (.seq none .leaf (.cond (.seq none .leaf .leaf) .leaf)) (.seq none .leaf (.block (.loop ⟨[2, 3, 5, 6], [.box 55 [.ro (.pair (.int .i64) (.pair (.int .i64) (.sl (.int .i64)))), .int .i64] [], .box 59 [.int .i64, .int .i64, .ro (.int .i64)] [], .leaf (.int .i64), .leaf (.int .i64)]⟩ (.seq none (.seq none .leaf (.cond .leaf .leaf)) (.seq none (.block (.seq none .leaf (.cond (.seq none .leaf .leaf) .leaf))) .leaf))))))) .leaf))))) (.seq none .leaf .leaf))
def ty_s_validDict : List (Nat × Ty) := []
def vr_s_validDict : Nat → Nat := fun _ => 0
abbrev sg_s_validNode : Sig := ⟨[.agg [.ro (.pair (.int .i64) (.pair (.int .i64) (.sl (.int .i64)))), .int .i64], .agg [.int .i64, .int .i64, .ro (.int .i64)]], [.leaf .bool]⟩
def an_s_validNode : Ann := .seq none .leaf (.seq none (.seq (some ⟨[2, 3, 18], [.box 55 [.ro (.pair (.int .i64) (.pair (.int .i64) (.sl (.int .i64)))), .int .i64] [], .box 59 [.int .i64, .int .i64, .ro (.int .i64)] [], .leaf .bool]⟩) .leaf (.cond (.seq none .leaf .leaf) .leaf)) (.seq none (.seq none .leaf (.block (.seq none .leaf (.cond (.seq none .leaf .leaf) (.seq none .leaf (.cond (.seq none .leaf .leaf) (.seq (some ⟨[2, 3, 20, 43], [.box 55 [.ro (.pair (.int .i64) (.pair (.int .i64) (.sl (.int .i64)))), .int .i64] [], .box 59 [.int .i64, .int .i64, .ro (.int .i64)] [], .leaf (.int .i64), .leaf .bool]⟩) (.seq none .leaf (.cond .leaf .leaf)) (.cond (.seq none .leaf .leaf) (.seq none .leaf (.cond (.seq none .leaf .leaf) (.seq none .leaf (.cond (.seq none .leaf .leaf) .leaf)))))))))))) (.seq none .leaf .leaf)))
def ty_s_validNode : List (Nat × Ty) := []
def vr_s_validNode : Nat → Nat := fun _ => 0
abbrev sg_s_placeIn : Sig := ⟨[.leaf (.ro (.int .i64)), .leaf (.int .i64)], [.leaf (.int .i64)]⟩
def an_s_placeIn : Ann := .seq none .leaf (.seq none (.seq none .leaf (.block (.loop ⟨[0, 1, 5], [.leaf (.ro (.int .i64)), .leaf (.int .i64), .leaf (.int .i64)]⟩ (.seq none (.seq none .leaf (.cond .leaf .leaf)) (.seq none (.block (.seq none .leaf (.cond (.seq none .leaf .leaf) .leaf))) .leaf))))) (.seq none .leaf .leaf))
def ty_s_placeIn : List (Nat × Ty) := []
def vr_s_placeIn : Nat → Nat := fun _ => 0
abbrev sg_s_tupleReach : Sig := ⟨[.agg [.ro (.pair (.int .i64) (.pair (.int .i64) (.sl (.int .i64)))), .int .i64], .leaf (.int .i64)], [.leaf (.own 3 (.int .i64))]⟩
def an_s_tupleReach : Ann := .seq none .leaf (.seq none .leaf (.seq none .leaf (.seq none (.seq none .leaf (.block (.loop ⟨[2, 5, 6, 7], [.box 55 [.ro (.pair (.int .i64) (.pair (.int .i64) (.sl (.int .i64)))), .int .i64] [], .leaf (.own 3 (.int .i64)), .leaf (.own 3 (.int .i64)), .leaf (.int .i64)]⟩ (.seq none (.seq none .leaf (.cond .leaf .leaf)) (.seq (some ⟨[2, 5, 6, 7], [.box 55 [.ro (.pair (.int .i64) (.pair (.int .i64) (.sl (.int .i64)))), .int .i64] [], .leaf (.own 3 (.int .i64)), .leaf (.own 3 (.int .i64)), .leaf (.int .i64)]⟩) (.block (.seq none .leaf (.cond (.seq none .leaf (.seq none .leaf (.cond .leaf .leaf))) .leaf))) .leaf))))) (.seq none .leaf .leaf))))
def ty_s_tupleReach : List (Nat × Ty) := [(3, (.int .i64))]
def vr_s_tupleReach : Nat → Nat := fun _ => 0
abbrev sg_s_validGraph : Sig := ⟨[.agg [.ro (.pair (.int .i64) (.pair (.int .i64) (.sl (.int .i64)))), .int .i64]], [.leaf .bool]⟩
def an_s_validGraph : Ann := .seq none .leaf (.seq none (.seq (some ⟨[1, 19], [.box 55 [.ro (.pair (.int .i64) (.pair (.int .i64) (.sl (.int .i64)))), .int .i64] [], .leaf .bool]⟩) .leaf (.cond (.seq none .leaf .leaf) .leaf)) (.seq none (.seq none .leaf (.block (.loop ⟨[1, 3], [.box 55 [.ro (.pair (.int .i64) (.pair (.int .i64) (.sl (.int .i64)))), .int .i64] [], .leaf (.int .i64)]⟩ (.seq none (.seq none .leaf (.cond .leaf .leaf)) (.seq none (.block (.seq none .leaf (.cond (.seq none .leaf .leaf) .leaf))) .leaf))))) (.seq none (.seq none .leaf (.block (.loop ⟨[1, 4], [.box 55 [.ro (.pair (.int .i64) (.pair (.int .i64) (.sl (.int .i64)))), .int .i64] [], .leaf (.int .i64)]⟩ (.seq none (.seq none .leaf (.cond .leaf .leaf)) (.seq none (.block (.seq (some ⟨[1, 4, 56], [.box 55 [.ro (.pair (.int .i64) (.pair (.int .i64) (.sl (.int .i64)))), .int .i64] [], .leaf (.int .i64), .leaf .bool]⟩) .leaf (.cond (.seq none .leaf .leaf) .leaf))) .leaf))))) (.seq none .leaf .leaf))))
def ty_s_validGraph : List (Nat × Ty) := []
def vr_s_validGraph : Nat → Nat := fun _ => 0
abbrev sg_s_addKids : Sig := ⟨[.box 95 [.ro (.int .u8), .int .i64] [.ro (.int .u8), .int .i64], .agg [.own 59 (.pair (.int .i64) (.pair (.int .i64) (.slo (.int .i64)))), .int .i64], .leaf (.int .i64)], [.agg [.own 59 (.pair (.int .i64) (.pair (.int .i64) (.slo (.int .i64)))), .int .i64]]⟩
def an_s_addKids : Ann := .seq none .leaf (.seq none .leaf (.seq none (.seq none .leaf (.block (.loop ⟨[0, 2, 4, 6, 7, 8], [.box 95 [.ro (.int .u8), .int .i64] [], .leaf (.int .i64), .box 55 [.own 59 (.pair (.int .i64) (.pair (.int .i64) (.slo (.int .i64)))), .int .i64] [], .box 55 [.nil, .int .i64] [], .box 59 [.int .i64, .int .i64, .own 3 (.int .i64)] [], .leaf (.int .i64)]⟩ (.seq none (.seq none .leaf (.cond .leaf .leaf)) (.seq (some ⟨[0, 2, 4, 6, 7, 8], [.box 95 [.ro (.int .u8), .int .i64] [], .leaf (.int .i64), .box 55 [.own 59 (.pair (.int .i64) (.pair (.int .i64) (.slo (.int .i64)))), .int .i64] [], .box 55 [.nil, .int .i64] [], .box 59 [.int .i64, .int .i64, .own 3 (.int .i64)] [], .leaf (.int .i64)]⟩) (.block (.seq none .leaf (.seq none .leaf (.block (.seq (some ⟨[0, 2, 4, 6, 7, 8, 9, 29, 30], [.box 95 [.ro (.int .u8), .int .i64] [], .leaf (.int .i64), .box 55 [.own 59 (.pair (.int .i64) (.pair (.int .i64) (.slo (.int .i64)))), .int .i64] [], .box 55 [.nil, .int .i64] [], .box 59 [.int .i64, .int .i64, .own 3 (.int .i64)] [], .leaf (.int .i64), .leaf (.int .i64), .leaf (.int .i64), .leaf .bool]⟩) (.seq none .leaf (.cond .leaf .leaf)) (.cond .leaf (.seq none .leaf (.cond .leaf (.seq none .leaf (.cond (.seq (some ⟨[0, 2, 4, 6, 7, 8, 9, 57], [.box 95 [.ro (.int .u8), .int .i64] [], .leaf (.int .i64), .box 55 [.own 59 (.pair (.int .i64) (.pair (.int .i64) (.slo (.int .i64)))), .int .i64] [], .box 55 [.nil, .int .i64] [], .box 59 [.int .i64, .int .i64, .own 3 (.int .i64)] [], .leaf (.int .i64), .leaf (.int .i64), .leaf .bool]⟩) .leaf (.cond .leaf .leaf)) .leaf)))))))))) .leaf))))) (.seq none .leaf (.seq none .leaf (.seq (some ⟨[0, 4, 6], [.box 95 [.ro (.int .u8), .int .i64] [], .box 55 [.own 59 (.pair (.int .i64) (.pair (.int .i64) (.slo (.int .i64)))), .int .i64] [], .box 55 [.nil, .int .i64] []]⟩) (.seq none .leaf (.cond .leaf .leaf)) (.seq none .leaf .leaf))))))
def ty_s_addKids : List (Nat × Ty) := [(3, (.int .i64))]
def vr_s_addKids : Nat → Nat := fun _ => 0
abbrev sg_s_someGraph : Sig := ⟨[.box 95 [.ro (.int .u8), .int .i64] [.ro (.int .u8), .int .i64]], [.agg [.ro (.pair (.int .i64) (.pair (.int .i64) (.sl (.int .i64)))), .int .i64]]⟩
def an_s_someGraph : Ann := .seq none .leaf (.seq none .leaf (.seq none (.seq none .leaf (.block (.loop ⟨[0, 2, 3, 4], [.box 95 [.ro (.int .u8), .int .i64] [], .box 55 [.nil, .int .i64] [], .box 55 [.own 59 (.pair (.int .i64) (.pair (.int .i64) (.slo (.int .i64)))), .int .i64] [], .leaf (.int .i64)]⟩ (.seq none (.seq none .leaf (.cond .leaf .leaf)) (.seq none (.block .leaf) .leaf))))) (.seq none .leaf (.seq none (.seq none .leaf (.block (.loop ⟨[0, 2, 3, 5], [.box 95 [.ro (.int .u8), .int .i64] [], .box 55 [.nil, .int .i64] [], .box 55 [.own 59 (.pair (.int .i64) (.pair (.int .i64) (.slo (.int .i64)))), .int .i64] [], .leaf (.int .i64)]⟩ (.seq none (.seq none .leaf (.cond .leaf .leaf)) (.seq none (.block .leaf) .leaf))))) (.seq (some ⟨[0, 2, 3], [.box 95 [.ro (.int .u8), .int .i64] [], .box 55 [.nil, .int .i64] [], .box 55 [.own 59 (.pair (.int .i64) (.pair (.int .i64) (.slo (.int .i64)))), .int .i64] []]⟩) (.seq none .leaf (.cond .leaf .leaf)) (.seq none .leaf .leaf))))))
def ty_s_someGraph : List (Nat × Ty) := [(3, (.int .i64)), (59, (.pair (.int .i64) (.pair (.int .i64) (.slo (.int .i64)))))]
def vr_s_someGraph : Nat → Nat := fun _ => 0
abbrev sg_s_emptyMemo : Sig := ⟨[.agg [.ro (.pair (.int .i64) (.pair (.int .i64) (.sl (.int .i64)))), .int .i64]], [.leaf (.own 3 (.int .i64))]⟩
def an_s_emptyMemo : Ann := .seq none .leaf (.seq none .leaf (.seq none (.seq none .leaf (.block (.loop ⟨[1, 3, 4], [.box 55 [.ro (.pair (.int .i64) (.pair (.int .i64) (.sl (.int .i64)))), .int .i64] [], .leaf (.own 3 (.int .i64)), .leaf (.int .i64)]⟩ (.seq none (.seq none .leaf (.cond .leaf .leaf)) (.seq none (.block .leaf) .leaf))))) (.seq none .leaf .leaf)))
def ty_s_emptyMemo : List (Nat × Ty) := [(3, (.int .i64))]
def vr_s_emptyMemo : Nat → Nat := fun _ => 0
abbrev sg_s_emit : Sig := ⟨[.leaf (.ro (.pair (.int .i64) (.int .i64))), .leaf (.ro (.pair (.int .i64) (.int .i64)))], [.leaf (.own 52 (.pair (.int .i64) (.int .i64)))]⟩
def an_s_emit : Ann := .seq none .leaf (.seq none .leaf .leaf)
def ty_s_emit : List (Nat × Ty) := [(52, (.pair (.int .i64) (.int .i64)))]
def vr_s_emit : Nat → Nat := fun _ => 0
abbrev sg_s_memoed : Sig := ⟨[.leaf (.ro (.pair (.int .i64) (.int .i64))), .leaf (.ro (.int .i64)), .leaf (.int .i64)], [.leaf (.own 52 (.pair (.int .i64) (.int .i64))), .leaf (.own 3 (.int .i64))]⟩
def an_s_memoed : Ann := .seq none .leaf (.seq none .leaf (.seq none (.seq none .leaf (.block (.loop ⟨[0, 1, 2, 8, 9], [.leaf (.ro (.pair (.int .i64) (.int .i64))), .leaf (.ro (.int .i64)), .leaf (.int .i64), .leaf (.int .i64), .leaf (.int .i64)]⟩ (.seq none (.seq none .leaf (.cond .leaf .leaf)) (.seq (some ⟨[0, 1, 2, 8, 9], [.leaf (.ro (.pair (.int .i64) (.int .i64))), .leaf (.ro (.int .i64)), .leaf (.int .i64), .leaf (.int .i64), .leaf (.int .i64)]⟩) (.block (.seq none .leaf (.cond .leaf .leaf))) .leaf))))) (.seq none .leaf (.seq none .leaf (.seq none .leaf .leaf)))))
def ty_s_memoed : List (Nat × Ty) := [(52, (.pair (.int .i64) (.int .i64)))]
def vr_s_memoed : Nat → Nat := fun _ => 0
abbrev sg_s_saveAll : Sig := ⟨[.agg [.ro (.pair (.int .i64) (.pair (.int .i64) (.sl (.int .i64)))), .int .i64], .leaf (.int .i64), .leaf (.ro (.int .i64)), .leaf (.ro (.pair (.int .i64) (.int .i64))), .leaf (.ro (.int .i64))], [.leaf (.ro (.pair (.int .i64) (.int .i64))), .leaf (.ro (.int .i64))]⟩
def an_s_saveAll : Ann := .seq none .leaf (.seq none (.seq none .leaf (.block (.loop ⟨[1, 2, 3, 4, 5, 12], [.leaf (.int .i64), .leaf (.ro (.int .i64)), .leaf (.ro (.pair (.int .i64) (.int .i64))), .leaf (.ro (.int .i64)), .box 55 [.ro (.pair (.int .i64) (.pair (.int .i64) (.sl (.int .i64)))), .int .i64] [], .leaf (.int .i64)]⟩ (.seq none (.seq none .leaf (.cond .leaf .leaf)) (.seq none (.block .leaf) .leaf))))) (.seq none .leaf .leaf))
def ty_s_saveAll : List (Nat × Ty) := []
def vr_s_saveAll : Nat → Nat := fun _ => 0
abbrev sg_s_saveTuple : Sig := ⟨[.agg [.ro (.pair (.int .i64) (.pair (.int .i64) (.sl (.int .i64)))), .int .i64], .leaf (.int .i64), .leaf (.int .i64), .leaf (.ro (.pair (.int .i64) (.int .i64))), .leaf (.ro (.int .i64))], [.leaf (.ro (.pair (.int .i64) (.int .i64))), .leaf (.ro (.int .i64))]⟩
def an_s_saveTuple : Ann := .seq none .leaf (.seq none .leaf (.seq none (.seq none .leaf (.cond (.seq none .leaf .leaf) .leaf)) (.seq (some ⟨[1, 2, 3, 4, 5, 12, 13], [.leaf (.int .i64), .leaf (.int .i64), .leaf (.ro (.pair (.int .i64) (.int .i64))), .leaf (.ro (.int .i64)), .box 55 [.ro (.pair (.int .i64) (.pair (.int .i64) (.sl (.int .i64)))), .int .i64] [], .leaf (.ro (.int .i64)), .leaf .bool]⟩) .leaf (.seq (some ⟨[1, 2, 3, 4, 5, 12, 13], [.leaf (.int .i64), .leaf (.int .i64), .leaf (.ro (.pair (.int .i64) (.int .i64))), .leaf (.ro (.int .i64)), .box 55 [.ro (.pair (.int .i64) (.pair (.int .i64) (.sl (.int .i64)))), .int .i64] [], .leaf (.ro (.int .i64)), .leaf .bool]⟩) (.seq none .leaf (.cond .leaf .leaf)) (.seq none .leaf (.seq none (.seq none .leaf (.cond (.seq none (.seq none .leaf (.block (.loop ⟨[2, 3, 4, 12, 13, 14], [.leaf (.int .i64), .leaf (.ro (.pair (.int .i64) (.int .i64))), .leaf (.ro (.int .i64)), .leaf (.ro (.int .i64)), .leaf .bool, .leaf (.int .i64)]⟩ (.seq none (.seq (some ⟨[2, 3, 4, 12, 13, 14, 67], [.leaf (.int .i64), .leaf (.ro (.pair (.int .i64) (.int .i64))), .leaf (.ro (.int .i64)), .leaf (.ro (.int .i64)), .leaf .bool, .leaf (.int .i64), .leaf .bool]⟩) .leaf (.cond .leaf .leaf)) (.seq none (.block .leaf) .leaf))))) (.seq (some ⟨[2, 3, 4], [.leaf (.int .i64), .leaf (.ro (.pair (.int .i64) (.int .i64))), .leaf (.ro (.int .i64))]⟩) (.seq none .leaf (.cond .leaf .leaf)) (.seq none .leaf .leaf))) .leaf)) (.seq none .leaf (.seq (some ⟨[2, 3, 4, 15], [.leaf (.int .i64), .leaf (.ro (.pair (.int .i64) (.int .i64))), .leaf (.ro (.int .i64)), .leaf (.int .i64)]⟩) (.seq none .leaf (.cond .leaf .leaf)) (.seq none .leaf .leaf)))))))))
def ty_s_saveTuple : List (Nat × Ty) := [(52, (.pair (.int .i64) (.int .i64)))]
def vr_s_saveTuple : Nat → Nat := fun _ => 0
abbrev sg_s_fill : Sig := ⟨[.agg [.ro (.pair (.int .i64) (.pair (.int .i64) (.sl (.int .i64)))), .int .i64], .leaf (.int .i64), .leaf (.ro (.int .i64)), .leaf (.int .i64), .leaf (.int .i64), .leaf (.int .i64), .leaf (.ro (.pair (.int .i64) (.int .i64))), .leaf (.ro (.int .i64))], [.leaf (.ro (.pair (.int .i64) (.int .i64))), .leaf (.ro (.int .i64))]⟩
def an_s_fill : Ann := .seq none .leaf (.seq none (.seq (some ⟨[1, 2, 3, 4, 5, 6, 7, 8, 26], [.leaf (.int .i64), .leaf (.ro (.int .i64)), .leaf (.int .i64), .leaf (.int .i64), .leaf (.int .i64), .leaf (.ro (.pair (.int .i64) (.int .i64))), .leaf (.ro (.int .i64)), .box 55 [.ro (.pair (.int .i64) (.pair (.int .i64) (.sl (.int .i64)))), .int .i64] [], .leaf .bool]⟩) .leaf (.cond (.seq none .leaf (.seq none .leaf (.seq none .leaf .leaf))) .leaf)) (.seq none (.seq none .leaf (.block (.loop ⟨[1, 2, 3, 4, 6, 7, 8, 18], [.leaf (.int .i64), .leaf (.ro (.int .i64)), .leaf (.int .i64), .leaf (.int .i64), .leaf (.ro (.pair (.int .i64) (.int .i64))), .leaf (.ro (.int .i64)), .box 55 [.ro (.pair (.int .i64) (.pair (.int .i64) (.sl (.int .i64)))), .int .i64] [], .leaf (.int .i64)]⟩ (.seq none (.seq none .leaf (.cond .leaf .leaf)) (.seq none (.block (.seq none .leaf .leaf)) .leaf))))) (.seq none .leaf .leaf)))
def ty_s_fill : List (Nat × Ty) := [(52, (.pair (.int .i64) (.int .i64)))]
def vr_s_fill : Nat → Nat := fun _ => 0
abbrev sg_s_save : Sig := ⟨[.agg [.ro (.pair (.int .i64) (.pair (.int .i64) (.sl (.int .i64)))), .int .i64], .leaf (.int .i64), .leaf (.int .i64), .leaf (.ro (.pair (.int .i64) (.int .i64))), .leaf (.ro (.int .i64))], [.leaf (.ro (.pair (.int .i64) (.int .i64))), .leaf (.ro (.int .i64))]⟩
def an_s_save : Ann := .seq none .leaf (.seq none .leaf (.seq none (.seq none .leaf (.cond (.seq none .leaf .leaf) .leaf)) (.seq none (.seq none .leaf (.block (.seq none .leaf (.cond (.seq none .leaf .leaf) (.seq none .leaf (.cond (.seq none .leaf .leaf) (.seq none .leaf (.cond (.seq none .leaf .leaf) (.seq none .leaf (.cond (.seq none .leaf (.seq none .leaf .leaf)) (.seq none .leaf (.cond (.seq none .leaf (.seq none .leaf .leaf)) .leaf)))))))))))) (.seq none .leaf (.seq none .leaf (.seq (some ⟨[3, 4], [.leaf (.ro (.pair (.int .i64) (.int .i64))), .leaf (.ro (.int .i64))]⟩) (.seq none .leaf (.cond .leaf .leaf)) (.seq none .leaf .leaf)))))))
def ty_s_save : List (Nat × Ty) := [(52, (.pair (.int .i64) (.int .i64)))]
def vr_s_save : Nat → Nat := fun _ => 0
abbrev sg_s_written : Sig := ⟨[.agg [.ro (.pair (.int .i64) (.pair (.int .i64) (.sl (.int .i64)))), .int .i64], .leaf (.int .i64)], [.leaf (.own 52 (.pair (.int .i64) (.int .i64)))]⟩
def an_s_written : Ann := .seq none .leaf (.seq none .leaf (.seq none .leaf .leaf))
def ty_s_written : List (Nat × Ty) := [(52, (.pair (.int .i64) (.int .i64)))]
def vr_s_written : Nat → Nat := fun _ => 0
abbrev sg_s_someOps : Sig := ⟨[.box 95 [.ro (.int .u8), .int .i64] [.ro (.int .u8), .int .i64]], [.leaf (.ro (.pair (.int .i64) (.int .i64)))]⟩
def an_s_someOps : Ann := .seq none .leaf (.seq none .leaf (.seq (some ⟨[0, 3], [.box 95 [.ro (.int .u8), .int .i64] [], .leaf (.own 52 (.pair (.int .i64) (.int .i64)))]⟩) (.seq none .leaf (.cond .leaf (.seq none .leaf (.seq (some ⟨[0, 3], [.box 95 [.ro (.int .u8), .int .i64] [], .leaf (.own 52 (.pair (.int .i64) (.int .i64)))]⟩) (.seq (some ⟨[0, 3, 22], [.box 95 [.ro (.int .u8), .int .i64] [], .leaf (.own 52 (.pair (.int .i64) (.int .i64))), .leaf .bool]⟩) .leaf (.cond .leaf .leaf)) (.seq none .leaf (.cond .leaf .leaf)))))) (.seq none (.seq none .leaf (.cond (.seq none .leaf (.block (.seq none .leaf (.cond .leaf (.seq none .leaf (.cond .leaf .leaf)))))) .leaf)) (.seq none .leaf .leaf))))
def ty_s_someOps : List (Nat × Ty) := [(3, (.int .i64)), (52, (.pair (.int .i64) (.int .i64)))]
def vr_s_someOps : Nat → Nat := fun _ => 0
abbrev sg_s_DrawClassesIn : Sig := ⟨[.leaf (.ro (.int .u8))], [.leaf (.ro (.pair (.int .i64) (.int .i64)))]⟩
def an_s_DrawClassesIn : Ann := .seq none .leaf (.seq none .leaf .leaf)
def ty_s_DrawClassesIn : List (Nat × Ty) := []
def vr_s_DrawClassesIn : Nat → Nat := fun _ => 0
abbrev sg_i_mostArg : Sig := ⟨[.leaf (.int .i64)], [.leaf (.int .i64)]⟩
def an_i_mostArg : Ann := .seq none .leaf (.seq none (.seq none .leaf (.block (.seq none .leaf (.cond (.seq none .leaf .leaf) (.seq none .leaf (.cond (.seq none .leaf .leaf) (.seq none .leaf (.cond (.seq none .leaf .leaf) (.seq (some ⟨[10], [.leaf .bool]⟩) (.seq none .leaf (.cond .leaf .leaf)) (.cond (.seq none .leaf .leaf) .leaf)))))))))) (.seq none .leaf .leaf))
def ty_i_mostArg : List (Nat × Ty) := []
def vr_i_mostArg : Nat → Nat := fun _ => 0
abbrev sg_i_opOk : Sig := ⟨[.agg [.int .i64, .int .i64]], [.leaf .bool]⟩
def an_i_opOk : Ann := .seq none .leaf (.seq none .leaf .leaf)
def ty_i_opOk : List (Nat × Ty) := []
def vr_i_opOk : Nat → Nat := fun _ => 0
abbrev sg_i_ValidOps : Sig := ⟨[.leaf (.ro (.pair (.int .i64) (.int .i64)))], [.leaf .bool]⟩
def an_i_ValidOps : Ann := .seq none .leaf (.seq none (.seq none .leaf (.block (.loop ⟨[0, 5, 6, 7], [.leaf (.ro (.pair (.int .i64) (.int .i64))), .leaf (.ro (.pair (.int .i64) (.int .i64))), .leaf (.int .i64), .leaf (.int .i64)]⟩ (.seq none .leaf (.seq none (.cond .leaf .leaf) (.seq none (.block (.seq none .leaf (.seq none .leaf (.cond (.seq none .leaf .leaf) .leaf)))) .leaf)))))) (.seq none .leaf .leaf))
def ty_i_ValidOps : List (Nat × Ty) := []
def vr_i_ValidOps : Nat → Nat := fun _ => 0
abbrev sg_bits_Len64 : Sig := ⟨[.leaf (.int .u64)], [.leaf (.int .i64)]⟩
def an_bits_Len64 : Ann := .seq none .leaf (.seq (some ⟨[0, 2], [.leaf (.int .u64), .leaf (.int .i64)]⟩) (.seq none .leaf (.cond (.seq none .leaf .leaf) .leaf)) (.seq (some ⟨[0, 2], [.leaf (.int .u64), .leaf (.int .i64)]⟩) (.seq none .leaf (.cond (.seq none .leaf .leaf) .leaf)) (.seq (some ⟨[0, 2], [.leaf (.int .u64), .leaf (.int .i64)]⟩) (.seq none .leaf (.cond (.seq none .leaf .leaf) .leaf)) (.seq none .leaf .leaf))))
def ty_bits_Len64 : List (Nat × Ty) := []
def vr_bits_Len64 : Nat → Nat := fun _ => 0
abbrev sg_bits_Len : Sig := ⟨[.leaf (.int .u64)], [.leaf (.int .i64)]⟩
def an_bits_Len : Ann := .seq none .leaf (.seq none (.cond (.seq none .leaf .leaf) .leaf) (.seq none .leaf .leaf))
def ty_bits_Len : List (Nat × Ty) := []
def vr_bits_Len : Nat → Nat := fun _ => 0
abbrev sg_cmp_isNaN_int : Sig := ⟨[.leaf (.int .i64)], [.leaf .bool]⟩
def an_cmp_isNaN_int : Ann := .seq none .leaf (.seq none .leaf .leaf)
def ty_cmp_isNaN_int : List (Nat × Ty) := []
def vr_cmp_isNaN_int : Nat → Nat := fun _ => 0
abbrev sg_cmp_Less_int : Sig := ⟨[.leaf (.int .i64), .leaf (.int .i64)], [.leaf .bool]⟩
def an_cmp_Less_int : Ann := .seq none .leaf (.seq none .leaf .leaf)
def ty_cmp_Less_int : List (Nat × Ty) := []
def vr_cmp_Less_int : Nat → Nat := fun _ => 0
abbrev sg_slices_insertionSortOrdered_int : Sig := ⟨[.muts 1 3 (.int .i64), .leaf (.int .i64), .leaf (.int .i64)], []⟩
def an_slices_insertionSortOrdered_int : Ann := .seq none .leaf (.block (.loop ⟨[0, 1, 2, 6], [.muts 1 3 (.int .i64), .leaf (.int .i64), .leaf (.int .i64), .leaf (.int .i64)]⟩ (.seq none (.seq none .leaf (.cond .leaf .leaf)) (.seq none (.block (.seq none .leaf (.block (.loop ⟨[0, 1, 2, 6, 7], [.muts 1 3 (.int .i64), .leaf (.int .i64), .leaf (.int .i64), .leaf (.int .i64), .leaf (.int .i64)]⟩ (.seq none (.seq (some ⟨[0, 1, 2, 6, 7, 30], [.muts 1 3 (.int .i64), .leaf (.int .i64), .leaf (.int .i64), .leaf (.int .i64), .leaf (.int .i64), .leaf .bool]⟩) .leaf (.cond .leaf .leaf)) (.seq none (.block .leaf) .leaf)))))) .leaf))))
def ty_slices_insertionSortOrdered_int : List (Nat × Ty) := []
def vr_slices_insertionSortOrdered_int : Nat → Nat := fun _ => 0
abbrev sg_slices_siftDownOrdered_int : Sig := ⟨[.muts 1 3 (.int .i64), .leaf (.int .i64), .leaf (.int .i64), .leaf (.int .i64)], []⟩
def an_slices_siftDownOrdered_int : Ann := .seq none .leaf (.block (.loop ⟨[0, 2, 3, 8], [.muts 1 3 (.int .i64), .leaf (.int .i64), .leaf (.int .i64), .leaf (.int .i64)]⟩ (.block (.seq none .leaf (.seq none (.seq none .leaf (.cond .leaf .leaf)) (.seq (some ⟨[0, 2, 3, 8, 9], [.muts 1 3 (.int .i64), .leaf (.int .i64), .leaf (.int .i64), .leaf (.int .i64), .leaf (.int .i64)]⟩) (.seq (some ⟨[0, 2, 3, 8, 9, 36], [.muts 1 3 (.int .i64), .leaf (.int .i64), .leaf (.int .i64), .leaf (.int .i64), .leaf (.int .i64), .leaf .bool]⟩) .leaf (.cond .leaf .leaf)) (.seq none (.seq none .leaf (.cond .leaf .leaf)) (.seq none .leaf .leaf))))))))
def ty_slices_siftDownOrdered_int : List (Nat × Ty) := []
def vr_slices_siftDownOrdered_int : Nat → Nat := fun _ => 0
abbrev sg_slices_heapSortOrdered_int : Sig := ⟨[.muts 1 3 (.int .i64), .leaf (.int .i64), .leaf (.int .i64)], []⟩
def an_slices_heapSortOrdered_int : Ann := .seq none .leaf (.seq none .leaf (.seq none .leaf (.seq none (.seq none .leaf (.block (.loop ⟨[0, 6, 7, 8, 9], [.muts 1 3 (.int .i64), .leaf (.int .i64), .leaf (.int .i64), .leaf (.int .i64), .leaf (.int .i64)]⟩ (.seq none (.seq none .leaf (.cond .leaf .leaf)) (.seq none (.block .leaf) .leaf))))) (.seq none .leaf (.block (.loop ⟨[0, 6, 7, 10], [.muts 1 3 (.int .i64), .leaf (.int .i64), .leaf (.int .i64), .leaf (.int .i64)]⟩ (.seq none (.seq none .leaf (.cond .leaf .leaf)) (.seq none (.block (.seq none .leaf .leaf)) .leaf))))))))
def ty_slices_heapSortOrdered_int : List (Nat × Ty) := []
def vr_slices_heapSortOrdered_int : Nat → Nat := fun _ => 0
abbrev sg_slices_nextPowerOfTwo : Sig := ⟨[.leaf (.int .i64)], [.leaf (.int .u64)]⟩
def an_slices_nextPowerOfTwo : Ann := .seq none .leaf (.seq none .leaf .leaf)
def ty_slices_nextPowerOfTwo : List (Nat × Ty) := []
def vr_slices_nextPowerOfTwo : Nat → Nat := fun _ => 0
abbrev sg_slices_xorshift_Next : Sig := ⟨[.box 148 [.int .u64] [.int .u64]], [.leaf (.int .u64)]⟩
def an_slices_xorshift_Next : Ann := .seq none .leaf (.seq none .leaf (.seq none .leaf (.seq none .leaf (.seq none .leaf .leaf))))
def ty_slices_xorshift_Next : List (Nat × Ty) := []
def vr_slices_xorshift_Next : Nat → Nat := fun _ => 0
abbrev sg_slices_breakPatternsOrdered_int : Sig := ⟨[.muts 1 3 (.int .i64), .leaf (.int .i64), .leaf (.int .i64)], []⟩
def an_slices_breakPatternsOrdered_int : Ann := .seq none .leaf (.seq none .leaf (.cond (.seq none .leaf (.seq none .leaf (.seq none .leaf (.block (.loop ⟨[0, 1, 6, 7, 8, 9], [.muts 1 3 (.int .i64), .leaf (.int .i64), .leaf (.int .i64), .box 148 [.int .u64] [], .leaf (.int .u64), .leaf (.int .i64)]⟩ (.seq none (.seq none .leaf (.cond .leaf .leaf)) (.seq none (.block (.seq none .leaf (.seq (some ⟨[0, 1, 6, 7, 8, 9, 10], [.muts 1 3 (.int .i64), .leaf (.int .i64), .leaf (.int .i64), .box 148 [.int .u64] [], .leaf (.int .u64), .leaf (.int .i64), .leaf (.int .i64)]⟩) (.seq none .leaf (.cond .leaf .leaf)) .leaf))) .leaf))))))) .leaf))
def ty_slices_breakPatternsOrdered_int : List (Nat × Ty) := []
def vr_slices_breakPatternsOrdered_int : Nat → Nat := fun _ => 0
abbrev sg_slices_order2Ordered_int : Sig := ⟨[.leaf (.ro (.int .i64)), .leaf (.int .i64), .leaf (.int .i64), .box 3 [.int .i64] [.int .i64]], [.leaf (.int .i64), .leaf (.int .i64)]⟩
def an_slices_order2Ordered_int : Ann := .seq none .leaf (.seq none (.seq none .leaf (.cond (.seq none .leaf (.seq none .leaf .leaf)) .leaf)) (.seq none .leaf .leaf))
def ty_slices_order2Ordered_int : List (Nat × Ty) := []
def vr_slices_order2Ordered_int : Nat → Nat := fun _ => 0
abbrev sg_slices_medianOrdered_int : Sig := ⟨[.leaf (.ro (.int .i64)), .leaf (.int .i64), .leaf (.int .i64), .leaf (.int .i64), .box 3 [.int .i64] [.int .i64]], [.leaf (.int .i64)]⟩
def an_slices_medianOrdered_int : Ann := .seq none .leaf (.seq none .leaf (.seq none .leaf (.seq none .leaf (.seq none .leaf .leaf))))
def ty_slices_medianOrdered_int : List (Nat × Ty) := []
def vr_slices_medianOrdered_int : Nat → Nat := fun _ => 0
abbrev sg_slices_medianAdjacentOrdered_int : Sig := ⟨[.leaf (.ro (.int .i64)), .leaf (.int .i64), .box 3 [.int .i64] [.int .i64]], [.leaf (.int .i64)]⟩
def an_slices_medianAdjacentOrdered_int : Ann := .seq none .leaf (.seq none .leaf .leaf)
def ty_slices_medianAdjacentOrdered_int : List (Nat × Ty) := []
def vr_slices_medianAdjacentOrdered_int : Nat → Nat := fun _ => 0
abbrev sg_slices_choosePivotOrdered_int : Sig := ⟨[.leaf (.ro (.int .i64)), .leaf (.int .i64), .leaf (.int .i64)], [.leaf (.int .i64), .leaf (.int .i64)]⟩
def an_slices_choosePivotOrdered_int : Ann := .seq none .leaf (.seq none .leaf (.seq none .leaf (.seq none .leaf (.seq none .leaf (.seq none .leaf (.seq (some ⟨[9, 11], [.box 3 [.int .i64] [], .leaf (.int .i64)]⟩) (.seq none .leaf (.cond (.seq (some ⟨[0, 9, 10, 11, 12], [.leaf (.ro (.int .i64)), .box 3 [.int .i64] [], .leaf (.int .i64), .leaf (.int .i64), .leaf (.int .i64)]⟩) (.seq none .leaf (.cond (.seq none .leaf (.seq none .leaf .leaf)) .leaf)) .leaf) .leaf)) (.seq none .leaf (.block (.seq none .leaf (.cond (.seq none .leaf .leaf) (.seq none .leaf (.cond (.seq none .leaf .leaf) (.seq none .leaf .leaf)))))))))))))
def ty_slices_choosePivotOrdered_int : List (Nat × Ty) := []
def vr_slices_choosePivotOrdered_int : Nat → Nat := fun _ => 0
abbrev sg_slices_reverseRangeOrdered_int : Sig := ⟨[.muts 1 3 (.int .i64), .leaf (.int .i64), .leaf (.int .i64)], []⟩
def an_slices_reverseRangeOrdered_int : Ann := .seq none .leaf (.seq none .leaf (.block (.loop ⟨[0, 6, 7], [.muts 1 3 (.int .i64), .leaf (.int .i64), .leaf (.int .i64)]⟩ (.seq none (.seq none .leaf (.cond .leaf .leaf)) (.block (.seq none .leaf (.seq none .leaf .leaf)))))))
def ty_slices_reverseRangeOrdered_int : List (Nat × Ty) := []
def vr_slices_reverseRangeOrdered_int : Nat → Nat := fun _ => 0
abbrev sg_slices_partialInsertionSortOrdered_int : Sig := ⟨[.muts 1 3 (.int .i64), .leaf (.int .i64), .leaf (.int .i64)], [.leaf .bool]⟩
def an_slices_partialInsertionSortOrdered_int : Ann := .seq none .leaf (.seq none .leaf (.seq none (.seq none .leaf (.block (.loop ⟨[0, 1, 2, 7, 8], [.muts 1 3 (.int .i64), .leaf (.int .i64), .leaf (.int .i64), .leaf (.int .i64), .leaf (.int .i64)]⟩ (.seq none (.seq none .leaf (.cond .leaf .leaf)) (.seq (some ⟨[0, 1, 2, 7, 8], [.muts 1 3 (.int .i64), .leaf (.int .i64), .leaf (.int .i64), .leaf (.int .i64), .leaf (.int .i64)]⟩) (.block (.seq none (.block (.loop ⟨[0, 1, 2, 7, 8], [.muts 1 3 (.int .i64), .leaf (.int .i64), .leaf (.int .i64), .leaf (.int .i64), .leaf (.int .i64)]⟩ (.seq none (.seq (some ⟨[0, 1, 2, 7, 8, 32], [.muts 1 3 (.int .i64), .leaf (.int .i64), .leaf (.int .i64), .leaf (.int .i64), .leaf (.int .i64), .leaf .bool]⟩) .leaf (.cond .leaf .leaf)) (.block .leaf)))) (.seq none (.seq none .leaf (.cond (.seq none .leaf .leaf) .leaf)) (.seq none (.seq none .leaf (.cond (.seq none .leaf .leaf) .leaf)) (.seq none .leaf (.seq (some ⟨[0, 1, 2, 7, 8], [.muts 1 3 (.int .i64), .leaf (.int .i64), .leaf (.int .i64), .leaf (.int .i64), .leaf (.int .i64)]⟩) (.seq none .leaf (.cond (.seq none .leaf (.block (.loop ⟨[0, 1, 2, 7, 8, 9], [.muts 1 3 (.int .i64), .leaf (.int .i64), .leaf (.int .i64), .leaf (.int .i64), .leaf (.int .i64), .leaf (.int .i64)]⟩ (.seq none (.seq none .leaf (.cond .leaf .leaf)) (.seq none (.block (.seq none (.seq none .leaf (.cond .leaf .leaf)) .leaf)) .leaf))))) .leaf)) (.seq none .leaf (.cond (.seq none .leaf (.block (.loop ⟨[0, 1, 2, 7, 8, 10], [.muts 1 3 (.int .i64), .leaf (.int .i64), .leaf (.int .i64), .leaf (.int .i64), .leaf (.int .i64), .leaf (.int .i64)]⟩ (.seq none (.seq none .leaf (.cond .leaf .leaf)) (.seq none (.block (.seq none (.seq none .leaf (.cond .leaf .leaf)) .leaf)) .leaf))))) .leaf)))))))) .leaf))))) (.seq none .leaf .leaf)))
def ty_slices_partialInsertionSortOrdered_int : List (Nat × Ty) := []
def vr_slices_partialInsertionSortOrdered_int : Nat → Nat := fun _ => 0
abbrev sg_slices_partitionEqualOrdered_int : Sig := ⟨[.muts 1 3 (.int .i64), .leaf (.int .i64), .leaf (.int .i64), .leaf (.int .i64)], [.leaf (.int .i64)]⟩
def an_slices_partitionEqualOrdered_int : Ann := .seq none .leaf (.seq none .leaf (.seq none .leaf (.seq none (.block (.loop ⟨[0, 1, 9, 10], [.muts 1 3 (.int .i64), .leaf (.int .i64), .leaf (.int .i64), .leaf (.int .i64)]⟩ (.block (.seq none (.block (.loop ⟨[0, 1, 9, 10], [.muts 1 3 (.int .i64), .leaf (.int .i64), .leaf (.int .i64), .leaf (.int .i64)]⟩ (.seq none (.seq (some ⟨[0, 1, 9, 10, 43], [.muts 1 3 (.int .i64), .leaf (.int .i64), .leaf (.int .i64), .leaf (.int .i64), .leaf .bool]⟩) .leaf (.cond .leaf .leaf)) (.block .leaf)))) (.seq none (.block (.loop ⟨[0, 1, 9, 10], [.muts 1 3 (.int .i64), .leaf (.int .i64), .leaf (.int .i64), .leaf (.int .i64)]⟩ (.seq none (.seq (some ⟨[0, 1, 9, 10, 59], [.muts 1 3 (.int .i64), .leaf (.int .i64), .leaf (.int .i64), .leaf (.int .i64), .leaf .bool]⟩) .leaf (.cond .leaf .leaf)) (.block .leaf)))) (.seq none (.seq none .leaf (.cond .leaf .leaf)) (.seq none .leaf (.seq none .leaf .leaf)))))))) (.seq none .leaf .leaf))))
def ty_slices_partitionEqualOrdered_int : List (Nat × Ty) := []
def vr_slices_partitionEqualOrdered_int : Nat → Nat := fun _ => 0
abbrev sg_slices_partitionOrdered_int : Sig := ⟨[.muts 1 3 (.int .i64), .leaf (.int .i64), .leaf (.int .i64), .leaf (.int .i64)], [.leaf (.int .i64), .leaf .bool]⟩
def an_slices_partitionOrdered_int : Ann := .seq none .leaf (.seq none .leaf (.seq none .leaf (.seq none (.block (.loop ⟨[0, 1, 10, 11], [.muts 1 3 (.int .i64), .leaf (.int .i64), .leaf (.int .i64), .leaf (.int .i64)]⟩ (.seq none (.seq (some ⟨[0, 1, 10, 11, 43], [.muts 1 3 (.int .i64), .leaf (.int .i64), .leaf (.int .i64), .leaf (.int .i64), .leaf .bool]⟩) .leaf (.cond .leaf .leaf)) (.block .leaf)))) (.seq none (.block (.loop ⟨[0, 1, 10, 11], [.muts 1 3 (.int .i64), .leaf (.int .i64), .leaf (.int .i64), .leaf (.int .i64)]⟩ (.seq none (.seq (some ⟨[0, 1, 10, 11, 60], [.muts 1 3 (.int .i64), .leaf (.int .i64), .leaf (.int .i64), .leaf (.int .i64), .leaf .bool]⟩) .leaf (.cond .leaf .leaf)) (.block .leaf)))) (.seq none (.seq none .leaf (.cond (.seq none .leaf (.seq none .leaf .leaf)) .leaf)) (.seq none .leaf (.seq none .leaf (.seq none .leaf (.seq none (.block (.loop ⟨[0, 1, 10, 11], [.muts 1 3 (.int .i64), .leaf (.int .i64), .leaf (.int .i64), .leaf (.int .i64)]⟩ (.block (.seq none (.block (.loop ⟨[0, 1, 10, 11], [.muts 1 3 (.int .i64), .leaf (.int .i64), .leaf (.int .i64), .leaf (.int .i64)]⟩ (.seq none (.seq (some ⟨[0, 1, 10, 11, 112], [.muts 1 3 (.int .i64), .leaf (.int .i64), .leaf (.int .i64), .leaf (.int .i64), .leaf .bool]⟩) .leaf (.cond .leaf .leaf)) (.block .leaf)))) (.seq none (.block (.loop ⟨[0, 1, 10, 11], [.muts 1 3 (.int .i64), .leaf (.int .i64), .leaf (.int .i64), .leaf (.int .i64)]⟩ (.seq none (.seq (some ⟨[0, 1, 10, 11, 129], [.muts 1 3 (.int .i64), .leaf (.int .i64), .leaf (.int .i64), .leaf (.int .i64), .leaf .bool]⟩) .leaf (.cond .leaf .leaf)) (.block .leaf)))) (.seq none (.seq none .leaf (.cond .leaf .leaf)) (.seq none .leaf (.seq none .leaf .leaf)))))))) (.seq none .leaf (.seq none .leaf .leaf)))))))))))
def ty_slices_partitionOrdered_int : List (Nat × Ty) := []
def vr_slices_partitionOrdered_int : Nat → Nat := fun _ => 0
abbrev sg_slices_pdqsortOrdered_int : Sig := ⟨[.muts 1 3 (.int .i64), .leaf (.int .i64), .leaf (.int .i64), .leaf (.int .i64)], []⟩
def an_slices_pdqsortOrdered_int : Ann := .seq none .leaf (.seq none .leaf (.block (.loop ⟨[0, 1, 2, 3, 8, 9], [.muts 1 3 (.int .i64), .leaf (.int .i64), .leaf (.int .i64), .leaf (.int .i64), .leaf .bool, .leaf .bool]⟩ (.block (.seq none .leaf (.seq none (.seq none .leaf (.cond (.seq none .leaf .leaf) .leaf)) (.seq none (.seq none .leaf (.cond (.seq none .leaf .leaf) .leaf)) (.seq (some ⟨[0, 1, 2, 3, 8, 9, 10], [.muts 1 3 (.int .i64), .leaf (.int .i64), .leaf (.int .i64), .leaf (.int .i64), .leaf .bool, .leaf .bool, .leaf (.int .i64)]⟩) (.seq none .leaf (.cond (.seq none .leaf .leaf) .leaf)) (.seq none .leaf (.seq (some ⟨[0, 1, 2, 3, 8, 9, 10, 11, 12], [.muts 1 3 (.int .i64), .leaf (.int .i64), .leaf (.int .i64), .leaf (.int .i64), .leaf .bool, .leaf .bool, .leaf (.int .i64), .leaf (.int .i64), .leaf (.int .i64)]⟩) (.seq none .leaf (.cond (.seq none .leaf (.seq none .leaf .leaf)) .leaf)) (.seq (some ⟨[0, 1, 2, 3, 8, 9, 10, 11], [.muts 1 3 (.int .i64), .leaf (.int .i64), .leaf (.int .i64), .leaf (.int .i64), .leaf .bool, .leaf .bool, .leaf (.int .i64), .leaf (.int .i64)]⟩) (.seq (some ⟨[0, 1, 2, 3, 8, 9, 10, 11, 68], [.muts 1 3 (.int .i64), .leaf (.int .i64), .leaf (.int .i64), .leaf (.int .i64), .leaf .bool, .leaf .bool, .leaf (.int .i64), .leaf (.int .i64), .leaf .bool]⟩) .leaf (.cond (.seq none .leaf (.cond .leaf .leaf)) .leaf)) (.seq none (.seq (some ⟨[0, 1, 2, 3, 8, 9, 10, 11, 87], [.muts 1 3 (.int .i64), .leaf (.int .i64), .leaf (.int .i64), .leaf (.int .i64), .leaf .bool, .leaf .bool, .leaf (.int .i64), .leaf (.int .i64), .leaf .bool]⟩) .leaf (.cond (.seq none .leaf (.seq none .leaf .leaf)) .leaf)) (.seq none .leaf (.seq none .leaf (.seq none .leaf (.seq none .leaf (.seq none .leaf (.cond (.seq none .leaf (.seq none .leaf .leaf)) (.seq none .leaf (.seq none .leaf .leaf))))))))))))))))))))
def ty_slices_pdqsortOrdered_int : List (Nat × Ty) := []
def vr_slices_pdqsortOrdered_int : Nat → Nat := fun _ => 0
abbrev sg_slices_Sort_int_int : Sig := ⟨[.muts 1 3 (.int .i64)], []⟩
def an_slices_Sort_int_int : Ann := .seq none .leaf .leaf
def ty_slices_Sort_int_int : List (Nat × Ty) := []
def vr_slices_Sort_int_int : Nat → Nat := fun _ => 0
abbrev sg_slices_Compact_int_int : Sig := ⟨[.leaf (.own 3 (.int .i64))], [.leaf (.own 3 (.int .i64))]⟩
def an_slices_Compact_int_int : Ann := .seq none .leaf (.seq none (.seq none .leaf (.cond (.seq none .leaf .leaf) .leaf)) (.seq none (.seq none .leaf (.block (.loop ⟨[0, 3], [.leaf (.own 3 (.int .i64)), .leaf (.int .i64)]⟩ (.seq none (.seq none .leaf (.cond .leaf .leaf)) (.seq none (.block (.seq none .leaf (.cond (.seq none .leaf (.seq none (.seq none .leaf (.block (.loop ⟨[0, 3, 5, 4], [.leaf (.ownA 600000 3 (.int .i64)), .leaf (.int .i64), .leaf (.int .i64), .leaf (.vw 600000)]⟩ (.seq none (.seq none .leaf (.cond .leaf .leaf)) (.seq (some ⟨[0, 3, 5, 4], [.leaf (.ownA 600000 3 (.int .i64)), .leaf (.int .i64), .leaf (.int .i64), .leaf (.vw 600000)]⟩) (.block (.seq none .leaf (.cond (.seq none .leaf .leaf) .leaf))) .leaf))))) (.seq none .leaf (.seq none .leaf .leaf)))) .leaf))) .leaf))))) (.seq none .leaf .leaf)))
def ty_slices_Compact_int_int : List (Nat × Ty) := []
def vr_slices_Compact_int_int : Nat → Nat := fun _ => 0
abbrev sg_slices_Clip_int_int : Sig := ⟨[.leaf (.ro (.int .i64))], [.leaf (.ro (.int .i64))]⟩
def an_slices_Clip_int_int : Ann := .seq none .leaf (.seq none .leaf .leaf)
def ty_slices_Clip_int_int : List (Nat × Ty) := []
def vr_slices_Clip_int_int : Nat → Nat := fun _ => 0
abbrev sg_i_ClassesIn : Sig := ⟨[.leaf (.ro (.pair (.int .i64) (.int .i64)))], [.leaf (.ro (.int .i64))]⟩
def an_i_ClassesIn : Ann := .seq none .leaf (.seq none (.seq none .leaf (.cond (.seq none .leaf .leaf) .leaf)) (.seq none .leaf (.seq none (.seq none .leaf (.block (.loop ⟨[3, 10, 11, 12], [.leaf (.own 3 (.int .i64)), .leaf (.ro (.pair (.int .i64) (.int .i64))), .leaf (.int .i64), .leaf (.int .i64)]⟩ (.seq none .leaf (.seq none (.cond .leaf .leaf) (.seq (some ⟨[3, 10, 11, 12], [.leaf (.own 3 (.int .i64)), .leaf (.ro (.pair (.int .i64) (.int .i64))), .leaf (.int .i64), .leaf (.int .i64)]⟩) (.block (.seq none .leaf (.seq none .leaf (.cond .leaf .leaf)))) .leaf)))))) (.seq none .leaf (.seq none .leaf .leaf)))))
def ty_i_ClassesIn : List (Nat × Ty) := [(3, (.int .i64))]
def vr_i_ClassesIn : Nat → Nat := fun _ => 0
abbrev sg_s_ClassesIn : Sig := ⟨[.leaf (.ro (.pair (.int .i64) (.int .i64)))], [.leaf (.own 3 (.int .i64))]⟩
def an_s_ClassesIn : Ann := .seq none .leaf (.seq none (.seq none .leaf (.cond (.seq none .leaf .leaf) .leaf)) (.seq none .leaf (.seq none (.seq none .leaf (.block (.loop ⟨[0, 3, 4], [.leaf (.ro (.pair (.int .i64) (.int .i64))), .leaf (.own 3 (.int .i64)), .leaf (.int .i64)]⟩ (.seq none (.seq none .leaf (.cond .leaf .leaf)) (.seq (some ⟨[0, 3, 4], [.leaf (.ro (.pair (.int .i64) (.int .i64))), .leaf (.own 3 (.int .i64)), .leaf (.int .i64)]⟩) (.block (.seq none .leaf (.block (.loop ⟨[0, 3, 4, 5], [.leaf (.ro (.pair (.int .i64) (.int .i64))), .leaf (.own 3 (.int .i64)), .leaf (.int .i64), .leaf (.int .i64)]⟩ (.seq none (.seq none .leaf (.cond .leaf .leaf)) (.seq none (.block (.seq (some ⟨[0, 3, 4, 5, 34], [.leaf (.ro (.pair (.int .i64) (.int .i64))), .leaf (.own 3 (.int .i64)), .leaf (.int .i64), .leaf (.int .i64), .leaf .bool]⟩) .leaf (.cond (.seq none .leaf .leaf) .leaf))) .leaf)))))) .leaf))))) (.seq none .leaf .leaf))))
def ty_s_ClassesIn : List (Nat × Ty) := [(3, (.int .i64))]
def vr_s_ClassesIn : Nat → Nat := fun _ => 0
abbrev sg_l_equalInts : Sig := ⟨[.leaf (.ro (.int .i64)), .leaf (.ro (.int .i64))], [.leaf .bool]⟩
def an_l_equalInts : Ann := .seq none .leaf (.seq none (.seq none .leaf (.cond (.seq none .leaf .leaf) .leaf)) (.seq none (.seq none .leaf (.block (.loop ⟨[0, 1, 5], [.leaf (.ro (.int .i64)), .leaf (.ro (.int .i64)), .leaf (.int .i64)]⟩ (.seq none (.seq none .leaf (.cond .leaf .leaf)) (.seq none (.block (.seq none .leaf (.cond (.seq none .leaf .leaf) .leaf))) .leaf))))) (.seq none .leaf .leaf)))
def ty_l_equalInts : List (Nat × Ty) := []
def vr_l_equalInts : Nat → Nat := fun _ => 0
abbrev sg_l_isIn : Sig := ⟨[.leaf (.ro (.int .i64)), .leaf (.int .i64)], [.leaf .bool]⟩
def an_l_isIn : Ann := .seq none .leaf (.seq none (.seq none .leaf (.block (.loop ⟨[0, 1, 5], [.leaf (.ro (.int .i64)), .leaf (.int .i64), .leaf (.int .i64)]⟩ (.seq none (.seq none .leaf (.cond .leaf .leaf)) (.seq none (.block (.seq none .leaf (.cond (.seq none .leaf .leaf) .leaf))) .leaf))))) (.seq none .leaf .leaf))
def ty_l_isIn : List (Nat × Ty) := []
def vr_l_isIn : Nat → Nat := fun _ => 0
abbrev sg_i_NewMachine : Sig := ⟨[.leaf (.int .i64)], [.agg [.own 59 (.pair (.int .i64) (.pair (.int .i64) (.os 3 (.int .i64)))), .nil, .own 3 (.int .i64), .bool]]⟩
def an_i_NewMachine : Ann := .seq none .leaf (.seq none (.seq (some ⟨[0, 2, 10], [.leaf (.int .i64), .box 44 [.nil, .nil, .nil, .bool] [], .leaf .bool]⟩) .leaf (.cond (.seq none .leaf .leaf) .leaf)) (.seq none .leaf (.seq none (.seq none .leaf (.block (.loop ⟨[0, 2, 3, 16, 17], [.leaf (.int .i64), .box 44 [.nil, .nil, .nil, .bool] [], .box 44 [.nil, .nil, .own 3 (.int .i64), .bool] [], .leaf (.int .i64), .leaf (.int .i64)]⟩ (.seq none .leaf (.seq none (.cond .leaf .leaf) (.seq (some ⟨[0, 2, 3, 16, 17], [.leaf (.int .i64), .box 44 [.nil, .nil, .nil, .bool] [], .box 44 [.nil, .nil, .own 3 (.int .i64), .bool] [], .leaf (.int .i64), .leaf (.int .i64)]⟩) (.block (.seq none .leaf (.seq none .leaf (.cond .leaf .leaf)))) .leaf)))))) (.seq (some ⟨[2, 3], [.box 44 [.nil, .nil, .nil, .bool] [], .box 44 [.own 59 (.pair (.int .i64) (.pair (.int .i64) (.os 3 (.int .i64)))), .nil, .own 3 (.int .i64), .bool] []]⟩) (.seq none .leaf (.cond .leaf .leaf)) (.seq none .leaf .leaf)))))
def ty_i_NewMachine : List (Nat × Ty) := [(3, (.int .i64)), (59, (.pair (.int .i64) (.pair (.int .i64) (.os 3 (.int .i64)))))]
def vr_i_NewMachine : Nat → Nat := fun _ => 0
abbrev sg_slices_Clone_int_int : Sig := ⟨[.leaf (.ro (.int .i64))], [.leaf (.own 3 (.int .i64))]⟩
def an_slices_Clone_int_int : Ann := anClone
def ty_slices_Clone_int_int : List (Nat × Ty) := [(3, (.int .i64))]
def vr_slices_Clone_int_int : Nat → Nat := fun _ => 0
abbrev sg_i_Machine_nodes : Sig := ⟨[.box 44 [.ownA 1 59 (.pair (.int .i64) (.pair (.int .i64) (.os 3 (.int .i64)))), .own 3 (.int .i64), .own 3 (.int .i64), .bool] [.ownA 1 59 (.pair (.int .i64) (.pair (.int .i64) (.os 3 (.int .i64)))), .own 3 (.int .i64), .own 3 (.int .i64), .bool]], [.leaf (.int .i64)]⟩
def an_i_Machine_nodes : Ann := .seq none .leaf (.seq none .leaf (.seq none (.block (.loop ⟨[0, 3], [.box 44 [.ownA 1 59 (.pair (.int .i64) (.pair (.int .i64) (.os 3 (.int .i64)))), .own 3 (.int .i64), .own 3 (.int .i64), .bool] [], .leaf (.int .i64)]⟩ (.seq none (.seq (some ⟨[0, 3, 27], [.box 44 [.ownA 1 59 (.pair (.int .i64) (.pair (.int .i64) (.os 3 (.int .i64)))), .own 3 (.int .i64), .own 3 (.int .i64), .bool] [], .leaf (.int .i64), .leaf .bool]⟩) .leaf (.cond .leaf .leaf)) (.block .leaf)))) (.seq none .leaf .leaf)))
def ty_i_Machine_nodes : List (Nat × Ty) := []
def vr_i_Machine_nodes : Nat → Nat := fun _ => 0
abbrev sg_i_Machine_push : Sig := ⟨[.box 44 [.ownA 1 59 (.pair (.int .i64) (.pair (.int .i64) (.os 3 (.int .i64)))), .own 3 (.int .i64), .own 3 (.int .i64), .bool] [.ownA 1 59 (.pair (.int .i64) (.pair (.int .i64) (.os 3 (.int .i64)))), .own 3 (.int .i64), .own 3 (.int .i64), .bool], .leaf (.int .i64)], [.leaf .bool]⟩
def an_i_Machine_push : Ann := .seq none .leaf (.seq none .leaf (.seq none .leaf .leaf))
def ty_i_Machine_push : List (Nat × Ty) := [(3, (.int .i64))]
def vr_i_Machine_push : Nat → Nat := fun _ => 0
abbrev sg_i_Machine_make : Sig := ⟨[.box 44 [.own 59 (.pair (.int .i64) (.pair (.int .i64) (.os 3 (.int .i64)))), .own 3 (.int .i64), .own 3 (.int .i64), .bool] [.own 59 (.pair (.int .i64) (.pair (.int .i64) (.os 3 (.int .i64)))), .own 3 (.int .i64), .own 3 (.int .i64), .bool], .leaf (.int .i64), .leaf (.int .i64), .leaf (.ro (.int .i64))], [.leaf .bool]⟩
def an_i_Machine_make : Ann := .seq none .leaf (.seq none .leaf (.seq none .leaf .leaf))
def ty_i_Machine_make : List (Nat × Ty) := [(59, (.pair (.int .i64) (.pair (.int .i64) (.os 3 (.int .i64)))))]
def vr_i_Machine_make : Nat → Nat := fun _ => 0
abbrev sg_i_Machine_take : Sig := ⟨[.box 44 [.ownA 1 59 (.pair (.int .i64) (.pair (.int .i64) (.os 3 (.int .i64)))), .own 3 (.int .i64), .own 3 (.int .i64), .bool] [.ownA 1 59 (.pair (.int .i64) (.pair (.int .i64) (.os 3 (.int .i64)))), .own 3 (.int .i64), .own 3 (.int .i64), .bool], .leaf (.int .i64)], [.leaf (.own 3 (.int .i64))]⟩
def an_i_Machine_take : Ann := .seq none .leaf (.seq none .leaf (.seq none .leaf (.seq none .leaf (.seq none .leaf .leaf))))
def ty_i_Machine_take : List (Nat × Ty) := []
def vr_i_Machine_take : Nat → Nat := fun _ => 0
abbrev sg_i_Machine_above : Sig := ⟨[.box 44 [.ownA 1 59 (.pair (.int .i64) (.pair (.int .i64) (.os 3 (.int .i64)))), .own 3 (.int .i64), .own 3 (.int .i64), .bool] [.ownA 1 59 (.pair (.int .i64) (.pair (.int .i64) (.os 3 (.int .i64)))), .own 3 (.int .i64), .own 3 (.int .i64), .bool]], [.leaf (.ro (.int .i64)), .leaf .bool]⟩
def an_i_Machine_above : Ann := .seq none .leaf (.seq none .leaf (.seq none (.seq none .leaf (.cond (.seq none .leaf .leaf) .leaf)) (.seq none .leaf .leaf)))
def ty_i_Machine_above : List (Nat × Ty) := []
def vr_i_Machine_above : Nat → Nat := fun _ => 0
abbrev sg_i_Machine_top : Sig := ⟨[.box 44 [.ownA 1 59 (.pair (.int .i64) (.pair (.int .i64) (.os 3 (.int .i64)))), .own 3 (.int .i64), .own 3 (.int .i64), .bool] [.ownA 1 59 (.pair (.int .i64) (.pair (.int .i64) (.os 3 (.int .i64)))), .own 3 (.int .i64), .own 3 (.int .i64), .bool], .leaf (.int .i64)], [.leaf (.elo 1 0), .leaf .bool]⟩
def an_i_Machine_top : Ann := .seq none .leaf (.seq none (.seq none .leaf (.cond (.seq none .leaf .leaf) .leaf)) (.seq none .leaf (.seq none .leaf .leaf)))
def ty_i_Machine_top : List (Nat × Ty) := []
def vr_i_Machine_top : Nat → Nat := fun _ => 0
abbrev sg_i_findKey : Sig := ⟨[.leaf (.ro (.pair (.int .i64) (.pair (.int .i64) (.sl (.int .i64))))), .leaf (.ro (.int .i64)), .agg [.int .i64, .int .i64, .any]], [.leaf (.int .i64)]⟩
def an_i_findKey : Ann := .seq none .leaf (.seq none (.seq none .leaf (.block (.loop ⟨[0, 1, 5, 7], [.leaf (.ro (.pair (.int .i64) (.pair (.int .i64) (.sl (.int .i64))))), .leaf (.ro (.int .i64)), .box 59 [.int .i64, .int .i64, .any] [], .leaf (.int .i64)]⟩ (.seq none (.seq none .leaf (.cond .leaf .leaf)) (.seq none (.block (.seq none .leaf (.seq (some ⟨[0, 1, 5, 7, 33], [.leaf (.ro (.pair (.int .i64) (.pair (.int .i64) (.sl (.int .i64))))), .leaf (.ro (.int .i64)), .box 59 [.int .i64, .int .i64, .any] [], .leaf (.int .i64), .leaf .bool]⟩) .leaf (.cond (.seq none .leaf .leaf) .leaf)))) .leaf))))) (.seq none .leaf .leaf))
def ty_i_findKey : List (Nat × Ty) := []
def vr_i_findKey : Nat → Nat := fun _ => 0
abbrev sg_i_Machine_set : Sig := ⟨[.box 44 [.ownA 1 59 (.pair (.int .i64) (.pair (.int .i64) (.os 3 (.int .i64)))), .own 3 (.int .i64), .own 3 (.int .i64), .bool] [.ownA 1 59 (.pair (.int .i64) (.pair (.int .i64) (.os 3 (.int .i64)))), .own 3 (.int .i64), .own 3 (.int .i64), .bool], .leaf (.ro (.int .i64))], [.leaf .bool]⟩
def an_i_Machine_set : Ann := .seq none .leaf (.seq none .leaf (.seq none (.seq (some ⟨[0, 1, 23, 5], [.box 44 [.ownA 1 59 (.pair (.int .i64) (.pair (.int .i64) (.os 3 (.int .i64)))), .own 3 (.int .i64), .own 3 (.int .i64), .bool] [], .leaf (.ro (.int .i64)), .leaf .bool, .leaf (.elo 1 0)]⟩) .leaf (.cond (.seq none .leaf .leaf) .leaf)) (.seq none (.seq none .leaf (.block (.loop ⟨[0, 1, 7, 5], [.box 44 [.ownA 1 59 (.pair (.int .i64) (.pair (.int .i64) (.os 3 (.int .i64)))), .own 3 (.int .i64), .own 3 (.int .i64), .bool] [], .leaf (.ro (.int .i64)), .leaf (.int .i64), .leaf (.elo 1 0)]⟩ (.seq none (.seq none .leaf (.cond .leaf .leaf)) (.seq none (.block (.seq none .leaf (.cond (.seq none .leaf .leaf) .leaf))) .leaf))))) (.seq none (.seq none .leaf (.block (.loop ⟨[0, 1, 8, 5], [.box 44 [.ownA 1 59 (.pair (.int .i64) (.pair (.int .i64) (.os 3 (.int .i64)))), .own 3 (.int .i64), .own 3 (.int .i64), .bool] [], .leaf (.ro (.int .i64)), .leaf (.int .i64), .leaf (.elo 1 0)]⟩ (.seq none (.seq none .leaf (.cond .leaf .leaf)) (.seq (some ⟨[0, 1, 8, 5], [.box 44 [.ownA 1 59 (.pair (.int .i64) (.pair (.int .i64) (.os 3 (.int .i64)))), .own 3 (.int .i64), .own 3 (.int .i64), .bool] [], .leaf (.ro (.int .i64)), .leaf (.int .i64), .leaf (.elo 1 0)]⟩) (.block (.seq none .leaf (.seq none .leaf (.seq none .leaf (.cond .leaf .leaf))))) .leaf))))) (.seq none .leaf .leaf)))))
def ty_i_Machine_set : List (Nat × Ty) := [(3, (.int .i64))]
def vr_i_Machine_set : Nat → Nat := fun _ => 0
abbrev sg_i_Machine_do : Sig := ⟨[.box 44 [.ownA 1 59 (.pair (.int .i64) (.pair (.int .i64) (.os 3 (.int .i64)))), .own 3 (.int .i64), .own 3 (.int .i64), .bool] [.ownk 1 59 (.pair (.int .i64) (.pair (.int .i64) (.os 3 (.int .i64)))), .own 3 (.int .i64), .own 3 (.int .i64), .bool], .agg [.int .i64, .int .i64]], [.leaf .bool]⟩
def an_i_Machine_do : Ann := .seq none .leaf (.seq none .leaf (.seq none (.seq none .leaf (.block (.seq none .leaf (.cond (.seq none .leaf .leaf) (.seq none .leaf (.cond (.seq none .leaf .leaf) (.seq none .leaf (.cond (.seq none .leaf .leaf) (.seq none .leaf (.cond (.seq none .leaf .leaf) (.seq none .leaf (.cond (.seq none .leaf .leaf) (.seq none .leaf (.cond (.seq none .leaf .leaf) (.seq none .leaf (.cond (.seq none .leaf .leaf) (.seq none .leaf (.cond (.seq none .leaf (.seq none .leaf .leaf)) (.seq none .leaf (.cond (.seq none .leaf .leaf) (.seq none .leaf (.cond (.seq none .leaf .leaf) (.seq none .leaf (.cond (.seq none (.seq none .leaf (.cond (.seq none .leaf .leaf) .leaf)) (.seq none .leaf (.seq none .leaf (.seq none (.seq none .leaf (.cond .leaf .leaf)) (.seq none .leaf .leaf))))) (.seq none .leaf (.cond (.seq none .leaf (.seq none (.seq none .leaf (.cond (.seq none .leaf .leaf) .leaf)) (.seq none .leaf (.seq none (.seq none .leaf (.cond .leaf .leaf)) (.seq none .leaf .leaf))))) (.seq none .leaf (.cond (.seq none .leaf .leaf) (.seq none .leaf (.cond (.seq none .leaf (.seq none .leaf .leaf)) (.seq none .leaf (.cond (.seq none (.seq none .leaf (.cond (.seq none .leaf .leaf) .leaf)) (.seq none .leaf (.seq none .leaf (.seq none (.seq (some ⟨[0, 17, 183, 18], [.box 44 [.ownA 1 59 (.pair (.int .i64) (.pair (.int .i64) (.os 3 (.int .i64)))), .own 3 (.int .i64), .own 3 (.int .i64), .bool] [], .leaf (.own 3 (.int .i64)), .leaf .bool, .leaf (.elo 1 0)]⟩) .leaf (.cond (.seq none .leaf .leaf) .leaf)) (.seq none .leaf (.seq none .leaf .leaf)))))) (.seq none .leaf (.cond (.seq none (.seq none .leaf (.cond (.seq none .leaf .leaf) .leaf)) (.seq none .leaf (.seq none .leaf .leaf))) (.seq none .leaf (.cond (.seq none .leaf .leaf) (.seq none .leaf (.cond (.seq none (.seq none .leaf (.cond (.seq none .leaf .leaf) .leaf)) (.seq none .leaf (.seq none .leaf .leaf))) (.seq none .leaf (.cond (.seq none .leaf (.seq none .leaf .leaf)) .leaf)))))))))))))))))))))))))))))))))))))))) (.seq (some ⟨[0], [.box 44 [.ownA 1 59 (.pair (.int .i64) (.pair (.int .i64) (.os 3 (.int .i64)))), .own 3 (.int .i64), .own 3 (.int .i64), .bool] []]⟩) .leaf (.seq none .leaf .leaf))))
def ty_i_Machine_do : List (Nat × Ty) := []
def vr_i_Machine_do : Nat → Nat := fun _ => 0
abbrev sg_i_Machine_step : Sig := ⟨[.box 44 [.own 59 (.pair (.int .i64) (.pair (.int .i64) (.os 3 (.int .i64)))), .own 3 (.int .i64), .own 3 (.int .i64), .bool] [.may 59 (.pair (.int .i64) (.pair (.int .i64) (.os 3 (.int .i64)))), .own 3 (.int .i64), .own 3 (.int .i64), .bool], .agg [.int .i64, .int .i64]], [.leaf .bool]⟩
def an_i_Machine_step : Ann := .seq none .leaf (.seq none .leaf (.seq none (.seq none .leaf (.cond (.seq none .leaf .leaf) .leaf)) (.seq none .leaf (.seq none .leaf .leaf))))
def ty_i_Machine_step : List (Nat × Ty) := []
def vr_i_Machine_step : Nat → Nat := fun _ => 0
abbrev sg_i_copyNodes : Sig := ⟨[.leaf (.ro (.pair (.int .i64) (.pair (.int .i64) (.sl (.int .i64)))))], [.leaf (.own 59 (.pair (.int .i64) (.pair (.int .i64) (.os 3 (.int .i64)))))]⟩
def an_i_copyNodes : Ann := .seq none .leaf (.seq none .leaf (.seq none (.seq none .leaf (.block (.loop ⟨[3, 7, 8, 9], [.leaf (.own 59 (.pair (.int .i64) (.pair (.int .i64) (.os 3 (.int .i64))))), .leaf (.ro (.pair (.int .i64) (.pair (.int .i64) (.sl (.int .i64))))), .leaf (.int .i64), .leaf (.int .i64)]⟩ (.seq none .leaf (.seq none (.cond .leaf .leaf) (.seq none (.block (.seq none .leaf .leaf)) .leaf)))))) (.seq none .leaf .leaf)))
def ty_i_copyNodes : List (Nat × Ty) := [(59, (.pair (.int .i64) (.pair (.int .i64) (.os 3 (.int .i64)))))]
def vr_i_copyNodes : Nat → Nat := fun _ => 0
abbrev sg_i_copyMachine : Sig := ⟨[.agg [.ro (.pair (.int .i64) (.pair (.int .i64) (.sl (.int .i64)))), .ro (.int .i64), .ro (.int .i64), .bool]], [.agg [.own 59 (.pair (.int .i64) (.pair (.int .i64) (.os 3 (.int .i64)))), .own 3 (.int .i64), .own 3 (.int .i64), .bool]]⟩
def an_i_copyMachine : Ann := .seq none .leaf (.seq none .leaf .leaf)
def ty_i_copyMachine : List (Nat × Ty) := []
def vr_i_copyMachine : Nat → Nat := fun _ => 0
abbrev sg_i_BuildGraph_1 : Sig := ⟨[.agg [.ro (.pair (.int .i64) (.pair (.int .i64) (.sl (.int .i64)))), .ro (.int .i64), .ro (.int .i64), .bool]], []⟩
def an_i_BuildGraph_1 : Ann := .leaf
def ty_i_BuildGraph_1 : List (Nat × Ty) := []
def vr_i_BuildGraph_1 : Nat → Nat := fun _ => 0
abbrev sg_i_running__i_BuildGraph_1 : Sig := ⟨[.leaf (.ro (.pair (.int .i64) (.int .i64))), .leaf .fn], [.agg [.own 59 (.pair (.int .i64) (.pair (.int .i64) (.os 3 (.int .i64)))), .own 3 (.int .i64), .own 3 (.int .i64), .bool], .leaf (.int .i64)]⟩
def an_i_running__i_BuildGraph_1 : Ann := .seq none .leaf (.seq none .leaf (.seq none (.seq none .leaf (.block (.loop ⟨[0, 1, 4, 6, 10, 11, 12], [.leaf (.ro (.pair (.int .i64) (.int .i64))), .leaf (.fnc 67), .box 44 [.nil, .nil, .nil, .bool] [], .box 44 [.own 59 (.pair (.int .i64) (.pair (.int .i64) (.os 3 (.int .i64)))), .own 3 (.int .i64), .own 3 (.int .i64), .bool] [], .leaf (.ro (.pair (.int .i64) (.int .i64))), .leaf (.int .i64), .leaf (.int .i64)]⟩ (.seq none .leaf (.seq none (.cond .leaf .leaf) (.seq none (.block (.seq none .leaf (.seq none (.seq none .leaf (.cond (.seq none .leaf .leaf) .leaf)) .leaf))) .leaf)))))) (.seq none .leaf .leaf)))
def ty_i_running__i_BuildGraph_1 : List (Nat × Ty) := []
def vr_i_running__i_BuildGraph_1 : Nat → Nat := fun _ => 0
abbrev sg_i_BuildGraph : Sig := ⟨[.leaf (.ro (.pair (.int .i64) (.int .i64)))], [.agg [.own 59 (.pair (.int .i64) (.pair (.int .i64) (.os 3 (.int .i64)))), .int .i64], .leaf .bool]⟩
def an_i_BuildGraph : Ann := .seq none .leaf (.seq none (.seq none .leaf (.cond (.seq none .leaf .leaf) .leaf)) (.seq none .leaf (.seq none (.seq (some ⟨[2, 4, 23], [.box 55 [.nil, .int .i64] [], .box 44 [.own 59 (.pair (.int .i64) (.pair (.int .i64) (.os 3 (.int .i64)))), .own 3 (.int .i64), .own 3 (.int .i64), .bool] [], .leaf .bool]⟩) .leaf (.cond (.seq none .leaf .leaf) .leaf)) (.seq none .leaf .leaf))))
def ty_i_BuildGraph : List (Nat × Ty) := []
def vr_i_BuildGraph : Nat → Nat := fun _ => 0
abbrev sg_l_ascends : Sig := ⟨[.leaf (.ro (.int .i64))], [.leaf .bool]⟩
def an_l_ascends : Ann := .seq none .leaf (.seq none (.seq none .leaf (.block (.loop ⟨[0, 3], [.leaf (.ro (.int .i64)), .leaf (.int .i64)]⟩ (.seq none (.seq none .leaf (.cond .leaf .leaf)) (.seq none (.block (.seq none .leaf (.cond (.seq none .leaf .leaf) .leaf))) .leaf))))) (.seq none .leaf .leaf))
def ty_l_ascends : List (Nat × Ty) := []
def vr_l_ascends : Nat → Nat := fun _ => 0
abbrev sg_l_countOf : Sig := ⟨[.leaf (.ro (.pair (.int .i64) (.int .i64))), .leaf (.int .i64)], [.leaf (.int .i64)]⟩
def an_l_countOf : Ann := .seq none .leaf (.seq none .leaf (.seq none (.seq none .leaf (.block (.loop ⟨[0, 1, 5, 6], [.leaf (.ro (.pair (.int .i64) (.int .i64))), .leaf (.int .i64), .leaf (.int .i64), .leaf (.int .i64)]⟩ (.seq none (.seq none .leaf (.cond .leaf .leaf)) (.seq (some ⟨[0, 1, 5, 6], [.leaf (.ro (.pair (.int .i64) (.int .i64))), .leaf (.int .i64), .leaf (.int .i64), .leaf (.int .i64)]⟩) (.block (.seq none .leaf (.cond .leaf .leaf))) .leaf))))) (.seq none .leaf .leaf)))
def ty_l_countOf : List (Nat × Ty) := []
def vr_l_countOf : Nat → Nat := fun _ => 0
abbrev sg_l_FnClassesIn : Sig := ⟨[.leaf (.ro (.int .u8))], [.leaf .bool]⟩
def an_l_FnClassesIn : Ann := .seq none .leaf (.seq none (.seq none .leaf (.cond (.seq none .leaf .leaf) .leaf)) (.seq none .leaf (.seq none .leaf (.seq none (.seq (some ⟨[3, 4, 25], [.leaf (.ro (.pair (.int .i64) (.int .i64))), .leaf (.ro (.int .i64)), .leaf .bool]⟩) .leaf (.cond (.seq none .leaf .leaf) .leaf)) (.seq none (.seq none .leaf (.block (.loop ⟨[3, 4, 5], [.leaf (.ro (.pair (.int .i64) (.int .i64))), .leaf (.ro (.int .i64)), .leaf (.int .i64)]⟩ (.seq none (.seq none .leaf (.cond .leaf .leaf)) (.seq none (.block (.seq (some ⟨[3, 4, 5, 51], [.leaf (.ro (.pair (.int .i64) (.int .i64))), .leaf (.ro (.int .i64)), .leaf (.int .i64), .leaf .bool]⟩) .leaf (.cond (.seq none .leaf .leaf) .leaf))) .leaf))))) (.seq none .leaf (.seq none (.seq none .leaf (.block (.loop ⟨[3, 4, 6, 7, 8], [.leaf (.ro (.pair (.int .i64) (.int .i64))), .leaf (.ro (.int .i64)), .box 55 [.own 59 (.pair (.int .i64) (.pair (.int .i64) (.os 3 (.int .i64)))), .int .i64] [], .leaf .bool, .leaf (.int .i64)]⟩ (.seq none (.seq (some ⟨[3, 4, 6, 7, 8, 64], [.leaf (.ro (.pair (.int .i64) (.int .i64))), .leaf (.ro (.int .i64)), .box 55 [.own 59 (.pair (.int .i64) (.pair (.int .i64) (.os 3 (.int .i64)))), .int .i64] [], .leaf .bool, .leaf (.int .i64), .leaf .bool]⟩) .leaf (.cond .leaf .leaf)) (.seq none (.block (.seq (some ⟨[3, 4, 6, 7, 8, 84], [.leaf (.ro (.pair (.int .i64) (.int .i64))), .leaf (.ro (.int .i64)), .box 55 [.own 59 (.pair (.int .i64) (.pair (.int .i64) (.os 3 (.int .i64)))), .int .i64] [], .leaf .bool, .leaf (.int .i64), .leaf .bool]⟩) .leaf (.cond (.seq none .leaf .leaf) .leaf))) .leaf))))) (.seq none .leaf .leaf))))))))
def ty_l_FnClassesIn : List (Nat × Ty) := []
def vr_l_FnClassesIn : Nat → Nat := fun _ => 0
noncomputable def sigs : List (Nat × Sig) := [(6, sg_l_FnClassesIn), (24, sg_s_DrawClassesIn), (25, sg_i_ClassesIn), (26, sg_l_equalInts), (27, sg_s_ClassesIn), (28, sg_i_ValidOps), (29, sg_l_isIn), (30, sg_i_BuildGraph), (31, sg_l_ascends), (32, sg_l_countOf), (42, sg_s_newReader), (43, sg_s_someOps), (45, sg_i_NewMachine), (46, sg_i_Machine_step), (48, sg_s_validOps), (53, sg_s_runShapes), (56, sg_i_running__i_BuildGraph_1), (63, sg_slices_Sort_int_int), (64, sg_slices_Clip_int_int), (65, sg_slices_Compact_int_int), (66, sg_i_opOk), (67, sg_i_BuildGraph_1), (68, sg_s_reader_one), (69, sg_s_inRange), (70, sg_s_newShapes), (71, sg_s_shapeAt), (72, sg_s_stepShapes), (73, sg_s_copyShapes), (76, sg_s_reader_pick), (77, sg_s_likelyOps), (78, sg_s_written), (79, sg_s_someGraph), (80, sg_s_someOp), (82, sg_slices_Clone_int_int), (83, sg_i_Machine_do), (85, sg_s_validOp), (86, sg_s_placeIn), (89, sg_i_copyMachine), (90, sg_slices_pdqsortOrdered_int), (91, sg_bits_Len), (92, sg_i_mostArg), (93, sg_s_newKind), (94, sg_s_pushShape), (95, sg_s_markShapes), (96, sg_s_takeShapes), (97, sg_s_copyInts), (98, sg_s_EndOps), (99, sg_s_CutOps), (100, sg_s_save), (101, sg_s_emptyMemo), (102, sg_s_emit), (103, sg_s_someNode), (104, sg_s_addKids), (105, sg_i_Machine_nodes), (106, sg_i_Machine_make), (107, sg_i_Machine_push), (108, sg_i_Machine_above), (109, sg_i_Machine_take), (110, sg_i_Machine_top), (111, sg_i_Machine_set), (112, sg_s_argOf), (113, sg_i_copyNodes), (114, sg_slices_insertionSortOrdered_int), (115, sg_slices_heapSortOrdered_int), (116, sg_slices_breakPatternsOrdered_int), (117, sg_slices_choosePivotOrdered_int), (118, sg_slices_reverseRangeOrdered_int), (119, sg_slices_partialInsertionSortOrdered_int), (120, sg_cmp_Less_int), (121, sg_slices_partitionEqualOrdered_int), (122, sg_slices_partitionOrdered_int), (124, sg_bits_Len64), (125, sg_s_keyKind), (126, sg_s_memoed), (127, sg_s_saveTuple), (128, sg_s_fill), (129, sg_s_saveAll), (130, sg_s_isKey), (131, sg_s_validGraph), (132, sg_i_findKey), (133, sg_slices_siftDownOrdered_int), (134, sg_slices_nextPowerOfTwo), (135, sg_slices_xorshift_Next), (136, sg_slices_medianAdjacentOrdered_int), (137, sg_slices_medianOrdered_int), (138, sg_cmp_isNaN_int), (139, sg_s_validNode), (140, sg_s_tupleReach), (141, sg_slices_order2Ordered_int), (142, sg_s_allIn), (143, sg_s_validDict), (144, sg_s_sameKey)]
noncomputable def fns : List (Nat × FnI) := [(6, ⟨Try.f6, an_l_FnClassesIn, lk ty_l_FnClassesIn, vr_l_FnClassesIn⟩), (24, ⟨Try.f24, an_s_DrawClassesIn, lk ty_s_DrawClassesIn, vr_s_DrawClassesIn⟩), (25, ⟨Try.f25, an_i_ClassesIn, lk ty_i_ClassesIn, vr_i_ClassesIn⟩), (26, ⟨Try.f26, an_l_equalInts, lk ty_l_equalInts, vr_l_equalInts⟩), (27, ⟨Try.f27, an_s_ClassesIn, lk ty_s_ClassesIn, vr_s_ClassesIn⟩), (28, ⟨Try.f28, an_i_ValidOps, lk ty_i_ValidOps, vr_i_ValidOps⟩), (29, ⟨Try.f29, an_l_isIn, lk ty_l_isIn, vr_l_isIn⟩), (30, ⟨Try.f30, an_i_BuildGraph, lk ty_i_BuildGraph, vr_i_BuildGraph⟩), (31, ⟨Try.f31, an_l_ascends, lk ty_l_ascends, vr_l_ascends⟩), (32, ⟨Try.f32, an_l_countOf, lk ty_l_countOf, vr_l_countOf⟩), (42, ⟨Try.f42, an_s_newReader, lk ty_s_newReader, vr_s_newReader⟩), (43, ⟨Try.f43, an_s_someOps, lk ty_s_someOps, vr_s_someOps⟩), (45, ⟨Try.f45, an_i_NewMachine, lk ty_i_NewMachine, vr_i_NewMachine⟩), (46, ⟨Try.f46, an_i_Machine_step, lk ty_i_Machine_step, vr_i_Machine_step⟩), (48, ⟨Try.f48, an_s_validOps, lk ty_s_validOps, vr_s_validOps⟩), (53, ⟨Try.f53, an_s_runShapes, lk ty_s_runShapes, vr_s_runShapes⟩), (56, ⟨Try.f56, an_i_running__i_BuildGraph_1, lk ty_i_running__i_BuildGraph_1, vr_i_running__i_BuildGraph_1⟩), (63, ⟨Try.f63, an_slices_Sort_int_int, lk ty_slices_Sort_int_int, vr_slices_Sort_int_int⟩), (64, ⟨Try.f64, an_slices_Clip_int_int, lk ty_slices_Clip_int_int, vr_slices_Clip_int_int⟩), (65, ⟨Try.f65, an_slices_Compact_int_int, lk ty_slices_Compact_int_int, vr_slices_Compact_int_int⟩), (66, ⟨Try.f66, an_i_opOk, lk ty_i_opOk, vr_i_opOk⟩), (67, ⟨Try.f67, an_i_BuildGraph_1, lk ty_i_BuildGraph_1, vr_i_BuildGraph_1⟩), (68, ⟨Try.f68, an_s_reader_one, lk ty_s_reader_one, vr_s_reader_one⟩), (69, ⟨Try.f69, an_s_inRange, lk ty_s_inRange, vr_s_inRange⟩), (70, ⟨Try.f70, an_s_newShapes, lk ty_s_newShapes, vr_s_newShapes⟩), (71, ⟨Try.f71, an_s_shapeAt, lk ty_s_shapeAt, vr_s_shapeAt⟩), (72, ⟨Try.f72, an_s_stepShapes, lk ty_s_stepShapes, vr_s_stepShapes⟩), (73, ⟨Try.f73, an_s_copyShapes, lk ty_s_copyShapes, vr_s_copyShapes⟩), (76, ⟨Try.f76, an_s_reader_pick, lk ty_s_reader_pick, vr_s_reader_pick⟩), (77, ⟨Try.f77, an_s_likelyOps, lk ty_s_likelyOps, vr_s_likelyOps⟩), (78, ⟨Try.f78, an_s_written, lk ty_s_written, vr_s_written⟩), (79, ⟨Try.f79, an_s_someGraph, lk ty_s_someGraph, vr_s_someGraph⟩), (80, ⟨Try.f80, an_s_someOp, lk ty_s_someOp, vr_s_someOp⟩), (82, ⟨Try.f82, an_slices_Clone_int_int, lk ty_slices_Clone_int_int, vr_slices_Clone_int_int⟩), (83, ⟨Try.f83, an_i_Machine_do, lk ty_i_Machine_do, vr_i_Machine_do⟩), (85, ⟨Try.f85, an_s_validOp, lk ty_s_validOp, vr_s_validOp⟩), (86, ⟨Try.f86, an_s_placeIn, lk ty_s_placeIn, vr_s_placeIn⟩), (89, ⟨Try.f89, an_i_copyMachine, lk ty_i_copyMachine, vr_i_copyMachine⟩), (90, ⟨Try.f90, an_slices_pdqsortOrdered_int, lk ty_slices_pdqsortOrdered_int, vr_slices_pdqsortOrdered_int⟩), (91, ⟨Try.f91, an_bits_Len, lk ty_bits_Len, vr_bits_Len⟩), (92, ⟨Try.f92, an_i_mostArg, lk ty_i_mostArg, vr_i_mostArg⟩), (93, ⟨Try.f93, an_s_newKind, lk ty_s_newKind, vr_s_newKind⟩), (94, ⟨Try.f94, an_s_pushShape, lk ty_s_pushShape, vr_s_pushShape⟩), (95, ⟨Try.f95, an_s_markShapes, lk ty_s_markShapes, vr_s_markShapes⟩), (96, ⟨Try.f96, an_s_takeShapes, lk ty_s_takeShapes, vr_s_takeShapes⟩), (97, ⟨Try.f97, an_s_copyInts, lk ty_s_copyInts, vr_s_copyInts⟩), (98, ⟨Try.f98, an_s_EndOps, lk ty_s_EndOps, vr_s_EndOps⟩), (99, ⟨Try.f99, an_s_CutOps, lk ty_s_CutOps, vr_s_CutOps⟩), (100, ⟨Try.f100, an_s_save, lk ty_s_save, vr_s_save⟩), (101, ⟨Try.f101, an_s_emptyMemo, lk ty_s_emptyMemo, vr_s_emptyMemo⟩), (102, ⟨Try.f102, an_s_emit, lk ty_s_emit, vr_s_emit⟩), (103, ⟨Try.f103, an_s_someNode, lk ty_s_someNode, vr_s_someNode⟩), (104, ⟨Try.f104, an_s_addKids, lk ty_s_addKids, vr_s_addKids⟩), (105, ⟨Try.f105, an_i_Machine_nodes, lk ty_i_Machine_nodes, vr_i_Machine_nodes⟩), (106, ⟨Try.f106, an_i_Machine_make, lk ty_i_Machine_make, vr_i_Machine_make⟩), (107, ⟨Try.f107, an_i_Machine_push, lk ty_i_Machine_push, vr_i_Machine_push⟩), (108, ⟨Try.f108, an_i_Machine_above, lk ty_i_Machine_above, vr_i_Machine_above⟩), (109, ⟨Try.f109, an_i_Machine_take, lk ty_i_Machine_take, vr_i_Machine_take⟩), (110, ⟨Try.f110, an_i_Machine_top, lk ty_i_Machine_top, vr_i_Machine_top⟩), (111, ⟨Try.f111, an_i_Machine_set, lk ty_i_Machine_set, vr_i_Machine_set⟩), (112, ⟨Try.f112, an_s_argOf, lk ty_s_argOf, vr_s_argOf⟩), (113, ⟨Try.f113, an_i_copyNodes, lk ty_i_copyNodes, vr_i_copyNodes⟩), (114, ⟨Try.f114, an_slices_insertionSortOrdered_int, lk ty_slices_insertionSortOrdered_int, vr_slices_insertionSortOrdered_int⟩), (115, ⟨Try.f115, an_slices_heapSortOrdered_int, lk ty_slices_heapSortOrdered_int, vr_slices_heapSortOrdered_int⟩), (116, ⟨Try.f116, an_slices_breakPatternsOrdered_int, lk ty_slices_breakPatternsOrdered_int, vr_slices_breakPatternsOrdered_int⟩), (117, ⟨Try.f117, an_slices_choosePivotOrdered_int, lk ty_slices_choosePivotOrdered_int, vr_slices_choosePivotOrdered_int⟩), (118, ⟨Try.f118, an_slices_reverseRangeOrdered_int, lk ty_slices_reverseRangeOrdered_int, vr_slices_reverseRangeOrdered_int⟩), (119, ⟨Try.f119, an_slices_partialInsertionSortOrdered_int, lk ty_slices_partialInsertionSortOrdered_int, vr_slices_partialInsertionSortOrdered_int⟩), (120, ⟨Try.f120, an_cmp_Less_int, lk ty_cmp_Less_int, vr_cmp_Less_int⟩), (121, ⟨Try.f121, an_slices_partitionEqualOrdered_int, lk ty_slices_partitionEqualOrdered_int, vr_slices_partitionEqualOrdered_int⟩), (122, ⟨Try.f122, an_slices_partitionOrdered_int, lk ty_slices_partitionOrdered_int, vr_slices_partitionOrdered_int⟩), (124, ⟨Try.f124, an_bits_Len64, lk ty_bits_Len64, vr_bits_Len64⟩), (125, ⟨Try.f125, an_s_keyKind, lk ty_s_keyKind, vr_s_keyKind⟩), (126, ⟨Try.f126, an_s_memoed, lk ty_s_memoed, vr_s_memoed⟩), (127, ⟨Try.f127, an_s_saveTuple, lk ty_s_saveTuple, vr_s_saveTuple⟩), (128, ⟨Try.f128, an_s_fill, lk ty_s_fill, vr_s_fill⟩), (129, ⟨Try.f129, an_s_saveAll, lk ty_s_saveAll, vr_s_saveAll⟩), (130, ⟨Try.f130, an_s_isKey, lk ty_s_isKey, vr_s_isKey⟩), (131, ⟨Try.f131, an_s_validGraph, lk ty_s_validGraph, vr_s_validGraph⟩), (132, ⟨Try.f132, an_i_findKey, lk ty_i_findKey, vr_i_findKey⟩), (133, ⟨Try.f133, an_slices_siftDownOrdered_int, lk ty_slices_siftDownOrdered_int, vr_slices_siftDownOrdered_int⟩), (134, ⟨Try.f134, an_slices_nextPowerOfTwo, lk ty_slices_nextPowerOfTwo, vr_slices_nextPowerOfTwo⟩), (135, ⟨Try.f135, an_slices_xorshift_Next, lk ty_slices_xorshift_Next, vr_slices_xorshift_Next⟩), (136, ⟨Try.f136, an_slices_medianAdjacentOrdered_int, lk ty_slices_medianAdjacentOrdered_int, vr_slices_medianAdjacentOrdered_int⟩), (137, ⟨Try.f137, an_slices_medianOrdered_int, lk ty_slices_medianOrdered_int, vr_slices_medianOrdered_int⟩), (138, ⟨Try.f138, an_cmp_isNaN_int, lk ty_cmp_isNaN_int, vr_cmp_isNaN_int⟩), (139, ⟨Try.f139, an_s_validNode, lk ty_s_validNode, vr_s_validNode⟩), (140, ⟨Try.f140, an_s_tupleReach, lk ty_s_tupleReach, vr_s_tupleReach⟩), (141, ⟨Try.f141, an_slices_order2Ordered_int, lk ty_slices_order2Ordered_int, vr_slices_order2Ordered_int⟩), (142, ⟨Try.f142, an_s_allIn, lk ty_s_allIn, vr_s_allIn⟩), (143, ⟨Try.f143, an_s_validDict, lk ty_s_validDict, vr_s_validDict⟩), (144, ⟨Try.f144, an_s_sameKey, lk ty_s_sameKey, vr_s_sameKey⟩)]
def eqts : List Nat := []
def clones : List Nat := [82]
noncomputable def T : Tab := ⟨lk tts, hasN eqts, lk sigs, lk fns, fun _ f s => bif hasN clones f then cloneX s else none⟩
end Go.Gx

/-
  What each function comes to (printed by gen.py).
-/
set_option linter.unusedVariables false
namespace Go.Gx
open Go.Proofs
noncomputable abbrev t_s_newReader (k : Nat) : C_s_newReader := (fun a0 => T.call k 42 sg_s_newReader (a0, ()))
noncomputable abbrev t_s_reader_pick (k : Nat) : C_s_reader_pick := (fun a0 a1 a2 => T.call k 76 sg_s_reader_pick ((a0, a1, ()), a2, ()))
noncomputable abbrev t_s_newShapes (k : Nat) : C_s_newShapes := (T.call k 70 sg_s_newShapes ())
noncomputable abbrev t_s_reader_one (k : Nat) : C_s_reader_one := (fun a0 a1 a2 => T.call k 68 sg_s_reader_one ((a0, a1, ()), a2, ()))
noncomputable abbrev t_s_someOp (k : Nat) : C_s_someOp := (fun a0 a1 => T.call k 80 sg_s_someOp ((a0, a1, ()), ()))
noncomputable abbrev t_s_copyInts (k : Nat) : C_s_copyInts := (fun a0 => T.call k 97 sg_s_copyInts (a0, ()))
noncomputable abbrev t_s_copyShapes (k : Nat) : C_s_copyShapes := (fun a0 a1 a2 a3 a4 => T.call k 73 sg_s_copyShapes ((a0, a1, a2, a3, a4, ()), ()))
noncomputable abbrev t_s_newKind (k : Nat) : C_s_newKind := (fun a0 => T.call k 93 sg_s_newKind (a0, ()))
noncomputable abbrev t_s_pushShape (k : Nat) : C_s_pushShape := (fun a0 a1 a2 a3 a4 a5 => T.call k 94 sg_s_pushShape ((a0, a1, a2, a3, a4, ()), a5, ()))
noncomputable abbrev t_s_shapeAt (k : Nat) : C_s_shapeAt := (fun a0 a1 a2 a3 a4 a5 => T.call k 71 sg_s_shapeAt ((a0, a1, a2, a3, a4, ()), a5, ()))
noncomputable abbrev t_s_keyKind (k : Nat) : C_s_keyKind := (fun a0 => T.call k 125 sg_s_keyKind (a0, ()))
noncomputable abbrev t_s_markShapes (k : Nat) : C_s_markShapes := (fun a0 a1 a2 a3 a4 a5 => T.call k 95 sg_s_markShapes ((a0, a1, a2, a3, a4, ()), a5, ()))
noncomputable abbrev t_s_takeShapes (k : Nat) : C_s_takeShapes := (fun a0 a1 a2 a3 a4 a5 a6 => T.call k 96 sg_s_takeShapes ((a0, a1, a2, a3, a4, ()), (a5, a6, ()), ()))
noncomputable abbrev t_s_stepShapes (k : Nat) : C_s_stepShapes := (fun a0 a1 a2 a3 a4 a5 a6 => T.call k 72 sg_s_stepShapes ((a0, a1, a2, a3, a4, ()), (a5, a6, ()), ()))
noncomputable abbrev t_s_argOf (k : Nat) : C_s_argOf := (fun a0 => T.call k 112 sg_s_argOf (a0, ()))
noncomputable abbrev t_s_inRange (k : Nat) : C_s_inRange := (fun a0 a1 a2 => T.call k 69 sg_s_inRange (a0, a1, a2, ()))
noncomputable abbrev t_s_validOp (k : Nat) : C_s_validOp := (fun a0 a1 => T.call k 85 sg_s_validOp ((a0, a1, ()), ()))
noncomputable abbrev t_s_validOps (k : Nat) : C_s_validOps := (fun a0 => T.call k 48 sg_s_validOps (a0, ()))
noncomputable abbrev t_s_runShapes (k : Nat) : C_s_runShapes := (fun a0 => T.call k 53 sg_s_runShapes (a0, ()))
noncomputable abbrev t_s_EndOps (k : Nat) : C_s_EndOps := (fun a0 => T.call k 98 sg_s_EndOps (a0, ()))
noncomputable abbrev t_s_CutOps (k : Nat) : C_s_CutOps := (fun a0 => T.call k 99 sg_s_CutOps (a0, ()))
noncomputable abbrev t_s_likelyOps (k : Nat) : C_s_likelyOps := (fun a0 a1 => T.call k 77 sg_s_likelyOps ((a0, a1, ()), ()))
noncomputable abbrev t_s_someNode (k : Nat) : C_s_someNode := (fun a0 a1 => T.call k 103 sg_s_someNode ((a0, a1, ()), ()))
noncomputable abbrev t_s_isKey (k : Nat) : C_s_isKey := (fun a0 a1 => T.call k 130 sg_s_isKey ((a0, a1, (), ()), ()))
noncomputable abbrev t_s_allIn (k : Nat) : C_s_allIn := (fun a0 a1 a2 => T.call k 142 sg_s_allIn (a0, a1, a2, ()))
noncomputable abbrev t_s_sameKey (k : Nat) : C_s_sameKey := (fun a0 a1 a2 a3 => T.call k 144 sg_s_sameKey ((a0, a1, (), ()), (a2, a3, (), ()), ()))
noncomputable abbrev t_s_validDict (k : Nat) : C_s_validDict := (fun a0 a1 a2 a3 a4 => T.call k 143 sg_s_validDict ((a0, a1, ()), (a2, a3, a4, ()), ()))
noncomputable abbrev t_s_validNode (k : Nat) : C_s_validNode := (fun a0 a1 a2 a3 a4 => T.call k 139 sg_s_validNode ((a0, a1, ()), (a2, a3, a4, ()), ()))
noncomputable abbrev t_s_placeIn (k : Nat) : C_s_placeIn := (fun a0 a1 => T.call k 86 sg_s_placeIn (a0, a1, ()))
noncomputable abbrev t_s_tupleReach (k : Nat) : C_s_tupleReach := (fun a0 a1 a2 => T.call k 140 sg_s_tupleReach ((a0, a1, ()), a2, ()))
noncomputable abbrev t_s_validGraph (k : Nat) : C_s_validGraph := (fun a0 a1 => T.call k 131 sg_s_validGraph ((a0, a1, ()), ()))
noncomputable abbrev t_s_addKids (k : Nat) : C_s_addKids := (fun a0 a1 a2 a3 a4 => T.call k 104 sg_s_addKids ((a0, a1, ()), (a2, a3, ()), a4, ()))
noncomputable abbrev t_s_someGraph (k : Nat) : C_s_someGraph := (fun a0 a1 => T.call k 79 sg_s_someGraph ((a0, a1, ()), ()))
noncomputable abbrev t_s_emptyMemo (k : Nat) : C_s_emptyMemo := (fun a0 a1 => T.call k 101 sg_s_emptyMemo ((a0, a1, ()), ()))
noncomputable abbrev t_s_emit (k : Nat) : C_s_emit := (fun a0 a1 => T.call k 102 sg_s_emit (a0, a1, ()))
noncomputable abbrev t_s_memoed (k : Nat) : C_s_memoed := (fun a0 a1 a2 => T.call k 126 sg_s_memoed (a0, a1, a2, ()))
noncomputable abbrev t_s_saveAll (k : Nat) : C_s_saveAll := (fun a0 a1 a2 a3 a4 a5 => T.call k 129 sg_s_saveAll ((a0, a1, ()), a2, a3, a4, a5, ()))
noncomputable abbrev t_s_saveTuple (k : Nat) : C_s_saveTuple := (fun a0 a1 a2 a3 a4 a5 => T.call k 127 sg_s_saveTuple ((a0, a1, ()), a2, a3, a4, a5, ()))
noncomputable abbrev t_s_fill (k : Nat) : C_s_fill := (fun a0 a1 a2 a3 a4 a5 a6 a7 a8 => T.call k 128 sg_s_fill ((a0, a1, ()), a2, a3, a4, a5, a6, a7, a8, ()))
noncomputable abbrev t_s_save (k : Nat) : C_s_save := (fun a0 a1 a2 a3 a4 a5 => T.call k 100 sg_s_save ((a0, a1, ()), a2, a3, a4, a5, ()))
noncomputable abbrev t_s_written (k : Nat) : C_s_written := (fun a0 a1 a2 => T.call k 78 sg_s_written ((a0, a1, ()), a2, ()))
noncomputable abbrev t_s_someOps (k : Nat) : C_s_someOps := (fun a0 a1 => T.call k 43 sg_s_someOps ((a0, a1, ()), ()))
noncomputable abbrev t_s_DrawClassesIn (k : Nat) : C_s_DrawClassesIn := (fun a0 => T.call k 24 sg_s_DrawClassesIn (a0, ()))
noncomputable abbrev t_i_mostArg (k : Nat) : C_i_mostArg := (fun a0 => T.call k 92 sg_i_mostArg (a0, ()))
noncomputable abbrev t_i_opOk (k : Nat) : C_i_opOk := (fun a0 a1 => T.call k 66 sg_i_opOk ((a0, a1, ()), ()))
noncomputable abbrev t_i_ValidOps (k : Nat) : C_i_ValidOps := (fun a0 => T.call k 28 sg_i_ValidOps (a0, ()))
noncomputable abbrev t_bits_Len64 (k : Nat) : C_bits_Len64 := (fun a0 => T.call k 124 sg_bits_Len64 (a0, ()))
noncomputable abbrev t_bits_Len (k : Nat) : C_bits_Len := (fun a0 => T.call k 91 sg_bits_Len (a0, ()))
noncomputable abbrev t_cmp_isNaN_int (k : Nat) : C_cmp_isNaN_int := (fun a0 => T.call k 138 sg_cmp_isNaN_int (a0, ()))
noncomputable abbrev t_cmp_Less_int (k : Nat) : C_cmp_Less_int := (fun a0 a1 => T.call k 120 sg_cmp_Less_int (a0, a1, ()))
noncomputable abbrev t_slices_insertionSortOrdered_int (k : Nat) : C_slices_insertionSortOrdered_int := (fun a0 a1 a2 => T.call k 114 sg_slices_insertionSortOrdered_int (a0, a1, a2, ()))
noncomputable abbrev t_slices_siftDownOrdered_int (k : Nat) : C_slices_siftDownOrdered_int := (fun a0 a1 a2 a3 => T.call k 133 sg_slices_siftDownOrdered_int (a0, a1, a2, a3, ()))
noncomputable abbrev t_slices_heapSortOrdered_int (k : Nat) : C_slices_heapSortOrdered_int := (fun a0 a1 a2 => T.call k 115 sg_slices_heapSortOrdered_int (a0, a1, a2, ()))
noncomputable abbrev t_slices_nextPowerOfTwo (k : Nat) : C_slices_nextPowerOfTwo := (fun a0 => T.call k 134 sg_slices_nextPowerOfTwo (a0, ()))
noncomputable abbrev t_slices_xorshift_Next (k : Nat) : C_slices_xorshift_Next := (fun a0 => T.call k 135 sg_slices_xorshift_Next ((a0, ()), ()))
noncomputable abbrev t_slices_breakPatternsOrdered_int (k : Nat) : C_slices_breakPatternsOrdered_int := (fun a0 a1 a2 => T.call k 116 sg_slices_breakPatternsOrdered_int (a0, a1, a2, ()))
noncomputable abbrev t_slices_order2Ordered_int (k : Nat) : C_slices_order2Ordered_int := (fun a0 a1 a2 a3 => T.call k 141 sg_slices_order2Ordered_int (a0, a1, a2, (a3, ()), ()))
noncomputable abbrev t_slices_medianOrdered_int (k : Nat) : C_slices_medianOrdered_int := (fun a0 a1 a2 a3 a4 => T.call k 137 sg_slices_medianOrdered_int (a0, a1, a2, a3, (a4, ()), ()))
noncomputable abbrev t_slices_medianAdjacentOrdered_int (k : Nat) : C_slices_medianAdjacentOrdered_int := (fun a0 a1 a2 => T.call k 136 sg_slices_medianAdjacentOrdered_int (a0, a1, (a2, ()), ()))
noncomputable abbrev t_slices_choosePivotOrdered_int (k : Nat) : C_slices_choosePivotOrdered_int := (fun a0 a1 a2 => T.call k 117 sg_slices_choosePivotOrdered_int (a0, a1, a2, ()))
noncomputable abbrev t_slices_reverseRangeOrdered_int (k : Nat) : C_slices_reverseRangeOrdered_int := (fun a0 a1 a2 => T.call k 118 sg_slices_reverseRangeOrdered_int (a0, a1, a2, ()))
noncomputable abbrev t_slices_partialInsertionSortOrdered_int (k : Nat) : C_slices_partialInsertionSortOrdered_int := (fun a0 a1 a2 => T.call k 119 sg_slices_partialInsertionSortOrdered_int (a0, a1, a2, ()))
noncomputable abbrev t_slices_partitionEqualOrdered_int (k : Nat) : C_slices_partitionEqualOrdered_int := (fun a0 a1 a2 a3 => T.call k 121 sg_slices_partitionEqualOrdered_int (a0, a1, a2, a3, ()))
noncomputable abbrev t_slices_partitionOrdered_int (k : Nat) : C_slices_partitionOrdered_int := (fun a0 a1 a2 a3 => T.call k 122 sg_slices_partitionOrdered_int (a0, a1, a2, a3, ()))
noncomputable abbrev t_slices_pdqsortOrdered_int (k : Nat) : C_slices_pdqsortOrdered_int := (fun a0 a1 a2 a3 => T.call k 90 sg_slices_pdqsortOrdered_int (a0, a1, a2, a3, ()))
noncomputable abbrev t_slices_Sort_int_int (k : Nat) : C_slices_Sort_int_int := (fun a0 => T.call k 63 sg_slices_Sort_int_int (a0, ()))
noncomputable abbrev t_slices_Compact_int_int (k : Nat) : C_slices_Compact_int_int := (fun a0 => T.call k 65 sg_slices_Compact_int_int (a0, ()))
noncomputable abbrev t_slices_Clip_int_int (k : Nat) : C_slices_Clip_int_int := (fun a0 => T.call k 64 sg_slices_Clip_int_int (a0, ()))
noncomputable abbrev t_i_ClassesIn (k : Nat) : C_i_ClassesIn := (fun a0 => T.call k 25 sg_i_ClassesIn (a0, ()))
noncomputable abbrev t_s_ClassesIn (k : Nat) : C_s_ClassesIn := (fun a0 => T.call k 27 sg_s_ClassesIn (a0, ()))
noncomputable abbrev t_l_equalInts (k : Nat) : C_l_equalInts := (fun a0 a1 => T.call k 26 sg_l_equalInts (a0, a1, ()))
noncomputable abbrev t_l_isIn (k : Nat) : C_l_isIn := (fun a0 a1 => T.call k 29 sg_l_isIn (a0, a1, ()))
noncomputable abbrev t_i_NewMachine (k : Nat) : C_i_NewMachine := (fun a0 => T.call k 45 sg_i_NewMachine (a0, ()))
noncomputable abbrev t_slices_Clone_int_int (k : Nat) : C_slices_Clone_int_int := (fun a0 => T.call k 82 sg_slices_Clone_int_int (a0, ()))
noncomputable abbrev t_i_Machine_nodes (k : Nat) : C_i_Machine_nodes := (fun a0 a1 a2 a3 => T.call k 105 sg_i_Machine_nodes ((a0, a1, a2, a3, ()), ()))
noncomputable abbrev t_i_Machine_push (k : Nat) : C_i_Machine_push := (fun a0 a1 a2 a3 a4 => T.call k 107 sg_i_Machine_push ((a0, a1, a2, a3, ()), a4, ()))
noncomputable abbrev t_i_Machine_make (k : Nat) : C_i_Machine_make := (fun a0 a1 a2 a3 a4 a5 a6 => T.call k 106 sg_i_Machine_make ((a0, a1, a2, a3, ()), a4, a5, a6, ()))
noncomputable abbrev t_i_Machine_take (k : Nat) : C_i_Machine_take := (fun a0 a1 a2 a3 a4 => T.call k 109 sg_i_Machine_take ((a0, a1, a2, a3, ()), a4, ()))
noncomputable abbrev t_i_Machine_above (k : Nat) : C_i_Machine_above := (fun a0 a1 a2 a3 => T.call k 108 sg_i_Machine_above ((a0, a1, a2, a3, ()), ()))
noncomputable abbrev t_i_Machine_top (k : Nat) : C_i_Machine_top := (fun a0 a1 a2 a3 a4 => T.call k 110 sg_i_Machine_top ((a0, a1, a2, a3, ()), a4, ()))
noncomputable abbrev t_i_findKey (k : Nat) : C_i_findKey := (fun a0 a1 a2 a3 => T.call k 132 sg_i_findKey (a0, a1, (a2, a3, (), ()), ()))
noncomputable abbrev t_i_Machine_set (k : Nat) : C_i_Machine_set := (fun a0 a1 a2 a3 a4 => T.call k 111 sg_i_Machine_set ((a0, a1, a2, a3, ()), a4, ()))
noncomputable abbrev t_i_Machine_do (k : Nat) : C_i_Machine_do := (fun a0 a1 a2 a3 a4 a5 => T.call k 83 sg_i_Machine_do ((a0, a1, a2, a3, ()), (a4, a5, ()), ()))
noncomputable abbrev t_i_Machine_step (k : Nat) : C_i_Machine_step := (fun a0 a1 a2 a3 a4 a5 => T.call k 46 sg_i_Machine_step ((a0, a1, a2, a3, ()), (a4, a5, ()), ()))
noncomputable abbrev t_i_copyNodes (k : Nat) : C_i_copyNodes := (fun a0 => T.call k 113 sg_i_copyNodes (a0, ()))
noncomputable abbrev t_i_copyMachine (k : Nat) : C_i_copyMachine := (fun a0 a1 a2 a3 => T.call k 89 sg_i_copyMachine ((a0, a1, a2, a3, ()), ()))
noncomputable abbrev t_i_BuildGraph_1 (k : Nat) : C_i_BuildGraph_1 := (fun a0 a1 a2 a3 => T.call k 67 sg_i_BuildGraph_1 ((a0, a1, a2, a3, ()), ()))
noncomputable abbrev t_i_running__i_BuildGraph_1 (k : Nat) : C_i_running__i_BuildGraph_1 := (fun a0 => T.call k 56 sg_i_running__i_BuildGraph_1 (a0, 67, ()))
noncomputable abbrev t_i_BuildGraph (k : Nat) : C_i_BuildGraph := (fun a0 => T.call k 30 sg_i_BuildGraph (a0, ()))
noncomputable abbrev t_l_ascends (k : Nat) : C_l_ascends := (fun a0 => T.call k 31 sg_l_ascends (a0, ()))
noncomputable abbrev t_l_countOf (k : Nat) : C_l_countOf := (fun a0 a1 => T.call k 32 sg_l_countOf (a0, a1, ()))
noncomputable abbrev t_l_FnClassesIn (k : Nat) : C_l_FnClassesIn := (fun a0 => T.call k 6 sg_l_FnClassesIn (a0, ()))
theorem b_s_newReader (k : Nat) (a0 : _) : t_s_newReader (k + 1) a0 = B_s_newReader k a0 := by kernel_rfl
theorem b_s_reader_pick (k : Nat) (a0 a1 a2 : _) : t_s_reader_pick (k + 1) a0 a1 a2 = B_s_reader_pick k a0 a1 a2 := by kernel_rfl
theorem b_s_newShapes (k : Nat) : t_s_newShapes (k + 1) = B_s_newShapes k := by kernel_rfl
theorem b_s_reader_one (k : Nat) (a0 a1 a2 : _) : t_s_reader_one (k + 1) a0 a1 a2 = B_s_reader_one k (t_s_reader_pick k) a0 a1 a2 := by kernel_rfl
theorem b_s_someOp (k : Nat) (a0 a1 : _) : t_s_someOp (k + 1) a0 a1 = B_s_someOp k (t_s_reader_pick k) (t_s_reader_one k) a0 a1 := by kernel_rfl
theorem b_s_copyInts (k : Nat) (a0 : _) : t_s_copyInts (k + 1) a0 = B_s_copyInts k a0 := by kernel_rfl
theorem b_s_copyShapes (k : Nat) (a0 a1 a2 a3 a4 : _) : t_s_copyShapes (k + 1) a0 a1 a2 a3 a4 = B_s_copyShapes k (t_s_copyInts k) a0 a1 a2 a3 a4 := by kernel_rfl
theorem b_s_newKind (k : Nat) (a0 : _) : t_s_newKind (k + 1) a0 = B_s_newKind k a0 := by kernel_rfl
theorem b_s_pushShape (k : Nat) (a0 a1 a2 a3 a4 a5 : _) : t_s_pushShape (k + 1) a0 a1 a2 a3 a4 a5 = B_s_pushShape k a0 a1 a2 a3 a4 a5 := by kernel_rfl
theorem b_s_shapeAt (k : Nat) (a0 a1 a2 a3 a4 a5 : _) : t_s_shapeAt (k + 1) a0 a1 a2 a3 a4 a5 = B_s_shapeAt k a0 a1 a2 a3 a4 a5 := by kernel_rfl
theorem b_s_keyKind (k : Nat) (a0 : _) : t_s_keyKind (k + 1) a0 = B_s_keyKind k a0 := by kernel_rfl
theorem b_s_markShapes (k : Nat) (a0 a1 a2 a3 a4 a5 : _) : t_s_markShapes (k + 1) a0 a1 a2 a3 a4 a5 = B_s_markShapes k (t_s_copyInts k) (t_s_pushShape k) (t_s_shapeAt k) (t_s_keyKind k) a0 a1 a2 a3 a4 a5 := by kernel_rfl
theorem b_s_takeShapes (k : Nat) (a0 a1 a2 a3 a4 a5 a6 : _) : t_s_takeShapes (k + 1) a0 a1 a2 a3 a4 a5 a6 = B_s_takeShapes k (t_s_shapeAt k) (t_s_pushShape k) (t_s_keyKind k) a0 a1 a2 a3 a4 a5 a6 := by kernel_rfl
theorem b_s_stepShapes (k : Nat) (a0 a1 a2 a3 a4 a5 a6 : _) : t_s_stepShapes (k + 1) a0 a1 a2 a3 a4 a5 a6 = B_s_stepShapes k (t_s_newKind k) (t_s_pushShape k) (t_s_markShapes k) (t_s_takeShapes k) a0 a1 a2 a3 a4 a5 a6 := by kernel_rfl
theorem b_s_argOf (k : Nat) (a0 : _) : t_s_argOf (k + 1) a0 = B_s_argOf k a0 := by kernel_rfl
theorem b_s_inRange (k : Nat) (a0 a1 a2 : _) : t_s_inRange (k + 1) a0 a1 a2 = B_s_inRange k a0 a1 a2 := by kernel_rfl
theorem b_s_validOp (k : Nat) (a0 a1 : _) : t_s_validOp (k + 1) a0 a1 = B_s_validOp k (t_s_argOf k) (t_s_inRange k) a0 a1 := by kernel_rfl
theorem b_s_validOps (k : Nat) (a0 : _) : t_s_validOps (k + 1) a0 = B_s_validOps k (t_s_validOp k) a0 := by kernel_rfl
theorem b_s_runShapes (k : Nat) (a0 : _) : t_s_runShapes (k + 1) a0 = B_s_runShapes k (t_s_newShapes k) (t_s_copyShapes k) (t_s_stepShapes k) a0 := by kernel_rfl
theorem b_s_EndOps (k : Nat) (a0 : _) : t_s_EndOps (k + 1) a0 = B_s_EndOps k (t_s_validOps k) (t_s_runShapes k) a0 := by kernel_rfl
theorem b_s_CutOps (k : Nat) (a0 : _) : t_s_CutOps (k + 1) a0 = B_s_CutOps k (t_s_validOps k) (t_s_runShapes k) a0 := by kernel_rfl
theorem b_s_likelyOps (k : Nat) (a0 a1 : _) : t_s_likelyOps (k + 1) a0 a1 = B_s_likelyOps k (t_s_newShapes k) (t_s_reader_one k) (t_s_someOp k) (t_s_reader_pick k) (t_s_copyShapes k) (t_s_stepShapes k) (t_s_EndOps k) (t_s_CutOps k) a0 a1 := by kernel_rfl
theorem b_s_someNode (k : Nat) (a0 a1 : _) : t_s_someNode (k + 1) a0 a1 = B_s_someNode k (t_s_reader_pick k) (t_s_reader_one k) a0 a1 := by kernel_rfl
theorem b_s_isKey (k : Nat) (a0 a1 : _) : t_s_isKey (k + 1) a0 a1 = B_s_isKey k a0 a1 := by kernel_rfl
theorem b_s_allIn (k : Nat) (a0 a1 a2 : _) : t_s_allIn (k + 1) a0 a1 a2 = B_s_allIn k (t_s_inRange k) a0 a1 a2 := by kernel_rfl
theorem b_s_sameKey (k : Nat) (a0 a1 a2 a3 : _) : t_s_sameKey (k + 1) a0 a1 a2 a3 = B_s_sameKey k a0 a1 a2 a3 := by kernel_rfl
theorem b_s_validDict (k : Nat) (a0 a1 a2 a3 a4 : _) : t_s_validDict (k + 1) a0 a1 a2 a3 a4 = B_s_validDict k (t_s_isKey k) (t_s_sameKey k) a0 a1 a2 a3 a4 := by kernel_rfl
theorem b_s_validNode (k : Nat) (a0 a1 a2 a3 a4 : _) : t_s_validNode (k + 1) a0 a1 a2 a3 a4 = B_s_validNode k (t_s_allIn k) (t_s_inRange k) (t_s_validDict k) a0 a1 a2 a3 a4 := by kernel_rfl
theorem b_s_placeIn (k : Nat) (a0 a1 : _) : t_s_placeIn (k + 1) a0 a1 = B_s_placeIn k a0 a1 := by kernel_rfl
theorem b_s_tupleReach (k : Nat) (a0 a1 a2 : _) : t_s_tupleReach (k + 1) a0 a1 a2 = B_s_tupleReach k (t_s_copyInts k) (t_s_placeIn k) a0 a1 a2 := by kernel_rfl
theorem b_s_validGraph (k : Nat) (a0 a1 : _) : t_s_validGraph (k + 1) a0 a1 = B_s_validGraph k (t_s_inRange k) (t_s_validNode k) (t_s_tupleReach k) (t_s_placeIn k) a0 a1 := by kernel_rfl
theorem b_s_addKids (k : Nat) (a0 a1 a2 a3 a4 : _) : t_s_addKids (k + 1) a0 a1 a2 a3 a4 = B_s_addKids k (t_s_reader_one k) (t_s_reader_pick k) (t_s_isKey k) (t_s_validGraph k) a0 a1 a2 a3 a4 := by kernel_rfl
theorem b_s_someGraph (k : Nat) (a0 a1 : _) : t_s_someGraph (k + 1) a0 a1 = B_s_someGraph k (t_s_reader_one k) (t_s_someNode k) (t_s_addKids k) (t_s_reader_pick k) a0 a1 := by kernel_rfl
theorem b_s_emptyMemo (k : Nat) (a0 a1 : _) : t_s_emptyMemo (k + 1) a0 a1 = B_s_emptyMemo k a0 a1 := by kernel_rfl
theorem b_s_emit (k : Nat) (a0 a1 : _) : t_s_emit (k + 1) a0 a1 = B_s_emit k a0 a1 := by kernel_rfl
theorem b_s_memoed (k : Nat) (a0 a1 a2 : _) : t_s_memoed (k + 1) a0 a1 a2 = B_s_memoed k (t_s_copyInts k) (t_s_emit k) a0 a1 a2 := by kernel_rfl
theorem b_s_saveAll (k : Nat) (a0 a1 a2 a3 a4 a5 : _) : t_s_saveAll (k + 1) a0 a1 a2 a3 a4 a5 = B_s_saveAll k (t_s_save k) a0 a1 a2 a3 a4 a5 := by kernel_rfl
theorem b_s_saveTuple (k : Nat) (a0 a1 a2 a3 a4 a5 : _) : t_s_saveTuple (k + 1) a0 a1 a2 a3 a4 a5 = B_s_saveTuple k (t_s_emit k) (t_s_memoed k) (t_s_saveAll k) a0 a1 a2 a3 a4 a5 := by kernel_rfl
theorem b_s_fill (k : Nat) (a0 a1 a2 a3 a4 a5 a6 a7 a8 : _) : t_s_fill (k + 1) a0 a1 a2 a3 a4 a5 a6 a7 a8 = B_s_fill k (t_s_emit k) (t_s_saveAll k) a0 a1 a2 a3 a4 a5 a6 a7 a8 := by kernel_rfl
theorem b_s_save (k : Nat) (a0 a1 a2 a3 a4 a5 : _) : t_s_save (k + 1) a0 a1 a2 a3 a4 a5 = B_s_save k (t_s_emit k) (t_s_memoed k) (t_s_saveTuple k) (t_s_fill k) (t_s_saveAll k) a0 a1 a2 a3 a4 a5 := by kernel_rfl
theorem b_s_written (k : Nat) (a0 a1 a2 : _) : t_s_written (k + 1) a0 a1 a2 = B_s_written k (t_s_emptyMemo k) (t_s_save k) (t_s_emit k) a0 a1 a2 := by kernel_rfl
theorem b_s_someOps (k : Nat) (a0 a1 : _) : t_s_someOps (k + 1) a0 a1 = B_s_someOps k (t_s_reader_pick k) (t_s_likelyOps k) (t_s_someGraph k) (t_s_written k) (t_s_someOp k) (t_s_reader_one k) a0 a1 := by kernel_rfl
theorem b_s_DrawClassesIn (k : Nat) (a0 : _) : t_s_DrawClassesIn (k + 1) a0 = B_s_DrawClassesIn k (t_s_newReader k) (t_s_someOps k) a0 := by kernel_rfl
theorem b_i_mostArg (k : Nat) (a0 : _) : t_i_mostArg (k + 1) a0 = B_i_mostArg k a0 := by kernel_rfl
theorem b_i_opOk (k : Nat) (a0 a1 : _) : t_i_opOk (k + 1) a0 a1 = B_i_opOk k (t_i_mostArg k) a0 a1 := by kernel_rfl
theorem b_i_ValidOps (k : Nat) (a0 : _) : t_i_ValidOps (k + 1) a0 = B_i_ValidOps k (t_i_opOk k) a0 := by kernel_rfl
theorem b_bits_Len64 (k : Nat) (a0 : _) : t_bits_Len64 (k + 1) a0 = B_bits_Len64 k a0 := by kernel_rfl
theorem b_bits_Len (k : Nat) (a0 : _) : t_bits_Len (k + 1) a0 = B_bits_Len k (t_bits_Len64 k) a0 := by kernel_rfl
theorem b_cmp_isNaN_int (k : Nat) (a0 : _) : t_cmp_isNaN_int (k + 1) a0 = B_cmp_isNaN_int k a0 := by kernel_rfl
theorem b_cmp_Less_int (k : Nat) (a0 a1 : _) : t_cmp_Less_int (k + 1) a0 a1 = B_cmp_Less_int k (t_cmp_isNaN_int k) a0 a1 := by kernel_rfl
theorem b_slices_insertionSortOrdered_int (k : Nat) (a0 a1 a2 : _) : t_slices_insertionSortOrdered_int (k + 1) a0 a1 a2 = B_slices_insertionSortOrdered_int k (t_cmp_Less_int k) a0 a1 a2 := by kernel_rfl
theorem b_slices_siftDownOrdered_int (k : Nat) (a0 a1 a2 a3 : _) : t_slices_siftDownOrdered_int (k + 1) a0 a1 a2 a3 = B_slices_siftDownOrdered_int k (t_cmp_Less_int k) a0 a1 a2 a3 := by kernel_rfl
theorem b_slices_heapSortOrdered_int (k : Nat) (a0 a1 a2 : _) : t_slices_heapSortOrdered_int (k + 1) a0 a1 a2 = B_slices_heapSortOrdered_int k (t_slices_siftDownOrdered_int k) a0 a1 a2 := by kernel_rfl
theorem b_slices_nextPowerOfTwo (k : Nat) (a0 : _) : t_slices_nextPowerOfTwo (k + 1) a0 = B_slices_nextPowerOfTwo k (t_bits_Len k) a0 := by kernel_rfl
theorem b_slices_xorshift_Next (k : Nat) (a0 : _) : t_slices_xorshift_Next (k + 1) a0 = B_slices_xorshift_Next k a0 := by kernel_rfl
theorem b_slices_breakPatternsOrdered_int (k : Nat) (a0 a1 a2 : _) : t_slices_breakPatternsOrdered_int (k + 1) a0 a1 a2 = B_slices_breakPatternsOrdered_int k (t_slices_nextPowerOfTwo k) (t_slices_xorshift_Next k) a0 a1 a2 := by kernel_rfl
theorem b_slices_order2Ordered_int (k : Nat) (a0 a1 a2 a3 : _) : t_slices_order2Ordered_int (k + 1) a0 a1 a2 a3 = B_slices_order2Ordered_int k (t_cmp_Less_int k) a0 a1 a2 a3 := by kernel_rfl
theorem b_slices_medianOrdered_int (k : Nat) (a0 a1 a2 a3 a4 : _) : t_slices_medianOrdered_int (k + 1) a0 a1 a2 a3 a4 = B_slices_medianOrdered_int k (t_slices_order2Ordered_int k) a0 a1 a2 a3 a4 := by kernel_rfl
theorem b_slices_medianAdjacentOrdered_int (k : Nat) (a0 a1 a2 : _) : t_slices_medianAdjacentOrdered_int (k + 1) a0 a1 a2 = B_slices_medianAdjacentOrdered_int k (t_slices_medianOrdered_int k) a0 a1 a2 := by kernel_rfl
theorem b_slices_choosePivotOrdered_int (k : Nat) (a0 a1 a2 : _) : t_slices_choosePivotOrdered_int (k + 1) a0 a1 a2 = B_slices_choosePivotOrdered_int k (t_slices_medianAdjacentOrdered_int k) (t_slices_medianOrdered_int k) a0 a1 a2 := by kernel_rfl
theorem b_slices_reverseRangeOrdered_int (k : Nat) (a0 a1 a2 : _) : t_slices_reverseRangeOrdered_int (k + 1) a0 a1 a2 = B_slices_reverseRangeOrdered_int k a0 a1 a2 := by kernel_rfl
theorem b_slices_partialInsertionSortOrdered_int (k : Nat) (a0 a1 a2 : _) : t_slices_partialInsertionSortOrdered_int (k + 1) a0 a1 a2 = B_slices_partialInsertionSortOrdered_int k (t_cmp_Less_int k) a0 a1 a2 := by kernel_rfl
theorem b_slices_partitionEqualOrdered_int (k : Nat) (a0 a1 a2 a3 : _) : t_slices_partitionEqualOrdered_int (k + 1) a0 a1 a2 a3 = B_slices_partitionEqualOrdered_int k (t_cmp_Less_int k) a0 a1 a2 a3 := by kernel_rfl
theorem b_slices_partitionOrdered_int (k : Nat) (a0 a1 a2 a3 : _) : t_slices_partitionOrdered_int (k + 1) a0 a1 a2 a3 = B_slices_partitionOrdered_int k (t_cmp_Less_int k) a0 a1 a2 a3 := by kernel_rfl
theorem b_slices_pdqsortOrdered_int (k : Nat) (a0 a1 a2 a3 : _) : t_slices_pdqsortOrdered_int (k + 1) a0 a1 a2 a3 = B_slices_pdqsortOrdered_int k (t_slices_insertionSortOrdered_int k) (t_slices_heapSortOrdered_int k) (t_slices_breakPatternsOrdered_int k) (t_slices_choosePivotOrdered_int k) (t_slices_reverseRangeOrdered_int k) (t_slices_partialInsertionSortOrdered_int k) (t_cmp_Less_int k) (t_slices_partitionEqualOrdered_int k) (t_slices_partitionOrdered_int k) (t_slices_pdqsortOrdered_int k) a0 a1 a2 a3 := by kernel_rfl
theorem b_slices_Sort_int_int (k : Nat) (a0 : _) : t_slices_Sort_int_int (k + 1) a0 = B_slices_Sort_int_int k (t_bits_Len k) (t_slices_pdqsortOrdered_int k) a0 := by kernel_rfl
theorem b_slices_Compact_int_int (k : Nat) (a0 : _) : t_slices_Compact_int_int (k + 1) a0 = B_slices_Compact_int_int k a0 := by kernel_rfl
theorem b_slices_Clip_int_int (k : Nat) (a0 : _) : t_slices_Clip_int_int (k + 1) a0 = B_slices_Clip_int_int k a0 := by kernel_rfl
theorem b_i_ClassesIn (k : Nat) (a0 : _) : t_i_ClassesIn (k + 1) a0 = B_i_ClassesIn k (t_i_ValidOps k) (t_slices_Sort_int_int k) (t_slices_Compact_int_int k) (t_slices_Clip_int_int k) a0 := by kernel_rfl
theorem b_s_ClassesIn (k : Nat) (a0 : _) : t_s_ClassesIn (k + 1) a0 = B_s_ClassesIn k (t_s_validOps k) a0 := by kernel_rfl
theorem b_l_equalInts (k : Nat) (a0 a1 : _) : t_l_equalInts (k + 1) a0 a1 = B_l_equalInts k a0 a1 := by kernel_rfl
theorem b_l_isIn (k : Nat) (a0 a1 : _) : t_l_isIn (k + 1) a0 a1 = B_l_isIn k a0 a1 := by kernel_rfl
theorem b_i_NewMachine (k : Nat) (a0 : _) : t_i_NewMachine (k + 1) a0 = B_i_NewMachine k a0 := by kernel_rfl
theorem b_slices_Clone_int_int (k : Nat) (a0 : _) : t_slices_Clone_int_int (k + 1) a0 = B_slices_Clone_int_int k a0 := by kernel_rfl
theorem b_i_Machine_nodes (k : Nat) (a0 a1 a2 a3 : _) : t_i_Machine_nodes (k + 1) a0 a1 a2 a3 = B_i_Machine_nodes k a0 a1 a2 a3 := by kernel_rfl
theorem b_i_Machine_push (k : Nat) (a0 a1 a2 a3 a4 : _) : t_i_Machine_push (k + 1) a0 a1 a2 a3 a4 = B_i_Machine_push k a0 a1 a2 a3 a4 := by kernel_rfl
theorem b_i_Machine_make (k : Nat) (a0 a1 a2 a3 a4 a5 a6 : _) : t_i_Machine_make (k + 1) a0 a1 a2 a3 a4 a5 a6 = B_i_Machine_make k (t_slices_Clone_int_int k) (t_i_Machine_push k) a0 a1 a2 a3 a4 a5 a6 := by kernel_rfl
theorem b_i_Machine_take (k : Nat) (a0 a1 a2 a3 a4 : _) : t_i_Machine_take (k + 1) a0 a1 a2 a3 a4 = B_i_Machine_take k (t_slices_Clone_int_int k) a0 a1 a2 a3 a4 := by kernel_rfl
theorem b_i_Machine_above (k : Nat) (a0 a1 a2 a3 : _) : t_i_Machine_above (k + 1) a0 a1 a2 a3 = B_i_Machine_above k (t_i_Machine_nodes k) (t_i_Machine_take k) a0 a1 a2 a3 := by kernel_rfl
theorem b_i_Machine_top (k : Nat) (a0 a1 a2 a3 a4 : _) : t_i_Machine_top (k + 1) a0 a1 a2 a3 a4 = B_i_Machine_top k (t_i_Machine_nodes k) a0 a1 a2 a3 a4 := by kernel_rfl
theorem b_i_findKey (k : Nat) (a0 a1 a2 a3 : _) : t_i_findKey (k + 1) a0 a1 a2 a3 = B_i_findKey k a0 a1 a2 a3 := by kernel_rfl
theorem b_i_Machine_set (k : Nat) (a0 a1 a2 a3 a4 : _) : t_i_Machine_set (k + 1) a0 a1 a2 a3 a4 = B_i_Machine_set k (t_i_Machine_top k) (t_i_findKey k) a0 a1 a2 a3 a4 := by kernel_rfl
theorem b_i_Machine_do (k : Nat) (a0 a1 a2 a3 a4 a5 : _) : t_i_Machine_do (k + 1) a0 a1 a2 a3 a4 a5 = B_i_Machine_do k (t_i_Machine_nodes k) (t_i_Machine_make k) (t_i_Machine_push k) (t_i_Machine_above k) (t_i_Machine_take k) (t_i_Machine_top k) (t_i_Machine_set k) a0 a1 a2 a3 a4 a5 := by kernel_rfl
theorem b_i_Machine_step (k : Nat) (a0 a1 a2 a3 a4 a5 : _) : t_i_Machine_step (k + 1) a0 a1 a2 a3 a4 a5 = B_i_Machine_step k (t_slices_Clone_int_int k) (t_i_Machine_do k) a0 a1 a2 a3 a4 a5 := by kernel_rfl
theorem b_i_copyNodes (k : Nat) (a0 : _) : t_i_copyNodes (k + 1) a0 = B_i_copyNodes k (t_slices_Clone_int_int k) a0 := by kernel_rfl
theorem b_i_copyMachine (k : Nat) (a0 a1 a2 a3 : _) : t_i_copyMachine (k + 1) a0 a1 a2 a3 = B_i_copyMachine k (t_i_copyNodes k) (t_slices_Clone_int_int k) a0 a1 a2 a3 := by kernel_rfl
theorem b_i_BuildGraph_1 (k : Nat) (a0 a1 a2 a3 : _) : t_i_BuildGraph_1 (k + 1) a0 a1 a2 a3 = B_i_BuildGraph_1 k a0 a1 a2 a3 := by kernel_rfl
theorem b_i_running__i_BuildGraph_1 (k : Nat) (a0 : _) : t_i_running__i_BuildGraph_1 (k + 1) a0 = B_i_running__i_BuildGraph_1 k (t_i_NewMachine k) (t_i_Machine_step k) (t_i_copyMachine k) (t_i_BuildGraph_1 k) a0 := by kernel_rfl
theorem b_i_BuildGraph (k : Nat) (a0 : _) : t_i_BuildGraph (k + 1) a0 = B_i_BuildGraph k (t_i_ValidOps k) (t_i_running__i_BuildGraph_1 k) a0 := by kernel_rfl
theorem b_l_ascends (k : Nat) (a0 : _) : t_l_ascends (k + 1) a0 = B_l_ascends k a0 := by kernel_rfl
theorem b_l_countOf (k : Nat) (a0 a1 : _) : t_l_countOf (k + 1) a0 a1 = B_l_countOf k a0 a1 := by kernel_rfl
theorem b_l_FnClassesIn (k : Nat) (a0 : _) : t_l_FnClassesIn (k + 1) a0 = B_l_FnClassesIn k (t_s_DrawClassesIn k) (t_i_ClassesIn k) (t_s_ClassesIn k) (t_l_equalInts k) (t_i_ValidOps k) (t_l_isIn k) (t_i_BuildGraph k) (t_l_ascends k) (t_l_countOf k) a0 := by kernel_rfl
end Go.Gx

/-
  The calls of the table (printed by gen.py).
-/
set_option linter.unusedVariables false
namespace Go.Gx
open Go.Proofs
theorem c_s_newReader (k : Nat) : t_s_newReader k = F_s_newReader k := by
  cases k with
  | zero => rfl
  | succ k => funext a0; exact (b_s_newReader k a0)
theorem c_s_reader_pick (k : Nat) : t_s_reader_pick k = F_s_reader_pick k := by
  cases k with
  | zero => rfl
  | succ k => funext a0 a1 a2; exact (b_s_reader_pick k a0 a1 a2)
theorem c_s_newShapes (k : Nat) : t_s_newShapes k = F_s_newShapes k := by
  cases k with
  | zero => rfl
  | succ k => exact (b_s_newShapes k)
theorem c_s_reader_one (k : Nat) : t_s_reader_one k = F_s_reader_one k := by
  cases k with
  | zero => rfl
  | succ k => funext a0 a1 a2; exact (b_s_reader_one k a0 a1 a2).trans (by rw [c_s_reader_pick k]; rfl)
theorem c_s_someOp (k : Nat) : t_s_someOp k = F_s_someOp k := by
  cases k with
  | zero => rfl
  | succ k => funext a0 a1; exact (b_s_someOp k a0 a1).trans (by rw [c_s_reader_pick k, c_s_reader_one k]; rfl)
theorem c_s_copyInts (k : Nat) : t_s_copyInts k = F_s_copyInts k := by
  cases k with
  | zero => rfl
  | succ k => funext a0; exact (b_s_copyInts k a0)
theorem c_s_copyShapes (k : Nat) : t_s_copyShapes k = F_s_copyShapes k := by
  cases k with
  | zero => rfl
  | succ k => funext a0 a1 a2 a3 a4; exact (b_s_copyShapes k a0 a1 a2 a3 a4).trans (by rw [c_s_copyInts k]; rfl)
theorem c_s_newKind (k : Nat) : t_s_newKind k = F_s_newKind k := by
  cases k with
  | zero => rfl
  | succ k => funext a0; exact (b_s_newKind k a0)
theorem c_s_pushShape (k : Nat) : t_s_pushShape k = F_s_pushShape k := by
  cases k with
  | zero => rfl
  | succ k => funext a0 a1 a2 a3 a4 a5; exact (b_s_pushShape k a0 a1 a2 a3 a4 a5)
theorem c_s_shapeAt (k : Nat) : t_s_shapeAt k = F_s_shapeAt k := by
  cases k with
  | zero => rfl
  | succ k => funext a0 a1 a2 a3 a4 a5; exact (b_s_shapeAt k a0 a1 a2 a3 a4 a5)
theorem c_s_keyKind (k : Nat) : t_s_keyKind k = F_s_keyKind k := by
  cases k with
  | zero => rfl
  | succ k => funext a0; exact (b_s_keyKind k a0)
theorem c_s_markShapes (k : Nat) : t_s_markShapes k = F_s_markShapes k := by
  cases k with
  | zero => rfl
  | succ k => funext a0 a1 a2 a3 a4 a5; exact (b_s_markShapes k a0 a1 a2 a3 a4 a5).trans (by rw [c_s_copyInts k, c_s_pushShape k, c_s_shapeAt k, c_s_keyKind k]; rfl)
theorem c_s_takeShapes (k : Nat) : t_s_takeShapes k = F_s_takeShapes k := by
  cases k with
  | zero => rfl
  | succ k => funext a0 a1 a2 a3 a4 a5 a6; exact (b_s_takeShapes k a0 a1 a2 a3 a4 a5 a6).trans (by rw [c_s_shapeAt k, c_s_pushShape k, c_s_keyKind k]; rfl)
theorem c_s_stepShapes (k : Nat) : t_s_stepShapes k = F_s_stepShapes k := by
  cases k with
  | zero => rfl
  | succ k => funext a0 a1 a2 a3 a4 a5 a6; exact (b_s_stepShapes k a0 a1 a2 a3 a4 a5 a6).trans (by rw [c_s_newKind k, c_s_pushShape k, c_s_markShapes k, c_s_takeShapes k]; rfl)
theorem c_s_argOf (k : Nat) : t_s_argOf k = F_s_argOf k := by
  cases k with
  | zero => rfl
  | succ k => funext a0; exact (b_s_argOf k a0)
theorem c_s_inRange (k : Nat) : t_s_inRange k = F_s_inRange k := by
  cases k with
  | zero => rfl
  | succ k => funext a0 a1 a2; exact (b_s_inRange k a0 a1 a2)
theorem c_s_validOp (k : Nat) : t_s_validOp k = F_s_validOp k := by
  cases k with
  | zero => rfl
  | succ k => funext a0 a1; exact (b_s_validOp k a0 a1).trans (by rw [c_s_argOf k, c_s_inRange k]; rfl)
theorem c_s_validOps (k : Nat) : t_s_validOps k = F_s_validOps k := by
  cases k with
  | zero => rfl
  | succ k => funext a0; exact (b_s_validOps k a0).trans (by rw [c_s_validOp k]; rfl)
theorem c_s_runShapes (k : Nat) : t_s_runShapes k = F_s_runShapes k := by
  cases k with
  | zero => rfl
  | succ k => funext a0; exact (b_s_runShapes k a0).trans (by rw [c_s_newShapes k, c_s_copyShapes k, c_s_stepShapes k]; rfl)
theorem c_s_EndOps (k : Nat) : t_s_EndOps k = F_s_EndOps k := by
  cases k with
  | zero => rfl
  | succ k => funext a0; exact (b_s_EndOps k a0).trans (by rw [c_s_validOps k, c_s_runShapes k]; rfl)
theorem c_s_CutOps (k : Nat) : t_s_CutOps k = F_s_CutOps k := by
  cases k with
  | zero => rfl
  | succ k => funext a0; exact (b_s_CutOps k a0).trans (by rw [c_s_validOps k, c_s_runShapes k]; rfl)
theorem c_s_likelyOps (k : Nat) : t_s_likelyOps k = F_s_likelyOps k := by
  cases k with
  | zero => rfl
  | succ k => funext a0 a1; exact (b_s_likelyOps k a0 a1).trans (by rw [c_s_newShapes k, c_s_reader_one k, c_s_someOp k, c_s_reader_pick k, c_s_copyShapes k, c_s_stepShapes k, c_s_EndOps k, c_s_CutOps k]; rfl)
theorem c_s_someNode (k : Nat) : t_s_someNode k = F_s_someNode k := by
  cases k with
  | zero => rfl
  | succ k => funext a0 a1; exact (b_s_someNode k a0 a1).trans (by rw [c_s_reader_pick k, c_s_reader_one k]; rfl)
theorem c_s_isKey (k : Nat) : t_s_isKey k = F_s_isKey k := by
  cases k with
  | zero => rfl
  | succ k => funext a0 a1; exact (b_s_isKey k a0 a1)
theorem c_s_allIn (k : Nat) : t_s_allIn k = F_s_allIn k := by
  cases k with
  | zero => rfl
  | succ k => funext a0 a1 a2; exact (b_s_allIn k a0 a1 a2).trans (by rw [c_s_inRange k]; rfl)
theorem c_s_sameKey (k : Nat) : t_s_sameKey k = F_s_sameKey k := by
  cases k with
  | zero => rfl
  | succ k => funext a0 a1 a2 a3; exact (b_s_sameKey k a0 a1 a2 a3)
theorem c_s_validDict (k : Nat) : t_s_validDict k = F_s_validDict k := by
  cases k with
  | zero => rfl
  | succ k => funext a0 a1 a2 a3 a4; exact (b_s_validDict k a0 a1 a2 a3 a4).trans (by rw [c_s_isKey k, c_s_sameKey k]; rfl)
theorem c_s_validNode (k : Nat) : t_s_validNode k = F_s_validNode k := by
  cases k with
  | zero => rfl
  | succ k => funext a0 a1 a2 a3 a4; exact (b_s_validNode k a0 a1 a2 a3 a4).trans (by rw [c_s_allIn k, c_s_inRange k, c_s_validDict k]; rfl)
theorem c_s_placeIn (k : Nat) : t_s_placeIn k = F_s_placeIn k := by
  cases k with
  | zero => rfl
  | succ k => funext a0 a1; exact (b_s_placeIn k a0 a1)
theorem c_s_tupleReach (k : Nat) : t_s_tupleReach k = F_s_tupleReach k := by
  cases k with
  | zero => rfl
  | succ k => funext a0 a1 a2; exact (b_s_tupleReach k a0 a1 a2).trans (by rw [c_s_copyInts k, c_s_placeIn k]; rfl)
theorem c_s_validGraph (k : Nat) : t_s_validGraph k = F_s_validGraph k := by
  cases k with
  | zero => rfl
  | succ k => funext a0 a1; exact (b_s_validGraph k a0 a1).trans (by rw [c_s_inRange k, c_s_validNode k, c_s_tupleReach k, c_s_placeIn k]; rfl)
theorem c_s_addKids (k : Nat) : t_s_addKids k = F_s_addKids k := by
  cases k with
  | zero => rfl
  | succ k => funext a0 a1 a2 a3 a4; exact (b_s_addKids k a0 a1 a2 a3 a4).trans (by rw [c_s_reader_one k, c_s_reader_pick k, c_s_isKey k, c_s_validGraph k]; rfl)
theorem c_s_someGraph (k : Nat) : t_s_someGraph k = F_s_someGraph k := by
  cases k with
  | zero => rfl
  | succ k => funext a0 a1; exact (b_s_someGraph k a0 a1).trans (by rw [c_s_reader_one k, c_s_someNode k, c_s_addKids k, c_s_reader_pick k]; rfl)
theorem c_s_emptyMemo (k : Nat) : t_s_emptyMemo k = F_s_emptyMemo k := by
  cases k with
  | zero => rfl
  | succ k => funext a0 a1; exact (b_s_emptyMemo k a0 a1)
theorem c_s_emit (k : Nat) : t_s_emit k = F_s_emit k := by
  cases k with
  | zero => rfl
  | succ k => funext a0 a1; exact (b_s_emit k a0 a1)
theorem c_s_memoed (k : Nat) : t_s_memoed k = F_s_memoed k := by
  cases k with
  | zero => rfl
  | succ k => funext a0 a1 a2; exact (b_s_memoed k a0 a1 a2).trans (by rw [c_s_copyInts k, c_s_emit k]; rfl)
theorem c_s_saveAll_s_saveTuple_s_fill_s_save : ∀ k : Nat, (t_s_saveAll k = F_s_saveAll k) ∧ (t_s_saveTuple k = F_s_saveTuple k) ∧ (t_s_fill k = F_s_fill k) ∧ (t_s_save k = F_s_save k) ∧ True := by
  intro k
  induction k with
  | zero => exact ⟨by funext a0 a1 a2 a3 a4 a5;  first | rfl | (rw [F_s_saveAll]; rfl), by funext a0 a1 a2 a3 a4 a5;  first | rfl | (rw [F_s_saveTuple]; rfl), by funext a0 a1 a2 a3 a4 a5 a6 a7 a8;  first | rfl | (rw [F_s_fill]; rfl), by funext a0 a1 a2 a3 a4 a5;  first | rfl | (rw [F_s_save]; rfl), trivial⟩
  | succ k ih =>
    obtain ⟨h_s_saveAll, h_s_saveTuple, h_s_fill, h_s_save, _⟩ := ih
    refine ⟨?_, ?_, ?_, ?_, trivial⟩
    · funext a0 a1 a2 a3 a4 a5; rw [F_s_saveAll_succ]; exact (b_s_saveAll k a0 a1 a2 a3 a4 a5).trans (by rw [h_s_save])
    · funext a0 a1 a2 a3 a4 a5; rw [F_s_saveTuple_succ]; exact (b_s_saveTuple k a0 a1 a2 a3 a4 a5).trans (by rw [c_s_emit k, c_s_memoed k, h_s_saveAll])
    · funext a0 a1 a2 a3 a4 a5 a6 a7 a8; rw [F_s_fill_succ]; exact (b_s_fill k a0 a1 a2 a3 a4 a5 a6 a7 a8).trans (by rw [c_s_emit k, h_s_saveAll])
    · funext a0 a1 a2 a3 a4 a5; rw [F_s_save_succ]; exact (b_s_save k a0 a1 a2 a3 a4 a5).trans (by rw [c_s_emit k, c_s_memoed k, h_s_saveTuple, h_s_fill, h_s_saveAll])
theorem c_s_saveAll (k : Nat) : t_s_saveAll k = F_s_saveAll k := (c_s_saveAll_s_saveTuple_s_fill_s_save k).1
theorem c_s_saveTuple (k : Nat) : t_s_saveTuple k = F_s_saveTuple k := (c_s_saveAll_s_saveTuple_s_fill_s_save k).2.1
theorem c_s_fill (k : Nat) : t_s_fill k = F_s_fill k := (c_s_saveAll_s_saveTuple_s_fill_s_save k).2.2.1
theorem c_s_save (k : Nat) : t_s_save k = F_s_save k := (c_s_saveAll_s_saveTuple_s_fill_s_save k).2.2.2.1
theorem c_s_written (k : Nat) : t_s_written k = F_s_written k := by
  cases k with
  | zero => rfl
  | succ k => funext a0 a1 a2; exact (b_s_written k a0 a1 a2).trans (by rw [c_s_emptyMemo k, c_s_save k, c_s_emit k]; rfl)
theorem c_s_someOps (k : Nat) : t_s_someOps k = F_s_someOps k := by
  cases k with
  | zero => rfl
  | succ k => funext a0 a1; exact (b_s_someOps k a0 a1).trans (by rw [c_s_reader_pick k, c_s_likelyOps k, c_s_someGraph k, c_s_written k, c_s_someOp k, c_s_reader_one k]; rfl)
theorem c_s_DrawClassesIn (k : Nat) : t_s_DrawClassesIn k = F_s_DrawClassesIn k := by
  cases k with
  | zero => rfl
  | succ k => funext a0; exact (b_s_DrawClassesIn k a0).trans (by rw [c_s_newReader k, c_s_someOps k]; rfl)
theorem c_i_mostArg (k : Nat) : t_i_mostArg k = F_i_mostArg k := by
  cases k with
  | zero => rfl
  | succ k => funext a0; exact (b_i_mostArg k a0)
theorem c_i_opOk (k : Nat) : t_i_opOk k = F_i_opOk k := by
  cases k with
  | zero => rfl
  | succ k => funext a0 a1; exact (b_i_opOk k a0 a1).trans (by rw [c_i_mostArg k]; rfl)
theorem c_i_ValidOps (k : Nat) : t_i_ValidOps k = F_i_ValidOps k := by
  cases k with
  | zero => rfl
  | succ k => funext a0; exact (b_i_ValidOps k a0).trans (by rw [c_i_opOk k]; rfl)
theorem c_bits_Len64 (k : Nat) : t_bits_Len64 k = F_bits_Len64 k := by
  cases k with
  | zero => rfl
  | succ k => funext a0; exact (b_bits_Len64 k a0)
theorem c_bits_Len (k : Nat) : t_bits_Len k = F_bits_Len k := by
  cases k with
  | zero => rfl
  | succ k => funext a0; exact (b_bits_Len k a0).trans (by rw [c_bits_Len64 k]; rfl)
theorem c_cmp_isNaN_int (k : Nat) : t_cmp_isNaN_int k = F_cmp_isNaN_int k := by
  cases k with
  | zero => rfl
  | succ k => funext a0; exact (b_cmp_isNaN_int k a0)
theorem c_cmp_Less_int (k : Nat) : t_cmp_Less_int k = F_cmp_Less_int k := by
  cases k with
  | zero => rfl
  | succ k => funext a0 a1; exact (b_cmp_Less_int k a0 a1).trans (by rw [c_cmp_isNaN_int k]; rfl)
theorem c_slices_insertionSortOrdered_int (k : Nat) : t_slices_insertionSortOrdered_int k = F_slices_insertionSortOrdered_int k := by
  cases k with
  | zero => rfl
  | succ k => funext a0 a1 a2; exact (b_slices_insertionSortOrdered_int k a0 a1 a2).trans (by rw [c_cmp_Less_int k]; rfl)
theorem c_slices_siftDownOrdered_int (k : Nat) : t_slices_siftDownOrdered_int k = F_slices_siftDownOrdered_int k := by
  cases k with
  | zero => rfl
  | succ k => funext a0 a1 a2 a3; exact (b_slices_siftDownOrdered_int k a0 a1 a2 a3).trans (by rw [c_cmp_Less_int k]; rfl)
theorem c_slices_heapSortOrdered_int (k : Nat) : t_slices_heapSortOrdered_int k = F_slices_heapSortOrdered_int k := by
  cases k with
  | zero => rfl
  | succ k => funext a0 a1 a2; exact (b_slices_heapSortOrdered_int k a0 a1 a2).trans (by rw [c_slices_siftDownOrdered_int k]; rfl)
theorem c_slices_nextPowerOfTwo (k : Nat) : t_slices_nextPowerOfTwo k = F_slices_nextPowerOfTwo k := by
  cases k with
  | zero => rfl
  | succ k => funext a0; exact (b_slices_nextPowerOfTwo k a0).trans (by rw [c_bits_Len k]; rfl)
theorem c_slices_xorshift_Next (k : Nat) : t_slices_xorshift_Next k = F_slices_xorshift_Next k := by
  cases k with
  | zero => rfl
  | succ k => funext a0; exact (b_slices_xorshift_Next k a0)
theorem c_slices_breakPatternsOrdered_int (k : Nat) : t_slices_breakPatternsOrdered_int k = F_slices_breakPatternsOrdered_int k := by
  cases k with
  | zero => rfl
  | succ k => funext a0 a1 a2; exact (b_slices_breakPatternsOrdered_int k a0 a1 a2).trans (by rw [c_slices_nextPowerOfTwo k, c_slices_xorshift_Next k]; rfl)
theorem c_slices_order2Ordered_int (k : Nat) : t_slices_order2Ordered_int k = F_slices_order2Ordered_int k := by
  cases k with
  | zero => rfl
  | succ k => funext a0 a1 a2 a3; exact (b_slices_order2Ordered_int k a0 a1 a2 a3).trans (by rw [c_cmp_Less_int k]; rfl)
theorem c_slices_medianOrdered_int (k : Nat) : t_slices_medianOrdered_int k = F_slices_medianOrdered_int k := by
  cases k with
  | zero => rfl
  | succ k => funext a0 a1 a2 a3 a4; exact (b_slices_medianOrdered_int k a0 a1 a2 a3 a4).trans (by rw [c_slices_order2Ordered_int k]; rfl)
theorem c_slices_medianAdjacentOrdered_int (k : Nat) : t_slices_medianAdjacentOrdered_int k = F_slices_medianAdjacentOrdered_int k := by
  cases k with
  | zero => rfl
  | succ k => funext a0 a1 a2; exact (b_slices_medianAdjacentOrdered_int k a0 a1 a2).trans (by rw [c_slices_medianOrdered_int k]; rfl)
theorem c_slices_choosePivotOrdered_int (k : Nat) : t_slices_choosePivotOrdered_int k = F_slices_choosePivotOrdered_int k := by
  cases k with
  | zero => rfl
  | succ k => funext a0 a1 a2; exact (b_slices_choosePivotOrdered_int k a0 a1 a2).trans (by rw [c_slices_medianAdjacentOrdered_int k, c_slices_medianOrdered_int k]; rfl)
theorem c_slices_reverseRangeOrdered_int (k : Nat) : t_slices_reverseRangeOrdered_int k = F_slices_reverseRangeOrdered_int k := by
  cases k with
  | zero => rfl
  | succ k => funext a0 a1 a2; exact (b_slices_reverseRangeOrdered_int k a0 a1 a2)
theorem c_slices_partialInsertionSortOrdered_int (k : Nat) : t_slices_partialInsertionSortOrdered_int k = F_slices_partialInsertionSortOrdered_int k := by
  cases k with
  | zero => rfl
  | succ k => funext a0 a1 a2; exact (b_slices_partialInsertionSortOrdered_int k a0 a1 a2).trans (by rw [c_cmp_Less_int k]; rfl)
theorem c_slices_partitionEqualOrdered_int (k : Nat) : t_slices_partitionEqualOrdered_int k = F_slices_partitionEqualOrdered_int k := by
  cases k with
  | zero => rfl
  | succ k => funext a0 a1 a2 a3; exact (b_slices_partitionEqualOrdered_int k a0 a1 a2 a3).trans (by rw [c_cmp_Less_int k]; rfl)
theorem c_slices_partitionOrdered_int (k : Nat) : t_slices_partitionOrdered_int k = F_slices_partitionOrdered_int k := by
  cases k with
  | zero => rfl
  | succ k => funext a0 a1 a2 a3; exact (b_slices_partitionOrdered_int k a0 a1 a2 a3).trans (by rw [c_cmp_Less_int k]; rfl)
theorem c_slices_pdqsortOrdered_int_ : ∀ k : Nat, (t_slices_pdqsortOrdered_int k = F_slices_pdqsortOrdered_int k) ∧ True := by
  intro k
  induction k with
  | zero => exact ⟨by funext a0 a1 a2 a3;  first | rfl | (rw [F_slices_pdqsortOrdered_int]; rfl), trivial⟩
  | succ k ih =>
    obtain ⟨h_slices_pdqsortOrdered_int, _⟩ := ih
    refine ⟨?_, trivial⟩
    · funext a0 a1 a2 a3; rw [F_slices_pdqsortOrdered_int_succ]; exact (b_slices_pdqsortOrdered_int k a0 a1 a2 a3).trans (by rw [c_slices_insertionSortOrdered_int k, c_slices_heapSortOrdered_int k, c_slices_breakPatternsOrdered_int k, c_slices_choosePivotOrdered_int k, c_slices_reverseRangeOrdered_int k, c_slices_partialInsertionSortOrdered_int k, c_cmp_Less_int k, c_slices_partitionEqualOrdered_int k, c_slices_partitionOrdered_int k, h_slices_pdqsortOrdered_int])
theorem c_slices_pdqsortOrdered_int (k : Nat) : t_slices_pdqsortOrdered_int k = F_slices_pdqsortOrdered_int k := (c_slices_pdqsortOrdered_int_ k).1
theorem c_slices_Sort_int_int (k : Nat) : t_slices_Sort_int_int k = F_slices_Sort_int_int k := by
  cases k with
  | zero => rfl
  | succ k => funext a0; exact (b_slices_Sort_int_int k a0).trans (by rw [c_bits_Len k, c_slices_pdqsortOrdered_int k]; rfl)
theorem c_slices_Compact_int_int (k : Nat) : t_slices_Compact_int_int k = F_slices_Compact_int_int k := by
  cases k with
  | zero => rfl
  | succ k => funext a0; exact (b_slices_Compact_int_int k a0)
theorem c_slices_Clip_int_int (k : Nat) : t_slices_Clip_int_int k = F_slices_Clip_int_int k := by
  cases k with
  | zero => rfl
  | succ k => funext a0; exact (b_slices_Clip_int_int k a0)
theorem c_i_ClassesIn (k : Nat) : t_i_ClassesIn k = F_i_ClassesIn k := by
  cases k with
  | zero => rfl
  | succ k => funext a0; exact (b_i_ClassesIn k a0).trans (by rw [c_i_ValidOps k, c_slices_Sort_int_int k, c_slices_Compact_int_int k, c_slices_Clip_int_int k]; rfl)
theorem c_s_ClassesIn (k : Nat) : t_s_ClassesIn k = F_s_ClassesIn k := by
  cases k with
  | zero => rfl
  | succ k => funext a0; exact (b_s_ClassesIn k a0).trans (by rw [c_s_validOps k]; rfl)
theorem c_l_equalInts (k : Nat) : t_l_equalInts k = F_l_equalInts k := by
  cases k with
  | zero => rfl
  | succ k => funext a0 a1; exact (b_l_equalInts k a0 a1)
theorem c_l_isIn (k : Nat) : t_l_isIn k = F_l_isIn k := by
  cases k with
  | zero => rfl
  | succ k => funext a0 a1; exact (b_l_isIn k a0 a1)
theorem c_i_NewMachine (k : Nat) : t_i_NewMachine k = F_i_NewMachine k := by
  cases k with
  | zero => rfl
  | succ k => funext a0; exact (b_i_NewMachine k a0)
theorem c_slices_Clone_int_int (k : Nat) : t_slices_Clone_int_int k = F_slices_Clone_int_int k := by
  cases k with
  | zero => rfl
  | succ k => funext a0; exact (b_slices_Clone_int_int k a0)
theorem c_i_Machine_nodes (k : Nat) : t_i_Machine_nodes k = F_i_Machine_nodes k := by
  cases k with
  | zero => rfl
  | succ k => funext a0 a1 a2 a3; exact (b_i_Machine_nodes k a0 a1 a2 a3)
theorem c_i_Machine_push (k : Nat) : t_i_Machine_push k = F_i_Machine_push k := by
  cases k with
  | zero => rfl
  | succ k => funext a0 a1 a2 a3 a4; exact (b_i_Machine_push k a0 a1 a2 a3 a4)
theorem c_i_Machine_make (k : Nat) : t_i_Machine_make k = F_i_Machine_make k := by
  cases k with
  | zero => rfl
  | succ k => funext a0 a1 a2 a3 a4 a5 a6; exact (b_i_Machine_make k a0 a1 a2 a3 a4 a5 a6).trans (by rw [c_slices_Clone_int_int k, c_i_Machine_push k]; rfl)
theorem c_i_Machine_take (k : Nat) : t_i_Machine_take k = F_i_Machine_take k := by
  cases k with
  | zero => rfl
  | succ k => funext a0 a1 a2 a3 a4; exact (b_i_Machine_take k a0 a1 a2 a3 a4).trans (by rw [c_slices_Clone_int_int k]; rfl)
theorem c_i_Machine_above (k : Nat) : t_i_Machine_above k = F_i_Machine_above k := by
  cases k with
  | zero => rfl
  | succ k => funext a0 a1 a2 a3; exact (b_i_Machine_above k a0 a1 a2 a3).trans (by rw [c_i_Machine_nodes k, c_i_Machine_take k]; rfl)
theorem c_i_Machine_top (k : Nat) : t_i_Machine_top k = F_i_Machine_top k := by
  cases k with
  | zero => rfl
  | succ k => funext a0 a1 a2 a3 a4; exact (b_i_Machine_top k a0 a1 a2 a3 a4).trans (by rw [c_i_Machine_nodes k]; rfl)
theorem c_i_findKey (k : Nat) : t_i_findKey k = F_i_findKey k := by
  cases k with
  | zero => rfl
  | succ k => funext a0 a1 a2 a3; exact (b_i_findKey k a0 a1 a2 a3)
theorem c_i_Machine_set (k : Nat) : t_i_Machine_set k = F_i_Machine_set k := by
  cases k with
  | zero => rfl
  | succ k => funext a0 a1 a2 a3 a4; exact (b_i_Machine_set k a0 a1 a2 a3 a4).trans (by rw [c_i_Machine_top k, c_i_findKey k]; rfl)
theorem c_i_Machine_do (k : Nat) : t_i_Machine_do k = F_i_Machine_do k := by
  cases k with
  | zero => rfl
  | succ k => funext a0 a1 a2 a3 a4 a5; exact (b_i_Machine_do k a0 a1 a2 a3 a4 a5).trans (by rw [c_i_Machine_nodes k, c_i_Machine_make k, c_i_Machine_push k, c_i_Machine_above k, c_i_Machine_take k, c_i_Machine_top k, c_i_Machine_set k]; rfl)
theorem c_i_Machine_step (k : Nat) : t_i_Machine_step k = F_i_Machine_step k := by
  cases k with
  | zero => rfl
  | succ k => funext a0 a1 a2 a3 a4 a5; exact (b_i_Machine_step k a0 a1 a2 a3 a4 a5).trans (by rw [c_slices_Clone_int_int k, c_i_Machine_do k]; rfl)
theorem c_i_copyNodes (k : Nat) : t_i_copyNodes k = F_i_copyNodes k := by
  cases k with
  | zero => rfl
  | succ k => funext a0; exact (b_i_copyNodes k a0).trans (by rw [c_slices_Clone_int_int k]; rfl)
theorem c_i_copyMachine (k : Nat) : t_i_copyMachine k = F_i_copyMachine k := by
  cases k with
  | zero => rfl
  | succ k => funext a0 a1 a2 a3; exact (b_i_copyMachine k a0 a1 a2 a3).trans (by rw [c_i_copyNodes k, c_slices_Clone_int_int k]; rfl)
theorem c_i_BuildGraph_1 (k : Nat) : t_i_BuildGraph_1 k = F_i_BuildGraph_1 k := by
  cases k with
  | zero => rfl
  | succ k => funext a0 a1 a2 a3; exact (b_i_BuildGraph_1 k a0 a1 a2 a3)
theorem c_i_running__i_BuildGraph_1 (k : Nat) : t_i_running__i_BuildGraph_1 k = F_i_running__i_BuildGraph_1 k := by
  cases k with
  | zero => rfl
  | succ k => funext a0; exact (b_i_running__i_BuildGraph_1 k a0).trans (by rw [c_i_NewMachine k, c_i_Machine_step k, c_i_copyMachine k, c_i_BuildGraph_1 k]; rfl)
theorem c_i_BuildGraph (k : Nat) : t_i_BuildGraph k = F_i_BuildGraph k := by
  cases k with
  | zero => rfl
  | succ k => funext a0; exact (b_i_BuildGraph k a0).trans (by rw [c_i_ValidOps k, c_i_running__i_BuildGraph_1 k]; rfl)
theorem c_l_ascends (k : Nat) : t_l_ascends k = F_l_ascends k := by
  cases k with
  | zero => rfl
  | succ k => funext a0; exact (b_l_ascends k a0)
theorem c_l_countOf (k : Nat) : t_l_countOf k = F_l_countOf k := by
  cases k with
  | zero => rfl
  | succ k => funext a0 a1; exact (b_l_countOf k a0 a1)
theorem c_l_FnClassesIn (k : Nat) : t_l_FnClassesIn k = F_l_FnClassesIn k := by
  cases k with
  | zero => rfl
  | succ k => funext a0; exact (b_l_FnClassesIn k a0).trans (by rw [c_s_DrawClassesIn k, c_i_ClassesIn k, c_s_ClassesIn k, c_l_equalInts k, c_i_ValidOps k, c_l_isIn k, c_i_BuildGraph k, c_l_ascends k, c_l_countOf k]; rfl)
theorem fo6 : FnOK Try.prog 6 := ⟨Try.f6, Try.func6, by kernel_rfl, by kernel_rfl⟩
theorem fo24 : FnOK Try.prog 24 := ⟨Try.f24, Try.func24, by kernel_rfl, by kernel_rfl⟩
theorem fo25 : FnOK Try.prog 25 := ⟨Try.f25, Try.func25, by kernel_rfl, by kernel_rfl⟩
theorem fo26 : FnOK Try.prog 26 := ⟨Try.f26, Try.func26, by kernel_rfl, by kernel_rfl⟩
theorem fo27 : FnOK Try.prog 27 := ⟨Try.f27, Try.func27, by kernel_rfl, by kernel_rfl⟩
theorem fo28 : FnOK Try.prog 28 := ⟨Try.f28, Try.func28, by kernel_rfl, by kernel_rfl⟩
theorem fo29 : FnOK Try.prog 29 := ⟨Try.f29, Try.func29, by kernel_rfl, by kernel_rfl⟩
theorem fo30 : FnOK Try.prog 30 := ⟨Try.f30, Try.func30, by kernel_rfl, by kernel_rfl⟩
theorem fo31 : FnOK Try.prog 31 := ⟨Try.f31, Try.func31, by kernel_rfl, by kernel_rfl⟩
theorem fo32 : FnOK Try.prog 32 := ⟨Try.f32, Try.func32, by kernel_rfl, by kernel_rfl⟩
theorem fo42 : FnOK Try.prog 42 := ⟨Try.f42, Try.func42, by kernel_rfl, by kernel_rfl⟩
theorem fo43 : FnOK Try.prog 43 := ⟨Try.f43, Try.func43, by kernel_rfl, by kernel_rfl⟩
theorem fo45 : FnOK Try.prog 45 := ⟨Try.f45, Try.func45, by kernel_rfl, by kernel_rfl⟩
theorem fo46 : FnOK Try.prog 46 := ⟨Try.f46, Try.func46, by kernel_rfl, by kernel_rfl⟩
theorem fo48 : FnOK Try.prog 48 := ⟨Try.f48, Try.func48, by kernel_rfl, by kernel_rfl⟩
theorem fo53 : FnOK Try.prog 53 := ⟨Try.f53, Try.func53, by kernel_rfl, by kernel_rfl⟩
theorem fo56 : FnOK Try.prog 56 := ⟨Try.f56, Try.func56, by kernel_rfl, by kernel_rfl⟩
theorem fo63 : FnOK Try.prog 63 := ⟨Try.f63, Try.func63, by kernel_rfl, by kernel_rfl⟩
theorem fo64 : FnOK Try.prog 64 := ⟨Try.f64, Try.func64, by kernel_rfl, by kernel_rfl⟩
theorem fo65 : FnOK Try.prog 65 := ⟨Try.f65, Try.func65, by kernel_rfl, by kernel_rfl⟩
theorem fo66 : FnOK Try.prog 66 := ⟨Try.f66, Try.func66, by kernel_rfl, by kernel_rfl⟩
theorem fo67 : FnOK Try.prog 67 := ⟨Try.f67, Try.func67, by kernel_rfl, by kernel_rfl⟩
theorem fo68 : FnOK Try.prog 68 := ⟨Try.f68, Try.func68, by kernel_rfl, by kernel_rfl⟩
theorem fo69 : FnOK Try.prog 69 := ⟨Try.f69, Try.func69, by kernel_rfl, by kernel_rfl⟩
theorem fo70 : FnOK Try.prog 70 := ⟨Try.f70, Try.func70, by kernel_rfl, by kernel_rfl⟩
theorem fo71 : FnOK Try.prog 71 := ⟨Try.f71, Try.func71, by kernel_rfl, by kernel_rfl⟩
theorem fo72 : FnOK Try.prog 72 := ⟨Try.f72, Try.func72, by kernel_rfl, by kernel_rfl⟩
theorem fo73 : FnOK Try.prog 73 := ⟨Try.f73, Try.func73, by kernel_rfl, by kernel_rfl⟩
theorem fo76 : FnOK Try.prog 76 := ⟨Try.f76, Try.func76, by kernel_rfl, by kernel_rfl⟩
theorem fo77 : FnOK Try.prog 77 := ⟨Try.f77, Try.func77, by kernel_rfl, by kernel_rfl⟩
theorem fo78 : FnOK Try.prog 78 := ⟨Try.f78, Try.func78, by kernel_rfl, by kernel_rfl⟩
theorem fo79 : FnOK Try.prog 79 := ⟨Try.f79, Try.func79, by kernel_rfl, by kernel_rfl⟩
theorem fo80 : FnOK Try.prog 80 := ⟨Try.f80, Try.func80, by kernel_rfl, by kernel_rfl⟩
theorem fo82 : FnOK Try.prog 82 := ⟨Try.f82, Try.func82, by kernel_rfl, by kernel_rfl⟩
theorem fo83 : FnOK Try.prog 83 := ⟨Try.f83, Try.func83, by kernel_rfl, by kernel_rfl⟩
theorem fo85 : FnOK Try.prog 85 := ⟨Try.f85, Try.func85, by kernel_rfl, by kernel_rfl⟩
theorem fo86 : FnOK Try.prog 86 := ⟨Try.f86, Try.func86, by kernel_rfl, by kernel_rfl⟩
theorem fo89 : FnOK Try.prog 89 := ⟨Try.f89, Try.func89, by kernel_rfl, by kernel_rfl⟩
theorem fo90 : FnOK Try.prog 90 := ⟨Try.f90, Try.func90, by kernel_rfl, by kernel_rfl⟩
theorem fo91 : FnOK Try.prog 91 := ⟨Try.f91, Try.func91, by kernel_rfl, by kernel_rfl⟩
theorem fo92 : FnOK Try.prog 92 := ⟨Try.f92, Try.func92, by kernel_rfl, by kernel_rfl⟩
theorem fo93 : FnOK Try.prog 93 := ⟨Try.f93, Try.func93, by kernel_rfl, by kernel_rfl⟩
theorem fo94 : FnOK Try.prog 94 := ⟨Try.f94, Try.func94, by kernel_rfl, by kernel_rfl⟩
theorem fo95 : FnOK Try.prog 95 := ⟨Try.f95, Try.func95, by kernel_rfl, by kernel_rfl⟩
theorem fo96 : FnOK Try.prog 96 := ⟨Try.f96, Try.func96, by kernel_rfl, by kernel_rfl⟩
theorem fo97 : FnOK Try.prog 97 := ⟨Try.f97, Try.func97, by kernel_rfl, by kernel_rfl⟩
theorem fo98 : FnOK Try.prog 98 := ⟨Try.f98, Try.func98, by kernel_rfl, by kernel_rfl⟩
theorem fo99 : FnOK Try.prog 99 := ⟨Try.f99, Try.func99, by kernel_rfl, by kernel_rfl⟩
theorem fo100 : FnOK Try.prog 100 := ⟨Try.f100, Try.func100, by kernel_rfl, by kernel_rfl⟩
theorem fo101 : FnOK Try.prog 101 := ⟨Try.f101, Try.func101, by kernel_rfl, by kernel_rfl⟩
theorem fo102 : FnOK Try.prog 102 := ⟨Try.f102, Try.func102, by kernel_rfl, by kernel_rfl⟩
theorem fo103 : FnOK Try.prog 103 := ⟨Try.f103, Try.func103, by kernel_rfl, by kernel_rfl⟩
theorem fo104 : FnOK Try.prog 104 := ⟨Try.f104, Try.func104, by kernel_rfl, by kernel_rfl⟩
theorem fo105 : FnOK Try.prog 105 := ⟨Try.f105, Try.func105, by kernel_rfl, by kernel_rfl⟩
theorem fo106 : FnOK Try.prog 106 := ⟨Try.f106, Try.func106, by kernel_rfl, by kernel_rfl⟩
theorem fo107 : FnOK Try.prog 107 := ⟨Try.f107, Try.func107, by kernel_rfl, by kernel_rfl⟩
theorem fo108 : FnOK Try.prog 108 := ⟨Try.f108, Try.func108, by kernel_rfl, by kernel_rfl⟩
theorem fo109 : FnOK Try.prog 109 := ⟨Try.f109, Try.func109, by kernel_rfl, by kernel_rfl⟩
theorem fo110 : FnOK Try.prog 110 := ⟨Try.f110, Try.func110, by kernel_rfl, by kernel_rfl⟩
theorem fo111 : FnOK Try.prog 111 := ⟨Try.f111, Try.func111, by kernel_rfl, by kernel_rfl⟩
theorem fo112 : FnOK Try.prog 112 := ⟨Try.f112, Try.func112, by kernel_rfl, by kernel_rfl⟩
theorem fo113 : FnOK Try.prog 113 := ⟨Try.f113, Try.func113, by kernel_rfl, by kernel_rfl⟩
theorem fo114 : FnOK Try.prog 114 := ⟨Try.f114, Try.func114, by kernel_rfl, by kernel_rfl⟩
theorem fo115 : FnOK Try.prog 115 := ⟨Try.f115, Try.func115, by kernel_rfl, by kernel_rfl⟩
theorem fo116 : FnOK Try.prog 116 := ⟨Try.f116, Try.func116, by kernel_rfl, by kernel_rfl⟩
theorem fo117 : FnOK Try.prog 117 := ⟨Try.f117, Try.func117, by kernel_rfl, by kernel_rfl⟩
theorem fo118 : FnOK Try.prog 118 := ⟨Try.f118, Try.func118, by kernel_rfl, by kernel_rfl⟩
theorem fo119 : FnOK Try.prog 119 := ⟨Try.f119, Try.func119, by kernel_rfl, by kernel_rfl⟩
theorem fo120 : FnOK Try.prog 120 := ⟨Try.f120, Try.func120, by kernel_rfl, by kernel_rfl⟩
theorem fo121 : FnOK Try.prog 121 := ⟨Try.f121, Try.func121, by kernel_rfl, by kernel_rfl⟩
theorem fo122 : FnOK Try.prog 122 := ⟨Try.f122, Try.func122, by kernel_rfl, by kernel_rfl⟩
theorem fo124 : FnOK Try.prog 124 := ⟨Try.f124, Try.func124, by kernel_rfl, by kernel_rfl⟩
theorem fo125 : FnOK Try.prog 125 := ⟨Try.f125, Try.func125, by kernel_rfl, by kernel_rfl⟩
theorem fo126 : FnOK Try.prog 126 := ⟨Try.f126, Try.func126, by kernel_rfl, by kernel_rfl⟩
theorem fo127 : FnOK Try.prog 127 := ⟨Try.f127, Try.func127, by kernel_rfl, by kernel_rfl⟩
theorem fo128 : FnOK Try.prog 128 := ⟨Try.f128, Try.func128, by kernel_rfl, by kernel_rfl⟩
theorem fo129 : FnOK Try.prog 129 := ⟨Try.f129, Try.func129, by kernel_rfl, by kernel_rfl⟩
theorem fo130 : FnOK Try.prog 130 := ⟨Try.f130, Try.func130, by kernel_rfl, by kernel_rfl⟩
theorem fo131 : FnOK Try.prog 131 := ⟨Try.f131, Try.func131, by kernel_rfl, by kernel_rfl⟩
theorem fo132 : FnOK Try.prog 132 := ⟨Try.f132, Try.func132, by kernel_rfl, by kernel_rfl⟩
theorem fo133 : FnOK Try.prog 133 := ⟨Try.f133, Try.func133, by kernel_rfl, by kernel_rfl⟩
theorem fo134 : FnOK Try.prog 134 := ⟨Try.f134, Try.func134, by kernel_rfl, by kernel_rfl⟩
theorem fo135 : FnOK Try.prog 135 := ⟨Try.f135, Try.func135, by kernel_rfl, by kernel_rfl⟩
theorem fo136 : FnOK Try.prog 136 := ⟨Try.f136, Try.func136, by kernel_rfl, by kernel_rfl⟩
theorem fo137 : FnOK Try.prog 137 := ⟨Try.f137, Try.func137, by kernel_rfl, by kernel_rfl⟩
theorem fo138 : FnOK Try.prog 138 := ⟨Try.f138, Try.func138, by kernel_rfl, by kernel_rfl⟩
theorem fo139 : FnOK Try.prog 139 := ⟨Try.f139, Try.func139, by kernel_rfl, by kernel_rfl⟩
theorem fo140 : FnOK Try.prog 140 := ⟨Try.f140, Try.func140, by kernel_rfl, by kernel_rfl⟩
theorem fo141 : FnOK Try.prog 141 := ⟨Try.f141, Try.func141, by kernel_rfl, by kernel_rfl⟩
theorem fo142 : FnOK Try.prog 142 := ⟨Try.f142, Try.func142, by kernel_rfl, by kernel_rfl⟩
theorem fo143 : FnOK Try.prog 143 := ⟨Try.f143, Try.func143, by kernel_rfl, by kernel_rfl⟩
theorem fo144 : FnOK Try.prog 144 := ⟨Try.f144, Try.func144, by kernel_rfl, by kernel_rfl⟩
theorem sigs_ok : AllP (fun p => FnOK Try.prog (p.1 % 100000)) sigs := ⟨fo6, fo24, fo25, fo26, fo27, fo28, fo29, fo30, fo31, fo32, fo42, fo43, fo45, fo46, fo48, fo53, fo56, fo63, fo64, fo65, fo66, fo67, fo68, fo69, fo70, fo71, fo72, fo73, fo76, fo77, fo78, fo79, fo80, fo82, fo83, fo85, fo86, fo89, fo90, fo91, fo92, fo93, fo94, fo95, fo96, fo97, fo98, fo99, fo100, fo101, fo102, fo103, fo104, fo105, fo106, fo107, fo108, fo109, fo110, fo111, fo112, fo113, fo114, fo115, fo116, fo117, fo118, fo119, fo120, fo121, fo122, fo124, fo125, fo126, fo127, fo128, fo129, fo130, fo131, fo132, fo133, fo134, fo135, fo136, fo137, fo138, fo139, fo140, fo141, fo142, fo143, fo144, trivial⟩
theorem fns_ok : AllP (fun p => Try.prog.funcs[p.1 % 100000]? = some p.2.fn) fns := ⟨Try.func6, Try.func24, Try.func25, Try.func26, Try.func27, Try.func28, Try.func29, Try.func30, Try.func31, Try.func32, Try.func42, Try.func43, Try.func45, Try.func46, Try.func48, Try.func53, Try.func56, Try.func63, Try.func64, Try.func65, Try.func66, Try.func67, Try.func68, Try.func69, Try.func70, Try.func71, Try.func72, Try.func73, Try.func76, Try.func77, Try.func78, Try.func79, Try.func80, Try.func82, Try.func83, Try.func85, Try.func86, Try.func89, Try.func90, Try.func91, Try.func92, Try.func93, Try.func94, Try.func95, Try.func96, Try.func97, Try.func98, Try.func99, Try.func100, Try.func101, Try.func102, Try.func103, Try.func104, Try.func105, Try.func106, Try.func107, Try.func108, Try.func109, Try.func110, Try.func111, Try.func112, Try.func113, Try.func114, Try.func115, Try.func116, Try.func117, Try.func118, Try.func119, Try.func120, Try.func121, Try.func122, Try.func124, Try.func125, Try.func126, Try.func127, Try.func128, Try.func129, Try.func130, Try.func131, Try.func132, Try.func133, Try.func134, Try.func135, Try.func136, Try.func137, Try.func138, Try.func139, Try.func140, Try.func141, Try.func142, Try.func143, Try.func144, trivial⟩
noncomputable def arityB (p : Nat × FnI) : Bool := match lk sigs p.1 with
  | some sg => Nat.ble sg.ps.length p.2.fn.ntmps
  | none => true
theorem arity_ok : fns.all arityB = true := by kernel_rfl
theorem ordered : Try.prog.follows .mixedOrders = true := by kernel_rfl
theorem env_ok : EnvOK Try.prog ⟨T.tt, fun _ => none, T.eqt, T.sig, fun _ _ _ => none, fun _ => 0⟩ := ⟨fun t i h => tts_ok.mem (t, i) (lk_mem h), fun t h => by
    have h : t ∈ eqts := hasN_mem.1 h
    exact absurd h (by simp [eqts])⟩
theorem envx_ok : EnvCl Try.prog (envX (lk tts) (hasN eqts)) := ⟨⟨env_ok.tt, env_ok.eqt⟩, (fun f sg h => by cases h), (fun f sg x r h _ => by cases h)⟩
theorem cl_82 (xs : List Int) (r : sg_slices_Clone_int_int.R) (h : chk (room ([] : List Int).length xs.length) (some ((xs, ()), ())) = some r) : CallOK Try.prog 82 sg_slices_Clone_int_int (xs, ()) r :=
  clone_ok (e := 3) (t := (.int .i64)) ordered envx_ok (f := 82) (fi := ⟨Try.f82, anClone, lk ty_slices_Clone_int_int, fun _ => 0⟩) Try.func82 (Nat.le_of_ble_eq_true (by kernel_rfl)) (by kernel_rfl) (fun xs => by kernel_rfl) xs r h
theorem tab_ok : TabOK Try.prog T where
  ord := ordered
  ok := env_ok
  fnok := fun f sg h => sigs_ok.mem (f, sg) (lk_mem h)
  fns := fun f fi h => fns_ok.mem (f, fi) (lk_mem h)
  arity := fun f fi sg h1 h2 => by
    have := List.all_eq_true.1 arity_ok (f, fi) (lk_mem h1)
    unfold arityB at this
    rw [show lk sigs f = some sg from h2] at this
    exact Nat.le_of_ble_eq_true this
  ext := fun k f sg g x r h1 h2 h3 => by
    have h2 : (bif hasN clones f then cloneX sg else none) = some g := h2
    cases hq : hasN clones f with
    | false => rw [hq] at h2; cases h2
    | true =>
      rw [hq] at h2
      have hm : f ∈ clones := hasN_mem.1 hq
      simp only [clones, List.mem_cons, List.not_mem_nil, or_false] at hm
      rcases hm with rfl
      · exact cloneX_ok (Option.some.inj (h1.symm.trans (show T.sig 82 = some sg_slices_Clone_int_int by kernel_rfl))) cl_82 h2 h3
end Go.Gx

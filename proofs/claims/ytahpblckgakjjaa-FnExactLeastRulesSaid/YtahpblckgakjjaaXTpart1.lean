/-
  The tables of the seat, and what each function comes to.
-/
import Derived.Test.YtahpblckgakjjaaXGpart5
import Derived.Test.YtahpblckgakjjaaProg
import Derived.KernelRfl
import Derived.Test.YtahpblckgakjjaaXSh
set_option linter.unusedVariables false
namespace Go.Gx
open Go.Proofs
def tts : List (Nat × TI) := [
  (3, { agg := false, size := 1, bytes := 8, zero := .int .i64 0, fields := [], elem := none, ik := some .i64, isStr := false, isB := false, hasZ := true, arr := none, mp := none }),
  (4, { agg := false, size := 1, bytes := 1, zero := .bool false, fields := [], elem := none, ik := none, isStr := false, isB := true, hasZ := true, arr := none, mp := none }),
  (5, { agg := false, size := 1, bytes := 1, zero := .int .u8 0, fields := [], elem := none, ik := some .u8, isStr := false, isB := false, hasZ := true, arr := none, mp := none }),
  (9, { agg := false, size := 1, bytes := 16, zero := .string ByteArray.empty, fields := [], elem := none, ik := none, isStr := true, isB := false, hasZ := true, arr := none, mp := none }),
  (23, { agg := false, size := 1, bytes := 24, zero := .slice none 0 0, fields := [], elem := some 53, ik := none, isStr := false, isB := false, hasZ := true, arr := none, mp := none }),
  (24, { agg := false, size := 1, bytes := 24, zero := .slice none 0 0, fields := [], elem := some 3, ik := none, isStr := false, isB := false, hasZ := true, arr := none, mp := none }),
  (26, { agg := true, size := 4, bytes := 48, zero := .agg #[.int .i64 0, .int .i64 0, .int .i64 0, .slice none 0 0], fields := [(0, 1, false), (1, 1, false), (2, 1, false), (3, 1, false)], elem := none, ik := none, isStr := false, isB := false, hasZ := true, arr := none, mp := none }),
  (31, { agg := false, size := 1, bytes := 24, zero := .slice none 0 0, fields := [], elem := some 60, ik := none, isStr := false, isB := false, hasZ := true, arr := none, mp := none }),
  (33, { agg := true, size := 4, bytes := 80, zero := .agg #[.slice none 0 0, .slice none 0 0, .slice none 0 0, .bool false], fields := [(0, 1, false), (1, 1, false), (2, 1, false), (3, 1, false)], elem := none, ik := none, isStr := false, isB := false, hasZ := true, arr := none, mp := none }),
  (43, { agg := false, size := 1, bytes := 24, zero := .slice none 0 0, fields := [], elem := some 82, ik := none, isStr := false, isB := false, hasZ := true, arr := none, mp := none }),
  (53, { agg := true, size := 2, bytes := 16, zero := .agg #[.int .i64 0, .int .i64 0], fields := [(0, 1, false), (1, 1, false)], elem := none, ik := none, isStr := false, isB := false, hasZ := true, arr := none, mp := none }),
  (60, { agg := true, size := 3, bytes := 40, zero := .agg #[.int .i64 0, .int .i64 0, .slice none 0 0], fields := [(0, 1, false), (1, 1, false), (2, 1, false)], elem := none, ik := none, isStr := false, isB := false, hasZ := true, arr := none, mp := none }),
  (66, { agg := false, size := 1, bytes := 24, zero := .slice none 0 0, fields := [], elem := some 4, ik := none, isStr := false, isB := false, hasZ := true, arr := none, mp := none }),
  (68, { agg := true, size := 5, bytes := 104, zero := .agg #[.slice none 0 0, .slice none 0 0, .slice none 0 0, .slice none 0 0, .bool false], fields := [(0, 1, false), (1, 1, false), (2, 1, false), (3, 1, false), (4, 1, false)], elem := none, ik := none, isStr := false, isB := false, hasZ := true, arr := none, mp := none }),
  (82, { agg := true, size := 2, bytes := 16, zero := .agg #[.int .i64 0, .int .i64 0], fields := [(0, 1, false), (1, 1, false)], elem := none, ik := none, isStr := false, isB := false, hasZ := true, arr := none, mp := none }),
  (108, { agg := false, size := 1, bytes := 8, zero := .int .u64 0, fields := [], elem := none, ik := some .u64, isStr := false, isB := false, hasZ := true, arr := none, mp := none }),
  (141, { agg := false, size := 1, bytes := 8, zero := .int .u64 0, fields := [], elem := none, ik := some .u64, isStr := false, isB := false, hasZ := true, arr := none, mp := none }),
  (148, { agg := false, size := 1, bytes := 8, zero := .int .u64 0, fields := [], elem := none, ik := some .u64, isStr := false, isB := false, hasZ := true, arr := none, mp := none })]
theorem tt3 : tinfo Try.prog 3 = lk tts 3 := by kernel_rfl
theorem tt4 : tinfo Try.prog 4 = lk tts 4 := by kernel_rfl
theorem tt5 : tinfo Try.prog 5 = lk tts 5 := by kernel_rfl
theorem tt9 : tinfo Try.prog 9 = lk tts 9 := by kernel_rfl
theorem tt23 : tinfo Try.prog 23 = lk tts 23 := by kernel_rfl
theorem tt24 : tinfo Try.prog 24 = lk tts 24 := by kernel_rfl
theorem tt26 : tinfo Try.prog 26 = lk tts 26 := by kernel_rfl
theorem tt31 : tinfo Try.prog 31 = lk tts 31 := by kernel_rfl
theorem tt33 : tinfo Try.prog 33 = lk tts 33 := by kernel_rfl
theorem tt43 : tinfo Try.prog 43 = lk tts 43 := by kernel_rfl
theorem tt53 : tinfo Try.prog 53 = lk tts 53 := by kernel_rfl
theorem tt60 : tinfo Try.prog 60 = lk tts 60 := by kernel_rfl
theorem tt66 : tinfo Try.prog 66 = lk tts 66 := by kernel_rfl
theorem tt68 : tinfo Try.prog 68 = lk tts 68 := by kernel_rfl
theorem tt82 : tinfo Try.prog 82 = lk tts 82 := by kernel_rfl
theorem tt108 : tinfo Try.prog 108 = lk tts 108 := by kernel_rfl
theorem tt141 : tinfo Try.prog 141 = lk tts 141 := by kernel_rfl
theorem tt148 : tinfo Try.prog 148 = lk tts 148 := by kernel_rfl
theorem tts_ok : AllP (fun p => tinfo Try.prog p.1 = some p.2) tts := ⟨tt3, tt4, tt5, tt9, tt23, tt24, tt26, tt31, tt33, tt43, tt53, tt60, tt66, tt68, tt82, tt108, tt141, tt148, trivial⟩
abbrev sg_l_szOpS : Sig := ⟨[.leaf (.ro (.pair (.int .i64) (.int .i64))), .leaf (.int .i64)], [.leaf (.int .i64)]⟩
def an_l_szOpS : Ann := .seq none .leaf (.seq none .leaf (.seq none (.seq none .leaf (.cond (.seq none .leaf .leaf) .leaf)) (.seq none .leaf .leaf)))
def ty_l_szOpS : List (Nat × Ty) := []
def vr_l_szOpS : Nat → Nat := fun _ => 0
abbrev sg_l_toOp : Sig := ⟨[.agg [.int .i64, .int .i64]], [.agg [.int .i64, .int .i64]]⟩
def an_l_toOp : Ann := .seq none .leaf (.seq none .leaf (.seq none .leaf (.seq none .leaf (.seq none .leaf .leaf))))
def ty_l_toOp : List (Nat × Ty) := []
def vr_l_toOp : Nat → Nat := fun _ => 0
abbrev sg_l_toOpS : Sig := ⟨[.leaf (.ro (.pair (.int .i64) (.int .i64)))], [.leaf (.own 53 (.pair (.int .i64) (.int .i64)))]⟩
def an_l_toOpS : Ann := .seq none .leaf (.seq none .leaf (.seq none (.seq none .leaf (.block (.loop ⟨[0, 3, 4], [.leaf (.ro (.pair (.int .i64) (.int .i64))), .leaf (.own 53 (.pair (.int .i64) (.int .i64))), .leaf (.int .i64)]⟩ (.seq none (.seq none .leaf (.cond .leaf .leaf)) (.seq none (.block .leaf) .leaf))))) (.seq none .leaf .leaf)))
def ty_l_toOpS : List (Nat × Ty) := [(53, (.pair (.int .i64) (.int .i64)))]
def vr_l_toOpS : Nat → Nat := fun _ => 0
abbrev sg_s_argOf : Sig := ⟨[.leaf (.int .i64)], [.leaf (.int .i64)]⟩
def an_s_argOf : Ann := .seq none .leaf (.seq none (.seq none .leaf (.block (.seq none .leaf (.cond (.seq none .leaf .leaf) (.seq none .leaf (.cond (.seq none .leaf .leaf) (.seq none .leaf (.cond (.seq none .leaf .leaf) (.seq (some ⟨[10], [.leaf .bool]⟩) (.seq none .leaf (.cond .leaf .leaf)) (.cond (.seq none .leaf .leaf) .leaf)))))))))) (.seq none .leaf .leaf))
def ty_s_argOf : List (Nat × Ty) := []
def vr_s_argOf : Nat → Nat := fun _ => 0
abbrev sg_Z59 : Sig := ⟨[.leaf (.int .i64), .leaf (.int .i64), .leaf (.int .i64)], [.leaf .bool]⟩
def an_Z59 : Ann := .seq none .leaf (.seq none .leaf .leaf)
def ty_Z59 : List (Nat × Ty) := []
def vr_Z59 : Nat → Nat := fun _ => 0
abbrev sg_Z65 : Sig := ⟨[.agg [.int .i64, .int .i64]], [.leaf .bool]⟩
def an_Z65 : Ann := .seq none .leaf (.seq none .leaf (.seq none .leaf .leaf))
def ty_Z65 : List (Nat × Ty) := []
def vr_Z65 : Nat → Nat := fun _ => 0
abbrev sg_Z58 : Sig := ⟨[.leaf (.ro (.pair (.int .i64) (.int .i64)))], [.leaf .bool]⟩
def an_Z58 : Ann := .seq none .leaf (.seq none (.seq none .leaf (.block (.loop ⟨[0, 3], [.leaf (.ro (.pair (.int .i64) (.int .i64))), .leaf (.int .i64)]⟩ (.seq none (.seq none .leaf (.cond .leaf .leaf)) (.seq none (.block (.seq none .leaf (.cond (.seq none .leaf .leaf) .leaf))) .leaf))))) (.seq none .leaf .leaf))
def ty_Z58 : List (Nat × Ty) := []
def vr_Z58 : Nat → Nat := fun _ => 0
abbrev sg_Z49 : Sig := ⟨[], [.agg [.own 3 (.int .i64), .own 4 .bool, .own 3 (.int .i64), .own 3 (.int .i64), .bool]]⟩
def an_Z49 : Ann := .seq none .leaf (.seq none .leaf (.seq none (.seq none .leaf (.block (.loop ⟨[0, 1, 2], [.box 68 [.nil, .nil, .nil, .nil, .bool] [], .box 68 [.nil, .nil, .nil, .own 3 (.int .i64), .bool] [], .leaf (.int .i64)]⟩ (.seq none (.seq none .leaf (.cond .leaf .leaf)) (.seq none (.block .leaf) .leaf))))) (.seq none .leaf .leaf)))
def ty_Z49 : List (Nat × Ty) := [(3, (.int .i64))]
def vr_Z49 : Nat → Nat := fun _ => 0
abbrev sg_Z53 : Sig := ⟨[.leaf (.ro (.int .i64))], [.leaf (.own 3 (.int .i64))]⟩
def an_Z53 : Ann := .seq none .leaf (.seq none .leaf .leaf)
def ty_Z53 : List (Nat × Ty) := [(3, (.int .i64))]
def vr_Z53 : Nat → Nat := fun _ => 0
abbrev sg_Z34 : Sig := ⟨[.agg [.ro (.int .i64), .ro .bool, .ro (.int .i64), .ro (.int .i64), .bool]], [.agg [.own 3 (.int .i64), .own 4 .bool, .own 3 (.int .i64), .own 3 (.int .i64), .bool]]⟩
def an_Z34 : Ann := .seq none .leaf (.seq none .leaf .leaf)
def ty_Z34 : List (Nat × Ty) := [(4, .bool)]
def vr_Z34 : Nat → Nat := fun _ => 0
abbrev sg_Z61 : Sig := ⟨[.leaf (.int .i64)], [.leaf (.int .i64)]⟩
def an_Z61 : Ann := .seq none .leaf (.seq none (.seq none .leaf (.block (.seq none .leaf (.cond (.seq none .leaf .leaf) (.seq none .leaf (.cond (.seq none .leaf .leaf) (.seq none .leaf (.cond (.seq none .leaf .leaf) (.seq none .leaf (.cond (.seq none .leaf .leaf) (.seq none .leaf (.cond (.seq none .leaf .leaf) (.seq none .leaf (.cond (.seq none .leaf .leaf) .leaf)))))))))))))) (.seq none .leaf .leaf))
def ty_Z61 : List (Nat × Ty) := []
def vr_Z61 : Nat → Nat := fun _ => 0
abbrev sg_Z44 : Sig := ⟨[.agg [.own 3 (.int .i64), .own 4 .bool, .own 3 (.int .i64), .own 3 (.int .i64), .bool], .leaf (.int .i64)], [.agg [.own 3 (.int .i64), .own 4 .bool, .own 3 (.int .i64), .own 3 (.int .i64), .bool]]⟩
def an_Z44 : Ann := .seq none .leaf (.seq none .leaf (.seq none .leaf (.seq none .leaf (.seq none .leaf .leaf))))
def ty_Z44 : List (Nat × Ty) := [(3, (.int .i64)), (4, .bool)]
def vr_Z44 : Nat → Nat := fun _ => 0
abbrev sg_Z62 : Sig := ⟨[.agg [.ro (.int .i64), .ro .bool, .ro (.int .i64), .ro (.int .i64), .bool], .leaf (.int .i64)], [.leaf (.int .i64)]⟩
def an_Z62 : Ann := .seq none .leaf (.seq none .leaf (.seq none (.seq (some ⟨[2, 5, 21], [.box 68 [.ro (.int .i64), .ro .bool, .ro (.int .i64), .ro (.int .i64), .bool] [], .leaf (.int .i64), .leaf .bool]⟩) .leaf (.cond (.seq none .leaf .leaf) .leaf)) (.seq none .leaf .leaf)))
def ty_Z62 : List (Nat × Ty) := []
def vr_Z62 : Nat → Nat := fun _ => 0
abbrev sg_Z67 : Sig := ⟨[.leaf (.int .i64)], [.leaf .bool]⟩
def an_Z67 : Ann := .seq none .leaf (.seq none .leaf .leaf)
def ty_Z67 : List (Nat × Ty) := []
def vr_Z67 : Nat → Nat := fun _ => 0
abbrev sg_Z39 : Sig := ⟨[.agg [.own 3 (.int .i64), .own 4 .bool, .own 3 (.int .i64), .own 3 (.int .i64), .bool], .leaf (.int .i64)], [.agg [.own 3 (.int .i64), .own 4 .bool, .own 3 (.int .i64), .own 3 (.int .i64), .bool], .leaf .bool]⟩
def an_Z39 : Ann := .seq none .leaf (.seq none .leaf (.seq none (.block (.loop ⟨[1, 2, 4, 6], [.leaf (.int .i64), .box 68 [.own 3 (.int .i64), .own 4 .bool, .own 3 (.int .i64), .own 3 (.int .i64), .bool] [], .box 68 [.nil, .nil, .nil, .nil, .bool] [], .leaf (.int .i64)]⟩ (.seq none (.seq (some ⟨[1, 2, 4, 6, 22], [.leaf (.int .i64), .box 68 [.own 3 (.int .i64), .own 4 .bool, .own 3 (.int .i64), .own 3 (.int .i64), .bool] [], .box 68 [.nil, .nil, .nil, .nil, .bool] [], .leaf (.int .i64), .leaf .bool]⟩) .leaf (.cond .leaf .leaf)) (.block .leaf)))) (.seq none (.seq none .leaf (.cond (.seq none .leaf .leaf) .leaf)) (.seq none .leaf (.seq none .leaf (.seq none (.seq none .leaf (.block (.seq none .leaf (.cond (.seq none .leaf .leaf) (.seq none .leaf (.cond (.seq none .leaf .leaf) (.seq none .leaf (.cond (.seq none (.seq none .leaf (.block (.loop ⟨[2, 4, 7, 8], [.box 68 [.own 3 (.int .i64), .own 4 .bool, .own 3 (.int .i64), .own 3 (.int .i64), .bool] [], .box 68 [.nil, .nil, .nil, .nil, .bool] [], .leaf (.own 3 (.int .i64)), .leaf (.int .i64)]⟩ (.seq none (.seq none .leaf (.cond .leaf .leaf)) (.seq none (.block (.seq none .leaf (.cond (.seq none .leaf .leaf) .leaf))) .leaf))))) (.seq none .leaf .leaf)) .leaf)))))))) (.seq none .leaf .leaf)))))))
def ty_Z39 : List (Nat × Ty) := []
def vr_Z39 : Nat → Nat := fun _ => 0
abbrev sg_Z36 : Sig := ⟨[.agg [.own 3 (.int .i64), .own 4 .bool, .own 3 (.int .i64), .own 3 (.int .i64), .bool], .agg [.int .i64, .int .i64]], [.agg [.own 3 (.int .i64), .own 4 .bool, .own 3 (.int .i64), .own 3 (.int .i64), .bool], .leaf .bool]⟩
def an_Z36 : Ann := .seq none .leaf (.seq none .leaf (.seq none .leaf (.seq none .leaf (.seq none .leaf (.seq (some ⟨[2, 4, 8, 9], [.box 68 [.own 3 (.int .i64), .own 4 .bool, .own 3 (.int .i64), .own 3 (.int .i64), .bool] [], .box 68 [.nil, .nil, .nil, .nil, .bool] [], .leaf .bool, .leaf (.int .i64)]⟩) (.seq none .leaf (.block (.seq none .leaf (.cond (.seq none (.seq none .leaf (.cond (.seq none .leaf .leaf) .leaf)) (.seq none .leaf (.seq none .leaf .leaf))) (.seq none .leaf (.cond (.seq none (.seq (some ⟨[2, 4, 40], [.box 68 [.own 3 (.int .i64), .own 4 .bool, .own 3 (.int .i64), .own 3 (.int .i64), .bool] [], .box 68 [.nil, .nil, .nil, .nil, .bool] [], .leaf .bool]⟩) .leaf (.cond (.seq none .leaf .leaf) .leaf)) (.seq none .leaf (.seq none .leaf .leaf))) (.seq none .leaf (.cond .leaf (.seq none .leaf (.cond (.seq none .leaf .leaf) (.seq none .leaf (.cond (.seq (some ⟨[2, 4, 8, 9], [.box 68 [.own 3 (.int .i64), .own 4 .bool, .own 3 (.int .i64), .own 3 (.int .i64), .bool] [], .box 68 [.nil, .nil, .nil, .nil, .bool] [], .leaf .bool, .leaf (.int .i64)]⟩) .leaf (.seq none .leaf (.cond .leaf .leaf))) (.seq none .leaf (.cond (.seq none (.seq none .leaf (.cond .leaf .leaf)) .leaf) (.seq none .leaf (.cond (.seq none .leaf (.seq none .leaf .leaf)) .leaf)))))))))))))))) (.seq none (.seq none .leaf (.cond (.seq none .leaf .leaf) .leaf)) (.seq none .leaf (.seq none .leaf .leaf))))))))
def ty_Z36 : List (Nat × Ty) := []
def vr_Z36 : Nat → Nat := fun _ => 0
abbrev sg_Z38 : Sig := ⟨[.agg [.own 3 (.int .i64), .own 4 .bool, .own 3 (.int .i64), .own 3 (.int .i64), .bool], .agg [.int .i64, .int .i64]], [.agg [.own 3 (.int .i64), .own 4 .bool, .own 3 (.int .i64), .own 3 (.int .i64), .bool], .leaf .bool]⟩
def an_Z38 : Ann := .seq none .leaf (.seq none .leaf (.seq none (.seq none .leaf (.cond (.seq none .leaf .leaf) .leaf)) (.seq (some ⟨[2, 4, 6], [.box 68 [.own 3 (.int .i64), .own 4 .bool, .own 3 (.int .i64), .own 3 (.int .i64), .bool] [], .box 68 [.nil, .nil, .nil, .nil, .bool] [], .leaf .bool]⟩) (.block (.seq none .leaf (.cond .leaf (.seq none .leaf (.cond .leaf (.seq none .leaf (.cond (.seq none (.seq none .leaf (.cond (.seq none .leaf .leaf) .leaf)) .leaf) (.seq (some ⟨[2, 3, 4, 61], [.box 68 [.own 3 (.int .i64), .own 4 .bool, .own 3 (.int .i64), .own 3 (.int .i64), .bool] [], .box 53 [.int .i64, .int .i64] [], .box 68 [.nil, .nil, .nil, .nil, .bool] [], .leaf .bool]⟩) .leaf (.cond .leaf .leaf))))))))) (.seq none .leaf .leaf))))
def ty_Z38 : List (Nat × Ty) := [(3, (.int .i64))]
def vr_Z38 : Nat → Nat := fun _ => 0
abbrev sg_Z45 : Sig := ⟨[.leaf (.ro (.pair (.int .i64) (.int .i64)))], [.agg [.own 3 (.int .i64), .own 4 .bool, .own 3 (.int .i64), .own 3 (.int .i64), .bool], .leaf (.int .i64)]⟩
def an_Z45 : Ann := .seq none .leaf (.seq none .leaf (.seq none (.seq none .leaf (.block (.loop ⟨[0, 2, 4, 5], [.leaf (.ro (.pair (.int .i64) (.int .i64))), .box 68 [.nil, .nil, .nil, .nil, .bool] [], .box 68 [.own 3 (.int .i64), .own 4 .bool, .own 3 (.int .i64), .own 3 (.int .i64), .bool] [], .leaf (.int .i64)]⟩ (.seq none (.seq none .leaf (.cond .leaf .leaf)) (.seq none (.block (.seq none .leaf (.seq none (.seq none .leaf (.cond (.seq none .leaf .leaf) .leaf)) .leaf))) .leaf))))) (.seq none .leaf .leaf)))
def ty_Z45 : List (Nat × Ty) := []
def vr_Z45 : Nat → Nat := fun _ => 0
abbrev sg_Z57 : Sig := ⟨[.leaf (.ro (.pair (.int .i64) (.int .i64)))], [.leaf (.own 3 (.int .i64))]⟩
def an_Z57 : Ann := .seq none .leaf (.seq none (.seq none .leaf (.cond (.seq none .leaf .leaf) .leaf)) (.seq none .leaf (.seq none .leaf (.seq none (.seq none .leaf (.block (.loop ⟨[0, 3, 5, 6], [.leaf (.ro (.pair (.int .i64) (.int .i64))), .leaf (.own 3 (.int .i64)), .leaf (.int .i64), .leaf (.int .i64)]⟩ (.seq none (.seq none .leaf (.cond .leaf .leaf)) (.seq none (.block (.seq none .leaf .leaf)) .leaf))))) (.seq none .leaf .leaf)))))
def ty_Z57 : List (Nat × Ty) := [(3, (.int .i64))]
def vr_Z57 : Nat → Nat := fun _ => 0
abbrev sg_Z48 : Sig := ⟨[.leaf (.ro (.pair (.int .i64) (.int .i64)))], [.leaf (.own 3 (.int .i64))]⟩
def an_Z48 : Ann := .seq none .leaf (.seq none (.seq none .leaf (.cond (.seq none .leaf .leaf) .leaf)) (.seq none .leaf (.seq none (.seq none .leaf (.block (.loop ⟨[0, 3, 4], [.leaf (.ro (.pair (.int .i64) (.int .i64))), .leaf (.own 3 (.int .i64)), .leaf (.int .i64)]⟩ (.seq none (.seq none .leaf (.cond .leaf .leaf)) (.seq (some ⟨[0, 3, 4], [.leaf (.ro (.pair (.int .i64) (.int .i64))), .leaf (.own 3 (.int .i64)), .leaf (.int .i64)]⟩) (.block (.seq none .leaf (.block (.loop ⟨[0, 3, 4, 5], [.leaf (.ro (.pair (.int .i64) (.int .i64))), .leaf (.own 3 (.int .i64)), .leaf (.int .i64), .leaf (.int .i64)]⟩ (.seq none (.seq none .leaf (.cond .leaf .leaf)) (.seq none (.block (.seq (some ⟨[0, 3, 4, 5, 34], [.leaf (.ro (.pair (.int .i64) (.int .i64))), .leaf (.own 3 (.int .i64)), .leaf (.int .i64), .leaf (.int .i64), .leaf .bool]⟩) .leaf (.cond (.seq none .leaf .leaf) .leaf))) .leaf)))))) .leaf))))) (.seq none .leaf .leaf))))
def ty_Z48 : List (Nat × Ty) := [(3, (.int .i64))]
def vr_Z48 : Nat → Nat := fun _ => 0
abbrev sg_Z33 : Sig := ⟨[.leaf (.ro (.pair (.int .i64) (.int .i64)))], [.agg [.int .i64, .int .i64, .int .i64, .own 3 (.int .i64)], .leaf .bool]⟩
def an_Z33 : Ann := .seq none .leaf (.seq none (.seq none .leaf (.cond (.seq none .leaf .leaf) .leaf)) (.seq none .leaf (.seq none (.seq none .leaf (.cond (.seq none .leaf .leaf) .leaf)) (.seq none .leaf (.seq none .leaf (.seq none (.seq none .leaf (.block (.loop ⟨[0, 2, 4, 6, 7, 8], [.leaf (.ro (.pair (.int .i64) (.int .i64))), .box 26 [.int .i64, .int .i64, .int .i64, .nil] [], .box 68 [.own 3 (.int .i64), .own 4 .bool, .own 3 (.int .i64), .own 3 (.int .i64), .bool] [], .leaf (.int .i64), .leaf (.own 3 (.int .i64)), .leaf (.int .i64)]⟩ (.seq none (.seq none .leaf (.cond .leaf .leaf)) (.seq none (.block .leaf) .leaf))))) (.seq none .leaf .leaf)))))))
def ty_Z33 : List (Nat × Ty) := []
def vr_Z33 : Nat → Nat := fun _ => 0
abbrev sg_Z66 : Sig := ⟨[.leaf (.int .i64)], [.leaf (.int .i64)]⟩
def an_Z66 : Ann := .seq none .leaf (.seq none (.seq none .leaf (.block (.seq none .leaf (.cond (.seq none .leaf .leaf) (.seq none .leaf (.cond (.seq none .leaf .leaf) (.seq none .leaf (.cond (.seq none .leaf .leaf) (.seq (some ⟨[10], [.leaf .bool]⟩) (.seq none .leaf (.cond .leaf .leaf)) (.cond (.seq none .leaf .leaf) .leaf)))))))))) (.seq none .leaf .leaf))
def ty_Z66 : List (Nat × Ty) := []
def vr_Z66 : Nat → Nat := fun _ => 0
abbrev sg_i_opOk : Sig := ⟨[.agg [.int .i64, .int .i64]], [.leaf .bool]⟩
def an_i_opOk : Ann := .seq none .leaf (.seq none .leaf .leaf)
def ty_i_opOk : List (Nat × Ty) := []
def vr_i_opOk : Nat → Nat := fun _ => 0
abbrev sg_Z51 : Sig := ⟨[.leaf (.ro (.pair (.int .i64) (.int .i64)))], [.leaf .bool]⟩
def an_Z51 : Ann := .seq none .leaf (.seq none (.seq none .leaf (.block (.loop ⟨[0, 5, 6, 7], [.leaf (.ro (.pair (.int .i64) (.int .i64))), .leaf (.ro (.pair (.int .i64) (.int .i64))), .leaf (.int .i64), .leaf (.int .i64)]⟩ (.seq none .leaf (.seq none (.cond .leaf .leaf) (.seq none (.block (.seq none .leaf (.seq none .leaf (.cond (.seq none .leaf .leaf) .leaf)))) .leaf)))))) (.seq none .leaf .leaf))
def ty_Z51 : List (Nat × Ty) := []
def vr_Z51 : Nat → Nat := fun _ => 0
abbrev sg_Z40 : Sig := ⟨[.leaf (.int .i64)], [.agg [.own 60 (.pair (.int .i64) (.pair (.int .i64) (.os 3 (.int .i64)))), .nil, .own 3 (.int .i64), .bool]]⟩
def an_Z40 : Ann := .seq none .leaf (.seq none (.seq (some ⟨[0, 2, 10], [.leaf (.int .i64), .box 33 [.nil, .nil, .nil, .bool] [], .leaf .bool]⟩) .leaf (.cond (.seq none .leaf .leaf) .leaf)) (.seq none .leaf (.seq none (.seq none .leaf (.block (.loop ⟨[0, 2, 3, 16, 17], [.leaf (.int .i64), .box 33 [.nil, .nil, .nil, .bool] [], .box 33 [.nil, .nil, .own 3 (.int .i64), .bool] [], .leaf (.int .i64), .leaf (.int .i64)]⟩ (.seq none .leaf (.seq none (.cond .leaf .leaf) (.seq (some ⟨[0, 2, 3, 16, 17], [.leaf (.int .i64), .box 33 [.nil, .nil, .nil, .bool] [], .box 33 [.nil, .nil, .own 3 (.int .i64), .bool] [], .leaf (.int .i64), .leaf (.int .i64)]⟩) (.block (.seq none .leaf (.seq none .leaf (.cond .leaf .leaf)))) .leaf)))))) (.seq (some ⟨[2, 3], [.box 33 [.nil, .nil, .nil, .bool] [], .box 33 [.own 60 (.pair (.int .i64) (.pair (.int .i64) (.os 3 (.int .i64)))), .nil, .own 3 (.int .i64), .bool] []]⟩) (.seq none .leaf (.cond .leaf .leaf)) (.seq none .leaf .leaf)))))
def ty_Z40 : List (Nat × Ty) := [(3, (.int .i64)), (60, (.pair (.int .i64) (.pair (.int .i64) (.os 3 (.int .i64)))))]
def vr_Z40 : Nat → Nat := fun _ => 0
abbrev sg_Z18 : Sig := ⟨[.leaf (.ro (.int .i64))], [.leaf (.own 3 (.int .i64))]⟩
def an_Z18 : Ann := anClone
def ty_Z18 : List (Nat × Ty) := [(3, (.int .i64))]
def vr_Z18 : Nat → Nat := fun _ => 0
abbrev sg_Z22 : Sig := ⟨[.box 33 [.ownA 1 60 (.pair (.int .i64) (.pair (.int .i64) (.os 3 (.int .i64)))), .own 3 (.int .i64), .own 3 (.int .i64), .bool] [.ownA 1 60 (.pair (.int .i64) (.pair (.int .i64) (.os 3 (.int .i64)))), .own 3 (.int .i64), .own 3 (.int .i64), .bool]], [.leaf (.int .i64)]⟩
def an_Z22 : Ann := .seq none .leaf (.seq none .leaf (.seq none (.block (.loop ⟨[0, 3], [.box 33 [.ownA 1 60 (.pair (.int .i64) (.pair (.int .i64) (.os 3 (.int .i64)))), .own 3 (.int .i64), .own 3 (.int .i64), .bool] [], .leaf (.int .i64)]⟩ (.seq none (.seq (some ⟨[0, 3, 27], [.box 33 [.ownA 1 60 (.pair (.int .i64) (.pair (.int .i64) (.os 3 (.int .i64)))), .own 3 (.int .i64), .own 3 (.int .i64), .bool] [], .leaf (.int .i64), .leaf .bool]⟩) .leaf (.cond .leaf .leaf)) (.block .leaf)))) (.seq none .leaf .leaf)))
def ty_Z22 : List (Nat × Ty) := []
def vr_Z22 : Nat → Nat := fun _ => 0
abbrev sg_Z24 : Sig := ⟨[.box 33 [.ownA 1 60 (.pair (.int .i64) (.pair (.int .i64) (.os 3 (.int .i64)))), .own 3 (.int .i64), .own 3 (.int .i64), .bool] [.ownA 1 60 (.pair (.int .i64) (.pair (.int .i64) (.os 3 (.int .i64)))), .own 3 (.int .i64), .own 3 (.int .i64), .bool], .leaf (.int .i64)], [.leaf .bool]⟩
def an_Z24 : Ann := .seq none .leaf (.seq none .leaf (.seq none .leaf .leaf))
def ty_Z24 : List (Nat × Ty) := [(3, (.int .i64))]
def vr_Z24 : Nat → Nat := fun _ => 0
abbrev sg_Z25 : Sig := ⟨[.box 33 [.own 60 (.pair (.int .i64) (.pair (.int .i64) (.os 3 (.int .i64)))), .own 3 (.int .i64), .own 3 (.int .i64), .bool] [.own 60 (.pair (.int .i64) (.pair (.int .i64) (.os 3 (.int .i64)))), .own 3 (.int .i64), .own 3 (.int .i64), .bool], .leaf (.int .i64), .leaf (.int .i64), .leaf (.ro (.int .i64))], [.leaf .bool]⟩
def an_Z25 : Ann := .seq none .leaf (.seq none .leaf (.seq none .leaf .leaf))
def ty_Z25 : List (Nat × Ty) := [(60, (.pair (.int .i64) (.pair (.int .i64) (.os 3 (.int .i64)))))]
def vr_Z25 : Nat → Nat := fun _ => 0
abbrev sg_Z27 : Sig := ⟨[.box 33 [.ownA 1 60 (.pair (.int .i64) (.pair (.int .i64) (.os 3 (.int .i64)))), .own 3 (.int .i64), .own 3 (.int .i64), .bool] [.ownA 1 60 (.pair (.int .i64) (.pair (.int .i64) (.os 3 (.int .i64)))), .own 3 (.int .i64), .own 3 (.int .i64), .bool], .leaf (.int .i64)], [.leaf (.own 3 (.int .i64))]⟩
def an_Z27 : Ann := .seq none .leaf (.seq none .leaf (.seq none .leaf (.seq none .leaf (.seq none .leaf .leaf))))
def ty_Z27 : List (Nat × Ty) := []
def vr_Z27 : Nat → Nat := fun _ => 0
abbrev sg_Z23 : Sig := ⟨[.box 33 [.ownA 1 60 (.pair (.int .i64) (.pair (.int .i64) (.os 3 (.int .i64)))), .own 3 (.int .i64), .own 3 (.int .i64), .bool] [.ownA 1 60 (.pair (.int .i64) (.pair (.int .i64) (.os 3 (.int .i64)))), .own 3 (.int .i64), .own 3 (.int .i64), .bool]], [.leaf (.ro (.int .i64)), .leaf .bool]⟩
def an_Z23 : Ann := .seq none .leaf (.seq none .leaf (.seq none (.seq none .leaf (.cond (.seq none .leaf .leaf) .leaf)) (.seq none .leaf .leaf)))
def ty_Z23 : List (Nat × Ty) := []
def vr_Z23 : Nat → Nat := fun _ => 0
abbrev sg_Z31 : Sig := ⟨[.box 33 [.ownA 1 60 (.pair (.int .i64) (.pair (.int .i64) (.os 3 (.int .i64)))), .own 3 (.int .i64), .own 3 (.int .i64), .bool] [.ownA 1 60 (.pair (.int .i64) (.pair (.int .i64) (.os 3 (.int .i64)))), .own 3 (.int .i64), .own 3 (.int .i64), .bool], .leaf (.int .i64)], [.leaf (.elo 1 0), .leaf .bool]⟩
def an_Z31 : Ann := .seq none .leaf (.seq none (.seq none .leaf (.cond (.seq none .leaf .leaf) .leaf)) (.seq none .leaf (.seq none .leaf .leaf)))
def ty_Z31 : List (Nat × Ty) := []
def vr_Z31 : Nat → Nat := fun _ => 0
abbrev sg_Z63 : Sig := ⟨[.leaf (.ro (.pair (.int .i64) (.pair (.int .i64) (.sl (.int .i64))))), .leaf (.ro (.int .i64)), .agg [.int .i64, .int .i64, .any]], [.leaf (.int .i64)]⟩
def an_Z63 : Ann := .seq none .leaf (.seq none (.seq none .leaf (.block (.loop ⟨[0, 1, 5, 7], [.leaf (.ro (.pair (.int .i64) (.pair (.int .i64) (.sl (.int .i64))))), .leaf (.ro (.int .i64)), .box 60 [.int .i64, .int .i64, .any] [], .leaf (.int .i64)]⟩ (.seq none (.seq none .leaf (.cond .leaf .leaf)) (.seq none (.block (.seq none .leaf (.seq (some ⟨[0, 1, 5, 7, 33], [.leaf (.ro (.pair (.int .i64) (.pair (.int .i64) (.sl (.int .i64))))), .leaf (.ro (.int .i64)), .box 60 [.int .i64, .int .i64, .any] [], .leaf (.int .i64), .leaf .bool]⟩) .leaf (.cond (.seq none .leaf .leaf) .leaf)))) .leaf))))) (.seq none .leaf .leaf))
def ty_Z63 : List (Nat × Ty) := []
def vr_Z63 : Nat → Nat := fun _ => 0
abbrev sg_Z29 : Sig := ⟨[.box 33 [.ownA 1 60 (.pair (.int .i64) (.pair (.int .i64) (.os 3 (.int .i64)))), .own 3 (.int .i64), .own 3 (.int .i64), .bool] [.ownA 1 60 (.pair (.int .i64) (.pair (.int .i64) (.os 3 (.int .i64)))), .own 3 (.int .i64), .own 3 (.int .i64), .bool], .leaf (.ro (.int .i64))], [.leaf .bool]⟩
def an_Z29 : Ann := .seq none .leaf (.seq none .leaf (.seq none (.seq (some ⟨[0, 1, 23, 5], [.box 33 [.ownA 1 60 (.pair (.int .i64) (.pair (.int .i64) (.os 3 (.int .i64)))), .own 3 (.int .i64), .own 3 (.int .i64), .bool] [], .leaf (.ro (.int .i64)), .leaf .bool, .leaf (.elo 1 0)]⟩) .leaf (.cond (.seq none .leaf .leaf) .leaf)) (.seq none (.seq none .leaf (.block (.loop ⟨[0, 1, 7, 5], [.box 33 [.ownA 1 60 (.pair (.int .i64) (.pair (.int .i64) (.os 3 (.int .i64)))), .own 3 (.int .i64), .own 3 (.int .i64), .bool] [], .leaf (.ro (.int .i64)), .leaf (.int .i64), .leaf (.elo 1 0)]⟩ (.seq none (.seq none .leaf (.cond .leaf .leaf)) (.seq none (.block (.seq none .leaf (.cond (.seq none .leaf .leaf) .leaf))) .leaf))))) (.seq none (.seq none .leaf (.block (.loop ⟨[0, 1, 8, 5], [.box 33 [.ownA 1 60 (.pair (.int .i64) (.pair (.int .i64) (.os 3 (.int .i64)))), .own 3 (.int .i64), .own 3 (.int .i64), .bool] [], .leaf (.ro (.int .i64)), .leaf (.int .i64), .leaf (.elo 1 0)]⟩ (.seq none (.seq none .leaf (.cond .leaf .leaf)) (.seq (some ⟨[0, 1, 8, 5], [.box 33 [.ownA 1 60 (.pair (.int .i64) (.pair (.int .i64) (.os 3 (.int .i64)))), .own 3 (.int .i64), .own 3 (.int .i64), .bool] [], .leaf (.ro (.int .i64)), .leaf (.int .i64), .leaf (.elo 1 0)]⟩) (.block (.seq none .leaf (.seq none .leaf (.seq none .leaf (.cond .leaf .leaf))))) .leaf))))) (.seq none .leaf .leaf)))))
def ty_Z29 : List (Nat × Ty) := [(3, (.int .i64))]
def vr_Z29 : Nat → Nat := fun _ => 0
abbrev sg_Z35 : Sig := ⟨[.box 33 [.ownA 1 60 (.pair (.int .i64) (.pair (.int .i64) (.os 3 (.int .i64)))), .own 3 (.int .i64), .own 3 (.int .i64), .bool] [.ownk 1 60 (.pair (.int .i64) (.pair (.int .i64) (.os 3 (.int .i64)))), .own 3 (.int .i64), .own 3 (.int .i64), .bool], .agg [.int .i64, .int .i64]], [.leaf .bool]⟩
def an_Z35 : Ann := .seq none .leaf (.seq none .leaf (.seq none (.seq none .leaf (.block (.seq none .leaf (.cond (.seq none .leaf .leaf) (.seq none .leaf (.cond (.seq none .leaf .leaf) (.seq none .leaf (.cond (.seq none .leaf .leaf) (.seq none .leaf (.cond (.seq none .leaf .leaf) (.seq none .leaf (.cond (.seq none .leaf .leaf) (.seq none .leaf (.cond (.seq none .leaf .leaf) (.seq none .leaf (.cond (.seq none .leaf .leaf) (.seq none .leaf (.cond (.seq none .leaf (.seq none .leaf .leaf)) (.seq none .leaf (.cond (.seq none .leaf .leaf) (.seq none .leaf (.cond (.seq none .leaf .leaf) (.seq none .leaf (.cond (.seq none (.seq none .leaf (.cond (.seq none .leaf .leaf) .leaf)) (.seq none .leaf (.seq none .leaf (.seq none (.seq none .leaf (.cond .leaf .leaf)) (.seq none .leaf .leaf))))) (.seq none .leaf (.cond (.seq none .leaf (.seq none (.seq none .leaf (.cond (.seq none .leaf .leaf) .leaf)) (.seq none .leaf (.seq none (.seq none .leaf (.cond .leaf .leaf)) (.seq none .leaf .leaf))))) (.seq none .leaf (.cond (.seq none .leaf .leaf) (.seq none .leaf (.cond (.seq none .leaf (.seq none .leaf .leaf)) (.seq none .leaf (.cond (.seq none (.seq none .leaf (.cond (.seq none .leaf .leaf) .leaf)) (.seq none .leaf (.seq none .leaf (.seq none (.seq (some ⟨[0, 17, 183, 18], [.box 33 [.ownA 1 60 (.pair (.int .i64) (.pair (.int .i64) (.os 3 (.int .i64)))), .own 3 (.int .i64), .own 3 (.int .i64), .bool] [], .leaf (.own 3 (.int .i64)), .leaf .bool, .leaf (.elo 1 0)]⟩) .leaf (.cond (.seq none .leaf .leaf) .leaf)) (.seq none .leaf (.seq none .leaf .leaf)))))) (.seq none .leaf (.cond (.seq none (.seq none .leaf (.cond (.seq none .leaf .leaf) .leaf)) (.seq none .leaf (.seq none .leaf .leaf))) (.seq none .leaf (.cond (.seq none .leaf .leaf) (.seq none .leaf (.cond (.seq none (.seq none .leaf (.cond (.seq none .leaf .leaf) .leaf)) (.seq none .leaf (.seq none .leaf .leaf))) (.seq none .leaf (.cond (.seq none .leaf (.seq none .leaf .leaf)) .leaf)))))))))))))))))))))))))))))))))))))))) (.seq (some ⟨[0], [.box 33 [.ownA 1 60 (.pair (.int .i64) (.pair (.int .i64) (.os 3 (.int .i64)))), .own 3 (.int .i64), .own 3 (.int .i64), .bool] []]⟩) .leaf (.seq none .leaf .leaf))))
def ty_Z35 : List (Nat × Ty) := []
def vr_Z35 : Nat → Nat := fun _ => 0
abbrev sg_Z26 : Sig := ⟨[.box 33 [.own 60 (.pair (.int .i64) (.pair (.int .i64) (.os 3 (.int .i64)))), .own 3 (.int .i64), .own 3 (.int .i64), .bool] [.may 60 (.pair (.int .i64) (.pair (.int .i64) (.os 3 (.int .i64)))), .own 3 (.int .i64), .own 3 (.int .i64), .bool], .agg [.int .i64, .int .i64]], [.leaf .bool]⟩
def an_Z26 : Ann := .seq none .leaf (.seq none .leaf (.seq none (.seq none .leaf (.cond (.seq none .leaf .leaf) .leaf)) (.seq none .leaf (.seq none .leaf .leaf))))
def ty_Z26 : List (Nat × Ty) := []
def vr_Z26 : Nat → Nat := fun _ => 0
abbrev sg_Z46 : Sig := ⟨[.leaf (.ro (.pair (.int .i64) (.pair (.int .i64) (.sl (.int .i64)))))], [.leaf (.own 60 (.pair (.int .i64) (.pair (.int .i64) (.os 3 (.int .i64)))))]⟩
def an_Z46 : Ann := .seq none .leaf (.seq none .leaf (.seq none (.seq none .leaf (.block (.loop ⟨[3, 7, 8, 9], [.leaf (.own 60 (.pair (.int .i64) (.pair (.int .i64) (.os 3 (.int .i64))))), .leaf (.ro (.pair (.int .i64) (.pair (.int .i64) (.sl (.int .i64))))), .leaf (.int .i64), .leaf (.int .i64)]⟩ (.seq none .leaf (.seq none (.cond .leaf .leaf) (.seq none (.block (.seq none .leaf .leaf)) .leaf)))))) (.seq none .leaf .leaf)))
def ty_Z46 : List (Nat × Ty) := [(60, (.pair (.int .i64) (.pair (.int .i64) (.os 3 (.int .i64)))))]
def vr_Z46 : Nat → Nat := fun _ => 0
abbrev sg_Z32 : Sig := ⟨[.agg [.ro (.pair (.int .i64) (.pair (.int .i64) (.sl (.int .i64)))), .ro (.int .i64), .ro (.int .i64), .bool]], [.agg [.own 60 (.pair (.int .i64) (.pair (.int .i64) (.os 3 (.int .i64)))), .own 3 (.int .i64), .own 3 (.int .i64), .bool]]⟩
def an_Z32 : Ann := .seq none .leaf (.seq none .leaf .leaf)
def ty_Z32 : List (Nat × Ty) := []
def vr_Z32 : Nat → Nat := fun _ => 0
abbrev sg_Z42 : Sig := ⟨[.agg [.ro (.pair (.int .i64) (.pair (.int .i64) (.sl (.int .i64)))), .ro (.int .i64), .ro (.int .i64), .bool]], []⟩
def an_Z42 : Ann := .leaf
def ty_Z42 : List (Nat × Ty) := []
def vr_Z42 : Nat → Nat := fun _ => 0
abbrev sg_Z14 : Sig := ⟨[.leaf (.ro (.pair (.int .i64) (.int .i64))), .leaf .fn], [.agg [.own 60 (.pair (.int .i64) (.pair (.int .i64) (.os 3 (.int .i64)))), .own 3 (.int .i64), .own 3 (.int .i64), .bool], .leaf (.int .i64)]⟩
def an_Z14 : Ann := .seq none .leaf (.seq none .leaf (.seq none (.seq none .leaf (.block (.loop ⟨[0, 1, 4, 6, 10, 11, 12], [.leaf (.ro (.pair (.int .i64) (.int .i64))), .leaf (.fnc 74), .box 33 [.nil, .nil, .nil, .bool] [], .box 33 [.own 60 (.pair (.int .i64) (.pair (.int .i64) (.os 3 (.int .i64)))), .own 3 (.int .i64), .own 3 (.int .i64), .bool] [], .leaf (.ro (.pair (.int .i64) (.int .i64))), .leaf (.int .i64), .leaf (.int .i64)]⟩ (.seq none .leaf (.seq none (.cond .leaf .leaf) (.seq none (.block (.seq none .leaf (.seq none (.seq none .leaf (.cond (.seq none .leaf .leaf) .leaf)) .leaf))) .leaf)))))) (.seq none .leaf .leaf)))
def ty_Z14 : List (Nat × Ty) := []
def vr_Z14 : Nat → Nat := fun _ => 0
abbrev sg_Z52 : Sig := ⟨[.leaf (.ro (.pair (.int .i64) (.int .i64)))], [.leaf (.int .i64)]⟩
def an_Z52 : Ann := .seq none .leaf (.seq none (.seq none .leaf (.cond (.seq none .leaf .leaf) .leaf)) (.seq none .leaf (.seq none (.seq none .leaf (.cond (.seq none .leaf .leaf) .leaf)) (.seq none .leaf .leaf))))
def ty_Z52 : List (Nat × Ty) := []
def vr_Z52 : Nat → Nat := fun _ => 0
abbrev sg_Z56 : Sig := ⟨[.leaf (.int .u64)], [.leaf (.int .i64)]⟩
def an_Z56 : Ann := .seq none .leaf (.seq (some ⟨[0, 2], [.leaf (.int .u64), .leaf (.int .i64)]⟩) (.seq none .leaf (.cond (.seq none .leaf .leaf) .leaf)) (.seq (some ⟨[0, 2], [.leaf (.int .u64), .leaf (.int .i64)]⟩) (.seq none .leaf (.cond (.seq none .leaf .leaf) .leaf)) (.seq (some ⟨[0, 2], [.leaf (.int .u64), .leaf (.int .i64)]⟩) (.seq none .leaf (.cond (.seq none .leaf .leaf) .leaf)) (.seq none .leaf .leaf))))
def ty_Z56 : List (Nat × Ty) := []
def vr_Z56 : Nat → Nat := fun _ => 0
abbrev sg_bits_Len : Sig := ⟨[.leaf (.int .u64)], [.leaf (.int .i64)]⟩
def an_bits_Len : Ann := .seq none .leaf (.seq none (.cond (.seq none .leaf .leaf) .leaf) (.seq none .leaf .leaf))
def ty_bits_Len : List (Nat × Ty) := []
def vr_bits_Len : Nat → Nat := fun _ => 0
abbrev sg_Z30 : Sig := ⟨[.leaf (.int .i64)], [.leaf .bool]⟩
def an_Z30 : Ann := .seq none .leaf (.seq none .leaf .leaf)
def ty_Z30 : List (Nat × Ty) := []
def vr_Z30 : Nat → Nat := fun _ => 0
abbrev sg_Z37 : Sig := ⟨[.leaf (.int .i64), .leaf (.int .i64)], [.leaf .bool]⟩
def an_Z37 : Ann := .seq none .leaf (.seq none .leaf .leaf)
def ty_Z37 : List (Nat × Ty) := []
def vr_Z37 : Nat → Nat := fun _ => 0
abbrev sg_Z4 : Sig := ⟨[.muts 1 3 (.int .i64), .leaf (.int .i64), .leaf (.int .i64)], []⟩
def an_Z4 : Ann := .seq none .leaf (.block (.loop ⟨[0, 1, 2, 6], [.muts 1 3 (.int .i64), .leaf (.int .i64), .leaf (.int .i64), .leaf (.int .i64)]⟩ (.seq none (.seq none .leaf (.cond .leaf .leaf)) (.seq none (.block (.seq none .leaf (.block (.loop ⟨[0, 1, 2, 6, 7], [.muts 1 3 (.int .i64), .leaf (.int .i64), .leaf (.int .i64), .leaf (.int .i64), .leaf (.int .i64)]⟩ (.seq none (.seq (some ⟨[0, 1, 2, 6, 7, 30], [.muts 1 3 (.int .i64), .leaf (.int .i64), .leaf (.int .i64), .leaf (.int .i64), .leaf (.int .i64), .leaf .bool]⟩) .leaf (.cond .leaf .leaf)) (.seq none (.block .leaf) .leaf)))))) .leaf))))
def ty_Z4 : List (Nat × Ty) := []
def vr_Z4 : Nat → Nat := fun _ => 0
abbrev sg_Z10 : Sig := ⟨[.muts 1 3 (.int .i64), .leaf (.int .i64), .leaf (.int .i64), .leaf (.int .i64)], []⟩
def an_Z10 : Ann := .seq none .leaf (.block (.loop ⟨[0, 2, 3, 8], [.muts 1 3 (.int .i64), .leaf (.int .i64), .leaf (.int .i64), .leaf (.int .i64)]⟩ (.block (.seq none .leaf (.seq none (.seq none .leaf (.cond .leaf .leaf)) (.seq (some ⟨[0, 2, 3, 8, 9], [.muts 1 3 (.int .i64), .leaf (.int .i64), .leaf (.int .i64), .leaf (.int .i64), .leaf (.int .i64)]⟩) (.seq (some ⟨[0, 2, 3, 8, 9, 36], [.muts 1 3 (.int .i64), .leaf (.int .i64), .leaf (.int .i64), .leaf (.int .i64), .leaf (.int .i64), .leaf .bool]⟩) .leaf (.cond .leaf .leaf)) (.seq none (.seq none .leaf (.cond .leaf .leaf)) (.seq none .leaf .leaf))))))))
def ty_Z10 : List (Nat × Ty) := []
def vr_Z10 : Nat → Nat := fun _ => 0
abbrev sg_Z9 : Sig := ⟨[.muts 1 3 (.int .i64), .leaf (.int .i64), .leaf (.int .i64)], []⟩
def an_Z9 : Ann := .seq none .leaf (.seq none .leaf (.seq none .leaf (.seq none (.seq none .leaf (.block (.loop ⟨[0, 6, 7, 8, 9], [.muts 1 3 (.int .i64), .leaf (.int .i64), .leaf (.int .i64), .leaf (.int .i64), .leaf (.int .i64)]⟩ (.seq none (.seq none .leaf (.cond .leaf .leaf)) (.seq none (.block .leaf) .leaf))))) (.seq none .leaf (.block (.loop ⟨[0, 6, 7, 10], [.muts 1 3 (.int .i64), .leaf (.int .i64), .leaf (.int .i64), .leaf (.int .i64)]⟩ (.seq none (.seq none .leaf (.cond .leaf .leaf)) (.seq none (.block (.seq none .leaf .leaf)) .leaf))))))))
def ty_Z9 : List (Nat × Ty) := []
def vr_Z9 : Nat → Nat := fun _ => 0
abbrev sg_Z16 : Sig := ⟨[.leaf (.int .i64)], [.leaf (.int .u64)]⟩
def an_Z16 : Ann := .seq none .leaf (.seq none .leaf .leaf)
def ty_Z16 : List (Nat × Ty) := []
def vr_Z16 : Nat → Nat := fun _ => 0
abbrev sg_Z17 : Sig := ⟨[.box 148 [.int .u64] [.int .u64]], [.leaf (.int .u64)]⟩
def an_Z17 : Ann := .seq none .leaf (.seq none .leaf (.seq none .leaf (.seq none .leaf (.seq none .leaf .leaf))))
def ty_Z17 : List (Nat × Ty) := []
def vr_Z17 : Nat → Nat := fun _ => 0
abbrev sg_Z3 : Sig := ⟨[.muts 1 3 (.int .i64), .leaf (.int .i64), .leaf (.int .i64)], []⟩
def an_Z3 : Ann := .seq none .leaf (.seq none .leaf (.cond (.seq none .leaf (.seq none .leaf (.seq none .leaf (.block (.loop ⟨[0, 1, 6, 7, 8, 9], [.muts 1 3 (.int .i64), .leaf (.int .i64), .leaf (.int .i64), .box 148 [.int .u64] [], .leaf (.int .u64), .leaf (.int .i64)]⟩ (.seq none (.seq none .leaf (.cond .leaf .leaf)) (.seq none (.block (.seq none .leaf (.seq (some ⟨[0, 1, 6, 7, 8, 9, 10], [.muts 1 3 (.int .i64), .leaf (.int .i64), .leaf (.int .i64), .box 148 [.int .u64] [], .leaf (.int .u64), .leaf (.int .i64), .leaf (.int .i64)]⟩) (.seq none .leaf (.cond .leaf .leaf)) .leaf))) .leaf))))))) .leaf))
def ty_Z3 : List (Nat × Ty) := []
def vr_Z3 : Nat → Nat := fun _ => 0
abbrev sg_Z13 : Sig := ⟨[.leaf (.ro (.int .i64)), .leaf (.int .i64), .leaf (.int .i64), .box 3 [.int .i64] [.int .i64]], [.leaf (.int .i64), .leaf (.int .i64)]⟩
def an_Z13 : Ann := .seq none .leaf (.seq none (.seq none .leaf (.cond (.seq none .leaf (.seq none .leaf .leaf)) .leaf)) (.seq none .leaf .leaf))
def ty_Z13 : List (Nat × Ty) := []
def vr_Z13 : Nat → Nat := fun _ => 0
abbrev sg_Z12 : Sig := ⟨[.leaf (.ro (.int .i64)), .leaf (.int .i64), .leaf (.int .i64), .leaf (.int .i64), .box 3 [.int .i64] [.int .i64]], [.leaf (.int .i64)]⟩
def an_Z12 : Ann := .seq none .leaf (.seq none .leaf (.seq none .leaf (.seq none .leaf (.seq none .leaf .leaf))))
def ty_Z12 : List (Nat × Ty) := []
def vr_Z12 : Nat → Nat := fun _ => 0
abbrev sg_Z1 : Sig := ⟨[.leaf (.ro (.int .i64)), .leaf (.int .i64), .box 3 [.int .i64] [.int .i64]], [.leaf (.int .i64)]⟩
def an_Z1 : Ann := .seq none .leaf (.seq none .leaf .leaf)
def ty_Z1 : List (Nat × Ty) := []
def vr_Z1 : Nat → Nat := fun _ => 0
abbrev sg_Z6 : Sig := ⟨[.leaf (.ro (.int .i64)), .leaf (.int .i64), .leaf (.int .i64)], [.leaf (.int .i64), .leaf (.int .i64)]⟩
def an_Z6 : Ann := .seq none .leaf (.seq none .leaf (.seq none .leaf (.seq none .leaf (.seq none .leaf (.seq none .leaf (.seq (some ⟨[9, 11], [.box 3 [.int .i64] [], .leaf (.int .i64)]⟩) (.seq none .leaf (.cond (.seq (some ⟨[0, 9, 10, 11, 12], [.leaf (.ro (.int .i64)), .box 3 [.int .i64] [], .leaf (.int .i64), .leaf (.int .i64), .leaf (.int .i64)]⟩) (.seq none .leaf (.cond (.seq none .leaf (.seq none .leaf .leaf)) .leaf)) .leaf) .leaf)) (.seq none .leaf (.block (.seq none .leaf (.cond (.seq none .leaf .leaf) (.seq none .leaf (.cond (.seq none .leaf .leaf) (.seq none .leaf .leaf)))))))))))))
def ty_Z6 : List (Nat × Ty) := []
def vr_Z6 : Nat → Nat := fun _ => 0
abbrev sg_Z5 : Sig := ⟨[.muts 1 3 (.int .i64), .leaf (.int .i64), .leaf (.int .i64)], []⟩
def an_Z5 : Ann := .seq none .leaf (.seq none .leaf (.block (.loop ⟨[0, 6, 7], [.muts 1 3 (.int .i64), .leaf (.int .i64), .leaf (.int .i64)]⟩ (.seq none (.seq none .leaf (.cond .leaf .leaf)) (.block (.seq none .leaf (.seq none .leaf .leaf)))))))
def ty_Z5 : List (Nat × Ty) := []
def vr_Z5 : Nat → Nat := fun _ => 0
abbrev sg_Z0 : Sig := ⟨[.muts 1 3 (.int .i64), .leaf (.int .i64), .leaf (.int .i64)], [.leaf .bool]⟩
def an_Z0 : Ann := .seq none .leaf (.seq none .leaf (.seq none (.seq none .leaf (.block (.loop ⟨[0, 1, 2, 7, 8], [.muts 1 3 (.int .i64), .leaf (.int .i64), .leaf (.int .i64), .leaf (.int .i64), .leaf (.int .i64)]⟩ (.seq none (.seq none .leaf (.cond .leaf .leaf)) (.seq (some ⟨[0, 1, 2, 7, 8], [.muts 1 3 (.int .i64), .leaf (.int .i64), .leaf (.int .i64), .leaf (.int .i64), .leaf (.int .i64)]⟩) (.block (.seq none (.block (.loop ⟨[0, 1, 2, 7, 8], [.muts 1 3 (.int .i64), .leaf (.int .i64), .leaf (.int .i64), .leaf (.int .i64), .leaf (.int .i64)]⟩ (.seq none (.seq (some ⟨[0, 1, 2, 7, 8, 32], [.muts 1 3 (.int .i64), .leaf (.int .i64), .leaf (.int .i64), .leaf (.int .i64), .leaf (.int .i64), .leaf .bool]⟩) .leaf (.cond .leaf .leaf)) (.block .leaf)))) (.seq none (.seq none .leaf (.cond (.seq none .leaf .leaf) .leaf)) (.seq none (.seq none .leaf (.cond (.seq none .leaf .leaf) .leaf)) (.seq none .leaf (.seq (some ⟨[0, 1, 2, 7, 8], [.muts 1 3 (.int .i64), .leaf (.int .i64), .leaf (.int .i64), .leaf (.int .i64), .leaf (.int .i64)]⟩) (.seq none .leaf (.cond (.seq none .leaf (.block (.loop ⟨[0, 1, 2, 7, 8, 9], [.muts 1 3 (.int .i64), .leaf (.int .i64), .leaf (.int .i64), .leaf (.int .i64), .leaf (.int .i64), .leaf (.int .i64)]⟩ (.seq none (.seq none .leaf (.cond .leaf .leaf)) (.seq none (.block (.seq none (.seq none .leaf (.cond .leaf .leaf)) .leaf)) .leaf))))) .leaf)) (.seq none .leaf (.cond (.seq none .leaf (.block (.loop ⟨[0, 1, 2, 7, 8, 10], [.muts 1 3 (.int .i64), .leaf (.int .i64), .leaf (.int .i64), .leaf (.int .i64), .leaf (.int .i64), .leaf (.int .i64)]⟩ (.seq none (.seq none .leaf (.cond .leaf .leaf)) (.seq none (.block (.seq none (.seq none .leaf (.cond .leaf .leaf)) .leaf)) .leaf))))) .leaf)))))))) .leaf))))) (.seq none .leaf .leaf)))
def ty_Z0 : List (Nat × Ty) := []
def vr_Z0 : Nat → Nat := fun _ => 0
abbrev sg_Z2 : Sig := ⟨[.muts 1 3 (.int .i64), .leaf (.int .i64), .leaf (.int .i64), .leaf (.int .i64)], [.leaf (.int .i64)]⟩
def an_Z2 : Ann := .seq none .leaf (.seq none .leaf (.seq none .leaf (.seq none (.block (.loop ⟨[0, 1, 9, 10], [.muts 1 3 (.int .i64), .leaf (.int .i64), .leaf (.int .i64), .leaf (.int .i64)]⟩ (.block (.seq none (.block (.loop ⟨[0, 1, 9, 10], [.muts 1 3 (.int .i64), .leaf (.int .i64), .leaf (.int .i64), .leaf (.int .i64)]⟩ (.seq none (.seq (some ⟨[0, 1, 9, 10, 43], [.muts 1 3 (.int .i64), .leaf (.int .i64), .leaf (.int .i64), .leaf (.int .i64), .leaf .bool]⟩) .leaf (.cond .leaf .leaf)) (.block .leaf)))) (.seq none (.block (.loop ⟨[0, 1, 9, 10], [.muts 1 3 (.int .i64), .leaf (.int .i64), .leaf (.int .i64), .leaf (.int .i64)]⟩ (.seq none (.seq (some ⟨[0, 1, 9, 10, 59], [.muts 1 3 (.int .i64), .leaf (.int .i64), .leaf (.int .i64), .leaf (.int .i64), .leaf .bool]⟩) .leaf (.cond .leaf .leaf)) (.block .leaf)))) (.seq none (.seq none .leaf (.cond .leaf .leaf)) (.seq none .leaf (.seq none .leaf .leaf)))))))) (.seq none .leaf .leaf))))
def ty_Z2 : List (Nat × Ty) := []
def vr_Z2 : Nat → Nat := fun _ => 0
abbrev sg_Z8 : Sig := ⟨[.muts 1 3 (.int .i64), .leaf (.int .i64), .leaf (.int .i64), .leaf (.int .i64)], [.leaf (.int .i64), .leaf .bool]⟩
def an_Z8 : Ann := .seq none .leaf (.seq none .leaf (.seq none .leaf (.seq none (.block (.loop ⟨[0, 1, 10, 11], [.muts 1 3 (.int .i64), .leaf (.int .i64), .leaf (.int .i64), .leaf (.int .i64)]⟩ (.seq none (.seq (some ⟨[0, 1, 10, 11, 43], [.muts 1 3 (.int .i64), .leaf (.int .i64), .leaf (.int .i64), .leaf (.int .i64), .leaf .bool]⟩) .leaf (.cond .leaf .leaf)) (.block .leaf)))) (.seq none (.block (.loop ⟨[0, 1, 10, 11], [.muts 1 3 (.int .i64), .leaf (.int .i64), .leaf (.int .i64), .leaf (.int .i64)]⟩ (.seq none (.seq (some ⟨[0, 1, 10, 11, 60], [.muts 1 3 (.int .i64), .leaf (.int .i64), .leaf (.int .i64), .leaf (.int .i64), .leaf .bool]⟩) .leaf (.cond .leaf .leaf)) (.block .leaf)))) (.seq none (.seq none .leaf (.cond (.seq none .leaf (.seq none .leaf .leaf)) .leaf)) (.seq none .leaf (.seq none .leaf (.seq none .leaf (.seq none (.block (.loop ⟨[0, 1, 10, 11], [.muts 1 3 (.int .i64), .leaf (.int .i64), .leaf (.int .i64), .leaf (.int .i64)]⟩ (.block (.seq none (.block (.loop ⟨[0, 1, 10, 11], [.muts 1 3 (.int .i64), .leaf (.int .i64), .leaf (.int .i64), .leaf (.int .i64)]⟩ (.seq none (.seq (some ⟨[0, 1, 10, 11, 112], [.muts 1 3 (.int .i64), .leaf (.int .i64), .leaf (.int .i64), .leaf (.int .i64), .leaf .bool]⟩) .leaf (.cond .leaf .leaf)) (.block .leaf)))) (.seq none (.block (.loop ⟨[0, 1, 10, 11], [.muts 1 3 (.int .i64), .leaf (.int .i64), .leaf (.int .i64), .leaf (.int .i64)]⟩ (.seq none (.seq (some ⟨[0, 1, 10, 11, 129], [.muts 1 3 (.int .i64), .leaf (.int .i64), .leaf (.int .i64), .leaf (.int .i64), .leaf .bool]⟩) .leaf (.cond .leaf .leaf)) (.block .leaf)))) (.seq none (.seq none .leaf (.cond .leaf .leaf)) (.seq none .leaf (.seq none .leaf .leaf)))))))) (.seq none .leaf (.seq none .leaf .leaf)))))))))))
def ty_Z8 : List (Nat × Ty) := []
def vr_Z8 : Nat → Nat := fun _ => 0
abbrev sg_Z11 : Sig := ⟨[.muts 1 3 (.int .i64), .leaf (.int .i64), .leaf (.int .i64), .leaf (.int .i64)], []⟩
def an_Z11 : Ann := .seq none .leaf (.seq none .leaf (.block (.loop ⟨[0, 1, 2, 3, 8, 9], [.muts 1 3 (.int .i64), .leaf (.int .i64), .leaf (.int .i64), .leaf (.int .i64), .leaf .bool, .leaf .bool]⟩ (.block (.seq none .leaf (.seq none (.seq none .leaf (.cond (.seq none .leaf .leaf) .leaf)) (.seq none (.seq none .leaf (.cond (.seq none .leaf .leaf) .leaf)) (.seq (some ⟨[0, 1, 2, 3, 8, 9, 10], [.muts 1 3 (.int .i64), .leaf (.int .i64), .leaf (.int .i64), .leaf (.int .i64), .leaf .bool, .leaf .bool, .leaf (.int .i64)]⟩) (.seq none .leaf (.cond (.seq none .leaf .leaf) .leaf)) (.seq none .leaf (.seq (some ⟨[0, 1, 2, 3, 8, 9, 10, 11, 12], [.muts 1 3 (.int .i64), .leaf (.int .i64), .leaf (.int .i64), .leaf (.int .i64), .leaf .bool, .leaf .bool, .leaf (.int .i64), .leaf (.int .i64), .leaf (.int .i64)]⟩) (.seq none .leaf (.cond (.seq none .leaf (.seq none .leaf .leaf)) .leaf)) (.seq (some ⟨[0, 1, 2, 3, 8, 9, 10, 11], [.muts 1 3 (.int .i64), .leaf (.int .i64), .leaf (.int .i64), .leaf (.int .i64), .leaf .bool, .leaf .bool, .leaf (.int .i64), .leaf (.int .i64)]⟩) (.seq (some ⟨[0, 1, 2, 3, 8, 9, 10, 11, 68], [.muts 1 3 (.int .i64), .leaf (.int .i64), .leaf (.int .i64), .leaf (.int .i64), .leaf .bool, .leaf .bool, .leaf (.int .i64), .leaf (.int .i64), .leaf .bool]⟩) .leaf (.cond (.seq none .leaf (.cond .leaf .leaf)) .leaf)) (.seq none (.seq (some ⟨[0, 1, 2, 3, 8, 9, 10, 11, 87], [.muts 1 3 (.int .i64), .leaf (.int .i64), .leaf (.int .i64), .leaf (.int .i64), .leaf .bool, .leaf .bool, .leaf (.int .i64), .leaf (.int .i64), .leaf .bool]⟩) .leaf (.cond (.seq none .leaf (.seq none .leaf .leaf)) .leaf)) (.seq none .leaf (.seq none .leaf (.seq none .leaf (.seq none .leaf (.seq none .leaf (.cond (.seq none .leaf (.seq none .leaf .leaf)) (.seq none .leaf (.seq none .leaf .leaf))))))))))))))))))))
def ty_Z11 : List (Nat × Ty) := []
def vr_Z11 : Nat → Nat := fun _ => 0
abbrev sg_Z21 : Sig := ⟨[.muts 1 3 (.int .i64)], []⟩
def an_Z21 : Ann := .seq none .leaf .leaf
def ty_Z21 : List (Nat × Ty) := []
def vr_Z21 : Nat → Nat := fun _ => 0
abbrev sg_Z15 : Sig := ⟨[.leaf (.own 3 (.int .i64))], [.leaf (.own 3 (.int .i64))]⟩
def an_Z15 : Ann := .seq none .leaf (.seq none (.seq none .leaf (.cond (.seq none .leaf .leaf) .leaf)) (.seq none (.seq none .leaf (.block (.loop ⟨[0, 3], [.leaf (.own 3 (.int .i64)), .leaf (.int .i64)]⟩ (.seq none (.seq none .leaf (.cond .leaf .leaf)) (.seq none (.block (.seq none .leaf (.cond (.seq none .leaf (.seq none (.seq none .leaf (.block (.loop ⟨[0, 3, 5, 4], [.leaf (.ownA 600000 3 (.int .i64)), .leaf (.int .i64), .leaf (.int .i64), .leaf (.vw 600000)]⟩ (.seq none (.seq none .leaf (.cond .leaf .leaf)) (.seq (some ⟨[0, 3, 5, 4], [.leaf (.ownA 600000 3 (.int .i64)), .leaf (.int .i64), .leaf (.int .i64), .leaf (.vw 600000)]⟩) (.block (.seq none .leaf (.cond (.seq none .leaf .leaf) .leaf))) .leaf))))) (.seq none .leaf (.seq none .leaf .leaf)))) .leaf))) .leaf))))) (.seq none .leaf .leaf)))
def ty_Z15 : List (Nat × Ty) := []
def vr_Z15 : Nat → Nat := fun _ => 0
abbrev sg_Z19 : Sig := ⟨[.leaf (.own 3 (.int .i64))], [.leaf (.own 3 (.int .i64))]⟩
def an_Z19 : Ann := .seq none .leaf (.seq none .leaf .leaf)
def ty_Z19 : List (Nat × Ty) := []
def vr_Z19 : Nat → Nat := fun d => (lk [(8, 2)] d).getD 0
abbrev sg_Z47 : Sig := ⟨[.leaf (.ro (.pair (.int .i64) (.int .i64)))], [.leaf (.own 3 (.int .i64))]⟩
def an_Z47 : Ann := .seq none .leaf (.seq none (.seq none .leaf (.cond (.seq none .leaf .leaf) .leaf)) (.seq none .leaf (.seq none (.seq none .leaf (.block (.loop ⟨[3, 10, 11, 12], [.leaf (.own 3 (.int .i64)), .leaf (.ro (.pair (.int .i64) (.int .i64))), .leaf (.int .i64), .leaf (.int .i64)]⟩ (.seq none .leaf (.seq none (.cond .leaf .leaf) (.seq (some ⟨[3, 10, 11, 12], [.leaf (.own 3 (.int .i64)), .leaf (.ro (.pair (.int .i64) (.int .i64))), .leaf (.int .i64), .leaf (.int .i64)]⟩) (.block (.seq none .leaf (.seq none .leaf (.cond .leaf .leaf)))) .leaf)))))) (.seq none .leaf (.seq none .leaf .leaf)))))
def ty_Z47 : List (Nat × Ty) := [(3, (.int .i64))]
def vr_Z47 : Nat → Nat := fun _ => 0
abbrev sg_Z28 : Sig := ⟨[.agg [.ln, .ln, .any, .bool], .box 26 [.int .i64, .int .i64, .int .i64, .own 3 (.int .i64)] [.int .i64, .int .i64, .int .i64, .own 3 (.int .i64)]], []⟩
def an_Z28 : Ann := .seq none .leaf (.seq none .leaf .leaf)
def ty_Z28 : List (Nat × Ty) := []
def vr_Z28 : Nat → Nat := fun _ => 0
abbrev sg_Z7 : Sig := ⟨[.leaf (.ro (.pair (.int .i64) (.int .i64))), .clo 55 26 [.int .i64, .int .i64, .int .i64, .own 3 (.int .i64)] [.int .i64, .int .i64, .int .i64, .own 3 (.int .i64)]], [.agg [.own 60 (.pair (.int .i64) (.pair (.int .i64) (.os 3 (.int .i64)))), .own 3 (.int .i64), .own 3 (.int .i64), .bool], .leaf (.int .i64)]⟩
def an_Z7 : Ann := .seq none .leaf (.seq none .leaf (.seq none (.seq none .leaf (.block (.loop ⟨[0, 1, 4, 6, 10, 11, 12], [.leaf (.ro (.pair (.int .i64) (.int .i64))), .clo 55 26 [.int .i64, .int .i64, .int .i64, .own 3 (.int .i64)] [], .box 33 [.nil, .nil, .nil, .bool] [], .box 33 [.own 60 (.pair (.int .i64) (.pair (.int .i64) (.os 3 (.int .i64)))), .own 3 (.int .i64), .own 3 (.int .i64), .bool] [], .leaf (.ro (.pair (.int .i64) (.int .i64))), .leaf (.int .i64), .leaf (.int .i64)]⟩ (.seq none .leaf (.seq none (.cond .leaf .leaf) (.seq none (.block (.seq none .leaf (.seq none (.seq none .leaf (.cond (.seq none .leaf .leaf) .leaf)) .leaf))) .leaf)))))) (.seq none .leaf .leaf)))
def ty_Z7 : List (Nat × Ty) := []
def vr_Z7 : Nat → Nat := fun _ => 0
abbrev sg_Z41 : Sig := ⟨[.leaf (.ro (.pair (.int .i64) (.int .i64)))], [.agg [.int .i64, .int .i64, .int .i64, .own 3 (.int .i64)], .leaf .bool]⟩
def an_Z41 : Ann := .seq none .leaf (.seq none (.seq none .leaf (.cond (.seq none .leaf .leaf) .leaf)) (.seq none .leaf (.seq none .leaf (.seq none .leaf .leaf))))
def ty_Z41 : List (Nat × Ty) := []
def vr_Z41 : Nat → Nat := fun d => (lk [(16, 1)] d).getD 0
abbrev sg_l_eqIntS : Sig := ⟨[.leaf (.ro (.int .i64)), .leaf (.ro (.int .i64))], [.leaf .bool]⟩
def an_l_eqIntS : Ann := .seq none .leaf (.seq none (.seq none .leaf (.cond (.seq none .leaf .leaf) .leaf)) (.seq none (.seq none .leaf (.block (.loop ⟨[0, 1, 5], [.leaf (.ro (.int .i64)), .leaf (.ro (.int .i64)), .leaf (.int .i64)]⟩ (.seq none (.seq none .leaf (.cond .leaf .leaf)) (.seq none (.block (.seq none .leaf (.cond (.seq none .leaf .leaf) .leaf))) .leaf))))) (.seq none .leaf .leaf)))
def ty_l_eqIntS : List (Nat × Ty) := []
def vr_l_eqIntS : Nat → Nat := fun _ => 0
abbrev sg_Z64 : Sig := ⟨[.agg [.int .i64, .int .i64, .int .i64, .ro (.int .i64)], .agg [.int .i64, .int .i64, .int .i64, .ro (.int .i64)]], [.leaf .bool]⟩
def an_Z64 : Ann := .seq none .leaf (.seq none (.seq none .leaf (.cond (.seq none .leaf .leaf) .leaf)) (.seq none (.seq none .leaf (.cond (.seq none .leaf .leaf) .leaf)) (.seq none (.seq none .leaf (.cond (.seq none .leaf .leaf) .leaf)) (.seq none (.seq none .leaf (.cond (.seq none .leaf .leaf) .leaf)) (.seq none .leaf .leaf)))))
def ty_Z64 : List (Nat × Ty) := []
def vr_Z64 : Nat → Nat := fun _ => 0
abbrev sg_l_eqOp : Sig := ⟨[.agg [.int .i64, .int .i64], .agg [.int .i64, .int .i64]], [.leaf .bool]⟩
def an_l_eqOp : Ann := .seq none .leaf (.seq none (.seq none .leaf (.cond (.seq none .leaf .leaf) .leaf)) (.seq none (.seq none .leaf (.cond (.seq none .leaf .leaf) .leaf)) (.seq none .leaf .leaf)))
def ty_l_eqOp : List (Nat × Ty) := []
def vr_l_eqOp : Nat → Nat := fun _ => 0
abbrev sg_l_eqOpS : Sig := ⟨[.leaf (.ro (.pair (.int .i64) (.int .i64))), .leaf (.ro (.pair (.int .i64) (.int .i64)))], [.leaf .bool]⟩
def an_l_eqOpS : Ann := .seq none .leaf (.seq none (.seq none .leaf (.cond (.seq none .leaf .leaf) .leaf)) (.seq none (.seq none .leaf (.block (.loop ⟨[0, 1, 5], [.leaf (.ro (.pair (.int .i64) (.int .i64))), .leaf (.ro (.pair (.int .i64) (.int .i64))), .leaf (.int .i64)]⟩ (.seq none (.seq none .leaf (.cond .leaf .leaf)) (.seq none (.block (.seq none .leaf (.cond (.seq none .leaf .leaf) .leaf))) .leaf))))) (.seq none .leaf .leaf)))
def ty_l_eqOpS : List (Nat × Ty) := []
def vr_l_eqOpS : Nat → Nat := fun _ => 0
abbrev sg_Z60 : Sig := ⟨[.muts 1 53 (.pair (.int .i64) (.int .i64)), .leaf (.int .i64)], [.leaf (.int .i64)]⟩
def an_Z60 : Ann := .seq none .leaf (.seq none (.seq none .leaf (.block (.loop ⟨[0, 1, 5], [.muts 1 53 (.pair (.int .i64) (.int .i64)), .leaf (.int .i64), .leaf (.int .i64)]⟩ (.seq none (.seq none .leaf (.cond .leaf .leaf)) (.seq none (.block (.seq none .leaf (.seq none .leaf (.seq none .leaf .leaf)))) .leaf))))) (.seq none .leaf .leaf))
def ty_Z60 : List (Nat × Ty) := []
def vr_Z60 : Nat → Nat := fun _ => 0
abbrev sg_Z55 : Sig := ⟨[.muts 1 3 (.int .i64), .leaf (.int .i64)], [.leaf (.int .i64)]⟩
def an_Z55 : Ann := .seq none .leaf (.seq none (.seq none .leaf (.block (.loop ⟨[0, 1, 5], [.muts 1 3 (.int .i64), .leaf (.int .i64), .leaf (.int .i64)]⟩ (.seq none (.seq none .leaf (.cond .leaf .leaf)) (.seq none (.block (.seq none .leaf .leaf)) .leaf))))) (.seq none .leaf .leaf))
def ty_Z55 : List (Nat × Ty) := []
def vr_Z55 : Nat → Nat := fun _ => 0
abbrev sg_Z43 : Sig := ⟨[.aggm [.int .i64, .int .i64, .int .i64, .ownA 1 3 (.int .i64)], .leaf (.int .i64)], [.leaf (.int .i64)]⟩
def an_Z43 : Ann := .seq none .leaf (.seq none .leaf (.seq none .leaf .leaf))
def ty_Z43 : List (Nat × Ty) := []
def vr_Z43 : Nat → Nat := fun _ => 0
abbrev sg_Z54 : Sig := ⟨[.leaf (.ro (.int .i64)), .leaf (.int .i64)], [.leaf (.int .i64)]⟩
def an_Z54 : Ann := .seq none .leaf (.seq none (.seq none .leaf (.block (.loop ⟨[0, 1, 5], [.leaf (.ro (.int .i64)), .leaf (.int .i64), .leaf (.int .i64)]⟩ (.seq none (.seq none .leaf (.cond .leaf .leaf)) (.seq none (.block (.seq none (.seq none .leaf (.cond (.seq none .leaf .leaf) .leaf)) .leaf)) .leaf))))) (.seq none .leaf .leaf))
def ty_Z54 : List (Nat × Ty) := []
def vr_Z54 : Nat → Nat := fun _ => 0
abbrev sg_Z50 : Sig := ⟨[.agg [.int .i64, .int .i64, .int .i64, .ro (.int .i64)], .leaf (.int .i64)], [.leaf (.int .i64)]⟩
def an_Z50 : Ann := .seq none .leaf (.seq none .leaf (.seq none (.seq none .leaf (.cond (.seq none .leaf .leaf) .leaf)) (.seq none .leaf .leaf)))
def ty_Z50 : List (Nat × Ty) := []
def vr_Z50 : Nat → Nat := fun _ => 0
abbrev sg_Z20 : Sig := ⟨[.leaf (.ro (.pair (.int .i64) (.int .i64)))], [.leaf .bool]⟩
def an_Z20 : Ann := .seq none .leaf (.seq none .leaf (.seq none .leaf (.seq none (.seq none .leaf (.cond (.seq none .leaf .leaf) .leaf)) (.seq none .leaf (.seq none .leaf (.seq none .leaf (.seq none (.seq (some ⟨[0, 4, 5, 6, 7, 8, 40], [.leaf (.ro (.pair (.int .i64) (.int .i64))), .box 26 [.int .i64, .int .i64, .int .i64, .own 3 (.int .i64)] [], .leaf .bool, .leaf (.own 53 (.pair (.int .i64) (.int .i64))), .box 26 [.int .i64, .int .i64, .int .i64, .own 3 (.int .i64)] [], .leaf .bool, .leaf .bool]⟩) .leaf (.cond (.seq none .leaf .leaf) .leaf)) (.seq none (.seq none .leaf (.cond (.seq none .leaf .leaf) .leaf)) (.seq none .leaf (.seq none .leaf (.seq none (.seq (some ⟨[0, 4, 5, 7, 61], [.leaf (.ro (.pair (.int .i64) (.int .i64))), .box 26 [.int .i64, .int .i64, .int .i64, .own 3 (.int .i64)] [], .leaf .bool, .box 26 [.int .i64, .int .i64, .int .i64, .own 3 (.int .i64)] [], .leaf .bool]⟩) .leaf (.cond (.seq none .leaf .leaf) .leaf)) (.seq none .leaf (.seq none .leaf (.seq none .leaf (.seq none .leaf (.seq none (.seq none .leaf (.cond (.seq none .leaf .leaf) .leaf)) (.seq none (.seq none .leaf (.cond (.seq none .leaf .leaf) .leaf)) (.seq none .leaf (.seq none (.seq (some ⟨[7, 10, 87], [.box 26 [.int .i64, .int .i64, .int .i64, .own 3 (.int .i64)] [], .leaf (.int .i64), .leaf .bool]⟩) .leaf (.cond (.seq none .leaf .leaf) .leaf)) (.seq none .leaf (.seq none .leaf (.seq none (.seq none .leaf (.cond (.seq none .leaf .leaf) .leaf)) (.seq none (.seq none .leaf (.cond (.seq none .leaf .leaf) .leaf)) (.seq none .leaf .leaf))))))))))))))))))))))))
def ty_Z20 : List (Nat × Ty) := []
def vr_Z20 : Nat → Nat := fun _ => 0
noncomputable def sigs : List (Nat × Sig) := [(6, sg_Z20), (16, sg_Z41), (17, sg_Z33), (20, sg_l_szOpS), (21, sg_l_toOpS), (22, sg_Z64), (23, sg_l_eqOpS), (24, sg_Z60), (25, sg_Z43), (26, sg_Z50), (28, sg_Z47), (30, sg_Z48), (31, sg_Z51), (40, sg_Z52), (45, sg_Z40), (46, sg_Z26), (48, sg_Z58), (51, sg_Z14), (55, sg_Z28), (56, sg_Z45), (57, sg_Z57), (58, sg_l_toOp), (59, sg_l_eqIntS), (60, sg_l_eqOp), (61, sg_Z55), (62, sg_Z54), (63, sg_Z21), (64, sg_Z19), (65, sg_Z15), (66, sg_i_opOk), (69, sg_Z59), (70, sg_Z49), (71, sg_Z62), (72, sg_Z38), (73, sg_Z34), (74, sg_Z42), (82, sg_Z18), (83, sg_Z35), (85, sg_Z65), (88, sg_Z32), (90, sg_Z11), (91, sg_bits_Len), (92, sg_Z66), (93, sg_Z61), (94, sg_Z44), (95, sg_Z39), (96, sg_Z36), (97, sg_Z53), (105, sg_Z22), (106, sg_Z25), (107, sg_Z24), (108, sg_Z23), (109, sg_Z27), (110, sg_Z31), (111, sg_Z29), (112, sg_s_argOf), (113, sg_Z46), (114, sg_Z4), (115, sg_Z9), (116, sg_Z3), (117, sg_Z6), (118, sg_Z5), (119, sg_Z0), (120, sg_Z37), (121, sg_Z2), (122, sg_Z8), (124, sg_Z56), (125, sg_Z67), (132, sg_Z63), (133, sg_Z10), (134, sg_Z16), (135, sg_Z17), (136, sg_Z1), (137, sg_Z12), (138, sg_Z30), (141, sg_Z13), (100051, sg_Z7)]
noncomputable def fns : List (Nat × FnI) := [(6, ⟨Try.f6, an_Z20, lk ty_Z20, vr_Z20⟩), (16, ⟨Try.f16, an_Z41, lk ty_Z41, vr_Z41⟩), (17, ⟨Try.f17, an_Z33, lk ty_Z33, vr_Z33⟩), (20, ⟨Try.f20, an_l_szOpS, lk ty_l_szOpS, vr_l_szOpS⟩), (21, ⟨Try.f21, an_l_toOpS, lk ty_l_toOpS, vr_l_toOpS⟩), (22, ⟨Try.f22, an_Z64, lk ty_Z64, vr_Z64⟩), (23, ⟨Try.f23, an_l_eqOpS, lk ty_l_eqOpS, vr_l_eqOpS⟩), (24, ⟨Try.f24, an_Z60, lk ty_Z60, vr_Z60⟩), (25, ⟨Try.f25, an_Z43, lk ty_Z43, vr_Z43⟩), (26, ⟨Try.f26, an_Z50, lk ty_Z50, vr_Z50⟩), (28, ⟨Try.f28, an_Z47, lk ty_Z47, vr_Z47⟩), (30, ⟨Try.f30, an_Z48, lk ty_Z48, vr_Z48⟩), (31, ⟨Try.f31, an_Z51, lk ty_Z51, vr_Z51⟩), (40, ⟨Try.f40, an_Z52, lk ty_Z52, vr_Z52⟩), (45, ⟨Try.f45, an_Z40, lk ty_Z40, vr_Z40⟩), (46, ⟨Try.f46, an_Z26, lk ty_Z26, vr_Z26⟩), (48, ⟨Try.f48, an_Z58, lk ty_Z58, vr_Z58⟩), (51, ⟨Try.f51, an_Z14, lk ty_Z14, vr_Z14⟩), (55, ⟨Try.f55, an_Z28, lk ty_Z28, vr_Z28⟩), (56, ⟨Try.f56, an_Z45, lk ty_Z45, vr_Z45⟩), (57, ⟨Try.f57, an_Z57, lk ty_Z57, vr_Z57⟩), (58, ⟨Try.f58, an_l_toOp, lk ty_l_toOp, vr_l_toOp⟩), (59, ⟨Try.f59, an_l_eqIntS, lk ty_l_eqIntS, vr_l_eqIntS⟩), (60, ⟨Try.f60, an_l_eqOp, lk ty_l_eqOp, vr_l_eqOp⟩), (61, ⟨Try.f61, an_Z55, lk ty_Z55, vr_Z55⟩), (62, ⟨Try.f62, an_Z54, lk ty_Z54, vr_Z54⟩), (63, ⟨Try.f63, an_Z21, lk ty_Z21, vr_Z21⟩), (64, ⟨Try.f64, an_Z19, lk ty_Z19, vr_Z19⟩), (65, ⟨Try.f65, an_Z15, lk ty_Z15, vr_Z15⟩), (66, ⟨Try.f66, an_i_opOk, lk ty_i_opOk, vr_i_opOk⟩), (69, ⟨Try.f69, an_Z59, lk ty_Z59, vr_Z59⟩), (70, ⟨Try.f70, an_Z49, lk ty_Z49, vr_Z49⟩), (71, ⟨Try.f71, an_Z62, lk ty_Z62, vr_Z62⟩), (72, ⟨Try.f72, an_Z38, lk ty_Z38, vr_Z38⟩), (73, ⟨Try.f73, an_Z34, lk ty_Z34, vr_Z34⟩), (74, ⟨Try.f74, an_Z42, lk ty_Z42, vr_Z42⟩), (82, ⟨Try.f82, an_Z18, lk ty_Z18, vr_Z18⟩), (83, ⟨Try.f83, an_Z35, lk ty_Z35, vr_Z35⟩), (85, ⟨Try.f85, an_Z65, lk ty_Z65, vr_Z65⟩), (88, ⟨Try.f88, an_Z32, lk ty_Z32, vr_Z32⟩), (90, ⟨Try.f90, an_Z11, lk ty_Z11, vr_Z11⟩), (91, ⟨Try.f91, an_bits_Len, lk ty_bits_Len, vr_bits_Len⟩), (92, ⟨Try.f92, an_Z66, lk ty_Z66, vr_Z66⟩), (93, ⟨Try.f93, an_Z61, lk ty_Z61, vr_Z61⟩), (94, ⟨Try.f94, an_Z44, lk ty_Z44, vr_Z44⟩), (95, ⟨Try.f95, an_Z39, lk ty_Z39, vr_Z39⟩), (96, ⟨Try.f96, an_Z36, lk ty_Z36, vr_Z36⟩), (97, ⟨Try.f97, an_Z53, lk ty_Z53, vr_Z53⟩), (105, ⟨Try.f105, an_Z22, lk ty_Z22, vr_Z22⟩), (106, ⟨Try.f106, an_Z25, lk ty_Z25, vr_Z25⟩), (107, ⟨Try.f107, an_Z24, lk ty_Z24, vr_Z24⟩), (108, ⟨Try.f108, an_Z23, lk ty_Z23, vr_Z23⟩), (109, ⟨Try.f109, an_Z27, lk ty_Z27, vr_Z27⟩), (110, ⟨Try.f110, an_Z31, lk ty_Z31, vr_Z31⟩), (111, ⟨Try.f111, an_Z29, lk ty_Z29, vr_Z29⟩), (112, ⟨Try.f112, an_s_argOf, lk ty_s_argOf, vr_s_argOf⟩), (113, ⟨Try.f113, an_Z46, lk ty_Z46, vr_Z46⟩), (114, ⟨Try.f114, an_Z4, lk ty_Z4, vr_Z4⟩), (115, ⟨Try.f115, an_Z9, lk ty_Z9, vr_Z9⟩), (116, ⟨Try.f116, an_Z3, lk ty_Z3, vr_Z3⟩), (117, ⟨Try.f117, an_Z6, lk ty_Z6, vr_Z6⟩), (118, ⟨Try.f118, an_Z5, lk ty_Z5, vr_Z5⟩), (119, ⟨Try.f119, an_Z0, lk ty_Z0, vr_Z0⟩), (120, ⟨Try.f120, an_Z37, lk ty_Z37, vr_Z37⟩), (121, ⟨Try.f121, an_Z2, lk ty_Z2, vr_Z2⟩), (122, ⟨Try.f122, an_Z8, lk ty_Z8, vr_Z8⟩), (124, ⟨Try.f124, an_Z56, lk ty_Z56, vr_Z56⟩), (125, ⟨Try.f125, an_Z67, lk ty_Z67, vr_Z67⟩), (132, ⟨Try.f132, an_Z63, lk ty_Z63, vr_Z63⟩), (133, ⟨Try.f133, an_Z10, lk ty_Z10, vr_Z10⟩), (134, ⟨Try.f134, an_Z16, lk ty_Z16, vr_Z16⟩), (135, ⟨Try.f135, an_Z17, lk ty_Z17, vr_Z17⟩), (136, ⟨Try.f136, an_Z1, lk ty_Z1, vr_Z1⟩), (137, ⟨Try.f137, an_Z12, lk ty_Z12, vr_Z12⟩), (138, ⟨Try.f138, an_Z30, lk ty_Z30, vr_Z30⟩), (141, ⟨Try.f141, an_Z13, lk ty_Z13, vr_Z13⟩), (100051, ⟨Try.f51, an_Z7, lk ty_Z7, vr_Z7⟩)]
def eqts : List Nat := []
def clones : List Nat := [82]
noncomputable def T : Tab := ⟨lk tts, hasN eqts, lk sigs, lk fns, fun _ f s => bif hasN clones f then cloneX s else none⟩
end Go.Gx

/-
  What each function comes to (printed by gen.py).
-/
set_option linter.unusedVariables false
namespace Go.Gx
open Go.Proofs
noncomputable abbrev t_l_szOpS (k : Nat) : C_l_szOpS := (fun a0 a1 => T.call k 20 sg_l_szOpS (a0, a1, ()))
noncomputable abbrev t_l_toOp (k : Nat) : C_l_toOp := (fun a0 a1 => T.call k 58 sg_l_toOp ((a0, a1, ()), ()))
noncomputable abbrev t_l_toOpS (k : Nat) : C_l_toOpS := (fun a0 => T.call k 21 sg_l_toOpS (a0, ()))
noncomputable abbrev t_s_argOf (k : Nat) : C_s_argOf := (fun a0 => T.call k 112 sg_s_argOf (a0, ()))
noncomputable abbrev t_Z59 (k : Nat) : C_Z59 := (fun a0 a1 a2 => T.call k 69 sg_Z59 (a0, a1, a2, ()))
noncomputable abbrev t_Z65 (k : Nat) : C_Z65 := (fun a0 a1 => T.call k 85 sg_Z65 ((a0, a1, ()), ()))
noncomputable abbrev t_Z58 (k : Nat) : C_Z58 := (fun a0 => T.call k 48 sg_Z58 (a0, ()))
noncomputable abbrev t_Z49 (k : Nat) : C_Z49 := (T.call k 70 sg_Z49 ())
noncomputable abbrev t_Z53 (k : Nat) : C_Z53 := (fun a0 => T.call k 97 sg_Z53 (a0, ()))
noncomputable abbrev t_Z34 (k : Nat) : C_Z34 := (fun a0 a1 a2 a3 a4 => T.call k 73 sg_Z34 ((a0, a1, a2, a3, a4, ()), ()))
noncomputable abbrev t_Z61 (k : Nat) : C_Z61 := (fun a0 => T.call k 93 sg_Z61 (a0, ()))
noncomputable abbrev t_Z44 (k : Nat) : C_Z44 := (fun a0 a1 a2 a3 a4 a5 => T.call k 94 sg_Z44 ((a0, a1, a2, a3, a4, ()), a5, ()))
noncomputable abbrev t_Z62 (k : Nat) : C_Z62 := (fun a0 a1 a2 a3 a4 a5 => T.call k 71 sg_Z62 ((a0, a1, a2, a3, a4, ()), a5, ()))
noncomputable abbrev t_Z67 (k : Nat) : C_Z67 := (fun a0 => T.call k 125 sg_Z67 (a0, ()))
noncomputable abbrev t_Z39 (k : Nat) : C_Z39 := (fun a0 a1 a2 a3 a4 a5 => T.call k 95 sg_Z39 ((a0, a1, a2, a3, a4, ()), a5, ()))
noncomputable abbrev t_Z36 (k : Nat) : C_Z36 := (fun a0 a1 a2 a3 a4 a5 a6 => T.call k 96 sg_Z36 ((a0, a1, a2, a3, a4, ()), (a5, a6, ()), ()))
noncomputable abbrev t_Z38 (k : Nat) : C_Z38 := (fun a0 a1 a2 a3 a4 a5 a6 => T.call k 72 sg_Z38 ((a0, a1, a2, a3, a4, ()), (a5, a6, ()), ()))
noncomputable abbrev t_Z45 (k : Nat) : C_Z45 := (fun a0 => T.call k 56 sg_Z45 (a0, ()))
noncomputable abbrev t_Z57 (k : Nat) : C_Z57 := (fun a0 => T.call k 57 sg_Z57 (a0, ()))
noncomputable abbrev t_Z48 (k : Nat) : C_Z48 := (fun a0 => T.call k 30 sg_Z48 (a0, ()))
noncomputable abbrev t_Z33 (k : Nat) : C_Z33 := (fun a0 => T.call k 17 sg_Z33 (a0, ()))
noncomputable abbrev t_Z66 (k : Nat) : C_Z66 := (fun a0 => T.call k 92 sg_Z66 (a0, ()))
noncomputable abbrev t_i_opOk (k : Nat) : C_i_opOk := (fun a0 a1 => T.call k 66 sg_i_opOk ((a0, a1, ()), ()))
noncomputable abbrev t_Z51 (k : Nat) : C_Z51 := (fun a0 => T.call k 31 sg_Z51 (a0, ()))
noncomputable abbrev t_Z40 (k : Nat) : C_Z40 := (fun a0 => T.call k 45 sg_Z40 (a0, ()))
noncomputable abbrev t_Z18 (k : Nat) : C_Z18 := (fun a0 => T.call k 82 sg_Z18 (a0, ()))
noncomputable abbrev t_Z22 (k : Nat) : C_Z22 := (fun a0 a1 a2 a3 => T.call k 105 sg_Z22 ((a0, a1, a2, a3, ()), ()))
noncomputable abbrev t_Z24 (k : Nat) : C_Z24 := (fun a0 a1 a2 a3 a4 => T.call k 107 sg_Z24 ((a0, a1, a2, a3, ()), a4, ()))
noncomputable abbrev t_Z25 (k : Nat) : C_Z25 := (fun a0 a1 a2 a3 a4 a5 a6 => T.call k 106 sg_Z25 ((a0, a1, a2, a3, ()), a4, a5, a6, ()))
noncomputable abbrev t_Z27 (k : Nat) : C_Z27 := (fun a0 a1 a2 a3 a4 => T.call k 109 sg_Z27 ((a0, a1, a2, a3, ()), a4, ()))
noncomputable abbrev t_Z23 (k : Nat) : C_Z23 := (fun a0 a1 a2 a3 => T.call k 108 sg_Z23 ((a0, a1, a2, a3, ()), ()))
noncomputable abbrev t_Z31 (k : Nat) : C_Z31 := (fun a0 a1 a2 a3 a4 => T.call k 110 sg_Z31 ((a0, a1, a2, a3, ()), a4, ()))
noncomputable abbrev t_Z63 (k : Nat) : C_Z63 := (fun a0 a1 a2 a3 => T.call k 132 sg_Z63 (a0, a1, (a2, a3, (), ()), ()))
noncomputable abbrev t_Z29 (k : Nat) : C_Z29 := (fun a0 a1 a2 a3 a4 => T.call k 111 sg_Z29 ((a0, a1, a2, a3, ()), a4, ()))
noncomputable abbrev t_Z35 (k : Nat) : C_Z35 := (fun a0 a1 a2 a3 a4 a5 => T.call k 83 sg_Z35 ((a0, a1, a2, a3, ()), (a4, a5, ()), ()))
noncomputable abbrev t_Z26 (k : Nat) : C_Z26 := (fun a0 a1 a2 a3 a4 a5 => T.call k 46 sg_Z26 ((a0, a1, a2, a3, ()), (a4, a5, ()), ()))
noncomputable abbrev t_Z46 (k : Nat) : C_Z46 := (fun a0 => T.call k 113 sg_Z46 (a0, ()))
noncomputable abbrev t_Z32 (k : Nat) : C_Z32 := (fun a0 a1 a2 a3 => T.call k 88 sg_Z32 ((a0, a1, a2, a3, ()), ()))
noncomputable abbrev t_Z42 (k : Nat) : C_Z42 := (fun a0 a1 a2 a3 => T.call k 74 sg_Z42 ((a0, a1, a2, a3, ()), ()))
noncomputable abbrev t_Z14 (k : Nat) : C_Z14 := (fun a0 => T.call k 51 sg_Z14 (a0, 74, ()))
noncomputable abbrev t_Z52 (k : Nat) : C_Z52 := (fun a0 => T.call k 40 sg_Z52 (a0, ()))
noncomputable abbrev t_Z56 (k : Nat) : C_Z56 := (fun a0 => T.call k 124 sg_Z56 (a0, ()))
noncomputable abbrev t_bits_Len (k : Nat) : C_bits_Len := (fun a0 => T.call k 91 sg_bits_Len (a0, ()))
noncomputable abbrev t_Z30 (k : Nat) : C_Z30 := (fun a0 => T.call k 138 sg_Z30 (a0, ()))
noncomputable abbrev t_Z37 (k : Nat) : C_Z37 := (fun a0 a1 => T.call k 120 sg_Z37 (a0, a1, ()))
noncomputable abbrev t_Z4 (k : Nat) : C_Z4 := (fun a0 a1 a2 => T.call k 114 sg_Z4 (a0, a1, a2, ()))
noncomputable abbrev t_Z10 (k : Nat) : C_Z10 := (fun a0 a1 a2 a3 => T.call k 133 sg_Z10 (a0, a1, a2, a3, ()))
noncomputable abbrev t_Z9 (k : Nat) : C_Z9 := (fun a0 a1 a2 => T.call k 115 sg_Z9 (a0, a1, a2, ()))
noncomputable abbrev t_Z16 (k : Nat) : C_Z16 := (fun a0 => T.call k 134 sg_Z16 (a0, ()))
noncomputable abbrev t_Z17 (k : Nat) : C_Z17 := (fun a0 => T.call k 135 sg_Z17 ((a0, ()), ()))
noncomputable abbrev t_Z3 (k : Nat) : C_Z3 := (fun a0 a1 a2 => T.call k 116 sg_Z3 (a0, a1, a2, ()))
noncomputable abbrev t_Z13 (k : Nat) : C_Z13 := (fun a0 a1 a2 a3 => T.call k 141 sg_Z13 (a0, a1, a2, (a3, ()), ()))
noncomputable abbrev t_Z12 (k : Nat) : C_Z12 := (fun a0 a1 a2 a3 a4 => T.call k 137 sg_Z12 (a0, a1, a2, a3, (a4, ()), ()))
noncomputable abbrev t_Z1 (k : Nat) : C_Z1 := (fun a0 a1 a2 => T.call k 136 sg_Z1 (a0, a1, (a2, ()), ()))
noncomputable abbrev t_Z6 (k : Nat) : C_Z6 := (fun a0 a1 a2 => T.call k 117 sg_Z6 (a0, a1, a2, ()))
noncomputable abbrev t_Z5 (k : Nat) : C_Z5 := (fun a0 a1 a2 => T.call k 118 sg_Z5 (a0, a1, a2, ()))
noncomputable abbrev t_Z0 (k : Nat) : C_Z0 := (fun a0 a1 a2 => T.call k 119 sg_Z0 (a0, a1, a2, ()))
noncomputable abbrev t_Z2 (k : Nat) : C_Z2 := (fun a0 a1 a2 a3 => T.call k 121 sg_Z2 (a0, a1, a2, a3, ()))
noncomputable abbrev t_Z8 (k : Nat) : C_Z8 := (fun a0 a1 a2 a3 => T.call k 122 sg_Z8 (a0, a1, a2, a3, ()))
noncomputable abbrev t_Z11 (k : Nat) : C_Z11 := (fun a0 a1 a2 a3 => T.call k 90 sg_Z11 (a0, a1, a2, a3, ()))
noncomputable abbrev t_Z21 (k : Nat) : C_Z21 := (fun a0 => T.call k 63 sg_Z21 (a0, ()))
noncomputable abbrev t_Z15 (k : Nat) : C_Z15 := (fun a0 => T.call k 65 sg_Z15 (a0, ()))
noncomputable abbrev t_Z19 (k : Nat) : C_Z19 := (fun a0 => T.call k 64 sg_Z19 (a0, ()))
noncomputable abbrev t_Z47 (k : Nat) : C_Z47 := (fun a0 => T.call k 28 sg_Z47 (a0, ()))
noncomputable abbrev t_Z28 (k : Nat) : C_Z28 := (fun a0 a1 a2 a3 a4 a5 a6 => T.call k 55 sg_Z28 ((a0, a1, (), a2, ()), (a3, a4, a5, a6, ()), ()))
noncomputable abbrev t_Z7 (k : Nat) : C_Z7 := (fun a0 a1 a2 a3 a4 => T.call k 100051 sg_Z7 (a0, (a1, a2, a3, a4, ()), ()))
noncomputable abbrev t_Z41 (k : Nat) : C_Z41 := (fun a0 => T.call k 16 sg_Z41 (a0, ()))
noncomputable abbrev t_l_eqIntS (k : Nat) : C_l_eqIntS := (fun a0 a1 => T.call k 59 sg_l_eqIntS (a0, a1, ()))
noncomputable abbrev t_Z64 (k : Nat) : C_Z64 := (fun a0 a1 a2 a3 a4 a5 a6 a7 => T.call k 22 sg_Z64 ((a0, a1, a2, a3, ()), (a4, a5, a6, a7, ()), ()))
noncomputable abbrev t_l_eqOp (k : Nat) : C_l_eqOp := (fun a0 a1 a2 a3 => T.call k 60 sg_l_eqOp ((a0, a1, ()), (a2, a3, ()), ()))
noncomputable abbrev t_l_eqOpS (k : Nat) : C_l_eqOpS := (fun a0 a1 => T.call k 23 sg_l_eqOpS (a0, a1, ()))
noncomputable abbrev t_Z60 (k : Nat) : C_Z60 := (fun a0 a1 => T.call k 24 sg_Z60 (a0, a1, ()))
noncomputable abbrev t_Z55 (k : Nat) : C_Z55 := (fun a0 a1 => T.call k 61 sg_Z55 (a0, a1, ()))
noncomputable abbrev t_Z43 (k : Nat) : C_Z43 := (fun a0 a1 a2 a3 a4 => T.call k 25 sg_Z43 ((a0, a1, a2, a3, ()), a4, ()))
noncomputable abbrev t_Z54 (k : Nat) : C_Z54 := (fun a0 a1 => T.call k 62 sg_Z54 (a0, a1, ()))
noncomputable abbrev t_Z50 (k : Nat) : C_Z50 := (fun a0 a1 a2 a3 a4 => T.call k 26 sg_Z50 ((a0, a1, a2, a3, ()), a4, ()))
noncomputable abbrev t_Z20 (k : Nat) : C_Z20 := (fun a0 => T.call k 6 sg_Z20 (a0, ()))
theorem b_l_szOpS (k : Nat) (a0 a1 : _) : t_l_szOpS (k + 1) a0 a1 = B_l_szOpS k a0 a1 := by kernel_rfl
theorem b_l_toOp (k : Nat) (a0 a1 : _) : t_l_toOp (k + 1) a0 a1 = B_l_toOp k a0 a1 := by kernel_rfl
theorem b_l_toOpS (k : Nat) (a0 : _) : t_l_toOpS (k + 1) a0 = B_l_toOpS k (t_l_toOp k) a0 := by kernel_rfl
theorem b_s_argOf (k : Nat) (a0 : _) : t_s_argOf (k + 1) a0 = B_s_argOf k a0 := by kernel_rfl
theorem b_Z59 (k : Nat) (a0 a1 a2 : _) : t_Z59 (k + 1) a0 a1 a2 = B_Z59 k a0 a1 a2 := by kernel_rfl
theorem b_Z65 (k : Nat) (a0 a1 : _) : t_Z65 (k + 1) a0 a1 = B_Z65 k (t_s_argOf k) (t_Z59 k) a0 a1 := by kernel_rfl
theorem b_Z58 (k : Nat) (a0 : _) : t_Z58 (k + 1) a0 = B_Z58 k (t_Z65 k) a0 := by kernel_rfl
theorem b_Z49 (k : Nat) : t_Z49 (k + 1) = B_Z49 k := by kernel_rfl
theorem b_Z53 (k : Nat) (a0 : _) : t_Z53 (k + 1) a0 = B_Z53 k a0 := by kernel_rfl
theorem b_Z34 (k : Nat) (a0 a1 a2 a3 a4 : _) : t_Z34 (k + 1) a0 a1 a2 a3 a4 = B_Z34 k (t_Z53 k) a0 a1 a2 a3 a4 := by kernel_rfl
theorem b_Z61 (k : Nat) (a0 : _) : t_Z61 (k + 1) a0 = B_Z61 k a0 := by kernel_rfl
theorem b_Z44 (k : Nat) (a0 a1 a2 a3 a4 a5 : _) : t_Z44 (k + 1) a0 a1 a2 a3 a4 a5 = B_Z44 k a0 a1 a2 a3 a4 a5 := by kernel_rfl
theorem b_Z62 (k : Nat) (a0 a1 a2 a3 a4 a5 : _) : t_Z62 (k + 1) a0 a1 a2 a3 a4 a5 = B_Z62 k a0 a1 a2 a3 a4 a5 := by kernel_rfl
theorem b_Z67 (k : Nat) (a0 : _) : t_Z67 (k + 1) a0 = B_Z67 k a0 := by kernel_rfl
theorem b_Z39 (k : Nat) (a0 a1 a2 a3 a4 a5 : _) : t_Z39 (k + 1) a0 a1 a2 a3 a4 a5 = B_Z39 k (t_Z53 k) (t_Z44 k) (t_Z62 k) (t_Z67 k) a0 a1 a2 a3 a4 a5 := by kernel_rfl
theorem b_Z36 (k : Nat) (a0 a1 a2 a3 a4 a5 a6 : _) : t_Z36 (k + 1) a0 a1 a2 a3 a4 a5 a6 = B_Z36 k (t_Z62 k) (t_Z44 k) (t_Z67 k) a0 a1 a2 a3 a4 a5 a6 := by kernel_rfl
theorem b_Z38 (k : Nat) (a0 a1 a2 a3 a4 a5 a6 : _) : t_Z38 (k + 1) a0 a1 a2 a3 a4 a5 a6 = B_Z38 k (t_Z61 k) (t_Z44 k) (t_Z39 k) (t_Z36 k) a0 a1 a2 a3 a4 a5 a6 := by kernel_rfl
theorem b_Z45 (k : Nat) (a0 : _) : t_Z45 (k + 1) a0 = B_Z45 k (t_Z49 k) (t_Z34 k) (t_Z38 k) a0 := by kernel_rfl
theorem b_Z57 (k : Nat) (a0 : _) : t_Z57 (k + 1) a0 = B_Z57 k (t_Z58 k) (t_Z45 k) a0 := by kernel_rfl
theorem b_Z48 (k : Nat) (a0 : _) : t_Z48 (k + 1) a0 = B_Z48 k (t_Z58 k) a0 := by kernel_rfl
theorem b_Z33 (k : Nat) (a0 : _) : t_Z33 (k + 1) a0 = B_Z33 k (t_Z58 k) (t_Z45 k) (t_Z57 k) (t_Z48 k) a0 := by kernel_rfl
theorem b_Z66 (k : Nat) (a0 : _) : t_Z66 (k + 1) a0 = B_Z66 k a0 := by kernel_rfl
theorem b_i_opOk (k : Nat) (a0 a1 : _) : t_i_opOk (k + 1) a0 a1 = B_i_opOk k (t_Z66 k) a0 a1 := by kernel_rfl
theorem b_Z51 (k : Nat) (a0 : _) : t_Z51 (k + 1) a0 = B_Z51 k (t_i_opOk k) a0 := by kernel_rfl
theorem b_Z40 (k : Nat) (a0 : _) : t_Z40 (k + 1) a0 = B_Z40 k a0 := by kernel_rfl
theorem b_Z18 (k : Nat) (a0 : _) : t_Z18 (k + 1) a0 = B_Z18 k a0 := by kernel_rfl
theorem b_Z22 (k : Nat) (a0 a1 a2 a3 : _) : t_Z22 (k + 1) a0 a1 a2 a3 = B_Z22 k a0 a1 a2 a3 := by kernel_rfl
theorem b_Z24 (k : Nat) (a0 a1 a2 a3 a4 : _) : t_Z24 (k + 1) a0 a1 a2 a3 a4 = B_Z24 k a0 a1 a2 a3 a4 := by kernel_rfl
theorem b_Z25 (k : Nat) (a0 a1 a2 a3 a4 a5 a6 : _) : t_Z25 (k + 1) a0 a1 a2 a3 a4 a5 a6 = B_Z25 k (t_Z18 k) (t_Z24 k) a0 a1 a2 a3 a4 a5 a6 := by kernel_rfl
theorem b_Z27 (k : Nat) (a0 a1 a2 a3 a4 : _) : t_Z27 (k + 1) a0 a1 a2 a3 a4 = B_Z27 k (t_Z18 k) a0 a1 a2 a3 a4 := by kernel_rfl
theorem b_Z23 (k : Nat) (a0 a1 a2 a3 : _) : t_Z23 (k + 1) a0 a1 a2 a3 = B_Z23 k (t_Z22 k) (t_Z27 k) a0 a1 a2 a3 := by kernel_rfl
theorem b_Z31 (k : Nat) (a0 a1 a2 a3 a4 : _) : t_Z31 (k + 1) a0 a1 a2 a3 a4 = B_Z31 k (t_Z22 k) a0 a1 a2 a3 a4 := by kernel_rfl
theorem b_Z63 (k : Nat) (a0 a1 a2 a3 : _) : t_Z63 (k + 1) a0 a1 a2 a3 = B_Z63 k a0 a1 a2 a3 := by kernel_rfl
theorem b_Z29 (k : Nat) (a0 a1 a2 a3 a4 : _) : t_Z29 (k + 1) a0 a1 a2 a3 a4 = B_Z29 k (t_Z31 k) (t_Z63 k) a0 a1 a2 a3 a4 := by kernel_rfl
theorem b_Z35 (k : Nat) (a0 a1 a2 a3 a4 a5 : _) : t_Z35 (k + 1) a0 a1 a2 a3 a4 a5 = B_Z35 k (t_Z22 k) (t_Z25 k) (t_Z24 k) (t_Z23 k) (t_Z27 k) (t_Z31 k) (t_Z29 k) a0 a1 a2 a3 a4 a5 := by kernel_rfl
theorem b_Z26 (k : Nat) (a0 a1 a2 a3 a4 a5 : _) : t_Z26 (k + 1) a0 a1 a2 a3 a4 a5 = B_Z26 k (t_Z18 k) (t_Z35 k) a0 a1 a2 a3 a4 a5 := by kernel_rfl
theorem b_Z46 (k : Nat) (a0 : _) : t_Z46 (k + 1) a0 = B_Z46 k (t_Z18 k) a0 := by kernel_rfl
theorem b_Z32 (k : Nat) (a0 a1 a2 a3 : _) : t_Z32 (k + 1) a0 a1 a2 a3 = B_Z32 k (t_Z46 k) (t_Z18 k) a0 a1 a2 a3 := by kernel_rfl
theorem b_Z42 (k : Nat) (a0 a1 a2 a3 : _) : t_Z42 (k + 1) a0 a1 a2 a3 = B_Z42 k a0 a1 a2 a3 := by kernel_rfl
theorem b_Z14 (k : Nat) (a0 : _) : t_Z14 (k + 1) a0 = B_Z14 k (t_Z40 k) (t_Z26 k) (t_Z32 k) (t_Z42 k) a0 := by kernel_rfl
theorem b_Z52 (k : Nat) (a0 : _) : t_Z52 (k + 1) a0 = B_Z52 k (t_Z51 k) (t_Z14 k) a0 := by kernel_rfl
theorem b_Z56 (k : Nat) (a0 : _) : t_Z56 (k + 1) a0 = B_Z56 k a0 := by kernel_rfl
theorem b_bits_Len (k : Nat) (a0 : _) : t_bits_Len (k + 1) a0 = B_bits_Len k (t_Z56 k) a0 := by kernel_rfl
theorem b_Z30 (k : Nat) (a0 : _) : t_Z30 (k + 1) a0 = B_Z30 k a0 := by kernel_rfl
theorem b_Z37 (k : Nat) (a0 a1 : _) : t_Z37 (k + 1) a0 a1 = B_Z37 k (t_Z30 k) a0 a1 := by kernel_rfl
theorem b_Z4 (k : Nat) (a0 a1 a2 : _) : t_Z4 (k + 1) a0 a1 a2 = B_Z4 k (t_Z37 k) a0 a1 a2 := by kernel_rfl
theorem b_Z10 (k : Nat) (a0 a1 a2 a3 : _) : t_Z10 (k + 1) a0 a1 a2 a3 = B_Z10 k (t_Z37 k) a0 a1 a2 a3 := by kernel_rfl
theorem b_Z9 (k : Nat) (a0 a1 a2 : _) : t_Z9 (k + 1) a0 a1 a2 = B_Z9 k (t_Z10 k) a0 a1 a2 := by kernel_rfl
theorem b_Z16 (k : Nat) (a0 : _) : t_Z16 (k + 1) a0 = B_Z16 k (t_bits_Len k) a0 := by kernel_rfl
theorem b_Z17 (k : Nat) (a0 : _) : t_Z17 (k + 1) a0 = B_Z17 k a0 := by kernel_rfl
theorem b_Z3 (k : Nat) (a0 a1 a2 : _) : t_Z3 (k + 1) a0 a1 a2 = B_Z3 k (t_Z16 k) (t_Z17 k) a0 a1 a2 := by kernel_rfl
theorem b_Z13 (k : Nat) (a0 a1 a2 a3 : _) : t_Z13 (k + 1) a0 a1 a2 a3 = B_Z13 k (t_Z37 k) a0 a1 a2 a3 := by kernel_rfl
theorem b_Z12 (k : Nat) (a0 a1 a2 a3 a4 : _) : t_Z12 (k + 1) a0 a1 a2 a3 a4 = B_Z12 k (t_Z13 k) a0 a1 a2 a3 a4 := by kernel_rfl
theorem b_Z1 (k : Nat) (a0 a1 a2 : _) : t_Z1 (k + 1) a0 a1 a2 = B_Z1 k (t_Z12 k) a0 a1 a2 := by kernel_rfl
theorem b_Z6 (k : Nat) (a0 a1 a2 : _) : t_Z6 (k + 1) a0 a1 a2 = B_Z6 k (t_Z1 k) (t_Z12 k) a0 a1 a2 := by kernel_rfl
theorem b_Z5 (k : Nat) (a0 a1 a2 : _) : t_Z5 (k + 1) a0 a1 a2 = B_Z5 k a0 a1 a2 := by kernel_rfl
theorem b_Z0 (k : Nat) (a0 a1 a2 : _) : t_Z0 (k + 1) a0 a1 a2 = B_Z0 k (t_Z37 k) a0 a1 a2 := by kernel_rfl
theorem b_Z2 (k : Nat) (a0 a1 a2 a3 : _) : t_Z2 (k + 1) a0 a1 a2 a3 = B_Z2 k (t_Z37 k) a0 a1 a2 a3 := by kernel_rfl
theorem b_Z8 (k : Nat) (a0 a1 a2 a3 : _) : t_Z8 (k + 1) a0 a1 a2 a3 = B_Z8 k (t_Z37 k) a0 a1 a2 a3 := by kernel_rfl
theorem b_Z11 (k : Nat) (a0 a1 a2 a3 : _) : t_Z11 (k + 1) a0 a1 a2 a3 = B_Z11 k (t_Z4 k) (t_Z9 k) (t_Z3 k) (t_Z6 k) (t_Z5 k) (t_Z0 k) (t_Z37 k) (t_Z2 k) (t_Z8 k) (t_Z11 k) a0 a1 a2 a3 := by kernel_rfl
theorem b_Z21 (k : Nat) (a0 : _) : t_Z21 (k + 1) a0 = B_Z21 k (t_bits_Len k) (t_Z11 k) a0 := by kernel_rfl
theorem b_Z15 (k : Nat) (a0 : _) : t_Z15 (k + 1) a0 = B_Z15 k a0 := by kernel_rfl
theorem b_Z19 (k : Nat) (a0 : _) : t_Z19 (k + 1) a0 = B_Z19 k a0 := by kernel_rfl
theorem b_Z47 (k : Nat) (a0 : _) : t_Z47 (k + 1) a0 = B_Z47 k (t_Z51 k) (t_Z21 k) (t_Z15 k) (t_Z19 k) a0 := by kernel_rfl
theorem b_Z28 (k : Nat) (a0 a1 a2 a3 a4 a5 a6 : _) : t_Z28 (k + 1) a0 a1 a2 a3 a4 a5 a6 = B_Z28 k a0 a1 a2 a3 a4 a5 a6 := by kernel_rfl
theorem b_Z7 (k : Nat) (a0 a1 a2 a3 a4 : _) : t_Z7 (k + 1) a0 a1 a2 a3 a4 = B_Z7 k (t_Z40 k) (t_Z26 k) (t_Z32 k) (t_Z28 k) a0 a1 a2 a3 a4 := by kernel_rfl
theorem b_Z41 (k : Nat) (a0 : _) : t_Z41 (k + 1) a0 = B_Z41 k (t_Z52 k) (t_Z47 k) (t_Z7 k) a0 := by kernel_rfl
theorem b_l_eqIntS (k : Nat) (a0 a1 : _) : t_l_eqIntS (k + 1) a0 a1 = B_l_eqIntS k a0 a1 := by kernel_rfl
theorem b_Z64 (k : Nat) (a0 a1 a2 a3 a4 a5 a6 a7 : _) : t_Z64 (k + 1) a0 a1 a2 a3 a4 a5 a6 a7 = B_Z64 k (t_l_eqIntS k) a0 a1 a2 a3 a4 a5 a6 a7 := by kernel_rfl
theorem b_l_eqOp (k : Nat) (a0 a1 a2 a3 : _) : t_l_eqOp (k + 1) a0 a1 a2 a3 = B_l_eqOp k a0 a1 a2 a3 := by kernel_rfl
theorem b_l_eqOpS (k : Nat) (a0 a1 : _) : t_l_eqOpS (k + 1) a0 a1 = B_l_eqOpS k (t_l_eqOp k) a0 a1 := by kernel_rfl
theorem b_Z60 (k : Nat) (a0 a1 : _) : t_Z60 (k + 1) a0 a1 = B_Z60 k a0 a1 := by kernel_rfl
theorem b_Z55 (k : Nat) (a0 a1 : _) : t_Z55 (k + 1) a0 a1 = B_Z55 k a0 a1 := by kernel_rfl
theorem b_Z43 (k : Nat) (a0 a1 a2 a3 a4 : _) : t_Z43 (k + 1) a0 a1 a2 a3 a4 = B_Z43 k (t_Z55 k) a0 a1 a2 a3 a4 := by kernel_rfl
theorem b_Z54 (k : Nat) (a0 a1 : _) : t_Z54 (k + 1) a0 a1 = B_Z54 k a0 a1 := by kernel_rfl
theorem b_Z50 (k : Nat) (a0 a1 a2 a3 a4 : _) : t_Z50 (k + 1) a0 a1 a2 a3 a4 = B_Z50 k (t_Z54 k) a0 a1 a2 a3 a4 := by kernel_rfl
theorem b_Z20 (k : Nat) (a0 : _) : t_Z20 (k + 1) a0 = B_Z20 k (t_l_szOpS k) (t_l_toOpS k) (t_Z33 k) (t_Z41 k) (t_Z64 k) (t_l_eqOpS k) (t_Z60 k) (t_Z43 k) (t_Z50 k) a0 := by kernel_rfl
end Go.Gx

/-
  The calls of the table (printed by gen.py).
-/
set_option linter.unusedVariables false
namespace Go.Gx
open Go.Proofs
theorem c_l_szOpS (k : Nat) : t_l_szOpS k = F_l_szOpS k := by
  cases k with
  | zero => rfl
  | succ k => funext a0 a1; exact (b_l_szOpS k a0 a1)
theorem c_l_toOp (k : Nat) : t_l_toOp k = F_l_toOp k := by
  cases k with
  | zero => rfl
  | succ k => funext a0 a1; exact (b_l_toOp k a0 a1)
theorem c_l_toOpS (k : Nat) : t_l_toOpS k = F_l_toOpS k := by
  cases k with
  | zero => rfl
  | succ k => funext a0; exact (b_l_toOpS k a0).trans (by rw [c_l_toOp k]; rfl)
theorem c_s_argOf (k : Nat) : t_s_argOf k = F_s_argOf k := by
  cases k with
  | zero => rfl
  | succ k => funext a0; exact (b_s_argOf k a0)
theorem c_Z59 (k : Nat) : t_Z59 k = F_Z59 k := by
  cases k with
  | zero => rfl
  | succ k => funext a0 a1 a2; exact (b_Z59 k a0 a1 a2)
theorem c_Z65 (k : Nat) : t_Z65 k = F_Z65 k := by
  cases k with
  | zero => rfl
  | succ k => funext a0 a1; exact (b_Z65 k a0 a1).trans (by rw [c_s_argOf k, c_Z59 k]; rfl)
theorem c_Z58 (k : Nat) : t_Z58 k = F_Z58 k := by
  cases k with
  | zero => rfl
  | succ k => funext a0; exact (b_Z58 k a0).trans (by rw [c_Z65 k]; rfl)
theorem c_Z49 (k : Nat) : t_Z49 k = F_Z49 k := by
  cases k with
  | zero => rfl
  | succ k => exact (b_Z49 k)
theorem c_Z53 (k : Nat) : t_Z53 k = F_Z53 k := by
  cases k with
  | zero => rfl
  | succ k => funext a0; exact (b_Z53 k a0)
theorem c_Z34 (k : Nat) : t_Z34 k = F_Z34 k := by
  cases k with
  | zero => rfl
  | succ k => funext a0 a1 a2 a3 a4; exact (b_Z34 k a0 a1 a2 a3 a4).trans (by rw [c_Z53 k]; rfl)
theorem c_Z61 (k : Nat) : t_Z61 k = F_Z61 k := by
  cases k with
  | zero => rfl
  | succ k => funext a0; exact (b_Z61 k a0)
theorem c_Z44 (k : Nat) : t_Z44 k = F_Z44 k := by
  cases k with
  | zero => rfl
  | succ k => funext a0 a1 a2 a3 a4 a5; exact (b_Z44 k a0 a1 a2 a3 a4 a5)
theorem c_Z62 (k : Nat) : t_Z62 k = F_Z62 k := by
  cases k with
  | zero => rfl
  | succ k => funext a0 a1 a2 a3 a4 a5; exact (b_Z62 k a0 a1 a2 a3 a4 a5)
theorem c_Z67 (k : Nat) : t_Z67 k = F_Z67 k := by
  cases k with
  | zero => rfl
  | succ k => funext a0; exact (b_Z67 k a0)
theorem c_Z39 (k : Nat) : t_Z39 k = F_Z39 k := by
  cases k with
  | zero => rfl
  | succ k => funext a0 a1 a2 a3 a4 a5; exact (b_Z39 k a0 a1 a2 a3 a4 a5).trans (by rw [c_Z53 k, c_Z44 k, c_Z62 k, c_Z67 k]; rfl)
theorem c_Z36 (k : Nat) : t_Z36 k = F_Z36 k := by
  cases k with
  | zero => rfl
  | succ k => funext a0 a1 a2 a3 a4 a5 a6; exact (b_Z36 k a0 a1 a2 a3 a4 a5 a6).trans (by rw [c_Z62 k, c_Z44 k, c_Z67 k]; rfl)
theorem c_Z38 (k : Nat) : t_Z38 k = F_Z38 k := by
  cases k with
  | zero => rfl
  | succ k => funext a0 a1 a2 a3 a4 a5 a6; exact (b_Z38 k a0 a1 a2 a3 a4 a5 a6).trans (by rw [c_Z61 k, c_Z44 k, c_Z39 k, c_Z36 k]; rfl)
theorem c_Z45 (k : Nat) : t_Z45 k = F_Z45 k := by
  cases k with
  | zero => rfl
  | succ k => funext a0; exact (b_Z45 k a0).trans (by rw [c_Z49 k, c_Z34 k, c_Z38 k]; rfl)
theorem c_Z57 (k : Nat) : t_Z57 k = F_Z57 k := by
  cases k with
  | zero => rfl
  | succ k => funext a0; exact (b_Z57 k a0).trans (by rw [c_Z58 k, c_Z45 k]; rfl)
theorem c_Z48 (k : Nat) : t_Z48 k = F_Z48 k := by
  cases k with
  | zero => rfl
  | succ k => funext a0; exact (b_Z48 k a0).trans (by rw [c_Z58 k]; rfl)
theorem c_Z33 (k : Nat) : t_Z33 k = F_Z33 k := by
  cases k with
  | zero => rfl
  | succ k => funext a0; exact (b_Z33 k a0).trans (by rw [c_Z58 k, c_Z45 k, c_Z57 k, c_Z48 k]; rfl)
theorem c_Z66 (k : Nat) : t_Z66 k = F_Z66 k := by
  cases k with
  | zero => rfl
  | succ k => funext a0; exact (b_Z66 k a0)
theorem c_i_opOk (k : Nat) : t_i_opOk k = F_i_opOk k := by
  cases k with
  | zero => rfl
  | succ k => funext a0 a1; exact (b_i_opOk k a0 a1).trans (by rw [c_Z66 k]; rfl)
theorem c_Z51 (k : Nat) : t_Z51 k = F_Z51 k := by
  cases k with
  | zero => rfl
  | succ k => funext a0; exact (b_Z51 k a0).trans (by rw [c_i_opOk k]; rfl)
theorem c_Z40 (k : Nat) : t_Z40 k = F_Z40 k := by
  cases k with
  | zero => rfl
  | succ k => funext a0; exact (b_Z40 k a0)
theorem c_Z18 (k : Nat) : t_Z18 k = F_Z18 k := by
  cases k with
  | zero => rfl
  | succ k => funext a0; exact (b_Z18 k a0)
theorem c_Z22 (k : Nat) : t_Z22 k = F_Z22 k := by
  cases k with
  | zero => rfl
  | succ k => funext a0 a1 a2 a3; exact (b_Z22 k a0 a1 a2 a3)
theorem c_Z24 (k : Nat) : t_Z24 k = F_Z24 k := by
  cases k with
  | zero => rfl
  | succ k => funext a0 a1 a2 a3 a4; exact (b_Z24 k a0 a1 a2 a3 a4)
theorem c_Z25 (k : Nat) : t_Z25 k = F_Z25 k := by
  cases k with
  | zero => rfl
  | succ k => funext a0 a1 a2 a3 a4 a5 a6; exact (b_Z25 k a0 a1 a2 a3 a4 a5 a6).trans (by rw [c_Z18 k, c_Z24 k]; rfl)
theorem c_Z27 (k : Nat) : t_Z27 k = F_Z27 k := by
  cases k with
  | zero => rfl
  | succ k => funext a0 a1 a2 a3 a4; exact (b_Z27 k a0 a1 a2 a3 a4).trans (by rw [c_Z18 k]; rfl)
theorem c_Z23 (k : Nat) : t_Z23 k = F_Z23 k := by
  cases k with
  | zero => rfl
  | succ k => funext a0 a1 a2 a3; exact (b_Z23 k a0 a1 a2 a3).trans (by rw [c_Z22 k, c_Z27 k]; rfl)
theorem c_Z31 (k : Nat) : t_Z31 k = F_Z31 k := by
  cases k with
  | zero => rfl
  | succ k => funext a0 a1 a2 a3 a4; exact (b_Z31 k a0 a1 a2 a3 a4).trans (by rw [c_Z22 k]; rfl)
theorem c_Z63 (k : Nat) : t_Z63 k = F_Z63 k := by
  cases k with
  | zero => rfl
  | succ k => funext a0 a1 a2 a3; exact (b_Z63 k a0 a1 a2 a3)
theorem c_Z29 (k : Nat) : t_Z29 k = F_Z29 k := by
  cases k with
  | zero => rfl
  | succ k => funext a0 a1 a2 a3 a4; exact (b_Z29 k a0 a1 a2 a3 a4).trans (by rw [c_Z31 k, c_Z63 k]; rfl)
theorem c_Z35 (k : Nat) : t_Z35 k = F_Z35 k := by
  cases k with
  | zero => rfl
  | succ k => funext a0 a1 a2 a3 a4 a5; exact (b_Z35 k a0 a1 a2 a3 a4 a5).trans (by rw [c_Z22 k, c_Z25 k, c_Z24 k, c_Z23 k, c_Z27 k, c_Z31 k, c_Z29 k]; rfl)
theorem c_Z26 (k : Nat) : t_Z26 k = F_Z26 k := by
  cases k with
  | zero => rfl
  | succ k => funext a0 a1 a2 a3 a4 a5; exact (b_Z26 k a0 a1 a2 a3 a4 a5).trans (by rw [c_Z18 k, c_Z35 k]; rfl)
theorem c_Z46 (k : Nat) : t_Z46 k = F_Z46 k := by
  cases k with
  | zero => rfl
  | succ k => funext a0; exact (b_Z46 k a0).trans (by rw [c_Z18 k]; rfl)
theorem c_Z32 (k : Nat) : t_Z32 k = F_Z32 k := by
  cases k with
  | zero => rfl
  | succ k => funext a0 a1 a2 a3; exact (b_Z32 k a0 a1 a2 a3).trans (by rw [c_Z46 k, c_Z18 k]; rfl)
theorem c_Z42 (k : Nat) : t_Z42 k = F_Z42 k := by
  cases k with
  | zero => rfl
  | succ k => funext a0 a1 a2 a3; exact (b_Z42 k a0 a1 a2 a3)
theorem c_Z14 (k : Nat) : t_Z14 k = F_Z14 k := by
  cases k with
  | zero => rfl
  | succ k => funext a0; exact (b_Z14 k a0).trans (by rw [c_Z40 k, c_Z26 k, c_Z32 k, c_Z42 k]; rfl)
theorem c_Z52 (k : Nat) : t_Z52 k = F_Z52 k := by
  cases k with
  | zero => rfl
  | succ k => funext a0; exact (b_Z52 k a0).trans (by rw [c_Z51 k, c_Z14 k]; rfl)
theorem c_Z56 (k : Nat) : t_Z56 k = F_Z56 k := by
  cases k with
  | zero => rfl
  | succ k => funext a0; exact (b_Z56 k a0)
theorem c_bits_Len (k : Nat) : t_bits_Len k = F_bits_Len k := by
  cases k with
  | zero => rfl
  | succ k => funext a0; exact (b_bits_Len k a0).trans (by rw [c_Z56 k]; rfl)
theorem c_Z30 (k : Nat) : t_Z30 k = F_Z30 k := by
  cases k with
  | zero => rfl
  | succ k => funext a0; exact (b_Z30 k a0)
theorem c_Z37 (k : Nat) : t_Z37 k = F_Z37 k := by
  cases k with
  | zero => rfl
  | succ k => funext a0 a1; exact (b_Z37 k a0 a1).trans (by rw [c_Z30 k]; rfl)
theorem c_Z4 (k : Nat) : t_Z4 k = F_Z4 k := by
  cases k with
  | zero => rfl
  | succ k => funext a0 a1 a2; exact (b_Z4 k a0 a1 a2).trans (by rw [c_Z37 k]; rfl)
theorem c_Z10 (k : Nat) : t_Z10 k = F_Z10 k := by
  cases k with
  | zero => rfl
  | succ k => funext a0 a1 a2 a3; exact (b_Z10 k a0 a1 a2 a3).trans (by rw [c_Z37 k]; rfl)
theorem c_Z9 (k : Nat) : t_Z9 k = F_Z9 k := by
  cases k with
  | zero => rfl
  | succ k => funext a0 a1 a2; exact (b_Z9 k a0 a1 a2).trans (by rw [c_Z10 k]; rfl)
theorem c_Z16 (k : Nat) : t_Z16 k = F_Z16 k := by
  cases k with
  | zero => rfl
  | succ k => funext a0; exact (b_Z16 k a0).trans (by rw [c_bits_Len k]; rfl)
theorem c_Z17 (k : Nat) : t_Z17 k = F_Z17 k := by
  cases k with
  | zero => rfl
  | succ k => funext a0; exact (b_Z17 k a0)
theorem c_Z3 (k : Nat) : t_Z3 k = F_Z3 k := by
  cases k with
  | zero => rfl
  | succ k => funext a0 a1 a2; exact (b_Z3 k a0 a1 a2).trans (by rw [c_Z16 k, c_Z17 k]; rfl)
theorem c_Z13 (k : Nat) : t_Z13 k = F_Z13 k := by
  cases k with
  | zero => rfl
  | succ k => funext a0 a1 a2 a3; exact (b_Z13 k a0 a1 a2 a3).trans (by rw [c_Z37 k]; rfl)
theorem c_Z12 (k : Nat) : t_Z12 k = F_Z12 k := by
  cases k with
  | zero => rfl
  | succ k => funext a0 a1 a2 a3 a4; exact (b_Z12 k a0 a1 a2 a3 a4).trans (by rw [c_Z13 k]; rfl)
theorem c_Z1 (k : Nat) : t_Z1 k = F_Z1 k := by
  cases k with
  | zero => rfl
  | succ k => funext a0 a1 a2; exact (b_Z1 k a0 a1 a2).trans (by rw [c_Z12 k]; rfl)
theorem c_Z6 (k : Nat) : t_Z6 k = F_Z6 k := by
  cases k with
  | zero => rfl
  | succ k => funext a0 a1 a2; exact (b_Z6 k a0 a1 a2).trans (by rw [c_Z1 k, c_Z12 k]; rfl)
theorem c_Z5 (k : Nat) : t_Z5 k = F_Z5 k := by
  cases k with
  | zero => rfl
  | succ k => funext a0 a1 a2; exact (b_Z5 k a0 a1 a2)
theorem c_Z0 (k : Nat) : t_Z0 k = F_Z0 k := by
  cases k with
  | zero => rfl
  | succ k => funext a0 a1 a2; exact (b_Z0 k a0 a1 a2).trans (by rw [c_Z37 k]; rfl)
theorem c_Z2 (k : Nat) : t_Z2 k = F_Z2 k := by
  cases k with
  | zero => rfl
  | succ k => funext a0 a1 a2 a3; exact (b_Z2 k a0 a1 a2 a3).trans (by rw [c_Z37 k]; rfl)
theorem c_Z8 (k : Nat) : t_Z8 k = F_Z8 k := by
  cases k with
  | zero => rfl
  | succ k => funext a0 a1 a2 a3; exact (b_Z8 k a0 a1 a2 a3).trans (by rw [c_Z37 k]; rfl)
theorem c_slices_pdqsortOrdered_int_ : ∀ k : Nat, (t_Z11 k = F_Z11 k) ∧ True := by
  intro k
  induction k with
  | zero => exact ⟨by funext a0 a1 a2 a3;  first | rfl | (rw [F_Z11]; rfl), trivial⟩
  | succ k ih =>
    obtain ⟨h_Z11, _⟩ := ih
    refine ⟨?_, trivial⟩
    · funext a0 a1 a2 a3; rw [F_Z11_succ]; exact (b_Z11 k a0 a1 a2 a3).trans (by rw [c_Z4 k, c_Z9 k, c_Z3 k, c_Z6 k, c_Z5 k, c_Z0 k, c_Z37 k, c_Z2 k, c_Z8 k, h_Z11])
theorem c_Z11 (k : Nat) : t_Z11 k = F_Z11 k := (c_slices_pdqsortOrdered_int_ k).1
theorem c_Z21 (k : Nat) : t_Z21 k = F_Z21 k := by
  cases k with
  | zero => rfl
  | succ k => funext a0; exact (b_Z21 k a0).trans (by rw [c_bits_Len k, c_Z11 k]; rfl)
theorem c_Z15 (k : Nat) : t_Z15 k = F_Z15 k := by
  cases k with
  | zero => rfl
  | succ k => funext a0; exact (b_Z15 k a0)
theorem c_Z19 (k : Nat) : t_Z19 k = F_Z19 k := by
  cases k with
  | zero => rfl
  | succ k => funext a0; exact (b_Z19 k a0)
theorem c_Z47 (k : Nat) : t_Z47 k = F_Z47 k := by
  cases k with
  | zero => rfl
  | succ k => funext a0; exact (b_Z47 k a0).trans (by rw [c_Z51 k, c_Z21 k, c_Z15 k, c_Z19 k]; rfl)
theorem c_Z28 (k : Nat) : t_Z28 k = F_Z28 k := by
  cases k with
  | zero => rfl
  | succ k => funext a0 a1 a2 a3 a4 a5 a6; exact (b_Z28 k a0 a1 a2 a3 a4 a5 a6)
theorem c_Z7 (k : Nat) : t_Z7 k = F_Z7 k := by
  cases k with
  | zero => rfl
  | succ k => funext a0 a1 a2 a3 a4; exact (b_Z7 k a0 a1 a2 a3 a4).trans (by rw [c_Z40 k, c_Z26 k, c_Z32 k, c_Z28 k]; rfl)
theorem c_Z41 (k : Nat) : t_Z41 k = F_Z41 k := by
  cases k with
  | zero => rfl
  | succ k => funext a0; exact (b_Z41 k a0).trans (by rw [c_Z52 k, c_Z47 k, c_Z7 k]; rfl)
theorem c_l_eqIntS (k : Nat) : t_l_eqIntS k = F_l_eqIntS k := by
  cases k with
  | zero => rfl
  | succ k => funext a0 a1; exact (b_l_eqIntS k a0 a1)
theorem c_Z64 (k : Nat) : t_Z64 k = F_Z64 k := by
  cases k with
  | zero => rfl
  | succ k => funext a0 a1 a2 a3 a4 a5 a6 a7; exact (b_Z64 k a0 a1 a2 a3 a4 a5 a6 a7).trans (by rw [c_l_eqIntS k]; rfl)
theorem c_l_eqOp (k : Nat) : t_l_eqOp k = F_l_eqOp k := by
  cases k with
  | zero => rfl
  | succ k => funext a0 a1 a2 a3; exact (b_l_eqOp k a0 a1 a2 a3)
theorem c_l_eqOpS (k : Nat) : t_l_eqOpS k = F_l_eqOpS k := by
  cases k with
  | zero => rfl
  | succ k => funext a0 a1; exact (b_l_eqOpS k a0 a1).trans (by rw [c_l_eqOp k]; rfl)
theorem c_Z60 (k : Nat) : t_Z60 k = F_Z60 k := by
  cases k with
  | zero => rfl
  | succ k => funext a0 a1; exact (b_Z60 k a0 a1)
theorem c_Z55 (k : Nat) : t_Z55 k = F_Z55 k := by
  cases k with
  | zero => rfl
  | succ k => funext a0 a1; exact (b_Z55 k a0 a1)
theorem c_Z43 (k : Nat) : t_Z43 k = F_Z43 k := by
  cases k with
  | zero => rfl
  | succ k => funext a0 a1 a2 a3 a4; exact (b_Z43 k a0 a1 a2 a3 a4).trans (by rw [c_Z55 k]; rfl)
theorem c_Z54 (k : Nat) : t_Z54 k = F_Z54 k := by
  cases k with
  | zero => rfl
  | succ k => funext a0 a1; exact (b_Z54 k a0 a1)
theorem c_Z50 (k : Nat) : t_Z50 k = F_Z50 k := by
  cases k with
  | zero => rfl
  | succ k => funext a0 a1 a2 a3 a4; exact (b_Z50 k a0 a1 a2 a3 a4).trans (by rw [c_Z54 k]; rfl)
theorem c_Z20 (k : Nat) : t_Z20 k = F_Z20 k := by
  cases k with
  | zero => rfl
  | succ k => funext a0; exact (b_Z20 k a0).trans (by rw [c_l_szOpS k, c_l_toOpS k, c_Z33 k, c_Z41 k, c_Z64 k, c_l_eqOpS k, c_Z60 k, c_Z43 k, c_Z50 k]; rfl)
theorem fo6 : FnOK Try.prog 6 := ⟨Try.f6, Try.func6, by kernel_rfl, by kernel_rfl⟩
theorem fo16 : FnOK Try.prog 16 := ⟨Try.f16, Try.func16, by kernel_rfl, by kernel_rfl⟩
theorem fo17 : FnOK Try.prog 17 := ⟨Try.f17, Try.func17, by kernel_rfl, by kernel_rfl⟩
theorem fo20 : FnOK Try.prog 20 := ⟨Try.f20, Try.func20, by kernel_rfl, by kernel_rfl⟩
theorem fo21 : FnOK Try.prog 21 := ⟨Try.f21, Try.func21, by kernel_rfl, by kernel_rfl⟩
theorem fo22 : FnOK Try.prog 22 := ⟨Try.f22, Try.func22, by kernel_rfl, by kernel_rfl⟩
theorem fo23 : FnOK Try.prog 23 := ⟨Try.f23, Try.func23, by kernel_rfl, by kernel_rfl⟩
theorem fo24 : FnOK Try.prog 24 := ⟨Try.f24, Try.func24, by kernel_rfl, by kernel_rfl⟩
theorem fo25 : FnOK Try.prog 25 := ⟨Try.f25, Try.func25, by kernel_rfl, by kernel_rfl⟩
theorem fo26 : FnOK Try.prog 26 := ⟨Try.f26, Try.func26, by kernel_rfl, by kernel_rfl⟩
theorem fo28 : FnOK Try.prog 28 := ⟨Try.f28, Try.func28, by kernel_rfl, by kernel_rfl⟩
theorem fo30 : FnOK Try.prog 30 := ⟨Try.f30, Try.func30, by kernel_rfl, by kernel_rfl⟩
theorem fo31 : FnOK Try.prog 31 := ⟨Try.f31, Try.func31, by kernel_rfl, by kernel_rfl⟩
theorem fo40 : FnOK Try.prog 40 := ⟨Try.f40, Try.func40, by kernel_rfl, by kernel_rfl⟩
theorem fo45 : FnOK Try.prog 45 := ⟨Try.f45, Try.func45, by kernel_rfl, by kernel_rfl⟩
theorem fo46 : FnOK Try.prog 46 := ⟨Try.f46, Try.func46, by kernel_rfl, by kernel_rfl⟩
theorem fo48 : FnOK Try.prog 48 := ⟨Try.f48, Try.func48, by kernel_rfl, by kernel_rfl⟩
theorem fo51 : FnOK Try.prog 51 := ⟨Try.f51, Try.func51, by kernel_rfl, by kernel_rfl⟩
theorem fo55 : FnOK Try.prog 55 := ⟨Try.f55, Try.func55, by kernel_rfl, by kernel_rfl⟩
theorem fo56 : FnOK Try.prog 56 := ⟨Try.f56, Try.func56, by kernel_rfl, by kernel_rfl⟩
theorem fo57 : FnOK Try.prog 57 := ⟨Try.f57, Try.func57, by kernel_rfl, by kernel_rfl⟩
theorem fo58 : FnOK Try.prog 58 := ⟨Try.f58, Try.func58, by kernel_rfl, by kernel_rfl⟩
theorem fo59 : FnOK Try.prog 59 := ⟨Try.f59, Try.func59, by kernel_rfl, by kernel_rfl⟩
theorem fo60 : FnOK Try.prog 60 := ⟨Try.f60, Try.func60, by kernel_rfl, by kernel_rfl⟩
theorem fo61 : FnOK Try.prog 61 := ⟨Try.f61, Try.func61, by kernel_rfl, by kernel_rfl⟩
theorem fo62 : FnOK Try.prog 62 := ⟨Try.f62, Try.func62, by kernel_rfl, by kernel_rfl⟩
theorem fo63 : FnOK Try.prog 63 := ⟨Try.f63, Try.func63, by kernel_rfl, by kernel_rfl⟩
theorem fo64 : FnOK Try.prog 64 := ⟨Try.f64, Try.func64, by kernel_rfl, by kernel_rfl⟩
theorem fo65 : FnOK Try.prog 65 := ⟨Try.f65, Try.func65, by kernel_rfl, by kernel_rfl⟩
theorem fo66 : FnOK Try.prog 66 := ⟨Try.f66, Try.func66, by kernel_rfl, by kernel_rfl⟩
theorem fo69 : FnOK Try.prog 69 := ⟨Try.f69, Try.func69, by kernel_rfl, by kernel_rfl⟩
theorem fo70 : FnOK Try.prog 70 := ⟨Try.f70, Try.func70, by kernel_rfl, by kernel_rfl⟩
theorem fo71 : FnOK Try.prog 71 := ⟨Try.f71, Try.func71, by kernel_rfl, by kernel_rfl⟩
theorem fo72 : FnOK Try.prog 72 := ⟨Try.f72, Try.func72, by kernel_rfl, by kernel_rfl⟩
theorem fo73 : FnOK Try.prog 73 := ⟨Try.f73, Try.func73, by kernel_rfl, by kernel_rfl⟩
theorem fo74 : FnOK Try.prog 74 := ⟨Try.f74, Try.func74, by kernel_rfl, by kernel_rfl⟩
theorem fo82 : FnOK Try.prog 82 := ⟨Try.f82, Try.func82, by kernel_rfl, by kernel_rfl⟩
theorem fo83 : FnOK Try.prog 83 := ⟨Try.f83, Try.func83, by kernel_rfl, by kernel_rfl⟩
theorem fo85 : FnOK Try.prog 85 := ⟨Try.f85, Try.func85, by kernel_rfl, by kernel_rfl⟩
theorem fo88 : FnOK Try.prog 88 := ⟨Try.f88, Try.func88, by kernel_rfl, by kernel_rfl⟩
theorem fo90 : FnOK Try.prog 90 := ⟨Try.f90, Try.func90, by kernel_rfl, by kernel_rfl⟩
theorem fo91 : FnOK Try.prog 91 := ⟨Try.f91, Try.func91, by kernel_rfl, by kernel_rfl⟩
theorem fo92 : FnOK Try.prog 92 := ⟨Try.f92, Try.func92, by kernel_rfl, by kernel_rfl⟩
theorem fo93 : FnOK Try.prog 93 := ⟨Try.f93, Try.func93, by kernel_rfl, by kernel_rfl⟩
theorem fo94 : FnOK Try.prog 94 := ⟨Try.f94, Try.func94, by kernel_rfl, by kernel_rfl⟩
theorem fo95 : FnOK Try.prog 95 := ⟨Try.f95, Try.func95, by kernel_rfl, by kernel_rfl⟩
theorem fo96 : FnOK Try.prog 96 := ⟨Try.f96, Try.func96, by kernel_rfl, by kernel_rfl⟩
theorem fo97 : FnOK Try.prog 97 := ⟨Try.f97, Try.func97, by kernel_rfl, by kernel_rfl⟩
theorem fo105 : FnOK Try.prog 105 := ⟨Try.f105, Try.func105, by kernel_rfl, by kernel_rfl⟩
theorem fo106 : FnOK Try.prog 106 := ⟨Try.f106, Try.func106, by kernel_rfl, by kernel_rfl⟩
theorem fo107 : FnOK Try.prog 107 := ⟨Try.f107, Try.func107, by kernel_rfl, by kernel_rfl⟩
theorem fo108 : FnOK Try.prog 108 := ⟨Try.f108, Try.func108, by kernel_rfl, by kernel_rfl⟩
theorem fo109 : FnOK Try.prog 109 := ⟨Try.f109, Try.func109, by kernel_rfl, by kernel_rfl⟩
theorem fo110 : FnOK Try.prog 110 := ⟨Try.f110, Try.func110, by kernel_rfl, by kernel_rfl⟩
theorem fo111 : FnOK Try.prog 111 := ⟨Try.f111, Try.func111, by kernel_rfl, by kernel_rfl⟩
theorem fo112 : FnOK Try.prog 112 := ⟨Try.f112, Try.func112, by kernel_rfl, by kernel_rfl⟩
theorem fo113 : FnOK Try.prog 113 := ⟨Try.f113, Try.func113, by kernel_rfl, by kernel_rfl⟩
theorem fo114 : FnOK Try.prog 114 := ⟨Try.f114, Try.func114, by kernel_rfl, by kernel_rfl⟩
theorem fo115 : FnOK Try.prog 115 := ⟨Try.f115, Try.func115, by kernel_rfl, by kernel_rfl⟩
theorem fo116 : FnOK Try.prog 116 := ⟨Try.f116, Try.func116, by kernel_rfl, by kernel_rfl⟩
theorem fo117 : FnOK Try.prog 117 := ⟨Try.f117, Try.func117, by kernel_rfl, by kernel_rfl⟩
theorem fo118 : FnOK Try.prog 118 := ⟨Try.f118, Try.func118, by kernel_rfl, by kernel_rfl⟩
theorem fo119 : FnOK Try.prog 119 := ⟨Try.f119, Try.func119, by kernel_rfl, by kernel_rfl⟩
theorem fo120 : FnOK Try.prog 120 := ⟨Try.f120, Try.func120, by kernel_rfl, by kernel_rfl⟩
theorem fo121 : FnOK Try.prog 121 := ⟨Try.f121, Try.func121, by kernel_rfl, by kernel_rfl⟩
theorem fo122 : FnOK Try.prog 122 := ⟨Try.f122, Try.func122, by kernel_rfl, by kernel_rfl⟩
theorem fo124 : FnOK Try.prog 124 := ⟨Try.f124, Try.func124, by kernel_rfl, by kernel_rfl⟩
theorem fo125 : FnOK Try.prog 125 := ⟨Try.f125, Try.func125, by kernel_rfl, by kernel_rfl⟩
theorem fo132 : FnOK Try.prog 132 := ⟨Try.f132, Try.func132, by kernel_rfl, by kernel_rfl⟩
theorem fo133 : FnOK Try.prog 133 := ⟨Try.f133, Try.func133, by kernel_rfl, by kernel_rfl⟩
theorem fo134 : FnOK Try.prog 134 := ⟨Try.f134, Try.func134, by kernel_rfl, by kernel_rfl⟩
theorem fo135 : FnOK Try.prog 135 := ⟨Try.f135, Try.func135, by kernel_rfl, by kernel_rfl⟩
theorem fo136 : FnOK Try.prog 136 := ⟨Try.f136, Try.func136, by kernel_rfl, by kernel_rfl⟩
theorem fo137 : FnOK Try.prog 137 := ⟨Try.f137, Try.func137, by kernel_rfl, by kernel_rfl⟩
theorem fo138 : FnOK Try.prog 138 := ⟨Try.f138, Try.func138, by kernel_rfl, by kernel_rfl⟩
theorem fo141 : FnOK Try.prog 141 := ⟨Try.f141, Try.func141, by kernel_rfl, by kernel_rfl⟩
theorem sigs_ok : AllP (fun p => FnOK Try.prog (p.1 % 100000)) sigs := ⟨fo6, fo16, fo17, fo20, fo21, fo22, fo23, fo24, fo25, fo26, fo28, fo30, fo31, fo40, fo45, fo46, fo48, fo51, fo55, fo56, fo57, fo58, fo59, fo60, fo61, fo62, fo63, fo64, fo65, fo66, fo69, fo70, fo71, fo72, fo73, fo74, fo82, fo83, fo85, fo88, fo90, fo91, fo92, fo93, fo94, fo95, fo96, fo97, fo105, fo106, fo107, fo108, fo109, fo110, fo111, fo112, fo113, fo114, fo115, fo116, fo117, fo118, fo119, fo120, fo121, fo122, fo124, fo125, fo132, fo133, fo134, fo135, fo136, fo137, fo138, fo141, fo51, trivial⟩
theorem fns_ok : AllP (fun p => Try.prog.funcs[p.1 % 100000]? = some p.2.fn) fns := ⟨Try.func6, Try.func16, Try.func17, Try.func20, Try.func21, Try.func22, Try.func23, Try.func24, Try.func25, Try.func26, Try.func28, Try.func30, Try.func31, Try.func40, Try.func45, Try.func46, Try.func48, Try.func51, Try.func55, Try.func56, Try.func57, Try.func58, Try.func59, Try.func60, Try.func61, Try.func62, Try.func63, Try.func64, Try.func65, Try.func66, Try.func69, Try.func70, Try.func71, Try.func72, Try.func73, Try.func74, Try.func82, Try.func83, Try.func85, Try.func88, Try.func90, Try.func91, Try.func92, Try.func93, Try.func94, Try.func95, Try.func96, Try.func97, Try.func105, Try.func106, Try.func107, Try.func108, Try.func109, Try.func110, Try.func111, Try.func112, Try.func113, Try.func114, Try.func115, Try.func116, Try.func117, Try.func118, Try.func119, Try.func120, Try.func121, Try.func122, Try.func124, Try.func125, Try.func132, Try.func133, Try.func134, Try.func135, Try.func136, Try.func137, Try.func138, Try.func141, Try.func51, trivial⟩
noncomputable def arityB (p : Nat × FnI) : Bool := match lk sigs p.1 with
  | some sg => Nat.ble sg.ps.length p.2.fn.ntmps
  | none => true
theorem arity_ok : fns.all arityB = true := by kernel_rfl
theorem ordered : Try.prog.follows .mixedOrders = true := by kernel_rfl
theorem env_ok : EnvOK Try.prog ⟨T.tt, fun _ => none, T.eqt, T.sig, fun _ _ _ => none, fun _ => 0⟩ := ⟨fun t i h => tts_ok.mem (t, i) (lk_mem h), fun t h => by
    have h : t ∈ eqts := hasN_mem.1 h
    exact absurd h (by simp [eqts])⟩
theorem envx_ok : EnvCl (fun _ => True) Try.prog (envX (lk tts) (hasN eqts)) := ⟨⟨env_ok.tt, env_ok.eqt⟩, (fun f sg h => by cases h), (fun f sg x r h _ => by cases h)⟩
theorem cl_82 (xs : List Int) (r : sg_Z18.R) (h : chk (room ([] : List Int).length xs.length) (some ((xs, ()), ())) = some r) : CallOK (fun _ => True) Try.prog 82 sg_Z18 (xs, ()) r :=
  clone_ok (e := 3) (t := (.int .i64)) ordered envx_ok (f := 82) (fi := ⟨Try.f82, anClone, lk ty_Z18, fun _ => 0⟩) Try.func82 (Nat.le_of_ble_eq_true (by kernel_rfl)) (by kernel_rfl) (fun xs => by kernel_rfl) xs r h
theorem tab_ok : TabOK (fun _ => True) Try.prog T where
  ord := ordered
  ok := env_ok
  fnok := fun f sg h => sigs_ok.mem (f, sg) (lk_mem h)
  fns := fun f fi h => fns_ok.mem (f, fi) (lk_mem h)
  arity := fun f fi sg h1 h2 => by
    have := List.all_eq_true.1 arity_ok (f, fi) (lk_mem h1)
    unfold arityB at this
    rw [show lk sigs f = some sg from h2] at this
    exact Nat.le_of_ble_eq_true this
  ext := fun k f sg g x r h1 h2 h3 => by
    have h2 : (bif hasN clones f then cloneX sg else none) = some g := h2
    cases hq : hasN clones f with
    | false => rw [hq] at h2; cases h2
    | true =>
      rw [hq] at h2
      have hm : f ∈ clones := hasN_mem.1 hq
      simp only [clones, List.mem_cons, List.not_mem_nil, or_false] at hm
      rcases hm with rfl
      · exact cloneX_ok (Option.some.inj (h1.symm.trans (show T.sig 82 = some sg_Z18 by kernel_rfl))) cl_82 h2 h3
end Go.Gx

/-
  The tables of the seat, and what each function comes to.
-/
import Derived.Test.YtafomfpnbhnmfaaGreatXGpart5
import Derived.Test.YtafomfpnbhnmfaaGreatProg
import Derived.KernelRfl
import Derived.Test.YtafomfpnbhnmfaaGreatXSh
set_option linter.unusedVariables false
namespace Go.Gx
open Go.Proofs
def tts : List (Nat × TI) := [
  (3, { agg := false, size := 1, bytes := 8, zero := .int .i64 0, fields := [], elem := none, ik := some .i64, isStr := false, isB := false, hasZ := true, arr := none, mp := none }),
  (4, { agg := false, size := 1, bytes := 1, zero := .bool false, fields := [], elem := none, ik := none, isStr := false, isB := true, hasZ := true, arr := none, mp := none }),
  (5, { agg := false, size := 1, bytes := 1, zero := .int .u8 0, fields := [], elem := none, ik := some .u8, isStr := false, isB := false, hasZ := true, arr := none, mp := none }),
  (9, { agg := false, size := 1, bytes := 16, zero := .string ByteArray.empty, fields := [], elem := none, ik := none, isStr := true, isB := false, hasZ := true, arr := none, mp := none }),
  (22, { agg := false, size := 1, bytes := 24, zero := .slice none 0 0, fields := [], elem := some 5, ik := none, isStr := false, isB := false, hasZ := true, arr := none, mp := none }),
  (23, { agg := false, size := 1, bytes := 24, zero := .slice none 0 0, fields := [], elem := some 46, ik := none, isStr := false, isB := false, hasZ := true, arr := none, mp := none }),
  (24, { agg := false, size := 1, bytes := 24, zero := .slice none 0 0, fields := [], elem := some 3, ik := none, isStr := false, isB := false, hasZ := true, arr := none, mp := none }),
  (26, { agg := true, size := 4, bytes := 48, zero := .agg #[.int .i64 0, .int .i64 0, .int .i64 0, .slice none 0 0], fields := [(0, 1, false), (1, 1, false), (2, 1, false), (3, 1, false)], elem := none, ik := none, isStr := false, isB := false, hasZ := true, arr := none, mp := none }),
  (41, { agg := false, size := 1, bytes := 24, zero := .slice none 0 0, fields := [], elem := some 68, ik := none, isStr := false, isB := false, hasZ := true, arr := none, mp := none }),
  (43, { agg := true, size := 4, bytes := 80, zero := .agg #[.slice none 0 0, .slice none 0 0, .slice none 0 0, .bool false], fields := [(0, 1, false), (1, 1, false), (2, 1, false), (3, 1, false)], elem := none, ik := none, isStr := false, isB := false, hasZ := true, arr := none, mp := none }),
  (46, { agg := true, size := 2, bytes := 16, zero := .agg #[.int .i64 0, .int .i64 0], fields := [(0, 1, false), (1, 1, false)], elem := none, ik := none, isStr := false, isB := false, hasZ := true, arr := none, mp := none }),
  (57, { agg := true, size := 2, bytes := 32, zero := .agg #[.slice none 0 0, .int .i64 0], fields := [(0, 1, false), (1, 1, false)], elem := none, ik := none, isStr := false, isB := false, hasZ := true, arr := none, mp := none }),
  (61, { agg := true, size := 2, bytes := 32, zero := .agg #[.slice none 0 0, .int .i64 0], fields := [(0, 1, false), (1, 1, false)], elem := none, ik := none, isStr := false, isB := false, hasZ := true, arr := none, mp := none }),
  (66, { agg := false, size := 1, bytes := 24, zero := .slice none 0 0, fields := [], elem := some 24, ik := none, isStr := false, isB := false, hasZ := true, arr := none, mp := none }),
  (68, { agg := true, size := 3, bytes := 40, zero := .agg #[.int .i64 0, .int .i64 0, .slice none 0 0], fields := [(0, 1, false), (1, 1, false), (2, 1, false)], elem := none, ik := none, isStr := false, isB := false, hasZ := true, arr := none, mp := none }),
  (73, { agg := false, size := 1, bytes := 24, zero := .slice none 0 0, fields := [], elem := some 4, ik := none, isStr := false, isB := false, hasZ := true, arr := none, mp := none }),
  (75, { agg := true, size := 5, bytes := 104, zero := .agg #[.slice none 0 0, .slice none 0 0, .slice none 0 0, .slice none 0 0, .bool false], fields := [(0, 1, false), (1, 1, false), (2, 1, false), (3, 1, false), (4, 1, false)], elem := none, ik := none, isStr := false, isB := false, hasZ := true, arr := none, mp := none }),
  (108, { agg := false, size := 1, bytes := 8, zero := .int .u64 0, fields := [], elem := none, ik := some .u64, isStr := false, isB := false, hasZ := true, arr := none, mp := none }),
  (129, { agg := false, size := 1, bytes := 8, zero := .int .u64 0, fields := [], elem := none, ik := some .u64, isStr := false, isB := false, hasZ := true, arr := none, mp := none }),
  (132, { agg := false, size := 1, bytes := 8, zero := .int .u64 0, fields := [], elem := none, ik := some .u64, isStr := false, isB := false, hasZ := true, arr := none, mp := none })]
theorem tt3 : tinfo Tryz.prog 3 = lk tts 3 := by kernel_rfl
theorem tt4 : tinfo Tryz.prog 4 = lk tts 4 := by kernel_rfl
theorem tt5 : tinfo Tryz.prog 5 = lk tts 5 := by kernel_rfl
theorem tt9 : tinfo Tryz.prog 9 = lk tts 9 := by kernel_rfl
theorem tt22 : tinfo Tryz.prog 22 = lk tts 22 := by kernel_rfl
theorem tt23 : tinfo Tryz.prog 23 = lk tts 23 := by kernel_rfl
theorem tt24 : tinfo Tryz.prog 24 = lk tts 24 := by kernel_rfl
theorem tt26 : tinfo Tryz.prog 26 = lk tts 26 := by kernel_rfl
theorem tt41 : tinfo Tryz.prog 41 = lk tts 41 := by kernel_rfl
theorem tt43 : tinfo Tryz.prog 43 = lk tts 43 := by kernel_rfl
theorem tt46 : tinfo Tryz.prog 46 = lk tts 46 := by kernel_rfl
theorem tt57 : tinfo Tryz.prog 57 = lk tts 57 := by kernel_rfl
theorem tt61 : tinfo Tryz.prog 61 = lk tts 61 := by kernel_rfl
theorem tt66 : tinfo Tryz.prog 66 = lk tts 66 := by kernel_rfl
theorem tt68 : tinfo Tryz.prog 68 = lk tts 68 := by kernel_rfl
theorem tt73 : tinfo Tryz.prog 73 = lk tts 73 := by kernel_rfl
theorem tt75 : tinfo Tryz.prog 75 = lk tts 75 := by kernel_rfl
theorem tt108 : tinfo Tryz.prog 108 = lk tts 108 := by kernel_rfl
theorem tt129 : tinfo Tryz.prog 129 = lk tts 129 := by kernel_rfl
theorem tt132 : tinfo Tryz.prog 132 = lk tts 132 := by kernel_rfl
theorem tts_ok : AllP (fun p => tinfo Tryz.prog p.1 = some p.2) tts := ⟨tt3, tt4, tt5, tt9, tt22, tt23, tt24, tt26, tt41, tt43, tt46, tt57, tt61, tt66, tt68, tt73, tt75, tt108, tt129, tt132, trivial⟩
abbrev sg_Z66 : Sig := ⟨[.leaf (.ro (.int .u8))], [.box 57 [.ro (.int .u8), .int .i64] []]⟩
def an_Z66 : Ann := .seq none .leaf (.seq (some ⟨[0], [.leaf (.ro (.int .u8))]⟩) (.seq none .leaf (.cond .leaf .leaf)) (.seq none .leaf .leaf))
def ty_Z66 : List (Nat × Ty) := []
def vr_Z66 : Nat → Nat := fun _ => 0
abbrev sg_Z34 : Sig := ⟨[.box 57 [.ro (.int .u8), .int .i64] [.ro (.int .u8), .int .i64], .leaf (.int .i64)], [.leaf (.int .i64)]⟩
def an_Z34 : Ann := .seq none .leaf (.seq none .leaf (.seq none (.seq (some ⟨[0, 1, 24], [.box 57 [.ro (.int .u8), .int .i64] [], .leaf (.int .i64), .leaf .bool]⟩) .leaf (.cond (.seq none .leaf .leaf) .leaf)) (.seq none .leaf (.seq none (.seq none .leaf (.cond (.seq none .leaf .leaf) .leaf)) (.seq none .leaf (.seq none .leaf (.seq none .leaf .leaf)))))))
def ty_Z34 : List (Nat × Ty) := []
def vr_Z34 : Nat → Nat := fun _ => 0
abbrev sg_Z67 : Sig := ⟨[], [.agg [.own 3 (.int .i64), .own 4 .bool, .own 3 (.int .i64), .own 3 (.int .i64), .bool]]⟩
def an_Z67 : Ann := .seq none .leaf (.seq none .leaf (.seq none (.seq none .leaf (.block (.loop ⟨[0, 1, 2], [.box 75 [.nil, .nil, .nil, .nil, .bool] [], .box 75 [.nil, .nil, .nil, .own 3 (.int .i64), .bool] [], .leaf (.int .i64)]⟩ (.seq none (.seq none .leaf (.cond .leaf .leaf)) (.seq none (.block .leaf) .leaf))))) (.seq none .leaf .leaf)))
def ty_Z67 : List (Nat × Ty) := [(3, (.int .i64))]
def vr_Z67 : Nat → Nat := fun _ => 0
abbrev sg_Z43 : Sig := ⟨[.box 57 [.ro (.int .u8), .int .i64] [.ro (.int .u8), .int .i64], .leaf (.ro (.int .i64))], [.leaf (.int .i64)]⟩
def an_Z43 : Ann := .seq none .leaf (.seq none .leaf .leaf)
def ty_Z43 : List (Nat × Ty) := []
def vr_Z43 : Nat → Nat := fun _ => 0
abbrev sg_s_someOp : Sig := ⟨[.box 57 [.ro (.int .u8), .int .i64] [.ro (.int .u8), .int .i64]], [.agg [.int .i64, .int .i64]]⟩
def an_s_someOp : Ann := .seq none .leaf (.seq none .leaf (.seq (some ⟨[0, 2, 3], [.box 57 [.ro (.int .u8), .int .i64] [], .box 46 [.int .i64, .int .i64] [], .box 46 [.int .i64, .int .i64] []]⟩) (.seq none .leaf (.block (.seq none .leaf (.cond .leaf (.seq (some ⟨[0, 2, 3, 17], [.box 57 [.ro (.int .u8), .int .i64] [], .box 46 [.int .i64, .int .i64] [], .box 46 [.int .i64, .int .i64] [], .leaf .bool]⟩) (.seq none .leaf (.cond .leaf (.seq none .leaf (.cond .leaf (.seq none .leaf (.cond .leaf .leaf)))))) (.cond .leaf .leaf)))))) (.seq none .leaf .leaf)))
def ty_s_someOp : List (Nat × Ty) := [(3, (.int .i64))]
def vr_s_someOp : Nat → Nat := fun _ => 0
abbrev sg_Z72 : Sig := ⟨[.leaf (.ro (.int .i64))], [.leaf (.own 3 (.int .i64))]⟩
def an_Z72 : Ann := .seq none .leaf (.seq none .leaf .leaf)
def ty_Z72 : List (Nat × Ty) := [(3, (.int .i64))]
def vr_Z72 : Nat → Nat := fun _ => 0
abbrev sg_Z45 : Sig := ⟨[.agg [.ro (.int .i64), .ro .bool, .ro (.int .i64), .ro (.int .i64), .bool]], [.agg [.own 3 (.int .i64), .own 4 .bool, .own 3 (.int .i64), .own 3 (.int .i64), .bool]]⟩
def an_Z45 : Ann := .seq none .leaf (.seq none .leaf .leaf)
def ty_Z45 : List (Nat × Ty) := [(4, .bool)]
def vr_Z45 : Nat → Nat := fun _ => 0
abbrev sg_Z81 : Sig := ⟨[.leaf (.int .i64)], [.leaf (.int .i64)]⟩
def an_Z81 : Ann := .seq none .leaf (.seq none (.seq none .leaf (.block (.seq none .leaf (.cond (.seq none .leaf .leaf) (.seq none .leaf (.cond (.seq none .leaf .leaf) (.seq none .leaf (.cond (.seq none .leaf .leaf) (.seq none .leaf (.cond (.seq none .leaf .leaf) (.seq none .leaf (.cond (.seq none .leaf .leaf) (.seq none .leaf (.cond (.seq none .leaf .leaf) .leaf)))))))))))))) (.seq none .leaf .leaf))
def ty_Z81 : List (Nat × Ty) := []
def vr_Z81 : Nat → Nat := fun _ => 0
abbrev sg_Z64 : Sig := ⟨[.agg [.own 3 (.int .i64), .own 4 .bool, .own 3 (.int .i64), .own 3 (.int .i64), .bool], .leaf (.int .i64)], [.agg [.own 3 (.int .i64), .own 4 .bool, .own 3 (.int .i64), .own 3 (.int .i64), .bool]]⟩
def an_Z64 : Ann := .seq none .leaf (.seq none .leaf (.seq none .leaf (.seq none .leaf (.seq none .leaf .leaf))))
def ty_Z64 : List (Nat × Ty) := [(3, (.int .i64)), (4, .bool)]
def vr_Z64 : Nat → Nat := fun _ => 0
abbrev sg_Z90 : Sig := ⟨[.agg [.ro (.int .i64), .ro .bool, .ro (.int .i64), .ro (.int .i64), .bool], .leaf (.int .i64)], [.leaf (.int .i64)]⟩
def an_Z90 : Ann := .seq none .leaf (.seq none .leaf (.seq none (.seq (some ⟨[2, 5, 21], [.box 75 [.ro (.int .i64), .ro .bool, .ro (.int .i64), .ro (.int .i64), .bool] [], .leaf (.int .i64), .leaf .bool]⟩) .leaf (.cond (.seq none .leaf .leaf) .leaf)) (.seq none .leaf .leaf)))
def ty_Z90 : List (Nat × Ty) := []
def vr_Z90 : Nat → Nat := fun _ => 0
abbrev sg_Z83 : Sig := ⟨[.leaf (.int .i64)], [.leaf .bool]⟩
def an_Z83 : Ann := .seq none .leaf (.seq none .leaf .leaf)
def ty_Z83 : List (Nat × Ty) := []
def vr_Z83 : Nat → Nat := fun _ => 0
abbrev sg_Z51 : Sig := ⟨[.agg [.own 3 (.int .i64), .own 4 .bool, .own 3 (.int .i64), .own 3 (.int .i64), .bool], .leaf (.int .i64)], [.agg [.own 3 (.int .i64), .own 4 .bool, .own 3 (.int .i64), .own 3 (.int .i64), .bool], .leaf .bool]⟩
def an_Z51 : Ann := .seq none .leaf (.seq none .leaf (.seq none (.block (.loop ⟨[1, 2, 4, 6], [.leaf (.int .i64), .box 75 [.own 3 (.int .i64), .own 4 .bool, .own 3 (.int .i64), .own 3 (.int .i64), .bool] [], .box 75 [.nil, .nil, .nil, .nil, .bool] [], .leaf (.int .i64)]⟩ (.seq none (.seq (some ⟨[1, 2, 4, 6, 22], [.leaf (.int .i64), .box 75 [.own 3 (.int .i64), .own 4 .bool, .own 3 (.int .i64), .own 3 (.int .i64), .bool] [], .box 75 [.nil, .nil, .nil, .nil, .bool] [], .leaf (.int .i64), .leaf .bool]⟩) .leaf (.cond .leaf .leaf)) (.block .leaf)))) (.seq none (.seq none .leaf (.cond (.seq none .leaf .leaf) .leaf)) (.seq none .leaf (.seq none .leaf (.seq none (.seq none .leaf (.block (.seq none .leaf (.cond (.seq none .leaf .leaf) (.seq none .leaf (.cond (.seq none .leaf .leaf) (.seq none .leaf (.cond (.seq none (.seq none .leaf (.block (.loop ⟨[2, 4, 7, 8], [.box 75 [.own 3 (.int .i64), .own 4 .bool, .own 3 (.int .i64), .own 3 (.int .i64), .bool] [], .box 75 [.nil, .nil, .nil, .nil, .bool] [], .leaf (.own 3 (.int .i64)), .leaf (.int .i64)]⟩ (.seq none (.seq none .leaf (.cond .leaf .leaf)) (.seq none (.block (.seq none .leaf (.cond (.seq none .leaf .leaf) .leaf))) .leaf))))) (.seq none .leaf .leaf)) .leaf)))))))) (.seq none .leaf .leaf)))))))
def ty_Z51 : List (Nat × Ty) := []
def vr_Z51 : Nat → Nat := fun _ => 0
abbrev sg_Z49 : Sig := ⟨[.agg [.own 3 (.int .i64), .own 4 .bool, .own 3 (.int .i64), .own 3 (.int .i64), .bool], .agg [.int .i64, .int .i64]], [.agg [.own 3 (.int .i64), .own 4 .bool, .own 3 (.int .i64), .own 3 (.int .i64), .bool], .leaf .bool]⟩
def an_Z49 : Ann := .seq none .leaf (.seq none .leaf (.seq none .leaf (.seq none .leaf (.seq none .leaf (.seq (some ⟨[2, 4, 8, 9], [.box 75 [.own 3 (.int .i64), .own 4 .bool, .own 3 (.int .i64), .own 3 (.int .i64), .bool] [], .box 75 [.nil, .nil, .nil, .nil, .bool] [], .leaf .bool, .leaf (.int .i64)]⟩) (.seq none .leaf (.block (.seq none .leaf (.cond (.seq none (.seq none .leaf (.cond (.seq none .leaf .leaf) .leaf)) (.seq none .leaf (.seq none .leaf .leaf))) (.seq none .leaf (.cond (.seq none (.seq (some ⟨[2, 4, 40], [.box 75 [.own 3 (.int .i64), .own 4 .bool, .own 3 (.int .i64), .own 3 (.int .i64), .bool] [], .box 75 [.nil, .nil, .nil, .nil, .bool] [], .leaf .bool]⟩) .leaf (.cond (.seq none .leaf .leaf) .leaf)) (.seq none .leaf (.seq none .leaf .leaf))) (.seq none .leaf (.cond .leaf (.seq none .leaf (.cond (.seq none .leaf .leaf) (.seq none .leaf (.cond (.seq (some ⟨[2, 4, 8, 9], [.box 75 [.own 3 (.int .i64), .own 4 .bool, .own 3 (.int .i64), .own 3 (.int .i64), .bool] [], .box 75 [.nil, .nil, .nil, .nil, .bool] [], .leaf .bool, .leaf (.int .i64)]⟩) .leaf (.seq none .leaf (.cond .leaf .leaf))) (.seq none .leaf (.cond (.seq none (.seq none .leaf (.cond .leaf .leaf)) .leaf) (.seq none .leaf (.cond (.seq none .leaf (.seq none .leaf .leaf)) .leaf)))))))))))))))) (.seq none (.seq none .leaf (.cond (.seq none .leaf .leaf) .leaf)) (.seq none .leaf (.seq none .leaf .leaf))))))))
def ty_Z49 : List (Nat × Ty) := []
def vr_Z49 : Nat → Nat := fun _ => 0
abbrev sg_Z44 : Sig := ⟨[.agg [.own 3 (.int .i64), .own 4 .bool, .own 3 (.int .i64), .own 3 (.int .i64), .bool], .agg [.int .i64, .int .i64]], [.agg [.own 3 (.int .i64), .own 4 .bool, .own 3 (.int .i64), .own 3 (.int .i64), .bool], .leaf .bool]⟩
def an_Z44 : Ann := .seq none .leaf (.seq none .leaf (.seq none (.seq none .leaf (.cond (.seq none .leaf .leaf) .leaf)) (.seq (some ⟨[2, 4, 6], [.box 75 [.own 3 (.int .i64), .own 4 .bool, .own 3 (.int .i64), .own 3 (.int .i64), .bool] [], .box 75 [.nil, .nil, .nil, .nil, .bool] [], .leaf .bool]⟩) (.block (.seq none .leaf (.cond .leaf (.seq none .leaf (.cond .leaf (.seq none .leaf (.cond (.seq none (.seq none .leaf (.cond (.seq none .leaf .leaf) .leaf)) .leaf) (.seq (some ⟨[2, 3, 4, 61], [.box 75 [.own 3 (.int .i64), .own 4 .bool, .own 3 (.int .i64), .own 3 (.int .i64), .bool] [], .box 46 [.int .i64, .int .i64] [], .box 75 [.nil, .nil, .nil, .nil, .bool] [], .leaf .bool]⟩) .leaf (.cond .leaf .leaf))))))))) (.seq none .leaf .leaf))))
def ty_Z44 : List (Nat × Ty) := [(3, (.int .i64))]
def vr_Z44 : Nat → Nat := fun _ => 0
abbrev sg_s_argOf : Sig := ⟨[.leaf (.int .i64)], [.leaf (.int .i64)]⟩
def an_s_argOf : Ann := .seq none .leaf (.seq none (.seq none .leaf (.block (.seq none .leaf (.cond (.seq none .leaf .leaf) (.seq none .leaf (.cond (.seq none .leaf .leaf) (.seq none .leaf (.cond (.seq none .leaf .leaf) (.seq (some ⟨[10], [.leaf .bool]⟩) (.seq none .leaf (.cond .leaf .leaf)) (.cond (.seq none .leaf .leaf) .leaf)))))))))) (.seq none .leaf .leaf))
def ty_s_argOf : List (Nat × Ty) := []
def vr_s_argOf : Nat → Nat := fun _ => 0
abbrev sg_Z92 : Sig := ⟨[.leaf (.int .i64), .leaf (.int .i64), .leaf (.int .i64)], [.leaf .bool]⟩
def an_Z92 : Ann := .seq none .leaf (.seq none .leaf .leaf)
def ty_Z92 : List (Nat × Ty) := []
def vr_Z92 : Nat → Nat := fun _ => 0
abbrev sg_Z85 : Sig := ⟨[.agg [.int .i64, .int .i64]], [.leaf .bool]⟩
def an_Z85 : Ann := .seq none .leaf (.seq none .leaf (.seq none .leaf .leaf))
def ty_Z85 : List (Nat × Ty) := []
def vr_Z85 : Nat → Nat := fun _ => 0
abbrev sg_Z77 : Sig := ⟨[.leaf (.ro (.pair (.int .i64) (.int .i64)))], [.leaf .bool]⟩
def an_Z77 : Ann := .seq none .leaf (.seq none (.seq none .leaf (.block (.loop ⟨[0, 3], [.leaf (.ro (.pair (.int .i64) (.int .i64))), .leaf (.int .i64)]⟩ (.seq none (.seq none .leaf (.cond .leaf .leaf)) (.seq none (.block (.seq none .leaf (.cond (.seq none .leaf .leaf) .leaf))) .leaf))))) (.seq none .leaf .leaf))
def ty_Z77 : List (Nat × Ty) := []
def vr_Z77 : Nat → Nat := fun _ => 0
abbrev sg_Z57 : Sig := ⟨[.leaf (.ro (.pair (.int .i64) (.int .i64)))], [.agg [.own 3 (.int .i64), .own 4 .bool, .own 3 (.int .i64), .own 3 (.int .i64), .bool], .leaf (.int .i64)]⟩
def an_Z57 : Ann := .seq none .leaf (.seq none .leaf (.seq none (.seq none .leaf (.block (.loop ⟨[0, 2, 4, 5], [.leaf (.ro (.pair (.int .i64) (.int .i64))), .box 75 [.nil, .nil, .nil, .nil, .bool] [], .box 75 [.own 3 (.int .i64), .own 4 .bool, .own 3 (.int .i64), .own 3 (.int .i64), .bool] [], .leaf (.int .i64)]⟩ (.seq none (.seq none .leaf (.cond .leaf .leaf)) (.seq none (.block (.seq none .leaf (.seq none (.seq none .leaf (.cond (.seq none .leaf .leaf) .leaf)) .leaf))) .leaf))))) (.seq none .leaf .leaf)))
def ty_Z57 : List (Nat × Ty) := []
def vr_Z57 : Nat → Nat := fun _ => 0
abbrev sg_s_EndOps : Sig := ⟨[.leaf (.ro (.pair (.int .i64) (.int .i64)))], [.leaf (.own 46 (.pair (.int .i64) (.int .i64))), .leaf .bool]⟩
def an_s_EndOps : Ann := .seq none .leaf (.seq none (.seq none .leaf (.cond (.seq none .leaf .leaf) .leaf)) (.seq none .leaf (.seq none .leaf (.seq none (.seq none .leaf (.cond (.seq none .leaf .leaf) .leaf)) (.seq none .leaf (.seq none (.seq none .leaf (.block (.loop ⟨[0, 4, 5, 6, 7, 8], [.leaf (.ro (.pair (.int .i64) (.int .i64))), .box 75 [.own 3 (.int .i64), .own 4 .bool, .own 3 (.int .i64), .own 3 (.int .i64), .bool] [], .leaf (.int .i64), .leaf (.own 46 (.pair (.int .i64) (.int .i64))), .leaf (.int .i64), .leaf (.int .i64)]⟩ (.seq none (.seq none .leaf (.cond .leaf .leaf)) (.seq (some ⟨[0, 4, 5, 6, 7, 8], [.leaf (.ro (.pair (.int .i64) (.int .i64))), .box 75 [.own 3 (.int .i64), .own 4 .bool, .own 3 (.int .i64), .own 3 (.int .i64), .bool] [], .leaf (.int .i64), .leaf (.own 46 (.pair (.int .i64) (.int .i64))), .leaf (.int .i64), .leaf (.int .i64)]⟩) (.block (.seq none .leaf (.cond .leaf .leaf))) .leaf))))) (.seq none (.seq none .leaf (.block (.loop ⟨[0, 4, 5, 6, 7, 9], [.leaf (.ro (.pair (.int .i64) (.int .i64))), .box 75 [.own 3 (.int .i64), .own 4 .bool, .own 3 (.int .i64), .own 3 (.int .i64), .bool] [], .leaf (.int .i64), .leaf (.own 46 (.pair (.int .i64) (.int .i64))), .leaf (.int .i64), .leaf (.int .i64)]⟩ (.seq none (.seq none .leaf (.cond .leaf .leaf)) (.seq none (.block .leaf) .leaf))))) (.seq none .leaf (.seq none (.block (.loop ⟨[0, 4, 5, 6, 7, 10], [.leaf (.ro (.pair (.int .i64) (.int .i64))), .box 75 [.own 3 (.int .i64), .own 4 .bool, .own 3 (.int .i64), .own 3 (.int .i64), .bool] [], .leaf (.int .i64), .leaf (.own 46 (.pair (.int .i64) (.int .i64))), .leaf (.int .i64), .leaf (.int .i64)]⟩ (.seq none (.seq (some ⟨[0, 4, 5, 6, 7, 10, 63], [.leaf (.ro (.pair (.int .i64) (.int .i64))), .box 75 [.own 3 (.int .i64), .own 4 .bool, .own 3 (.int .i64), .own 3 (.int .i64), .bool] [], .leaf (.int .i64), .leaf (.own 46 (.pair (.int .i64) (.int .i64))), .leaf (.int .i64), .leaf (.int .i64), .leaf .bool]⟩) .leaf (.cond .leaf .leaf)) (.block .leaf)))) (.seq (some ⟨[0, 5, 6, 10], [.leaf (.ro (.pair (.int .i64) (.int .i64))), .leaf (.int .i64), .leaf (.own 46 (.pair (.int .i64) (.int .i64))), .leaf (.int .i64)]⟩) (.seq none .leaf (.cond .leaf .leaf)) (.seq none (.seq none .leaf (.block (.loop ⟨[0, 5, 6, 10, 11], [.leaf (.ro (.pair (.int .i64) (.int .i64))), .leaf (.int .i64), .leaf (.own 46 (.pair (.int .i64) (.int .i64))), .leaf (.int .i64), .leaf (.int .i64)]⟩ (.seq none (.seq none .leaf (.cond .leaf .leaf)) (.seq none (.block .leaf) .leaf))))) (.seq (some ⟨[0, 5, 6], [.leaf (.ro (.pair (.int .i64) (.int .i64))), .leaf (.int .i64), .leaf (.own 46 (.pair (.int .i64) (.int .i64)))]⟩) (.seq none .leaf (.cond .leaf .leaf)) (.seq none .leaf (.seq (some ⟨[6, 12], [.leaf (.own 46 (.pair (.int .i64) (.int .i64))), .leaf (.ro (.pair (.int .i64) (.int .i64)))]⟩) .leaf (.seq none .leaf (.seq none (.seq (some ⟨[6, 109], [.leaf (.own 46 (.pair (.int .i64) (.int .i64))), .leaf .bool]⟩) .leaf (.cond (.seq none .leaf .leaf) .leaf)) (.seq none .leaf .leaf)))))))))))))))))
def ty_s_EndOps : List (Nat × Ty) := [(46, (.pair (.int .i64) (.int .i64)))]
def vr_s_EndOps : Nat → Nat := fun _ => 0
abbrev sg_s_CutOps : Sig := ⟨[.leaf (.ro (.pair (.int .i64) (.int .i64)))], [.leaf (.own 46 (.pair (.int .i64) (.int .i64)))]⟩
def an_s_CutOps : Ann := .seq none .leaf (.seq none (.seq none .leaf (.cond (.seq none .leaf .leaf) .leaf)) (.seq none .leaf (.seq none .leaf .leaf)))
def ty_s_CutOps : List (Nat × Ty) := [(46, (.pair (.int .i64) (.int .i64)))]
def vr_s_CutOps : Nat → Nat := fun _ => 0
abbrev sg_Z70 : Sig := ⟨[.box 57 [.ro (.int .u8), .int .i64] [.ro (.int .u8), .int .i64]], [.leaf (.own 46 (.pair (.int .i64) (.int .i64)))]⟩
def an_Z70 : Ann := .seq none .leaf (.seq none .leaf (.seq none .leaf (.seq none (.seq none .leaf (.block (.loop ⟨[0, 3, 4, 5], [.box 57 [.ro (.int .u8), .int .i64] [], .leaf (.own 46 (.pair (.int .i64) (.int .i64))), .box 75 [.own 3 (.int .i64), .own 4 .bool, .own 3 (.int .i64), .own 3 (.int .i64), .bool] [], .leaf (.int .i64)]⟩ (.seq none (.seq none .leaf (.cond .leaf .leaf)) (.seq (some ⟨[0, 3, 4, 5], [.box 57 [.ro (.int .u8), .int .i64] [], .leaf (.own 46 (.pair (.int .i64) (.int .i64))), .box 75 [.own 3 (.int .i64), .own 4 .bool, .own 3 (.int .i64), .own 3 (.int .i64), .bool] [], .leaf (.int .i64)]⟩) (.block (.seq none .leaf (.seq none (.seq (some ⟨[0, 3, 4, 5, 6, 29], [.box 57 [.ro (.int .u8), .int .i64] [], .leaf (.own 46 (.pair (.int .i64) (.int .i64))), .box 75 [.own 3 (.int .i64), .own 4 .bool, .own 3 (.int .i64), .own 3 (.int .i64), .bool] [], .leaf (.int .i64), .box 46 [.int .i64, .int .i64] [], .leaf .bool]⟩) .leaf (.cond .leaf .leaf)) (.seq none .leaf (.seq (some ⟨[0, 3, 4, 5, 6, 8], [.box 57 [.ro (.int .u8), .int .i64] [], .leaf (.own 46 (.pair (.int .i64) (.int .i64))), .box 75 [.own 3 (.int .i64), .own 4 .bool, .own 3 (.int .i64), .own 3 (.int .i64), .bool] [], .leaf (.int .i64), .box 46 [.int .i64, .int .i64] [], .leaf .bool]⟩) (.seq none .leaf (.cond .leaf .leaf)) (.seq (some ⟨[0, 3, 4, 5, 6, 44], [.box 57 [.ro (.int .u8), .int .i64] [], .leaf (.own 46 (.pair (.int .i64) (.int .i64))), .box 75 [.own 3 (.int .i64), .own 4 .bool, .own 3 (.int .i64), .own 3 (.int .i64), .bool] [], .leaf (.int .i64), .box 46 [.int .i64, .int .i64] [], .leaf .bool]⟩) .leaf (.cond .leaf .leaf))))))) .leaf))))) (.seq none (.seq none .leaf (.cond (.seq none .leaf (.seq none .leaf (.cond .leaf .leaf))) .leaf)) (.seq none .leaf .leaf)))))
def ty_Z70 : List (Nat × Ty) := [(3, (.int .i64)), (46, (.pair (.int .i64) (.int .i64)))]
def vr_Z70 : Nat → Nat := fun _ => 0
abbrev sg_Z73 : Sig := ⟨[.box 57 [.ro (.int .u8), .int .i64] [.ro (.int .u8), .int .i64]], [.agg [.int .i64, .int .i64, .nil]]⟩
def an_Z73 : Ann := .seq none .leaf (.seq none (.seq none .leaf (.block (.seq none .leaf (.cond (.seq none .leaf .leaf) (.seq none .leaf (.cond (.seq none .leaf .leaf) (.seq (some ⟨[0, 2, 4, 18], [.box 57 [.ro (.int .u8), .int .i64] [], .box 68 [.int .i64, .int .i64, .nil] [], .leaf (.int .i64), .leaf .bool]⟩) (.seq none .leaf (.cond .leaf .leaf)) (.cond (.seq none .leaf .leaf) (.seq (some ⟨[0, 2, 4, 22], [.box 57 [.ro (.int .u8), .int .i64] [], .box 68 [.int .i64, .int .i64, .nil] [], .leaf (.int .i64), .leaf .bool]⟩) (.seq none .leaf (.cond .leaf .leaf)) (.cond (.seq none .leaf .leaf) (.seq none .leaf (.cond (.seq none .leaf .leaf) .leaf)))))))))))) (.seq none .leaf .leaf))
def ty_Z73 : List (Nat × Ty) := [(3, (.int .i64))]
def vr_Z73 : Nat → Nat := fun _ => 0
abbrev sg_s_isKey : Sig := ⟨[.agg [.int .i64, .int .i64, .any]], [.leaf .bool]⟩
def an_s_isKey : Ann := .seq none .leaf (.seq none .leaf .leaf)
def ty_s_isKey : List (Nat × Ty) := []
def vr_s_isKey : Nat → Nat := fun _ => 0
abbrev sg_s_allIn : Sig := ⟨[.leaf (.ro (.int .i64)), .leaf (.int .i64), .leaf (.int .i64)], [.leaf .bool]⟩
def an_s_allIn : Ann := .seq none .leaf (.seq none (.seq none .leaf (.block (.loop ⟨[0, 1, 2, 7], [.leaf (.ro (.int .i64)), .leaf (.int .i64), .leaf (.int .i64), .leaf (.int .i64)]⟩ (.seq none (.seq none .leaf (.cond .leaf .leaf)) (.seq none (.block (.seq none .leaf (.cond (.seq none .leaf .leaf) .leaf))) .leaf))))) (.seq none .leaf .leaf))
def ty_s_allIn : List (Nat × Ty) := []
def vr_s_allIn : Nat → Nat := fun _ => 0
abbrev sg_Z91 : Sig := ⟨[.agg [.int .i64, .int .i64, .any], .agg [.int .i64, .int .i64, .any]], [.leaf .bool]⟩
def an_Z91 : Ann := .seq none .leaf (.seq none .leaf .leaf)
def ty_Z91 : List (Nat × Ty) := []
def vr_Z91 : Nat → Nat := fun _ => 0
abbrev sg_Z69 : Sig := ⟨[.agg [.ro (.pair (.int .i64) (.pair (.int .i64) (.sl (.int .i64)))), .int .i64], .agg [.int .i64, .int .i64, .ro (.int .i64)]], [.leaf .bool]⟩
def an_Z69 : Ann := .seq none .leaf (.seq none (.seq none .leaf (.block (.loop ⟨[2, 3, 5], [.box 61 [.ro (.pair (.int .i64) (.pair (.int .i64) (.sl (.int .i64)))), .int .i64] [], .box 68 [.int .i64, .int .i64, .ro (.int .i64)] [], .leaf (.int .i64)]⟩ (.seq none (.seq none .leaf (.cond .leaf .leaf)) (.seq none (.block (.seq none (.seq none .leaf (.cond (.seq none .leaf .leaf) .leaf)) (.seq none .leaf (.block (.loop ⟨[2, 3, 5, 6], [.box 61 [.ro (.pair (.int .i64) (.pair (.int .i64) (.sl (.int .i64)))), .int .i64] [], .box 68 [.int .i64, .int .i64, .ro (.int .i64)] [], .leaf (.int .i64), .leaf (.int .i64)]⟩ (.seq none (.seq none .leaf (.cond .leaf .leaf)) (.seq none (.block (.seq none .leaf (.cond (.seq none .leaf .leaf) .leaf))) .leaf))))))) .leaf))))) (.seq none .leaf .leaf))
def ty_Z69 : List (Nat × Ty) := []
def vr_Z69 : Nat → Nat := fun _ => 0
abbrev sg_Z59 : Sig := ⟨[.agg [.ro (.pair (.int .i64) (.pair (.int .i64) (.sl (.int .i64)))), .int .i64], .agg [.int .i64, .int .i64, .ro (.int .i64)]], [.leaf .bool]⟩
def an_Z59 : Ann := .seq none .leaf (.seq none (.seq (some ⟨[2, 3, 18], [.box 61 [.ro (.pair (.int .i64) (.pair (.int .i64) (.sl (.int .i64)))), .int .i64] [], .box 68 [.int .i64, .int .i64, .ro (.int .i64)] [], .leaf .bool]⟩) .leaf (.cond (.seq none .leaf .leaf) .leaf)) (.seq none (.seq none .leaf (.block (.seq none .leaf (.cond (.seq none .leaf .leaf) (.seq none .leaf (.cond (.seq none .leaf .leaf) (.seq (some ⟨[2, 3, 20, 43], [.box 61 [.ro (.pair (.int .i64) (.pair (.int .i64) (.sl (.int .i64)))), .int .i64] [], .box 68 [.int .i64, .int .i64, .ro (.int .i64)] [], .leaf (.int .i64), .leaf .bool]⟩) (.seq none .leaf (.cond .leaf .leaf)) (.cond (.seq none .leaf .leaf) (.seq none .leaf (.cond (.seq none .leaf .leaf) (.seq none .leaf (.cond (.seq none .leaf .leaf) .leaf)))))))))))) (.seq none .leaf .leaf)))
def ty_Z59 : List (Nat × Ty) := []
def vr_Z59 : Nat → Nat := fun _ => 0
abbrev sg_Z82 : Sig := ⟨[.leaf (.ro (.int .i64)), .leaf (.int .i64)], [.leaf (.int .i64)]⟩
def an_Z82 : Ann := .seq none .leaf (.seq none (.seq none .leaf (.block (.loop ⟨[0, 1, 5], [.leaf (.ro (.int .i64)), .leaf (.int .i64), .leaf (.int .i64)]⟩ (.seq none (.seq none .leaf (.cond .leaf .leaf)) (.seq none (.block (.seq none .leaf (.cond (.seq none .leaf .leaf) .leaf))) .leaf))))) (.seq none .leaf .leaf))
def ty_Z82 : List (Nat × Ty) := []
def vr_Z82 : Nat → Nat := fun _ => 0
abbrev sg_Z54 : Sig := ⟨[.agg [.ro (.pair (.int .i64) (.pair (.int .i64) (.sl (.int .i64)))), .int .i64], .leaf (.int .i64)], [.leaf (.own 3 (.int .i64))]⟩
def an_Z54 : Ann := .seq none .leaf (.seq none .leaf (.seq none .leaf (.seq none (.seq none .leaf (.block (.loop ⟨[2, 5, 6, 7], [.box 61 [.ro (.pair (.int .i64) (.pair (.int .i64) (.sl (.int .i64)))), .int .i64] [], .leaf (.own 3 (.int .i64)), .leaf (.own 3 (.int .i64)), .leaf (.int .i64)]⟩ (.seq none (.seq none .leaf (.cond .leaf .leaf)) (.seq (some ⟨[2, 5, 6, 7], [.box 61 [.ro (.pair (.int .i64) (.pair (.int .i64) (.sl (.int .i64)))), .int .i64] [], .leaf (.own 3 (.int .i64)), .leaf (.own 3 (.int .i64)), .leaf (.int .i64)]⟩) (.block (.seq none .leaf (.cond (.seq none .leaf (.seq none .leaf (.cond .leaf .leaf))) .leaf))) .leaf))))) (.seq none .leaf .leaf))))
def ty_Z54 : List (Nat × Ty) := [(3, (.int .i64))]
def vr_Z54 : Nat → Nat := fun _ => 0
abbrev sg_Z42 : Sig := ⟨[.agg [.ro (.pair (.int .i64) (.pair (.int .i64) (.sl (.int .i64)))), .int .i64]], [.leaf .bool]⟩
def an_Z42 : Ann := .seq none .leaf (.seq none (.seq (some ⟨[1, 19], [.box 61 [.ro (.pair (.int .i64) (.pair (.int .i64) (.sl (.int .i64)))), .int .i64] [], .leaf .bool]⟩) .leaf (.cond (.seq none .leaf .leaf) .leaf)) (.seq none (.seq none .leaf (.block (.loop ⟨[1, 3], [.box 61 [.ro (.pair (.int .i64) (.pair (.int .i64) (.sl (.int .i64)))), .int .i64] [], .leaf (.int .i64)]⟩ (.seq none (.seq none .leaf (.cond .leaf .leaf)) (.seq none (.block (.seq none .leaf (.cond (.seq none .leaf .leaf) .leaf))) .leaf))))) (.seq none (.seq none .leaf (.block (.loop ⟨[1, 4], [.box 61 [.ro (.pair (.int .i64) (.pair (.int .i64) (.sl (.int .i64)))), .int .i64] [], .leaf (.int .i64)]⟩ (.seq none (.seq none .leaf (.cond .leaf .leaf)) (.seq none (.block (.seq (some ⟨[1, 4, 56], [.box 61 [.ro (.pair (.int .i64) (.pair (.int .i64) (.sl (.int .i64)))), .int .i64] [], .leaf (.int .i64), .leaf .bool]⟩) .leaf (.cond (.seq none .leaf .leaf) .leaf))) .leaf))))) (.seq none .leaf .leaf))))
def ty_Z42 : List (Nat × Ty) := []
def vr_Z42 : Nat → Nat := fun _ => 0
abbrev sg_Z88 : Sig := ⟨[.box 57 [.ro (.int .u8), .int .i64] [.ro (.int .u8), .int .i64], .agg [.own 68 (.pair (.int .i64) (.pair (.int .i64) (.oso 3 (.int .i64)))), .int .i64], .leaf (.int .i64)], [.agg [.own 68 (.pair (.int .i64) (.pair (.int .i64) (.oso 3 (.int .i64)))), .int .i64]]⟩
def an_Z88 : Ann := .seq none .leaf (.seq none .leaf (.seq none (.seq none .leaf (.block (.loop ⟨[0, 2, 4, 6, 7, 8], [.box 57 [.ro (.int .u8), .int .i64] [], .leaf (.int .i64), .box 61 [.own 68 (.pair (.int .i64) (.pair (.int .i64) (.oso 3 (.int .i64)))), .int .i64] [], .box 61 [.nil, .int .i64] [], .box 68 [.int .i64, .int .i64, .own 3 (.int .i64)] [], .leaf (.int .i64)]⟩ (.seq none (.seq none .leaf (.cond .leaf .leaf)) (.seq (some ⟨[0, 2, 4, 6, 7, 8], [.box 57 [.ro (.int .u8), .int .i64] [], .leaf (.int .i64), .box 61 [.own 68 (.pair (.int .i64) (.pair (.int .i64) (.oso 3 (.int .i64)))), .int .i64] [], .box 61 [.nil, .int .i64] [], .box 68 [.int .i64, .int .i64, .own 3 (.int .i64)] [], .leaf (.int .i64)]⟩) (.block (.seq none .leaf (.seq none .leaf (.block (.seq (some ⟨[0, 2, 4, 6, 7, 8, 9, 29, 30], [.box 57 [.ro (.int .u8), .int .i64] [], .leaf (.int .i64), .box 61 [.own 68 (.pair (.int .i64) (.pair (.int .i64) (.oso 3 (.int .i64)))), .int .i64] [], .box 61 [.nil, .int .i64] [], .box 68 [.int .i64, .int .i64, .own 3 (.int .i64)] [], .leaf (.int .i64), .leaf (.int .i64), .leaf (.int .i64), .leaf .bool]⟩) (.seq none .leaf (.cond .leaf .leaf)) (.cond .leaf (.seq none .leaf (.cond .leaf (.seq none .leaf (.cond (.seq (some ⟨[0, 2, 4, 6, 7, 8, 9, 57], [.box 57 [.ro (.int .u8), .int .i64] [], .leaf (.int .i64), .box 61 [.own 68 (.pair (.int .i64) (.pair (.int .i64) (.oso 3 (.int .i64)))), .int .i64] [], .box 61 [.nil, .int .i64] [], .box 68 [.int .i64, .int .i64, .own 3 (.int .i64)] [], .leaf (.int .i64), .leaf (.int .i64), .leaf .bool]⟩) .leaf (.cond .leaf .leaf)) .leaf)))))))))) .leaf))))) (.seq none .leaf (.seq none .leaf (.seq (some ⟨[0, 4, 6], [.box 57 [.ro (.int .u8), .int .i64] [], .box 61 [.own 68 (.pair (.int .i64) (.pair (.int .i64) (.oso 3 (.int .i64)))), .int .i64] [], .box 61 [.nil, .int .i64] []]⟩) (.seq none .leaf (.cond .leaf .leaf)) (.seq none .leaf .leaf))))))
def ty_Z88 : List (Nat × Ty) := [(3, (.int .i64))]
def vr_Z88 : Nat → Nat := fun _ => 0
abbrev sg_Z68 : Sig := ⟨[.box 57 [.ro (.int .u8), .int .i64] [.ro (.int .u8), .int .i64]], [.agg [.ro (.pair (.int .i64) (.pair (.int .i64) (.sl (.int .i64)))), .int .i64]]⟩
def an_Z68 : Ann := .seq none .leaf (.seq none .leaf (.seq none (.seq none .leaf (.block (.loop ⟨[0, 2, 3, 4], [.box 57 [.ro (.int .u8), .int .i64] [], .box 61 [.nil, .int .i64] [], .box 61 [.own 68 (.pair (.int .i64) (.pair (.int .i64) (.oso 3 (.int .i64)))), .int .i64] [], .leaf (.int .i64)]⟩ (.seq none (.seq none .leaf (.cond .leaf .leaf)) (.seq none (.block .leaf) .leaf))))) (.seq none .leaf (.seq none (.seq none .leaf (.block (.loop ⟨[0, 2, 3, 5], [.box 57 [.ro (.int .u8), .int .i64] [], .box 61 [.nil, .int .i64] [], .box 61 [.own 68 (.pair (.int .i64) (.pair (.int .i64) (.oso 3 (.int .i64)))), .int .i64] [], .leaf (.int .i64)]⟩ (.seq none (.seq none .leaf (.cond .leaf .leaf)) (.seq none (.block .leaf) .leaf))))) (.seq (some ⟨[0, 2, 3], [.box 57 [.ro (.int .u8), .int .i64] [], .box 61 [.nil, .int .i64] [], .box 61 [.own 68 (.pair (.int .i64) (.pair (.int .i64) (.oso 3 (.int .i64)))), .int .i64] []]⟩) (.seq none .leaf (.cond .leaf .leaf)) (.seq none .leaf .leaf))))))
def ty_Z68 : List (Nat × Ty) := [(3, (.int .i64)), (68, (.pair (.int .i64) (.pair (.int .i64) (.oso 3 (.int .i64)))))]
def vr_Z68 : Nat → Nat := fun _ => 0
abbrev sg_Z65 : Sig := ⟨[.agg [.ro (.pair (.int .i64) (.pair (.int .i64) (.sl (.int .i64)))), .int .i64]], [.leaf (.own 3 (.int .i64))]⟩
def an_Z65 : Ann := .seq none .leaf (.seq none .leaf (.seq none (.seq none .leaf (.block (.loop ⟨[1, 3, 4], [.box 61 [.ro (.pair (.int .i64) (.pair (.int .i64) (.sl (.int .i64)))), .int .i64] [], .leaf (.own 3 (.int .i64)), .leaf (.int .i64)]⟩ (.seq none (.seq none .leaf (.cond .leaf .leaf)) (.seq none (.block .leaf) .leaf))))) (.seq none .leaf .leaf)))
def ty_Z65 : List (Nat × Ty) := [(3, (.int .i64))]
def vr_Z65 : Nat → Nat := fun _ => 0
abbrev sg_s_emit : Sig := ⟨[.leaf (.ro (.pair (.int .i64) (.int .i64))), .leaf (.ro (.pair (.int .i64) (.int .i64)))], [.leaf (.own 46 (.pair (.int .i64) (.int .i64)))]⟩
def an_s_emit : Ann := .seq none .leaf (.seq none .leaf .leaf)
def ty_s_emit : List (Nat × Ty) := [(46, (.pair (.int .i64) (.int .i64)))]
def vr_s_emit : Nat → Nat := fun _ => 0
abbrev sg_s_memoed : Sig := ⟨[.leaf (.ro (.pair (.int .i64) (.int .i64))), .leaf (.ro (.int .i64)), .leaf (.int .i64)], [.leaf (.own 46 (.pair (.int .i64) (.int .i64))), .leaf (.own 3 (.int .i64))]⟩
def an_s_memoed : Ann := .seq none .leaf (.seq none .leaf (.seq none (.seq none .leaf (.block (.loop ⟨[0, 1, 2, 8, 9], [.leaf (.ro (.pair (.int .i64) (.int .i64))), .leaf (.ro (.int .i64)), .leaf (.int .i64), .leaf (.int .i64), .leaf (.int .i64)]⟩ (.seq none (.seq none .leaf (.cond .leaf .leaf)) (.seq (some ⟨[0, 1, 2, 8, 9], [.leaf (.ro (.pair (.int .i64) (.int .i64))), .leaf (.ro (.int .i64)), .leaf (.int .i64), .leaf (.int .i64), .leaf (.int .i64)]⟩) (.block (.seq none .leaf (.cond .leaf .leaf))) .leaf))))) (.seq none .leaf (.seq none .leaf (.seq none .leaf .leaf)))))
def ty_s_memoed : List (Nat × Ty) := [(46, (.pair (.int .i64) (.int .i64)))]
def vr_s_memoed : Nat → Nat := fun _ => 0
abbrev sg_Z78 : Sig := ⟨[.agg [.ro (.pair (.int .i64) (.pair (.int .i64) (.sl (.int .i64)))), .int .i64], .leaf (.int .i64), .leaf (.ro (.int .i64)), .leaf (.ro (.pair (.int .i64) (.int .i64))), .leaf (.ro (.int .i64))], [.leaf (.ro (.pair (.int .i64) (.int .i64))), .leaf (.ro (.int .i64))]⟩
def an_Z78 : Ann := .seq none .leaf (.seq none (.seq none .leaf (.block (.loop ⟨[1, 2, 3, 4, 5, 12], [.leaf (.int .i64), .leaf (.ro (.int .i64)), .leaf (.ro (.pair (.int .i64) (.int .i64))), .leaf (.ro (.int .i64)), .box 61 [.ro (.pair (.int .i64) (.pair (.int .i64) (.sl (.int .i64)))), .int .i64] [], .leaf (.int .i64)]⟩ (.seq none (.seq none .leaf (.cond .leaf .leaf)) (.seq none (.block .leaf) .leaf))))) (.seq none .leaf .leaf))
def ty_Z78 : List (Nat × Ty) := []
def vr_Z78 : Nat → Nat := fun _ => 0
abbrev sg_Z60 : Sig := ⟨[.agg [.ro (.pair (.int .i64) (.pair (.int .i64) (.sl (.int .i64)))), .int .i64], .leaf (.int .i64), .leaf (.int .i64), .leaf (.ro (.pair (.int .i64) (.int .i64))), .leaf (.ro (.int .i64))], [.leaf (.ro (.pair (.int .i64) (.int .i64))), .leaf (.ro (.int .i64))]⟩
def an_Z60 : Ann := .seq none .leaf (.seq none .leaf (.seq none (.seq none .leaf (.cond (.seq none .leaf .leaf) .leaf)) (.seq (some ⟨[1, 2, 3, 4, 5, 12, 13], [.leaf (.int .i64), .leaf (.int .i64), .leaf (.ro (.pair (.int .i64) (.int .i64))), .leaf (.ro (.int .i64)), .box 61 [.ro (.pair (.int .i64) (.pair (.int .i64) (.sl (.int .i64)))), .int .i64] [], .leaf (.ro (.int .i64)), .leaf .bool]⟩) .leaf (.seq (some ⟨[1, 2, 3, 4, 5, 12, 13], [.leaf (.int .i64), .leaf (.int .i64), .leaf (.ro (.pair (.int .i64) (.int .i64))), .leaf (.ro (.int .i64)), .box 61 [.ro (.pair (.int .i64) (.pair (.int .i64) (.sl (.int .i64)))), .int .i64] [], .leaf (.ro (.int .i64)), .leaf .bool]⟩) (.seq none .leaf (.cond .leaf .leaf)) (.seq none .leaf (.seq none (.seq none .leaf (.cond (.seq none (.seq none .leaf (.block (.loop ⟨[2, 3, 4, 12, 13, 14], [.leaf (.int .i64), .leaf (.ro (.pair (.int .i64) (.int .i64))), .leaf (.ro (.int .i64)), .leaf (.ro (.int .i64)), .leaf .bool, .leaf (.int .i64)]⟩ (.seq none (.seq (some ⟨[2, 3, 4, 12, 13, 14, 67], [.leaf (.int .i64), .leaf (.ro (.pair (.int .i64) (.int .i64))), .leaf (.ro (.int .i64)), .leaf (.ro (.int .i64)), .leaf .bool, .leaf (.int .i64), .leaf .bool]⟩) .leaf (.cond .leaf .leaf)) (.seq none (.block .leaf) .leaf))))) (.seq (some ⟨[2, 3, 4], [.leaf (.int .i64), .leaf (.ro (.pair (.int .i64) (.int .i64))), .leaf (.ro (.int .i64))]⟩) (.seq none .leaf (.cond .leaf .leaf)) (.seq none .leaf .leaf))) .leaf)) (.seq none .leaf (.seq (some ⟨[2, 3, 4, 15], [.leaf (.int .i64), .leaf (.ro (.pair (.int .i64) (.int .i64))), .leaf (.ro (.int .i64)), .leaf (.int .i64)]⟩) (.seq none .leaf (.cond .leaf .leaf)) (.seq none .leaf .leaf)))))))))
def ty_Z60 : List (Nat × Ty) := [(46, (.pair (.int .i64) (.int .i64)))]
def vr_Z60 : Nat → Nat := fun _ => 0
abbrev sg_s_fill : Sig := ⟨[.agg [.ro (.pair (.int .i64) (.pair (.int .i64) (.sl (.int .i64)))), .int .i64], .leaf (.int .i64), .leaf (.ro (.int .i64)), .leaf (.int .i64), .leaf (.int .i64), .leaf (.int .i64), .leaf (.ro (.pair (.int .i64) (.int .i64))), .leaf (.ro (.int .i64))], [.leaf (.ro (.pair (.int .i64) (.int .i64))), .leaf (.ro (.int .i64))]⟩
def an_s_fill : Ann := .seq none .leaf (.seq none (.seq (some ⟨[1, 2, 3, 4, 5, 6, 7, 8, 26], [.leaf (.int .i64), .leaf (.ro (.int .i64)), .leaf (.int .i64), .leaf (.int .i64), .leaf (.int .i64), .leaf (.ro (.pair (.int .i64) (.int .i64))), .leaf (.ro (.int .i64)), .box 61 [.ro (.pair (.int .i64) (.pair (.int .i64) (.sl (.int .i64)))), .int .i64] [], .leaf .bool]⟩) .leaf (.cond (.seq none .leaf (.seq none .leaf (.seq none .leaf .leaf))) .leaf)) (.seq none (.seq none .leaf (.block (.loop ⟨[1, 2, 3, 4, 6, 7, 8, 18], [.leaf (.int .i64), .leaf (.ro (.int .i64)), .leaf (.int .i64), .leaf (.int .i64), .leaf (.ro (.pair (.int .i64) (.int .i64))), .leaf (.ro (.int .i64)), .box 61 [.ro (.pair (.int .i64) (.pair (.int .i64) (.sl (.int .i64)))), .int .i64] [], .leaf (.int .i64)]⟩ (.seq none (.seq none .leaf (.cond .leaf .leaf)) (.seq none (.block (.seq none .leaf .leaf)) .leaf))))) (.seq none .leaf .leaf)))
def ty_s_fill : List (Nat × Ty) := [(46, (.pair (.int .i64) (.int .i64)))]
def vr_s_fill : Nat → Nat := fun _ => 0
abbrev sg_s_save : Sig := ⟨[.agg [.ro (.pair (.int .i64) (.pair (.int .i64) (.sl (.int .i64)))), .int .i64], .leaf (.int .i64), .leaf (.int .i64), .leaf (.ro (.pair (.int .i64) (.int .i64))), .leaf (.ro (.int .i64))], [.leaf (.ro (.pair (.int .i64) (.int .i64))), .leaf (.ro (.int .i64))]⟩
def an_s_save : Ann := .seq none .leaf (.seq none .leaf (.seq none (.seq none .leaf (.cond (.seq none .leaf .leaf) .leaf)) (.seq none (.seq none .leaf (.block (.seq none .leaf (.cond (.seq none .leaf .leaf) (.seq none .leaf (.cond (.seq none .leaf .leaf) (.seq none .leaf (.cond (.seq none .leaf .leaf) (.seq none .leaf (.cond (.seq none .leaf (.seq none .leaf .leaf)) (.seq none .leaf (.cond (.seq none .leaf (.seq none .leaf .leaf)) .leaf)))))))))))) (.seq none .leaf (.seq none .leaf (.seq (some ⟨[3, 4], [.leaf (.ro (.pair (.int .i64) (.int .i64))), .leaf (.ro (.int .i64))]⟩) (.seq none .leaf (.cond .leaf .leaf)) (.seq none .leaf .leaf)))))))
def ty_s_save : List (Nat × Ty) := [(46, (.pair (.int .i64) (.int .i64)))]
def vr_s_save : Nat → Nat := fun _ => 0
abbrev sg_Z89 : Sig := ⟨[.agg [.ro (.pair (.int .i64) (.pair (.int .i64) (.sl (.int .i64)))), .int .i64], .leaf (.int .i64)], [.leaf (.own 46 (.pair (.int .i64) (.int .i64)))]⟩
def an_Z89 : Ann := .seq none .leaf (.seq none .leaf (.seq none .leaf .leaf))
def ty_Z89 : List (Nat × Ty) := [(46, (.pair (.int .i64) (.int .i64)))]
def vr_Z89 : Nat → Nat := fun _ => 0
abbrev sg_Z86 : Sig := ⟨[.box 57 [.ro (.int .u8), .int .i64] [.ro (.int .u8), .int .i64]], [.leaf (.ro (.pair (.int .i64) (.int .i64)))]⟩
def an_Z86 : Ann := .seq none .leaf (.seq none .leaf (.seq (some ⟨[0, 3], [.box 57 [.ro (.int .u8), .int .i64] [], .leaf (.own 46 (.pair (.int .i64) (.int .i64)))]⟩) (.seq none .leaf (.cond .leaf (.seq none .leaf (.seq (some ⟨[0, 3], [.box 57 [.ro (.int .u8), .int .i64] [], .leaf (.own 46 (.pair (.int .i64) (.int .i64)))]⟩) (.seq (some ⟨[0, 3, 22], [.box 57 [.ro (.int .u8), .int .i64] [], .leaf (.own 46 (.pair (.int .i64) (.int .i64))), .leaf .bool]⟩) .leaf (.cond .leaf .leaf)) (.seq none .leaf (.cond .leaf .leaf)))))) (.seq none (.seq none .leaf (.cond (.seq none .leaf (.block (.seq none .leaf (.cond .leaf (.seq none .leaf (.cond .leaf .leaf)))))) .leaf)) (.seq none .leaf .leaf))))
def ty_Z86 : List (Nat × Ty) := [(3, (.int .i64)), (46, (.pair (.int .i64) (.int .i64)))]
def vr_Z86 : Nat → Nat := fun _ => 0
abbrev sg_Z74 : Sig := ⟨[.leaf (.ro (.pair (.int .i64) (.int .i64)))], [.leaf (.own 3 (.int .i64))]⟩
def an_Z74 : Ann := .seq none .leaf (.seq none (.seq none .leaf (.cond (.seq none .leaf .leaf) .leaf)) (.seq none .leaf (.seq none .leaf (.seq none (.seq none .leaf (.block (.loop ⟨[0, 3, 5, 6], [.leaf (.ro (.pair (.int .i64) (.int .i64))), .leaf (.own 3 (.int .i64)), .leaf (.int .i64), .leaf (.int .i64)]⟩ (.seq none (.seq none .leaf (.cond .leaf .leaf)) (.seq none (.block (.seq none .leaf .leaf)) .leaf))))) (.seq none .leaf .leaf)))))
def ty_Z74 : List (Nat × Ty) := [(3, (.int .i64))]
def vr_Z74 : Nat → Nat := fun _ => 0
abbrev sg_Z63 : Sig := ⟨[.leaf (.ro (.pair (.int .i64) (.int .i64)))], [.leaf (.own 3 (.int .i64))]⟩
def an_Z63 : Ann := .seq none .leaf (.seq none (.seq none .leaf (.cond (.seq none .leaf .leaf) .leaf)) (.seq none .leaf (.seq none (.seq none .leaf (.block (.loop ⟨[0, 3, 4], [.leaf (.ro (.pair (.int .i64) (.int .i64))), .leaf (.own 3 (.int .i64)), .leaf (.int .i64)]⟩ (.seq none (.seq none .leaf (.cond .leaf .leaf)) (.seq (some ⟨[0, 3, 4], [.leaf (.ro (.pair (.int .i64) (.int .i64))), .leaf (.own 3 (.int .i64)), .leaf (.int .i64)]⟩) (.block (.seq none .leaf (.block (.loop ⟨[0, 3, 4, 5], [.leaf (.ro (.pair (.int .i64) (.int .i64))), .leaf (.own 3 (.int .i64)), .leaf (.int .i64), .leaf (.int .i64)]⟩ (.seq none (.seq none .leaf (.cond .leaf .leaf)) (.seq none (.block (.seq (some ⟨[0, 3, 4, 5, 34], [.leaf (.ro (.pair (.int .i64) (.int .i64))), .leaf (.own 3 (.int .i64)), .leaf (.int .i64), .leaf (.int .i64), .leaf .bool]⟩) .leaf (.cond (.seq none .leaf .leaf) .leaf))) .leaf)))))) .leaf))))) (.seq none .leaf .leaf))))
def ty_Z63 : List (Nat × Ty) := [(3, (.int .i64))]
def vr_Z63 : Nat → Nat := fun _ => 0
abbrev sg_Z56 : Sig := ⟨[.leaf (.ro (.pair (.int .i64) (.int .i64)))], [.agg [.int .i64, .int .i64, .int .i64, .own 3 (.int .i64)], .leaf .bool]⟩
def an_Z56 : Ann := .seq none .leaf (.seq none (.seq none .leaf (.cond (.seq none .leaf .leaf) .leaf)) (.seq none .leaf (.seq none (.seq none .leaf (.cond (.seq none .leaf .leaf) .leaf)) (.seq none .leaf (.seq none .leaf (.seq none (.seq none .leaf (.block (.loop ⟨[0, 2, 4, 6, 7, 8], [.leaf (.ro (.pair (.int .i64) (.int .i64))), .box 26 [.int .i64, .int .i64, .int .i64, .nil] [], .box 75 [.own 3 (.int .i64), .own 4 .bool, .own 3 (.int .i64), .own 3 (.int .i64), .bool] [], .leaf (.int .i64), .leaf (.own 3 (.int .i64)), .leaf (.int .i64)]⟩ (.seq none (.seq none .leaf (.cond .leaf .leaf)) (.seq none (.block .leaf) .leaf))))) (.seq none .leaf .leaf)))))))
def ty_Z56 : List (Nat × Ty) := []
def vr_Z56 : Nat → Nat := fun _ => 0
abbrev sg_Z36 : Sig := ⟨[.box 57 [.ro (.int .u8), .int .i64] [.ro (.int .u8), .int .i64], .leaf (.ro (.sl (.int .i64)))], [.leaf (.own 3 (.int .i64))]⟩
def an_Z36 : Ann := .seq none .leaf (.seq none .leaf .leaf)
def ty_Z36 : List (Nat × Ty) := []
def vr_Z36 : Nat → Nat := fun _ => 0
abbrev sg_Z62 : Sig := ⟨[.box 57 [.ro (.int .u8), .int .i64] [.ro (.int .u8), .int .i64], .leaf (.ro (.pair (.int .i64) (.int .i64)))], [.agg [.int .i64, .int .i64, .int .i64, .own 3 (.int .i64)]]⟩
def an_Z62 : Ann := .seq none .leaf (.seq none .leaf (.seq (some ⟨[0, 4, 5], [.box 57 [.ro (.int .u8), .int .i64] [], .box 26 [.int .i64, .int .i64, .int .i64, .nil] [], .box 26 [.int .i64, .int .i64, .int .i64, .own 3 (.int .i64)] []]⟩) (.seq none .leaf (.cond (.seq none .leaf (.seq none .leaf (.cond .leaf .leaf))) .leaf)) (.seq (some ⟨[0, 4, 5], [.box 57 [.ro (.int .u8), .int .i64] [], .box 26 [.int .i64, .int .i64, .int .i64, .nil] [], .box 26 [.int .i64, .int .i64, .int .i64, .own 3 (.int .i64)] []]⟩) (.seq none .leaf (.block (.seq none .leaf (.cond .leaf (.seq none .leaf (.cond .leaf (.seq none .leaf (.cond .leaf (.seq none .leaf (.cond .leaf (.seq none .leaf (.cond .leaf .leaf)))))))))))) (.seq none .leaf .leaf))))
def ty_Z62 : List (Nat × Ty) := [(3, (.int .i64)), (24, (.sl (.int .i64)))]
def vr_Z62 : Nat → Nat := fun _ => 0
abbrev sg_Z38 : Sig := ⟨[.leaf (.ro (.int .u8))], [.leaf (.ro (.pair (.int .i64) (.int .i64))), .agg [.int .i64, .int .i64, .int .i64, .own 3 (.int .i64)]]⟩
def an_Z38 : Ann := .seq none .leaf (.seq none .leaf (.seq none .leaf (.seq none .leaf .leaf)))
def ty_Z38 : List (Nat × Ty) := []
def vr_Z38 : Nat → Nat := fun _ => 0
abbrev sg_Z87 : Sig := ⟨[.leaf (.int .i64)], [.leaf (.int .i64)]⟩
def an_Z87 : Ann := .seq none .leaf (.seq none (.seq none .leaf (.block (.seq none .leaf (.cond (.seq none .leaf .leaf) (.seq none .leaf (.cond (.seq none .leaf .leaf) (.seq none .leaf (.cond (.seq none .leaf .leaf) (.seq (some ⟨[10], [.leaf .bool]⟩) (.seq none .leaf (.cond .leaf .leaf)) (.cond (.seq none .leaf .leaf) .leaf)))))))))) (.seq none .leaf .leaf))
def ty_Z87 : List (Nat × Ty) := []
def vr_Z87 : Nat → Nat := fun _ => 0
abbrev sg_i_opOk : Sig := ⟨[.agg [.int .i64, .int .i64]], [.leaf .bool]⟩
def an_i_opOk : Ann := .seq none .leaf (.seq none .leaf .leaf)
def ty_i_opOk : List (Nat × Ty) := []
def vr_i_opOk : Nat → Nat := fun _ => 0
abbrev sg_Z71 : Sig := ⟨[.leaf (.ro (.pair (.int .i64) (.int .i64)))], [.leaf .bool]⟩
def an_Z71 : Ann := .seq none .leaf (.seq none (.seq none .leaf (.block (.loop ⟨[0, 5, 6, 7], [.leaf (.ro (.pair (.int .i64) (.int .i64))), .leaf (.ro (.pair (.int .i64) (.int .i64))), .leaf (.int .i64), .leaf (.int .i64)]⟩ (.seq none .leaf (.seq none (.cond .leaf .leaf) (.seq none (.block (.seq none .leaf (.seq none .leaf (.cond (.seq none .leaf .leaf) .leaf)))) .leaf)))))) (.seq none .leaf .leaf))
def ty_Z71 : List (Nat × Ty) := []
def vr_Z71 : Nat → Nat := fun _ => 0
abbrev sg_Z20 : Sig := ⟨[.leaf (.ro (.int .i64)), .leaf (.int .i64)], [.leaf (.int .i64)]⟩
def an_Z20 : Ann := .seq none .leaf (.seq none (.seq none .leaf (.block (.loop ⟨[0, 1, 7, 8], [.leaf (.ro (.int .i64)), .leaf (.int .i64), .leaf (.int .i64), .leaf (.int .i64)]⟩ (.seq none .leaf (.seq none (.cond .leaf .leaf) (.seq none (.block (.seq none .leaf (.seq none .leaf (.cond (.seq none .leaf .leaf) .leaf)))) .leaf)))))) (.seq none .leaf .leaf))
def ty_Z20 : List (Nat × Ty) := []
def vr_Z20 : Nat → Nat := fun _ => 0
abbrev sg_Z17 : Sig := ⟨[.leaf (.ro (.int .i64)), .leaf (.int .i64)], [.leaf .bool]⟩
def an_Z17 : Ann := .seq none .leaf (.seq none .leaf .leaf)
def ty_Z17 : List (Nat × Ty) := []
def vr_Z17 : Nat → Nat := fun _ => 0
abbrev sg_Z52 : Sig := ⟨[.agg [.int .i64, .int .i64, .int .i64, .ro (.int .i64)]], [.leaf .bool]⟩
def an_Z52 : Ann := .seq none .leaf (.seq none (.seq none .leaf (.block (.loop ⟨[1, 6, 7, 8], [.box 26 [.int .i64, .int .i64, .int .i64, .ro (.int .i64)] [], .leaf (.ro (.int .i64)), .leaf (.int .i64), .leaf (.int .i64)]⟩ (.seq none .leaf (.seq none (.cond .leaf .leaf) (.seq none (.block (.seq none .leaf (.seq (some ⟨[1, 6, 7, 8, 26], [.box 26 [.int .i64, .int .i64, .int .i64, .ro (.int .i64)] [], .leaf (.ro (.int .i64)), .leaf (.int .i64), .leaf (.int .i64), .leaf .bool]⟩) .leaf (.cond (.seq none .leaf .leaf) .leaf)))) .leaf)))))) (.seq none .leaf .leaf))
def ty_Z52 : List (Nat × Ty) := []
def vr_Z52 : Nat → Nat := fun _ => 0
abbrev sg_Z50 : Sig := ⟨[.leaf (.int .i64)], [.agg [.own 68 (.pair (.int .i64) (.pair (.int .i64) (.os 3 (.int .i64)))), .nil, .own 3 (.int .i64), .bool]]⟩
def an_Z50 : Ann := .seq none .leaf (.seq none (.seq (some ⟨[0, 2, 10], [.leaf (.int .i64), .box 43 [.nil, .nil, .nil, .bool] [], .leaf .bool]⟩) .leaf (.cond (.seq none .leaf .leaf) .leaf)) (.seq none .leaf (.seq none (.seq none .leaf (.block (.loop ⟨[0, 2, 3, 16, 17], [.leaf (.int .i64), .box 43 [.nil, .nil, .nil, .bool] [], .box 43 [.nil, .nil, .own 3 (.int .i64), .bool] [], .leaf (.int .i64), .leaf (.int .i64)]⟩ (.seq none .leaf (.seq none (.cond .leaf .leaf) (.seq (some ⟨[0, 2, 3, 16, 17], [.leaf (.int .i64), .box 43 [.nil, .nil, .nil, .bool] [], .box 43 [.nil, .nil, .own 3 (.int .i64), .bool] [], .leaf (.int .i64), .leaf (.int .i64)]⟩) (.block (.seq none .leaf (.seq none .leaf (.cond .leaf .leaf)))) .leaf)))))) (.seq (some ⟨[2, 3], [.box 43 [.nil, .nil, .nil, .bool] [], .box 43 [.own 68 (.pair (.int .i64) (.pair (.int .i64) (.os 3 (.int .i64)))), .nil, .own 3 (.int .i64), .bool] []]⟩) (.seq none .leaf (.cond .leaf .leaf)) (.seq none .leaf .leaf)))))
def ty_Z50 : List (Nat × Ty) := [(3, (.int .i64)), (68, (.pair (.int .i64) (.pair (.int .i64) (.os 3 (.int .i64)))))]
def vr_Z50 : Nat → Nat := fun _ => 0
abbrev sg_Z22 : Sig := ⟨[.leaf (.ro (.int .i64))], [.leaf (.own 3 (.int .i64))]⟩
def an_Z22 : Ann := anClone
def ty_Z22 : List (Nat × Ty) := [(3, (.int .i64))]
def vr_Z22 : Nat → Nat := fun _ => 0
abbrev sg_Z27 : Sig := ⟨[.box 43 [.ownA 1 68 (.pair (.int .i64) (.pair (.int .i64) (.os 3 (.int .i64)))), .own 3 (.int .i64), .own 3 (.int .i64), .bool] [.ownA 1 68 (.pair (.int .i64) (.pair (.int .i64) (.os 3 (.int .i64)))), .own 3 (.int .i64), .own 3 (.int .i64), .bool]], [.leaf (.int .i64)]⟩
def an_Z27 : Ann := .seq none .leaf (.seq none .leaf (.seq none (.block (.loop ⟨[0, 3], [.box 43 [.ownA 1 68 (.pair (.int .i64) (.pair (.int .i64) (.os 3 (.int .i64)))), .own 3 (.int .i64), .own 3 (.int .i64), .bool] [], .leaf (.int .i64)]⟩ (.seq none (.seq (some ⟨[0, 3, 27], [.box 43 [.ownA 1 68 (.pair (.int .i64) (.pair (.int .i64) (.os 3 (.int .i64)))), .own 3 (.int .i64), .own 3 (.int .i64), .bool] [], .leaf (.int .i64), .leaf .bool]⟩) .leaf (.cond .leaf .leaf)) (.block .leaf)))) (.seq none .leaf .leaf)))
def ty_Z27 : List (Nat × Ty) := []
def vr_Z27 : Nat → Nat := fun _ => 0
abbrev sg_Z29 : Sig := ⟨[.box 43 [.ownA 1 68 (.pair (.int .i64) (.pair (.int .i64) (.os 3 (.int .i64)))), .own 3 (.int .i64), .own 3 (.int .i64), .bool] [.ownA 1 68 (.pair (.int .i64) (.pair (.int .i64) (.os 3 (.int .i64)))), .own 3 (.int .i64), .own 3 (.int .i64), .bool], .leaf (.int .i64)], [.leaf .bool]⟩
def an_Z29 : Ann := .seq none .leaf (.seq none .leaf (.seq none .leaf .leaf))
def ty_Z29 : List (Nat × Ty) := [(3, (.int .i64))]
def vr_Z29 : Nat → Nat := fun _ => 0
abbrev sg_Z31 : Sig := ⟨[.box 43 [.own 68 (.pair (.int .i64) (.pair (.int .i64) (.os 3 (.int .i64)))), .own 3 (.int .i64), .own 3 (.int .i64), .bool] [.own 68 (.pair (.int .i64) (.pair (.int .i64) (.os 3 (.int .i64)))), .own 3 (.int .i64), .own 3 (.int .i64), .bool], .leaf (.int .i64), .leaf (.int .i64), .leaf (.ro (.int .i64))], [.leaf .bool]⟩
def an_Z31 : Ann := .seq none .leaf (.seq none .leaf (.seq none .leaf .leaf))
def ty_Z31 : List (Nat × Ty) := [(68, (.pair (.int .i64) (.pair (.int .i64) (.os 3 (.int .i64)))))]
def vr_Z31 : Nat → Nat := fun _ => 0
abbrev sg_Z33 : Sig := ⟨[.box 43 [.ownA 1 68 (.pair (.int .i64) (.pair (.int .i64) (.os 3 (.int .i64)))), .own 3 (.int .i64), .own 3 (.int .i64), .bool] [.ownA 1 68 (.pair (.int .i64) (.pair (.int .i64) (.os 3 (.int .i64)))), .own 3 (.int .i64), .own 3 (.int .i64), .bool], .leaf (.int .i64)], [.leaf (.own 3 (.int .i64))]⟩
def an_Z33 : Ann := .seq none .leaf (.seq none .leaf (.seq none .leaf (.seq none .leaf (.seq none .leaf .leaf))))
def ty_Z33 : List (Nat × Ty) := []
def vr_Z33 : Nat → Nat := fun _ => 0
abbrev sg_Z26 : Sig := ⟨[.box 43 [.ownA 1 68 (.pair (.int .i64) (.pair (.int .i64) (.os 3 (.int .i64)))), .own 3 (.int .i64), .own 3 (.int .i64), .bool] [.ownA 1 68 (.pair (.int .i64) (.pair (.int .i64) (.os 3 (.int .i64)))), .own 3 (.int .i64), .own 3 (.int .i64), .bool]], [.leaf (.ro (.int .i64)), .leaf .bool]⟩
def an_Z26 : Ann := .seq none .leaf (.seq none .leaf (.seq none (.seq none .leaf (.cond (.seq none .leaf .leaf) .leaf)) (.seq none .leaf .leaf)))
def ty_Z26 : List (Nat × Ty) := []
def vr_Z26 : Nat → Nat := fun _ => 0
abbrev sg_Z35 : Sig := ⟨[.box 43 [.ownA 1 68 (.pair (.int .i64) (.pair (.int .i64) (.os 3 (.int .i64)))), .own 3 (.int .i64), .own 3 (.int .i64), .bool] [.ownA 1 68 (.pair (.int .i64) (.pair (.int .i64) (.os 3 (.int .i64)))), .own 3 (.int .i64), .own 3 (.int .i64), .bool], .leaf (.int .i64)], [.leaf (.elo 1 0), .leaf .bool]⟩
def an_Z35 : Ann := .seq none .leaf (.seq none (.seq none .leaf (.cond (.seq none .leaf .leaf) .leaf)) (.seq none .leaf (.seq none .leaf .leaf)))
def ty_Z35 : List (Nat × Ty) := []
def vr_Z35 : Nat → Nat := fun _ => 0
abbrev sg_Z80 : Sig := ⟨[.leaf (.ro (.pair (.int .i64) (.pair (.int .i64) (.sl (.int .i64))))), .leaf (.ro (.int .i64)), .agg [.int .i64, .int .i64, .any]], [.leaf (.int .i64)]⟩
def an_Z80 : Ann := .seq none .leaf (.seq none (.seq none .leaf (.block (.loop ⟨[0, 1, 5, 7], [.leaf (.ro (.pair (.int .i64) (.pair (.int .i64) (.sl (.int .i64))))), .leaf (.ro (.int .i64)), .box 68 [.int .i64, .int .i64, .any] [], .leaf (.int .i64)]⟩ (.seq none (.seq none .leaf (.cond .leaf .leaf)) (.seq none (.block (.seq none .leaf (.seq (some ⟨[0, 1, 5, 7, 33], [.leaf (.ro (.pair (.int .i64) (.pair (.int .i64) (.sl (.int .i64))))), .leaf (.ro (.int .i64)), .box 68 [.int .i64, .int .i64, .any] [], .leaf (.int .i64), .leaf .bool]⟩) .leaf (.cond (.seq none .leaf .leaf) .leaf)))) .leaf))))) (.seq none .leaf .leaf))
def ty_Z80 : List (Nat × Ty) := []
def vr_Z80 : Nat → Nat := fun _ => 0
abbrev sg_Z37 : Sig := ⟨[.box 43 [.ownA 1 68 (.pair (.int .i64) (.pair (.int .i64) (.os 3 (.int .i64)))), .own 3 (.int .i64), .own 3 (.int .i64), .bool] [.ownA 1 68 (.pair (.int .i64) (.pair (.int .i64) (.os 3 (.int .i64)))), .own 3 (.int .i64), .own 3 (.int .i64), .bool], .leaf (.ro (.int .i64))], [.leaf .bool]⟩
def an_Z37 : Ann := .seq none .leaf (.seq none .leaf (.seq none (.seq (some ⟨[0, 1, 23, 5], [.box 43 [.ownA 1 68 (.pair (.int .i64) (.pair (.int .i64) (.os 3 (.int .i64)))), .own 3 (.int .i64), .own 3 (.int .i64), .bool] [], .leaf (.ro (.int .i64)), .leaf .bool, .leaf (.elo 1 0)]⟩) .leaf (.cond (.seq none .leaf .leaf) .leaf)) (.seq none (.seq none .leaf (.block (.loop ⟨[0, 1, 7, 5], [.box 43 [.ownA 1 68 (.pair (.int .i64) (.pair (.int .i64) (.os 3 (.int .i64)))), .own 3 (.int .i64), .own 3 (.int .i64), .bool] [], .leaf (.ro (.int .i64)), .leaf (.int .i64), .leaf (.elo 1 0)]⟩ (.seq none (.seq none .leaf (.cond .leaf .leaf)) (.seq none (.block (.seq none .leaf (.cond (.seq none .leaf .leaf) .leaf))) .leaf))))) (.seq none (.seq none .leaf (.block (.loop ⟨[0, 1, 8, 5], [.box 43 [.ownA 1 68 (.pair (.int .i64) (.pair (.int .i64) (.os 3 (.int .i64)))), .own 3 (.int .i64), .own 3 (.int .i64), .bool] [], .leaf (.ro (.int .i64)), .leaf (.int .i64), .leaf (.elo 1 0)]⟩ (.seq none (.seq none .leaf (.cond .leaf .leaf)) (.seq (some ⟨[0, 1, 8, 5], [.box 43 [.ownA 1 68 (.pair (.int .i64) (.pair (.int .i64) (.os 3 (.int .i64)))), .own 3 (.int .i64), .own 3 (.int .i64), .bool] [], .leaf (.ro (.int .i64)), .leaf (.int .i64), .leaf (.elo 1 0)]⟩) (.block (.seq none .leaf (.seq none .leaf (.seq none .leaf (.cond .leaf .leaf))))) .leaf))))) (.seq none .leaf .leaf)))))
def ty_Z37 : List (Nat × Ty) := [(3, (.int .i64))]
def vr_Z37 : Nat → Nat := fun _ => 0
abbrev sg_Z48 : Sig := ⟨[.box 43 [.ownA 1 68 (.pair (.int .i64) (.pair (.int .i64) (.os 3 (.int .i64)))), .own 3 (.int .i64), .own 3 (.int .i64), .bool] [.ownk 1 68 (.pair (.int .i64) (.pair (.int .i64) (.os 3 (.int .i64)))), .own 3 (.int .i64), .own 3 (.int .i64), .bool], .agg [.int .i64, .int .i64]], [.leaf .bool]⟩
def an_Z48 : Ann := .seq none .leaf (.seq none .leaf (.seq none (.seq none .leaf (.block (.seq none .leaf (.cond (.seq none .leaf .leaf) (.seq none .leaf (.cond (.seq none .leaf .leaf) (.seq none .leaf (.cond (.seq none .leaf .leaf) (.seq none .leaf (.cond (.seq none .leaf .leaf) (.seq none .leaf (.cond (.seq none .leaf .leaf) (.seq none .leaf (.cond (.seq none .leaf .leaf) (.seq none .leaf (.cond (.seq none .leaf .leaf) (.seq none .leaf (.cond (.seq none .leaf (.seq none .leaf .leaf)) (.seq none .leaf (.cond (.seq none .leaf .leaf) (.seq none .leaf (.cond (.seq none .leaf .leaf) (.seq none .leaf (.cond (.seq none (.seq none .leaf (.cond (.seq none .leaf .leaf) .leaf)) (.seq none .leaf (.seq none .leaf (.seq none (.seq none .leaf (.cond .leaf .leaf)) (.seq none .leaf .leaf))))) (.seq none .leaf (.cond (.seq none .leaf (.seq none (.seq none .leaf (.cond (.seq none .leaf .leaf) .leaf)) (.seq none .leaf (.seq none (.seq none .leaf (.cond .leaf .leaf)) (.seq none .leaf .leaf))))) (.seq none .leaf (.cond (.seq none .leaf .leaf) (.seq none .leaf (.cond (.seq none .leaf (.seq none .leaf .leaf)) (.seq none .leaf (.cond (.seq none (.seq none .leaf (.cond (.seq none .leaf .leaf) .leaf)) (.seq none .leaf (.seq none .leaf (.seq none (.seq (some ⟨[0, 17, 183, 18], [.box 43 [.ownA 1 68 (.pair (.int .i64) (.pair (.int .i64) (.os 3 (.int .i64)))), .own 3 (.int .i64), .own 3 (.int .i64), .bool] [], .leaf (.own 3 (.int .i64)), .leaf .bool, .leaf (.elo 1 0)]⟩) .leaf (.cond (.seq none .leaf .leaf) .leaf)) (.seq none .leaf (.seq none .leaf .leaf)))))) (.seq none .leaf (.cond (.seq none (.seq none .leaf (.cond (.seq none .leaf .leaf) .leaf)) (.seq none .leaf (.seq none .leaf .leaf))) (.seq none .leaf (.cond (.seq none .leaf .leaf) (.seq none .leaf (.cond (.seq none (.seq none .leaf (.cond (.seq none .leaf .leaf) .leaf)) (.seq none .leaf (.seq none .leaf .leaf))) (.seq none .leaf (.cond (.seq none .leaf (.seq none .leaf .leaf)) .leaf)))))))))))))))))))))))))))))))))))))))) (.seq (some ⟨[0], [.box 43 [.ownA 1 68 (.pair (.int .i64) (.pair (.int .i64) (.os 3 (.int .i64)))), .own 3 (.int .i64), .own 3 (.int .i64), .bool] []]⟩) .leaf (.seq none .leaf .leaf))))
def ty_Z48 : List (Nat × Ty) := []
def vr_Z48 : Nat → Nat := fun _ => 0
abbrev sg_Z32 : Sig := ⟨[.box 43 [.own 68 (.pair (.int .i64) (.pair (.int .i64) (.os 3 (.int .i64)))), .own 3 (.int .i64), .own 3 (.int .i64), .bool] [.may 68 (.pair (.int .i64) (.pair (.int .i64) (.os 3 (.int .i64)))), .own 3 (.int .i64), .own 3 (.int .i64), .bool], .agg [.int .i64, .int .i64]], [.leaf .bool]⟩
def an_Z32 : Ann := .seq none .leaf (.seq none .leaf (.seq none (.seq none .leaf (.cond (.seq none .leaf .leaf) .leaf)) (.seq none .leaf (.seq none .leaf .leaf))))
def ty_Z32 : List (Nat × Ty) := []
def vr_Z32 : Nat → Nat := fun _ => 0
abbrev sg_Z84 : Sig := ⟨[.leaf (.ro (.pair (.int .i64) (.int .i64))), .agg [.int .i64, .int .i64, .int .i64, .ro (.int .i64)]], [.leaf (.int .i64), .leaf (.int .i64)]⟩
def an_Z84 : Ann := .seq none .leaf (.seq none (.seq (some ⟨[0, 3, 17], [.leaf (.ro (.pair (.int .i64) (.int .i64))), .box 26 [.int .i64, .int .i64, .int .i64, .ro (.int .i64)] [], .leaf .bool]⟩) .leaf (.cond (.seq none .leaf .leaf) .leaf)) (.seq none .leaf (.seq none (.seq none .leaf (.block (.loop ⟨[0, 3, 6, 19, 20, 21], [.leaf (.ro (.pair (.int .i64) (.int .i64))), .box 26 [.int .i64, .int .i64, .int .i64, .ro (.int .i64)] [], .box 43 [.own 68 (.pair (.int .i64) (.pair (.int .i64) (.os 3 (.int .i64)))), .own 3 (.int .i64), .own 3 (.int .i64), .bool] [], .leaf (.ro (.pair (.int .i64) (.int .i64))), .leaf (.int .i64), .leaf (.int .i64)]⟩ (.seq none .leaf (.seq none (.cond .leaf .leaf) (.seq none (.block (.seq none .leaf (.seq none .leaf (.block (.seq none .leaf (.cond (.seq none .leaf .leaf) (.seq none .leaf (.cond (.seq none .leaf .leaf) (.seq (some ⟨[0, 3, 6, 7, 19, 20, 21, 39], [.leaf (.ro (.pair (.int .i64) (.int .i64))), .box 26 [.int .i64, .int .i64, .int .i64, .ro (.int .i64)] [], .box 43 [.own 68 (.pair (.int .i64) (.pair (.int .i64) (.os 3 (.int .i64)))), .own 3 (.int .i64), .own 3 (.int .i64), .bool] [], .leaf (.int .i64), .leaf (.ro (.pair (.int .i64) (.int .i64))), .leaf (.int .i64), .leaf (.int .i64), .leaf .bool]⟩) .leaf (.cond (.seq none .leaf .leaf) (.seq none .leaf (.cond (.seq none .leaf .leaf) (.seq none .leaf (.cond (.seq none .leaf .leaf) .leaf)))))))))))))) .leaf)))))) (.seq none (.seq none .leaf (.cond (.seq none .leaf .leaf) .leaf)) (.seq none .leaf .leaf)))))
def ty_Z84 : List (Nat × Ty) := []
def vr_Z84 : Nat → Nat := fun _ => 0
abbrev sg_Z46 : Sig := ⟨[.agg [.int .i64, .int .i64, .int .i64, .ro (.int .i64)]], [.leaf .bool]⟩
def an_Z46 : Ann := .seq none .leaf (.seq none (.seq none .leaf (.block (.loop ⟨[1, 3], [.box 26 [.int .i64, .int .i64, .int .i64, .ro (.int .i64)] [], .leaf (.int .i64)]⟩ (.seq none (.seq none .leaf (.cond .leaf .leaf)) (.seq none (.block (.seq (some ⟨[1, 3, 30], [.box 26 [.int .i64, .int .i64, .int .i64, .ro (.int .i64)] [], .leaf (.int .i64), .leaf .bool]⟩) .leaf (.cond (.seq none .leaf .leaf) .leaf))) .leaf))))) (.seq none .leaf .leaf))
def ty_Z46 : List (Nat × Ty) := []
def vr_Z46 : Nat → Nat := fun _ => 0
abbrev sg_s_breach : Sig := ⟨[.agg [.int .i64, .int .i64, .int .i64, .ro (.int .i64)], .agg [.int .i64, .int .i64], .agg [.ro (.int .i64), .ro .bool, .ro (.int .i64), .ro (.int .i64), .bool], .leaf (.int .i64)], [.leaf (.int .i64)]⟩
def an_s_breach : Ann := .seq none .leaf (.seq none (.seq none .leaf (.cond (.seq none .leaf .leaf) .leaf)) (.seq none (.seq (some ⟨[4, 6, 23], [.box 26 [.int .i64, .int .i64, .int .i64, .ro (.int .i64)] [], .box 75 [.ro (.int .i64), .ro .bool, .ro (.int .i64), .ro (.int .i64), .bool] [], .leaf .bool]⟩) .leaf (.cond (.seq none .leaf .leaf) .leaf)) (.seq none (.seq none .leaf (.cond (.seq none .leaf .leaf) .leaf)) (.seq none (.seq none .leaf (.cond (.seq none .leaf .leaf) .leaf)) (.seq none .leaf .leaf)))))
def ty_s_breach : List (Nat × Ty) := []
def vr_s_breach : Nat → Nat := fun _ => 0
abbrev sg_s_safe : Sig := ⟨[.leaf (.ro (.pair (.int .i64) (.int .i64))), .agg [.int .i64, .int .i64, .int .i64, .ro (.int .i64)]], [.leaf (.int .i64), .leaf (.int .i64)]⟩
def an_s_safe : Ann := .seq none .leaf (.seq none .leaf (.seq none (.seq none .leaf (.block (.loop ⟨[0, 3, 6, 7], [.leaf (.ro (.pair (.int .i64) (.int .i64))), .box 26 [.int .i64, .int .i64, .int .i64, .ro (.int .i64)] [], .box 75 [.own 3 (.int .i64), .own 4 .bool, .own 3 (.int .i64), .own 3 (.int .i64), .bool] [], .leaf (.int .i64)]⟩ (.seq none (.seq none .leaf (.cond .leaf .leaf)) (.seq none (.block (.seq none .leaf (.seq none (.seq none .leaf (.cond (.seq none .leaf .leaf) .leaf)) (.seq none .leaf (.seq none (.seq none .leaf (.cond (.seq none .leaf .leaf) .leaf)) .leaf))))) .leaf))))) (.seq none (.seq none .leaf (.cond (.seq none .leaf .leaf) .leaf)) (.seq none .leaf .leaf))))
def ty_s_safe : List (Nat × Ty) := []
def vr_s_safe : Nat → Nat := fun _ => 0
abbrev sg_Z79 : Sig := ⟨[.leaf (.ro (.pair (.int .i64) (.int .i64))), .agg [.int .i64, .int .i64, .int .i64, .ro (.int .i64)]], [.leaf (.int .i64), .leaf (.int .i64)]⟩
def an_Z79 : Ann := .seq none .leaf (.seq none (.seq (some ⟨[0, 3, 13], [.leaf (.ro (.pair (.int .i64) (.int .i64))), .box 26 [.int .i64, .int .i64, .int .i64, .ro (.int .i64)] [], .leaf .bool]⟩) .leaf (.cond (.seq none .leaf .leaf) .leaf)) (.seq none .leaf .leaf))
def ty_Z79 : List (Nat × Ty) := []
def vr_Z79 : Nat → Nat := fun _ => 0
abbrev sg_Z61 : Sig := ⟨[.leaf (.ro (.pair (.int .i64) (.pair (.int .i64) (.sl (.int .i64)))))], [.leaf (.own 68 (.pair (.int .i64) (.pair (.int .i64) (.os 3 (.int .i64)))))]⟩
def an_Z61 : Ann := .seq none .leaf (.seq none .leaf (.seq none (.seq none .leaf (.block (.loop ⟨[3, 7, 8, 9], [.leaf (.own 68 (.pair (.int .i64) (.pair (.int .i64) (.os 3 (.int .i64))))), .leaf (.ro (.pair (.int .i64) (.pair (.int .i64) (.sl (.int .i64))))), .leaf (.int .i64), .leaf (.int .i64)]⟩ (.seq none .leaf (.seq none (.cond .leaf .leaf) (.seq none (.block (.seq none .leaf .leaf)) .leaf)))))) (.seq none .leaf .leaf)))
def ty_Z61 : List (Nat × Ty) := [(68, (.pair (.int .i64) (.pair (.int .i64) (.os 3 (.int .i64)))))]
def vr_Z61 : Nat → Nat := fun _ => 0
abbrev sg_Z39 : Sig := ⟨[.agg [.ro (.pair (.int .i64) (.pair (.int .i64) (.sl (.int .i64)))), .ro (.int .i64), .ro (.int .i64), .bool]], [.agg [.own 68 (.pair (.int .i64) (.pair (.int .i64) (.os 3 (.int .i64)))), .own 3 (.int .i64), .own 3 (.int .i64), .bool]]⟩
def an_Z39 : Ann := .seq none .leaf (.seq none .leaf .leaf)
def ty_Z39 : List (Nat × Ty) := []
def vr_Z39 : Nat → Nat := fun _ => 0
abbrev sg_Z53 : Sig := ⟨[.agg [.ro (.pair (.int .i64) (.pair (.int .i64) (.sl (.int .i64)))), .ro (.int .i64), .ro (.int .i64), .bool]], []⟩
def an_Z53 : Ann := .leaf
def ty_Z53 : List (Nat × Ty) := []
def vr_Z53 : Nat → Nat := fun _ => 0
abbrev sg_Z16 : Sig := ⟨[.leaf (.ro (.pair (.int .i64) (.int .i64))), .leaf .fn], [.agg [.own 68 (.pair (.int .i64) (.pair (.int .i64) (.os 3 (.int .i64)))), .own 3 (.int .i64), .own 3 (.int .i64), .bool], .leaf (.int .i64)]⟩
def an_Z16 : Ann := .seq none .leaf (.seq none .leaf (.seq none (.seq none .leaf (.block (.loop ⟨[0, 1, 4, 6, 10, 11, 12], [.leaf (.ro (.pair (.int .i64) (.int .i64))), .leaf (.fnc 45), .box 43 [.nil, .nil, .nil, .bool] [], .box 43 [.own 68 (.pair (.int .i64) (.pair (.int .i64) (.os 3 (.int .i64)))), .own 3 (.int .i64), .own 3 (.int .i64), .bool] [], .leaf (.ro (.pair (.int .i64) (.int .i64))), .leaf (.int .i64), .leaf (.int .i64)]⟩ (.seq none .leaf (.seq none (.cond .leaf .leaf) (.seq none (.block (.seq none .leaf (.seq none (.seq none .leaf (.cond (.seq none .leaf .leaf) .leaf)) .leaf))) .leaf)))))) (.seq none .leaf .leaf)))
def ty_Z16 : List (Nat × Ty) := []
def vr_Z16 : Nat → Nat := fun _ => 0
abbrev sg_Z75 : Sig := ⟨[.leaf (.ro (.pair (.int .i64) (.int .i64)))], [.leaf (.int .i64)]⟩
def an_Z75 : Ann := .seq none .leaf (.seq none (.seq none .leaf (.cond (.seq none .leaf .leaf) .leaf)) (.seq none .leaf (.seq none (.seq none .leaf (.cond (.seq none .leaf .leaf) .leaf)) (.seq none .leaf .leaf))))
def ty_Z75 : List (Nat × Ty) := []
def vr_Z75 : Nat → Nat := fun _ => 0
abbrev sg_Z76 : Sig := ⟨[.leaf (.int .u64)], [.leaf (.int .i64)]⟩
def an_Z76 : Ann := .seq none .leaf (.seq (some ⟨[0, 2], [.leaf (.int .u64), .leaf (.int .i64)]⟩) (.seq none .leaf (.cond (.seq none .leaf .leaf) .leaf)) (.seq (some ⟨[0, 2], [.leaf (.int .u64), .leaf (.int .i64)]⟩) (.seq none .leaf (.cond (.seq none .leaf .leaf) .leaf)) (.seq (some ⟨[0, 2], [.leaf (.int .u64), .leaf (.int .i64)]⟩) (.seq none .leaf (.cond (.seq none .leaf .leaf) .leaf)) (.seq none .leaf .leaf))))
def ty_Z76 : List (Nat × Ty) := []
def vr_Z76 : Nat → Nat := fun _ => 0
abbrev sg_bits_Len : Sig := ⟨[.leaf (.int .u64)], [.leaf (.int .i64)]⟩
def an_bits_Len : Ann := .seq none .leaf (.seq none (.cond (.seq none .leaf .leaf) .leaf) (.seq none .leaf .leaf))
def ty_bits_Len : List (Nat × Ty) := []
def vr_bits_Len : Nat → Nat := fun _ => 0
abbrev sg_Z40 : Sig := ⟨[.leaf (.int .i64)], [.leaf .bool]⟩
def an_Z40 : Ann := .seq none .leaf (.seq none .leaf .leaf)
def ty_Z40 : List (Nat × Ty) := []
def vr_Z40 : Nat → Nat := fun _ => 0
abbrev sg_Z47 : Sig := ⟨[.leaf (.int .i64), .leaf (.int .i64)], [.leaf .bool]⟩
def an_Z47 : Ann := .seq none .leaf (.seq none .leaf .leaf)
def ty_Z47 : List (Nat × Ty) := []
def vr_Z47 : Nat → Nat := fun _ => 0
abbrev sg_Z6 : Sig := ⟨[.muts 1 3 (.int .i64), .leaf (.int .i64), .leaf (.int .i64)], []⟩
def an_Z6 : Ann := .seq none .leaf (.block (.loop ⟨[0, 1, 2, 6], [.muts 1 3 (.int .i64), .leaf (.int .i64), .leaf (.int .i64), .leaf (.int .i64)]⟩ (.seq none (.seq none .leaf (.cond .leaf .leaf)) (.seq none (.block (.seq none .leaf (.block (.loop ⟨[0, 1, 2, 6, 7], [.muts 1 3 (.int .i64), .leaf (.int .i64), .leaf (.int .i64), .leaf (.int .i64), .leaf (.int .i64)]⟩ (.seq none (.seq (some ⟨[0, 1, 2, 6, 7, 30], [.muts 1 3 (.int .i64), .leaf (.int .i64), .leaf (.int .i64), .leaf (.int .i64), .leaf (.int .i64), .leaf .bool]⟩) .leaf (.cond .leaf .leaf)) (.seq none (.block .leaf) .leaf)))))) .leaf))))
def ty_Z6 : List (Nat × Ty) := []
def vr_Z6 : Nat → Nat := fun _ => 0
abbrev sg_Z12 : Sig := ⟨[.muts 1 3 (.int .i64), .leaf (.int .i64), .leaf (.int .i64), .leaf (.int .i64)], []⟩
def an_Z12 : Ann := .seq none .leaf (.block (.loop ⟨[0, 2, 3, 8], [.muts 1 3 (.int .i64), .leaf (.int .i64), .leaf (.int .i64), .leaf (.int .i64)]⟩ (.block (.seq none .leaf (.seq none (.seq none .leaf (.cond .leaf .leaf)) (.seq (some ⟨[0, 2, 3, 8, 9], [.muts 1 3 (.int .i64), .leaf (.int .i64), .leaf (.int .i64), .leaf (.int .i64), .leaf (.int .i64)]⟩) (.seq (some ⟨[0, 2, 3, 8, 9, 36], [.muts 1 3 (.int .i64), .leaf (.int .i64), .leaf (.int .i64), .leaf (.int .i64), .leaf (.int .i64), .leaf .bool]⟩) .leaf (.cond .leaf .leaf)) (.seq none (.seq none .leaf (.cond .leaf .leaf)) (.seq none .leaf .leaf))))))))
def ty_Z12 : List (Nat × Ty) := []
def vr_Z12 : Nat → Nat := fun _ => 0
abbrev sg_Z11 : Sig := ⟨[.muts 1 3 (.int .i64), .leaf (.int .i64), .leaf (.int .i64)], []⟩
def an_Z11 : Ann := .seq none .leaf (.seq none .leaf (.seq none .leaf (.seq none (.seq none .leaf (.block (.loop ⟨[0, 6, 7, 8, 9], [.muts 1 3 (.int .i64), .leaf (.int .i64), .leaf (.int .i64), .leaf (.int .i64), .leaf (.int .i64)]⟩ (.seq none (.seq none .leaf (.cond .leaf .leaf)) (.seq none (.block .leaf) .leaf))))) (.seq none .leaf (.block (.loop ⟨[0, 6, 7, 10], [.muts 1 3 (.int .i64), .leaf (.int .i64), .leaf (.int .i64), .leaf (.int .i64)]⟩ (.seq none (.seq none .leaf (.cond .leaf .leaf)) (.seq none (.block (.seq none .leaf .leaf)) .leaf))))))))
def ty_Z11 : List (Nat × Ty) := []
def vr_Z11 : Nat → Nat := fun _ => 0
abbrev sg_Z19 : Sig := ⟨[.leaf (.int .i64)], [.leaf (.int .u64)]⟩
def an_Z19 : Ann := .seq none .leaf (.seq none .leaf .leaf)
def ty_Z19 : List (Nat × Ty) := []
def vr_Z19 : Nat → Nat := fun _ => 0
abbrev sg_Z21 : Sig := ⟨[.box 132 [.int .u64] [.int .u64]], [.leaf (.int .u64)]⟩
def an_Z21 : Ann := .seq none .leaf (.seq none .leaf (.seq none .leaf (.seq none .leaf (.seq none .leaf .leaf))))
def ty_Z21 : List (Nat × Ty) := []
def vr_Z21 : Nat → Nat := fun _ => 0
abbrev sg_Z5 : Sig := ⟨[.muts 1 3 (.int .i64), .leaf (.int .i64), .leaf (.int .i64)], []⟩
def an_Z5 : Ann := .seq none .leaf (.seq none .leaf (.cond (.seq none .leaf (.seq none .leaf (.seq none .leaf (.block (.loop ⟨[0, 1, 6, 7, 8, 9], [.muts 1 3 (.int .i64), .leaf (.int .i64), .leaf (.int .i64), .box 132 [.int .u64] [], .leaf (.int .u64), .leaf (.int .i64)]⟩ (.seq none (.seq none .leaf (.cond .leaf .leaf)) (.seq none (.block (.seq none .leaf (.seq (some ⟨[0, 1, 6, 7, 8, 9, 10], [.muts 1 3 (.int .i64), .leaf (.int .i64), .leaf (.int .i64), .box 132 [.int .u64] [], .leaf (.int .u64), .leaf (.int .i64), .leaf (.int .i64)]⟩) (.seq none .leaf (.cond .leaf .leaf)) .leaf))) .leaf))))))) .leaf))
def ty_Z5 : List (Nat × Ty) := []
def vr_Z5 : Nat → Nat := fun _ => 0
abbrev sg_Z15 : Sig := ⟨[.leaf (.ro (.int .i64)), .leaf (.int .i64), .leaf (.int .i64), .box 3 [.int .i64] [.int .i64]], [.leaf (.int .i64), .leaf (.int .i64)]⟩
def an_Z15 : Ann := .seq none .leaf (.seq none (.seq none .leaf (.cond (.seq none .leaf (.seq none .leaf .leaf)) .leaf)) (.seq none .leaf .leaf))
def ty_Z15 : List (Nat × Ty) := []
def vr_Z15 : Nat → Nat := fun _ => 0
abbrev sg_Z14 : Sig := ⟨[.leaf (.ro (.int .i64)), .leaf (.int .i64), .leaf (.int .i64), .leaf (.int .i64), .box 3 [.int .i64] [.int .i64]], [.leaf (.int .i64)]⟩
def an_Z14 : Ann := .seq none .leaf (.seq none .leaf (.seq none .leaf (.seq none .leaf (.seq none .leaf .leaf))))
def ty_Z14 : List (Nat × Ty) := []
def vr_Z14 : Nat → Nat := fun _ => 0
abbrev sg_Z3 : Sig := ⟨[.leaf (.ro (.int .i64)), .leaf (.int .i64), .box 3 [.int .i64] [.int .i64]], [.leaf (.int .i64)]⟩
def an_Z3 : Ann := .seq none .leaf (.seq none .leaf .leaf)
def ty_Z3 : List (Nat × Ty) := []
def vr_Z3 : Nat → Nat := fun _ => 0
abbrev sg_Z8 : Sig := ⟨[.leaf (.ro (.int .i64)), .leaf (.int .i64), .leaf (.int .i64)], [.leaf (.int .i64), .leaf (.int .i64)]⟩
def an_Z8 : Ann := .seq none .leaf (.seq none .leaf (.seq none .leaf (.seq none .leaf (.seq none .leaf (.seq none .leaf (.seq (some ⟨[9, 11], [.box 3 [.int .i64] [], .leaf (.int .i64)]⟩) (.seq none .leaf (.cond (.seq (some ⟨[0, 9, 10, 11, 12], [.leaf (.ro (.int .i64)), .box 3 [.int .i64] [], .leaf (.int .i64), .leaf (.int .i64), .leaf (.int .i64)]⟩) (.seq none .leaf (.cond (.seq none .leaf (.seq none .leaf .leaf)) .leaf)) .leaf) .leaf)) (.seq none .leaf (.block (.seq none .leaf (.cond (.seq none .leaf .leaf) (.seq none .leaf (.cond (.seq none .leaf .leaf) (.seq none .leaf .leaf)))))))))))))
def ty_Z8 : List (Nat × Ty) := []
def vr_Z8 : Nat → Nat := fun _ => 0
abbrev sg_Z7 : Sig := ⟨[.muts 1 3 (.int .i64), .leaf (.int .i64), .leaf (.int .i64)], []⟩
def an_Z7 : Ann := .seq none .leaf (.seq none .leaf (.block (.loop ⟨[0, 6, 7], [.muts 1 3 (.int .i64), .leaf (.int .i64), .leaf (.int .i64)]⟩ (.seq none (.seq none .leaf (.cond .leaf .leaf)) (.block (.seq none .leaf (.seq none .leaf .leaf)))))))
def ty_Z7 : List (Nat × Ty) := []
def vr_Z7 : Nat → Nat := fun _ => 0
abbrev sg_Z2 : Sig := ⟨[.muts 1 3 (.int .i64), .leaf (.int .i64), .leaf (.int .i64)], [.leaf .bool]⟩
def an_Z2 : Ann := .seq none .leaf (.seq none .leaf (.seq none (.seq none .leaf (.block (.loop ⟨[0, 1, 2, 7, 8], [.muts 1 3 (.int .i64), .leaf (.int .i64), .leaf (.int .i64), .leaf (.int .i64), .leaf (.int .i64)]⟩ (.seq none (.seq none .leaf (.cond .leaf .leaf)) (.seq (some ⟨[0, 1, 2, 7, 8], [.muts 1 3 (.int .i64), .leaf (.int .i64), .leaf (.int .i64), .leaf (.int .i64), .leaf (.int .i64)]⟩) (.block (.seq none (.block (.loop ⟨[0, 1, 2, 7, 8], [.muts 1 3 (.int .i64), .leaf (.int .i64), .leaf (.int .i64), .leaf (.int .i64), .leaf (.int .i64)]⟩ (.seq none (.seq (some ⟨[0, 1, 2, 7, 8, 32], [.muts 1 3 (.int .i64), .leaf (.int .i64), .leaf (.int .i64), .leaf (.int .i64), .leaf (.int .i64), .leaf .bool]⟩) .leaf (.cond .leaf .leaf)) (.block .leaf)))) (.seq none (.seq none .leaf (.cond (.seq none .leaf .leaf) .leaf)) (.seq none (.seq none .leaf (.cond (.seq none .leaf .leaf) .leaf)) (.seq none .leaf (.seq (some ⟨[0, 1, 2, 7, 8], [.muts 1 3 (.int .i64), .leaf (.int .i64), .leaf (.int .i64), .leaf (.int .i64), .leaf (.int .i64)]⟩) (.seq none .leaf (.cond (.seq none .leaf (.block (.loop ⟨[0, 1, 2, 7, 8, 9], [.muts 1 3 (.int .i64), .leaf (.int .i64), .leaf (.int .i64), .leaf (.int .i64), .leaf (.int .i64), .leaf (.int .i64)]⟩ (.seq none (.seq none .leaf (.cond .leaf .leaf)) (.seq none (.block (.seq none (.seq none .leaf (.cond .leaf .leaf)) .leaf)) .leaf))))) .leaf)) (.seq none .leaf (.cond (.seq none .leaf (.block (.loop ⟨[0, 1, 2, 7, 8, 10], [.muts 1 3 (.int .i64), .leaf (.int .i64), .leaf (.int .i64), .leaf (.int .i64), .leaf (.int .i64), .leaf (.int .i64)]⟩ (.seq none (.seq none .leaf (.cond .leaf .leaf)) (.seq none (.block (.seq none (.seq none .leaf (.cond .leaf .leaf)) .leaf)) .leaf))))) .leaf)))))))) .leaf))))) (.seq none .leaf .leaf)))
def ty_Z2 : List (Nat × Ty) := []
def vr_Z2 : Nat → Nat := fun _ => 0
abbrev sg_Z4 : Sig := ⟨[.muts 1 3 (.int .i64), .leaf (.int .i64), .leaf (.int .i64), .leaf (.int .i64)], [.leaf (.int .i64)]⟩
def an_Z4 : Ann := .seq none .leaf (.seq none .leaf (.seq none .leaf (.seq none (.block (.loop ⟨[0, 1, 9, 10], [.muts 1 3 (.int .i64), .leaf (.int .i64), .leaf (.int .i64), .leaf (.int .i64)]⟩ (.block (.seq none (.block (.loop ⟨[0, 1, 9, 10], [.muts 1 3 (.int .i64), .leaf (.int .i64), .leaf (.int .i64), .leaf (.int .i64)]⟩ (.seq none (.seq (some ⟨[0, 1, 9, 10, 43], [.muts 1 3 (.int .i64), .leaf (.int .i64), .leaf (.int .i64), .leaf (.int .i64), .leaf .bool]⟩) .leaf (.cond .leaf .leaf)) (.block .leaf)))) (.seq none (.block (.loop ⟨[0, 1, 9, 10], [.muts 1 3 (.int .i64), .leaf (.int .i64), .leaf (.int .i64), .leaf (.int .i64)]⟩ (.seq none (.seq (some ⟨[0, 1, 9, 10, 59], [.muts 1 3 (.int .i64), .leaf (.int .i64), .leaf (.int .i64), .leaf (.int .i64), .leaf .bool]⟩) .leaf (.cond .leaf .leaf)) (.block .leaf)))) (.seq none (.seq none .leaf (.cond .leaf .leaf)) (.seq none .leaf (.seq none .leaf .leaf)))))))) (.seq none .leaf .leaf))))
def ty_Z4 : List (Nat × Ty) := []
def vr_Z4 : Nat → Nat := fun _ => 0
abbrev sg_Z10 : Sig := ⟨[.muts 1 3 (.int .i64), .leaf (.int .i64), .leaf (.int .i64), .leaf (.int .i64)], [.leaf (.int .i64), .leaf .bool]⟩
def an_Z10 : Ann := .seq none .leaf (.seq none .leaf (.seq none .leaf (.seq none (.block (.loop ⟨[0, 1, 10, 11], [.muts 1 3 (.int .i64), .leaf (.int .i64), .leaf (.int .i64), .leaf (.int .i64)]⟩ (.seq none (.seq (some ⟨[0, 1, 10, 11, 43], [.muts 1 3 (.int .i64), .leaf (.int .i64), .leaf (.int .i64), .leaf (.int .i64), .leaf .bool]⟩) .leaf (.cond .leaf .leaf)) (.block .leaf)))) (.seq none (.block (.loop ⟨[0, 1, 10, 11], [.muts 1 3 (.int .i64), .leaf (.int .i64), .leaf (.int .i64), .leaf (.int .i64)]⟩ (.seq none (.seq (some ⟨[0, 1, 10, 11, 60], [.muts 1 3 (.int .i64), .leaf (.int .i64), .leaf (.int .i64), .leaf (.int .i64), .leaf .bool]⟩) .leaf (.cond .leaf .leaf)) (.block .leaf)))) (.seq none (.seq none .leaf (.cond (.seq none .leaf (.seq none .leaf .leaf)) .leaf)) (.seq none .leaf (.seq none .leaf (.seq none .leaf (.seq none (.block (.loop ⟨[0, 1, 10, 11], [.muts 1 3 (.int .i64), .leaf (.int .i64), .leaf (.int .i64), .leaf (.int .i64)]⟩ (.block (.seq none (.block (.loop ⟨[0, 1, 10, 11], [.muts 1 3 (.int .i64), .leaf (.int .i64), .leaf (.int .i64), .leaf (.int .i64)]⟩ (.seq none (.seq (some ⟨[0, 1, 10, 11, 112], [.muts 1 3 (.int .i64), .leaf (.int .i64), .leaf (.int .i64), .leaf (.int .i64), .leaf .bool]⟩) .leaf (.cond .leaf .leaf)) (.block .leaf)))) (.seq none (.block (.loop ⟨[0, 1, 10, 11], [.muts 1 3 (.int .i64), .leaf (.int .i64), .leaf (.int .i64), .leaf (.int .i64)]⟩ (.seq none (.seq (some ⟨[0, 1, 10, 11, 129], [.muts 1 3 (.int .i64), .leaf (.int .i64), .leaf (.int .i64), .leaf (.int .i64), .leaf .bool]⟩) .leaf (.cond .leaf .leaf)) (.block .leaf)))) (.seq none (.seq none .leaf (.cond .leaf .leaf)) (.seq none .leaf (.seq none .leaf .leaf)))))))) (.seq none .leaf (.seq none .leaf .leaf)))))))))))
def ty_Z10 : List (Nat × Ty) := []
def vr_Z10 : Nat → Nat := fun _ => 0
abbrev sg_Z13 : Sig := ⟨[.muts 1 3 (.int .i64), .leaf (.int .i64), .leaf (.int .i64), .leaf (.int .i64)], []⟩
def an_Z13 : Ann := .seq none .leaf (.seq none .leaf (.block (.loop ⟨[0, 1, 2, 3, 8, 9], [.muts 1 3 (.int .i64), .leaf (.int .i64), .leaf (.int .i64), .leaf (.int .i64), .leaf .bool, .leaf .bool]⟩ (.block (.seq none .leaf (.seq none (.seq none .leaf (.cond (.seq none .leaf .leaf) .leaf)) (.seq none (.seq none .leaf (.cond (.seq none .leaf .leaf) .leaf)) (.seq (some ⟨[0, 1, 2, 3, 8, 9, 10], [.muts 1 3 (.int .i64), .leaf (.int .i64), .leaf (.int .i64), .leaf (.int .i64), .leaf .bool, .leaf .bool, .leaf (.int .i64)]⟩) (.seq none .leaf (.cond (.seq none .leaf .leaf) .leaf)) (.seq none .leaf (.seq (some ⟨[0, 1, 2, 3, 8, 9, 10, 11, 12], [.muts 1 3 (.int .i64), .leaf (.int .i64), .leaf (.int .i64), .leaf (.int .i64), .leaf .bool, .leaf .bool, .leaf (.int .i64), .leaf (.int .i64), .leaf (.int .i64)]⟩) (.seq none .leaf (.cond (.seq none .leaf (.seq none .leaf .leaf)) .leaf)) (.seq (some ⟨[0, 1, 2, 3, 8, 9, 10, 11], [.muts 1 3 (.int .i64), .leaf (.int .i64), .leaf (.int .i64), .leaf (.int .i64), .leaf .bool, .leaf .bool, .leaf (.int .i64), .leaf (.int .i64)]⟩) (.seq (some ⟨[0, 1, 2, 3, 8, 9, 10, 11, 68], [.muts 1 3 (.int .i64), .leaf (.int .i64), .leaf (.int .i64), .leaf (.int .i64), .leaf .bool, .leaf .bool, .leaf (.int .i64), .leaf (.int .i64), .leaf .bool]⟩) .leaf (.cond (.seq none .leaf (.cond .leaf .leaf)) .leaf)) (.seq none (.seq (some ⟨[0, 1, 2, 3, 8, 9, 10, 11, 87], [.muts 1 3 (.int .i64), .leaf (.int .i64), .leaf (.int .i64), .leaf (.int .i64), .leaf .bool, .leaf .bool, .leaf (.int .i64), .leaf (.int .i64), .leaf .bool]⟩) .leaf (.cond (.seq none .leaf (.seq none .leaf .leaf)) .leaf)) (.seq none .leaf (.seq none .leaf (.seq none .leaf (.seq none .leaf (.seq none .leaf (.cond (.seq none .leaf (.seq none .leaf .leaf)) (.seq none .leaf (.seq none .leaf .leaf))))))))))))))))))))
def ty_Z13 : List (Nat × Ty) := []
def vr_Z13 : Nat → Nat := fun _ => 0
abbrev sg_Z23 : Sig := ⟨[.muts 1 3 (.int .i64)], []⟩
def an_Z23 : Ann := .seq none .leaf .leaf
def ty_Z23 : List (Nat × Ty) := []
def vr_Z23 : Nat → Nat := fun _ => 0
abbrev sg_Z18 : Sig := ⟨[.leaf (.own 3 (.int .i64))], [.leaf (.own 3 (.int .i64))]⟩
def an_Z18 : Ann := .seq none .leaf (.seq none (.seq none .leaf (.cond (.seq none .leaf .leaf) .leaf)) (.seq none (.seq none .leaf (.block (.loop ⟨[0, 3], [.leaf (.own 3 (.int .i64)), .leaf (.int .i64)]⟩ (.seq none (.seq none .leaf (.cond .leaf .leaf)) (.seq none (.block (.seq none .leaf (.cond (.seq none .leaf (.seq none (.seq none .leaf (.block (.loop ⟨[0, 3, 5, 4], [.leaf (.ownA 600000 3 (.int .i64)), .leaf (.int .i64), .leaf (.int .i64), .leaf (.vw 600000)]⟩ (.seq none (.seq none .leaf (.cond .leaf .leaf)) (.seq (some ⟨[0, 3, 5, 4], [.leaf (.ownA 600000 3 (.int .i64)), .leaf (.int .i64), .leaf (.int .i64), .leaf (.vw 600000)]⟩) (.block (.seq none .leaf (.cond (.seq none .leaf .leaf) .leaf))) .leaf))))) (.seq none .leaf (.seq none .leaf .leaf)))) .leaf))) .leaf))))) (.seq none .leaf .leaf)))
def ty_Z18 : List (Nat × Ty) := []
def vr_Z18 : Nat → Nat := fun _ => 0
abbrev sg_Z24 : Sig := ⟨[.leaf (.ro (.int .i64))], [.leaf (.ro (.int .i64))]⟩
def an_Z24 : Ann := .seq none .leaf (.seq none .leaf .leaf)
def ty_Z24 : List (Nat × Ty) := []
def vr_Z24 : Nat → Nat := fun _ => 0
abbrev sg_Z58 : Sig := ⟨[.leaf (.ro (.pair (.int .i64) (.int .i64)))], [.leaf (.ro (.int .i64))]⟩
def an_Z58 : Ann := .seq none .leaf (.seq none (.seq none .leaf (.cond (.seq none .leaf .leaf) .leaf)) (.seq none .leaf (.seq none (.seq none .leaf (.block (.loop ⟨[3, 10, 11, 12], [.leaf (.own 3 (.int .i64)), .leaf (.ro (.pair (.int .i64) (.int .i64))), .leaf (.int .i64), .leaf (.int .i64)]⟩ (.seq none .leaf (.seq none (.cond .leaf .leaf) (.seq (some ⟨[3, 10, 11, 12], [.leaf (.own 3 (.int .i64)), .leaf (.ro (.pair (.int .i64) (.int .i64))), .leaf (.int .i64), .leaf (.int .i64)]⟩) (.block (.seq none .leaf (.seq none .leaf (.cond .leaf .leaf)))) .leaf)))))) (.seq none .leaf (.seq none .leaf .leaf)))))
def ty_Z58 : List (Nat × Ty) := [(3, (.int .i64))]
def vr_Z58 : Nat → Nat := fun _ => 0
abbrev sg_Z28 : Sig := ⟨[.agg [.ln, .ln, .any, .bool], .box 26 [.int .i64, .int .i64, .int .i64, .ro (.int .i64)] [.int .i64, .int .i64, .int .i64, .ro (.int .i64)]], []⟩
def an_Z28 : Ann := .seq none .leaf (.seq none .leaf .leaf)
def ty_Z28 : List (Nat × Ty) := []
def vr_Z28 : Nat → Nat := fun _ => 0
abbrev sg_Z9 : Sig := ⟨[.leaf (.ro (.pair (.int .i64) (.int .i64))), .clo 23 26 [.int .i64, .int .i64, .int .i64, .ro (.int .i64)] [.int .i64, .int .i64, .int .i64, .ro (.int .i64)]], [.agg [.own 68 (.pair (.int .i64) (.pair (.int .i64) (.os 3 (.int .i64)))), .own 3 (.int .i64), .own 3 (.int .i64), .bool], .leaf (.int .i64)]⟩
def an_Z9 : Ann := .seq none .leaf (.seq none .leaf (.seq none (.seq none .leaf (.block (.loop ⟨[0, 1, 4, 6, 10, 11, 12], [.leaf (.ro (.pair (.int .i64) (.int .i64))), .clo 23 26 [.int .i64, .int .i64, .int .i64, .ro (.int .i64)] [], .box 43 [.nil, .nil, .nil, .bool] [], .box 43 [.own 68 (.pair (.int .i64) (.pair (.int .i64) (.os 3 (.int .i64)))), .own 3 (.int .i64), .own 3 (.int .i64), .bool] [], .leaf (.ro (.pair (.int .i64) (.int .i64))), .leaf (.int .i64), .leaf (.int .i64)]⟩ (.seq none .leaf (.seq none (.cond .leaf .leaf) (.seq none (.block (.seq none .leaf (.seq none (.seq none .leaf (.cond (.seq none .leaf .leaf) .leaf)) .leaf))) .leaf)))))) (.seq none .leaf .leaf)))
def ty_Z9 : List (Nat × Ty) := []
def vr_Z9 : Nat → Nat := fun _ => 0
abbrev sg_Z55 : Sig := ⟨[.leaf (.ro (.pair (.int .i64) (.int .i64)))], [.agg [.int .i64, .int .i64, .int .i64, .ro (.int .i64)], .leaf .bool]⟩
def an_Z55 : Ann := .seq none .leaf (.seq none (.seq none .leaf (.cond (.seq none .leaf .leaf) .leaf)) (.seq none .leaf (.seq none .leaf (.seq none .leaf .leaf))))
def ty_Z55 : List (Nat × Ty) := []
def vr_Z55 : Nat → Nat := fun d => (lk [(16, 1)] d).getD 0
abbrev sg_Z30 : Sig := ⟨[.leaf (.int .i64), .box 26 [.int .i64, .int .i64, .int .i64, .ro (.int .i64)] [.int .i64, .int .i64, .int .i64, .ro (.int .i64)]], [.leaf .bool]⟩
def an_Z30 : Ann := .seq none .leaf (.seq none .leaf .leaf)
def ty_Z30 : List (Nat × Ty) := []
def vr_Z30 : Nat → Nat := fun _ => 0
abbrev sg_Z1 : Sig := ⟨[.leaf (.ro (.int .i64)), .clo 25 26 [.int .i64, .int .i64, .int .i64, .ro (.int .i64)] [.int .i64, .int .i64, .int .i64, .ro (.int .i64)]], [.leaf (.int .i64)]⟩
def an_Z1 : Ann := .seq none .leaf (.seq none (.seq none .leaf (.block (.loop ⟨[0, 1, 7, 8], [.leaf (.ro (.int .i64)), .clo 25 26 [.int .i64, .int .i64, .int .i64, .ro (.int .i64)] [], .leaf (.int .i64), .leaf (.int .i64)]⟩ (.seq none .leaf (.seq none (.cond .leaf .leaf) (.seq none (.block (.seq none .leaf (.seq none .leaf (.cond (.seq none .leaf .leaf) .leaf)))) .leaf)))))) (.seq none .leaf .leaf))
def ty_Z1 : List (Nat × Ty) := []
def vr_Z1 : Nat → Nat := fun _ => 0
abbrev sg_Z0 : Sig := ⟨[.leaf (.ro (.int .i64)), .clo 25 26 [.int .i64, .int .i64, .int .i64, .ro (.int .i64)] [.int .i64, .int .i64, .int .i64, .ro (.int .i64)]], [.leaf .bool]⟩
def an_Z0 : Ann := .seq none .leaf (.seq none .leaf .leaf)
def ty_Z0 : List (Nat × Ty) := []
def vr_Z0 : Nat → Nat := fun _ => 0
abbrev sg_Z41 : Sig := ⟨[.agg [.int .i64, .int .i64, .int .i64, .ro (.int .i64)], .agg [.int .i64, .int .i64, .int .i64, .ro (.int .i64)]], [.leaf .bool]⟩
def an_Z41 : Ann := .seq none .leaf (.seq none (.seq (some ⟨[2, 3, 12], [.box 26 [.int .i64, .int .i64, .int .i64, .ro (.int .i64)] [], .box 26 [.int .i64, .int .i64, .int .i64, .ro (.int .i64)] [], .leaf .bool]⟩) .leaf (.cond (.seq none .leaf .leaf) .leaf)) (.seq none .leaf .leaf))
def ty_Z41 : List (Nat × Ty) := []
def vr_Z41 : Nat → Nat := fun _ => 0
abbrev sg_Z25 : Sig := ⟨[.leaf (.ro (.int .u8))], [.leaf .bool]⟩
def an_Z25 : Ann := .seq none .leaf (.seq none (.seq none .leaf (.cond (.seq none .leaf .leaf) .leaf)) (.seq none .leaf (.seq none .leaf (.seq none .leaf (.seq none (.seq (some ⟨[3, 4, 5, 6, 7, 8, 44], [.leaf (.ro (.pair (.int .i64) (.int .i64))), .box 26 [.int .i64, .int .i64, .int .i64, .own 3 (.int .i64)] [], .leaf (.int .i64), .leaf (.int .i64), .leaf (.int .i64), .leaf (.int .i64), .leaf .bool]⟩) .leaf (.cond (.seq none .leaf .leaf) .leaf)) (.seq none .leaf (.seq (some ⟨[4, 9, 10], [.box 26 [.int .i64, .int .i64, .int .i64, .own 3 (.int .i64)] [], .box 26 [.int .i64, .int .i64, .int .i64, .ro (.int .i64)] [], .leaf .bool]⟩) (.seq (some ⟨[3, 4, 5, 9, 10, 67], [.leaf (.ro (.pair (.int .i64) (.int .i64))), .box 26 [.int .i64, .int .i64, .int .i64, .own 3 (.int .i64)] [], .leaf (.int .i64), .box 26 [.int .i64, .int .i64, .int .i64, .ro (.int .i64)] [], .leaf .bool, .leaf .bool]⟩) .leaf (.cond (.seq none .leaf (.seq (some ⟨[4, 9, 10, 82], [.box 26 [.int .i64, .int .i64, .int .i64, .own 3 (.int .i64)] [], .box 26 [.int .i64, .int .i64, .int .i64, .ro (.int .i64)] [], .leaf .bool, .leaf .bool]⟩) .leaf (.cond (.seq none .leaf .leaf) .leaf))) .leaf)) (.seq none .leaf .leaf))))))))
def ty_Z25 : List (Nat × Ty) := []
def vr_Z25 : Nat → Nat := fun _ => 0
noncomputable def sigs : List (Nat × Sig) := [(3, sg_Z25), (4, sg_Z38), (5, sg_Z84), (6, sg_Z79), (7, sg_Z55), (8, sg_Z41), (9, sg_Z66), (10, sg_Z86), (11, sg_Z62), (12, sg_Z71), (13, sg_Z52), (14, sg_Z50), (15, sg_Z32), (16, sg_Z17), (17, sg_Z77), (18, sg_Z46), (19, sg_s_safe), (20, sg_Z75), (21, sg_Z58), (22, sg_Z16), (23, sg_Z28), (24, sg_Z0), (25, sg_Z30), (26, sg_Z34), (27, sg_Z70), (28, sg_Z89), (29, sg_Z68), (30, sg_s_someOp), (31, sg_Z43), (32, sg_Z56), (33, sg_Z36), (34, sg_i_opOk), (35, sg_Z22), (36, sg_Z48), (37, sg_Z20), (38, sg_Z85), (39, sg_Z92), (40, sg_Z82), (41, sg_Z67), (42, sg_Z44), (43, sg_Z45), (44, sg_s_breach), (45, sg_Z53), (46, sg_Z23), (47, sg_Z24), (48, sg_Z18), (49, sg_Z39), (50, sg_Z1), (51, sg_s_EndOps), (52, sg_s_CutOps), (53, sg_s_save), (54, sg_Z65), (55, sg_s_emit), (56, sg_Z73), (57, sg_Z88), (58, sg_Z57), (59, sg_Z74), (60, sg_Z63), (61, sg_Z72), (62, sg_Z87), (63, sg_Z27), (64, sg_Z31), (65, sg_Z29), (66, sg_Z26), (67, sg_Z33), (68, sg_Z35), (69, sg_Z37), (70, sg_s_argOf), (71, sg_Z81), (72, sg_Z64), (73, sg_Z51), (74, sg_Z49), (75, sg_Z13), (76, sg_bits_Len), (77, sg_Z61), (78, sg_s_memoed), (79, sg_Z60), (80, sg_s_fill), (81, sg_Z78), (82, sg_s_isKey), (83, sg_Z42), (84, sg_Z80), (85, sg_Z90), (86, sg_Z83), (87, sg_Z6), (88, sg_Z11), (89, sg_Z5), (90, sg_Z8), (91, sg_Z7), (92, sg_Z2), (93, sg_Z47), (94, sg_Z4), (95, sg_Z10), (97, sg_Z76), (98, sg_Z59), (99, sg_Z54), (100, sg_Z12), (101, sg_Z19), (102, sg_Z21), (103, sg_Z3), (104, sg_Z14), (105, sg_Z40), (106, sg_s_allIn), (107, sg_Z69), (108, sg_Z15), (109, sg_Z91), (100022, sg_Z9)]
noncomputable def fns : List (Nat × FnI) := [(3, ⟨Tryz.f3, an_Z25, lk ty_Z25, vr_Z25⟩), (4, ⟨Tryz.f4, an_Z38, lk ty_Z38, vr_Z38⟩), (5, ⟨Tryz.f5, an_Z84, lk ty_Z84, vr_Z84⟩), (6, ⟨Tryz.f6, an_Z79, lk ty_Z79, vr_Z79⟩), (7, ⟨Tryz.f7, an_Z55, lk ty_Z55, vr_Z55⟩), (8, ⟨Tryz.f8, an_Z41, lk ty_Z41, vr_Z41⟩), (9, ⟨Tryz.f9, an_Z66, lk ty_Z66, vr_Z66⟩), (10, ⟨Tryz.f10, an_Z86, lk ty_Z86, vr_Z86⟩), (11, ⟨Tryz.f11, an_Z62, lk ty_Z62, vr_Z62⟩), (12, ⟨Tryz.f12, an_Z71, lk ty_Z71, vr_Z71⟩), (13, ⟨Tryz.f13, an_Z52, lk ty_Z52, vr_Z52⟩), (14, ⟨Tryz.f14, an_Z50, lk ty_Z50, vr_Z50⟩), (15, ⟨Tryz.f15, an_Z32, lk ty_Z32, vr_Z32⟩), (16, ⟨Tryz.f16, an_Z17, lk ty_Z17, vr_Z17⟩), (17, ⟨Tryz.f17, an_Z77, lk ty_Z77, vr_Z77⟩), (18, ⟨Tryz.f18, an_Z46, lk ty_Z46, vr_Z46⟩), (19, ⟨Tryz.f19, an_s_safe, lk ty_s_safe, vr_s_safe⟩), (20, ⟨Tryz.f20, an_Z75, lk ty_Z75, vr_Z75⟩), (21, ⟨Tryz.f21, an_Z58, lk ty_Z58, vr_Z58⟩), (22, ⟨Tryz.f22, an_Z16, lk ty_Z16, vr_Z16⟩), (23, ⟨Tryz.f23, an_Z28, lk ty_Z28, vr_Z28⟩), (24, ⟨Tryz.f24, an_Z0, lk ty_Z0, vr_Z0⟩), (25, ⟨Tryz.f25, an_Z30, lk ty_Z30, vr_Z30⟩), (26, ⟨Tryz.f26, an_Z34, lk ty_Z34, vr_Z34⟩), (27, ⟨Tryz.f27, an_Z70, lk ty_Z70, vr_Z70⟩), (28, ⟨Tryz.f28, an_Z89, lk ty_Z89, vr_Z89⟩), (29, ⟨Tryz.f29, an_Z68, lk ty_Z68, vr_Z68⟩), (30, ⟨Tryz.f30, an_s_someOp, lk ty_s_someOp, vr_s_someOp⟩), (31, ⟨Tryz.f31, an_Z43, lk ty_Z43, vr_Z43⟩), (32, ⟨Tryz.f32, an_Z56, lk ty_Z56, vr_Z56⟩), (33, ⟨Tryz.f33, an_Z36, lk ty_Z36, vr_Z36⟩), (34, ⟨Tryz.f34, an_i_opOk, lk ty_i_opOk, vr_i_opOk⟩), (35, ⟨Tryz.f35, an_Z22, lk ty_Z22, vr_Z22⟩), (36, ⟨Tryz.f36, an_Z48, lk ty_Z48, vr_Z48⟩), (37, ⟨Tryz.f37, an_Z20, lk ty_Z20, vr_Z20⟩), (38, ⟨Tryz.f38, an_Z85, lk ty_Z85, vr_Z85⟩), (39, ⟨Tryz.f39, an_Z92, lk ty_Z92, vr_Z92⟩), (40, ⟨Tryz.f40, an_Z82, lk ty_Z82, vr_Z82⟩), (41, ⟨Tryz.f41, an_Z67, lk ty_Z67, vr_Z67⟩), (42, ⟨Tryz.f42, an_Z44, lk ty_Z44, vr_Z44⟩), (43, ⟨Tryz.f43, an_Z45, lk ty_Z45, vr_Z45⟩), (44, ⟨Tryz.f44, an_s_breach, lk ty_s_breach, vr_s_breach⟩), (45, ⟨Tryz.f45, an_Z53, lk ty_Z53, vr_Z53⟩), (46, ⟨Tryz.f46, an_Z23, lk ty_Z23, vr_Z23⟩), (47, ⟨Tryz.f47, an_Z24, lk ty_Z24, vr_Z24⟩), (48, ⟨Tryz.f48, an_Z18, lk ty_Z18, vr_Z18⟩), (49, ⟨Tryz.f49, an_Z39, lk ty_Z39, vr_Z39⟩), (50, ⟨Tryz.f50, an_Z1, lk ty_Z1, vr_Z1⟩), (51, ⟨Tryz.f51, an_s_EndOps, lk ty_s_EndOps, vr_s_EndOps⟩), (52, ⟨Tryz.f52, an_s_CutOps, lk ty_s_CutOps, vr_s_CutOps⟩), (53, ⟨Tryz.f53, an_s_save, lk ty_s_save, vr_s_save⟩), (54, ⟨Tryz.f54, an_Z65, lk ty_Z65, vr_Z65⟩), (55, ⟨Tryz.f55, an_s_emit, lk ty_s_emit, vr_s_emit⟩), (56, ⟨Tryz.f56, an_Z73, lk ty_Z73, vr_Z73⟩), (57, ⟨Tryz.f57, an_Z88, lk ty_Z88, vr_Z88⟩), (58, ⟨Tryz.f58, an_Z57, lk ty_Z57, vr_Z57⟩), (59, ⟨Tryz.f59, an_Z74, lk ty_Z74, vr_Z74⟩), (60, ⟨Tryz.f60, an_Z63, lk ty_Z63, vr_Z63⟩), (61, ⟨Tryz.f61, an_Z72, lk ty_Z72, vr_Z72⟩), (62, ⟨Tryz.f62, an_Z87, lk ty_Z87, vr_Z87⟩), (63, ⟨Tryz.f63, an_Z27, lk ty_Z27, vr_Z27⟩), (64, ⟨Tryz.f64, an_Z31, lk ty_Z31, vr_Z31⟩), (65, ⟨Tryz.f65, an_Z29, lk ty_Z29, vr_Z29⟩), (66, ⟨Tryz.f66, an_Z26, lk ty_Z26, vr_Z26⟩), (67, ⟨Tryz.f67, an_Z33, lk ty_Z33, vr_Z33⟩), (68, ⟨Tryz.f68, an_Z35, lk ty_Z35, vr_Z35⟩), (69, ⟨Tryz.f69, an_Z37, lk ty_Z37, vr_Z37⟩), (70, ⟨Tryz.f70, an_s_argOf, lk ty_s_argOf, vr_s_argOf⟩), (71, ⟨Tryz.f71, an_Z81, lk ty_Z81, vr_Z81⟩), (72, ⟨Tryz.f72, an_Z64, lk ty_Z64, vr_Z64⟩), (73, ⟨Tryz.f73, an_Z51, lk ty_Z51, vr_Z51⟩), (74, ⟨Tryz.f74, an_Z49, lk ty_Z49, vr_Z49⟩), (75, ⟨Tryz.f75, an_Z13, lk ty_Z13, vr_Z13⟩), (76, ⟨Tryz.f76, an_bits_Len, lk ty_bits_Len, vr_bits_Len⟩), (77, ⟨Tryz.f77, an_Z61, lk ty_Z61, vr_Z61⟩), (78, ⟨Tryz.f78, an_s_memoed, lk ty_s_memoed, vr_s_memoed⟩), (79, ⟨Tryz.f79, an_Z60, lk ty_Z60, vr_Z60⟩), (80, ⟨Tryz.f80, an_s_fill, lk ty_s_fill, vr_s_fill⟩), (81, ⟨Tryz.f81, an_Z78, lk ty_Z78, vr_Z78⟩), (82, ⟨Tryz.f82, an_s_isKey, lk ty_s_isKey, vr_s_isKey⟩), (83, ⟨Tryz.f83, an_Z42, lk ty_Z42, vr_Z42⟩), (84, ⟨Tryz.f84, an_Z80, lk ty_Z80, vr_Z80⟩), (85, ⟨Tryz.f85, an_Z90, lk ty_Z90, vr_Z90⟩), (86, ⟨Tryz.f86, an_Z83, lk ty_Z83, vr_Z83⟩), (87, ⟨Tryz.f87, an_Z6, lk ty_Z6, vr_Z6⟩), (88, ⟨Tryz.f88, an_Z11, lk ty_Z11, vr_Z11⟩), (89, ⟨Tryz.f89, an_Z5, lk ty_Z5, vr_Z5⟩), (90, ⟨Tryz.f90, an_Z8, lk ty_Z8, vr_Z8⟩), (91, ⟨Tryz.f91, an_Z7, lk ty_Z7, vr_Z7⟩), (92, ⟨Tryz.f92, an_Z2, lk ty_Z2, vr_Z2⟩), (93, ⟨Tryz.f93, an_Z47, lk ty_Z47, vr_Z47⟩), (94, ⟨Tryz.f94, an_Z4, lk ty_Z4, vr_Z4⟩), (95, ⟨Tryz.f95, an_Z10, lk ty_Z10, vr_Z10⟩), (97, ⟨Tryz.f97, an_Z76, lk ty_Z76, vr_Z76⟩), (98, ⟨Tryz.f98, an_Z59, lk ty_Z59, vr_Z59⟩), (99, ⟨Tryz.f99, an_Z54, lk ty_Z54, vr_Z54⟩), (100, ⟨Tryz.f100, an_Z12, lk ty_Z12, vr_Z12⟩), (101, ⟨Tryz.f101, an_Z19, lk ty_Z19, vr_Z19⟩), (102, ⟨Tryz.f102, an_Z21, lk ty_Z21, vr_Z21⟩), (103, ⟨Tryz.f103, an_Z3, lk ty_Z3, vr_Z3⟩), (104, ⟨Tryz.f104, an_Z14, lk ty_Z14, vr_Z14⟩), (105, ⟨Tryz.f105, an_Z40, lk ty_Z40, vr_Z40⟩), (106, ⟨Tryz.f106, an_s_allIn, lk ty_s_allIn, vr_s_allIn⟩), (107, ⟨Tryz.f107, an_Z69, lk ty_Z69, vr_Z69⟩), (108, ⟨Tryz.f108, an_Z15, lk ty_Z15, vr_Z15⟩), (109, ⟨Tryz.f109, an_Z91, lk ty_Z91, vr_Z91⟩), (100022, ⟨Tryz.f22, an_Z9, lk ty_Z9, vr_Z9⟩)]
def eqts : List Nat := []
def clones : List Nat := [35]
noncomputable def T : Tab := ⟨lk tts, hasN eqts, lk sigs, lk fns, fun _ f s => bif hasN clones f then cloneX s else none⟩
end Go.Gx

/-
  What each function comes to (printed by gen.py).
-/
set_option linter.unusedVariables false
namespace Go.Gx
open Go.Proofs
noncomputable abbrev t_Z66 (k : Nat) : C_Z66 := (fun a0 => T.call k 9 sg_Z66 (a0, ()))
noncomputable abbrev t_Z34 (k : Nat) : C_Z34 := (fun a0 a1 a2 => T.call k 26 sg_Z34 ((a0, a1, ()), a2, ()))
noncomputable abbrev t_Z67 (k : Nat) : C_Z67 := (T.call k 41 sg_Z67 ())
noncomputable abbrev t_Z43 (k : Nat) : C_Z43 := (fun a0 a1 a2 => T.call k 31 sg_Z43 ((a0, a1, ()), a2, ()))
noncomputable abbrev t_s_someOp (k : Nat) : C_s_someOp := (fun a0 a1 => T.call k 30 sg_s_someOp ((a0, a1, ()), ()))
noncomputable abbrev t_Z72 (k : Nat) : C_Z72 := (fun a0 => T.call k 61 sg_Z72 (a0, ()))
noncomputable abbrev t_Z45 (k : Nat) : C_Z45 := (fun a0 a1 a2 a3 a4 => T.call k 43 sg_Z45 ((a0, a1, a2, a3, a4, ()), ()))
noncomputable abbrev t_Z81 (k : Nat) : C_Z81 := (fun a0 => T.call k 71 sg_Z81 (a0, ()))
noncomputable abbrev t_Z64 (k : Nat) : C_Z64 := (fun a0 a1 a2 a3 a4 a5 => T.call k 72 sg_Z64 ((a0, a1, a2, a3, a4, ()), a5, ()))
noncomputable abbrev t_Z90 (k : Nat) : C_Z90 := (fun a0 a1 a2 a3 a4 a5 => T.call k 85 sg_Z90 ((a0, a1, a2, a3, a4, ()), a5, ()))
noncomputable abbrev t_Z83 (k : Nat) : C_Z83 := (fun a0 => T.call k 86 sg_Z83 (a0, ()))
noncomputable abbrev t_Z51 (k : Nat) : C_Z51 := (fun a0 a1 a2 a3 a4 a5 => T.call k 73 sg_Z51 ((a0, a1, a2, a3, a4, ()), a5, ()))
noncomputable abbrev t_Z49 (k : Nat) : C_Z49 := (fun a0 a1 a2 a3 a4 a5 a6 => T.call k 74 sg_Z49 ((a0, a1, a2, a3, a4, ()), (a5, a6, ()), ()))
noncomputable abbrev t_Z44 (k : Nat) : C_Z44 := (fun a0 a1 a2 a3 a4 a5 a6 => T.call k 42 sg_Z44 ((a0, a1, a2, a3, a4, ()), (a5, a6, ()), ()))
noncomputable abbrev t_s_argOf (k : Nat) : C_s_argOf := (fun a0 => T.call k 70 sg_s_argOf (a0, ()))
noncomputable abbrev t_Z92 (k : Nat) : C_Z92 := (fun a0 a1 a2 => T.call k 39 sg_Z92 (a0, a1, a2, ()))
noncomputable abbrev t_Z85 (k : Nat) : C_Z85 := (fun a0 a1 => T.call k 38 sg_Z85 ((a0, a1, ()), ()))
noncomputable abbrev t_Z77 (k : Nat) : C_Z77 := (fun a0 => T.call k 17 sg_Z77 (a0, ()))
noncomputable abbrev t_Z57 (k : Nat) : C_Z57 := (fun a0 => T.call k 58 sg_Z57 (a0, ()))
noncomputable abbrev t_s_EndOps (k : Nat) : C_s_EndOps := (fun a0 => T.call k 51 sg_s_EndOps (a0, ()))
noncomputable abbrev t_s_CutOps (k : Nat) : C_s_CutOps := (fun a0 => T.call k 52 sg_s_CutOps (a0, ()))
noncomputable abbrev t_Z70 (k : Nat) : C_Z70 := (fun a0 a1 => T.call k 27 sg_Z70 ((a0, a1, ()), ()))
noncomputable abbrev t_Z73 (k : Nat) : C_Z73 := (fun a0 a1 => T.call k 56 sg_Z73 ((a0, a1, ()), ()))
noncomputable abbrev t_s_isKey (k : Nat) : C_s_isKey := (fun a0 a1 => T.call k 82 sg_s_isKey ((a0, a1, (), ()), ()))
noncomputable abbrev t_s_allIn (k : Nat) : C_s_allIn := (fun a0 a1 a2 => T.call k 106 sg_s_allIn (a0, a1, a2, ()))
noncomputable abbrev t_Z91 (k : Nat) : C_Z91 := (fun a0 a1 a2 a3 => T.call k 109 sg_Z91 ((a0, a1, (), ()), (a2, a3, (), ()), ()))
noncomputable abbrev t_Z69 (k : Nat) : C_Z69 := (fun a0 a1 a2 a3 a4 => T.call k 107 sg_Z69 ((a0, a1, ()), (a2, a3, a4, ()), ()))
noncomputable abbrev t_Z59 (k : Nat) : C_Z59 := (fun a0 a1 a2 a3 a4 => T.call k 98 sg_Z59 ((a0, a1, ()), (a2, a3, a4, ()), ()))
noncomputable abbrev t_Z82 (k : Nat) : C_Z82 := (fun a0 a1 => T.call k 40 sg_Z82 (a0, a1, ()))
noncomputable abbrev t_Z54 (k : Nat) : C_Z54 := (fun a0 a1 a2 => T.call k 99 sg_Z54 ((a0, a1, ()), a2, ()))
noncomputable abbrev t_Z42 (k : Nat) : C_Z42 := (fun a0 a1 => T.call k 83 sg_Z42 ((a0, a1, ()), ()))
noncomputable abbrev t_Z88 (k : Nat) : C_Z88 := (fun a0 a1 a2 a3 a4 => T.call k 57 sg_Z88 ((a0, a1, ()), (a2, a3, ()), a4, ()))
noncomputable abbrev t_Z68 (k : Nat) : C_Z68 := (fun a0 a1 => T.call k 29 sg_Z68 ((a0, a1, ()), ()))
noncomputable abbrev t_Z65 (k : Nat) : C_Z65 := (fun a0 a1 => T.call k 54 sg_Z65 ((a0, a1, ()), ()))
noncomputable abbrev t_s_emit (k : Nat) : C_s_emit := (fun a0 a1 => T.call k 55 sg_s_emit (a0, a1, ()))
noncomputable abbrev t_s_memoed (k : Nat) : C_s_memoed := (fun a0 a1 a2 => T.call k 78 sg_s_memoed (a0, a1, a2, ()))
noncomputable abbrev t_Z78 (k : Nat) : C_Z78 := (fun a0 a1 a2 a3 a4 a5 => T.call k 81 sg_Z78 ((a0, a1, ()), a2, a3, a4, a5, ()))
noncomputable abbrev t_Z60 (k : Nat) : C_Z60 := (fun a0 a1 a2 a3 a4 a5 => T.call k 79 sg_Z60 ((a0, a1, ()), a2, a3, a4, a5, ()))
noncomputable abbrev t_s_fill (k : Nat) : C_s_fill := (fun a0 a1 a2 a3 a4 a5 a6 a7 a8 => T.call k 80 sg_s_fill ((a0, a1, ()), a2, a3, a4, a5, a6, a7, a8, ()))
noncomputable abbrev t_s_save (k : Nat) : C_s_save := (fun a0 a1 a2 a3 a4 a5 => T.call k 53 sg_s_save ((a0, a1, ()), a2, a3, a4, a5, ()))
noncomputable abbrev t_Z89 (k : Nat) : C_Z89 := (fun a0 a1 a2 => T.call k 28 sg_Z89 ((a0, a1, ()), a2, ()))
noncomputable abbrev t_Z86 (k : Nat) : C_Z86 := (fun a0 a1 => T.call k 10 sg_Z86 ((a0, a1, ()), ()))
noncomputable abbrev t_Z74 (k : Nat) : C_Z74 := (fun a0 => T.call k 59 sg_Z74 (a0, ()))
noncomputable abbrev t_Z63 (k : Nat) : C_Z63 := (fun a0 => T.call k 60 sg_Z63 (a0, ()))
noncomputable abbrev t_Z56 (k : Nat) : C_Z56 := (fun a0 => T.call k 32 sg_Z56 (a0, ()))
noncomputable abbrev t_Z36 (k : Nat) : C_Z36 := (fun a0 a1 a2 => T.call k 33 sg_Z36 ((a0, a1, ()), a2, ()))
noncomputable abbrev t_Z62 (k : Nat) : C_Z62 := (fun a0 a1 a2 => T.call k 11 sg_Z62 ((a0, a1, ()), a2, ()))
noncomputable abbrev t_Z38 (k : Nat) : C_Z38 := (fun a0 => T.call k 4 sg_Z38 (a0, ()))
noncomputable abbrev t_Z87 (k : Nat) : C_Z87 := (fun a0 => T.call k 62 sg_Z87 (a0, ()))
noncomputable abbrev t_i_opOk (k : Nat) : C_i_opOk := (fun a0 a1 => T.call k 34 sg_i_opOk ((a0, a1, ()), ()))
noncomputable abbrev t_Z71 (k : Nat) : C_Z71 := (fun a0 => T.call k 12 sg_Z71 (a0, ()))
noncomputable abbrev t_Z20 (k : Nat) : C_Z20 := (fun a0 a1 => T.call k 37 sg_Z20 (a0, a1, ()))
noncomputable abbrev t_Z17 (k : Nat) : C_Z17 := (fun a0 a1 => T.call k 16 sg_Z17 (a0, a1, ()))
noncomputable abbrev t_Z52 (k : Nat) : C_Z52 := (fun a0 a1 a2 a3 => T.call k 13 sg_Z52 ((a0, a1, a2, a3, ()), ()))
noncomputable abbrev t_Z50 (k : Nat) : C_Z50 := (fun a0 => T.call k 14 sg_Z50 (a0, ()))
noncomputable abbrev t_Z22 (k : Nat) : C_Z22 := (fun a0 => T.call k 35 sg_Z22 (a0, ()))
noncomputable abbrev t_Z27 (k : Nat) : C_Z27 := (fun a0 a1 a2 a3 => T.call k 63 sg_Z27 ((a0, a1, a2, a3, ()), ()))
noncomputable abbrev t_Z29 (k : Nat) : C_Z29 := (fun a0 a1 a2 a3 a4 => T.call k 65 sg_Z29 ((a0, a1, a2, a3, ()), a4, ()))
noncomputable abbrev t_Z31 (k : Nat) : C_Z31 := (fun a0 a1 a2 a3 a4 a5 a6 => T.call k 64 sg_Z31 ((a0, a1, a2, a3, ()), a4, a5, a6, ()))
noncomputable abbrev t_Z33 (k : Nat) : C_Z33 := (fun a0 a1 a2 a3 a4 => T.call k 67 sg_Z33 ((a0, a1, a2, a3, ()), a4, ()))
noncomputable abbrev t_Z26 (k : Nat) : C_Z26 := (fun a0 a1 a2 a3 => T.call k 66 sg_Z26 ((a0, a1, a2, a3, ()), ()))
noncomputable abbrev t_Z35 (k : Nat) : C_Z35 := (fun a0 a1 a2 a3 a4 => T.call k 68 sg_Z35 ((a0, a1, a2, a3, ()), a4, ()))
noncomputable abbrev t_Z80 (k : Nat) : C_Z80 := (fun a0 a1 a2 a3 => T.call k 84 sg_Z80 (a0, a1, (a2, a3, (), ()), ()))
noncomputable abbrev t_Z37 (k : Nat) : C_Z37 := (fun a0 a1 a2 a3 a4 => T.call k 69 sg_Z37 ((a0, a1, a2, a3, ()), a4, ()))
noncomputable abbrev t_Z48 (k : Nat) : C_Z48 := (fun a0 a1 a2 a3 a4 a5 => T.call k 36 sg_Z48 ((a0, a1, a2, a3, ()), (a4, a5, ()), ()))
noncomputable abbrev t_Z32 (k : Nat) : C_Z32 := (fun a0 a1 a2 a3 a4 a5 => T.call k 15 sg_Z32 ((a0, a1, a2, a3, ()), (a4, a5, ()), ()))
noncomputable abbrev t_Z84 (k : Nat) : C_Z84 := (fun a0 a1 a2 a3 a4 => T.call k 5 sg_Z84 (a0, (a1, a2, a3, a4, ()), ()))
noncomputable abbrev t_Z46 (k : Nat) : C_Z46 := (fun a0 a1 a2 a3 => T.call k 18 sg_Z46 ((a0, a1, a2, a3, ()), ()))
noncomputable abbrev t_s_breach (k : Nat) : C_s_breach := (fun a0 a1 a2 a3 a4 a5 a6 a7 a8 a9 a10 a11 => T.call k 44 sg_s_breach ((a0, a1, a2, a3, ()), (a4, a5, ()), (a6, a7, a8, a9, a10, ()), a11, ()))
noncomputable abbrev t_s_safe (k : Nat) : C_s_safe := (fun a0 a1 a2 a3 a4 => T.call k 19 sg_s_safe (a0, (a1, a2, a3, a4, ()), ()))
noncomputable abbrev t_Z79 (k : Nat) : C_Z79 := (fun a0 a1 a2 a3 a4 => T.call k 6 sg_Z79 (a0, (a1, a2, a3, a4, ()), ()))
noncomputable abbrev t_Z61 (k : Nat) : C_Z61 := (fun a0 => T.call k 77 sg_Z61 (a0, ()))
noncomputable abbrev t_Z39 (k : Nat) : C_Z39 := (fun a0 a1 a2 a3 => T.call k 49 sg_Z39 ((a0, a1, a2, a3, ()), ()))
noncomputable abbrev t_Z53 (k : Nat) : C_Z53 := (fun a0 a1 a2 a3 => T.call k 45 sg_Z53 ((a0, a1, a2, a3, ()), ()))
noncomputable abbrev t_Z16 (k : Nat) : C_Z16 := (fun a0 => T.call k 22 sg_Z16 (a0, 45, ()))
noncomputable abbrev t_Z75 (k : Nat) : C_Z75 := (fun a0 => T.call k 20 sg_Z75 (a0, ()))
noncomputable abbrev t_Z76 (k : Nat) : C_Z76 := (fun a0 => T.call k 97 sg_Z76 (a0, ()))
noncomputable abbrev t_bits_Len (k : Nat) : C_bits_Len := (fun a0 => T.call k 76 sg_bits_Len (a0, ()))
noncomputable abbrev t_Z40 (k : Nat) : C_Z40 := (fun a0 => T.call k 105 sg_Z40 (a0, ()))
noncomputable abbrev t_Z47 (k : Nat) : C_Z47 := (fun a0 a1 => T.call k 93 sg_Z47 (a0, a1, ()))
noncomputable abbrev t_Z6 (k : Nat) : C_Z6 := (fun a0 a1 a2 => T.call k 87 sg_Z6 (a0, a1, a2, ()))
noncomputable abbrev t_Z12 (k : Nat) : C_Z12 := (fun a0 a1 a2 a3 => T.call k 100 sg_Z12 (a0, a1, a2, a3, ()))
noncomputable abbrev t_Z11 (k : Nat) : C_Z11 := (fun a0 a1 a2 => T.call k 88 sg_Z11 (a0, a1, a2, ()))
noncomputable abbrev t_Z19 (k : Nat) : C_Z19 := (fun a0 => T.call k 101 sg_Z19 (a0, ()))
noncomputable abbrev t_Z21 (k : Nat) : C_Z21 := (fun a0 => T.call k 102 sg_Z21 ((a0, ()), ()))
noncomputable abbrev t_Z5 (k : Nat) : C_Z5 := (fun a0 a1 a2 => T.call k 89 sg_Z5 (a0, a1, a2, ()))
noncomputable abbrev t_Z15 (k : Nat) : C_Z15 := (fun a0 a1 a2 a3 => T.call k 108 sg_Z15 (a0, a1, a2, (a3, ()), ()))
noncomputable abbrev t_Z14 (k : Nat) : C_Z14 := (fun a0 a1 a2 a3 a4 => T.call k 104 sg_Z14 (a0, a1, a2, a3, (a4, ()), ()))
noncomputable abbrev t_Z3 (k : Nat) : C_Z3 := (fun a0 a1 a2 => T.call k 103 sg_Z3 (a0, a1, (a2, ()), ()))
noncomputable abbrev t_Z8 (k : Nat) : C_Z8 := (fun a0 a1 a2 => T.call k 90 sg_Z8 (a0, a1, a2, ()))
noncomputable abbrev t_Z7 (k : Nat) : C_Z7 := (fun a0 a1 a2 => T.call k 91 sg_Z7 (a0, a1, a2, ()))
noncomputable abbrev t_Z2 (k : Nat) : C_Z2 := (fun a0 a1 a2 => T.call k 92 sg_Z2 (a0, a1, a2, ()))
noncomputable abbrev t_Z4 (k : Nat) : C_Z4 := (fun a0 a1 a2 a3 => T.call k 94 sg_Z4 (a0, a1, a2, a3, ()))
noncomputable abbrev t_Z10 (k : Nat) : C_Z10 := (fun a0 a1 a2 a3 => T.call k 95 sg_Z10 (a0, a1, a2, a3, ()))
noncomputable abbrev t_Z13 (k : Nat) : C_Z13 := (fun a0 a1 a2 a3 => T.call k 75 sg_Z13 (a0, a1, a2, a3, ()))
noncomputable abbrev t_Z23 (k : Nat) : C_Z23 := (fun a0 => T.call k 46 sg_Z23 (a0, ()))
noncomputable abbrev t_Z18 (k : Nat) : C_Z18 := (fun a0 => T.call k 48 sg_Z18 (a0, ()))
noncomputable abbrev t_Z24 (k : Nat) : C_Z24 := (fun a0 => T.call k 47 sg_Z24 (a0, ()))
noncomputable abbrev t_Z58 (k : Nat) : C_Z58 := (fun a0 => T.call k 21 sg_Z58 (a0, ()))
noncomputable abbrev t_Z28 (k : Nat) : C_Z28 := (fun a0 a1 a2 a3 a4 a5 a6 => T.call k 23 sg_Z28 ((a0, a1, (), a2, ()), (a3, a4, a5, a6, ()), ()))
noncomputable abbrev t_Z9 (k : Nat) : C_Z9 := (fun a0 a1 a2 a3 a4 => T.call k 100022 sg_Z9 (a0, (a1, a2, a3, a4, ()), ()))
noncomputable abbrev t_Z55 (k : Nat) : C_Z55 := (fun a0 => T.call k 7 sg_Z55 (a0, ()))
noncomputable abbrev t_Z30 (k : Nat) : C_Z30 := (fun a0 a1 a2 a3 a4 => T.call k 25 sg_Z30 (a0, (a1, a2, a3, a4, ()), ()))
noncomputable abbrev t_Z1 (k : Nat) : C_Z1 := (fun a0 a1 a2 a3 a4 => T.call k 50 sg_Z1 (a0, (a1, a2, a3, a4, ()), ()))
noncomputable abbrev t_Z0 (k : Nat) : C_Z0 := (fun a0 a1 a2 a3 a4 => T.call k 24 sg_Z0 (a0, (a1, a2, a3, a4, ()), ()))
noncomputable abbrev t_Z41 (k : Nat) : C_Z41 := (fun a0 a1 a2 a3 a4 a5 a6 a7 => T.call k 8 sg_Z41 ((a0, a1, a2, a3, ()), (a4, a5, a6, a7, ()), ()))
noncomputable abbrev t_Z25 (k : Nat) : C_Z25 := (fun a0 => T.call k 3 sg_Z25 (a0, ()))
theorem b_Z66 (k : Nat) (a0 : _) : t_Z66 (k + 1) a0 = B_Z66 k a0 := by kernel_rfl
theorem b_Z34 (k : Nat) (a0 a1 a2 : _) : t_Z34 (k + 1) a0 a1 a2 = B_Z34 k a0 a1 a2 := by kernel_rfl
theorem b_Z67 (k : Nat) : t_Z67 (k + 1) = B_Z67 k := by kernel_rfl
theorem b_Z43 (k : Nat) (a0 a1 a2 : _) : t_Z43 (k + 1) a0 a1 a2 = B_Z43 k (t_Z34 k) a0 a1 a2 := by kernel_rfl
theorem b_s_someOp (k : Nat) (a0 a1 : _) : t_s_someOp (k + 1) a0 a1 = B_s_someOp k (t_Z34 k) (t_Z43 k) a0 a1 := by kernel_rfl
theorem b_Z72 (k : Nat) (a0 : _) : t_Z72 (k + 1) a0 = B_Z72 k a0 := by kernel_rfl
theorem b_Z45 (k : Nat) (a0 a1 a2 a3 a4 : _) : t_Z45 (k + 1) a0 a1 a2 a3 a4 = B_Z45 k (t_Z72 k) a0 a1 a2 a3 a4 := by kernel_rfl
theorem b_Z81 (k : Nat) (a0 : _) : t_Z81 (k + 1) a0 = B_Z81 k a0 := by kernel_rfl
theorem b_Z64 (k : Nat) (a0 a1 a2 a3 a4 a5 : _) : t_Z64 (k + 1) a0 a1 a2 a3 a4 a5 = B_Z64 k a0 a1 a2 a3 a4 a5 := by kernel_rfl
theorem b_Z90 (k : Nat) (a0 a1 a2 a3 a4 a5 : _) : t_Z90 (k + 1) a0 a1 a2 a3 a4 a5 = B_Z90 k a0 a1 a2 a3 a4 a5 := by kernel_rfl
theorem b_Z83 (k : Nat) (a0 : _) : t_Z83 (k + 1) a0 = B_Z83 k a0 := by kernel_rfl
theorem b_Z51 (k : Nat) (a0 a1 a2 a3 a4 a5 : _) : t_Z51 (k + 1) a0 a1 a2 a3 a4 a5 = B_Z51 k (t_Z72 k) (t_Z64 k) (t_Z90 k) (t_Z83 k) a0 a1 a2 a3 a4 a5 := by kernel_rfl
theorem b_Z49 (k : Nat) (a0 a1 a2 a3 a4 a5 a6 : _) : t_Z49 (k + 1) a0 a1 a2 a3 a4 a5 a6 = B_Z49 k (t_Z90 k) (t_Z64 k) (t_Z83 k) a0 a1 a2 a3 a4 a5 a6 := by kernel_rfl
theorem b_Z44 (k : Nat) (a0 a1 a2 a3 a4 a5 a6 : _) : t_Z44 (k + 1) a0 a1 a2 a3 a4 a5 a6 = B_Z44 k (t_Z81 k) (t_Z64 k) (t_Z51 k) (t_Z49 k) a0 a1 a2 a3 a4 a5 a6 := by kernel_rfl
theorem b_s_argOf (k : Nat) (a0 : _) : t_s_argOf (k + 1) a0 = B_s_argOf k a0 := by kernel_rfl
theorem b_Z92 (k : Nat) (a0 a1 a2 : _) : t_Z92 (k + 1) a0 a1 a2 = B_Z92 k a0 a1 a2 := by kernel_rfl
theorem b_Z85 (k : Nat) (a0 a1 : _) : t_Z85 (k + 1) a0 a1 = B_Z85 k (t_s_argOf k) (t_Z92 k) a0 a1 := by kernel_rfl
theorem b_Z77 (k : Nat) (a0 : _) : t_Z77 (k + 1) a0 = B_Z77 k (t_Z85 k) a0 := by kernel_rfl
theorem b_Z57 (k : Nat) (a0 : _) : t_Z57 (k + 1) a0 = B_Z57 k (t_Z67 k) (t_Z45 k) (t_Z44 k) a0 := by kernel_rfl
theorem b_s_EndOps (k : Nat) (a0 : _) : t_s_EndOps (k + 1) a0 = B_s_EndOps k (t_Z77 k) (t_Z57 k) a0 := by kernel_rfl
theorem b_s_CutOps (k : Nat) (a0 : _) : t_s_CutOps (k + 1) a0 = B_s_CutOps k (t_Z77 k) (t_Z57 k) a0 := by kernel_rfl
theorem b_Z70 (k : Nat) (a0 a1 : _) : t_Z70 (k + 1) a0 a1 = B_Z70 k (t_Z67 k) (t_Z43 k) (t_s_someOp k) (t_Z34 k) (t_Z45 k) (t_Z44 k) (t_s_EndOps k) (t_s_CutOps k) a0 a1 := by kernel_rfl
theorem b_Z73 (k : Nat) (a0 a1 : _) : t_Z73 (k + 1) a0 a1 = B_Z73 k (t_Z34 k) (t_Z43 k) a0 a1 := by kernel_rfl
theorem b_s_isKey (k : Nat) (a0 a1 : _) : t_s_isKey (k + 1) a0 a1 = B_s_isKey k a0 a1 := by kernel_rfl
theorem b_s_allIn (k : Nat) (a0 a1 a2 : _) : t_s_allIn (k + 1) a0 a1 a2 = B_s_allIn k (t_Z92 k) a0 a1 a2 := by kernel_rfl
theorem b_Z91 (k : Nat) (a0 a1 a2 a3 : _) : t_Z91 (k + 1) a0 a1 a2 a3 = B_Z91 k a0 a1 a2 a3 := by kernel_rfl
theorem b_Z69 (k : Nat) (a0 a1 a2 a3 a4 : _) : t_Z69 (k + 1) a0 a1 a2 a3 a4 = B_Z69 k (t_s_isKey k) (t_Z91 k) a0 a1 a2 a3 a4 := by kernel_rfl
theorem b_Z59 (k : Nat) (a0 a1 a2 a3 a4 : _) : t_Z59 (k + 1) a0 a1 a2 a3 a4 = B_Z59 k (t_s_allIn k) (t_Z92 k) (t_Z69 k) a0 a1 a2 a3 a4 := by kernel_rfl
theorem b_Z82 (k : Nat) (a0 a1 : _) : t_Z82 (k + 1) a0 a1 = B_Z82 k a0 a1 := by kernel_rfl
theorem b_Z54 (k : Nat) (a0 a1 a2 : _) : t_Z54 (k + 1) a0 a1 a2 = B_Z54 k (t_Z72 k) (t_Z82 k) a0 a1 a2 := by kernel_rfl
theorem b_Z42 (k : Nat) (a0 a1 : _) : t_Z42 (k + 1) a0 a1 = B_Z42 k (t_Z92 k) (t_Z59 k) (t_Z54 k) (t_Z82 k) a0 a1 := by kernel_rfl
theorem b_Z88 (k : Nat) (a0 a1 a2 a3 a4 : _) : t_Z88 (k + 1) a0 a1 a2 a3 a4 = B_Z88 k (t_Z43 k) (t_Z34 k) (t_s_isKey k) (t_Z42 k) a0 a1 a2 a3 a4 := by kernel_rfl
theorem b_Z68 (k : Nat) (a0 a1 : _) : t_Z68 (k + 1) a0 a1 = B_Z68 k (t_Z43 k) (t_Z73 k) (t_Z88 k) (t_Z34 k) a0 a1 := by kernel_rfl
theorem b_Z65 (k : Nat) (a0 a1 : _) : t_Z65 (k + 1) a0 a1 = B_Z65 k a0 a1 := by kernel_rfl
theorem b_s_emit (k : Nat) (a0 a1 : _) : t_s_emit (k + 1) a0 a1 = B_s_emit k a0 a1 := by kernel_rfl
theorem b_s_memoed (k : Nat) (a0 a1 a2 : _) : t_s_memoed (k + 1) a0 a1 a2 = B_s_memoed k (t_Z72 k) (t_s_emit k) a0 a1 a2 := by kernel_rfl
theorem b_Z78 (k : Nat) (a0 a1 a2 a3 a4 a5 : _) : t_Z78 (k + 1) a0 a1 a2 a3 a4 a5 = B_Z78 k (t_s_save k) a0 a1 a2 a3 a4 a5 := by kernel_rfl
theorem b_Z60 (k : Nat) (a0 a1 a2 a3 a4 a5 : _) : t_Z60 (k + 1) a0 a1 a2 a3 a4 a5 = B_Z60 k (t_s_emit k) (t_s_memoed k) (t_Z78 k) a0 a1 a2 a3 a4 a5 := by kernel_rfl
theorem b_s_fill (k : Nat) (a0 a1 a2 a3 a4 a5 a6 a7 a8 : _) : t_s_fill (k + 1) a0 a1 a2 a3 a4 a5 a6 a7 a8 = B_s_fill k (t_s_emit k) (t_Z78 k) a0 a1 a2 a3 a4 a5 a6 a7 a8 := by kernel_rfl
theorem b_s_save (k : Nat) (a0 a1 a2 a3 a4 a5 : _) : t_s_save (k + 1) a0 a1 a2 a3 a4 a5 = B_s_save k (t_s_emit k) (t_s_memoed k) (t_Z60 k) (t_s_fill k) (t_Z78 k) a0 a1 a2 a3 a4 a5 := by kernel_rfl
theorem b_Z89 (k : Nat) (a0 a1 a2 : _) : t_Z89 (k + 1) a0 a1 a2 = B_Z89 k (t_Z65 k) (t_s_save k) (t_s_emit k) a0 a1 a2 := by kernel_rfl
theorem b_Z86 (k : Nat) (a0 a1 : _) : t_Z86 (k + 1) a0 a1 = B_Z86 k (t_Z34 k) (t_Z70 k) (t_Z68 k) (t_Z89 k) (t_s_someOp k) (t_Z43 k) a0 a1 := by kernel_rfl
theorem b_Z74 (k : Nat) (a0 : _) : t_Z74 (k + 1) a0 = B_Z74 k (t_Z77 k) (t_Z57 k) a0 := by kernel_rfl
theorem b_Z63 (k : Nat) (a0 : _) : t_Z63 (k + 1) a0 = B_Z63 k (t_Z77 k) a0 := by kernel_rfl
theorem b_Z56 (k : Nat) (a0 : _) : t_Z56 (k + 1) a0 = B_Z56 k (t_Z77 k) (t_Z57 k) (t_Z74 k) (t_Z63 k) a0 := by kernel_rfl
theorem b_Z36 (k : Nat) (a0 a1 a2 : _) : t_Z36 (k + 1) a0 a1 a2 = B_Z36 k (t_Z34 k) (t_Z72 k) a0 a1 a2 := by kernel_rfl
theorem b_Z62 (k : Nat) (a0 a1 a2 : _) : t_Z62 (k + 1) a0 a1 a2 = B_Z62 k (t_Z34 k) (t_Z43 k) (t_Z56 k) (t_Z36 k) a0 a1 a2 := by kernel_rfl
theorem b_Z38 (k : Nat) (a0 : _) : t_Z38 (k + 1) a0 = B_Z38 k (t_Z66 k) (t_Z86 k) (t_Z62 k) a0 := by kernel_rfl
theorem b_Z87 (k : Nat) (a0 : _) : t_Z87 (k + 1) a0 = B_Z87 k a0 := by kernel_rfl
theorem b_i_opOk (k : Nat) (a0 a1 : _) : t_i_opOk (k + 1) a0 a1 = B_i_opOk k (t_Z87 k) a0 a1 := by kernel_rfl
theorem b_Z71 (k : Nat) (a0 : _) : t_Z71 (k + 1) a0 = B_Z71 k (t_i_opOk k) a0 := by kernel_rfl
theorem b_Z20 (k : Nat) (a0 a1 : _) : t_Z20 (k + 1) a0 a1 = B_Z20 k a0 a1 := by kernel_rfl
theorem b_Z17 (k : Nat) (a0 a1 : _) : t_Z17 (k + 1) a0 a1 = B_Z17 k (t_Z20 k) a0 a1 := by kernel_rfl
theorem b_Z52 (k : Nat) (a0 a1 a2 a3 : _) : t_Z52 (k + 1) a0 a1 a2 a3 = B_Z52 k (t_Z17 k) a0 a1 a2 a3 := by kernel_rfl
theorem b_Z50 (k : Nat) (a0 : _) : t_Z50 (k + 1) a0 = B_Z50 k a0 := by kernel_rfl
theorem b_Z22 (k : Nat) (a0 : _) : t_Z22 (k + 1) a0 = B_Z22 k a0 := by kernel_rfl
theorem b_Z27 (k : Nat) (a0 a1 a2 a3 : _) : t_Z27 (k + 1) a0 a1 a2 a3 = B_Z27 k a0 a1 a2 a3 := by kernel_rfl
theorem b_Z29 (k : Nat) (a0 a1 a2 a3 a4 : _) : t_Z29 (k + 1) a0 a1 a2 a3 a4 = B_Z29 k a0 a1 a2 a3 a4 := by kernel_rfl
theorem b_Z31 (k : Nat) (a0 a1 a2 a3 a4 a5 a6 : _) : t_Z31 (k + 1) a0 a1 a2 a3 a4 a5 a6 = B_Z31 k (t_Z22 k) (t_Z29 k) a0 a1 a2 a3 a4 a5 a6 := by kernel_rfl
theorem b_Z33 (k : Nat) (a0 a1 a2 a3 a4 : _) : t_Z33 (k + 1) a0 a1 a2 a3 a4 = B_Z33 k (t_Z22 k) a0 a1 a2 a3 a4 := by kernel_rfl
theorem b_Z26 (k : Nat) (a0 a1 a2 a3 : _) : t_Z26 (k + 1) a0 a1 a2 a3 = B_Z26 k (t_Z27 k) (t_Z33 k) a0 a1 a2 a3 := by kernel_rfl
theorem b_Z35 (k : Nat) (a0 a1 a2 a3 a4 : _) : t_Z35 (k + 1) a0 a1 a2 a3 a4 = B_Z35 k (t_Z27 k) a0 a1 a2 a3 a4 := by kernel_rfl
theorem b_Z80 (k : Nat) (a0 a1 a2 a3 : _) : t_Z80 (k + 1) a0 a1 a2 a3 = B_Z80 k a0 a1 a2 a3 := by kernel_rfl
theorem b_Z37 (k : Nat) (a0 a1 a2 a3 a4 : _) : t_Z37 (k + 1) a0 a1 a2 a3 a4 = B_Z37 k (t_Z35 k) (t_Z80 k) a0 a1 a2 a3 a4 := by kernel_rfl
theorem b_Z48 (k : Nat) (a0 a1 a2 a3 a4 a5 : _) : t_Z48 (k + 1) a0 a1 a2 a3 a4 a5 = B_Z48 k (t_Z27 k) (t_Z31 k) (t_Z29 k) (t_Z26 k) (t_Z33 k) (t_Z35 k) (t_Z37 k) a0 a1 a2 a3 a4 a5 := by kernel_rfl
theorem b_Z32 (k : Nat) (a0 a1 a2 a3 a4 a5 : _) : t_Z32 (k + 1) a0 a1 a2 a3 a4 a5 = B_Z32 k (t_Z22 k) (t_Z48 k) a0 a1 a2 a3 a4 a5 := by kernel_rfl
theorem b_Z84 (k : Nat) (a0 a1 a2 a3 a4 : _) : t_Z84 (k + 1) a0 a1 a2 a3 a4 = B_Z84 k (t_Z71 k) (t_Z52 k) (t_Z50 k) (t_Z32 k) (t_Z17 k) a0 a1 a2 a3 a4 := by kernel_rfl
theorem b_Z46 (k : Nat) (a0 a1 a2 a3 : _) : t_Z46 (k + 1) a0 a1 a2 a3 = B_Z46 k (t_Z92 k) (t_Z82 k) a0 a1 a2 a3 := by kernel_rfl
theorem b_s_breach (k : Nat) (a0 a1 a2 a3 a4 a5 a6 a7 a8 a9 a10 a11 : _) : t_s_breach (k + 1) a0 a1 a2 a3 a4 a5 a6 a7 a8 a9 a10 a11 = B_s_breach k (t_Z82 k) a0 a1 a2 a3 a4 a5 a6 a7 a8 a9 a10 a11 := by kernel_rfl
theorem b_s_safe (k : Nat) (a0 a1 a2 a3 a4 : _) : t_s_safe (k + 1) a0 a1 a2 a3 a4 = B_s_safe k (t_Z67 k) (t_Z45 k) (t_Z44 k) (t_s_breach k) a0 a1 a2 a3 a4 := by kernel_rfl
theorem b_Z79 (k : Nat) (a0 a1 a2 a3 a4 : _) : t_Z79 (k + 1) a0 a1 a2 a3 a4 = B_Z79 k (t_Z77 k) (t_Z46 k) (t_s_safe k) a0 a1 a2 a3 a4 := by kernel_rfl
theorem b_Z61 (k : Nat) (a0 : _) : t_Z61 (k + 1) a0 = B_Z61 k (t_Z22 k) a0 := by kernel_rfl
theorem b_Z39 (k : Nat) (a0 a1 a2 a3 : _) : t_Z39 (k + 1) a0 a1 a2 a3 = B_Z39 k (t_Z61 k) (t_Z22 k) a0 a1 a2 a3 := by kernel_rfl
theorem b_Z53 (k : Nat) (a0 a1 a2 a3 : _) : t_Z53 (k + 1) a0 a1 a2 a3 = B_Z53 k a0 a1 a2 a3 := by kernel_rfl
theorem b_Z16 (k : Nat) (a0 : _) : t_Z16 (k + 1) a0 = B_Z16 k (t_Z50 k) (t_Z32 k) (t_Z39 k) (t_Z53 k) a0 := by kernel_rfl
theorem b_Z75 (k : Nat) (a0 : _) : t_Z75 (k + 1) a0 = B_Z75 k (t_Z71 k) (t_Z16 k) a0 := by kernel_rfl
theorem b_Z76 (k : Nat) (a0 : _) : t_Z76 (k + 1) a0 = B_Z76 k a0 := by kernel_rfl
theorem b_bits_Len (k : Nat) (a0 : _) : t_bits_Len (k + 1) a0 = B_bits_Len k (t_Z76 k) a0 := by kernel_rfl
theorem b_Z40 (k : Nat) (a0 : _) : t_Z40 (k + 1) a0 = B_Z40 k a0 := by kernel_rfl
theorem b_Z47 (k : Nat) (a0 a1 : _) : t_Z47 (k + 1) a0 a1 = B_Z47 k (t_Z40 k) a0 a1 := by kernel_rfl
theorem b_Z6 (k : Nat) (a0 a1 a2 : _) : t_Z6 (k + 1) a0 a1 a2 = B_Z6 k (t_Z47 k) a0 a1 a2 := by kernel_rfl
theorem b_Z12 (k : Nat) (a0 a1 a2 a3 : _) : t_Z12 (k + 1) a0 a1 a2 a3 = B_Z12 k (t_Z47 k) a0 a1 a2 a3 := by kernel_rfl
theorem b_Z11 (k : Nat) (a0 a1 a2 : _) : t_Z11 (k + 1) a0 a1 a2 = B_Z11 k (t_Z12 k) a0 a1 a2 := by kernel_rfl
theorem b_Z19 (k : Nat) (a0 : _) : t_Z19 (k + 1) a0 = B_Z19 k (t_bits_Len k) a0 := by kernel_rfl
theorem b_Z21 (k : Nat) (a0 : _) : t_Z21 (k + 1) a0 = B_Z21 k a0 := by kernel_rfl
theorem b_Z5 (k : Nat) (a0 a1 a2 : _) : t_Z5 (k + 1) a0 a1 a2 = B_Z5 k (t_Z19 k) (t_Z21 k) a0 a1 a2 := by kernel_rfl
theorem b_Z15 (k : Nat) (a0 a1 a2 a3 : _) : t_Z15 (k + 1) a0 a1 a2 a3 = B_Z15 k (t_Z47 k) a0 a1 a2 a3 := by kernel_rfl
theorem b_Z14 (k : Nat) (a0 a1 a2 a3 a4 : _) : t_Z14 (k + 1) a0 a1 a2 a3 a4 = B_Z14 k (t_Z15 k) a0 a1 a2 a3 a4 := by kernel_rfl
theorem b_Z3 (k : Nat) (a0 a1 a2 : _) : t_Z3 (k + 1) a0 a1 a2 = B_Z3 k (t_Z14 k) a0 a1 a2 := by kernel_rfl
theorem b_Z8 (k : Nat) (a0 a1 a2 : _) : t_Z8 (k + 1) a0 a1 a2 = B_Z8 k (t_Z3 k) (t_Z14 k) a0 a1 a2 := by kernel_rfl
theorem b_Z7 (k : Nat) (a0 a1 a2 : _) : t_Z7 (k + 1) a0 a1 a2 = B_Z7 k a0 a1 a2 := by kernel_rfl
theorem b_Z2 (k : Nat) (a0 a1 a2 : _) : t_Z2 (k + 1) a0 a1 a2 = B_Z2 k (t_Z47 k) a0 a1 a2 := by kernel_rfl
theorem b_Z4 (k : Nat) (a0 a1 a2 a3 : _) : t_Z4 (k + 1) a0 a1 a2 a3 = B_Z4 k (t_Z47 k) a0 a1 a2 a3 := by kernel_rfl
theorem b_Z10 (k : Nat) (a0 a1 a2 a3 : _) : t_Z10 (k + 1) a0 a1 a2 a3 = B_Z10 k (t_Z47 k) a0 a1 a2 a3 := by kernel_rfl
theorem b_Z13 (k : Nat) (a0 a1 a2 a3 : _) : t_Z13 (k + 1) a0 a1 a2 a3 = B_Z13 k (t_Z6 k) (t_Z11 k) (t_Z5 k) (t_Z8 k) (t_Z7 k) (t_Z2 k) (t_Z47 k) (t_Z4 k) (t_Z10 k) (t_Z13 k) a0 a1 a2 a3 := by kernel_rfl
theorem b_Z23 (k : Nat) (a0 : _) : t_Z23 (k + 1) a0 = B_Z23 k (t_bits_Len k) (t_Z13 k) a0 := by kernel_rfl
theorem b_Z18 (k : Nat) (a0 : _) : t_Z18 (k + 1) a0 = B_Z18 k a0 := by kernel_rfl
theorem b_Z24 (k : Nat) (a0 : _) : t_Z24 (k + 1) a0 = B_Z24 k a0 := by kernel_rfl
theorem b_Z58 (k : Nat) (a0 : _) : t_Z58 (k + 1) a0 = B_Z58 k (t_Z71 k) (t_Z23 k) (t_Z18 k) (t_Z24 k) a0 := by kernel_rfl
theorem b_Z28 (k : Nat) (a0 a1 a2 a3 a4 a5 a6 : _) : t_Z28 (k + 1) a0 a1 a2 a3 a4 a5 a6 = B_Z28 k a0 a1 a2 a3 a4 a5 a6 := by kernel_rfl
theorem b_Z9 (k : Nat) (a0 a1 a2 a3 a4 : _) : t_Z9 (k + 1) a0 a1 a2 a3 a4 = B_Z9 k (t_Z50 k) (t_Z32 k) (t_Z39 k) (t_Z28 k) a0 a1 a2 a3 a4 := by kernel_rfl
theorem b_Z55 (k : Nat) (a0 : _) : t_Z55 (k + 1) a0 = B_Z55 k (t_Z75 k) (t_Z58 k) (t_Z9 k) a0 := by kernel_rfl
theorem b_Z30 (k : Nat) (a0 a1 a2 a3 a4 : _) : t_Z30 (k + 1) a0 a1 a2 a3 a4 = B_Z30 k (t_Z17 k) a0 a1 a2 a3 a4 := by kernel_rfl
theorem b_Z1 (k : Nat) (a0 a1 a2 a3 a4 : _) : t_Z1 (k + 1) a0 a1 a2 a3 a4 = B_Z1 k (t_Z30 k) a0 a1 a2 a3 a4 := by kernel_rfl
theorem b_Z0 (k : Nat) (a0 a1 a2 a3 a4 : _) : t_Z0 (k + 1) a0 a1 a2 a3 a4 = B_Z0 k (t_Z1 k) a0 a1 a2 a3 a4 := by kernel_rfl
theorem b_Z41 (k : Nat) (a0 a1 a2 a3 a4 a5 a6 a7 : _) : t_Z41 (k + 1) a0 a1 a2 a3 a4 a5 a6 a7 = B_Z41 k (t_Z52 k) (t_Z0 k) a0 a1 a2 a3 a4 a5 a6 a7 := by kernel_rfl
theorem b_Z25 (k : Nat) (a0 : _) : t_Z25 (k + 1) a0 = B_Z25 k (t_Z38 k) (t_Z84 k) (t_Z79 k) (t_Z55 k) (t_Z41 k) a0 := by kernel_rfl
end Go.Gx

/-
  The calls of the table (printed by gen.py).
-/
set_option linter.unusedVariables false
namespace Go.Gx
open Go.Proofs
theorem c_Z66 (k : Nat) : t_Z66 k = F_Z66 k := by
  cases k with
  | zero => rfl
  | succ k => funext a0; exact (b_Z66 k a0)
theorem c_Z34 (k : Nat) : t_Z34 k = F_Z34 k := by
  cases k with
  | zero => rfl
  | succ k => funext a0 a1 a2; exact (b_Z34 k a0 a1 a2)
theorem c_Z67 (k : Nat) : t_Z67 k = F_Z67 k := by
  cases k with
  | zero => rfl
  | succ k => exact (b_Z67 k)
theorem c_Z43 (k : Nat) : t_Z43 k = F_Z43 k := by
  cases k with
  | zero => rfl
  | succ k => funext a0 a1 a2; exact (b_Z43 k a0 a1 a2).trans (by rw [c_Z34 k]; rfl)
theorem c_s_someOp (k : Nat) : t_s_someOp k = F_s_someOp k := by
  cases k with
  | zero => rfl
  | succ k => funext a0 a1; exact (b_s_someOp k a0 a1).trans (by rw [c_Z34 k, c_Z43 k]; rfl)
theorem c_Z72 (k : Nat) : t_Z72 k = F_Z72 k := by
  cases k with
  | zero => rfl
  | succ k => funext a0; exact (b_Z72 k a0)
theorem c_Z45 (k : Nat) : t_Z45 k = F_Z45 k := by
  cases k with
  | zero => rfl
  | succ k => funext a0 a1 a2 a3 a4; exact (b_Z45 k a0 a1 a2 a3 a4).trans (by rw [c_Z72 k]; rfl)
theorem c_Z81 (k : Nat) : t_Z81 k = F_Z81 k := by
  cases k with
  | zero => rfl
  | succ k => funext a0; exact (b_Z81 k a0)
theorem c_Z64 (k : Nat) : t_Z64 k = F_Z64 k := by
  cases k with
  | zero => rfl
  | succ k => funext a0 a1 a2 a3 a4 a5; exact (b_Z64 k a0 a1 a2 a3 a4 a5)
theorem c_Z90 (k : Nat) : t_Z90 k = F_Z90 k := by
  cases k with
  | zero => rfl
  | succ k => funext a0 a1 a2 a3 a4 a5; exact (b_Z90 k a0 a1 a2 a3 a4 a5)
theorem c_Z83 (k : Nat) : t_Z83 k = F_Z83 k := by
  cases k with
  | zero => rfl
  | succ k => funext a0; exact (b_Z83 k a0)
theorem c_Z51 (k : Nat) : t_Z51 k = F_Z51 k := by
  cases k with
  | zero => rfl
  | succ k => funext a0 a1 a2 a3 a4 a5; exact (b_Z51 k a0 a1 a2 a3 a4 a5).trans (by rw [c_Z72 k, c_Z64 k, c_Z90 k, c_Z83 k]; rfl)
theorem c_Z49 (k : Nat) : t_Z49 k = F_Z49 k := by
  cases k with
  | zero => rfl
  | succ k => funext a0 a1 a2 a3 a4 a5 a6; exact (b_Z49 k a0 a1 a2 a3 a4 a5 a6).trans (by rw [c_Z90 k, c_Z64 k, c_Z83 k]; rfl)
theorem c_Z44 (k : Nat) : t_Z44 k = F_Z44 k := by
  cases k with
  | zero => rfl
  | succ k => funext a0 a1 a2 a3 a4 a5 a6; exact (b_Z44 k a0 a1 a2 a3 a4 a5 a6).trans (by rw [c_Z81 k, c_Z64 k, c_Z51 k, c_Z49 k]; rfl)
theorem c_s_argOf (k : Nat) : t_s_argOf k = F_s_argOf k := by
  cases k with
  | zero => rfl
  | succ k => funext a0; exact (b_s_argOf k a0)
theorem c_Z92 (k : Nat) : t_Z92 k = F_Z92 k := by
  cases k with
  | zero => rfl
  | succ k => funext a0 a1 a2; exact (b_Z92 k a0 a1 a2)
theorem c_Z85 (k : Nat) : t_Z85 k = F_Z85 k := by
  cases k with
  | zero => rfl
  | succ k => funext a0 a1; exact (b_Z85 k a0 a1).trans (by rw [c_s_argOf k, c_Z92 k]; rfl)
theorem c_Z77 (k : Nat) : t_Z77 k = F_Z77 k := by
  cases k with
  | zero => rfl
  | succ k => funext a0; exact (b_Z77 k a0).trans (by rw [c_Z85 k]; rfl)
theorem c_Z57 (k : Nat) : t_Z57 k = F_Z57 k := by
  cases k with
  | zero => rfl
  | succ k => funext a0; exact (b_Z57 k a0).trans (by rw [c_Z67 k, c_Z45 k, c_Z44 k]; rfl)
theorem c_s_EndOps (k : Nat) : t_s_EndOps k = F_s_EndOps k := by
  cases k with
  | zero => rfl
  | succ k => funext a0; exact (b_s_EndOps k a0).trans (by rw [c_Z77 k, c_Z57 k]; rfl)
theorem c_s_CutOps (k : Nat) : t_s_CutOps k = F_s_CutOps k := by
  cases k with
  | zero => rfl
  | succ k => funext a0; exact (b_s_CutOps k a0).trans (by rw [c_Z77 k, c_Z57 k]; rfl)
theorem c_Z70 (k : Nat) : t_Z70 k = F_Z70 k := by
  cases k with
  | zero => rfl
  | succ k => funext a0 a1; exact (b_Z70 k a0 a1).trans (by rw [c_Z67 k, c_Z43 k, c_s_someOp k, c_Z34 k, c_Z45 k, c_Z44 k, c_s_EndOps k, c_s_CutOps k]; rfl)
theorem c_Z73 (k : Nat) : t_Z73 k = F_Z73 k := by
  cases k with
  | zero => rfl
  | succ k => funext a0 a1; exact (b_Z73 k a0 a1).trans (by rw [c_Z34 k, c_Z43 k]; rfl)
theorem c_s_isKey (k : Nat) : t_s_isKey k = F_s_isKey k := by
  cases k with
  | zero => rfl
  | succ k => funext a0 a1; exact (b_s_isKey k a0 a1)
theorem c_s_allIn (k : Nat) : t_s_allIn k = F_s_allIn k := by
  cases k with
  | zero => rfl
  | succ k => funext a0 a1 a2; exact (b_s_allIn k a0 a1 a2).trans (by rw [c_Z92 k]; rfl)
theorem c_Z91 (k : Nat) : t_Z91 k = F_Z91 k := by
  cases k with
  | zero => rfl
  | succ k => funext a0 a1 a2 a3; exact (b_Z91 k a0 a1 a2 a3)
theorem c_Z69 (k : Nat) : t_Z69 k = F_Z69 k := by
  cases k with
  | zero => rfl
  | succ k => funext a0 a1 a2 a3 a4; exact (b_Z69 k a0 a1 a2 a3 a4).trans (by rw [c_s_isKey k, c_Z91 k]; rfl)
theorem c_Z59 (k : Nat) : t_Z59 k = F_Z59 k := by
  cases k with
  | zero => rfl
  | succ k => funext a0 a1 a2 a3 a4; exact (b_Z59 k a0 a1 a2 a3 a4).trans (by rw [c_s_allIn k, c_Z92 k, c_Z69 k]; rfl)
theorem c_Z82 (k : Nat) : t_Z82 k = F_Z82 k := by
  cases k with
  | zero => rfl
  | succ k => funext a0 a1; exact (b_Z82 k a0 a1)
theorem c_Z54 (k : Nat) : t_Z54 k = F_Z54 k := by
  cases k with
  | zero => rfl
  | succ k => funext a0 a1 a2; exact (b_Z54 k a0 a1 a2).trans (by rw [c_Z72 k, c_Z82 k]; rfl)
theorem c_Z42 (k : Nat) : t_Z42 k = F_Z42 k := by
  cases k with
  | zero => rfl
  | succ k => funext a0 a1; exact (b_Z42 k a0 a1).trans (by rw [c_Z92 k, c_Z59 k, c_Z54 k, c_Z82 k]; rfl)
theorem c_Z88 (k : Nat) : t_Z88 k = F_Z88 k := by
  cases k with
  | zero => rfl
  | succ k => funext a0 a1 a2 a3 a4; exact (b_Z88 k a0 a1 a2 a3 a4).trans (by rw [c_Z43 k, c_Z34 k, c_s_isKey k, c_Z42 k]; rfl)
theorem c_Z68 (k : Nat) : t_Z68 k = F_Z68 k := by
  cases k with
  | zero => rfl
  | succ k => funext a0 a1; exact (b_Z68 k a0 a1).trans (by rw [c_Z43 k, c_Z73 k, c_Z88 k, c_Z34 k]; rfl)
theorem c_Z65 (k : Nat) : t_Z65 k = F_Z65 k := by
  cases k with
  | zero => rfl
  | succ k => funext a0 a1; exact (b_Z65 k a0 a1)
theorem c_s_emit (k : Nat) : t_s_emit k = F_s_emit k := by
  cases k with
  | zero => rfl
  | succ k => funext a0 a1; exact (b_s_emit k a0 a1)
theorem c_s_memoed (k : Nat) : t_s_memoed k = F_s_memoed k := by
  cases k with
  | zero => rfl
  | succ k => funext a0 a1 a2; exact (b_s_memoed k a0 a1 a2).trans (by rw [c_Z72 k, c_s_emit k]; rfl)
theorem c_s_saveAll_s_saveTuple_s_fill_s_save : ∀ k : Nat, (t_Z78 k = F_Z78 k) ∧ (t_Z60 k = F_Z60 k) ∧ (t_s_fill k = F_s_fill k) ∧ (t_s_save k = F_s_save k) ∧ True := by
  intro k
  induction k with
  | zero => exact ⟨by funext a0 a1 a2 a3 a4 a5;  first | rfl | (rw [F_Z78]; rfl), by funext a0 a1 a2 a3 a4 a5;  first | rfl | (rw [F_Z60]; rfl), by funext a0 a1 a2 a3 a4 a5 a6 a7 a8;  first | rfl | (rw [F_s_fill]; rfl), by funext a0 a1 a2 a3 a4 a5;  first | rfl | (rw [F_s_save]; rfl), trivial⟩
  | succ k ih =>
    obtain ⟨h_Z78, h_Z60, h_s_fill, h_s_save, _⟩ := ih
    refine ⟨?_, ?_, ?_, ?_, trivial⟩
    · funext a0 a1 a2 a3 a4 a5; rw [F_Z78_succ]; exact (b_Z78 k a0 a1 a2 a3 a4 a5).trans (by rw [h_s_save])
    · funext a0 a1 a2 a3 a4 a5; rw [F_Z60_succ]; exact (b_Z60 k a0 a1 a2 a3 a4 a5).trans (by rw [c_s_emit k, c_s_memoed k, h_Z78])
    · funext a0 a1 a2 a3 a4 a5 a6 a7 a8; rw [F_s_fill_succ]; exact (b_s_fill k a0 a1 a2 a3 a4 a5 a6 a7 a8).trans (by rw [c_s_emit k, h_Z78])
    · funext a0 a1 a2 a3 a4 a5; rw [F_s_save_succ]; exact (b_s_save k a0 a1 a2 a3 a4 a5).trans (by rw [c_s_emit k, c_s_memoed k, h_Z60, h_s_fill, h_Z78])
theorem c_Z78 (k : Nat) : t_Z78 k = F_Z78 k := (c_s_saveAll_s_saveTuple_s_fill_s_save k).1
theorem c_Z60 (k : Nat) : t_Z60 k = F_Z60 k := (c_s_saveAll_s_saveTuple_s_fill_s_save k).2.1
theorem c_s_fill (k : Nat) : t_s_fill k = F_s_fill k := (c_s_saveAll_s_saveTuple_s_fill_s_save k).2.2.1
theorem c_s_save (k : Nat) : t_s_save k = F_s_save k := (c_s_saveAll_s_saveTuple_s_fill_s_save k).2.2.2.1
theorem c_Z89 (k : Nat) : t_Z89 k = F_Z89 k := by
  cases k with
  | zero => rfl
  | succ k => funext a0 a1 a2; exact (b_Z89 k a0 a1 a2).trans (by rw [c_Z65 k, c_s_save k, c_s_emit k]; rfl)
theorem c_Z86 (k : Nat) : t_Z86 k = F_Z86 k := by
  cases k with
  | zero => rfl
  | succ k => funext a0 a1; exact (b_Z86 k a0 a1).trans (by rw [c_Z34 k, c_Z70 k, c_Z68 k, c_Z89 k, c_s_someOp k, c_Z43 k]; rfl)
theorem c_Z74 (k : Nat) : t_Z74 k = F_Z74 k := by
  cases k with
  | zero => rfl
  | succ k => funext a0; exact (b_Z74 k a0).trans (by rw [c_Z77 k, c_Z57 k]; rfl)
theorem c_Z63 (k : Nat) : t_Z63 k = F_Z63 k := by
  cases k with
  | zero => rfl
  | succ k => funext a0; exact (b_Z63 k a0).trans (by rw [c_Z77 k]; rfl)
theorem c_Z56 (k : Nat) : t_Z56 k = F_Z56 k := by
  cases k with
  | zero => rfl
  | succ k => funext a0; exact (b_Z56 k a0).trans (by rw [c_Z77 k, c_Z57 k, c_Z74 k, c_Z63 k]; rfl)
theorem c_Z36 (k : Nat) : t_Z36 k = F_Z36 k := by
  cases k with
  | zero => rfl
  | succ k => funext a0 a1 a2; exact (b_Z36 k a0 a1 a2).trans (by rw [c_Z34 k, c_Z72 k]; rfl)
theorem c_Z62 (k : Nat) : t_Z62 k = F_Z62 k := by
  cases k with
  | zero => rfl
  | succ k => funext a0 a1 a2; exact (b_Z62 k a0 a1 a2).trans (by rw [c_Z34 k, c_Z43 k, c_Z56 k, c_Z36 k]; rfl)
theorem c_Z38 (k : Nat) : t_Z38 k = F_Z38 k := by
  cases k with
  | zero => rfl
  | succ k => funext a0; exact (b_Z38 k a0).trans (by rw [c_Z66 k, c_Z86 k, c_Z62 k]; rfl)
theorem c_Z87 (k : Nat) : t_Z87 k = F_Z87 k := by
  cases k with
  | zero => rfl
  | succ k => funext a0; exact (b_Z87 k a0)
theorem c_i_opOk (k : Nat) : t_i_opOk k = F_i_opOk k := by
  cases k with
  | zero => rfl
  | succ k => funext a0 a1; exact (b_i_opOk k a0 a1).trans (by rw [c_Z87 k]; rfl)
theorem c_Z71 (k : Nat) : t_Z71 k = F_Z71 k := by
  cases k with
  | zero => rfl
  | succ k => funext a0; exact (b_Z71 k a0).trans (by rw [c_i_opOk k]; rfl)
theorem c_Z20 (k : Nat) : t_Z20 k = F_Z20 k := by
  cases k with
  | zero => rfl
  | succ k => funext a0 a1; exact (b_Z20 k a0 a1)
theorem c_Z17 (k : Nat) : t_Z17 k = F_Z17 k := by
  cases k with
  | zero => rfl
  | succ k => funext a0 a1; exact (b_Z17 k a0 a1).trans (by rw [c_Z20 k]; rfl)
theorem c_Z52 (k : Nat) : t_Z52 k = F_Z52 k := by
  cases k with
  | zero => rfl
  | succ k => funext a0 a1 a2 a3; exact (b_Z52 k a0 a1 a2 a3).trans (by rw [c_Z17 k]; rfl)
theorem c_Z50 (k : Nat) : t_Z50 k = F_Z50 k := by
  cases k with
  | zero => rfl
  | succ k => funext a0; exact (b_Z50 k a0)
theorem c_Z22 (k : Nat) : t_Z22 k = F_Z22 k := by
  cases k with
  | zero => rfl
  | succ k => funext a0; exact (b_Z22 k a0)
theorem c_Z27 (k : Nat) : t_Z27 k = F_Z27 k := by
  cases k with
  | zero => rfl
  | succ k => funext a0 a1 a2 a3; exact (b_Z27 k a0 a1 a2 a3)
theorem c_Z29 (k : Nat) : t_Z29 k = F_Z29 k := by
  cases k with
  | zero => rfl
  | succ k => funext a0 a1 a2 a3 a4; exact (b_Z29 k a0 a1 a2 a3 a4)
theorem c_Z31 (k : Nat) : t_Z31 k = F_Z31 k := by
  cases k with
  | zero => rfl
  | succ k => funext a0 a1 a2 a3 a4 a5 a6; exact (b_Z31 k a0 a1 a2 a3 a4 a5 a6).trans (by rw [c_Z22 k, c_Z29 k]; rfl)
theorem c_Z33 (k : Nat) : t_Z33 k = F_Z33 k := by
  cases k with
  | zero => rfl
  | succ k => funext a0 a1 a2 a3 a4; exact (b_Z33 k a0 a1 a2 a3 a4).trans (by rw [c_Z22 k]; rfl)
theorem c_Z26 (k : Nat) : t_Z26 k = F_Z26 k := by
  cases k with
  | zero => rfl
  | succ k => funext a0 a1 a2 a3; exact (b_Z26 k a0 a1 a2 a3).trans (by rw [c_Z27 k, c_Z33 k]; rfl)
theorem c_Z35 (k : Nat) : t_Z35 k = F_Z35 k := by
  cases k with
  | zero => rfl
  | succ k => funext a0 a1 a2 a3 a4; exact (b_Z35 k a0 a1 a2 a3 a4).trans (by rw [c_Z27 k]; rfl)
theorem c_Z80 (k : Nat) : t_Z80 k = F_Z80 k := by
  cases k with
  | zero => rfl
  | succ k => funext a0 a1 a2 a3; exact (b_Z80 k a0 a1 a2 a3)
theorem c_Z37 (k : Nat) : t_Z37 k = F_Z37 k := by
  cases k with
  | zero => rfl
  | succ k => funext a0 a1 a2 a3 a4; exact (b_Z37 k a0 a1 a2 a3 a4).trans (by rw [c_Z35 k, c_Z80 k]; rfl)
theorem c_Z48 (k : Nat) : t_Z48 k = F_Z48 k := by
  cases k with
  | zero => rfl
  | succ k => funext a0 a1 a2 a3 a4 a5; exact (b_Z48 k a0 a1 a2 a3 a4 a5).trans (by rw [c_Z27 k, c_Z31 k, c_Z29 k, c_Z26 k, c_Z33 k, c_Z35 k, c_Z37 k]; rfl)
theorem c_Z32 (k : Nat) : t_Z32 k = F_Z32 k := by
  cases k with
  | zero => rfl
  | succ k => funext a0 a1 a2 a3 a4 a5; exact (b_Z32 k a0 a1 a2 a3 a4 a5).trans (by rw [c_Z22 k, c_Z48 k]; rfl)
theorem c_Z84 (k : Nat) : t_Z84 k = F_Z84 k := by
  cases k with
  | zero => rfl
  | succ k => funext a0 a1 a2 a3 a4; exact (b_Z84 k a0 a1 a2 a3 a4).trans (by rw [c_Z71 k, c_Z52 k, c_Z50 k, c_Z32 k, c_Z17 k]; rfl)
theorem c_Z46 (k : Nat) : t_Z46 k = F_Z46 k := by
  cases k with
  | zero => rfl
  | succ k => funext a0 a1 a2 a3; exact (b_Z46 k a0 a1 a2 a3).trans (by rw [c_Z92 k, c_Z82 k]; rfl)
theorem c_s_breach (k : Nat) : t_s_breach k = F_s_breach k := by
  cases k with
  | zero => rfl
  | succ k => funext a0 a1 a2 a3 a4 a5 a6 a7 a8 a9 a10 a11; exact (b_s_breach k a0 a1 a2 a3 a4 a5 a6 a7 a8 a9 a10 a11).trans (by rw [c_Z82 k]; rfl)
theorem c_s_safe (k : Nat) : t_s_safe k = F_s_safe k := by
  cases k with
  | zero => rfl
  | succ k => funext a0 a1 a2 a3 a4; exact (b_s_safe k a0 a1 a2 a3 a4).trans (by rw [c_Z67 k, c_Z45 k, c_Z44 k, c_s_breach k]; rfl)
theorem c_Z79 (k : Nat) : t_Z79 k = F_Z79 k := by
  cases k with
  | zero => rfl
  | succ k => funext a0 a1 a2 a3 a4; exact (b_Z79 k a0 a1 a2 a3 a4).trans (by rw [c_Z77 k, c_Z46 k, c_s_safe k]; rfl)
theorem c_Z61 (k : Nat) : t_Z61 k = F_Z61 k := by
  cases k with
  | zero => rfl
  | succ k => funext a0; exact (b_Z61 k a0).trans (by rw [c_Z22 k]; rfl)
theorem c_Z39 (k : Nat) : t_Z39 k = F_Z39 k := by
  cases k with
  | zero => rfl
  | succ k => funext a0 a1 a2 a3; exact (b_Z39 k a0 a1 a2 a3).trans (by rw [c_Z61 k, c_Z22 k]; rfl)
theorem c_Z53 (k : Nat) : t_Z53 k = F_Z53 k := by
  cases k with
  | zero => rfl
  | succ k => funext a0 a1 a2 a3; exact (b_Z53 k a0 a1 a2 a3)
theorem c_Z16 (k : Nat) : t_Z16 k = F_Z16 k := by
  cases k with
  | zero => rfl
  | succ k => funext a0; exact (b_Z16 k a0).trans (by rw [c_Z50 k, c_Z32 k, c_Z39 k, c_Z53 k]; rfl)
theorem c_Z75 (k : Nat) : t_Z75 k = F_Z75 k := by
  cases k with
  | zero => rfl
  | succ k => funext a0; exact (b_Z75 k a0).trans (by rw [c_Z71 k, c_Z16 k]; rfl)
theorem c_Z76 (k : Nat) : t_Z76 k = F_Z76 k := by
  cases k with
  | zero => rfl
  | succ k => funext a0; exact (b_Z76 k a0)
theorem c_bits_Len (k : Nat) : t_bits_Len k = F_bits_Len k := by
  cases k with
  | zero => rfl
  | succ k => funext a0; exact (b_bits_Len k a0).trans (by rw [c_Z76 k]; rfl)
theorem c_Z40 (k : Nat) : t_Z40 k = F_Z40 k := by
  cases k with
  | zero => rfl
  | succ k => funext a0; exact (b_Z40 k a0)
theorem c_Z47 (k : Nat) : t_Z47 k = F_Z47 k := by
  cases k with
  | zero => rfl
  | succ k => funext a0 a1; exact (b_Z47 k a0 a1).trans (by rw [c_Z40 k]; rfl)
theorem c_Z6 (k : Nat) : t_Z6 k = F_Z6 k := by
  cases k with
  | zero => rfl
  | succ k => funext a0 a1 a2; exact (b_Z6 k a0 a1 a2).trans (by rw [c_Z47 k]; rfl)
theorem c_Z12 (k : Nat) : t_Z12 k = F_Z12 k := by
  cases k with
  | zero => rfl
  | succ k => funext a0 a1 a2 a3; exact (b_Z12 k a0 a1 a2 a3).trans (by rw [c_Z47 k]; rfl)
theorem c_Z11 (k : Nat) : t_Z11 k = F_Z11 k := by
  cases k with
  | zero => rfl
  | succ k => funext a0 a1 a2; exact (b_Z11 k a0 a1 a2).trans (by rw [c_Z12 k]; rfl)
theorem c_Z19 (k : Nat) : t_Z19 k = F_Z19 k := by
  cases k with
  | zero => rfl
  | succ k => funext a0; exact (b_Z19 k a0).trans (by rw [c_bits_Len k]; rfl)
theorem c_Z21 (k : Nat) : t_Z21 k = F_Z21 k := by
  cases k with
  | zero => rfl
  | succ k => funext a0; exact (b_Z21 k a0)
theorem c_Z5 (k : Nat) : t_Z5 k = F_Z5 k := by
  cases k with
  | zero => rfl
  | succ k => funext a0 a1 a2; exact (b_Z5 k a0 a1 a2).trans (by rw [c_Z19 k, c_Z21 k]; rfl)
theorem c_Z15 (k : Nat) : t_Z15 k = F_Z15 k := by
  cases k with
  | zero => rfl
  | succ k => funext a0 a1 a2 a3; exact (b_Z15 k a0 a1 a2 a3).trans (by rw [c_Z47 k]; rfl)
theorem c_Z14 (k : Nat) : t_Z14 k = F_Z14 k := by
  cases k with
  | zero => rfl
  | succ k => funext a0 a1 a2 a3 a4; exact (b_Z14 k a0 a1 a2 a3 a4).trans (by rw [c_Z15 k]; rfl)
theorem c_Z3 (k : Nat) : t_Z3 k = F_Z3 k := by
  cases k with
  | zero => rfl
  | succ k => funext a0 a1 a2; exact (b_Z3 k a0 a1 a2).trans (by rw [c_Z14 k]; rfl)
theorem c_Z8 (k : Nat) : t_Z8 k = F_Z8 k := by
  cases k with
  | zero => rfl
  | succ k => funext a0 a1 a2; exact (b_Z8 k a0 a1 a2).trans (by rw [c_Z3 k, c_Z14 k]; rfl)
theorem c_Z7 (k : Nat) : t_Z7 k = F_Z7 k := by
  cases k with
  | zero => rfl
  | succ k => funext a0 a1 a2; exact (b_Z7 k a0 a1 a2)
theorem c_Z2 (k : Nat) : t_Z2 k = F_Z2 k := by
  cases k with
  | zero => rfl
  | succ k => funext a0 a1 a2; exact (b_Z2 k a0 a1 a2).trans (by rw [c_Z47 k]; rfl)
theorem c_Z4 (k : Nat) : t_Z4 k = F_Z4 k := by
  cases k with
  | zero => rfl
  | succ k => funext a0 a1 a2 a3; exact (b_Z4 k a0 a1 a2 a3).trans (by rw [c_Z47 k]; rfl)
theorem c_Z10 (k : Nat) : t_Z10 k = F_Z10 k := by
  cases k with
  | zero => rfl
  | succ k => funext a0 a1 a2 a3; exact (b_Z10 k a0 a1 a2 a3).trans (by rw [c_Z47 k]; rfl)
theorem c_slices_pdqsortOrdered_int_ : ∀ k : Nat, (t_Z13 k = F_Z13 k) ∧ True := by
  intro k
  induction k with
  | zero => exact ⟨by funext a0 a1 a2 a3;  first | rfl | (rw [F_Z13]; rfl), trivial⟩
  | succ k ih =>
    obtain ⟨h_Z13, _⟩ := ih
    refine ⟨?_, trivial⟩
    · funext a0 a1 a2 a3; rw [F_Z13_succ]; exact (b_Z13 k a0 a1 a2 a3).trans (by rw [c_Z6 k, c_Z11 k, c_Z5 k, c_Z8 k, c_Z7 k, c_Z2 k, c_Z47 k, c_Z4 k, c_Z10 k, h_Z13])
theorem c_Z13 (k : Nat) : t_Z13 k = F_Z13 k := (c_slices_pdqsortOrdered_int_ k).1
theorem c_Z23 (k : Nat) : t_Z23 k = F_Z23 k := by
  cases k with
  | zero => rfl
  | succ k => funext a0; exact (b_Z23 k a0).trans (by rw [c_bits_Len k, c_Z13 k]; rfl)
theorem c_Z18 (k : Nat) : t_Z18 k = F_Z18 k := by
  cases k with
  | zero => rfl
  | succ k => funext a0; exact (b_Z18 k a0)
theorem c_Z24 (k : Nat) : t_Z24 k = F_Z24 k := by
  cases k with
  | zero => rfl
  | succ k => funext a0; exact (b_Z24 k a0)
theorem c_Z58 (k : Nat) : t_Z58 k = F_Z58 k := by
  cases k with
  | zero => rfl
  | succ k => funext a0; exact (b_Z58 k a0).trans (by rw [c_Z71 k, c_Z23 k, c_Z18 k, c_Z24 k]; rfl)
theorem c_Z28 (k : Nat) : t_Z28 k = F_Z28 k := by
  cases k with
  | zero => rfl
  | succ k => funext a0 a1 a2 a3 a4 a5 a6; exact (b_Z28 k a0 a1 a2 a3 a4 a5 a6)
theorem c_Z9 (k : Nat) : t_Z9 k = F_Z9 k := by
  cases k with
  | zero => rfl
  | succ k => funext a0 a1 a2 a3 a4; exact (b_Z9 k a0 a1 a2 a3 a4).trans (by rw [c_Z50 k, c_Z32 k, c_Z39 k, c_Z28 k]; rfl)
theorem c_Z55 (k : Nat) : t_Z55 k = F_Z55 k := by
  cases k with
  | zero => rfl
  | succ k => funext a0; exact (b_Z55 k a0).trans (by rw [c_Z75 k, c_Z58 k, c_Z9 k]; rfl)
theorem c_Z30 (k : Nat) : t_Z30 k = F_Z30 k := by
  cases k with
  | zero => rfl
  | succ k => funext a0 a1 a2 a3 a4; exact (b_Z30 k a0 a1 a2 a3 a4).trans (by rw [c_Z17 k]; rfl)
theorem c_Z1 (k : Nat) : t_Z1 k = F_Z1 k := by
  cases k with
  | zero => rfl
  | succ k => funext a0 a1 a2 a3 a4; exact (b_Z1 k a0 a1 a2 a3 a4).trans (by rw [c_Z30 k]; rfl)
theorem c_Z0 (k : Nat) : t_Z0 k = F_Z0 k := by
  cases k with
  | zero => rfl
  | succ k => funext a0 a1 a2 a3 a4; exact (b_Z0 k a0 a1 a2 a3 a4).trans (by rw [c_Z1 k]; rfl)
theorem c_Z41 (k : Nat) : t_Z41 k = F_Z41 k := by
  cases k with
  | zero => rfl
  | succ k => funext a0 a1 a2 a3 a4 a5 a6 a7; exact (b_Z41 k a0 a1 a2 a3 a4 a5 a6 a7).trans (by rw [c_Z52 k, c_Z0 k]; rfl)
theorem c_Z25 (k : Nat) : t_Z25 k = F_Z25 k := by
  cases k with
  | zero => rfl
  | succ k => funext a0; exact (b_Z25 k a0).trans (by rw [c_Z38 k, c_Z84 k, c_Z79 k, c_Z55 k, c_Z41 k]; rfl)
theorem fo3 : FnOK Tryz.prog 3 := ⟨Tryz.f3, Tryz.func3, by kernel_rfl, by kernel_rfl⟩
theorem fo4 : FnOK Tryz.prog 4 := ⟨Tryz.f4, Tryz.func4, by kernel_rfl, by kernel_rfl⟩
theorem fo5 : FnOK Tryz.prog 5 := ⟨Tryz.f5, Tryz.func5, by kernel_rfl, by kernel_rfl⟩
theorem fo6 : FnOK Tryz.prog 6 := ⟨Tryz.f6, Tryz.func6, by kernel_rfl, by kernel_rfl⟩
theorem fo7 : FnOK Tryz.prog 7 := ⟨Tryz.f7, Tryz.func7, by kernel_rfl, by kernel_rfl⟩
theorem fo8 : FnOK Tryz.prog 8 := ⟨Tryz.f8, Tryz.func8, by kernel_rfl, by kernel_rfl⟩
theorem fo9 : FnOK Tryz.prog 9 := ⟨Tryz.f9, Tryz.func9, by kernel_rfl, by kernel_rfl⟩
theorem fo10 : FnOK Tryz.prog 10 := ⟨Tryz.f10, Tryz.func10, by kernel_rfl, by kernel_rfl⟩
theorem fo11 : FnOK Tryz.prog 11 := ⟨Tryz.f11, Tryz.func11, by kernel_rfl, by kernel_rfl⟩
theorem fo12 : FnOK Tryz.prog 12 := ⟨Tryz.f12, Tryz.func12, by kernel_rfl, by kernel_rfl⟩
theorem fo13 : FnOK Tryz.prog 13 := ⟨Tryz.f13, Tryz.func13, by kernel_rfl, by kernel_rfl⟩
theorem fo14 : FnOK Tryz.prog 14 := ⟨Tryz.f14, Tryz.func14, by kernel_rfl, by kernel_rfl⟩
theorem fo15 : FnOK Tryz.prog 15 := ⟨Tryz.f15, Tryz.func15, by kernel_rfl, by kernel_rfl⟩
theorem fo16 : FnOK Tryz.prog 16 := ⟨Tryz.f16, Tryz.func16, by kernel_rfl, by kernel_rfl⟩
theorem fo17 : FnOK Tryz.prog 17 := ⟨Tryz.f17, Tryz.func17, by kernel_rfl, by kernel_rfl⟩
theorem fo18 : FnOK Tryz.prog 18 := ⟨Tryz.f18, Tryz.func18, by kernel_rfl, by kernel_rfl⟩
theorem fo19 : FnOK Tryz.prog 19 := ⟨Tryz.f19, Tryz.func19, by kernel_rfl, by kernel_rfl⟩
theorem fo20 : FnOK Tryz.prog 20 := ⟨Tryz.f20, Tryz.func20, by kernel_rfl, by kernel_rfl⟩
theorem fo21 : FnOK Tryz.prog 21 := ⟨Tryz.f21, Tryz.func21, by kernel_rfl, by kernel_rfl⟩
theorem fo22 : FnOK Tryz.prog 22 := ⟨Tryz.f22, Tryz.func22, by kernel_rfl, by kernel_rfl⟩
theorem fo23 : FnOK Tryz.prog 23 := ⟨Tryz.f23, Tryz.func23, by kernel_rfl, by kernel_rfl⟩
theorem fo24 : FnOK Tryz.prog 24 := ⟨Tryz.f24, Tryz.func24, by kernel_rfl, by kernel_rfl⟩
theorem fo25 : FnOK Tryz.prog 25 := ⟨Tryz.f25, Tryz.func25, by kernel_rfl, by kernel_rfl⟩
theorem fo26 : FnOK Tryz.prog 26 := ⟨Tryz.f26, Tryz.func26, by kernel_rfl, by kernel_rfl⟩
theorem fo27 : FnOK Tryz.prog 27 := ⟨Tryz.f27, Tryz.func27, by kernel_rfl, by kernel_rfl⟩
theorem fo28 : FnOK Tryz.prog 28 := ⟨Tryz.f28, Tryz.func28, by kernel_rfl, by kernel_rfl⟩
theorem fo29 : FnOK Tryz.prog 29 := ⟨Tryz.f29, Tryz.func29, by kernel_rfl, by kernel_rfl⟩
theorem fo30 : FnOK Tryz.prog 30 := ⟨Tryz.f30, Tryz.func30, by kernel_rfl, by kernel_rfl⟩
theorem fo31 : FnOK Tryz.prog 31 := ⟨Tryz.f31, Tryz.func31, by kernel_rfl, by kernel_rfl⟩
theorem fo32 : FnOK Tryz.prog 32 := ⟨Tryz.f32, Tryz.func32, by kernel_rfl, by kernel_rfl⟩
theorem fo33 : FnOK Tryz.prog 33 := ⟨Tryz.f33, Tryz.func33, by kernel_rfl, by kernel_rfl⟩
theorem fo34 : FnOK Tryz.prog 34 := ⟨Tryz.f34, Tryz.func34, by kernel_rfl, by kernel_rfl⟩
theorem fo35 : FnOK Tryz.prog 35 := ⟨Tryz.f35, Tryz.func35, by kernel_rfl, by kernel_rfl⟩
theorem fo36 : FnOK Tryz.prog 36 := ⟨Tryz.f36, Tryz.func36, by kernel_rfl, by kernel_rfl⟩
theorem fo37 : FnOK Tryz.prog 37 := ⟨Tryz.f37, Tryz.func37, by kernel_rfl, by kernel_rfl⟩
theorem fo38 : FnOK Tryz.prog 38 := ⟨Tryz.f38, Tryz.func38, by kernel_rfl, by kernel_rfl⟩
theorem fo39 : FnOK Tryz.prog 39 := ⟨Tryz.f39, Tryz.func39, by kernel_rfl, by kernel_rfl⟩
theorem fo40 : FnOK Tryz.prog 40 := ⟨Tryz.f40, Tryz.func40, by kernel_rfl, by kernel_rfl⟩
theorem fo41 : FnOK Tryz.prog 41 := ⟨Tryz.f41, Tryz.func41, by kernel_rfl, by kernel_rfl⟩
theorem fo42 : FnOK Tryz.prog 42 := ⟨Tryz.f42, Tryz.func42, by kernel_rfl, by kernel_rfl⟩
theorem fo43 : FnOK Tryz.prog 43 := ⟨Tryz.f43, Tryz.func43, by kernel_rfl, by kernel_rfl⟩
theorem fo44 : FnOK Tryz.prog 44 := ⟨Tryz.f44, Tryz.func44, by kernel_rfl, by kernel_rfl⟩
theorem fo45 : FnOK Tryz.prog 45 := ⟨Tryz.f45, Tryz.func45, by kernel_rfl, by kernel_rfl⟩
theorem fo46 : FnOK Tryz.prog 46 := ⟨Tryz.f46, Tryz.func46, by kernel_rfl, by kernel_rfl⟩
theorem fo47 : FnOK Tryz.prog 47 := ⟨Tryz.f47, Tryz.func47, by kernel_rfl, by kernel_rfl⟩
theorem fo48 : FnOK Tryz.prog 48 := ⟨Tryz.f48, Tryz.func48, by kernel_rfl, by kernel_rfl⟩
theorem fo49 : FnOK Tryz.prog 49 := ⟨Tryz.f49, Tryz.func49, by kernel_rfl, by kernel_rfl⟩
theorem fo50 : FnOK Tryz.prog 50 := ⟨Tryz.f50, Tryz.func50, by kernel_rfl, by kernel_rfl⟩
theorem fo51 : FnOK Tryz.prog 51 := ⟨Tryz.f51, Tryz.func51, by kernel_rfl, by kernel_rfl⟩
theorem fo52 : FnOK Tryz.prog 52 := ⟨Tryz.f52, Tryz.func52, by kernel_rfl, by kernel_rfl⟩
theorem fo53 : FnOK Tryz.prog 53 := ⟨Tryz.f53, Tryz.func53, by kernel_rfl, by kernel_rfl⟩
theorem fo54 : FnOK Tryz.prog 54 := ⟨Tryz.f54, Tryz.func54, by kernel_rfl, by kernel_rfl⟩
theorem fo55 : FnOK Tryz.prog 55 := ⟨Tryz.f55, Tryz.func55, by kernel_rfl, by kernel_rfl⟩
theorem fo56 : FnOK Tryz.prog 56 := ⟨Tryz.f56, Tryz.func56, by kernel_rfl, by kernel_rfl⟩
theorem fo57 : FnOK Tryz.prog 57 := ⟨Tryz.f57, Tryz.func57, by kernel_rfl, by kernel_rfl⟩
theorem fo58 : FnOK Tryz.prog 58 := ⟨Tryz.f58, Tryz.func58, by kernel_rfl, by kernel_rfl⟩
theorem fo59 : FnOK Tryz.prog 59 := ⟨Tryz.f59, Tryz.func59, by kernel_rfl, by kernel_rfl⟩
theorem fo60 : FnOK Tryz.prog 60 := ⟨Tryz.f60, Tryz.func60, by kernel_rfl, by kernel_rfl⟩
theorem fo61 : FnOK Tryz.prog 61 := ⟨Tryz.f61, Tryz.func61, by kernel_rfl, by kernel_rfl⟩
theorem fo62 : FnOK Tryz.prog 62 := ⟨Tryz.f62, Tryz.func62, by kernel_rfl, by kernel_rfl⟩
theorem fo63 : FnOK Tryz.prog 63 := ⟨Tryz.f63, Tryz.func63, by kernel_rfl, by kernel_rfl⟩
theorem fo64 : FnOK Tryz.prog 64 := ⟨Tryz.f64, Tryz.func64, by kernel_rfl, by kernel_rfl⟩
theorem fo65 : FnOK Tryz.prog 65 := ⟨Tryz.f65, Tryz.func65, by kernel_rfl, by kernel_rfl⟩
theorem fo66 : FnOK Tryz.prog 66 := ⟨Tryz.f66, Tryz.func66, by kernel_rfl, by kernel_rfl⟩
theorem fo67 : FnOK Tryz.prog 67 := ⟨Tryz.f67, Tryz.func67, by kernel_rfl, by kernel_rfl⟩
theorem fo68 : FnOK Tryz.prog 68 := ⟨Tryz.f68, Tryz.func68, by kernel_rfl, by kernel_rfl⟩
theorem fo69 : FnOK Tryz.prog 69 := ⟨Tryz.f69, Tryz.func69, by kernel_rfl, by kernel_rfl⟩
theorem fo70 : FnOK Tryz.prog 70 := ⟨Tryz.f70, Tryz.func70, by kernel_rfl, by kernel_rfl⟩
theorem fo71 : FnOK Tryz.prog 71 := ⟨Tryz.f71, Tryz.func71, by kernel_rfl, by kernel_rfl⟩
theorem fo72 : FnOK Tryz.prog 72 := ⟨Tryz.f72, Tryz.func72, by kernel_rfl, by kernel_rfl⟩
theorem fo73 : FnOK Tryz.prog 73 := ⟨Tryz.f73, Tryz.func73, by kernel_rfl, by kernel_rfl⟩
theorem fo74 : FnOK Tryz.prog 74 := ⟨Tryz.f74, Tryz.func74, by kernel_rfl, by kernel_rfl⟩
theorem fo75 : FnOK Tryz.prog 75 := ⟨Tryz.f75, Tryz.func75, by kernel_rfl, by kernel_rfl⟩
theorem fo76 : FnOK Tryz.prog 76 := ⟨Tryz.f76, Tryz.func76, by kernel_rfl, by kernel_rfl⟩
theorem fo77 : FnOK Tryz.prog 77 := ⟨Tryz.f77, Tryz.func77, by kernel_rfl, by kernel_rfl⟩
theorem fo78 : FnOK Tryz.prog 78 := ⟨Tryz.f78, Tryz.func78, by kernel_rfl, by kernel_rfl⟩
theorem fo79 : FnOK Tryz.prog 79 := ⟨Tryz.f79, Tryz.func79, by kernel_rfl, by kernel_rfl⟩
theorem fo80 : FnOK Tryz.prog 80 := ⟨Tryz.f80, Tryz.func80, by kernel_rfl, by kernel_rfl⟩
theorem fo81 : FnOK Tryz.prog 81 := ⟨Tryz.f81, Tryz.func81, by kernel_rfl, by kernel_rfl⟩
theorem fo82 : FnOK Tryz.prog 82 := ⟨Tryz.f82, Tryz.func82, by kernel_rfl, by kernel_rfl⟩
theorem fo83 : FnOK Tryz.prog 83 := ⟨Tryz.f83, Tryz.func83, by kernel_rfl, by kernel_rfl⟩
theorem fo84 : FnOK Tryz.prog 84 := ⟨Tryz.f84, Tryz.func84, by kernel_rfl, by kernel_rfl⟩
theorem fo85 : FnOK Tryz.prog 85 := ⟨Tryz.f85, Tryz.func85, by kernel_rfl, by kernel_rfl⟩
theorem fo86 : FnOK Tryz.prog 86 := ⟨Tryz.f86, Tryz.func86, by kernel_rfl, by kernel_rfl⟩
theorem fo87 : FnOK Tryz.prog 87 := ⟨Tryz.f87, Tryz.func87, by kernel_rfl, by kernel_rfl⟩
theorem fo88 : FnOK Tryz.prog 88 := ⟨Tryz.f88, Tryz.func88, by kernel_rfl, by kernel_rfl⟩
theorem fo89 : FnOK Tryz.prog 89 := ⟨Tryz.f89, Tryz.func89, by kernel_rfl, by kernel_rfl⟩
theorem fo90 : FnOK Tryz.prog 90 := ⟨Tryz.f90, Tryz.func90, by kernel_rfl, by kernel_rfl⟩
theorem fo91 : FnOK Tryz.prog 91 := ⟨Tryz.f91, Tryz.func91, by kernel_rfl, by kernel_rfl⟩
theorem fo92 : FnOK Tryz.prog 92 := ⟨Tryz.f92, Tryz.func92, by kernel_rfl, by kernel_rfl⟩
theorem fo93 : FnOK Tryz.prog 93 := ⟨Tryz.f93, Tryz.func93, by kernel_rfl, by kernel_rfl⟩
theorem fo94 : FnOK Tryz.prog 94 := ⟨Tryz.f94, Tryz.func94, by kernel_rfl, by kernel_rfl⟩
theorem fo95 : FnOK Tryz.prog 95 := ⟨Tryz.f95, Tryz.func95, by kernel_rfl, by kernel_rfl⟩
theorem fo97 : FnOK Tryz.prog 97 := ⟨Tryz.f97, Tryz.func97, by kernel_rfl, by kernel_rfl⟩
theorem fo98 : FnOK Tryz.prog 98 := ⟨Tryz.f98, Tryz.func98, by kernel_rfl, by kernel_rfl⟩
theorem fo99 : FnOK Tryz.prog 99 := ⟨Tryz.f99, Tryz.func99, by kernel_rfl, by kernel_rfl⟩
theorem fo100 : FnOK Tryz.prog 100 := ⟨Tryz.f100, Tryz.func100, by kernel_rfl, by kernel_rfl⟩
theorem fo101 : FnOK Tryz.prog 101 := ⟨Tryz.f101, Tryz.func101, by kernel_rfl, by kernel_rfl⟩
theorem fo102 : FnOK Tryz.prog 102 := ⟨Tryz.f102, Tryz.func102, by kernel_rfl, by kernel_rfl⟩
theorem fo103 : FnOK Tryz.prog 103 := ⟨Tryz.f103, Tryz.func103, by kernel_rfl, by kernel_rfl⟩
theorem fo104 : FnOK Tryz.prog 104 := ⟨Tryz.f104, Tryz.func104, by kernel_rfl, by kernel_rfl⟩
theorem fo105 : FnOK Tryz.prog 105 := ⟨Tryz.f105, Tryz.func105, by kernel_rfl, by kernel_rfl⟩
theorem fo106 : FnOK Tryz.prog 106 := ⟨Tryz.f106, Tryz.func106, by kernel_rfl, by kernel_rfl⟩
theorem fo107 : FnOK Tryz.prog 107 := ⟨Tryz.f107, Tryz.func107, by kernel_rfl, by kernel_rfl⟩
theorem fo108 : FnOK Tryz.prog 108 := ⟨Tryz.f108, Tryz.func108, by kernel_rfl, by kernel_rfl⟩
theorem fo109 : FnOK Tryz.prog 109 := ⟨Tryz.f109, Tryz.func109, by kernel_rfl, by kernel_rfl⟩
theorem sigs_ok : AllP (fun p => FnOK Tryz.prog (p.1 % 100000)) sigs := ⟨fo3, fo4, fo5, fo6, fo7, fo8, fo9, fo10, fo11, fo12, fo13, fo14, fo15, fo16, fo17, fo18, fo19, fo20, fo21, fo22, fo23, fo24, fo25, fo26, fo27, fo28, fo29, fo30, fo31, fo32, fo33, fo34, fo35, fo36, fo37, fo38, fo39, fo40, fo41, fo42, fo43, fo44, fo45, fo46, fo47, fo48, fo49, fo50, fo51, fo52, fo53, fo54, fo55, fo56, fo57, fo58, fo59, fo60, fo61, fo62, fo63, fo64, fo65, fo66, fo67, fo68, fo69, fo70, fo71, fo72, fo73, fo74, fo75, fo76, fo77, fo78, fo79, fo80, fo81, fo82, fo83, fo84, fo85, fo86, fo87, fo88, fo89, fo90, fo91, fo92, fo93, fo94, fo95, fo97, fo98, fo99, fo100, fo101, fo102, fo103, fo104, fo105, fo106, fo107, fo108, fo109, fo22, trivial⟩
theorem fns_ok : AllP (fun p => Tryz.prog.funcs[p.1 % 100000]? = some p.2.fn) fns := ⟨Tryz.func3, Tryz.func4, Tryz.func5, Tryz.func6, Tryz.func7, Tryz.func8, Tryz.func9, Tryz.func10, Tryz.func11, Tryz.func12, Tryz.func13, Tryz.func14, Tryz.func15, Tryz.func16, Tryz.func17, Tryz.func18, Tryz.func19, Tryz.func20, Tryz.func21, Tryz.func22, Tryz.func23, Tryz.func24, Tryz.func25, Tryz.func26, Tryz.func27, Tryz.func28, Tryz.func29, Tryz.func30, Tryz.func31, Tryz.func32, Tryz.func33, Tryz.func34, Tryz.func35, Tryz.func36, Tryz.func37, Tryz.func38, Tryz.func39, Tryz.func40, Tryz.func41, Tryz.func42, Tryz.func43, Tryz.func44, Tryz.func45, Tryz.func46, Tryz.func47, Tryz.func48, Tryz.func49, Tryz.func50, Tryz.func51, Tryz.func52, Tryz.func53, Tryz.func54, Tryz.func55, Tryz.func56, Tryz.func57, Tryz.func58, Tryz.func59, Tryz.func60, Tryz.func61, Tryz.func62, Tryz.func63, Tryz.func64, Tryz.func65, Tryz.func66, Tryz.func67, Tryz.func68, Tryz.func69, Tryz.func70, Tryz.func71, Tryz.func72, Tryz.func73, Tryz.func74, Tryz.func75, Tryz.func76, Tryz.func77, Tryz.func78, Tryz.func79, Tryz.func80, Tryz.func81, Tryz.func82, Tryz.func83, Tryz.func84, Tryz.func85, Tryz.func86, Tryz.func87, Tryz.func88, Tryz.func89, Tryz.func90, Tryz.func91, Tryz.func92, Tryz.func93, Tryz.func94, Tryz.func95, Tryz.func97, Tryz.func98, Tryz.func99, Tryz.func100, Tryz.func101, Tryz.func102, Tryz.func103, Tryz.func104, Tryz.func105, Tryz.func106, Tryz.func107, Tryz.func108, Tryz.func109, Tryz.func22, trivial⟩
noncomputable def arityB (p : Nat × FnI) : Bool := match lk sigs p.1 with
  | some sg => Nat.ble sg.ps.length p.2.fn.ntmps
  | none => true
theorem arity_ok : fns.all arityB = true := by kernel_rfl
theorem ordered : Tryz.prog.follows .mixedOrders = true := by kernel_rfl
theorem env_ok : EnvOK Tryz.prog ⟨T.tt, fun _ => none, T.eqt, T.sig, fun _ _ _ => none, fun _ => 0⟩ := ⟨fun t i h => tts_ok.mem (t, i) (lk_mem h), fun t h => by
    have h : t ∈ eqts := hasN_mem.1 h
    exact absurd h (by simp [eqts])⟩
theorem envx_ok : EnvCl Tryz.prog (envX (lk tts) (hasN eqts)) := ⟨⟨env_ok.tt, env_ok.eqt⟩, (fun f sg h => by cases h), (fun f sg x r h _ => by cases h)⟩
theorem cl_35 (xs : List Int) (r : sg_Z22.R) (h : chk (room ([] : List Int).length xs.length) (some ((xs, ()), ())) = some r) : CallOK Tryz.prog 35 sg_Z22 (xs, ()) r :=
  clone_ok (e := 3) (t := (.int .i64)) ordered envx_ok (f := 35) (fi := ⟨Tryz.f35, anClone, lk ty_Z22, fun _ => 0⟩) Tryz.func35 (Nat.le_of_ble_eq_true (by kernel_rfl)) (by kernel_rfl) (fun xs => by kernel_rfl) xs r h
theorem tab_ok : TabOK Tryz.prog T where
  ord := ordered
  ok := env_ok
  fnok := fun f sg h => sigs_ok.mem (f, sg) (lk_mem h)
  fns := fun f fi h => fns_ok.mem (f, fi) (lk_mem h)
  arity := fun f fi sg h1 h2 => by
    have := List.all_eq_true.1 arity_ok (f, fi) (lk_mem h1)
    unfold arityB at this
    rw [show lk sigs f = some sg from h2] at this
    exact Nat.le_of_ble_eq_true this
  ext := fun k f sg g x r h1 h2 h3 => by
    have h2 : (bif hasN clones f then cloneX sg else none) = some g := h2
    cases hq : hasN clones f with
    | false => rw [hq] at h2; cases h2
    | true =>
      rw [hq] at h2
      have hm : f ∈ clones := hasN_mem.1 hq
      simp only [clones, List.mem_cons, List.not_mem_nil, or_false] at hm
      rcases hm with rfl
      · exact cloneX_ok (Option.some.inj (h1.symm.trans (show T.sig 35 = some sg_Z22 by kernel_rfl))) cl_35 h2 h3
end Go.Gx

/-
  The tables of the seat, and what each function comes to.
-/
import Derived.Test.YtebjpbnpnmckcaaXGpart5
import Derived.Test.YtebjpbnpnmckcaaProg
import Derived.KernelRfl
import Derived.Test.YtebjpbnpnmckcaaXSh
set_option linter.unusedVariables false
namespace Go.Gx
open Go.Proofs
def tts : List (Nat × TI) := [
  (3, { agg := false, size := 1, bytes := 8, zero := .int .i64 0, fields := [], elem := none, ik := some .i64, isStr := false, isB := false, hasZ := true, arr := none, mp := none }),
  (4, { agg := false, size := 1, bytes := 1, zero := .bool false, fields := [], elem := none, ik := none, isStr := false, isB := true, hasZ := true, arr := none, mp := none }),
  (22, { agg := false, size := 1, bytes := 24, zero := .slice none 0 0, fields := [], elem := some 47, ik := none, isStr := false, isB := false, hasZ := true, arr := none, mp := none }),
  (24, { agg := true, size := 2, bytes := 32, zero := .agg #[.slice none 0 0, .int .i64 0], fields := [(0, 1, false), (1, 1, false)], elem := none, ik := none, isStr := false, isB := false, hasZ := true, arr := none, mp := none }),
  (26, { agg := false, size := 1, bytes := 24, zero := .slice none 0 0, fields := [], elem := some 50, ik := none, isStr := false, isB := false, hasZ := true, arr := none, mp := none }),
  (28, { agg := true, size := 2, bytes := 32, zero := .agg #[.slice none 0 0, .int .i64 0], fields := [(0, 1, false), (1, 1, false)], elem := none, ik := none, isStr := false, isB := false, hasZ := true, arr := none, mp := none }),
  (37, { agg := false, size := 1, bytes := 24, zero := .slice none 0 0, fields := [], elem := some 58, ik := none, isStr := false, isB := false, hasZ := true, arr := none, mp := none }),
  (45, { agg := false, size := 1, bytes := 24, zero := .slice none 0 0, fields := [], elem := some 3, ik := none, isStr := false, isB := false, hasZ := true, arr := none, mp := none }),
  (47, { agg := true, size := 3, bytes := 40, zero := .agg #[.int .i64 0, .int .i64 0, .slice none 0 0], fields := [(0, 1, false), (1, 1, false), (2, 1, false)], elem := none, ik := none, isStr := false, isB := false, hasZ := true, arr := none, mp := none }),
  (50, { agg := true, size := 3, bytes := 40, zero := .agg #[.int .i64 0, .int .i64 0, .slice none 0 0], fields := [(0, 1, false), (1, 1, false), (2, 1, false)], elem := none, ik := none, isStr := false, isB := false, hasZ := true, arr := none, mp := none }),
  (58, { agg := true, size := 2, bytes := 16, zero := .agg #[.int .i64 0, .int .i64 0], fields := [(0, 1, false), (1, 1, false)], elem := none, ik := none, isStr := false, isB := false, hasZ := true, arr := none, mp := none }),
  (61, { agg := true, size := 4, bytes := 80, zero := .agg #[.slice none 0 0, .slice none 0 0, .slice none 0 0, .bool false], fields := [(0, 1, false), (1, 1, false), (2, 1, false), (3, 1, false)], elem := none, ik := none, isStr := false, isB := false, hasZ := true, arr := none, mp := none }),
  (88, { agg := false, size := 1, bytes := 8, zero := .map none, fields := [], elem := none, ik := none, isStr := false, isB := false, hasZ := true, arr := none, mp := some (3, 3) }),
  (90, { agg := true, size := 4, bytes := 64, zero := .agg #[.slice none 0 0, .int .i64 0, .map none, .slice none 0 0], fields := [(0, 1, false), (1, 1, false), (2, 1, false), (3, 1, false)], elem := none, ik := none, isStr := false, isB := false, hasZ := true, arr := none, mp := none }),
  (91, { agg := false, size := 1, bytes := 8, zero := .nilFunc, fields := [], elem := none, ik := none, isStr := false, isB := false, hasZ := true, arr := none, mp := none }),
  (95, { agg := false, size := 1, bytes := 8, zero := .map none, fields := [], elem := none, ik := none, isStr := false, isB := false, hasZ := true, arr := none, mp := some (3, 4) })]
theorem tt3 : tinfo Try.prog 3 = lk tts 3 := by kernel_rfl
theorem tt4 : tinfo Try.prog 4 = lk tts 4 := by kernel_rfl
theorem tt22 : tinfo Try.prog 22 = lk tts 22 := by kernel_rfl
theorem tt24 : tinfo Try.prog 24 = lk tts 24 := by kernel_rfl
theorem tt26 : tinfo Try.prog 26 = lk tts 26 := by kernel_rfl
theorem tt28 : tinfo Try.prog 28 = lk tts 28 := by kernel_rfl
theorem tt37 : tinfo Try.prog 37 = lk tts 37 := by kernel_rfl
theorem tt45 : tinfo Try.prog 45 = lk tts 45 := by kernel_rfl
theorem tt47 : tinfo Try.prog 47 = lk tts 47 := by kernel_rfl
theorem tt50 : tinfo Try.prog 50 = lk tts 50 := by kernel_rfl
theorem tt58 : tinfo Try.prog 58 = lk tts 58 := by kernel_rfl
theorem tt61 : tinfo Try.prog 61 = lk tts 61 := by kernel_rfl
theorem tt88 : tinfo Try.prog 88 = lk tts 88 := by kernel_rfl
theorem tt90 : tinfo Try.prog 90 = lk tts 90 := by kernel_rfl
theorem tt91 : tinfo Try.prog 91 = lk tts 91 := by kernel_rfl
theorem tt95 : tinfo Try.prog 95 = lk tts 95 := by kernel_rfl
theorem tts_ok : AllP (fun p => tinfo Try.prog p.1 = some p.2) tts := ⟨tt3, tt4, tt22, tt24, tt26, tt28, tt37, tt45, tt47, tt50, tt58, tt61, tt88, tt90, tt91, tt95, trivial⟩
abbrev sg_l_szIntS : Sig := ⟨[.leaf (.ro (.int .i64)), .leaf (.int .i64)], [.leaf (.int .i64)]⟩
def an_l_szIntS : Ann := .seq none .leaf (.seq none .leaf (.seq none (.seq none .leaf (.cond (.seq none .leaf .leaf) .leaf)) (.seq none .leaf .leaf)))
def ty_l_szIntS : List (Nat × Ty) := []
def vr_l_szIntS : Nat → Nat := fun _ => 0
abbrev sg_l_szNode : Sig := ⟨[.agg [.int .i64, .int .i64, .ro (.int .i64)], .leaf (.int .i64)], [.leaf (.int .i64)]⟩
def an_l_szNode : Ann := .seq none .leaf (.seq none .leaf (.seq none (.seq none .leaf (.cond (.seq none .leaf .leaf) .leaf)) (.seq none .leaf .leaf)))
def ty_l_szNode : List (Nat × Ty) := []
def vr_l_szNode : Nat → Nat := fun _ => 0
abbrev sg_Z59 : Sig := ⟨[.leaf (.ro (.pair (.int .i64) (.pair (.int .i64) (.sl (.int .i64))))), .leaf (.int .i64)], [.leaf (.int .i64)]⟩
def an_Z59 : Ann := .seq none .leaf (.seq none .leaf (.seq none (.seq none .leaf (.cond (.seq none .leaf .leaf) .leaf)) (.seq none (.seq none .leaf (.block (.loop ⟨[0, 1, 5], [.leaf (.ro (.pair (.int .i64) (.pair (.int .i64) (.sl (.int .i64))))), .leaf (.int .i64), .leaf (.int .i64)]⟩ (.seq none (.seq none .leaf (.cond .leaf .leaf)) (.seq none (.block (.seq none .leaf (.seq none .leaf (.cond (.seq none .leaf .leaf) .leaf)))) .leaf))))) (.seq none .leaf .leaf))))
def ty_Z59 : List (Nat × Ty) := []
def vr_Z59 : Nat → Nat := fun _ => 0
abbrev sg_Z68 : Sig := ⟨[.agg [.ro (.pair (.int .i64) (.pair (.int .i64) (.sl (.int .i64)))), .int .i64], .leaf (.int .i64)], [.leaf (.int .i64)]⟩
def an_Z68 : Ann := .seq none .leaf (.seq none .leaf (.seq none (.seq none .leaf (.cond (.seq none .leaf .leaf) .leaf)) (.seq none .leaf .leaf)))
def ty_Z68 : List (Nat × Ty) := []
def vr_Z68 : Nat → Nat := fun _ => 0
abbrev sg_l_toIntS : Sig := ⟨[.leaf (.ro (.int .i64))], [.leaf (.own 3 (.int .i64))]⟩
def an_l_toIntS : Ann := .seq none .leaf (.seq none .leaf (.seq none (.seq none .leaf (.block (.loop ⟨[0, 3, 4], [.leaf (.ro (.int .i64)), .leaf (.own 3 (.int .i64)), .leaf (.int .i64)]⟩ (.seq none (.seq none .leaf (.cond .leaf .leaf)) (.seq none (.block .leaf) .leaf))))) (.seq none .leaf .leaf)))
def ty_l_toIntS : List (Nat × Ty) := [(3, (.int .i64))]
def vr_l_toIntS : Nat → Nat := fun _ => 0
abbrev sg_l_toNode : Sig := ⟨[.agg [.int .i64, .int .i64, .ro (.int .i64)]], [.agg [.int .i64, .int .i64, .own 3 (.int .i64)]]⟩
def an_l_toNode : Ann := .seq none .leaf (.seq none .leaf (.seq none .leaf (.seq none .leaf (.seq none .leaf (.seq none .leaf .leaf)))))
def ty_l_toNode : List (Nat × Ty) := []
def vr_l_toNode : Nat → Nat := fun _ => 0
abbrev sg_Z58 : Sig := ⟨[.leaf (.ro (.pair (.int .i64) (.pair (.int .i64) (.sl (.int .i64)))))], [.leaf (.own 50 (.pair (.int .i64) (.pair (.int .i64) (.os 3 (.int .i64)))))]⟩
def an_Z58 : Ann := .seq none .leaf (.seq none .leaf (.seq none (.seq none .leaf (.block (.loop ⟨[0, 3, 4], [.leaf (.ro (.pair (.int .i64) (.pair (.int .i64) (.sl (.int .i64))))), .leaf (.own 50 (.pair (.int .i64) (.pair (.int .i64) (.os 3 (.int .i64))))), .leaf (.int .i64)]⟩ (.seq none (.seq none .leaf (.cond .leaf .leaf)) (.seq none (.block .leaf) .leaf))))) (.seq none .leaf .leaf)))
def ty_Z58 : List (Nat × Ty) := [(50, (.pair (.int .i64) (.pair (.int .i64) (.os 3 (.int .i64)))))]
def vr_Z58 : Nat → Nat := fun _ => 0
abbrev sg_Z71 : Sig := ⟨[.agg [.ro (.pair (.int .i64) (.pair (.int .i64) (.sl (.int .i64)))), .int .i64]], [.agg [.own 50 (.pair (.int .i64) (.pair (.int .i64) (.os 3 (.int .i64)))), .int .i64]]⟩
def an_Z71 : Ann := .seq none .leaf (.seq none .leaf (.seq none .leaf (.seq none .leaf (.seq none .leaf .leaf))))
def ty_Z71 : List (Nat × Ty) := []
def vr_Z71 : Nat → Nat := fun _ => 0
abbrev sg_Z56 : Sig := ⟨[.leaf (.int .i64), .leaf (.int .i64), .leaf (.int .i64)], [.leaf .bool]⟩
def an_Z56 : Ann := .seq none .leaf (.seq none .leaf .leaf)
def ty_Z56 : List (Nat × Ty) := []
def vr_Z56 : Nat → Nat := fun _ => 0
abbrev sg_s_allIn : Sig := ⟨[.leaf (.ro (.int .i64)), .leaf (.int .i64), .leaf (.int .i64)], [.leaf .bool]⟩
def an_s_allIn : Ann := .seq none .leaf (.seq none (.seq none .leaf (.block (.loop ⟨[0, 1, 2, 7], [.leaf (.ro (.int .i64)), .leaf (.int .i64), .leaf (.int .i64), .leaf (.int .i64)]⟩ (.seq none (.seq none .leaf (.cond .leaf .leaf)) (.seq none (.block (.seq none .leaf (.cond (.seq none .leaf .leaf) .leaf))) .leaf))))) (.seq none .leaf .leaf))
def ty_s_allIn : List (Nat × Ty) := []
def vr_s_allIn : Nat → Nat := fun _ => 0
abbrev sg_s_isKey : Sig := ⟨[.agg [.int .i64, .int .i64, .any]], [.leaf .bool]⟩
def an_s_isKey : Ann := .seq none .leaf (.seq none .leaf .leaf)
def ty_s_isKey : List (Nat × Ty) := []
def vr_s_isKey : Nat → Nat := fun _ => 0
abbrev sg_Z55 : Sig := ⟨[.agg [.int .i64, .int .i64, .any], .agg [.int .i64, .int .i64, .any]], [.leaf .bool]⟩
def an_Z55 : Ann := .seq none .leaf (.seq none .leaf .leaf)
def ty_Z55 : List (Nat × Ty) := []
def vr_Z55 : Nat → Nat := fun _ => 0
abbrev sg_Z36 : Sig := ⟨[.agg [.ro (.pair (.int .i64) (.pair (.int .i64) (.sl (.int .i64)))), .int .i64], .agg [.int .i64, .int .i64, .ro (.int .i64)]], [.leaf .bool]⟩
def an_Z36 : Ann := .seq none .leaf (.seq none (.seq none .leaf (.block (.loop ⟨[2, 3, 5], [.box 28 [.ro (.pair (.int .i64) (.pair (.int .i64) (.sl (.int .i64)))), .int .i64] [], .box 50 [.int .i64, .int .i64, .ro (.int .i64)] [], .leaf (.int .i64)]⟩ (.seq none (.seq none .leaf (.cond .leaf .leaf)) (.seq none (.block (.seq none (.seq none .leaf (.cond (.seq none .leaf .leaf) .leaf)) (.seq none .leaf (.block (.loop ⟨[2, 3, 5, 6], [.box 28 [.ro (.pair (.int .i64) (.pair (.int .i64) (.sl (.int .i64)))), .int .i64] [], .box 50 [.int .i64, .int .i64, .ro (.int .i64)] [], .leaf (.int .i64), .leaf (.int .i64)]⟩ (.seq none (.seq none .leaf (.cond .leaf .leaf)) (.seq none (.block (.seq none .leaf (.cond (.seq none .leaf .leaf) .leaf))) .leaf))))))) .leaf))))) (.seq none .leaf .leaf))
def ty_Z36 : List (Nat × Ty) := []
def vr_Z36 : Nat → Nat := fun _ => 0
abbrev sg_Z45 : Sig := ⟨[.agg [.ro (.pair (.int .i64) (.pair (.int .i64) (.sl (.int .i64)))), .int .i64], .agg [.int .i64, .int .i64, .ro (.int .i64)]], [.leaf .bool]⟩
def an_Z45 : Ann := .seq none .leaf (.seq none (.seq (some ⟨[2, 3, 18], [.box 28 [.ro (.pair (.int .i64) (.pair (.int .i64) (.sl (.int .i64)))), .int .i64] [], .box 50 [.int .i64, .int .i64, .ro (.int .i64)] [], .leaf .bool]⟩) .leaf (.cond (.seq none .leaf .leaf) .leaf)) (.seq none (.seq none .leaf (.block (.seq none .leaf (.cond (.seq none .leaf .leaf) (.seq none .leaf (.cond (.seq none .leaf .leaf) (.seq (some ⟨[2, 3, 20, 43], [.box 28 [.ro (.pair (.int .i64) (.pair (.int .i64) (.sl (.int .i64)))), .int .i64] [], .box 50 [.int .i64, .int .i64, .ro (.int .i64)] [], .leaf (.int .i64), .leaf .bool]⟩) (.seq none .leaf (.cond .leaf .leaf)) (.cond (.seq none .leaf .leaf) (.seq none .leaf (.cond (.seq none .leaf .leaf) (.seq none .leaf (.cond (.seq none .leaf .leaf) .leaf)))))))))))) (.seq none .leaf .leaf)))
def ty_Z45 : List (Nat × Ty) := []
def vr_Z45 : Nat → Nat := fun _ => 0
abbrev sg_Z48 : Sig := ⟨[.leaf (.ro (.int .i64))], [.leaf (.own 3 (.int .i64))]⟩
def an_Z48 : Ann := .seq none .leaf (.seq none .leaf .leaf)
def ty_Z48 : List (Nat × Ty) := [(3, (.int .i64))]
def vr_Z48 : Nat → Nat := fun _ => 0
abbrev sg_Z67 : Sig := ⟨[.leaf (.ro (.int .i64)), .leaf (.int .i64)], [.leaf (.int .i64)]⟩
def an_Z67 : Ann := .seq none .leaf (.seq none (.seq none .leaf (.block (.loop ⟨[0, 1, 5], [.leaf (.ro (.int .i64)), .leaf (.int .i64), .leaf (.int .i64)]⟩ (.seq none (.seq none .leaf (.cond .leaf .leaf)) (.seq none (.block (.seq none .leaf (.cond (.seq none .leaf .leaf) .leaf))) .leaf))))) (.seq none .leaf .leaf))
def ty_Z67 : List (Nat × Ty) := []
def vr_Z67 : Nat → Nat := fun _ => 0
abbrev sg_Z30 : Sig := ⟨[.agg [.ro (.pair (.int .i64) (.pair (.int .i64) (.sl (.int .i64)))), .int .i64], .leaf (.int .i64)], [.leaf (.own 3 (.int .i64))]⟩
def an_Z30 : Ann := .seq none .leaf (.seq none .leaf (.seq none .leaf (.seq none (.seq none .leaf (.block (.loop ⟨[2, 5, 6, 7], [.box 28 [.ro (.pair (.int .i64) (.pair (.int .i64) (.sl (.int .i64)))), .int .i64] [], .leaf (.own 3 (.int .i64)), .leaf (.own 3 (.int .i64)), .leaf (.int .i64)]⟩ (.seq none (.seq none .leaf (.cond .leaf .leaf)) (.seq (some ⟨[2, 5, 6, 7], [.box 28 [.ro (.pair (.int .i64) (.pair (.int .i64) (.sl (.int .i64)))), .int .i64] [], .leaf (.own 3 (.int .i64)), .leaf (.own 3 (.int .i64)), .leaf (.int .i64)]⟩) (.block (.seq none .leaf (.cond (.seq none .leaf (.seq none .leaf (.cond .leaf .leaf))) .leaf))) .leaf))))) (.seq none .leaf .leaf))))
def ty_Z30 : List (Nat × Ty) := [(3, (.int .i64))]
def vr_Z30 : Nat → Nat := fun _ => 0
abbrev sg_Z26 : Sig := ⟨[.agg [.ro (.pair (.int .i64) (.pair (.int .i64) (.sl (.int .i64)))), .int .i64]], [.leaf .bool]⟩
def an_Z26 : Ann := .seq none .leaf (.seq none (.seq (some ⟨[1, 19], [.box 28 [.ro (.pair (.int .i64) (.pair (.int .i64) (.sl (.int .i64)))), .int .i64] [], .leaf .bool]⟩) .leaf (.cond (.seq none .leaf .leaf) .leaf)) (.seq none (.seq none .leaf (.block (.loop ⟨[1, 3], [.box 28 [.ro (.pair (.int .i64) (.pair (.int .i64) (.sl (.int .i64)))), .int .i64] [], .leaf (.int .i64)]⟩ (.seq none (.seq none .leaf (.cond .leaf .leaf)) (.seq none (.block (.seq none .leaf (.cond (.seq none .leaf .leaf) .leaf))) .leaf))))) (.seq none (.seq none .leaf (.block (.loop ⟨[1, 4], [.box 28 [.ro (.pair (.int .i64) (.pair (.int .i64) (.sl (.int .i64)))), .int .i64] [], .leaf (.int .i64)]⟩ (.seq none (.seq none .leaf (.cond .leaf .leaf)) (.seq none (.block (.seq (some ⟨[1, 4, 56], [.box 28 [.ro (.pair (.int .i64) (.pair (.int .i64) (.sl (.int .i64)))), .int .i64] [], .leaf (.int .i64), .leaf .bool]⟩) .leaf (.cond (.seq none .leaf .leaf) .leaf))) .leaf))))) (.seq none .leaf .leaf))))
def ty_Z26 : List (Nat × Ty) := []
def vr_Z26 : Nat → Nat := fun _ => 0
abbrev sg_Z44 : Sig := ⟨[.agg [.ro (.pair (.int .i64) (.pair (.int .i64) (.sl (.int .i64)))), .int .i64]], [.leaf (.own 3 (.int .i64))]⟩
def an_Z44 : Ann := .seq none .leaf (.seq none .leaf (.seq none (.seq none .leaf (.block (.loop ⟨[1, 3, 4], [.box 28 [.ro (.pair (.int .i64) (.pair (.int .i64) (.sl (.int .i64)))), .int .i64] [], .leaf (.own 3 (.int .i64)), .leaf (.int .i64)]⟩ (.seq none (.seq none .leaf (.cond .leaf .leaf)) (.seq none (.block .leaf) .leaf))))) (.seq none .leaf .leaf)))
def ty_Z44 : List (Nat × Ty) := [(3, (.int .i64))]
def vr_Z44 : Nat → Nat := fun _ => 0
abbrev sg_s_emit : Sig := ⟨[.leaf (.ro (.pair (.int .i64) (.int .i64))), .leaf (.ro (.pair (.int .i64) (.int .i64)))], [.leaf (.own 58 (.pair (.int .i64) (.int .i64)))]⟩
def an_s_emit : Ann := .seq none .leaf (.seq none .leaf .leaf)
def ty_s_emit : List (Nat × Ty) := [(58, (.pair (.int .i64) (.int .i64)))]
def vr_s_emit : Nat → Nat := fun _ => 0
abbrev sg_s_memoed : Sig := ⟨[.leaf (.ro (.pair (.int .i64) (.int .i64))), .leaf (.ro (.int .i64)), .leaf (.int .i64)], [.leaf (.own 58 (.pair (.int .i64) (.int .i64))), .leaf (.own 3 (.int .i64))]⟩
def an_s_memoed : Ann := .seq none .leaf (.seq none .leaf (.seq none (.seq none .leaf (.block (.loop ⟨[0, 1, 2, 8, 9], [.leaf (.ro (.pair (.int .i64) (.int .i64))), .leaf (.ro (.int .i64)), .leaf (.int .i64), .leaf (.int .i64), .leaf (.int .i64)]⟩ (.seq none (.seq none .leaf (.cond .leaf .leaf)) (.seq (some ⟨[0, 1, 2, 8, 9], [.leaf (.ro (.pair (.int .i64) (.int .i64))), .leaf (.ro (.int .i64)), .leaf (.int .i64), .leaf (.int .i64), .leaf (.int .i64)]⟩) (.block (.seq none .leaf (.cond .leaf .leaf))) .leaf))))) (.seq none .leaf (.seq none .leaf (.seq none .leaf .leaf)))))
def ty_s_memoed : List (Nat × Ty) := [(58, (.pair (.int .i64) (.int .i64)))]
def vr_s_memoed : Nat → Nat := fun _ => 0
abbrev sg_Z70 : Sig := ⟨[.agg [.ro (.pair (.int .i64) (.pair (.int .i64) (.sl (.int .i64)))), .int .i64], .leaf (.int .i64), .leaf (.ro (.int .i64)), .leaf (.ro (.pair (.int .i64) (.int .i64))), .leaf (.ro (.int .i64))], [.leaf (.ro (.pair (.int .i64) (.int .i64))), .leaf (.ro (.int .i64))]⟩
def an_Z70 : Ann := .seq none .leaf (.seq none (.seq none .leaf (.block (.loop ⟨[1, 2, 3, 4, 5, 12], [.leaf (.int .i64), .leaf (.ro (.int .i64)), .leaf (.ro (.pair (.int .i64) (.int .i64))), .leaf (.ro (.int .i64)), .box 28 [.ro (.pair (.int .i64) (.pair (.int .i64) (.sl (.int .i64)))), .int .i64] [], .leaf (.int .i64)]⟩ (.seq none (.seq none .leaf (.cond .leaf .leaf)) (.seq none (.block .leaf) .leaf))))) (.seq none .leaf .leaf))
def ty_Z70 : List (Nat × Ty) := []
def vr_Z70 : Nat → Nat := fun _ => 0
abbrev sg_Z39 : Sig := ⟨[.agg [.ro (.pair (.int .i64) (.pair (.int .i64) (.sl (.int .i64)))), .int .i64], .leaf (.int .i64), .leaf (.int .i64), .leaf (.ro (.pair (.int .i64) (.int .i64))), .leaf (.ro (.int .i64))], [.leaf (.ro (.pair (.int .i64) (.int .i64))), .leaf (.ro (.int .i64))]⟩
def an_Z39 : Ann := .seq none .leaf (.seq none .leaf (.seq none (.seq none .leaf (.cond (.seq none .leaf .leaf) .leaf)) (.seq (some ⟨[1, 2, 3, 4, 5, 12, 13], [.leaf (.int .i64), .leaf (.int .i64), .leaf (.ro (.pair (.int .i64) (.int .i64))), .leaf (.ro (.int .i64)), .box 28 [.ro (.pair (.int .i64) (.pair (.int .i64) (.sl (.int .i64)))), .int .i64] [], .leaf (.ro (.int .i64)), .leaf .bool]⟩) .leaf (.seq (some ⟨[1, 2, 3, 4, 5, 12, 13], [.leaf (.int .i64), .leaf (.int .i64), .leaf (.ro (.pair (.int .i64) (.int .i64))), .leaf (.ro (.int .i64)), .box 28 [.ro (.pair (.int .i64) (.pair (.int .i64) (.sl (.int .i64)))), .int .i64] [], .leaf (.ro (.int .i64)), .leaf .bool]⟩) (.seq none .leaf (.cond .leaf .leaf)) (.seq none .leaf (.seq none (.seq none .leaf (.cond (.seq none (.seq none .leaf (.block (.loop ⟨[2, 3, 4, 12, 13, 14], [.leaf (.int .i64), .leaf (.ro (.pair (.int .i64) (.int .i64))), .leaf (.ro (.int .i64)), .leaf (.ro (.int .i64)), .leaf .bool, .leaf (.int .i64)]⟩ (.seq none (.seq (some ⟨[2, 3, 4, 12, 13, 14, 67], [.leaf (.int .i64), .leaf (.ro (.pair (.int .i64) (.int .i64))), .leaf (.ro (.int .i64)), .leaf (.ro (.int .i64)), .leaf .bool, .leaf (.int .i64), .leaf .bool]⟩) .leaf (.cond .leaf .leaf)) (.seq none (.block .leaf) .leaf))))) (.seq (some ⟨[2, 3, 4], [.leaf (.int .i64), .leaf (.ro (.pair (.int .i64) (.int .i64))), .leaf (.ro (.int .i64))]⟩) (.seq none .leaf (.cond .leaf .leaf)) (.seq none .leaf .leaf))) .leaf)) (.seq none .leaf (.seq (some ⟨[2, 3, 4, 15], [.leaf (.int .i64), .leaf (.ro (.pair (.int .i64) (.int .i64))), .leaf (.ro (.int .i64)), .leaf (.int .i64)]⟩) (.seq none .leaf (.cond .leaf .leaf)) (.seq none .leaf .leaf)))))))))
def ty_Z39 : List (Nat × Ty) := [(58, (.pair (.int .i64) (.int .i64)))]
def vr_Z39 : Nat → Nat := fun _ => 0
abbrev sg_s_fill : Sig := ⟨[.agg [.ro (.pair (.int .i64) (.pair (.int .i64) (.sl (.int .i64)))), .int .i64], .leaf (.int .i64), .leaf (.ro (.int .i64)), .leaf (.int .i64), .leaf (.int .i64), .leaf (.int .i64), .leaf (.ro (.pair (.int .i64) (.int .i64))), .leaf (.ro (.int .i64))], [.leaf (.ro (.pair (.int .i64) (.int .i64))), .leaf (.ro (.int .i64))]⟩
def an_s_fill : Ann := .seq none .leaf (.seq none (.seq (some ⟨[1, 2, 3, 4, 5, 6, 7, 8, 26], [.leaf (.int .i64), .leaf (.ro (.int .i64)), .leaf (.int .i64), .leaf (.int .i64), .leaf (.int .i64), .leaf (.ro (.pair (.int .i64) (.int .i64))), .leaf (.ro (.int .i64)), .box 28 [.ro (.pair (.int .i64) (.pair (.int .i64) (.sl (.int .i64)))), .int .i64] [], .leaf .bool]⟩) .leaf (.cond (.seq none .leaf (.seq none .leaf (.seq none .leaf .leaf))) .leaf)) (.seq none (.seq none .leaf (.block (.loop ⟨[1, 2, 3, 4, 6, 7, 8, 18], [.leaf (.int .i64), .leaf (.ro (.int .i64)), .leaf (.int .i64), .leaf (.int .i64), .leaf (.ro (.pair (.int .i64) (.int .i64))), .leaf (.ro (.int .i64)), .box 28 [.ro (.pair (.int .i64) (.pair (.int .i64) (.sl (.int .i64)))), .int .i64] [], .leaf (.int .i64)]⟩ (.seq none (.seq none .leaf (.cond .leaf .leaf)) (.seq none (.block (.seq none .leaf .leaf)) .leaf))))) (.seq none .leaf .leaf)))
def ty_s_fill : List (Nat × Ty) := [(58, (.pair (.int .i64) (.int .i64)))]
def vr_s_fill : Nat → Nat := fun _ => 0
abbrev sg_s_save : Sig := ⟨[.agg [.ro (.pair (.int .i64) (.pair (.int .i64) (.sl (.int .i64)))), .int .i64], .leaf (.int .i64), .leaf (.int .i64), .leaf (.ro (.pair (.int .i64) (.int .i64))), .leaf (.ro (.int .i64))], [.leaf (.ro (.pair (.int .i64) (.int .i64))), .leaf (.ro (.int .i64))]⟩
def an_s_save : Ann := .seq none .leaf (.seq none .leaf (.seq none (.seq none .leaf (.cond (.seq none .leaf .leaf) .leaf)) (.seq none (.seq none .leaf (.block (.seq none .leaf (.cond (.seq none .leaf .leaf) (.seq none .leaf (.cond (.seq none .leaf .leaf) (.seq none .leaf (.cond (.seq none .leaf .leaf) (.seq none .leaf (.cond (.seq none .leaf (.seq none .leaf .leaf)) (.seq none .leaf (.cond (.seq none .leaf (.seq none .leaf .leaf)) .leaf)))))))))))) (.seq none .leaf (.seq none .leaf (.seq (some ⟨[3, 4], [.leaf (.ro (.pair (.int .i64) (.int .i64))), .leaf (.ro (.int .i64))]⟩) (.seq none .leaf (.cond .leaf .leaf)) (.seq none .leaf .leaf)))))))
def ty_s_save : List (Nat × Ty) := [(58, (.pair (.int .i64) (.int .i64)))]
def vr_s_save : Nat → Nat := fun _ => 0
abbrev sg_Z65 : Sig := ⟨[.agg [.ro (.pair (.int .i64) (.pair (.int .i64) (.sl (.int .i64)))), .int .i64], .leaf (.int .i64)], [.leaf (.own 58 (.pair (.int .i64) (.int .i64)))]⟩
def an_Z65 : Ann := .seq none .leaf (.seq none .leaf (.seq none .leaf .leaf))
def ty_Z65 : List (Nat × Ty) := [(58, (.pair (.int .i64) (.int .i64)))]
def vr_Z65 : Nat → Nat := fun _ => 0
abbrev sg_s_argOf : Sig := ⟨[.leaf (.int .i64)], [.leaf (.int .i64)]⟩
def an_s_argOf : Ann := .seq none .leaf (.seq none (.seq none .leaf (.block (.seq none .leaf (.cond (.seq none .leaf .leaf) (.seq none .leaf (.cond (.seq none .leaf .leaf) (.seq none .leaf (.cond (.seq none .leaf .leaf) (.seq (some ⟨[10], [.leaf .bool]⟩) (.seq none .leaf (.cond .leaf .leaf)) (.cond (.seq none .leaf .leaf) .leaf)))))))))) (.seq none .leaf .leaf))
def ty_s_argOf : List (Nat × Ty) := []
def vr_s_argOf : Nat → Nat := fun _ => 0
abbrev sg_Z62 : Sig := ⟨[.agg [.int .i64, .int .i64]], [.leaf .bool]⟩
def an_Z62 : Ann := .seq none .leaf (.seq none .leaf (.seq none .leaf .leaf))
def ty_Z62 : List (Nat × Ty) := []
def vr_Z62 : Nat → Nat := fun _ => 0
abbrev sg_Z51 : Sig := ⟨[.leaf (.ro (.pair (.int .i64) (.int .i64)))], [.leaf .bool]⟩
def an_Z51 : Ann := .seq none .leaf (.seq none (.seq none .leaf (.block (.loop ⟨[0, 3], [.leaf (.ro (.pair (.int .i64) (.int .i64))), .leaf (.int .i64)]⟩ (.seq none (.seq none .leaf (.cond .leaf .leaf)) (.seq none (.block (.seq none .leaf (.cond (.seq none .leaf .leaf) .leaf))) .leaf))))) (.seq none .leaf .leaf))
def ty_Z51 : List (Nat × Ty) := []
def vr_Z51 : Nat → Nat := fun _ => 0
abbrev sg_Z28 : Sig := ⟨[], [.agg [.nil, .nil, .own 3 (.int .i64), .bool]]⟩
def an_Z28 : Ann := .seq none .leaf (.seq none .leaf (.seq none (.seq none .leaf (.block (.loop ⟨[0, 1, 2], [.box 61 [.nil, .nil, .nil, .bool] [], .box 61 [.nil, .nil, .own 3 (.int .i64), .bool] [], .leaf (.int .i64)]⟩ (.seq none (.seq none .leaf (.cond .leaf .leaf)) (.seq none (.block .leaf) .leaf))))) (.seq none .leaf .leaf)))
def ty_Z28 : List (Nat × Ty) := [(3, (.int .i64))]
def vr_Z28 : Nat → Nat := fun _ => 0
abbrev sg_Z20 : Sig := ⟨[.agg [.ro (.pair (.int .i64) (.pair (.int .i64) (.sl (.int .i64)))), .ro (.int .i64), .ro (.int .i64), .bool]], [.agg [.own 50 (.pair (.int .i64) (.pair (.int .i64) (.os 3 (.int .i64)))), .own 3 (.int .i64), .own 3 (.int .i64), .bool]]⟩
def an_Z20 : Ann := .seq none .leaf (.seq none .leaf (.seq none (.seq none .leaf (.block (.loop ⟨[1, 2, 3, 4], [.box 61 [.ro (.pair (.int .i64) (.pair (.int .i64) (.sl (.int .i64)))), .ro (.int .i64), .ro (.int .i64), .bool] [], .box 61 [.nil, .nil, .nil, .bool] [], .box 61 [.own 50 (.pair (.int .i64) (.pair (.int .i64) (.os 3 (.int .i64)))), .own 3 (.int .i64), .own 3 (.int .i64), .bool] [], .leaf (.int .i64)]⟩ (.seq none (.seq none .leaf (.cond .leaf .leaf)) (.seq none (.block .leaf) .leaf))))) (.seq none .leaf .leaf)))
def ty_Z20 : List (Nat × Ty) := [(50, (.pair (.int .i64) (.pair (.int .i64) (.os 3 (.int .i64)))))]
def vr_Z20 : Nat → Nat := fun _ => 0
abbrev sg_s_push : Sig := ⟨[.agg [.own 50 (.pair (.int .i64) (.pair (.int .i64) (.os 3 (.int .i64)))), .own 3 (.int .i64), .own 3 (.int .i64), .bool], .agg [.int .i64, .int .i64, .own 3 (.int .i64)]], [.agg [.own 50 (.pair (.int .i64) (.pair (.int .i64) (.os 3 (.int .i64)))), .own 3 (.int .i64), .own 3 (.int .i64), .bool]]⟩
def an_s_push : Ann := .seq none .leaf (.seq none .leaf (.seq none .leaf (.seq none .leaf .leaf)))
def ty_s_push : List (Nat × Ty) := [(3, (.int .i64)), (50, (.pair (.int .i64) (.pair (.int .i64) (.os 3 (.int .i64)))))]
def vr_s_push : Nat → Nat := fun _ => 0
abbrev sg_s_markAt : Sig := ⟨[.agg [.ro (.pair (.int .i64) (.pair (.int .i64) (.sl (.int .i64)))), .ro (.int .i64), .ro (.int .i64), .bool]], [.leaf (.int .i64)]⟩
def an_s_markAt : Ann := .seq none .leaf (.seq none (.seq none .leaf (.block (.loop ⟨[1, 3], [.box 61 [.ro (.pair (.int .i64) (.pair (.int .i64) (.sl (.int .i64)))), .ro (.int .i64), .ro (.int .i64), .bool] [], .leaf (.int .i64)]⟩ (.seq none (.seq none .leaf (.cond .leaf .leaf)) (.seq none (.block (.seq none .leaf (.cond (.seq none .leaf .leaf) .leaf))) .leaf))))) (.seq none .leaf .leaf))
def ty_s_markAt : List (Nat × Ty) := []
def vr_s_markAt : Nat → Nat := fun _ => 0
abbrev sg_s_drop : Sig := ⟨[.agg [.own 50 (.pair (.int .i64) (.pair (.int .i64) (.os 3 (.int .i64)))), .own 3 (.int .i64), .own 3 (.int .i64), .bool], .leaf (.int .i64)], [.agg [.own 50 (.pair (.int .i64) (.pair (.int .i64) (.os 3 (.int .i64)))), .own 3 (.int .i64), .own 3 (.int .i64), .bool]]⟩
def an_s_drop : Ann := .seq none .leaf (.seq none .leaf (.seq none .leaf .leaf))
def ty_s_drop : List (Nat × Ty) := []
def vr_s_drop : Nat → Nat := fun _ => 0
abbrev sg_s_top : Sig := ⟨[.agg [.ro (.pair (.int .i64) (.pair (.int .i64) (.sl (.int .i64)))), .ro (.int .i64), .ro (.int .i64), .bool], .leaf (.int .i64)], [.leaf (.int .i64)]⟩
def an_s_top : Ann := .seq none .leaf (.seq none .leaf (.seq none (.seq none .leaf (.cond (.seq none .leaf .leaf) .leaf)) (.seq none .leaf .leaf)))
def ty_s_top : List (Nat × Ty) := []
def vr_s_top : Nat → Nat := fun _ => 0
abbrev sg_s_kindOf : Sig := ⟨[.agg [.ro (.pair (.int .i64) (.pair (.int .i64) (.sl (.int .i64)))), .ro (.int .i64), .ro (.int .i64), .bool], .leaf (.int .i64)], [.leaf (.int .i64)]⟩
def an_s_kindOf : Ann := .seq none .leaf (.seq none (.seq none .leaf (.cond (.seq none .leaf .leaf) .leaf)) (.seq none .leaf .leaf))
def ty_s_kindOf : List (Nat × Ty) := []
def vr_s_kindOf : Nat → Nat := fun _ => 0
abbrev sg_Z52 : Sig := ⟨[.agg [.ro (.pair (.int .i64) (.pair (.int .i64) (.sl (.int .i64)))), .ro (.int .i64), .ro (.int .i64), .bool], .leaf (.ro (.int .i64))], [.leaf .bool]⟩
def an_Z52 : Ann := .seq none .leaf (.seq none (.seq none .leaf (.block (.loop ⟨[1, 2, 5], [.leaf (.ro (.int .i64)), .box 61 [.ro (.pair (.int .i64) (.pair (.int .i64) (.sl (.int .i64)))), .ro (.int .i64), .ro (.int .i64), .bool] [], .leaf (.int .i64)]⟩ (.seq none (.seq none .leaf (.cond .leaf .leaf)) (.seq none (.block (.seq none .leaf (.cond (.seq none .leaf .leaf) .leaf))) .leaf))))) (.seq none .leaf .leaf))
def ty_Z52 : List (Nat × Ty) := []
def vr_Z52 : Nat → Nat := fun _ => 0
abbrev sg_Z69 : Sig := ⟨[.agg [.ownA 1 50 (.pair (.int .i64) (.pair (.int .i64) (.os 3 (.int .i64)))), .own 3 (.int .i64), .own 3 (.int .i64), .bool], .leaf (.int .i64), .leaf (.int .i64), .leaf (.int .i64)], [.agg [.own 50 (.pair (.int .i64) (.pair (.int .i64) (.os 3 (.int .i64)))), .own 3 (.int .i64), .own 3 (.int .i64), .bool]]⟩
def an_Z69 : Ann := .seq none .leaf (.seq none .leaf (.seq none (.seq none .leaf (.block (.loop ⟨[1, 2, 3, 8, 9, 10, 4], [.leaf (.int .i64), .leaf (.int .i64), .leaf (.int .i64), .box 61 [.nil, .nil, .nil, .bool] [], .leaf (.ownA 600576 3 (.int .i64)), .leaf (.int .i64), .box 61 [.hol 1 50 (.pair (.int .i64) (.pair (.int .i64) (.os 3 (.int .i64)))) 2 600576, .own 3 (.int .i64), .own 3 (.int .i64), .bool] []]⟩ (.seq none (.seq none .leaf (.cond .leaf .leaf)) (.seq none (.block (.seq none .leaf (.cond (.seq none .leaf (.seq none .leaf .leaf)) .leaf))) .leaf))))) (.seq none .leaf (.seq none .leaf .leaf))))
def ty_Z69 : List (Nat × Ty) := [(3, (.int .i64))]
def vr_Z69 : Nat → Nat := fun _ => 0
abbrev sg_Z53 : Sig := ⟨[.agg [.own 50 (.pair (.int .i64) (.pair (.int .i64) (.os 3 (.int .i64)))), .own 3 (.int .i64), .own 3 (.int .i64), .bool], .agg [.int .i64, .int .i64]], [.agg [.own 50 (.pair (.int .i64) (.pair (.int .i64) (.os 3 (.int .i64)))), .own 3 (.int .i64), .own 3 (.int .i64), .bool], .leaf .bool]⟩
def an_Z53 : Ann := .seq none .leaf (.seq none .leaf (.seq none (.seq none .leaf (.cond (.seq none .leaf .leaf) .leaf)) (.seq none .leaf (.seq none .leaf (.seq none .leaf (.seq (some ⟨[2, 4], [.box 61 [.own 50 (.pair (.int .i64) (.pair (.int .i64) (.os 3 (.int .i64)))), .own 3 (.int .i64), .own 3 (.int .i64), .bool] [], .box 61 [.nil, .nil, .nil, .bool] []]⟩) (.seq none .leaf (.block (.seq none .leaf (.cond (.seq none .leaf .leaf) (.seq none .leaf (.cond (.seq none (.seq none .leaf (.cond (.seq none .leaf .leaf) .leaf)) .leaf) (.seq none .leaf (.cond (.seq none (.seq (some ⟨[2, 4, 7, 8, 67], [.box 61 [.own 50 (.pair (.int .i64) (.pair (.int .i64) (.os 3 (.int .i64)))), .own 3 (.int .i64), .own 3 (.int .i64), .bool] [], .box 61 [.nil, .nil, .nil, .bool] [], .leaf (.own 3 (.int .i64)), .leaf (.int .i64), .leaf .bool]⟩) .leaf (.cond (.seq none .leaf .leaf) .leaf)) (.seq none .leaf (.block (.loop ⟨[2, 4, 7, 8, 9], [.box 61 [.own 50 (.pair (.int .i64) (.pair (.int .i64) (.os 3 (.int .i64)))), .own 3 (.int .i64), .own 3 (.int .i64), .bool] [], .box 61 [.nil, .nil, .nil, .bool] [], .leaf (.own 3 (.int .i64)), .leaf (.int .i64), .leaf (.int .i64)]⟩ (.seq none (.seq none .leaf (.cond .leaf .leaf)) (.seq none (.block .leaf) .leaf)))))) .leaf)))))))) (.seq none .leaf .leaf)))))))
def ty_Z53 : List (Nat × Ty) := []
def vr_Z53 : Nat → Nat := fun _ => 0
abbrev sg_Z60 : Sig := ⟨[.agg [.own 50 (.pair (.int .i64) (.pair (.int .i64) (.os 3 (.int .i64)))), .own 3 (.int .i64), .own 3 (.int .i64), .bool], .agg [.int .i64, .int .i64]], [.agg [.own 50 (.pair (.int .i64) (.pair (.int .i64) (.os 3 (.int .i64)))), .own 3 (.int .i64), .own 3 (.int .i64), .bool], .leaf .bool]⟩
def an_Z60 : Ann := .seq none .leaf (.seq none .leaf (.seq none .leaf (.seq none .leaf (.seq none (.seq none .leaf (.cond (.seq none .leaf .leaf) .leaf)) (.seq none (.seq none .leaf (.block (.seq none .leaf (.cond (.seq none .leaf .leaf) (.seq none .leaf (.cond (.seq none (.seq none .leaf (.cond (.seq none .leaf .leaf) .leaf)) (.seq none .leaf .leaf)) (.seq none .leaf (.cond (.seq none (.seq none .leaf (.cond (.seq none .leaf .leaf) .leaf)) (.seq none .leaf (.seq none .leaf .leaf))) (.seq none .leaf (.cond (.seq none (.seq (some ⟨[2, 4, 6, 7, 8, 81], [.box 61 [.own 50 (.pair (.int .i64) (.pair (.int .i64) (.os 3 (.int .i64)))), .own 3 (.int .i64), .own 3 (.int .i64), .bool] [], .box 61 [.nil, .nil, .nil, .bool] [], .leaf (.int .i64), .leaf (.int .i64), .leaf (.int .i64), .leaf .bool]⟩) .leaf (.cond (.seq none .leaf .leaf) .leaf)) (.seq none .leaf .leaf)) (.seq none .leaf (.cond (.seq none (.seq (some ⟨[2, 4, 6, 7, 104], [.box 61 [.own 50 (.pair (.int .i64) (.pair (.int .i64) (.os 3 (.int .i64)))), .own 3 (.int .i64), .own 3 (.int .i64), .bool] [], .box 61 [.nil, .nil, .nil, .bool] [], .leaf (.int .i64), .leaf (.int .i64), .leaf .bool]⟩) .leaf (.cond (.seq none .leaf .leaf) .leaf)) (.seq none .leaf (.seq none .leaf .leaf))) (.seq none .leaf (.cond (.seq none .leaf (.seq none .leaf .leaf)) (.seq none .leaf (.cond (.seq none .leaf .leaf) .leaf)))))))))))))))) (.seq none .leaf (.seq none .leaf .leaf)))))))
def ty_Z60 : List (Nat × Ty) := [(3, (.int .i64))]
def vr_Z60 : Nat → Nat := fun _ => 0
abbrev sg_s_step : Sig := ⟨[.agg [.own 50 (.pair (.int .i64) (.pair (.int .i64) (.os 3 (.int .i64)))), .own 3 (.int .i64), .own 3 (.int .i64), .bool], .agg [.int .i64, .int .i64]], [.agg [.may 50 (.pair (.int .i64) (.pair (.int .i64) (.os 3 (.int .i64)))), .may 3 (.int .i64), .may 3 (.int .i64), .bool], .leaf .bool]⟩
def an_s_step : Ann := .seq none .leaf (.seq none (.seq none .leaf (.cond (.seq none .leaf .leaf) .leaf)) (.seq (some ⟨[2, 4], [.box 61 [.own 50 (.pair (.int .i64) (.pair (.int .i64) (.os 3 (.int .i64)))), .own 3 (.int .i64), .own 3 (.int .i64), .bool] [], .box 61 [.nil, .nil, .nil, .bool] []]⟩) (.seq none .leaf (.block (.seq none .leaf (.cond .leaf (.seq none .leaf (.cond .leaf (.seq none .leaf (.cond .leaf (.seq none .leaf (.cond .leaf (.seq none .leaf (.cond .leaf (.seq none .leaf (.cond .leaf (.seq none .leaf (.cond .leaf (.seq none .leaf (.cond (.seq none (.seq none .leaf (.cond (.seq none .leaf .leaf) .leaf)) .leaf) (.seq (some ⟨[2, 3, 4, 89], [.box 61 [.own 50 (.pair (.int .i64) (.pair (.int .i64) (.os 3 (.int .i64)))), .own 3 (.int .i64), .own 3 (.int .i64), .bool] [], .box 58 [.int .i64, .int .i64] [], .box 61 [.nil, .nil, .nil, .bool] [], .leaf .bool]⟩) (.seq none .leaf (.cond .leaf (.seq none .leaf (.cond .leaf (.seq none .leaf (.cond .leaf .leaf)))))) (.cond (.seq none .leaf (.seq none (.seq none .leaf (.cond (.seq none .leaf .leaf) .leaf)) .leaf)) (.seq none .leaf (.seq none (.seq none .leaf (.cond (.seq none .leaf .leaf) .leaf)) .leaf)))))))))))))))))))))) (.seq none .leaf .leaf)))
def ty_s_step : List (Nat × Ty) := [(3, (.int .i64))]
def vr_s_step : Nat → Nat := fun _ => 0
abbrev sg_s_run : Sig := ⟨[.agg [.own 50 (.pair (.int .i64) (.pair (.int .i64) (.os 3 (.int .i64)))), .own 3 (.int .i64), .own 3 (.int .i64), .bool], .leaf (.ro (.pair (.int .i64) (.int .i64)))], [.agg [.own 50 (.pair (.int .i64) (.pair (.int .i64) (.os 3 (.int .i64)))), .own 3 (.int .i64), .own 3 (.int .i64), .bool], .leaf (.int .i64)]⟩
def an_s_run : Ann := .seq none .leaf (.seq none (.seq none .leaf (.block (.loop ⟨[1, 2, 4, 6], [.leaf (.ro (.pair (.int .i64) (.int .i64))), .box 61 [.own 50 (.pair (.int .i64) (.pair (.int .i64) (.os 3 (.int .i64)))), .own 3 (.int .i64), .own 3 (.int .i64), .bool] [], .box 61 [.nil, .nil, .nil, .bool] [], .leaf (.int .i64)]⟩ (.seq none (.seq none .leaf (.cond .leaf .leaf)) (.seq none (.block (.seq none .leaf (.seq none (.seq none .leaf (.cond (.seq none .leaf .leaf) .leaf)) .leaf))) .leaf))))) (.seq none .leaf .leaf))
def ty_s_run : List (Nat × Ty) := []
def vr_s_run : Nat → Nat := fun _ => 0
abbrev sg_s_built : Sig := ⟨[.agg [.ro (.pair (.int .i64) (.pair (.int .i64) (.sl (.int .i64)))), .ro (.int .i64), .ro (.int .i64), .bool]], [.agg [.own 50 (.pair (.int .i64) (.pair (.int .i64) (.os 3 (.int .i64)))), .int .i64]]⟩
def an_s_built : Ann := .seq none .leaf (.seq none .leaf .leaf)
def ty_s_built : List (Nat × Ty) := []
def vr_s_built : Nat → Nat := fun _ => 0
abbrev sg_Z33 : Sig := ⟨[.leaf (.ro (.pair (.int .i64) (.int .i64)))], [.agg [.own 50 (.pair (.int .i64) (.pair (.int .i64) (.os 3 (.int .i64)))), .int .i64], .leaf .bool]⟩
def an_Z33 : Ann := .seq none .leaf (.seq none (.seq none .leaf (.cond (.seq none .leaf .leaf) .leaf)) (.seq none .leaf (.seq none (.seq (some ⟨[2, 4, 24], [.box 28 [.nil, .int .i64] [], .box 61 [.own 50 (.pair (.int .i64) (.pair (.int .i64) (.os 3 (.int .i64)))), .own 3 (.int .i64), .own 3 (.int .i64), .bool] [], .leaf .bool]⟩) .leaf (.cond (.seq none .leaf .leaf) .leaf)) (.seq none .leaf .leaf))))
def ty_Z33 : List (Nat × Ty) := []
def vr_Z33 : Nat → Nat := fun _ => 0
abbrev sg_s_reach : Sig := ⟨[.agg [.ro (.pair (.int .i64) (.pair (.int .i64) (.sl (.int .i64)))), .int .i64], .leaf (.int .i64), .leaf (.ro (.int .i64))], [.leaf (.ro (.int .i64))]⟩
def an_s_reach : Ann := .seq none .leaf (.seq none (.seq none .leaf (.cond (.seq none .leaf .leaf) .leaf)) (.seq none .leaf (.seq none (.seq none .leaf (.block (.loop ⟨[1, 2, 3, 7], [.leaf (.int .i64), .leaf (.ro (.int .i64)), .box 28 [.ro (.pair (.int .i64) (.pair (.int .i64) (.sl (.int .i64)))), .int .i64] [], .leaf (.int .i64)]⟩ (.seq none (.seq none .leaf (.cond .leaf .leaf)) (.seq none (.block .leaf) .leaf))))) (.seq none .leaf .leaf))))
def ty_s_reach : List (Nat × Ty) := [(3, (.int .i64))]
def vr_s_reach : Nat → Nat := fun _ => 0
abbrev sg_s_pruned : Sig := ⟨[.agg [.ro (.pair (.int .i64) (.pair (.int .i64) (.sl (.int .i64)))), .int .i64]], [.agg [.own 50 (.pair (.int .i64) (.pair (.int .i64) (.oso 3 (.int .i64)))), .int .i64]]⟩
def an_s_pruned : Ann := .seq none .leaf (.seq none .leaf (.seq none .leaf (.seq none (.seq none .leaf (.block (.loop ⟨[1, 2, 3, 4, 5], [.box 28 [.ro (.pair (.int .i64) (.pair (.int .i64) (.sl (.int .i64)))), .int .i64] [], .box 28 [.nil, .int .i64] [], .leaf (.ro (.int .i64)), .box 28 [.own 50 (.pair (.int .i64) (.pair (.int .i64) (.oso 3 (.int .i64)))), .int .i64] [], .leaf (.int .i64)]⟩ (.seq none (.seq none .leaf (.cond .leaf .leaf)) (.seq none (.block (.seq none .leaf (.seq none .leaf (.seq none (.seq none .leaf (.block (.loop ⟨[1, 2, 3, 4, 5, 6, 7, 8], [.box 28 [.ro (.pair (.int .i64) (.pair (.int .i64) (.sl (.int .i64)))), .int .i64] [], .box 28 [.nil, .int .i64] [], .leaf (.ro (.int .i64)), .box 28 [.own 50 (.pair (.int .i64) (.pair (.int .i64) (.oso 3 (.int .i64)))), .int .i64] [], .leaf (.int .i64), .box 50 [.int .i64, .int .i64, .ro (.int .i64)] [], .box 50 [.int .i64, .int .i64, .own 3 (.int .i64)] [], .leaf (.int .i64)]⟩ (.seq none (.seq none .leaf (.cond .leaf .leaf)) (.seq none (.block .leaf) .leaf))))) .leaf)))) .leaf))))) (.seq none .leaf .leaf))))
def ty_s_pruned : List (Nat × Ty) := [(3, (.int .i64)), (50, (.pair (.int .i64) (.pair (.int .i64) (.oso 3 (.int .i64)))))]
def vr_s_pruned : Nat → Nat := fun _ => 0
abbrev sg_Z37 : Sig := ⟨[.agg [.ro (.pair (.int .i64) (.pair (.int .i64) (.sl (.int .i64)))), .int .i64]], [.agg [.own 50 (.pair (.int .i64) (.pair (.int .i64) (.oso 3 (.int .i64)))), .int .i64], .leaf .bool]⟩
def an_Z37 : Ann := .seq none .leaf (.seq none (.seq (some ⟨[1, 2, 14], [.box 28 [.ro (.pair (.int .i64) (.pair (.int .i64) (.sl (.int .i64)))), .int .i64] [], .box 28 [.nil, .int .i64] [], .leaf .bool]⟩) .leaf (.cond (.seq none .leaf .leaf) .leaf)) (.seq none .leaf (.seq none (.seq none .leaf (.cond (.seq none .leaf .leaf) .leaf)) (.seq none .leaf .leaf))))
def ty_Z37 : List (Nat × Ty) := []
def vr_Z37 : Nat → Nat := fun _ => 0
abbrev sg_Z18 : Sig := ⟨[.leaf (.int .i64), .box 3 [.int .i64] [.int .i64]], [.leaf .bool]⟩
def an_Z18 : Ann := .seq none .leaf (.seq none .leaf .leaf)
def ty_Z18 : List (Nat × Ty) := []
def vr_Z18 : Nat → Nat := fun _ => 0
abbrev sg_Z1 : Sig := ⟨[.leaf (.ro (.int .i64)), .clo 60 3 [.int .i64] [.int .i64]], [.leaf (.int .i64)]⟩
def an_Z1 : Ann := .seq none .leaf (.seq none (.seq none .leaf (.block (.loop ⟨[0, 1, 7, 8], [.leaf (.ro (.int .i64)), .clo 60 3 [.int .i64] [], .leaf (.int .i64), .leaf (.int .i64)]⟩ (.seq none .leaf (.seq none (.cond .leaf .leaf) (.seq none (.block (.seq none .leaf (.seq none .leaf (.cond (.seq none .leaf .leaf) .leaf)))) .leaf)))))) (.seq none .leaf .leaf))
def ty_Z1 : List (Nat × Ty) := []
def vr_Z1 : Nat → Nat := fun _ => 0
abbrev sg_Z0 : Sig := ⟨[.leaf (.ro (.int .i64)), .clo 60 3 [.int .i64] [.int .i64]], [.leaf .bool]⟩
def an_Z0 : Ann := .seq none .leaf (.seq none .leaf .leaf)
def ty_Z0 : List (Nat × Ty) := []
def vr_Z0 : Nat → Nat := fun _ => 0
abbrev sg_Z63 : Sig := ⟨[.leaf (.ro (.pair (.int .i64) (.pair (.int .i64) (.sl (.int .i64))))), .leaf (.ro (.int .i64)), .agg [.int .i64, .int .i64, .any]], [.leaf (.int .i64)]⟩
def an_Z63 : Ann := .seq none .leaf (.seq none (.seq none .leaf (.block (.loop ⟨[0, 1, 5, 7], [.leaf (.ro (.pair (.int .i64) (.pair (.int .i64) (.sl (.int .i64))))), .leaf (.ro (.int .i64)), .box 50 [.int .i64, .int .i64, .any] [], .leaf (.int .i64)]⟩ (.seq none (.seq none .leaf (.cond .leaf .leaf)) (.seq none (.block (.seq none .leaf (.seq (some ⟨[0, 1, 5, 7, 33], [.leaf (.ro (.pair (.int .i64) (.pair (.int .i64) (.sl (.int .i64))))), .leaf (.ro (.int .i64)), .box 50 [.int .i64, .int .i64, .any] [], .leaf (.int .i64), .leaf .bool]⟩) .leaf (.cond (.seq none .leaf .leaf) .leaf)))) .leaf))))) (.seq none .leaf .leaf))
def ty_Z63 : List (Nat × Ty) := []
def vr_Z63 : Nat → Nat := fun _ => 0
abbrev sg_i_nodeOk : Sig := ⟨[.leaf (.ro (.pair (.int .i64) (.pair (.int .i64) (.sl (.int .i64))))), .agg [.int .i64, .int .i64, .ro (.int .i64)]], [.leaf .bool]⟩
def an_i_nodeOk : Ann := .seq none .leaf (.seq none (.seq none .leaf (.block (.seq none .leaf (.cond (.seq none .leaf .leaf) (.seq none .leaf (.cond (.seq none .leaf .leaf) (.seq (some ⟨[0, 3, 8, 41], [.leaf (.ro (.pair (.int .i64) (.pair (.int .i64) (.sl (.int .i64))))), .box 50 [.int .i64, .int .i64, .ro (.int .i64)] [], .leaf (.int .i64), .leaf .bool]⟩) (.seq none .leaf (.cond .leaf .leaf)) (.cond (.seq none .leaf .leaf) (.seq none .leaf (.cond (.seq none .leaf .leaf) (.seq none .leaf (.cond (.seq none (.seq none .leaf (.block (.loop ⟨[0, 3, 5], [.leaf (.ro (.pair (.int .i64) (.pair (.int .i64) (.sl (.int .i64))))), .box 50 [.int .i64, .int .i64, .ro (.int .i64)] [], .leaf (.int .i64)]⟩ (.seq none (.seq none .leaf (.cond .leaf .leaf)) (.seq none (.block (.seq none .leaf (.seq (some ⟨[0, 3, 5, 97], [.leaf (.ro (.pair (.int .i64) (.pair (.int .i64) (.sl (.int .i64))))), .box 50 [.int .i64, .int .i64, .ro (.int .i64)] [], .leaf (.int .i64), .leaf .bool]⟩) .leaf (.cond (.seq none .leaf .leaf) .leaf)))) .leaf))))) (.seq none .leaf .leaf)) .leaf)))))))))))) (.seq none .leaf .leaf))
def ty_i_nodeOk : List (Nat × Ty) := []
def vr_i_nodeOk : Nat → Nat := fun _ => 0
abbrev sg_Z15 : Sig := ⟨[.agg [.int .i64, .int .i64, .ro (.int .i64)]], [.leaf .bool]⟩
def an_Z15 : Ann := .seq none .leaf (.seq none .leaf .leaf)
def ty_Z15 : List (Nat × Ty) := []
def vr_Z15 : Nat → Nat := fun _ => 0
abbrev sg_Z4 : Sig := ⟨[.leaf (.ro (.pair (.int .i64) (.pair (.int .i64) (.sl (.int .i64))))), .leaf (.int .i64), .leaf .fn], [.leaf .bool]⟩
def an_Z4 : Ann := .seq none .leaf (.seq none .leaf (.seq none .leaf (.seq none (.block (.loop ⟨[0, 1, 2, 7, 8], [.leaf (.ro (.pair (.int .i64) (.pair (.int .i64) (.sl (.int .i64))))), .leaf (.int .i64), .leaf (.fnc 63), .leaf (.mp .bool), .leaf (.own 3 (.int .i64))]⟩ (.seq none (.seq none .leaf (.cond .leaf .leaf)) (.block (.seq none .leaf (.seq none .leaf (.seq none .leaf (.block (.loop ⟨[0, 1, 2, 7, 8, 33, 34, 35], [.leaf (.ro (.pair (.int .i64) (.pair (.int .i64) (.sl (.int .i64))))), .leaf (.int .i64), .leaf (.fnc 63), .leaf (.mp .bool), .leaf (.own 3 (.int .i64)), .leaf (.ro (.int .i64)), .leaf (.int .i64), .leaf (.int .i64)]⟩ (.seq none .leaf (.seq none (.cond .leaf .leaf) (.seq (some ⟨[0, 1, 2, 7, 8, 33, 34, 35], [.leaf (.ro (.pair (.int .i64) (.pair (.int .i64) (.sl (.int .i64))))), .leaf (.int .i64), .leaf (.fnc 63), .leaf (.mp .bool), .leaf (.own 3 (.int .i64)), .leaf (.ro (.int .i64)), .leaf (.int .i64), .leaf (.int .i64)]⟩) (.block (.seq none .leaf (.seq none (.seq none .leaf (.cond (.seq none .leaf .leaf) .leaf)) (.seq (some ⟨[0, 1, 2, 7, 8, 11, 33, 34, 35, 53], [.leaf (.ro (.pair (.int .i64) (.pair (.int .i64) (.sl (.int .i64))))), .leaf (.int .i64), .leaf (.fnc 63), .leaf (.mp .bool), .leaf (.own 3 (.int .i64)), .leaf (.int .i64), .leaf (.ro (.int .i64)), .leaf (.int .i64), .leaf (.int .i64), .leaf .bool]⟩) .leaf (.cond (.seq none .leaf .leaf) .leaf))))) .leaf)))))))))))) (.seq none .leaf .leaf))))
def ty_Z4 : List (Nat × Ty) := [(3, (.int .i64)), (4, .bool)]
def vr_Z4 : Nat → Nat := fun _ => 0
abbrev sg_Z25 : Sig := ⟨[.agg [.ro (.pair (.int .i64) (.pair (.int .i64) (.sl (.int .i64)))), .int .i64]], [.leaf .bool]⟩
def an_Z25 : Ann := .seq none .leaf (.seq none .leaf (.seq none (.seq (some ⟨[1, 3, 28], [.box 28 [.ro (.pair (.int .i64) (.pair (.int .i64) (.sl (.int .i64)))), .int .i64] [], .box 3 [.int .i64] [], .leaf .bool]⟩) .leaf (.cond (.seq none .leaf .leaf) .leaf)) (.seq none (.seq none .leaf (.block (.loop ⟨[1, 3, 30, 31, 32], [.box 28 [.ro (.pair (.int .i64) (.pair (.int .i64) (.sl (.int .i64)))), .int .i64] [], .box 3 [.int .i64] [], .leaf (.ro (.pair (.int .i64) (.pair (.int .i64) (.sl (.int .i64))))), .leaf (.int .i64), .leaf (.int .i64)]⟩ (.seq none .leaf (.seq none (.cond .leaf .leaf) (.seq none (.block (.seq none .leaf (.seq (some ⟨[1, 3, 30, 31, 32, 45], [.box 28 [.ro (.pair (.int .i64) (.pair (.int .i64) (.sl (.int .i64)))), .int .i64] [], .box 3 [.int .i64] [], .leaf (.ro (.pair (.int .i64) (.pair (.int .i64) (.sl (.int .i64))))), .leaf (.int .i64), .leaf (.int .i64), .leaf .bool]⟩) .leaf (.cond (.seq none .leaf .leaf) .leaf)))) .leaf)))))) (.seq none (.seq none .leaf (.block (.loop ⟨[1, 48, 49, 50], [.box 28 [.ro (.pair (.int .i64) (.pair (.int .i64) (.sl (.int .i64)))), .int .i64] [], .leaf (.ro (.pair (.int .i64) (.pair (.int .i64) (.sl (.int .i64))))), .leaf (.int .i64), .leaf (.int .i64)]⟩ (.seq none .leaf (.seq none (.cond .leaf .leaf) (.seq none (.block (.seq none .leaf (.seq none .leaf (.cond (.seq none .leaf .leaf) .leaf)))) .leaf)))))) (.seq none (.seq none .leaf (.block (.loop ⟨[1, 62, 63], [.box 28 [.ro (.pair (.int .i64) (.pair (.int .i64) (.sl (.int .i64)))), .int .i64] [], .leaf (.int .i64), .leaf (.int .i64)]⟩ (.seq none .leaf (.seq none (.cond .leaf .leaf) (.seq none (.block (.seq none .leaf (.seq (some ⟨[1, 62, 63, 78], [.box 28 [.ro (.pair (.int .i64) (.pair (.int .i64) (.sl (.int .i64)))), .int .i64] [], .leaf (.int .i64), .leaf (.int .i64), .leaf .bool]⟩) .leaf (.cond (.seq none .leaf .leaf) .leaf)))) .leaf)))))) (.seq none .leaf .leaf))))))
def ty_Z25 : List (Nat × Ty) := []
def vr_Z25 : Nat → Nat := fun _ => 0
abbrev sg_Z41 : Sig := ⟨[.box 90 [.ro (.pair (.int .i64) (.pair (.int .i64) (.sl (.int .i64)))), .int .i64, .mp (.int .i64), .own 58 (.pair (.int .i64) (.int .i64))] [.ro (.pair (.int .i64) (.pair (.int .i64) (.sl (.int .i64)))), .int .i64, .mp (.int .i64), .own 58 (.pair (.int .i64) (.int .i64))], .leaf (.int .i64), .leaf (.int .i64)], []⟩
def an_Z41 : Ann := .leaf
def ty_Z41 : List (Nat × Ty) := [(58, (.pair (.int .i64) (.int .i64)))]
def vr_Z41 : Nat → Nat := fun _ => 0
abbrev sg_Z29 : Sig := ⟨[.box 90 [.ro (.pair (.int .i64) (.pair (.int .i64) (.sl (.int .i64)))), .int .i64, .mp (.int .i64), .own 58 (.pair (.int .i64) (.int .i64))] [.ro (.pair (.int .i64) (.pair (.int .i64) (.sl (.int .i64)))), .int .i64, .mp (.int .i64), .own 58 (.pair (.int .i64) (.int .i64))], .leaf (.int .i64)], []⟩
def an_Z29 : Ann := .seq none .leaf .leaf
def ty_Z29 : List (Nat × Ty) := [(3, (.int .i64))]
def vr_Z29 : Nat → Nat := fun _ => 0
abbrev sg_Z27 : Sig := ⟨[.box 90 [.ro (.pair (.int .i64) (.pair (.int .i64) (.sl (.int .i64)))), .int .i64, .mp (.int .i64), .own 58 (.pair (.int .i64) (.int .i64))] [.ro (.pair (.int .i64) (.pair (.int .i64) (.sl (.int .i64)))), .int .i64, .mp (.int .i64), .own 58 (.pair (.int .i64) (.int .i64))], .leaf (.ro (.int .i64))], []⟩
def an_Z27 : Ann := .seq none .leaf (.block (.loop ⟨[0, 6, 7, 8], [.box 90 [.ro (.pair (.int .i64) (.pair (.int .i64) (.sl (.int .i64)))), .int .i64, .mp (.int .i64), .own 58 (.pair (.int .i64) (.int .i64))] [], .leaf (.ro (.int .i64)), .leaf (.int .i64), .leaf (.int .i64)]⟩ (.seq none .leaf (.seq none (.cond .leaf .leaf) (.seq none (.block (.seq none .leaf .leaf)) .leaf)))))
def ty_Z27 : List (Nat × Ty) := []
def vr_Z27 : Nat → Nat := fun _ => 0
abbrev sg_Z7 : Sig := ⟨[.box 90 [.ro (.pair (.int .i64) (.pair (.int .i64) (.sl (.int .i64)))), .int .i64, .mp (.int .i64), .own 58 (.pair (.int .i64) (.int .i64))] [.ro (.pair (.int .i64) (.pair (.int .i64) (.sl (.int .i64)))), .int .i64, .mp (.int .i64), .own 58 (.pair (.int .i64) (.int .i64))], .leaf (.ro (.int .i64)), .leaf (.int .i64), .leaf (.int .i64), .leaf (.int .i64)], []⟩
def an_Z7 : Ann := .seq none (.seq (some ⟨[0, 1, 2, 3, 4, 21], [.box 90 [.ro (.pair (.int .i64) (.pair (.int .i64) (.sl (.int .i64)))), .int .i64, .mp (.int .i64), .own 58 (.pair (.int .i64) (.int .i64))] [], .leaf (.ro (.int .i64)), .leaf (.int .i64), .leaf (.int .i64), .leaf (.int .i64), .leaf .bool]⟩) .leaf (.cond (.seq none .leaf (.seq none .leaf (.seq none .leaf .leaf))) .leaf)) (.seq none .leaf (.block (.loop ⟨[0, 1, 2, 3, 10], [.box 90 [.ro (.pair (.int .i64) (.pair (.int .i64) (.sl (.int .i64)))), .int .i64, .mp (.int .i64), .own 58 (.pair (.int .i64) (.int .i64))] [], .leaf (.ro (.int .i64)), .leaf (.int .i64), .leaf (.int .i64), .leaf (.int .i64)]⟩ (.seq none (.seq none .leaf (.cond .leaf .leaf)) (.seq none (.block (.seq none .leaf .leaf)) .leaf)))))
def ty_Z7 : List (Nat × Ty) := []
def vr_Z7 : Nat → Nat := fun _ => 0
abbrev sg_Z13 : Sig := ⟨[.box 90 [.ro (.pair (.int .i64) (.pair (.int .i64) (.sl (.int .i64)))), .int .i64, .mp (.int .i64), .own 58 (.pair (.int .i64) (.int .i64))] [.ro (.pair (.int .i64) (.pair (.int .i64) (.sl (.int .i64)))), .int .i64, .mp (.int .i64), .own 58 (.pair (.int .i64) (.int .i64))], .leaf (.int .i64), .leaf (.ro (.int .i64))], []⟩
def an_Z13 : Ann := .seq none (.seq none .leaf (.cond (.seq none .leaf (.seq none .leaf .leaf)) .leaf)) (.seq (some ⟨[0, 1, 2, 6], [.box 90 [.ro (.pair (.int .i64) (.pair (.int .i64) (.sl (.int .i64)))), .int .i64, .mp (.int .i64), .own 58 (.pair (.int .i64) (.int .i64))] [], .leaf (.int .i64), .leaf (.ro (.int .i64)), .leaf .bool]⟩) .leaf (.seq (some ⟨[0, 1, 2, 6], [.box 90 [.ro (.pair (.int .i64) (.pair (.int .i64) (.sl (.int .i64)))), .int .i64, .mp (.int .i64), .own 58 (.pair (.int .i64) (.int .i64))] [], .leaf (.int .i64), .leaf (.ro (.int .i64)), .leaf .bool]⟩) (.seq none .leaf (.cond .leaf .leaf)) (.seq none .leaf (.seq none (.seq none .leaf (.seq none .leaf (.cond (.seq (some ⟨[0, 7], [.box 90 [.ro (.pair (.int .i64) (.pair (.int .i64) (.sl (.int .i64)))), .int .i64, .mp (.int .i64), .own 58 (.pair (.int .i64) (.int .i64))] [], .leaf (.int .i64)]⟩) (.seq none .leaf (.cond (.seq none .leaf (.block (.loop ⟨[0, 7, 46, 47], [.box 90 [.ro (.pair (.int .i64) (.pair (.int .i64) (.sl (.int .i64)))), .int .i64, .mp (.int .i64), .own 58 (.pair (.int .i64) (.int .i64))] [], .leaf (.int .i64), .leaf (.int .i64), .leaf (.int .i64)]⟩ (.seq none .leaf (.seq none (.cond .leaf .leaf) (.seq none (.block .leaf) .leaf)))))) .leaf)) (.seq none .leaf .leaf)) .leaf))) (.seq (some ⟨[0, 1], [.box 90 [.ro (.pair (.int .i64) (.pair (.int .i64) (.sl (.int .i64)))), .int .i64, .mp (.int .i64), .own 58 (.pair (.int .i64) (.int .i64))] [], .leaf (.int .i64)]⟩) (.block (.seq none .leaf (.cond .leaf (.seq none .leaf (.cond .leaf .leaf))))) .leaf)))))
def ty_Z13 : List (Nat × Ty) := [(3, (.int .i64))]
def vr_Z13 : Nat → Nat := fun _ => 0
abbrev sg_Z12 : Sig := ⟨[.box 90 [.ro (.pair (.int .i64) (.pair (.int .i64) (.sl (.int .i64)))), .int .i64, .mp (.int .i64), .own 58 (.pair (.int .i64) (.int .i64))] [.ro (.pair (.int .i64) (.pair (.int .i64) (.sl (.int .i64)))), .int .i64, .mp (.int .i64), .own 58 (.pair (.int .i64) (.int .i64))], .leaf (.int .i64)], []⟩
def an_Z12 : Ann := .seq none (.seq none .leaf (.seq none .leaf (.cond (.seq none .leaf .leaf) .leaf))) (.seq none .leaf (.seq none .leaf (.block (.seq none .leaf (.cond .leaf (.seq none .leaf (.cond (.seq none .leaf .leaf) (.seq none .leaf (.cond (.seq none .leaf (.seq none .leaf .leaf)) (.seq none .leaf (.cond (.seq none .leaf (.seq none .leaf .leaf)) (.seq none .leaf (.cond (.seq none .leaf (.seq none .leaf (.seq none .leaf (.cond (.seq none .leaf .leaf) .leaf)))) .leaf)))))))))))))
def ty_Z12 : List (Nat × Ty) := [(3, (.int .i64))]
def vr_Z12 : Nat → Nat := fun _ => 0
abbrev sg_Z2 : Sig := ⟨[.leaf (.ro (.pair (.int .i64) (.int .i64)))], [.leaf (.ro (.pair (.int .i64) (.int .i64)))]⟩
def an_Z2 : Ann := .seq none .leaf (.seq none .leaf .leaf)
def ty_Z2 : List (Nat × Ty) := []
def vr_Z2 : Nat → Nat := fun _ => 0
abbrev sg_Z66 : Sig := ⟨[.agg [.ro (.pair (.int .i64) (.pair (.int .i64) (.sl (.int .i64)))), .int .i64], .leaf (.ro (.int .i64)), .leaf (.int .i64)], [.leaf (.rkb (.pair (.int .i64) (.int .i64)))]⟩
def an_Z66 : Ann := .seq none .leaf (.seq none .leaf (.seq none (.seq none .leaf (.block (.loop ⟨[7, 16, 17, 18], [.box 90 [.ro (.pair (.int .i64) (.pair (.int .i64) (.sl (.int .i64)))), .int .i64, .mp (.int .i64), .own 58 (.pair (.int .i64) (.int .i64))] [], .leaf (.ro (.int .i64)), .leaf (.int .i64), .leaf (.int .i64)]⟩ (.seq none .leaf (.seq none (.cond .leaf .leaf) (.seq none (.block (.seq none .leaf (.seq none .leaf .leaf))) .leaf)))))) (.seq none (.seq none .leaf (.cond (.seq none .leaf .leaf) .leaf)) (.seq none .leaf .leaf))))
def ty_Z66 : List (Nat × Ty) := [(3, (.int .i64))]
def vr_Z66 : Nat → Nat := fun _ => 0
abbrev sg_Z32 : Sig := ⟨[.agg [.ro (.pair (.int .i64) (.pair (.int .i64) (.sl (.int .i64)))), .int .i64], .leaf (.int .i64)], [.leaf (.rkb (.pair (.int .i64) (.int .i64)))]⟩
def an_Z32 : Ann := .seq none .leaf (.seq none (.seq (some ⟨[1, 2, 15], [.leaf (.int .i64), .box 28 [.ro (.pair (.int .i64) (.pair (.int .i64) (.sl (.int .i64)))), .int .i64] [], .leaf .bool]⟩) .leaf (.cond (.seq none .leaf .leaf) .leaf)) (.seq none .leaf .leaf))
def ty_Z32 : List (Nat × Ty) := [(3, (.int .i64))]
def vr_Z32 : Nat → Nat := fun _ => 0
abbrev sg_Z61 : Sig := ⟨[.leaf (.int .i64)], [.leaf (.int .i64)]⟩
def an_Z61 : Ann := .seq none .leaf (.seq none (.seq none .leaf (.block (.seq none .leaf (.cond (.seq none .leaf .leaf) (.seq none .leaf (.cond (.seq none .leaf .leaf) (.seq none .leaf (.cond (.seq none .leaf .leaf) (.seq (some ⟨[10], [.leaf .bool]⟩) (.seq none .leaf (.cond .leaf .leaf)) (.cond (.seq none .leaf .leaf) .leaf)))))))))) (.seq none .leaf .leaf))
def ty_Z61 : List (Nat × Ty) := []
def vr_Z61 : Nat → Nat := fun _ => 0
abbrev sg_i_opOk : Sig := ⟨[.agg [.int .i64, .int .i64]], [.leaf .bool]⟩
def an_i_opOk : Ann := .seq none .leaf (.seq none .leaf .leaf)
def ty_i_opOk : List (Nat × Ty) := []
def vr_i_opOk : Nat → Nat := fun _ => 0
abbrev sg_Z49 : Sig := ⟨[.leaf (.ro (.pair (.int .i64) (.int .i64)))], [.leaf .bool]⟩
def an_Z49 : Ann := .seq none .leaf (.seq none (.seq none .leaf (.block (.loop ⟨[0, 5, 6, 7], [.leaf (.ro (.pair (.int .i64) (.int .i64))), .leaf (.ro (.pair (.int .i64) (.int .i64))), .leaf (.int .i64), .leaf (.int .i64)]⟩ (.seq none .leaf (.seq none (.cond .leaf .leaf) (.seq none (.block (.seq none .leaf (.seq none .leaf (.cond (.seq none .leaf .leaf) .leaf)))) .leaf)))))) (.seq none .leaf .leaf))
def ty_Z49 : List (Nat × Ty) := []
def vr_Z49 : Nat → Nat := fun _ => 0
abbrev sg_Z24 : Sig := ⟨[.leaf (.int .i64)], [.agg [.own 50 (.pair (.int .i64) (.pair (.int .i64) (.os 3 (.int .i64)))), .nil, .own 3 (.int .i64), .bool]]⟩
def an_Z24 : Ann := .seq none .leaf (.seq none (.seq (some ⟨[0, 2, 10], [.leaf (.int .i64), .box 61 [.nil, .nil, .nil, .bool] [], .leaf .bool]⟩) .leaf (.cond (.seq none .leaf .leaf) .leaf)) (.seq none .leaf (.seq none (.seq none .leaf (.block (.loop ⟨[0, 2, 3, 16, 17], [.leaf (.int .i64), .box 61 [.nil, .nil, .nil, .bool] [], .box 61 [.nil, .nil, .own 3 (.int .i64), .bool] [], .leaf (.int .i64), .leaf (.int .i64)]⟩ (.seq none .leaf (.seq none (.cond .leaf .leaf) (.seq (some ⟨[0, 2, 3, 16, 17], [.leaf (.int .i64), .box 61 [.nil, .nil, .nil, .bool] [], .box 61 [.nil, .nil, .own 3 (.int .i64), .bool] [], .leaf (.int .i64), .leaf (.int .i64)]⟩) (.block (.seq none .leaf (.seq none .leaf (.cond .leaf .leaf)))) .leaf)))))) (.seq (some ⟨[2, 3], [.box 61 [.nil, .nil, .nil, .bool] [], .box 61 [.own 50 (.pair (.int .i64) (.pair (.int .i64) (.os 3 (.int .i64)))), .nil, .own 3 (.int .i64), .bool] []]⟩) (.seq none .leaf (.cond .leaf .leaf)) (.seq none .leaf .leaf)))))
def ty_Z24 : List (Nat × Ty) := [(3, (.int .i64)), (50, (.pair (.int .i64) (.pair (.int .i64) (.os 3 (.int .i64)))))]
def vr_Z24 : Nat → Nat := fun _ => 0
abbrev sg_Z5 : Sig := ⟨[.leaf (.ro (.int .i64))], [.leaf (.own 3 (.int .i64))]⟩
def an_Z5 : Ann := anClone
def ty_Z5 : List (Nat × Ty) := [(3, (.int .i64))]
def vr_Z5 : Nat → Nat := fun _ => 0
abbrev sg_Z9 : Sig := ⟨[.box 61 [.ownA 1 50 (.pair (.int .i64) (.pair (.int .i64) (.os 3 (.int .i64)))), .own 3 (.int .i64), .own 3 (.int .i64), .bool] [.ownA 1 50 (.pair (.int .i64) (.pair (.int .i64) (.os 3 (.int .i64)))), .own 3 (.int .i64), .own 3 (.int .i64), .bool]], [.leaf (.int .i64)]⟩
def an_Z9 : Ann := .seq none .leaf (.seq none .leaf (.seq none (.block (.loop ⟨[0, 3], [.box 61 [.ownA 1 50 (.pair (.int .i64) (.pair (.int .i64) (.os 3 (.int .i64)))), .own 3 (.int .i64), .own 3 (.int .i64), .bool] [], .leaf (.int .i64)]⟩ (.seq none (.seq (some ⟨[0, 3, 27], [.box 61 [.ownA 1 50 (.pair (.int .i64) (.pair (.int .i64) (.os 3 (.int .i64)))), .own 3 (.int .i64), .own 3 (.int .i64), .bool] [], .leaf (.int .i64), .leaf .bool]⟩) .leaf (.cond .leaf .leaf)) (.block .leaf)))) (.seq none .leaf .leaf)))
def ty_Z9 : List (Nat × Ty) := []
def vr_Z9 : Nat → Nat := fun _ => 0
abbrev sg_Z16 : Sig := ⟨[.box 61 [.ownA 1 50 (.pair (.int .i64) (.pair (.int .i64) (.os 3 (.int .i64)))), .own 3 (.int .i64), .own 3 (.int .i64), .bool] [.ownA 1 50 (.pair (.int .i64) (.pair (.int .i64) (.os 3 (.int .i64)))), .own 3 (.int .i64), .own 3 (.int .i64), .bool], .leaf (.int .i64)], [.leaf .bool]⟩
def an_Z16 : Ann := .seq none .leaf (.seq none .leaf (.seq none .leaf .leaf))
def ty_Z16 : List (Nat × Ty) := [(3, (.int .i64))]
def vr_Z16 : Nat → Nat := fun _ => 0
abbrev sg_Z10 : Sig := ⟨[.box 61 [.own 50 (.pair (.int .i64) (.pair (.int .i64) (.os 3 (.int .i64)))), .own 3 (.int .i64), .own 3 (.int .i64), .bool] [.own 50 (.pair (.int .i64) (.pair (.int .i64) (.os 3 (.int .i64)))), .own 3 (.int .i64), .own 3 (.int .i64), .bool], .leaf (.int .i64), .leaf (.int .i64), .leaf (.ro (.int .i64))], [.leaf .bool]⟩
def an_Z10 : Ann := .seq none .leaf (.seq none .leaf (.seq none .leaf .leaf))
def ty_Z10 : List (Nat × Ty) := [(50, (.pair (.int .i64) (.pair (.int .i64) (.os 3 (.int .i64)))))]
def vr_Z10 : Nat → Nat := fun _ => 0
abbrev sg_Z17 : Sig := ⟨[.box 61 [.ownA 1 50 (.pair (.int .i64) (.pair (.int .i64) (.os 3 (.int .i64)))), .own 3 (.int .i64), .own 3 (.int .i64), .bool] [.ownA 1 50 (.pair (.int .i64) (.pair (.int .i64) (.os 3 (.int .i64)))), .own 3 (.int .i64), .own 3 (.int .i64), .bool], .leaf (.int .i64)], [.leaf (.own 3 (.int .i64))]⟩
def an_Z17 : Ann := .seq none .leaf (.seq none .leaf (.seq none .leaf (.seq none .leaf (.seq none .leaf .leaf))))
def ty_Z17 : List (Nat × Ty) := []
def vr_Z17 : Nat → Nat := fun _ => 0
abbrev sg_Z8 : Sig := ⟨[.box 61 [.ownA 1 50 (.pair (.int .i64) (.pair (.int .i64) (.os 3 (.int .i64)))), .own 3 (.int .i64), .own 3 (.int .i64), .bool] [.ownA 1 50 (.pair (.int .i64) (.pair (.int .i64) (.os 3 (.int .i64)))), .own 3 (.int .i64), .own 3 (.int .i64), .bool]], [.leaf (.ro (.int .i64)), .leaf .bool]⟩
def an_Z8 : Ann := .seq none .leaf (.seq none .leaf (.seq none (.seq none .leaf (.cond (.seq none .leaf .leaf) .leaf)) (.seq none .leaf .leaf)))
def ty_Z8 : List (Nat × Ty) := []
def vr_Z8 : Nat → Nat := fun _ => 0
abbrev sg_Z21 : Sig := ⟨[.box 61 [.ownA 1 50 (.pair (.int .i64) (.pair (.int .i64) (.os 3 (.int .i64)))), .own 3 (.int .i64), .own 3 (.int .i64), .bool] [.ownA 1 50 (.pair (.int .i64) (.pair (.int .i64) (.os 3 (.int .i64)))), .own 3 (.int .i64), .own 3 (.int .i64), .bool], .leaf (.int .i64)], [.leaf (.elo 1 0), .leaf .bool]⟩
def an_Z21 : Ann := .seq none .leaf (.seq none (.seq none .leaf (.cond (.seq none .leaf .leaf) .leaf)) (.seq none .leaf (.seq none .leaf .leaf)))
def ty_Z21 : List (Nat × Ty) := []
def vr_Z21 : Nat → Nat := fun _ => 0
abbrev sg_Z22 : Sig := ⟨[.box 61 [.ownA 1 50 (.pair (.int .i64) (.pair (.int .i64) (.os 3 (.int .i64)))), .own 3 (.int .i64), .own 3 (.int .i64), .bool] [.ownA 1 50 (.pair (.int .i64) (.pair (.int .i64) (.os 3 (.int .i64)))), .own 3 (.int .i64), .own 3 (.int .i64), .bool], .leaf (.ro (.int .i64))], [.leaf .bool]⟩
def an_Z22 : Ann := .seq none .leaf (.seq none .leaf (.seq none (.seq (some ⟨[0, 1, 23, 5], [.box 61 [.ownA 1 50 (.pair (.int .i64) (.pair (.int .i64) (.os 3 (.int .i64)))), .own 3 (.int .i64), .own 3 (.int .i64), .bool] [], .leaf (.ro (.int .i64)), .leaf .bool, .leaf (.elo 1 0)]⟩) .leaf (.cond (.seq none .leaf .leaf) .leaf)) (.seq none (.seq none .leaf (.block (.loop ⟨[0, 1, 7, 5], [.box 61 [.ownA 1 50 (.pair (.int .i64) (.pair (.int .i64) (.os 3 (.int .i64)))), .own 3 (.int .i64), .own 3 (.int .i64), .bool] [], .leaf (.ro (.int .i64)), .leaf (.int .i64), .leaf (.elo 1 0)]⟩ (.seq none (.seq none .leaf (.cond .leaf .leaf)) (.seq none (.block (.seq none .leaf (.cond (.seq none .leaf .leaf) .leaf))) .leaf))))) (.seq none (.seq none .leaf (.block (.loop ⟨[0, 1, 8, 5], [.box 61 [.ownA 1 50 (.pair (.int .i64) (.pair (.int .i64) (.os 3 (.int .i64)))), .own 3 (.int .i64), .own 3 (.int .i64), .bool] [], .leaf (.ro (.int .i64)), .leaf (.int .i64), .leaf (.elo 1 0)]⟩ (.seq none (.seq none .leaf (.cond .leaf .leaf)) (.seq (some ⟨[0, 1, 8, 5], [.box 61 [.ownA 1 50 (.pair (.int .i64) (.pair (.int .i64) (.os 3 (.int .i64)))), .own 3 (.int .i64), .own 3 (.int .i64), .bool] [], .leaf (.ro (.int .i64)), .leaf (.int .i64), .leaf (.elo 1 0)]⟩) (.block (.seq none .leaf (.seq none .leaf (.seq none .leaf (.cond .leaf .leaf))))) .leaf))))) (.seq none .leaf .leaf)))))
def ty_Z22 : List (Nat × Ty) := [(3, (.int .i64))]
def vr_Z22 : Nat → Nat := fun _ => 0
abbrev sg_Z23 : Sig := ⟨[.box 61 [.ownA 1 50 (.pair (.int .i64) (.pair (.int .i64) (.os 3 (.int .i64)))), .own 3 (.int .i64), .own 3 (.int .i64), .bool] [.ownk 1 50 (.pair (.int .i64) (.pair (.int .i64) (.os 3 (.int .i64)))), .own 3 (.int .i64), .own 3 (.int .i64), .bool], .agg [.int .i64, .int .i64]], [.leaf .bool]⟩
def an_Z23 : Ann := .seq none .leaf (.seq none .leaf (.seq none (.seq none .leaf (.block (.seq none .leaf (.cond (.seq none .leaf .leaf) (.seq none .leaf (.cond (.seq none .leaf .leaf) (.seq none .leaf (.cond (.seq none .leaf .leaf) (.seq none .leaf (.cond (.seq none .leaf .leaf) (.seq none .leaf (.cond (.seq none .leaf .leaf) (.seq none .leaf (.cond (.seq none .leaf .leaf) (.seq none .leaf (.cond (.seq none .leaf .leaf) (.seq none .leaf (.cond (.seq none .leaf (.seq none .leaf .leaf)) (.seq none .leaf (.cond (.seq none .leaf .leaf) (.seq none .leaf (.cond (.seq none .leaf .leaf) (.seq none .leaf (.cond (.seq none (.seq none .leaf (.cond (.seq none .leaf .leaf) .leaf)) (.seq none .leaf (.seq none .leaf (.seq none (.seq none .leaf (.cond .leaf .leaf)) (.seq none .leaf .leaf))))) (.seq none .leaf (.cond (.seq none .leaf (.seq none (.seq none .leaf (.cond (.seq none .leaf .leaf) .leaf)) (.seq none .leaf (.seq none (.seq none .leaf (.cond .leaf .leaf)) (.seq none .leaf .leaf))))) (.seq none .leaf (.cond (.seq none .leaf .leaf) (.seq none .leaf (.cond (.seq none .leaf (.seq none .leaf .leaf)) (.seq none .leaf (.cond (.seq none (.seq none .leaf (.cond (.seq none .leaf .leaf) .leaf)) (.seq none .leaf (.seq none .leaf (.seq none (.seq (some ⟨[0, 17, 183, 18], [.box 61 [.ownA 1 50 (.pair (.int .i64) (.pair (.int .i64) (.os 3 (.int .i64)))), .own 3 (.int .i64), .own 3 (.int .i64), .bool] [], .leaf (.own 3 (.int .i64)), .leaf .bool, .leaf (.elo 1 0)]⟩) .leaf (.cond (.seq none .leaf .leaf) .leaf)) (.seq none .leaf (.seq none .leaf .leaf)))))) (.seq none .leaf (.cond (.seq none (.seq none .leaf (.cond (.seq none .leaf .leaf) .leaf)) (.seq none .leaf (.seq none .leaf .leaf))) (.seq none .leaf (.cond (.seq none .leaf .leaf) (.seq none .leaf (.cond (.seq none (.seq none .leaf (.cond (.seq none .leaf .leaf) .leaf)) (.seq none .leaf (.seq none .leaf .leaf))) (.seq none .leaf (.cond (.seq none .leaf (.seq none .leaf .leaf)) .leaf)))))))))))))))))))))))))))))))))))))))) (.seq (some ⟨[0], [.box 61 [.ownA 1 50 (.pair (.int .i64) (.pair (.int .i64) (.os 3 (.int .i64)))), .own 3 (.int .i64), .own 3 (.int .i64), .bool] []]⟩) .leaf (.seq none .leaf .leaf))))
def ty_Z23 : List (Nat × Ty) := []
def vr_Z23 : Nat → Nat := fun _ => 0
abbrev sg_Z11 : Sig := ⟨[.box 61 [.own 50 (.pair (.int .i64) (.pair (.int .i64) (.os 3 (.int .i64)))), .own 3 (.int .i64), .own 3 (.int .i64), .bool] [.may 50 (.pair (.int .i64) (.pair (.int .i64) (.os 3 (.int .i64)))), .own 3 (.int .i64), .own 3 (.int .i64), .bool], .agg [.int .i64, .int .i64]], [.leaf .bool]⟩
def an_Z11 : Ann := .seq none .leaf (.seq none .leaf (.seq none (.seq none .leaf (.cond (.seq none .leaf .leaf) .leaf)) (.seq none .leaf (.seq none .leaf .leaf))))
def ty_Z11 : List (Nat × Ty) := []
def vr_Z11 : Nat → Nat := fun _ => 0
abbrev sg_Z34 : Sig := ⟨[.leaf (.ro (.pair (.int .i64) (.pair (.int .i64) (.sl (.int .i64)))))], [.leaf (.own 50 (.pair (.int .i64) (.pair (.int .i64) (.os 3 (.int .i64)))))]⟩
def an_Z34 : Ann := .seq none .leaf (.seq none .leaf (.seq none (.seq none .leaf (.block (.loop ⟨[3, 7, 8, 9], [.leaf (.own 50 (.pair (.int .i64) (.pair (.int .i64) (.os 3 (.int .i64))))), .leaf (.ro (.pair (.int .i64) (.pair (.int .i64) (.sl (.int .i64))))), .leaf (.int .i64), .leaf (.int .i64)]⟩ (.seq none .leaf (.seq none (.cond .leaf .leaf) (.seq none (.block (.seq none .leaf .leaf)) .leaf)))))) (.seq none .leaf .leaf)))
def ty_Z34 : List (Nat × Ty) := [(50, (.pair (.int .i64) (.pair (.int .i64) (.os 3 (.int .i64)))))]
def vr_Z34 : Nat → Nat := fun _ => 0
abbrev sg_Z19 : Sig := ⟨[.agg [.ro (.pair (.int .i64) (.pair (.int .i64) (.sl (.int .i64)))), .ro (.int .i64), .ro (.int .i64), .bool]], [.agg [.own 50 (.pair (.int .i64) (.pair (.int .i64) (.os 3 (.int .i64)))), .own 3 (.int .i64), .own 3 (.int .i64), .bool]]⟩
def an_Z19 : Ann := .seq none .leaf (.seq none .leaf .leaf)
def ty_Z19 : List (Nat × Ty) := []
def vr_Z19 : Nat → Nat := fun _ => 0
abbrev sg_Z14 : Sig := ⟨[.agg [.ro (.pair (.int .i64) (.pair (.int .i64) (.sl (.int .i64)))), .ro (.int .i64), .ro (.int .i64), .bool]], []⟩
def an_Z14 : Ann := .leaf
def ty_Z14 : List (Nat × Ty) := []
def vr_Z14 : Nat → Nat := fun _ => 0
abbrev sg_Z3 : Sig := ⟨[.leaf (.ro (.pair (.int .i64) (.int .i64))), .leaf .fn], [.agg [.own 50 (.pair (.int .i64) (.pair (.int .i64) (.os 3 (.int .i64)))), .own 3 (.int .i64), .own 3 (.int .i64), .bool], .leaf (.int .i64)]⟩
def an_Z3 : Ann := .seq none .leaf (.seq none .leaf (.seq none (.seq none .leaf (.block (.loop ⟨[0, 1, 4, 6, 10, 11, 12], [.leaf (.ro (.pair (.int .i64) (.int .i64))), .leaf (.fnc 41), .box 61 [.nil, .nil, .nil, .bool] [], .box 61 [.own 50 (.pair (.int .i64) (.pair (.int .i64) (.os 3 (.int .i64)))), .own 3 (.int .i64), .own 3 (.int .i64), .bool] [], .leaf (.ro (.pair (.int .i64) (.int .i64))), .leaf (.int .i64), .leaf (.int .i64)]⟩ (.seq none .leaf (.seq none (.cond .leaf .leaf) (.seq none (.block (.seq none .leaf (.seq none (.seq none .leaf (.cond (.seq none .leaf .leaf) .leaf)) .leaf))) .leaf)))))) (.seq none .leaf .leaf)))
def ty_Z3 : List (Nat × Ty) := []
def vr_Z3 : Nat → Nat := fun _ => 0
abbrev sg_Z31 : Sig := ⟨[.leaf (.ro (.pair (.int .i64) (.int .i64)))], [.agg [.own 50 (.pair (.int .i64) (.pair (.int .i64) (.os 3 (.int .i64)))), .int .i64], .leaf .bool]⟩
def an_Z31 : Ann := .seq none .leaf (.seq none (.seq none .leaf (.cond (.seq none .leaf .leaf) .leaf)) (.seq none .leaf (.seq none (.seq (some ⟨[2, 4, 23], [.box 28 [.nil, .int .i64] [], .box 61 [.own 50 (.pair (.int .i64) (.pair (.int .i64) (.os 3 (.int .i64)))), .own 3 (.int .i64), .own 3 (.int .i64), .bool] [], .leaf .bool]⟩) .leaf (.cond (.seq none .leaf .leaf) .leaf)) (.seq none .leaf .leaf))))
def ty_Z31 : List (Nat × Ty) := []
def vr_Z31 : Nat → Nat := fun _ => 0
abbrev sg_Z40 : Sig := ⟨[.leaf (.int .i64), .boxA 1 95 [.mp .bool] [.mp .bool], .boxA 2 45 [.own 3 (.int .i64)] [.own 3 (.int .i64)], .boxA 3 28 [.ro (.pair (.int .i64) (.pair (.int .i64) (.sl (.int .i64)))), .int .i64] [.ro (.pair (.int .i64) (.pair (.int .i64) (.sl (.int .i64)))), .int .i64], .boxA 4 91 [.slf 71 [1, 2, 3, 4]] [.slf 71 [1, 2, 3, 4]]], []⟩
def an_Z40 : Ann := .seq none (.seq none .leaf (.cond .leaf .leaf)) (.seq none .leaf (.seq none .leaf (.seq none .leaf (.block (.loop ⟨[1, 2, 3, 4, 22, 23, 24], [.boxA 1 95 [.mp .bool] [], .boxA 2 45 [.own 3 (.int .i64)] [], .boxA 3 28 [.ro (.pair (.int .i64) (.pair (.int .i64) (.sl (.int .i64)))), .int .i64] [], .boxA 4 91 [.slf 71 [1, 2, 3, 4]] [], .leaf (.ro (.int .i64)), .leaf (.int .i64), .leaf (.int .i64)]⟩ (.seq none .leaf (.seq none (.cond .leaf .leaf) (.seq none (.block (.seq none .leaf .leaf)) .leaf))))))))
def ty_Z40 : List (Nat × Ty) := [(3, (.int .i64)), (4, .bool)]
def vr_Z40 : Nat → Nat := fun _ => 0
abbrev sg_Z64 : Sig := ⟨[.agg [.ro (.pair (.int .i64) (.pair (.int .i64) (.sl (.int .i64)))), .int .i64]], [.leaf (.own 3 (.int .i64))]⟩
def an_Z64 : Ann := .seq none .leaf (.seq none .leaf (.seq none .leaf (.seq none .leaf (.seq none .leaf (.seq none .leaf (.seq none .leaf .leaf))))))
def ty_Z64 : List (Nat × Ty) := [(3, (.int .i64)), (4, .bool)]
def vr_Z64 : Nat → Nat := fun _ => 0
abbrev sg_i_mapped : Sig := ⟨[.agg [.int .i64, .int .i64, .ro (.int .i64)], .leaf (.ro (.int .i64))], [.agg [.int .i64, .int .i64, .own 3 (.int .i64)]]⟩
def an_i_mapped : Ann := .seq none .leaf (.seq none .leaf (.seq none (.seq none .leaf (.block (.loop ⟨[1, 4, 5, 14, 15, 16], [.leaf (.ro (.int .i64)), .box 50 [.int .i64, .int .i64, .nil] [], .box 50 [.int .i64, .int .i64, .own 3 (.int .i64)] [], .leaf (.ro (.int .i64)), .leaf (.int .i64), .leaf (.int .i64)]⟩ (.seq none .leaf (.seq none (.cond .leaf .leaf) (.seq none (.block (.seq none .leaf .leaf)) .leaf)))))) (.seq none .leaf .leaf)))
def ty_i_mapped : List (Nat × Ty) := [(3, (.int .i64))]
def vr_i_mapped : Nat → Nat := fun _ => 0
abbrev sg_i_pruned : Sig := ⟨[.agg [.ro (.pair (.int .i64) (.pair (.int .i64) (.sl (.int .i64)))), .int .i64]], [.agg [.own 50 (.pair (.int .i64) (.pair (.int .i64) (.os 3 (.int .i64)))), .int .i64]]⟩
def an_i_pruned : Ann := .seq none .leaf (.seq none .leaf (.seq none .leaf (.seq none (.seq none .leaf (.block (.loop ⟨[1, 2, 3, 4, 17, 18, 16], [.box 28 [.ro (.pair (.int .i64) (.pair (.int .i64) (.sl (.int .i64)))), .int .i64] [], .box 28 [.nil, .int .i64] [], .leaf (.ownA 600192 3 (.int .i64)), .leaf (.own 3 (.int .i64)), .leaf (.int .i64), .leaf (.int .i64), .leaf (.ali 600192)]⟩ (.seq none .leaf (.seq none (.cond .leaf .leaf) (.seq none (.block (.seq none .leaf .leaf)) .leaf)))))) (.seq none .leaf (.seq none (.seq none .leaf (.block (.loop ⟨[1, 2, 4, 7, 29, 30, 31], [.box 28 [.ro (.pair (.int .i64) (.pair (.int .i64) (.sl (.int .i64)))), .int .i64] [], .box 28 [.nil, .int .i64] [], .leaf (.own 3 (.int .i64)), .box 28 [.own 50 (.pair (.int .i64) (.pair (.int .i64) (.os 3 (.int .i64)))), .int .i64] [], .leaf (.own 3 (.int .i64)), .leaf (.int .i64), .leaf (.int .i64)]⟩ (.seq none .leaf (.seq none (.cond .leaf .leaf) (.seq none (.block (.seq none .leaf .leaf)) .leaf)))))) (.seq none .leaf .leaf))))))
def ty_i_pruned : List (Nat × Ty) := [(3, (.int .i64)), (50, (.pair (.int .i64) (.pair (.int .i64) (.os 3 (.int .i64)))))]
def vr_i_pruned : Nat → Nat := fun _ => 0
abbrev sg_Z43 : Sig := ⟨[.agg [.ro (.pair (.int .i64) (.pair (.int .i64) (.sl (.int .i64)))), .int .i64]], [.agg [.own 50 (.pair (.int .i64) (.pair (.int .i64) (.os 3 (.int .i64)))), .int .i64], .leaf .bool]⟩
def an_Z43 : Ann := .seq none .leaf (.seq none .leaf (.seq none (.seq none .leaf (.cond (.seq none .leaf .leaf) .leaf)) (.seq none .leaf (.seq none (.seq none .leaf (.cond (.seq none .leaf .leaf) .leaf)) (.seq none .leaf .leaf)))))
def ty_Z43 : List (Nat × Ty) := []
def vr_Z43 : Nat → Nat := fun _ => 0
abbrev sg_l_eqIntS : Sig := ⟨[.leaf (.ro (.int .i64)), .leaf (.ro (.int .i64))], [.leaf .bool]⟩
def an_l_eqIntS : Ann := .seq none .leaf (.seq none (.seq none .leaf (.cond (.seq none .leaf .leaf) .leaf)) (.seq none (.seq none .leaf (.block (.loop ⟨[0, 1, 5], [.leaf (.ro (.int .i64)), .leaf (.ro (.int .i64)), .leaf (.int .i64)]⟩ (.seq none (.seq none .leaf (.cond .leaf .leaf)) (.seq none (.block (.seq none .leaf (.cond (.seq none .leaf .leaf) .leaf))) .leaf))))) (.seq none .leaf .leaf)))
def ty_l_eqIntS : List (Nat × Ty) := []
def vr_l_eqIntS : Nat → Nat := fun _ => 0
abbrev sg_l_eqNode : Sig := ⟨[.agg [.int .i64, .int .i64, .ro (.int .i64)], .agg [.int .i64, .int .i64, .ro (.int .i64)]], [.leaf .bool]⟩
def an_l_eqNode : Ann := .seq none .leaf (.seq none (.seq none .leaf (.cond (.seq none .leaf .leaf) .leaf)) (.seq none (.seq none .leaf (.cond (.seq none .leaf .leaf) .leaf)) (.seq none (.seq none .leaf (.cond (.seq none .leaf .leaf) .leaf)) (.seq none .leaf .leaf))))
def ty_l_eqNode : List (Nat × Ty) := []
def vr_l_eqNode : Nat → Nat := fun _ => 0
abbrev sg_Z54 : Sig := ⟨[.leaf (.ro (.pair (.int .i64) (.pair (.int .i64) (.sl (.int .i64))))), .leaf (.ro (.pair (.int .i64) (.pair (.int .i64) (.sl (.int .i64)))))], [.leaf .bool]⟩
def an_Z54 : Ann := .seq none .leaf (.seq none (.seq none .leaf (.cond (.seq none .leaf .leaf) .leaf)) (.seq none (.seq none .leaf (.block (.loop ⟨[0, 1, 5], [.leaf (.ro (.pair (.int .i64) (.pair (.int .i64) (.sl (.int .i64))))), .leaf (.ro (.pair (.int .i64) (.pair (.int .i64) (.sl (.int .i64))))), .leaf (.int .i64)]⟩ (.seq none (.seq none .leaf (.cond .leaf .leaf)) (.seq none (.block (.seq none .leaf (.cond (.seq none .leaf .leaf) .leaf))) .leaf))))) (.seq none .leaf .leaf)))
def ty_Z54 : List (Nat × Ty) := []
def vr_Z54 : Nat → Nat := fun _ => 0
abbrev sg_Z57 : Sig := ⟨[.agg [.ro (.pair (.int .i64) (.pair (.int .i64) (.sl (.int .i64)))), .int .i64], .agg [.ro (.pair (.int .i64) (.pair (.int .i64) (.sl (.int .i64)))), .int .i64]], [.leaf .bool]⟩
def an_Z57 : Ann := .seq none .leaf (.seq none (.seq none .leaf (.cond (.seq none .leaf .leaf) .leaf)) (.seq none (.seq none .leaf (.cond (.seq none .leaf .leaf) .leaf)) (.seq none .leaf .leaf)))
def ty_Z57 : List (Nat × Ty) := []
def vr_Z57 : Nat → Nat := fun _ => 0
abbrev sg_Z50 : Sig := ⟨[.muts 1 3 (.int .i64), .leaf (.int .i64)], [.leaf (.int .i64)]⟩
def an_Z50 : Ann := .seq none .leaf (.seq none (.seq none .leaf (.block (.loop ⟨[0, 1, 5], [.muts 1 3 (.int .i64), .leaf (.int .i64), .leaf (.int .i64)]⟩ (.seq none (.seq none .leaf (.cond .leaf .leaf)) (.seq none (.block (.seq none .leaf .leaf)) .leaf))))) (.seq none .leaf .leaf))
def ty_Z50 : List (Nat × Ty) := []
def vr_Z50 : Nat → Nat := fun _ => 0
abbrev sg_Z42 : Sig := ⟨[.muts 1 50 (.pair (.int .i64) (.pair (.int .i64) (.os 3 (.int .i64)))), .leaf (.int .i64)], [.leaf (.int .i64)]⟩
def an_Z42 : Ann := .seq none .leaf (.seq none (.seq none .leaf (.block (.loop ⟨[0, 1, 5], [.muts 1 50 (.pair (.int .i64) (.pair (.int .i64) (.os 3 (.int .i64)))), .leaf (.int .i64), .leaf (.int .i64)]⟩ (.seq none (.seq none .leaf (.cond .leaf .leaf)) (.seq none (.block (.seq none .leaf (.seq none .leaf (.seq none .leaf (.seq none .leaf .leaf))))) .leaf))))) (.seq none .leaf .leaf))
def ty_Z42 : List (Nat × Ty) := []
def vr_Z42 : Nat → Nat := fun _ => 0
abbrev sg_Z46 : Sig := ⟨[.aggm [.ownA 1 50 (.pair (.int .i64) (.pair (.int .i64) (.os 3 (.int .i64)))), .int .i64], .leaf (.int .i64)], [.leaf (.int .i64)]⟩
def an_Z46 : Ann := .seq none .leaf (.seq none .leaf (.seq none .leaf .leaf))
def ty_Z46 : List (Nat × Ty) := []
def vr_Z46 : Nat → Nat := fun _ => 0
abbrev sg_Z47 : Sig := ⟨[.leaf (.ro (.int .i64)), .leaf (.int .i64)], [.leaf (.int .i64)]⟩
def an_Z47 : Ann := .seq none .leaf (.seq none (.seq none .leaf (.block (.loop ⟨[0, 1, 5], [.leaf (.ro (.int .i64)), .leaf (.int .i64), .leaf (.int .i64)]⟩ (.seq none (.seq none .leaf (.cond .leaf .leaf)) (.seq none (.block (.seq none (.seq none .leaf (.cond (.seq none .leaf .leaf) .leaf)) .leaf)) .leaf))))) (.seq none .leaf .leaf))
def ty_Z47 : List (Nat × Ty) := []
def vr_Z47 : Nat → Nat := fun _ => 0
abbrev sg_Z35 : Sig := ⟨[.leaf (.ro (.pair (.int .i64) (.pair (.int .i64) (.sl (.int .i64))))), .leaf (.int .i64)], [.leaf (.int .i64)]⟩
def an_Z35 : Ann := .seq none .leaf (.seq none (.seq none .leaf (.block (.loop ⟨[0, 1, 5], [.leaf (.ro (.pair (.int .i64) (.pair (.int .i64) (.sl (.int .i64))))), .leaf (.int .i64), .leaf (.int .i64)]⟩ (.seq none (.seq none .leaf (.cond .leaf .leaf)) (.seq none (.block (.seq none (.seq none .leaf (.cond (.seq none .leaf .leaf) .leaf)) (.seq none .leaf (.seq none (.seq none .leaf (.cond (.seq none .leaf .leaf) .leaf)) (.seq none .leaf (.seq none .leaf (.seq none .leaf (.cond (.seq none .leaf .leaf) .leaf)))))))) .leaf))))) (.seq none .leaf .leaf))
def ty_Z35 : List (Nat × Ty) := []
def vr_Z35 : Nat → Nat := fun _ => 0
abbrev sg_Z38 : Sig := ⟨[.agg [.ro (.pair (.int .i64) (.pair (.int .i64) (.sl (.int .i64)))), .int .i64], .leaf (.int .i64)], [.leaf (.int .i64)]⟩
def an_Z38 : Ann := .seq none .leaf (.seq none .leaf (.seq none (.seq none .leaf (.cond (.seq none .leaf .leaf) .leaf)) (.seq none .leaf .leaf)))
def ty_Z38 : List (Nat × Ty) := []
def vr_Z38 : Nat → Nat := fun _ => 0
abbrev sg_Z6 : Sig := ⟨[.agg [.ro (.pair (.int .i64) (.pair (.int .i64) (.sl (.int .i64)))), .int .i64]], [.leaf .bool]⟩
def an_Z6 : Ann := .seq none .leaf (.seq none .leaf (.seq none .leaf (.seq none (.seq none .leaf (.cond (.seq none .leaf .leaf) .leaf)) (.seq none .leaf (.seq none .leaf (.seq none .leaf (.seq none (.seq (some ⟨[1, 4, 5, 6, 7, 8, 40], [.box 24 [.ro (.pair (.int .i64) (.pair (.int .i64) (.sl (.int .i64)))), .int .i64] [], .box 28 [.own 50 (.pair (.int .i64) (.pair (.int .i64) (.oso 3 (.int .i64)))), .int .i64] [], .leaf .bool, .box 28 [.own 50 (.pair (.int .i64) (.pair (.int .i64) (.os 3 (.int .i64)))), .int .i64] [], .box 28 [.own 50 (.pair (.int .i64) (.pair (.int .i64) (.os 3 (.int .i64)))), .int .i64] [], .leaf .bool, .leaf .bool]⟩) .leaf (.cond (.seq none .leaf .leaf) .leaf)) (.seq none (.seq none .leaf (.cond (.seq none .leaf .leaf) .leaf)) (.seq none .leaf (.seq none .leaf (.seq none (.seq (some ⟨[1, 4, 5, 7, 61], [.box 24 [.ro (.pair (.int .i64) (.pair (.int .i64) (.sl (.int .i64)))), .int .i64] [], .box 28 [.own 50 (.pair (.int .i64) (.pair (.int .i64) (.oso 3 (.int .i64)))), .int .i64] [], .leaf .bool, .box 28 [.own 50 (.pair (.int .i64) (.pair (.int .i64) (.os 3 (.int .i64)))), .int .i64] [], .leaf .bool]⟩) .leaf (.cond (.seq none .leaf .leaf) .leaf)) (.seq none .leaf (.seq none .leaf (.seq none .leaf (.seq none .leaf (.seq none (.seq none .leaf (.cond (.seq none .leaf .leaf) .leaf)) (.seq none (.seq none .leaf (.cond (.seq none .leaf .leaf) .leaf)) (.seq none .leaf (.seq none (.seq (some ⟨[7, 10, 87], [.box 28 [.own 50 (.pair (.int .i64) (.pair (.int .i64) (.os 3 (.int .i64)))), .int .i64] [], .leaf (.int .i64), .leaf .bool]⟩) .leaf (.cond (.seq none .leaf .leaf) .leaf)) (.seq none .leaf (.seq none .leaf (.seq none (.seq none .leaf (.cond (.seq none .leaf .leaf) .leaf)) (.seq none (.seq none .leaf (.cond (.seq none .leaf .leaf) .leaf)) (.seq none .leaf .leaf))))))))))))))))))))))))
def ty_Z6 : List (Nat × Ty) := []
def vr_Z6 : Nat → Nat := fun _ => 0
noncomputable def sigs : List (Nat × Sig) := [(3, sg_Z6), (4, sg_Z68), (5, sg_Z37), (6, sg_Z71), (7, sg_Z43), (8, sg_Z57), (9, sg_Z46), (10, sg_Z38), (11, sg_Z59), (12, sg_Z26), (13, sg_Z65), (14, sg_Z33), (15, sg_s_pruned), (16, sg_Z58), (17, sg_Z32), (18, sg_Z31), (19, sg_i_pruned), (20, sg_Z54), (21, sg_Z42), (22, sg_Z35), (23, sg_l_szNode), (24, sg_Z56), (25, sg_Z45), (26, sg_Z67), (27, sg_Z30), (28, sg_s_save), (29, sg_Z44), (30, sg_s_emit), (31, sg_Z51), (32, sg_s_run), (33, sg_Z28), (34, sg_s_built), (35, sg_s_reach), (36, sg_l_toNode), (37, sg_Z25), (38, sg_Z66), (39, sg_Z49), (40, sg_Z3), (41, sg_Z14), (42, sg_Z64), (43, sg_i_mapped), (44, sg_l_eqNode), (45, sg_Z50), (46, sg_Z47), (47, sg_l_szIntS), (48, sg_s_allIn), (49, sg_Z36), (50, sg_Z48), (51, sg_s_memoed), (52, sg_Z39), (53, sg_s_fill), (54, sg_Z70), (55, sg_Z62), (56, sg_s_step), (57, sg_Z20), (58, sg_l_toIntS), (59, sg_Z0), (60, sg_Z18), (61, sg_i_nodeOk), (62, sg_Z4), (63, sg_Z15), (64, sg_Z12), (65, sg_Z41), (66, sg_Z2), (67, sg_i_opOk), (68, sg_Z24), (69, sg_Z11), (70, sg_Z19), (71, sg_Z40), (72, sg_l_eqIntS), (73, sg_s_isKey), (74, sg_Z55), (75, sg_s_argOf), (76, sg_s_push), (77, sg_Z53), (78, sg_Z60), (79, sg_Z1), (80, sg_Z63), (81, sg_Z29), (82, sg_Z7), (83, sg_Z13), (84, sg_Z61), (85, sg_Z5), (86, sg_Z23), (87, sg_Z34), (88, sg_s_markAt), (89, sg_s_drop), (90, sg_s_top), (91, sg_s_kindOf), (92, sg_Z52), (93, sg_Z69), (94, sg_Z27), (95, sg_Z9), (96, sg_Z10), (97, sg_Z16), (98, sg_Z8), (99, sg_Z17), (100, sg_Z21), (101, sg_Z22)]
noncomputable def fns : List (Nat × FnI) := [(3, ⟨Try.f3, an_Z6, lk ty_Z6, vr_Z6⟩), (4, ⟨Try.f4, an_Z68, lk ty_Z68, vr_Z68⟩), (5, ⟨Try.f5, an_Z37, lk ty_Z37, vr_Z37⟩), (6, ⟨Try.f6, an_Z71, lk ty_Z71, vr_Z71⟩), (7, ⟨Try.f7, an_Z43, lk ty_Z43, vr_Z43⟩), (8, ⟨Try.f8, an_Z57, lk ty_Z57, vr_Z57⟩), (9, ⟨Try.f9, an_Z46, lk ty_Z46, vr_Z46⟩), (10, ⟨Try.f10, an_Z38, lk ty_Z38, vr_Z38⟩), (11, ⟨Try.f11, an_Z59, lk ty_Z59, vr_Z59⟩), (12, ⟨Try.f12, an_Z26, lk ty_Z26, vr_Z26⟩), (13, ⟨Try.f13, an_Z65, lk ty_Z65, vr_Z65⟩), (14, ⟨Try.f14, an_Z33, lk ty_Z33, vr_Z33⟩), (15, ⟨Try.f15, an_s_pruned, lk ty_s_pruned, vr_s_pruned⟩), (16, ⟨Try.f16, an_Z58, lk ty_Z58, vr_Z58⟩), (17, ⟨Try.f17, an_Z32, lk ty_Z32, vr_Z32⟩), (18, ⟨Try.f18, an_Z31, lk ty_Z31, vr_Z31⟩), (19, ⟨Try.f19, an_i_pruned, lk ty_i_pruned, vr_i_pruned⟩), (20, ⟨Try.f20, an_Z54, lk ty_Z54, vr_Z54⟩), (21, ⟨Try.f21, an_Z42, lk ty_Z42, vr_Z42⟩), (22, ⟨Try.f22, an_Z35, lk ty_Z35, vr_Z35⟩), (23, ⟨Try.f23, an_l_szNode, lk ty_l_szNode, vr_l_szNode⟩), (24, ⟨Try.f24, an_Z56, lk ty_Z56, vr_Z56⟩), (25, ⟨Try.f25, an_Z45, lk ty_Z45, vr_Z45⟩), (26, ⟨Try.f26, an_Z67, lk ty_Z67, vr_Z67⟩), (27, ⟨Try.f27, an_Z30, lk ty_Z30, vr_Z30⟩), (28, ⟨Try.f28, an_s_save, lk ty_s_save, vr_s_save⟩), (29, ⟨Try.f29, an_Z44, lk ty_Z44, vr_Z44⟩), (30, ⟨Try.f30, an_s_emit, lk ty_s_emit, vr_s_emit⟩), (31, ⟨Try.f31, an_Z51, lk ty_Z51, vr_Z51⟩), (32, ⟨Try.f32, an_s_run, lk ty_s_run, vr_s_run⟩), (33, ⟨Try.f33, an_Z28, lk ty_Z28, vr_Z28⟩), (34, ⟨Try.f34, an_s_built, lk ty_s_built, vr_s_built⟩), (35, ⟨Try.f35, an_s_reach, lk ty_s_reach, vr_s_reach⟩), (36, ⟨Try.f36, an_l_toNode, lk ty_l_toNode, vr_l_toNode⟩), (37, ⟨Try.f37, an_Z25, lk ty_Z25, vr_Z25⟩), (38, ⟨Try.f38, an_Z66, lk ty_Z66, vr_Z66⟩), (39, ⟨Try.f39, an_Z49, lk ty_Z49, vr_Z49⟩), (40, ⟨Try.f40, an_Z3, lk ty_Z3, vr_Z3⟩), (41, ⟨Try.f41, an_Z14, lk ty_Z14, vr_Z14⟩), (42, ⟨Try.f42, an_Z64, lk ty_Z64, vr_Z64⟩), (43, ⟨Try.f43, an_i_mapped, lk ty_i_mapped, vr_i_mapped⟩), (44, ⟨Try.f44, an_l_eqNode, lk ty_l_eqNode, vr_l_eqNode⟩), (45, ⟨Try.f45, an_Z50, lk ty_Z50, vr_Z50⟩), (46, ⟨Try.f46, an_Z47, lk ty_Z47, vr_Z47⟩), (47, ⟨Try.f47, an_l_szIntS, lk ty_l_szIntS, vr_l_szIntS⟩), (48, ⟨Try.f48, an_s_allIn, lk ty_s_allIn, vr_s_allIn⟩), (49, ⟨Try.f49, an_Z36, lk ty_Z36, vr_Z36⟩), (50, ⟨Try.f50, an_Z48, lk ty_Z48, vr_Z48⟩), (51, ⟨Try.f51, an_s_memoed, lk ty_s_memoed, vr_s_memoed⟩), (52, ⟨Try.f52, an_Z39, lk ty_Z39, vr_Z39⟩), (53, ⟨Try.f53, an_s_fill, lk ty_s_fill, vr_s_fill⟩), (54, ⟨Try.f54, an_Z70, lk ty_Z70, vr_Z70⟩), (55, ⟨Try.f55, an_Z62, lk ty_Z62, vr_Z62⟩), (56, ⟨Try.f56, an_s_step, lk ty_s_step, vr_s_step⟩), (57, ⟨Try.f57, an_Z20, lk ty_Z20, vr_Z20⟩), (58, ⟨Try.f58, an_l_toIntS, lk ty_l_toIntS, vr_l_toIntS⟩), (59, ⟨Try.f59, an_Z0, lk ty_Z0, vr_Z0⟩), (60, ⟨Try.f60, an_Z18, lk ty_Z18, vr_Z18⟩), (61, ⟨Try.f61, an_i_nodeOk, lk ty_i_nodeOk, vr_i_nodeOk⟩), (62, ⟨Try.f62, an_Z4, lk ty_Z4, vr_Z4⟩), (63, ⟨Try.f63, an_Z15, lk ty_Z15, vr_Z15⟩), (64, ⟨Try.f64, an_Z12, lk ty_Z12, vr_Z12⟩), (65, ⟨Try.f65, an_Z41, lk ty_Z41, vr_Z41⟩), (66, ⟨Try.f66, an_Z2, lk ty_Z2, vr_Z2⟩), (67, ⟨Try.f67, an_i_opOk, lk ty_i_opOk, vr_i_opOk⟩), (68, ⟨Try.f68, an_Z24, lk ty_Z24, vr_Z24⟩), (69, ⟨Try.f69, an_Z11, lk ty_Z11, vr_Z11⟩), (70, ⟨Try.f70, an_Z19, lk ty_Z19, vr_Z19⟩), (71, ⟨Try.f71, an_Z40, lk ty_Z40, vr_Z40⟩), (72, ⟨Try.f72, an_l_eqIntS, lk ty_l_eqIntS, vr_l_eqIntS⟩), (73, ⟨Try.f73, an_s_isKey, lk ty_s_isKey, vr_s_isKey⟩), (74, ⟨Try.f74, an_Z55, lk ty_Z55, vr_Z55⟩), (75, ⟨Try.f75, an_s_argOf, lk ty_s_argOf, vr_s_argOf⟩), (76, ⟨Try.f76, an_s_push, lk ty_s_push, vr_s_push⟩), (77, ⟨Try.f77, an_Z53, lk ty_Z53, vr_Z53⟩), (78, ⟨Try.f78, an_Z60, lk ty_Z60, vr_Z60⟩), (79, ⟨Try.f79, an_Z1, lk ty_Z1, vr_Z1⟩), (80, ⟨Try.f80, an_Z63, lk ty_Z63, vr_Z63⟩), (81, ⟨Try.f81, an_Z29, lk ty_Z29, vr_Z29⟩), (82, ⟨Try.f82, an_Z7, lk ty_Z7, vr_Z7⟩), (83, ⟨Try.f83, an_Z13, lk ty_Z13, vr_Z13⟩), (84, ⟨Try.f84, an_Z61, lk ty_Z61, vr_Z61⟩), (85, ⟨Try.f85, an_Z5, lk ty_Z5, vr_Z5⟩), (86, ⟨Try.f86, an_Z23, lk ty_Z23, vr_Z23⟩), (87, ⟨Try.f87, an_Z34, lk ty_Z34, vr_Z34⟩), (88, ⟨Try.f88, an_s_markAt, lk ty_s_markAt, vr_s_markAt⟩), (89, ⟨Try.f89, an_s_drop, lk ty_s_drop, vr_s_drop⟩), (90, ⟨Try.f90, an_s_top, lk ty_s_top, vr_s_top⟩), (91, ⟨Try.f91, an_s_kindOf, lk ty_s_kindOf, vr_s_kindOf⟩), (92, ⟨Try.f92, an_Z52, lk ty_Z52, vr_Z52⟩), (93, ⟨Try.f93, an_Z69, lk ty_Z69, vr_Z69⟩), (94, ⟨Try.f94, an_Z27, lk ty_Z27, vr_Z27⟩), (95, ⟨Try.f95, an_Z9, lk ty_Z9, vr_Z9⟩), (96, ⟨Try.f96, an_Z10, lk ty_Z10, vr_Z10⟩), (97, ⟨Try.f97, an_Z16, lk ty_Z16, vr_Z16⟩), (98, ⟨Try.f98, an_Z8, lk ty_Z8, vr_Z8⟩), (99, ⟨Try.f99, an_Z17, lk ty_Z17, vr_Z17⟩), (100, ⟨Try.f100, an_Z21, lk ty_Z21, vr_Z21⟩), (101, ⟨Try.f101, an_Z22, lk ty_Z22, vr_Z22⟩)]
def eqts : List Nat := []
def clones : List Nat := [85]
noncomputable def T : Tab := ⟨lk tts, hasN eqts, lk sigs, lk fns, fun _ f s => bif hasN clones f then cloneX s else none⟩
end Go.Gx

/-
  What each function comes to (printed by gen.py).
-/
set_option linter.unusedVariables false
namespace Go.Gx
open Go.Proofs
noncomputable abbrev t_l_szIntS (k : Nat) : C_l_szIntS := (fun a0 a1 => T.call k 47 sg_l_szIntS (a0, a1, ()))
noncomputable abbrev t_l_szNode (k : Nat) : C_l_szNode := (fun a0 a1 a2 a3 => T.call k 23 sg_l_szNode ((a0, a1, a2, ()), a3, ()))
noncomputable abbrev t_Z59 (k : Nat) : C_Z59 := (fun a0 a1 => T.call k 11 sg_Z59 (a0, a1, ()))
noncomputable abbrev t_Z68 (k : Nat) : C_Z68 := (fun a0 a1 a2 => T.call k 4 sg_Z68 ((a0, a1, ()), a2, ()))
noncomputable abbrev t_l_toIntS (k : Nat) : C_l_toIntS := (fun a0 => T.call k 58 sg_l_toIntS (a0, ()))
noncomputable abbrev t_l_toNode (k : Nat) : C_l_toNode := (fun a0 a1 a2 => T.call k 36 sg_l_toNode ((a0, a1, a2, ()), ()))
noncomputable abbrev t_Z58 (k : Nat) : C_Z58 := (fun a0 => T.call k 16 sg_Z58 (a0, ()))
noncomputable abbrev t_Z71 (k : Nat) : C_Z71 := (fun a0 a1 => T.call k 6 sg_Z71 ((a0, a1, ()), ()))
noncomputable abbrev t_Z56 (k : Nat) : C_Z56 := (fun a0 a1 a2 => T.call k 24 sg_Z56 (a0, a1, a2, ()))
noncomputable abbrev t_s_allIn (k : Nat) : C_s_allIn := (fun a0 a1 a2 => T.call k 48 sg_s_allIn (a0, a1, a2, ()))
noncomputable abbrev t_s_isKey (k : Nat) : C_s_isKey := (fun a0 a1 => T.call k 73 sg_s_isKey ((a0, a1, (), ()), ()))
noncomputable abbrev t_Z55 (k : Nat) : C_Z55 := (fun a0 a1 a2 a3 => T.call k 74 sg_Z55 ((a0, a1, (), ()), (a2, a3, (), ()), ()))
noncomputable abbrev t_Z36 (k : Nat) : C_Z36 := (fun a0 a1 a2 a3 a4 => T.call k 49 sg_Z36 ((a0, a1, ()), (a2, a3, a4, ()), ()))
noncomputable abbrev t_Z45 (k : Nat) : C_Z45 := (fun a0 a1 a2 a3 a4 => T.call k 25 sg_Z45 ((a0, a1, ()), (a2, a3, a4, ()), ()))
noncomputable abbrev t_Z48 (k : Nat) : C_Z48 := (fun a0 => T.call k 50 sg_Z48 (a0, ()))
noncomputable abbrev t_Z67 (k : Nat) : C_Z67 := (fun a0 a1 => T.call k 26 sg_Z67 (a0, a1, ()))
noncomputable abbrev t_Z30 (k : Nat) : C_Z30 := (fun a0 a1 a2 => T.call k 27 sg_Z30 ((a0, a1, ()), a2, ()))
noncomputable abbrev t_Z26 (k : Nat) : C_Z26 := (fun a0 a1 => T.call k 12 sg_Z26 ((a0, a1, ()), ()))
noncomputable abbrev t_Z44 (k : Nat) : C_Z44 := (fun a0 a1 => T.call k 29 sg_Z44 ((a0, a1, ()), ()))
noncomputable abbrev t_s_emit (k : Nat) : C_s_emit := (fun a0 a1 => T.call k 30 sg_s_emit (a0, a1, ()))
noncomputable abbrev t_s_memoed (k : Nat) : C_s_memoed := (fun a0 a1 a2 => T.call k 51 sg_s_memoed (a0, a1, a2, ()))
noncomputable abbrev t_Z70 (k : Nat) : C_Z70 := (fun a0 a1 a2 a3 a4 a5 => T.call k 54 sg_Z70 ((a0, a1, ()), a2, a3, a4, a5, ()))
noncomputable abbrev t_Z39 (k : Nat) : C_Z39 := (fun a0 a1 a2 a3 a4 a5 => T.call k 52 sg_Z39 ((a0, a1, ()), a2, a3, a4, a5, ()))
noncomputable abbrev t_s_fill (k : Nat) : C_s_fill := (fun a0 a1 a2 a3 a4 a5 a6 a7 a8 => T.call k 53 sg_s_fill ((a0, a1, ()), a2, a3, a4, a5, a6, a7, a8, ()))
noncomputable abbrev t_s_save (k : Nat) : C_s_save := (fun a0 a1 a2 a3 a4 a5 => T.call k 28 sg_s_save ((a0, a1, ()), a2, a3, a4, a5, ()))
noncomputable abbrev t_Z65 (k : Nat) : C_Z65 := (fun a0 a1 a2 => T.call k 13 sg_Z65 ((a0, a1, ()), a2, ()))
noncomputable abbrev t_s_argOf (k : Nat) : C_s_argOf := (fun a0 => T.call k 75 sg_s_argOf (a0, ()))
noncomputable abbrev t_Z62 (k : Nat) : C_Z62 := (fun a0 a1 => T.call k 55 sg_Z62 ((a0, a1, ()), ()))
noncomputable abbrev t_Z51 (k : Nat) : C_Z51 := (fun a0 => T.call k 31 sg_Z51 (a0, ()))
noncomputable abbrev t_Z28 (k : Nat) : C_Z28 := (T.call k 33 sg_Z28 ())
noncomputable abbrev t_Z20 (k : Nat) : C_Z20 := (fun a0 a1 a2 a3 => T.call k 57 sg_Z20 ((a0, a1, a2, a3, ()), ()))
noncomputable abbrev t_s_push (k : Nat) : C_s_push := (fun a0 a1 a2 a3 a4 a5 a6 => T.call k 76 sg_s_push ((a0, a1, a2, a3, ()), (a4, a5, a6, ()), ()))
noncomputable abbrev t_s_markAt (k : Nat) : C_s_markAt := (fun a0 a1 a2 a3 => T.call k 88 sg_s_markAt ((a0, a1, a2, a3, ()), ()))
noncomputable abbrev t_s_drop (k : Nat) : C_s_drop := (fun a0 a1 a2 a3 a4 => T.call k 89 sg_s_drop ((a0, a1, a2, a3, ()), a4, ()))
noncomputable abbrev t_s_top (k : Nat) : C_s_top := (fun a0 a1 a2 a3 a4 => T.call k 90 sg_s_top ((a0, a1, a2, a3, ()), a4, ()))
noncomputable abbrev t_s_kindOf (k : Nat) : C_s_kindOf := (fun a0 a1 a2 a3 a4 => T.call k 91 sg_s_kindOf ((a0, a1, a2, a3, ()), a4, ()))
noncomputable abbrev t_Z52 (k : Nat) : C_Z52 := (fun a0 a1 a2 a3 a4 => T.call k 92 sg_Z52 ((a0, a1, a2, a3, ()), a4, ()))
noncomputable abbrev t_Z69 (k : Nat) : C_Z69 := (fun a0 a1 a2 a3 a4 a5 a6 => T.call k 93 sg_Z69 ((a0, a1, a2, a3, ()), a4, a5, a6, ()))
noncomputable abbrev t_Z53 (k : Nat) : C_Z53 := (fun a0 a1 a2 a3 a4 a5 => T.call k 77 sg_Z53 ((a0, a1, a2, a3, ()), (a4, a5, ()), ()))
noncomputable abbrev t_Z60 (k : Nat) : C_Z60 := (fun a0 a1 a2 a3 a4 a5 => T.call k 78 sg_Z60 ((a0, a1, a2, a3, ()), (a4, a5, ()), ()))
noncomputable abbrev t_s_step (k : Nat) : C_s_step := (fun a0 a1 a2 a3 a4 a5 => T.call k 56 sg_s_step ((a0, a1, a2, a3, ()), (a4, a5, ()), ()))
noncomputable abbrev t_s_run (k : Nat) : C_s_run := (fun a0 a1 a2 a3 a4 => T.call k 32 sg_s_run ((a0, a1, a2, a3, ()), a4, ()))
noncomputable abbrev t_s_built (k : Nat) : C_s_built := (fun a0 a1 a2 a3 => T.call k 34 sg_s_built ((a0, a1, a2, a3, ()), ()))
noncomputable abbrev t_Z33 (k : Nat) : C_Z33 := (fun a0 => T.call k 14 sg_Z33 (a0, ()))
noncomputable abbrev t_s_reach (k : Nat) : C_s_reach := (fun a0 a1 a2 a3 => T.call k 35 sg_s_reach ((a0, a1, ()), a2, a3, ()))
noncomputable abbrev t_s_pruned (k : Nat) : C_s_pruned := (fun a0 a1 => T.call k 15 sg_s_pruned ((a0, a1, ()), ()))
noncomputable abbrev t_Z37 (k : Nat) : C_Z37 := (fun a0 a1 => T.call k 5 sg_Z37 ((a0, a1, ()), ()))
noncomputable abbrev t_Z18 (k : Nat) : C_Z18 := (fun a0 a1 => T.call k 60 sg_Z18 (a0, (a1, ()), ()))
noncomputable abbrev t_Z1 (k : Nat) : C_Z1 := (fun a0 a1 => T.call k 79 sg_Z1 (a0, (a1, ()), ()))
noncomputable abbrev t_Z0 (k : Nat) : C_Z0 := (fun a0 a1 => T.call k 59 sg_Z0 (a0, (a1, ()), ()))
noncomputable abbrev t_Z63 (k : Nat) : C_Z63 := (fun a0 a1 a2 a3 => T.call k 80 sg_Z63 (a0, a1, (a2, a3, (), ()), ()))
noncomputable abbrev t_i_nodeOk (k : Nat) : C_i_nodeOk := (fun a0 a1 a2 a3 => T.call k 61 sg_i_nodeOk (a0, (a1, a2, a3, ()), ()))
noncomputable abbrev t_Z15 (k : Nat) : C_Z15 := (fun a0 a1 a2 => T.call k 63 sg_Z15 ((a0, a1, a2, ()), ()))
noncomputable abbrev t_Z4 (k : Nat) : C_Z4 := (fun a0 a1 => T.call k 62 sg_Z4 (a0, a1, 63, ()))
noncomputable abbrev t_Z25 (k : Nat) : C_Z25 := (fun a0 a1 => T.call k 37 sg_Z25 ((a0, a1, ()), ()))
noncomputable abbrev t_Z41 (k : Nat) : C_Z41 := (fun a0 a1 a2 a3 a4 a5 => T.call k 65 sg_Z41 ((a0, a1, a2, a3, ()), a4, a5, ()))
noncomputable abbrev t_Z29 (k : Nat) : C_Z29 := (fun a0 a1 a2 a3 a4 => T.call k 81 sg_Z29 ((a0, a1, a2, a3, ()), a4, ()))
noncomputable abbrev t_Z27 (k : Nat) : C_Z27 := (fun a0 a1 a2 a3 a4 => T.call k 94 sg_Z27 ((a0, a1, a2, a3, ()), a4, ()))
noncomputable abbrev t_Z7 (k : Nat) : C_Z7 := (fun a0 a1 a2 a3 a4 a5 a6 a7 => T.call k 82 sg_Z7 ((a0, a1, a2, a3, ()), a4, a5, a6, a7, ()))
noncomputable abbrev t_Z13 (k : Nat) : C_Z13 := (fun a0 a1 a2 a3 a4 a5 => T.call k 83 sg_Z13 ((a0, a1, a2, a3, ()), a4, a5, ()))
noncomputable abbrev t_Z12 (k : Nat) : C_Z12 := (fun a0 a1 a2 a3 a4 => T.call k 64 sg_Z12 ((a0, a1, a2, a3, ()), a4, ()))
noncomputable abbrev t_Z2 (k : Nat) : C_Z2 := (fun a0 => T.call k 66 sg_Z2 (a0, ()))
noncomputable abbrev t_Z66 (k : Nat) : C_Z66 := (fun a0 a1 a2 a3 => T.call k 38 sg_Z66 ((a0, a1, ()), a2, a3, ()))
noncomputable abbrev t_Z32 (k : Nat) : C_Z32 := (fun a0 a1 a2 => T.call k 17 sg_Z32 ((a0, a1, ()), a2, ()))
noncomputable abbrev t_Z61 (k : Nat) : C_Z61 := (fun a0 => T.call k 84 sg_Z61 (a0, ()))
noncomputable abbrev t_i_opOk (k : Nat) : C_i_opOk := (fun a0 a1 => T.call k 67 sg_i_opOk ((a0, a1, ()), ()))
noncomputable abbrev t_Z49 (k : Nat) : C_Z49 := (fun a0 => T.call k 39 sg_Z49 (a0, ()))
noncomputable abbrev t_Z24 (k : Nat) : C_Z24 := (fun a0 => T.call k 68 sg_Z24 (a0, ()))
noncomputable abbrev t_Z5 (k : Nat) : C_Z5 := (fun a0 => T.call k 85 sg_Z5 (a0, ()))
noncomputable abbrev t_Z9 (k : Nat) : C_Z9 := (fun a0 a1 a2 a3 => T.call k 95 sg_Z9 ((a0, a1, a2, a3, ()), ()))
noncomputable abbrev t_Z16 (k : Nat) : C_Z16 := (fun a0 a1 a2 a3 a4 => T.call k 97 sg_Z16 ((a0, a1, a2, a3, ()), a4, ()))
noncomputable abbrev t_Z10 (k : Nat) : C_Z10 := (fun a0 a1 a2 a3 a4 a5 a6 => T.call k 96 sg_Z10 ((a0, a1, a2, a3, ()), a4, a5, a6, ()))
noncomputable abbrev t_Z17 (k : Nat) : C_Z17 := (fun a0 a1 a2 a3 a4 => T.call k 99 sg_Z17 ((a0, a1, a2, a3, ()), a4, ()))
noncomputable abbrev t_Z8 (k : Nat) : C_Z8 := (fun a0 a1 a2 a3 => T.call k 98 sg_Z8 ((a0, a1, a2, a3, ()), ()))
noncomputable abbrev t_Z21 (k : Nat) : C_Z21 := (fun a0 a1 a2 a3 a4 => T.call k 100 sg_Z21 ((a0, a1, a2, a3, ()), a4, ()))
noncomputable abbrev t_Z22 (k : Nat) : C_Z22 := (fun a0 a1 a2 a3 a4 => T.call k 101 sg_Z22 ((a0, a1, a2, a3, ()), a4, ()))
noncomputable abbrev t_Z23 (k : Nat) : C_Z23 := (fun a0 a1 a2 a3 a4 a5 => T.call k 86 sg_Z23 ((a0, a1, a2, a3, ()), (a4, a5, ()), ()))
noncomputable abbrev t_Z11 (k : Nat) : C_Z11 := (fun a0 a1 a2 a3 a4 a5 => T.call k 69 sg_Z11 ((a0, a1, a2, a3, ()), (a4, a5, ()), ()))
noncomputable abbrev t_Z34 (k : Nat) : C_Z34 := (fun a0 => T.call k 87 sg_Z34 (a0, ()))
noncomputable abbrev t_Z19 (k : Nat) : C_Z19 := (fun a0 a1 a2 a3 => T.call k 70 sg_Z19 ((a0, a1, a2, a3, ()), ()))
noncomputable abbrev t_Z14 (k : Nat) : C_Z14 := (fun a0 a1 a2 a3 => T.call k 41 sg_Z14 ((a0, a1, a2, a3, ()), ()))
noncomputable abbrev t_Z3 (k : Nat) : C_Z3 := (fun a0 => T.call k 40 sg_Z3 (a0, 41, ()))
noncomputable abbrev t_Z31 (k : Nat) : C_Z31 := (fun a0 => T.call k 18 sg_Z31 (a0, ()))
noncomputable abbrev t_Z40 (k : Nat) : C_Z40 := (fun a0 a1 a2 a3 a4 => T.call k 71 sg_Z40 (a0, (a1, ()), (a2, ()), (a3, a4, ()), ((), ()), ()))
noncomputable abbrev t_Z64 (k : Nat) : C_Z64 := (fun a0 a1 => T.call k 42 sg_Z64 ((a0, a1, ()), ()))
noncomputable abbrev t_i_mapped (k : Nat) : C_i_mapped := (fun a0 a1 a2 a3 => T.call k 43 sg_i_mapped ((a0, a1, a2, ()), a3, ()))
noncomputable abbrev t_i_pruned (k : Nat) : C_i_pruned := (fun a0 a1 => T.call k 19 sg_i_pruned ((a0, a1, ()), ()))
noncomputable abbrev t_Z43 (k : Nat) : C_Z43 := (fun a0 a1 => T.call k 7 sg_Z43 ((a0, a1, ()), ()))
noncomputable abbrev t_l_eqIntS (k : Nat) : C_l_eqIntS := (fun a0 a1 => T.call k 72 sg_l_eqIntS (a0, a1, ()))
noncomputable abbrev t_l_eqNode (k : Nat) : C_l_eqNode := (fun a0 a1 a2 a3 a4 a5 => T.call k 44 sg_l_eqNode ((a0, a1, a2, ()), (a3, a4, a5, ()), ()))
noncomputable abbrev t_Z54 (k : Nat) : C_Z54 := (fun a0 a1 => T.call k 20 sg_Z54 (a0, a1, ()))
noncomputable abbrev t_Z57 (k : Nat) : C_Z57 := (fun a0 a1 a2 a3 => T.call k 8 sg_Z57 ((a0, a1, ()), (a2, a3, ()), ()))
noncomputable abbrev t_Z50 (k : Nat) : C_Z50 := (fun a0 a1 => T.call k 45 sg_Z50 (a0, a1, ()))
noncomputable abbrev t_Z42 (k : Nat) : C_Z42 := (fun a0 a1 => T.call k 21 sg_Z42 (a0, a1, ()))
noncomputable abbrev t_Z46 (k : Nat) : C_Z46 := (fun a0 a1 a2 => T.call k 9 sg_Z46 ((a0, a1, ()), a2, ()))
noncomputable abbrev t_Z47 (k : Nat) : C_Z47 := (fun a0 a1 => T.call k 46 sg_Z47 (a0, a1, ()))
noncomputable abbrev t_Z35 (k : Nat) : C_Z35 := (fun a0 a1 => T.call k 22 sg_Z35 (a0, a1, ()))
noncomputable abbrev t_Z38 (k : Nat) : C_Z38 := (fun a0 a1 a2 => T.call k 10 sg_Z38 ((a0, a1, ()), a2, ()))
noncomputable abbrev t_Z6 (k : Nat) : C_Z6 := (fun a0 a1 => T.call k 3 sg_Z6 ((a0, a1, ()), ()))
theorem b_l_szIntS (k : Nat) (a0 a1 : _) : t_l_szIntS (k + 1) a0 a1 = B_l_szIntS k a0 a1 := by kernel_rfl
theorem b_l_szNode (k : Nat) (a0 a1 a2 a3 : _) : t_l_szNode (k + 1) a0 a1 a2 a3 = B_l_szNode k (t_l_szIntS k) a0 a1 a2 a3 := by kernel_rfl
theorem b_Z59 (k : Nat) (a0 a1 : _) : t_Z59 (k + 1) a0 a1 = B_Z59 k (t_l_szNode k) a0 a1 := by kernel_rfl
theorem b_Z68 (k : Nat) (a0 a1 a2 : _) : t_Z68 (k + 1) a0 a1 a2 = B_Z68 k (t_Z59 k) a0 a1 a2 := by kernel_rfl
theorem b_l_toIntS (k : Nat) (a0 : _) : t_l_toIntS (k + 1) a0 = B_l_toIntS k a0 := by kernel_rfl
theorem b_l_toNode (k : Nat) (a0 a1 a2 : _) : t_l_toNode (k + 1) a0 a1 a2 = B_l_toNode k (t_l_toIntS k) a0 a1 a2 := by kernel_rfl
theorem b_Z58 (k : Nat) (a0 : _) : t_Z58 (k + 1) a0 = B_Z58 k (t_l_toNode k) a0 := by kernel_rfl
theorem b_Z71 (k : Nat) (a0 a1 : _) : t_Z71 (k + 1) a0 a1 = B_Z71 k (t_Z58 k) a0 a1 := by kernel_rfl
theorem b_Z56 (k : Nat) (a0 a1 a2 : _) : t_Z56 (k + 1) a0 a1 a2 = B_Z56 k a0 a1 a2 := by kernel_rfl
theorem b_s_allIn (k : Nat) (a0 a1 a2 : _) : t_s_allIn (k + 1) a0 a1 a2 = B_s_allIn k (t_Z56 k) a0 a1 a2 := by kernel_rfl
theorem b_s_isKey (k : Nat) (a0 a1 : _) : t_s_isKey (k + 1) a0 a1 = B_s_isKey k a0 a1 := by kernel_rfl
theorem b_Z55 (k : Nat) (a0 a1 a2 a3 : _) : t_Z55 (k + 1) a0 a1 a2 a3 = B_Z55 k a0 a1 a2 a3 := by kernel_rfl
theorem b_Z36 (k : Nat) (a0 a1 a2 a3 a4 : _) : t_Z36 (k + 1) a0 a1 a2 a3 a4 = B_Z36 k (t_s_isKey k) (t_Z55 k) a0 a1 a2 a3 a4 := by kernel_rfl
theorem b_Z45 (k : Nat) (a0 a1 a2 a3 a4 : _) : t_Z45 (k + 1) a0 a1 a2 a3 a4 = B_Z45 k (t_s_allIn k) (t_Z56 k) (t_Z36 k) a0 a1 a2 a3 a4 := by kernel_rfl
theorem b_Z48 (k : Nat) (a0 : _) : t_Z48 (k + 1) a0 = B_Z48 k a0 := by kernel_rfl
theorem b_Z67 (k : Nat) (a0 a1 : _) : t_Z67 (k + 1) a0 a1 = B_Z67 k a0 a1 := by kernel_rfl
theorem b_Z30 (k : Nat) (a0 a1 a2 : _) : t_Z30 (k + 1) a0 a1 a2 = B_Z30 k (t_Z48 k) (t_Z67 k) a0 a1 a2 := by kernel_rfl
theorem b_Z26 (k : Nat) (a0 a1 : _) : t_Z26 (k + 1) a0 a1 = B_Z26 k (t_Z56 k) (t_Z45 k) (t_Z30 k) (t_Z67 k) a0 a1 := by kernel_rfl
theorem b_Z44 (k : Nat) (a0 a1 : _) : t_Z44 (k + 1) a0 a1 = B_Z44 k a0 a1 := by kernel_rfl
theorem b_s_emit (k : Nat) (a0 a1 : _) : t_s_emit (k + 1) a0 a1 = B_s_emit k a0 a1 := by kernel_rfl
theorem b_s_memoed (k : Nat) (a0 a1 a2 : _) : t_s_memoed (k + 1) a0 a1 a2 = B_s_memoed k (t_Z48 k) (t_s_emit k) a0 a1 a2 := by kernel_rfl
theorem b_Z70 (k : Nat) (a0 a1 a2 a3 a4 a5 : _) : t_Z70 (k + 1) a0 a1 a2 a3 a4 a5 = B_Z70 k (t_s_save k) a0 a1 a2 a3 a4 a5 := by kernel_rfl
theorem b_Z39 (k : Nat) (a0 a1 a2 a3 a4 a5 : _) : t_Z39 (k + 1) a0 a1 a2 a3 a4 a5 = B_Z39 k (t_s_emit k) (t_s_memoed k) (t_Z70 k) a0 a1 a2 a3 a4 a5 := by kernel_rfl
theorem b_s_fill (k : Nat) (a0 a1 a2 a3 a4 a5 a6 a7 a8 : _) : t_s_fill (k + 1) a0 a1 a2 a3 a4 a5 a6 a7 a8 = B_s_fill k (t_s_emit k) (t_Z70 k) a0 a1 a2 a3 a4 a5 a6 a7 a8 := by kernel_rfl
theorem b_s_save (k : Nat) (a0 a1 a2 a3 a4 a5 : _) : t_s_save (k + 1) a0 a1 a2 a3 a4 a5 = B_s_save k (t_s_emit k) (t_s_memoed k) (t_Z39 k) (t_s_fill k) (t_Z70 k) a0 a1 a2 a3 a4 a5 := by kernel_rfl
theorem b_Z65 (k : Nat) (a0 a1 a2 : _) : t_Z65 (k + 1) a0 a1 a2 = B_Z65 k (t_Z44 k) (t_s_save k) (t_s_emit k) a0 a1 a2 := by kernel_rfl
theorem b_s_argOf (k : Nat) (a0 : _) : t_s_argOf (k + 1) a0 = B_s_argOf k a0 := by kernel_rfl
theorem b_Z62 (k : Nat) (a0 a1 : _) : t_Z62 (k + 1) a0 a1 = B_Z62 k (t_s_argOf k) (t_Z56 k) a0 a1 := by kernel_rfl
theorem b_Z51 (k : Nat) (a0 : _) : t_Z51 (k + 1) a0 = B_Z51 k (t_Z62 k) a0 := by kernel_rfl
theorem b_Z28 (k : Nat) : t_Z28 (k + 1) = B_Z28 k := by kernel_rfl
theorem b_Z20 (k : Nat) (a0 a1 a2 a3 : _) : t_Z20 (k + 1) a0 a1 a2 a3 = B_Z20 k (t_Z48 k) a0 a1 a2 a3 := by kernel_rfl
theorem b_s_push (k : Nat) (a0 a1 a2 a3 a4 a5 a6 : _) : t_s_push (k + 1) a0 a1 a2 a3 a4 a5 a6 = B_s_push k a0 a1 a2 a3 a4 a5 a6 := by kernel_rfl
theorem b_s_markAt (k : Nat) (a0 a1 a2 a3 : _) : t_s_markAt (k + 1) a0 a1 a2 a3 = B_s_markAt k a0 a1 a2 a3 := by kernel_rfl
theorem b_s_drop (k : Nat) (a0 a1 a2 a3 a4 : _) : t_s_drop (k + 1) a0 a1 a2 a3 a4 = B_s_drop k a0 a1 a2 a3 a4 := by kernel_rfl
theorem b_s_top (k : Nat) (a0 a1 a2 a3 a4 : _) : t_s_top (k + 1) a0 a1 a2 a3 a4 = B_s_top k a0 a1 a2 a3 a4 := by kernel_rfl
theorem b_s_kindOf (k : Nat) (a0 a1 a2 a3 a4 : _) : t_s_kindOf (k + 1) a0 a1 a2 a3 a4 = B_s_kindOf k a0 a1 a2 a3 a4 := by kernel_rfl
theorem b_Z52 (k : Nat) (a0 a1 a2 a3 a4 : _) : t_Z52 (k + 1) a0 a1 a2 a3 a4 = B_Z52 k (t_s_isKey k) a0 a1 a2 a3 a4 := by kernel_rfl
theorem b_Z69 (k : Nat) (a0 a1 a2 a3 a4 a5 a6 : _) : t_Z69 (k + 1) a0 a1 a2 a3 a4 a5 a6 = B_Z69 k (t_Z55 k) a0 a1 a2 a3 a4 a5 a6 := by kernel_rfl
theorem b_Z53 (k : Nat) (a0 a1 a2 a3 a4 a5 : _) : t_Z53 (k + 1) a0 a1 a2 a3 a4 a5 = B_Z53 k (t_s_markAt k) (t_Z48 k) (t_s_drop k) (t_s_top k) (t_s_push k) (t_s_kindOf k) (t_Z52 k) (t_Z69 k) a0 a1 a2 a3 a4 a5 := by kernel_rfl
theorem b_Z60 (k : Nat) (a0 a1 a2 a3 a4 a5 : _) : t_Z60 (k + 1) a0 a1 a2 a3 a4 a5 = B_Z60 k (t_s_top k) (t_s_drop k) (t_s_push k) (t_s_kindOf k) (t_s_isKey k) (t_Z69 k) a0 a1 a2 a3 a4 a5 := by kernel_rfl
theorem b_s_step (k : Nat) (a0 a1 a2 a3 a4 a5 : _) : t_s_step (k + 1) a0 a1 a2 a3 a4 a5 = B_s_step k (t_s_push k) (t_Z53 k) (t_Z60 k) a0 a1 a2 a3 a4 a5 := by kernel_rfl
theorem b_s_run (k : Nat) (a0 a1 a2 a3 a4 : _) : t_s_run (k + 1) a0 a1 a2 a3 a4 = B_s_run k (t_Z20 k) (t_s_step k) a0 a1 a2 a3 a4 := by kernel_rfl
theorem b_s_built (k : Nat) (a0 a1 a2 a3 : _) : t_s_built (k + 1) a0 a1 a2 a3 = B_s_built k (t_Z20 k) a0 a1 a2 a3 := by kernel_rfl
theorem b_Z33 (k : Nat) (a0 : _) : t_Z33 (k + 1) a0 = B_Z33 k (t_Z51 k) (t_Z28 k) (t_s_run k) (t_s_built k) a0 := by kernel_rfl
theorem b_s_reach (k : Nat) (a0 a1 a2 a3 : _) : t_s_reach (k + 1) a0 a1 a2 a3 = B_s_reach k (t_Z67 k) (t_Z48 k) (t_s_reach k) a0 a1 a2 a3 := by kernel_rfl
theorem b_s_pruned (k : Nat) (a0 a1 : _) : t_s_pruned (k + 1) a0 a1 = B_s_pruned k (t_s_reach k) (t_Z67 k) a0 a1 := by kernel_rfl
theorem b_Z37 (k : Nat) (a0 a1 : _) : t_Z37 (k + 1) a0 a1 = B_Z37 k (t_Z26 k) (t_Z65 k) (t_Z33 k) (t_s_pruned k) a0 a1 := by kernel_rfl
theorem b_Z18 (k : Nat) (a0 a1 : _) : t_Z18 (k + 1) a0 a1 = B_Z18 k a0 a1 := by kernel_rfl
theorem b_Z1 (k : Nat) (a0 a1 : _) : t_Z1 (k + 1) a0 a1 = B_Z1 k (t_Z18 k) a0 a1 := by kernel_rfl
theorem b_Z0 (k : Nat) (a0 a1 : _) : t_Z0 (k + 1) a0 a1 = B_Z0 k (t_Z1 k) a0 a1 := by kernel_rfl
theorem b_Z63 (k : Nat) (a0 a1 a2 a3 : _) : t_Z63 (k + 1) a0 a1 a2 a3 = B_Z63 k a0 a1 a2 a3 := by kernel_rfl
theorem b_i_nodeOk (k : Nat) (a0 a1 a2 a3 : _) : t_i_nodeOk (k + 1) a0 a1 a2 a3 = B_i_nodeOk k (t_Z63 k) a0 a1 a2 a3 := by kernel_rfl
theorem b_Z15 (k : Nat) (a0 a1 a2 : _) : t_Z15 (k + 1) a0 a1 a2 = B_Z15 k a0 a1 a2 := by kernel_rfl
theorem b_Z4 (k : Nat) (a0 a1 : _) : t_Z4 (k + 1) a0 a1 = B_Z4 k (t_Z15 k) a0 a1 := by kernel_rfl
theorem b_Z25 (k : Nat) (a0 a1 : _) : t_Z25 (k + 1) a0 a1 = B_Z25 k (t_Z0 k) (t_i_nodeOk k) (t_Z4 k) a0 a1 := by kernel_rfl
theorem b_Z41 (k : Nat) (a0 a1 a2 a3 a4 a5 : _) : t_Z41 (k + 1) a0 a1 a2 a3 a4 a5 = B_Z41 k a0 a1 a2 a3 a4 a5 := by kernel_rfl
theorem b_Z29 (k : Nat) (a0 a1 a2 a3 a4 : _) : t_Z29 (k + 1) a0 a1 a2 a3 a4 = B_Z29 k (t_Z41 k) a0 a1 a2 a3 a4 := by kernel_rfl
theorem b_Z27 (k : Nat) (a0 a1 a2 a3 a4 : _) : t_Z27 (k + 1) a0 a1 a2 a3 a4 = B_Z27 k (t_Z12 k) a0 a1 a2 a3 a4 := by kernel_rfl
theorem b_Z7 (k : Nat) (a0 a1 a2 a3 a4 a5 a6 a7 : _) : t_Z7 (k + 1) a0 a1 a2 a3 a4 a5 a6 a7 = B_Z7 k (t_Z41 k) (t_Z27 k) a0 a1 a2 a3 a4 a5 a6 a7 := by kernel_rfl
theorem b_Z13 (k : Nat) (a0 a1 a2 a3 a4 a5 : _) : t_Z13 (k + 1) a0 a1 a2 a3 a4 a5 = B_Z13 k (t_Z41 k) (t_Z29 k) (t_Z27 k) a0 a1 a2 a3 a4 a5 := by kernel_rfl
theorem b_Z12 (k : Nat) (a0 a1 a2 a3 a4 : _) : t_Z12 (k + 1) a0 a1 a2 a3 a4 = B_Z12 k (t_Z41 k) (t_Z29 k) (t_Z7 k) (t_Z12 k) (t_Z13 k) a0 a1 a2 a3 a4 := by kernel_rfl
theorem b_Z2 (k : Nat) (a0 : _) : t_Z2 (k + 1) a0 = B_Z2 k a0 := by kernel_rfl
theorem b_Z66 (k : Nat) (a0 a1 a2 a3 : _) : t_Z66 (k + 1) a0 a1 a2 a3 = B_Z66 k (t_Z12 k) (t_Z41 k) (t_Z2 k) a0 a1 a2 a3 := by kernel_rfl
theorem b_Z32 (k : Nat) (a0 a1 a2 : _) : t_Z32 (k + 1) a0 a1 a2 = B_Z32 k (t_Z25 k) (t_Z66 k) a0 a1 a2 := by kernel_rfl
theorem b_Z61 (k : Nat) (a0 : _) : t_Z61 (k + 1) a0 = B_Z61 k a0 := by kernel_rfl
theorem b_i_opOk (k : Nat) (a0 a1 : _) : t_i_opOk (k + 1) a0 a1 = B_i_opOk k (t_Z61 k) a0 a1 := by kernel_rfl
theorem b_Z49 (k : Nat) (a0 : _) : t_Z49 (k + 1) a0 = B_Z49 k (t_i_opOk k) a0 := by kernel_rfl
theorem b_Z24 (k : Nat) (a0 : _) : t_Z24 (k + 1) a0 = B_Z24 k a0 := by kernel_rfl
theorem b_Z5 (k : Nat) (a0 : _) : t_Z5 (k + 1) a0 = B_Z5 k a0 := by kernel_rfl
theorem b_Z9 (k : Nat) (a0 a1 a2 a3 : _) : t_Z9 (k + 1) a0 a1 a2 a3 = B_Z9 k a0 a1 a2 a3 := by kernel_rfl
theorem b_Z16 (k : Nat) (a0 a1 a2 a3 a4 : _) : t_Z16 (k + 1) a0 a1 a2 a3 a4 = B_Z16 k a0 a1 a2 a3 a4 := by kernel_rfl
theorem b_Z10 (k : Nat) (a0 a1 a2 a3 a4 a5 a6 : _) : t_Z10 (k + 1) a0 a1 a2 a3 a4 a5 a6 = B_Z10 k (t_Z5 k) (t_Z16 k) a0 a1 a2 a3 a4 a5 a6 := by kernel_rfl
theorem b_Z17 (k : Nat) (a0 a1 a2 a3 a4 : _) : t_Z17 (k + 1) a0 a1 a2 a3 a4 = B_Z17 k (t_Z5 k) a0 a1 a2 a3 a4 := by kernel_rfl
theorem b_Z8 (k : Nat) (a0 a1 a2 a3 : _) : t_Z8 (k + 1) a0 a1 a2 a3 = B_Z8 k (t_Z9 k) (t_Z17 k) a0 a1 a2 a3 := by kernel_rfl
theorem b_Z21 (k : Nat) (a0 a1 a2 a3 a4 : _) : t_Z21 (k + 1) a0 a1 a2 a3 a4 = B_Z21 k (t_Z9 k) a0 a1 a2 a3 a4 := by kernel_rfl
theorem b_Z22 (k : Nat) (a0 a1 a2 a3 a4 : _) : t_Z22 (k + 1) a0 a1 a2 a3 a4 = B_Z22 k (t_Z21 k) (t_Z63 k) a0 a1 a2 a3 a4 := by kernel_rfl
theorem b_Z23 (k : Nat) (a0 a1 a2 a3 a4 a5 : _) : t_Z23 (k + 1) a0 a1 a2 a3 a4 a5 = B_Z23 k (t_Z9 k) (t_Z10 k) (t_Z16 k) (t_Z8 k) (t_Z17 k) (t_Z21 k) (t_Z22 k) a0 a1 a2 a3 a4 a5 := by kernel_rfl
theorem b_Z11 (k : Nat) (a0 a1 a2 a3 a4 a5 : _) : t_Z11 (k + 1) a0 a1 a2 a3 a4 a5 = B_Z11 k (t_Z5 k) (t_Z23 k) a0 a1 a2 a3 a4 a5 := by kernel_rfl
theorem b_Z34 (k : Nat) (a0 : _) : t_Z34 (k + 1) a0 = B_Z34 k (t_Z5 k) a0 := by kernel_rfl
theorem b_Z19 (k : Nat) (a0 a1 a2 a3 : _) : t_Z19 (k + 1) a0 a1 a2 a3 = B_Z19 k (t_Z34 k) (t_Z5 k) a0 a1 a2 a3 := by kernel_rfl
theorem b_Z14 (k : Nat) (a0 a1 a2 a3 : _) : t_Z14 (k + 1) a0 a1 a2 a3 = B_Z14 k a0 a1 a2 a3 := by kernel_rfl
theorem b_Z3 (k : Nat) (a0 : _) : t_Z3 (k + 1) a0 = B_Z3 k (t_Z24 k) (t_Z11 k) (t_Z19 k) (t_Z14 k) a0 := by kernel_rfl
theorem b_Z31 (k : Nat) (a0 : _) : t_Z31 (k + 1) a0 = B_Z31 k (t_Z49 k) (t_Z3 k) a0 := by kernel_rfl
theorem b_Z40 (k : Nat) (a0 a1 a2 a3 a4 : _) : t_Z40 (k + 1) a0 a1 a2 a3 a4 = B_Z40 k (t_Z40 k) a0 a1 a2 a3 a4 := by kernel_rfl
theorem b_Z64 (k : Nat) (a0 a1 : _) : t_Z64 (k + 1) a0 a1 = B_Z64 k (t_Z40 k) a0 a1 := by kernel_rfl
theorem b_i_mapped (k : Nat) (a0 a1 a2 a3 : _) : t_i_mapped (k + 1) a0 a1 a2 a3 = B_i_mapped k a0 a1 a2 a3 := by kernel_rfl
theorem b_i_pruned (k : Nat) (a0 a1 : _) : t_i_pruned (k + 1) a0 a1 = B_i_pruned k (t_Z64 k) (t_i_mapped k) a0 a1 := by kernel_rfl
theorem b_Z43 (k : Nat) (a0 a1 : _) : t_Z43 (k + 1) a0 a1 = B_Z43 k (t_Z32 k) (t_Z31 k) (t_i_pruned k) a0 a1 := by kernel_rfl
theorem b_l_eqIntS (k : Nat) (a0 a1 : _) : t_l_eqIntS (k + 1) a0 a1 = B_l_eqIntS k a0 a1 := by kernel_rfl
theorem b_l_eqNode (k : Nat) (a0 a1 a2 a3 a4 a5 : _) : t_l_eqNode (k + 1) a0 a1 a2 a3 a4 a5 = B_l_eqNode k (t_l_eqIntS k) a0 a1 a2 a3 a4 a5 := by kernel_rfl
theorem b_Z54 (k : Nat) (a0 a1 : _) : t_Z54 (k + 1) a0 a1 = B_Z54 k (t_l_eqNode k) a0 a1 := by kernel_rfl
theorem b_Z57 (k : Nat) (a0 a1 a2 a3 : _) : t_Z57 (k + 1) a0 a1 a2 a3 = B_Z57 k (t_Z54 k) a0 a1 a2 a3 := by kernel_rfl
theorem b_Z50 (k : Nat) (a0 a1 : _) : t_Z50 (k + 1) a0 a1 = B_Z50 k a0 a1 := by kernel_rfl
theorem b_Z42 (k : Nat) (a0 a1 : _) : t_Z42 (k + 1) a0 a1 = B_Z42 k (t_Z50 k) a0 a1 := by kernel_rfl
theorem b_Z46 (k : Nat) (a0 a1 a2 : _) : t_Z46 (k + 1) a0 a1 a2 = B_Z46 k (t_Z42 k) a0 a1 a2 := by kernel_rfl
theorem b_Z47 (k : Nat) (a0 a1 : _) : t_Z47 (k + 1) a0 a1 = B_Z47 k a0 a1 := by kernel_rfl
theorem b_Z35 (k : Nat) (a0 a1 : _) : t_Z35 (k + 1) a0 a1 = B_Z35 k (t_Z47 k) a0 a1 := by kernel_rfl
theorem b_Z38 (k : Nat) (a0 a1 a2 : _) : t_Z38 (k + 1) a0 a1 a2 = B_Z38 k (t_Z35 k) a0 a1 a2 := by kernel_rfl
theorem b_Z6 (k : Nat) (a0 a1 : _) : t_Z6 (k + 1) a0 a1 = B_Z6 k (t_Z68 k) (t_Z71 k) (t_Z37 k) (t_Z43 k) (t_Z57 k) (t_Z46 k) (t_Z38 k) a0 a1 := by kernel_rfl
end Go.Gx

/-
  The calls of the table (printed by gen.py).
-/
set_option linter.unusedVariables false
namespace Go.Gx
open Go.Proofs
theorem c_l_szIntS (k : Nat) : t_l_szIntS k = F_l_szIntS k := by
  cases k with
  | zero => rfl
  | succ k => funext a0 a1; exact (b_l_szIntS k a0 a1)
theorem c_l_szNode (k : Nat) : t_l_szNode k = F_l_szNode k := by
  cases k with
  | zero => rfl
  | succ k => funext a0 a1 a2 a3; exact (b_l_szNode k a0 a1 a2 a3).trans (by rw [c_l_szIntS k]; rfl)
theorem c_Z59 (k : Nat) : t_Z59 k = F_Z59 k := by
  cases k with
  | zero => rfl
  | succ k => funext a0 a1; exact (b_Z59 k a0 a1).trans (by rw [c_l_szNode k]; rfl)
theorem c_Z68 (k : Nat) : t_Z68 k = F_Z68 k := by
  cases k with
  | zero => rfl
  | succ k => funext a0 a1 a2; exact (b_Z68 k a0 a1 a2).trans (by rw [c_Z59 k]; rfl)
theorem c_l_toIntS (k : Nat) : t_l_toIntS k = F_l_toIntS k := by
  cases k with
  | zero => rfl
  | succ k => funext a0; exact (b_l_toIntS k a0)
theorem c_l_toNode (k : Nat) : t_l_toNode k = F_l_toNode k := by
  cases k with
  | zero => rfl
  | succ k => funext a0 a1 a2; exact (b_l_toNode k a0 a1 a2).trans (by rw [c_l_toIntS k]; rfl)
theorem c_Z58 (k : Nat) : t_Z58 k = F_Z58 k := by
  cases k with
  | zero => rfl
  | succ k => funext a0; exact (b_Z58 k a0).trans (by rw [c_l_toNode k]; rfl)
theorem c_Z71 (k : Nat) : t_Z71 k = F_Z71 k := by
  cases k with
  | zero => rfl
  | succ k => funext a0 a1; exact (b_Z71 k a0 a1).trans (by rw [c_Z58 k]; rfl)
theorem c_Z56 (k : Nat) : t_Z56 k = F_Z56 k := by
  cases k with
  | zero => rfl
  | succ k => funext a0 a1 a2; exact (b_Z56 k a0 a1 a2)
theorem c_s_allIn (k : Nat) : t_s_allIn k = F_s_allIn k := by
  cases k with
  | zero => rfl
  | succ k => funext a0 a1 a2; exact (b_s_allIn k a0 a1 a2).trans (by rw [c_Z56 k]; rfl)
theorem c_s_isKey (k : Nat) : t_s_isKey k = F_s_isKey k := by
  cases k with
  | zero => rfl
  | succ k => funext a0 a1; exact (b_s_isKey k a0 a1)
theorem c_Z55 (k : Nat) : t_Z55 k = F_Z55 k := by
  cases k with
  | zero => rfl
  | succ k => funext a0 a1 a2 a3; exact (b_Z55 k a0 a1 a2 a3)
theorem c_Z36 (k : Nat) : t_Z36 k = F_Z36 k := by
  cases k with
  | zero => rfl
  | succ k => funext a0 a1 a2 a3 a4; exact (b_Z36 k a0 a1 a2 a3 a4).trans (by rw [c_s_isKey k, c_Z55 k]; rfl)
theorem c_Z45 (k : Nat) : t_Z45 k = F_Z45 k := by
  cases k with
  | zero => rfl
  | succ k => funext a0 a1 a2 a3 a4; exact (b_Z45 k a0 a1 a2 a3 a4).trans (by rw [c_s_allIn k, c_Z56 k, c_Z36 k]; rfl)
theorem c_Z48 (k : Nat) : t_Z48 k = F_Z48 k := by
  cases k with
  | zero => rfl
  | succ k => funext a0; exact (b_Z48 k a0)
theorem c_Z67 (k : Nat) : t_Z67 k = F_Z67 k := by
  cases k with
  | zero => rfl
  | succ k => funext a0 a1; exact (b_Z67 k a0 a1)
theorem c_Z30 (k : Nat) : t_Z30 k = F_Z30 k := by
  cases k with
  | zero => rfl
  | succ k => funext a0 a1 a2; exact (b_Z30 k a0 a1 a2).trans (by rw [c_Z48 k, c_Z67 k]; rfl)
theorem c_Z26 (k : Nat) : t_Z26 k = F_Z26 k := by
  cases k with
  | zero => rfl
  | succ k => funext a0 a1; exact (b_Z26 k a0 a1).trans (by rw [c_Z56 k, c_Z45 k, c_Z30 k, c_Z67 k]; rfl)
theorem c_Z44 (k : Nat) : t_Z44 k = F_Z44 k := by
  cases k with
  | zero => rfl
  | succ k => funext a0 a1; exact (b_Z44 k a0 a1)
theorem c_s_emit (k : Nat) : t_s_emit k = F_s_emit k := by
  cases k with
  | zero => rfl
  | succ k => funext a0 a1; exact (b_s_emit k a0 a1)
theorem c_s_memoed (k : Nat) : t_s_memoed k = F_s_memoed k := by
  cases k with
  | zero => rfl
  | succ k => funext a0 a1 a2; exact (b_s_memoed k a0 a1 a2).trans (by rw [c_Z48 k, c_s_emit k]; rfl)
theorem c_s_saveAll_s_saveTuple_s_fill_s_save : ∀ k : Nat, (t_Z70 k = F_Z70 k) ∧ (t_Z39 k = F_Z39 k) ∧ (t_s_fill k = F_s_fill k) ∧ (t_s_save k = F_s_save k) ∧ True := by
  intro k
  induction k with
  | zero => exact ⟨by funext a0 a1 a2 a3 a4 a5;  first | rfl | (rw [F_Z70]; rfl), by funext a0 a1 a2 a3 a4 a5;  first | rfl | (rw [F_Z39]; rfl), by funext a0 a1 a2 a3 a4 a5 a6 a7 a8;  first | rfl | (rw [F_s_fill]; rfl), by funext a0 a1 a2 a3 a4 a5;  first | rfl | (rw [F_s_save]; rfl), trivial⟩
  | succ k ih =>
    obtain ⟨h_Z70, h_Z39, h_s_fill, h_s_save, _⟩ := ih
    refine ⟨?_, ?_, ?_, ?_, trivial⟩
    · funext a0 a1 a2 a3 a4 a5; rw [F_Z70_succ]; exact (b_Z70 k a0 a1 a2 a3 a4 a5).trans (by rw [h_s_save])
    · funext a0 a1 a2 a3 a4 a5; rw [F_Z39_succ]; exact (b_Z39 k a0 a1 a2 a3 a4 a5).trans (by rw [c_s_emit k, c_s_memoed k, h_Z70])
    · funext a0 a1 a2 a3 a4 a5 a6 a7 a8; rw [F_s_fill_succ]; exact (b_s_fill k a0 a1 a2 a3 a4 a5 a6 a7 a8).trans (by rw [c_s_emit k, h_Z70])
    · funext a0 a1 a2 a3 a4 a5; rw [F_s_save_succ]; exact (b_s_save k a0 a1 a2 a3 a4 a5).trans (by rw [c_s_emit k, c_s_memoed k, h_Z39, h_s_fill, h_Z70])
theorem c_Z70 (k : Nat) : t_Z70 k = F_Z70 k := (c_s_saveAll_s_saveTuple_s_fill_s_save k).1
theorem c_Z39 (k : Nat) : t_Z39 k = F_Z39 k := (c_s_saveAll_s_saveTuple_s_fill_s_save k).2.1
theorem c_s_fill (k : Nat) : t_s_fill k = F_s_fill k := (c_s_saveAll_s_saveTuple_s_fill_s_save k).2.2.1
theorem c_s_save (k : Nat) : t_s_save k = F_s_save k := (c_s_saveAll_s_saveTuple_s_fill_s_save k).2.2.2.1
theorem c_Z65 (k : Nat) : t_Z65 k = F_Z65 k := by
  cases k with
  | zero => rfl
  | succ k => funext a0 a1 a2; exact (b_Z65 k a0 a1 a2).trans (by rw [c_Z44 k, c_s_save k, c_s_emit k]; rfl)
theorem c_s_argOf (k : Nat) : t_s_argOf k = F_s_argOf k := by
  cases k with
  | zero => rfl
  | succ k => funext a0; exact (b_s_argOf k a0)
theorem c_Z62 (k : Nat) : t_Z62 k = F_Z62 k := by
  cases k with
  | zero => rfl
  | succ k => funext a0 a1; exact (b_Z62 k a0 a1).trans (by rw [c_s_argOf k, c_Z56 k]; rfl)
theorem c_Z51 (k : Nat) : t_Z51 k = F_Z51 k := by
  cases k with
  | zero => rfl
  | succ k => funext a0; exact (b_Z51 k a0).trans (by rw [c_Z62 k]; rfl)
theorem c_Z28 (k : Nat) : t_Z28 k = F_Z28 k := by
  cases k with
  | zero => rfl
  | succ k => exact (b_Z28 k)
theorem c_Z20 (k : Nat) : t_Z20 k = F_Z20 k := by
  cases k with
  | zero => rfl
  | succ k => funext a0 a1 a2 a3; exact (b_Z20 k a0 a1 a2 a3).trans (by rw [c_Z48 k]; rfl)
theorem c_s_push (k : Nat) : t_s_push k = F_s_push k := by
  cases k with
  | zero => rfl
  | succ k => funext a0 a1 a2 a3 a4 a5 a6; exact (b_s_push k a0 a1 a2 a3 a4 a5 a6)
theorem c_s_markAt (k : Nat) : t_s_markAt k = F_s_markAt k := by
  cases k with
  | zero => rfl
  | succ k => funext a0 a1 a2 a3; exact (b_s_markAt k a0 a1 a2 a3)
theorem c_s_drop (k : Nat) : t_s_drop k = F_s_drop k := by
  cases k with
  | zero => rfl
  | succ k => funext a0 a1 a2 a3 a4; exact (b_s_drop k a0 a1 a2 a3 a4)
theorem c_s_top (k : Nat) : t_s_top k = F_s_top k := by
  cases k with
  | zero => rfl
  | succ k => funext a0 a1 a2 a3 a4; exact (b_s_top k a0 a1 a2 a3 a4)
theorem c_s_kindOf (k : Nat) : t_s_kindOf k = F_s_kindOf k := by
  cases k with
  | zero => rfl
  | succ k => funext a0 a1 a2 a3 a4; exact (b_s_kindOf k a0 a1 a2 a3 a4)
theorem c_Z52 (k : Nat) : t_Z52 k = F_Z52 k := by
  cases k with
  | zero => rfl
  | succ k => funext a0 a1 a2 a3 a4; exact (b_Z52 k a0 a1 a2 a3 a4).trans (by rw [c_s_isKey k]; rfl)
theorem c_Z69 (k : Nat) : t_Z69 k = F_Z69 k := by
  cases k with
  | zero => rfl
  | succ k => funext a0 a1 a2 a3 a4 a5 a6; exact (b_Z69 k a0 a1 a2 a3 a4 a5 a6).trans (by rw [c_Z55 k]; rfl)
theorem c_Z53 (k : Nat) : t_Z53 k = F_Z53 k := by
  cases k with
  | zero => rfl
  | succ k => funext a0 a1 a2 a3 a4 a5; exact (b_Z53 k a0 a1 a2 a3 a4 a5).trans (by rw [c_s_markAt k, c_Z48 k, c_s_drop k, c_s_top k, c_s_push k, c_s_kindOf k, c_Z52 k, c_Z69 k]; rfl)
theorem c_Z60 (k : Nat) : t_Z60 k = F_Z60 k := by
  cases k with
  | zero => rfl
  | succ k => funext a0 a1 a2 a3 a4 a5; exact (b_Z60 k a0 a1 a2 a3 a4 a5).trans (by rw [c_s_top k, c_s_drop k, c_s_push k, c_s_kindOf k, c_s_isKey k, c_Z69 k]; rfl)
theorem c_s_step (k : Nat) : t_s_step k = F_s_step k := by
  cases k with
  | zero => rfl
  | succ k => funext a0 a1 a2 a3 a4 a5; exact (b_s_step k a0 a1 a2 a3 a4 a5).trans (by rw [c_s_push k, c_Z53 k, c_Z60 k]; rfl)
theorem c_s_run (k : Nat) : t_s_run k = F_s_run k := by
  cases k with
  | zero => rfl
  | succ k => funext a0 a1 a2 a3 a4; exact (b_s_run k a0 a1 a2 a3 a4).trans (by rw [c_Z20 k, c_s_step k]; rfl)
theorem c_s_built (k : Nat) : t_s_built k = F_s_built k := by
  cases k with
  | zero => rfl
  | succ k => funext a0 a1 a2 a3; exact (b_s_built k a0 a1 a2 a3).trans (by rw [c_Z20 k]; rfl)
theorem c_Z33 (k : Nat) : t_Z33 k = F_Z33 k := by
  cases k with
  | zero => rfl
  | succ k => funext a0; exact (b_Z33 k a0).trans (by rw [c_Z51 k, c_Z28 k, c_s_run k, c_s_built k]; rfl)
theorem c_s_reach_ : ∀ k : Nat, (t_s_reach k = F_s_reach k) ∧ True := by
  intro k
  induction k with
  | zero => exact ⟨by funext a0 a1 a2 a3;  first | rfl | (rw [F_s_reach]; rfl), trivial⟩
  | succ k ih =>
    obtain ⟨h_s_reach, _⟩ := ih
    refine ⟨?_, trivial⟩
    · funext a0 a1 a2 a3; rw [F_s_reach_succ]; exact (b_s_reach k a0 a1 a2 a3).trans (by rw [c_Z67 k, c_Z48 k, h_s_reach])
theorem c_s_reach (k : Nat) : t_s_reach k = F_s_reach k := (c_s_reach_ k).1
theorem c_s_pruned (k : Nat) : t_s_pruned k = F_s_pruned k := by
  cases k with
  | zero => rfl
  | succ k => funext a0 a1; exact (b_s_pruned k a0 a1).trans (by rw [c_s_reach k, c_Z67 k]; rfl)
theorem c_Z37 (k : Nat) : t_Z37 k = F_Z37 k := by
  cases k with
  | zero => rfl
  | succ k => funext a0 a1; exact (b_Z37 k a0 a1).trans (by rw [c_Z26 k, c_Z65 k, c_Z33 k, c_s_pruned k]; rfl)
theorem c_Z18 (k : Nat) : t_Z18 k = F_Z18 k := by
  cases k with
  | zero => rfl
  | succ k => funext a0 a1; exact (b_Z18 k a0 a1)
theorem c_Z1 (k : Nat) : t_Z1 k = F_Z1 k := by
  cases k with
  | zero => rfl
  | succ k => funext a0 a1; exact (b_Z1 k a0 a1).trans (by rw [c_Z18 k]; rfl)
theorem c_Z0 (k : Nat) : t_Z0 k = F_Z0 k := by
  cases k with
  | zero => rfl
  | succ k => funext a0 a1; exact (b_Z0 k a0 a1).trans (by rw [c_Z1 k]; rfl)
theorem c_Z63 (k : Nat) : t_Z63 k = F_Z63 k := by
  cases k with
  | zero => rfl
  | succ k => funext a0 a1 a2 a3; exact (b_Z63 k a0 a1 a2 a3)
theorem c_i_nodeOk (k : Nat) : t_i_nodeOk k = F_i_nodeOk k := by
  cases k with
  | zero => rfl
  | succ k => funext a0 a1 a2 a3; exact (b_i_nodeOk k a0 a1 a2 a3).trans (by rw [c_Z63 k]; rfl)
theorem c_Z15 (k : Nat) : t_Z15 k = F_Z15 k := by
  cases k with
  | zero => rfl
  | succ k => funext a0 a1 a2; exact (b_Z15 k a0 a1 a2)
theorem c_Z4 (k : Nat) : t_Z4 k = F_Z4 k := by
  cases k with
  | zero => rfl
  | succ k => funext a0 a1; exact (b_Z4 k a0 a1).trans (by rw [c_Z15 k]; rfl)
theorem c_Z25 (k : Nat) : t_Z25 k = F_Z25 k := by
  cases k with
  | zero => rfl
  | succ k => funext a0 a1; exact (b_Z25 k a0 a1).trans (by rw [c_Z0 k, c_i_nodeOk k, c_Z4 k]; rfl)
theorem c_Z41 (k : Nat) : t_Z41 k = F_Z41 k := by
  cases k with
  | zero => rfl
  | succ k => funext a0 a1 a2 a3 a4 a5; exact (b_Z41 k a0 a1 a2 a3 a4 a5)
theorem c_Z29 (k : Nat) : t_Z29 k = F_Z29 k := by
  cases k with
  | zero => rfl
  | succ k => funext a0 a1 a2 a3 a4; exact (b_Z29 k a0 a1 a2 a3 a4).trans (by rw [c_Z41 k]; rfl)
theorem c_i_writer_all_i_writer_filled_i_writer_tuple_Z12 : ∀ k : Nat, (t_Z27 k = F_Z27 k) ∧ (t_Z7 k = F_Z7 k) ∧ (t_Z13 k = F_Z13 k) ∧ (t_Z12 k = F_Z12 k) ∧ True := by
  intro k
  induction k with
  | zero => exact ⟨by funext a0 a1 a2 a3 a4;  first | rfl | (rw [F_Z27]; rfl), by funext a0 a1 a2 a3 a4 a5 a6 a7;  first | rfl | (rw [F_Z7]; rfl), by funext a0 a1 a2 a3 a4 a5;  first | rfl | (rw [F_Z13]; rfl), by funext a0 a1 a2 a3 a4;  first | rfl | (rw [F_Z12]; rfl), trivial⟩
  | succ k ih =>
    obtain ⟨h_Z27, h_Z7, h_Z13, h_Z12, _⟩ := ih
    refine ⟨?_, ?_, ?_, ?_, trivial⟩
    · funext a0 a1 a2 a3 a4; rw [F_Z27_succ]; exact (b_Z27 k a0 a1 a2 a3 a4).trans (by rw [h_Z12])
    · funext a0 a1 a2 a3 a4 a5 a6 a7; rw [F_Z7_succ]; exact (b_Z7 k a0 a1 a2 a3 a4 a5 a6 a7).trans (by rw [c_Z41 k, h_Z27])
    · funext a0 a1 a2 a3 a4 a5; rw [F_Z13_succ]; exact (b_Z13 k a0 a1 a2 a3 a4 a5).trans (by rw [c_Z41 k, c_Z29 k, h_Z27])
    · funext a0 a1 a2 a3 a4; rw [F_Z12_succ]; exact (b_Z12 k a0 a1 a2 a3 a4).trans (by rw [c_Z41 k, c_Z29 k, h_Z7, h_Z12, h_Z13])
theorem c_Z27 (k : Nat) : t_Z27 k = F_Z27 k := (c_i_writer_all_i_writer_filled_i_writer_tuple_Z12 k).1
theorem c_Z7 (k : Nat) : t_Z7 k = F_Z7 k := (c_i_writer_all_i_writer_filled_i_writer_tuple_Z12 k).2.1
theorem c_Z13 (k : Nat) : t_Z13 k = F_Z13 k := (c_i_writer_all_i_writer_filled_i_writer_tuple_Z12 k).2.2.1
theorem c_Z12 (k : Nat) : t_Z12 k = F_Z12 k := (c_i_writer_all_i_writer_filled_i_writer_tuple_Z12 k).2.2.2.1
theorem c_Z2 (k : Nat) : t_Z2 k = F_Z2 k := by
  cases k with
  | zero => rfl
  | succ k => funext a0; exact (b_Z2 k a0)
theorem c_Z66 (k : Nat) : t_Z66 k = F_Z66 k := by
  cases k with
  | zero => rfl
  | succ k => funext a0 a1 a2 a3; exact (b_Z66 k a0 a1 a2 a3).trans (by rw [c_Z12 k, c_Z41 k, c_Z2 k]; rfl)
theorem c_Z32 (k : Nat) : t_Z32 k = F_Z32 k := by
  cases k with
  | zero => rfl
  | succ k => funext a0 a1 a2; exact (b_Z32 k a0 a1 a2).trans (by rw [c_Z25 k, c_Z66 k]; rfl)
theorem c_Z61 (k : Nat) : t_Z61 k = F_Z61 k := by
  cases k with
  | zero => rfl
  | succ k => funext a0; exact (b_Z61 k a0)
theorem c_i_opOk (k : Nat) : t_i_opOk k = F_i_opOk k := by
  cases k with
  | zero => rfl
  | succ k => funext a0 a1; exact (b_i_opOk k a0 a1).trans (by rw [c_Z61 k]; rfl)
theorem c_Z49 (k : Nat) : t_Z49 k = F_Z49 k := by
  cases k with
  | zero => rfl
  | succ k => funext a0; exact (b_Z49 k a0).trans (by rw [c_i_opOk k]; rfl)
theorem c_Z24 (k : Nat) : t_Z24 k = F_Z24 k := by
  cases k with
  | zero => rfl
  | succ k => funext a0; exact (b_Z24 k a0)
theorem c_Z5 (k : Nat) : t_Z5 k = F_Z5 k := by
  cases k with
  | zero => rfl
  | succ k => funext a0; exact (b_Z5 k a0)
theorem c_Z9 (k : Nat) : t_Z9 k = F_Z9 k := by
  cases k with
  | zero => rfl
  | succ k => funext a0 a1 a2 a3; exact (b_Z9 k a0 a1 a2 a3)
theorem c_Z16 (k : Nat) : t_Z16 k = F_Z16 k := by
  cases k with
  | zero => rfl
  | succ k => funext a0 a1 a2 a3 a4; exact (b_Z16 k a0 a1 a2 a3 a4)
theorem c_Z10 (k : Nat) : t_Z10 k = F_Z10 k := by
  cases k with
  | zero => rfl
  | succ k => funext a0 a1 a2 a3 a4 a5 a6; exact (b_Z10 k a0 a1 a2 a3 a4 a5 a6).trans (by rw [c_Z5 k, c_Z16 k]; rfl)
theorem c_Z17 (k : Nat) : t_Z17 k = F_Z17 k := by
  cases k with
  | zero => rfl
  | succ k => funext a0 a1 a2 a3 a4; exact (b_Z17 k a0 a1 a2 a3 a4).trans (by rw [c_Z5 k]; rfl)
theorem c_Z8 (k : Nat) : t_Z8 k = F_Z8 k := by
  cases k with
  | zero => rfl
  | succ k => funext a0 a1 a2 a3; exact (b_Z8 k a0 a1 a2 a3).trans (by rw [c_Z9 k, c_Z17 k]; rfl)
theorem c_Z21 (k : Nat) : t_Z21 k = F_Z21 k := by
  cases k with
  | zero => rfl
  | succ k => funext a0 a1 a2 a3 a4; exact (b_Z21 k a0 a1 a2 a3 a4).trans (by rw [c_Z9 k]; rfl)
theorem c_Z22 (k : Nat) : t_Z22 k = F_Z22 k := by
  cases k with
  | zero => rfl
  | succ k => funext a0 a1 a2 a3 a4; exact (b_Z22 k a0 a1 a2 a3 a4).trans (by rw [c_Z21 k, c_Z63 k]; rfl)
theorem c_Z23 (k : Nat) : t_Z23 k = F_Z23 k := by
  cases k with
  | zero => rfl
  | succ k => funext a0 a1 a2 a3 a4 a5; exact (b_Z23 k a0 a1 a2 a3 a4 a5).trans (by rw [c_Z9 k, c_Z10 k, c_Z16 k, c_Z8 k, c_Z17 k, c_Z21 k, c_Z22 k]; rfl)
theorem c_Z11 (k : Nat) : t_Z11 k = F_Z11 k := by
  cases k with
  | zero => rfl
  | succ k => funext a0 a1 a2 a3 a4 a5; exact (b_Z11 k a0 a1 a2 a3 a4 a5).trans (by rw [c_Z5 k, c_Z23 k]; rfl)
theorem c_Z34 (k : Nat) : t_Z34 k = F_Z34 k := by
  cases k with
  | zero => rfl
  | succ k => funext a0; exact (b_Z34 k a0).trans (by rw [c_Z5 k]; rfl)
theorem c_Z19 (k : Nat) : t_Z19 k = F_Z19 k := by
  cases k with
  | zero => rfl
  | succ k => funext a0 a1 a2 a3; exact (b_Z19 k a0 a1 a2 a3).trans (by rw [c_Z34 k, c_Z5 k]; rfl)
theorem c_Z14 (k : Nat) : t_Z14 k = F_Z14 k := by
  cases k with
  | zero => rfl
  | succ k => funext a0 a1 a2 a3; exact (b_Z14 k a0 a1 a2 a3)
theorem c_Z3 (k : Nat) : t_Z3 k = F_Z3 k := by
  cases k with
  | zero => rfl
  | succ k => funext a0; exact (b_Z3 k a0).trans (by rw [c_Z24 k, c_Z11 k, c_Z19 k, c_Z14 k]; rfl)
theorem c_Z31 (k : Nat) : t_Z31 k = F_Z31 k := by
  cases k with
  | zero => rfl
  | succ k => funext a0; exact (b_Z31 k a0).trans (by rw [c_Z49 k, c_Z3 k]; rfl)
theorem c_i_reachOf_1_ : ∀ k : Nat, (t_Z40 k = F_Z40 k) ∧ True := by
  intro k
  induction k with
  | zero => exact ⟨by funext a0 a1 a2 a3 a4;  first | rfl | (rw [F_Z40]; rfl), trivial⟩
  | succ k ih =>
    obtain ⟨h_Z40, _⟩ := ih
    refine ⟨?_, trivial⟩
    · funext a0 a1 a2 a3 a4; rw [F_Z40_succ]; exact (b_Z40 k a0 a1 a2 a3 a4).trans (by rw [h_Z40])
theorem c_Z40 (k : Nat) : t_Z40 k = F_Z40 k := (c_i_reachOf_1_ k).1
theorem c_Z64 (k : Nat) : t_Z64 k = F_Z64 k := by
  cases k with
  | zero => rfl
  | succ k => funext a0 a1; exact (b_Z64 k a0 a1).trans (by rw [c_Z40 k]; rfl)
theorem c_i_mapped (k : Nat) : t_i_mapped k = F_i_mapped k := by
  cases k with
  | zero => rfl
  | succ k => funext a0 a1 a2 a3; exact (b_i_mapped k a0 a1 a2 a3)
theorem c_i_pruned (k : Nat) : t_i_pruned k = F_i_pruned k := by
  cases k with
  | zero => rfl
  | succ k => funext a0 a1; exact (b_i_pruned k a0 a1).trans (by rw [c_Z64 k, c_i_mapped k]; rfl)
theorem c_Z43 (k : Nat) : t_Z43 k = F_Z43 k := by
  cases k with
  | zero => rfl
  | succ k => funext a0 a1; exact (b_Z43 k a0 a1).trans (by rw [c_Z32 k, c_Z31 k, c_i_pruned k]; rfl)
theorem c_l_eqIntS (k : Nat) : t_l_eqIntS k = F_l_eqIntS k := by
  cases k with
  | zero => rfl
  | succ k => funext a0 a1; exact (b_l_eqIntS k a0 a1)
theorem c_l_eqNode (k : Nat) : t_l_eqNode k = F_l_eqNode k := by
  cases k with
  | zero => rfl
  | succ k => funext a0 a1 a2 a3 a4 a5; exact (b_l_eqNode k a0 a1 a2 a3 a4 a5).trans (by rw [c_l_eqIntS k]; rfl)
theorem c_Z54 (k : Nat) : t_Z54 k = F_Z54 k := by
  cases k with
  | zero => rfl
  | succ k => funext a0 a1; exact (b_Z54 k a0 a1).trans (by rw [c_l_eqNode k]; rfl)
theorem c_Z57 (k : Nat) : t_Z57 k = F_Z57 k := by
  cases k with
  | zero => rfl
  | succ k => funext a0 a1 a2 a3; exact (b_Z57 k a0 a1 a2 a3).trans (by rw [c_Z54 k]; rfl)
theorem c_Z50 (k : Nat) : t_Z50 k = F_Z50 k := by
  cases k with
  | zero => rfl
  | succ k => funext a0 a1; exact (b_Z50 k a0 a1)
theorem c_Z42 (k : Nat) : t_Z42 k = F_Z42 k := by
  cases k with
  | zero => rfl
  | succ k => funext a0 a1; exact (b_Z42 k a0 a1).trans (by rw [c_Z50 k]; rfl)
theorem c_Z46 (k : Nat) : t_Z46 k = F_Z46 k := by
  cases k with
  | zero => rfl
  | succ k => funext a0 a1 a2; exact (b_Z46 k a0 a1 a2).trans (by rw [c_Z42 k]; rfl)
theorem c_Z47 (k : Nat) : t_Z47 k = F_Z47 k := by
  cases k with
  | zero => rfl
  | succ k => funext a0 a1; exact (b_Z47 k a0 a1)
theorem c_Z35 (k : Nat) : t_Z35 k = F_Z35 k := by
  cases k with
  | zero => rfl
  | succ k => funext a0 a1; exact (b_Z35 k a0 a1).trans (by rw [c_Z47 k]; rfl)
theorem c_Z38 (k : Nat) : t_Z38 k = F_Z38 k := by
  cases k with
  | zero => rfl
  | succ k => funext a0 a1 a2; exact (b_Z38 k a0 a1 a2).trans (by rw [c_Z35 k]; rfl)
theorem c_Z6 (k : Nat) : t_Z6 k = F_Z6 k := by
  cases k with
  | zero => rfl
  | succ k => funext a0 a1; exact (b_Z6 k a0 a1).trans (by rw [c_Z68 k, c_Z71 k, c_Z37 k, c_Z43 k, c_Z57 k, c_Z46 k, c_Z38 k]; rfl)
theorem fo3 : FnOK Try.prog 3 := ⟨Try.f3, Try.func3, by kernel_rfl, by kernel_rfl⟩
theorem fo4 : FnOK Try.prog 4 := ⟨Try.f4, Try.func4, by kernel_rfl, by kernel_rfl⟩
theorem fo5 : FnOK Try.prog 5 := ⟨Try.f5, Try.func5, by kernel_rfl, by kernel_rfl⟩
theorem fo6 : FnOK Try.prog 6 := ⟨Try.f6, Try.func6, by kernel_rfl, by kernel_rfl⟩
theorem fo7 : FnOK Try.prog 7 := ⟨Try.f7, Try.func7, by kernel_rfl, by kernel_rfl⟩
theorem fo8 : FnOK Try.prog 8 := ⟨Try.f8, Try.func8, by kernel_rfl, by kernel_rfl⟩
theorem fo9 : FnOK Try.prog 9 := ⟨Try.f9, Try.func9, by kernel_rfl, by kernel_rfl⟩
theorem fo10 : FnOK Try.prog 10 := ⟨Try.f10, Try.func10, by kernel_rfl, by kernel_rfl⟩
theorem fo11 : FnOK Try.prog 11 := ⟨Try.f11, Try.func11, by kernel_rfl, by kernel_rfl⟩
theorem fo12 : FnOK Try.prog 12 := ⟨Try.f12, Try.func12, by kernel_rfl, by kernel_rfl⟩
theorem fo13 : FnOK Try.prog 13 := ⟨Try.f13, Try.func13, by kernel_rfl, by kernel_rfl⟩
theorem fo14 : FnOK Try.prog 14 := ⟨Try.f14, Try.func14, by kernel_rfl, by kernel_rfl⟩
theorem fo15 : FnOK Try.prog 15 := ⟨Try.f15, Try.func15, by kernel_rfl, by kernel_rfl⟩
theorem fo16 : FnOK Try.prog 16 := ⟨Try.f16, Try.func16, by kernel_rfl, by kernel_rfl⟩
theorem fo17 : FnOK Try.prog 17 := ⟨Try.f17, Try.func17, by kernel_rfl, by kernel_rfl⟩
theorem fo18 : FnOK Try.prog 18 := ⟨Try.f18, Try.func18, by kernel_rfl, by kernel_rfl⟩
theorem fo19 : FnOK Try.prog 19 := ⟨Try.f19, Try.func19, by kernel_rfl, by kernel_rfl⟩
theorem fo20 : FnOK Try.prog 20 := ⟨Try.f20, Try.func20, by kernel_rfl, by kernel_rfl⟩
theorem fo21 : FnOK Try.prog 21 := ⟨Try.f21, Try.func21, by kernel_rfl, by kernel_rfl⟩
theorem fo22 : FnOK Try.prog 22 := ⟨Try.f22, Try.func22, by kernel_rfl, by kernel_rfl⟩
theorem fo23 : FnOK Try.prog 23 := ⟨Try.f23, Try.func23, by kernel_rfl, by kernel_rfl⟩
theorem fo24 : FnOK Try.prog 24 := ⟨Try.f24, Try.func24, by kernel_rfl, by kernel_rfl⟩
theorem fo25 : FnOK Try.prog 25 := ⟨Try.f25, Try.func25, by kernel_rfl, by kernel_rfl⟩
theorem fo26 : FnOK Try.prog 26 := ⟨Try.f26, Try.func26, by kernel_rfl, by kernel_rfl⟩
theorem fo27 : FnOK Try.prog 27 := ⟨Try.f27, Try.func27, by kernel_rfl, by kernel_rfl⟩
theorem fo28 : FnOK Try.prog 28 := ⟨Try.f28, Try.func28, by kernel_rfl, by kernel_rfl⟩
theorem fo29 : FnOK Try.prog 29 := ⟨Try.f29, Try.func29, by kernel_rfl, by kernel_rfl⟩
theorem fo30 : FnOK Try.prog 30 := ⟨Try.f30, Try.func30, by kernel_rfl, by kernel_rfl⟩
theorem fo31 : FnOK Try.prog 31 := ⟨Try.f31, Try.func31, by kernel_rfl, by kernel_rfl⟩
theorem fo32 : FnOK Try.prog 32 := ⟨Try.f32, Try.func32, by kernel_rfl, by kernel_rfl⟩
theorem fo33 : FnOK Try.prog 33 := ⟨Try.f33, Try.func33, by kernel_rfl, by kernel_rfl⟩
theorem fo34 : FnOK Try.prog 34 := ⟨Try.f34, Try.func34, by kernel_rfl, by kernel_rfl⟩
theorem fo35 : FnOK Try.prog 35 := ⟨Try.f35, Try.func35, by kernel_rfl, by kernel_rfl⟩
theorem fo36 : FnOK Try.prog 36 := ⟨Try.f36, Try.func36, by kernel_rfl, by kernel_rfl⟩
theorem fo37 : FnOK Try.prog 37 := ⟨Try.f37, Try.func37, by kernel_rfl, by kernel_rfl⟩
theorem fo38 : FnOK Try.prog 38 := ⟨Try.f38, Try.func38, by kernel_rfl, by kernel_rfl⟩
theorem fo39 : FnOK Try.prog 39 := ⟨Try.f39, Try.func39, by kernel_rfl, by kernel_rfl⟩
theorem fo40 : FnOK Try.prog 40 := ⟨Try.f40, Try.func40, by kernel_rfl, by kernel_rfl⟩
theorem fo41 : FnOK Try.prog 41 := ⟨Try.f41, Try.func41, by kernel_rfl, by kernel_rfl⟩
theorem fo42 : FnOK Try.prog 42 := ⟨Try.f42, Try.func42, by kernel_rfl, by kernel_rfl⟩
theorem fo43 : FnOK Try.prog 43 := ⟨Try.f43, Try.func43, by kernel_rfl, by kernel_rfl⟩
theorem fo44 : FnOK Try.prog 44 := ⟨Try.f44, Try.func44, by kernel_rfl, by kernel_rfl⟩
theorem fo45 : FnOK Try.prog 45 := ⟨Try.f45, Try.func45, by kernel_rfl, by kernel_rfl⟩
theorem fo46 : FnOK Try.prog 46 := ⟨Try.f46, Try.func46, by kernel_rfl, by kernel_rfl⟩
theorem fo47 : FnOK Try.prog 47 := ⟨Try.f47, Try.func47, by kernel_rfl, by kernel_rfl⟩
theorem fo48 : FnOK Try.prog 48 := ⟨Try.f48, Try.func48, by kernel_rfl, by kernel_rfl⟩
theorem fo49 : FnOK Try.prog 49 := ⟨Try.f49, Try.func49, by kernel_rfl, by kernel_rfl⟩
theorem fo50 : FnOK Try.prog 50 := ⟨Try.f50, Try.func50, by kernel_rfl, by kernel_rfl⟩
theorem fo51 : FnOK Try.prog 51 := ⟨Try.f51, Try.func51, by kernel_rfl, by kernel_rfl⟩
theorem fo52 : FnOK Try.prog 52 := ⟨Try.f52, Try.func52, by kernel_rfl, by kernel_rfl⟩
theorem fo53 : FnOK Try.prog 53 := ⟨Try.f53, Try.func53, by kernel_rfl, by kernel_rfl⟩
theorem fo54 : FnOK Try.prog 54 := ⟨Try.f54, Try.func54, by kernel_rfl, by kernel_rfl⟩
theorem fo55 : FnOK Try.prog 55 := ⟨Try.f55, Try.func55, by kernel_rfl, by kernel_rfl⟩
theorem fo56 : FnOK Try.prog 56 := ⟨Try.f56, Try.func56, by kernel_rfl, by kernel_rfl⟩
theorem fo57 : FnOK Try.prog 57 := ⟨Try.f57, Try.func57, by kernel_rfl, by kernel_rfl⟩
theorem fo58 : FnOK Try.prog 58 := ⟨Try.f58, Try.func58, by kernel_rfl, by kernel_rfl⟩
theorem fo59 : FnOK Try.prog 59 := ⟨Try.f59, Try.func59, by kernel_rfl, by kernel_rfl⟩
theorem fo60 : FnOK Try.prog 60 := ⟨Try.f60, Try.func60, by kernel_rfl, by kernel_rfl⟩
theorem fo61 : FnOK Try.prog 61 := ⟨Try.f61, Try.func61, by kernel_rfl, by kernel_rfl⟩
theorem fo62 : FnOK Try.prog 62 := ⟨Try.f62, Try.func62, by kernel_rfl, by kernel_rfl⟩
theorem fo63 : FnOK Try.prog 63 := ⟨Try.f63, Try.func63, by kernel_rfl, by kernel_rfl⟩
theorem fo64 : FnOK Try.prog 64 := ⟨Try.f64, Try.func64, by kernel_rfl, by kernel_rfl⟩
theorem fo65 : FnOK Try.prog 65 := ⟨Try.f65, Try.func65, by kernel_rfl, by kernel_rfl⟩
theorem fo66 : FnOK Try.prog 66 := ⟨Try.f66, Try.func66, by kernel_rfl, by kernel_rfl⟩
theorem fo67 : FnOK Try.prog 67 := ⟨Try.f67, Try.func67, by kernel_rfl, by kernel_rfl⟩
theorem fo68 : FnOK Try.prog 68 := ⟨Try.f68, Try.func68, by kernel_rfl, by kernel_rfl⟩
theorem fo69 : FnOK Try.prog 69 := ⟨Try.f69, Try.func69, by kernel_rfl, by kernel_rfl⟩
theorem fo70 : FnOK Try.prog 70 := ⟨Try.f70, Try.func70, by kernel_rfl, by kernel_rfl⟩
theorem fo71 : FnOK Try.prog 71 := ⟨Try.f71, Try.func71, by kernel_rfl, by kernel_rfl⟩
theorem fo72 : FnOK Try.prog 72 := ⟨Try.f72, Try.func72, by kernel_rfl, by kernel_rfl⟩
theorem fo73 : FnOK Try.prog 73 := ⟨Try.f73, Try.func73, by kernel_rfl, by kernel_rfl⟩
theorem fo74 : FnOK Try.prog 74 := ⟨Try.f74, Try.func74, by kernel_rfl, by kernel_rfl⟩
theorem fo75 : FnOK Try.prog 75 := ⟨Try.f75, Try.func75, by kernel_rfl, by kernel_rfl⟩
theorem fo76 : FnOK Try.prog 76 := ⟨Try.f76, Try.func76, by kernel_rfl, by kernel_rfl⟩
theorem fo77 : FnOK Try.prog 77 := ⟨Try.f77, Try.func77, by kernel_rfl, by kernel_rfl⟩
theorem fo78 : FnOK Try.prog 78 := ⟨Try.f78, Try.func78, by kernel_rfl, by kernel_rfl⟩
theorem fo79 : FnOK Try.prog 79 := ⟨Try.f79, Try.func79, by kernel_rfl, by kernel_rfl⟩
theorem fo80 : FnOK Try.prog 80 := ⟨Try.f80, Try.func80, by kernel_rfl, by kernel_rfl⟩
theorem fo81 : FnOK Try.prog 81 := ⟨Try.f81, Try.func81, by kernel_rfl, by kernel_rfl⟩
theorem fo82 : FnOK Try.prog 82 := ⟨Try.f82, Try.func82, by kernel_rfl, by kernel_rfl⟩
theorem fo83 : FnOK Try.prog 83 := ⟨Try.f83, Try.func83, by kernel_rfl, by kernel_rfl⟩
theorem fo84 : FnOK Try.prog 84 := ⟨Try.f84, Try.func84, by kernel_rfl, by kernel_rfl⟩
theorem fo85 : FnOK Try.prog 85 := ⟨Try.f85, Try.func85, by kernel_rfl, by kernel_rfl⟩
theorem fo86 : FnOK Try.prog 86 := ⟨Try.f86, Try.func86, by kernel_rfl, by kernel_rfl⟩
theorem fo87 : FnOK Try.prog 87 := ⟨Try.f87, Try.func87, by kernel_rfl, by kernel_rfl⟩
theorem fo88 : FnOK Try.prog 88 := ⟨Try.f88, Try.func88, by kernel_rfl, by kernel_rfl⟩
theorem fo89 : FnOK Try.prog 89 := ⟨Try.f89, Try.func89, by kernel_rfl, by kernel_rfl⟩
theorem fo90 : FnOK Try.prog 90 := ⟨Try.f90, Try.func90, by kernel_rfl, by kernel_rfl⟩
theorem fo91 : FnOK Try.prog 91 := ⟨Try.f91, Try.func91, by kernel_rfl, by kernel_rfl⟩
theorem fo92 : FnOK Try.prog 92 := ⟨Try.f92, Try.func92, by kernel_rfl, by kernel_rfl⟩
theorem fo93 : FnOK Try.prog 93 := ⟨Try.f93, Try.func93, by kernel_rfl, by kernel_rfl⟩
theorem fo94 : FnOK Try.prog 94 := ⟨Try.f94, Try.func94, by kernel_rfl, by kernel_rfl⟩
theorem fo95 : FnOK Try.prog 95 := ⟨Try.f95, Try.func95, by kernel_rfl, by kernel_rfl⟩
theorem fo96 : FnOK Try.prog 96 := ⟨Try.f96, Try.func96, by kernel_rfl, by kernel_rfl⟩
theorem fo97 : FnOK Try.prog 97 := ⟨Try.f97, Try.func97, by kernel_rfl, by kernel_rfl⟩
theorem fo98 : FnOK Try.prog 98 := ⟨Try.f98, Try.func98, by kernel_rfl, by kernel_rfl⟩
theorem fo99 : FnOK Try.prog 99 := ⟨Try.f99, Try.func99, by kernel_rfl, by kernel_rfl⟩
theorem fo100 : FnOK Try.prog 100 := ⟨Try.f100, Try.func100, by kernel_rfl, by kernel_rfl⟩
theorem fo101 : FnOK Try.prog 101 := ⟨Try.f101, Try.func101, by kernel_rfl, by kernel_rfl⟩
theorem sigs_ok : AllP (fun p => FnOK Try.prog (p.1 % 100000)) sigs := ⟨fo3, fo4, fo5, fo6, fo7, fo8, fo9, fo10, fo11, fo12, fo13, fo14, fo15, fo16, fo17, fo18, fo19, fo20, fo21, fo22, fo23, fo24, fo25, fo26, fo27, fo28, fo29, fo30, fo31, fo32, fo33, fo34, fo35, fo36, fo37, fo38, fo39, fo40, fo41, fo42, fo43, fo44, fo45, fo46, fo47, fo48, fo49, fo50, fo51, fo52, fo53, fo54, fo55, fo56, fo57, fo58, fo59, fo60, fo61, fo62, fo63, fo64, fo65, fo66, fo67, fo68, fo69, fo70, fo71, fo72, fo73, fo74, fo75, fo76, fo77, fo78, fo79, fo80, fo81, fo82, fo83, fo84, fo85, fo86, fo87, fo88, fo89, fo90, fo91, fo92, fo93, fo94, fo95, fo96, fo97, fo98, fo99, fo100, fo101, trivial⟩
theorem fns_ok : AllP (fun p => Try.prog.funcs[p.1 % 100000]? = some p.2.fn) fns := ⟨Try.func3, Try.func4, Try.func5, Try.func6, Try.func7, Try.func8, Try.func9, Try.func10, Try.func11, Try.func12, Try.func13, Try.func14, Try.func15, Try.func16, Try.func17, Try.func18, Try.func19, Try.func20, Try.func21, Try.func22, Try.func23, Try.func24, Try.func25, Try.func26, Try.func27, Try.func28, Try.func29, Try.func30, Try.func31, Try.func32, Try.func33, Try.func34, Try.func35, Try.func36, Try.func37, Try.func38, Try.func39, Try.func40, Try.func41, Try.func42, Try.func43, Try.func44, Try.func45, Try.func46, Try.func47, Try.func48, Try.func49, Try.func50, Try.func51, Try.func52, Try.func53, Try.func54, Try.func55, Try.func56, Try.func57, Try.func58, Try.func59, Try.func60, Try.func61, Try.func62, Try.func63, Try.func64, Try.func65, Try.func66, Try.func67, Try.func68, Try.func69, Try.func70, Try.func71, Try.func72, Try.func73, Try.func74, Try.func75, Try.func76, Try.func77, Try.func78, Try.func79, Try.func80, Try.func81, Try.func82, Try.func83, Try.func84, Try.func85, Try.func86, Try.func87, Try.func88, Try.func89, Try.func90, Try.func91, Try.func92, Try.func93, Try.func94, Try.func95, Try.func96, Try.func97, Try.func98, Try.func99, Try.func100, Try.func101, trivial⟩
noncomputable def arityB (p : Nat × FnI) : Bool := match lk sigs p.1 with
  | some sg => Nat.ble sg.ps.length p.2.fn.ntmps
  | none => true
theorem arity_ok : fns.all arityB = true := by kernel_rfl
theorem ordered : Try.prog.follows .mixedOrders = true := by kernel_rfl
theorem env_ok : EnvOK Try.prog ⟨T.tt, fun _ => none, T.eqt, T.sig, fun _ _ _ => none, fun _ => 0⟩ := ⟨fun t i h => tts_ok.mem (t, i) (lk_mem h), fun t h => by
    have h : t ∈ eqts := hasN_mem.1 h
    exact absurd h (by simp [eqts])⟩
theorem envx_ok : EnvCl (fun _ => True) Try.prog (envX (lk tts) (hasN eqts)) := ⟨⟨env_ok.tt, env_ok.eqt⟩, (fun f sg h => by cases h), (fun f sg x r h _ => by cases h)⟩
theorem cl_85 (xs : List Int) (r : sg_Z5.R) (h : chk (room ([] : List Int).length xs.length) (some ((xs, ()), ())) = some r) : CallOK (fun _ => True) Try.prog 85 sg_Z5 (xs, ()) r :=
  clone_ok (e := 3) (t := (.int .i64)) ordered envx_ok (f := 85) (fi := ⟨Try.f85, anClone, lk ty_Z5, fun _ => 0⟩) Try.func85 (Nat.le_of_ble_eq_true (by kernel_rfl)) (by kernel_rfl) (fun xs => by kernel_rfl) xs r h
theorem tab_ok : TabOK (fun _ => True) Try.prog T where
  ord := ordered
  ok := env_ok
  fnok := fun f sg h => sigs_ok.mem (f, sg) (lk_mem h)
  fns := fun f fi h => fns_ok.mem (f, fi) (lk_mem h)
  arity := fun f fi sg h1 h2 => by
    have := List.all_eq_true.1 arity_ok (f, fi) (lk_mem h1)
    unfold arityB at this
    rw [show lk sigs f = some sg from h2] at this
    exact Nat.le_of_ble_eq_true this
  ext := fun k f sg g x r h1 h2 h3 => by
    have h2 : (bif hasN clones f then cloneX sg else none) = some g := h2
    cases hq : hasN clones f with
    | false => rw [hq] at h2; cases h2
    | true =>
      rw [hq] at h2
      have hm : f ∈ clones := hasN_mem.1 hq
      simp only [clones, List.mem_cons, List.not_mem_nil, or_false] at hm
      rcases hm with rfl
      · exact cloneX_ok (Option.some.inj (h1.symm.trans (show T.sig 85 = some sg_Z5 by kernel_rfl))) cl_85 h2 h3
end Go.Gx

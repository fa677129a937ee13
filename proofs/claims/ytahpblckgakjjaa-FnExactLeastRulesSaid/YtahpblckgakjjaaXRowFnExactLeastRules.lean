/-
  The law FnExactLeastRules holds for every argument. No condition.
-/
import Derived.Test.YtahpblckgakjjaaRows
import Derived.Test.YtahpblckgakjjaaXTpart1
import Derived.Test.YtahpblckgakjjaaXLpart2
set_option linter.unusedVariables false
namespace Go.Proofs.Ytahpblckgakjjaa.fnExactLeastRules
open Go.ChangeShapes Go.WideShapes Go.ChangeAt Go.RowKit
theorem own : ownKnob Try.prog.godebug = none := by kernel_rfl
theorem laidOut : laidOutB Try.prog = true := by kernel_rfl
theorem law {v : Value} {x : List (Int × Int)} {w : World} (h : Go.Gx.TC (fun b => b < w.heap.size) w ((.sl (.pair (.int .i64) (.int .i64)))) x [v]) (hz : Go.Gx.SzT ((.sl (.pair (.int .i64) (.int .i64)))) x) : Calls Try.prog 6 #[v] w fun e w' => e = .returned (.bool true) ∧ Below w.heap.size w w' :=
  Go.Gx.law_walkG Go.Gx.tab_ok trivial (f := 6) rfl (ps := [.leaf (.ro (.pair (.int .i64) (.int .i64)))]) (by kernel_rfl) (x := (x, ())) (by
    obtain ⟨k, hk⟩ := Go.Gx.p_Z20 x hz
    exact ⟨k, _, (congrFun (Go.Gx.c_Z20 k) x).trans hk⟩) (Go.Gx.brvs_slice h)
set_option maxRecDepth 100000 in
theorem lifted (os : Os) (started : os.Started) (H : Type) (enc : TypeId × Value → H) :
    ReturnsInHanded {} Try.checked os 6 .any (Rows.fnExactLeastRulesSpec.pre6 enc Try.prog Try.f6 Rows.fnExactLeastRulesRow.domain false) (Rows.fnExactLeastRulesSpec.post enc Try.prog Try.f6 false true false false) := by
  refine returnsInHanded_of_change_sized (C := Try.checked) own started (by kernel_rfl) Try.func6
    (ChangeSpec.witness6 (enc := enc) (C := Try.checked) false ⟨#[], #[.slice none 0 0], []⟩ 8 (by kernel_rfl) (by kernel_rfl) (by kernel_rfl) (by kernel_rfl)) ?_
  intro W base args ds gs before hval0 hW hcnd hsz0 _
  have hval : ∀ (j : Nat) t v, Try.f6.params[j]? = some t → args[j]? = some v → Value.okWide Try.prog W .any base t v := hval0
  have hW' := hW
  obtain ⟨p, q, hA0, hV, rfl, hfz, hnd⟩ := hW
  have hA : DataW.TrodAll enc Try.prog W 0 (fun _ => true) true Try.f6.params.toList args.toList ds p := hA0
  rw [Try.params6] at hA hval
  obtain ⟨v0, vs0, d0, ds0, p0, q0, hargs, rfl, rfl, h0, r0⟩ := trodAll_cons hA
  obtain ⟨rfl, rfl, rfl⟩ := trodAll_nil r0
  obtain rfl : args = #[v0] := by cases args; simp_all
  obtain ⟨rfl, rfl⟩ := trodVars_none hV
  have k0 := h0
  have lt0 : ∀ x ∈ p0, x.block < W.heap.size := by obtain ⟨m, hm⟩ := k0; exact DataW.trod_lt m _ _ _ hm
  have ho : Go.Gx.Opens H enc Try.prog W 43 ((.sl (.pair (.int .i64) (.int .i64)))) := Go.Gx.opens_sl Try.underlying43 (by kernel_rfl) (Go.Gx.opens_2 Try.underlying82 rfl rfl (by kernel_rfl) (by kernel_rfl) (by kernel_rfl)  (Go.Gx.opens_int Try.underlying3) (Go.Gx.opens_int Try.underlying3))
  obtain ⟨a0, len0, cap0, rfl⟩ := okWide_slice Try.underlying43 (hval 0 43 v0 rfl rfl)
  obtain ⟨x, w0, hz⟩ := Go.Gx.open_cell ho (fun us h => by cases h) h0
  clear hA0 hval0 hsz0
  refine (law w0 hz).mono fun e W' ⟨he, bel⟩ => ?_
  subst he
  exact ⟨_, rfl, _, _, _, [], _, [], hW', trodAll_mk1 (shut_bool Try.underlying4 _), (trodAll_cons_mk (Below.trod laidOut (by kernel_rfl) (of_decide_eq_true (by kernel_rfl)) k0 bel lt0) trodAll_mk0), rfl, bel.frame _, fun h => by cases h⟩
theorem over : Rows.fnExactLeastRulesRow.holds Try.pinned (OpenSpec.ofChange Rows.fnExactLeastRulesSpec) :=
  OpenClaim.holds_of_wide 6 Try.f6 rfl rfl rfl rfl rfl rfl rfl ⟨rfl, rfl, rfl, rfl, rfl⟩ rfl rfl rfl rfl rfl (by kernel_rfl) Try.func6 (by kernel_rfl)
    (of_decide_eq_true (by kernel_rfl)) (by unfold Func.isWrapper; first | (rw [if_pos (by decide +kernel)]; kernel_rfl) | (rw [if_neg (by decide +kernel)]; exact ⟨rfl, rfl⟩))
    (fun os started H enc _ => lifted os started H enc)
theorem proved : Rows.FnExactLeastRulesSaid := over
#print axioms proved
end Go.Proofs.Ytahpblckgakjjaa.fnExactLeastRules
namespace Go.Proofs.Ytahpblckgakjjaa
/-- The row. -/
theorem fnExactLeastRules_holds : Rows.FnExactLeastRulesSaid := fnExactLeastRules.proved
end Go.Proofs.Ytahpblckgakjjaa

/-
  The plain law of FnFirstBad.
-/
import Derived.Test.YtccllfbilobfhaaXLpart1
set_option linter.unusedVariables false
set_option linter.unusedSimpArgs false
namespace Go.Gx
theorem DrawFirstBad_tot {code : List Int} (hc : ∀ z ∈ code, 0 ≤ z ∧ z ≤ 255) (hl : code.length ≤ 1048576) : Tot (fun σ => F_s_DrawFirstBad (σ 0) code) (fun r => ∃ ops : List POp, r = ((ops, ()), ()) ∧ ops.length ≤ 500000000000) := by
  refine tot_s_DrawFirstBad ?_
  unfold B_s_DrawFirstBad
  refine (newReader_tot hc hl).bind ?_
  rintro _ ⟨b, rfl, hb⟩
  refine (someOps_tot hb (by omega)).bind ?_
  rintro _ ⟨_, q, rfl, _, _, ops, rfl, hl⟩
  rw [tot_some]
  exact ⟨ops, rfl, hl⟩
theorem s_FirstBad_tot {ops : List POp} (hl : ops.length ≤ 900000000000) : Tot (fun σ => F_s_FirstBad (σ 0) ops) (fun r => r = ((badM ops, ()), ())) := by
  refine tot_s_FirstBad ?_
  unfold B_s_FirstBad badM
  refine (validOps_tot hl).bind ?_
  rintro _ rfl
  simp only [tot_cond, tot_some, Bool.not_eq_true', Bool.not_eq_false']
  refine ⟨fun h => by rw [if_neg (by rw [h]; decide)], fun h => ?_⟩
  refine (runShapes_tot hl (okOps_all h).1).bind ?_
  rintro _ ⟨rfl, _⟩
  simp only [tot_cond, tot_some, beq_iff_eq, beq_eq_false_iff_ne, ne_eq, len, rN_eq]
  rw [if_pos h]
  refine ⟨fun he => by rw [if_pos (by omega)], fun he => by rw [if_neg (by omega)]⟩
theorem p_l_FnFirstBad (code : List Int) (hc : ∀ z ∈ code, 0 ≤ z ∧ z ≤ 255) : ∃ k, F_l_FnFirstBad k code = some ((true, ()), ()) := by
  refine Tot.ex (F := fun k => F_l_FnFirstBad k code) ?_
  refine tot_l_FnFirstBad ?_
  unfold B_l_FnFirstBad B_l_FnFirstBad_J0
  simp only [tot_cond, tot_some, decide_eq_true_eq, decide_eq_false_iff_not, len]
  refine ⟨fun _ => trivial, fun hl => ?_⟩
  refine (DrawFirstBad_tot hc (by omega)).bind ?_
  rintro _ ⟨ops, rfl, hll⟩
  refine (i_FirstBad_tot (by simp only []; omega)).bind ?_
  rintro _ rfl
  refine (s_FirstBad_tot (by simp only []; omega)).bind ?_
  rintro _ rfl
  simp only [tot_cond, tot_jn, bne_self_eq_false]
  refine ⟨fun h0 => absurd h0 (by decide), fun _ => ⟨fun _ => ?_, fun hb => ?_⟩⟩
  · refine (s_FirstBad_tot (by omega)).bind ?_
    rintro _ rfl
    rw [tot_some]
    simp
  · have hb : badM ops ≠ -2 := by simpa using hb
    have hok : okOps ops = true := by
      cases hq : okOps ops with
      | true => rfl
      | false => exact absurd (by unfold badM; rw [if_neg (by rw [hq]; decide)]) hb
    have hn := (rM_inv hok).2.2.2
    have last : Tot (fun s => (F_i_CutOps (s 0) ops).bind fun r49 => (F_i_FirstBad (s 0) r49.1.1).bind fun r50 => some (((r50.1.1 == (-1)), ()), ())) (fun x => x = ((true, ()), ())) := by
      refine (i_CutOps_tot (by omega)).bind ?_
      rintro _ rfl
      have hcl : (cutM ops).length ≤ ops.length := by unfold cutM; rw [if_pos hok, List.length_take]; omega
      refine (i_FirstBad_tot (by simp only []; omega)).bind ?_
      rintro _ rfl
      rw [tot_some, badM_cut hok]
      rfl
    refine (i_RunOps_tot (by omega)).bind ?_
    rintro _ rfl
    have hbm : badM ops = if rN ops = ops.length then -1 else (rN ops : Int) := by unfold badM; rw [if_pos hok]
    have hr : (runA ops).1.2.1 = (rN ops : Int) := by unfold runA; rw [if_pos hok]
    rw [hr]
    simp only [tot_cond, beq_iff_eq, beq_eq_false_iff_ne, ne_eq, tot_some]
    by_cases hq : rN ops = ops.length
    · rw [if_pos hq] at hbm
      rw [hbm, hq]
      exact ⟨fun _ => ⟨fun _ => last, fun h0 => absurd rfl h0⟩, fun h0 => absurd (by simp) h0⟩
    · rw [if_neg hq] at hbm
      rw [hbm]
      have h1 : ((rN ops : Int) == -1) = false := by rw [beq_eq_false_iff_ne]; omega
      have h2 : ((rN ops : Int) == (ops.length : Int)) = false := by rw [beq_eq_false_iff_ne]; omega
      rw [h1, h2]
      exact ⟨fun _ => ⟨fun h0 => by omega, fun _ => ⟨fun _ => last, fun h0 => absurd rfl h0⟩⟩, fun h0 => absurd rfl h0⟩
end Go.Gx

/-
  The plain law of FnDecodeOps: what is drawn, read and compared answers true.
-/
import Derived.Test.YtpcnmlpikiigaaaXL16
set_option linter.unusedVariables false
set_option linter.unusedSimpArgs false
namespace Go.Gx
theorem p_l_FnDecodeOps (code : List Int) (hc : ∀ z ∈ code, 0 ≤ z ∧ z ≤ 255) : ∃ k, F_l_FnDecodeOps k code = some ((true, ()), ()) := by
  refine Tot.ex (F := fun k => F_l_FnDecodeOps k code) ?_
  refine tot_l_FnDecodeOps ?_
  unfold B_l_FnDecodeOps B_l_FnDecodeOps_J0
  simp only [tot_cond, tot_some, decide_eq_true_eq, decide_eq_false_iff_not, len]
  refine ⟨fun _ => trivial, fun hl => ?_⟩
  refine (DrawDecodeOps_tot hc (by omega)).bind ?_
  rintro _ ⟨l, rfl, hll⟩
  refine (i_DecodeOps_tot (by simp only []; omega)).bind ?_
  intro r1 h1
  refine (s_DecodeOps_tot (by simp only []; omega)).bind ?_
  intro r2 h2
  rcases h1 with ⟨ok, hn, rfl⟩ | ⟨nok, rfl⟩
  · rcases h2 with ⟨_, _, rfl⟩ | ⟨nok, _⟩
    · obtain ⟨d1, d2, d3, d4⟩ := decP_spec 300 ok.2
      simp only at hn
      replace d2 : (decP 300 l).1.length ≤ 300 := d2
      rw [hn, List.take_length] at d3
      have hok : okOps (decP 300 l).1 = true := by simp [okOps, d1, d2]
      have henc : encP (decP 300 l).1 = l := by rw [encP, if_pos hok, d3]
      refine (equalOps_tot (show (decP 300 l).1.length ≤ _ by omega)).bind ?_
      rintro _ ⟨b, rfl, hb⟩
      have hb : b = true := hb.2 rfl
      subst hb
      simp only [tot_cond, tot_jn, tot_some]
      refine ⟨fun h => absurd h (by decide), fun _ => ⟨fun h => absurd h (by decide), fun _ => ⟨fun h => absurd h (by decide), fun _ => ?_⟩⟩⟩
      refine (i_EncodeOps_tot (show (decP 300 l).1.length ≤ _ by omega)).bind ?_
      rintro _ rfl
      refine (equalInts_tot (show (encP (decP 300 l).1).length ≤ _ by rw [henc]; omega)).bind ?_
      rintro _ ⟨b, rfl, hb⟩
      have hb : b = true := hb.2 henc
      subst hb
      simp only [tot_cond, tot_some]
      refine ⟨fun _ => ?_, fun h => absurd h (by decide)⟩
      refine (i_ValidOps_tot (show (decP 300 l).1.length ≤ _ by omega)).bind ?_
      rintro _ rfl
      rw [tot_some, hok]
    · exact absurd ⟨ok, hn⟩ nok
  · rcases h2 with ⟨ok, hn, _⟩ | ⟨_, rfl⟩
    · exact absurd ⟨ok, hn⟩ nok
    · have eq : Tot (fun σ => F_l_equalOps (σ 0) [] []) (fun r => r = ((true, ()), ())) := by
        refine (equalOps_tot (by simp)).mono ?_
        rintro _ ⟨b, rfl, hb⟩
        rw [hb.2 rfl]
      refine eq.bind ?_
      rintro _ rfl
      simp only [tot_cond, tot_jn, tot_some]
      refine ⟨fun h => absurd h (by decide), fun _ => ⟨fun h => absurd h (by decide), fun _ => ⟨fun _ => ?_, fun h => absurd h (by decide)⟩⟩⟩
      refine eq.bind ?_
      rintro _ rfl
      simp only [tot_cond, tot_some]
      exact ⟨fun _ => rfl, fun h => absurd h (by decide)⟩
end Go.Gx

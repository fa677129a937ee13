/-
  Laws: the bytes that are drawn for DecodeTorn.
-/
import Derived.Test.YtpcnmlpikiigaaaXL13
set_option linter.unusedVariables false
namespace Go.Gx
theorem DrawDecodeTorn_tot {code : List Int} (hc : ∀ z ∈ code, 0 ≤ z ∧ z ≤ 255) (hl : code.length ≤ 1048576) : Tot (fun σ => F_s_DrawDecodeTorn (σ 0) code) (fun r => ∃ l : List Int, r = ((l, ()), ()) ∧ l.length ≤ 900) := by
  refine tot_s_DrawDecodeTorn ?_
  unfold B_s_DrawDecodeTorn
  refine (newReader_tot hc hl).bind ?_
  rintro _ ⟨b, rfl, hb⟩
  refine (someBytes_tot hb (by omega)).bind ?_
  rintro _ ⟨_, q, rfl, _, _, l, rfl, hl⟩
  rw [tot_some]
  exact ⟨l, rfl, hl⟩
end Go.Gx

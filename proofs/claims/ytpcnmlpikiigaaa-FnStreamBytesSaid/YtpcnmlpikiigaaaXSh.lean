/-
  The functions, as Gx tells them (printed by gen.py).
-/
import Derived.Test.YtpcnmlpikiigaaaXSh1
set_option linter.unusedVariables false
namespace Go.Gx
abbrev A_Z4_L2 (Z : Type) : Type := (List (Int × Int)) → List Int → Int → Int → Z
abbrev u_Z4_L2 {Z : Type} (f : A_Z4_L2 Z) (t : T_Z4_L2) : Z := f t.1 t.2.1 t.2.2.1 t.2.2.2.1
theorem loop_Z4_L2 {Q : A_Z4_L2 (((Bool × Unit) × (Unit)) → Prop)} (I : A_Z4_L2 Prop) (μ : A_Z4_L2 Nat)
    (step : ∀ a0 a1 a2 a3, I a0 a1 a2 a3 → ∀ again : (Nat → Nat) → T_Z4_L2 → R_Z4, Dep 2 again → (∀ y0 y1 y2 y3, I y0 y1 y2 y3 → μ y0 y1 y2 y3 < μ a0 a1 a2 a3 → Tot (fun σ => again σ (y0, y1, y2, y3, ())) (Q y0 y1 y2 y3)) →
      Tot (fun σ => B_Z4_L2b (σ 0) (F_Z3 (σ 0)) (F_Z8 (σ 0)) (F_Z9 (σ 0)) (F_Z32 (σ 0)) (F_Z6 (σ 0)) (F_Z5 (σ 0)) (F_Z43 (σ 0)) (F_Z33 (σ 0)) (again σ) a0 a1 a2 a3) (Q a0 a1 a2 a3)) :
    ∀ a0 a1 a2 a3, I a0 a1 a2 a3 → Tot (fun σ => B_Z4_L2 (σ 0) (F_Z3 (σ 0)) (F_Z8 (σ 0)) (F_Z9 (σ 0)) (F_Z32 (σ 0)) (F_Z6 (σ 0)) (F_Z5 (σ 0)) (F_Z43 (σ 0)) (F_Z33 (σ 0)) (σ 0) (a0, a1, a2, a3, ())) (Q a0 a1 a2 a3) := fun a0 a1 a2 a3 => Tot.loop0 (L := fun k => B_Z4_L2 k (F_Z3 k) (F_Z8 k) (F_Z9 k) (F_Z32 k) (F_Z6 k) (F_Z5 k) (F_Z43 k) (F_Z33 k)) (B := fun k g => u_Z4_L2 (B_Z4_L2b k (F_Z3 k) (F_Z8 k) (F_Z9 k) (F_Z32 k) (F_Z6 k) (F_Z5 k) (F_Z43 k) (F_Z33 k) g)) (Q := u_Z4_L2 Q) (fun _ _ _ => rfl) (u_Z4_L2 I) (u_Z4_L2 μ)
    (fun t ht again hag h => step t.1 t.2.1 t.2.2.1 t.2.2.2.1 ht again hag fun y0 y1 y2 y3 => h (y0, y1, y2, y3, ())) (a0, a1, a2, a3, ())
end Go.Gx

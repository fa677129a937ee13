/-
  The functions, as Gx tells them (printed by gen.py).
-/
import Derived.Test.YtafomfpnbhnmfaaXSh1
set_option linter.unusedVariables false
namespace Go.Gx
abbrev A_i_SafeRun_L2 (Z : Type) : Type := (List (Int × Int)) → Int → Int → Int → List Int → (List (Int × Int × List Int)) → List Int → List Int → Bool → (List (Int × Int)) → Int → Int → Z
abbrev u_i_SafeRun_L2 {Z : Type} (f : A_i_SafeRun_L2 Z) (t : T_i_SafeRun_L2) : Z := f t.1 t.2.1.1 t.2.1.2.1 t.2.1.2.2.1 t.2.1.2.2.2.1 t.2.2.1.1 t.2.2.1.2.1 t.2.2.1.2.2.1 t.2.2.1.2.2.2.1 t.2.2.2.1 t.2.2.2.2.1 t.2.2.2.2.2.1
theorem loop_i_SafeRun_L2 {Q : A_i_SafeRun_L2 (((Int × Int × Unit) × (Unit)) → Prop)} (I : A_i_SafeRun_L2 Prop) (μ : A_i_SafeRun_L2 Nat)
    (step : ∀ a0 a1 a2 a3 a4 a5 a6 a7 a8 a9 a10 a11, I a0 a1 a2 a3 a4 a5 a6 a7 a8 a9 a10 a11 → ∀ again : (Nat → Nat) → T_i_SafeRun_L2 → R_i_SafeRun, Dep 2 again → (∀ y0 y1 y2 y3 y4 y5 y6 y7 y8 y9 y10 y11, I y0 y1 y2 y3 y4 y5 y6 y7 y8 y9 y10 y11 → μ y0 y1 y2 y3 y4 y5 y6 y7 y8 y9 y10 y11 < μ a0 a1 a2 a3 a4 a5 a6 a7 a8 a9 a10 a11 → Tot (fun σ => again σ (y0, (y1, y2, y3, y4, ()), (y5, y6, y7, y8, ()), y9, y10, y11, ())) (Q y0 y1 y2 y3 y4 y5 y6 y7 y8 y9 y10 y11)) →
      Tot (fun σ => B_i_SafeRun_L2b (σ 0) (F_i_ValidOps (σ 0)) (F_i_ValidRules (σ 0)) (F_i_NewMachine (σ 0)) (F_i_Machine_step (σ 0)) (F_slices_Contains_int_int (σ 0)) (again σ) a0 a1 a2 a3 a4 a5 a6 a7 a8 a9 a10 a11) (Q a0 a1 a2 a3 a4 a5 a6 a7 a8 a9 a10 a11)) :
    ∀ a0 a1 a2 a3 a4 a5 a6 a7 a8 a9 a10 a11, I a0 a1 a2 a3 a4 a5 a6 a7 a8 a9 a10 a11 → Tot (fun σ => B_i_SafeRun_L2 (σ 0) (F_i_ValidOps (σ 0)) (F_i_ValidRules (σ 0)) (F_i_NewMachine (σ 0)) (F_i_Machine_step (σ 0)) (F_slices_Contains_int_int (σ 0)) (σ 0) (a0, (a1, a2, a3, a4, ()), (a5, a6, a7, a8, ()), a9, a10, a11, ())) (Q a0 a1 a2 a3 a4 a5 a6 a7 a8 a9 a10 a11) := fun a0 a1 a2 a3 a4 a5 a6 a7 a8 a9 a10 a11 => Tot.loop0 (L := fun k => B_i_SafeRun_L2 k (F_i_ValidOps k) (F_i_ValidRules k) (F_i_NewMachine k) (F_i_Machine_step k) (F_slices_Contains_int_int k)) (B := fun k g => u_i_SafeRun_L2 (B_i_SafeRun_L2b k (F_i_ValidOps k) (F_i_ValidRules k) (F_i_NewMachine k) (F_i_Machine_step k) (F_slices_Contains_int_int k) g)) (Q := u_i_SafeRun_L2 Q) (fun _ _ _ => rfl) (u_i_SafeRun_L2 I) (u_i_SafeRun_L2 μ)
    (fun t ht again hag h => step t.1 t.2.1.1 t.2.1.2.1 t.2.1.2.2.1 t.2.1.2.2.2.1 t.2.2.1.1 t.2.2.1.2.1 t.2.2.1.2.2.1 t.2.2.1.2.2.2.1 t.2.2.2.1 t.2.2.2.2.1 t.2.2.2.2.2.1 ht again hag fun y0 y1 y2 y3 y4 y5 y6 y7 y8 y9 y10 y11 => h (y0, (y1, y2, y3, y4, ()), (y5, y6, y7, y8, ()), y9, y10, y11, ())) (a0, (a1, a2, a3, a4, ()), (a5, a6, a7, a8, ()), a9, a10, a11, ())
abbrev R_s_validRules : Type := Option ((Bool × Unit) × (Unit))
abbrev C_s_validRules : Type := Int → Int → Int → List Int → R_s_validRules
abbrev T_s_validRules_L1 : Type := (Int × Int × Int × List Int × Unit) × Int × Unit
def B_s_validRules_J0 (k : Nat) (c_s_inRange : C_s_inRange) (c_s_placeIn : C_s_placeIn) (again1 : T_s_validRules_L1 → R_s_validRules) (r_Steps r_Nodes r_Deep : Int) (r_Classes : List Int) (i : Int) (t30 : Bool) : R_s_validRules :=
  bif t30 then
    some ((false, ()), ())
  else
    again1 ((r_Steps, r_Nodes, r_Deep, r_Classes, ()), w64 (i + 1), ())
def B_s_validRules_L1b (k : Nat) (c_s_inRange : C_s_inRange) (c_s_placeIn : C_s_placeIn) (again1 : T_s_validRules_L1 → R_s_validRules) (r_Steps r_Nodes r_Deep : Int) (r_Classes : List Int) (i : Int) : R_s_validRules :=
  bif decide (i < (len r_Classes)) then
    chk (inb i r_Classes.length) <|
    (c_s_inRange (rdx (0 : Int) r_Classes i) 0 9).bind fun r16 =>
    bif (!r16.1.1) then
      jn (fun t => B_s_validRules_J0 k c_s_inRange c_s_placeIn again1 t.1.1 t.1.2.1 t.1.2.2.1 t.1.2.2.2.1 t.2.1 t.2.2.1) ((r_Steps, r_Nodes, r_Deep, r_Classes, ()), i, true, ())
    else
      chk (cutb 0 i r_Classes.length) <|
      chk (inb i r_Classes.length) <|
      (c_s_placeIn (sub r_Classes 0 i) (rdx (0 : Int) r_Classes i)).bind fun r28 =>
      jn (fun t => B_s_validRules_J0 k c_s_inRange c_s_placeIn again1 t.1.1 t.1.2.1 t.1.2.2.1 t.1.2.2.2.1 t.2.1 t.2.2.1) ((r_Steps, r_Nodes, r_Deep, r_Classes, ()), i, decide (r28.1.1 ≥ 0), ())
  else
    (c_s_inRange r_Steps 0 300).bind fun r33 =>
    bif r33.1.1 then
      (c_s_inRange r_Nodes 0 300).bind fun r37 =>
      bif r37.1.1 then
        (c_s_inRange r_Deep 0 300).bind fun r42 =>
        some ((r42.1.1, ()), ())
      else
        some ((false, ()), ())
    else
      some ((false, ()), ())
def B_s_validRules_L1 (k : Nat) (c_s_inRange : C_s_inRange) (c_s_placeIn : C_s_placeIn) (n : Nat) (t : T_s_validRules_L1) : R_s_validRules :=
  lfix n (fun again t => B_s_validRules_L1b k c_s_inRange c_s_placeIn again t.1.1 t.1.2.1 t.1.2.2.1 t.1.2.2.2.1 t.2.1) t
def B_s_validRules (k : Nat) (c_s_inRange : C_s_inRange) (c_s_placeIn : C_s_placeIn) (r_0 r_1 r_2 : Int) (r_3 : List Int) : R_s_validRules :=
  B_s_validRules_L1 k c_s_inRange c_s_placeIn k ((r_0, r_1, r_2, r_3, ()), 0, ())
def F_s_validRules : Nat → C_s_validRules
  | 0, _, _, _, _ => none
  | k + 1, r_0, r_1, r_2, r_3 => B_s_validRules k (F_s_inRange k) (F_s_placeIn k) r_0 r_1 r_2 r_3
theorem tot_s_validRules {r_0 r_1 r_2 r_3 : _} {Q : _ → Prop} (h : Tot (fun σ => B_s_validRules (σ 0) (F_s_inRange (σ 0)) (F_s_placeIn (σ 0)) r_0 r_1 r_2 r_3) Q) : Tot (fun σ => F_s_validRules (σ 0) r_0 r_1 r_2 r_3) Q :=
  Tot.call (F := fun k => F_s_validRules k r_0 r_1 r_2 r_3) (B := fun k => B_s_validRules k (F_s_inRange k) (F_s_placeIn k) r_0 r_1 r_2 r_3) (fun k => rfl) h
abbrev A_s_validRules_L1 (Z : Type) : Type := Int → Int → Int → List Int → Int → Z
abbrev u_s_validRules_L1 {Z : Type} (f : A_s_validRules_L1 Z) (t : T_s_validRules_L1) : Z := f t.1.1 t.1.2.1 t.1.2.2.1 t.1.2.2.2.1 t.2.1
theorem loop_s_validRules_L1 {Q : A_s_validRules_L1 (((Bool × Unit) × (Unit)) → Prop)} (I : A_s_validRules_L1 Prop) (μ : A_s_validRules_L1 Nat)
    (step : ∀ a0 a1 a2 a3 a4, I a0 a1 a2 a3 a4 → ∀ again : (Nat → Nat) → T_s_validRules_L1 → R_s_validRules, Dep 2 again → (∀ y0 y1 y2 y3 y4, I y0 y1 y2 y3 y4 → μ y0 y1 y2 y3 y4 < μ a0 a1 a2 a3 a4 → Tot (fun σ => again σ ((y0, y1, y2, y3, ()), y4, ())) (Q y0 y1 y2 y3 y4)) →
      Tot (fun σ => B_s_validRules_L1b (σ 0) (F_s_inRange (σ 0)) (F_s_placeIn (σ 0)) (again σ) a0 a1 a2 a3 a4) (Q a0 a1 a2 a3 a4)) :
    ∀ a0 a1 a2 a3 a4, I a0 a1 a2 a3 a4 → Tot (fun σ => B_s_validRules_L1 (σ 0) (F_s_inRange (σ 0)) (F_s_placeIn (σ 0)) (σ 0) ((a0, a1, a2, a3, ()), a4, ())) (Q a0 a1 a2 a3 a4) := fun a0 a1 a2 a3 a4 => Tot.loop0 (L := fun k => B_s_validRules_L1 k (F_s_inRange k) (F_s_placeIn k)) (B := fun k g => u_s_validRules_L1 (B_s_validRules_L1b k (F_s_inRange k) (F_s_placeIn k) g)) (Q := u_s_validRules_L1 Q) (fun _ _ _ => rfl) (u_s_validRules_L1 I) (u_s_validRules_L1 μ)
    (fun t ht again hag h => step t.1.1 t.1.2.1 t.1.2.2.1 t.1.2.2.2.1 t.2.1 ht again hag fun y0 y1 y2 y3 y4 => h ((y0, y1, y2, y3, ()), y4, ())) ((a0, a1, a2, a3, ()), a4, ())
abbrev R_s_breach : Type := Option ((Int × Unit) × (Unit))
abbrev C_s_breach : Type := Int → Int → Int → List Int → Int → Int → List Int → List Bool → List Int → List Int → Bool → Int → R_s_breach
def B_s_breach_J0 (k : Nat) (c_s_placeIn : C_s_placeIn) (r_Steps r_Nodes r_Deep : Int) (r_Classes s_Kinds : List Int) (s_Full : List Bool) (s_Stack s_Memo : List Int) (s_Done t23 : Bool) : R_s_breach :=
  bif t23 then
    some ((3, ()), ())
  else
    bif decide ((len s_Kinds) > r_Nodes) then
      some ((4, ()), ())
    else
      bif decide ((len s_Stack) > r_Deep) then
        some ((5, ()), ())
      else
        some ((0, ()), ())
def B_s_breach (k : Nat) (c_s_placeIn : C_s_placeIn) (r_0 r_1 r_2 : Int) (r_3 : List Int) (o_0 o_1 : Int) (s_0 : List Int) (s_1 : List Bool) (s_2 s_3 : List Int) (s_4 : Bool) (done : Int) : R_s_breach :=
  bif decide (done > r_0) then
    some ((2, ()), ())
  else
    bif (o_0 == 13) then
      (c_s_placeIn r_3 o_1).bind fun r21 =>
      jn (fun t => B_s_breach_J0 k c_s_placeIn t.1.1 t.1.2.1 t.1.2.2.1 t.1.2.2.2.1 t.2.1.1 t.2.1.2.1 t.2.1.2.2.1 t.2.1.2.2.2.1 t.2.1.2.2.2.2.1 t.2.2.1) ((r_0, r_1, r_2, r_3, ()), (s_0, s_1, s_2, s_3, s_4, ()), decide (r21.1.1 < 0), ())
    else
      jn (fun t => B_s_breach_J0 k c_s_placeIn t.1.1 t.1.2.1 t.1.2.2.1 t.1.2.2.2.1 t.2.1.1 t.2.1.2.1 t.2.1.2.2.1 t.2.1.2.2.2.1 t.2.1.2.2.2.2.1 t.2.2.1) ((r_0, r_1, r_2, r_3, ()), (s_0, s_1, s_2, s_3, s_4, ()), false, ())
def F_s_breach : Nat → C_s_breach
  | 0, _, _, _, _, _, _, _, _, _, _, _, _ => none
  | k + 1, r_0, r_1, r_2, r_3, o_0, o_1, s_0, s_1, s_2, s_3, s_4, done => B_s_breach k (F_s_placeIn k) r_0 r_1 r_2 r_3 o_0 o_1 s_0 s_1 s_2 s_3 s_4 done
theorem tot_s_breach {r_0 r_1 r_2 r_3 o_0 o_1 s_0 s_1 s_2 s_3 s_4 done : _} {Q : _ → Prop} (h : Tot (fun σ => B_s_breach (σ 0) (F_s_placeIn (σ 0)) r_0 r_1 r_2 r_3 o_0 o_1 s_0 s_1 s_2 s_3 s_4 done) Q) : Tot (fun σ => F_s_breach (σ 0) r_0 r_1 r_2 r_3 o_0 o_1 s_0 s_1 s_2 s_3 s_4 done) Q :=
  Tot.call (F := fun k => F_s_breach k r_0 r_1 r_2 r_3 o_0 o_1 s_0 s_1 s_2 s_3 s_4 done) (B := fun k => B_s_breach k (F_s_placeIn k) r_0 r_1 r_2 r_3 o_0 o_1 s_0 s_1 s_2 s_3 s_4 done) (fun k => rfl) h
abbrev R_s_safe : Type := Option ((Int × Int × Unit) × (Unit))
abbrev C_s_safe : Type := (List (Int × Int)) → Int → Int → Int → List Int → R_s_safe
abbrev T_s_safe_L0 : Type := (List (Int × Int)) × (Int × Int × Int × List Int × Unit) × (List Int × List Bool × List Int × List Int × Bool × Unit) × Int × Unit
def B_s_safe_L0b (k : Nat) (c_s_newShapes : C_s_newShapes) (c_s_copyShapes : C_s_copyShapes) (c_s_stepShapes : C_s_stepShapes) (c_s_breach : C_s_breach) (again0 : T_s_safe_L0 → R_s_safe) (ops : List (Int × Int)) (r_Steps r_Nodes r_Deep : Int) (r_Classes s_Kinds : List Int) (s_Full : List Bool) (s_Stack s_Memo : List Int) (s_Done : Bool) (i : Int) : R_s_safe :=
  bif decide (i < (len ops)) then
    (c_s_copyShapes s_Kinds s_Full s_Stack s_Memo s_Done).bind fun r20 =>
    chk (inb i ops.length) <|
    (c_s_stepShapes r20.1.1.1 r20.1.1.2.1 r20.1.1.2.2.1 r20.1.1.2.2.2.1 r20.1.1.2.2.2.2.1 ((rdx ((0 : Int), (0 : Int)) ops i).1) ((rdx ((0 : Int), (0 : Int)) ops i).2)).bind fun r25 =>
    bif (!r25.1.2.1) then
      some ((i, 1, ()), ())
    else
      chk (inb i ops.length) <|
      (c_s_breach r_Steps r_Nodes r_Deep r_Classes ((rdx ((0 : Int), (0 : Int)) ops i).1) ((rdx ((0 : Int), (0 : Int)) ops i).2) r25.1.1.1 r25.1.1.2.1 r25.1.1.2.2.1 r25.1.1.2.2.2.1 r25.1.1.2.2.2.2.1 (w64 (i + 1))).bind fun r39 =>
      bif (r39.1.1 != 0) then
        some ((i, r39.1.1, ()), ())
      else
        again0 (ops, (r_Steps, r_Nodes, r_Deep, r_Classes, ()), (r25.1.1.1, r25.1.1.2.1, r25.1.1.2.2.1, r25.1.1.2.2.2.1, r25.1.1.2.2.2.2.1, ()), w64 (i + 1), ())
  else
    bif (!s_Done) then
      some ((len ops, 6, ()), ())
    else
      some ((len ops, 0, ()), ())
def B_s_safe_L0 (k : Nat) (c_s_newShapes : C_s_newShapes) (c_s_copyShapes : C_s_copyShapes) (c_s_stepShapes : C_s_stepShapes) (c_s_breach : C_s_breach) (n : Nat) (t : T_s_safe_L0) : R_s_safe :=
  lfix n (fun again t => B_s_safe_L0b k c_s_newShapes c_s_copyShapes c_s_stepShapes c_s_breach again t.1 t.2.1.1 t.2.1.2.1 t.2.1.2.2.1 t.2.1.2.2.2.1 t.2.2.1.1 t.2.2.1.2.1 t.2.2.1.2.2.1 t.2.2.1.2.2.2.1 t.2.2.1.2.2.2.2.1 t.2.2.2.1) t
def B_s_safe (k : Nat) (c_s_newShapes : C_s_newShapes) (c_s_copyShapes : C_s_copyShapes) (c_s_stepShapes : C_s_stepShapes) (c_s_breach : C_s_breach) (ops : List (Int × Int)) (r_0 r_1 r_2 : Int) (r_3 : List Int) : R_s_safe :=
  (c_s_newShapes).bind fun r11 =>
  B_s_safe_L0 k c_s_newShapes c_s_copyShapes c_s_stepShapes c_s_breach k (ops, (r_0, r_1, r_2, r_3, ()), (r11.1.1.1, r11.1.1.2.1, r11.1.1.2.2.1, r11.1.1.2.2.2.1, r11.1.1.2.2.2.2.1, ()), 0, ())
def F_s_safe : Nat → C_s_safe
  | 0, _, _, _, _, _ => none
  | k + 1, ops, r_0, r_1, r_2, r_3 => B_s_safe k (F_s_newShapes k) (F_s_copyShapes k) (F_s_stepShapes k) (F_s_breach k) ops r_0 r_1 r_2 r_3
theorem tot_s_safe {ops r_0 r_1 r_2 r_3 : _} {Q : _ → Prop} (h : Tot (fun σ => B_s_safe (σ 0) (F_s_newShapes (σ 0)) (F_s_copyShapes (σ 0)) (F_s_stepShapes (σ 0)) (F_s_breach (σ 0)) ops r_0 r_1 r_2 r_3) Q) : Tot (fun σ => F_s_safe (σ 0) ops r_0 r_1 r_2 r_3) Q :=
  Tot.call (F := fun k => F_s_safe k ops r_0 r_1 r_2 r_3) (B := fun k => B_s_safe k (F_s_newShapes k) (F_s_copyShapes k) (F_s_stepShapes k) (F_s_breach k) ops r_0 r_1 r_2 r_3) (fun k => rfl) h
abbrev A_s_safe_L0 (Z : Type) : Type := (List (Int × Int)) → Int → Int → Int → List Int → List Int → List Bool → List Int → List Int → Bool → Int → Z
abbrev u_s_safe_L0 {Z : Type} (f : A_s_safe_L0 Z) (t : T_s_safe_L0) : Z := f t.1 t.2.1.1 t.2.1.2.1 t.2.1.2.2.1 t.2.1.2.2.2.1 t.2.2.1.1 t.2.2.1.2.1 t.2.2.1.2.2.1 t.2.2.1.2.2.2.1 t.2.2.1.2.2.2.2.1 t.2.2.2.1
theorem loop_s_safe_L0 {Q : A_s_safe_L0 (((Int × Int × Unit) × (Unit)) → Prop)} (I : A_s_safe_L0 Prop) (μ : A_s_safe_L0 Nat)
    (step : ∀ a0 a1 a2 a3 a4 a5 a6 a7 a8 a9 a10, I a0 a1 a2 a3 a4 a5 a6 a7 a8 a9 a10 → ∀ again : (Nat → Nat) → T_s_safe_L0 → R_s_safe, Dep 2 again → (∀ y0 y1 y2 y3 y4 y5 y6 y7 y8 y9 y10, I y0 y1 y2 y3 y4 y5 y6 y7 y8 y9 y10 → μ y0 y1 y2 y3 y4 y5 y6 y7 y8 y9 y10 < μ a0 a1 a2 a3 a4 a5 a6 a7 a8 a9 a10 → Tot (fun σ => again σ (y0, (y1, y2, y3, y4, ()), (y5, y6, y7, y8, y9, ()), y10, ())) (Q y0 y1 y2 y3 y4 y5 y6 y7 y8 y9 y10)) →
      Tot (fun σ => B_s_safe_L0b (σ 0) (F_s_newShapes (σ 0)) (F_s_copyShapes (σ 0)) (F_s_stepShapes (σ 0)) (F_s_breach (σ 0)) (again σ) a0 a1 a2 a3 a4 a5 a6 a7 a8 a9 a10) (Q a0 a1 a2 a3 a4 a5 a6 a7 a8 a9 a10)) :
    ∀ a0 a1 a2 a3 a4 a5 a6 a7 a8 a9 a10, I a0 a1 a2 a3 a4 a5 a6 a7 a8 a9 a10 → Tot (fun σ => B_s_safe_L0 (σ 0) (F_s_newShapes (σ 0)) (F_s_copyShapes (σ 0)) (F_s_stepShapes (σ 0)) (F_s_breach (σ 0)) (σ 0) (a0, (a1, a2, a3, a4, ()), (a5, a6, a7, a8, a9, ()), a10, ())) (Q a0 a1 a2 a3 a4 a5 a6 a7 a8 a9 a10) := fun a0 a1 a2 a3 a4 a5 a6 a7 a8 a9 a10 => Tot.loop0 (L := fun k => B_s_safe_L0 k (F_s_newShapes k) (F_s_copyShapes k) (F_s_stepShapes k) (F_s_breach k)) (B := fun k g => u_s_safe_L0 (B_s_safe_L0b k (F_s_newShapes k) (F_s_copyShapes k) (F_s_stepShapes k) (F_s_breach k) g)) (Q := u_s_safe_L0 Q) (fun _ _ _ => rfl) (u_s_safe_L0 I) (u_s_safe_L0 μ)
    (fun t ht again hag h => step t.1 t.2.1.1 t.2.1.2.1 t.2.1.2.2.1 t.2.1.2.2.2.1 t.2.2.1.1 t.2.2.1.2.1 t.2.2.1.2.2.1 t.2.2.1.2.2.2.1 t.2.2.1.2.2.2.2.1 t.2.2.2.1 ht again hag fun y0 y1 y2 y3 y4 y5 y6 y7 y8 y9 y10 => h (y0, (y1, y2, y3, y4, ()), (y5, y6, y7, y8, y9, ()), y10, ())) (a0, (a1, a2, a3, a4, ()), (a5, a6, a7, a8, a9, ()), a10, ())
abbrev R_s_SafeRun : Type := Option ((Int × Int × Unit) × (Unit))
abbrev C_s_SafeRun : Type := (List (Int × Int)) → Int → Int → Int → List Int → R_s_SafeRun
def B_s_SafeRun_J0 (k : Nat) (c_s_validOps : C_s_validOps) (c_s_validRules : C_s_validRules) (c_s_safe : C_s_safe) (ops : List (Int × Int)) (r_Steps r_Nodes r_Deep : Int) (r_Classes : List Int) (t13 : Bool) : R_s_SafeRun :=
  bif t13 then
    some (((-1), (-1), ()), ())
  else
    (c_s_safe ops r_Steps r_Nodes r_Deep r_Classes).bind fun r16 =>
    some ((r16.1.1, r16.1.2.1, ()), ())
def B_s_SafeRun (k : Nat) (c_s_validOps : C_s_validOps) (c_s_validRules : C_s_validRules) (c_s_safe : C_s_safe) (ops : List (Int × Int)) (r_0 r_1 r_2 : Int) (r_3 : List Int) : R_s_SafeRun :=
  (c_s_validOps ops).bind fun r7 =>
  bif (!r7.1.1) then
    jn (fun t => B_s_SafeRun_J0 k c_s_validOps c_s_validRules c_s_safe t.1 t.2.1.1 t.2.1.2.1 t.2.1.2.2.1 t.2.1.2.2.2.1 t.2.2.1) (ops, (r_0, r_1, r_2, r_3, ()), true, ())
  else
    (c_s_validRules r_0 r_1 r_2 r_3).bind fun r11 =>
    jn (fun t => B_s_SafeRun_J0 k c_s_validOps c_s_validRules c_s_safe t.1 t.2.1.1 t.2.1.2.1 t.2.1.2.2.1 t.2.1.2.2.2.1 t.2.2.1) (ops, (r_0, r_1, r_2, r_3, ()), (!r11.1.1), ())
def F_s_SafeRun : Nat → C_s_SafeRun
  | 0, _, _, _, _, _ => none
  | k + 1, ops, r_0, r_1, r_2, r_3 => B_s_SafeRun k (F_s_validOps k) (F_s_validRules k) (F_s_safe k) ops r_0 r_1 r_2 r_3
theorem tot_s_SafeRun {ops r_0 r_1 r_2 r_3 : _} {Q : _ → Prop} (h : Tot (fun σ => B_s_SafeRun (σ 0) (F_s_validOps (σ 0)) (F_s_validRules (σ 0)) (F_s_safe (σ 0)) ops r_0 r_1 r_2 r_3) Q) : Tot (fun σ => F_s_SafeRun (σ 0) ops r_0 r_1 r_2 r_3) Q :=
  Tot.call (F := fun k => F_s_SafeRun k ops r_0 r_1 r_2 r_3) (B := fun k => B_s_SafeRun k (F_s_validOps k) (F_s_validRules k) (F_s_safe k) ops r_0 r_1 r_2 r_3) (fun k => rfl) h
abbrev R_i_copyNodes : Type := Option (((List (Int × Int × List Int)) × Unit) × (Unit))
abbrev C_i_copyNodes : Type := (List (Int × Int × List Int)) → R_i_copyNodes
abbrev T_i_copyNodes_L0 : Type := (List (Int × Int × List Int)) × (List (Int × Int × List Int)) × Int × Int × Unit
def B_i_copyNodes_L0b (k : Nat) (c_slices_Clone_int_int : C_slices_Clone_int_int) (again0 : T_i_copyNodes_L0 → R_i_copyNodes) (out t7 : List (Int × Int × List Int)) (t8 t9 : Int) : R_i_copyNodes :=
  bif decide (t9 < t8) then
    chk (inb t9 t7.length) <|
    (c_slices_Clone_int_int (((rdx ((0 : Int), ((0 : Int), ([] : List Int))) t7 t9).2).2)).bind fun r20 =>
    chk (room out.length ([((rdx ((0 : Int), ((0 : Int), ([] : List Int))) t7 t9).1, (((rdx ((0 : Int), ((0 : Int), ([] : List Int))) t7 t9).2).1, r20.1.1))]).length) <|
    again0 ((out ++ [((rdx ((0 : Int), ((0 : Int), ([] : List Int))) t7 t9).1, (((rdx ((0 : Int), ((0 : Int), ([] : List Int))) t7 t9).2).1, r20.1.1))]), t7, t8, w64 (t9 + 1), ())
  else
    some ((out, ()), ())
def B_i_copyNodes_L0 (k : Nat) (c_slices_Clone_int_int : C_slices_Clone_int_int) (n : Nat) (t : T_i_copyNodes_L0) : R_i_copyNodes :=
  lfix n (fun again t => B_i_copyNodes_L0b k c_slices_Clone_int_int again t.1 t.2.1 t.2.2.1 t.2.2.2.1) t
def B_i_copyNodes (k : Nat) (c_slices_Clone_int_int : C_slices_Clone_int_int) (nodes : List (Int × Int × List Int)) : R_i_copyNodes :=
  B_i_copyNodes_L0 k c_slices_Clone_int_int k ([], nodes, len nodes, 0, ())
def F_i_copyNodes : Nat → C_i_copyNodes
  | 0, _ => none
  | k + 1, nodes => B_i_copyNodes k (F_slices_Clone_int_int k) nodes
theorem tot_i_copyNodes {nodes : _} {Q : _ → Prop} (h : Tot (fun σ => B_i_copyNodes (σ 0) (F_slices_Clone_int_int (σ 0)) nodes) Q) : Tot (fun σ => F_i_copyNodes (σ 0) nodes) Q :=
  Tot.call (F := fun k => F_i_copyNodes k nodes) (B := fun k => B_i_copyNodes k (F_slices_Clone_int_int k) nodes) (fun k => rfl) h
abbrev A_i_copyNodes_L0 (Z : Type) : Type := (List (Int × Int × List Int)) → (List (Int × Int × List Int)) → Int → Int → Z
abbrev u_i_copyNodes_L0 {Z : Type} (f : A_i_copyNodes_L0 Z) (t : T_i_copyNodes_L0) : Z := f t.1 t.2.1 t.2.2.1 t.2.2.2.1
theorem loop_i_copyNodes_L0 {Q : A_i_copyNodes_L0 ((((List (Int × Int × List Int)) × Unit) × (Unit)) → Prop)} (I : A_i_copyNodes_L0 Prop) (μ : A_i_copyNodes_L0 Nat)
    (step : ∀ a0 a1 a2 a3, I a0 a1 a2 a3 → ∀ again : (Nat → Nat) → T_i_copyNodes_L0 → R_i_copyNodes, Dep 2 again → (∀ y0 y1 y2 y3, I y0 y1 y2 y3 → μ y0 y1 y2 y3 < μ a0 a1 a2 a3 → Tot (fun σ => again σ (y0, y1, y2, y3, ())) (Q y0 y1 y2 y3)) →
      Tot (fun σ => B_i_copyNodes_L0b (σ 0) (F_slices_Clone_int_int (σ 0)) (again σ) a0 a1 a2 a3) (Q a0 a1 a2 a3)) :
    ∀ a0 a1 a2 a3, I a0 a1 a2 a3 → Tot (fun σ => B_i_copyNodes_L0 (σ 0) (F_slices_Clone_int_int (σ 0)) (σ 0) (a0, a1, a2, a3, ())) (Q a0 a1 a2 a3) := fun a0 a1 a2 a3 => Tot.loop0 (L := fun k => B_i_copyNodes_L0 k (F_slices_Clone_int_int k)) (B := fun k g => u_i_copyNodes_L0 (B_i_copyNodes_L0b k (F_slices_Clone_int_int k) g)) (Q := u_i_copyNodes_L0 Q) (fun _ _ _ => rfl) (u_i_copyNodes_L0 I) (u_i_copyNodes_L0 μ)
    (fun t ht again hag h => step t.1 t.2.1 t.2.2.1 t.2.2.2.1 ht again hag fun y0 y1 y2 y3 => h (y0, y1, y2, y3, ())) (a0, a1, a2, a3, ())
abbrev R_i_copyMachine : Type := Option ((((List (Int × Int × List Int)) × List Int × List Int × Bool × Unit) × Unit) × (Unit))
abbrev C_i_copyMachine : Type := (List (Int × Int × List Int)) → List Int → List Int → Bool → R_i_copyMachine
def B_i_copyMachine (k : Nat) (c_i_copyNodes : C_i_copyNodes) (c_slices_Clone_int_int : C_slices_Clone_int_int) (m_0 : List (Int × Int × List Int)) (m_1 m_2 : List Int) (m_3 : Bool) : R_i_copyMachine :=
  (c_i_copyNodes m_0).bind fun r5 =>
  (c_slices_Clone_int_int m_1).bind fun r8 =>
  (c_slices_Clone_int_int m_2).bind fun r11 =>
  some (((r5.1.1, r8.1.1, r11.1.1, m_3, ()), ()), ())
def F_i_copyMachine : Nat → C_i_copyMachine
  | 0, _, _, _, _ => none
  | k + 1, m_0, m_1, m_2, m_3 => B_i_copyMachine k (F_i_copyNodes k) (F_slices_Clone_int_int k) m_0 m_1 m_2 m_3
theorem tot_i_copyMachine {m_0 m_1 m_2 m_3 : _} {Q : _ → Prop} (h : Tot (fun σ => B_i_copyMachine (σ 0) (F_i_copyNodes (σ 0)) (F_slices_Clone_int_int (σ 0)) m_0 m_1 m_2 m_3) Q) : Tot (fun σ => F_i_copyMachine (σ 0) m_0 m_1 m_2 m_3) Q :=
  Tot.call (F := fun k => F_i_copyMachine k m_0 m_1 m_2 m_3) (B := fun k => B_i_copyMachine k (F_i_copyNodes k) (F_slices_Clone_int_int k) m_0 m_1 m_2 m_3) (fun k => rfl) h
abbrev R_i_RunOps_1 : Type := Option ((Unit) × (Unit))
abbrev C_i_RunOps_1 : Type := (List (Int × Int × List Int)) → List Int → List Int → Bool → R_i_RunOps_1
def B_i_RunOps_1 (k : Nat) (t0_0 : List (Int × Int × List Int)) (t0_1 t0_2 : List Int) (t0_3 : Bool) : R_i_RunOps_1 :=
  some ((), ())
def F_i_RunOps_1 : Nat → C_i_RunOps_1
  | 0, _, _, _, _ => none
  | k + 1, t0_0, t0_1, t0_2, t0_3 => B_i_RunOps_1 k t0_0 t0_1 t0_2 t0_3
theorem tot_i_RunOps_1 {t0_0 t0_1 t0_2 t0_3 : _} {Q : _ → Prop} (h : Tot (fun σ => B_i_RunOps_1 (σ 0) t0_0 t0_1 t0_2 t0_3) Q) : Tot (fun σ => F_i_RunOps_1 (σ 0) t0_0 t0_1 t0_2 t0_3) Q :=
  Tot.call (F := fun k => F_i_RunOps_1 k t0_0 t0_1 t0_2 t0_3) (B := fun k => B_i_RunOps_1 k t0_0 t0_1 t0_2 t0_3) (fun k => rfl) h
abbrev R_i_running__i_RunOps_1 : Type := Option ((((List (Int × Int × List Int)) × List Int × List Int × Bool × Unit) × Int × Unit) × (Unit))
abbrev C_i_running__i_RunOps_1 : Type := (List (Int × Int)) → R_i_running__i_RunOps_1
abbrev T_i_running__i_RunOps_1_L0 : Type := (List (Int × Int)) × Unit × (Unit × Unit × Unit × Bool × Unit) × ((List (Int × Int × List Int)) × List Int × List Int × Bool × Unit) × (List (Int × Int)) × Int × Int × Unit
def B_i_running__i_RunOps_1_L0b (k : Nat) (c_i_NewMachine : C_i_NewMachine) (c_i_Machine_step : C_i_Machine_step) (c_i_copyMachine : C_i_copyMachine) (c_i_RunOps_1 : C_i_RunOps_1) (again0 : T_i_running__i_RunOps_1_L0 → R_i_running__i_RunOps_1) (ops : List (Int × Int)) (t4_Done : Bool) (m_Nodes : List (Int × Int × List Int)) (m_Stack m_Memo : List Int) (m_Done : Bool) (t10 : List (Int × Int)) (t11 t12 : Int) : R_i_running__i_RunOps_1 :=
  bif decide (t12 < t11) then
    chk (inb t12 t10.length) <|
    (c_i_Machine_step m_Nodes m_Stack m_Memo m_Done ((rdx ((0 : Int), (0 : Int)) t10 t12).1) ((rdx ((0 : Int), (0 : Int)) t10 t12).2)).bind fun r18 =>
    bif (!r18.1.1) then
      (r18.2.1.1).bind fun p25 =>
      (c_i_copyMachine p25 r18.2.1.2.1 r18.2.1.2.2.1 r18.2.1.2.2.2.1).bind fun r21 =>
      some (((r21.1.1.1, r21.1.1.2.1, r21.1.1.2.2.1, r21.1.1.2.2.2.1, ()), t12, ()), ())
    else
      (r18.2.1.1).bind fun p26 =>
      (c_i_RunOps_1 p26 r18.2.1.2.1 r18.2.1.2.2.1 r18.2.1.2.2.2.1).bind fun r25 =>
      (r18.2.1.1).bind fun p27 =>
      again0 (ops, (), ((), (), (), t4_Done, ()), (p27, r18.2.1.2.1, r18.2.1.2.2.1, r18.2.1.2.2.2.1, ()), t10, t11, w64 (t12 + 1), ())
  else
    (c_i_copyMachine m_Nodes m_Stack m_Memo m_Done).bind fun r28 =>
    some (((r28.1.1.1, r28.1.1.2.1, r28.1.1.2.2.1, r28.1.1.2.2.2.1, ()), len ops, ()), ())
def B_i_running__i_RunOps_1_L0 (k : Nat) (c_i_NewMachine : C_i_NewMachine) (c_i_Machine_step : C_i_Machine_step) (c_i_copyMachine : C_i_copyMachine) (c_i_RunOps_1 : C_i_RunOps_1) (n : Nat) (t : T_i_running__i_RunOps_1_L0) : R_i_running__i_RunOps_1 :=
  lfix n (fun again t => B_i_running__i_RunOps_1_L0b k c_i_NewMachine c_i_Machine_step c_i_copyMachine c_i_RunOps_1 again t.1 t.2.2.1.2.2.2.1 t.2.2.2.1.1 t.2.2.2.1.2.1 t.2.2.2.1.2.2.1 t.2.2.2.1.2.2.2.1 t.2.2.2.2.1 t.2.2.2.2.2.1 t.2.2.2.2.2.2.1) t
def B_i_running__i_RunOps_1 (k : Nat) (c_i_NewMachine : C_i_NewMachine) (c_i_Machine_step : C_i_Machine_step) (c_i_copyMachine : C_i_copyMachine) (c_i_RunOps_1 : C_i_RunOps_1) (ops : List (Int × Int)) : R_i_running__i_RunOps_1 :=
  (c_i_NewMachine 0).bind fun r9 =>
  B_i_running__i_RunOps_1_L0 k c_i_NewMachine c_i_Machine_step c_i_copyMachine c_i_RunOps_1 k (ops, (), ((), (), (), false, ()), (r9.1.1.1, [], r9.1.1.2.2.1, r9.1.1.2.2.2.1, ()), ops, len ops, 0, ())
def F_i_running__i_RunOps_1 : Nat → C_i_running__i_RunOps_1
  | 0, _ => none
  | k + 1, ops => B_i_running__i_RunOps_1 k (F_i_NewMachine k) (F_i_Machine_step k) (F_i_copyMachine k) (F_i_RunOps_1 k) ops
theorem tot_i_running__i_RunOps_1 {ops : _} {Q : _ → Prop} (h : Tot (fun σ => B_i_running__i_RunOps_1 (σ 0) (F_i_NewMachine (σ 0)) (F_i_Machine_step (σ 0)) (F_i_copyMachine (σ 0)) (F_i_RunOps_1 (σ 0)) ops) Q) : Tot (fun σ => F_i_running__i_RunOps_1 (σ 0) ops) Q :=
  Tot.call (F := fun k => F_i_running__i_RunOps_1 k ops) (B := fun k => B_i_running__i_RunOps_1 k (F_i_NewMachine k) (F_i_Machine_step k) (F_i_copyMachine k) (F_i_RunOps_1 k) ops) (fun k => rfl) h
abbrev A_i_running__i_RunOps_1_L0 (Z : Type) : Type := (List (Int × Int)) → Bool → (List (Int × Int × List Int)) → List Int → List Int → Bool → (List (Int × Int)) → Int → Int → Z
abbrev u_i_running__i_RunOps_1_L0 {Z : Type} (f : A_i_running__i_RunOps_1_L0 Z) (t : T_i_running__i_RunOps_1_L0) : Z := f t.1 t.2.2.1.2.2.2.1 t.2.2.2.1.1 t.2.2.2.1.2.1 t.2.2.2.1.2.2.1 t.2.2.2.1.2.2.2.1 t.2.2.2.2.1 t.2.2.2.2.2.1 t.2.2.2.2.2.2.1
theorem loop_i_running__i_RunOps_1_L0 {Q : A_i_running__i_RunOps_1_L0 (((((List (Int × Int × List Int)) × List Int × List Int × Bool × Unit) × Int × Unit) × (Unit)) → Prop)} (I : A_i_running__i_RunOps_1_L0 Prop) (μ : A_i_running__i_RunOps_1_L0 Nat)
    (step : ∀ a0 a1 a2 a3 a4 a5 a6 a7 a8, I a0 a1 a2 a3 a4 a5 a6 a7 a8 → ∀ again : (Nat → Nat) → T_i_running__i_RunOps_1_L0 → R_i_running__i_RunOps_1, Dep 2 again → (∀ y0 y1 y2 y3 y4 y5 y6 y7 y8, I y0 y1 y2 y3 y4 y5 y6 y7 y8 → μ y0 y1 y2 y3 y4 y5 y6 y7 y8 < μ a0 a1 a2 a3 a4 a5 a6 a7 a8 → Tot (fun σ => again σ (y0, (), ((), (), (), y1, ()), (y2, y3, y4, y5, ()), y6, y7, y8, ())) (Q y0 y1 y2 y3 y4 y5 y6 y7 y8)) →
      Tot (fun σ => B_i_running__i_RunOps_1_L0b (σ 0) (F_i_NewMachine (σ 0)) (F_i_Machine_step (σ 0)) (F_i_copyMachine (σ 0)) (F_i_RunOps_1 (σ 0)) (again σ) a0 a1 a2 a3 a4 a5 a6 a7 a8) (Q a0 a1 a2 a3 a4 a5 a6 a7 a8)) :
    ∀ a0 a1 a2 a3 a4 a5 a6 a7 a8, I a0 a1 a2 a3 a4 a5 a6 a7 a8 → Tot (fun σ => B_i_running__i_RunOps_1_L0 (σ 0) (F_i_NewMachine (σ 0)) (F_i_Machine_step (σ 0)) (F_i_copyMachine (σ 0)) (F_i_RunOps_1 (σ 0)) (σ 0) (a0, (), ((), (), (), a1, ()), (a2, a3, a4, a5, ()), a6, a7, a8, ())) (Q a0 a1 a2 a3 a4 a5 a6 a7 a8) := fun a0 a1 a2 a3 a4 a5 a6 a7 a8 => Tot.loop0 (L := fun k => B_i_running__i_RunOps_1_L0 k (F_i_NewMachine k) (F_i_Machine_step k) (F_i_copyMachine k) (F_i_RunOps_1 k)) (B := fun k g => u_i_running__i_RunOps_1_L0 (B_i_running__i_RunOps_1_L0b k (F_i_NewMachine k) (F_i_Machine_step k) (F_i_copyMachine k) (F_i_RunOps_1 k) g)) (Q := u_i_running__i_RunOps_1_L0 Q) (fun _ _ _ => rfl) (u_i_running__i_RunOps_1_L0 I) (u_i_running__i_RunOps_1_L0 μ)
    (fun t ht again hag h => step t.1 t.2.2.1.2.2.2.1 t.2.2.2.1.1 t.2.2.2.1.2.1 t.2.2.2.1.2.2.1 t.2.2.2.1.2.2.2.1 t.2.2.2.2.1 t.2.2.2.2.2.1 t.2.2.2.2.2.2.1 ht again hag fun y0 y1 y2 y3 y4 y5 y6 y7 y8 => h (y0, (), ((), (), (), y1, ()), (y2, y3, y4, y5, ()), y6, y7, y8, ())) (a0, (), ((), (), (), a1, ()), (a2, a3, a4, a5, ()), a6, a7, a8, ())
abbrev R_i_RunOps : Type := Option ((((List (Int × Int × List Int)) × List Int × List Int × Bool × Unit) × Int × Unit) × (Unit))
abbrev C_i_RunOps : Type := (List (Int × Int)) → R_i_RunOps
def B_i_RunOps (k : Nat) (c_i_ValidOps : C_i_ValidOps) (c_i_running__i_RunOps_1 : C_i_running__i_RunOps_1) (ops : List (Int × Int)) : R_i_RunOps :=
  (c_i_ValidOps ops).bind fun r7 =>
  bif (!r7.1.1) then
    some ((([], [], [], false, ()), (-1), ()), ())
  else
    (c_i_running__i_RunOps_1 ops).bind fun r12 =>
    some (((r12.1.1.1, r12.1.1.2.1, r12.1.1.2.2.1, r12.1.1.2.2.2.1, ()), r12.1.2.1, ()), ())
def F_i_RunOps : Nat → C_i_RunOps
  | 0, _ => none
  | k + 1, ops => B_i_RunOps k (F_i_ValidOps k) (F_i_running__i_RunOps_1 k) ops
theorem tot_i_RunOps {ops : _} {Q : _ → Prop} (h : Tot (fun σ => B_i_RunOps (σ 0) (F_i_ValidOps (σ 0)) (F_i_running__i_RunOps_1 (σ 0)) ops) Q) : Tot (fun σ => F_i_RunOps (σ 0) ops) Q :=
  Tot.call (F := fun k => F_i_RunOps k ops) (B := fun k => B_i_RunOps k (F_i_ValidOps k) (F_i_running__i_RunOps_1 k) ops) (fun k => rfl) h
abbrev R_i_BuildGraph_1 : Type := Option ((Unit) × (Unit))
abbrev C_i_BuildGraph_1 : Type := (List (Int × Int × List Int)) → List Int → List Int → Bool → R_i_BuildGraph_1
def B_i_BuildGraph_1 (k : Nat) (t0_0 : List (Int × Int × List Int)) (t0_1 t0_2 : List Int) (t0_3 : Bool) : R_i_BuildGraph_1 :=
  some ((), ())
def F_i_BuildGraph_1 : Nat → C_i_BuildGraph_1
  | 0, _, _, _, _ => none
  | k + 1, t0_0, t0_1, t0_2, t0_3 => B_i_BuildGraph_1 k t0_0 t0_1 t0_2 t0_3
theorem tot_i_BuildGraph_1 {t0_0 t0_1 t0_2 t0_3 : _} {Q : _ → Prop} (h : Tot (fun σ => B_i_BuildGraph_1 (σ 0) t0_0 t0_1 t0_2 t0_3) Q) : Tot (fun σ => F_i_BuildGraph_1 (σ 0) t0_0 t0_1 t0_2 t0_3) Q :=
  Tot.call (F := fun k => F_i_BuildGraph_1 k t0_0 t0_1 t0_2 t0_3) (B := fun k => B_i_BuildGraph_1 k t0_0 t0_1 t0_2 t0_3) (fun k => rfl) h
abbrev R_i_running__i_BuildGraph_1 : Type := Option ((((List (Int × Int × List Int)) × List Int × List Int × Bool × Unit) × Int × Unit) × (Unit))
abbrev C_i_running__i_BuildGraph_1 : Type := (List (Int × Int)) → R_i_running__i_BuildGraph_1
abbrev T_i_running__i_BuildGraph_1_L0 : Type := (List (Int × Int)) × Unit × (Unit × Unit × Unit × Bool × Unit) × ((List (Int × Int × List Int)) × List Int × List Int × Bool × Unit) × (List (Int × Int)) × Int × Int × Unit
def B_i_running__i_BuildGraph_1_L0b (k : Nat) (c_i_NewMachine : C_i_NewMachine) (c_i_Machine_step : C_i_Machine_step) (c_i_copyMachine : C_i_copyMachine) (c_i_BuildGraph_1 : C_i_BuildGraph_1) (again0 : T_i_running__i_BuildGraph_1_L0 → R_i_running__i_BuildGraph_1) (ops : List (Int × Int)) (t4_Done : Bool) (m_Nodes : List (Int × Int × List Int)) (m_Stack m_Memo : List Int) (m_Done : Bool) (t10 : List (Int × Int)) (t11 t12 : Int) : R_i_running__i_BuildGraph_1 :=
  bif decide (t12 < t11) then
    chk (inb t12 t10.length) <|
    (c_i_Machine_step m_Nodes m_Stack m_Memo m_Done ((rdx ((0 : Int), (0 : Int)) t10 t12).1) ((rdx ((0 : Int), (0 : Int)) t10 t12).2)).bind fun r18 =>
    bif (!r18.1.1) then
      (r18.2.1.1).bind fun p25 =>
      (c_i_copyMachine p25 r18.2.1.2.1 r18.2.1.2.2.1 r18.2.1.2.2.2.1).bind fun r21 =>
      some (((r21.1.1.1, r21.1.1.2.1, r21.1.1.2.2.1, r21.1.1.2.2.2.1, ()), t12, ()), ())
    else
      (r18.2.1.1).bind fun p26 =>
      (c_i_BuildGraph_1 p26 r18.2.1.2.1 r18.2.1.2.2.1 r18.2.1.2.2.2.1).bind fun r25 =>
      (r18.2.1.1).bind fun p27 =>
      again0 (ops, (), ((), (), (), t4_Done, ()), (p27, r18.2.1.2.1, r18.2.1.2.2.1, r18.2.1.2.2.2.1, ()), t10, t11, w64 (t12 + 1), ())
  else
    (c_i_copyMachine m_Nodes m_Stack m_Memo m_Done).bind fun r28 =>
    some (((r28.1.1.1, r28.1.1.2.1, r28.1.1.2.2.1, r28.1.1.2.2.2.1, ()), len ops, ()), ())
def B_i_running__i_BuildGraph_1_L0 (k : Nat) (c_i_NewMachine : C_i_NewMachine) (c_i_Machine_step : C_i_Machine_step) (c_i_copyMachine : C_i_copyMachine) (c_i_BuildGraph_1 : C_i_BuildGraph_1) (n : Nat) (t : T_i_running__i_BuildGraph_1_L0) : R_i_running__i_BuildGraph_1 :=
  lfix n (fun again t => B_i_running__i_BuildGraph_1_L0b k c_i_NewMachine c_i_Machine_step c_i_copyMachine c_i_BuildGraph_1 again t.1 t.2.2.1.2.2.2.1 t.2.2.2.1.1 t.2.2.2.1.2.1 t.2.2.2.1.2.2.1 t.2.2.2.1.2.2.2.1 t.2.2.2.2.1 t.2.2.2.2.2.1 t.2.2.2.2.2.2.1) t
def B_i_running__i_BuildGraph_1 (k : Nat) (c_i_NewMachine : C_i_NewMachine) (c_i_Machine_step : C_i_Machine_step) (c_i_copyMachine : C_i_copyMachine) (c_i_BuildGraph_1 : C_i_BuildGraph_1) (ops : List (Int × Int)) : R_i_running__i_BuildGraph_1 :=
  (c_i_NewMachine 0).bind fun r9 =>
  B_i_running__i_BuildGraph_1_L0 k c_i_NewMachine c_i_Machine_step c_i_copyMachine c_i_BuildGraph_1 k (ops, (), ((), (), (), false, ()), (r9.1.1.1, [], r9.1.1.2.2.1, r9.1.1.2.2.2.1, ()), ops, len ops, 0, ())
def F_i_running__i_BuildGraph_1 : Nat → C_i_running__i_BuildGraph_1
  | 0, _ => none
  | k + 1, ops => B_i_running__i_BuildGraph_1 k (F_i_NewMachine k) (F_i_Machine_step k) (F_i_copyMachine k) (F_i_BuildGraph_1 k) ops
theorem tot_i_running__i_BuildGraph_1 {ops : _} {Q : _ → Prop} (h : Tot (fun σ => B_i_running__i_BuildGraph_1 (σ 0) (F_i_NewMachine (σ 0)) (F_i_Machine_step (σ 0)) (F_i_copyMachine (σ 0)) (F_i_BuildGraph_1 (σ 0)) ops) Q) : Tot (fun σ => F_i_running__i_BuildGraph_1 (σ 0) ops) Q :=
  Tot.call (F := fun k => F_i_running__i_BuildGraph_1 k ops) (B := fun k => B_i_running__i_BuildGraph_1 k (F_i_NewMachine k) (F_i_Machine_step k) (F_i_copyMachine k) (F_i_BuildGraph_1 k) ops) (fun k => rfl) h
abbrev A_i_running__i_BuildGraph_1_L0 (Z : Type) : Type := (List (Int × Int)) → Bool → (List (Int × Int × List Int)) → List Int → List Int → Bool → (List (Int × Int)) → Int → Int → Z
abbrev u_i_running__i_BuildGraph_1_L0 {Z : Type} (f : A_i_running__i_BuildGraph_1_L0 Z) (t : T_i_running__i_BuildGraph_1_L0) : Z := f t.1 t.2.2.1.2.2.2.1 t.2.2.2.1.1 t.2.2.2.1.2.1 t.2.2.2.1.2.2.1 t.2.2.2.1.2.2.2.1 t.2.2.2.2.1 t.2.2.2.2.2.1 t.2.2.2.2.2.2.1
theorem loop_i_running__i_BuildGraph_1_L0 {Q : A_i_running__i_BuildGraph_1_L0 (((((List (Int × Int × List Int)) × List Int × List Int × Bool × Unit) × Int × Unit) × (Unit)) → Prop)} (I : A_i_running__i_BuildGraph_1_L0 Prop) (μ : A_i_running__i_BuildGraph_1_L0 Nat)
    (step : ∀ a0 a1 a2 a3 a4 a5 a6 a7 a8, I a0 a1 a2 a3 a4 a5 a6 a7 a8 → ∀ again : (Nat → Nat) → T_i_running__i_BuildGraph_1_L0 → R_i_running__i_BuildGraph_1, Dep 2 again → (∀ y0 y1 y2 y3 y4 y5 y6 y7 y8, I y0 y1 y2 y3 y4 y5 y6 y7 y8 → μ y0 y1 y2 y3 y4 y5 y6 y7 y8 < μ a0 a1 a2 a3 a4 a5 a6 a7 a8 → Tot (fun σ => again σ (y0, (), ((), (), (), y1, ()), (y2, y3, y4, y5, ()), y6, y7, y8, ())) (Q y0 y1 y2 y3 y4 y5 y6 y7 y8)) →
      Tot (fun σ => B_i_running__i_BuildGraph_1_L0b (σ 0) (F_i_NewMachine (σ 0)) (F_i_Machine_step (σ 0)) (F_i_copyMachine (σ 0)) (F_i_BuildGraph_1 (σ 0)) (again σ) a0 a1 a2 a3 a4 a5 a6 a7 a8) (Q a0 a1 a2 a3 a4 a5 a6 a7 a8)) :
    ∀ a0 a1 a2 a3 a4 a5 a6 a7 a8, I a0 a1 a2 a3 a4 a5 a6 a7 a8 → Tot (fun σ => B_i_running__i_BuildGraph_1_L0 (σ 0) (F_i_NewMachine (σ 0)) (F_i_Machine_step (σ 0)) (F_i_copyMachine (σ 0)) (F_i_BuildGraph_1 (σ 0)) (σ 0) (a0, (), ((), (), (), a1, ()), (a2, a3, a4, a5, ()), a6, a7, a8, ())) (Q a0 a1 a2 a3 a4 a5 a6 a7 a8) := fun a0 a1 a2 a3 a4 a5 a6 a7 a8 => Tot.loop0 (L := fun k => B_i_running__i_BuildGraph_1_L0 k (F_i_NewMachine k) (F_i_Machine_step k) (F_i_copyMachine k) (F_i_BuildGraph_1 k)) (B := fun k g => u_i_running__i_BuildGraph_1_L0 (B_i_running__i_BuildGraph_1_L0b k (F_i_NewMachine k) (F_i_Machine_step k) (F_i_copyMachine k) (F_i_BuildGraph_1 k) g)) (Q := u_i_running__i_BuildGraph_1_L0 Q) (fun _ _ _ => rfl) (u_i_running__i_BuildGraph_1_L0 I) (u_i_running__i_BuildGraph_1_L0 μ)
    (fun t ht again hag h => step t.1 t.2.2.1.2.2.2.1 t.2.2.2.1.1 t.2.2.2.1.2.1 t.2.2.2.1.2.2.1 t.2.2.2.1.2.2.2.1 t.2.2.2.2.1 t.2.2.2.2.2.1 t.2.2.2.2.2.2.1 ht again hag fun y0 y1 y2 y3 y4 y5 y6 y7 y8 => h (y0, (), ((), (), (), y1, ()), (y2, y3, y4, y5, ()), y6, y7, y8, ())) (a0, (), ((), (), (), a1, ()), (a2, a3, a4, a5, ()), a6, a7, a8, ())
abbrev R_i_BuildGraph : Type := Option ((((List (Int × Int × List Int)) × Int × Unit) × Bool × Unit) × (Unit))
abbrev C_i_BuildGraph : Type := (List (Int × Int)) → R_i_BuildGraph
def B_i_BuildGraph_J0 (k : Nat) (c_i_ValidOps : C_i_ValidOps) (c_i_running__i_BuildGraph_1 : C_i_running__i_BuildGraph_1) (t2_Root : Int) (m_Nodes : List (Int × Int × List Int)) (m_Stack m_Memo : List Int) (m_Done t23 : Bool) : R_i_BuildGraph :=
  bif t23 then
    some ((([], 0, ()), false, ()), ())
  else
    chk (inb 0 m_Stack.length) <|
    chk (decide ((0 : Int).toNat < m_Stack.length)) <|
    some (((m_Nodes, (m_Stack.getD ((0 : Int).toNat) (0 : Int)), ()), true, ()), ())
def B_i_BuildGraph (k : Nat) (c_i_ValidOps : C_i_ValidOps) (c_i_running__i_BuildGraph_1 : C_i_running__i_BuildGraph_1) (ops : List (Int × Int)) : R_i_BuildGraph :=
  (c_i_ValidOps ops).bind fun r7 =>
  bif (!r7.1.1) then
    some ((([], 0, ()), false, ()), ())
  else
    (c_i_running__i_BuildGraph_1 ops).bind fun r12 =>
    bif decide (r12.1.2.1 < (len ops)) then
      jn (fun t => B_i_BuildGraph_J0 k c_i_ValidOps c_i_running__i_BuildGraph_1 t.1.2.1 t.2.1.1 t.2.1.2.1 t.2.1.2.2.1 t.2.1.2.2.2.1 t.2.2.1) (((), 0, ()), (r12.1.1.1, r12.1.1.2.1, r12.1.1.2.2.1, r12.1.1.2.2.2.1, ()), true, ())
    else
      jn (fun t => B_i_BuildGraph_J0 k c_i_ValidOps c_i_running__i_BuildGraph_1 t.1.2.1 t.2.1.1 t.2.1.2.1 t.2.1.2.2.1 t.2.1.2.2.2.1 t.2.2.1) (((), 0, ()), (r12.1.1.1, r12.1.1.2.1, r12.1.1.2.2.1, r12.1.1.2.2.2.1, ()), (!r12.1.1.2.2.2.1), ())
def F_i_BuildGraph : Nat → C_i_BuildGraph
  | 0, _ => none
  | k + 1, ops => B_i_BuildGraph k (F_i_ValidOps k) (F_i_running__i_BuildGraph_1 k) ops
theorem tot_i_BuildGraph {ops : _} {Q : _ → Prop} (h : Tot (fun σ => B_i_BuildGraph (σ 0) (F_i_ValidOps (σ 0)) (F_i_running__i_BuildGraph_1 (σ 0)) ops) Q) : Tot (fun σ => F_i_BuildGraph (σ 0) ops) Q :=
  Tot.call (F := fun k => F_i_BuildGraph k ops) (B := fun k => B_i_BuildGraph k (F_i_ValidOps k) (F_i_running__i_BuildGraph_1 k) ops) (fun k => rfl) h
abbrev R_i_IsWhole : Type := Option ((Bool × Unit) × (Unit))
abbrev C_i_IsWhole : Type := (List (Int × Int)) → R_i_IsWhole
def B_i_IsWhole (k : Nat) (c_i_BuildGraph : C_i_BuildGraph) (ops : List (Int × Int)) : R_i_IsWhole :=
  (c_i_BuildGraph ops).bind fun r7 =>
  some ((r7.1.2.1, ()), ())
def F_i_IsWhole : Nat → C_i_IsWhole
  | 0, _ => none
  | k + 1, ops => B_i_IsWhole k (F_i_BuildGraph k) ops
theorem tot_i_IsWhole {ops : _} {Q : _ → Prop} (h : Tot (fun σ => B_i_IsWhole (σ 0) (F_i_BuildGraph (σ 0)) ops) Q) : Tot (fun σ => F_i_IsWhole (σ 0) ops) Q :=
  Tot.call (F := fun k => F_i_IsWhole k ops) (B := fun k => B_i_IsWhole k (F_i_BuildGraph k) ops) (fun k => rfl) h
abbrev R_l_FnSafeRun : Type := Option ((Bool × Unit) × (Unit))
abbrev C_l_FnSafeRun : Type := List Int → R_l_FnSafeRun
def B_l_FnSafeRun_J0 (k : Nat) (c_s_DrawSafeRun : C_s_DrawSafeRun) (c_i_SafeRun : C_i_SafeRun) (c_s_SafeRun : C_s_SafeRun) (c_i_RunOps : C_i_RunOps) (c_i_IsWhole : C_i_IsWhole) (ops : List (Int × Int)) (n5 why x y : Int) (t45 : Bool) : R_l_FnSafeRun :=
  bif t45 then
    bif (n5 == x) then
      some (((why == y), ()), ())
    else
      some ((false, ()), ())
  else
    (c_i_RunOps ops).bind fun r58 =>
    (c_i_SafeRun ops 300 300 300 ([0, 1, 2, 3, 4, 5, 6, 7, 8, 9])).bind fun r64 =>
    bif decide (n5 ≤ r58.1.2.1) then
      bif (r64.1.1 == r58.1.2.1) then
        bif ((r64.1.2.1 == 1) == (decide (r58.1.2.1 < (len ops)))) then
          (c_i_IsWhole ops).bind fun r88 =>
          some ((((r64.1.2.1 == 0) == r88.1.1), ()), ())
        else
          some ((false, ()), ())
      else
        some ((false, ()), ())
    else
      some ((false, ()), ())
def B_l_FnSafeRun (k : Nat) (c_s_DrawSafeRun : C_s_DrawSafeRun) (c_i_SafeRun : C_i_SafeRun) (c_s_SafeRun : C_s_SafeRun) (c_i_RunOps : C_i_RunOps) (c_i_IsWhole : C_i_IsWhole) (code : List Int) : R_l_FnSafeRun :=
  bif decide ((len code) > 1048576) then
    some ((true, ()), ())
  else
    (c_s_DrawSafeRun code).bind fun r19 =>
    (c_i_SafeRun r19.1.1 r19.1.2.1.1 r19.1.2.1.2.1 r19.1.2.1.2.2.1 r19.1.2.1.2.2.2.1).bind fun r25 =>
    (c_s_SafeRun r19.1.1 r19.1.2.1.1 r19.1.2.1.2.1 r19.1.2.1.2.2.1 r19.1.2.1.2.2.2.1).bind fun r31 =>
    bif (r25.1.1 != r31.1.1) then
      jn (fun t => B_l_FnSafeRun_J0 k c_s_DrawSafeRun c_i_SafeRun c_s_SafeRun c_i_RunOps c_i_IsWhole t.1 t.2.1 t.2.2.1 t.2.2.2.1 t.2.2.2.2.1 t.2.2.2.2.2.1) (r19.1.1, r25.1.1, r25.1.2.1, r31.1.1, r31.1.2.1, true, ())
    else
      bif (r25.1.2.1 != r31.1.2.1) then
        jn (fun t => B_l_FnSafeRun_J0 k c_s_DrawSafeRun c_i_SafeRun c_s_SafeRun c_i_RunOps c_i_IsWhole t.1 t.2.1 t.2.2.1 t.2.2.2.1 t.2.2.2.2.1 t.2.2.2.2.2.1) (r19.1.1, r25.1.1, r25.1.2.1, r31.1.1, r31.1.2.1, true, ())
      else
        jn (fun t => B_l_FnSafeRun_J0 k c_s_DrawSafeRun c_i_SafeRun c_s_SafeRun c_i_RunOps c_i_IsWhole t.1 t.2.1 t.2.2.1 t.2.2.2.1 t.2.2.2.2.1 t.2.2.2.2.2.1) (r19.1.1, r25.1.1, r25.1.2.1, r31.1.1, r31.1.2.1, decide (r25.1.1 < 0), ())
def F_l_FnSafeRun : Nat → C_l_FnSafeRun
  | 0, _ => none
  | k + 1, code => B_l_FnSafeRun k (F_s_DrawSafeRun k) (F_i_SafeRun k) (F_s_SafeRun k) (F_i_RunOps k) (F_i_IsWhole k) code
theorem tot_l_FnSafeRun {code : _} {Q : _ → Prop} (h : Tot (fun σ => B_l_FnSafeRun (σ 0) (F_s_DrawSafeRun (σ 0)) (F_i_SafeRun (σ 0)) (F_s_SafeRun (σ 0)) (F_i_RunOps (σ 0)) (F_i_IsWhole (σ 0)) code) Q) : Tot (fun σ => F_l_FnSafeRun (σ 0) code) Q :=
  Tot.call (F := fun k => F_l_FnSafeRun k code) (B := fun k => B_l_FnSafeRun k (F_s_DrawSafeRun k) (F_i_SafeRun k) (F_s_SafeRun k) (F_i_RunOps k) (F_i_IsWhole k) code) (fun k => rfl) h
end Go.Gx

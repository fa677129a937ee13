/-
  The functions, as Gx tells them (printed by gen.py).
-/
import Derived.Test.YtafomfpnbhnmfaaXSh1
set_option linter.unusedVariables false
namespace Go.Gx
abbrev A_i_SafeRun_L2 (Z : Type) : Type := (List (Int × Int)) → Int → Int → Int → List Int → (List (Int × Int × List Int)) → List Int → List Int → Bool → (List (Int × Int)) → Int → Int → Z
abbrev u_i_SafeRun_L2 {Z : Type} (f : A_i_SafeRun_L2 Z) (t : T_i_SafeRun_L2) : Z := f t.1 t.2.1.1 t.2.1.2.1 t.2.1.2.2.1 t.2.1.2.2.2.1 t.2.2.1.1 t.2.2.1.2.1 t.2.2.1.2.2.1 t.2.2.1.2.2.2.1 t.2.2.2.1 t.2.2.2.2.1 t.2.2.2.2.2.1
theorem loop_i_SafeRun_L2 {Q : A_i_SafeRun_L2 (((Int × Int × Unit) × (Unit)) → Prop)} (I : A_i_SafeRun_L2 Prop) (μ : A_i_SafeRun_L2 Nat)
    (step : ∀ a0 a1 a2 a3 a4 a5 a6 a7 a8 a9 a10 a11, I a0 a1 a2 a3 a4 a5 a6 a7 a8 a9 a10 a11 → ∀ again : (Nat → Nat) → T_i_SafeRun_L2 → R_i_SafeRun, Dep 2 again → (∀ y0 y1 y2 y3 y4 y5 y6 y7 y8 y9 y10 y11, I y0 y1 y2 y3 y4 y5 y6 y7 y8 y9 y10 y11 → μ y0 y1 y2 y3 y4 y5 y6 y7 y8 y9 y10 y11 < μ a0 a1 a2 a3 a4 a5 a6 a7 a8 a9 a10 a11 → Tot (fun σ => again σ (y0, (y1, y2, y3, y4, ()), (y5, y6, y7, y8, ()), y9, y10, y11, ())) (Q y0 y1 y2 y3 y4 y5 y6 y7 y8 y9 y10 y11)) →
      Tot (fun σ => B_i_SafeRun_L2b (σ 0) (F_i_ValidOps (σ 0)) (F_i_ValidRules (σ 0)) (F_i_NewMachine (σ 0)) (F_i_Machine_step (σ 0)) (F_slices_Contains_int_int (σ 0)) (again σ) a0 a1 a2 a3 a4 a5 a6 a7 a8 a9 a10 a11) (Q a0 a1 a2 a3 a4 a5 a6 a7 a8 a9 a10 a11)) :
    ∀ a0 a1 a2 a3 a4 a5 a6 a7 a8 a9 a10 a11, I a0 a1 a2 a3 a4 a5 a6 a7 a8 a9 a10 a11 → Tot (fun σ => B_i_SafeRun_L2 (σ 0) (F_i_ValidOps (σ 0)) (F_i_ValidRules (σ 0)) (F_i_NewMachine (σ 0)) (F_i_Machine_step (σ 0)) (F_slices_Contains_int_int (σ 0)) (σ 0) (a0, (a1, a2, a3, a4, ()), (a5, a6, a7, a8, ()), a9, a10, a11, ())) (Q a0 a1 a2 a3 a4 a5 a6 a7 a8 a9 a10 a11) := fun a0 a1 a2 a3 a4 a5 a6 a7 a8 a9 a10 a11 => Tot.loop0 (L := fun k => B_i_SafeRun_L2 k (F_i_ValidOps k) (F_i_ValidRules k) (F_i_NewMachine k) (F_i_Machine_step k) (F_slices_Contains_int_int k)) (B := fun k g => u_i_SafeRun_L2 (B_i_SafeRun_L2b k (F_i_ValidOps k) (F_i_ValidRules k) (F_i_NewMachine k) (F_i_Machine_step k) (F_slices_Contains_int_int k) g)) (Q := u_i_SafeRun_L2 Q) (fun _ _ _ => rfl) (u_i_SafeRun_L2 I) (u_i_SafeRun_L2 μ)
    (fun t ht again hag h => step t.1 t.2.1.1 t.2.1.2.1 t.2.1.2.2.1 t.2.1.2.2.2.1 t.2.2.1.1 t.2.2.1.2.1 t.2.2.1.2.2.1 t.2.2.1.2.2.2.1 t.2.2.2.1 t.2.2.2.2.1 t.2.2.2.2.2.1 ht again hag fun y0 y1 y2 y3 y4 y5 y6 y7 y8 y9 y10 y11 => h (y0, (y1, y2, y3, y4, ()), (y5, y6, y7, y8, ()), y9, y10, y11, ())) (a0, (a1, a2, a3, a4, ()), (a5, a6, a7, a8, ()), a9, a10, a11, ())
abbrev R_s_validRules : Type := Option ((Bool × Unit) × (Unit))
abbrev C_s_validRules : Type := Int → Int → Int → List Int → R_s_validRules
abbrev T_s_validRules_L1 : Type := (Int × Int × Int × List Int × Unit) × Int × Unit
def B_s_validRules_J0 (k : Nat) (c_s_inRange : C_s_inRange) (c_s_placeIn : C_s_placeIn) (again1 : T_s_validRules_L1 → R_s_validRules) (r_Steps r_Nodes r_Deep : Int) (r_Classes : List Int) (i : Int) (t30 : Bool) : R_s_validRules :=
  bif t30 then
    some ((false, ()), ())
  else
    again1 ((r_Steps, r_Nodes, r_Deep, r_Classes, ()), w64 (i + 1), ())
def B_s_validRules_L1b (k : Nat) (c_s_inRange : C_s_inRange) (c_s_placeIn : C_s_placeIn) (again1 : T_s_validRules_L1 → R_s_validRules) (r_Steps r_Nodes r_Deep : Int) (r_Classes : List Int) (i : Int) : R_s_validRules :=
  bif decide (i < (len r_Classes)) then
    chk (inb i r_Classes.length) <|
    (c_s_inRange (rdx (0 : Int) r_Classes i) 0 9).bind fun r16 =>
    bif (!r16.1.1) then
      jn (fun t => B_s_validRules_J0 k c_s_inRange c_s_placeIn again1 t.1.1 t.1.2.1 t.1.2.2.1 t.1.2.2.2.1 t.2.1 t.2.2.1) ((r_Steps, r_Nodes, r_Deep, r_Classes, ()), i, true, ())
    else
      chk (cutb 0 i r_Classes.length) <|
      chk (inb i r_Classes.length) <|
      (c_s_placeIn (sub r_Classes 0 i) (rdx (0 : Int) r_Classes i)).bind fun r28 =>
      jn (fun t => B_s_validRules_J0 k c_s_inRange c_s_placeIn again1 t.1.1 t.1.2.1 t.1.2.2.1 t.1.2.2.2.1 t.2.1 t.2.2.1) ((r_Steps, r_Nodes, r_Deep, r_Classes, ()), i, decide (r28.1.1 ≥ 0), ())
  else
    (c_s_inRange r_Steps 0 300).bind fun r33 =>
    bif r33.1.1 then
      (c_s_inRange r_Nodes 0 300).bind fun r37 =>
      bif r37.1.1 then
        (c_s_inRange r_Deep 0 300).bind fun r42 =>
        some ((r42.1.1, ()), ())
      else
        some ((false, ()), ())
    else
      some ((false, ()), ())
def B_s_validRules_L1 (k : Nat) (c_s_inRange : C_s_inRange) (c_s_placeIn : C_s_placeIn) (n : Nat) (t : T_s_validRules_L1) : R_s_validRules :=
  lfix n (fun again t => B_s_validRules_L1b k c_s_inRange c_s_placeIn again t.1.1 t.1.2.1 t.1.2.2.1 t.1.2.2.2.1 t.2.1) t
def B_s_validRules (k : Nat) (c_s_inRange : C_s_inRange) (c_s_placeIn : C_s_placeIn) (r_0 r_1 r_2 : Int) (r_3 : List Int) : R_s_validRules :=
  B_s_validRules_L1 k c_s_inRange c_s_placeIn k ((r_0, r_1, r_2, r_3, ()), 0, ())
def F_s_validRules : Nat → C_s_validRules
  | 0, _, _, _, _ => none
  | k + 1, r_0, r_1, r_2, r_3 => B_s_validRules k (F_s_inRange k) (F_s_placeIn k) r_0 r_1 r_2 r_3
theorem tot_s_validRules {r_0 r_1 r_2 r_3 : _} {Q : _ → Prop} (h : Tot (fun σ => B_s_validRules (σ 0) (F_s_inRange (σ 0)) (F_s_placeIn (σ 0)) r_0 r_1 r_2 r_3) Q) : Tot (fun σ => F_s_validRules (σ 0) r_0 r_1 r_2 r_3) Q :=
  Tot.call (F := fun k => F_s_validRules k r_0 r_1 r_2 r_3) (B := fun k => B_s_validRules k (F_s_inRange k) (F_s_placeIn k) r_0 r_1 r_2 r_3) (fun k => rfl) h
abbrev A_s_validRules_L1 (Z : Type) : Type := Int → Int → Int → List Int → Int → Z
abbrev u_s_validRules_L1 {Z : Type} (f : A_s_validRules_L1 Z) (t : T_s_validRules_L1) : Z := f t.1.1 t.1.2.1 t.1.2.2.1 t.1.2.2.2.1 t.2.1
theorem loop_s_validRules_L1 {Q : A_s_validRules_L1 (((Bool × Unit) × (Unit)) → Prop)} (I : A_s_validRules_L1 Prop) (μ : A_s_validRules_L1 Nat)
    (step : ∀ a0 a1 a2 a3 a4, I a0 a1 a2 a3 a4 → ∀ again : (Nat → Nat) → T_s_validRules_L1 → R_s_validRules, Dep 2 again → (∀ y0 y1 y2 y3 y4, I y0 y1 y2 y3 y4 → μ y0 y1 y2 y3 y4 < μ a0 a1 a2 a3 a4 → Tot (fun σ => again σ ((y0, y1, y2, y3, ()), y4, ())) (Q y0 y1 y2 y3 y4)) →
      Tot (fun σ => B_s_validRules_L1b (σ 0) (F_s_inRange (σ 0)) (F_s_placeIn (σ 0)) (again σ) a0 a1 a2 a3 a4) (Q a0 a1 a2 a3 a4)) :
    ∀ a0 a1 a2 a3 a4, I a0 a1 a2 a3 a4 → Tot (fun σ => B_s_validRules_L1 (σ 0) (F_s_inRange (σ 0)) (F_s_placeIn (σ 0)) (σ 0) ((a0, a1, a2, a3, ()), a4, ())) (Q a0 a1 a2 a3 a4) := fun a0 a1 a2 a3 a4 => Tot.loop0 (L := fun k => B_s_validRules_L1 k (F_s_inRange k) (F_s_placeIn k)) (B := fun k g => u_s_validRules_L1 (B_s_validRules_L1b k (F_s_inRange k) (F_s_placeIn k) g)) (Q := u_s_validRules_L1 Q) (fun _ _ _ => rfl) (u_s_validRules_L1 I) (u_s_validRules_L1 μ)
    (fun t ht again hag h => step t.1.1 t.1.2.1 t.1.2.2.1 t.1.2.2.2.1 t.2.1 ht again hag fun y0 y1 y2 y3 y4 => h ((y0, y1, y2, y3, ()), y4, ())) ((a0, a1, a2, a3, ()), a4, ())
abbrev R_s_breach : Type := Option ((Int × Unit) × (Unit))
abbrev C_s_breach : Type := Int → Int → Int → List Int → Int → Int → List Int → List Bool → List Int → List Int → Bool → Int → R_s_breach
def B_s_breach_J0 (k : Nat) (c_s_placeIn : C_s_placeIn) (r_Steps r_Nodes r_Deep : Int) (r_Classes s_Kinds : List Int) (s_Full : List Bool) (s_Stack s_Memo : List Int) (s_Done t23 : Bool) : R_s_breach :=
  bif t23 then
    some ((3, ()), ())
  else
    bif decide ((len s_Kinds) > r_Nodes) then
      some ((4, ()), ())
    else
      bif decide ((len s_Stack) > r_Deep) then
        some ((5, ()), ())
      else
        some ((0, ()), ())
def B_s_breach (k : Nat) (c_s_placeIn : C_s_placeIn) (r_0 r_1 r_2 : Int) (r_3 : List Int) (o_0 o_1 : Int) (s_0 : List Int) (s_1 : List Bool) (s_2 s_3 : List Int) (s_4 : Bool) (done : Int) : R_s_breach :=
  bif decide (done > r_0) then
    some ((2, ()), ())
  else
    bif (o_0 == 13) then
      (c_s_placeIn r_3 o_1).bind fun r21 =>
      jn (fun t => B_s_breach_J0 k c_s_placeIn t.1.1 t.1.2.1 t.1.2.2.1 t.1.2.2.2.1 t.2.1.1 t.2.1.2.1 t.2.1.2.2.1 t.2.1.2.2.2.1 t.2.1.2.2.2.2.1 t.2.2.1) ((r_0, r_1, r_2, r_3, ()), (s_0, s_1, s_2, s_3, s_4, ()), decide (r21.1.1 < 0), ())
    else
      jn (fun t => B_s_breach_J0 k c_s_placeIn t.1.1 t.1.2.1 t.1.2.2.1 t.1.2.2.2.1 t.2.1.1 t.2.1.2.1 t.2.1.2.2.1 t.2.1.2.2.2.1 t.2.1.2.2.2.2.1 t.2.2.1) ((r_0, r_1, r_2, r_3, ()), (s_0, s_1, s_2, s_3, s_4, ()), false, ())
def F_s_breach : Nat → C_s_breach
  | 0, _, _, _, _, _, _, _, _, _, _, _, _ => none
  | k + 1, r_0, r_1, r_2, r_3, o_0, o_1, s_0, s_1, s_2, s_3, s_4, done => B_s_breach k (F_s_placeIn k) r_0 r_1 r_2 r_3 o_0 o_1 s_0 s_1 s_2 s_3 s_4 done
theorem tot_s_breach {r_0 r_1 r_2 r_3 o_0 o_1 s_0 s_1 s_2 s_3 s_4 done : _} {Q : _ → Prop} (h : Tot (fun σ => B_s_breach (σ 0) (F_s_placeIn (σ 0)) r_0 r_1 r_2 r_3 o_0 o_1 s_0 s_1 s_2 s_3 s_4 done) Q) : Tot (fun σ => F_s_breach (σ 0) r_0 r_1 r_2 r_3 o_0 o_1 s_0 s_1 s_2 s_3 s_4 done) Q :=
  Tot.call (F := fun k => F_s_breach k r_0 r_1 r_2 r_3 o_0 o_1 s_0 s_1 s_2 s_3 s_4 done) (B := fun k => B_s_breach k (F_s_placeIn k) r_0 r_1 r_2 r_3 o_0 o_1 s_0 s_1 s_2 s_3 s_4 done) (fun k => rfl) h
abbrev R_s_safe : Type := Option ((Int × Int × Unit) × (Unit))
abbrev C_s_safe : Type := (List (Int × Int)) → Int → Int → Int → List Int → R_s_safe
abbrev T_s_safe_L0 : Type := (List (Int × Int)) × (Int × Int × Int × List Int × Unit) × (List Int × List Bool × List Int × List Int × Bool × Unit) × Int × Unit
def B_s_safe_L0b (k : Nat) (c_s_newShapes : C_s_newShapes) (c_s_copyShapes : C_s_copyShapes) (c_s_stepShapes : C_s_stepShapes) (c_s_breach : C_s_breach) (again0 : T_s_safe_L0 → R_s_safe) (ops : List (Int × Int)) (r_Steps r_Nodes r_Deep : Int) (r_Classes s_Kinds : List Int) (s_Full : List Bool) (s_Stack s_Memo : List Int) (s_Done : Bool) (i : Int) : R_s_safe :=
  bif decide (i < (len ops)) then
    (c_s_copyShapes s_Kinds s_Full s_Stack s_Memo s_Done).bind fun r20 =>
    chk (inb i ops.length) <|
    (c_s_stepShapes r20.1.1.1 r20.1.1.2.1 r20.1.1.2.2.1 r20.1.1.2.2.2.1 r20.1.1.2.2.2.2.1 ((rdx ((0 : Int), (0 : Int)) ops i).1) ((rdx ((0 : Int), (0 : Int)) ops i).2)).bind fun r25 =>
    bif (!r25.1.2.1) then
      some ((i, 1, ()), ())
    else
      chk (inb i ops.length) <|
      (c_s_breach r_Steps r_Nodes r_Deep r_Classes ((rdx ((0 : Int), (0 : Int)) ops i).1) ((rdx ((0 : Int), (0 : Int)) ops i).2) r25.1.1.1 r25.1.1.2.1 r25.1.1.2.2.1 r25.1.1.2.2.2.1 r25.1.1.2.2.2.2.1 (w64 (i + 1))).bind fun r39 =>
      bif (r39.1.1 != 0) then
        some ((i, r39.1.1, ()), ())
      else
        again0 (ops, (r_Steps, r_Nodes, r_Deep, r_Classes, ()), (r25.1.1.1, r25.1.1.2.1, r25.1.1.2.2.1, r25.1.1.2.2.2.1, r25.1.1.2.2.2.2.1, ()), w64 (i + 1), ())
  else
    bif (!s_Done) then
      some ((len ops, 6, ()), ())
    else
      some ((len ops, 0, ()), ())
def B_s_safe_L0 (k : Nat) (c_s_newShapes : C_s_newShapes) (c_s_copyShapes : C_s_copyShapes) (c_s_stepShapes : C_s_stepShapes) (c_s_breach : C_s_breach) (n : Nat) (t : T_s_safe_L0) : R_s_safe :=
  lfix n (fun again t => B_s_safe_L0b k c_s_newShapes c_s_copyShapes c_s_stepShapes c_s_breach again t.1 t.2.1.1 t.2.1.2.1 t.2.1.2.2.1 t.2.1.2.2.2.1 t.2.2.1.1 t.2.2.1.2.1 t.2.2.1.2.2.1 t.2.2.1.2.2.2.1 t.2.2.1.2.2.2.2.1 t.2.2.2.1) t
def B_s_safe (k : Nat) (c_s_newShapes : C_s_newShapes) (c_s_copyShapes : C_s_copyShapes) (c_s_stepShapes : C_s_stepShapes) (c_s_breach : C_s_breach) (ops : List (Int × Int)) (r_0 r_1 r_2 : Int) (r_3 : List Int) : R_s_safe :=
  (c_s_newShapes).bind fun r11 =>
  B_s_safe_L0 k c_s_newShapes c_s_copyShapes c_s_stepShapes c_s_breach k (ops, (r_0, r_1, r_2, r_3, ()), (r11.1.1.1, r11.1.1.2.1, r11.1.1.2.2.1, r11.1.1.2.2.2.1, r11.1.1.2.2.2.2.1, ()), 0, ())
def F_s_safe : Nat → C_s_safe
  | 0, _, _, _, _, _ => none
  | k + 1, ops, r_0, r_1, r_2, r_3 => B_s_safe k (F_s_newShapes k) (F_s_copyShapes k) (F_s_stepShapes k) (F_s_breach k) ops r_0 r_1 r_2 r_3
theorem tot_s_safe {ops r_0 r_1 r_2 r_3 : _} {Q : _ → Prop} (h : Tot (fun σ => B_s_safe (σ 0) (F_s_newShapes (σ 0)) (F_s_copyShapes (σ 0)) (F_s_stepShapes (σ 0)) (F_s_breach (σ 0)) ops r_0 r_1 r_2 r_3) Q) : Tot (fun σ => F_s_safe (σ 0) ops r_0 r_1 r_2 r_3) Q :=
  Tot.call (F := fun k => F_s_safe k ops r_0 r_1 r_2 r_3) (B := fun k => B_s_safe k (F_s_newShapes k) (F_s_copyShapes k) (F_s_stepShapes k) (F_s_breach k) ops r_0 r_1 r_2 r_3) (fun k => rfl) h
abbrev A_s_safe_L0 (Z : Type) : Type := (List (Int × Int)) → Int → Int → Int → List Int → List Int → List Bool → List Int → List Int → Bool → Int → Z
abbrev u_s_safe_L0 {Z : Type} (f : A_s_safe_L0 Z) (t : T_s_safe_L0) : Z := f t.1 t.2.1.1 t.2.1.2.1 t.2.1.2.2.1 t.2.1.2.2.2.1 t.2.2.1.1 t.2.2.1.2.1 t.2.2.1.2.2.1 t.2.2.1.2.2.2.1 t.2.2.1.2.2.2.2.1 t.2.2.2.1
theorem loop_s_safe_L0 {Q : A_s_safe_L0 (((Int × Int × Unit) × (Unit)) → Prop)} (I : A_s_safe_L0 Prop) (μ : A_s_safe_L0 Nat)
    (step : ∀ a0 a1 a2 a3 a4 a5 a6 a7 a8 a9 a10, I a0 a1 a2 a3 a4 a5 a6 a7 a8 a9 a10 → ∀ again : (Nat → Nat) → T_s_safe_L0 → R_s_safe, Dep 2 again → (∀ y0 y1 y2 y3 y4 y5 y6 y7 y8 y9 y10, I y0 y1 y2 y3 y4 y5 y6 y7 y8 y9 y10 → μ y0 y1 y2 y3 y4 y5 y6 y7 y8 y9 y10 < μ a0 a1 a2 a3 a4 a5 a6 a7 a8 a9 a10 → Tot (fun σ => again σ (y0, (y1, y2, y3, y4, ()), (y5, y6, y7, y8, y9, ()), y10, ())) (Q y0 y1 y2 y3 y4 y5 y6 y7 y8 y9 y10)) →
      Tot (fun σ => B_s_safe_L0b (σ 0) (F_s_newShapes (σ 0)) (F_s_copyShapes (σ 0)) (F_s_stepShapes (σ 0)) (F_s_breach (σ 0)) (again σ) a0 a1 a2 a3 a4 a5 a6 a7 a8 a9 a10) (Q a0 a1 a2 a3 a4 a5 a6 a7 a8 a9 a10)) :
    ∀ a0 a1 a2 a3 a4 a5 a6 a7 a8 a9 a10, I a0 a1 a2 a3 a4 a5 a6 a7 a8 a9 a10 → Tot (fun σ => B_s_safe_L0 (σ 0) (F_s_newShapes (σ 0)) (F_s_copyShapes (σ 0)) (F_s_stepShapes (σ 0)) (F_s_breach (σ 0)) (σ 0) (a0, (a1, a2, a3, a4, ()), (a5, a6, a7, a8, a9, ()), a10, ())) (Q a0 a1 a2 a3 a4 a5 a6 a7 a8 a9 a10) := fun a0 a1 a2 a3 a4 a5 a6 a7 a8 a9 a10 => Tot.loop0 (L := fun k => B_s_safe_L0 k (F_s_newShapes k) (F_s_copyShapes k) (F_s_stepShapes k) (F_s_breach k)) (B := fun k g => u_s_safe_L0 (B_s_safe_L0b k (F_s_newShapes k) (F_s_copyShapes k) (F_s_stepShapes k) (F_s_breach k) g)) (Q := u_s_safe_L0 Q) (fun _ _ _ => rfl) (u_s_safe_L0 I) (u_s_safe_L0 μ)
    (fun t ht again hag h => step t.1 t.2.1.1 t.2.1.2.1 t.2.1.2.2.1 t.2.1.2.2.2.1 t.2.2.1.1 t.2.2.1.2.1 t.2.2.1.2.2.1 t.2.2.1.2.2.2.1 t.2.2.1.2.2.2.2.1 t.2.2.2.1 ht again hag fun y0 y1 y2 y3 y4 y5 y6 y7 y8 y9 y10 => h (y0, (y1, y2, y3, y4, ()), (y5, y6, y7, y8, y9, ()), y10, ())) (a0, (a1, a2, a3, a4, ()), (a5, a6, a7, a8, a9, ()), a10, ())
abbrev R_s_SafeRun : Type := Option ((Int × Int × Unit) × (Unit))
abbrev C_s_SafeRun : Type := (List (Int × Int)) → Int → Int → Int → List Int → R_s_SafeRun
def B_s_SafeRun_J0 (k : Nat) (c_s_validOps : C_s_validOps) (c_s_validRules : C_s_validRules) (c_s_safe : C_s_safe) (ops : List (Int × Int)) (r_Steps r_Nodes r_Deep : Int) (r_Classes : List Int) (t13 : Bool) : R_s_SafeRun :=
  bif t13 then
    some (((-1), (-1), ()), ())
  else
    (c_s_safe ops r_Steps r_Nodes r_Deep r_Classes).bind fun r16 =>
    some ((r16.1.1, r16.1.2.1, ()), ())
def B_s_SafeRun (k : Nat) (c_s_validOps : C_s_validOps) (c_s_validRules : C_s_validRules) (c_s_safe : C_s_safe) (ops : List (Int × Int)) (r_0 r_1 r_2 : Int) (r_3 : List Int) : R_s_SafeRun :=
  (c_s_validOps ops).bind fun r7 =>
  bif (!r7.1.1) then
    jn (fun t => B_s_SafeRun_J0 k c_s_validOps c_s_validRules c_s_safe t.1 t.2.1.1 t.2.1.2.1 t.2.1.2.2.1 t.2.1.2.2.2.1 t.2.2.1) (ops, (r_0, r_1, r_2, r_3, ()), true, ())
  else
    (c_s_validRules r_0 r_1 r_2 r_3).bind fun r11 =>
    jn (fun t => B_s_SafeRun_J0 k c_s_validOps c_s_validRules c_s_safe t.1 t.2.1.1 t.2.1.2.1 t.2.1.2.2.1 t.2.1.2.2.2.1 t.2.2.1) (ops, (r_0, r_1, r_2, r_3, ()), (!r11.1.1), ())
def F_s_SafeRun : Nat → C_s_SafeRun
  | 0, _, _, _, _, _ => none
  | k + 1, ops, r_0, r_1, r_2, r_3 => B_s_SafeRun k (F_s_validOps k) (F_s_validRules k) (F_s_safe k) ops r_0 r_1 r_2 r_3
theorem tot_s_SafeRun {ops r_0 r_1 r_2 r_3 : _} {Q : _ → Prop} (h : Tot (fun σ => B_s_SafeRun (σ 0) (F_s_validOps (σ 0)) (F_s_validRules (σ 0)) (F_s_safe (σ 0)) ops r_0 r_1 r_2 r_3) Q) : Tot (fun σ => F_s_SafeRun (σ 0) ops r_0 r_1 r_2 r_3) Q :=
  Tot.call (F := fun k => F_s_SafeRun k ops r_0 r_1 r_2 r_3) (B := fun k => B_s_SafeRun k (F_s_validOps k) (F_s_validRules k) (F_s_safe k) ops r_0 r_1 r_2 r_3) (fun k => rfl) h
abbrev R_i_RulesAllow_1 : Type := Option ((Bool × Unit) × ((Int × Int × Int × List Int × Unit) × Unit))
abbrev C_i_RulesAllow_1 : Type := Int → Int → Int → Int → List Int → R_i_RulesAllow_1
def B_i_RulesAllow_1 (k : Nat) (c_slices_Contains_int_int : C_slices_Contains_int_int) (c t1_Steps t1_Nodes t1_Deep : Int) (t1_Classes : List Int) : R_i_RulesAllow_1 :=
  (c_slices_Contains_int_int t1_Classes c).bind fun r7 =>
  some (((!r7.1.1), ()), ((t1_Steps, t1_Nodes, t1_Deep, t1_Classes, ()), ()))
def F_i_RulesAllow_1 : Nat → C_i_RulesAllow_1
  | 0, _, _, _, _, _ => none
  | k + 1, c, t1_Steps, t1_Nodes, t1_Deep, t1_Classes => B_i_RulesAllow_1 k (F_slices_Contains_int_int k) c t1_Steps t1_Nodes t1_Deep t1_Classes
theorem tot_i_RulesAllow_1 {c t1_Steps t1_Nodes t1_Deep t1_Classes : _} {Q : _ → Prop} (h : Tot (fun σ => B_i_RulesAllow_1 (σ 0) (F_slices_Contains_int_int (σ 0)) c t1_Steps t1_Nodes t1_Deep t1_Classes) Q) : Tot (fun σ => F_i_RulesAllow_1 (σ 0) c t1_Steps t1_Nodes t1_Deep t1_Classes) Q :=
  Tot.call (F := fun k => F_i_RulesAllow_1 k c t1_Steps t1_Nodes t1_Deep t1_Classes) (B := fun k => B_i_RulesAllow_1 k (F_slices_Contains_int_int k) c t1_Steps t1_Nodes t1_Deep t1_Classes) (fun k => rfl) h
abbrev R_slices_IndexFunc_int_int__c_i_RulesAllow_1 : Type := Option ((Int × Unit) × ((Int × Int × Int × List Int × Unit) × Unit))
abbrev C_slices_IndexFunc_int_int__c_i_RulesAllow_1 : Type := List Int → Int → Int → Int → List Int → R_slices_IndexFunc_int_int__c_i_RulesAllow_1
abbrev T_slices_IndexFunc_int_int__c_i_RulesAllow_1_L0 : Type := List Int × (Int × Int × Int × List Int × Unit) × Int × Int × Unit
def B_slices_IndexFunc_int_int__c_i_RulesAllow_1_L0b (k : Nat) (c_i_RulesAllow_1 : C_i_RulesAllow_1) (again0 : T_slices_IndexFunc_int_int__c_i_RulesAllow_1_L0 → R_slices_IndexFunc_int_int__c_i_RulesAllow_1) (s : List Int) (f_Steps f_Nodes f_Deep : Int) (f_Classes : List Int) (t7 t8 : Int) : R_slices_IndexFunc_int_int__c_i_RulesAllow_1 :=
  bif decide (t8 < t7) then
    chk (inb t8 s.length) <|
    (c_i_RulesAllow_1 (rdx (0 : Int) s t8) f_Steps f_Nodes f_Deep f_Classes).bind fun r16 =>
    bif r16.1.1 then
      some ((t8, ()), ((r16.2.1.1, r16.2.1.2.1, r16.2.1.2.2.1, r16.2.1.2.2.2.1, ()), ()))
    else
      again0 (s, (r16.2.1.1, r16.2.1.2.1, r16.2.1.2.2.1, r16.2.1.2.2.2.1, ()), t7, w64 (t8 + 1), ())
  else
    some (((-1), ()), ((f_Steps, f_Nodes, f_Deep, f_Classes, ()), ()))
def B_slices_IndexFunc_int_int__c_i_RulesAllow_1_L0 (k : Nat) (c_i_RulesAllow_1 : C_i_RulesAllow_1) (n : Nat) (t : T_slices_IndexFunc_int_int__c_i_RulesAllow_1_L0) : R_slices_IndexFunc_int_int__c_i_RulesAllow_1 :=
  lfix n (fun again t => B_slices_IndexFunc_int_int__c_i_RulesAllow_1_L0b k c_i_RulesAllow_1 again t.1 t.2.1.1 t.2.1.2.1 t.2.1.2.2.1 t.2.1.2.2.2.1 t.2.2.1 t.2.2.2.1) t
def B_slices_IndexFunc_int_int__c_i_RulesAllow_1 (k : Nat) (c_i_RulesAllow_1 : C_i_RulesAllow_1) (s : List Int) (f_Steps f_Nodes f_Deep : Int) (f_Classes : List Int) : R_slices_IndexFunc_int_int__c_i_RulesAllow_1 :=
  B_slices_IndexFunc_int_int__c_i_RulesAllow_1_L0 k c_i_RulesAllow_1 k (s, (f_Steps, f_Nodes, f_Deep, f_Classes, ()), len s, 0, ())
def F_slices_IndexFunc_int_int__c_i_RulesAllow_1 : Nat → C_slices_IndexFunc_int_int__c_i_RulesAllow_1
  | 0, _, _, _, _, _ => none
  | k + 1, s, f_Steps, f_Nodes, f_Deep, f_Classes => B_slices_IndexFunc_int_int__c_i_RulesAllow_1 k (F_i_RulesAllow_1 k) s f_Steps f_Nodes f_Deep f_Classes
theorem tot_slices_IndexFunc_int_int__c_i_RulesAllow_1 {s f_Steps f_Nodes f_Deep f_Classes : _} {Q : _ → Prop} (h : Tot (fun σ => B_slices_IndexFunc_int_int__c_i_RulesAllow_1 (σ 0) (F_i_RulesAllow_1 (σ 0)) s f_Steps f_Nodes f_Deep f_Classes) Q) : Tot (fun σ => F_slices_IndexFunc_int_int__c_i_RulesAllow_1 (σ 0) s f_Steps f_Nodes f_Deep f_Classes) Q :=
  Tot.call (F := fun k => F_slices_IndexFunc_int_int__c_i_RulesAllow_1 k s f_Steps f_Nodes f_Deep f_Classes) (B := fun k => B_slices_IndexFunc_int_int__c_i_RulesAllow_1 k (F_i_RulesAllow_1 k) s f_Steps f_Nodes f_Deep f_Classes) (fun k => rfl) h
abbrev A_slices_IndexFunc_int_int__c_i_RulesAllow_1_L0 (Z : Type) : Type := List Int → Int → Int → Int → List Int → Int → Int → Z
abbrev u_slices_IndexFunc_int_int__c_i_RulesAllow_1_L0 {Z : Type} (f : A_slices_IndexFunc_int_int__c_i_RulesAllow_1_L0 Z) (t : T_slices_IndexFunc_int_int__c_i_RulesAllow_1_L0) : Z := f t.1 t.2.1.1 t.2.1.2.1 t.2.1.2.2.1 t.2.1.2.2.2.1 t.2.2.1 t.2.2.2.1
theorem loop_slices_IndexFunc_int_int__c_i_RulesAllow_1_L0 {Q : A_slices_IndexFunc_int_int__c_i_RulesAllow_1_L0 (((Int × Unit) × ((Int × Int × Int × List Int × Unit) × Unit)) → Prop)} (I : A_slices_IndexFunc_int_int__c_i_RulesAllow_1_L0 Prop) (μ : A_slices_IndexFunc_int_int__c_i_RulesAllow_1_L0 Nat)
    (step : ∀ a0 a1 a2 a3 a4 a5 a6, I a0 a1 a2 a3 a4 a5 a6 → ∀ again : (Nat → Nat) → T_slices_IndexFunc_int_int__c_i_RulesAllow_1_L0 → R_slices_IndexFunc_int_int__c_i_RulesAllow_1, Dep 2 again → (∀ y0 y1 y2 y3 y4 y5 y6, I y0 y1 y2 y3 y4 y5 y6 → μ y0 y1 y2 y3 y4 y5 y6 < μ a0 a1 a2 a3 a4 a5 a6 → Tot (fun σ => again σ (y0, (y1, y2, y3, y4, ()), y5, y6, ())) (Q y0 y1 y2 y3 y4 y5 y6)) →
      Tot (fun σ => B_slices_IndexFunc_int_int__c_i_RulesAllow_1_L0b (σ 0) (F_i_RulesAllow_1 (σ 0)) (again σ) a0 a1 a2 a3 a4 a5 a6) (Q a0 a1 a2 a3 a4 a5 a6)) :
    ∀ a0 a1 a2 a3 a4 a5 a6, I a0 a1 a2 a3 a4 a5 a6 → Tot (fun σ => B_slices_IndexFunc_int_int__c_i_RulesAllow_1_L0 (σ 0) (F_i_RulesAllow_1 (σ 0)) (σ 0) (a0, (a1, a2, a3, a4, ()), a5, a6, ())) (Q a0 a1 a2 a3 a4 a5 a6) := fun a0 a1 a2 a3 a4 a5 a6 => Tot.loop0 (L := fun k => B_slices_IndexFunc_int_int__c_i_RulesAllow_1_L0 k (F_i_RulesAllow_1 k)) (B := fun k g => u_slices_IndexFunc_int_int__c_i_RulesAllow_1_L0 (B_slices_IndexFunc_int_int__c_i_RulesAllow_1_L0b k (F_i_RulesAllow_1 k) g)) (Q := u_slices_IndexFunc_int_int__c_i_RulesAllow_1_L0 Q) (fun _ _ _ => rfl) (u_slices_IndexFunc_int_int__c_i_RulesAllow_1_L0 I) (u_slices_IndexFunc_int_int__c_i_RulesAllow_1_L0 μ)
    (fun t ht again hag h => step t.1 t.2.1.1 t.2.1.2.1 t.2.1.2.2.1 t.2.1.2.2.2.1 t.2.2.1 t.2.2.2.1 ht again hag fun y0 y1 y2 y3 y4 y5 y6 => h (y0, (y1, y2, y3, y4, ()), y5, y6, ())) (a0, (a1, a2, a3, a4, ()), a5, a6, ())
abbrev R_slices_ContainsFunc_int_int__c_i_RulesAllow_1 : Type := Option ((Bool × Unit) × ((Int × Int × Int × List Int × Unit) × Unit))
abbrev C_slices_ContainsFunc_int_int__c_i_RulesAllow_1 : Type := List Int → Int → Int → Int → List Int → R_slices_ContainsFunc_int_int__c_i_RulesAllow_1
def B_slices_ContainsFunc_int_int__c_i_RulesAllow_1 (k : Nat) (c_slices_IndexFunc_int_int__c_i_RulesAllow_1 : C_slices_IndexFunc_int_int__c_i_RulesAllow_1) (s : List Int) (f_Steps f_Nodes f_Deep : Int) (f_Classes : List Int) : R_slices_ContainsFunc_int_int__c_i_RulesAllow_1 :=
  (c_slices_IndexFunc_int_int__c_i_RulesAllow_1 s f_Steps f_Nodes f_Deep f_Classes).bind fun r7 =>
  some ((decide (r7.1.1 ≥ 0), ()), ((r7.2.1.1, r7.2.1.2.1, r7.2.1.2.2.1, r7.2.1.2.2.2.1, ()), ()))
def F_slices_ContainsFunc_int_int__c_i_RulesAllow_1 : Nat → C_slices_ContainsFunc_int_int__c_i_RulesAllow_1
  | 0, _, _, _, _, _ => none
  | k + 1, s, f_Steps, f_Nodes, f_Deep, f_Classes => B_slices_ContainsFunc_int_int__c_i_RulesAllow_1 k (F_slices_IndexFunc_int_int__c_i_RulesAllow_1 k) s f_Steps f_Nodes f_Deep f_Classes
theorem tot_slices_ContainsFunc_int_int__c_i_RulesAllow_1 {s f_Steps f_Nodes f_Deep f_Classes : _} {Q : _ → Prop} (h : Tot (fun σ => B_slices_ContainsFunc_int_int__c_i_RulesAllow_1 (σ 0) (F_slices_IndexFunc_int_int__c_i_RulesAllow_1 (σ 0)) s f_Steps f_Nodes f_Deep f_Classes) Q) : Tot (fun σ => F_slices_ContainsFunc_int_int__c_i_RulesAllow_1 (σ 0) s f_Steps f_Nodes f_Deep f_Classes) Q :=
  Tot.call (F := fun k => F_slices_ContainsFunc_int_int__c_i_RulesAllow_1 k s f_Steps f_Nodes f_Deep f_Classes) (B := fun k => B_slices_ContainsFunc_int_int__c_i_RulesAllow_1 k (F_slices_IndexFunc_int_int__c_i_RulesAllow_1 k) s f_Steps f_Nodes f_Deep f_Classes) (fun k => rfl) h
abbrev R_i_RulesAllow : Type := Option ((Bool × Unit) × (Unit))
abbrev C_i_RulesAllow : Type := Int → Int → Int → List Int → Int → Int → Int → List Int → R_i_RulesAllow
def B_i_RulesAllow_J0 (k : Nat) (c_i_ValidRules : C_i_ValidRules) (c_slices_ContainsFunc_int_int__c_i_RulesAllow_1 : C_slices_ContainsFunc_int_int__c_i_RulesAllow_1) (a_Steps a_Nodes a_Deep : Int) (a_Classes : List Int) (b_Steps b_Nodes b_Deep : Int) (b_Classes : List Int) (t12 : Bool) : R_i_RulesAllow :=
  bif t12 then
    some ((false, ()), ())
  else
    bif decide (a_Steps ≥ b_Steps) then
      bif decide (a_Nodes ≥ b_Nodes) then
        bif decide (a_Deep ≥ b_Deep) then
          (c_slices_ContainsFunc_int_int__c_i_RulesAllow_1 b_Classes a_Steps a_Nodes a_Deep a_Classes).bind fun r36 =>
          some (((!r36.1.1), ()), ())
        else
          some ((false, ()), ())
      else
        some ((false, ()), ())
    else
      some ((false, ()), ())
def B_i_RulesAllow (k : Nat) (c_i_ValidRules : C_i_ValidRules) (c_slices_ContainsFunc_int_int__c_i_RulesAllow_1 : C_slices_ContainsFunc_int_int__c_i_RulesAllow_1) (a_0 a_1 a_2 : Int) (a_3 : List Int) (b_0 b_1 b_2 : Int) (b_3 : List Int) : R_i_RulesAllow :=
  (c_i_ValidRules a_0 a_1 a_2 a_3).bind fun r6 =>
  bif (!r6.1.1) then
    jn (fun t => B_i_RulesAllow_J0 k c_i_ValidRules c_slices_ContainsFunc_int_int__c_i_RulesAllow_1 t.1.1 t.1.2.1 t.1.2.2.1 t.1.2.2.2.1 t.2.1.1 t.2.1.2.1 t.2.1.2.2.1 t.2.1.2.2.2.1 t.2.2.1) ((a_0, a_1, a_2, a_3, ()), (b_0, b_1, b_2, b_3, ()), true, ())
  else
    (c_i_ValidRules b_0 b_1 b_2 b_3).bind fun r10 =>
    jn (fun t => B_i_RulesAllow_J0 k c_i_ValidRules c_slices_ContainsFunc_int_int__c_i_RulesAllow_1 t.1.1 t.1.2.1 t.1.2.2.1 t.1.2.2.2.1 t.2.1.1 t.2.1.2.1 t.2.1.2.2.1 t.2.1.2.2.2.1 t.2.2.1) ((a_0, a_1, a_2, a_3, ()), (b_0, b_1, b_2, b_3, ()), (!r10.1.1), ())
def F_i_RulesAllow : Nat → C_i_RulesAllow
  | 0, _, _, _, _, _, _, _, _ => none
  | k + 1, a_0, a_1, a_2, a_3, b_0, b_1, b_2, b_3 => B_i_RulesAllow k (F_i_ValidRules k) (F_slices_ContainsFunc_int_int__c_i_RulesAllow_1 k) a_0 a_1 a_2 a_3 b_0 b_1 b_2 b_3
theorem tot_i_RulesAllow {a_0 a_1 a_2 a_3 b_0 b_1 b_2 b_3 : _} {Q : _ → Prop} (h : Tot (fun σ => B_i_RulesAllow (σ 0) (F_i_ValidRules (σ 0)) (F_slices_ContainsFunc_int_int__c_i_RulesAllow_1 (σ 0)) a_0 a_1 a_2 a_3 b_0 b_1 b_2 b_3) Q) : Tot (fun σ => F_i_RulesAllow (σ 0) a_0 a_1 a_2 a_3 b_0 b_1 b_2 b_3) Q :=
  Tot.call (F := fun k => F_i_RulesAllow k a_0 a_1 a_2 a_3 b_0 b_1 b_2 b_3) (B := fun k => B_i_RulesAllow k (F_i_ValidRules k) (F_slices_ContainsFunc_int_int__c_i_RulesAllow_1 k) a_0 a_1 a_2 a_3 b_0 b_1 b_2 b_3) (fun k => rfl) h
abbrev R_l_FnSafeRunWider : Type := Option ((Bool × Unit) × (Unit))
abbrev C_l_FnSafeRunWider : Type := List Int → R_l_FnSafeRunWider
def B_l_FnSafeRunWider_J0 (k : Nat) (c_s_DrawSafeRun : C_s_DrawSafeRun) (c_i_SafeRun : C_i_SafeRun) (c_s_SafeRun : C_s_SafeRun) (c_i_RulesAllow : C_i_RulesAllow) (ops : List (Int × Int)) (r_Steps r_Nodes r_Deep : Int) (r_Classes : List Int) (n5 why x y : Int) (t43 : Bool) : R_l_FnSafeRunWider :=
  bif t43 then
    bif (n5 == x) then
      some (((why == y), ()), ())
    else
      some ((false, ()), ())
  else
    (c_i_SafeRun ops (if 300 < w64 (r_Steps + 5) then 300 else w64 (r_Steps + 5)) (if 300 < w64 (r_Nodes + 1) then 300 else w64 (r_Nodes + 1)) (if 300 < w64 (r_Deep + 2) then 300 else w64 (r_Deep + 2)) r_Classes).bind fun r70 =>
    (c_i_RulesAllow (if 300 < w64 (r_Steps + 5) then 300 else w64 (r_Steps + 5)) (if 300 < w64 (r_Nodes + 1) then 300 else w64 (r_Nodes + 1)) (if 300 < w64 (r_Deep + 2) then 300 else w64 (r_Deep + 2)) r_Classes r_Steps r_Nodes r_Deep r_Classes).bind fun r75 =>
    bif r75.1.1 then
      some ((decide (r70.1.1 ≥ n5), ()), ())
    else
      some ((false, ()), ())
def B_l_FnSafeRunWider (k : Nat) (c_s_DrawSafeRun : C_s_DrawSafeRun) (c_i_SafeRun : C_i_SafeRun) (c_s_SafeRun : C_s_SafeRun) (c_i_RulesAllow : C_i_RulesAllow) (code : List Int) : R_l_FnSafeRunWider :=
  bif decide ((len code) > 1048576) then
    some ((true, ()), ())
  else
    (c_s_DrawSafeRun code).bind fun r17 =>
    (c_i_SafeRun r17.1.1 r17.1.2.1.1 r17.1.2.1.2.1 r17.1.2.1.2.2.1 r17.1.2.1.2.2.2.1).bind fun r23 =>
    (c_s_SafeRun r17.1.1 r17.1.2.1.1 r17.1.2.1.2.1 r17.1.2.1.2.2.1 r17.1.2.1.2.2.2.1).bind fun r29 =>
    bif (r23.1.1 != r29.1.1) then
      jn (fun t => B_l_FnSafeRunWider_J0 k c_s_DrawSafeRun c_i_SafeRun c_s_SafeRun c_i_RulesAllow t.1 t.2.1.1 t.2.1.2.1 t.2.1.2.2.1 t.2.1.2.2.2.1 t.2.2.1 t.2.2.2.1 t.2.2.2.2.1 t.2.2.2.2.2.1 t.2.2.2.2.2.2.1) (r17.1.1, (r17.1.2.1.1, r17.1.2.1.2.1, r17.1.2.1.2.2.1, r17.1.2.1.2.2.2.1, ()), r23.1.1, r23.1.2.1, r29.1.1, r29.1.2.1, true, ())
    else
      bif (r23.1.2.1 != r29.1.2.1) then
        jn (fun t => B_l_FnSafeRunWider_J0 k c_s_DrawSafeRun c_i_SafeRun c_s_SafeRun c_i_RulesAllow t.1 t.2.1.1 t.2.1.2.1 t.2.1.2.2.1 t.2.1.2.2.2.1 t.2.2.1 t.2.2.2.1 t.2.2.2.2.1 t.2.2.2.2.2.1 t.2.2.2.2.2.2.1) (r17.1.1, (r17.1.2.1.1, r17.1.2.1.2.1, r17.1.2.1.2.2.1, r17.1.2.1.2.2.2.1, ()), r23.1.1, r23.1.2.1, r29.1.1, r29.1.2.1, true, ())
      else
        jn (fun t => B_l_FnSafeRunWider_J0 k c_s_DrawSafeRun c_i_SafeRun c_s_SafeRun c_i_RulesAllow t.1 t.2.1.1 t.2.1.2.1 t.2.1.2.2.1 t.2.1.2.2.2.1 t.2.2.1 t.2.2.2.1 t.2.2.2.2.1 t.2.2.2.2.2.1 t.2.2.2.2.2.2.1) (r17.1.1, (r17.1.2.1.1, r17.1.2.1.2.1, r17.1.2.1.2.2.1, r17.1.2.1.2.2.2.1, ()), r23.1.1, r23.1.2.1, r29.1.1, r29.1.2.1, decide (r23.1.1 < 0), ())
def F_l_FnSafeRunWider : Nat → C_l_FnSafeRunWider
  | 0, _ => none
  | k + 1, code => B_l_FnSafeRunWider k (F_s_DrawSafeRun k) (F_i_SafeRun k) (F_s_SafeRun k) (F_i_RulesAllow k) code
theorem tot_l_FnSafeRunWider {code : _} {Q : _ → Prop} (h : Tot (fun σ => B_l_FnSafeRunWider (σ 0) (F_s_DrawSafeRun (σ 0)) (F_i_SafeRun (σ 0)) (F_s_SafeRun (σ 0)) (F_i_RulesAllow (σ 0)) code) Q) : Tot (fun σ => F_l_FnSafeRunWider (σ 0) code) Q :=
  Tot.call (F := fun k => F_l_FnSafeRunWider k code) (B := fun k => B_l_FnSafeRunWider k (F_s_DrawSafeRun k) (F_i_SafeRun k) (F_s_SafeRun k) (F_i_RulesAllow k) code) (fun k => rfl) h
end Go.Gx

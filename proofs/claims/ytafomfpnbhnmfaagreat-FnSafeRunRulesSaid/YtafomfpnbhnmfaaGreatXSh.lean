/-
  The functions, as Gx tells them (printed by gen.py).
-/
import Derived.Test.YtafomfpnbhnmfaaGreatXSh1
set_option linter.unusedVariables false
namespace Go.Gx
abbrev A_Z84_L2 (Z : Type) : Type := (List (Int × Int)) → Int → Int → Int → List Int → (List (Int × Int × List Int)) → List Int → List Int → Bool → (List (Int × Int)) → Int → Int → Z
abbrev u_Z84_L2 {Z : Type} (f : A_Z84_L2 Z) (t : T_Z84_L2) : Z := f t.1 t.2.1.1 t.2.1.2.1 t.2.1.2.2.1 t.2.1.2.2.2.1 t.2.2.1.1 t.2.2.1.2.1 t.2.2.1.2.2.1 t.2.2.1.2.2.2.1 t.2.2.2.1 t.2.2.2.2.1 t.2.2.2.2.2.1
theorem loop_Z84_L2 {Q : A_Z84_L2 (((Int × Int × Unit) × (Unit)) → Prop)} (I : A_Z84_L2 Prop) (μ : A_Z84_L2 Nat)
    (step : ∀ a0 a1 a2 a3 a4 a5 a6 a7 a8 a9 a10 a11, I a0 a1 a2 a3 a4 a5 a6 a7 a8 a9 a10 a11 → ∀ again : (Nat → Nat) → T_Z84_L2 → R_Z84, Dep 2 again → (∀ y0 y1 y2 y3 y4 y5 y6 y7 y8 y9 y10 y11, I y0 y1 y2 y3 y4 y5 y6 y7 y8 y9 y10 y11 → μ y0 y1 y2 y3 y4 y5 y6 y7 y8 y9 y10 y11 < μ a0 a1 a2 a3 a4 a5 a6 a7 a8 a9 a10 a11 → Tot (fun σ => again σ (y0, (y1, y2, y3, y4, ()), (y5, y6, y7, y8, ()), y9, y10, y11, ())) (Q y0 y1 y2 y3 y4 y5 y6 y7 y8 y9 y10 y11)) →
      Tot (fun σ => B_Z84_L2b (σ 0) (F_Z71 (σ 0)) (F_Z52 (σ 0)) (F_Z50 (σ 0)) (F_Z32 (σ 0)) (F_Z17 (σ 0)) (again σ) a0 a1 a2 a3 a4 a5 a6 a7 a8 a9 a10 a11) (Q a0 a1 a2 a3 a4 a5 a6 a7 a8 a9 a10 a11)) :
    ∀ a0 a1 a2 a3 a4 a5 a6 a7 a8 a9 a10 a11, I a0 a1 a2 a3 a4 a5 a6 a7 a8 a9 a10 a11 → Tot (fun σ => B_Z84_L2 (σ 0) (F_Z71 (σ 0)) (F_Z52 (σ 0)) (F_Z50 (σ 0)) (F_Z32 (σ 0)) (F_Z17 (σ 0)) (σ 0) (a0, (a1, a2, a3, a4, ()), (a5, a6, a7, a8, ()), a9, a10, a11, ())) (Q a0 a1 a2 a3 a4 a5 a6 a7 a8 a9 a10 a11) := fun a0 a1 a2 a3 a4 a5 a6 a7 a8 a9 a10 a11 => Tot.loop0 (L := fun k => B_Z84_L2 k (F_Z71 k) (F_Z52 k) (F_Z50 k) (F_Z32 k) (F_Z17 k)) (B := fun k g => u_Z84_L2 (B_Z84_L2b k (F_Z71 k) (F_Z52 k) (F_Z50 k) (F_Z32 k) (F_Z17 k) g)) (Q := u_Z84_L2 Q) (fun _ _ _ => rfl) (u_Z84_L2 I) (u_Z84_L2 μ)
    (fun t ht again hag h => step t.1 t.2.1.1 t.2.1.2.1 t.2.1.2.2.1 t.2.1.2.2.2.1 t.2.2.1.1 t.2.2.1.2.1 t.2.2.1.2.2.1 t.2.2.1.2.2.2.1 t.2.2.2.1 t.2.2.2.2.1 t.2.2.2.2.2.1 ht again hag fun y0 y1 y2 y3 y4 y5 y6 y7 y8 y9 y10 y11 => h (y0, (y1, y2, y3, y4, ()), (y5, y6, y7, y8, ()), y9, y10, y11, ())) (a0, (a1, a2, a3, a4, ()), (a5, a6, a7, a8, ()), a9, a10, a11, ())
abbrev R_Z46 : Type := Option ((Bool × Unit) × (Unit))
abbrev C_Z46 : Type := Int → Int → Int → List Int → R_Z46
abbrev T_Z46_L1 : Type := (Int × Int × Int × List Int × Unit) × Int × Unit
def B_Z46_J0 (k : Nat) (c_Z92 : C_Z92) (c_Z82 : C_Z82) (again1 : T_Z46_L1 → R_Z46) (r_Steps r_Nodes r_Deep : Int) (r_Classes : List Int) (i : Int) (t30 : Bool) : R_Z46 :=
  bif t30 then
    some ((false, ()), ())
  else
    again1 ((r_Steps, r_Nodes, r_Deep, r_Classes, ()), w64 (i + 1), ())
def B_Z46_L1b (k : Nat) (c_Z92 : C_Z92) (c_Z82 : C_Z82) (again1 : T_Z46_L1 → R_Z46) (r_Steps r_Nodes r_Deep : Int) (r_Classes : List Int) (i : Int) : R_Z46 :=
  bif decide (i < (len r_Classes)) then
    chk (inb i r_Classes.length) <|
    (c_Z92 (rdx (0 : Int) r_Classes i) 0 9).bind fun r16 =>
    bif (!r16.1.1) then
      jn (fun t => B_Z46_J0 k c_Z92 c_Z82 again1 t.1.1 t.1.2.1 t.1.2.2.1 t.1.2.2.2.1 t.2.1 t.2.2.1) ((r_Steps, r_Nodes, r_Deep, r_Classes, ()), i, true, ())
    else
      chk (cutb 0 i r_Classes.length) <|
      chk (inb i r_Classes.length) <|
      (c_Z82 (sub r_Classes 0 i) (rdx (0 : Int) r_Classes i)).bind fun r28 =>
      jn (fun t => B_Z46_J0 k c_Z92 c_Z82 again1 t.1.1 t.1.2.1 t.1.2.2.1 t.1.2.2.2.1 t.2.1 t.2.2.1) ((r_Steps, r_Nodes, r_Deep, r_Classes, ()), i, decide (r28.1.1 ≥ 0), ())
  else
    (c_Z92 r_Steps 0 300).bind fun r33 =>
    bif r33.1.1 then
      (c_Z92 r_Nodes 0 300).bind fun r37 =>
      bif r37.1.1 then
        (c_Z92 r_Deep 0 300).bind fun r42 =>
        some ((r42.1.1, ()), ())
      else
        some ((false, ()), ())
    else
      some ((false, ()), ())
def B_Z46_L1 (k : Nat) (c_Z92 : C_Z92) (c_Z82 : C_Z82) (n : Nat) (t : T_Z46_L1) : R_Z46 :=
  lfix n (fun again t => B_Z46_L1b k c_Z92 c_Z82 again t.1.1 t.1.2.1 t.1.2.2.1 t.1.2.2.2.1 t.2.1) t
def B_Z46 (k : Nat) (c_Z92 : C_Z92) (c_Z82 : C_Z82) (r_0 r_1 r_2 : Int) (r_3 : List Int) : R_Z46 :=
  B_Z46_L1 k c_Z92 c_Z82 k ((r_0, r_1, r_2, r_3, ()), 0, ())
def F_Z46 : Nat → C_Z46
  | 0, _, _, _, _ => none
  | k + 1, r_0, r_1, r_2, r_3 => B_Z46 k (F_Z92 k) (F_Z82 k) r_0 r_1 r_2 r_3
theorem tot_Z46 {r_0 r_1 r_2 r_3 : _} {Q : _ → Prop} (h : Tot (fun σ => B_Z46 (σ 0) (F_Z92 (σ 0)) (F_Z82 (σ 0)) r_0 r_1 r_2 r_3) Q) : Tot (fun σ => F_Z46 (σ 0) r_0 r_1 r_2 r_3) Q :=
  Tot.call (F := fun k => F_Z46 k r_0 r_1 r_2 r_3) (B := fun k => B_Z46 k (F_Z92 k) (F_Z82 k) r_0 r_1 r_2 r_3) (fun k => rfl) h
abbrev A_Z46_L1 (Z : Type) : Type := Int → Int → Int → List Int → Int → Z
abbrev u_Z46_L1 {Z : Type} (f : A_Z46_L1 Z) (t : T_Z46_L1) : Z := f t.1.1 t.1.2.1 t.1.2.2.1 t.1.2.2.2.1 t.2.1
theorem loop_Z46_L1 {Q : A_Z46_L1 (((Bool × Unit) × (Unit)) → Prop)} (I : A_Z46_L1 Prop) (μ : A_Z46_L1 Nat)
    (step : ∀ a0 a1 a2 a3 a4, I a0 a1 a2 a3 a4 → ∀ again : (Nat → Nat) → T_Z46_L1 → R_Z46, Dep 2 again → (∀ y0 y1 y2 y3 y4, I y0 y1 y2 y3 y4 → μ y0 y1 y2 y3 y4 < μ a0 a1 a2 a3 a4 → Tot (fun σ => again σ ((y0, y1, y2, y3, ()), y4, ())) (Q y0 y1 y2 y3 y4)) →
      Tot (fun σ => B_Z46_L1b (σ 0) (F_Z92 (σ 0)) (F_Z82 (σ 0)) (again σ) a0 a1 a2 a3 a4) (Q a0 a1 a2 a3 a4)) :
    ∀ a0 a1 a2 a3 a4, I a0 a1 a2 a3 a4 → Tot (fun σ => B_Z46_L1 (σ 0) (F_Z92 (σ 0)) (F_Z82 (σ 0)) (σ 0) ((a0, a1, a2, a3, ()), a4, ())) (Q a0 a1 a2 a3 a4) := fun a0 a1 a2 a3 a4 => Tot.loop0 (L := fun k => B_Z46_L1 k (F_Z92 k) (F_Z82 k)) (B := fun k g => u_Z46_L1 (B_Z46_L1b k (F_Z92 k) (F_Z82 k) g)) (Q := u_Z46_L1 Q) (fun _ _ _ => rfl) (u_Z46_L1 I) (u_Z46_L1 μ)
    (fun t ht again hag h => step t.1.1 t.1.2.1 t.1.2.2.1 t.1.2.2.2.1 t.2.1 ht again hag fun y0 y1 y2 y3 y4 => h ((y0, y1, y2, y3, ()), y4, ())) ((a0, a1, a2, a3, ()), a4, ())
abbrev R_s_breach : Type := Option ((Int × Unit) × (Unit))
abbrev C_s_breach : Type := Int → Int → Int → List Int → Int → Int → List Int → List Bool → List Int → List Int → Bool → Int → R_s_breach
def B_s_breach_J0 (k : Nat) (c_Z82 : C_Z82) (r_Steps r_Nodes r_Deep : Int) (r_Classes s_Kinds : List Int) (s_Full : List Bool) (s_Stack s_Memo : List Int) (s_Done t23 : Bool) : R_s_breach :=
  bif t23 then
    some ((3, ()), ())
  else
    bif decide ((len s_Kinds) > r_Nodes) then
      some ((4, ()), ())
    else
      bif decide ((len s_Stack) > r_Deep) then
        some ((5, ()), ())
      else
        some ((0, ()), ())
def B_s_breach (k : Nat) (c_Z82 : C_Z82) (r_0 r_1 r_2 : Int) (r_3 : List Int) (o_0 o_1 : Int) (s_0 : List Int) (s_1 : List Bool) (s_2 s_3 : List Int) (s_4 : Bool) (done : Int) : R_s_breach :=
  bif decide (done > r_0) then
    some ((2, ()), ())
  else
    bif (o_0 == 13) then
      (c_Z82 r_3 o_1).bind fun r21 =>
      jn (fun t => B_s_breach_J0 k c_Z82 t.1.1 t.1.2.1 t.1.2.2.1 t.1.2.2.2.1 t.2.1.1 t.2.1.2.1 t.2.1.2.2.1 t.2.1.2.2.2.1 t.2.1.2.2.2.2.1 t.2.2.1) ((r_0, r_1, r_2, r_3, ()), (s_0, s_1, s_2, s_3, s_4, ()), decide (r21.1.1 < 0), ())
    else
      jn (fun t => B_s_breach_J0 k c_Z82 t.1.1 t.1.2.1 t.1.2.2.1 t.1.2.2.2.1 t.2.1.1 t.2.1.2.1 t.2.1.2.2.1 t.2.1.2.2.2.1 t.2.1.2.2.2.2.1 t.2.2.1) ((r_0, r_1, r_2, r_3, ()), (s_0, s_1, s_2, s_3, s_4, ()), false, ())
def F_s_breach : Nat → C_s_breach
  | 0, _, _, _, _, _, _, _, _, _, _, _, _ => none
  | k + 1, r_0, r_1, r_2, r_3, o_0, o_1, s_0, s_1, s_2, s_3, s_4, done => B_s_breach k (F_Z82 k) r_0 r_1 r_2 r_3 o_0 o_1 s_0 s_1 s_2 s_3 s_4 done
theorem tot_s_breach {r_0 r_1 r_2 r_3 o_0 o_1 s_0 s_1 s_2 s_3 s_4 done : _} {Q : _ → Prop} (h : Tot (fun σ => B_s_breach (σ 0) (F_Z82 (σ 0)) r_0 r_1 r_2 r_3 o_0 o_1 s_0 s_1 s_2 s_3 s_4 done) Q) : Tot (fun σ => F_s_breach (σ 0) r_0 r_1 r_2 r_3 o_0 o_1 s_0 s_1 s_2 s_3 s_4 done) Q :=
  Tot.call (F := fun k => F_s_breach k r_0 r_1 r_2 r_3 o_0 o_1 s_0 s_1 s_2 s_3 s_4 done) (B := fun k => B_s_breach k (F_Z82 k) r_0 r_1 r_2 r_3 o_0 o_1 s_0 s_1 s_2 s_3 s_4 done) (fun k => rfl) h
abbrev R_s_safe : Type := Option ((Int × Int × Unit) × (Unit))
abbrev C_s_safe : Type := (List (Int × Int)) → Int → Int → Int → List Int → R_s_safe
abbrev T_s_safe_L0 : Type := (List (Int × Int)) × (Int × Int × Int × List Int × Unit) × (List Int × List Bool × List Int × List Int × Bool × Unit) × Int × Unit
def B_s_safe_L0b (k : Nat) (c_Z67 : C_Z67) (c_Z45 : C_Z45) (c_Z44 : C_Z44) (c_s_breach : C_s_breach) (again0 : T_s_safe_L0 → R_s_safe) (ops : List (Int × Int)) (r_Steps r_Nodes r_Deep : Int) (r_Classes s_Kinds : List Int) (s_Full : List Bool) (s_Stack s_Memo : List Int) (s_Done : Bool) (i : Int) : R_s_safe :=
  bif decide (i < (len ops)) then
    (c_Z45 s_Kinds s_Full s_Stack s_Memo s_Done).bind fun r20 =>
    chk (inb i ops.length) <|
    (c_Z44 r20.1.1.1 r20.1.1.2.1 r20.1.1.2.2.1 r20.1.1.2.2.2.1 r20.1.1.2.2.2.2.1 ((rdx ((0 : Int), (0 : Int)) ops i).1) ((rdx ((0 : Int), (0 : Int)) ops i).2)).bind fun r25 =>
    bif (!r25.1.2.1) then
      some ((i, 1, ()), ())
    else
      chk (inb i ops.length) <|
      (c_s_breach r_Steps r_Nodes r_Deep r_Classes ((rdx ((0 : Int), (0 : Int)) ops i).1) ((rdx ((0 : Int), (0 : Int)) ops i).2) r25.1.1.1 r25.1.1.2.1 r25.1.1.2.2.1 r25.1.1.2.2.2.1 r25.1.1.2.2.2.2.1 (w64 (i + 1))).bind fun r39 =>
      bif (r39.1.1 != 0) then
        some ((i, r39.1.1, ()), ())
      else
        again0 (ops, (r_Steps, r_Nodes, r_Deep, r_Classes, ()), (r25.1.1.1, r25.1.1.2.1, r25.1.1.2.2.1, r25.1.1.2.2.2.1, r25.1.1.2.2.2.2.1, ()), w64 (i + 1), ())
  else
    bif (!s_Done) then
      some ((len ops, 6, ()), ())
    else
      some ((len ops, 0, ()), ())
def B_s_safe_L0 (k : Nat) (c_Z67 : C_Z67) (c_Z45 : C_Z45) (c_Z44 : C_Z44) (c_s_breach : C_s_breach) (n : Nat) (t : T_s_safe_L0) : R_s_safe :=
  lfix n (fun again t => B_s_safe_L0b k c_Z67 c_Z45 c_Z44 c_s_breach again t.1 t.2.1.1 t.2.1.2.1 t.2.1.2.2.1 t.2.1.2.2.2.1 t.2.2.1.1 t.2.2.1.2.1 t.2.2.1.2.2.1 t.2.2.1.2.2.2.1 t.2.2.1.2.2.2.2.1 t.2.2.2.1) t
def B_s_safe (k : Nat) (c_Z67 : C_Z67) (c_Z45 : C_Z45) (c_Z44 : C_Z44) (c_s_breach : C_s_breach) (ops : List (Int × Int)) (r_0 r_1 r_2 : Int) (r_3 : List Int) : R_s_safe :=
  (c_Z67).bind fun r11 =>
  B_s_safe_L0 k c_Z67 c_Z45 c_Z44 c_s_breach k (ops, (r_0, r_1, r_2, r_3, ()), (r11.1.1.1, r11.1.1.2.1, r11.1.1.2.2.1, r11.1.1.2.2.2.1, r11.1.1.2.2.2.2.1, ()), 0, ())
def F_s_safe : Nat → C_s_safe
  | 0, _, _, _, _, _ => none
  | k + 1, ops, r_0, r_1, r_2, r_3 => B_s_safe k (F_Z67 k) (F_Z45 k) (F_Z44 k) (F_s_breach k) ops r_0 r_1 r_2 r_3
theorem tot_s_safe {ops r_0 r_1 r_2 r_3 : _} {Q : _ → Prop} (h : Tot (fun σ => B_s_safe (σ 0) (F_Z67 (σ 0)) (F_Z45 (σ 0)) (F_Z44 (σ 0)) (F_s_breach (σ 0)) ops r_0 r_1 r_2 r_3) Q) : Tot (fun σ => F_s_safe (σ 0) ops r_0 r_1 r_2 r_3) Q :=
  Tot.call (F := fun k => F_s_safe k ops r_0 r_1 r_2 r_3) (B := fun k => B_s_safe k (F_Z67 k) (F_Z45 k) (F_Z44 k) (F_s_breach k) ops r_0 r_1 r_2 r_3) (fun k => rfl) h
abbrev A_s_safe_L0 (Z : Type) : Type := (List (Int × Int)) → Int → Int → Int → List Int → List Int → List Bool → List Int → List Int → Bool → Int → Z
abbrev u_s_safe_L0 {Z : Type} (f : A_s_safe_L0 Z) (t : T_s_safe_L0) : Z := f t.1 t.2.1.1 t.2.1.2.1 t.2.1.2.2.1 t.2.1.2.2.2.1 t.2.2.1.1 t.2.2.1.2.1 t.2.2.1.2.2.1 t.2.2.1.2.2.2.1 t.2.2.1.2.2.2.2.1 t.2.2.2.1
theorem loop_s_safe_L0 {Q : A_s_safe_L0 (((Int × Int × Unit) × (Unit)) → Prop)} (I : A_s_safe_L0 Prop) (μ : A_s_safe_L0 Nat)
    (step : ∀ a0 a1 a2 a3 a4 a5 a6 a7 a8 a9 a10, I a0 a1 a2 a3 a4 a5 a6 a7 a8 a9 a10 → ∀ again : (Nat → Nat) → T_s_safe_L0 → R_s_safe, Dep 2 again → (∀ y0 y1 y2 y3 y4 y5 y6 y7 y8 y9 y10, I y0 y1 y2 y3 y4 y5 y6 y7 y8 y9 y10 → μ y0 y1 y2 y3 y4 y5 y6 y7 y8 y9 y10 < μ a0 a1 a2 a3 a4 a5 a6 a7 a8 a9 a10 → Tot (fun σ => again σ (y0, (y1, y2, y3, y4, ()), (y5, y6, y7, y8, y9, ()), y10, ())) (Q y0 y1 y2 y3 y4 y5 y6 y7 y8 y9 y10)) →
      Tot (fun σ => B_s_safe_L0b (σ 0) (F_Z67 (σ 0)) (F_Z45 (σ 0)) (F_Z44 (σ 0)) (F_s_breach (σ 0)) (again σ) a0 a1 a2 a3 a4 a5 a6 a7 a8 a9 a10) (Q a0 a1 a2 a3 a4 a5 a6 a7 a8 a9 a10)) :
    ∀ a0 a1 a2 a3 a4 a5 a6 a7 a8 a9 a10, I a0 a1 a2 a3 a4 a5 a6 a7 a8 a9 a10 → Tot (fun σ => B_s_safe_L0 (σ 0) (F_Z67 (σ 0)) (F_Z45 (σ 0)) (F_Z44 (σ 0)) (F_s_breach (σ 0)) (σ 0) (a0, (a1, a2, a3, a4, ()), (a5, a6, a7, a8, a9, ()), a10, ())) (Q a0 a1 a2 a3 a4 a5 a6 a7 a8 a9 a10) := fun a0 a1 a2 a3 a4 a5 a6 a7 a8 a9 a10 => Tot.loop0 (L := fun k => B_s_safe_L0 k (F_Z67 k) (F_Z45 k) (F_Z44 k) (F_s_breach k)) (B := fun k g => u_s_safe_L0 (B_s_safe_L0b k (F_Z67 k) (F_Z45 k) (F_Z44 k) (F_s_breach k) g)) (Q := u_s_safe_L0 Q) (fun _ _ _ => rfl) (u_s_safe_L0 I) (u_s_safe_L0 μ)
    (fun t ht again hag h => step t.1 t.2.1.1 t.2.1.2.1 t.2.1.2.2.1 t.2.1.2.2.2.1 t.2.2.1.1 t.2.2.1.2.1 t.2.2.1.2.2.1 t.2.2.1.2.2.2.1 t.2.2.1.2.2.2.2.1 t.2.2.2.1 ht again hag fun y0 y1 y2 y3 y4 y5 y6 y7 y8 y9 y10 => h (y0, (y1, y2, y3, y4, ()), (y5, y6, y7, y8, y9, ()), y10, ())) (a0, (a1, a2, a3, a4, ()), (a5, a6, a7, a8, a9, ()), a10, ())
abbrev R_Z79 : Type := Option ((Int × Int × Unit) × (Unit))
abbrev C_Z79 : Type := (List (Int × Int)) → Int → Int → Int → List Int → R_Z79
def B_Z79_J0 (k : Nat) (c_Z77 : C_Z77) (c_Z46 : C_Z46) (c_s_safe : C_s_safe) (ops : List (Int × Int)) (r_Steps r_Nodes r_Deep : Int) (r_Classes : List Int) (t13 : Bool) : R_Z79 :=
  bif t13 then
    some (((-1), (-1), ()), ())
  else
    (c_s_safe ops r_Steps r_Nodes r_Deep r_Classes).bind fun r16 =>
    some ((r16.1.1, r16.1.2.1, ()), ())
def B_Z79 (k : Nat) (c_Z77 : C_Z77) (c_Z46 : C_Z46) (c_s_safe : C_s_safe) (ops : List (Int × Int)) (r_0 r_1 r_2 : Int) (r_3 : List Int) : R_Z79 :=
  (c_Z77 ops).bind fun r7 =>
  bif (!r7.1.1) then
    jn (fun t => B_Z79_J0 k c_Z77 c_Z46 c_s_safe t.1 t.2.1.1 t.2.1.2.1 t.2.1.2.2.1 t.2.1.2.2.2.1 t.2.2.1) (ops, (r_0, r_1, r_2, r_3, ()), true, ())
  else
    (c_Z46 r_0 r_1 r_2 r_3).bind fun r11 =>
    jn (fun t => B_Z79_J0 k c_Z77 c_Z46 c_s_safe t.1 t.2.1.1 t.2.1.2.1 t.2.1.2.2.1 t.2.1.2.2.2.1 t.2.2.1) (ops, (r_0, r_1, r_2, r_3, ()), (!r11.1.1), ())
def F_Z79 : Nat → C_Z79
  | 0, _, _, _, _, _ => none
  | k + 1, ops, r_0, r_1, r_2, r_3 => B_Z79 k (F_Z77 k) (F_Z46 k) (F_s_safe k) ops r_0 r_1 r_2 r_3
theorem tot_Z79 {ops r_0 r_1 r_2 r_3 : _} {Q : _ → Prop} (h : Tot (fun σ => B_Z79 (σ 0) (F_Z77 (σ 0)) (F_Z46 (σ 0)) (F_s_safe (σ 0)) ops r_0 r_1 r_2 r_3) Q) : Tot (fun σ => F_Z79 (σ 0) ops r_0 r_1 r_2 r_3) Q :=
  Tot.call (F := fun k => F_Z79 k ops r_0 r_1 r_2 r_3) (B := fun k => B_Z79 k (F_Z77 k) (F_Z46 k) (F_s_safe k) ops r_0 r_1 r_2 r_3) (fun k => rfl) h
abbrev R_Z61 : Type := Option (((List (Int × Int × List Int)) × Unit) × (Unit))
abbrev C_Z61 : Type := (List (Int × Int × List Int)) → R_Z61
abbrev T_Z61_L0 : Type := (List (Int × Int × List Int)) × (List (Int × Int × List Int)) × Int × Int × Unit
def B_Z61_L0b (k : Nat) (c_Z22 : C_Z22) (again0 : T_Z61_L0 → R_Z61) (out t7 : List (Int × Int × List Int)) (t8 t9 : Int) : R_Z61 :=
  bif decide (t9 < t8) then
    chk (inb t9 t7.length) <|
    (c_Z22 (((rdx ((0 : Int), ((0 : Int), ([] : List Int))) t7 t9).2).2)).bind fun r20 =>
    chk (room out.length ([((rdx ((0 : Int), ((0 : Int), ([] : List Int))) t7 t9).1, (((rdx ((0 : Int), ((0 : Int), ([] : List Int))) t7 t9).2).1, r20.1.1))]).length) <|
    again0 ((out ++ [((rdx ((0 : Int), ((0 : Int), ([] : List Int))) t7 t9).1, (((rdx ((0 : Int), ((0 : Int), ([] : List Int))) t7 t9).2).1, r20.1.1))]), t7, t8, w64 (t9 + 1), ())
  else
    some ((out, ()), ())
def B_Z61_L0 (k : Nat) (c_Z22 : C_Z22) (n : Nat) (t : T_Z61_L0) : R_Z61 :=
  lfix n (fun again t => B_Z61_L0b k c_Z22 again t.1 t.2.1 t.2.2.1 t.2.2.2.1) t
def B_Z61 (k : Nat) (c_Z22 : C_Z22) (nodes : List (Int × Int × List Int)) : R_Z61 :=
  B_Z61_L0 k c_Z22 k ([], nodes, len nodes, 0, ())
def F_Z61 : Nat → C_Z61
  | 0, _ => none
  | k + 1, nodes => B_Z61 k (F_Z22 k) nodes
theorem tot_Z61 {nodes : _} {Q : _ → Prop} (h : Tot (fun σ => B_Z61 (σ 0) (F_Z22 (σ 0)) nodes) Q) : Tot (fun σ => F_Z61 (σ 0) nodes) Q :=
  Tot.call (F := fun k => F_Z61 k nodes) (B := fun k => B_Z61 k (F_Z22 k) nodes) (fun k => rfl) h
abbrev A_Z61_L0 (Z : Type) : Type := (List (Int × Int × List Int)) → (List (Int × Int × List Int)) → Int → Int → Z
abbrev u_Z61_L0 {Z : Type} (f : A_Z61_L0 Z) (t : T_Z61_L0) : Z := f t.1 t.2.1 t.2.2.1 t.2.2.2.1
theorem loop_Z61_L0 {Q : A_Z61_L0 ((((List (Int × Int × List Int)) × Unit) × (Unit)) → Prop)} (I : A_Z61_L0 Prop) (μ : A_Z61_L0 Nat)
    (step : ∀ a0 a1 a2 a3, I a0 a1 a2 a3 → ∀ again : (Nat → Nat) → T_Z61_L0 → R_Z61, Dep 2 again → (∀ y0 y1 y2 y3, I y0 y1 y2 y3 → μ y0 y1 y2 y3 < μ a0 a1 a2 a3 → Tot (fun σ => again σ (y0, y1, y2, y3, ())) (Q y0 y1 y2 y3)) →
      Tot (fun σ => B_Z61_L0b (σ 0) (F_Z22 (σ 0)) (again σ) a0 a1 a2 a3) (Q a0 a1 a2 a3)) :
    ∀ a0 a1 a2 a3, I a0 a1 a2 a3 → Tot (fun σ => B_Z61_L0 (σ 0) (F_Z22 (σ 0)) (σ 0) (a0, a1, a2, a3, ())) (Q a0 a1 a2 a3) := fun a0 a1 a2 a3 => Tot.loop0 (L := fun k => B_Z61_L0 k (F_Z22 k)) (B := fun k g => u_Z61_L0 (B_Z61_L0b k (F_Z22 k) g)) (Q := u_Z61_L0 Q) (fun _ _ _ => rfl) (u_Z61_L0 I) (u_Z61_L0 μ)
    (fun t ht again hag h => step t.1 t.2.1 t.2.2.1 t.2.2.2.1 ht again hag fun y0 y1 y2 y3 => h (y0, y1, y2, y3, ())) (a0, a1, a2, a3, ())
abbrev R_Z39 : Type := Option ((((List (Int × Int × List Int)) × List Int × List Int × Bool × Unit) × Unit) × (Unit))
abbrev C_Z39 : Type := (List (Int × Int × List Int)) → List Int → List Int → Bool → R_Z39
def B_Z39 (k : Nat) (c_Z61 : C_Z61) (c_Z22 : C_Z22) (m_0 : List (Int × Int × List Int)) (m_1 m_2 : List Int) (m_3 : Bool) : R_Z39 :=
  (c_Z61 m_0).bind fun r5 =>
  (c_Z22 m_1).bind fun r8 =>
  (c_Z22 m_2).bind fun r11 =>
  some (((r5.1.1, r8.1.1, r11.1.1, m_3, ()), ()), ())
def F_Z39 : Nat → C_Z39
  | 0, _, _, _, _ => none
  | k + 1, m_0, m_1, m_2, m_3 => B_Z39 k (F_Z61 k) (F_Z22 k) m_0 m_1 m_2 m_3
theorem tot_Z39 {m_0 m_1 m_2 m_3 : _} {Q : _ → Prop} (h : Tot (fun σ => B_Z39 (σ 0) (F_Z61 (σ 0)) (F_Z22 (σ 0)) m_0 m_1 m_2 m_3) Q) : Tot (fun σ => F_Z39 (σ 0) m_0 m_1 m_2 m_3) Q :=
  Tot.call (F := fun k => F_Z39 k m_0 m_1 m_2 m_3) (B := fun k => B_Z39 k (F_Z61 k) (F_Z22 k) m_0 m_1 m_2 m_3) (fun k => rfl) h
abbrev R_Z53 : Type := Option ((Unit) × (Unit))
abbrev C_Z53 : Type := (List (Int × Int × List Int)) → List Int → List Int → Bool → R_Z53
def B_Z53 (k : Nat) (t0_0 : List (Int × Int × List Int)) (t0_1 t0_2 : List Int) (t0_3 : Bool) : R_Z53 :=
  some ((), ())
def F_Z53 : Nat → C_Z53
  | 0, _, _, _, _ => none
  | k + 1, t0_0, t0_1, t0_2, t0_3 => B_Z53 k t0_0 t0_1 t0_2 t0_3
theorem tot_Z53 {t0_0 t0_1 t0_2 t0_3 : _} {Q : _ → Prop} (h : Tot (fun σ => B_Z53 (σ 0) t0_0 t0_1 t0_2 t0_3) Q) : Tot (fun σ => F_Z53 (σ 0) t0_0 t0_1 t0_2 t0_3) Q :=
  Tot.call (F := fun k => F_Z53 k t0_0 t0_1 t0_2 t0_3) (B := fun k => B_Z53 k t0_0 t0_1 t0_2 t0_3) (fun k => rfl) h
abbrev R_Z16 : Type := Option ((((List (Int × Int × List Int)) × List Int × List Int × Bool × Unit) × Int × Unit) × (Unit))
abbrev C_Z16 : Type := (List (Int × Int)) → R_Z16
abbrev T_Z16_L0 : Type := (List (Int × Int)) × Unit × (Unit × Unit × Unit × Bool × Unit) × ((List (Int × Int × List Int)) × List Int × List Int × Bool × Unit) × (List (Int × Int)) × Int × Int × Unit
def B_Z16_L0b (k : Nat) (c_Z50 : C_Z50) (c_Z32 : C_Z32) (c_Z39 : C_Z39) (c_Z53 : C_Z53) (again0 : T_Z16_L0 → R_Z16) (ops : List (Int × Int)) (t4_Done : Bool) (m_Nodes : List (Int × Int × List Int)) (m_Stack m_Memo : List Int) (m_Done : Bool) (t10 : List (Int × Int)) (t11 t12 : Int) : R_Z16 :=
  bif decide (t12 < t11) then
    chk (inb t12 t10.length) <|
    (c_Z32 m_Nodes m_Stack m_Memo m_Done ((rdx ((0 : Int), (0 : Int)) t10 t12).1) ((rdx ((0 : Int), (0 : Int)) t10 t12).2)).bind fun r18 =>
    bif (!r18.1.1) then
      (r18.2.1.1).bind fun p25 =>
      (c_Z39 p25 r18.2.1.2.1 r18.2.1.2.2.1 r18.2.1.2.2.2.1).bind fun r21 =>
      some (((r21.1.1.1, r21.1.1.2.1, r21.1.1.2.2.1, r21.1.1.2.2.2.1, ()), t12, ()), ())
    else
      (r18.2.1.1).bind fun p26 =>
      (c_Z53 p26 r18.2.1.2.1 r18.2.1.2.2.1 r18.2.1.2.2.2.1).bind fun r25 =>
      (r18.2.1.1).bind fun p27 =>
      again0 (ops, (), ((), (), (), t4_Done, ()), (p27, r18.2.1.2.1, r18.2.1.2.2.1, r18.2.1.2.2.2.1, ()), t10, t11, w64 (t12 + 1), ())
  else
    (c_Z39 m_Nodes m_Stack m_Memo m_Done).bind fun r28 =>
    some (((r28.1.1.1, r28.1.1.2.1, r28.1.1.2.2.1, r28.1.1.2.2.2.1, ()), len ops, ()), ())
def B_Z16_L0 (k : Nat) (c_Z50 : C_Z50) (c_Z32 : C_Z32) (c_Z39 : C_Z39) (c_Z53 : C_Z53) (n : Nat) (t : T_Z16_L0) : R_Z16 :=
  lfix n (fun again t => B_Z16_L0b k c_Z50 c_Z32 c_Z39 c_Z53 again t.1 t.2.2.1.2.2.2.1 t.2.2.2.1.1 t.2.2.2.1.2.1 t.2.2.2.1.2.2.1 t.2.2.2.1.2.2.2.1 t.2.2.2.2.1 t.2.2.2.2.2.1 t.2.2.2.2.2.2.1) t
def B_Z16 (k : Nat) (c_Z50 : C_Z50) (c_Z32 : C_Z32) (c_Z39 : C_Z39) (c_Z53 : C_Z53) (ops : List (Int × Int)) : R_Z16 :=
  (c_Z50 0).bind fun r9 =>
  B_Z16_L0 k c_Z50 c_Z32 c_Z39 c_Z53 k (ops, (), ((), (), (), false, ()), (r9.1.1.1, [], r9.1.1.2.2.1, r9.1.1.2.2.2.1, ()), ops, len ops, 0, ())
def F_Z16 : Nat → C_Z16
  | 0, _ => none
  | k + 1, ops => B_Z16 k (F_Z50 k) (F_Z32 k) (F_Z39 k) (F_Z53 k) ops
theorem tot_Z16 {ops : _} {Q : _ → Prop} (h : Tot (fun σ => B_Z16 (σ 0) (F_Z50 (σ 0)) (F_Z32 (σ 0)) (F_Z39 (σ 0)) (F_Z53 (σ 0)) ops) Q) : Tot (fun σ => F_Z16 (σ 0) ops) Q :=
  Tot.call (F := fun k => F_Z16 k ops) (B := fun k => B_Z16 k (F_Z50 k) (F_Z32 k) (F_Z39 k) (F_Z53 k) ops) (fun k => rfl) h
abbrev A_Z16_L0 (Z : Type) : Type := (List (Int × Int)) → Bool → (List (Int × Int × List Int)) → List Int → List Int → Bool → (List (Int × Int)) → Int → Int → Z
abbrev u_Z16_L0 {Z : Type} (f : A_Z16_L0 Z) (t : T_Z16_L0) : Z := f t.1 t.2.2.1.2.2.2.1 t.2.2.2.1.1 t.2.2.2.1.2.1 t.2.2.2.1.2.2.1 t.2.2.2.1.2.2.2.1 t.2.2.2.2.1 t.2.2.2.2.2.1 t.2.2.2.2.2.2.1
theorem loop_Z16_L0 {Q : A_Z16_L0 (((((List (Int × Int × List Int)) × List Int × List Int × Bool × Unit) × Int × Unit) × (Unit)) → Prop)} (I : A_Z16_L0 Prop) (μ : A_Z16_L0 Nat)
    (step : ∀ a0 a1 a2 a3 a4 a5 a6 a7 a8, I a0 a1 a2 a3 a4 a5 a6 a7 a8 → ∀ again : (Nat → Nat) → T_Z16_L0 → R_Z16, Dep 2 again → (∀ y0 y1 y2 y3 y4 y5 y6 y7 y8, I y0 y1 y2 y3 y4 y5 y6 y7 y8 → μ y0 y1 y2 y3 y4 y5 y6 y7 y8 < μ a0 a1 a2 a3 a4 a5 a6 a7 a8 → Tot (fun σ => again σ (y0, (), ((), (), (), y1, ()), (y2, y3, y4, y5, ()), y6, y7, y8, ())) (Q y0 y1 y2 y3 y4 y5 y6 y7 y8)) →
      Tot (fun σ => B_Z16_L0b (σ 0) (F_Z50 (σ 0)) (F_Z32 (σ 0)) (F_Z39 (σ 0)) (F_Z53 (σ 0)) (again σ) a0 a1 a2 a3 a4 a5 a6 a7 a8) (Q a0 a1 a2 a3 a4 a5 a6 a7 a8)) :
    ∀ a0 a1 a2 a3 a4 a5 a6 a7 a8, I a0 a1 a2 a3 a4 a5 a6 a7 a8 → Tot (fun σ => B_Z16_L0 (σ 0) (F_Z50 (σ 0)) (F_Z32 (σ 0)) (F_Z39 (σ 0)) (F_Z53 (σ 0)) (σ 0) (a0, (), ((), (), (), a1, ()), (a2, a3, a4, a5, ()), a6, a7, a8, ())) (Q a0 a1 a2 a3 a4 a5 a6 a7 a8) := fun a0 a1 a2 a3 a4 a5 a6 a7 a8 => Tot.loop0 (L := fun k => B_Z16_L0 k (F_Z50 k) (F_Z32 k) (F_Z39 k) (F_Z53 k)) (B := fun k g => u_Z16_L0 (B_Z16_L0b k (F_Z50 k) (F_Z32 k) (F_Z39 k) (F_Z53 k) g)) (Q := u_Z16_L0 Q) (fun _ _ _ => rfl) (u_Z16_L0 I) (u_Z16_L0 μ)
    (fun t ht again hag h => step t.1 t.2.2.1.2.2.2.1 t.2.2.2.1.1 t.2.2.2.1.2.1 t.2.2.2.1.2.2.1 t.2.2.2.1.2.2.2.1 t.2.2.2.2.1 t.2.2.2.2.2.1 t.2.2.2.2.2.2.1 ht again hag fun y0 y1 y2 y3 y4 y5 y6 y7 y8 => h (y0, (), ((), (), (), y1, ()), (y2, y3, y4, y5, ()), y6, y7, y8, ())) (a0, (), ((), (), (), a1, ()), (a2, a3, a4, a5, ()), a6, a7, a8, ())
abbrev R_Z75 : Type := Option ((Int × Unit) × (Unit))
abbrev C_Z75 : Type := (List (Int × Int)) → R_Z75
def B_Z75 (k : Nat) (c_Z71 : C_Z71) (c_Z16 : C_Z16) (ops : List (Int × Int)) : R_Z75 :=
  (c_Z71 ops).bind fun r6 =>
  bif (!r6.1.1) then
    some (((-2), ()), ())
  else
    (c_Z16 ops).bind fun r10 =>
    bif (r10.1.2.1 == (len ops)) then
      some (((-1), ()), ())
    else
      some ((r10.1.2.1, ()), ())
def F_Z75 : Nat → C_Z75
  | 0, _ => none
  | k + 1, ops => B_Z75 k (F_Z71 k) (F_Z16 k) ops
theorem tot_Z75 {ops : _} {Q : _ → Prop} (h : Tot (fun σ => B_Z75 (σ 0) (F_Z71 (σ 0)) (F_Z16 (σ 0)) ops) Q) : Tot (fun σ => F_Z75 (σ 0) ops) Q :=
  Tot.call (F := fun k => F_Z75 k ops) (B := fun k => B_Z75 k (F_Z71 k) (F_Z16 k) ops) (fun k => rfl) h
abbrev R_Z76 : Type := Option ((Int × Unit) × (Unit))
abbrev C_Z76 : Type := Int → R_Z76
def B_Z76_J2 (k : Nat) (x n2 : Int) : R_Z76 :=
  chk (inb (wu8 (x)) (ByteArray.mk #[0, 1, 2, 2, 3, 3, 3, 3, 4, 4, 4, 4, 4, 4, 4, 4, 5, 5, 5, 5, 5, 5, 5, 5, 5, 5, 5, 5, 5, 5, 5, 5, 6, 6, 6, 6, 6, 6, 6, 6, 6, 6, 6, 6, 6, 6, 6, 6, 6, 6, 6, 6, 6, 6, 6, 6, 6, 6, 6, 6, 6, 6, 6, 6, 7, 7, 7, 7, 7, 7, 7, 7, 7, 7, 7, 7, 7, 7, 7, 7, 7, 7, 7, 7, 7, 7, 7, 7, 7, 7, 7, 7, 7, 7, 7, 7, 7, 7, 7, 7, 7, 7, 7, 7, 7, 7, 7, 7, 7, 7, 7, 7, 7, 7, 7, 7, 7, 7, 7, 7, 7, 7, 7, 7, 7, 7, 7, 7, 8, 8, 8, 8, 8, 8, 8, 8, 8, 8, 8, 8, 8, 8, 8, 8, 8, 8, 8, 8, 8, 8, 8, 8, 8, 8, 8, 8, 8, 8, 8, 8, 8, 8, 8, 8, 8, 8, 8, 8, 8, 8, 8, 8, 8, 8, 8, 8, 8, 8, 8, 8, 8, 8, 8, 8, 8, 8, 8, 8, 8, 8, 8, 8, 8, 8, 8, 8, 8, 8, 8, 8, 8, 8, 8, 8, 8, 8, 8, 8, 8, 8, 8, 8, 8, 8, 8, 8, 8, 8, 8, 8, 8, 8, 8, 8, 8, 8, 8, 8, 8, 8, 8, 8, 8, 8, 8, 8, 8, 8, 8, 8, 8, 8, 8, 8, 8, 8, 8, 8, 8, 8, 8, 8, 8, 8, 8, 8]).size) <|
  let v22 : Int := (btx (ByteArray.mk #[0, 1, 2, 2, 3, 3, 3, 3, 4, 4, 4, 4, 4, 4, 4, 4, 5, 5, 5, 5, 5, 5, 5, 5, 5, 5, 5, 5, 5, 5, 5, 5, 6, 6, 6, 6, 6, 6, 6, 6, 6, 6, 6, 6, 6, 6, 6, 6, 6, 6, 6, 6, 6, 6, 6, 6, 6, 6, 6, 6, 6, 6, 6, 6, 7, 7, 7, 7, 7, 7, 7, 7, 7, 7, 7, 7, 7, 7, 7, 7, 7, 7, 7, 7, 7, 7, 7, 7, 7, 7, 7, 7, 7, 7, 7, 7, 7, 7, 7, 7, 7, 7, 7, 7, 7, 7, 7, 7, 7, 7, 7, 7, 7, 7, 7, 7, 7, 7, 7, 7, 7, 7, 7, 7, 7, 7, 7, 7, 8, 8, 8, 8, 8, 8, 8, 8, 8, 8, 8, 8, 8, 8, 8, 8, 8, 8, 8, 8, 8, 8, 8, 8, 8, 8, 8, 8, 8, 8, 8, 8, 8, 8, 8, 8, 8, 8, 8, 8, 8, 8, 8, 8, 8, 8, 8, 8, 8, 8, 8, 8, 8, 8, 8, 8, 8, 8, 8, 8, 8, 8, 8, 8, 8, 8, 8, 8, 8, 8, 8, 8, 8, 8, 8, 8, 8, 8, 8, 8, 8, 8, 8, 8, 8, 8, 8, 8, 8, 8, 8, 8, 8, 8, 8, 8, 8, 8, 8, 8, 8, 8, 8, 8, 8, 8, 8, 8, 8, 8, 8, 8, 8, 8, 8, 8, 8, 8, 8, 8, 8, 8, 8, 8, 8, 8, 8, 8]) (wu8 (x)))
  some ((w64 (n2 + (w64 (v22))), ()), ())
def B_Z76_J1 (k : Nat) (x n2 : Int) : R_Z76 :=
  bif decide (x ≥ 256) then
    jn (fun t => B_Z76_J2 k t.1 t.2.1) ((shrK .u64 x 8), w64 (n2 + 8), ())
  else
    jn (fun t => B_Z76_J2 k t.1 t.2.1) (x, n2, ())
def B_Z76_J0 (k : Nat) (x n2 : Int) : R_Z76 :=
  bif decide (x ≥ 65536) then
    jn (fun t => B_Z76_J1 k t.1 t.2.1) ((shrK .u64 x 16), w64 (n2 + 16), ())
  else
    jn (fun t => B_Z76_J1 k t.1 t.2.1) (x, n2, ())
def B_Z76 (k : Nat) (x : Int) : R_Z76 :=
  bif decide (x ≥ 4294967296) then
    jn (fun t => B_Z76_J0 k t.1 t.2.1) ((shrK .u64 x 32), 32, ())
  else
    jn (fun t => B_Z76_J0 k t.1 t.2.1) (x, 0, ())
def F_Z76 : Nat → C_Z76
  | 0, _ => none
  | k + 1, x => B_Z76 k x
theorem tot_Z76 {x : _} {Q : _ → Prop} (h : Tot (fun σ => B_Z76 (σ 0) x) Q) : Tot (fun σ => F_Z76 (σ 0) x) Q :=
  Tot.call (F := fun k => F_Z76 k x) (B := fun k => B_Z76 k x) (fun k => rfl) h
abbrev R_bits_Len : Type := Option ((Int × Unit) × (Unit))
abbrev C_bits_Len : Type := Int → R_bits_Len
def B_bits_Len (k : Nat) (c_Z76 : C_Z76) (x : Int) : R_bits_Len :=
  (c_Z76 x).bind fun r7 =>
  some ((r7.1.1, ()), ())
def F_bits_Len : Nat → C_bits_Len
  | 0, _ => none
  | k + 1, x => B_bits_Len k (F_Z76 k) x
theorem tot_bits_Len {x : _} {Q : _ → Prop} (h : Tot (fun σ => B_bits_Len (σ 0) (F_Z76 (σ 0)) x) Q) : Tot (fun σ => F_bits_Len (σ 0) x) Q :=
  Tot.call (F := fun k => F_bits_Len k x) (B := fun k => B_bits_Len k (F_Z76 k) x) (fun k => rfl) h
abbrev R_Z40 : Type := Option ((Bool × Unit) × (Unit))
abbrev C_Z40 : Type := Int → R_Z40
def B_Z40 (k : Nat) (x : Int) : R_Z40 :=
  some (((x != x), ()), ())
def F_Z40 : Nat → C_Z40
  | 0, _ => none
  | k + 1, x => B_Z40 k x
theorem tot_Z40 {x : _} {Q : _ → Prop} (h : Tot (fun σ => B_Z40 (σ 0) x) Q) : Tot (fun σ => F_Z40 (σ 0) x) Q :=
  Tot.call (F := fun k => F_Z40 k x) (B := fun k => B_Z40 k x) (fun k => rfl) h
abbrev R_Z47 : Type := Option ((Bool × Unit) × (Unit))
abbrev C_Z47 : Type := Int → Int → R_Z47
def B_Z47 (k : Nat) (c_Z40 : C_Z40) (x y : Int) : R_Z47 :=
  (c_Z40 x).bind fun r6 =>
  bif r6.1.1 then
    (c_Z40 y).bind fun r9 =>
    bif (!r9.1.1) then
      some ((true, ()), ())
    else
      some ((decide (x < y), ()), ())
  else
    some ((decide (x < y), ()), ())
def F_Z47 : Nat → C_Z47
  | 0, _, _ => none
  | k + 1, x, y => B_Z47 k (F_Z40 k) x y
theorem tot_Z47 {x y : _} {Q : _ → Prop} (h : Tot (fun σ => B_Z47 (σ 0) (F_Z40 (σ 0)) x y) Q) : Tot (fun σ => F_Z47 (σ 0) x y) Q :=
  Tot.call (F := fun k => F_Z47 k x y) (B := fun k => B_Z47 k (F_Z40 k) x y) (fun k => rfl) h
abbrev R_Z6 : Type := Option ((Unit) × (List Int × Unit))
abbrev C_Z6 : Type := List Int → Int → Int → R_Z6
abbrev T_Z6_L1 : Type := List Int × Int × Int × Int × Int × Unit
abbrev T_Z6_L2 : Type := List Int × Int × Int × Int × Unit
def B_Z6_J0 (k : Nat) (c_Z47 : C_Z47) (again1 : T_Z6_L1 → R_Z6) (again2 : T_Z6_L2 → R_Z6) (data : List Int) (a b i j : Int) (t30 : Bool) : R_Z6 :=
  bif t30 then
    chk (inb (w64 (j - 1)) data.length) <|
    chk (decide ((w64 (j - 1)).toNat < data.length)) <|
    chk (inb j data.length) <|
    chk (decide (j.toNat < data.length)) <|
    chk (inb j data.length) <|
    chk (decide (j.toNat < data.length)) <|
    chk (inb (w64 (j - 1)) (data.set j.toNat (data.getD ((w64 (j - 1)).toNat) (0 : Int))).length) <|
    chk (decide ((w64 (j - 1)).toNat < (data.set j.toNat (data.getD ((w64 (j - 1)).toNat) (0 : Int))).length)) <|
    again1 (((data.set j.toNat (data.getD ((w64 (j - 1)).toNat) (0 : Int))).set ((w64 (j - 1)).toNat) (data.getD j.toNat (0 : Int))), a, b, i, w64 (j - 1), ())
  else
    again2 (data, a, b, w64 (i + 1), ())
def B_Z6_L1b (k : Nat) (c_Z47 : C_Z47) (again2 : T_Z6_L2 → R_Z6) (again1 : T_Z6_L1 → R_Z6) (data : List Int) (a b i j : Int) : R_Z6 :=
  bif decide (j > a) then
    chk (inb j data.length) <|
    chk (decide (j.toNat < data.length)) <|
    chk (inb (w64 (j - 1)) data.length) <|
    chk (decide ((w64 (j - 1)).toNat < data.length)) <|
    (c_Z47 (data.getD j.toNat (0 : Int)) (data.getD ((w64 (j - 1)).toNat) (0 : Int))).bind fun r29 =>
    jn (fun t => B_Z6_J0 k c_Z47 again1 again2 t.1 t.2.1 t.2.2.1 t.2.2.2.1 t.2.2.2.2.1 t.2.2.2.2.2.1) (data, a, b, i, j, r29.1.1, ())
  else
    jn (fun t => B_Z6_J0 k c_Z47 again1 again2 t.1 t.2.1 t.2.2.1 t.2.2.2.1 t.2.2.2.2.1 t.2.2.2.2.2.1) (data, a, b, i, j, false, ())
def B_Z6_L1 (k : Nat) (c_Z47 : C_Z47) (again2 : T_Z6_L2 → R_Z6) (n : Nat) (t : T_Z6_L1) : R_Z6 :=
  lfix n (fun again t => B_Z6_L1b k c_Z47 again2 again t.1 t.2.1 t.2.2.1 t.2.2.2.1 t.2.2.2.2.1) t
def B_Z6_L2b (k : Nat) (c_Z47 : C_Z47) (again2 : T_Z6_L2 → R_Z6) (data : List Int) (a b i : Int) : R_Z6 :=
  bif decide (i < b) then
    B_Z6_L1 k c_Z47 again2 k (data, a, b, i, i, ())
  else
    some ((), (data, ()))
def B_Z6_L2 (k : Nat) (c_Z47 : C_Z47) (n : Nat) (t : T_Z6_L2) : R_Z6 :=
  lfix n (fun again t => B_Z6_L2b k c_Z47 again t.1 t.2.1 t.2.2.1 t.2.2.2.1) t
def B_Z6 (k : Nat) (c_Z47 : C_Z47) (data : List Int) (a b : Int) : R_Z6 :=
  B_Z6_L2 k c_Z47 k (data, a, b, w64 (a + 1), ())
def F_Z6 : Nat → C_Z6
  | 0, _, _, _ => none
  | k + 1, data, a, b => B_Z6 k (F_Z47 k) data a b
theorem tot_Z6 {data a b : _} {Q : _ → Prop} (h : Tot (fun σ => B_Z6 (σ 0) (F_Z47 (σ 0)) data a b) Q) : Tot (fun σ => F_Z6 (σ 0) data a b) Q :=
  Tot.call (F := fun k => F_Z6 k data a b) (B := fun k => B_Z6 k (F_Z47 k) data a b) (fun k => rfl) h
abbrev A_Z6_L1 (Z : Type) : Type := List Int → Int → Int → Int → Int → Z
abbrev u_Z6_L1 {Z : Type} (f : A_Z6_L1 Z) (t : T_Z6_L1) : Z := f t.1 t.2.1 t.2.2.1 t.2.2.2.1 t.2.2.2.2.1
theorem loop_Z6_L1 {again2 : (Nat → Nat) → T_Z6_L2 → R_Z6} (hag2 : Dep 2 again2) {Q : A_Z6_L1 (((Unit) × (List Int × Unit)) → Prop)} (I : A_Z6_L1 Prop) (μ : A_Z6_L1 Nat)
    (step : ∀ a0 a1 a2 a3 a4, I a0 a1 a2 a3 a4 → ∀ again : (Nat → Nat) → T_Z6_L1 → R_Z6, Dep 3 again → (∀ y0 y1 y2 y3 y4, I y0 y1 y2 y3 y4 → μ y0 y1 y2 y3 y4 < μ a0 a1 a2 a3 a4 → Tot (fun σ => again σ (y0, y1, y2, y3, y4, ())) (Q y0 y1 y2 y3 y4)) →
      Tot (fun σ => B_Z6_L1b (σ 0) (F_Z47 (σ 0)) (again2 σ) (again σ) a0 a1 a2 a3 a4) (Q a0 a1 a2 a3 a4)) :
    ∀ a0 a1 a2 a3 a4, I a0 a1 a2 a3 a4 → Tot (fun σ => B_Z6_L1 (σ 0) (F_Z47 (σ 0)) (again2 σ) (σ 0) (a0, a1, a2, a3, a4, ())) (Q a0 a1 a2 a3 a4) := fun a0 a1 a2 a3 a4 => Tot.loop (L := fun σ n t => B_Z6_L1 (σ 0) (F_Z47 (σ 0)) (again2 σ) n t) (B := fun σ g => u_Z6_L1 (B_Z6_L1b (σ 0) (F_Z47 (σ 0)) (again2 σ) g)) (Q := u_Z6_L1 Q) 2 (by decide)
    (fun s s' h => by have e0 : s 0 = s' 0 := h 0 (by decide); simp only [e0, hag2 s s' h]) (fun s s' h => by have e0 : s 0 = s' 0 := h 0 (by decide); simp only [e0, hag2 s s' h]) (fun _ _ _ => rfl) (u_Z6_L1 I) (u_Z6_L1 μ)
    (fun t ht again hag h => step t.1 t.2.1 t.2.2.1 t.2.2.2.1 t.2.2.2.2.1 ht again hag fun y0 y1 y2 y3 y4 => h (y0, y1, y2, y3, y4, ())) (a0, a1, a2, a3, a4, ())
abbrev A_Z6_L2 (Z : Type) : Type := List Int → Int → Int → Int → Z
abbrev u_Z6_L2 {Z : Type} (f : A_Z6_L2 Z) (t : T_Z6_L2) : Z := f t.1 t.2.1 t.2.2.1 t.2.2.2.1
theorem loop_Z6_L2 {Q : A_Z6_L2 (((Unit) × (List Int × Unit)) → Prop)} (I : A_Z6_L2 Prop) (μ : A_Z6_L2 Nat)
    (step : ∀ a0 a1 a2 a3, I a0 a1 a2 a3 → ∀ again : (Nat → Nat) → T_Z6_L2 → R_Z6, Dep 2 again → (∀ y0 y1 y2 y3, I y0 y1 y2 y3 → μ y0 y1 y2 y3 < μ a0 a1 a2 a3 → Tot (fun σ => again σ (y0, y1, y2, y3, ())) (Q y0 y1 y2 y3)) →
      Tot (fun σ => B_Z6_L2b (σ 0) (F_Z47 (σ 0)) (again σ) a0 a1 a2 a3) (Q a0 a1 a2 a3)) :
    ∀ a0 a1 a2 a3, I a0 a1 a2 a3 → Tot (fun σ => B_Z6_L2 (σ 0) (F_Z47 (σ 0)) (σ 0) (a0, a1, a2, a3, ())) (Q a0 a1 a2 a3) := fun a0 a1 a2 a3 => Tot.loop0 (L := fun k => B_Z6_L2 k (F_Z47 k)) (B := fun k g => u_Z6_L2 (B_Z6_L2b k (F_Z47 k) g)) (Q := u_Z6_L2 Q) (fun _ _ _ => rfl) (u_Z6_L2 I) (u_Z6_L2 μ)
    (fun t ht again hag h => step t.1 t.2.1 t.2.2.1 t.2.2.2.1 ht again hag fun y0 y1 y2 y3 => h (y0, y1, y2, y3, ())) (a0, a1, a2, a3, ())
abbrev R_Z12 : Type := Option ((Unit) × (List Int × Unit))
abbrev C_Z12 : Type := List Int → Int → Int → Int → R_Z12
abbrev T_Z12_L2 : Type := List Int × Int × Int × Int × Unit
def B_Z12_J1 (k : Nat) (c_Z47 : C_Z47) (again2 : T_Z12_L2 → R_Z12) (data : List Int) (hi first root child : Int) : R_Z12 :=
  chk (inb (w64 (first + root)) data.length) <|
  chk (decide ((w64 (first + root)).toNat < data.length)) <|
  chk (inb (w64 (first + child)) data.length) <|
  chk (decide ((w64 (first + child)).toNat < data.length)) <|
  (c_Z47 (data.getD ((w64 (first + root)).toNat) (0 : Int)) (data.getD ((w64 (first + child)).toNat) (0 : Int))).bind fun r51 =>
  bif (!r51.1.1) then
    some ((), (data, ()))
  else
    chk (inb (w64 (first + child)) data.length) <|
    chk (decide ((w64 (first + child)).toNat < data.length)) <|
    chk (inb (w64 (first + root)) data.length) <|
    chk (decide ((w64 (first + root)).toNat < data.length)) <|
    chk (inb (w64 (first + root)) data.length) <|
    chk (decide ((w64 (first + root)).toNat < data.length)) <|
    chk (inb (w64 (first + child)) (data.set ((w64 (first + root)).toNat) (data.getD ((w64 (first + child)).toNat) (0 : Int))).length) <|
    chk (decide ((w64 (first + child)).toNat < (data.set ((w64 (first + root)).toNat) (data.getD ((w64 (first + child)).toNat) (0 : Int))).length)) <|
    again2 (((data.set ((w64 (first + root)).toNat) (data.getD ((w64 (first + child)).toNat) (0 : Int))).set ((w64 (first + child)).toNat) (data.getD ((w64 (first + root)).toNat) (0 : Int))), hi, first, child, ())
def B_Z12_J0 (k : Nat) (c_Z47 : C_Z47) (again2 : T_Z12_L2 → R_Z12) (data : List Int) (hi first root child : Int) (t36 : Bool) : R_Z12 :=
  bif t36 then
    jn (fun t => B_Z12_J1 k c_Z47 again2 t.1 t.2.1 t.2.2.1 t.2.2.2.1 t.2.2.2.2.1) (data, hi, first, root, w64 (child + 1), ())
  else
    jn (fun t => B_Z12_J1 k c_Z47 again2 t.1 t.2.1 t.2.2.1 t.2.2.2.1 t.2.2.2.2.1) (data, hi, first, root, child, ())
def B_Z12_L2b (k : Nat) (c_Z47 : C_Z47) (again2 : T_Z12_L2 → R_Z12) (data : List Int) (hi first root : Int) : R_Z12 :=
  bif decide ((w64 ((w64 (2 * root)) + 1)) ≥ hi) then
    some ((), (data, ()))
  else
    bif decide ((w64 ((w64 ((w64 (2 * root)) + 1)) + 1)) < hi) then
      chk (inb (w64 (first + (w64 ((w64 (2 * root)) + 1)))) data.length) <|
      chk (decide ((w64 (first + (w64 ((w64 (2 * root)) + 1)))).toNat < data.length)) <|
      chk (inb (w64 ((w64 (first + (w64 ((w64 (2 * root)) + 1)))) + 1)) data.length) <|
      chk (decide ((w64 ((w64 (first + (w64 ((w64 (2 * root)) + 1)))) + 1)).toNat < data.length)) <|
      (c_Z47 (data.getD ((w64 (first + (w64 ((w64 (2 * root)) + 1)))).toNat) (0 : Int)) (data.getD ((w64 ((w64 (first + (w64 ((w64 (2 * root)) + 1)))) + 1)).toNat) (0 : Int))).bind fun r35 =>
      jn (fun t => B_Z12_J0 k c_Z47 again2 t.1 t.2.1 t.2.2.1 t.2.2.2.1 t.2.2.2.2.1 t.2.2.2.2.2.1) (data, hi, first, root, w64 ((w64 (2 * root)) + 1), r35.1.1, ())
    else
      jn (fun t => B_Z12_J0 k c_Z47 again2 t.1 t.2.1 t.2.2.1 t.2.2.2.1 t.2.2.2.2.1 t.2.2.2.2.2.1) (data, hi, first, root, w64 ((w64 (2 * root)) + 1), false, ())
def B_Z12_L2 (k : Nat) (c_Z47 : C_Z47) (n : Nat) (t : T_Z12_L2) : R_Z12 :=
  lfix n (fun again t => B_Z12_L2b k c_Z47 again t.1 t.2.1 t.2.2.1 t.2.2.2.1) t
def B_Z12 (k : Nat) (c_Z47 : C_Z47) (data : List Int) (lo hi first : Int) : R_Z12 :=
  B_Z12_L2 k c_Z47 k (data, hi, first, lo, ())
def F_Z12 : Nat → C_Z12
  | 0, _, _, _, _ => none
  | k + 1, data, lo, hi, first => B_Z12 k (F_Z47 k) data lo hi first
theorem tot_Z12 {data lo hi first : _} {Q : _ → Prop} (h : Tot (fun σ => B_Z12 (σ 0) (F_Z47 (σ 0)) data lo hi first) Q) : Tot (fun σ => F_Z12 (σ 0) data lo hi first) Q :=
  Tot.call (F := fun k => F_Z12 k data lo hi first) (B := fun k => B_Z12 k (F_Z47 k) data lo hi first) (fun k => rfl) h
abbrev A_Z12_L2 (Z : Type) : Type := List Int → Int → Int → Int → Z
abbrev u_Z12_L2 {Z : Type} (f : A_Z12_L2 Z) (t : T_Z12_L2) : Z := f t.1 t.2.1 t.2.2.1 t.2.2.2.1
theorem loop_Z12_L2 {Q : A_Z12_L2 (((Unit) × (List Int × Unit)) → Prop)} (I : A_Z12_L2 Prop) (μ : A_Z12_L2 Nat)
    (step : ∀ a0 a1 a2 a3, I a0 a1 a2 a3 → ∀ again : (Nat → Nat) → T_Z12_L2 → R_Z12, Dep 2 again → (∀ y0 y1 y2 y3, I y0 y1 y2 y3 → μ y0 y1 y2 y3 < μ a0 a1 a2 a3 → Tot (fun σ => again σ (y0, y1, y2, y3, ())) (Q y0 y1 y2 y3)) →
      Tot (fun σ => B_Z12_L2b (σ 0) (F_Z47 (σ 0)) (again σ) a0 a1 a2 a3) (Q a0 a1 a2 a3)) :
    ∀ a0 a1 a2 a3, I a0 a1 a2 a3 → Tot (fun σ => B_Z12_L2 (σ 0) (F_Z47 (σ 0)) (σ 0) (a0, a1, a2, a3, ())) (Q a0 a1 a2 a3) := fun a0 a1 a2 a3 => Tot.loop0 (L := fun k => B_Z12_L2 k (F_Z47 k)) (B := fun k g => u_Z12_L2 (B_Z12_L2b k (F_Z47 k) g)) (Q := u_Z12_L2 Q) (fun _ _ _ => rfl) (u_Z12_L2 I) (u_Z12_L2 μ)
    (fun t ht again hag h => step t.1 t.2.1 t.2.2.1 t.2.2.2.1 ht again hag fun y0 y1 y2 y3 => h (y0, y1, y2, y3, ())) (a0, a1, a2, a3, ())
abbrev R_Z11 : Type := Option ((Unit) × (List Int × Unit))
abbrev C_Z11 : Type := List Int → Int → Int → R_Z11
abbrev T_Z11_L1 : Type := List Int × Int × Int × Int × Unit
abbrev T_Z11_L0 : Type := List Int × Int × Int × Int × Int × Unit
def B_Z11_L1b (k : Nat) (c_Z12 : C_Z12) (again1 : T_Z11_L1 → R_Z11) (data : List Int) (first lo i : Int) : R_Z11 :=
  bif decide (i ≥ 0) then
    chk (inb (w64 (first + i)) data.length) <|
    chk (decide ((w64 (first + i)).toNat < data.length)) <|
    chk (inb first data.length) <|
    chk (decide (first.toNat < data.length)) <|
    chk (inb first data.length) <|
    chk (decide (first.toNat < data.length)) <|
    chk (inb (w64 (first + i)) (data.set first.toNat (data.getD ((w64 (first + i)).toNat) (0 : Int))).length) <|
    chk (decide ((w64 (first + i)).toNat < (data.set first.toNat (data.getD ((w64 (first + i)).toNat) (0 : Int))).length)) <|
    (c_Z12 ((data.set first.toNat (data.getD ((w64 (first + i)).toNat) (0 : Int))).set ((w64 (first + i)).toNat) (data.getD first.toNat (0 : Int))) lo i first).bind fun r55 =>
    again1 (r55.2.1, first, lo, w64 (i - 1), ())
  else
    some ((), (data, ()))
def B_Z11_L1 (k : Nat) (c_Z12 : C_Z12) (n : Nat) (t : T_Z11_L1) : R_Z11 :=
  lfix n (fun again t => B_Z11_L1b k c_Z12 again t.1 t.2.1 t.2.2.1 t.2.2.2.1) t
def B_Z11_L0b (k : Nat) (c_Z12 : C_Z12) (again0 : T_Z11_L0 → R_Z11) (data : List Int) (first lo hi i : Int) : R_Z11 :=
  bif decide (i ≥ 0) then
    (c_Z12 data i hi first).bind fun r26 =>
    again0 (r26.2.1, first, lo, hi, w64 (i - 1), ())
  else
    B_Z11_L1 k c_Z12 k (data, first, lo, w64 (hi - 1), ())
def B_Z11_L0 (k : Nat) (c_Z12 : C_Z12) (n : Nat) (t : T_Z11_L0) : R_Z11 :=
  lfix n (fun again t => B_Z11_L0b k c_Z12 again t.1 t.2.1 t.2.2.1 t.2.2.2.1 t.2.2.2.2.1) t
def B_Z11 (k : Nat) (c_Z12 : C_Z12) (data : List Int) (a b : Int) : R_Z11 :=
  B_Z11_L0 k c_Z12 k (data, a, 0, w64 (b - a), w64 ((w64 ((w64 (b - a)) - 1)).tdiv 2), ())
def F_Z11 : Nat → C_Z11
  | 0, _, _, _ => none
  | k + 1, data, a, b => B_Z11 k (F_Z12 k) data a b
theorem tot_Z11 {data a b : _} {Q : _ → Prop} (h : Tot (fun σ => B_Z11 (σ 0) (F_Z12 (σ 0)) data a b) Q) : Tot (fun σ => F_Z11 (σ 0) data a b) Q :=
  Tot.call (F := fun k => F_Z11 k data a b) (B := fun k => B_Z11 k (F_Z12 k) data a b) (fun k => rfl) h
abbrev A_Z11_L1 (Z : Type) : Type := List Int → Int → Int → Int → Z
abbrev u_Z11_L1 {Z : Type} (f : A_Z11_L1 Z) (t : T_Z11_L1) : Z := f t.1 t.2.1 t.2.2.1 t.2.2.2.1
theorem loop_Z11_L1 {Q : A_Z11_L1 (((Unit) × (List Int × Unit)) → Prop)} (I : A_Z11_L1 Prop) (μ : A_Z11_L1 Nat)
    (step : ∀ a0 a1 a2 a3, I a0 a1 a2 a3 → ∀ again : (Nat → Nat) → T_Z11_L1 → R_Z11, Dep 2 again → (∀ y0 y1 y2 y3, I y0 y1 y2 y3 → μ y0 y1 y2 y3 < μ a0 a1 a2 a3 → Tot (fun σ => again σ (y0, y1, y2, y3, ())) (Q y0 y1 y2 y3)) →
      Tot (fun σ => B_Z11_L1b (σ 0) (F_Z12 (σ 0)) (again σ) a0 a1 a2 a3) (Q a0 a1 a2 a3)) :
    ∀ a0 a1 a2 a3, I a0 a1 a2 a3 → Tot (fun σ => B_Z11_L1 (σ 0) (F_Z12 (σ 0)) (σ 0) (a0, a1, a2, a3, ())) (Q a0 a1 a2 a3) := fun a0 a1 a2 a3 => Tot.loop0 (L := fun k => B_Z11_L1 k (F_Z12 k)) (B := fun k g => u_Z11_L1 (B_Z11_L1b k (F_Z12 k) g)) (Q := u_Z11_L1 Q) (fun _ _ _ => rfl) (u_Z11_L1 I) (u_Z11_L1 μ)
    (fun t ht again hag h => step t.1 t.2.1 t.2.2.1 t.2.2.2.1 ht again hag fun y0 y1 y2 y3 => h (y0, y1, y2, y3, ())) (a0, a1, a2, a3, ())
abbrev A_Z11_L0 (Z : Type) : Type := List Int → Int → Int → Int → Int → Z
abbrev u_Z11_L0 {Z : Type} (f : A_Z11_L0 Z) (t : T_Z11_L0) : Z := f t.1 t.2.1 t.2.2.1 t.2.2.2.1 t.2.2.2.2.1
theorem loop_Z11_L0 {Q : A_Z11_L0 (((Unit) × (List Int × Unit)) → Prop)} (I : A_Z11_L0 Prop) (μ : A_Z11_L0 Nat)
    (step : ∀ a0 a1 a2 a3 a4, I a0 a1 a2 a3 a4 → ∀ again : (Nat → Nat) → T_Z11_L0 → R_Z11, Dep 2 again → (∀ y0 y1 y2 y3 y4, I y0 y1 y2 y3 y4 → μ y0 y1 y2 y3 y4 < μ a0 a1 a2 a3 a4 → Tot (fun σ => again σ (y0, y1, y2, y3, y4, ())) (Q y0 y1 y2 y3 y4)) →
      Tot (fun σ => B_Z11_L0b (σ 0) (F_Z12 (σ 0)) (again σ) a0 a1 a2 a3 a4) (Q a0 a1 a2 a3 a4)) :
    ∀ a0 a1 a2 a3 a4, I a0 a1 a2 a3 a4 → Tot (fun σ => B_Z11_L0 (σ 0) (F_Z12 (σ 0)) (σ 0) (a0, a1, a2, a3, a4, ())) (Q a0 a1 a2 a3 a4) := fun a0 a1 a2 a3 a4 => Tot.loop0 (L := fun k => B_Z11_L0 k (F_Z12 k)) (B := fun k g => u_Z11_L0 (B_Z11_L0b k (F_Z12 k) g)) (Q := u_Z11_L0 Q) (fun _ _ _ => rfl) (u_Z11_L0 I) (u_Z11_L0 μ)
    (fun t ht again hag h => step t.1 t.2.1 t.2.2.1 t.2.2.2.1 t.2.2.2.2.1 ht again hag fun y0 y1 y2 y3 y4 => h (y0, y1, y2, y3, y4, ())) (a0, a1, a2, a3, a4, ())
abbrev R_Z19 : Type := Option ((Int × Unit) × (Unit))
abbrev C_Z19 : Type := Int → R_Z19
def B_Z19 (k : Nat) (c_bits_Len : C_bits_Len) (length : Int) : R_Z19 :=
  (c_bits_Len (IntKind.wrap .u64 (length))).bind fun r5 =>
  chk (decide (0 ≤ r5.1.1)) <|
  some (((shlK .u64 1 r5.1.1), ()), ())
def F_Z19 : Nat → C_Z19
  | 0, _ => none
  | k + 1, length => B_Z19 k (F_bits_Len k) length
theorem tot_Z19 {length : _} {Q : _ → Prop} (h : Tot (fun σ => B_Z19 (σ 0) (F_bits_Len (σ 0)) length) Q) : Tot (fun σ => F_Z19 (σ 0) length) Q :=
  Tot.call (F := fun k => F_Z19 k length) (B := fun k => B_Z19 k (F_bits_Len k) length) (fun k => rfl) h
abbrev R_Z21 : Type := Option ((Int × Unit) × ((Int × Unit) × Unit))
abbrev C_Z21 : Type := Int → R_Z21
def B_Z21 (k : Nat) (r : Int) : R_Z21 :=
  let v27 : Int := (shlK .u64 (xorK .u64 (xorK .u64 r (shlK .u64 r 13)) (shrK .u64 (xorK .u64 r (shlK .u64 r 13)) 7)) 17)
  let v28 : Int := (xorK .u64 (xorK .u64 (xorK .u64 r (shlK .u64 r 13)) (shrK .u64 (xorK .u64 r (shlK .u64 r 13)) 7)) v27)
  some ((v28, ()), ((v28, ()), ()))
def F_Z21 : Nat → C_Z21
  | 0, _ => none
  | k + 1, r => B_Z21 k r
theorem tot_Z21 {r : _} {Q : _ → Prop} (h : Tot (fun σ => B_Z21 (σ 0) r) Q) : Tot (fun σ => F_Z21 (σ 0) r) Q :=
  Tot.call (F := fun k => F_Z21 k r) (B := fun k => B_Z21 k r) (fun k => rfl) h
abbrev R_Z5 : Type := Option ((Unit) × (List Int × Unit))
abbrev C_Z5 : Type := List Int → Int → Int → R_Z5
abbrev T_Z5_L1 : Type := List Int × Int × Int × (Int × Unit) × Int × Int × Unit
def B_Z5_J0 (k : Nat) (c_Z19 : C_Z19) (c_Z21 : C_Z21) (again1 : T_Z5_L1 → R_Z5) (data : List Int) (a length random modulus idx other : Int) : R_Z5 :=
  chk (inb (w64 (a + other)) data.length) <|
  chk (decide ((w64 (a + other)).toNat < data.length)) <|
  chk (inb idx data.length) <|
  chk (decide (idx.toNat < data.length)) <|
  chk (inb idx data.length) <|
  chk (decide (idx.toNat < data.length)) <|
  chk (inb (w64 (a + other)) (data.set idx.toNat (data.getD ((w64 (a + other)).toNat) (0 : Int))).length) <|
  chk (decide ((w64 (a + other)).toNat < (data.set idx.toNat (data.getD ((w64 (a + other)).toNat) (0 : Int))).length)) <|
  again1 (((data.set idx.toNat (data.getD ((w64 (a + other)).toNat) (0 : Int))).set ((w64 (a + other)).toNat) (data.getD idx.toNat (0 : Int))), a, length, (random, ()), modulus, w64 (idx + 1), ())
def B_Z5_L1b (k : Nat) (c_Z19 : C_Z19) (c_Z21 : C_Z21) (again1 : T_Z5_L1 → R_Z5) (data : List Int) (a length random modulus idx : Int) : R_Z5 :=
  bif decide (idx ≤ (w64 ((w64 (a + (w64 ((w64 (length.tdiv 4)) * 2)))) + 1))) then
    (c_Z21 random).bind fun r36 =>
    bif decide ((w64 ((andK .u64 r36.1.1 (IntKind.wrap .u64 (modulus - 1))))) ≥ length) then
      jn (fun t => B_Z5_J0 k c_Z19 c_Z21 again1 t.1 t.2.1 t.2.2.1 t.2.2.2.1.1 t.2.2.2.2.1 t.2.2.2.2.2.1 t.2.2.2.2.2.2.1) (data, a, length, (r36.2.1.1, ()), modulus, idx, w64 ((w64 ((andK .u64 r36.1.1 (IntKind.wrap .u64 (modulus - 1))))) - length), ())
    else
      jn (fun t => B_Z5_J0 k c_Z19 c_Z21 again1 t.1 t.2.1 t.2.2.1 t.2.2.2.1.1 t.2.2.2.2.1 t.2.2.2.2.2.1 t.2.2.2.2.2.2.1) (data, a, length, (r36.2.1.1, ()), modulus, idx, w64 ((andK .u64 r36.1.1 (IntKind.wrap .u64 (modulus - 1)))), ())
  else
    some ((), (data, ()))
def B_Z5_L1 (k : Nat) (c_Z19 : C_Z19) (c_Z21 : C_Z21) (n : Nat) (t : T_Z5_L1) : R_Z5 :=
  lfix n (fun again t => B_Z5_L1b k c_Z19 c_Z21 again t.1 t.2.1 t.2.2.1 t.2.2.2.1.1 t.2.2.2.2.1 t.2.2.2.2.2.1) t
def B_Z5 (k : Nat) (c_Z19 : C_Z19) (c_Z21 : C_Z21) (data : List Int) (a b : Int) : R_Z5 :=
  bif decide ((w64 (b - a)) ≥ 8) then
    (c_Z19 (w64 (b - a))).bind fun r19 =>
    B_Z5_L1 k c_Z19 c_Z21 k (data, a, w64 (b - a), (IntKind.wrap .u64 (w64 (b - a)), ()), r19.1.1, w64 ((w64 (a + (w64 ((w64 ((w64 (b - a)).tdiv 4)) * 2)))) - 1), ())
  else
    some ((), (data, ()))
def F_Z5 : Nat → C_Z5
  | 0, _, _, _ => none
  | k + 1, data, a, b => B_Z5 k (F_Z19 k) (F_Z21 k) data a b
theorem tot_Z5 {data a b : _} {Q : _ → Prop} (h : Tot (fun σ => B_Z5 (σ 0) (F_Z19 (σ 0)) (F_Z21 (σ 0)) data a b) Q) : Tot (fun σ => F_Z5 (σ 0) data a b) Q :=
  Tot.call (F := fun k => F_Z5 k data a b) (B := fun k => B_Z5 k (F_Z19 k) (F_Z21 k) data a b) (fun k => rfl) h
abbrev A_Z5_L1 (Z : Type) : Type := List Int → Int → Int → Int → Int → Int → Z
abbrev u_Z5_L1 {Z : Type} (f : A_Z5_L1 Z) (t : T_Z5_L1) : Z := f t.1 t.2.1 t.2.2.1 t.2.2.2.1.1 t.2.2.2.2.1 t.2.2.2.2.2.1
theorem loop_Z5_L1 {Q : A_Z5_L1 (((Unit) × (List Int × Unit)) → Prop)} (I : A_Z5_L1 Prop) (μ : A_Z5_L1 Nat)
    (step : ∀ a0 a1 a2 a3 a4 a5, I a0 a1 a2 a3 a4 a5 → ∀ again : (Nat → Nat) → T_Z5_L1 → R_Z5, Dep 2 again → (∀ y0 y1 y2 y3 y4 y5, I y0 y1 y2 y3 y4 y5 → μ y0 y1 y2 y3 y4 y5 < μ a0 a1 a2 a3 a4 a5 → Tot (fun σ => again σ (y0, y1, y2, (y3, ()), y4, y5, ())) (Q y0 y1 y2 y3 y4 y5)) →
      Tot (fun σ => B_Z5_L1b (σ 0) (F_Z19 (σ 0)) (F_Z21 (σ 0)) (again σ) a0 a1 a2 a3 a4 a5) (Q a0 a1 a2 a3 a4 a5)) :
    ∀ a0 a1 a2 a3 a4 a5, I a0 a1 a2 a3 a4 a5 → Tot (fun σ => B_Z5_L1 (σ 0) (F_Z19 (σ 0)) (F_Z21 (σ 0)) (σ 0) (a0, a1, a2, (a3, ()), a4, a5, ())) (Q a0 a1 a2 a3 a4 a5) := fun a0 a1 a2 a3 a4 a5 => Tot.loop0 (L := fun k => B_Z5_L1 k (F_Z19 k) (F_Z21 k)) (B := fun k g => u_Z5_L1 (B_Z5_L1b k (F_Z19 k) (F_Z21 k) g)) (Q := u_Z5_L1 Q) (fun _ _ _ => rfl) (u_Z5_L1 I) (u_Z5_L1 μ)
    (fun t ht again hag h => step t.1 t.2.1 t.2.2.1 t.2.2.2.1.1 t.2.2.2.2.1 t.2.2.2.2.2.1 ht again hag fun y0 y1 y2 y3 y4 y5 => h (y0, y1, y2, (y3, ()), y4, y5, ())) (a0, a1, a2, (a3, ()), a4, a5, ())
abbrev R_Z15 : Type := Option ((Int × Int × Unit) × ((Int × Unit) × Unit))
abbrev C_Z15 : Type := List Int → Int → Int → Int → R_Z15
def B_Z15 (k : Nat) (c_Z47 : C_Z47) (data : List Int) (a b swaps : Int) : R_Z15 :=
  chk (inb b data.length) <|
  chk (inb a data.length) <|
  (c_Z47 (rdx (0 : Int) data b) (rdx (0 : Int) data a)).bind fun r18 =>
  bif r18.1.1 then
    some ((b, a, ()), ((w64 (swaps + 1), ()), ()))
  else
    some ((a, b, ()), ((swaps, ()), ()))
def F_Z15 : Nat → C_Z15
  | 0, _, _, _, _ => none
  | k + 1, data, a, b, swaps => B_Z15 k (F_Z47 k) data a b swaps
theorem tot_Z15 {data a b swaps : _} {Q : _ → Prop} (h : Tot (fun σ => B_Z15 (σ 0) (F_Z47 (σ 0)) data a b swaps) Q) : Tot (fun σ => F_Z15 (σ 0) data a b swaps) Q :=
  Tot.call (F := fun k => F_Z15 k data a b swaps) (B := fun k => B_Z15 k (F_Z47 k) data a b swaps) (fun k => rfl) h
abbrev R_Z14 : Type := Option ((Int × Unit) × ((Int × Unit) × Unit))
abbrev C_Z14 : Type := List Int → Int → Int → Int → Int → R_Z14
def B_Z14 (k : Nat) (c_Z15 : C_Z15) (data : List Int) (a b c swaps : Int) : R_Z14 :=
  (c_Z15 data a b swaps).bind fun r16 =>
  (c_Z15 data r16.1.2.1 c r16.2.1.1).bind fun r24 =>
  (c_Z15 data r16.1.1 r24.1.1 r24.2.1.1).bind fun r32 =>
  some ((r32.1.2.1, ()), ((r32.2.1.1, ()), ()))
def F_Z14 : Nat → C_Z14
  | 0, _, _, _, _, _ => none
  | k + 1, data, a, b, c, swaps => B_Z14 k (F_Z15 k) data a b c swaps
theorem tot_Z14 {data a b c swaps : _} {Q : _ → Prop} (h : Tot (fun σ => B_Z14 (σ 0) (F_Z15 (σ 0)) data a b c swaps) Q) : Tot (fun σ => F_Z14 (σ 0) data a b c swaps) Q :=
  Tot.call (F := fun k => F_Z14 k data a b c swaps) (B := fun k => B_Z14 k (F_Z15 k) data a b c swaps) (fun k => rfl) h
abbrev R_Z3 : Type := Option ((Int × Unit) × ((Int × Unit) × Unit))
abbrev C_Z3 : Type := List Int → Int → Int → R_Z3
def B_Z3 (k : Nat) (c_Z14 : C_Z14) (data : List Int) (a swaps : Int) : R_Z3 :=
  (c_Z14 data (w64 (a - 1)) a (w64 (a + 1)) swaps).bind fun r14 =>
  some ((r14.1.1, ()), ((r14.2.1.1, ()), ()))
def F_Z3 : Nat → C_Z3
  | 0, _, _, _ => none
  | k + 1, data, a, swaps => B_Z3 k (F_Z14 k) data a swaps
theorem tot_Z3 {data a swaps : _} {Q : _ → Prop} (h : Tot (fun σ => B_Z3 (σ 0) (F_Z14 (σ 0)) data a swaps) Q) : Tot (fun σ => F_Z3 (σ 0) data a swaps) Q :=
  Tot.call (F := fun k => F_Z3 k data a swaps) (B := fun k => B_Z3 k (F_Z14 k) data a swaps) (fun k => rfl) h
abbrev R_Z8 : Type := Option ((Int × Int × Unit) × (Unit))
abbrev C_Z8 : Type := List Int → Int → Int → R_Z8
def B_Z8_J1 (k : Nat) (c_Z3 : C_Z3) (c_Z14 : C_Z14) (swaps j : Int) : R_Z8 :=
  bif (swaps == 0) then
    some ((j, 1, ()), ())
  else
    bif (swaps == 12) then
      some ((j, 2, ()), ())
    else
      some ((j, 0, ()), ())
def B_Z8_J0 (k : Nat) (c_Z3 : C_Z3) (c_Z14 : C_Z14) (data : List Int) (swaps i j k12 : Int) : R_Z8 :=
  (c_Z14 data i j k12 swaps).bind fun r48 =>
  jn (fun t => B_Z8_J1 k c_Z3 c_Z14 t.1.1 t.2.1) ((r48.2.1.1, ()), r48.1.1, ())
def B_Z8 (k : Nat) (c_Z3 : C_Z3) (c_Z14 : C_Z14) (data : List Int) (a b : Int) : R_Z8 :=
  bif decide ((w64 (b - a)) ≥ 8) then
    bif decide ((w64 (b - a)) ≥ 50) then
      (c_Z3 data (w64 (a + (w64 ((w64 ((w64 (b - a)).tdiv 4)) * 1)))) 0).bind fun r37 =>
      (c_Z3 data (w64 (a + (w64 ((w64 ((w64 (b - a)).tdiv 4)) * 2)))) r37.2.1.1).bind fun r40 =>
      (c_Z3 data (w64 (a + (w64 ((w64 ((w64 (b - a)).tdiv 4)) * 3)))) r40.2.1.1).bind fun r43 =>
      jn (fun t => B_Z8_J0 k c_Z3 c_Z14 t.1 t.2.1.1 t.2.2.1 t.2.2.2.1 t.2.2.2.2.1) (data, (r43.2.1.1, ()), r37.1.1, r40.1.1, r43.1.1, ())
    else
      jn (fun t => B_Z8_J0 k c_Z3 c_Z14 t.1 t.2.1.1 t.2.2.1 t.2.2.2.1 t.2.2.2.2.1) (data, (0, ()), w64 (a + (w64 ((w64 ((w64 (b - a)).tdiv 4)) * 1))), w64 (a + (w64 ((w64 ((w64 (b - a)).tdiv 4)) * 2))), w64 (a + (w64 ((w64 ((w64 (b - a)).tdiv 4)) * 3))), ())
  else
    jn (fun t => B_Z8_J1 k c_Z3 c_Z14 t.1.1 t.2.1) ((0, ()), w64 (a + (w64 ((w64 ((w64 (b - a)).tdiv 4)) * 2))), ())
def F_Z8 : Nat → C_Z8
  | 0, _, _, _ => none
  | k + 1, data, a, b => B_Z8 k (F_Z3 k) (F_Z14 k) data a b
theorem tot_Z8 {data a b : _} {Q : _ → Prop} (h : Tot (fun σ => B_Z8 (σ 0) (F_Z3 (σ 0)) (F_Z14 (σ 0)) data a b) Q) : Tot (fun σ => F_Z8 (σ 0) data a b) Q :=
  Tot.call (F := fun k => F_Z8 k data a b) (B := fun k => B_Z8 k (F_Z3 k) (F_Z14 k) data a b) (fun k => rfl) h
abbrev R_Z7 : Type := Option ((Unit) × (List Int × Unit))
abbrev C_Z7 : Type := List Int → Int → Int → R_Z7
abbrev T_Z7_L0 : Type := List Int × Int × Int × Unit
def B_Z7_L0b (k : Nat) (again0 : T_Z7_L0 → R_Z7) (data : List Int) (i j : Int) : R_Z7 :=
  bif decide (i < j) then
    chk (inb j data.length) <|
    chk (decide (j.toNat < data.length)) <|
    chk (inb i data.length) <|
    chk (decide (i.toNat < data.length)) <|
    chk (inb i data.length) <|
    chk (decide (i.toNat < data.length)) <|
    chk (inb j (data.set i.toNat (data.getD j.toNat (0 : Int))).length) <|
    chk (decide (j.toNat < (data.set i.toNat (data.getD j.toNat (0 : Int))).length)) <|
    again0 (((data.set i.toNat (data.getD j.toNat (0 : Int))).set j.toNat (data.getD i.toNat (0 : Int))), w64 (i + 1), w64 (j - 1), ())
  else
    some ((), (data, ()))
def B_Z7_L0 (k : Nat) (n : Nat) (t : T_Z7_L0) : R_Z7 :=
  lfix n (fun again t => B_Z7_L0b k again t.1 t.2.1 t.2.2.1) t
def B_Z7 (k : Nat) (data : List Int) (a b : Int) : R_Z7 :=
  B_Z7_L0 k k (data, a, w64 (b - 1), ())
def F_Z7 : Nat → C_Z7
  | 0, _, _, _ => none
  | k + 1, data, a, b => B_Z7 k data a b
theorem tot_Z7 {data a b : _} {Q : _ → Prop} (h : Tot (fun σ => B_Z7 (σ 0) data a b) Q) : Tot (fun σ => F_Z7 (σ 0) data a b) Q :=
  Tot.call (F := fun k => F_Z7 k data a b) (B := fun k => B_Z7 k data a b) (fun k => rfl) h
abbrev A_Z7_L0 (Z : Type) : Type := List Int → Int → Int → Z
abbrev u_Z7_L0 {Z : Type} (f : A_Z7_L0 Z) (t : T_Z7_L0) : Z := f t.1 t.2.1 t.2.2.1
theorem loop_Z7_L0 {Q : A_Z7_L0 (((Unit) × (List Int × Unit)) → Prop)} (I : A_Z7_L0 Prop) (μ : A_Z7_L0 Nat)
    (step : ∀ a0 a1 a2, I a0 a1 a2 → ∀ again : (Nat → Nat) → T_Z7_L0 → R_Z7, Dep 2 again → (∀ y0 y1 y2, I y0 y1 y2 → μ y0 y1 y2 < μ a0 a1 a2 → Tot (fun σ => again σ (y0, y1, y2, ())) (Q y0 y1 y2)) →
      Tot (fun σ => B_Z7_L0b (σ 0) (again σ) a0 a1 a2) (Q a0 a1 a2)) :
    ∀ a0 a1 a2, I a0 a1 a2 → Tot (fun σ => B_Z7_L0 (σ 0) (σ 0) (a0, a1, a2, ())) (Q a0 a1 a2) := fun a0 a1 a2 => Tot.loop0 (L := fun k => B_Z7_L0 k) (B := fun k g => u_Z7_L0 (B_Z7_L0b k g)) (Q := u_Z7_L0 Q) (fun _ _ _ => rfl) (u_Z7_L0 I) (u_Z7_L0 μ)
    (fun t ht again hag h => step t.1 t.2.1 t.2.2.1 ht again hag fun y0 y1 y2 => h (y0, y1, y2, ())) (a0, a1, a2, ())
abbrev R_Z2 : Type := Option ((Bool × Unit) × (List Int × Unit))
abbrev C_Z2 : Type := List Int → Int → Int → R_Z2
abbrev T_Z2_L4 : Type := List Int × Int × Int × Int × Int × Int × Unit
abbrev T_Z2_L2 : Type := List Int × Int × Int × Int × Int × Int × Unit
abbrev T_Z2_L1 : Type := List Int × Int × Int × Int × Int × Unit
abbrev T_Z2_L6 : Type := List Int × Int × Int × Int × Int × Unit
def B_Z2_J5 (k : Nat) (c_Z47 : C_Z47) (again6 : T_Z2_L6 → R_Z2) (data : List Int) (a b i j : Int) : R_Z2 :=
  again6 (data, a, b, i, w64 (j + 1), ())
def B_Z2_L4b (k : Nat) (c_Z47 : C_Z47) (again6 : T_Z2_L6 → R_Z2) (again4 : T_Z2_L4 → R_Z2) (data : List Int) (a b i j j10 : Int) : R_Z2 :=
  bif decide (j10 < b) then
    chk (inb j10 data.length) <|
    chk (decide (j10.toNat < data.length)) <|
    chk (inb (w64 (j10 - 1)) data.length) <|
    chk (decide ((w64 (j10 - 1)).toNat < data.length)) <|
    (c_Z47 (data.getD j10.toNat (0 : Int)) (data.getD ((w64 (j10 - 1)).toNat) (0 : Int))).bind fun r115 =>
    bif (!r115.1.1) then
      jn (fun t => B_Z2_J5 k c_Z47 again6 t.1 t.2.1 t.2.2.1 t.2.2.2.1 t.2.2.2.2.1) (data, a, b, i, j, ())
    else
      chk (inb (w64 (j10 - 1)) data.length) <|
      chk (decide ((w64 (j10 - 1)).toNat < data.length)) <|
      chk (inb j10 data.length) <|
      chk (decide (j10.toNat < data.length)) <|
      chk (inb j10 data.length) <|
      chk (decide (j10.toNat < data.length)) <|
      chk (inb (w64 (j10 - 1)) (data.set j10.toNat (data.getD ((w64 (j10 - 1)).toNat) (0 : Int))).length) <|
      chk (decide ((w64 (j10 - 1)).toNat < (data.set j10.toNat (data.getD ((w64 (j10 - 1)).toNat) (0 : Int))).length)) <|
      again4 (((data.set j10.toNat (data.getD ((w64 (j10 - 1)).toNat) (0 : Int))).set ((w64 (j10 - 1)).toNat) (data.getD j10.toNat (0 : Int))), a, b, i, j, w64 (j10 + 1), ())
  else
    jn (fun t => B_Z2_J5 k c_Z47 again6 t.1 t.2.1 t.2.2.1 t.2.2.2.1 t.2.2.2.2.1) (data, a, b, i, j, ())
def B_Z2_L4 (k : Nat) (c_Z47 : C_Z47) (again6 : T_Z2_L6 → R_Z2) (n : Nat) (t : T_Z2_L4) : R_Z2 :=
  lfix n (fun again t => B_Z2_L4b k c_Z47 again6 again t.1 t.2.1 t.2.2.1 t.2.2.2.1 t.2.2.2.2.1 t.2.2.2.2.2.1) t
def B_Z2_J3 (k : Nat) (c_Z47 : C_Z47) (again6 : T_Z2_L6 → R_Z2) (data : List Int) (a b i j : Int) : R_Z2 :=
  bif decide ((w64 (b - i)) ≥ 2) then
    B_Z2_L4 k c_Z47 again6 k (data, a, b, i, j, w64 (i + 1), ())
  else
    jn (fun t => B_Z2_J5 k c_Z47 again6 t.1 t.2.1 t.2.2.1 t.2.2.2.1 t.2.2.2.2.1) (data, a, b, i, j, ())
def B_Z2_L2b (k : Nat) (c_Z47 : C_Z47) (again6 : T_Z2_L6 → R_Z2) (again2 : T_Z2_L2 → R_Z2) (data : List Int) (a b i j j9 : Int) : R_Z2 :=
  bif decide (j9 ≥ 1) then
    chk (inb j9 data.length) <|
    chk (decide (j9.toNat < data.length)) <|
    chk (inb (w64 (j9 - 1)) data.length) <|
    chk (decide ((w64 (j9 - 1)).toNat < data.length)) <|
    (c_Z47 (data.getD j9.toNat (0 : Int)) (data.getD ((w64 (j9 - 1)).toNat) (0 : Int))).bind fun r77 =>
    bif (!r77.1.1) then
      jn (fun t => B_Z2_J3 k c_Z47 again6 t.1 t.2.1 t.2.2.1 t.2.2.2.1 t.2.2.2.2.1) (data, a, b, i, j, ())
    else
      chk (inb (w64 (j9 - 1)) data.length) <|
      chk (decide ((w64 (j9 - 1)).toNat < data.length)) <|
      chk (inb j9 data.length) <|
      chk (decide (j9.toNat < data.length)) <|
      chk (inb j9 data.length) <|
      chk (decide (j9.toNat < data.length)) <|
      chk (inb (w64 (j9 - 1)) (data.set j9.toNat (data.getD ((w64 (j9 - 1)).toNat) (0 : Int))).length) <|
      chk (decide ((w64 (j9 - 1)).toNat < (data.set j9.toNat (data.getD ((w64 (j9 - 1)).toNat) (0 : Int))).length)) <|
      again2 (((data.set j9.toNat (data.getD ((w64 (j9 - 1)).toNat) (0 : Int))).set ((w64 (j9 - 1)).toNat) (data.getD j9.toNat (0 : Int))), a, b, i, j, w64 (j9 - 1), ())
  else
    jn (fun t => B_Z2_J3 k c_Z47 again6 t.1 t.2.1 t.2.2.1 t.2.2.2.1 t.2.2.2.2.1) (data, a, b, i, j, ())
def B_Z2_L2 (k : Nat) (c_Z47 : C_Z47) (again6 : T_Z2_L6 → R_Z2) (n : Nat) (t : T_Z2_L2) : R_Z2 :=
  lfix n (fun again t => B_Z2_L2b k c_Z47 again6 again t.1 t.2.1 t.2.2.1 t.2.2.2.1 t.2.2.2.2.1 t.2.2.2.2.2.1) t
def B_Z2_J0 (k : Nat) (c_Z47 : C_Z47) (again1 : T_Z2_L1 → R_Z2) (again6 : T_Z2_L6 → R_Z2) (data : List Int) (a b i j : Int) (t32 : Bool) : R_Z2 :=
  bif t32 then
    again1 (data, a, b, w64 (i + 1), j, ())
  else
    bif (i == b) then
      some ((true, ()), (data, ()))
    else
      bif decide ((w64 (b - a)) < 50) then
        some ((false, ()), (data, ()))
      else
        chk (inb (w64 (i - 1)) data.length) <|
        chk (decide ((w64 (i - 1)).toNat < data.length)) <|
        chk (inb i data.length) <|
        chk (decide (i.toNat < data.length)) <|
        chk (inb i data.length) <|
        chk (decide (i.toNat < data.length)) <|
        chk (inb (w64 (i - 1)) (data.set i.toNat (data.getD ((w64 (i - 1)).toNat) (0 : Int))).length) <|
        chk (decide ((w64 (i - 1)).toNat < (data.set i.toNat (data.getD ((w64 (i - 1)).toNat) (0 : Int))).length)) <|
        bif decide ((w64 (i - a)) ≥ 2) then
          B_Z2_L2 k c_Z47 again6 k (((data.set i.toNat (data.getD ((w64 (i - 1)).toNat) (0 : Int))).set ((w64 (i - 1)).toNat) (data.getD i.toNat (0 : Int))), a, b, i, j, w64 (i - 1), ())
        else
          jn (fun t => B_Z2_J3 k c_Z47 again6 t.1 t.2.1 t.2.2.1 t.2.2.2.1 t.2.2.2.2.1) (((data.set i.toNat (data.getD ((w64 (i - 1)).toNat) (0 : Int))).set ((w64 (i - 1)).toNat) (data.getD i.toNat (0 : Int))), a, b, i, j, ())
def B_Z2_L1b (k : Nat) (c_Z47 : C_Z47) (again6 : T_Z2_L6 → R_Z2) (again1 : T_Z2_L1 → R_Z2) (data : List Int) (a b i j : Int) : R_Z2 :=
  bif decide (i < b) then
    chk (inb i data.length) <|
    chk (decide (i.toNat < data.length)) <|
    chk (inb (w64 (i - 1)) data.length) <|
    chk (decide ((w64 (i - 1)).toNat < data.length)) <|
    (c_Z47 (data.getD i.toNat (0 : Int)) (data.getD ((w64 (i - 1)).toNat) (0 : Int))).bind fun r30 =>
    jn (fun t => B_Z2_J0 k c_Z47 again1 again6 t.1 t.2.1 t.2.2.1 t.2.2.2.1 t.2.2.2.2.1 t.2.2.2.2.2.1) (data, a, b, i, j, (!r30.1.1), ())
  else
    jn (fun t => B_Z2_J0 k c_Z47 again1 again6 t.1 t.2.1 t.2.2.1 t.2.2.2.1 t.2.2.2.2.1 t.2.2.2.2.2.1) (data, a, b, i, j, false, ())
def B_Z2_L1 (k : Nat) (c_Z47 : C_Z47) (again6 : T_Z2_L6 → R_Z2) (n : Nat) (t : T_Z2_L1) : R_Z2 :=
  lfix n (fun again t => B_Z2_L1b k c_Z47 again6 again t.1 t.2.1 t.2.2.1 t.2.2.2.1 t.2.2.2.2.1) t
def B_Z2_L6b (k : Nat) (c_Z47 : C_Z47) (again6 : T_Z2_L6 → R_Z2) (data : List Int) (a b i j : Int) : R_Z2 :=
  bif decide (j < 5) then
    B_Z2_L1 k c_Z47 again6 k (data, a, b, i, j, ())
  else
    some ((false, ()), (data, ()))
def B_Z2_L6 (k : Nat) (c_Z47 : C_Z47) (n : Nat) (t : T_Z2_L6) : R_Z2 :=
  lfix n (fun again t => B_Z2_L6b k c_Z47 again t.1 t.2.1 t.2.2.1 t.2.2.2.1 t.2.2.2.2.1) t
def B_Z2 (k : Nat) (c_Z47 : C_Z47) (data : List Int) (a b : Int) : R_Z2 :=
  B_Z2_L6 k c_Z47 k (data, a, b, w64 (a + 1), 0, ())
def F_Z2 : Nat → C_Z2
  | 0, _, _, _ => none
  | k + 1, data, a, b => B_Z2 k (F_Z47 k) data a b
theorem tot_Z2 {data a b : _} {Q : _ → Prop} (h : Tot (fun σ => B_Z2 (σ 0) (F_Z47 (σ 0)) data a b) Q) : Tot (fun σ => F_Z2 (σ 0) data a b) Q :=
  Tot.call (F := fun k => F_Z2 k data a b) (B := fun k => B_Z2 k (F_Z47 k) data a b) (fun k => rfl) h
abbrev A_Z2_L4 (Z : Type) : Type := List Int → Int → Int → Int → Int → Int → Z
abbrev u_Z2_L4 {Z : Type} (f : A_Z2_L4 Z) (t : T_Z2_L4) : Z := f t.1 t.2.1 t.2.2.1 t.2.2.2.1 t.2.2.2.2.1 t.2.2.2.2.2.1
theorem loop_Z2_L4 {again6 : (Nat → Nat) → T_Z2_L6 → R_Z2} (hag6 : Dep 2 again6) {Q : A_Z2_L4 (((Bool × Unit) × (List Int × Unit)) → Prop)} (I : A_Z2_L4 Prop) (μ : A_Z2_L4 Nat)
    (step : ∀ a0 a1 a2 a3 a4 a5, I a0 a1 a2 a3 a4 a5 → ∀ again : (Nat → Nat) → T_Z2_L4 → R_Z2, Dep 3 again → (∀ y0 y1 y2 y3 y4 y5, I y0 y1 y2 y3 y4 y5 → μ y0 y1 y2 y3 y4 y5 < μ a0 a1 a2 a3 a4 a5 → Tot (fun σ => again σ (y0, y1, y2, y3, y4, y5, ())) (Q y0 y1 y2 y3 y4 y5)) →
      Tot (fun σ => B_Z2_L4b (σ 0) (F_Z47 (σ 0)) (again6 σ) (again σ) a0 a1 a2 a3 a4 a5) (Q a0 a1 a2 a3 a4 a5)) :
    ∀ a0 a1 a2 a3 a4 a5, I a0 a1 a2 a3 a4 a5 → Tot (fun σ => B_Z2_L4 (σ 0) (F_Z47 (σ 0)) (again6 σ) (σ 0) (a0, a1, a2, a3, a4, a5, ())) (Q a0 a1 a2 a3 a4 a5) := fun a0 a1 a2 a3 a4 a5 => Tot.loop (L := fun σ n t => B_Z2_L4 (σ 0) (F_Z47 (σ 0)) (again6 σ) n t) (B := fun σ g => u_Z2_L4 (B_Z2_L4b (σ 0) (F_Z47 (σ 0)) (again6 σ) g)) (Q := u_Z2_L4 Q) 2 (by decide)
    (fun s s' h => by have e0 : s 0 = s' 0 := h 0 (by decide); simp only [e0, hag6 s s' h]) (fun s s' h => by have e0 : s 0 = s' 0 := h 0 (by decide); simp only [e0, hag6 s s' h]) (fun _ _ _ => rfl) (u_Z2_L4 I) (u_Z2_L4 μ)
    (fun t ht again hag h => step t.1 t.2.1 t.2.2.1 t.2.2.2.1 t.2.2.2.2.1 t.2.2.2.2.2.1 ht again hag fun y0 y1 y2 y3 y4 y5 => h (y0, y1, y2, y3, y4, y5, ())) (a0, a1, a2, a3, a4, a5, ())
abbrev A_Z2_L2 (Z : Type) : Type := List Int → Int → Int → Int → Int → Int → Z
abbrev u_Z2_L2 {Z : Type} (f : A_Z2_L2 Z) (t : T_Z2_L2) : Z := f t.1 t.2.1 t.2.2.1 t.2.2.2.1 t.2.2.2.2.1 t.2.2.2.2.2.1
theorem loop_Z2_L2 {again6 : (Nat → Nat) → T_Z2_L6 → R_Z2} (hag6 : Dep 2 again6) {Q : A_Z2_L2 (((Bool × Unit) × (List Int × Unit)) → Prop)} (I : A_Z2_L2 Prop) (μ : A_Z2_L2 Nat)
    (step : ∀ a0 a1 a2 a3 a4 a5, I a0 a1 a2 a3 a4 a5 → ∀ again : (Nat → Nat) → T_Z2_L2 → R_Z2, Dep 3 again → (∀ y0 y1 y2 y3 y4 y5, I y0 y1 y2 y3 y4 y5 → μ y0 y1 y2 y3 y4 y5 < μ a0 a1 a2 a3 a4 a5 → Tot (fun σ => again σ (y0, y1, y2, y3, y4, y5, ())) (Q y0 y1 y2 y3 y4 y5)) →
      Tot (fun σ => B_Z2_L2b (σ 0) (F_Z47 (σ 0)) (again6 σ) (again σ) a0 a1 a2 a3 a4 a5) (Q a0 a1 a2 a3 a4 a5)) :
    ∀ a0 a1 a2 a3 a4 a5, I a0 a1 a2 a3 a4 a5 → Tot (fun σ => B_Z2_L2 (σ 0) (F_Z47 (σ 0)) (again6 σ) (σ 0) (a0, a1, a2, a3, a4, a5, ())) (Q a0 a1 a2 a3 a4 a5) := fun a0 a1 a2 a3 a4 a5 => Tot.loop (L := fun σ n t => B_Z2_L2 (σ 0) (F_Z47 (σ 0)) (again6 σ) n t) (B := fun σ g => u_Z2_L2 (B_Z2_L2b (σ 0) (F_Z47 (σ 0)) (again6 σ) g)) (Q := u_Z2_L2 Q) 2 (by decide)
    (fun s s' h => by have e0 : s 0 = s' 0 := h 0 (by decide); simp only [e0, hag6 s s' h]) (fun s s' h => by have e0 : s 0 = s' 0 := h 0 (by decide); simp only [e0, hag6 s s' h]) (fun _ _ _ => rfl) (u_Z2_L2 I) (u_Z2_L2 μ)
    (fun t ht again hag h => step t.1 t.2.1 t.2.2.1 t.2.2.2.1 t.2.2.2.2.1 t.2.2.2.2.2.1 ht again hag fun y0 y1 y2 y3 y4 y5 => h (y0, y1, y2, y3, y4, y5, ())) (a0, a1, a2, a3, a4, a5, ())
abbrev A_Z2_L1 (Z : Type) : Type := List Int → Int → Int → Int → Int → Z
abbrev u_Z2_L1 {Z : Type} (f : A_Z2_L1 Z) (t : T_Z2_L1) : Z := f t.1 t.2.1 t.2.2.1 t.2.2.2.1 t.2.2.2.2.1
theorem loop_Z2_L1 {again6 : (Nat → Nat) → T_Z2_L6 → R_Z2} (hag6 : Dep 2 again6) {Q : A_Z2_L1 (((Bool × Unit) × (List Int × Unit)) → Prop)} (I : A_Z2_L1 Prop) (μ : A_Z2_L1 Nat)
    (step : ∀ a0 a1 a2 a3 a4, I a0 a1 a2 a3 a4 → ∀ again : (Nat → Nat) → T_Z2_L1 → R_Z2, Dep 3 again → (∀ y0 y1 y2 y3 y4, I y0 y1 y2 y3 y4 → μ y0 y1 y2 y3 y4 < μ a0 a1 a2 a3 a4 → Tot (fun σ => again σ (y0, y1, y2, y3, y4, ())) (Q y0 y1 y2 y3 y4)) →
      Tot (fun σ => B_Z2_L1b (σ 0) (F_Z47 (σ 0)) (again6 σ) (again σ) a0 a1 a2 a3 a4) (Q a0 a1 a2 a3 a4)) :
    ∀ a0 a1 a2 a3 a4, I a0 a1 a2 a3 a4 → Tot (fun σ => B_Z2_L1 (σ 0) (F_Z47 (σ 0)) (again6 σ) (σ 0) (a0, a1, a2, a3, a4, ())) (Q a0 a1 a2 a3 a4) := fun a0 a1 a2 a3 a4 => Tot.loop (L := fun σ n t => B_Z2_L1 (σ 0) (F_Z47 (σ 0)) (again6 σ) n t) (B := fun σ g => u_Z2_L1 (B_Z2_L1b (σ 0) (F_Z47 (σ 0)) (again6 σ) g)) (Q := u_Z2_L1 Q) 2 (by decide)
    (fun s s' h => by have e0 : s 0 = s' 0 := h 0 (by decide); simp only [e0, hag6 s s' h]) (fun s s' h => by have e0 : s 0 = s' 0 := h 0 (by decide); simp only [e0, hag6 s s' h]) (fun _ _ _ => rfl) (u_Z2_L1 I) (u_Z2_L1 μ)
    (fun t ht again hag h => step t.1 t.2.1 t.2.2.1 t.2.2.2.1 t.2.2.2.2.1 ht again hag fun y0 y1 y2 y3 y4 => h (y0, y1, y2, y3, y4, ())) (a0, a1, a2, a3, a4, ())
abbrev A_Z2_L6 (Z : Type) : Type := List Int → Int → Int → Int → Int → Z
abbrev u_Z2_L6 {Z : Type} (f : A_Z2_L6 Z) (t : T_Z2_L6) : Z := f t.1 t.2.1 t.2.2.1 t.2.2.2.1 t.2.2.2.2.1
theorem loop_Z2_L6 {Q : A_Z2_L6 (((Bool × Unit) × (List Int × Unit)) → Prop)} (I : A_Z2_L6 Prop) (μ : A_Z2_L6 Nat)
    (step : ∀ a0 a1 a2 a3 a4, I a0 a1 a2 a3 a4 → ∀ again : (Nat → Nat) → T_Z2_L6 → R_Z2, Dep 2 again → (∀ y0 y1 y2 y3 y4, I y0 y1 y2 y3 y4 → μ y0 y1 y2 y3 y4 < μ a0 a1 a2 a3 a4 → Tot (fun σ => again σ (y0, y1, y2, y3, y4, ())) (Q y0 y1 y2 y3 y4)) →
      Tot (fun σ => B_Z2_L6b (σ 0) (F_Z47 (σ 0)) (again σ) a0 a1 a2 a3 a4) (Q a0 a1 a2 a3 a4)) :
    ∀ a0 a1 a2 a3 a4, I a0 a1 a2 a3 a4 → Tot (fun σ => B_Z2_L6 (σ 0) (F_Z47 (σ 0)) (σ 0) (a0, a1, a2, a3, a4, ())) (Q a0 a1 a2 a3 a4) := fun a0 a1 a2 a3 a4 => Tot.loop0 (L := fun k => B_Z2_L6 k (F_Z47 k)) (B := fun k g => u_Z2_L6 (B_Z2_L6b k (F_Z47 k) g)) (Q := u_Z2_L6 Q) (fun _ _ _ => rfl) (u_Z2_L6 I) (u_Z2_L6 μ)
    (fun t ht again hag h => step t.1 t.2.1 t.2.2.1 t.2.2.2.1 t.2.2.2.2.1 ht again hag fun y0 y1 y2 y3 y4 => h (y0, y1, y2, y3, y4, ())) (a0, a1, a2, a3, a4, ())
abbrev R_Z4 : Type := Option ((Int × Unit) × (List Int × Unit))
abbrev C_Z4 : Type := List Int → Int → Int → Int → R_Z4
abbrev T_Z4_L3 : Type := List Int × Int × Int × Int × Unit
abbrev T_Z4_L1 : Type := List Int × Int × Int × Int × Unit
abbrev T_Z4_L4 : Type := List Int × Int × Int × Int × Unit
def B_Z4_J2 (k : Nat) (c_Z47 : C_Z47) (again3 : T_Z4_L3 → R_Z4) (again4 : T_Z4_L4 → R_Z4) (data : List Int) (a i j : Int) (t59 : Bool) : R_Z4 :=
  bif t59 then
    again3 (data, a, i, w64 (j - 1), ())
  else
    bif decide (i > j) then
      some ((i, ()), (data, ()))
    else
      chk (inb j data.length) <|
      chk (decide (j.toNat < data.length)) <|
      chk (inb i data.length) <|
      chk (decide (i.toNat < data.length)) <|
      chk (inb i data.length) <|
      chk (decide (i.toNat < data.length)) <|
      chk (inb j (data.set i.toNat (data.getD j.toNat (0 : Int))).length) <|
      chk (decide (j.toNat < (data.set i.toNat (data.getD j.toNat (0 : Int))).length)) <|
      again4 (((data.set i.toNat (data.getD j.toNat (0 : Int))).set j.toNat (data.getD i.toNat (0 : Int))), a, w64 (i + 1), w64 (j - 1), ())
def B_Z4_L3b (k : Nat) (c_Z47 : C_Z47) (again4 : T_Z4_L4 → R_Z4) (again3 : T_Z4_L3 → R_Z4) (data : List Int) (a i j : Int) : R_Z4 :=
  bif decide (i ≤ j) then
    chk (inb a data.length) <|
    chk (decide (a.toNat < data.length)) <|
    chk (inb j data.length) <|
    chk (decide (j.toNat < data.length)) <|
    (c_Z47 (data.getD a.toNat (0 : Int)) (data.getD j.toNat (0 : Int))).bind fun r58 =>
    jn (fun t => B_Z4_J2 k c_Z47 again3 again4 t.1 t.2.1 t.2.2.1 t.2.2.2.1 t.2.2.2.2.1) (data, a, i, j, r58.1.1, ())
  else
    jn (fun t => B_Z4_J2 k c_Z47 again3 again4 t.1 t.2.1 t.2.2.1 t.2.2.2.1 t.2.2.2.2.1) (data, a, i, j, false, ())
def B_Z4_L3 (k : Nat) (c_Z47 : C_Z47) (again4 : T_Z4_L4 → R_Z4) (n : Nat) (t : T_Z4_L3) : R_Z4 :=
  lfix n (fun again t => B_Z4_L3b k c_Z47 again4 again t.1 t.2.1 t.2.2.1 t.2.2.2.1) t
def B_Z4_J0 (k : Nat) (c_Z47 : C_Z47) (again1 : T_Z4_L1 → R_Z4) (again4 : T_Z4_L4 → R_Z4) (data : List Int) (a i j : Int) (t43 : Bool) : R_Z4 :=
  bif t43 then
    again1 (data, a, w64 (i + 1), j, ())
  else
    B_Z4_L3 k c_Z47 again4 k (data, a, i, j, ())
def B_Z4_L1b (k : Nat) (c_Z47 : C_Z47) (again4 : T_Z4_L4 → R_Z4) (again1 : T_Z4_L1 → R_Z4) (data : List Int) (a i j : Int) : R_Z4 :=
  bif decide (i ≤ j) then
    chk (inb a data.length) <|
    chk (decide (a.toNat < data.length)) <|
    chk (inb i data.length) <|
    chk (decide (i.toNat < data.length)) <|
    (c_Z47 (data.getD a.toNat (0 : Int)) (data.getD i.toNat (0 : Int))).bind fun r41 =>
    jn (fun t => B_Z4_J0 k c_Z47 again1 again4 t.1 t.2.1 t.2.2.1 t.2.2.2.1 t.2.2.2.2.1) (data, a, i, j, (!r41.1.1), ())
  else
    jn (fun t => B_Z4_J0 k c_Z47 again1 again4 t.1 t.2.1 t.2.2.1 t.2.2.2.1 t.2.2.2.2.1) (data, a, i, j, false, ())
def B_Z4_L1 (k : Nat) (c_Z47 : C_Z47) (again4 : T_Z4_L4 → R_Z4) (n : Nat) (t : T_Z4_L1) : R_Z4 :=
  lfix n (fun again t => B_Z4_L1b k c_Z47 again4 again t.1 t.2.1 t.2.2.1 t.2.2.2.1) t
def B_Z4_L4b (k : Nat) (c_Z47 : C_Z47) (again4 : T_Z4_L4 → R_Z4) (data : List Int) (a i j : Int) : R_Z4 :=
  B_Z4_L1 k c_Z47 again4 k (data, a, i, j, ())
def B_Z4_L4 (k : Nat) (c_Z47 : C_Z47) (n : Nat) (t : T_Z4_L4) : R_Z4 :=
  lfix n (fun again t => B_Z4_L4b k c_Z47 again t.1 t.2.1 t.2.2.1 t.2.2.2.1) t
def B_Z4 (k : Nat) (c_Z47 : C_Z47) (data : List Int) (a b pivot : Int) : R_Z4 :=
  chk (inb pivot data.length) <|
  chk (decide (pivot.toNat < data.length)) <|
  chk (inb a data.length) <|
  chk (decide (a.toNat < data.length)) <|
  chk (inb a data.length) <|
  chk (decide (a.toNat < data.length)) <|
  chk (inb pivot (data.set a.toNat (data.getD pivot.toNat (0 : Int))).length) <|
  chk (decide (pivot.toNat < (data.set a.toNat (data.getD pivot.toNat (0 : Int))).length)) <|
  B_Z4_L4 k c_Z47 k (((data.set a.toNat (data.getD pivot.toNat (0 : Int))).set pivot.toNat (data.getD a.toNat (0 : Int))), a, w64 (a + 1), w64 (b - 1), ())
def F_Z4 : Nat → C_Z4
  | 0, _, _, _, _ => none
  | k + 1, data, a, b, pivot => B_Z4 k (F_Z47 k) data a b pivot
theorem tot_Z4 {data a b pivot : _} {Q : _ → Prop} (h : Tot (fun σ => B_Z4 (σ 0) (F_Z47 (σ 0)) data a b pivot) Q) : Tot (fun σ => F_Z4 (σ 0) data a b pivot) Q :=
  Tot.call (F := fun k => F_Z4 k data a b pivot) (B := fun k => B_Z4 k (F_Z47 k) data a b pivot) (fun k => rfl) h
abbrev A_Z4_L3 (Z : Type) : Type := List Int → Int → Int → Int → Z
abbrev u_Z4_L3 {Z : Type} (f : A_Z4_L3 Z) (t : T_Z4_L3) : Z := f t.1 t.2.1 t.2.2.1 t.2.2.2.1
theorem loop_Z4_L3 {again4 : (Nat → Nat) → T_Z4_L4 → R_Z4} (hag4 : Dep 2 again4) {Q : A_Z4_L3 (((Int × Unit) × (List Int × Unit)) → Prop)} (I : A_Z4_L3 Prop) (μ : A_Z4_L3 Nat)
    (step : ∀ a0 a1 a2 a3, I a0 a1 a2 a3 → ∀ again : (Nat → Nat) → T_Z4_L3 → R_Z4, Dep 3 again → (∀ y0 y1 y2 y3, I y0 y1 y2 y3 → μ y0 y1 y2 y3 < μ a0 a1 a2 a3 → Tot (fun σ => again σ (y0, y1, y2, y3, ())) (Q y0 y1 y2 y3)) →
      Tot (fun σ => B_Z4_L3b (σ 0) (F_Z47 (σ 0)) (again4 σ) (again σ) a0 a1 a2 a3) (Q a0 a1 a2 a3)) :
    ∀ a0 a1 a2 a3, I a0 a1 a2 a3 → Tot (fun σ => B_Z4_L3 (σ 0) (F_Z47 (σ 0)) (again4 σ) (σ 0) (a0, a1, a2, a3, ())) (Q a0 a1 a2 a3) := fun a0 a1 a2 a3 => Tot.loop (L := fun σ n t => B_Z4_L3 (σ 0) (F_Z47 (σ 0)) (again4 σ) n t) (B := fun σ g => u_Z4_L3 (B_Z4_L3b (σ 0) (F_Z47 (σ 0)) (again4 σ) g)) (Q := u_Z4_L3 Q) 2 (by decide)
    (fun s s' h => by have e0 : s 0 = s' 0 := h 0 (by decide); simp only [e0, hag4 s s' h]) (fun s s' h => by have e0 : s 0 = s' 0 := h 0 (by decide); simp only [e0, hag4 s s' h]) (fun _ _ _ => rfl) (u_Z4_L3 I) (u_Z4_L3 μ)
    (fun t ht again hag h => step t.1 t.2.1 t.2.2.1 t.2.2.2.1 ht again hag fun y0 y1 y2 y3 => h (y0, y1, y2, y3, ())) (a0, a1, a2, a3, ())
abbrev A_Z4_L1 (Z : Type) : Type := List Int → Int → Int → Int → Z
abbrev u_Z4_L1 {Z : Type} (f : A_Z4_L1 Z) (t : T_Z4_L1) : Z := f t.1 t.2.1 t.2.2.1 t.2.2.2.1
theorem loop_Z4_L1 {again4 : (Nat → Nat) → T_Z4_L4 → R_Z4} (hag4 : Dep 2 again4) {Q : A_Z4_L1 (((Int × Unit) × (List Int × Unit)) → Prop)} (I : A_Z4_L1 Prop) (μ : A_Z4_L1 Nat)
    (step : ∀ a0 a1 a2 a3, I a0 a1 a2 a3 → ∀ again : (Nat → Nat) → T_Z4_L1 → R_Z4, Dep 3 again → (∀ y0 y1 y2 y3, I y0 y1 y2 y3 → μ y0 y1 y2 y3 < μ a0 a1 a2 a3 → Tot (fun σ => again σ (y0, y1, y2, y3, ())) (Q y0 y1 y2 y3)) →
      Tot (fun σ => B_Z4_L1b (σ 0) (F_Z47 (σ 0)) (again4 σ) (again σ) a0 a1 a2 a3) (Q a0 a1 a2 a3)) :
    ∀ a0 a1 a2 a3, I a0 a1 a2 a3 → Tot (fun σ => B_Z4_L1 (σ 0) (F_Z47 (σ 0)) (again4 σ) (σ 0) (a0, a1, a2, a3, ())) (Q a0 a1 a2 a3) := fun a0 a1 a2 a3 => Tot.loop (L := fun σ n t => B_Z4_L1 (σ 0) (F_Z47 (σ 0)) (again4 σ) n t) (B := fun σ g => u_Z4_L1 (B_Z4_L1b (σ 0) (F_Z47 (σ 0)) (again4 σ) g)) (Q := u_Z4_L1 Q) 2 (by decide)
    (fun s s' h => by have e0 : s 0 = s' 0 := h 0 (by decide); simp only [e0, hag4 s s' h]) (fun s s' h => by have e0 : s 0 = s' 0 := h 0 (by decide); simp only [e0, hag4 s s' h]) (fun _ _ _ => rfl) (u_Z4_L1 I) (u_Z4_L1 μ)
    (fun t ht again hag h => step t.1 t.2.1 t.2.2.1 t.2.2.2.1 ht again hag fun y0 y1 y2 y3 => h (y0, y1, y2, y3, ())) (a0, a1, a2, a3, ())
abbrev A_Z4_L4 (Z : Type) : Type := List Int → Int → Int → Int → Z
abbrev u_Z4_L4 {Z : Type} (f : A_Z4_L4 Z) (t : T_Z4_L4) : Z := f t.1 t.2.1 t.2.2.1 t.2.2.2.1
theorem loop_Z4_L4 {Q : A_Z4_L4 (((Int × Unit) × (List Int × Unit)) → Prop)} (I : A_Z4_L4 Prop) (μ : A_Z4_L4 Nat)
    (step : ∀ a0 a1 a2 a3, I a0 a1 a2 a3 → ∀ again : (Nat → Nat) → T_Z4_L4 → R_Z4, Dep 2 again → (∀ y0 y1 y2 y3, I y0 y1 y2 y3 → μ y0 y1 y2 y3 < μ a0 a1 a2 a3 → Tot (fun σ => again σ (y0, y1, y2, y3, ())) (Q y0 y1 y2 y3)) →
      Tot (fun σ => B_Z4_L4b (σ 0) (F_Z47 (σ 0)) (again σ) a0 a1 a2 a3) (Q a0 a1 a2 a3)) :
    ∀ a0 a1 a2 a3, I a0 a1 a2 a3 → Tot (fun σ => B_Z4_L4 (σ 0) (F_Z47 (σ 0)) (σ 0) (a0, a1, a2, a3, ())) (Q a0 a1 a2 a3) := fun a0 a1 a2 a3 => Tot.loop0 (L := fun k => B_Z4_L4 k (F_Z47 k)) (B := fun k g => u_Z4_L4 (B_Z4_L4b k (F_Z47 k) g)) (Q := u_Z4_L4 Q) (fun _ _ _ => rfl) (u_Z4_L4 I) (u_Z4_L4 μ)
    (fun t ht again hag h => step t.1 t.2.1 t.2.2.1 t.2.2.2.1 ht again hag fun y0 y1 y2 y3 => h (y0, y1, y2, y3, ())) (a0, a1, a2, a3, ())
abbrev R_Z10 : Type := Option ((Int × Bool × Unit) × (List Int × Unit))
abbrev C_Z10 : Type := List Int → Int → Int → Int → R_Z10
abbrev T_Z10_L7 : Type := List Int × Int × Int × Int × Unit
abbrev T_Z10_L5 : Type := List Int × Int × Int × Int × Unit
abbrev T_Z10_L8 : Type := List Int × Int × Int × Int × Unit
abbrev T_Z10_L3 : Type := List Int × Int × Int × Int × Unit
abbrev T_Z10_L1 : Type := List Int × Int × Int × Int × Unit
def B_Z10_J6 (k : Nat) (c_Z47 : C_Z47) (again7 : T_Z10_L7 → R_Z10) (again8 : T_Z10_L8 → R_Z10) (data : List Int) (a i j : Int) (t129 : Bool) : R_Z10 :=
  bif t129 then
    again7 (data, a, i, w64 (j - 1), ())
  else
    bif decide (i > j) then
      chk (inb a data.length) <|
      chk (decide (a.toNat < data.length)) <|
      chk (inb j data.length) <|
      chk (decide (j.toNat < data.length)) <|
      chk (inb j data.length) <|
      chk (decide (j.toNat < data.length)) <|
      chk (inb a (data.set j.toNat (data.getD a.toNat (0 : Int))).length) <|
      chk (decide (a.toNat < (data.set j.toNat (data.getD a.toNat (0 : Int))).length)) <|
      some ((j, false, ()), (((data.set j.toNat (data.getD a.toNat (0 : Int))).set a.toNat (data.getD j.toNat (0 : Int))), ()))
    else
      chk (inb j data.length) <|
      chk (decide (j.toNat < data.length)) <|
      chk (inb i data.length) <|
      chk (decide (i.toNat < data.length)) <|
      chk (inb i data.length) <|
      chk (decide (i.toNat < data.length)) <|
      chk (inb j (data.set i.toNat (data.getD j.toNat (0 : Int))).length) <|
      chk (decide (j.toNat < (data.set i.toNat (data.getD j.toNat (0 : Int))).length)) <|
      again8 (((data.set i.toNat (data.getD j.toNat (0 : Int))).set j.toNat (data.getD i.toNat (0 : Int))), a, w64 (i + 1), w64 (j - 1), ())
def B_Z10_L7b (k : Nat) (c_Z47 : C_Z47) (again8 : T_Z10_L8 → R_Z10) (again7 : T_Z10_L7 → R_Z10) (data : List Int) (a i j : Int) : R_Z10 :=
  bif decide (i ≤ j) then
    chk (inb j data.length) <|
    chk (decide (j.toNat < data.length)) <|
    chk (inb a data.length) <|
    chk (decide (a.toNat < data.length)) <|
    (c_Z47 (data.getD j.toNat (0 : Int)) (data.getD a.toNat (0 : Int))).bind fun r127 =>
    jn (fun t => B_Z10_J6 k c_Z47 again7 again8 t.1 t.2.1 t.2.2.1 t.2.2.2.1 t.2.2.2.2.1) (data, a, i, j, (!r127.1.1), ())
  else
    jn (fun t => B_Z10_J6 k c_Z47 again7 again8 t.1 t.2.1 t.2.2.1 t.2.2.2.1 t.2.2.2.2.1) (data, a, i, j, false, ())
def B_Z10_L7 (k : Nat) (c_Z47 : C_Z47) (again8 : T_Z10_L8 → R_Z10) (n : Nat) (t : T_Z10_L7) : R_Z10 :=
  lfix n (fun again t => B_Z10_L7b k c_Z47 again8 again t.1 t.2.1 t.2.2.1 t.2.2.2.1) t
def B_Z10_J4 (k : Nat) (c_Z47 : C_Z47) (again5 : T_Z10_L5 → R_Z10) (again8 : T_Z10_L8 → R_Z10) (data : List Int) (a i j : Int) (t112 : Bool) : R_Z10 :=
  bif t112 then
    again5 (data, a, w64 (i + 1), j, ())
  else
    B_Z10_L7 k c_Z47 again8 k (data, a, i, j, ())
def B_Z10_L5b (k : Nat) (c_Z47 : C_Z47) (again8 : T_Z10_L8 → R_Z10) (again5 : T_Z10_L5 → R_Z10) (data : List Int) (a i j : Int) : R_Z10 :=
  bif decide (i ≤ j) then
    chk (inb i data.length) <|
    chk (decide (i.toNat < data.length)) <|
    chk (inb a data.length) <|
    chk (decide (a.toNat < data.length)) <|
    (c_Z47 (data.getD i.toNat (0 : Int)) (data.getD a.toNat (0 : Int))).bind fun r111 =>
    jn (fun t => B_Z10_J4 k c_Z47 again5 again8 t.1 t.2.1 t.2.2.1 t.2.2.2.1 t.2.2.2.2.1) (data, a, i, j, r111.1.1, ())
  else
    jn (fun t => B_Z10_J4 k c_Z47 again5 again8 t.1 t.2.1 t.2.2.1 t.2.2.2.1 t.2.2.2.2.1) (data, a, i, j, false, ())
def B_Z10_L5 (k : Nat) (c_Z47 : C_Z47) (again8 : T_Z10_L8 → R_Z10) (n : Nat) (t : T_Z10_L5) : R_Z10 :=
  lfix n (fun again t => B_Z10_L5b k c_Z47 again8 again t.1 t.2.1 t.2.2.1 t.2.2.2.1) t
def B_Z10_L8b (k : Nat) (c_Z47 : C_Z47) (again8 : T_Z10_L8 → R_Z10) (data : List Int) (a i j : Int) : R_Z10 :=
  B_Z10_L5 k c_Z47 again8 k (data, a, i, j, ())
def B_Z10_L8 (k : Nat) (c_Z47 : C_Z47) (n : Nat) (t : T_Z10_L8) : R_Z10 :=
  lfix n (fun again t => B_Z10_L8b k c_Z47 again t.1 t.2.1 t.2.2.1 t.2.2.2.1) t
def B_Z10_J2 (k : Nat) (c_Z47 : C_Z47) (again3 : T_Z10_L3 → R_Z10) (data : List Int) (a i j : Int) (t60 : Bool) : R_Z10 :=
  bif t60 then
    again3 (data, a, i, w64 (j - 1), ())
  else
    bif decide (i > j) then
      chk (inb a data.length) <|
      chk (decide (a.toNat < data.length)) <|
      chk (inb j data.length) <|
      chk (decide (j.toNat < data.length)) <|
      chk (inb j data.length) <|
      chk (decide (j.toNat < data.length)) <|
      chk (inb a (data.set j.toNat (data.getD a.toNat (0 : Int))).length) <|
      chk (decide (a.toNat < (data.set j.toNat (data.getD a.toNat (0 : Int))).length)) <|
      some ((j, true, ()), (((data.set j.toNat (data.getD a.toNat (0 : Int))).set a.toNat (data.getD j.toNat (0 : Int))), ()))
    else
      chk (inb j data.length) <|
      chk (decide (j.toNat < data.length)) <|
      chk (inb i data.length) <|
      chk (decide (i.toNat < data.length)) <|
      chk (inb i data.length) <|
      chk (decide (i.toNat < data.length)) <|
      chk (inb j (data.set i.toNat (data.getD j.toNat (0 : Int))).length) <|
      chk (decide (j.toNat < (data.set i.toNat (data.getD j.toNat (0 : Int))).length)) <|
      B_Z10_L8 k c_Z47 k (((data.set i.toNat (data.getD j.toNat (0 : Int))).set j.toNat (data.getD i.toNat (0 : Int))), a, w64 (i + 1), w64 (j - 1), ())
def B_Z10_L3b (k : Nat) (c_Z47 : C_Z47) (again3 : T_Z10_L3 → R_Z10) (data : List Int) (a i j : Int) : R_Z10 :=
  bif decide (i ≤ j) then
    chk (inb j data.length) <|
    chk (decide (j.toNat < data.length)) <|
    chk (inb a data.length) <|
    chk (decide (a.toNat < data.length)) <|
    (c_Z47 (data.getD j.toNat (0 : Int)) (data.getD a.toNat (0 : Int))).bind fun r58 =>
    jn (fun t => B_Z10_J2 k c_Z47 again3 t.1 t.2.1 t.2.2.1 t.2.2.2.1 t.2.2.2.2.1) (data, a, i, j, (!r58.1.1), ())
  else
    jn (fun t => B_Z10_J2 k c_Z47 again3 t.1 t.2.1 t.2.2.1 t.2.2.2.1 t.2.2.2.2.1) (data, a, i, j, false, ())
def B_Z10_L3 (k : Nat) (c_Z47 : C_Z47) (n : Nat) (t : T_Z10_L3) : R_Z10 :=
  lfix n (fun again t => B_Z10_L3b k c_Z47 again t.1 t.2.1 t.2.2.1 t.2.2.2.1) t
def B_Z10_J0 (k : Nat) (c_Z47 : C_Z47) (again1 : T_Z10_L1 → R_Z10) (data : List Int) (a i j : Int) (t43 : Bool) : R_Z10 :=
  bif t43 then
    again1 (data, a, w64 (i + 1), j, ())
  else
    B_Z10_L3 k c_Z47 k (data, a, i, j, ())
def B_Z10_L1b (k : Nat) (c_Z47 : C_Z47) (again1 : T_Z10_L1 → R_Z10) (data : List Int) (a i j : Int) : R_Z10 :=
  bif decide (i ≤ j) then
    chk (inb i data.length) <|
    chk (decide (i.toNat < data.length)) <|
    chk (inb a data.length) <|
    chk (decide (a.toNat < data.length)) <|
    (c_Z47 (data.getD i.toNat (0 : Int)) (data.getD a.toNat (0 : Int))).bind fun r42 =>
    jn (fun t => B_Z10_J0 k c_Z47 again1 t.1 t.2.1 t.2.2.1 t.2.2.2.1 t.2.2.2.2.1) (data, a, i, j, r42.1.1, ())
  else
    jn (fun t => B_Z10_J0 k c_Z47 again1 t.1 t.2.1 t.2.2.1 t.2.2.2.1 t.2.2.2.2.1) (data, a, i, j, false, ())
def B_Z10_L1 (k : Nat) (c_Z47 : C_Z47) (n : Nat) (t : T_Z10_L1) : R_Z10 :=
  lfix n (fun again t => B_Z10_L1b k c_Z47 again t.1 t.2.1 t.2.2.1 t.2.2.2.1) t
def B_Z10 (k : Nat) (c_Z47 : C_Z47) (data : List Int) (a b pivot : Int) : R_Z10 :=
  chk (inb pivot data.length) <|
  chk (decide (pivot.toNat < data.length)) <|
  chk (inb a data.length) <|
  chk (decide (a.toNat < data.length)) <|
  chk (inb a data.length) <|
  chk (decide (a.toNat < data.length)) <|
  chk (inb pivot (data.set a.toNat (data.getD pivot.toNat (0 : Int))).length) <|
  chk (decide (pivot.toNat < (data.set a.toNat (data.getD pivot.toNat (0 : Int))).length)) <|
  B_Z10_L1 k c_Z47 k (((data.set a.toNat (data.getD pivot.toNat (0 : Int))).set pivot.toNat (data.getD a.toNat (0 : Int))), a, w64 (a + 1), w64 (b - 1), ())
def F_Z10 : Nat → C_Z10
  | 0, _, _, _, _ => none
  | k + 1, data, a, b, pivot => B_Z10 k (F_Z47 k) data a b pivot
theorem tot_Z10 {data a b pivot : _} {Q : _ → Prop} (h : Tot (fun σ => B_Z10 (σ 0) (F_Z47 (σ 0)) data a b pivot) Q) : Tot (fun σ => F_Z10 (σ 0) data a b pivot) Q :=
  Tot.call (F := fun k => F_Z10 k data a b pivot) (B := fun k => B_Z10 k (F_Z47 k) data a b pivot) (fun k => rfl) h
abbrev A_Z10_L7 (Z : Type) : Type := List Int → Int → Int → Int → Z
abbrev u_Z10_L7 {Z : Type} (f : A_Z10_L7 Z) (t : T_Z10_L7) : Z := f t.1 t.2.1 t.2.2.1 t.2.2.2.1
theorem loop_Z10_L7 {again8 : (Nat → Nat) → T_Z10_L8 → R_Z10} (hag8 : Dep 2 again8) {Q : A_Z10_L7 (((Int × Bool × Unit) × (List Int × Unit)) → Prop)} (I : A_Z10_L7 Prop) (μ : A_Z10_L7 Nat)
    (step : ∀ a0 a1 a2 a3, I a0 a1 a2 a3 → ∀ again : (Nat → Nat) → T_Z10_L7 → R_Z10, Dep 3 again → (∀ y0 y1 y2 y3, I y0 y1 y2 y3 → μ y0 y1 y2 y3 < μ a0 a1 a2 a3 → Tot (fun σ => again σ (y0, y1, y2, y3, ())) (Q y0 y1 y2 y3)) →
      Tot (fun σ => B_Z10_L7b (σ 0) (F_Z47 (σ 0)) (again8 σ) (again σ) a0 a1 a2 a3) (Q a0 a1 a2 a3)) :
    ∀ a0 a1 a2 a3, I a0 a1 a2 a3 → Tot (fun σ => B_Z10_L7 (σ 0) (F_Z47 (σ 0)) (again8 σ) (σ 0) (a0, a1, a2, a3, ())) (Q a0 a1 a2 a3) := fun a0 a1 a2 a3 => Tot.loop (L := fun σ n t => B_Z10_L7 (σ 0) (F_Z47 (σ 0)) (again8 σ) n t) (B := fun σ g => u_Z10_L7 (B_Z10_L7b (σ 0) (F_Z47 (σ 0)) (again8 σ) g)) (Q := u_Z10_L7 Q) 2 (by decide)
    (fun s s' h => by have e0 : s 0 = s' 0 := h 0 (by decide); simp only [e0, hag8 s s' h]) (fun s s' h => by have e0 : s 0 = s' 0 := h 0 (by decide); simp only [e0, hag8 s s' h]) (fun _ _ _ => rfl) (u_Z10_L7 I) (u_Z10_L7 μ)
    (fun t ht again hag h => step t.1 t.2.1 t.2.2.1 t.2.2.2.1 ht again hag fun y0 y1 y2 y3 => h (y0, y1, y2, y3, ())) (a0, a1, a2, a3, ())
abbrev A_Z10_L5 (Z : Type) : Type := List Int → Int → Int → Int → Z
abbrev u_Z10_L5 {Z : Type} (f : A_Z10_L5 Z) (t : T_Z10_L5) : Z := f t.1 t.2.1 t.2.2.1 t.2.2.2.1
theorem loop_Z10_L5 {again8 : (Nat → Nat) → T_Z10_L8 → R_Z10} (hag8 : Dep 2 again8) {Q : A_Z10_L5 (((Int × Bool × Unit) × (List Int × Unit)) → Prop)} (I : A_Z10_L5 Prop) (μ : A_Z10_L5 Nat)
    (step : ∀ a0 a1 a2 a3, I a0 a1 a2 a3 → ∀ again : (Nat → Nat) → T_Z10_L5 → R_Z10, Dep 3 again → (∀ y0 y1 y2 y3, I y0 y1 y2 y3 → μ y0 y1 y2 y3 < μ a0 a1 a2 a3 → Tot (fun σ => again σ (y0, y1, y2, y3, ())) (Q y0 y1 y2 y3)) →
      Tot (fun σ => B_Z10_L5b (σ 0) (F_Z47 (σ 0)) (again8 σ) (again σ) a0 a1 a2 a3) (Q a0 a1 a2 a3)) :
    ∀ a0 a1 a2 a3, I a0 a1 a2 a3 → Tot (fun σ => B_Z10_L5 (σ 0) (F_Z47 (σ 0)) (again8 σ) (σ 0) (a0, a1, a2, a3, ())) (Q a0 a1 a2 a3) := fun a0 a1 a2 a3 => Tot.loop (L := fun σ n t => B_Z10_L5 (σ 0) (F_Z47 (σ 0)) (again8 σ) n t) (B := fun σ g => u_Z10_L5 (B_Z10_L5b (σ 0) (F_Z47 (σ 0)) (again8 σ) g)) (Q := u_Z10_L5 Q) 2 (by decide)
    (fun s s' h => by have e0 : s 0 = s' 0 := h 0 (by decide); simp only [e0, hag8 s s' h]) (fun s s' h => by have e0 : s 0 = s' 0 := h 0 (by decide); simp only [e0, hag8 s s' h]) (fun _ _ _ => rfl) (u_Z10_L5 I) (u_Z10_L5 μ)
    (fun t ht again hag h => step t.1 t.2.1 t.2.2.1 t.2.2.2.1 ht again hag fun y0 y1 y2 y3 => h (y0, y1, y2, y3, ())) (a0, a1, a2, a3, ())
abbrev A_Z10_L8 (Z : Type) : Type := List Int → Int → Int → Int → Z
abbrev u_Z10_L8 {Z : Type} (f : A_Z10_L8 Z) (t : T_Z10_L8) : Z := f t.1 t.2.1 t.2.2.1 t.2.2.2.1
theorem loop_Z10_L8 {Q : A_Z10_L8 (((Int × Bool × Unit) × (List Int × Unit)) → Prop)} (I : A_Z10_L8 Prop) (μ : A_Z10_L8 Nat)
    (step : ∀ a0 a1 a2 a3, I a0 a1 a2 a3 → ∀ again : (Nat → Nat) → T_Z10_L8 → R_Z10, Dep 2 again → (∀ y0 y1 y2 y3, I y0 y1 y2 y3 → μ y0 y1 y2 y3 < μ a0 a1 a2 a3 → Tot (fun σ => again σ (y0, y1, y2, y3, ())) (Q y0 y1 y2 y3)) →
      Tot (fun σ => B_Z10_L8b (σ 0) (F_Z47 (σ 0)) (again σ) a0 a1 a2 a3) (Q a0 a1 a2 a3)) :
    ∀ a0 a1 a2 a3, I a0 a1 a2 a3 → Tot (fun σ => B_Z10_L8 (σ 0) (F_Z47 (σ 0)) (σ 0) (a0, a1, a2, a3, ())) (Q a0 a1 a2 a3) := fun a0 a1 a2 a3 => Tot.loop0 (L := fun k => B_Z10_L8 k (F_Z47 k)) (B := fun k g => u_Z10_L8 (B_Z10_L8b k (F_Z47 k) g)) (Q := u_Z10_L8 Q) (fun _ _ _ => rfl) (u_Z10_L8 I) (u_Z10_L8 μ)
    (fun t ht again hag h => step t.1 t.2.1 t.2.2.1 t.2.2.2.1 ht again hag fun y0 y1 y2 y3 => h (y0, y1, y2, y3, ())) (a0, a1, a2, a3, ())
abbrev A_Z10_L3 (Z : Type) : Type := List Int → Int → Int → Int → Z
abbrev u_Z10_L3 {Z : Type} (f : A_Z10_L3 Z) (t : T_Z10_L3) : Z := f t.1 t.2.1 t.2.2.1 t.2.2.2.1
theorem loop_Z10_L3 {Q : A_Z10_L3 (((Int × Bool × Unit) × (List Int × Unit)) → Prop)} (I : A_Z10_L3 Prop) (μ : A_Z10_L3 Nat)
    (step : ∀ a0 a1 a2 a3, I a0 a1 a2 a3 → ∀ again : (Nat → Nat) → T_Z10_L3 → R_Z10, Dep 2 again → (∀ y0 y1 y2 y3, I y0 y1 y2 y3 → μ y0 y1 y2 y3 < μ a0 a1 a2 a3 → Tot (fun σ => again σ (y0, y1, y2, y3, ())) (Q y0 y1 y2 y3)) →
      Tot (fun σ => B_Z10_L3b (σ 0) (F_Z47 (σ 0)) (again σ) a0 a1 a2 a3) (Q a0 a1 a2 a3)) :
    ∀ a0 a1 a2 a3, I a0 a1 a2 a3 → Tot (fun σ => B_Z10_L3 (σ 0) (F_Z47 (σ 0)) (σ 0) (a0, a1, a2, a3, ())) (Q a0 a1 a2 a3) := fun a0 a1 a2 a3 => Tot.loop0 (L := fun k => B_Z10_L3 k (F_Z47 k)) (B := fun k g => u_Z10_L3 (B_Z10_L3b k (F_Z47 k) g)) (Q := u_Z10_L3 Q) (fun _ _ _ => rfl) (u_Z10_L3 I) (u_Z10_L3 μ)
    (fun t ht again hag h => step t.1 t.2.1 t.2.2.1 t.2.2.2.1 ht again hag fun y0 y1 y2 y3 => h (y0, y1, y2, y3, ())) (a0, a1, a2, a3, ())
abbrev A_Z10_L1 (Z : Type) : Type := List Int → Int → Int → Int → Z
abbrev u_Z10_L1 {Z : Type} (f : A_Z10_L1 Z) (t : T_Z10_L1) : Z := f t.1 t.2.1 t.2.2.1 t.2.2.2.1
theorem loop_Z10_L1 {Q : A_Z10_L1 (((Int × Bool × Unit) × (List Int × Unit)) → Prop)} (I : A_Z10_L1 Prop) (μ : A_Z10_L1 Nat)
    (step : ∀ a0 a1 a2 a3, I a0 a1 a2 a3 → ∀ again : (Nat → Nat) → T_Z10_L1 → R_Z10, Dep 2 again → (∀ y0 y1 y2 y3, I y0 y1 y2 y3 → μ y0 y1 y2 y3 < μ a0 a1 a2 a3 → Tot (fun σ => again σ (y0, y1, y2, y3, ())) (Q y0 y1 y2 y3)) →
      Tot (fun σ => B_Z10_L1b (σ 0) (F_Z47 (σ 0)) (again σ) a0 a1 a2 a3) (Q a0 a1 a2 a3)) :
    ∀ a0 a1 a2 a3, I a0 a1 a2 a3 → Tot (fun σ => B_Z10_L1 (σ 0) (F_Z47 (σ 0)) (σ 0) (a0, a1, a2, a3, ())) (Q a0 a1 a2 a3) := fun a0 a1 a2 a3 => Tot.loop0 (L := fun k => B_Z10_L1 k (F_Z47 k)) (B := fun k g => u_Z10_L1 (B_Z10_L1b k (F_Z47 k) g)) (Q := u_Z10_L1 Q) (fun _ _ _ => rfl) (u_Z10_L1 I) (u_Z10_L1 μ)
    (fun t ht again hag h => step t.1 t.2.1 t.2.2.1 t.2.2.2.1 ht again hag fun y0 y1 y2 y3 => h (y0, y1, y2, y3, ())) (a0, a1, a2, a3, ())
abbrev R_Z13 : Type := Option ((Unit) × (List Int × Unit))
abbrev C_Z13 : Type := List Int → Int → Int → Int → R_Z13
abbrev T_Z13_L5 : Type := List Int × Int × Int × Int × Bool × Bool × Unit
def B_Z13_J4 (k : Nat) (c_Z6 : C_Z6) (c_Z11 : C_Z11) (c_Z5 : C_Z5) (c_Z8 : C_Z8) (c_Z7 : C_Z7) (c_Z2 : C_Z2) (c_Z47 : C_Z47) (c_Z4 : C_Z4) (c_Z10 : C_Z10) (c_Z13 : C_Z13) (again5 : T_Z13_L5 → R_Z13) (data : List Int) (a b limit : Int) (wasBalanced wasPartitioned : Bool) (length pivot : Int) (t87 : Bool) : R_Z13 :=
  bif t87 then
    (c_Z4 data a b pivot).bind fun r92 =>
    again5 (r92.2.1, r92.1.1, b, limit, wasBalanced, wasPartitioned, ())
  else
    (c_Z10 data a b pivot).bind fun r99 =>
    bif decide ((w64 (r99.1.1 - a)) < (w64 (b - r99.1.1))) then
      (c_Z13 r99.2.1 a r99.1.1 limit).bind fun r121 =>
      again5 (r121.2.1, w64 (r99.1.1 + 1), b, limit, decide ((w64 (r99.1.1 - a)) ≥ (w64 (length.tdiv 8))), r99.1.2.1, ())
    else
      (c_Z13 r99.2.1 (w64 (r99.1.1 + 1)) b limit).bind fun r132 =>
      again5 (r132.2.1, a, r99.1.1, limit, decide ((w64 (b - r99.1.1)) ≥ (w64 (length.tdiv 8))), r99.1.2.1, ())
def B_Z13_J3 (k : Nat) (c_Z6 : C_Z6) (c_Z11 : C_Z11) (c_Z5 : C_Z5) (c_Z8 : C_Z8) (c_Z7 : C_Z7) (c_Z2 : C_Z2) (c_Z47 : C_Z47) (c_Z4 : C_Z4) (c_Z10 : C_Z10) (c_Z13 : C_Z13) (again5 : T_Z13_L5 → R_Z13) (data : List Int) (a b limit : Int) (wasBalanced wasPartitioned : Bool) (length pivot : Int) : R_Z13 :=
  bif decide (a > 0) then
    chk (inb (w64 (a - 1)) data.length) <|
    chk (decide ((w64 (a - 1)).toNat < data.length)) <|
    chk (inb pivot data.length) <|
    chk (decide (pivot.toNat < data.length)) <|
    (c_Z47 (data.getD ((w64 (a - 1)).toNat) (0 : Int)) (data.getD pivot.toNat (0 : Int))).bind fun r85 =>
    jn (fun t => B_Z13_J4 k c_Z6 c_Z11 c_Z5 c_Z8 c_Z7 c_Z2 c_Z47 c_Z4 c_Z10 c_Z13 again5 t.1 t.2.1 t.2.2.1 t.2.2.2.1 t.2.2.2.2.1 t.2.2.2.2.2.1 t.2.2.2.2.2.2.1 t.2.2.2.2.2.2.2.1 t.2.2.2.2.2.2.2.2.1) (data, a, b, limit, wasBalanced, wasPartitioned, length, pivot, (!r85.1.1), ())
  else
    jn (fun t => B_Z13_J4 k c_Z6 c_Z11 c_Z5 c_Z8 c_Z7 c_Z2 c_Z47 c_Z4 c_Z10 c_Z13 again5 t.1 t.2.1 t.2.2.1 t.2.2.2.1 t.2.2.2.2.1 t.2.2.2.2.2.1 t.2.2.2.2.2.2.1 t.2.2.2.2.2.2.2.1 t.2.2.2.2.2.2.2.2.1) (data, a, b, limit, wasBalanced, wasPartitioned, length, pivot, false, ())
def B_Z13_J2 (k : Nat) (c_Z6 : C_Z6) (c_Z11 : C_Z11) (c_Z5 : C_Z5) (c_Z8 : C_Z8) (c_Z7 : C_Z7) (c_Z2 : C_Z2) (c_Z47 : C_Z47) (c_Z4 : C_Z4) (c_Z10 : C_Z10) (c_Z13 : C_Z13) (again5 : T_Z13_L5 → R_Z13) (data : List Int) (a b limit : Int) (wasBalanced wasPartitioned : Bool) (length pivot : Int) (t68 : Bool) : R_Z13 :=
  bif t68 then
    (c_Z2 data a b).bind fun r72 =>
    bif r72.1.1 then
      some ((), (r72.2.1, ()))
    else
      jn (fun t => B_Z13_J3 k c_Z6 c_Z11 c_Z5 c_Z8 c_Z7 c_Z2 c_Z47 c_Z4 c_Z10 c_Z13 again5 t.1 t.2.1 t.2.2.1 t.2.2.2.1 t.2.2.2.2.1 t.2.2.2.2.2.1 t.2.2.2.2.2.2.1 t.2.2.2.2.2.2.2.1) (r72.2.1, a, b, limit, wasBalanced, wasPartitioned, length, pivot, ())
  else
    jn (fun t => B_Z13_J3 k c_Z6 c_Z11 c_Z5 c_Z8 c_Z7 c_Z2 c_Z47 c_Z4 c_Z10 c_Z13 again5 t.1 t.2.1 t.2.2.1 t.2.2.2.1 t.2.2.2.2.1 t.2.2.2.2.2.1 t.2.2.2.2.2.2.1 t.2.2.2.2.2.2.2.1) (data, a, b, limit, wasBalanced, wasPartitioned, length, pivot, ())
def B_Z13_J1 (k : Nat) (c_Z6 : C_Z6) (c_Z11 : C_Z11) (c_Z5 : C_Z5) (c_Z8 : C_Z8) (c_Z7 : C_Z7) (c_Z2 : C_Z2) (c_Z47 : C_Z47) (c_Z4 : C_Z4) (c_Z10 : C_Z10) (c_Z13 : C_Z13) (again5 : T_Z13_L5 → R_Z13) (data : List Int) (a b limit : Int) (wasBalanced wasPartitioned : Bool) (length pivot hint : Int) : R_Z13 :=
  bif wasBalanced then
    bif wasPartitioned then
      jn (fun t => B_Z13_J2 k c_Z6 c_Z11 c_Z5 c_Z8 c_Z7 c_Z2 c_Z47 c_Z4 c_Z10 c_Z13 again5 t.1 t.2.1 t.2.2.1 t.2.2.2.1 t.2.2.2.2.1 t.2.2.2.2.2.1 t.2.2.2.2.2.2.1 t.2.2.2.2.2.2.2.1 t.2.2.2.2.2.2.2.2.1) (data, a, b, limit, wasBalanced, wasPartitioned, length, pivot, (hint == 1), ())
    else
      jn (fun t => B_Z13_J2 k c_Z6 c_Z11 c_Z5 c_Z8 c_Z7 c_Z2 c_Z47 c_Z4 c_Z10 c_Z13 again5 t.1 t.2.1 t.2.2.1 t.2.2.2.1 t.2.2.2.2.1 t.2.2.2.2.2.1 t.2.2.2.2.2.2.1 t.2.2.2.2.2.2.2.1 t.2.2.2.2.2.2.2.2.1) (data, a, b, limit, wasBalanced, wasPartitioned, length, pivot, false, ())
  else
    jn (fun t => B_Z13_J2 k c_Z6 c_Z11 c_Z5 c_Z8 c_Z7 c_Z2 c_Z47 c_Z4 c_Z10 c_Z13 again5 t.1 t.2.1 t.2.2.1 t.2.2.2.1 t.2.2.2.2.1 t.2.2.2.2.2.1 t.2.2.2.2.2.2.1 t.2.2.2.2.2.2.2.1 t.2.2.2.2.2.2.2.2.1) (data, a, b, limit, wasBalanced, wasPartitioned, length, pivot, false, ())
def B_Z13_J0 (k : Nat) (c_Z6 : C_Z6) (c_Z11 : C_Z11) (c_Z5 : C_Z5) (c_Z8 : C_Z8) (c_Z7 : C_Z7) (c_Z2 : C_Z2) (c_Z47 : C_Z47) (c_Z4 : C_Z4) (c_Z10 : C_Z10) (c_Z13 : C_Z13) (again5 : T_Z13_L5 → R_Z13) (data : List Int) (a b limit : Int) (wasBalanced wasPartitioned : Bool) (length : Int) : R_Z13 :=
  (c_Z8 data a b).bind fun r46 =>
  bif (r46.1.2.1 == 2) then
    (c_Z7 data a b).bind fun r54 =>
    jn (fun t => B_Z13_J1 k c_Z6 c_Z11 c_Z5 c_Z8 c_Z7 c_Z2 c_Z47 c_Z4 c_Z10 c_Z13 again5 t.1 t.2.1 t.2.2.1 t.2.2.2.1 t.2.2.2.2.1 t.2.2.2.2.2.1 t.2.2.2.2.2.2.1 t.2.2.2.2.2.2.2.1 t.2.2.2.2.2.2.2.2.1) (r54.2.1, a, b, limit, wasBalanced, wasPartitioned, length, w64 ((w64 (b - 1)) - (w64 (r46.1.1 - a))), 1, ())
  else
    jn (fun t => B_Z13_J1 k c_Z6 c_Z11 c_Z5 c_Z8 c_Z7 c_Z2 c_Z47 c_Z4 c_Z10 c_Z13 again5 t.1 t.2.1 t.2.2.1 t.2.2.2.1 t.2.2.2.2.1 t.2.2.2.2.2.1 t.2.2.2.2.2.2.1 t.2.2.2.2.2.2.2.1 t.2.2.2.2.2.2.2.2.1) (data, a, b, limit, wasBalanced, wasPartitioned, length, r46.1.1, r46.1.2.1, ())
def B_Z13_L5b (k : Nat) (c_Z6 : C_Z6) (c_Z11 : C_Z11) (c_Z5 : C_Z5) (c_Z8 : C_Z8) (c_Z7 : C_Z7) (c_Z2 : C_Z2) (c_Z47 : C_Z47) (c_Z4 : C_Z4) (c_Z10 : C_Z10) (c_Z13 : C_Z13) (again5 : T_Z13_L5 → R_Z13) (data : List Int) (a b limit : Int) (wasBalanced wasPartitioned : Bool) : R_Z13 :=
  bif decide ((w64 (b - a)) ≤ 12) then
    (c_Z6 data a b).bind fun r27 =>
    some ((), (r27.2.1, ()))
  else
    bif (limit == 0) then
      (c_Z11 data a b).bind fun r33 =>
      some ((), (r33.2.1, ()))
    else
      bif (!wasBalanced) then
        (c_Z5 data a b).bind fun r39 =>
        jn (fun t => B_Z13_J0 k c_Z6 c_Z11 c_Z5 c_Z8 c_Z7 c_Z2 c_Z47 c_Z4 c_Z10 c_Z13 again5 t.1 t.2.1 t.2.2.1 t.2.2.2.1 t.2.2.2.2.1 t.2.2.2.2.2.1 t.2.2.2.2.2.2.1) (r39.2.1, a, b, w64 (limit - 1), wasBalanced, wasPartitioned, w64 (b - a), ())
      else
        jn (fun t => B_Z13_J0 k c_Z6 c_Z11 c_Z5 c_Z8 c_Z7 c_Z2 c_Z47 c_Z4 c_Z10 c_Z13 again5 t.1 t.2.1 t.2.2.1 t.2.2.2.1 t.2.2.2.2.1 t.2.2.2.2.2.1 t.2.2.2.2.2.2.1) (data, a, b, limit, wasBalanced, wasPartitioned, w64 (b - a), ())
def B_Z13_L5 (k : Nat) (c_Z6 : C_Z6) (c_Z11 : C_Z11) (c_Z5 : C_Z5) (c_Z8 : C_Z8) (c_Z7 : C_Z7) (c_Z2 : C_Z2) (c_Z47 : C_Z47) (c_Z4 : C_Z4) (c_Z10 : C_Z10) (c_Z13 : C_Z13) (n : Nat) (t : T_Z13_L5) : R_Z13 :=
  lfix n (fun again t => B_Z13_L5b k c_Z6 c_Z11 c_Z5 c_Z8 c_Z7 c_Z2 c_Z47 c_Z4 c_Z10 c_Z13 again t.1 t.2.1 t.2.2.1 t.2.2.2.1 t.2.2.2.2.1 t.2.2.2.2.2.1) t
def B_Z13 (k : Nat) (c_Z6 : C_Z6) (c_Z11 : C_Z11) (c_Z5 : C_Z5) (c_Z8 : C_Z8) (c_Z7 : C_Z7) (c_Z2 : C_Z2) (c_Z47 : C_Z47) (c_Z4 : C_Z4) (c_Z10 : C_Z10) (c_Z13 : C_Z13) (data : List Int) (a b limit : Int) : R_Z13 :=
  B_Z13_L5 k c_Z6 c_Z11 c_Z5 c_Z8 c_Z7 c_Z2 c_Z47 c_Z4 c_Z10 c_Z13 k (data, a, b, limit, true, true, ())
def F_Z13 : Nat → C_Z13
  | 0, _, _, _, _ => none
  | k + 1, data, a, b, limit => B_Z13 k (F_Z6 k) (F_Z11 k) (F_Z5 k) (F_Z8 k) (F_Z7 k) (F_Z2 k) (F_Z47 k) (F_Z4 k) (F_Z10 k) (F_Z13 k) data a b limit
theorem F_Z13_succ (k : Nat) (data : List Int) (a : Int) (b : Int) (limit : Int) : F_Z13 (k + 1) data a b limit = B_Z13 k (F_Z6 k) (F_Z11 k) (F_Z5 k) (F_Z8 k) (F_Z7 k) (F_Z2 k) (F_Z47 k) (F_Z4 k) (F_Z10 k) (F_Z13 k) data a b limit := by rw [F_Z13]
theorem tot_Z13 {data a b limit : _} {Q : _ → Prop} (h : Tot (fun σ => B_Z13 (σ 0) (F_Z6 (σ 0)) (F_Z11 (σ 0)) (F_Z5 (σ 0)) (F_Z8 (σ 0)) (F_Z7 (σ 0)) (F_Z2 (σ 0)) (F_Z47 (σ 0)) (F_Z4 (σ 0)) (F_Z10 (σ 0)) (F_Z13 (σ 0)) data a b limit) Q) : Tot (fun σ => F_Z13 (σ 0) data a b limit) Q :=
  Tot.call (F := fun k => F_Z13 k data a b limit) (B := fun k => B_Z13 k (F_Z6 k) (F_Z11 k) (F_Z5 k) (F_Z8 k) (F_Z7 k) (F_Z2 k) (F_Z47 k) (F_Z4 k) (F_Z10 k) (F_Z13 k) data a b limit) (fun k => F_Z13_succ k data a b limit) h
abbrev A_Z13_L5 (Z : Type) : Type := List Int → Int → Int → Int → Bool → Bool → Z
abbrev u_Z13_L5 {Z : Type} (f : A_Z13_L5 Z) (t : T_Z13_L5) : Z := f t.1 t.2.1 t.2.2.1 t.2.2.2.1 t.2.2.2.2.1 t.2.2.2.2.2.1
theorem loop_Z13_L5 {Q : A_Z13_L5 (((Unit) × (List Int × Unit)) → Prop)} (I : A_Z13_L5 Prop) (μ : A_Z13_L5 Nat)
    (step : ∀ a0 a1 a2 a3 a4 a5, I a0 a1 a2 a3 a4 a5 → ∀ again : (Nat → Nat) → T_Z13_L5 → R_Z13, Dep 2 again → (∀ y0 y1 y2 y3 y4 y5, I y0 y1 y2 y3 y4 y5 → μ y0 y1 y2 y3 y4 y5 < μ a0 a1 a2 a3 a4 a5 → Tot (fun σ => again σ (y0, y1, y2, y3, y4, y5, ())) (Q y0 y1 y2 y3 y4 y5)) →
      Tot (fun σ => B_Z13_L5b (σ 0) (F_Z6 (σ 0)) (F_Z11 (σ 0)) (F_Z5 (σ 0)) (F_Z8 (σ 0)) (F_Z7 (σ 0)) (F_Z2 (σ 0)) (F_Z47 (σ 0)) (F_Z4 (σ 0)) (F_Z10 (σ 0)) (F_Z13 (σ 0)) (again σ) a0 a1 a2 a3 a4 a5) (Q a0 a1 a2 a3 a4 a5)) :
    ∀ a0 a1 a2 a3 a4 a5, I a0 a1 a2 a3 a4 a5 → Tot (fun σ => B_Z13_L5 (σ 0) (F_Z6 (σ 0)) (F_Z11 (σ 0)) (F_Z5 (σ 0)) (F_Z8 (σ 0)) (F_Z7 (σ 0)) (F_Z2 (σ 0)) (F_Z47 (σ 0)) (F_Z4 (σ 0)) (F_Z10 (σ 0)) (F_Z13 (σ 0)) (σ 0) (a0, a1, a2, a3, a4, a5, ())) (Q a0 a1 a2 a3 a4 a5) := fun a0 a1 a2 a3 a4 a5 => Tot.loop0 (L := fun k => B_Z13_L5 k (F_Z6 k) (F_Z11 k) (F_Z5 k) (F_Z8 k) (F_Z7 k) (F_Z2 k) (F_Z47 k) (F_Z4 k) (F_Z10 k) (F_Z13 k)) (B := fun k g => u_Z13_L5 (B_Z13_L5b k (F_Z6 k) (F_Z11 k) (F_Z5 k) (F_Z8 k) (F_Z7 k) (F_Z2 k) (F_Z47 k) (F_Z4 k) (F_Z10 k) (F_Z13 k) g)) (Q := u_Z13_L5 Q) (fun _ _ _ => rfl) (u_Z13_L5 I) (u_Z13_L5 μ)
    (fun t ht again hag h => step t.1 t.2.1 t.2.2.1 t.2.2.2.1 t.2.2.2.2.1 t.2.2.2.2.2.1 ht again hag fun y0 y1 y2 y3 y4 y5 => h (y0, y1, y2, y3, y4, y5, ())) (a0, a1, a2, a3, a4, a5, ())
abbrev R_Z23 : Type := Option ((Unit) × (List Int × Unit))
abbrev C_Z23 : Type := List Int → R_Z23
def B_Z23 (k : Nat) (c_bits_Len : C_bits_Len) (c_Z13 : C_Z13) (x : List Int) : R_Z23 :=
  (c_bits_Len (IntKind.wrap .u64 (len x))).bind fun r9 =>
  (c_Z13 x 0 (len x) r9.1.1).bind fun r10 =>
  some ((), (r10.2.1, ()))
def F_Z23 : Nat → C_Z23
  | 0, _ => none
  | k + 1, x => B_Z23 k (F_bits_Len k) (F_Z13 k) x
theorem tot_Z23 {x : _} {Q : _ → Prop} (h : Tot (fun σ => B_Z23 (σ 0) (F_bits_Len (σ 0)) (F_Z13 (σ 0)) x) Q) : Tot (fun σ => F_Z23 (σ 0) x) Q :=
  Tot.call (F := fun k => F_Z23 k x) (B := fun k => B_Z23 k (F_bits_Len k) (F_Z13 k) x) (fun k => rfl) h
abbrev R_Z18 : Type := Option ((List Int × Unit) × (Unit))
abbrev C_Z18 : Type := List Int → R_Z18
abbrev T_Z18_L1 : Type := List Int × Int × Int × (Nat × Nat) × Unit
abbrev T_Z18_L2 : Type := List Int × Int × Unit
def B_Z18_J0 (k : Nat) (again1 : T_Z18_L1 → R_Z18) (s : List Int) (k3 k2 : Int) (s2 : Nat × Nat) : R_Z18 :=
  again1 (s, k3, w64 (k2 + 1), (s2.1, s2.2), ())
def B_Z18_L1b (k : Nat) (again1 : T_Z18_L1 → R_Z18) (s : List Int) (k3 k2 : Int) (s2 : Nat × Nat) : R_Z18 :=
  bif decide (k2 < ((s2.2 - s2.1 : Nat) : Int)) then
    chk ((inb k2 (s2.2 - s2.1) && decide (s2.2 ≤ s.length))) <|
    chk (decide ((s2.1 + k2.toNat) < s.length)) <|
    chk ((inb (w64 (k2 - 1)) (s2.2 - s2.1) && decide (s2.2 ≤ s.length))) <|
    chk (decide ((s2.1 + (w64 (k2 - 1)).toNat) < s.length)) <|
    bif ((s.getD (s2.1 + k2.toNat) (0 : Int)) != (s.getD (s2.1 + (w64 (k2 - 1)).toNat) (0 : Int))) then
      chk ((inb k2 (s2.2 - s2.1) && decide (s2.2 ≤ s.length))) <|
      chk (decide ((s2.1 + k2.toNat) < s.length)) <|
      chk (inb k3 s.length) <|
      chk (decide (k3.toNat < s.length)) <|
      jn (fun t => B_Z18_J0 k again1 t.1 t.2.1 t.2.2.1 t.2.2.2.1) ((s.set k3.toNat (s.getD (s2.1 + k2.toNat) (0 : Int))), w64 (k3 + 1), k2, (s2.1, s2.2), ())
    else
      jn (fun t => B_Z18_J0 k again1 t.1 t.2.1 t.2.2.1 t.2.2.2.1) (s, k3, k2, (s2.1, s2.2), ())
  else
    chk (cutb k3 (len s) s.length) <|
    chk (decide (k3.toNat ≤ (len s).toNat ∧ (len s).toNat ≤ s.length)) <|
    chk (cutb 0 k3 (s.take k3.toNat ++ List.replicate ((len s).toNat - k3.toNat) (0 : Int) ++ s.drop ((len s).toNat)).length) <|
    some ((((s.take k3.toNat ++ List.replicate ((len s).toNat - k3.toNat) (0 : Int) ++ s.drop ((len s).toNat)).take k3.toNat), ()), ())
def B_Z18_L1 (k : Nat) (n : Nat) (t : T_Z18_L1) : R_Z18 :=
  lfix n (fun again t => B_Z18_L1b k again t.1 t.2.1 t.2.2.1 t.2.2.2.1) t
def B_Z18_L2b (k : Nat) (again2 : T_Z18_L2 → R_Z18) (s : List Int) (k3 : Int) : R_Z18 :=
  bif decide (k3 < (len s)) then
    chk (inb k3 s.length) <|
    chk (decide (k3.toNat < s.length)) <|
    chk (inb (w64 (k3 - 1)) s.length) <|
    chk (decide ((w64 (k3 - 1)).toNat < s.length)) <|
    bif ((s.getD k3.toNat (0 : Int)) == (s.getD ((w64 (k3 - 1)).toNat) (0 : Int))) then
      chk (cutb k3 (len s) s.length) <|
      B_Z18_L1 k k (s, k3, 1, (k3.toNat, (len s).toNat), ())
    else
      again2 (s, w64 (k3 + 1), ())
  else
    some ((s, ()), ())
def B_Z18_L2 (k : Nat) (n : Nat) (t : T_Z18_L2) : R_Z18 :=
  lfix n (fun again t => B_Z18_L2b k again t.1 t.2.1) t
def B_Z18 (k : Nat) (s : List Int) : R_Z18 :=
  bif decide ((len s) < 2) then
    some ((s, ()), ())
  else
    B_Z18_L2 k k (s, 1, ())
def F_Z18 : Nat → C_Z18
  | 0, _ => none
  | k + 1, s => B_Z18 k s
theorem tot_Z18 {s : _} {Q : _ → Prop} (h : Tot (fun σ => B_Z18 (σ 0) s) Q) : Tot (fun σ => F_Z18 (σ 0) s) Q :=
  Tot.call (F := fun k => F_Z18 k s) (B := fun k => B_Z18 k s) (fun k => rfl) h
abbrev A_Z18_L1 (Z : Type) : Type := List Int → Int → Int → (Nat × Nat) → Z
abbrev u_Z18_L1 {Z : Type} (f : A_Z18_L1 Z) (t : T_Z18_L1) : Z := f t.1 t.2.1 t.2.2.1 t.2.2.2.1
theorem loop_Z18_L1 {Q : A_Z18_L1 (((List Int × Unit) × (Unit)) → Prop)} (I : A_Z18_L1 Prop) (μ : A_Z18_L1 Nat)
    (step : ∀ a0 a1 a2 a3, I a0 a1 a2 a3 → ∀ again : (Nat → Nat) → T_Z18_L1 → R_Z18, Dep 2 again → (∀ y0 y1 y2 y3, I y0 y1 y2 y3 → μ y0 y1 y2 y3 < μ a0 a1 a2 a3 → Tot (fun σ => again σ (y0, y1, y2, y3, ())) (Q y0 y1 y2 y3)) →
      Tot (fun σ => B_Z18_L1b (σ 0) (again σ) a0 a1 a2 a3) (Q a0 a1 a2 a3)) :
    ∀ a0 a1 a2 a3, I a0 a1 a2 a3 → Tot (fun σ => B_Z18_L1 (σ 0) (σ 0) (a0, a1, a2, a3, ())) (Q a0 a1 a2 a3) := fun a0 a1 a2 a3 => Tot.loop0 (L := fun k => B_Z18_L1 k) (B := fun k g => u_Z18_L1 (B_Z18_L1b k g)) (Q := u_Z18_L1 Q) (fun _ _ _ => rfl) (u_Z18_L1 I) (u_Z18_L1 μ)
    (fun t ht again hag h => step t.1 t.2.1 t.2.2.1 t.2.2.2.1 ht again hag fun y0 y1 y2 y3 => h (y0, y1, y2, y3, ())) (a0, a1, a2, a3, ())
abbrev A_Z18_L2 (Z : Type) : Type := List Int → Int → Z
abbrev u_Z18_L2 {Z : Type} (f : A_Z18_L2 Z) (t : T_Z18_L2) : Z := f t.1 t.2.1
theorem loop_Z18_L2 {Q : A_Z18_L2 (((List Int × Unit) × (Unit)) → Prop)} (I : A_Z18_L2 Prop) (μ : A_Z18_L2 Nat)
    (step : ∀ a0 a1, I a0 a1 → ∀ again : (Nat → Nat) → T_Z18_L2 → R_Z18, Dep 2 again → (∀ y0 y1, I y0 y1 → μ y0 y1 < μ a0 a1 → Tot (fun σ => again σ (y0, y1, ())) (Q y0 y1)) →
      Tot (fun σ => B_Z18_L2b (σ 0) (again σ) a0 a1) (Q a0 a1)) :
    ∀ a0 a1, I a0 a1 → Tot (fun σ => B_Z18_L2 (σ 0) (σ 0) (a0, a1, ())) (Q a0 a1) := fun a0 a1 => Tot.loop0 (L := fun k => B_Z18_L2 k) (B := fun k g => u_Z18_L2 (B_Z18_L2b k g)) (Q := u_Z18_L2 Q) (fun _ _ _ => rfl) (u_Z18_L2 I) (u_Z18_L2 μ)
    (fun t ht again hag h => step t.1 t.2.1 ht again hag fun y0 y1 => h (y0, y1, ())) (a0, a1, ())
abbrev R_Z24 : Type := Option ((List Int × Unit) × (Unit))
abbrev C_Z24 : Type := List Int → R_Z24
def B_Z24 (k : Nat) (s : List Int) : R_Z24 :=
  chk ((((len s) == (len s)) && cutb 0 (len s) s.length)) <|
  some (((sub s 0 (len s)), ()), ())
def F_Z24 : Nat → C_Z24
  | 0, _ => none
  | k + 1, s => B_Z24 k s
theorem tot_Z24 {s : _} {Q : _ → Prop} (h : Tot (fun σ => B_Z24 (σ 0) s) Q) : Tot (fun σ => F_Z24 (σ 0) s) Q :=
  Tot.call (F := fun k => F_Z24 k s) (B := fun k => B_Z24 k s) (fun k => rfl) h
abbrev R_Z58 : Type := Option ((List Int × Unit) × (Unit))
abbrev C_Z58 : Type := (List (Int × Int)) → R_Z58
abbrev T_Z58_L1 : Type := List Int × (List (Int × Int)) × Int × Int × Unit
def B_Z58_J0 (k : Nat) (c_Z71 : C_Z71) (c_Z23 : C_Z23) (c_Z18 : C_Z18) (c_Z24 : C_Z24) (again1 : T_Z58_L1 → R_Z58) (out : List Int) (t10 : List (Int × Int)) (t11 t12 : Int) : R_Z58 :=
  again1 (out, t10, t11, w64 (t12 + 1), ())
def B_Z58_L1b (k : Nat) (c_Z71 : C_Z71) (c_Z23 : C_Z23) (c_Z18 : C_Z18) (c_Z24 : C_Z24) (again1 : T_Z58_L1 → R_Z58) (out : List Int) (t10 : List (Int × Int)) (t11 t12 : Int) : R_Z58 :=
  bif decide (t12 < t11) then
    chk (inb t12 t10.length) <|
    bif (((rdx ((0 : Int), (0 : Int)) t10 t12).1) == 13) then
      chk (room out.length ([(rdx ((0 : Int), (0 : Int)) t10 t12).2]).length) <|
      jn (fun t => B_Z58_J0 k c_Z71 c_Z23 c_Z18 c_Z24 again1 t.1 t.2.1 t.2.2.1 t.2.2.2.1) ((out ++ [(rdx ((0 : Int), (0 : Int)) t10 t12).2]), t10, t11, t12, ())
    else
      jn (fun t => B_Z58_J0 k c_Z71 c_Z23 c_Z18 c_Z24 again1 t.1 t.2.1 t.2.2.1 t.2.2.2.1) (out, t10, t11, t12, ())
  else
    (c_Z23 out).bind fun r26 =>
    (c_Z18 r26.2.1).bind fun r28 =>
    (c_Z24 r28.1.1).bind fun r29 =>
    some ((r29.1.1, ()), ())
def B_Z58_L1 (k : Nat) (c_Z71 : C_Z71) (c_Z23 : C_Z23) (c_Z18 : C_Z18) (c_Z24 : C_Z24) (n : Nat) (t : T_Z58_L1) : R_Z58 :=
  lfix n (fun again t => B_Z58_L1b k c_Z71 c_Z23 c_Z18 c_Z24 again t.1 t.2.1 t.2.2.1 t.2.2.2.1) t
def B_Z58 (k : Nat) (c_Z71 : C_Z71) (c_Z23 : C_Z23) (c_Z18 : C_Z18) (c_Z24 : C_Z24) (ops : List (Int × Int)) : R_Z58 :=
  (c_Z71 ops).bind fun r7 =>
  bif (!r7.1.1) then
    some (([], ()), ())
  else
    B_Z58_L1 k c_Z71 c_Z23 c_Z18 c_Z24 k ([], ops, len ops, 0, ())
def F_Z58 : Nat → C_Z58
  | 0, _ => none
  | k + 1, ops => B_Z58 k (F_Z71 k) (F_Z23 k) (F_Z18 k) (F_Z24 k) ops
theorem tot_Z58 {ops : _} {Q : _ → Prop} (h : Tot (fun σ => B_Z58 (σ 0) (F_Z71 (σ 0)) (F_Z23 (σ 0)) (F_Z18 (σ 0)) (F_Z24 (σ 0)) ops) Q) : Tot (fun σ => F_Z58 (σ 0) ops) Q :=
  Tot.call (F := fun k => F_Z58 k ops) (B := fun k => B_Z58 k (F_Z71 k) (F_Z23 k) (F_Z18 k) (F_Z24 k) ops) (fun k => rfl) h
abbrev A_Z58_L1 (Z : Type) : Type := List Int → (List (Int × Int)) → Int → Int → Z
abbrev u_Z58_L1 {Z : Type} (f : A_Z58_L1 Z) (t : T_Z58_L1) : Z := f t.1 t.2.1 t.2.2.1 t.2.2.2.1
theorem loop_Z58_L1 {Q : A_Z58_L1 (((List Int × Unit) × (Unit)) → Prop)} (I : A_Z58_L1 Prop) (μ : A_Z58_L1 Nat)
    (step : ∀ a0 a1 a2 a3, I a0 a1 a2 a3 → ∀ again : (Nat → Nat) → T_Z58_L1 → R_Z58, Dep 2 again → (∀ y0 y1 y2 y3, I y0 y1 y2 y3 → μ y0 y1 y2 y3 < μ a0 a1 a2 a3 → Tot (fun σ => again σ (y0, y1, y2, y3, ())) (Q y0 y1 y2 y3)) →
      Tot (fun σ => B_Z58_L1b (σ 0) (F_Z71 (σ 0)) (F_Z23 (σ 0)) (F_Z18 (σ 0)) (F_Z24 (σ 0)) (again σ) a0 a1 a2 a3) (Q a0 a1 a2 a3)) :
    ∀ a0 a1 a2 a3, I a0 a1 a2 a3 → Tot (fun σ => B_Z58_L1 (σ 0) (F_Z71 (σ 0)) (F_Z23 (σ 0)) (F_Z18 (σ 0)) (F_Z24 (σ 0)) (σ 0) (a0, a1, a2, a3, ())) (Q a0 a1 a2 a3) := fun a0 a1 a2 a3 => Tot.loop0 (L := fun k => B_Z58_L1 k (F_Z71 k) (F_Z23 k) (F_Z18 k) (F_Z24 k)) (B := fun k g => u_Z58_L1 (B_Z58_L1b k (F_Z71 k) (F_Z23 k) (F_Z18 k) (F_Z24 k) g)) (Q := u_Z58_L1 Q) (fun _ _ _ => rfl) (u_Z58_L1 I) (u_Z58_L1 μ)
    (fun t ht again hag h => step t.1 t.2.1 t.2.2.1 t.2.2.2.1 ht again hag fun y0 y1 y2 y3 => h (y0, y1, y2, y3, ())) (a0, a1, a2, a3, ())
abbrev R_Z28 : Type := Option ((Unit) × ((Int × Int × Int × List Int × Unit) × Unit))
abbrev C_Z28 : Type := Nat → Nat → Bool → Int → Int → Int → List Int → R_Z28
def B_Z28 (k : Nat) (m_0 m_1 : Nat) (m_3 : Bool) (t1_Steps t1_Nodes t1_Deep : Int) (t1_Classes : List Int) : R_Z28 :=
  some ((), ((t1_Steps, (m_0 : Int), (if (m_1 : Int) > t1_Deep then (m_1 : Int) else t1_Deep), t1_Classes, ()), ()))
def F_Z28 : Nat → C_Z28
  | 0, _, _, _, _, _, _, _ => none
  | k + 1, m_0, m_1, m_3, t1_Steps, t1_Nodes, t1_Deep, t1_Classes => B_Z28 k m_0 m_1 m_3 t1_Steps t1_Nodes t1_Deep t1_Classes
theorem tot_Z28 {m_0 m_1 m_3 t1_Steps t1_Nodes t1_Deep t1_Classes : _} {Q : _ → Prop} (h : Tot (fun σ => B_Z28 (σ 0) m_0 m_1 m_3 t1_Steps t1_Nodes t1_Deep t1_Classes) Q) : Tot (fun σ => F_Z28 (σ 0) m_0 m_1 m_3 t1_Steps t1_Nodes t1_Deep t1_Classes) Q :=
  Tot.call (F := fun k => F_Z28 k m_0 m_1 m_3 t1_Steps t1_Nodes t1_Deep t1_Classes) (B := fun k => B_Z28 k m_0 m_1 m_3 t1_Steps t1_Nodes t1_Deep t1_Classes) (fun k => rfl) h
abbrev R_Z9 : Type := Option ((((List (Int × Int × List Int)) × List Int × List Int × Bool × Unit) × Int × Unit) × ((Int × Int × Int × List Int × Unit) × Unit))
abbrev C_Z9 : Type := (List (Int × Int)) → Int → Int → Int → List Int → R_Z9
abbrev T_Z9_L0 : Type := (List (Int × Int)) × (Int × Int × Int × List Int × Unit) × (Unit × Unit × Unit × Bool × Unit) × ((List (Int × Int × List Int)) × List Int × List Int × Bool × Unit) × (List (Int × Int)) × Int × Int × Unit
def B_Z9_L0b (k : Nat) (c_Z50 : C_Z50) (c_Z32 : C_Z32) (c_Z39 : C_Z39) (c_Z28 : C_Z28) (again0 : T_Z9_L0 → R_Z9) (ops : List (Int × Int)) (after_Steps after_Nodes after_Deep : Int) (after_Classes : List Int) (t4_Done : Bool) (m_Nodes : List (Int × Int × List Int)) (m_Stack m_Memo : List Int) (m_Done : Bool) (t10 : List (Int × Int)) (t11 t12 : Int) : R_Z9 :=
  bif decide (t12 < t11) then
    chk (inb t12 t10.length) <|
    (c_Z32 m_Nodes m_Stack m_Memo m_Done ((rdx ((0 : Int), (0 : Int)) t10 t12).1) ((rdx ((0 : Int), (0 : Int)) t10 t12).2)).bind fun r18 =>
    bif (!r18.1.1) then
      (r18.2.1.1).bind fun p25 =>
      (c_Z39 p25 r18.2.1.2.1 r18.2.1.2.2.1 r18.2.1.2.2.2.1).bind fun r21 =>
      some (((r21.1.1.1, r21.1.1.2.1, r21.1.1.2.2.1, r21.1.1.2.2.2.1, ()), t12, ()), ((after_Steps, after_Nodes, after_Deep, after_Classes, ()), ()))
    else
      (r18.2.1.1).bind fun p26 =>
      (c_Z28 p26.length r18.2.1.2.1.length r18.2.1.2.2.2.1 after_Steps after_Nodes after_Deep after_Classes).bind fun r25 =>
      (r18.2.1.1).bind fun p27 =>
      again0 (ops, (r25.2.1.1, r25.2.1.2.1, r25.2.1.2.2.1, r25.2.1.2.2.2.1, ()), ((), (), (), t4_Done, ()), (p27, r18.2.1.2.1, r18.2.1.2.2.1, r18.2.1.2.2.2.1, ()), t10, t11, w64 (t12 + 1), ())
  else
    (c_Z39 m_Nodes m_Stack m_Memo m_Done).bind fun r28 =>
    some (((r28.1.1.1, r28.1.1.2.1, r28.1.1.2.2.1, r28.1.1.2.2.2.1, ()), len ops, ()), ((after_Steps, after_Nodes, after_Deep, after_Classes, ()), ()))
def B_Z9_L0 (k : Nat) (c_Z50 : C_Z50) (c_Z32 : C_Z32) (c_Z39 : C_Z39) (c_Z28 : C_Z28) (n : Nat) (t : T_Z9_L0) : R_Z9 :=
  lfix n (fun again t => B_Z9_L0b k c_Z50 c_Z32 c_Z39 c_Z28 again t.1 t.2.1.1 t.2.1.2.1 t.2.1.2.2.1 t.2.1.2.2.2.1 t.2.2.1.2.2.2.1 t.2.2.2.1.1 t.2.2.2.1.2.1 t.2.2.2.1.2.2.1 t.2.2.2.1.2.2.2.1 t.2.2.2.2.1 t.2.2.2.2.2.1 t.2.2.2.2.2.2.1) t
def B_Z9 (k : Nat) (c_Z50 : C_Z50) (c_Z32 : C_Z32) (c_Z39 : C_Z39) (c_Z28 : C_Z28) (ops : List (Int × Int)) (after_Steps after_Nodes after_Deep : Int) (after_Classes : List Int) : R_Z9 :=
  (c_Z50 0).bind fun r9 =>
  B_Z9_L0 k c_Z50 c_Z32 c_Z39 c_Z28 k (ops, (after_Steps, after_Nodes, after_Deep, after_Classes, ()), ((), (), (), false, ()), (r9.1.1.1, [], r9.1.1.2.2.1, r9.1.1.2.2.2.1, ()), ops, len ops, 0, ())
def F_Z9 : Nat → C_Z9
  | 0, _, _, _, _, _ => none
  | k + 1, ops, after_Steps, after_Nodes, after_Deep, after_Classes => B_Z9 k (F_Z50 k) (F_Z32 k) (F_Z39 k) (F_Z28 k) ops after_Steps after_Nodes after_Deep after_Classes
theorem tot_Z9 {ops after_Steps after_Nodes after_Deep after_Classes : _} {Q : _ → Prop} (h : Tot (fun σ => B_Z9 (σ 0) (F_Z50 (σ 0)) (F_Z32 (σ 0)) (F_Z39 (σ 0)) (F_Z28 (σ 0)) ops after_Steps after_Nodes after_Deep after_Classes) Q) : Tot (fun σ => F_Z9 (σ 0) ops after_Steps after_Nodes after_Deep after_Classes) Q :=
  Tot.call (F := fun k => F_Z9 k ops after_Steps after_Nodes after_Deep after_Classes) (B := fun k => B_Z9 k (F_Z50 k) (F_Z32 k) (F_Z39 k) (F_Z28 k) ops after_Steps after_Nodes after_Deep after_Classes) (fun k => rfl) h
abbrev A_Z9_L0 (Z : Type) : Type := (List (Int × Int)) → Int → Int → Int → List Int → Bool → (List (Int × Int × List Int)) → List Int → List Int → Bool → (List (Int × Int)) → Int → Int → Z
abbrev u_Z9_L0 {Z : Type} (f : A_Z9_L0 Z) (t : T_Z9_L0) : Z := f t.1 t.2.1.1 t.2.1.2.1 t.2.1.2.2.1 t.2.1.2.2.2.1 t.2.2.1.2.2.2.1 t.2.2.2.1.1 t.2.2.2.1.2.1 t.2.2.2.1.2.2.1 t.2.2.2.1.2.2.2.1 t.2.2.2.2.1 t.2.2.2.2.2.1 t.2.2.2.2.2.2.1
theorem loop_Z9_L0 {Q : A_Z9_L0 (((((List (Int × Int × List Int)) × List Int × List Int × Bool × Unit) × Int × Unit) × ((Int × Int × Int × List Int × Unit) × Unit)) → Prop)} (I : A_Z9_L0 Prop) (μ : A_Z9_L0 Nat)
    (step : ∀ a0 a1 a2 a3 a4 a5 a6 a7 a8 a9 a10 a11 a12, I a0 a1 a2 a3 a4 a5 a6 a7 a8 a9 a10 a11 a12 → ∀ again : (Nat → Nat) → T_Z9_L0 → R_Z9, Dep 2 again → (∀ y0 y1 y2 y3 y4 y5 y6 y7 y8 y9 y10 y11 y12, I y0 y1 y2 y3 y4 y5 y6 y7 y8 y9 y10 y11 y12 → μ y0 y1 y2 y3 y4 y5 y6 y7 y8 y9 y10 y11 y12 < μ a0 a1 a2 a3 a4 a5 a6 a7 a8 a9 a10 a11 a12 → Tot (fun σ => again σ (y0, (y1, y2, y3, y4, ()), ((), (), (), y5, ()), (y6, y7, y8, y9, ()), y10, y11, y12, ())) (Q y0 y1 y2 y3 y4 y5 y6 y7 y8 y9 y10 y11 y12)) →
      Tot (fun σ => B_Z9_L0b (σ 0) (F_Z50 (σ 0)) (F_Z32 (σ 0)) (F_Z39 (σ 0)) (F_Z28 (σ 0)) (again σ) a0 a1 a2 a3 a4 a5 a6 a7 a8 a9 a10 a11 a12) (Q a0 a1 a2 a3 a4 a5 a6 a7 a8 a9 a10 a11 a12)) :
    ∀ a0 a1 a2 a3 a4 a5 a6 a7 a8 a9 a10 a11 a12, I a0 a1 a2 a3 a4 a5 a6 a7 a8 a9 a10 a11 a12 → Tot (fun σ => B_Z9_L0 (σ 0) (F_Z50 (σ 0)) (F_Z32 (σ 0)) (F_Z39 (σ 0)) (F_Z28 (σ 0)) (σ 0) (a0, (a1, a2, a3, a4, ()), ((), (), (), a5, ()), (a6, a7, a8, a9, ()), a10, a11, a12, ())) (Q a0 a1 a2 a3 a4 a5 a6 a7 a8 a9 a10 a11 a12) := fun a0 a1 a2 a3 a4 a5 a6 a7 a8 a9 a10 a11 a12 => Tot.loop0 (L := fun k => B_Z9_L0 k (F_Z50 k) (F_Z32 k) (F_Z39 k) (F_Z28 k)) (B := fun k g => u_Z9_L0 (B_Z9_L0b k (F_Z50 k) (F_Z32 k) (F_Z39 k) (F_Z28 k) g)) (Q := u_Z9_L0 Q) (fun _ _ _ => rfl) (u_Z9_L0 I) (u_Z9_L0 μ)
    (fun t ht again hag h => step t.1 t.2.1.1 t.2.1.2.1 t.2.1.2.2.1 t.2.1.2.2.2.1 t.2.2.1.2.2.2.1 t.2.2.2.1.1 t.2.2.2.1.2.1 t.2.2.2.1.2.2.1 t.2.2.2.1.2.2.2.1 t.2.2.2.2.1 t.2.2.2.2.2.1 t.2.2.2.2.2.2.1 ht again hag fun y0 y1 y2 y3 y4 y5 y6 y7 y8 y9 y10 y11 y12 => h (y0, (y1, y2, y3, y4, ()), ((), (), (), y5, ()), (y6, y7, y8, y9, ()), y10, y11, y12, ())) (a0, (a1, a2, a3, a4, ()), ((), (), (), a5, ()), (a6, a7, a8, a9, ()), a10, a11, a12, ())
abbrev R_Z55 : Type := Option (((Int × Int × Int × List Int × Unit) × Bool × Unit) × (Unit))
abbrev C_Z55 : Type := (List (Int × Int)) → R_Z55
def B_Z55 (k : Nat) (c_Z75 : C_Z75) (c_Z58 : C_Z58) (c_Z9 : C_Z9) (ops : List (Int × Int)) : R_Z55 :=
  (c_Z75 ops).bind fun r6 =>
  bif (r6.1.1 != (-1)) then
    some (((0, 0, 0, [], ()), false, ()), ())
  else
    (c_Z58 ops).bind fun r12 =>
    (c_Z9 ops (len ops) 0 0 r12.1.1).bind fun r16 =>
    some (((r16.2.1.1, r16.2.1.2.1, r16.2.1.2.2.1, r16.2.1.2.2.2.1, ()), true, ()), ())
def F_Z55 : Nat → C_Z55
  | 0, _ => none
  | k + 1, ops => B_Z55 k (F_Z75 k) (F_Z58 k) (F_Z9 k) ops
theorem tot_Z55 {ops : _} {Q : _ → Prop} (h : Tot (fun σ => B_Z55 (σ 0) (F_Z75 (σ 0)) (F_Z58 (σ 0)) (F_Z9 (σ 0)) ops) Q) : Tot (fun σ => F_Z55 (σ 0) ops) Q :=
  Tot.call (F := fun k => F_Z55 k ops) (B := fun k => B_Z55 k (F_Z75 k) (F_Z58 k) (F_Z9 k) ops) (fun k => rfl) h
abbrev R_Z30 : Type := Option ((Bool × Unit) × ((Int × Int × Int × List Int × Unit) × Unit))
abbrev C_Z30 : Type := Int → Int → Int → Int → List Int → R_Z30
def B_Z30 (k : Nat) (c_Z17 : C_Z17) (c t1_Steps t1_Nodes t1_Deep : Int) (t1_Classes : List Int) : R_Z30 :=
  (c_Z17 t1_Classes c).bind fun r7 =>
  some (((!r7.1.1), ()), ((t1_Steps, t1_Nodes, t1_Deep, t1_Classes, ()), ()))
def F_Z30 : Nat → C_Z30
  | 0, _, _, _, _, _ => none
  | k + 1, c, t1_Steps, t1_Nodes, t1_Deep, t1_Classes => B_Z30 k (F_Z17 k) c t1_Steps t1_Nodes t1_Deep t1_Classes
theorem tot_Z30 {c t1_Steps t1_Nodes t1_Deep t1_Classes : _} {Q : _ → Prop} (h : Tot (fun σ => B_Z30 (σ 0) (F_Z17 (σ 0)) c t1_Steps t1_Nodes t1_Deep t1_Classes) Q) : Tot (fun σ => F_Z30 (σ 0) c t1_Steps t1_Nodes t1_Deep t1_Classes) Q :=
  Tot.call (F := fun k => F_Z30 k c t1_Steps t1_Nodes t1_Deep t1_Classes) (B := fun k => B_Z30 k (F_Z17 k) c t1_Steps t1_Nodes t1_Deep t1_Classes) (fun k => rfl) h
abbrev R_Z1 : Type := Option ((Int × Unit) × ((Int × Int × Int × List Int × Unit) × Unit))
abbrev C_Z1 : Type := List Int → Int → Int → Int → List Int → R_Z1
abbrev T_Z1_L0 : Type := List Int × (Int × Int × Int × List Int × Unit) × Int × Int × Unit
def B_Z1_L0b (k : Nat) (c_Z30 : C_Z30) (again0 : T_Z1_L0 → R_Z1) (s : List Int) (f_Steps f_Nodes f_Deep : Int) (f_Classes : List Int) (t7 t8 : Int) : R_Z1 :=
  bif decide (t8 < t7) then
    chk (inb t8 s.length) <|
    (c_Z30 (rdx (0 : Int) s t8) f_Steps f_Nodes f_Deep f_Classes).bind fun r16 =>
    bif r16.1.1 then
      some ((t8, ()), ((r16.2.1.1, r16.2.1.2.1, r16.2.1.2.2.1, r16.2.1.2.2.2.1, ()), ()))
    else
      again0 (s, (r16.2.1.1, r16.2.1.2.1, r16.2.1.2.2.1, r16.2.1.2.2.2.1, ()), t7, w64 (t8 + 1), ())
  else
    some (((-1), ()), ((f_Steps, f_Nodes, f_Deep, f_Classes, ()), ()))
def B_Z1_L0 (k : Nat) (c_Z30 : C_Z30) (n : Nat) (t : T_Z1_L0) : R_Z1 :=
  lfix n (fun again t => B_Z1_L0b k c_Z30 again t.1 t.2.1.1 t.2.1.2.1 t.2.1.2.2.1 t.2.1.2.2.2.1 t.2.2.1 t.2.2.2.1) t
def B_Z1 (k : Nat) (c_Z30 : C_Z30) (s : List Int) (f_Steps f_Nodes f_Deep : Int) (f_Classes : List Int) : R_Z1 :=
  B_Z1_L0 k c_Z30 k (s, (f_Steps, f_Nodes, f_Deep, f_Classes, ()), len s, 0, ())
def F_Z1 : Nat → C_Z1
  | 0, _, _, _, _, _ => none
  | k + 1, s, f_Steps, f_Nodes, f_Deep, f_Classes => B_Z1 k (F_Z30 k) s f_Steps f_Nodes f_Deep f_Classes
theorem tot_Z1 {s f_Steps f_Nodes f_Deep f_Classes : _} {Q : _ → Prop} (h : Tot (fun σ => B_Z1 (σ 0) (F_Z30 (σ 0)) s f_Steps f_Nodes f_Deep f_Classes) Q) : Tot (fun σ => F_Z1 (σ 0) s f_Steps f_Nodes f_Deep f_Classes) Q :=
  Tot.call (F := fun k => F_Z1 k s f_Steps f_Nodes f_Deep f_Classes) (B := fun k => B_Z1 k (F_Z30 k) s f_Steps f_Nodes f_Deep f_Classes) (fun k => rfl) h
abbrev A_Z1_L0 (Z : Type) : Type := List Int → Int → Int → Int → List Int → Int → Int → Z
abbrev u_Z1_L0 {Z : Type} (f : A_Z1_L0 Z) (t : T_Z1_L0) : Z := f t.1 t.2.1.1 t.2.1.2.1 t.2.1.2.2.1 t.2.1.2.2.2.1 t.2.2.1 t.2.2.2.1
theorem loop_Z1_L0 {Q : A_Z1_L0 (((Int × Unit) × ((Int × Int × Int × List Int × Unit) × Unit)) → Prop)} (I : A_Z1_L0 Prop) (μ : A_Z1_L0 Nat)
    (step : ∀ a0 a1 a2 a3 a4 a5 a6, I a0 a1 a2 a3 a4 a5 a6 → ∀ again : (Nat → Nat) → T_Z1_L0 → R_Z1, Dep 2 again → (∀ y0 y1 y2 y3 y4 y5 y6, I y0 y1 y2 y3 y4 y5 y6 → μ y0 y1 y2 y3 y4 y5 y6 < μ a0 a1 a2 a3 a4 a5 a6 → Tot (fun σ => again σ (y0, (y1, y2, y3, y4, ()), y5, y6, ())) (Q y0 y1 y2 y3 y4 y5 y6)) →
      Tot (fun σ => B_Z1_L0b (σ 0) (F_Z30 (σ 0)) (again σ) a0 a1 a2 a3 a4 a5 a6) (Q a0 a1 a2 a3 a4 a5 a6)) :
    ∀ a0 a1 a2 a3 a4 a5 a6, I a0 a1 a2 a3 a4 a5 a6 → Tot (fun σ => B_Z1_L0 (σ 0) (F_Z30 (σ 0)) (σ 0) (a0, (a1, a2, a3, a4, ()), a5, a6, ())) (Q a0 a1 a2 a3 a4 a5 a6) := fun a0 a1 a2 a3 a4 a5 a6 => Tot.loop0 (L := fun k => B_Z1_L0 k (F_Z30 k)) (B := fun k g => u_Z1_L0 (B_Z1_L0b k (F_Z30 k) g)) (Q := u_Z1_L0 Q) (fun _ _ _ => rfl) (u_Z1_L0 I) (u_Z1_L0 μ)
    (fun t ht again hag h => step t.1 t.2.1.1 t.2.1.2.1 t.2.1.2.2.1 t.2.1.2.2.2.1 t.2.2.1 t.2.2.2.1 ht again hag fun y0 y1 y2 y3 y4 y5 y6 => h (y0, (y1, y2, y3, y4, ()), y5, y6, ())) (a0, (a1, a2, a3, a4, ()), a5, a6, ())
abbrev R_Z0 : Type := Option ((Bool × Unit) × ((Int × Int × Int × List Int × Unit) × Unit))
abbrev C_Z0 : Type := List Int → Int → Int → Int → List Int → R_Z0
def B_Z0 (k : Nat) (c_Z1 : C_Z1) (s : List Int) (f_Steps f_Nodes f_Deep : Int) (f_Classes : List Int) : R_Z0 :=
  (c_Z1 s f_Steps f_Nodes f_Deep f_Classes).bind fun r7 =>
  some ((decide (r7.1.1 ≥ 0), ()), ((r7.2.1.1, r7.2.1.2.1, r7.2.1.2.2.1, r7.2.1.2.2.2.1, ()), ()))
def F_Z0 : Nat → C_Z0
  | 0, _, _, _, _, _ => none
  | k + 1, s, f_Steps, f_Nodes, f_Deep, f_Classes => B_Z0 k (F_Z1 k) s f_Steps f_Nodes f_Deep f_Classes
theorem tot_Z0 {s f_Steps f_Nodes f_Deep f_Classes : _} {Q : _ → Prop} (h : Tot (fun σ => B_Z0 (σ 0) (F_Z1 (σ 0)) s f_Steps f_Nodes f_Deep f_Classes) Q) : Tot (fun σ => F_Z0 (σ 0) s f_Steps f_Nodes f_Deep f_Classes) Q :=
  Tot.call (F := fun k => F_Z0 k s f_Steps f_Nodes f_Deep f_Classes) (B := fun k => B_Z0 k (F_Z1 k) s f_Steps f_Nodes f_Deep f_Classes) (fun k => rfl) h
abbrev R_Z41 : Type := Option ((Bool × Unit) × (Unit))
abbrev C_Z41 : Type := Int → Int → Int → List Int → Int → Int → Int → List Int → R_Z41
def B_Z41_J0 (k : Nat) (c_Z52 : C_Z52) (c_Z0 : C_Z0) (a_Steps a_Nodes a_Deep : Int) (a_Classes : List Int) (b_Steps b_Nodes b_Deep : Int) (b_Classes : List Int) (t12 : Bool) : R_Z41 :=
  bif t12 then
    some ((false, ()), ())
  else
    bif decide (a_Steps ≥ b_Steps) then
      bif decide (a_Nodes ≥ b_Nodes) then
        bif decide (a_Deep ≥ b_Deep) then
          (c_Z0 b_Classes a_Steps a_Nodes a_Deep a_Classes).bind fun r36 =>
          some (((!r36.1.1), ()), ())
        else
          some ((false, ()), ())
      else
        some ((false, ()), ())
    else
      some ((false, ()), ())
def B_Z41 (k : Nat) (c_Z52 : C_Z52) (c_Z0 : C_Z0) (a_0 a_1 a_2 : Int) (a_3 : List Int) (b_0 b_1 b_2 : Int) (b_3 : List Int) : R_Z41 :=
  (c_Z52 a_0 a_1 a_2 a_3).bind fun r6 =>
  bif (!r6.1.1) then
    jn (fun t => B_Z41_J0 k c_Z52 c_Z0 t.1.1 t.1.2.1 t.1.2.2.1 t.1.2.2.2.1 t.2.1.1 t.2.1.2.1 t.2.1.2.2.1 t.2.1.2.2.2.1 t.2.2.1) ((a_0, a_1, a_2, a_3, ()), (b_0, b_1, b_2, b_3, ()), true, ())
  else
    (c_Z52 b_0 b_1 b_2 b_3).bind fun r10 =>
    jn (fun t => B_Z41_J0 k c_Z52 c_Z0 t.1.1 t.1.2.1 t.1.2.2.1 t.1.2.2.2.1 t.2.1.1 t.2.1.2.1 t.2.1.2.2.1 t.2.1.2.2.2.1 t.2.2.1) ((a_0, a_1, a_2, a_3, ()), (b_0, b_1, b_2, b_3, ()), (!r10.1.1), ())
def F_Z41 : Nat → C_Z41
  | 0, _, _, _, _, _, _, _, _ => none
  | k + 1, a_0, a_1, a_2, a_3, b_0, b_1, b_2, b_3 => B_Z41 k (F_Z52 k) (F_Z0 k) a_0 a_1 a_2 a_3 b_0 b_1 b_2 b_3
theorem tot_Z41 {a_0 a_1 a_2 a_3 b_0 b_1 b_2 b_3 : _} {Q : _ → Prop} (h : Tot (fun σ => B_Z41 (σ 0) (F_Z52 (σ 0)) (F_Z0 (σ 0)) a_0 a_1 a_2 a_3 b_0 b_1 b_2 b_3) Q) : Tot (fun σ => F_Z41 (σ 0) a_0 a_1 a_2 a_3 b_0 b_1 b_2 b_3) Q :=
  Tot.call (F := fun k => F_Z41 k a_0 a_1 a_2 a_3 b_0 b_1 b_2 b_3) (B := fun k => B_Z41 k (F_Z52 k) (F_Z0 k) a_0 a_1 a_2 a_3 b_0 b_1 b_2 b_3) (fun k => rfl) h
abbrev R_Z25 : Type := Option ((Bool × Unit) × (Unit))
abbrev C_Z25 : Type := List Int → R_Z25
def B_Z25_J3 (k : Nat) (c_Z38 : C_Z38) (c_Z84 : C_Z84) (c_Z79 : C_Z79) (c_Z55 : C_Z55) (c_Z41 : C_Z41) (r_Steps r_Nodes r_Deep : Int) (r_Classes : List Int) (least_Steps least_Nodes least_Deep : Int) (least_Classes : List Int) (fine : Bool) : R_Z25 :=
  bif fine then
    (c_Z41 r_Steps r_Nodes r_Deep r_Classes least_Steps least_Nodes least_Deep least_Classes).bind fun r87 =>
    some ((r87.1.1, ()), ())
  else
    some ((false, ()), ())
def B_Z25_J2 (k : Nat) (c_Z38 : C_Z38) (c_Z84 : C_Z84) (c_Z79 : C_Z79) (c_Z55 : C_Z55) (c_Z41 : C_Z41) (r_Steps r_Nodes r_Deep : Int) (r_Classes : List Int) (least_Steps least_Nodes least_Deep : Int) (least_Classes : List Int) (fine t82 : Bool) : R_Z25 :=
  bif t82 then
    some ((false, ()), ())
  else
    jn (fun t => B_Z25_J3 k c_Z38 c_Z84 c_Z79 c_Z55 c_Z41 t.1.1 t.1.2.1 t.1.2.2.1 t.1.2.2.2.1 t.2.1.1 t.2.1.2.1 t.2.1.2.2.1 t.2.1.2.2.2.1 t.2.2.1) ((r_Steps, r_Nodes, r_Deep, r_Classes, ()), (least_Steps, least_Nodes, least_Deep, least_Classes, ()), fine, ())
def B_Z25_J1 (k : Nat) (c_Z38 : C_Z38) (c_Z84 : C_Z84) (c_Z79 : C_Z79) (c_Z55 : C_Z55) (c_Z41 : C_Z41) (ops : List (Int × Int)) (r_Steps r_Nodes r_Deep : Int) (r_Classes : List Int) (n5 least_Steps least_Nodes least_Deep : Int) (least_Classes : List Int) (fine t67 : Bool) : R_Z25 :=
  bif t67 then
    chk (cutb 0 (w64 (n5 + 1)) ops.length) <|
    (c_Z55 (sub ops 0 (w64 (n5 + 1)))).bind fun r73 =>
    bif (!r73.1.2.1) then
      jn (fun t => B_Z25_J2 k c_Z38 c_Z84 c_Z79 c_Z55 c_Z41 t.1.1 t.1.2.1 t.1.2.2.1 t.1.2.2.2.1 t.2.1.1 t.2.1.2.1 t.2.1.2.2.1 t.2.1.2.2.2.1 t.2.2.1 t.2.2.2.1) ((r_Steps, r_Nodes, r_Deep, r_Classes, ()), (least_Steps, least_Nodes, least_Deep, least_Classes, ()), fine, true, ())
    else
      (c_Z41 r_Steps r_Nodes r_Deep r_Classes r73.1.1.1 r73.1.1.2.1 r73.1.1.2.2.1 r73.1.1.2.2.2.1).bind fun r81 =>
      jn (fun t => B_Z25_J2 k c_Z38 c_Z84 c_Z79 c_Z55 c_Z41 t.1.1 t.1.2.1 t.1.2.2.1 t.1.2.2.2.1 t.2.1.1 t.2.1.2.1 t.2.1.2.2.1 t.2.1.2.2.2.1 t.2.2.1 t.2.2.2.1) ((r_Steps, r_Nodes, r_Deep, r_Classes, ()), (least_Steps, least_Nodes, least_Deep, least_Classes, ()), fine, r81.1.1, ())
  else
    jn (fun t => B_Z25_J3 k c_Z38 c_Z84 c_Z79 c_Z55 c_Z41 t.1.1 t.1.2.1 t.1.2.2.1 t.1.2.2.2.1 t.2.1.1 t.2.1.2.1 t.2.1.2.2.1 t.2.1.2.2.2.1 t.2.2.1) ((r_Steps, r_Nodes, r_Deep, r_Classes, ()), (least_Steps, least_Nodes, least_Deep, least_Classes, ()), fine, ())
def B_Z25_J0 (k : Nat) (c_Z38 : C_Z38) (c_Z84 : C_Z84) (c_Z79 : C_Z79) (c_Z55 : C_Z55) (c_Z41 : C_Z41) (ops : List (Int × Int)) (r_Steps r_Nodes r_Deep : Int) (r_Classes : List Int) (n5 why x y : Int) (t44 : Bool) : R_Z25 :=
  bif t44 then
    bif (n5 == x) then
      some (((why == y), ()), ())
    else
      some ((false, ()), ())
  else
    chk (cutb 0 n5 ops.length) <|
    (c_Z55 (sub ops 0 n5)).bind fun r57 =>
    bif decide (n5 < (len ops)) then
      jn (fun t => B_Z25_J1 k c_Z38 c_Z84 c_Z79 c_Z55 c_Z41 t.1 t.2.1.1 t.2.1.2.1 t.2.1.2.2.1 t.2.1.2.2.2.1 t.2.2.1 t.2.2.2.1.1 t.2.2.2.1.2.1 t.2.2.2.1.2.2.1 t.2.2.2.1.2.2.2.1 t.2.2.2.2.1 t.2.2.2.2.2.1) (ops, (r_Steps, r_Nodes, r_Deep, r_Classes, ()), n5, (r57.1.1.1, r57.1.1.2.1, r57.1.1.2.2.1, r57.1.1.2.2.2.1, ()), r57.1.2.1, (why != 1), ())
    else
      jn (fun t => B_Z25_J1 k c_Z38 c_Z84 c_Z79 c_Z55 c_Z41 t.1 t.2.1.1 t.2.1.2.1 t.2.1.2.2.1 t.2.1.2.2.2.1 t.2.2.1 t.2.2.2.1.1 t.2.2.2.1.2.1 t.2.2.2.1.2.2.1 t.2.2.2.1.2.2.2.1 t.2.2.2.2.1 t.2.2.2.2.2.1) (ops, (r_Steps, r_Nodes, r_Deep, r_Classes, ()), n5, (r57.1.1.1, r57.1.1.2.1, r57.1.1.2.2.1, r57.1.1.2.2.2.1, ()), r57.1.2.1, false, ())
def B_Z25 (k : Nat) (c_Z38 : C_Z38) (c_Z84 : C_Z84) (c_Z79 : C_Z79) (c_Z55 : C_Z55) (c_Z41 : C_Z41) (code : List Int) : R_Z25 :=
  bif decide ((len code) > 1048576) then
    some ((true, ()), ())
  else
    (c_Z38 code).bind fun r18 =>
    (c_Z84 r18.1.1 r18.1.2.1.1 r18.1.2.1.2.1 r18.1.2.1.2.2.1 r18.1.2.1.2.2.2.1).bind fun r24 =>
    (c_Z79 r18.1.1 r18.1.2.1.1 r18.1.2.1.2.1 r18.1.2.1.2.2.1 r18.1.2.1.2.2.2.1).bind fun r30 =>
    bif (r24.1.1 != r30.1.1) then
      jn (fun t => B_Z25_J0 k c_Z38 c_Z84 c_Z79 c_Z55 c_Z41 t.1 t.2.1.1 t.2.1.2.1 t.2.1.2.2.1 t.2.1.2.2.2.1 t.2.2.1 t.2.2.2.1 t.2.2.2.2.1 t.2.2.2.2.2.1 t.2.2.2.2.2.2.1) (r18.1.1, (r18.1.2.1.1, r18.1.2.1.2.1, r18.1.2.1.2.2.1, r18.1.2.1.2.2.2.1, ()), r24.1.1, r24.1.2.1, r30.1.1, r30.1.2.1, true, ())
    else
      bif (r24.1.2.1 != r30.1.2.1) then
        jn (fun t => B_Z25_J0 k c_Z38 c_Z84 c_Z79 c_Z55 c_Z41 t.1 t.2.1.1 t.2.1.2.1 t.2.1.2.2.1 t.2.1.2.2.2.1 t.2.2.1 t.2.2.2.1 t.2.2.2.2.1 t.2.2.2.2.2.1 t.2.2.2.2.2.2.1) (r18.1.1, (r18.1.2.1.1, r18.1.2.1.2.1, r18.1.2.1.2.2.1, r18.1.2.1.2.2.2.1, ()), r24.1.1, r24.1.2.1, r30.1.1, r30.1.2.1, true, ())
      else
        jn (fun t => B_Z25_J0 k c_Z38 c_Z84 c_Z79 c_Z55 c_Z41 t.1 t.2.1.1 t.2.1.2.1 t.2.1.2.2.1 t.2.1.2.2.2.1 t.2.2.1 t.2.2.2.1 t.2.2.2.2.1 t.2.2.2.2.2.1 t.2.2.2.2.2.2.1) (r18.1.1, (r18.1.2.1.1, r18.1.2.1.2.1, r18.1.2.1.2.2.1, r18.1.2.1.2.2.2.1, ()), r24.1.1, r24.1.2.1, r30.1.1, r30.1.2.1, decide (r24.1.1 < 0), ())
def F_Z25 : Nat → C_Z25
  | 0, _ => none
  | k + 1, code => B_Z25 k (F_Z38 k) (F_Z84 k) (F_Z79 k) (F_Z55 k) (F_Z41 k) code
theorem tot_Z25 {code : _} {Q : _ → Prop} (h : Tot (fun σ => B_Z25 (σ 0) (F_Z38 (σ 0)) (F_Z84 (σ 0)) (F_Z79 (σ 0)) (F_Z55 (σ 0)) (F_Z41 (σ 0)) code) Q) : Tot (fun σ => F_Z25 (σ 0) code) Q :=
  Tot.call (F := fun k => F_Z25 k code) (B := fun k => B_Z25 k (F_Z38 k) (F_Z84 k) (F_Z79 k) (F_Z55 k) (F_Z41 k) code) (fun k => rfl) h
end Go.Gx

/-
  The functions, as Gx tells them (printed by gen.py).
-/
import Derived.Test.YtahpblckgakjjaaXSh1
set_option linter.unusedVariables false
namespace Go.Gx
abbrev T_Z7_L0 : Type := (List (Int × Int)) × (Int × Int × Int × List Int × Unit) × (Unit × Unit × Unit × Bool × Unit) × ((List (Int × Int × List Int)) × List Int × List Int × Bool × Unit) × (List (Int × Int)) × Int × Int × Unit
def B_Z7_L0b (k : Nat) (c_Z40 : C_Z40) (c_Z26 : C_Z26) (c_Z32 : C_Z32) (c_Z28 : C_Z28) (again0 : T_Z7_L0 → R_Z7) (ops : List (Int × Int)) (after_Steps after_Nodes after_Deep : Int) (after_Classes : List Int) (t4_Done : Bool) (m_Nodes : List (Int × Int × List Int)) (m_Stack m_Memo : List Int) (m_Done : Bool) (t10 : List (Int × Int)) (t11 t12 : Int) : R_Z7 :=
  bif decide (t12 < t11) then
    chk (inb t12 t10.length) <|
    (c_Z26 m_Nodes m_Stack m_Memo m_Done ((rdx ((0 : Int), (0 : Int)) t10 t12).1) ((rdx ((0 : Int), (0 : Int)) t10 t12).2)).bind fun r18 =>
    bif (!r18.1.1) then
      (r18.2.1.1).bind fun p25 =>
      (c_Z32 p25 r18.2.1.2.1 r18.2.1.2.2.1 r18.2.1.2.2.2.1).bind fun r21 =>
      some (((r21.1.1.1, r21.1.1.2.1, r21.1.1.2.2.1, r21.1.1.2.2.2.1, ()), t12, ()), ((after_Steps, after_Nodes, after_Deep, after_Classes, ()), ()))
    else
      (r18.2.1.1).bind fun p26 =>
      (c_Z28 p26.length r18.2.1.2.1.length r18.2.1.2.2.2.1 after_Steps after_Nodes after_Deep after_Classes).bind fun r25 =>
      (r18.2.1.1).bind fun p27 =>
      again0 (ops, (r25.2.1.1, r25.2.1.2.1, r25.2.1.2.2.1, r25.2.1.2.2.2.1, ()), ((), (), (), t4_Done, ()), (p27, r18.2.1.2.1, r18.2.1.2.2.1, r18.2.1.2.2.2.1, ()), t10, t11, w64 (t12 + 1), ())
  else
    (c_Z32 m_Nodes m_Stack m_Memo m_Done).bind fun r28 =>
    some (((r28.1.1.1, r28.1.1.2.1, r28.1.1.2.2.1, r28.1.1.2.2.2.1, ()), len ops, ()), ((after_Steps, after_Nodes, after_Deep, after_Classes, ()), ()))
def B_Z7_L0 (k : Nat) (c_Z40 : C_Z40) (c_Z26 : C_Z26) (c_Z32 : C_Z32) (c_Z28 : C_Z28) (n : Nat) (t : T_Z7_L0) : R_Z7 :=
  lfix n (fun again t => B_Z7_L0b k c_Z40 c_Z26 c_Z32 c_Z28 again t.1 t.2.1.1 t.2.1.2.1 t.2.1.2.2.1 t.2.1.2.2.2.1 t.2.2.1.2.2.2.1 t.2.2.2.1.1 t.2.2.2.1.2.1 t.2.2.2.1.2.2.1 t.2.2.2.1.2.2.2.1 t.2.2.2.2.1 t.2.2.2.2.2.1 t.2.2.2.2.2.2.1) t
def B_Z7 (k : Nat) (c_Z40 : C_Z40) (c_Z26 : C_Z26) (c_Z32 : C_Z32) (c_Z28 : C_Z28) (ops : List (Int × Int)) (after_Steps after_Nodes after_Deep : Int) (after_Classes : List Int) : R_Z7 :=
  (c_Z40 0).bind fun r9 =>
  B_Z7_L0 k c_Z40 c_Z26 c_Z32 c_Z28 k (ops, (after_Steps, after_Nodes, after_Deep, after_Classes, ()), ((), (), (), false, ()), (r9.1.1.1, [], r9.1.1.2.2.1, r9.1.1.2.2.2.1, ()), ops, len ops, 0, ())
def F_Z7 : Nat → C_Z7
  | 0, _, _, _, _, _ => none
  | k + 1, ops, after_Steps, after_Nodes, after_Deep, after_Classes => B_Z7 k (F_Z40 k) (F_Z26 k) (F_Z32 k) (F_Z28 k) ops after_Steps after_Nodes after_Deep after_Classes
theorem tot_Z7 {ops after_Steps after_Nodes after_Deep after_Classes : _} {Q : _ → Prop} (h : Tot (fun σ => B_Z7 (σ 0) (F_Z40 (σ 0)) (F_Z26 (σ 0)) (F_Z32 (σ 0)) (F_Z28 (σ 0)) ops after_Steps after_Nodes after_Deep after_Classes) Q) : Tot (fun σ => F_Z7 (σ 0) ops after_Steps after_Nodes after_Deep after_Classes) Q :=
  Tot.call (F := fun k => F_Z7 k ops after_Steps after_Nodes after_Deep after_Classes) (B := fun k => B_Z7 k (F_Z40 k) (F_Z26 k) (F_Z32 k) (F_Z28 k) ops after_Steps after_Nodes after_Deep after_Classes) (fun k => rfl) h
abbrev A_Z7_L0 (Z : Type) : Type := (List (Int × Int)) → Int → Int → Int → List Int → Bool → (List (Int × Int × List Int)) → List Int → List Int → Bool → (List (Int × Int)) → Int → Int → Z
abbrev u_Z7_L0 {Z : Type} (f : A_Z7_L0 Z) (t : T_Z7_L0) : Z := f t.1 t.2.1.1 t.2.1.2.1 t.2.1.2.2.1 t.2.1.2.2.2.1 t.2.2.1.2.2.2.1 t.2.2.2.1.1 t.2.2.2.1.2.1 t.2.2.2.1.2.2.1 t.2.2.2.1.2.2.2.1 t.2.2.2.2.1 t.2.2.2.2.2.1 t.2.2.2.2.2.2.1
theorem loop_Z7_L0 {Q : A_Z7_L0 (((((List (Int × Int × List Int)) × List Int × List Int × Bool × Unit) × Int × Unit) × ((Int × Int × Int × List Int × Unit) × Unit)) → Prop)} (I : A_Z7_L0 Prop) (μ : A_Z7_L0 Nat)
    (step : ∀ a0 a1 a2 a3 a4 a5 a6 a7 a8 a9 a10 a11 a12, I a0 a1 a2 a3 a4 a5 a6 a7 a8 a9 a10 a11 a12 → ∀ again : (Nat → Nat) → T_Z7_L0 → R_Z7, Dep 2 again → (∀ y0 y1 y2 y3 y4 y5 y6 y7 y8 y9 y10 y11 y12, I y0 y1 y2 y3 y4 y5 y6 y7 y8 y9 y10 y11 y12 → μ y0 y1 y2 y3 y4 y5 y6 y7 y8 y9 y10 y11 y12 < μ a0 a1 a2 a3 a4 a5 a6 a7 a8 a9 a10 a11 a12 → Tot (fun σ => again σ (y0, (y1, y2, y3, y4, ()), ((), (), (), y5, ()), (y6, y7, y8, y9, ()), y10, y11, y12, ())) (Q y0 y1 y2 y3 y4 y5 y6 y7 y8 y9 y10 y11 y12)) →
      Tot (fun σ => B_Z7_L0b (σ 0) (F_Z40 (σ 0)) (F_Z26 (σ 0)) (F_Z32 (σ 0)) (F_Z28 (σ 0)) (again σ) a0 a1 a2 a3 a4 a5 a6 a7 a8 a9 a10 a11 a12) (Q a0 a1 a2 a3 a4 a5 a6 a7 a8 a9 a10 a11 a12)) :
    ∀ a0 a1 a2 a3 a4 a5 a6 a7 a8 a9 a10 a11 a12, I a0 a1 a2 a3 a4 a5 a6 a7 a8 a9 a10 a11 a12 → Tot (fun σ => B_Z7_L0 (σ 0) (F_Z40 (σ 0)) (F_Z26 (σ 0)) (F_Z32 (σ 0)) (F_Z28 (σ 0)) (σ 0) (a0, (a1, a2, a3, a4, ()), ((), (), (), a5, ()), (a6, a7, a8, a9, ()), a10, a11, a12, ())) (Q a0 a1 a2 a3 a4 a5 a6 a7 a8 a9 a10 a11 a12) := fun a0 a1 a2 a3 a4 a5 a6 a7 a8 a9 a10 a11 a12 => Tot.loop0 (L := fun k => B_Z7_L0 k (F_Z40 k) (F_Z26 k) (F_Z32 k) (F_Z28 k)) (B := fun k g => u_Z7_L0 (B_Z7_L0b k (F_Z40 k) (F_Z26 k) (F_Z32 k) (F_Z28 k) g)) (Q := u_Z7_L0 Q) (fun _ _ _ => rfl) (u_Z7_L0 I) (u_Z7_L0 μ)
    (fun t ht again hag h => step t.1 t.2.1.1 t.2.1.2.1 t.2.1.2.2.1 t.2.1.2.2.2.1 t.2.2.1.2.2.2.1 t.2.2.2.1.1 t.2.2.2.1.2.1 t.2.2.2.1.2.2.1 t.2.2.2.1.2.2.2.1 t.2.2.2.2.1 t.2.2.2.2.2.1 t.2.2.2.2.2.2.1 ht again hag fun y0 y1 y2 y3 y4 y5 y6 y7 y8 y9 y10 y11 y12 => h (y0, (y1, y2, y3, y4, ()), ((), (), (), y5, ()), (y6, y7, y8, y9, ()), y10, y11, y12, ())) (a0, (a1, a2, a3, a4, ()), ((), (), (), a5, ()), (a6, a7, a8, a9, ()), a10, a11, a12, ())
abbrev R_Z41 : Type := Option (((Int × Int × Int × List Int × Unit) × Bool × Unit) × (Unit))
abbrev C_Z41 : Type := (List (Int × Int)) → R_Z41
def B_Z41 (k : Nat) (c_Z52 : C_Z52) (c_Z47 : C_Z47) (c_Z7 : C_Z7) (ops : List (Int × Int)) : R_Z41 :=
  (c_Z52 ops).bind fun r6 =>
  bif (r6.1.1 != (-1)) then
    some (((0, 0, 0, [], ()), false, ()), ())
  else
    (c_Z47 ops).bind fun r12 =>
    (c_Z7 ops (len ops) 0 0 r12.1.1).bind fun r16 =>
    some (((r16.2.1.1, r16.2.1.2.1, r16.2.1.2.2.1, r16.2.1.2.2.2.1, ()), true, ()), ())
def F_Z41 : Nat → C_Z41
  | 0, _ => none
  | k + 1, ops => B_Z41 k (F_Z52 k) (F_Z47 k) (F_Z7 k) ops
theorem tot_Z41 {ops : _} {Q : _ → Prop} (h : Tot (fun σ => B_Z41 (σ 0) (F_Z52 (σ 0)) (F_Z47 (σ 0)) (F_Z7 (σ 0)) ops) Q) : Tot (fun σ => F_Z41 (σ 0) ops) Q :=
  Tot.call (F := fun k => F_Z41 k ops) (B := fun k => B_Z41 k (F_Z52 k) (F_Z47 k) (F_Z7 k) ops) (fun k => rfl) h
abbrev R_l_eqIntS : Type := Option ((Bool × Unit) × (Unit))
abbrev C_l_eqIntS : Type := List Int → List Int → R_l_eqIntS
abbrev T_l_eqIntS_L0 : Type := List Int × List Int × Int × Unit
def B_l_eqIntS_L0b (k : Nat) (again0 : T_l_eqIntS_L0 → R_l_eqIntS) (a b : List Int) (i : Int) : R_l_eqIntS :=
  bif decide (i < (len a)) then
    chk (inb i a.length) <|
    chk (inb i b.length) <|
    bif ((rdx (0 : Int) a i) != (rdx (0 : Int) b i)) then
      some ((false, ()), ())
    else
      again0 (a, b, w64 (i + 1), ())
  else
    some ((true, ()), ())
def B_l_eqIntS_L0 (k : Nat) (n : Nat) (t : T_l_eqIntS_L0) : R_l_eqIntS :=
  lfix n (fun again t => B_l_eqIntS_L0b k again t.1 t.2.1 t.2.2.1) t
def B_l_eqIntS (k : Nat) (a b : List Int) : R_l_eqIntS :=
  bif ((len a) != (len b)) then
    some ((false, ()), ())
  else
    B_l_eqIntS_L0 k k (a, b, 0, ())
def F_l_eqIntS : Nat → C_l_eqIntS
  | 0, _, _ => none
  | k + 1, a, b => B_l_eqIntS k a b
theorem tot_l_eqIntS {a b : _} {Q : _ → Prop} (h : Tot (fun σ => B_l_eqIntS (σ 0) a b) Q) : Tot (fun σ => F_l_eqIntS (σ 0) a b) Q :=
  Tot.call (F := fun k => F_l_eqIntS k a b) (B := fun k => B_l_eqIntS k a b) (fun k => rfl) h
abbrev A_l_eqIntS_L0 (Z : Type) : Type := List Int → List Int → Int → Z
abbrev u_l_eqIntS_L0 {Z : Type} (f : A_l_eqIntS_L0 Z) (t : T_l_eqIntS_L0) : Z := f t.1 t.2.1 t.2.2.1
theorem loop_l_eqIntS_L0 {Q : A_l_eqIntS_L0 (((Bool × Unit) × (Unit)) → Prop)} (I : A_l_eqIntS_L0 Prop) (μ : A_l_eqIntS_L0 Nat)
    (step : ∀ a0 a1 a2, I a0 a1 a2 → ∀ again : (Nat → Nat) → T_l_eqIntS_L0 → R_l_eqIntS, Dep 2 again → (∀ y0 y1 y2, I y0 y1 y2 → μ y0 y1 y2 < μ a0 a1 a2 → Tot (fun σ => again σ (y0, y1, y2, ())) (Q y0 y1 y2)) →
      Tot (fun σ => B_l_eqIntS_L0b (σ 0) (again σ) a0 a1 a2) (Q a0 a1 a2)) :
    ∀ a0 a1 a2, I a0 a1 a2 → Tot (fun σ => B_l_eqIntS_L0 (σ 0) (σ 0) (a0, a1, a2, ())) (Q a0 a1 a2) := fun a0 a1 a2 => Tot.loop0 (L := fun k => B_l_eqIntS_L0 k) (B := fun k g => u_l_eqIntS_L0 (B_l_eqIntS_L0b k g)) (Q := u_l_eqIntS_L0 Q) (fun _ _ _ => rfl) (u_l_eqIntS_L0 I) (u_l_eqIntS_L0 μ)
    (fun t ht again hag h => step t.1 t.2.1 t.2.2.1 ht again hag fun y0 y1 y2 => h (y0, y1, y2, ())) (a0, a1, a2, ())
abbrev R_Z64 : Type := Option ((Bool × Unit) × (Unit))
abbrev C_Z64 : Type := Int → Int → Int → List Int → Int → Int → Int → List Int → R_Z64
def B_Z64 (k : Nat) (c_l_eqIntS : C_l_eqIntS) (a_0 a_1 a_2 : Int) (a_3 : List Int) (b_0 b_1 b_2 : Int) (b_3 : List Int) : R_Z64 :=
  bif (a_0 != b_0) then
    some ((false, ()), ())
  else
    bif (a_1 != b_1) then
      some ((false, ()), ())
    else
      bif (a_2 != b_2) then
        some ((false, ()), ())
      else
        (c_l_eqIntS a_3 b_3).bind fun r24 =>
        bif (!r24.1.1) then
          some ((false, ()), ())
        else
          some ((true, ()), ())
def F_Z64 : Nat → C_Z64
  | 0, _, _, _, _, _, _, _, _ => none
  | k + 1, a_0, a_1, a_2, a_3, b_0, b_1, b_2, b_3 => B_Z64 k (F_l_eqIntS k) a_0 a_1 a_2 a_3 b_0 b_1 b_2 b_3
theorem tot_Z64 {a_0 a_1 a_2 a_3 b_0 b_1 b_2 b_3 : _} {Q : _ → Prop} (h : Tot (fun σ => B_Z64 (σ 0) (F_l_eqIntS (σ 0)) a_0 a_1 a_2 a_3 b_0 b_1 b_2 b_3) Q) : Tot (fun σ => F_Z64 (σ 0) a_0 a_1 a_2 a_3 b_0 b_1 b_2 b_3) Q :=
  Tot.call (F := fun k => F_Z64 k a_0 a_1 a_2 a_3 b_0 b_1 b_2 b_3) (B := fun k => B_Z64 k (F_l_eqIntS k) a_0 a_1 a_2 a_3 b_0 b_1 b_2 b_3) (fun k => rfl) h
abbrev R_l_eqOp : Type := Option ((Bool × Unit) × (Unit))
abbrev C_l_eqOp : Type := Int → Int → Int → Int → R_l_eqOp
def B_l_eqOp (k : Nat) (a_0 a_1 b_0 b_1 : Int) : R_l_eqOp :=
  bif (a_0 != b_0) then
    some ((false, ()), ())
  else
    bif (a_1 != b_1) then
      some ((false, ()), ())
    else
      some ((true, ()), ())
def F_l_eqOp : Nat → C_l_eqOp
  | 0, _, _, _, _ => none
  | k + 1, a_0, a_1, b_0, b_1 => B_l_eqOp k a_0 a_1 b_0 b_1
theorem tot_l_eqOp {a_0 a_1 b_0 b_1 : _} {Q : _ → Prop} (h : Tot (fun σ => B_l_eqOp (σ 0) a_0 a_1 b_0 b_1) Q) : Tot (fun σ => F_l_eqOp (σ 0) a_0 a_1 b_0 b_1) Q :=
  Tot.call (F := fun k => F_l_eqOp k a_0 a_1 b_0 b_1) (B := fun k => B_l_eqOp k a_0 a_1 b_0 b_1) (fun k => rfl) h
abbrev R_l_eqOpS : Type := Option ((Bool × Unit) × (Unit))
abbrev C_l_eqOpS : Type := (List (Int × Int)) → (List (Int × Int)) → R_l_eqOpS
abbrev T_l_eqOpS_L0 : Type := (List (Int × Int)) × (List (Int × Int)) × Int × Unit
def B_l_eqOpS_L0b (k : Nat) (c_l_eqOp : C_l_eqOp) (again0 : T_l_eqOpS_L0 → R_l_eqOpS) (a b : List (Int × Int)) (i : Int) : R_l_eqOpS :=
  bif decide (i < (len a)) then
    chk (inb i a.length) <|
    chk (inb i b.length) <|
    (c_l_eqOp ((rdx ((0 : Int), (0 : Int)) a i).1) ((rdx ((0 : Int), (0 : Int)) a i).2) ((rdx ((0 : Int), (0 : Int)) b i).1) ((rdx ((0 : Int), (0 : Int)) b i).2)).bind fun r25 =>
    bif (!r25.1.1) then
      some ((false, ()), ())
    else
      again0 (a, b, w64 (i + 1), ())
  else
    some ((true, ()), ())
def B_l_eqOpS_L0 (k : Nat) (c_l_eqOp : C_l_eqOp) (n : Nat) (t : T_l_eqOpS_L0) : R_l_eqOpS :=
  lfix n (fun again t => B_l_eqOpS_L0b k c_l_eqOp again t.1 t.2.1 t.2.2.1) t
def B_l_eqOpS (k : Nat) (c_l_eqOp : C_l_eqOp) (a b : List (Int × Int)) : R_l_eqOpS :=
  bif ((len a) != (len b)) then
    some ((false, ()), ())
  else
    B_l_eqOpS_L0 k c_l_eqOp k (a, b, 0, ())
def F_l_eqOpS : Nat → C_l_eqOpS
  | 0, _, _ => none
  | k + 1, a, b => B_l_eqOpS k (F_l_eqOp k) a b
theorem tot_l_eqOpS {a b : _} {Q : _ → Prop} (h : Tot (fun σ => B_l_eqOpS (σ 0) (F_l_eqOp (σ 0)) a b) Q) : Tot (fun σ => F_l_eqOpS (σ 0) a b) Q :=
  Tot.call (F := fun k => F_l_eqOpS k a b) (B := fun k => B_l_eqOpS k (F_l_eqOp k) a b) (fun k => rfl) h
abbrev A_l_eqOpS_L0 (Z : Type) : Type := (List (Int × Int)) → (List (Int × Int)) → Int → Z
abbrev u_l_eqOpS_L0 {Z : Type} (f : A_l_eqOpS_L0 Z) (t : T_l_eqOpS_L0) : Z := f t.1 t.2.1 t.2.2.1
theorem loop_l_eqOpS_L0 {Q : A_l_eqOpS_L0 (((Bool × Unit) × (Unit)) → Prop)} (I : A_l_eqOpS_L0 Prop) (μ : A_l_eqOpS_L0 Nat)
    (step : ∀ a0 a1 a2, I a0 a1 a2 → ∀ again : (Nat → Nat) → T_l_eqOpS_L0 → R_l_eqOpS, Dep 2 again → (∀ y0 y1 y2, I y0 y1 y2 → μ y0 y1 y2 < μ a0 a1 a2 → Tot (fun σ => again σ (y0, y1, y2, ())) (Q y0 y1 y2)) →
      Tot (fun σ => B_l_eqOpS_L0b (σ 0) (F_l_eqOp (σ 0)) (again σ) a0 a1 a2) (Q a0 a1 a2)) :
    ∀ a0 a1 a2, I a0 a1 a2 → Tot (fun σ => B_l_eqOpS_L0 (σ 0) (F_l_eqOp (σ 0)) (σ 0) (a0, a1, a2, ())) (Q a0 a1 a2) := fun a0 a1 a2 => Tot.loop0 (L := fun k => B_l_eqOpS_L0 k (F_l_eqOp k)) (B := fun k g => u_l_eqOpS_L0 (B_l_eqOpS_L0b k (F_l_eqOp k) g)) (Q := u_l_eqOpS_L0 Q) (fun _ _ _ => rfl) (u_l_eqOpS_L0 I) (u_l_eqOpS_L0 μ)
    (fun t ht again hag h => step t.1 t.2.1 t.2.2.1 ht again hag fun y0 y1 y2 => h (y0, y1, y2, ())) (a0, a1, a2, ())
abbrev R_Z60 : Type := Option ((Int × Unit) × ((List (Int × Int)) × Unit))
abbrev C_Z60 : Type := (List (Int × Int)) → Int → R_Z60
abbrev T_Z60_L0 : Type := (List (Int × Int)) × Int × Int × Unit
def B_Z60_L0b (k : Nat) (again0 : T_Z60_L0 → R_Z60) (a : List (Int × Int)) (k1 i : Int) : R_Z60 :=
  bif decide (i < (len a)) then
    chk (inb i a.length) <|
    chk (decide (i.toNat < a.length)) <|
    chk (inb i (a.set i.toNat (k1, (a.getD i.toNat ((0 : Int), (0 : Int))).2)).length) <|
    chk (decide (i.toNat < (a.set i.toNat (k1, (a.getD i.toNat ((0 : Int), (0 : Int))).2)).length)) <|
    again0 (((a.set i.toNat (k1, (a.getD i.toNat ((0 : Int), (0 : Int))).2)).set i.toNat (((a.set i.toNat (k1, (a.getD i.toNat ((0 : Int), (0 : Int))).2)).getD i.toNat ((0 : Int), (0 : Int))).1, w64 (k1 + 1))), w64 ((w64 (k1 + 1)) + 1), w64 (i + 1), ())
  else
    some ((k1, ()), (a, ()))
def B_Z60_L0 (k : Nat) (n : Nat) (t : T_Z60_L0) : R_Z60 :=
  lfix n (fun again t => B_Z60_L0b k again t.1 t.2.1 t.2.2.1) t
def B_Z60 (k : Nat) (a : List (Int × Int)) (k1 : Int) : R_Z60 :=
  B_Z60_L0 k k (a, k1, 0, ())
def F_Z60 : Nat → C_Z60
  | 0, _, _ => none
  | k + 1, a, k1 => B_Z60 k a k1
theorem tot_Z60 {a k1 : _} {Q : _ → Prop} (h : Tot (fun σ => B_Z60 (σ 0) a k1) Q) : Tot (fun σ => F_Z60 (σ 0) a k1) Q :=
  Tot.call (F := fun k => F_Z60 k a k1) (B := fun k => B_Z60 k a k1) (fun k => rfl) h
abbrev A_Z60_L0 (Z : Type) : Type := (List (Int × Int)) → Int → Int → Z
abbrev u_Z60_L0 {Z : Type} (f : A_Z60_L0 Z) (t : T_Z60_L0) : Z := f t.1 t.2.1 t.2.2.1
theorem loop_Z60_L0 {Q : A_Z60_L0 (((Int × Unit) × ((List (Int × Int)) × Unit)) → Prop)} (I : A_Z60_L0 Prop) (μ : A_Z60_L0 Nat)
    (step : ∀ a0 a1 a2, I a0 a1 a2 → ∀ again : (Nat → Nat) → T_Z60_L0 → R_Z60, Dep 2 again → (∀ y0 y1 y2, I y0 y1 y2 → μ y0 y1 y2 < μ a0 a1 a2 → Tot (fun σ => again σ (y0, y1, y2, ())) (Q y0 y1 y2)) →
      Tot (fun σ => B_Z60_L0b (σ 0) (again σ) a0 a1 a2) (Q a0 a1 a2)) :
    ∀ a0 a1 a2, I a0 a1 a2 → Tot (fun σ => B_Z60_L0 (σ 0) (σ 0) (a0, a1, a2, ())) (Q a0 a1 a2) := fun a0 a1 a2 => Tot.loop0 (L := fun k => B_Z60_L0 k) (B := fun k g => u_Z60_L0 (B_Z60_L0b k g)) (Q := u_Z60_L0 Q) (fun _ _ _ => rfl) (u_Z60_L0 I) (u_Z60_L0 μ)
    (fun t ht again hag h => step t.1 t.2.1 t.2.2.1 ht again hag fun y0 y1 y2 => h (y0, y1, y2, ())) (a0, a1, a2, ())
abbrev R_Z55 : Type := Option ((Int × Unit) × (List Int × Unit))
abbrev C_Z55 : Type := List Int → Int → R_Z55
abbrev T_Z55_L0 : Type := List Int × Int × Int × Unit
def B_Z55_L0b (k : Nat) (again0 : T_Z55_L0 → R_Z55) (a : List Int) (k1 i : Int) : R_Z55 :=
  bif decide (i < (len a)) then
    chk (inb i a.length) <|
    chk (decide (i.toNat < a.length)) <|
    again0 ((a.set i.toNat k1), w64 (k1 + 1), w64 (i + 1), ())
  else
    some ((k1, ()), (a, ()))
def B_Z55_L0 (k : Nat) (n : Nat) (t : T_Z55_L0) : R_Z55 :=
  lfix n (fun again t => B_Z55_L0b k again t.1 t.2.1 t.2.2.1) t
def B_Z55 (k : Nat) (a : List Int) (k1 : Int) : R_Z55 :=
  B_Z55_L0 k k (a, k1, 0, ())
def F_Z55 : Nat → C_Z55
  | 0, _, _ => none
  | k + 1, a, k1 => B_Z55 k a k1
theorem tot_Z55 {a k1 : _} {Q : _ → Prop} (h : Tot (fun σ => B_Z55 (σ 0) a k1) Q) : Tot (fun σ => F_Z55 (σ 0) a k1) Q :=
  Tot.call (F := fun k => F_Z55 k a k1) (B := fun k => B_Z55 k a k1) (fun k => rfl) h
abbrev A_Z55_L0 (Z : Type) : Type := List Int → Int → Int → Z
abbrev u_Z55_L0 {Z : Type} (f : A_Z55_L0 Z) (t : T_Z55_L0) : Z := f t.1 t.2.1 t.2.2.1
theorem loop_Z55_L0 {Q : A_Z55_L0 (((Int × Unit) × (List Int × Unit)) → Prop)} (I : A_Z55_L0 Prop) (μ : A_Z55_L0 Nat)
    (step : ∀ a0 a1 a2, I a0 a1 a2 → ∀ again : (Nat → Nat) → T_Z55_L0 → R_Z55, Dep 2 again → (∀ y0 y1 y2, I y0 y1 y2 → μ y0 y1 y2 < μ a0 a1 a2 → Tot (fun σ => again σ (y0, y1, y2, ())) (Q y0 y1 y2)) →
      Tot (fun σ => B_Z55_L0b (σ 0) (again σ) a0 a1 a2) (Q a0 a1 a2)) :
    ∀ a0 a1 a2, I a0 a1 a2 → Tot (fun σ => B_Z55_L0 (σ 0) (σ 0) (a0, a1, a2, ())) (Q a0 a1 a2) := fun a0 a1 a2 => Tot.loop0 (L := fun k => B_Z55_L0 k) (B := fun k g => u_Z55_L0 (B_Z55_L0b k g)) (Q := u_Z55_L0 Q) (fun _ _ _ => rfl) (u_Z55_L0 I) (u_Z55_L0 μ)
    (fun t ht again hag h => step t.1 t.2.1 t.2.2.1 ht again hag fun y0 y1 y2 => h (y0, y1, y2, ())) (a0, a1, a2, ())
abbrev R_Z43 : Type := Option ((Int × Unit) × ((Int × Int × Int × List Int × Unit) × Unit))
abbrev C_Z43 : Type := Int → Int → Int → List Int → Int → R_Z43
def B_Z43 (k : Nat) (c_Z55 : C_Z55) (a_0 a_1 a_2 : Int) (a_3 : List Int) (k1 : Int) : R_Z43 :=
  (c_Z55 a_3 k1).bind fun r8 =>
  some ((r8.1.1, ()), ((a_0, a_1, a_2, r8.2.1, ()), ()))
def F_Z43 : Nat → C_Z43
  | 0, _, _, _, _, _ => none
  | k + 1, a_0, a_1, a_2, a_3, k1 => B_Z43 k (F_Z55 k) a_0 a_1 a_2 a_3 k1
theorem tot_Z43 {a_0 a_1 a_2 a_3 k1 : _} {Q : _ → Prop} (h : Tot (fun σ => B_Z43 (σ 0) (F_Z55 (σ 0)) a_0 a_1 a_2 a_3 k1) Q) : Tot (fun σ => F_Z43 (σ 0) a_0 a_1 a_2 a_3 k1) Q :=
  Tot.call (F := fun k => F_Z43 k a_0 a_1 a_2 a_3 k1) (B := fun k => B_Z43 k (F_Z55 k) a_0 a_1 a_2 a_3 k1) (fun k => rfl) h
abbrev R_Z54 : Type := Option ((Int × Unit) × (Unit))
abbrev C_Z54 : Type := List Int → Int → R_Z54
abbrev T_Z54_L0 : Type := List Int × Int × Int × Unit
def B_Z54_L0b (k : Nat) (again0 : T_Z54_L0 → R_Z54) (a : List Int) (k1 i : Int) : R_Z54 :=
  bif decide (i < (len a)) then
    chk (inb i a.length) <|
    bif ((rdx (0 : Int) a i) != k1) then
      some (((-1), ()), ())
    else
      again0 (a, w64 (k1 + 1), w64 (i + 1), ())
  else
    some ((k1, ()), ())
def B_Z54_L0 (k : Nat) (n : Nat) (t : T_Z54_L0) : R_Z54 :=
  lfix n (fun again t => B_Z54_L0b k again t.1 t.2.1 t.2.2.1) t
def B_Z54 (k : Nat) (a : List Int) (k1 : Int) : R_Z54 :=
  B_Z54_L0 k k (a, k1, 0, ())
def F_Z54 : Nat → C_Z54
  | 0, _, _ => none
  | k + 1, a, k1 => B_Z54 k a k1
theorem tot_Z54 {a k1 : _} {Q : _ → Prop} (h : Tot (fun σ => B_Z54 (σ 0) a k1) Q) : Tot (fun σ => F_Z54 (σ 0) a k1) Q :=
  Tot.call (F := fun k => F_Z54 k a k1) (B := fun k => B_Z54 k a k1) (fun k => rfl) h
abbrev A_Z54_L0 (Z : Type) : Type := List Int → Int → Int → Z
abbrev u_Z54_L0 {Z : Type} (f : A_Z54_L0 Z) (t : T_Z54_L0) : Z := f t.1 t.2.1 t.2.2.1
theorem loop_Z54_L0 {Q : A_Z54_L0 (((Int × Unit) × (Unit)) → Prop)} (I : A_Z54_L0 Prop) (μ : A_Z54_L0 Nat)
    (step : ∀ a0 a1 a2, I a0 a1 a2 → ∀ again : (Nat → Nat) → T_Z54_L0 → R_Z54, Dep 2 again → (∀ y0 y1 y2, I y0 y1 y2 → μ y0 y1 y2 < μ a0 a1 a2 → Tot (fun σ => again σ (y0, y1, y2, ())) (Q y0 y1 y2)) →
      Tot (fun σ => B_Z54_L0b (σ 0) (again σ) a0 a1 a2) (Q a0 a1 a2)) :
    ∀ a0 a1 a2, I a0 a1 a2 → Tot (fun σ => B_Z54_L0 (σ 0) (σ 0) (a0, a1, a2, ())) (Q a0 a1 a2) := fun a0 a1 a2 => Tot.loop0 (L := fun k => B_Z54_L0 k) (B := fun k g => u_Z54_L0 (B_Z54_L0b k g)) (Q := u_Z54_L0 Q) (fun _ _ _ => rfl) (u_Z54_L0 I) (u_Z54_L0 μ)
    (fun t ht again hag h => step t.1 t.2.1 t.2.2.1 ht again hag fun y0 y1 y2 => h (y0, y1, y2, ())) (a0, a1, a2, ())
abbrev R_Z50 : Type := Option ((Int × Unit) × (Unit))
abbrev C_Z50 : Type := Int → Int → Int → List Int → Int → R_Z50
def B_Z50 (k : Nat) (c_Z54 : C_Z54) (a_0 a_1 a_2 : Int) (a_3 : List Int) (k1 : Int) : R_Z50 :=
  (c_Z54 a_3 k1).bind fun r8 =>
  bif decide (r8.1.1 < 0) then
    some (((-1), ()), ())
  else
    some ((r8.1.1, ()), ())
def F_Z50 : Nat → C_Z50
  | 0, _, _, _, _, _ => none
  | k + 1, a_0, a_1, a_2, a_3, k1 => B_Z50 k (F_Z54 k) a_0 a_1 a_2 a_3 k1
theorem tot_Z50 {a_0 a_1 a_2 a_3 k1 : _} {Q : _ → Prop} (h : Tot (fun σ => B_Z50 (σ 0) (F_Z54 (σ 0)) a_0 a_1 a_2 a_3 k1) Q) : Tot (fun σ => F_Z50 (σ 0) a_0 a_1 a_2 a_3 k1) Q :=
  Tot.call (F := fun k => F_Z50 k a_0 a_1 a_2 a_3 k1) (B := fun k => B_Z50 k (F_Z54 k) a_0 a_1 a_2 a_3 k1) (fun k => rfl) h
abbrev R_Z20 : Type := Option ((Bool × Unit) × (Unit))
abbrev C_Z20 : Type := (List (Int × Int)) → R_Z20
def B_Z20_J2 (k : Nat) (c_l_szOpS : C_l_szOpS) (c_l_toOpS : C_l_toOpS) (c_Z33 : C_Z33) (c_Z41 : C_Z41) (c_Z64 : C_Z64) (c_l_eqOpS : C_l_eqOpS) (c_Z60 : C_Z60) (c_Z43 : C_Z43) (c_Z50 : C_Z50) (g0_Steps g0_Nodes g0_Deep : Int) (g0_Classes : List Int) (m : Int) (t87 : Bool) : R_Z20 :=
  bif t87 then
    some ((false, ()), ())
  else
    (c_Z50 g0_Steps g0_Nodes g0_Deep g0_Classes 1).bind fun r90 =>
    bif decide (r90.1.1 < 0) then
      some ((false, ()), ())
    else
      bif (r90.1.1 != m) then
        some ((false, ()), ())
      else
        some ((true, ()), ())
def B_Z20_J1 (k : Nat) (c_l_szOpS : C_l_szOpS) (c_l_toOpS : C_l_toOpS) (c_Z33 : C_Z33) (c_Z41 : C_Z41) (c_Z64 : C_Z64) (c_l_eqOpS : C_l_eqOpS) (c_Z60 : C_Z60) (c_Z43 : C_Z43) (c_Z50 : C_Z50) (aOps : List (Int × Int)) (w0_Steps w0_Nodes w0_Deep : Int) (w0_Classes : List Int) (w1 : Bool) (g0_Steps g0_Nodes g0_Deep : Int) (g0_Classes : List Int) (t61 : Bool) : R_Z20 :=
  bif t61 then
    some ((false, ()), ())
  else
    (c_Z43 g0_Steps g0_Nodes g0_Deep g0_Classes 1).bind fun r64 =>
    (c_Z50 g0_Steps g0_Nodes g0_Deep r64.2.1.2.2.2.1 1).bind fun r67 =>
    bif decide (r67.1.1 < 0) then
      some ((false, ()), ())
    else
      bif (r67.1.1 != r64.1.1) then
        some ((false, ()), ())
      else
        (c_l_toOpS aOps).bind fun r75 =>
        (c_Z41 r75.1.1).bind fun r76 =>
        (c_Z64 r76.1.1.1 r76.1.1.2.1 r76.1.1.2.2.1 r76.1.1.2.2.2.1 w0_Steps w0_Nodes w0_Deep w0_Classes).bind fun r81 =>
        bif (!r81.1.1) then
          jn (fun t => B_Z20_J2 k c_l_szOpS c_l_toOpS c_Z33 c_Z41 c_Z64 c_l_eqOpS c_Z60 c_Z43 c_Z50 t.1.1 t.1.2.1 t.1.2.2.1 t.1.2.2.2.1 t.2.1 t.2.2.1) ((g0_Steps, g0_Nodes, g0_Deep, r64.2.1.2.2.2.1, ()), r64.1.1, true, ())
        else
          jn (fun t => B_Z20_J2 k c_l_szOpS c_l_toOpS c_Z33 c_Z41 c_Z64 c_l_eqOpS c_Z60 c_Z43 c_Z50 t.1.1 t.1.2.1 t.1.2.2.1 t.1.2.2.2.1 t.2.1 t.2.2.1) ((g0_Steps, g0_Nodes, g0_Deep, r64.2.1.2.2.2.1, ()), r64.1.1, (!(r76.1.2.1 == w1)), ())
def B_Z20_J0 (k : Nat) (c_l_szOpS : C_l_szOpS) (c_l_toOpS : C_l_toOpS) (c_Z33 : C_Z33) (c_Z41 : C_Z41) (c_Z64 : C_Z64) (c_l_eqOpS : C_l_eqOpS) (c_Z60 : C_Z60) (c_Z43 : C_Z43) (c_Z50 : C_Z50) (aOps : List (Int × Int)) (w0_Steps w0_Nodes w0_Deep : Int) (w0_Classes : List Int) (w1 : Bool) (x0 : List (Int × Int)) (g0_Steps g0_Nodes g0_Deep : Int) (g0_Classes : List Int) (g1 t40 : Bool) : R_Z20 :=
  bif t40 then
    some ((false, ()), ())
  else
    (c_l_toOpS aOps).bind fun r43 =>
    (c_l_eqOpS x0 r43.1.1).bind fun r44 =>
    bif (!r44.1.1) then
      some ((false, ()), ())
    else
      (c_Z60 x0 1).bind fun r48 =>
      bif decide (r48.1.1 < 0) then
        jn (fun t => B_Z20_J1 k c_l_szOpS c_l_toOpS c_Z33 c_Z41 c_Z64 c_l_eqOpS c_Z60 c_Z43 c_Z50 t.1 t.2.1.1 t.2.1.2.1 t.2.1.2.2.1 t.2.1.2.2.2.1 t.2.2.1 t.2.2.2.1.1 t.2.2.2.1.2.1 t.2.2.2.1.2.2.1 t.2.2.2.1.2.2.2.1 t.2.2.2.2.1) (aOps, (w0_Steps, w0_Nodes, w0_Deep, w0_Classes, ()), w1, (g0_Steps, g0_Nodes, g0_Deep, g0_Classes, ()), true, ())
      else
        (c_Z64 g0_Steps g0_Nodes g0_Deep g0_Classes w0_Steps w0_Nodes w0_Deep w0_Classes).bind fun r54 =>
        bif (!r54.1.1) then
          jn (fun t => B_Z20_J1 k c_l_szOpS c_l_toOpS c_Z33 c_Z41 c_Z64 c_l_eqOpS c_Z60 c_Z43 c_Z50 t.1 t.2.1.1 t.2.1.2.1 t.2.1.2.2.1 t.2.1.2.2.2.1 t.2.2.1 t.2.2.2.1.1 t.2.2.2.1.2.1 t.2.2.2.1.2.2.1 t.2.2.2.1.2.2.2.1 t.2.2.2.2.1) (aOps, (w0_Steps, w0_Nodes, w0_Deep, w0_Classes, ()), w1, (g0_Steps, g0_Nodes, g0_Deep, g0_Classes, ()), true, ())
        else
          jn (fun t => B_Z20_J1 k c_l_szOpS c_l_toOpS c_Z33 c_Z41 c_Z64 c_l_eqOpS c_Z60 c_Z43 c_Z50 t.1 t.2.1.1 t.2.1.2.1 t.2.1.2.2.1 t.2.1.2.2.2.1 t.2.2.1 t.2.2.2.1.1 t.2.2.2.1.2.1 t.2.2.2.1.2.2.1 t.2.2.2.1.2.2.2.1 t.2.2.2.2.1) (aOps, (w0_Steps, w0_Nodes, w0_Deep, w0_Classes, ()), w1, (g0_Steps, g0_Nodes, g0_Deep, g0_Classes, ()), (!(g1 == w1)), ())
def B_Z20 (k : Nat) (c_l_szOpS : C_l_szOpS) (c_l_toOpS : C_l_toOpS) (c_Z33 : C_Z33) (c_Z41 : C_Z41) (c_Z64 : C_Z64) (c_l_eqOpS : C_l_eqOpS) (c_Z60 : C_Z60) (c_Z43 : C_Z43) (c_Z50 : C_Z50) (aOps : List (Int × Int)) : R_Z20 :=
  (c_l_szOpS aOps 1048576).bind fun r16 =>
  bif decide (r16.1.1 < 0) then
    some ((true, ()), ())
  else
    (c_l_toOpS aOps).bind fun r21 =>
    (c_Z33 r21.1.1).bind fun r22 =>
    (c_l_toOpS aOps).bind fun r26 =>
    (c_Z41 r26.1.1).bind fun r29 =>
    (c_Z64 r29.1.1.1 r29.1.1.2.1 r29.1.1.2.2.1 r29.1.1.2.2.2.1 r22.1.1.1 r22.1.1.2.1 r22.1.1.2.2.1 r22.1.1.2.2.2.1).bind fun r34 =>
    bif (!r34.1.1) then
      jn (fun t => B_Z20_J0 k c_l_szOpS c_l_toOpS c_Z33 c_Z41 c_Z64 c_l_eqOpS c_Z60 c_Z43 c_Z50 t.1 t.2.1.1 t.2.1.2.1 t.2.1.2.2.1 t.2.1.2.2.2.1 t.2.2.1 t.2.2.2.1 t.2.2.2.2.1.1 t.2.2.2.2.1.2.1 t.2.2.2.2.1.2.2.1 t.2.2.2.2.1.2.2.2.1 t.2.2.2.2.2.1 t.2.2.2.2.2.2.1) (aOps, (r22.1.1.1, r22.1.1.2.1, r22.1.1.2.2.1, r22.1.1.2.2.2.1, ()), r22.1.2.1, r26.1.1, (r29.1.1.1, r29.1.1.2.1, r29.1.1.2.2.1, r29.1.1.2.2.2.1, ()), r29.1.2.1, true, ())
    else
      jn (fun t => B_Z20_J0 k c_l_szOpS c_l_toOpS c_Z33 c_Z41 c_Z64 c_l_eqOpS c_Z60 c_Z43 c_Z50 t.1 t.2.1.1 t.2.1.2.1 t.2.1.2.2.1 t.2.1.2.2.2.1 t.2.2.1 t.2.2.2.1 t.2.2.2.2.1.1 t.2.2.2.2.1.2.1 t.2.2.2.2.1.2.2.1 t.2.2.2.2.1.2.2.2.1 t.2.2.2.2.2.1 t.2.2.2.2.2.2.1) (aOps, (r22.1.1.1, r22.1.1.2.1, r22.1.1.2.2.1, r22.1.1.2.2.2.1, ()), r22.1.2.1, r26.1.1, (r29.1.1.1, r29.1.1.2.1, r29.1.1.2.2.1, r29.1.1.2.2.2.1, ()), r29.1.2.1, (!(r29.1.2.1 == r22.1.2.1)), ())
def F_Z20 : Nat → C_Z20
  | 0, _ => none
  | k + 1, aOps => B_Z20 k (F_l_szOpS k) (F_l_toOpS k) (F_Z33 k) (F_Z41 k) (F_Z64 k) (F_l_eqOpS k) (F_Z60 k) (F_Z43 k) (F_Z50 k) aOps
theorem tot_Z20 {aOps : _} {Q : _ → Prop} (h : Tot (fun σ => B_Z20 (σ 0) (F_l_szOpS (σ 0)) (F_l_toOpS (σ 0)) (F_Z33 (σ 0)) (F_Z41 (σ 0)) (F_Z64 (σ 0)) (F_l_eqOpS (σ 0)) (F_Z60 (σ 0)) (F_Z43 (σ 0)) (F_Z50 (σ 0)) aOps) Q) : Tot (fun σ => F_Z20 (σ 0) aOps) Q :=
  Tot.call (F := fun k => F_Z20 k aOps) (B := fun k => B_Z20 k (F_l_szOpS k) (F_l_toOpS k) (F_Z33 k) (F_Z41 k) (F_Z64 k) (F_l_eqOpS k) (F_Z60 k) (F_Z43 k) (F_Z50 k) aOps) (fun k => rfl) h
end Go.Gx

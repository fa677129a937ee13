/-
  The functions, as Gx tells them (printed by gen.py).
-/
import Derived.Test.YthdjflfiekaneaaXSh1
set_option linter.unusedVariables false
namespace Go.Gx
abbrev A_Z12_L5 (Z : Type) : Type := List Int → Int → Int → Int → Bool → Bool → Z
abbrev u_Z12_L5 {Z : Type} (f : A_Z12_L5 Z) (t : T_Z12_L5) : Z := f t.1 t.2.1 t.2.2.1 t.2.2.2.1 t.2.2.2.2.1 t.2.2.2.2.2.1
theorem loop_Z12_L5 {Q : A_Z12_L5 (((Unit) × (List Int × Unit)) → Prop)} (I : A_Z12_L5 Prop) (μ : A_Z12_L5 Nat)
    (step : ∀ a0 a1 a2 a3 a4 a5, I a0 a1 a2 a3 a4 a5 → ∀ again : (Nat → Nat) → T_Z12_L5 → R_Z12, Dep 2 again → (∀ y0 y1 y2 y3 y4 y5, I y0 y1 y2 y3 y4 y5 → μ y0 y1 y2 y3 y4 y5 < μ a0 a1 a2 a3 a4 a5 → Tot (fun σ => again σ (y0, y1, y2, y3, y4, y5, ())) (Q y0 y1 y2 y3 y4 y5)) →
      Tot (fun σ => B_Z12_L5b (σ 0) (F_Z6 (σ 0)) (F_Z11 (σ 0)) (F_Z5 (σ 0)) (F_Z8 (σ 0)) (F_Z7 (σ 0)) (F_Z2 (σ 0)) (F_Z26 (σ 0)) (F_Z3 (σ 0)) (F_Z9 (σ 0)) (F_Z12 (σ 0)) (again σ) a0 a1 a2 a3 a4 a5) (Q a0 a1 a2 a3 a4 a5)) :
    ∀ a0 a1 a2 a3 a4 a5, I a0 a1 a2 a3 a4 a5 → Tot (fun σ => B_Z12_L5 (σ 0) (F_Z6 (σ 0)) (F_Z11 (σ 0)) (F_Z5 (σ 0)) (F_Z8 (σ 0)) (F_Z7 (σ 0)) (F_Z2 (σ 0)) (F_Z26 (σ 0)) (F_Z3 (σ 0)) (F_Z9 (σ 0)) (F_Z12 (σ 0)) (σ 0) (a0, a1, a2, a3, a4, a5, ())) (Q a0 a1 a2 a3 a4 a5) := fun a0 a1 a2 a3 a4 a5 => Tot.loop0 (L := fun k => B_Z12_L5 k (F_Z6 k) (F_Z11 k) (F_Z5 k) (F_Z8 k) (F_Z7 k) (F_Z2 k) (F_Z26 k) (F_Z3 k) (F_Z9 k) (F_Z12 k)) (B := fun k g => u_Z12_L5 (B_Z12_L5b k (F_Z6 k) (F_Z11 k) (F_Z5 k) (F_Z8 k) (F_Z7 k) (F_Z2 k) (F_Z26 k) (F_Z3 k) (F_Z9 k) (F_Z12 k) g)) (Q := u_Z12_L5 Q) (fun _ _ _ => rfl) (u_Z12_L5 I) (u_Z12_L5 μ)
    (fun t ht again hag h => step t.1 t.2.1 t.2.2.1 t.2.2.2.1 t.2.2.2.2.1 t.2.2.2.2.2.1 ht again hag fun y0 y1 y2 y3 y4 y5 => h (y0, y1, y2, y3, y4, y5, ())) (a0, a1, a2, a3, a4, a5, ())
abbrev R_Z19 : Type := Option ((Unit) × (List Int × Unit))
abbrev C_Z19 : Type := List Int → R_Z19
def B_Z19 (k : Nat) (c_bits_Len : C_bits_Len) (c_Z12 : C_Z12) (x : List Int) : R_Z19 :=
  (c_bits_Len (IntKind.wrap .u64 (len x))).bind fun r9 =>
  (c_Z12 x 0 (len x) r9.1.1).bind fun r10 =>
  some ((), (r10.2.1, ()))
def F_Z19 : Nat → C_Z19
  | 0, _ => none
  | k + 1, x => B_Z19 k (F_bits_Len k) (F_Z12 k) x
theorem tot_Z19 {x : _} {Q : _ → Prop} (h : Tot (fun σ => B_Z19 (σ 0) (F_bits_Len (σ 0)) (F_Z12 (σ 0)) x) Q) : Tot (fun σ => F_Z19 (σ 0) x) Q :=
  Tot.call (F := fun k => F_Z19 k x) (B := fun k => B_Z19 k (F_bits_Len k) (F_Z12 k) x) (fun k => rfl) h
abbrev R_Z43 : Type := Option ((List Int × Unit) × (Unit))
abbrev C_Z43 : Type := (List (Int × Int × List Int)) → Int → R_Z43
abbrev T_Z43_L1 : Type := ((List (Int × Int × List Int)) × Int × Unit) × List Int × List Int × Int × Int × Unit
def B_Z43_J0 (k : Nat) (c_Z32 : C_Z32) (c_Z52 : C_Z52) (c_Z16 : C_Z16) (c_Z19 : C_Z19) (again1 : T_Z43_L1 → R_Z43) (g_Nodes : List (Int × Int × List Int)) (g_Root : Int) (out t11 : List Int) (t12 t13 : Int) : R_Z43 :=
  again1 ((g_Nodes, g_Root, ()), out, t11, t12, w64 (t13 + 1), ())
def B_Z43_L1b (k : Nat) (c_Z32 : C_Z32) (c_Z52 : C_Z52) (c_Z16 : C_Z16) (c_Z19 : C_Z19) (again1 : T_Z43_L1 → R_Z43) (g_Nodes : List (Int × Int × List Int)) (g_Root : Int) (out t11 : List Int) (t12 t13 : Int) : R_Z43 :=
  bif decide (t13 < t12) then
    chk (inb t13 t11.length) <|
    chk (decide (t13.toNat < t11.length)) <|
    (c_Z16 g_Nodes (t11.getD t13.toNat (0 : Int))).bind fun r20 =>
    bif r20.1.1 then
      chk (room out.length ([(t11.getD t13.toNat (0 : Int))]).length) <|
      jn (fun t => B_Z43_J0 k c_Z32 c_Z52 c_Z16 c_Z19 again1 t.1.1 t.1.2.1 t.2.1 t.2.2.1 t.2.2.2.1 t.2.2.2.2.1) ((g_Nodes, g_Root, ()), (out ++ [(t11.getD t13.toNat (0 : Int))]), t11, t12, t13, ())
    else
      jn (fun t => B_Z43_J0 k c_Z32 c_Z52 c_Z16 c_Z19 again1 t.1.1 t.1.2.1 t.2.1 t.2.2.1 t.2.2.2.1 t.2.2.2.2.1) ((g_Nodes, g_Root, ()), out, t11, t12, t13, ())
  else
    (c_Z19 out).bind fun r27 =>
    some ((r27.2.1, ()), ())
def B_Z43_L1 (k : Nat) (c_Z32 : C_Z32) (c_Z52 : C_Z52) (c_Z16 : C_Z16) (c_Z19 : C_Z19) (n : Nat) (t : T_Z43_L1) : R_Z43 :=
  lfix n (fun again t => B_Z43_L1b k c_Z32 c_Z52 c_Z16 c_Z19 again t.1.1 t.1.2.1 t.2.1 t.2.2.1 t.2.2.2.1 t.2.2.2.2.1) t
def B_Z43 (k : Nat) (c_Z32 : C_Z32) (c_Z52 : C_Z52) (c_Z16 : C_Z16) (c_Z19 : C_Z19) (g_0 : List (Int × Int × List Int)) (g_1 : Int) : R_Z43 :=
  (c_Z32 g_0 g_1).bind fun r7 =>
  bif (!r7.1.1) then
    some (([], ()), ())
  else
    (c_Z52 g_0 g_1).bind fun r11 =>
    B_Z43_L1 k c_Z32 c_Z52 c_Z16 c_Z19 k ((g_0, g_1, ()), [], r11.1.1, len r11.1.1, 0, ())
def F_Z43 : Nat → C_Z43
  | 0, _, _ => none
  | k + 1, g_0, g_1 => B_Z43 k (F_Z32 k) (F_Z52 k) (F_Z16 k) (F_Z19 k) g_0 g_1
theorem tot_Z43 {g_0 g_1 : _} {Q : _ → Prop} (h : Tot (fun σ => B_Z43 (σ 0) (F_Z32 (σ 0)) (F_Z52 (σ 0)) (F_Z16 (σ 0)) (F_Z19 (σ 0)) g_0 g_1) Q) : Tot (fun σ => F_Z43 (σ 0) g_0 g_1) Q :=
  Tot.call (F := fun k => F_Z43 k g_0 g_1) (B := fun k => B_Z43 k (F_Z32 k) (F_Z52 k) (F_Z16 k) (F_Z19 k) g_0 g_1) (fun k => rfl) h
abbrev A_Z43_L1 (Z : Type) : Type := (List (Int × Int × List Int)) → Int → List Int → List Int → Int → Int → Z
abbrev u_Z43_L1 {Z : Type} (f : A_Z43_L1 Z) (t : T_Z43_L1) : Z := f t.1.1 t.1.2.1 t.2.1 t.2.2.1 t.2.2.2.1 t.2.2.2.2.1
theorem loop_Z43_L1 {Q : A_Z43_L1 (((List Int × Unit) × (Unit)) → Prop)} (I : A_Z43_L1 Prop) (μ : A_Z43_L1 Nat)
    (step : ∀ a0 a1 a2 a3 a4 a5, I a0 a1 a2 a3 a4 a5 → ∀ again : (Nat → Nat) → T_Z43_L1 → R_Z43, Dep 2 again → (∀ y0 y1 y2 y3 y4 y5, I y0 y1 y2 y3 y4 y5 → μ y0 y1 y2 y3 y4 y5 < μ a0 a1 a2 a3 a4 a5 → Tot (fun σ => again σ ((y0, y1, ()), y2, y3, y4, y5, ())) (Q y0 y1 y2 y3 y4 y5)) →
      Tot (fun σ => B_Z43_L1b (σ 0) (F_Z32 (σ 0)) (F_Z52 (σ 0)) (F_Z16 (σ 0)) (F_Z19 (σ 0)) (again σ) a0 a1 a2 a3 a4 a5) (Q a0 a1 a2 a3 a4 a5)) :
    ∀ a0 a1 a2 a3 a4 a5, I a0 a1 a2 a3 a4 a5 → Tot (fun σ => B_Z43_L1 (σ 0) (F_Z32 (σ 0)) (F_Z52 (σ 0)) (F_Z16 (σ 0)) (F_Z19 (σ 0)) (σ 0) ((a0, a1, ()), a2, a3, a4, a5, ())) (Q a0 a1 a2 a3 a4 a5) := fun a0 a1 a2 a3 a4 a5 => Tot.loop0 (L := fun k => B_Z43_L1 k (F_Z32 k) (F_Z52 k) (F_Z16 k) (F_Z19 k)) (B := fun k g => u_Z43_L1 (B_Z43_L1b k (F_Z32 k) (F_Z52 k) (F_Z16 k) (F_Z19 k) g)) (Q := u_Z43_L1 Q) (fun _ _ _ => rfl) (u_Z43_L1 I) (u_Z43_L1 μ)
    (fun t ht again hag h => step t.1.1 t.1.2.1 t.2.1 t.2.2.1 t.2.2.2.1 t.2.2.2.2.1 ht again hag fun y0 y1 y2 y3 y4 y5 => h ((y0, y1, ()), y2, y3, y4, y5, ())) ((a0, a1, ()), a2, a3, a4, a5, ())
abbrev R_Z31 : Type := Option ((Int × Unit) × (((List (Int × Int × List Int)) × Int × Unit) × (Unit × Unit) × Unit))
abbrev C_Z31 : Type := Int → (List (Int × Int × List Int)) → Int → R_Z31
abbrev T_Z31_L0 : Type := ((List (Int × Int × List Int)) × Int × Unit) × (Unit × Unit) × Int × List Int × Int × Int × Unit
def B_Z31_L0b (k : Nat) (c_Z31 : C_Z31) (again0 : T_Z31_L0 → R_Z31) (t1_Nodes : List (Int × Int × List Int)) (t1_Root n5 : Int) (t13 : List Int) (t14 t15 : Int) : R_Z31 :=
  bif decide (t15 < t14) then
    chk (inb t15 t13.length) <|
    (c_Z31 (rdx (0 : Int) t13 t15) t1_Nodes t1_Root).bind fun r22 =>
    bif ((if w64 (n5 + r22.1.1) < 5000 then w64 (n5 + r22.1.1) else 5000) == 5000) then
      some (((if w64 (n5 + r22.1.1) < 5000 then w64 (n5 + r22.1.1) else 5000), ()), ((r22.2.1.1, r22.2.1.2.1, ()), ((), ()), ()))
    else
      again0 ((r22.2.1.1, r22.2.1.2.1, ()), ((), ()), (if w64 (n5 + r22.1.1) < 5000 then w64 (n5 + r22.1.1) else 5000), t13, t14, w64 (t15 + 1), ())
  else
    some ((n5, ()), ((t1_Nodes, t1_Root, ()), ((), ()), ()))
def B_Z31_L0 (k : Nat) (c_Z31 : C_Z31) (n : Nat) (t : T_Z31_L0) : R_Z31 :=
  lfix n (fun again t => B_Z31_L0b k c_Z31 again t.1.1 t.1.2.1 t.2.2.1 t.2.2.2.1 t.2.2.2.2.1 t.2.2.2.2.2.1) t
def B_Z31 (k : Nat) (c_Z31 : C_Z31) (i : Int) (t1_Nodes : List (Int × Int × List Int)) (t1_Root : Int) : R_Z31 :=
  chk (inb i t1_Nodes.length) <|
  B_Z31_L0 k c_Z31 k ((t1_Nodes, t1_Root, ()), ((), ()), 1, ((rdx ((0 : Int), ((0 : Int), ([] : List Int))) t1_Nodes i).2).2, len (((rdx ((0 : Int), ((0 : Int), ([] : List Int))) t1_Nodes i).2).2), 0, ())
def F_Z31 : Nat → C_Z31
  | 0, _, _, _ => none
  | k + 1, i, t1_Nodes, t1_Root => B_Z31 k (F_Z31 k) i t1_Nodes t1_Root
theorem F_Z31_succ (k : Nat) (i : Int) (t1_Nodes : List (Int × Int × List Int)) (t1_Root : Int) : F_Z31 (k + 1) i t1_Nodes t1_Root = B_Z31 k (F_Z31 k) i t1_Nodes t1_Root := by rw [F_Z31]
theorem tot_Z31 {i t1_Nodes t1_Root : _} {Q : _ → Prop} (h : Tot (fun σ => B_Z31 (σ 0) (F_Z31 (σ 0)) i t1_Nodes t1_Root) Q) : Tot (fun σ => F_Z31 (σ 0) i t1_Nodes t1_Root) Q :=
  Tot.call (F := fun k => F_Z31 k i t1_Nodes t1_Root) (B := fun k => B_Z31 k (F_Z31 k) i t1_Nodes t1_Root) (fun k => F_Z31_succ k i t1_Nodes t1_Root) h
abbrev A_Z31_L0 (Z : Type) : Type := (List (Int × Int × List Int)) → Int → Int → List Int → Int → Int → Z
abbrev u_Z31_L0 {Z : Type} (f : A_Z31_L0 Z) (t : T_Z31_L0) : Z := f t.1.1 t.1.2.1 t.2.2.1 t.2.2.2.1 t.2.2.2.2.1 t.2.2.2.2.2.1
theorem loop_Z31_L0 {Q : A_Z31_L0 (((Int × Unit) × (((List (Int × Int × List Int)) × Int × Unit) × (Unit × Unit) × Unit)) → Prop)} (I : A_Z31_L0 Prop) (μ : A_Z31_L0 Nat)
    (step : ∀ a0 a1 a2 a3 a4 a5, I a0 a1 a2 a3 a4 a5 → ∀ again : (Nat → Nat) → T_Z31_L0 → R_Z31, Dep 2 again → (∀ y0 y1 y2 y3 y4 y5, I y0 y1 y2 y3 y4 y5 → μ y0 y1 y2 y3 y4 y5 < μ a0 a1 a2 a3 a4 a5 → Tot (fun σ => again σ ((y0, y1, ()), ((), ()), y2, y3, y4, y5, ())) (Q y0 y1 y2 y3 y4 y5)) →
      Tot (fun σ => B_Z31_L0b (σ 0) (F_Z31 (σ 0)) (again σ) a0 a1 a2 a3 a4 a5) (Q a0 a1 a2 a3 a4 a5)) :
    ∀ a0 a1 a2 a3 a4 a5, I a0 a1 a2 a3 a4 a5 → Tot (fun σ => B_Z31_L0 (σ 0) (F_Z31 (σ 0)) (σ 0) ((a0, a1, ()), ((), ()), a2, a3, a4, a5, ())) (Q a0 a1 a2 a3 a4 a5) := fun a0 a1 a2 a3 a4 a5 => Tot.loop0 (L := fun k => B_Z31_L0 k (F_Z31 k)) (B := fun k g => u_Z31_L0 (B_Z31_L0b k (F_Z31 k) g)) (Q := u_Z31_L0 Q) (fun _ _ _ => rfl) (u_Z31_L0 I) (u_Z31_L0 μ)
    (fun t ht again hag h => step t.1.1 t.1.2.1 t.2.2.1 t.2.2.2.1 t.2.2.2.2.1 t.2.2.2.2.2.1 ht again hag fun y0 y1 y2 y3 y4 y5 => h ((y0, y1, ()), ((), ()), y2, y3, y4, y5, ())) ((a0, a1, ()), ((), ()), a2, a3, a4, a5, ())
abbrev R_Z41 : Type := Option ((Int × Unit) × (Unit))
abbrev C_Z41 : Type := (List (Int × Int × List Int)) → Int → R_Z41
def B_Z41 (k : Nat) (c_Z32 : C_Z32) (c_Z43 : C_Z43) (c_Z31 : C_Z31) (g_0 : List (Int × Int × List Int)) (g_1 : Int) : R_Z41 :=
  (c_Z32 g_0 g_1).bind fun r5 =>
  bif (!r5.1.1) then
    some (((-1), ()), ())
  else
    (c_Z43 g_0 g_1).bind fun r8 =>
    bif decide ((len r8.1.1) > 0) then
      some ((5000, ()), ())
    else
      (c_Z31 g_1 g_0 g_1).bind fun r15 =>
      some ((r15.1.1, ()), ())
def F_Z41 : Nat → C_Z41
  | 0, _, _ => none
  | k + 1, g_0, g_1 => B_Z41 k (F_Z32 k) (F_Z43 k) (F_Z31 k) g_0 g_1
theorem tot_Z41 {g_0 g_1 : _} {Q : _ → Prop} (h : Tot (fun σ => B_Z41 (σ 0) (F_Z32 (σ 0)) (F_Z43 (σ 0)) (F_Z31 (σ 0)) g_0 g_1) Q) : Tot (fun σ => F_Z41 (σ 0) g_0 g_1) Q :=
  Tot.call (F := fun k => F_Z41 k g_0 g_1) (B := fun k => B_Z41 k (F_Z32 k) (F_Z43 k) (F_Z31 k) g_0 g_1) (fun k => rfl) h
abbrev R_l_isIn : Type := Option ((Bool × Unit) × (Unit))
abbrev C_l_isIn : Type := List Int → Int → R_l_isIn
abbrev T_l_isIn_L0 : Type := List Int × Int × Int × Unit
def B_l_isIn_L0b (k : Nat) (again0 : T_l_isIn_L0 → R_l_isIn) (list : List Int) (n1 i : Int) : R_l_isIn :=
  bif decide (i < (len list)) then
    chk (inb i list.length) <|
    bif ((rdx (0 : Int) list i) == n1) then
      some ((true, ()), ())
    else
      again0 (list, n1, w64 (i + 1), ())
  else
    some ((false, ()), ())
def B_l_isIn_L0 (k : Nat) (n : Nat) (t : T_l_isIn_L0) : R_l_isIn :=
  lfix n (fun again t => B_l_isIn_L0b k again t.1 t.2.1 t.2.2.1) t
def B_l_isIn (k : Nat) (list : List Int) (n1 : Int) : R_l_isIn :=
  B_l_isIn_L0 k k (list, n1, 0, ())
def F_l_isIn : Nat → C_l_isIn
  | 0, _, _ => none
  | k + 1, list, n1 => B_l_isIn k list n1
theorem tot_l_isIn {list n1 : _} {Q : _ → Prop} (h : Tot (fun σ => B_l_isIn (σ 0) list n1) Q) : Tot (fun σ => F_l_isIn (σ 0) list n1) Q :=
  Tot.call (F := fun k => F_l_isIn k list n1) (B := fun k => B_l_isIn k list n1) (fun k => rfl) h
abbrev A_l_isIn_L0 (Z : Type) : Type := List Int → Int → Int → Z
abbrev u_l_isIn_L0 {Z : Type} (f : A_l_isIn_L0 Z) (t : T_l_isIn_L0) : Z := f t.1 t.2.1 t.2.2.1
theorem loop_l_isIn_L0 {Q : A_l_isIn_L0 (((Bool × Unit) × (Unit)) → Prop)} (I : A_l_isIn_L0 Prop) (μ : A_l_isIn_L0 Nat)
    (step : ∀ a0 a1 a2, I a0 a1 a2 → ∀ again : (Nat → Nat) → T_l_isIn_L0 → R_l_isIn, Dep 2 again → (∀ y0 y1 y2, I y0 y1 y2 → μ y0 y1 y2 < μ a0 a1 a2 → Tot (fun σ => again σ (y0, y1, y2, ())) (Q y0 y1 y2)) →
      Tot (fun σ => B_l_isIn_L0b (σ 0) (again σ) a0 a1 a2) (Q a0 a1 a2)) :
    ∀ a0 a1 a2, I a0 a1 a2 → Tot (fun σ => B_l_isIn_L0 (σ 0) (σ 0) (a0, a1, a2, ())) (Q a0 a1 a2) := fun a0 a1 a2 => Tot.loop0 (L := fun k => B_l_isIn_L0 k) (B := fun k g => u_l_isIn_L0 (B_l_isIn_L0b k g)) (Q := u_l_isIn_L0 Q) (fun _ _ _ => rfl) (u_l_isIn_L0 I) (u_l_isIn_L0 μ)
    (fun t ht again hag h => step t.1 t.2.1 t.2.2.1 ht again hag fun y0 y1 y2 => h (y0, y1, y2, ())) (a0, a1, a2, ())
abbrev R_l_within : Type := Option ((Bool × Unit) × (Unit))
abbrev C_l_within : Type := List Int → List Int → R_l_within
abbrev T_l_within_L0 : Type := List Int × List Int × Int × Unit
def B_l_within_L0b (k : Nat) (c_l_isIn : C_l_isIn) (again0 : T_l_within_L0 → R_l_within) (a b : List Int) (i : Int) : R_l_within :=
  bif decide (i < (len a)) then
    chk (inb i a.length) <|
    (c_l_isIn b (rdx (0 : Int) a i)).bind fun r17 =>
    bif (!r17.1.1) then
      some ((false, ()), ())
    else
      again0 (a, b, w64 (i + 1), ())
  else
    some ((true, ()), ())
def B_l_within_L0 (k : Nat) (c_l_isIn : C_l_isIn) (n : Nat) (t : T_l_within_L0) : R_l_within :=
  lfix n (fun again t => B_l_within_L0b k c_l_isIn again t.1 t.2.1 t.2.2.1) t
def B_l_within (k : Nat) (c_l_isIn : C_l_isIn) (a b : List Int) : R_l_within :=
  B_l_within_L0 k c_l_isIn k (a, b, 0, ())
def F_l_within : Nat → C_l_within
  | 0, _, _ => none
  | k + 1, a, b => B_l_within k (F_l_isIn k) a b
theorem tot_l_within {a b : _} {Q : _ → Prop} (h : Tot (fun σ => B_l_within (σ 0) (F_l_isIn (σ 0)) a b) Q) : Tot (fun σ => F_l_within (σ 0) a b) Q :=
  Tot.call (F := fun k => F_l_within k a b) (B := fun k => B_l_within k (F_l_isIn k) a b) (fun k => rfl) h
abbrev A_l_within_L0 (Z : Type) : Type := List Int → List Int → Int → Z
abbrev u_l_within_L0 {Z : Type} (f : A_l_within_L0 Z) (t : T_l_within_L0) : Z := f t.1 t.2.1 t.2.2.1
theorem loop_l_within_L0 {Q : A_l_within_L0 (((Bool × Unit) × (Unit)) → Prop)} (I : A_l_within_L0 Prop) (μ : A_l_within_L0 Nat)
    (step : ∀ a0 a1 a2, I a0 a1 a2 → ∀ again : (Nat → Nat) → T_l_within_L0 → R_l_within, Dep 2 again → (∀ y0 y1 y2, I y0 y1 y2 → μ y0 y1 y2 < μ a0 a1 a2 → Tot (fun σ => again σ (y0, y1, y2, ())) (Q y0 y1 y2)) →
      Tot (fun σ => B_l_within_L0b (σ 0) (F_l_isIn (σ 0)) (again σ) a0 a1 a2) (Q a0 a1 a2)) :
    ∀ a0 a1 a2, I a0 a1 a2 → Tot (fun σ => B_l_within_L0 (σ 0) (F_l_isIn (σ 0)) (σ 0) (a0, a1, a2, ())) (Q a0 a1 a2) := fun a0 a1 a2 => Tot.loop0 (L := fun k => B_l_within_L0 k (F_l_isIn k)) (B := fun k g => u_l_within_L0 (B_l_within_L0b k (F_l_isIn k) g)) (Q := u_l_within_L0 Q) (fun _ _ _ => rfl) (u_l_within_L0 I) (u_l_within_L0 μ)
    (fun t ht again hag h => step t.1 t.2.1 t.2.2.1 ht again hag fun y0 y1 y2 => h (y0, y1, y2, ())) (a0, a1, a2, ())
abbrev R_Z54 : Type := Option ((Bool × Unit) × (Unit))
abbrev C_Z54 : Type := List Int → R_Z54
abbrev T_Z54_L0 : Type := List Int × Int × Unit
def B_Z54_L0b (k : Nat) (again0 : T_Z54_L0 → R_Z54) (list : List Int) (i : Int) : R_Z54 :=
  bif decide (i < (len list)) then
    chk (inb i list.length) <|
    chk (inb (w64 (i - 1)) list.length) <|
    bif decide ((rdx (0 : Int) list i) ≤ (rdx (0 : Int) list (w64 (i - 1)))) then
      some ((false, ()), ())
    else
      again0 (list, w64 (i + 1), ())
  else
    some ((true, ()), ())
def B_Z54_L0 (k : Nat) (n : Nat) (t : T_Z54_L0) : R_Z54 :=
  lfix n (fun again t => B_Z54_L0b k again t.1 t.2.1) t
def B_Z54 (k : Nat) (list : List Int) : R_Z54 :=
  B_Z54_L0 k k (list, 1, ())
def F_Z54 : Nat → C_Z54
  | 0, _ => none
  | k + 1, list => B_Z54 k list
theorem tot_Z54 {list : _} {Q : _ → Prop} (h : Tot (fun σ => B_Z54 (σ 0) list) Q) : Tot (fun σ => F_Z54 (σ 0) list) Q :=
  Tot.call (F := fun k => F_Z54 k list) (B := fun k => B_Z54 k list) (fun k => rfl) h
abbrev A_Z54_L0 (Z : Type) : Type := List Int → Int → Z
abbrev u_Z54_L0 {Z : Type} (f : A_Z54_L0 Z) (t : T_Z54_L0) : Z := f t.1 t.2.1
theorem loop_Z54_L0 {Q : A_Z54_L0 (((Bool × Unit) × (Unit)) → Prop)} (I : A_Z54_L0 Prop) (μ : A_Z54_L0 Nat)
    (step : ∀ a0 a1, I a0 a1 → ∀ again : (Nat → Nat) → T_Z54_L0 → R_Z54, Dep 2 again → (∀ y0 y1, I y0 y1 → μ y0 y1 < μ a0 a1 → Tot (fun σ => again σ (y0, y1, ())) (Q y0 y1)) →
      Tot (fun σ => B_Z54_L0b (σ 0) (again σ) a0 a1) (Q a0 a1)) :
    ∀ a0 a1, I a0 a1 → Tot (fun σ => B_Z54_L0 (σ 0) (σ 0) (a0, a1, ())) (Q a0 a1) := fun a0 a1 => Tot.loop0 (L := fun k => B_Z54_L0 k) (B := fun k g => u_Z54_L0 (B_Z54_L0b k g)) (Q := u_Z54_L0 Q) (fun _ _ _ => rfl) (u_Z54_L0 I) (u_Z54_L0 μ)
    (fun t ht again hag h => step t.1 t.2.1 ht again hag fun y0 y1 => h (y0, y1, ())) (a0, a1, ())
abbrev R_Z27 : Type := Option ((Bool × Unit) × (Unit))
abbrev C_Z27 : Type := List Int → R_Z27
abbrev T_Z27_L2 : Type := ((List (Int × Int × List Int)) × Int × Unit) × List Int × List Int × Int × Unit
def B_Z27_L2b (k : Nat) (c_Z22 : C_Z22) (c_Z39 : C_Z39) (c_Z46 : C_Z46) (c_Z34 : C_Z34) (c_Z32 : C_Z32) (c_Z50 : C_Z50) (c_Z41 : C_Z41) (c_l_within : C_l_within) (c_Z54 : C_Z54) (again2 : T_Z27_L2 → R_Z27) (g_Nodes : List (Int × Int × List Int)) (g_Root : Int) (out list : List Int) (i : Int) : R_Z27 :=
  bif decide (i < (len out)) then
    chk (inb i out.length) <|
    chk (decide (i.toNat < out.length)) <|
    chk (inb (out.getD i.toNat (0 : Int)) g_Nodes.length) <|
    let v55 : Bool := (((rdx ((0 : Int), ((0 : Int), ([] : List Int))) g_Nodes (out.getD i.toNat (0 : Int))).1) == 0)
    bif v55 then
      some ((false, ()), ())
    else
      again2 ((g_Nodes, g_Root, ()), out, list, w64 (i + 1), ())
  else
    (c_l_within out list).bind fun r58 =>
    bif r58.1.1 then
      (c_Z54 out).bind fun r61 =>
      some ((r61.1.1, ()), ())
    else
      some ((false, ()), ())
def B_Z27_L2 (k : Nat) (c_Z22 : C_Z22) (c_Z39 : C_Z39) (c_Z46 : C_Z46) (c_Z34 : C_Z34) (c_Z32 : C_Z32) (c_Z50 : C_Z50) (c_Z41 : C_Z41) (c_l_within : C_l_within) (c_Z54 : C_Z54) (n : Nat) (t : T_Z27_L2) : R_Z27 :=
  lfix n (fun again t => B_Z27_L2b k c_Z22 c_Z39 c_Z46 c_Z34 c_Z32 c_Z50 c_Z41 c_l_within c_Z54 again t.1.1 t.1.2.1 t.2.1 t.2.2.1 t.2.2.2.1) t
def B_Z27_J1 (k : Nat) (c_Z22 : C_Z22) (c_Z39 : C_Z39) (c_Z46 : C_Z46) (c_Z34 : C_Z34) (c_Z32 : C_Z32) (c_Z50 : C_Z50) (c_Z41 : C_Z41) (c_l_within : C_l_within) (c_Z54 : C_Z54) (g_Nodes : List (Int × Int × List Int)) (g_Root : Int) (out list : List Int) (t39 : Bool) : R_Z27 :=
  bif t39 then
    some ((false, ()), ())
  else
    B_Z27_L2 k c_Z22 c_Z39 c_Z46 c_Z34 c_Z32 c_Z50 c_Z41 c_l_within c_Z54 k ((g_Nodes, g_Root, ()), out, list, 0, ())
def B_Z27_J0 (k : Nat) (c_Z22 : C_Z22) (c_Z39 : C_Z39) (c_Z46 : C_Z46) (c_Z34 : C_Z34) (c_Z32 : C_Z32) (c_Z50 : C_Z50) (c_Z41 : C_Z41) (c_l_within : C_l_within) (c_Z54 : C_Z54) (g_Nodes : List (Int × Int × List Int)) (g_Root : Int) (out : List Int) (t23 : Bool) : R_Z27 :=
  bif t23 then
    (c_Z46 g_Nodes g_Root).bind fun r26 =>
    (c_Z34 out r26.1.1).bind fun r27 =>
    some ((r27.1.1, ()), ())
  else
    (c_Z50 g_Nodes g_Root).bind fun r29 =>
    (c_Z41 g_Nodes g_Root).bind fun r31 =>
    bif (r31.1.1 == (len r29.1.1)) then
      jn (fun t => B_Z27_J1 k c_Z22 c_Z39 c_Z46 c_Z34 c_Z32 c_Z50 c_Z41 c_l_within c_Z54 t.1.1 t.1.2.1 t.2.1 t.2.2.1 t.2.2.2.1) ((g_Nodes, g_Root, ()), out, r29.1.1, decide ((len out) > 0), ())
    else
      jn (fun t => B_Z27_J1 k c_Z22 c_Z39 c_Z46 c_Z34 c_Z32 c_Z50 c_Z41 c_l_within c_Z54 t.1.1 t.1.2.1 t.2.1 t.2.2.1 t.2.2.2.1) ((g_Nodes, g_Root, ()), out, r29.1.1, false, ())
def B_Z27 (k : Nat) (c_Z22 : C_Z22) (c_Z39 : C_Z39) (c_Z46 : C_Z46) (c_Z34 : C_Z34) (c_Z32 : C_Z32) (c_Z50 : C_Z50) (c_Z41 : C_Z41) (c_l_within : C_l_within) (c_Z54 : C_Z54) (code : List Int) : R_Z27 :=
  bif decide ((len code) > 1048576) then
    some ((true, ()), ())
  else
    (c_Z22 code).bind fun r11 =>
    (c_Z39 r11.1.1.1 r11.1.1.2.1).bind fun r13 =>
    (c_Z46 r11.1.1.1 r11.1.1.2.1).bind fun r16 =>
    (c_Z34 r13.1.1 r16.1.1).bind fun r17 =>
    bif (!r17.1.1) then
      jn (fun t => B_Z27_J0 k c_Z22 c_Z39 c_Z46 c_Z34 c_Z32 c_Z50 c_Z41 c_l_within c_Z54 t.1.1 t.1.2.1 t.2.1 t.2.2.1) ((r11.1.1.1, r11.1.1.2.1, ()), r13.1.1, true, ())
    else
      (c_Z32 r11.1.1.1 r11.1.1.2.1).bind fun r21 =>
      jn (fun t => B_Z27_J0 k c_Z22 c_Z39 c_Z46 c_Z34 c_Z32 c_Z50 c_Z41 c_l_within c_Z54 t.1.1 t.1.2.1 t.2.1 t.2.2.1) ((r11.1.1.1, r11.1.1.2.1, ()), r13.1.1, (!r21.1.1), ())
def F_Z27 : Nat → C_Z27
  | 0, _ => none
  | k + 1, code => B_Z27 k (F_Z22 k) (F_Z39 k) (F_Z46 k) (F_Z34 k) (F_Z32 k) (F_Z50 k) (F_Z41 k) (F_l_within k) (F_Z54 k) code
theorem tot_Z27 {code : _} {Q : _ → Prop} (h : Tot (fun σ => B_Z27 (σ 0) (F_Z22 (σ 0)) (F_Z39 (σ 0)) (F_Z46 (σ 0)) (F_Z34 (σ 0)) (F_Z32 (σ 0)) (F_Z50 (σ 0)) (F_Z41 (σ 0)) (F_l_within (σ 0)) (F_Z54 (σ 0)) code) Q) : Tot (fun σ => F_Z27 (σ 0) code) Q :=
  Tot.call (F := fun k => F_Z27 k code) (B := fun k => B_Z27 k (F_Z22 k) (F_Z39 k) (F_Z46 k) (F_Z34 k) (F_Z32 k) (F_Z50 k) (F_Z41 k) (F_l_within k) (F_Z54 k) code) (fun k => rfl) h
abbrev A_Z27_L2 (Z : Type) : Type := (List (Int × Int × List Int)) → Int → List Int → List Int → Int → Z
abbrev u_Z27_L2 {Z : Type} (f : A_Z27_L2 Z) (t : T_Z27_L2) : Z := f t.1.1 t.1.2.1 t.2.1 t.2.2.1 t.2.2.2.1
theorem loop_Z27_L2 {Q : A_Z27_L2 (((Bool × Unit) × (Unit)) → Prop)} (I : A_Z27_L2 Prop) (μ : A_Z27_L2 Nat)
    (step : ∀ a0 a1 a2 a3 a4, I a0 a1 a2 a3 a4 → ∀ again : (Nat → Nat) → T_Z27_L2 → R_Z27, Dep 2 again → (∀ y0 y1 y2 y3 y4, I y0 y1 y2 y3 y4 → μ y0 y1 y2 y3 y4 < μ a0 a1 a2 a3 a4 → Tot (fun σ => again σ ((y0, y1, ()), y2, y3, y4, ())) (Q y0 y1 y2 y3 y4)) →
      Tot (fun σ => B_Z27_L2b (σ 0) (F_Z22 (σ 0)) (F_Z39 (σ 0)) (F_Z46 (σ 0)) (F_Z34 (σ 0)) (F_Z32 (σ 0)) (F_Z50 (σ 0)) (F_Z41 (σ 0)) (F_l_within (σ 0)) (F_Z54 (σ 0)) (again σ) a0 a1 a2 a3 a4) (Q a0 a1 a2 a3 a4)) :
    ∀ a0 a1 a2 a3 a4, I a0 a1 a2 a3 a4 → Tot (fun σ => B_Z27_L2 (σ 0) (F_Z22 (σ 0)) (F_Z39 (σ 0)) (F_Z46 (σ 0)) (F_Z34 (σ 0)) (F_Z32 (σ 0)) (F_Z50 (σ 0)) (F_Z41 (σ 0)) (F_l_within (σ 0)) (F_Z54 (σ 0)) (σ 0) ((a0, a1, ()), a2, a3, a4, ())) (Q a0 a1 a2 a3 a4) := fun a0 a1 a2 a3 a4 => Tot.loop0 (L := fun k => B_Z27_L2 k (F_Z22 k) (F_Z39 k) (F_Z46 k) (F_Z34 k) (F_Z32 k) (F_Z50 k) (F_Z41 k) (F_l_within k) (F_Z54 k)) (B := fun k g => u_Z27_L2 (B_Z27_L2b k (F_Z22 k) (F_Z39 k) (F_Z46 k) (F_Z34 k) (F_Z32 k) (F_Z50 k) (F_Z41 k) (F_l_within k) (F_Z54 k) g)) (Q := u_Z27_L2 Q) (fun _ _ _ => rfl) (u_Z27_L2 I) (u_Z27_L2 μ)
    (fun t ht again hag h => step t.1.1 t.1.2.1 t.2.1 t.2.2.1 t.2.2.2.1 ht again hag fun y0 y1 y2 y3 y4 => h ((y0, y1, ()), y2, y3, y4, ())) ((a0, a1, ()), a2, a3, a4, ())
end Go.Gx

/-
  The functions, as Gx tells them (printed by gen.py).
-/
import Derived.Test.YthdjflfiekaneaaXSh1
set_option linter.unusedVariables false
namespace Go.Gx
abbrev A_Z62_L0 (Z : Type) : Type := Int → (List (Int × Int × List Int)) → Int → List Int → Int → Z
abbrev u_Z62_L0 {Z : Type} (f : A_Z62_L0 Z) (t : T_Z62_L0) : Z := f t.1 t.2.1.1 t.2.1.2.1 t.2.2.1 t.2.2.2.1
theorem loop_Z62_L0 {Q : A_Z62_L0 (((Bool × Unit) × (Unit)) → Prop)} (I : A_Z62_L0 Prop) (μ : A_Z62_L0 Nat)
    (step : ∀ a0 a1 a2 a3 a4, I a0 a1 a2 a3 a4 → ∀ again : (Nat → Nat) → T_Z62_L0 → R_Z62, Dep 2 again → (∀ y0 y1 y2 y3 y4, I y0 y1 y2 y3 y4 → μ y0 y1 y2 y3 y4 < μ a0 a1 a2 a3 a4 → Tot (fun σ => again σ (y0, (y1, y2, ()), y3, y4, ())) (Q y0 y1 y2 y3 y4)) →
      Tot (fun σ => B_Z62_L0b (σ 0) (F_s_reach (σ 0)) (F_Z59 (σ 0)) (again σ) a0 a1 a2 a3 a4) (Q a0 a1 a2 a3 a4)) :
    ∀ a0 a1 a2 a3 a4, I a0 a1 a2 a3 a4 → Tot (fun σ => B_Z62_L0 (σ 0) (F_s_reach (σ 0)) (F_Z59 (σ 0)) (σ 0) (a0, (a1, a2, ()), a3, a4, ())) (Q a0 a1 a2 a3 a4) := fun a0 a1 a2 a3 a4 => Tot.loop0 (L := fun k => B_Z62_L0 k (F_s_reach k) (F_Z59 k)) (B := fun k g => u_Z62_L0 (B_Z62_L0b k (F_s_reach k) (F_Z59 k) g)) (Q := u_Z62_L0 Q) (fun _ _ _ => rfl) (u_Z62_L0 I) (u_Z62_L0 μ)
    (fun t ht again hag h => step t.1 t.2.1.1 t.2.1.2.1 t.2.2.1 t.2.2.2.1 ht again hag fun y0 y1 y2 y3 y4 => h (y0, (y1, y2, ()), y3, y4, ())) (a0, (a1, a2, ()), a3, a4, ())
abbrev R_Z55 : Type := Option ((List Int × Unit) × (Unit))
abbrev C_Z55 : Type := (List (Int × Int × List Int)) → Int → R_Z55
abbrev T_Z55_L2 : Type := ((List (Int × Int × List Int)) × Int × Unit) × List Int × List Int × Int × Unit
def B_Z55_J1 (k : Nat) (c_Z38 : C_Z38) (c_s_reach : C_s_reach) (c_Z59 : C_Z59) (c_Z62 : C_Z62) (again2 : T_Z55_L2 → R_Z55) (g_Nodes : List (Int × Int × List Int)) (g_Root : Int) (out list : List Int) (i : Int) : R_Z55 :=
  again2 ((g_Nodes, g_Root, ()), out, list, w64 (i + 1), ())
def B_Z55_J0 (k : Nat) (c_Z38 : C_Z38) (c_s_reach : C_s_reach) (c_Z59 : C_Z59) (c_Z62 : C_Z62) (again2 : T_Z55_L2 → R_Z55) (g_Nodes : List (Int × Int × List Int)) (g_Root : Int) (out list : List Int) (i : Int) (t30 : Bool) : R_Z55 :=
  bif t30 then
    chk (room out.length ([i]).length) <|
    jn (fun t => B_Z55_J1 k c_Z38 c_s_reach c_Z59 c_Z62 again2 t.1.1 t.1.2.1 t.2.1 t.2.2.1 t.2.2.2.1) ((g_Nodes, g_Root, ()), (out ++ [i]), list, i, ())
  else
    jn (fun t => B_Z55_J1 k c_Z38 c_s_reach c_Z59 c_Z62 again2 t.1.1 t.1.2.1 t.2.1 t.2.2.1 t.2.2.2.1) ((g_Nodes, g_Root, ()), out, list, i, ())
def B_Z55_L2b (k : Nat) (c_Z38 : C_Z38) (c_s_reach : C_s_reach) (c_Z59 : C_Z59) (c_Z62 : C_Z62) (again2 : T_Z55_L2 → R_Z55) (g_Nodes : List (Int × Int × List Int)) (g_Root : Int) (out list : List Int) (i : Int) : R_Z55 :=
  bif decide (i < (len g_Nodes)) then
    (c_Z59 list i).bind fun r24 =>
    bif decide (r24.1.1 ≥ 0) then
      (c_Z62 g_Nodes g_Root i).bind fun r29 =>
      jn (fun t => B_Z55_J0 k c_Z38 c_s_reach c_Z59 c_Z62 again2 t.1.1 t.1.2.1 t.2.1 t.2.2.1 t.2.2.2.1 t.2.2.2.2.1) ((g_Nodes, g_Root, ()), out, list, i, r29.1.1, ())
    else
      jn (fun t => B_Z55_J0 k c_Z38 c_s_reach c_Z59 c_Z62 again2 t.1.1 t.1.2.1 t.2.1 t.2.2.1 t.2.2.2.1 t.2.2.2.2.1) ((g_Nodes, g_Root, ()), out, list, i, false, ())
  else
    some ((out, ()), ())
def B_Z55_L2 (k : Nat) (c_Z38 : C_Z38) (c_s_reach : C_s_reach) (c_Z59 : C_Z59) (c_Z62 : C_Z62) (n : Nat) (t : T_Z55_L2) : R_Z55 :=
  lfix n (fun again t => B_Z55_L2b k c_Z38 c_s_reach c_Z59 c_Z62 again t.1.1 t.1.2.1 t.2.1 t.2.2.1 t.2.2.2.1) t
def B_Z55 (k : Nat) (c_Z38 : C_Z38) (c_s_reach : C_s_reach) (c_Z59 : C_Z59) (c_Z62 : C_Z62) (g_0 : List (Int × Int × List Int)) (g_1 : Int) : R_Z55 :=
  (c_Z38 g_0 g_1).bind fun r7 =>
  bif (!r7.1.1) then
    some (([], ()), ())
  else
    (c_s_reach g_0 g_1 g_1 ([])).bind fun r14 =>
    B_Z55_L2 k c_Z38 c_s_reach c_Z59 c_Z62 k ((g_0, g_1, ()), [], r14.1.1, 0, ())
def F_Z55 : Nat → C_Z55
  | 0, _, _ => none
  | k + 1, g_0, g_1 => B_Z55 k (F_Z38 k) (F_s_reach k) (F_Z59 k) (F_Z62 k) g_0 g_1
theorem tot_Z55 {g_0 g_1 : _} {Q : _ → Prop} (h : Tot (fun σ => B_Z55 (σ 0) (F_Z38 (σ 0)) (F_s_reach (σ 0)) (F_Z59 (σ 0)) (F_Z62 (σ 0)) g_0 g_1) Q) : Tot (fun σ => F_Z55 (σ 0) g_0 g_1) Q :=
  Tot.call (F := fun k => F_Z55 k g_0 g_1) (B := fun k => B_Z55 k (F_Z38 k) (F_s_reach k) (F_Z59 k) (F_Z62 k) g_0 g_1) (fun k => rfl) h
abbrev A_Z55_L2 (Z : Type) : Type := (List (Int × Int × List Int)) → Int → List Int → List Int → Int → Z
abbrev u_Z55_L2 {Z : Type} (f : A_Z55_L2 Z) (t : T_Z55_L2) : Z := f t.1.1 t.1.2.1 t.2.1 t.2.2.1 t.2.2.2.1
theorem loop_Z55_L2 {Q : A_Z55_L2 (((List Int × Unit) × (Unit)) → Prop)} (I : A_Z55_L2 Prop) (μ : A_Z55_L2 Nat)
    (step : ∀ a0 a1 a2 a3 a4, I a0 a1 a2 a3 a4 → ∀ again : (Nat → Nat) → T_Z55_L2 → R_Z55, Dep 2 again → (∀ y0 y1 y2 y3 y4, I y0 y1 y2 y3 y4 → μ y0 y1 y2 y3 y4 < μ a0 a1 a2 a3 a4 → Tot (fun σ => again σ ((y0, y1, ()), y2, y3, y4, ())) (Q y0 y1 y2 y3 y4)) →
      Tot (fun σ => B_Z55_L2b (σ 0) (F_Z38 (σ 0)) (F_s_reach (σ 0)) (F_Z59 (σ 0)) (F_Z62 (σ 0)) (again σ) a0 a1 a2 a3 a4) (Q a0 a1 a2 a3 a4)) :
    ∀ a0 a1 a2 a3 a4, I a0 a1 a2 a3 a4 → Tot (fun σ => B_Z55_L2 (σ 0) (F_Z38 (σ 0)) (F_s_reach (σ 0)) (F_Z59 (σ 0)) (F_Z62 (σ 0)) (σ 0) ((a0, a1, ()), a2, a3, a4, ())) (Q a0 a1 a2 a3 a4) := fun a0 a1 a2 a3 a4 => Tot.loop0 (L := fun k => B_Z55_L2 k (F_Z38 k) (F_s_reach k) (F_Z59 k) (F_Z62 k)) (B := fun k g => u_Z55_L2 (B_Z55_L2b k (F_Z38 k) (F_s_reach k) (F_Z59 k) (F_Z62 k) g)) (Q := u_Z55_L2 Q) (fun _ _ _ => rfl) (u_Z55_L2 I) (u_Z55_L2 μ)
    (fun t ht again hag h => step t.1.1 t.1.2.1 t.2.1 t.2.2.1 t.2.2.2.1 ht again hag fun y0 y1 y2 y3 y4 => h ((y0, y1, ()), y2, y3, y4, ())) ((a0, a1, ()), a2, a3, a4, ())
abbrev R_Z56 : Type := Option ((Int × Unit) × (Unit))
abbrev C_Z56 : Type := (List (Int × Int × List Int)) → Int → Int → Int → R_Z56
abbrev T_Z56_L1 : Type := Int × Int × ((List (Int × Int × List Int)) × Int × Unit) × Int × Int × Unit
def B_Z56_J0 (k : Nat) (c_Z56 : C_Z56) (again1 : T_Z56_L1 → R_Z56) (at1 most : Int) (g_Nodes : List (Int × Int × List Int)) (g_Root n7 i : Int) (t22 : Bool) : R_Z56 :=
  bif t22 then
    chk (inb at1 g_Nodes.length) <|
    chk (inb i (((rdx ((0 : Int), ((0 : Int), ([] : List Int))) g_Nodes at1).2).2).length) <|
    (c_Z56 g_Nodes g_Root (rdx (0 : Int) (((rdx ((0 : Int), ((0 : Int), ([] : List Int))) g_Nodes at1).2).2) i) (w64 (most - n7))).bind fun r39 =>
    again1 (at1, most, (g_Nodes, g_Root, ()), w64 (n7 + r39.1.1), w64 (i + 1), ())
  else
    some (((if most < n7 then most else n7), ()), ())
def B_Z56_L1b (k : Nat) (c_Z56 : C_Z56) (again1 : T_Z56_L1 → R_Z56) (at1 most : Int) (g_Nodes : List (Int × Int × List Int)) (g_Root n7 i : Int) : R_Z56 :=
  chk (inb at1 g_Nodes.length) <|
  bif decide (i < (len (((rdx ((0 : Int), ((0 : Int), ([] : List Int))) g_Nodes at1).2).2))) then
    jn (fun t => B_Z56_J0 k c_Z56 again1 t.1 t.2.1 t.2.2.1.1 t.2.2.1.2.1 t.2.2.2.1 t.2.2.2.2.1 t.2.2.2.2.2.1) (at1, most, (g_Nodes, g_Root, ()), n7, i, decide (n7 < most), ())
  else
    jn (fun t => B_Z56_J0 k c_Z56 again1 t.1 t.2.1 t.2.2.1.1 t.2.2.1.2.1 t.2.2.2.1 t.2.2.2.2.1 t.2.2.2.2.2.1) (at1, most, (g_Nodes, g_Root, ()), n7, i, false, ())
def B_Z56_L1 (k : Nat) (c_Z56 : C_Z56) (n : Nat) (t : T_Z56_L1) : R_Z56 :=
  lfix n (fun again t => B_Z56_L1b k c_Z56 again t.1 t.2.1 t.2.2.1.1 t.2.2.1.2.1 t.2.2.2.1 t.2.2.2.2.1) t
def B_Z56 (k : Nat) (c_Z56 : C_Z56) (g_0 : List (Int × Int × List Int)) (g_1 at1 most : Int) : R_Z56 :=
  B_Z56_L1 k c_Z56 k (at1, most, (g_0, g_1, ()), 1, 0, ())
def F_Z56 : Nat → C_Z56
  | 0, _, _, _, _ => none
  | k + 1, g_0, g_1, at1, most => B_Z56 k (F_Z56 k) g_0 g_1 at1 most
theorem F_Z56_succ (k : Nat) (g_0 : List (Int × Int × List Int)) (g_1 : Int) (at1 : Int) (most : Int) : F_Z56 (k + 1) g_0 g_1 at1 most = B_Z56 k (F_Z56 k) g_0 g_1 at1 most := by rw [F_Z56]
theorem tot_Z56 {g_0 g_1 at1 most : _} {Q : _ → Prop} (h : Tot (fun σ => B_Z56 (σ 0) (F_Z56 (σ 0)) g_0 g_1 at1 most) Q) : Tot (fun σ => F_Z56 (σ 0) g_0 g_1 at1 most) Q :=
  Tot.call (F := fun k => F_Z56 k g_0 g_1 at1 most) (B := fun k => B_Z56 k (F_Z56 k) g_0 g_1 at1 most) (fun k => F_Z56_succ k g_0 g_1 at1 most) h
abbrev A_Z56_L1 (Z : Type) : Type := Int → Int → (List (Int × Int × List Int)) → Int → Int → Int → Z
abbrev u_Z56_L1 {Z : Type} (f : A_Z56_L1 Z) (t : T_Z56_L1) : Z := f t.1 t.2.1 t.2.2.1.1 t.2.2.1.2.1 t.2.2.2.1 t.2.2.2.2.1
theorem loop_Z56_L1 {Q : A_Z56_L1 (((Int × Unit) × (Unit)) → Prop)} (I : A_Z56_L1 Prop) (μ : A_Z56_L1 Nat)
    (step : ∀ a0 a1 a2 a3 a4 a5, I a0 a1 a2 a3 a4 a5 → ∀ again : (Nat → Nat) → T_Z56_L1 → R_Z56, Dep 2 again → (∀ y0 y1 y2 y3 y4 y5, I y0 y1 y2 y3 y4 y5 → μ y0 y1 y2 y3 y4 y5 < μ a0 a1 a2 a3 a4 a5 → Tot (fun σ => again σ (y0, y1, (y2, y3, ()), y4, y5, ())) (Q y0 y1 y2 y3 y4 y5)) →
      Tot (fun σ => B_Z56_L1b (σ 0) (F_Z56 (σ 0)) (again σ) a0 a1 a2 a3 a4 a5) (Q a0 a1 a2 a3 a4 a5)) :
    ∀ a0 a1 a2 a3 a4 a5, I a0 a1 a2 a3 a4 a5 → Tot (fun σ => B_Z56_L1 (σ 0) (F_Z56 (σ 0)) (σ 0) (a0, a1, (a2, a3, ()), a4, a5, ())) (Q a0 a1 a2 a3 a4 a5) := fun a0 a1 a2 a3 a4 a5 => Tot.loop0 (L := fun k => B_Z56_L1 k (F_Z56 k)) (B := fun k g => u_Z56_L1 (B_Z56_L1b k (F_Z56 k) g)) (Q := u_Z56_L1 Q) (fun _ _ _ => rfl) (u_Z56_L1 I) (u_Z56_L1 μ)
    (fun t ht again hag h => step t.1 t.2.1 t.2.2.1.1 t.2.2.1.2.1 t.2.2.2.1 t.2.2.2.2.1 ht again hag fun y0 y1 y2 y3 y4 y5 => h (y0, y1, (y2, y3, ()), y4, y5, ())) (a0, a1, (a2, a3, ()), a4, a5, ())
abbrev R_s_unfold : Type := Option (((List (Int × Int × Option (List Int))) × Int × Unit) × (Unit))
abbrev C_s_unfold : Type := (List (Int × Int × List Int)) → Int → Int → (List (Int × Int × Option (List Int))) → R_s_unfold
abbrev T_s_unfold_L0 : Type := Int × (List (Int × Int × Option (List Int))) × ((List (Int × Int × List Int)) × Int × Unit) × Int × List Int × Int × Unit
def B_s_unfold_L0b (k : Nat) (c_s_unfold : C_s_unfold) (again0 : T_s_unfold_L0 → R_s_unfold) (at1 : Int) (nodes : List (Int × Int × Option (List Int))) (g_Nodes : List (Int × Int × List Int)) (g_Root me : Int) (kids : List Int) (i : Int) : R_s_unfold :=
  chk (inb at1 g_Nodes.length) <|
  bif decide (i < (len (((rdx ((0 : Int), ((0 : Int), ([] : List Int))) g_Nodes at1).2).2))) then
    chk (inb at1 g_Nodes.length) <|
    chk (inb i (((rdx ((0 : Int), ((0 : Int), ([] : List Int))) g_Nodes at1).2).2).length) <|
    (c_s_unfold g_Nodes g_Root (rdx (0 : Int) (((rdx ((0 : Int), ((0 : Int), ([] : List Int))) g_Nodes at1).2).2) i) nodes).bind fun r55 =>
    chk (room kids.length ([r55.1.2.1]).length) <|
    again0 (at1, r55.1.1, (g_Nodes, g_Root, ()), me, (kids ++ [r55.1.2.1]), w64 (i + 1), ())
  else
    chk (inb me nodes.length) <|
    chk (decide (me.toNat < nodes.length)) <|
    some (((nodes.set me.toNat ((nodes.getD me.toNat ((0 : Int), ((0 : Int), (none : Option (List Int))))).1, (((nodes.getD me.toNat ((0 : Int), ((0 : Int), (none : Option (List Int))))).2).1, (some kids)))), me, ()), ())
def B_s_unfold_L0 (k : Nat) (c_s_unfold : C_s_unfold) (n : Nat) (t : T_s_unfold_L0) : R_s_unfold :=
  lfix n (fun again t => B_s_unfold_L0b k c_s_unfold again t.1 t.2.1 t.2.2.1.1 t.2.2.1.2.1 t.2.2.2.1 t.2.2.2.2.1 t.2.2.2.2.2.1) t
def B_s_unfold (k : Nat) (c_s_unfold : C_s_unfold) (g_0 : List (Int × Int × List Int)) (g_1 at1 : Int) (nodes : List (Int × Int × Option (List Int))) : R_s_unfold :=
  chk (inb at1 g_0.length) <|
  chk (inb at1 g_0.length) <|
  chk (room nodes.length ([((rdx ((0 : Int), ((0 : Int), ([] : List Int))) g_0 at1).1, (((rdx ((0 : Int), ((0 : Int), ([] : List Int))) g_0 at1).2).1, (none : Option (List Int))))]).length) <|
  B_s_unfold_L0 k c_s_unfold k (at1, (nodes ++ [((rdx ((0 : Int), ((0 : Int), ([] : List Int))) g_0 at1).1, (((rdx ((0 : Int), ((0 : Int), ([] : List Int))) g_0 at1).2).1, (none : Option (List Int))))]), (g_0, g_1, ()), len nodes, [], 0, ())
def F_s_unfold : Nat → C_s_unfold
  | 0, _, _, _, _ => none
  | k + 1, g_0, g_1, at1, nodes => B_s_unfold k (F_s_unfold k) g_0 g_1 at1 nodes
theorem F_s_unfold_succ (k : Nat) (g_0 : List (Int × Int × List Int)) (g_1 : Int) (at1 : Int) (nodes : List (Int × Int × Option (List Int))) : F_s_unfold (k + 1) g_0 g_1 at1 nodes = B_s_unfold k (F_s_unfold k) g_0 g_1 at1 nodes := by rw [F_s_unfold]
theorem tot_s_unfold {g_0 g_1 at1 nodes : _} {Q : _ → Prop} (h : Tot (fun σ => B_s_unfold (σ 0) (F_s_unfold (σ 0)) g_0 g_1 at1 nodes) Q) : Tot (fun σ => F_s_unfold (σ 0) g_0 g_1 at1 nodes) Q :=
  Tot.call (F := fun k => F_s_unfold k g_0 g_1 at1 nodes) (B := fun k => B_s_unfold k (F_s_unfold k) g_0 g_1 at1 nodes) (fun k => F_s_unfold_succ k g_0 g_1 at1 nodes) h
abbrev A_s_unfold_L0 (Z : Type) : Type := Int → (List (Int × Int × Option (List Int))) → (List (Int × Int × List Int)) → Int → Int → List Int → Int → Z
abbrev u_s_unfold_L0 {Z : Type} (f : A_s_unfold_L0 Z) (t : T_s_unfold_L0) : Z := f t.1 t.2.1 t.2.2.1.1 t.2.2.1.2.1 t.2.2.2.1 t.2.2.2.2.1 t.2.2.2.2.2.1
theorem loop_s_unfold_L0 {Q : A_s_unfold_L0 ((((List (Int × Int × Option (List Int))) × Int × Unit) × (Unit)) → Prop)} (I : A_s_unfold_L0 Prop) (μ : A_s_unfold_L0 Nat)
    (step : ∀ a0 a1 a2 a3 a4 a5 a6, I a0 a1 a2 a3 a4 a5 a6 → ∀ again : (Nat → Nat) → T_s_unfold_L0 → R_s_unfold, Dep 2 again → (∀ y0 y1 y2 y3 y4 y5 y6, I y0 y1 y2 y3 y4 y5 y6 → μ y0 y1 y2 y3 y4 y5 y6 < μ a0 a1 a2 a3 a4 a5 a6 → Tot (fun σ => again σ (y0, y1, (y2, y3, ()), y4, y5, y6, ())) (Q y0 y1 y2 y3 y4 y5 y6)) →
      Tot (fun σ => B_s_unfold_L0b (σ 0) (F_s_unfold (σ 0)) (again σ) a0 a1 a2 a3 a4 a5 a6) (Q a0 a1 a2 a3 a4 a5 a6)) :
    ∀ a0 a1 a2 a3 a4 a5 a6, I a0 a1 a2 a3 a4 a5 a6 → Tot (fun σ => B_s_unfold_L0 (σ 0) (F_s_unfold (σ 0)) (σ 0) (a0, a1, (a2, a3, ()), a4, a5, a6, ())) (Q a0 a1 a2 a3 a4 a5 a6) := fun a0 a1 a2 a3 a4 a5 a6 => Tot.loop0 (L := fun k => B_s_unfold_L0 k (F_s_unfold k)) (B := fun k g => u_s_unfold_L0 (B_s_unfold_L0b k (F_s_unfold k) g)) (Q := u_s_unfold_L0 Q) (fun _ _ _ => rfl) (u_s_unfold_L0 I) (u_s_unfold_L0 μ)
    (fun t ht again hag h => step t.1 t.2.1 t.2.2.1.1 t.2.2.1.2.1 t.2.2.2.1 t.2.2.2.2.1 t.2.2.2.2.2.1 ht again hag fun y0 y1 y2 y3 y4 y5 y6 => h (y0, y1, (y2, y3, ()), y4, y5, y6, ())) (a0, a1, (a2, a3, ()), a4, a5, a6, ())
abbrev R_Z26 : Type := Option ((((List (Int × Int × Option (List Int))) × Int × Unit) × Bool × Unit) × (Unit))
abbrev C_Z26 : Type := (List (Int × Int × List Int)) → Int → R_Z26
def B_Z26_J0 (k : Nat) (c_Z38 : C_Z38) (c_Z55 : C_Z55) (c_Z56 : C_Z56) (c_s_unfold : C_s_unfold) (g_Nodes : List (Int × Int × List Int)) (g_Root t2_Root : Int) (t21 : Bool) : R_Z26 :=
  bif t21 then
    some ((([], 0, ()), false, ()), ())
  else
    (c_s_unfold g_Nodes g_Root g_Root ([])).bind fun r28 =>
    some (((r28.1.1, 0, ()), true, ()), ())
def B_Z26 (k : Nat) (c_Z38 : C_Z38) (c_Z55 : C_Z55) (c_Z56 : C_Z56) (c_s_unfold : C_s_unfold) (g_0 : List (Int × Int × List Int)) (g_1 : Int) : R_Z26 :=
  (c_Z38 g_0 g_1).bind fun r7 =>
  bif (!r7.1.1) then
    jn (fun t => B_Z26_J0 k c_Z38 c_Z55 c_Z56 c_s_unfold t.1.1 t.1.2.1 t.2.1.2.1 t.2.2.1) ((g_0, g_1, ()), ((), 0, ()), true, ())
  else
    (c_Z55 g_0 g_1).bind fun r11 =>
    bif decide ((len r11.1.1) > 0) then
      jn (fun t => B_Z26_J0 k c_Z38 c_Z55 c_Z56 c_s_unfold t.1.1 t.1.2.1 t.2.1.2.1 t.2.2.1) ((g_0, g_1, ()), ((), 0, ()), true, ())
    else
      (c_Z56 g_0 g_1 g_1 5000).bind fun r19 =>
      jn (fun t => B_Z26_J0 k c_Z38 c_Z55 c_Z56 c_s_unfold t.1.1 t.1.2.1 t.2.1.2.1 t.2.2.1) ((g_0, g_1, ()), ((), 0, ()), decide (r19.1.1 > 12), ())
def F_Z26 : Nat → C_Z26
  | 0, _, _ => none
  | k + 1, g_0, g_1 => B_Z26 k (F_Z38 k) (F_Z55 k) (F_Z56 k) (F_s_unfold k) g_0 g_1
theorem tot_Z26 {g_0 g_1 : _} {Q : _ → Prop} (h : Tot (fun σ => B_Z26 (σ 0) (F_Z38 (σ 0)) (F_Z55 (σ 0)) (F_Z56 (σ 0)) (F_s_unfold (σ 0)) g_0 g_1) Q) : Tot (fun σ => F_Z26 (σ 0) g_0 g_1) Q :=
  Tot.call (F := fun k => F_Z26 k g_0 g_1) (B := fun k => B_Z26 k (F_Z38 k) (F_Z55 k) (F_Z56 k) (F_s_unfold k) g_0 g_1) (fun k => rfl) h
abbrev R_Z40 : Type := Option ((Bool × Unit) × (Unit))
abbrev C_Z40 : Type := List Int → List Int → R_Z40
abbrev T_Z40_L0 : Type := List Int × List Int × Int × Unit
def B_Z40_L0b (k : Nat) (again0 : T_Z40_L0 → R_Z40) (a b : List Int) (i : Int) : R_Z40 :=
  bif decide (i < (len a)) then
    chk (inb i a.length) <|
    chk (inb i b.length) <|
    bif ((rdx (0 : Int) a i) != (rdx (0 : Int) b i)) then
      some ((false, ()), ())
    else
      again0 (a, b, w64 (i + 1), ())
  else
    some ((true, ()), ())
def B_Z40_L0 (k : Nat) (n : Nat) (t : T_Z40_L0) : R_Z40 :=
  lfix n (fun again t => B_Z40_L0b k again t.1 t.2.1 t.2.2.1) t
def B_Z40 (k : Nat) (a b : List Int) : R_Z40 :=
  bif ((len a) != (len b)) then
    some ((false, ()), ())
  else
    B_Z40_L0 k k (a, b, 0, ())
def F_Z40 : Nat → C_Z40
  | 0, _, _ => none
  | k + 1, a, b => B_Z40 k a b
theorem tot_Z40 {a b : _} {Q : _ → Prop} (h : Tot (fun σ => B_Z40 (σ 0) a b) Q) : Tot (fun σ => F_Z40 (σ 0) a b) Q :=
  Tot.call (F := fun k => F_Z40 k a b) (B := fun k => B_Z40 k a b) (fun k => rfl) h
abbrev A_Z40_L0 (Z : Type) : Type := List Int → List Int → Int → Z
abbrev u_Z40_L0 {Z : Type} (f : A_Z40_L0 Z) (t : T_Z40_L0) : Z := f t.1 t.2.1 t.2.2.1
theorem loop_Z40_L0 {Q : A_Z40_L0 (((Bool × Unit) × (Unit)) → Prop)} (I : A_Z40_L0 Prop) (μ : A_Z40_L0 Nat)
    (step : ∀ a0 a1 a2, I a0 a1 a2 → ∀ again : (Nat → Nat) → T_Z40_L0 → R_Z40, Dep 2 again → (∀ y0 y1 y2, I y0 y1 y2 → μ y0 y1 y2 < μ a0 a1 a2 → Tot (fun σ => again σ (y0, y1, y2, ())) (Q y0 y1 y2)) →
      Tot (fun σ => B_Z40_L0b (σ 0) (again σ) a0 a1 a2) (Q a0 a1 a2)) :
    ∀ a0 a1 a2, I a0 a1 a2 → Tot (fun σ => B_Z40_L0 (σ 0) (σ 0) (a0, a1, a2, ())) (Q a0 a1 a2) := fun a0 a1 a2 => Tot.loop0 (L := fun k => B_Z40_L0 k) (B := fun k g => u_Z40_L0 (B_Z40_L0b k g)) (Q := u_Z40_L0 Q) (fun _ _ _ => rfl) (u_Z40_L0 I) (u_Z40_L0 μ)
    (fun t ht again hag h => step t.1 t.2.1 t.2.2.1 ht again hag fun y0 y1 y2 => h (y0, y1, y2, ())) (a0, a1, a2, ())
abbrev R_Z39 : Type := Option ((Bool × Unit) × (Unit))
abbrev C_Z39 : Type := (List (Int × Int × List Int)) → (List (Int × Int × List Int)) → R_Z39
abbrev T_Z39_L1 : Type := (List (Int × Int × List Int)) × (List (Int × Int × List Int)) × Int × Unit
def B_Z39_J0 (k : Nat) (c_Z40 : C_Z40) (again1 : T_Z39_L1 → R_Z39) (a b : List (Int × Int × List Int)) (i : Int) (t54 : Bool) : R_Z39 :=
  bif t54 then
    some ((false, ()), ())
  else
    again1 (a, b, w64 (i + 1), ())
def B_Z39_L1b (k : Nat) (c_Z40 : C_Z40) (again1 : T_Z39_L1 → R_Z39) (a b : List (Int × Int × List Int)) (i : Int) : R_Z39 :=
  bif decide (i < (len a)) then
    chk (inb i a.length) <|
    chk (inb i b.length) <|
    let v27 : Bool := (((rdx ((0 : Int), ((0 : Int), ([] : List Int))) a i).1) != ((rdx ((0 : Int), ((0 : Int), ([] : List Int))) b i).1))
    bif v27 then
      jn (fun t => B_Z39_J0 k c_Z40 again1 t.1 t.2.1 t.2.2.1 t.2.2.2.1) (a, b, i, true, ())
    else
      chk (inb i a.length) <|
      chk (inb i b.length) <|
      let v39 : Bool := ((((rdx ((0 : Int), ((0 : Int), ([] : List Int))) a i).2).1) != (((rdx ((0 : Int), ((0 : Int), ([] : List Int))) b i).2).1))
      bif v39 then
        jn (fun t => B_Z39_J0 k c_Z40 again1 t.1 t.2.1 t.2.2.1 t.2.2.2.1) (a, b, i, true, ())
      else
        chk (inb i a.length) <|
        chk (inb i b.length) <|
        (c_Z40 (((rdx ((0 : Int), ((0 : Int), ([] : List Int))) a i).2).2) (((rdx ((0 : Int), ((0 : Int), ([] : List Int))) b i).2).2)).bind fun r52 =>
        jn (fun t => B_Z39_J0 k c_Z40 again1 t.1 t.2.1 t.2.2.1 t.2.2.2.1) (a, b, i, (!r52.1.1), ())
  else
    some ((true, ()), ())
def B_Z39_L1 (k : Nat) (c_Z40 : C_Z40) (n : Nat) (t : T_Z39_L1) : R_Z39 :=
  lfix n (fun again t => B_Z39_L1b k c_Z40 again t.1 t.2.1 t.2.2.1) t
def B_Z39 (k : Nat) (c_Z40 : C_Z40) (a b : List (Int × Int × List Int)) : R_Z39 :=
  bif ((len a) != (len b)) then
    some ((false, ()), ())
  else
    B_Z39_L1 k c_Z40 k (a, b, 0, ())
def F_Z39 : Nat → C_Z39
  | 0, _, _ => none
  | k + 1, a, b => B_Z39 k (F_Z40 k) a b
theorem tot_Z39 {a b : _} {Q : _ → Prop} (h : Tot (fun σ => B_Z39 (σ 0) (F_Z40 (σ 0)) a b) Q) : Tot (fun σ => F_Z39 (σ 0) a b) Q :=
  Tot.call (F := fun k => F_Z39 k a b) (B := fun k => B_Z39 k (F_Z40 k) a b) (fun k => rfl) h
abbrev A_Z39_L1 (Z : Type) : Type := (List (Int × Int × List Int)) → (List (Int × Int × List Int)) → Int → Z
abbrev u_Z39_L1 {Z : Type} (f : A_Z39_L1 Z) (t : T_Z39_L1) : Z := f t.1 t.2.1 t.2.2.1
theorem loop_Z39_L1 {Q : A_Z39_L1 (((Bool × Unit) × (Unit)) → Prop)} (I : A_Z39_L1 Prop) (μ : A_Z39_L1 Nat)
    (step : ∀ a0 a1 a2, I a0 a1 a2 → ∀ again : (Nat → Nat) → T_Z39_L1 → R_Z39, Dep 2 again → (∀ y0 y1 y2, I y0 y1 y2 → μ y0 y1 y2 < μ a0 a1 a2 → Tot (fun σ => again σ (y0, y1, y2, ())) (Q y0 y1 y2)) →
      Tot (fun σ => B_Z39_L1b (σ 0) (F_Z40 (σ 0)) (again σ) a0 a1 a2) (Q a0 a1 a2)) :
    ∀ a0 a1 a2, I a0 a1 a2 → Tot (fun σ => B_Z39_L1 (σ 0) (F_Z40 (σ 0)) (σ 0) (a0, a1, a2, ())) (Q a0 a1 a2) := fun a0 a1 a2 => Tot.loop0 (L := fun k => B_Z39_L1 k (F_Z40 k)) (B := fun k g => u_Z39_L1 (B_Z39_L1b k (F_Z40 k) g)) (Q := u_Z39_L1 Q) (fun _ _ _ => rfl) (u_Z39_L1 I) (u_Z39_L1 μ)
    (fun t ht again hag h => step t.1 t.2.1 t.2.2.1 ht again hag fun y0 y1 y2 => h (y0, y1, y2, ())) (a0, a1, a2, ())
abbrev R_Z31 : Type := Option ((Bool × Unit) × (Unit))
abbrev C_Z31 : Type := (List (Int × Int × List Int)) → Int → (List (Int × Int × List Int)) → Int → R_Z31
def B_Z31 (k : Nat) (c_Z39 : C_Z39) (a_0 : List (Int × Int × List Int)) (a_1 : Int) (b_0 : List (Int × Int × List Int)) (b_1 : Int) : R_Z31 :=
  bif (a_1 == b_1) then
    (c_Z39 a_0 b_0).bind fun r15 =>
    some ((r15.1.1, ()), ())
  else
    some ((false, ()), ())
def F_Z31 : Nat → C_Z31
  | 0, _, _, _, _ => none
  | k + 1, a_0, a_1, b_0, b_1 => B_Z31 k (F_Z39 k) a_0 a_1 b_0 b_1
theorem tot_Z31 {a_0 a_1 b_0 b_1 : _} {Q : _ → Prop} (h : Tot (fun σ => B_Z31 (σ 0) (F_Z39 (σ 0)) a_0 a_1 b_0 b_1) Q) : Tot (fun σ => F_Z31 (σ 0) a_0 a_1 b_0 b_1) Q :=
  Tot.call (F := fun k => F_Z31 k a_0 a_1 b_0 b_1) (B := fun k => B_Z31 k (F_Z39 k) a_0 a_1 b_0 b_1) (fun k => rfl) h
abbrev R_Z5 : Type := Option (((List (Int × Int × List Int)) × Unit) × (Unit))
abbrev C_Z5 : Type := (List (Int × Int × List Int)) → R_Z5
def B_Z5 (k : Nat) (s : List (Int × Int × List Int)) : R_Z5 :=
  chk (room ([] : List (Int × Int × List Int)).length s.length) <|
  some ((s, ()), ())
def F_Z5 : Nat → C_Z5
  | 0, _ => none
  | k + 1, s => B_Z5 k s
theorem tot_Z5 {s : _} {Q : _ → Prop} (h : Tot (fun σ => B_Z5 (σ 0) s) Q) : Tot (fun σ => F_Z5 (σ 0) s) Q :=
  Tot.call (F := fun k => F_Z5 k s) (B := fun k => B_Z5 k s) (fun k => rfl) h
abbrev R_i_mapped : Type := Option (((Int × Int × List Int × Unit) × Unit) × (Unit))
abbrev C_i_mapped : Type := Int → Int → List Int → List Int → R_i_mapped
abbrev T_i_mapped_L0 : Type := List Int × (Int × Int × Unit × Unit) × (Int × Int × List Int × Unit) × List Int × Int × Int × Unit
def B_i_mapped_L0b (k : Nat) (again0 : T_i_mapped_L0 → R_i_mapped) (order : List Int) (t4_Kind t4_Value out_Kind out_Value : Int) (out_Kids t14 : List Int) (t15 t16 : Int) : R_i_mapped :=
  bif decide (t16 < t15) then
    chk (inb t16 t14.length) <|
    chk (inb (rdx (0 : Int) t14 t16) order.length) <|
    chk (room out_Kids.length ([(rdx (0 : Int) order (rdx (0 : Int) t14 t16))]).length) <|
    again0 (order, (t4_Kind, t4_Value, (), ()), (out_Kind, out_Value, (out_Kids ++ [(rdx (0 : Int) order (rdx (0 : Int) t14 t16))]), ()), t14, t15, w64 (t16 + 1), ())
  else
    some (((out_Kind, out_Value, out_Kids, ()), ()), ())
def B_i_mapped_L0 (k : Nat) (n : Nat) (t : T_i_mapped_L0) : R_i_mapped :=
  lfix n (fun again t => B_i_mapped_L0b k again t.1 t.2.1.1 t.2.1.2.1 t.2.2.1.1 t.2.2.1.2.1 t.2.2.1.2.2.1 t.2.2.2.1 t.2.2.2.2.1 t.2.2.2.2.2.1) t
def B_i_mapped (k : Nat) (x_0 x_1 : Int) (x_2 order : List Int) : R_i_mapped :=
  B_i_mapped_L0 k k (order, (0, 0, (), ()), (x_0, x_1, [], ()), x_2, len x_2, 0, ())
def F_i_mapped : Nat → C_i_mapped
  | 0, _, _, _, _ => none
  | k + 1, x_0, x_1, x_2, order => B_i_mapped k x_0 x_1 x_2 order
theorem tot_i_mapped {x_0 x_1 x_2 order : _} {Q : _ → Prop} (h : Tot (fun σ => B_i_mapped (σ 0) x_0 x_1 x_2 order) Q) : Tot (fun σ => F_i_mapped (σ 0) x_0 x_1 x_2 order) Q :=
  Tot.call (F := fun k => F_i_mapped k x_0 x_1 x_2 order) (B := fun k => B_i_mapped k x_0 x_1 x_2 order) (fun k => rfl) h
abbrev A_i_mapped_L0 (Z : Type) : Type := List Int → Int → Int → Int → Int → List Int → List Int → Int → Int → Z
abbrev u_i_mapped_L0 {Z : Type} (f : A_i_mapped_L0 Z) (t : T_i_mapped_L0) : Z := f t.1 t.2.1.1 t.2.1.2.1 t.2.2.1.1 t.2.2.1.2.1 t.2.2.1.2.2.1 t.2.2.2.1 t.2.2.2.2.1 t.2.2.2.2.2.1
theorem loop_i_mapped_L0 {Q : A_i_mapped_L0 ((((Int × Int × List Int × Unit) × Unit) × (Unit)) → Prop)} (I : A_i_mapped_L0 Prop) (μ : A_i_mapped_L0 Nat)
    (step : ∀ a0 a1 a2 a3 a4 a5 a6 a7 a8, I a0 a1 a2 a3 a4 a5 a6 a7 a8 → ∀ again : (Nat → Nat) → T_i_mapped_L0 → R_i_mapped, Dep 2 again → (∀ y0 y1 y2 y3 y4 y5 y6 y7 y8, I y0 y1 y2 y3 y4 y5 y6 y7 y8 → μ y0 y1 y2 y3 y4 y5 y6 y7 y8 < μ a0 a1 a2 a3 a4 a5 a6 a7 a8 → Tot (fun σ => again σ (y0, (y1, y2, (), ()), (y3, y4, y5, ()), y6, y7, y8, ())) (Q y0 y1 y2 y3 y4 y5 y6 y7 y8)) →
      Tot (fun σ => B_i_mapped_L0b (σ 0) (again σ) a0 a1 a2 a3 a4 a5 a6 a7 a8) (Q a0 a1 a2 a3 a4 a5 a6 a7 a8)) :
    ∀ a0 a1 a2 a3 a4 a5 a6 a7 a8, I a0 a1 a2 a3 a4 a5 a6 a7 a8 → Tot (fun σ => B_i_mapped_L0 (σ 0) (σ 0) (a0, (a1, a2, (), ()), (a3, a4, a5, ()), a6, a7, a8, ())) (Q a0 a1 a2 a3 a4 a5 a6 a7 a8) := fun a0 a1 a2 a3 a4 a5 a6 a7 a8 => Tot.loop0 (L := fun k => B_i_mapped_L0 k) (B := fun k g => u_i_mapped_L0 (B_i_mapped_L0b k g)) (Q := u_i_mapped_L0 Q) (fun _ _ _ => rfl) (u_i_mapped_L0 I) (u_i_mapped_L0 μ)
    (fun t ht again hag h => step t.1 t.2.1.1 t.2.1.2.1 t.2.2.1.1 t.2.2.1.2.1 t.2.2.1.2.2.1 t.2.2.2.1 t.2.2.2.2.1 t.2.2.2.2.2.1 ht again hag fun y0 y1 y2 y3 y4 y5 y6 y7 y8 => h (y0, (y1, y2, (), ()), (y3, y4, y5, ()), y6, y7, y8, ())) (a0, (a1, a2, (), ()), (a3, a4, a5, ()), a6, a7, a8, ())
abbrev R_Z43 : Type := Option ((Bool × Unit) × ((List Int × Unit) × Unit))
abbrev C_Z43 : Type := Int → Int → List Int → R_Z43
def B_Z43 (k : Nat) (a b : Int) (t2 : List Int) : R_Z43 :=
  chk (inb a t2.length) <|
  chk (inb b t2.length) <|
  some ((((rdx (0 : Int) t2 a) == (rdx (0 : Int) t2 b)), ()), ((t2, ()), ()))
def F_Z43 : Nat → C_Z43
  | 0, _, _, _ => none
  | k + 1, a, b, t2 => B_Z43 k a b t2
theorem tot_Z43 {a b t2 : _} {Q : _ → Prop} (h : Tot (fun σ => B_Z43 (σ 0) a b t2) Q) : Tot (fun σ => F_Z43 (σ 0) a b t2) Q :=
  Tot.call (F := fun k => F_Z43 k a b t2) (B := fun k => B_Z43 k a b t2) (fun k => rfl) h
abbrev R_Z0 : Type := Option ((Bool × Unit) × ((List Int × Unit) × Unit))
abbrev C_Z0 : Type := List Int → List Int → List Int → R_Z0
abbrev T_Z0_L0 : Type := List Int × (List Int × Unit) × List Int × Int × Int × Unit
def B_Z0_L0b (k : Nat) (c_Z43 : C_Z43) (again0 : T_Z0_L0 → R_Z0) (s2 eq t15 : List Int) (t16 t17 : Int) : R_Z0 :=
  bif decide (t17 < t16) then
    chk (inb t17 t15.length) <|
    chk (inb t17 s2.length) <|
    (c_Z43 (rdx (0 : Int) t15 t17) (rdx (0 : Int) s2 t17) eq).bind fun r29 =>
    bif (!r29.1.1) then
      some ((false, ()), ((r29.2.1.1, ()), ()))
    else
      again0 (s2, (r29.2.1.1, ()), t15, t16, w64 (t17 + 1), ())
  else
    some ((true, ()), ((eq, ()), ()))
def B_Z0_L0 (k : Nat) (c_Z43 : C_Z43) (n : Nat) (t : T_Z0_L0) : R_Z0 :=
  lfix n (fun again t => B_Z0_L0b k c_Z43 again t.1 t.2.1.1 t.2.2.1 t.2.2.2.1 t.2.2.2.2.1) t
def B_Z0 (k : Nat) (c_Z43 : C_Z43) (s1 s2 eq : List Int) : R_Z0 :=
  bif ((len s1) != (len s2)) then
    some ((false, ()), ((eq, ()), ()))
  else
    B_Z0_L0 k c_Z43 k (s2, (eq, ()), s1, len s1, 0, ())
def F_Z0 : Nat → C_Z0
  | 0, _, _, _ => none
  | k + 1, s1, s2, eq => B_Z0 k (F_Z43 k) s1 s2 eq
theorem tot_Z0 {s1 s2 eq : _} {Q : _ → Prop} (h : Tot (fun σ => B_Z0 (σ 0) (F_Z43 (σ 0)) s1 s2 eq) Q) : Tot (fun σ => F_Z0 (σ 0) s1 s2 eq) Q :=
  Tot.call (F := fun k => F_Z0 k s1 s2 eq) (B := fun k => B_Z0 k (F_Z43 k) s1 s2 eq) (fun k => rfl) h
abbrev A_Z0_L0 (Z : Type) : Type := List Int → List Int → List Int → Int → Int → Z
abbrev u_Z0_L0 {Z : Type} (f : A_Z0_L0 Z) (t : T_Z0_L0) : Z := f t.1 t.2.1.1 t.2.2.1 t.2.2.2.1 t.2.2.2.2.1
theorem loop_Z0_L0 {Q : A_Z0_L0 (((Bool × Unit) × ((List Int × Unit) × Unit)) → Prop)} (I : A_Z0_L0 Prop) (μ : A_Z0_L0 Nat)
    (step : ∀ a0 a1 a2 a3 a4, I a0 a1 a2 a3 a4 → ∀ again : (Nat → Nat) → T_Z0_L0 → R_Z0, Dep 2 again → (∀ y0 y1 y2 y3 y4, I y0 y1 y2 y3 y4 → μ y0 y1 y2 y3 y4 < μ a0 a1 a2 a3 a4 → Tot (fun σ => again σ (y0, (y1, ()), y2, y3, y4, ())) (Q y0 y1 y2 y3 y4)) →
      Tot (fun σ => B_Z0_L0b (σ 0) (F_Z43 (σ 0)) (again σ) a0 a1 a2 a3 a4) (Q a0 a1 a2 a3 a4)) :
    ∀ a0 a1 a2 a3 a4, I a0 a1 a2 a3 a4 → Tot (fun σ => B_Z0_L0 (σ 0) (F_Z43 (σ 0)) (σ 0) (a0, (a1, ()), a2, a3, a4, ())) (Q a0 a1 a2 a3 a4) := fun a0 a1 a2 a3 a4 => Tot.loop0 (L := fun k => B_Z0_L0 k (F_Z43 k)) (B := fun k g => u_Z0_L0 (B_Z0_L0b k (F_Z43 k) g)) (Q := u_Z0_L0 Q) (fun _ _ _ => rfl) (u_Z0_L0 I) (u_Z0_L0 μ)
    (fun t ht again hag h => step t.1 t.2.1.1 t.2.2.1 t.2.2.2.1 t.2.2.2.2.1 ht again hag fun y0 y1 y2 y3 y4 => h (y0, (y1, ()), y2, y3, y4, ())) (a0, (a1, ()), a2, a3, a4, ())
abbrev R_Z60 : Type := Option ((List Int × Unit) × (Unit))
abbrev C_Z60 : Type := (List (Int × Int × List Int)) → R_Z60
abbrev T_Z60_L1 : Type := (List (Int × Int × List Int)) × (List Int × Unit) × List Int × Int × (Int × Int × List Int × Unit) × Int × Int × Int × (List (Int × Int × List Int)) × Int × Int × (List (Int × Int × List Int)) × Int × Int × Unit
abbrev T_Z60_L3 : Type := (List (Int × Int × List Int)) × (List Int × Unit) × List Int × Int × Int × (List (Int × Int × List Int)) × Int × Int × Unit
abbrev T_Z60_L4 : Type := (List (Int × Int × List Int)) × (List Int × Unit) × Int × Int × Unit
def B_Z60_J2 (k : Nat) (c_Z0 : C_Z0) (again3 : T_Z60_L3 → R_Z60) (nodes : List (Int × Int × List Int)) (out next : List Int) (least t15 t16 : Int) (t19 : List (Int × Int × List Int)) (t20 t21 : Int) : R_Z60 :=
  chk (room next.length ([least]).length) <|
  again3 (nodes, (out, ()), (next ++ [least]), t15, t16, t19, t20, w64 (t21 + 1), ())
def B_Z60_J0 (k : Nat) (c_Z0 : C_Z0) (again1 : T_Z60_L1 → R_Z60) (again3 : T_Z60_L3 → R_Z60) (nodes : List (Int × Int × List Int)) (out next : List Int) (i x_Kind x_Value : Int) (x_Kids : List Int) (least k8 t15 t16 : Int) (t19 : List (Int × Int × List Int)) (t20 t21 : Int) (t29 : List (Int × Int × List Int)) (t30 t31 : Int) (t66 : Bool) : R_Z60 :=
  bif t66 then
    jn (fun t => B_Z60_J2 k c_Z0 again3 t.1 t.2.1.1 t.2.2.1 t.2.2.2.1 t.2.2.2.2.1 t.2.2.2.2.2.1 t.2.2.2.2.2.2.1 t.2.2.2.2.2.2.2.1 t.2.2.2.2.2.2.2.2.1) (nodes, (out, ()), next, k8, t15, t16, t19, t20, t21, ())
  else
    again1 (nodes, (out, ()), next, i, (x_Kind, x_Value, x_Kids, ()), least, t15, t16, t19, t20, t21, t29, t30, w64 (t31 + 1), ())
def B_Z60_L1b (k : Nat) (c_Z0 : C_Z0) (again3 : T_Z60_L3 → R_Z60) (again1 : T_Z60_L1 → R_Z60) (nodes : List (Int × Int × List Int)) (out next : List Int) (i x_Kind x_Value : Int) (x_Kids : List Int) (least t15 t16 : Int) (t19 : List (Int × Int × List Int)) (t20 t21 : Int) (t29 : List (Int × Int × List Int)) (t30 t31 : Int) : R_Z60 :=
  bif decide (t31 < t30) then
    chk (inb t31 t29.length) <|
    chk (inb t31 out.length) <|
    chk (inb i out.length) <|
    bif ((rdx (0 : Int) out t31) == (rdx (0 : Int) out i)) then
      bif (x_Kind == ((rdx ((0 : Int), ((0 : Int), ([] : List Int))) t29 t31).1)) then
        bif (x_Value == (((rdx ((0 : Int), ((0 : Int), ([] : List Int))) t29 t31).2).1)) then
          (c_Z0 x_Kids (((rdx ((0 : Int), ((0 : Int), ([] : List Int))) t29 t31).2).2) out).bind fun r65 =>
          jn (fun t => B_Z60_J0 k c_Z0 again1 again3 t.1 t.2.1.1 t.2.2.1 t.2.2.2.1 t.2.2.2.2.1.1 t.2.2.2.2.1.2.1 t.2.2.2.2.1.2.2.1 t.2.2.2.2.2.1 t.2.2.2.2.2.2.1 t.2.2.2.2.2.2.2.1 t.2.2.2.2.2.2.2.2.1 t.2.2.2.2.2.2.2.2.2.1 t.2.2.2.2.2.2.2.2.2.2.1 t.2.2.2.2.2.2.2.2.2.2.2.1 t.2.2.2.2.2.2.2.2.2.2.2.2.1 t.2.2.2.2.2.2.2.2.2.2.2.2.2.1 t.2.2.2.2.2.2.2.2.2.2.2.2.2.2.1 t.2.2.2.2.2.2.2.2.2.2.2.2.2.2.2.1) (nodes, (r65.2.1.1, ()), next, i, (x_Kind, x_Value, x_Kids, ()), least, t31, t15, t16, t19, t20, t21, t29, t30, t31, r65.1.1, ())
        else
          jn (fun t => B_Z60_J0 k c_Z0 again1 again3 t.1 t.2.1.1 t.2.2.1 t.2.2.2.1 t.2.2.2.2.1.1 t.2.2.2.2.1.2.1 t.2.2.2.2.1.2.2.1 t.2.2.2.2.2.1 t.2.2.2.2.2.2.1 t.2.2.2.2.2.2.2.1 t.2.2.2.2.2.2.2.2.1 t.2.2.2.2.2.2.2.2.2.1 t.2.2.2.2.2.2.2.2.2.2.1 t.2.2.2.2.2.2.2.2.2.2.2.1 t.2.2.2.2.2.2.2.2.2.2.2.2.1 t.2.2.2.2.2.2.2.2.2.2.2.2.2.1 t.2.2.2.2.2.2.2.2.2.2.2.2.2.2.1 t.2.2.2.2.2.2.2.2.2.2.2.2.2.2.2.1) (nodes, (out, ()), next, i, (x_Kind, x_Value, x_Kids, ()), least, t31, t15, t16, t19, t20, t21, t29, t30, t31, false, ())
      else
        jn (fun t => B_Z60_J0 k c_Z0 again1 again3 t.1 t.2.1.1 t.2.2.1 t.2.2.2.1 t.2.2.2.2.1.1 t.2.2.2.2.1.2.1 t.2.2.2.2.1.2.2.1 t.2.2.2.2.2.1 t.2.2.2.2.2.2.1 t.2.2.2.2.2.2.2.1 t.2.2.2.2.2.2.2.2.1 t.2.2.2.2.2.2.2.2.2.1 t.2.2.2.2.2.2.2.2.2.2.1 t.2.2.2.2.2.2.2.2.2.2.2.1 t.2.2.2.2.2.2.2.2.2.2.2.2.1 t.2.2.2.2.2.2.2.2.2.2.2.2.2.1 t.2.2.2.2.2.2.2.2.2.2.2.2.2.2.1 t.2.2.2.2.2.2.2.2.2.2.2.2.2.2.2.1) (nodes, (out, ()), next, i, (x_Kind, x_Value, x_Kids, ()), least, t31, t15, t16, t19, t20, t21, t29, t30, t31, false, ())
    else
      jn (fun t => B_Z60_J0 k c_Z0 again1 again3 t.1 t.2.1.1 t.2.2.1 t.2.2.2.1 t.2.2.2.2.1.1 t.2.2.2.2.1.2.1 t.2.2.2.2.1.2.2.1 t.2.2.2.2.2.1 t.2.2.2.2.2.2.1 t.2.2.2.2.2.2.2.1 t.2.2.2.2.2.2.2.2.1 t.2.2.2.2.2.2.2.2.2.1 t.2.2.2.2.2.2.2.2.2.2.1 t.2.2.2.2.2.2.2.2.2.2.2.1 t.2.2.2.2.2.2.2.2.2.2.2.2.1 t.2.2.2.2.2.2.2.2.2.2.2.2.2.1 t.2.2.2.2.2.2.2.2.2.2.2.2.2.2.1 t.2.2.2.2.2.2.2.2.2.2.2.2.2.2.2.1) (nodes, (out, ()), next, i, (x_Kind, x_Value, x_Kids, ()), least, t31, t15, t16, t19, t20, t21, t29, t30, t31, false, ())
  else
    jn (fun t => B_Z60_J2 k c_Z0 again3 t.1 t.2.1.1 t.2.2.1 t.2.2.2.1 t.2.2.2.2.1 t.2.2.2.2.2.1 t.2.2.2.2.2.2.1 t.2.2.2.2.2.2.2.1 t.2.2.2.2.2.2.2.2.1) (nodes, (out, ()), next, least, t15, t16, t19, t20, t21, ())
def B_Z60_L1 (k : Nat) (c_Z0 : C_Z0) (again3 : T_Z60_L3 → R_Z60) (n : Nat) (t : T_Z60_L1) : R_Z60 :=
  lfix n (fun again t => B_Z60_L1b k c_Z0 again3 again t.1 t.2.1.1 t.2.2.1 t.2.2.2.1 t.2.2.2.2.1.1 t.2.2.2.2.1.2.1 t.2.2.2.2.1.2.2.1 t.2.2.2.2.2.1 t.2.2.2.2.2.2.1 t.2.2.2.2.2.2.2.1 t.2.2.2.2.2.2.2.2.1 t.2.2.2.2.2.2.2.2.2.1 t.2.2.2.2.2.2.2.2.2.2.1 t.2.2.2.2.2.2.2.2.2.2.2.1 t.2.2.2.2.2.2.2.2.2.2.2.2.1 t.2.2.2.2.2.2.2.2.2.2.2.2.2.1) t
def B_Z60_L3b (k : Nat) (c_Z0 : C_Z0) (again4 : T_Z60_L4 → R_Z60) (again3 : T_Z60_L3 → R_Z60) (nodes : List (Int × Int × List Int)) (out next : List Int) (t15 t16 : Int) (t19 : List (Int × Int × List Int)) (t20 t21 : Int) : R_Z60 :=
  bif decide (t21 < t20) then
    chk (inb t21 t19.length) <|
    chk (cutb 0 t21 nodes.length) <|
    B_Z60_L1 k c_Z0 again3 k (nodes, (out, ()), next, t21, ((rdx ((0 : Int), ((0 : Int), ([] : List Int))) t19 t21).1, ((rdx ((0 : Int), ((0 : Int), ([] : List Int))) t19 t21).2).1, ((rdx ((0 : Int), ((0 : Int), ([] : List Int))) t19 t21).2).2, ()), t21, t15, t16, t19, t20, t21, (sub nodes 0 t21), len (sub nodes 0 t21), 0, ())
  else
    again4 (nodes, (next, ()), t15, w64 (t16 + 1), ())
def B_Z60_L3 (k : Nat) (c_Z0 : C_Z0) (again4 : T_Z60_L4 → R_Z60) (n : Nat) (t : T_Z60_L3) : R_Z60 :=
  lfix n (fun again t => B_Z60_L3b k c_Z0 again4 again t.1 t.2.1.1 t.2.2.1 t.2.2.2.1 t.2.2.2.2.1 t.2.2.2.2.2.1 t.2.2.2.2.2.2.1 t.2.2.2.2.2.2.2.1) t
def B_Z60_L4b (k : Nat) (c_Z0 : C_Z0) (again4 : T_Z60_L4 → R_Z60) (nodes : List (Int × Int × List Int)) (out : List Int) (t15 t16 : Int) : R_Z60 :=
  bif decide (t16 < t15) then
    B_Z60_L3 k c_Z0 again4 k (nodes, (out, ()), [], t15, t16, nodes, len nodes, 0, ())
  else
    some ((out, ()), ())
def B_Z60_L4 (k : Nat) (c_Z0 : C_Z0) (n : Nat) (t : T_Z60_L4) : R_Z60 :=
  lfix n (fun again t => B_Z60_L4b k c_Z0 again t.1 t.2.1.1 t.2.2.1 t.2.2.2.1) t
def B_Z60 (k : Nat) (c_Z0 : C_Z0) (nodes : List (Int × Int × List Int)) : R_Z60 :=
  chk ((decide (0 ≤ (len nodes) ∧ (len nodes) ≤ (lim : Int)) && ((len nodes) == (len nodes)))) <|
  B_Z60_L4 k c_Z0 k (nodes, ((List.replicate (len nodes).toNat (0 : Int)), ()), w64 ((len nodes) + 1), 0, ())
def F_Z60 : Nat → C_Z60
  | 0, _ => none
  | k + 1, nodes => B_Z60 k (F_Z0 k) nodes
theorem tot_Z60 {nodes : _} {Q : _ → Prop} (h : Tot (fun σ => B_Z60 (σ 0) (F_Z0 (σ 0)) nodes) Q) : Tot (fun σ => F_Z60 (σ 0) nodes) Q :=
  Tot.call (F := fun k => F_Z60 k nodes) (B := fun k => B_Z60 k (F_Z0 k) nodes) (fun k => rfl) h
abbrev A_Z60_L1 (Z : Type) : Type := (List (Int × Int × List Int)) → List Int → List Int → Int → Int → Int → List Int → Int → Int → Int → (List (Int × Int × List Int)) → Int → Int → (List (Int × Int × List Int)) → Int → Int → Z
abbrev u_Z60_L1 {Z : Type} (f : A_Z60_L1 Z) (t : T_Z60_L1) : Z := f t.1 t.2.1.1 t.2.2.1 t.2.2.2.1 t.2.2.2.2.1.1 t.2.2.2.2.1.2.1 t.2.2.2.2.1.2.2.1 t.2.2.2.2.2.1 t.2.2.2.2.2.2.1 t.2.2.2.2.2.2.2.1 t.2.2.2.2.2.2.2.2.1 t.2.2.2.2.2.2.2.2.2.1 t.2.2.2.2.2.2.2.2.2.2.1 t.2.2.2.2.2.2.2.2.2.2.2.1 t.2.2.2.2.2.2.2.2.2.2.2.2.1 t.2.2.2.2.2.2.2.2.2.2.2.2.2.1
theorem loop_Z60_L1 {again3 : (Nat → Nat) → T_Z60_L3 → R_Z60} (hag3 : Dep 3 again3) {Q : A_Z60_L1 (((List Int × Unit) × (Unit)) → Prop)} (I : A_Z60_L1 Prop) (μ : A_Z60_L1 Nat)
    (step : ∀ a0 a1 a2 a3 a4 a5 a6 a7 a8 a9 a10 a11 a12 a13 a14 a15, I a0 a1 a2 a3 a4 a5 a6 a7 a8 a9 a10 a11 a12 a13 a14 a15 → ∀ again : (Nat → Nat) → T_Z60_L1 → R_Z60, Dep 4 again → (∀ y0 y1 y2 y3 y4 y5 y6 y7 y8 y9 y10 y11 y12 y13 y14 y15, I y0 y1 y2 y3 y4 y5 y6 y7 y8 y9 y10 y11 y12 y13 y14 y15 → μ y0 y1 y2 y3 y4 y5 y6 y7 y8 y9 y10 y11 y12 y13 y14 y15 < μ a0 a1 a2 a3 a4 a5 a6 a7 a8 a9 a10 a11 a12 a13 a14 a15 → Tot (fun σ => again σ (y0, (y1, ()), y2, y3, (y4, y5, y6, ()), y7, y8, y9, y10, y11, y12, y13, y14, y15, ())) (Q y0 y1 y2 y3 y4 y5 y6 y7 y8 y9 y10 y11 y12 y13 y14 y15)) →
      Tot (fun σ => B_Z60_L1b (σ 0) (F_Z0 (σ 0)) (again3 σ) (again σ) a0 a1 a2 a3 a4 a5 a6 a7 a8 a9 a10 a11 a12 a13 a14 a15) (Q a0 a1 a2 a3 a4 a5 a6 a7 a8 a9 a10 a11 a12 a13 a14 a15)) :
    ∀ a0 a1 a2 a3 a4 a5 a6 a7 a8 a9 a10 a11 a12 a13 a14 a15, I a0 a1 a2 a3 a4 a5 a6 a7 a8 a9 a10 a11 a12 a13 a14 a15 → Tot (fun σ => B_Z60_L1 (σ 0) (F_Z0 (σ 0)) (again3 σ) (σ 0) (a0, (a1, ()), a2, a3, (a4, a5, a6, ()), a7, a8, a9, a10, a11, a12, a13, a14, a15, ())) (Q a0 a1 a2 a3 a4 a5 a6 a7 a8 a9 a10 a11 a12 a13 a14 a15) := fun a0 a1 a2 a3 a4 a5 a6 a7 a8 a9 a10 a11 a12 a13 a14 a15 => Tot.loop (L := fun σ n t => B_Z60_L1 (σ 0) (F_Z0 (σ 0)) (again3 σ) n t) (B := fun σ g => u_Z60_L1 (B_Z60_L1b (σ 0) (F_Z0 (σ 0)) (again3 σ) g)) (Q := u_Z60_L1 Q) 3 (by decide)
    (fun s s' h => by have e0 : s 0 = s' 0 := h 0 (by decide); simp only [e0, hag3 s s' h]) (fun s s' h => by have e0 : s 0 = s' 0 := h 0 (by decide); simp only [e0, hag3 s s' h]) (fun _ _ _ => rfl) (u_Z60_L1 I) (u_Z60_L1 μ)
    (fun t ht again hag h => step t.1 t.2.1.1 t.2.2.1 t.2.2.2.1 t.2.2.2.2.1.1 t.2.2.2.2.1.2.1 t.2.2.2.2.1.2.2.1 t.2.2.2.2.2.1 t.2.2.2.2.2.2.1 t.2.2.2.2.2.2.2.1 t.2.2.2.2.2.2.2.2.1 t.2.2.2.2.2.2.2.2.2.1 t.2.2.2.2.2.2.2.2.2.2.1 t.2.2.2.2.2.2.2.2.2.2.2.1 t.2.2.2.2.2.2.2.2.2.2.2.2.1 t.2.2.2.2.2.2.2.2.2.2.2.2.2.1 ht again hag fun y0 y1 y2 y3 y4 y5 y6 y7 y8 y9 y10 y11 y12 y13 y14 y15 => h (y0, (y1, ()), y2, y3, (y4, y5, y6, ()), y7, y8, y9, y10, y11, y12, y13, y14, y15, ())) (a0, (a1, ()), a2, a3, (a4, a5, a6, ()), a7, a8, a9, a10, a11, a12, a13, a14, a15, ())
abbrev A_Z60_L3 (Z : Type) : Type := (List (Int × Int × List Int)) → List Int → List Int → Int → Int → (List (Int × Int × List Int)) → Int → Int → Z
abbrev u_Z60_L3 {Z : Type} (f : A_Z60_L3 Z) (t : T_Z60_L3) : Z := f t.1 t.2.1.1 t.2.2.1 t.2.2.2.1 t.2.2.2.2.1 t.2.2.2.2.2.1 t.2.2.2.2.2.2.1 t.2.2.2.2.2.2.2.1
theorem loop_Z60_L3 {again4 : (Nat → Nat) → T_Z60_L4 → R_Z60} (hag4 : Dep 2 again4) {Q : A_Z60_L3 (((List Int × Unit) × (Unit)) → Prop)} (I : A_Z60_L3 Prop) (μ : A_Z60_L3 Nat)
    (step : ∀ a0 a1 a2 a3 a4 a5 a6 a7, I a0 a1 a2 a3 a4 a5 a6 a7 → ∀ again : (Nat → Nat) → T_Z60_L3 → R_Z60, Dep 3 again → (∀ y0 y1 y2 y3 y4 y5 y6 y7, I y0 y1 y2 y3 y4 y5 y6 y7 → μ y0 y1 y2 y3 y4 y5 y6 y7 < μ a0 a1 a2 a3 a4 a5 a6 a7 → Tot (fun σ => again σ (y0, (y1, ()), y2, y3, y4, y5, y6, y7, ())) (Q y0 y1 y2 y3 y4 y5 y6 y7)) →
      Tot (fun σ => B_Z60_L3b (σ 0) (F_Z0 (σ 0)) (again4 σ) (again σ) a0 a1 a2 a3 a4 a5 a6 a7) (Q a0 a1 a2 a3 a4 a5 a6 a7)) :
    ∀ a0 a1 a2 a3 a4 a5 a6 a7, I a0 a1 a2 a3 a4 a5 a6 a7 → Tot (fun σ => B_Z60_L3 (σ 0) (F_Z0 (σ 0)) (again4 σ) (σ 0) (a0, (a1, ()), a2, a3, a4, a5, a6, a7, ())) (Q a0 a1 a2 a3 a4 a5 a6 a7) := fun a0 a1 a2 a3 a4 a5 a6 a7 => Tot.loop (L := fun σ n t => B_Z60_L3 (σ 0) (F_Z0 (σ 0)) (again4 σ) n t) (B := fun σ g => u_Z60_L3 (B_Z60_L3b (σ 0) (F_Z0 (σ 0)) (again4 σ) g)) (Q := u_Z60_L3 Q) 2 (by decide)
    (fun s s' h => by have e0 : s 0 = s' 0 := h 0 (by decide); simp only [e0, hag4 s s' h]) (fun s s' h => by have e0 : s 0 = s' 0 := h 0 (by decide); simp only [e0, hag4 s s' h]) (fun _ _ _ => rfl) (u_Z60_L3 I) (u_Z60_L3 μ)
    (fun t ht again hag h => step t.1 t.2.1.1 t.2.2.1 t.2.2.2.1 t.2.2.2.2.1 t.2.2.2.2.2.1 t.2.2.2.2.2.2.1 t.2.2.2.2.2.2.2.1 ht again hag fun y0 y1 y2 y3 y4 y5 y6 y7 => h (y0, (y1, ()), y2, y3, y4, y5, y6, y7, ())) (a0, (a1, ()), a2, a3, a4, a5, a6, a7, ())
abbrev A_Z60_L4 (Z : Type) : Type := (List (Int × Int × List Int)) → List Int → Int → Int → Z
abbrev u_Z60_L4 {Z : Type} (f : A_Z60_L4 Z) (t : T_Z60_L4) : Z := f t.1 t.2.1.1 t.2.2.1 t.2.2.2.1
theorem loop_Z60_L4 {Q : A_Z60_L4 (((List Int × Unit) × (Unit)) → Prop)} (I : A_Z60_L4 Prop) (μ : A_Z60_L4 Nat)
    (step : ∀ a0 a1 a2 a3, I a0 a1 a2 a3 → ∀ again : (Nat → Nat) → T_Z60_L4 → R_Z60, Dep 2 again → (∀ y0 y1 y2 y3, I y0 y1 y2 y3 → μ y0 y1 y2 y3 < μ a0 a1 a2 a3 → Tot (fun σ => again σ (y0, (y1, ()), y2, y3, ())) (Q y0 y1 y2 y3)) →
      Tot (fun σ => B_Z60_L4b (σ 0) (F_Z0 (σ 0)) (again σ) a0 a1 a2 a3) (Q a0 a1 a2 a3)) :
    ∀ a0 a1 a2 a3, I a0 a1 a2 a3 → Tot (fun σ => B_Z60_L4 (σ 0) (F_Z0 (σ 0)) (σ 0) (a0, (a1, ()), a2, a3, ())) (Q a0 a1 a2 a3) := fun a0 a1 a2 a3 => Tot.loop0 (L := fun k => B_Z60_L4 k (F_Z0 k)) (B := fun k g => u_Z60_L4 (B_Z60_L4b k (F_Z0 k) g)) (Q := u_Z60_L4 Q) (fun _ _ _ => rfl) (u_Z60_L4 I) (u_Z60_L4 μ)
    (fun t ht again hag h => step t.1 t.2.1.1 t.2.2.1 t.2.2.2.1 ht again hag fun y0 y1 y2 y3 => h (y0, (y1, ()), y2, y3, ())) (a0, (a1, ()), a2, a3, ())
abbrev R_Z45 : Type := Option ((Bool × Unit) × (Unit))
abbrev C_Z45 : Type := (List (Int × Int × List Int)) → Int → (List (Int × Int × List Int)) → Int → R_Z45
abbrev T_Z45_L2 : Type := ((List (Int × Int × List Int)) × Int × Unit) × ((List (Int × Int × List Int)) × Int × Unit) × List Int × (List (Int × Int × List Int)) × (List (Int × Int × List Int)) × Int × Int × Unit
abbrev T_Z45_L1 : Type := ((List (Int × Int × List Int)) × Int × Unit) × ((List (Int × Int × List Int)) × Int × Unit) × List Int × Int × Int × Unit
def B_Z45_L2b (k : Nat) (c_Z35 : C_Z35) (c_Z5 : C_Z5) (c_i_mapped : C_i_mapped) (c_Z60 : C_Z60) (again2 : T_Z45_L2 → R_Z45) (a_Nodes : List (Int × Int × List Int)) (a_Root : Int) (b_Nodes : List (Int × Int × List Int)) (b_Root : Int) (order : List Int) (nodes t39 : List (Int × Int × List Int)) (t40 t41 : Int) : R_Z45 :=
  bif decide (t41 < t40) then
    chk (inb t41 t39.length) <|
    (c_i_mapped ((rdx ((0 : Int), ((0 : Int), ([] : List Int))) t39 t41).1) (((rdx ((0 : Int), ((0 : Int), ([] : List Int))) t39 t41).2).1) (((rdx ((0 : Int), ((0 : Int), ([] : List Int))) t39 t41).2).2) order).bind fun r48 =>
    chk (room nodes.length ([(r48.1.1.1, (r48.1.1.2.1, r48.1.1.2.2.1))]).length) <|
    again2 ((a_Nodes, a_Root, ()), (b_Nodes, b_Root, ()), order, (nodes ++ [(r48.1.1.1, (r48.1.1.2.1, r48.1.1.2.2.1))]), t39, t40, w64 (t41 + 1), ())
  else
    (c_Z60 nodes).bind fun r53 =>
    chk (inb a_Root r53.1.1.length) <|
    chk (decide (a_Root.toNat < r53.1.1.length)) <|
    chk (inb (w64 (b_Root + (len a_Nodes))) r53.1.1.length) <|
    chk (decide ((w64 (b_Root + (len a_Nodes))).toNat < r53.1.1.length)) <|
    let v68 : Bool := ((r53.1.1.getD a_Root.toNat (0 : Int)) == (r53.1.1.getD ((w64 (b_Root + (len a_Nodes))).toNat) (0 : Int)))
    some ((v68, ()), ())
def B_Z45_L2 (k : Nat) (c_Z35 : C_Z35) (c_Z5 : C_Z5) (c_i_mapped : C_i_mapped) (c_Z60 : C_Z60) (n : Nat) (t : T_Z45_L2) : R_Z45 :=
  lfix n (fun again t => B_Z45_L2b k c_Z35 c_Z5 c_i_mapped c_Z60 again t.1.1 t.1.2.1 t.2.1.1 t.2.1.2.1 t.2.2.1 t.2.2.2.1 t.2.2.2.2.1 t.2.2.2.2.2.1 t.2.2.2.2.2.2.1) t
def B_Z45_L1b (k : Nat) (c_Z35 : C_Z35) (c_Z5 : C_Z5) (c_i_mapped : C_i_mapped) (c_Z60 : C_Z60) (again1 : T_Z45_L1 → R_Z45) (a_Nodes : List (Int × Int × List Int)) (a_Root : Int) (b_Nodes : List (Int × Int × List Int)) (b_Root : Int) (order : List Int) (t22 t23 : Int) : R_Z45 :=
  bif decide (t23 < t22) then
    chk (room order.length ([w64 (t23 + (len a_Nodes))]).length) <|
    again1 ((a_Nodes, a_Root, ()), (b_Nodes, b_Root, ()), (order ++ [w64 (t23 + (len a_Nodes))]), t22, w64 (t23 + 1), ())
  else
    (c_Z5 a_Nodes).bind fun r37 =>
    B_Z45_L2 k c_Z35 c_Z5 c_i_mapped c_Z60 k ((a_Nodes, a_Root, ()), (b_Nodes, b_Root, ()), order, r37.1.1, b_Nodes, len b_Nodes, 0, ())
def B_Z45_L1 (k : Nat) (c_Z35 : C_Z35) (c_Z5 : C_Z5) (c_i_mapped : C_i_mapped) (c_Z60 : C_Z60) (n : Nat) (t : T_Z45_L1) : R_Z45 :=
  lfix n (fun again t => B_Z45_L1b k c_Z35 c_Z5 c_i_mapped c_Z60 again t.1.1 t.1.2.1 t.2.1.1 t.2.1.2.1 t.2.2.1 t.2.2.2.1 t.2.2.2.2.1) t
def B_Z45_J0 (k : Nat) (c_Z35 : C_Z35) (c_Z5 : C_Z5) (c_i_mapped : C_i_mapped) (c_Z60 : C_Z60) (a_Nodes : List (Int × Int × List Int)) (a_Root : Int) (b_Nodes : List (Int × Int × List Int)) (b_Root : Int) (t18 : Bool) : R_Z45 :=
  bif t18 then
    some ((false, ()), ())
  else
    B_Z45_L1 k c_Z35 c_Z5 c_i_mapped c_Z60 k ((a_Nodes, a_Root, ()), (b_Nodes, b_Root, ()), [], len b_Nodes, 0, ())
def B_Z45 (k : Nat) (c_Z35 : C_Z35) (c_Z5 : C_Z5) (c_i_mapped : C_i_mapped) (c_Z60 : C_Z60) (a_0 : List (Int × Int × List Int)) (a_1 : Int) (b_0 : List (Int × Int × List Int)) (b_1 : Int) : R_Z45 :=
  (c_Z35 a_0 a_1).bind fun r12 =>
  bif (!r12.1.1) then
    jn (fun t => B_Z45_J0 k c_Z35 c_Z5 c_i_mapped c_Z60 t.1.1 t.1.2.1 t.2.1.1 t.2.1.2.1 t.2.2.1) ((a_0, a_1, ()), (b_0, b_1, ()), true, ())
  else
    (c_Z35 b_0 b_1).bind fun r16 =>
    jn (fun t => B_Z45_J0 k c_Z35 c_Z5 c_i_mapped c_Z60 t.1.1 t.1.2.1 t.2.1.1 t.2.1.2.1 t.2.2.1) ((a_0, a_1, ()), (b_0, b_1, ()), (!r16.1.1), ())
def F_Z45 : Nat → C_Z45
  | 0, _, _, _, _ => none
  | k + 1, a_0, a_1, b_0, b_1 => B_Z45 k (F_Z35 k) (F_Z5 k) (F_i_mapped k) (F_Z60 k) a_0 a_1 b_0 b_1
theorem tot_Z45 {a_0 a_1 b_0 b_1 : _} {Q : _ → Prop} (h : Tot (fun σ => B_Z45 (σ 0) (F_Z35 (σ 0)) (F_Z5 (σ 0)) (F_i_mapped (σ 0)) (F_Z60 (σ 0)) a_0 a_1 b_0 b_1) Q) : Tot (fun σ => F_Z45 (σ 0) a_0 a_1 b_0 b_1) Q :=
  Tot.call (F := fun k => F_Z45 k a_0 a_1 b_0 b_1) (B := fun k => B_Z45 k (F_Z35 k) (F_Z5 k) (F_i_mapped k) (F_Z60 k) a_0 a_1 b_0 b_1) (fun k => rfl) h
abbrev A_Z45_L2 (Z : Type) : Type := (List (Int × Int × List Int)) → Int → (List (Int × Int × List Int)) → Int → List Int → (List (Int × Int × List Int)) → (List (Int × Int × List Int)) → Int → Int → Z
abbrev u_Z45_L2 {Z : Type} (f : A_Z45_L2 Z) (t : T_Z45_L2) : Z := f t.1.1 t.1.2.1 t.2.1.1 t.2.1.2.1 t.2.2.1 t.2.2.2.1 t.2.2.2.2.1 t.2.2.2.2.2.1 t.2.2.2.2.2.2.1
theorem loop_Z45_L2 {Q : A_Z45_L2 (((Bool × Unit) × (Unit)) → Prop)} (I : A_Z45_L2 Prop) (μ : A_Z45_L2 Nat)
    (step : ∀ a0 a1 a2 a3 a4 a5 a6 a7 a8, I a0 a1 a2 a3 a4 a5 a6 a7 a8 → ∀ again : (Nat → Nat) → T_Z45_L2 → R_Z45, Dep 2 again → (∀ y0 y1 y2 y3 y4 y5 y6 y7 y8, I y0 y1 y2 y3 y4 y5 y6 y7 y8 → μ y0 y1 y2 y3 y4 y5 y6 y7 y8 < μ a0 a1 a2 a3 a4 a5 a6 a7 a8 → Tot (fun σ => again σ ((y0, y1, ()), (y2, y3, ()), y4, y5, y6, y7, y8, ())) (Q y0 y1 y2 y3 y4 y5 y6 y7 y8)) →
      Tot (fun σ => B_Z45_L2b (σ 0) (F_Z35 (σ 0)) (F_Z5 (σ 0)) (F_i_mapped (σ 0)) (F_Z60 (σ 0)) (again σ) a0 a1 a2 a3 a4 a5 a6 a7 a8) (Q a0 a1 a2 a3 a4 a5 a6 a7 a8)) :
    ∀ a0 a1 a2 a3 a4 a5 a6 a7 a8, I a0 a1 a2 a3 a4 a5 a6 a7 a8 → Tot (fun σ => B_Z45_L2 (σ 0) (F_Z35 (σ 0)) (F_Z5 (σ 0)) (F_i_mapped (σ 0)) (F_Z60 (σ 0)) (σ 0) ((a0, a1, ()), (a2, a3, ()), a4, a5, a6, a7, a8, ())) (Q a0 a1 a2 a3 a4 a5 a6 a7 a8) := fun a0 a1 a2 a3 a4 a5 a6 a7 a8 => Tot.loop0 (L := fun k => B_Z45_L2 k (F_Z35 k) (F_Z5 k) (F_i_mapped k) (F_Z60 k)) (B := fun k g => u_Z45_L2 (B_Z45_L2b k (F_Z35 k) (F_Z5 k) (F_i_mapped k) (F_Z60 k) g)) (Q := u_Z45_L2 Q) (fun _ _ _ => rfl) (u_Z45_L2 I) (u_Z45_L2 μ)
    (fun t ht again hag h => step t.1.1 t.1.2.1 t.2.1.1 t.2.1.2.1 t.2.2.1 t.2.2.2.1 t.2.2.2.2.1 t.2.2.2.2.2.1 t.2.2.2.2.2.2.1 ht again hag fun y0 y1 y2 y3 y4 y5 y6 y7 y8 => h ((y0, y1, ()), (y2, y3, ()), y4, y5, y6, y7, y8, ())) ((a0, a1, ()), (a2, a3, ()), a4, a5, a6, a7, a8, ())
abbrev A_Z45_L1 (Z : Type) : Type := (List (Int × Int × List Int)) → Int → (List (Int × Int × List Int)) → Int → List Int → Int → Int → Z
abbrev u_Z45_L1 {Z : Type} (f : A_Z45_L1 Z) (t : T_Z45_L1) : Z := f t.1.1 t.1.2.1 t.2.1.1 t.2.1.2.1 t.2.2.1 t.2.2.2.1 t.2.2.2.2.1
theorem loop_Z45_L1 {Q : A_Z45_L1 (((Bool × Unit) × (Unit)) → Prop)} (I : A_Z45_L1 Prop) (μ : A_Z45_L1 Nat)
    (step : ∀ a0 a1 a2 a3 a4 a5 a6, I a0 a1 a2 a3 a4 a5 a6 → ∀ again : (Nat → Nat) → T_Z45_L1 → R_Z45, Dep 2 again → (∀ y0 y1 y2 y3 y4 y5 y6, I y0 y1 y2 y3 y4 y5 y6 → μ y0 y1 y2 y3 y4 y5 y6 < μ a0 a1 a2 a3 a4 a5 a6 → Tot (fun σ => again σ ((y0, y1, ()), (y2, y3, ()), y4, y5, y6, ())) (Q y0 y1 y2 y3 y4 y5 y6)) →
      Tot (fun σ => B_Z45_L1b (σ 0) (F_Z35 (σ 0)) (F_Z5 (σ 0)) (F_i_mapped (σ 0)) (F_Z60 (σ 0)) (again σ) a0 a1 a2 a3 a4 a5 a6) (Q a0 a1 a2 a3 a4 a5 a6)) :
    ∀ a0 a1 a2 a3 a4 a5 a6, I a0 a1 a2 a3 a4 a5 a6 → Tot (fun σ => B_Z45_L1 (σ 0) (F_Z35 (σ 0)) (F_Z5 (σ 0)) (F_i_mapped (σ 0)) (F_Z60 (σ 0)) (σ 0) ((a0, a1, ()), (a2, a3, ()), a4, a5, a6, ())) (Q a0 a1 a2 a3 a4 a5 a6) := fun a0 a1 a2 a3 a4 a5 a6 => Tot.loop0 (L := fun k => B_Z45_L1 k (F_Z35 k) (F_Z5 k) (F_i_mapped k) (F_Z60 k)) (B := fun k g => u_Z45_L1 (B_Z45_L1b k (F_Z35 k) (F_Z5 k) (F_i_mapped k) (F_Z60 k) g)) (Q := u_Z45_L1 Q) (fun _ _ _ => rfl) (u_Z45_L1 I) (u_Z45_L1 μ)
    (fun t ht again hag h => step t.1.1 t.1.2.1 t.2.1.1 t.2.1.2.1 t.2.2.1 t.2.2.2.1 t.2.2.2.2.1 ht again hag fun y0 y1 y2 y3 y4 y5 y6 => h ((y0, y1, ()), (y2, y3, ()), y4, y5, y6, ())) ((a0, a1, ()), (a2, a3, ()), a4, a5, a6, ())
abbrev R_Z54 : Type := Option ((List Int × Unit) × (Unit))
abbrev C_Z54 : Type := (List (Int × Int × List Int)) → Int → R_Z54
abbrev T_Z54_L0 : Type := ((List (Int × Int × List Int)) × Int × Unit) × List Int × List Int × Int × Int × List Int × Int × Int × Unit
abbrev T_Z54_L4 : Type := ((List (Int × Int × List Int)) × Int × Unit) × List Int × List Int × Int × Int × Unit
abbrev T_Z54_L1 : Type := ((List (Int × Int × List Int)) × Int × Unit) × List Int × List Int × Int × Int × Unit
def B_Z54_L0b (k : Nat) (c_Z35 : C_Z35) (c_Z58 : C_Z58) (again1 : T_Z54_L1 → R_Z54) (again0 : T_Z54_L0 → R_Z54) (g_Nodes : List (Int × Int × List Int)) (g_Root : Int) (used t26 : List Int) (t27 t28 : Int) (t37 : List Int) (t38 t39 : Int) : R_Z54 :=
  bif decide (t39 < t38) then
    chk (inb t39 t37.length) <|
    chk (inb (rdx (0 : Int) t37 t39) used.length) <|
    chk (decide ((rdx (0 : Int) t37 t39).toNat < used.length)) <|
    chk (inb (rdx (0 : Int) t37 t39) used.length) <|
    chk (decide ((rdx (0 : Int) t37 t39).toNat < used.length)) <|
    again0 ((g_Nodes, g_Root, ()), (used.set ((rdx (0 : Int) t37 t39).toNat) (w64 ((used.getD ((rdx (0 : Int) t37 t39).toNat) (0 : Int)) + 1))), t26, t27, t28, t37, t38, w64 (t39 + 1), ())
  else
    again1 ((g_Nodes, g_Root, ()), used, t26, t27, w64 (t28 + 1), ())
def B_Z54_L0 (k : Nat) (c_Z35 : C_Z35) (c_Z58 : C_Z58) (again1 : T_Z54_L1 → R_Z54) (n : Nat) (t : T_Z54_L0) : R_Z54 :=
  lfix n (fun again t => B_Z54_L0b k c_Z35 c_Z58 again1 again t.1.1 t.1.2.1 t.2.1 t.2.2.1 t.2.2.2.1 t.2.2.2.2.1 t.2.2.2.2.2.1 t.2.2.2.2.2.2.1 t.2.2.2.2.2.2.2.1) t
def B_Z54_J3 (k : Nat) (c_Z35 : C_Z35) (c_Z58 : C_Z58) (again4 : T_Z54_L4 → R_Z54) (g_Nodes : List (Int × Int × List Int)) (g_Root : Int) (out t52 : List Int) (t53 t54 : Int) : R_Z54 :=
  again4 ((g_Nodes, g_Root, ()), out, t52, t53, w64 (t54 + 1), ())
def B_Z54_J2 (k : Nat) (c_Z35 : C_Z35) (c_Z58 : C_Z58) (again4 : T_Z54_L4 → R_Z54) (g_Nodes : List (Int × Int × List Int)) (g_Root : Int) (out : List Int) (i : Int) (t52 : List Int) (t53 t54 : Int) (t69 : Bool) : R_Z54 :=
  bif t69 then
    chk (room out.length ([i]).length) <|
    jn (fun t => B_Z54_J3 k c_Z35 c_Z58 again4 t.1.1 t.1.2.1 t.2.1 t.2.2.1 t.2.2.2.1 t.2.2.2.2.1) ((g_Nodes, g_Root, ()), (out ++ [i]), t52, t53, t54, ())
  else
    jn (fun t => B_Z54_J3 k c_Z35 c_Z58 again4 t.1.1 t.1.2.1 t.2.1 t.2.2.1 t.2.2.2.1 t.2.2.2.2.1) ((g_Nodes, g_Root, ()), out, t52, t53, t54, ())
def B_Z54_L4b (k : Nat) (c_Z35 : C_Z35) (c_Z58 : C_Z58) (again4 : T_Z54_L4 → R_Z54) (g_Nodes : List (Int × Int × List Int)) (g_Root : Int) (out t52 : List Int) (t53 t54 : Int) : R_Z54 :=
  bif decide (t54 < t53) then
    chk (inb t54 t52.length) <|
    chk (decide (t54.toNat < t52.length)) <|
    bif decide ((t52.getD t54.toNat (0 : Int)) > 1) then
      chk (inb t54 g_Nodes.length) <|
      jn (fun t => B_Z54_J2 k c_Z35 c_Z58 again4 t.1.1 t.1.2.1 t.2.1 t.2.2.1 t.2.2.2.1 t.2.2.2.2.1 t.2.2.2.2.2.1 t.2.2.2.2.2.2.1) ((g_Nodes, g_Root, ()), out, t54, t52, t53, t54, (((rdx ((0 : Int), ((0 : Int), ([] : List Int))) g_Nodes t54).1) != 0), ())
    else
      jn (fun t => B_Z54_J2 k c_Z35 c_Z58 again4 t.1.1 t.1.2.1 t.2.1 t.2.2.1 t.2.2.2.1 t.2.2.2.2.1 t.2.2.2.2.2.1 t.2.2.2.2.2.2.1) ((g_Nodes, g_Root, ()), out, t54, t52, t53, t54, false, ())
  else
    some ((out, ()), ())
def B_Z54_L4 (k : Nat) (c_Z35 : C_Z35) (c_Z58 : C_Z58) (n : Nat) (t : T_Z54_L4) : R_Z54 :=
  lfix n (fun again t => B_Z54_L4b k c_Z35 c_Z58 again t.1.1 t.1.2.1 t.2.1 t.2.2.1 t.2.2.2.1 t.2.2.2.2.1) t
def B_Z54_L1b (k : Nat) (c_Z35 : C_Z35) (c_Z58 : C_Z58) (again1 : T_Z54_L1 → R_Z54) (g_Nodes : List (Int × Int × List Int)) (g_Root : Int) (used t26 : List Int) (t27 t28 : Int) : R_Z54 :=
  bif decide (t28 < t27) then
    chk (inb t28 t26.length) <|
    chk (decide (t28.toNat < t26.length)) <|
    chk (inb (t26.getD t28.toNat (0 : Int)) g_Nodes.length) <|
    let v38 : Int := len (((rdx ((0 : Int), ((0 : Int), ([] : List Int))) g_Nodes (t26.getD t28.toNat (0 : Int))).2).2)
    B_Z54_L0 k c_Z35 c_Z58 again1 k ((g_Nodes, g_Root, ()), used, t26, t27, t28, ((rdx ((0 : Int), ((0 : Int), ([] : List Int))) g_Nodes (t26.getD t28.toNat (0 : Int))).2).2, v38, 0, ())
  else
    B_Z54_L4 k c_Z35 c_Z58 k ((g_Nodes, g_Root, ()), [], used, len used, 0, ())
def B_Z54_L1 (k : Nat) (c_Z35 : C_Z35) (c_Z58 : C_Z58) (n : Nat) (t : T_Z54_L1) : R_Z54 :=
  lfix n (fun again t => B_Z54_L1b k c_Z35 c_Z58 again t.1.1 t.1.2.1 t.2.1 t.2.2.1 t.2.2.2.1 t.2.2.2.2.1) t
def B_Z54 (k : Nat) (c_Z35 : C_Z35) (c_Z58 : C_Z58) (g_0 : List (Int × Int × List Int)) (g_1 : Int) : R_Z54 :=
  (c_Z35 g_0 g_1).bind fun r12 =>
  bif (!r12.1.1) then
    some (([], ()), ())
  else
    chk ((decide (0 ≤ (len g_0) ∧ (len g_0) ≤ (lim : Int)) && ((len g_0) == (len g_0)))) <|
    chk (inb g_1 (List.replicate (len g_0).toNat (0 : Int)).length) <|
    chk (decide (g_1.toNat < (List.replicate (len g_0).toNat (0 : Int)).length)) <|
    chk (inb g_1 (List.replicate (len g_0).toNat (0 : Int)).length) <|
    chk (decide (g_1.toNat < (List.replicate (len g_0).toNat (0 : Int)).length)) <|
    (c_Z58 g_0 g_1).bind fun r26 =>
    B_Z54_L1 k c_Z35 c_Z58 k ((g_0, g_1, ()), ((List.replicate (len g_0).toNat (0 : Int)).set g_1.toNat (w64 (((List.replicate (len g_0).toNat (0 : Int)).getD g_1.toNat (0 : Int)) + 1))), r26.1.1, len r26.1.1, 0, ())
def F_Z54 : Nat → C_Z54
  | 0, _, _ => none
  | k + 1, g_0, g_1 => B_Z54 k (F_Z35 k) (F_Z58 k) g_0 g_1
theorem tot_Z54 {g_0 g_1 : _} {Q : _ → Prop} (h : Tot (fun σ => B_Z54 (σ 0) (F_Z35 (σ 0)) (F_Z58 (σ 0)) g_0 g_1) Q) : Tot (fun σ => F_Z54 (σ 0) g_0 g_1) Q :=
  Tot.call (F := fun k => F_Z54 k g_0 g_1) (B := fun k => B_Z54 k (F_Z35 k) (F_Z58 k) g_0 g_1) (fun k => rfl) h
abbrev A_Z54_L0 (Z : Type) : Type := (List (Int × Int × List Int)) → Int → List Int → List Int → Int → Int → List Int → Int → Int → Z
abbrev u_Z54_L0 {Z : Type} (f : A_Z54_L0 Z) (t : T_Z54_L0) : Z := f t.1.1 t.1.2.1 t.2.1 t.2.2.1 t.2.2.2.1 t.2.2.2.2.1 t.2.2.2.2.2.1 t.2.2.2.2.2.2.1 t.2.2.2.2.2.2.2.1
theorem loop_Z54_L0 {again1 : (Nat → Nat) → T_Z54_L1 → R_Z54} (hag1 : Dep 2 again1) {Q : A_Z54_L0 (((List Int × Unit) × (Unit)) → Prop)} (I : A_Z54_L0 Prop) (μ : A_Z54_L0 Nat)
    (step : ∀ a0 a1 a2 a3 a4 a5 a6 a7 a8, I a0 a1 a2 a3 a4 a5 a6 a7 a8 → ∀ again : (Nat → Nat) → T_Z54_L0 → R_Z54, Dep 3 again → (∀ y0 y1 y2 y3 y4 y5 y6 y7 y8, I y0 y1 y2 y3 y4 y5 y6 y7 y8 → μ y0 y1 y2 y3 y4 y5 y6 y7 y8 < μ a0 a1 a2 a3 a4 a5 a6 a7 a8 → Tot (fun σ => again σ ((y0, y1, ()), y2, y3, y4, y5, y6, y7, y8, ())) (Q y0 y1 y2 y3 y4 y5 y6 y7 y8)) →
      Tot (fun σ => B_Z54_L0b (σ 0) (F_Z35 (σ 0)) (F_Z58 (σ 0)) (again1 σ) (again σ) a0 a1 a2 a3 a4 a5 a6 a7 a8) (Q a0 a1 a2 a3 a4 a5 a6 a7 a8)) :
    ∀ a0 a1 a2 a3 a4 a5 a6 a7 a8, I a0 a1 a2 a3 a4 a5 a6 a7 a8 → Tot (fun σ => B_Z54_L0 (σ 0) (F_Z35 (σ 0)) (F_Z58 (σ 0)) (again1 σ) (σ 0) ((a0, a1, ()), a2, a3, a4, a5, a6, a7, a8, ())) (Q a0 a1 a2 a3 a4 a5 a6 a7 a8) := fun a0 a1 a2 a3 a4 a5 a6 a7 a8 => Tot.loop (L := fun σ n t => B_Z54_L0 (σ 0) (F_Z35 (σ 0)) (F_Z58 (σ 0)) (again1 σ) n t) (B := fun σ g => u_Z54_L0 (B_Z54_L0b (σ 0) (F_Z35 (σ 0)) (F_Z58 (σ 0)) (again1 σ) g)) (Q := u_Z54_L0 Q) 2 (by decide)
    (fun s s' h => by have e0 : s 0 = s' 0 := h 0 (by decide); simp only [e0, hag1 s s' h]) (fun s s' h => by have e0 : s 0 = s' 0 := h 0 (by decide); simp only [e0, hag1 s s' h]) (fun _ _ _ => rfl) (u_Z54_L0 I) (u_Z54_L0 μ)
    (fun t ht again hag h => step t.1.1 t.1.2.1 t.2.1 t.2.2.1 t.2.2.2.1 t.2.2.2.2.1 t.2.2.2.2.2.1 t.2.2.2.2.2.2.1 t.2.2.2.2.2.2.2.1 ht again hag fun y0 y1 y2 y3 y4 y5 y6 y7 y8 => h ((y0, y1, ()), y2, y3, y4, y5, y6, y7, y8, ())) ((a0, a1, ()), a2, a3, a4, a5, a6, a7, a8, ())
abbrev A_Z54_L4 (Z : Type) : Type := (List (Int × Int × List Int)) → Int → List Int → List Int → Int → Int → Z
abbrev u_Z54_L4 {Z : Type} (f : A_Z54_L4 Z) (t : T_Z54_L4) : Z := f t.1.1 t.1.2.1 t.2.1 t.2.2.1 t.2.2.2.1 t.2.2.2.2.1
theorem loop_Z54_L4 {Q : A_Z54_L4 (((List Int × Unit) × (Unit)) → Prop)} (I : A_Z54_L4 Prop) (μ : A_Z54_L4 Nat)
    (step : ∀ a0 a1 a2 a3 a4 a5, I a0 a1 a2 a3 a4 a5 → ∀ again : (Nat → Nat) → T_Z54_L4 → R_Z54, Dep 2 again → (∀ y0 y1 y2 y3 y4 y5, I y0 y1 y2 y3 y4 y5 → μ y0 y1 y2 y3 y4 y5 < μ a0 a1 a2 a3 a4 a5 → Tot (fun σ => again σ ((y0, y1, ()), y2, y3, y4, y5, ())) (Q y0 y1 y2 y3 y4 y5)) →
      Tot (fun σ => B_Z54_L4b (σ 0) (F_Z35 (σ 0)) (F_Z58 (σ 0)) (again σ) a0 a1 a2 a3 a4 a5) (Q a0 a1 a2 a3 a4 a5)) :
    ∀ a0 a1 a2 a3 a4 a5, I a0 a1 a2 a3 a4 a5 → Tot (fun σ => B_Z54_L4 (σ 0) (F_Z35 (σ 0)) (F_Z58 (σ 0)) (σ 0) ((a0, a1, ()), a2, a3, a4, a5, ())) (Q a0 a1 a2 a3 a4 a5) := fun a0 a1 a2 a3 a4 a5 => Tot.loop0 (L := fun k => B_Z54_L4 k (F_Z35 k) (F_Z58 k)) (B := fun k g => u_Z54_L4 (B_Z54_L4b k (F_Z35 k) (F_Z58 k) g)) (Q := u_Z54_L4 Q) (fun _ _ _ => rfl) (u_Z54_L4 I) (u_Z54_L4 μ)
    (fun t ht again hag h => step t.1.1 t.1.2.1 t.2.1 t.2.2.1 t.2.2.2.1 t.2.2.2.2.1 ht again hag fun y0 y1 y2 y3 y4 y5 => h ((y0, y1, ()), y2, y3, y4, y5, ())) ((a0, a1, ()), a2, a3, a4, a5, ())
abbrev A_Z54_L1 (Z : Type) : Type := (List (Int × Int × List Int)) → Int → List Int → List Int → Int → Int → Z
abbrev u_Z54_L1 {Z : Type} (f : A_Z54_L1 Z) (t : T_Z54_L1) : Z := f t.1.1 t.1.2.1 t.2.1 t.2.2.1 t.2.2.2.1 t.2.2.2.2.1
theorem loop_Z54_L1 {Q : A_Z54_L1 (((List Int × Unit) × (Unit)) → Prop)} (I : A_Z54_L1 Prop) (μ : A_Z54_L1 Nat)
    (step : ∀ a0 a1 a2 a3 a4 a5, I a0 a1 a2 a3 a4 a5 → ∀ again : (Nat → Nat) → T_Z54_L1 → R_Z54, Dep 2 again → (∀ y0 y1 y2 y3 y4 y5, I y0 y1 y2 y3 y4 y5 → μ y0 y1 y2 y3 y4 y5 < μ a0 a1 a2 a3 a4 a5 → Tot (fun σ => again σ ((y0, y1, ()), y2, y3, y4, y5, ())) (Q y0 y1 y2 y3 y4 y5)) →
      Tot (fun σ => B_Z54_L1b (σ 0) (F_Z35 (σ 0)) (F_Z58 (σ 0)) (again σ) a0 a1 a2 a3 a4 a5) (Q a0 a1 a2 a3 a4 a5)) :
    ∀ a0 a1 a2 a3 a4 a5, I a0 a1 a2 a3 a4 a5 → Tot (fun σ => B_Z54_L1 (σ 0) (F_Z35 (σ 0)) (F_Z58 (σ 0)) (σ 0) ((a0, a1, ()), a2, a3, a4, a5, ())) (Q a0 a1 a2 a3 a4 a5) := fun a0 a1 a2 a3 a4 a5 => Tot.loop0 (L := fun k => B_Z54_L1 k (F_Z35 k) (F_Z58 k)) (B := fun k g => u_Z54_L1 (B_Z54_L1b k (F_Z35 k) (F_Z58 k) g)) (Q := u_Z54_L1 Q) (fun _ _ _ => rfl) (u_Z54_L1 I) (u_Z54_L1 μ)
    (fun t ht again hag h => step t.1.1 t.1.2.1 t.2.1 t.2.2.1 t.2.2.2.1 t.2.2.2.2.1 ht again hag fun y0 y1 y2 y3 y4 y5 => h ((y0, y1, ()), y2, y3, y4, y5, ())) ((a0, a1, ()), a2, a3, a4, a5, ())
abbrev R_Z24 : Type := Option ((Bool × Unit) × (Unit))
abbrev C_Z24 : Type := List Int → R_Z24
def B_Z24_J0 (k : Nat) (c_Z22 : C_Z22) (c_Z27 : C_Z27) (c_Z26 : C_Z26) (c_Z31 : C_Z31) (c_Z35 : C_Z35) (c_Z45 : C_Z45) (c_Z54 : C_Z54) (c_Z49 : C_Z49) (c_Z50 : C_Z50) (g_Nodes : List (Int × Int × List Int)) (g_Root : Int) (out_Nodes : List (Int × Int × Option (List Int))) (out_Root : Int) (ok : Bool) (want_Nodes : List (Int × Int × Option (List Int))) (want_Root : Int) (told t35 : Bool) : R_Z24 :=
  bif t35 then
    (c_Z31 (out_Nodes.map (fun p => (p.1, (p.2.1, p.2.2.getD [])))) out_Root (want_Nodes.map (fun p => (p.1, (p.2.1, p.2.2.getD [])))) want_Root).bind fun r38 =>
    bif r38.1.1 then
      some (((ok == told), ()), ())
    else
      some ((false, ()), ())
  else
    (c_Z35 (out_Nodes.map (fun p => (p.1, (p.2.1, p.2.2.getD [])))) out_Root).bind fun r45 =>
    bif r45.1.1 then
      (c_Z45 (out_Nodes.map (fun p => (p.1, (p.2.1, p.2.2.getD [])))) out_Root g_Nodes g_Root).bind fun r49 =>
      bif r49.1.1 then
        (c_Z54 (out_Nodes.map (fun p => (p.1, (p.2.1, p.2.2.getD [])))) out_Root).bind fun r53 =>
        bif ((len r53.1.1) == 0) then
          (c_Z49 g_Nodes g_Root).bind fun r62 =>
          bif ((len out_Nodes) == r62.1.1) then
            (c_Z50 (out_Nodes.map (fun p => (p.1, (p.2.1, p.2.2.getD [])))) out_Root).bind fun r67 =>
            some ((((len r67.1.1) == 0), ()), ())
          else
            some ((false, ()), ())
        else
          some ((false, ()), ())
      else
        some ((false, ()), ())
    else
      some ((false, ()), ())
def B_Z24 (k : Nat) (c_Z22 : C_Z22) (c_Z27 : C_Z27) (c_Z26 : C_Z26) (c_Z31 : C_Z31) (c_Z35 : C_Z35) (c_Z45 : C_Z45) (c_Z54 : C_Z54) (c_Z49 : C_Z49) (c_Z50 : C_Z50) (code : List Int) : R_Z24 :=
  bif decide ((len code) > 1048576) then
    some ((true, ()), ())
  else
    (c_Z22 code).bind fun r12 =>
    (c_Z27 r12.1.1.1 r12.1.1.2.1).bind fun r15 =>
    (c_Z26 r12.1.1.1 r12.1.1.2.1).bind fun r20 =>
    (c_Z31 (r15.1.1.1.map (fun p => (p.1, (p.2.1, p.2.2.getD [])))) r15.1.1.2.1 (r20.1.1.1.map (fun p => (p.1, (p.2.1, p.2.2.getD [])))) r20.1.1.2.1).bind fun r25 =>
    bif (!r25.1.1) then
      jn (fun t => B_Z24_J0 k c_Z22 c_Z27 c_Z26 c_Z31 c_Z35 c_Z45 c_Z54 c_Z49 c_Z50 t.1.1 t.1.2.1 t.2.1.1 t.2.1.2.1 t.2.2.1 t.2.2.2.1.1 t.2.2.2.1.2.1 t.2.2.2.2.1 t.2.2.2.2.2.1) ((r12.1.1.1, r12.1.1.2.1, ()), (r15.1.1.1, r15.1.1.2.1, ()), r15.1.2.1, (r20.1.1.1, r20.1.1.2.1, ()), r20.1.2.1, true, ())
    else
      bif (!(r15.1.2.1 == r20.1.2.1)) then
        jn (fun t => B_Z24_J0 k c_Z22 c_Z27 c_Z26 c_Z31 c_Z35 c_Z45 c_Z54 c_Z49 c_Z50 t.1.1 t.1.2.1 t.2.1.1 t.2.1.2.1 t.2.2.1 t.2.2.2.1.1 t.2.2.2.1.2.1 t.2.2.2.2.1 t.2.2.2.2.2.1) ((r12.1.1.1, r12.1.1.2.1, ()), (r15.1.1.1, r15.1.1.2.1, ()), r15.1.2.1, (r20.1.1.1, r20.1.1.2.1, ()), r20.1.2.1, true, ())
      else
        jn (fun t => B_Z24_J0 k c_Z22 c_Z27 c_Z26 c_Z31 c_Z35 c_Z45 c_Z54 c_Z49 c_Z50 t.1.1 t.1.2.1 t.2.1.1 t.2.1.2.1 t.2.2.1 t.2.2.2.1.1 t.2.2.2.1.2.1 t.2.2.2.2.1 t.2.2.2.2.2.1) ((r12.1.1.1, r12.1.1.2.1, ()), (r15.1.1.1, r15.1.1.2.1, ()), r15.1.2.1, (r20.1.1.1, r20.1.1.2.1, ()), r20.1.2.1, (!r15.1.2.1), ())
def F_Z24 : Nat → C_Z24
  | 0, _ => none
  | k + 1, code => B_Z24 k (F_Z22 k) (F_Z27 k) (F_Z26 k) (F_Z31 k) (F_Z35 k) (F_Z45 k) (F_Z54 k) (F_Z49 k) (F_Z50 k) code
theorem tot_Z24 {code : _} {Q : _ → Prop} (h : Tot (fun σ => B_Z24 (σ 0) (F_Z22 (σ 0)) (F_Z27 (σ 0)) (F_Z26 (σ 0)) (F_Z31 (σ 0)) (F_Z35 (σ 0)) (F_Z45 (σ 0)) (F_Z54 (σ 0)) (F_Z49 (σ 0)) (F_Z50 (σ 0)) code) Q) : Tot (fun σ => F_Z24 (σ 0) code) Q :=
  Tot.call (F := fun k => F_Z24 k code) (B := fun k => B_Z24 k (F_Z22 k) (F_Z27 k) (F_Z26 k) (F_Z31 k) (F_Z35 k) (F_Z45 k) (F_Z54 k) (F_Z49 k) (F_Z50 k) code) (fun k => rfl) h
end Go.Gx

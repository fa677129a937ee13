/-
  The functions, as Gx tells them (printed by gen.py).
-/
import Derived.Test.YthdjflfiekaneaaXSh1
set_option linter.unusedVariables false
namespace Go.Gx
abbrev A_Z48_L0 (Z : Type) : Type := (List (Int × Int × List Int)) → (List (Int × Int × List Int)) → Int → Z
abbrev u_Z48_L0 {Z : Type} (f : A_Z48_L0 Z) (t : T_Z48_L0) : Z := f t.1 t.2.1 t.2.2.1
theorem loop_Z48_L0 {Q : A_Z48_L0 (((Bool × Unit) × (Unit)) → Prop)} (I : A_Z48_L0 Prop) (μ : A_Z48_L0 Nat)
    (step : ∀ a0 a1 a2, I a0 a1 a2 → ∀ again : (Nat → Nat) → T_Z48_L0 → R_Z48, Dep 2 again → (∀ y0 y1 y2, I y0 y1 y2 → μ y0 y1 y2 < μ a0 a1 a2 → Tot (fun σ => again σ (y0, y1, y2, ())) (Q y0 y1 y2)) →
      Tot (fun σ => B_Z48_L0b (σ 0) (F_l_eqNode (σ 0)) (again σ) a0 a1 a2) (Q a0 a1 a2)) :
    ∀ a0 a1 a2, I a0 a1 a2 → Tot (fun σ => B_Z48_L0 (σ 0) (F_l_eqNode (σ 0)) (σ 0) (a0, a1, a2, ())) (Q a0 a1 a2) := fun a0 a1 a2 => Tot.loop0 (L := fun k => B_Z48_L0 k (F_l_eqNode k)) (B := fun k g => u_Z48_L0 (B_Z48_L0b k (F_l_eqNode k) g)) (Q := u_Z48_L0 Q) (fun _ _ _ => rfl) (u_Z48_L0 I) (u_Z48_L0 μ)
    (fun t ht again hag h => step t.1 t.2.1 t.2.2.1 ht again hag fun y0 y1 y2 => h (y0, y1, y2, ())) (a0, a1, a2, ())
abbrev R_Z50 : Type := Option ((Bool × Unit) × (Unit))
abbrev C_Z50 : Type := (List (Int × Int × List Int)) → Int → (List (Int × Int × List Int)) → Int → R_Z50
def B_Z50 (k : Nat) (c_Z48 : C_Z48) (a_0 : List (Int × Int × List Int)) (a_1 : Int) (b_0 : List (Int × Int × List Int)) (b_1 : Int) : R_Z50 :=
  (c_Z48 a_0 b_0).bind fun r9 =>
  bif (!r9.1.1) then
    some ((false, ()), ())
  else
    bif (a_1 != b_1) then
      some ((false, ()), ())
    else
      some ((true, ()), ())
def F_Z50 : Nat → C_Z50
  | 0, _, _, _, _ => none
  | k + 1, a_0, a_1, b_0, b_1 => B_Z50 k (F_Z48 k) a_0 a_1 b_0 b_1
theorem tot_Z50 {a_0 a_1 b_0 b_1 : _} {Q : _ → Prop} (h : Tot (fun σ => B_Z50 (σ 0) (F_Z48 (σ 0)) a_0 a_1 b_0 b_1) Q) : Tot (fun σ => F_Z50 (σ 0) a_0 a_1 b_0 b_1) Q :=
  Tot.call (F := fun k => F_Z50 k a_0 a_1 b_0 b_1) (B := fun k => B_Z50 k (F_Z48 k) a_0 a_1 b_0 b_1) (fun k => rfl) h
abbrev R_Z42 : Type := Option ((Int × Unit) × (List Int × Unit))
abbrev C_Z42 : Type := List Int → Int → R_Z42
abbrev T_Z42_L0 : Type := List Int × Int × Int × Unit
def B_Z42_L0b (k : Nat) (again0 : T_Z42_L0 → R_Z42) (a : List Int) (k1 i : Int) : R_Z42 :=
  bif decide (i < (len a)) then
    chk (inb i a.length) <|
    chk (decide (i.toNat < a.length)) <|
    again0 ((a.set i.toNat k1), w64 (k1 + 1), w64 (i + 1), ())
  else
    some ((k1, ()), (a, ()))
def B_Z42_L0 (k : Nat) (n : Nat) (t : T_Z42_L0) : R_Z42 :=
  lfix n (fun again t => B_Z42_L0b k again t.1 t.2.1 t.2.2.1) t
def B_Z42 (k : Nat) (a : List Int) (k1 : Int) : R_Z42 :=
  B_Z42_L0 k k (a, k1, 0, ())
def F_Z42 : Nat → C_Z42
  | 0, _, _ => none
  | k + 1, a, k1 => B_Z42 k a k1
theorem tot_Z42 {a k1 : _} {Q : _ → Prop} (h : Tot (fun σ => B_Z42 (σ 0) a k1) Q) : Tot (fun σ => F_Z42 (σ 0) a k1) Q :=
  Tot.call (F := fun k => F_Z42 k a k1) (B := fun k => B_Z42 k a k1) (fun k => rfl) h
abbrev A_Z42_L0 (Z : Type) : Type := List Int → Int → Int → Z
abbrev u_Z42_L0 {Z : Type} (f : A_Z42_L0 Z) (t : T_Z42_L0) : Z := f t.1 t.2.1 t.2.2.1
theorem loop_Z42_L0 {Q : A_Z42_L0 (((Int × Unit) × (List Int × Unit)) → Prop)} (I : A_Z42_L0 Prop) (μ : A_Z42_L0 Nat)
    (step : ∀ a0 a1 a2, I a0 a1 a2 → ∀ again : (Nat → Nat) → T_Z42_L0 → R_Z42, Dep 2 again → (∀ y0 y1 y2, I y0 y1 y2 → μ y0 y1 y2 < μ a0 a1 a2 → Tot (fun σ => again σ (y0, y1, y2, ())) (Q y0 y1 y2)) →
      Tot (fun σ => B_Z42_L0b (σ 0) (again σ) a0 a1 a2) (Q a0 a1 a2)) :
    ∀ a0 a1 a2, I a0 a1 a2 → Tot (fun σ => B_Z42_L0 (σ 0) (σ 0) (a0, a1, a2, ())) (Q a0 a1 a2) := fun a0 a1 a2 => Tot.loop0 (L := fun k => B_Z42_L0 k) (B := fun k g => u_Z42_L0 (B_Z42_L0b k g)) (Q := u_Z42_L0 Q) (fun _ _ _ => rfl) (u_Z42_L0 I) (u_Z42_L0 μ)
    (fun t ht again hag h => step t.1 t.2.1 t.2.2.1 ht again hag fun y0 y1 y2 => h (y0, y1, y2, ())) (a0, a1, a2, ())
abbrev R_Z34 : Type := Option ((Int × Unit) × ((List (Int × Int × List Int)) × Unit))
abbrev C_Z34 : Type := (List (Int × Int × List Int)) → Int → R_Z34
abbrev T_Z34_L0 : Type := (List (Int × Int × List Int)) × Int × Int × Unit
def B_Z34_L0b (k : Nat) (c_Z42 : C_Z42) (again0 : T_Z34_L0 → R_Z34) (a : List (Int × Int × List Int)) (k1 i : Int) : R_Z34 :=
  bif decide (i < (len a)) then
    chk (inb i a.length) <|
    chk (decide (i.toNat < a.length)) <|
    chk (inb i (a.set i.toNat (k1, (a.getD i.toNat ((0 : Int), ((0 : Int), ([] : List Int)))).2)).length) <|
    chk (decide (i.toNat < (a.set i.toNat (k1, (a.getD i.toNat ((0 : Int), ((0 : Int), ([] : List Int)))).2)).length)) <|
    let w1 : List (Int × Int × List Int) := ((a.set i.toNat (k1, (a.getD i.toNat ((0 : Int), ((0 : Int), ([] : List Int)))).2)).set i.toNat (((a.set i.toNat (k1, (a.getD i.toNat ((0 : Int), ((0 : Int), ([] : List Int)))).2)).getD i.toNat ((0 : Int), ((0 : Int), ([] : List Int)))).1, (w64 (k1 + 1), (((a.set i.toNat (k1, (a.getD i.toNat ((0 : Int), ((0 : Int), ([] : List Int)))).2)).getD i.toNat ((0 : Int), ((0 : Int), ([] : List Int)))).2).2)))
    chk (inb i w1.length) <|
    chk (decide (i.toNat < w1.length)) <|
    (c_Z42 (((w1.getD i.toNat ((0 : Int), ((0 : Int), ([] : List Int)))).2).2) (w64 ((w64 (k1 + 1)) + 1))).bind fun r32 =>
    again0 ((w1.set i.toNat ((w1.getD i.toNat ((0 : Int), ((0 : Int), ([] : List Int)))).1, (((w1.getD i.toNat ((0 : Int), ((0 : Int), ([] : List Int)))).2).1, r32.2.1))), r32.1.1, w64 (i + 1), ())
  else
    some ((k1, ()), (a, ()))
def B_Z34_L0 (k : Nat) (c_Z42 : C_Z42) (n : Nat) (t : T_Z34_L0) : R_Z34 :=
  lfix n (fun again t => B_Z34_L0b k c_Z42 again t.1 t.2.1 t.2.2.1) t
def B_Z34 (k : Nat) (c_Z42 : C_Z42) (a : List (Int × Int × List Int)) (k1 : Int) : R_Z34 :=
  B_Z34_L0 k c_Z42 k (a, k1, 0, ())
def F_Z34 : Nat → C_Z34
  | 0, _, _ => none
  | k + 1, a, k1 => B_Z34 k (F_Z42 k) a k1
theorem tot_Z34 {a k1 : _} {Q : _ → Prop} (h : Tot (fun σ => B_Z34 (σ 0) (F_Z42 (σ 0)) a k1) Q) : Tot (fun σ => F_Z34 (σ 0) a k1) Q :=
  Tot.call (F := fun k => F_Z34 k a k1) (B := fun k => B_Z34 k (F_Z42 k) a k1) (fun k => rfl) h
abbrev A_Z34_L0 (Z : Type) : Type := (List (Int × Int × List Int)) → Int → Int → Z
abbrev u_Z34_L0 {Z : Type} (f : A_Z34_L0 Z) (t : T_Z34_L0) : Z := f t.1 t.2.1 t.2.2.1
theorem loop_Z34_L0 {Q : A_Z34_L0 (((Int × Unit) × ((List (Int × Int × List Int)) × Unit)) → Prop)} (I : A_Z34_L0 Prop) (μ : A_Z34_L0 Nat)
    (step : ∀ a0 a1 a2, I a0 a1 a2 → ∀ again : (Nat → Nat) → T_Z34_L0 → R_Z34, Dep 2 again → (∀ y0 y1 y2, I y0 y1 y2 → μ y0 y1 y2 < μ a0 a1 a2 → Tot (fun σ => again σ (y0, y1, y2, ())) (Q y0 y1 y2)) →
      Tot (fun σ => B_Z34_L0b (σ 0) (F_Z42 (σ 0)) (again σ) a0 a1 a2) (Q a0 a1 a2)) :
    ∀ a0 a1 a2, I a0 a1 a2 → Tot (fun σ => B_Z34_L0 (σ 0) (F_Z42 (σ 0)) (σ 0) (a0, a1, a2, ())) (Q a0 a1 a2) := fun a0 a1 a2 => Tot.loop0 (L := fun k => B_Z34_L0 k (F_Z42 k)) (B := fun k g => u_Z34_L0 (B_Z34_L0b k (F_Z42 k) g)) (Q := u_Z34_L0 Q) (fun _ _ _ => rfl) (u_Z34_L0 I) (u_Z34_L0 μ)
    (fun t ht again hag h => step t.1 t.2.1 t.2.2.1 ht again hag fun y0 y1 y2 => h (y0, y1, y2, ())) (a0, a1, a2, ())
abbrev R_Z35 : Type := Option ((Int × Unit) × (((List (Int × Int × List Int)) × Int × Unit) × Unit))
abbrev C_Z35 : Type := (List (Int × Int × List Int)) → Int → Int → R_Z35
def B_Z35 (k : Nat) (c_Z34 : C_Z34) (a_0 : List (Int × Int × List Int)) (a_1 k1 : Int) : R_Z35 :=
  (c_Z34 a_0 k1).bind fun r8 =>
  some ((r8.1.1, ()), ((r8.2.1, a_1, ()), ()))
def F_Z35 : Nat → C_Z35
  | 0, _, _, _ => none
  | k + 1, a_0, a_1, k1 => B_Z35 k (F_Z34 k) a_0 a_1 k1
theorem tot_Z35 {a_0 a_1 k1 : _} {Q : _ → Prop} (h : Tot (fun σ => B_Z35 (σ 0) (F_Z34 (σ 0)) a_0 a_1 k1) Q) : Tot (fun σ => F_Z35 (σ 0) a_0 a_1 k1) Q :=
  Tot.call (F := fun k => F_Z35 k a_0 a_1 k1) (B := fun k => B_Z35 k (F_Z34 k) a_0 a_1 k1) (fun k => rfl) h
abbrev R_Z40 : Type := Option ((Int × Unit) × (Unit))
abbrev C_Z40 : Type := List Int → Int → R_Z40
abbrev T_Z40_L0 : Type := List Int × Int × Int × Unit
def B_Z40_L0b (k : Nat) (again0 : T_Z40_L0 → R_Z40) (a : List Int) (k1 i : Int) : R_Z40 :=
  bif decide (i < (len a)) then
    chk (inb i a.length) <|
    bif ((rdx (0 : Int) a i) != k1) then
      some (((-1), ()), ())
    else
      again0 (a, w64 (k1 + 1), w64 (i + 1), ())
  else
    some ((k1, ()), ())
def B_Z40_L0 (k : Nat) (n : Nat) (t : T_Z40_L0) : R_Z40 :=
  lfix n (fun again t => B_Z40_L0b k again t.1 t.2.1 t.2.2.1) t
def B_Z40 (k : Nat) (a : List Int) (k1 : Int) : R_Z40 :=
  B_Z40_L0 k k (a, k1, 0, ())
def F_Z40 : Nat → C_Z40
  | 0, _, _ => none
  | k + 1, a, k1 => B_Z40 k a k1
theorem tot_Z40 {a k1 : _} {Q : _ → Prop} (h : Tot (fun σ => B_Z40 (σ 0) a k1) Q) : Tot (fun σ => F_Z40 (σ 0) a k1) Q :=
  Tot.call (F := fun k => F_Z40 k a k1) (B := fun k => B_Z40 k a k1) (fun k => rfl) h
abbrev A_Z40_L0 (Z : Type) : Type := List Int → Int → Int → Z
abbrev u_Z40_L0 {Z : Type} (f : A_Z40_L0 Z) (t : T_Z40_L0) : Z := f t.1 t.2.1 t.2.2.1
theorem loop_Z40_L0 {Q : A_Z40_L0 (((Int × Unit) × (Unit)) → Prop)} (I : A_Z40_L0 Prop) (μ : A_Z40_L0 Nat)
    (step : ∀ a0 a1 a2, I a0 a1 a2 → ∀ again : (Nat → Nat) → T_Z40_L0 → R_Z40, Dep 2 again → (∀ y0 y1 y2, I y0 y1 y2 → μ y0 y1 y2 < μ a0 a1 a2 → Tot (fun σ => again σ (y0, y1, y2, ())) (Q y0 y1 y2)) →
      Tot (fun σ => B_Z40_L0b (σ 0) (again σ) a0 a1 a2) (Q a0 a1 a2)) :
    ∀ a0 a1 a2, I a0 a1 a2 → Tot (fun σ => B_Z40_L0 (σ 0) (σ 0) (a0, a1, a2, ())) (Q a0 a1 a2) := fun a0 a1 a2 => Tot.loop0 (L := fun k => B_Z40_L0 k) (B := fun k g => u_Z40_L0 (B_Z40_L0b k g)) (Q := u_Z40_L0 Q) (fun _ _ _ => rfl) (u_Z40_L0 I) (u_Z40_L0 μ)
    (fun t ht again hag h => step t.1 t.2.1 t.2.2.1 ht again hag fun y0 y1 y2 => h (y0, y1, y2, ())) (a0, a1, a2, ())
abbrev R_Z38 : Type := Option ((Int × Unit) × (Unit))
abbrev C_Z38 : Type := (List (Int × Int × List Int)) → Int → R_Z38
abbrev T_Z38_L0 : Type := (List (Int × Int × List Int)) × Int × Int × Unit
def B_Z38_L0b (k : Nat) (c_Z40 : C_Z40) (again0 : T_Z38_L0 → R_Z38) (a : List (Int × Int × List Int)) (k1 i : Int) : R_Z38 :=
  bif decide (i < (len a)) then
    chk (inb i a.length) <|
    bif (((rdx ((0 : Int), ((0 : Int), ([] : List Int))) a i).1) != k1) then
      some (((-1), ()), ())
    else
      chk (inb i a.length) <|
      bif ((((rdx ((0 : Int), ((0 : Int), ([] : List Int))) a i).2).1) != (w64 (k1 + 1))) then
        some (((-1), ()), ())
      else
        chk (inb i a.length) <|
        (c_Z40 (((rdx ((0 : Int), ((0 : Int), ([] : List Int))) a i).2).2) (w64 ((w64 (k1 + 1)) + 1))).bind fun r36 =>
        bif decide (r36.1.1 < 0) then
          some (((-1), ()), ())
        else
          again0 (a, r36.1.1, w64 (i + 1), ())
  else
    some ((k1, ()), ())
def B_Z38_L0 (k : Nat) (c_Z40 : C_Z40) (n : Nat) (t : T_Z38_L0) : R_Z38 :=
  lfix n (fun again t => B_Z38_L0b k c_Z40 again t.1 t.2.1 t.2.2.1) t
def B_Z38 (k : Nat) (c_Z40 : C_Z40) (a : List (Int × Int × List Int)) (k1 : Int) : R_Z38 :=
  B_Z38_L0 k c_Z40 k (a, k1, 0, ())
def F_Z38 : Nat → C_Z38
  | 0, _, _ => none
  | k + 1, a, k1 => B_Z38 k (F_Z40 k) a k1
theorem tot_Z38 {a k1 : _} {Q : _ → Prop} (h : Tot (fun σ => B_Z38 (σ 0) (F_Z40 (σ 0)) a k1) Q) : Tot (fun σ => F_Z38 (σ 0) a k1) Q :=
  Tot.call (F := fun k => F_Z38 k a k1) (B := fun k => B_Z38 k (F_Z40 k) a k1) (fun k => rfl) h
abbrev A_Z38_L0 (Z : Type) : Type := (List (Int × Int × List Int)) → Int → Int → Z
abbrev u_Z38_L0 {Z : Type} (f : A_Z38_L0 Z) (t : T_Z38_L0) : Z := f t.1 t.2.1 t.2.2.1
theorem loop_Z38_L0 {Q : A_Z38_L0 (((Int × Unit) × (Unit)) → Prop)} (I : A_Z38_L0 Prop) (μ : A_Z38_L0 Nat)
    (step : ∀ a0 a1 a2, I a0 a1 a2 → ∀ again : (Nat → Nat) → T_Z38_L0 → R_Z38, Dep 2 again → (∀ y0 y1 y2, I y0 y1 y2 → μ y0 y1 y2 < μ a0 a1 a2 → Tot (fun σ => again σ (y0, y1, y2, ())) (Q y0 y1 y2)) →
      Tot (fun σ => B_Z38_L0b (σ 0) (F_Z40 (σ 0)) (again σ) a0 a1 a2) (Q a0 a1 a2)) :
    ∀ a0 a1 a2, I a0 a1 a2 → Tot (fun σ => B_Z38_L0 (σ 0) (F_Z40 (σ 0)) (σ 0) (a0, a1, a2, ())) (Q a0 a1 a2) := fun a0 a1 a2 => Tot.loop0 (L := fun k => B_Z38_L0 k (F_Z40 k)) (B := fun k g => u_Z38_L0 (B_Z38_L0b k (F_Z40 k) g)) (Q := u_Z38_L0 Q) (fun _ _ _ => rfl) (u_Z38_L0 I) (u_Z38_L0 μ)
    (fun t ht again hag h => step t.1 t.2.1 t.2.2.1 ht again hag fun y0 y1 y2 => h (y0, y1, y2, ())) (a0, a1, a2, ())
abbrev R_Z37 : Type := Option ((Int × Unit) × (Unit))
abbrev C_Z37 : Type := (List (Int × Int × List Int)) → Int → Int → R_Z37
def B_Z37 (k : Nat) (c_Z38 : C_Z38) (a_0 : List (Int × Int × List Int)) (a_1 k1 : Int) : R_Z37 :=
  (c_Z38 a_0 k1).bind fun r8 =>
  bif decide (r8.1.1 < 0) then
    some (((-1), ()), ())
  else
    some ((r8.1.1, ()), ())
def F_Z37 : Nat → C_Z37
  | 0, _, _, _ => none
  | k + 1, a_0, a_1, k1 => B_Z37 k (F_Z38 k) a_0 a_1 k1
theorem tot_Z37 {a_0 a_1 k1 : _} {Q : _ → Prop} (h : Tot (fun σ => B_Z37 (σ 0) (F_Z38 (σ 0)) a_0 a_1 k1) Q) : Tot (fun σ => F_Z37 (σ 0) a_0 a_1 k1) Q :=
  Tot.call (F := fun k => F_Z37 k a_0 a_1 k1) (B := fun k => B_Z37 k (F_Z38 k) a_0 a_1 k1) (fun k => rfl) h
abbrev R_Z18 : Type := Option ((Bool × Unit) × (Unit))
abbrev C_Z18 : Type := (List (Int × Int × List Int)) → Int → R_Z18
def B_Z18_J2 (k : Nat) (c_Z51 : C_Z51) (c_Z52 : C_Z52) (c_Z24 : C_Z24) (c_Z22 : C_Z22) (c_Z50 : C_Z50) (c_Z35 : C_Z35) (c_Z37 : C_Z37) (g0_Nodes : List (Int × Int × List Int)) (g0_Root m : Int) (t87 : Bool) : R_Z18 :=
  bif t87 then
    some ((false, ()), ())
  else
    (c_Z37 g0_Nodes g0_Root 1).bind fun r90 =>
    bif decide (r90.1.1 < 0) then
      some ((false, ()), ())
    else
      bif (r90.1.1 != m) then
        some ((false, ()), ())
      else
        some ((true, ()), ())
def B_Z18_J1 (k : Nat) (c_Z51 : C_Z51) (c_Z52 : C_Z52) (c_Z24 : C_Z24) (c_Z22 : C_Z22) (c_Z50 : C_Z50) (c_Z35 : C_Z35) (c_Z37 : C_Z37) (aG_Nodes : List (Int × Int × List Int)) (aG_Root : Int) (w0_Nodes : List (Int × Int × Option (List Int))) (w0_Root : Int) (w1 : Bool) (g0_Nodes : List (Int × Int × Option (List Int))) (g0_Root : Int) (t61 : Bool) : R_Z18 :=
  bif t61 then
    some ((false, ()), ())
  else
    (c_Z35 (g0_Nodes.map (fun p => (p.1, (p.2.1, p.2.2.getD [])))) g0_Root 1).bind fun r64 =>
    (c_Z37 r64.2.1.1 g0_Root 1).bind fun r67 =>
    bif decide (r67.1.1 < 0) then
      some ((false, ()), ())
    else
      bif (r67.1.1 != r64.1.1) then
        some ((false, ()), ())
      else
        (c_Z52 aG_Nodes aG_Root).bind fun r75 =>
        (c_Z22 r75.1.1.1 r75.1.1.2.1).bind fun r76 =>
        (c_Z50 (r76.1.1.1.map (fun p => (p.1, (p.2.1, p.2.2.getD [])))) r76.1.1.2.1 (w0_Nodes.map (fun p => (p.1, (p.2.1, p.2.2.getD [])))) w0_Root).bind fun r81 =>
        bif (!r81.1.1) then
          jn (fun t => B_Z18_J2 k c_Z51 c_Z52 c_Z24 c_Z22 c_Z50 c_Z35 c_Z37 t.1.1 t.1.2.1 t.2.1 t.2.2.1) ((r64.2.1.1, g0_Root, ()), r64.1.1, true, ())
        else
          jn (fun t => B_Z18_J2 k c_Z51 c_Z52 c_Z24 c_Z22 c_Z50 c_Z35 c_Z37 t.1.1 t.1.2.1 t.2.1 t.2.2.1) ((r64.2.1.1, g0_Root, ()), r64.1.1, (!(r76.1.2.1 == w1)), ())
def B_Z18_J0 (k : Nat) (c_Z51 : C_Z51) (c_Z52 : C_Z52) (c_Z24 : C_Z24) (c_Z22 : C_Z22) (c_Z50 : C_Z50) (c_Z35 : C_Z35) (c_Z37 : C_Z37) (aG_Nodes : List (Int × Int × List Int)) (aG_Root : Int) (w0_Nodes : List (Int × Int × Option (List Int))) (w0_Root : Int) (w1 : Bool) (x0_Nodes : List (Int × Int × List Int)) (x0_Root : Int) (g0_Nodes : List (Int × Int × Option (List Int))) (g0_Root : Int) (g1 t40 : Bool) : R_Z18 :=
  bif t40 then
    some ((false, ()), ())
  else
    (c_Z52 aG_Nodes aG_Root).bind fun r43 =>
    (c_Z50 x0_Nodes x0_Root r43.1.1.1 r43.1.1.2.1).bind fun r44 =>
    bif (!r44.1.1) then
      some ((false, ()), ())
    else
      (c_Z35 x0_Nodes x0_Root 1).bind fun r48 =>
      bif decide (r48.1.1 < 0) then
        jn (fun t => B_Z18_J1 k c_Z51 c_Z52 c_Z24 c_Z22 c_Z50 c_Z35 c_Z37 t.1.1 t.1.2.1 t.2.1.1 t.2.1.2.1 t.2.2.1 t.2.2.2.1.1 t.2.2.2.1.2.1 t.2.2.2.2.1) ((aG_Nodes, aG_Root, ()), (w0_Nodes, w0_Root, ()), w1, (g0_Nodes, g0_Root, ()), true, ())
      else
        (c_Z50 (g0_Nodes.map (fun p => (p.1, (p.2.1, p.2.2.getD [])))) g0_Root (w0_Nodes.map (fun p => (p.1, (p.2.1, p.2.2.getD [])))) w0_Root).bind fun r54 =>
        bif (!r54.1.1) then
          jn (fun t => B_Z18_J1 k c_Z51 c_Z52 c_Z24 c_Z22 c_Z50 c_Z35 c_Z37 t.1.1 t.1.2.1 t.2.1.1 t.2.1.2.1 t.2.2.1 t.2.2.2.1.1 t.2.2.2.1.2.1 t.2.2.2.2.1) ((aG_Nodes, aG_Root, ()), (w0_Nodes, w0_Root, ()), w1, (g0_Nodes, g0_Root, ()), true, ())
        else
          jn (fun t => B_Z18_J1 k c_Z51 c_Z52 c_Z24 c_Z22 c_Z50 c_Z35 c_Z37 t.1.1 t.1.2.1 t.2.1.1 t.2.1.2.1 t.2.2.1 t.2.2.2.1.1 t.2.2.2.1.2.1 t.2.2.2.2.1) ((aG_Nodes, aG_Root, ()), (w0_Nodes, w0_Root, ()), w1, (g0_Nodes, g0_Root, ()), (!(g1 == w1)), ())
def B_Z18 (k : Nat) (c_Z51 : C_Z51) (c_Z52 : C_Z52) (c_Z24 : C_Z24) (c_Z22 : C_Z22) (c_Z50 : C_Z50) (c_Z35 : C_Z35) (c_Z37 : C_Z37) (aG_0 : List (Int × Int × List Int)) (aG_1 : Int) : R_Z18 :=
  (c_Z51 aG_0 aG_1 1048576).bind fun r16 =>
  bif decide (r16.1.1 < 0) then
    some ((true, ()), ())
  else
    (c_Z52 aG_0 aG_1).bind fun r21 =>
    (c_Z24 r21.1.1.1 r21.1.1.2.1).bind fun r22 =>
    (c_Z52 aG_0 aG_1).bind fun r26 =>
    (c_Z22 r26.1.1.1 r26.1.1.2.1).bind fun r29 =>
    (c_Z50 (r29.1.1.1.map (fun p => (p.1, (p.2.1, p.2.2.getD [])))) r29.1.1.2.1 (r22.1.1.1.map (fun p => (p.1, (p.2.1, p.2.2.getD [])))) r22.1.1.2.1).bind fun r34 =>
    bif (!r34.1.1) then
      jn (fun t => B_Z18_J0 k c_Z51 c_Z52 c_Z24 c_Z22 c_Z50 c_Z35 c_Z37 t.1.1 t.1.2.1 t.2.1.1 t.2.1.2.1 t.2.2.1 t.2.2.2.1.1 t.2.2.2.1.2.1 t.2.2.2.2.1.1 t.2.2.2.2.1.2.1 t.2.2.2.2.2.1 t.2.2.2.2.2.2.1) ((aG_0, aG_1, ()), (r22.1.1.1, r22.1.1.2.1, ()), r22.1.2.1, (r26.1.1.1, r26.1.1.2.1, ()), (r29.1.1.1, r29.1.1.2.1, ()), r29.1.2.1, true, ())
    else
      jn (fun t => B_Z18_J0 k c_Z51 c_Z52 c_Z24 c_Z22 c_Z50 c_Z35 c_Z37 t.1.1 t.1.2.1 t.2.1.1 t.2.1.2.1 t.2.2.1 t.2.2.2.1.1 t.2.2.2.1.2.1 t.2.2.2.2.1.1 t.2.2.2.2.1.2.1 t.2.2.2.2.2.1 t.2.2.2.2.2.2.1) ((aG_0, aG_1, ()), (r22.1.1.1, r22.1.1.2.1, ()), r22.1.2.1, (r26.1.1.1, r26.1.1.2.1, ()), (r29.1.1.1, r29.1.1.2.1, ()), r29.1.2.1, (!(r29.1.2.1 == r22.1.2.1)), ())
def F_Z18 : Nat → C_Z18
  | 0, _, _ => none
  | k + 1, aG_0, aG_1 => B_Z18 k (F_Z51 k) (F_Z52 k) (F_Z24 k) (F_Z22 k) (F_Z50 k) (F_Z35 k) (F_Z37 k) aG_0 aG_1
theorem tot_Z18 {aG_0 aG_1 : _} {Q : _ → Prop} (h : Tot (fun σ => B_Z18 (σ 0) (F_Z51 (σ 0)) (F_Z52 (σ 0)) (F_Z24 (σ 0)) (F_Z22 (σ 0)) (F_Z50 (σ 0)) (F_Z35 (σ 0)) (F_Z37 (σ 0)) aG_0 aG_1) Q) : Tot (fun σ => F_Z18 (σ 0) aG_0 aG_1) Q :=
  Tot.call (F := fun k => F_Z18 k aG_0 aG_1) (B := fun k => B_Z18 k (F_Z51 k) (F_Z52 k) (F_Z24 k) (F_Z22 k) (F_Z50 k) (F_Z35 k) (F_Z37 k) aG_0 aG_1) (fun k => rfl) h
end Go.Gx

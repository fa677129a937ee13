/-
  The functions, as Gx tells them (printed by gen.py).
-/
import Derived.Test.YtcondpfkkailkaaXSh1
set_option linter.unusedVariables false
namespace Go.Gx
abbrev A_Z13_L0 (Z : Type) : Type := (List (Int × Int × List Int)) → List Int → List Int → Bool → Bool → (List (Int × Int × List Int)) → List Int → List Int → Bool → Int → Z
abbrev u_Z13_L0 {Z : Type} (f : A_Z13_L0 Z) (t : T_Z13_L0) : Z := f t.1.1 t.1.2.1 t.1.2.2.1 t.1.2.2.2.1 t.2.1.2.2.2.1 t.2.2.1.1 t.2.2.1.2.1 t.2.2.1.2.2.1 t.2.2.1.2.2.2.1 t.2.2.2.1
theorem loop_Z13_L0 {Q : A_Z13_L0 (((((List (Int × Int × List Int)) × List Int × List Int × Bool × Unit) × Unit) × (Unit)) → Prop)} (I : A_Z13_L0 Prop) (μ : A_Z13_L0 Nat)
    (step : ∀ a0 a1 a2 a3 a4 a5 a6 a7 a8 a9, I a0 a1 a2 a3 a4 a5 a6 a7 a8 a9 → ∀ again : (Nat → Nat) → T_Z13_L0 → R_Z13, Dep 2 again → (∀ y0 y1 y2 y3 y4 y5 y6 y7 y8 y9, I y0 y1 y2 y3 y4 y5 y6 y7 y8 y9 → μ y0 y1 y2 y3 y4 y5 y6 y7 y8 y9 < μ a0 a1 a2 a3 a4 a5 a6 a7 a8 a9 → Tot (fun σ => again σ ((y0, y1, y2, y3, ()), ((), (), (), y4, ()), (y5, y6, y7, y8, ()), y9, ())) (Q y0 y1 y2 y3 y4 y5 y6 y7 y8 y9)) →
      Tot (fun σ => B_Z13_L0b (σ 0) (F_Z47 (σ 0)) (again σ) a0 a1 a2 a3 a4 a5 a6 a7 a8 a9) (Q a0 a1 a2 a3 a4 a5 a6 a7 a8 a9)) :
    ∀ a0 a1 a2 a3 a4 a5 a6 a7 a8 a9, I a0 a1 a2 a3 a4 a5 a6 a7 a8 a9 → Tot (fun σ => B_Z13_L0 (σ 0) (F_Z47 (σ 0)) (σ 0) ((a0, a1, a2, a3, ()), ((), (), (), a4, ()), (a5, a6, a7, a8, ()), a9, ())) (Q a0 a1 a2 a3 a4 a5 a6 a7 a8 a9) := fun a0 a1 a2 a3 a4 a5 a6 a7 a8 a9 => Tot.loop0 (L := fun k => B_Z13_L0 k (F_Z47 k)) (B := fun k g => u_Z13_L0 (B_Z13_L0b k (F_Z47 k) g)) (Q := u_Z13_L0 Q) (fun _ _ _ => rfl) (u_Z13_L0 I) (u_Z13_L0 μ)
    (fun t ht again hag h => step t.1.1 t.1.2.1 t.1.2.2.1 t.1.2.2.2.1 t.2.1.2.2.2.1 t.2.2.1.1 t.2.2.1.2.1 t.2.2.1.2.2.1 t.2.2.1.2.2.2.1 t.2.2.2.1 ht again hag fun y0 y1 y2 y3 y4 y5 y6 y7 y8 y9 => h ((y0, y1, y2, y3, ()), ((), (), (), y4, ()), (y5, y6, y7, y8, ()), y9, ())) ((a0, a1, a2, a3, ()), ((), (), (), a4, ()), (a5, a6, a7, a8, ()), a9, ())
abbrev R_s_push : Type := Option ((((List (Int × Int × List Int)) × List Int × List Int × Bool × Unit) × Unit) × (Unit))
abbrev C_s_push : Type := (List (Int × Int × List Int)) → List Int → List Int → Bool → Int → Int → List Int → R_s_push
def B_s_push (k : Nat) (m_0 : List (Int × Int × List Int)) (m_1 m_2 : List Int) (m_3 : Bool) (n_0 n_1 : Int) (n_2 : List Int) : R_s_push :=
  chk (room m_0.length ([(n_0, (n_1, n_2))]).length) <|
  chk (room m_1.length ([w64 ((len (m_0 ++ [(n_0, (n_1, n_2))])) - 1)]).length) <|
  some ((((m_0 ++ [(n_0, (n_1, n_2))]), (m_1 ++ [w64 ((len (m_0 ++ [(n_0, (n_1, n_2))])) - 1)]), m_2, m_3, ()), ()), ())
def F_s_push : Nat → C_s_push
  | 0, _, _, _, _, _, _, _ => none
  | k + 1, m_0, m_1, m_2, m_3, n_0, n_1, n_2 => B_s_push k m_0 m_1 m_2 m_3 n_0 n_1 n_2
theorem tot_s_push {m_0 m_1 m_2 m_3 n_0 n_1 n_2 : _} {Q : _ → Prop} (h : Tot (fun σ => B_s_push (σ 0) m_0 m_1 m_2 m_3 n_0 n_1 n_2) Q) : Tot (fun σ => F_s_push (σ 0) m_0 m_1 m_2 m_3 n_0 n_1 n_2) Q :=
  Tot.call (F := fun k => F_s_push k m_0 m_1 m_2 m_3 n_0 n_1 n_2) (B := fun k => B_s_push k m_0 m_1 m_2 m_3 n_0 n_1 n_2) (fun k => rfl) h
abbrev R_s_markAt : Type := Option ((Int × Unit) × (Unit))
abbrev C_s_markAt : Type := (List (Int × Int × List Int)) → List Int → List Int → Bool → R_s_markAt
abbrev T_s_markAt_L0 : Type := ((List (Int × Int × List Int)) × List Int × List Int × Bool × Unit) × Int × Unit
def B_s_markAt_L0b (k : Nat) (again0 : T_s_markAt_L0 → R_s_markAt) (m_Nodes : List (Int × Int × List Int)) (m_Stack m_Memo : List Int) (m_Done : Bool) (i : Int) : R_s_markAt :=
  bif decide (i ≥ 0) then
    chk (inb i m_Stack.length) <|
    bif decide ((rdx (0 : Int) m_Stack i) < 0) then
      some ((i, ()), ())
    else
      again0 ((m_Nodes, m_Stack, m_Memo, m_Done, ()), w64 (i - 1), ())
  else
    some (((-1), ()), ())
def B_s_markAt_L0 (k : Nat) (n : Nat) (t : T_s_markAt_L0) : R_s_markAt :=
  lfix n (fun again t => B_s_markAt_L0b k again t.1.1 t.1.2.1 t.1.2.2.1 t.1.2.2.2.1 t.2.1) t
def B_s_markAt (k : Nat) (m_0 : List (Int × Int × List Int)) (m_1 m_2 : List Int) (m_3 : Bool) : R_s_markAt :=
  B_s_markAt_L0 k k ((m_0, m_1, m_2, m_3, ()), w64 ((len m_1) - 1), ())
def F_s_markAt : Nat → C_s_markAt
  | 0, _, _, _, _ => none
  | k + 1, m_0, m_1, m_2, m_3 => B_s_markAt k m_0 m_1 m_2 m_3
theorem tot_s_markAt {m_0 m_1 m_2 m_3 : _} {Q : _ → Prop} (h : Tot (fun σ => B_s_markAt (σ 0) m_0 m_1 m_2 m_3) Q) : Tot (fun σ => F_s_markAt (σ 0) m_0 m_1 m_2 m_3) Q :=
  Tot.call (F := fun k => F_s_markAt k m_0 m_1 m_2 m_3) (B := fun k => B_s_markAt k m_0 m_1 m_2 m_3) (fun k => rfl) h
abbrev A_s_markAt_L0 (Z : Type) : Type := (List (Int × Int × List Int)) → List Int → List Int → Bool → Int → Z
abbrev u_s_markAt_L0 {Z : Type} (f : A_s_markAt_L0 Z) (t : T_s_markAt_L0) : Z := f t.1.1 t.1.2.1 t.1.2.2.1 t.1.2.2.2.1 t.2.1
theorem loop_s_markAt_L0 {Q : A_s_markAt_L0 (((Int × Unit) × (Unit)) → Prop)} (I : A_s_markAt_L0 Prop) (μ : A_s_markAt_L0 Nat)
    (step : ∀ a0 a1 a2 a3 a4, I a0 a1 a2 a3 a4 → ∀ again : (Nat → Nat) → T_s_markAt_L0 → R_s_markAt, Dep 2 again → (∀ y0 y1 y2 y3 y4, I y0 y1 y2 y3 y4 → μ y0 y1 y2 y3 y4 < μ a0 a1 a2 a3 a4 → Tot (fun σ => again σ ((y0, y1, y2, y3, ()), y4, ())) (Q y0 y1 y2 y3 y4)) →
      Tot (fun σ => B_s_markAt_L0b (σ 0) (again σ) a0 a1 a2 a3 a4) (Q a0 a1 a2 a3 a4)) :
    ∀ a0 a1 a2 a3 a4, I a0 a1 a2 a3 a4 → Tot (fun σ => B_s_markAt_L0 (σ 0) (σ 0) ((a0, a1, a2, a3, ()), a4, ())) (Q a0 a1 a2 a3 a4) := fun a0 a1 a2 a3 a4 => Tot.loop0 (L := fun k => B_s_markAt_L0 k) (B := fun k g => u_s_markAt_L0 (B_s_markAt_L0b k g)) (Q := u_s_markAt_L0 Q) (fun _ _ _ => rfl) (u_s_markAt_L0 I) (u_s_markAt_L0 μ)
    (fun t ht again hag h => step t.1.1 t.1.2.1 t.1.2.2.1 t.1.2.2.2.1 t.2.1 ht again hag fun y0 y1 y2 y3 y4 => h ((y0, y1, y2, y3, ()), y4, ())) ((a0, a1, a2, a3, ()), a4, ())
abbrev R_s_drop : Type := Option ((((List (Int × Int × List Int)) × List Int × List Int × Bool × Unit) × Unit) × (Unit))
abbrev C_s_drop : Type := (List (Int × Int × List Int)) → List Int → List Int → Bool → Int → R_s_drop
def B_s_drop (k : Nat) (m_0 : List (Int × Int × List Int)) (m_1 m_2 : List Int) (m_3 : Bool) (many : Int) : R_s_drop :=
  chk (cutb 0 (w64 ((len m_1) - many)) m_1.length) <|
  some (((m_0, (m_1.take ((w64 ((len m_1) - many)).toNat)), m_2, m_3, ()), ()), ())
def F_s_drop : Nat → C_s_drop
  | 0, _, _, _, _, _ => none
  | k + 1, m_0, m_1, m_2, m_3, many => B_s_drop k m_0 m_1 m_2 m_3 many
theorem tot_s_drop {m_0 m_1 m_2 m_3 many : _} {Q : _ → Prop} (h : Tot (fun σ => B_s_drop (σ 0) m_0 m_1 m_2 m_3 many) Q) : Tot (fun σ => F_s_drop (σ 0) m_0 m_1 m_2 m_3 many) Q :=
  Tot.call (F := fun k => F_s_drop k m_0 m_1 m_2 m_3 many) (B := fun k => B_s_drop k m_0 m_1 m_2 m_3 many) (fun k => rfl) h
abbrev R_s_top : Type := Option ((Int × Unit) × (Unit))
abbrev C_s_top : Type := (List (Int × Int × List Int)) → List Int → List Int → Bool → Int → R_s_top
def B_s_top (k : Nat) (m_0 : List (Int × Int × List Int)) (m_1 m_2 : List Int) (m_3 : Bool) (deep : Int) : R_s_top :=
  bif decide ((w64 ((w64 ((len m_1) - 1)) - deep)) < 0) then
    some (((-1), ()), ())
  else
    chk (inb (w64 ((w64 ((len m_1) - 1)) - deep)) m_1.length) <|
    some (((rdx (0 : Int) m_1 (w64 ((w64 ((len m_1) - 1)) - deep))), ()), ())
def F_s_top : Nat → C_s_top
  | 0, _, _, _, _, _ => none
  | k + 1, m_0, m_1, m_2, m_3, deep => B_s_top k m_0 m_1 m_2 m_3 deep
theorem tot_s_top {m_0 m_1 m_2 m_3 deep : _} {Q : _ → Prop} (h : Tot (fun σ => B_s_top (σ 0) m_0 m_1 m_2 m_3 deep) Q) : Tot (fun σ => F_s_top (σ 0) m_0 m_1 m_2 m_3 deep) Q :=
  Tot.call (F := fun k => F_s_top k m_0 m_1 m_2 m_3 deep) (B := fun k => B_s_top k m_0 m_1 m_2 m_3 deep) (fun k => rfl) h
abbrev R_s_kindOf : Type := Option ((Int × Unit) × (Unit))
abbrev C_s_kindOf : Type := (List (Int × Int × List Int)) → List Int → List Int → Bool → Int → R_s_kindOf
def B_s_kindOf (k : Nat) (m_0 : List (Int × Int × List Int)) (m_1 m_2 : List Int) (m_3 : Bool) (at1 : Int) : R_s_kindOf :=
  bif decide (at1 < 0) then
    some (((-1), ()), ())
  else
    chk (inb at1 m_0.length) <|
    some (((rdx ((0 : Int), ((0 : Int), ([] : List Int))) m_0 at1).1, ()), ())
def F_s_kindOf : Nat → C_s_kindOf
  | 0, _, _, _, _, _ => none
  | k + 1, m_0, m_1, m_2, m_3, at1 => B_s_kindOf k m_0 m_1 m_2 m_3 at1
theorem tot_s_kindOf {m_0 m_1 m_2 m_3 at1 : _} {Q : _ → Prop} (h : Tot (fun σ => B_s_kindOf (σ 0) m_0 m_1 m_2 m_3 at1) Q) : Tot (fun σ => F_s_kindOf (σ 0) m_0 m_1 m_2 m_3 at1) Q :=
  Tot.call (F := fun k => F_s_kindOf k m_0 m_1 m_2 m_3 at1) (B := fun k => B_s_kindOf k m_0 m_1 m_2 m_3 at1) (fun k => rfl) h
abbrev R_Z46 : Type := Option ((Bool × Unit) × (Unit))
abbrev C_Z46 : Type := (List (Int × Int × List Int)) → List Int → List Int → Bool → List Int → R_Z46
abbrev T_Z46_L0 : Type := List Int × ((List (Int × Int × List Int)) × List Int × List Int × Bool × Unit) × Int × Unit
def B_Z46_L0b (k : Nat) (c_s_isKey : C_s_isKey) (again0 : T_Z46_L0 → R_Z46) (list : List Int) (m_Nodes : List (Int × Int × List Int)) (m_Stack m_Memo : List Int) (m_Done : Bool) (i : Int) : R_Z46 :=
  bif decide (i < (len list)) then
    chk (inb i list.length) <|
    chk (inb (rdx (0 : Int) list i) m_Nodes.length) <|
    (c_s_isKey ((rdx ((0 : Int), ((0 : Int), ([] : List Int))) m_Nodes (rdx (0 : Int) list i)).1) (((rdx ((0 : Int), ((0 : Int), ([] : List Int))) m_Nodes (rdx (0 : Int) list i)).2).1)).bind fun r20 =>
    bif (!r20.1.1) then
      some ((false, ()), ())
    else
      again0 (list, (m_Nodes, m_Stack, m_Memo, m_Done, ()), w64 (i + 2), ())
  else
    some (((((len list).tmod 2) == 0), ()), ())
def B_Z46_L0 (k : Nat) (c_s_isKey : C_s_isKey) (n : Nat) (t : T_Z46_L0) : R_Z46 :=
  lfix n (fun again t => B_Z46_L0b k c_s_isKey again t.1 t.2.1.1 t.2.1.2.1 t.2.1.2.2.1 t.2.1.2.2.2.1 t.2.2.1) t
def B_Z46 (k : Nat) (c_s_isKey : C_s_isKey) (m_0 : List (Int × Int × List Int)) (m_1 m_2 : List Int) (m_3 : Bool) (list : List Int) : R_Z46 :=
  B_Z46_L0 k c_s_isKey k (list, (m_0, m_1, m_2, m_3, ()), 0, ())
def F_Z46 : Nat → C_Z46
  | 0, _, _, _, _, _ => none
  | k + 1, m_0, m_1, m_2, m_3, list => B_Z46 k (F_s_isKey k) m_0 m_1 m_2 m_3 list
theorem tot_Z46 {m_0 m_1 m_2 m_3 list : _} {Q : _ → Prop} (h : Tot (fun σ => B_Z46 (σ 0) (F_s_isKey (σ 0)) m_0 m_1 m_2 m_3 list) Q) : Tot (fun σ => F_Z46 (σ 0) m_0 m_1 m_2 m_3 list) Q :=
  Tot.call (F := fun k => F_Z46 k m_0 m_1 m_2 m_3 list) (B := fun k => B_Z46 k (F_s_isKey k) m_0 m_1 m_2 m_3 list) (fun k => rfl) h
abbrev A_Z46_L0 (Z : Type) : Type := List Int → (List (Int × Int × List Int)) → List Int → List Int → Bool → Int → Z
abbrev u_Z46_L0 {Z : Type} (f : A_Z46_L0 Z) (t : T_Z46_L0) : Z := f t.1 t.2.1.1 t.2.1.2.1 t.2.1.2.2.1 t.2.1.2.2.2.1 t.2.2.1
theorem loop_Z46_L0 {Q : A_Z46_L0 (((Bool × Unit) × (Unit)) → Prop)} (I : A_Z46_L0 Prop) (μ : A_Z46_L0 Nat)
    (step : ∀ a0 a1 a2 a3 a4 a5, I a0 a1 a2 a3 a4 a5 → ∀ again : (Nat → Nat) → T_Z46_L0 → R_Z46, Dep 2 again → (∀ y0 y1 y2 y3 y4 y5, I y0 y1 y2 y3 y4 y5 → μ y0 y1 y2 y3 y4 y5 < μ a0 a1 a2 a3 a4 a5 → Tot (fun σ => again σ (y0, (y1, y2, y3, y4, ()), y5, ())) (Q y0 y1 y2 y3 y4 y5)) →
      Tot (fun σ => B_Z46_L0b (σ 0) (F_s_isKey (σ 0)) (again σ) a0 a1 a2 a3 a4 a5) (Q a0 a1 a2 a3 a4 a5)) :
    ∀ a0 a1 a2 a3 a4 a5, I a0 a1 a2 a3 a4 a5 → Tot (fun σ => B_Z46_L0 (σ 0) (F_s_isKey (σ 0)) (σ 0) (a0, (a1, a2, a3, a4, ()), a5, ())) (Q a0 a1 a2 a3 a4 a5) := fun a0 a1 a2 a3 a4 a5 => Tot.loop0 (L := fun k => B_Z46_L0 k (F_s_isKey k)) (B := fun k g => u_Z46_L0 (B_Z46_L0b k (F_s_isKey k) g)) (Q := u_Z46_L0 Q) (fun _ _ _ => rfl) (u_Z46_L0 I) (u_Z46_L0 μ)
    (fun t ht again hag h => step t.1 t.2.1.1 t.2.1.2.1 t.2.1.2.2.1 t.2.1.2.2.2.1 t.2.2.1 ht again hag fun y0 y1 y2 y3 y4 y5 => h (y0, (y1, y2, y3, y4, ()), y5, ())) (a0, (a1, a2, a3, a4, ()), a5, ())
abbrev R_Z66 : Type := Option ((((List (Int × Int × List Int)) × List Int × List Int × Bool × Unit) × Unit) × (Unit))
abbrev C_Z66 : Type := (List (Int × Int × List Int)) → List Int → List Int → Bool → Int → Int → Int → R_Z66
abbrev T_Z66_L0 : Type := Int × Int × Int × (Unit × Unit × Unit × Bool × Unit) × List Int × Int × ((List (Int × Int × List Int) × Nat) × List Int × List Int × Bool × Unit) × Unit
def B_Z66_L0b (k : Nat) (c_Z52 : C_Z52) (again0 : T_Z66_L0 → R_Z66) (dict key value : Int) (t8_Done : Bool) (kids : List Int) (i : Int) (m_Nodes : List (Int × Int × List Int) × Nat) (m_Stack m_Memo : List Int) (m_Done : Bool) : R_Z66 :=
  bif decide (i < (len kids)) then
    chk (inb i kids.length) <|
    chk (decide (i.toNat < kids.length)) <|
    chk (inb (kids.getD i.toNat (0 : Int)) m_Nodes.1.length) <|
    chk (decide ((kids.getD i.toNat (0 : Int)).toNat < m_Nodes.1.length)) <|
    chk (inb key m_Nodes.1.length) <|
    chk (decide (key.toNat < m_Nodes.1.length)) <|
    (c_Z52 ((m_Nodes.1.getD ((kids.getD i.toNat (0 : Int)).toNat) ((0 : Int), ((0 : Int), ([] : List Int)))).1) (((m_Nodes.1.getD ((kids.getD i.toNat (0 : Int)).toNat) ((0 : Int), ((0 : Int), ([] : List Int)))).2).1) ((m_Nodes.1.getD key.toNat ((0 : Int), ((0 : Int), ([] : List Int)))).1) (((m_Nodes.1.getD key.toNat ((0 : Int), ((0 : Int), ([] : List Int)))).2).1)).bind fun r36 =>
    bif r36.1.1 then
      chk (inb (w64 (i + 1)) kids.length) <|
      chk (decide ((w64 (i + 1)).toNat < kids.length)) <|
      some ((((m_Nodes.1.set m_Nodes.2 ((m_Nodes.1.getD m_Nodes.2 ((0 : Int), ((0 : Int), ([] : List Int)))).1, (((m_Nodes.1.getD m_Nodes.2 ((0 : Int), ((0 : Int), ([] : List Int)))).2).1, (kids.set ((w64 (i + 1)).toNat) value)))), m_Stack, m_Memo, m_Done, ()), ()), ())
    else
      again0 (dict, key, value, ((), (), (), t8_Done, ()), kids, w64 (i + 2), ((m_Nodes.1, m_Nodes.2), m_Stack, m_Memo, m_Done, ()), ())
  else
    chk (room kids.length ([key, value]).length) <|
    chk (inb dict m_Nodes.1.length) <|
    chk (decide (dict.toNat = m_Nodes.2)) <|
    some ((((m_Nodes.1.set dict.toNat ((m_Nodes.1.getD dict.toNat ((0 : Int), ((0 : Int), ([] : List Int)))).1, (((m_Nodes.1.getD dict.toNat ((0 : Int), ((0 : Int), ([] : List Int)))).2).1, (kids ++ [key, value])))), m_Stack, m_Memo, m_Done, ()), ()), ())
def B_Z66_L0 (k : Nat) (c_Z52 : C_Z52) (n : Nat) (t : T_Z66_L0) : R_Z66 :=
  lfix n (fun again t => B_Z66_L0b k c_Z52 again t.1 t.2.1 t.2.2.1 t.2.2.2.1.2.2.2.1 t.2.2.2.2.1 t.2.2.2.2.2.1 t.2.2.2.2.2.2.1.1 t.2.2.2.2.2.2.1.2.1 t.2.2.2.2.2.2.1.2.2.1 t.2.2.2.2.2.2.1.2.2.2.1) t
def B_Z66 (k : Nat) (c_Z52 : C_Z52) (m_0 : List (Int × Int × List Int)) (m_1 m_2 : List Int) (m_3 : Bool) (dict key value : Int) : R_Z66 :=
  chk (inb dict m_0.length) <|
  chk (decide (dict.toNat < m_0.length)) <|
  B_Z66_L0 k c_Z52 k (dict, key, value, ((), (), (), false, ()), ((m_0.getD dict.toNat ((0 : Int), ((0 : Int), ([] : List Int)))).2).2, 0, ((m_0, dict.toNat), m_1, m_2, m_3, ()), ())
def F_Z66 : Nat → C_Z66
  | 0, _, _, _, _, _, _, _ => none
  | k + 1, m_0, m_1, m_2, m_3, dict, key, value => B_Z66 k (F_Z52 k) m_0 m_1 m_2 m_3 dict key value
theorem tot_Z66 {m_0 m_1 m_2 m_3 dict key value : _} {Q : _ → Prop} (h : Tot (fun σ => B_Z66 (σ 0) (F_Z52 (σ 0)) m_0 m_1 m_2 m_3 dict key value) Q) : Tot (fun σ => F_Z66 (σ 0) m_0 m_1 m_2 m_3 dict key value) Q :=
  Tot.call (F := fun k => F_Z66 k m_0 m_1 m_2 m_3 dict key value) (B := fun k => B_Z66 k (F_Z52 k) m_0 m_1 m_2 m_3 dict key value) (fun k => rfl) h
abbrev A_Z66_L0 (Z : Type) : Type := Int → Int → Int → Bool → List Int → Int → (List (Int × Int × List Int) × Nat) → List Int → List Int → Bool → Z
abbrev u_Z66_L0 {Z : Type} (f : A_Z66_L0 Z) (t : T_Z66_L0) : Z := f t.1 t.2.1 t.2.2.1 t.2.2.2.1.2.2.2.1 t.2.2.2.2.1 t.2.2.2.2.2.1 t.2.2.2.2.2.2.1.1 t.2.2.2.2.2.2.1.2.1 t.2.2.2.2.2.2.1.2.2.1 t.2.2.2.2.2.2.1.2.2.2.1
theorem loop_Z66_L0 {Q : A_Z66_L0 (((((List (Int × Int × List Int)) × List Int × List Int × Bool × Unit) × Unit) × (Unit)) → Prop)} (I : A_Z66_L0 Prop) (μ : A_Z66_L0 Nat)
    (step : ∀ a0 a1 a2 a3 a4 a5 a6 a7 a8 a9, I a0 a1 a2 a3 a4 a5 a6 a7 a8 a9 → ∀ again : (Nat → Nat) → T_Z66_L0 → R_Z66, Dep 2 again → (∀ y0 y1 y2 y3 y4 y5 y6 y7 y8 y9, I y0 y1 y2 y3 y4 y5 y6 y7 y8 y9 → μ y0 y1 y2 y3 y4 y5 y6 y7 y8 y9 < μ a0 a1 a2 a3 a4 a5 a6 a7 a8 a9 → Tot (fun σ => again σ (y0, y1, y2, ((), (), (), y3, ()), y4, y5, (y6, y7, y8, y9, ()), ())) (Q y0 y1 y2 y3 y4 y5 y6 y7 y8 y9)) →
      Tot (fun σ => B_Z66_L0b (σ 0) (F_Z52 (σ 0)) (again σ) a0 a1 a2 a3 a4 a5 a6 a7 a8 a9) (Q a0 a1 a2 a3 a4 a5 a6 a7 a8 a9)) :
    ∀ a0 a1 a2 a3 a4 a5 a6 a7 a8 a9, I a0 a1 a2 a3 a4 a5 a6 a7 a8 a9 → Tot (fun σ => B_Z66_L0 (σ 0) (F_Z52 (σ 0)) (σ 0) (a0, a1, a2, ((), (), (), a3, ()), a4, a5, (a6, a7, a8, a9, ()), ())) (Q a0 a1 a2 a3 a4 a5 a6 a7 a8 a9) := fun a0 a1 a2 a3 a4 a5 a6 a7 a8 a9 => Tot.loop0 (L := fun k => B_Z66_L0 k (F_Z52 k)) (B := fun k g => u_Z66_L0 (B_Z66_L0b k (F_Z52 k) g)) (Q := u_Z66_L0 Q) (fun _ _ _ => rfl) (u_Z66_L0 I) (u_Z66_L0 μ)
    (fun t ht again hag h => step t.1 t.2.1 t.2.2.1 t.2.2.2.1.2.2.2.1 t.2.2.2.2.1 t.2.2.2.2.2.1 t.2.2.2.2.2.2.1.1 t.2.2.2.2.2.2.1.2.1 t.2.2.2.2.2.2.1.2.2.1 t.2.2.2.2.2.2.1.2.2.2.1 ht again hag fun y0 y1 y2 y3 y4 y5 y6 y7 y8 y9 => h (y0, y1, y2, ((), (), (), y3, ()), y4, y5, (y6, y7, y8, y9, ()), ())) (a0, a1, a2, ((), (), (), a3, ()), a4, a5, (a6, a7, a8, a9, ()), ())
abbrev R_Z50 : Type := Option ((((List (Int × Int × List Int)) × List Int × List Int × Bool × Unit) × Bool × Unit) × (Unit))
abbrev C_Z50 : Type := (List (Int × Int × List Int)) → List Int → List Int → Bool → Int → Int → R_Z50
abbrev T_Z50_L1 : Type := ((List (Int × Int × List Int)) × List Int × List Int × Bool × Unit) × (Unit × Unit × Unit × Bool × Unit) × List Int × Int × Int × Unit
def B_Z50_J2 (k : Nat) (c_s_markAt : C_s_markAt) (c_Z47 : C_Z47) (c_s_drop : C_s_drop) (c_s_top : C_s_top) (c_s_push : C_s_push) (c_s_kindOf : C_s_kindOf) (c_Z46 : C_Z46) (c_Z66 : C_Z66) (m_Nodes : List (Int × Int × List Int)) (m_Stack m_Memo : List Int) (m_Done t4_Done : Bool) : R_Z50 :=
  some (((m_Nodes, m_Stack, m_Memo, m_Done, ()), true, ()), ())
def B_Z50_L1b (k : Nat) (c_s_markAt : C_s_markAt) (c_Z47 : C_Z47) (c_s_drop : C_s_drop) (c_s_top : C_s_top) (c_s_push : C_s_push) (c_s_kindOf : C_s_kindOf) (c_Z46 : C_Z46) (c_Z66 : C_Z66) (again1 : T_Z50_L1 → R_Z50) (m_Nodes : List (Int × Int × List Int)) (m_Stack m_Memo : List Int) (m_Done t4_Done : Bool) (list : List Int) (below i : Int) : R_Z50 :=
  bif decide (i < (len list)) then
    chk (inb i list.length) <|
    chk (decide (i.toNat < list.length)) <|
    chk (inb (w64 (i + 1)) list.length) <|
    chk (decide ((w64 (i + 1)).toNat < list.length)) <|
    (c_Z66 m_Nodes m_Stack m_Memo m_Done below (list.getD i.toNat (0 : Int)) (list.getD ((w64 (i + 1)).toNat) (0 : Int))).bind fun r86 =>
    again1 ((r86.1.1.1, r86.1.1.2.1, r86.1.1.2.2.1, r86.1.1.2.2.2.1, ()), ((), (), (), t4_Done, ()), list, below, w64 (i + 2), ())
  else
    jn (fun t => B_Z50_J2 k c_s_markAt c_Z47 c_s_drop c_s_top c_s_push c_s_kindOf c_Z46 c_Z66 t.1.1 t.1.2.1 t.1.2.2.1 t.1.2.2.2.1 t.2.1.2.2.2.1) ((m_Nodes, m_Stack, m_Memo, m_Done, ()), ((), (), (), t4_Done, ()), ())
def B_Z50_L1 (k : Nat) (c_s_markAt : C_s_markAt) (c_Z47 : C_Z47) (c_s_drop : C_s_drop) (c_s_top : C_s_top) (c_s_push : C_s_push) (c_s_kindOf : C_s_kindOf) (c_Z46 : C_Z46) (c_Z66 : C_Z66) (n : Nat) (t : T_Z50_L1) : R_Z50 :=
  lfix n (fun again t => B_Z50_L1b k c_s_markAt c_Z47 c_s_drop c_s_top c_s_push c_s_kindOf c_Z46 c_Z66 again t.1.1 t.1.2.1 t.1.2.2.1 t.1.2.2.2.1 t.2.1.2.2.2.1 t.2.2.1 t.2.2.2.1 t.2.2.2.2.1) t
def B_Z50_J0 (k : Nat) (c_s_markAt : C_s_markAt) (c_Z47 : C_Z47) (c_s_drop : C_s_drop) (c_s_top : C_s_top) (c_s_push : C_s_push) (c_s_kindOf : C_s_kindOf) (c_Z46 : C_Z46) (c_Z66 : C_Z66) (m_Nodes : List (Int × Int × List Int)) (m_Stack m_Memo : List Int) (m_Done t4_Done : Bool) (list : List Int) (below : Int) (t67 : Bool) : R_Z50 :=
  bif t67 then
    some (((m_Nodes, m_Stack, m_Memo, m_Done, ()), false, ()), ())
  else
    B_Z50_L1 k c_s_markAt c_Z47 c_s_drop c_s_top c_s_push c_s_kindOf c_Z46 c_Z66 k ((m_Nodes, m_Stack, m_Memo, m_Done, ()), ((), (), (), t4_Done, ()), list, below, 0, ())
def B_Z50 (k : Nat) (c_s_markAt : C_s_markAt) (c_Z47 : C_Z47) (c_s_drop : C_s_drop) (c_s_top : C_s_top) (c_s_push : C_s_push) (c_s_kindOf : C_s_kindOf) (c_Z46 : C_Z46) (c_Z66 : C_Z66) (m_0 : List (Int × Int × List Int)) (m_1 m_2 : List Int) (m_3 : Bool) (o_0 o_1 : Int) : R_Z50 :=
  (c_s_markAt m_0 m_1 m_2 m_3).bind fun r11 =>
  bif decide (r11.1.1 < 0) then
    some (((m_0, m_1, m_2, m_3, ()), false, ()), ())
  else
    chk (cutb (w64 (r11.1.1 + 1)) (len m_1) m_1.length) <|
    (c_Z47 ((m_1.take ((len m_1).toNat)).drop ((w64 (r11.1.1 + 1)).toNat))).bind fun r20 =>
    (c_s_drop m_0 m_1 m_2 m_3 (w64 ((len r20.1.1) + 1))).bind fun r25 =>
    (c_s_top r25.1.1.1 r25.1.1.2.1 r25.1.1.2.2.1 r25.1.1.2.2.2.1 0).bind fun r27 =>
    bif (o_0 == 3) then
      (c_s_push r25.1.1.1 r25.1.1.2.1 r25.1.1.2.2.1 r25.1.1.2.2.2.1 2 0 r20.1.1).bind fun r35 =>
      some (((r35.1.1.1, r35.1.1.2.1, r35.1.1.2.2.1, r35.1.1.2.2.2.1, ()), true, ()), ())
    else
      bif (o_0 == 9) then
        (c_s_kindOf r25.1.1.1 r25.1.1.2.1 r25.1.1.2.2.1 r25.1.1.2.2.2.1 r27.1.1).bind fun r40 =>
        bif (r40.1.1 != 3) then
          some (((r25.1.1.1, r25.1.1.2.1, r25.1.1.2.2.1, r25.1.1.2.2.2.1, ()), false, ()), ())
        else
          chk (inb r27.1.1 r25.1.1.1.length) <|
          chk (decide (r27.1.1.toNat < r25.1.1.1.length)) <|
          chk (room (((r25.1.1.1.getD r27.1.1.toNat ((0 : Int), ((0 : Int), ([] : List Int)))).2).2).length r20.1.1.length) <|
          chk (inb r27.1.1 r25.1.1.1.length) <|
          chk (decide (r27.1.1.toNat = r27.1.1.toNat)) <|
          let w1 : List (Int × Int × List Int) := (r25.1.1.1.set r27.1.1.toNat ((r25.1.1.1.getD r27.1.1.toNat ((0 : Int), ((0 : Int), ([] : List Int)))).1, (((r25.1.1.1.getD r27.1.1.toNat ((0 : Int), ((0 : Int), ([] : List Int)))).2).1, (((r25.1.1.1.getD r27.1.1.toNat ((0 : Int), ((0 : Int), ([] : List Int)))).2).2 ++ r20.1.1))))
          jn (fun t => B_Z50_J2 k c_s_markAt c_Z47 c_s_drop c_s_top c_s_push c_s_kindOf c_Z46 c_Z66 t.1.1 t.1.2.1 t.1.2.2.1 t.1.2.2.2.1 t.2.1.2.2.2.1) ((w1, r25.1.1.2.1, r25.1.1.2.2.1, r25.1.1.2.2.2.1, ()), ((), (), (), false, ()), ())
      else
        bif (o_0 == 12) then
          (c_s_kindOf r25.1.1.1 r25.1.1.2.1 r25.1.1.2.2.1 r25.1.1.2.2.2.1 r27.1.1).bind fun r60 =>
          bif (r60.1.1 != 4) then
            jn (fun t => B_Z50_J0 k c_s_markAt c_Z47 c_s_drop c_s_top c_s_push c_s_kindOf c_Z46 c_Z66 t.1.1 t.1.2.1 t.1.2.2.1 t.1.2.2.2.1 t.2.1.2.2.2.1 t.2.2.1 t.2.2.2.1 t.2.2.2.2.1) ((r25.1.1.1, r25.1.1.2.1, r25.1.1.2.2.1, r25.1.1.2.2.2.1, ()), ((), (), (), false, ()), r20.1.1, r27.1.1, true, ())
          else
            (c_Z46 r25.1.1.1 r25.1.1.2.1 r25.1.1.2.2.1 r25.1.1.2.2.2.1 r20.1.1).bind fun r65 =>
            jn (fun t => B_Z50_J0 k c_s_markAt c_Z47 c_s_drop c_s_top c_s_push c_s_kindOf c_Z46 c_Z66 t.1.1 t.1.2.1 t.1.2.2.1 t.1.2.2.2.1 t.2.1.2.2.2.1 t.2.2.1 t.2.2.2.1 t.2.2.2.2.1) ((r25.1.1.1, r25.1.1.2.1, r25.1.1.2.2.1, r25.1.1.2.2.2.1, ()), ((), (), (), false, ()), r20.1.1, r27.1.1, (!r65.1.1), ())
        else
          jn (fun t => B_Z50_J2 k c_s_markAt c_Z47 c_s_drop c_s_top c_s_push c_s_kindOf c_Z46 c_Z66 t.1.1 t.1.2.1 t.1.2.2.1 t.1.2.2.2.1 t.2.1.2.2.2.1) ((r25.1.1.1, r25.1.1.2.1, r25.1.1.2.2.1, r25.1.1.2.2.2.1, ()), ((), (), (), false, ()), ())
def F_Z50 : Nat → C_Z50
  | 0, _, _, _, _, _, _ => none
  | k + 1, m_0, m_1, m_2, m_3, o_0, o_1 => B_Z50 k (F_s_markAt k) (F_Z47 k) (F_s_drop k) (F_s_top k) (F_s_push k) (F_s_kindOf k) (F_Z46 k) (F_Z66 k) m_0 m_1 m_2 m_3 o_0 o_1
theorem tot_Z50 {m_0 m_1 m_2 m_3 o_0 o_1 : _} {Q : _ → Prop} (h : Tot (fun σ => B_Z50 (σ 0) (F_s_markAt (σ 0)) (F_Z47 (σ 0)) (F_s_drop (σ 0)) (F_s_top (σ 0)) (F_s_push (σ 0)) (F_s_kindOf (σ 0)) (F_Z46 (σ 0)) (F_Z66 (σ 0)) m_0 m_1 m_2 m_3 o_0 o_1) Q) : Tot (fun σ => F_Z50 (σ 0) m_0 m_1 m_2 m_3 o_0 o_1) Q :=
  Tot.call (F := fun k => F_Z50 k m_0 m_1 m_2 m_3 o_0 o_1) (B := fun k => B_Z50 k (F_s_markAt k) (F_Z47 k) (F_s_drop k) (F_s_top k) (F_s_push k) (F_s_kindOf k) (F_Z46 k) (F_Z66 k) m_0 m_1 m_2 m_3 o_0 o_1) (fun k => rfl) h
abbrev A_Z50_L1 (Z : Type) : Type := (List (Int × Int × List Int)) → List Int → List Int → Bool → Bool → List Int → Int → Int → Z
abbrev u_Z50_L1 {Z : Type} (f : A_Z50_L1 Z) (t : T_Z50_L1) : Z := f t.1.1 t.1.2.1 t.1.2.2.1 t.1.2.2.2.1 t.2.1.2.2.2.1 t.2.2.1 t.2.2.2.1 t.2.2.2.2.1
theorem loop_Z50_L1 {Q : A_Z50_L1 (((((List (Int × Int × List Int)) × List Int × List Int × Bool × Unit) × Bool × Unit) × (Unit)) → Prop)} (I : A_Z50_L1 Prop) (μ : A_Z50_L1 Nat)
    (step : ∀ a0 a1 a2 a3 a4 a5 a6 a7, I a0 a1 a2 a3 a4 a5 a6 a7 → ∀ again : (Nat → Nat) → T_Z50_L1 → R_Z50, Dep 2 again → (∀ y0 y1 y2 y3 y4 y5 y6 y7, I y0 y1 y2 y3 y4 y5 y6 y7 → μ y0 y1 y2 y3 y4 y5 y6 y7 < μ a0 a1 a2 a3 a4 a5 a6 a7 → Tot (fun σ => again σ ((y0, y1, y2, y3, ()), ((), (), (), y4, ()), y5, y6, y7, ())) (Q y0 y1 y2 y3 y4 y5 y6 y7)) →
      Tot (fun σ => B_Z50_L1b (σ 0) (F_s_markAt (σ 0)) (F_Z47 (σ 0)) (F_s_drop (σ 0)) (F_s_top (σ 0)) (F_s_push (σ 0)) (F_s_kindOf (σ 0)) (F_Z46 (σ 0)) (F_Z66 (σ 0)) (again σ) a0 a1 a2 a3 a4 a5 a6 a7) (Q a0 a1 a2 a3 a4 a5 a6 a7)) :
    ∀ a0 a1 a2 a3 a4 a5 a6 a7, I a0 a1 a2 a3 a4 a5 a6 a7 → Tot (fun σ => B_Z50_L1 (σ 0) (F_s_markAt (σ 0)) (F_Z47 (σ 0)) (F_s_drop (σ 0)) (F_s_top (σ 0)) (F_s_push (σ 0)) (F_s_kindOf (σ 0)) (F_Z46 (σ 0)) (F_Z66 (σ 0)) (σ 0) ((a0, a1, a2, a3, ()), ((), (), (), a4, ()), a5, a6, a7, ())) (Q a0 a1 a2 a3 a4 a5 a6 a7) := fun a0 a1 a2 a3 a4 a5 a6 a7 => Tot.loop0 (L := fun k => B_Z50_L1 k (F_s_markAt k) (F_Z47 k) (F_s_drop k) (F_s_top k) (F_s_push k) (F_s_kindOf k) (F_Z46 k) (F_Z66 k)) (B := fun k g => u_Z50_L1 (B_Z50_L1b k (F_s_markAt k) (F_Z47 k) (F_s_drop k) (F_s_top k) (F_s_push k) (F_s_kindOf k) (F_Z46 k) (F_Z66 k) g)) (Q := u_Z50_L1 Q) (fun _ _ _ => rfl) (u_Z50_L1 I) (u_Z50_L1 μ)
    (fun t ht again hag h => step t.1.1 t.1.2.1 t.1.2.2.1 t.1.2.2.2.1 t.2.1.2.2.2.1 t.2.2.1 t.2.2.2.1 t.2.2.2.2.1 ht again hag fun y0 y1 y2 y3 y4 y5 y6 y7 => h ((y0, y1, y2, y3, ()), ((), (), (), y4, ()), y5, y6, y7, ())) ((a0, a1, a2, a3, ()), ((), (), (), a4, ()), a5, a6, a7, ())
abbrev R_Z63 : Type := Option ((((List (Int × Int × List Int)) × List Int × List Int × Bool × Unit) × Bool × Unit) × (Unit))
abbrev C_Z63 : Type := (List (Int × Int × List Int)) → List Int → List Int → Bool → Int → Int → R_Z63
def B_Z63_J0 (k : Nat) (c_s_top : C_s_top) (c_s_drop : C_s_drop) (c_s_push : C_s_push) (c_s_kindOf : C_s_kindOf) (c_s_isKey : C_s_isKey) (c_Z66 : C_Z66) (m_Nodes : List (Int × Int × List Int)) (m_Stack m_Memo : List Int) (m_Done t4_Done : Bool) (a b c : Int) (t81 : Bool) : R_Z63 :=
  bif t81 then
    some (((m_Nodes, m_Stack, m_Memo, m_Done, ()), false, ()), ())
  else
    (c_Z66 m_Nodes m_Stack m_Memo m_Done c b a).bind fun r87 =>
    (c_s_drop r87.1.1.1 r87.1.1.2.1 r87.1.1.2.2.1 r87.1.1.2.2.2.1 2).bind fun r88 =>
    some (((r88.1.1.1, r88.1.1.2.1, r88.1.1.2.2.1, r88.1.1.2.2.2.1, ()), true, ()), ())
def B_Z63_J1 (k : Nat) (c_s_top : C_s_top) (c_s_drop : C_s_drop) (c_s_push : C_s_push) (c_s_kindOf : C_s_kindOf) (c_s_isKey : C_s_isKey) (c_Z66 : C_Z66) (m_Nodes : List (Int × Int × List Int)) (m_Stack m_Memo : List Int) (m_Done t4_Done : Bool) (a b : Int) (t104 : Bool) : R_Z63 :=
  bif t104 then
    some (((m_Nodes, m_Stack, m_Memo, m_Done, ()), false, ()), ())
  else
    chk (inb b m_Nodes.length) <|
    chk (decide (b.toNat < m_Nodes.length)) <|
    (c_s_drop (m_Nodes.set b.toNat ((m_Nodes.getD b.toNat ((0 : Int), ((0 : Int), ([] : List Int)))).1, (((m_Nodes.getD b.toNat ((0 : Int), ((0 : Int), ([] : List Int)))).2).1, [a]))) m_Stack m_Memo m_Done 1).bind fun r114 =>
    some (((r114.1.1.1, r114.1.1.2.1, r114.1.1.2.2.1, r114.1.1.2.2.2.1, ()), true, ()), ())
def B_Z63 (k : Nat) (c_s_top : C_s_top) (c_s_drop : C_s_drop) (c_s_push : C_s_push) (c_s_kindOf : C_s_kindOf) (c_s_isKey : C_s_isKey) (c_Z66 : C_Z66) (m_0 : List (Int × Int × List Int)) (m_1 m_2 : List Int) (m_3 : Bool) (o_0 o_1 : Int) : R_Z63 :=
  (c_s_top m_0 m_1 m_2 m_3 0).bind fun r10 =>
  (c_s_top m_0 m_1 m_2 m_3 1).bind fun r12 =>
  (c_s_top m_0 m_1 m_2 m_3 2).bind fun r14 =>
  bif decide (r10.1.1 < 0) then
    some (((m_0, m_1, m_2, m_3, ()), false, ()), ())
  else
    bif (o_0 == 5) then
      (c_s_drop m_0 m_1 m_2 m_3 1).bind fun r23 =>
      (c_s_push r23.1.1.1 r23.1.1.2.1 r23.1.1.2.2.1 r23.1.1.2.2.2.1 2 0 ([r10.1.1])).bind fun r27 =>
      some (((r27.1.1.1, r27.1.1.2.1, r27.1.1.2.2.1, r27.1.1.2.2.2.1, ()), true, ()), ())
    else
      bif (o_0 == 6) then
        bif decide (r12.1.1 < 0) then
          some (((m_0, m_1, m_2, m_3, ()), false, ()), ())
        else
          (c_s_drop m_0 m_1 m_2 m_3 2).bind fun r34 =>
          (c_s_push r34.1.1.1 r34.1.1.2.1 r34.1.1.2.2.1 r34.1.1.2.2.2.1 2 0 ([r12.1.1, r10.1.1])).bind fun r39 =>
          some (((r39.1.1.1, r39.1.1.2.1, r39.1.1.2.2.1, r39.1.1.2.2.2.1, ()), true, ()), ())
      else
        bif (o_0 == 8) then
          (c_s_kindOf m_0 m_1 m_2 m_3 r12.1.1).bind fun r44 =>
          bif (r44.1.1 != 3) then
            some (((m_0, m_1, m_2, m_3, ()), false, ()), ())
          else
            chk (inb r12.1.1 m_0.length) <|
            chk (decide (r12.1.1.toNat < m_0.length)) <|
            chk (room (((m_0.getD r12.1.1.toNat ((0 : Int), ((0 : Int), ([] : List Int)))).2).2).length ([r10.1.1]).length) <|
            chk (inb r12.1.1 m_0.length) <|
            chk (decide (r12.1.1.toNat = r12.1.1.toNat)) <|
            let w0 : List (Int × Int × List Int) := (m_0.set r12.1.1.toNat ((m_0.getD r12.1.1.toNat ((0 : Int), ((0 : Int), ([] : List Int)))).1, (((m_0.getD r12.1.1.toNat ((0 : Int), ((0 : Int), ([] : List Int)))).2).1, (((m_0.getD r12.1.1.toNat ((0 : Int), ((0 : Int), ([] : List Int)))).2).2 ++ [r10.1.1]))))
            (c_s_drop w0 m_1 m_2 m_3 1).bind fun r62 =>
            some (((r62.1.1.1, r62.1.1.2.1, r62.1.1.2.2.1, r62.1.1.2.2.2.1, ()), true, ()), ())
        else
          bif (o_0 == 11) then
            bif decide (r12.1.1 < 0) then
              jn (fun t => B_Z63_J0 k c_s_top c_s_drop c_s_push c_s_kindOf c_s_isKey c_Z66 t.1.1 t.1.2.1 t.1.2.2.1 t.1.2.2.2.1 t.2.1.2.2.2.1 t.2.2.1 t.2.2.2.1 t.2.2.2.2.1 t.2.2.2.2.2.1) ((m_0, m_1, m_2, m_3, ()), ((), (), (), false, ()), r10.1.1, r12.1.1, r14.1.1, true, ())
            else
              (c_s_kindOf m_0 m_1 m_2 m_3 r14.1.1).bind fun r70 =>
              bif (r70.1.1 != 4) then
                jn (fun t => B_Z63_J0 k c_s_top c_s_drop c_s_push c_s_kindOf c_s_isKey c_Z66 t.1.1 t.1.2.1 t.1.2.2.1 t.1.2.2.2.1 t.2.1.2.2.2.1 t.2.2.1 t.2.2.2.1 t.2.2.2.2.1 t.2.2.2.2.2.1) ((m_0, m_1, m_2, m_3, ()), ((), (), (), false, ()), r10.1.1, r12.1.1, r14.1.1, true, ())
              else
                chk (inb r12.1.1 m_0.length) <|
                chk (decide (r12.1.1.toNat < m_0.length)) <|
                (c_s_isKey ((m_0.getD r12.1.1.toNat ((0 : Int), ((0 : Int), ([] : List Int)))).1) (((m_0.getD r12.1.1.toNat ((0 : Int), ((0 : Int), ([] : List Int)))).2).1)).bind fun r79 =>
                jn (fun t => B_Z63_J0 k c_s_top c_s_drop c_s_push c_s_kindOf c_s_isKey c_Z66 t.1.1 t.1.2.1 t.1.2.2.1 t.1.2.2.2.1 t.2.1.2.2.2.1 t.2.2.1 t.2.2.2.1 t.2.2.2.2.1 t.2.2.2.2.2.1) ((m_0, m_1, m_2, m_3, ()), ((), (), (), false, ()), r10.1.1, r12.1.1, r14.1.1, (!r79.1.1), ())
          else
            bif (o_0 == 14) then
              (c_s_kindOf m_0 m_1 m_2 m_3 r12.1.1).bind fun r93 =>
              bif (r93.1.1 != 5) then
                jn (fun t => B_Z63_J1 k c_s_top c_s_drop c_s_push c_s_kindOf c_s_isKey c_Z66 t.1.1 t.1.2.1 t.1.2.2.1 t.1.2.2.2.1 t.2.1.2.2.2.1 t.2.2.1 t.2.2.2.1 t.2.2.2.2.1) ((m_0, m_1, m_2, m_3, ()), ((), (), (), false, ()), r10.1.1, r12.1.1, true, ())
              else
                chk (inb r12.1.1 m_0.length) <|
                chk (decide (r12.1.1.toNat < m_0.length)) <|
                let v103 : Bool := decide ((len (((m_0.getD r12.1.1.toNat ((0 : Int), ((0 : Int), ([] : List Int)))).2).2)) > 0)
                let w2 : List (Int × Int × List Int) := (m_0.set r12.1.1.toNat ((m_0.getD r12.1.1.toNat ((0 : Int), ((0 : Int), ([] : List Int)))).1, (((m_0.getD r12.1.1.toNat ((0 : Int), ((0 : Int), ([] : List Int)))).2).1, ((m_0.getD r12.1.1.toNat ((0 : Int), ((0 : Int), ([] : List Int)))).2).2)))
                jn (fun t => B_Z63_J1 k c_s_top c_s_drop c_s_push c_s_kindOf c_s_isKey c_Z66 t.1.1 t.1.2.1 t.1.2.2.1 t.1.2.2.2.1 t.2.1.2.2.2.1 t.2.2.1 t.2.2.2.1 t.2.2.2.2.1) ((w2, m_1, m_2, m_3, ()), ((), (), (), false, ()), r10.1.1, r12.1.1, v103, ())
            else
              bif (o_0 == 15) then
                chk (inb o_1 m_2.length) <|
                chk (decide (o_1.toNat < m_2.length)) <|
                some (((m_0, m_1, (m_2.set o_1.toNat r10.1.1), m_3, ()), true, ()), ())
              else
                bif (o_0 == 17) then
                  (c_s_drop m_0 m_1 m_2 m_3 1).bind fun r127 =>
                  some (((r127.1.1.1, r127.1.1.2.1, r127.1.1.2.2.1, r127.1.1.2.2.2.1, ()), true, ()), ())
                else
                  some (((m_0, m_1, m_2, true, ()), ((len m_1) == 1), ()), ())
def F_Z63 : Nat → C_Z63
  | 0, _, _, _, _, _, _ => none
  | k + 1, m_0, m_1, m_2, m_3, o_0, o_1 => B_Z63 k (F_s_top k) (F_s_drop k) (F_s_push k) (F_s_kindOf k) (F_s_isKey k) (F_Z66 k) m_0 m_1 m_2 m_3 o_0 o_1
theorem tot_Z63 {m_0 m_1 m_2 m_3 o_0 o_1 : _} {Q : _ → Prop} (h : Tot (fun σ => B_Z63 (σ 0) (F_s_top (σ 0)) (F_s_drop (σ 0)) (F_s_push (σ 0)) (F_s_kindOf (σ 0)) (F_s_isKey (σ 0)) (F_Z66 (σ 0)) m_0 m_1 m_2 m_3 o_0 o_1) Q) : Tot (fun σ => F_Z63 (σ 0) m_0 m_1 m_2 m_3 o_0 o_1) Q :=
  Tot.call (F := fun k => F_Z63 k m_0 m_1 m_2 m_3 o_0 o_1) (B := fun k => B_Z63 k (F_s_top k) (F_s_drop k) (F_s_push k) (F_s_kindOf k) (F_s_isKey k) (F_Z66 k) m_0 m_1 m_2 m_3 o_0 o_1) (fun k => rfl) h
abbrev R_s_step : Type := Option ((((Option (List (Int × Int × List Int))) × Option (List Int) × Option (List Int) × Bool × Unit) × Bool × Unit) × (Unit))
abbrev C_s_step : Type := (List (Int × Int × List Int)) → List Int → List Int → Bool → Int → Int → R_s_step
def B_s_step_J1 (k : Nat) (c_s_push : C_s_push) (c_Z50 : C_Z50) (c_Z63 : C_Z63) (m_Nodes : List (Int × Int × List Int)) (m_Stack m_Memo : List Int) (m_Done t4_Done : Bool) : R_s_step :=
  bif decide ((len m_Nodes) ≤ 300) then
    some ((((some m_Nodes), (some m_Stack), (some m_Memo), m_Done, ()), decide ((len m_Stack) ≤ 300), ()), ())
  else
    some ((((some m_Nodes), (some m_Stack), (some m_Memo), m_Done, ()), false, ()), ())
def B_s_step_J0 (k : Nat) (c_s_push : C_s_push) (c_Z50 : C_Z50) (c_Z63 : C_Z63) (m_Nodes : List (Int × Int × List Int)) (m_Stack m_Memo : List Int) (m_Done : Bool) (o_Code o_Arg : Int) (t4_Done t89 : Bool) : R_s_step :=
  bif t89 then
    (c_Z50 m_Nodes m_Stack m_Memo m_Done o_Code o_Arg).bind fun r97 =>
    bif (!r97.1.2.1) then
      some (((none, none, none, m_Done, ()), false, ()), ())
    else
      jn (fun t => B_s_step_J1 k c_s_push c_Z50 c_Z63 t.1.1 t.1.2.1 t.1.2.2.1 t.1.2.2.2.1 t.2.1.2.2.2.1) ((r97.1.1.1, r97.1.1.2.1, r97.1.1.2.2.1, r97.1.1.2.2.2.1, ()), ((), (), (), t4_Done, ()), ())
  else
    (c_Z63 m_Nodes m_Stack m_Memo m_Done o_Code o_Arg).bind fun r18 =>
    bif (!r18.1.2.1) then
      some (((none, none, none, m_Done, ()), false, ()), ())
    else
      jn (fun t => B_s_step_J1 k c_s_push c_Z50 c_Z63 t.1.1 t.1.2.1 t.1.2.2.1 t.1.2.2.2.1 t.2.1.2.2.2.1) ((r18.1.1.1, r18.1.1.2.1, r18.1.1.2.2.1, r18.1.1.2.2.2.1, ()), ((), (), (), t4_Done, ()), ())
def B_s_step (k : Nat) (c_s_push : C_s_push) (c_Z50 : C_Z50) (c_Z63 : C_Z63) (m_0 : List (Int × Int × List Int)) (m_1 m_2 : List Int) (m_3 : Bool) (o_0 o_1 : Int) : R_s_step :=
  bif m_3 then
    some ((((some m_0), (some m_1), (some m_2), m_3, ()), false, ()), ())
  else
    bif (o_0 == 0) then
      (c_s_push m_0 m_1 m_2 m_3 0 o_1 ([])).bind fun r31 =>
      jn (fun t => B_s_step_J1 k c_s_push c_Z50 c_Z63 t.1.1 t.1.2.1 t.1.2.2.1 t.1.2.2.2.1 t.2.1.2.2.2.1) ((r31.1.1.1, r31.1.1.2.1, r31.1.1.2.2.1, r31.1.1.2.2.2.1, ()), ((), (), (), false, ()), ())
    else
      bif (o_0 == 1) then
        (c_s_push m_0 m_1 m_2 m_3 1 o_1 ([])).bind fun r38 =>
        jn (fun t => B_s_step_J1 k c_s_push c_Z50 c_Z63 t.1.1 t.1.2.1 t.1.2.2.1 t.1.2.2.2.1 t.2.1.2.2.2.1) ((r38.1.1.1, r38.1.1.2.1, r38.1.1.2.2.1, r38.1.1.2.2.2.1, ()), ((), (), (), false, ()), ())
      else
        bif (o_0 == 4) then
          (c_s_push m_0 m_1 m_2 m_3 2 0 ([])).bind fun r43 =>
          jn (fun t => B_s_step_J1 k c_s_push c_Z50 c_Z63 t.1.1 t.1.2.1 t.1.2.2.1 t.1.2.2.2.1 t.2.1.2.2.2.1) ((r43.1.1.1, r43.1.1.2.1, r43.1.1.2.2.1, r43.1.1.2.2.2.1, ()), ((), (), (), false, ()), ())
        else
          bif (o_0 == 7) then
            (c_s_push m_0 m_1 m_2 m_3 3 0 ([])).bind fun r48 =>
            jn (fun t => B_s_step_J1 k c_s_push c_Z50 c_Z63 t.1.1 t.1.2.1 t.1.2.2.1 t.1.2.2.2.1 t.2.1.2.2.2.1) ((r48.1.1.1, r48.1.1.2.1, r48.1.1.2.2.1, r48.1.1.2.2.2.1, ()), ((), (), (), false, ()), ())
          else
            bif (o_0 == 10) then
              (c_s_push m_0 m_1 m_2 m_3 4 0 ([])).bind fun r53 =>
              jn (fun t => B_s_step_J1 k c_s_push c_Z50 c_Z63 t.1.1 t.1.2.1 t.1.2.2.1 t.1.2.2.2.1 t.2.1.2.2.2.1) ((r53.1.1.1, r53.1.1.2.1, r53.1.1.2.2.1, r53.1.1.2.2.2.1, ()), ((), (), (), false, ()), ())
            else
              bif (o_0 == 13) then
                (c_s_push m_0 m_1 m_2 m_3 5 o_1 ([])).bind fun r60 =>
                jn (fun t => B_s_step_J1 k c_s_push c_Z50 c_Z63 t.1.1 t.1.2.1 t.1.2.2.1 t.1.2.2.2.1 t.2.1.2.2.2.1) ((r60.1.1.1, r60.1.1.2.1, r60.1.1.2.2.1, r60.1.1.2.2.2.1, ()), ((), (), (), false, ()), ())
              else
                bif (o_0 == 2) then
                  chk (room m_1.length ([(-1)]).length) <|
                  jn (fun t => B_s_step_J1 k c_s_push c_Z50 c_Z63 t.1.1 t.1.2.1 t.1.2.2.1 t.1.2.2.2.1 t.2.1.2.2.2.1) ((m_0, (m_1 ++ [(-1)]), m_2, m_3, ()), ((), (), (), false, ()), ())
                else
                  bif (o_0 == 16) then
                    chk (inb o_1 m_2.length) <|
                    chk (decide (o_1.toNat < m_2.length)) <|
                    bif decide ((m_2.getD o_1.toNat (0 : Int)) < 0) then
                      some ((((some m_0), (some m_1), (some m_2), m_3, ()), false, ()), ())
                    else
                      chk (inb o_1 m_2.length) <|
                      chk (decide (o_1.toNat < m_2.length)) <|
                      chk (room m_1.length ([(m_2.getD o_1.toNat (0 : Int))]).length) <|
                      jn (fun t => B_s_step_J1 k c_s_push c_Z50 c_Z63 t.1.1 t.1.2.1 t.1.2.2.1 t.1.2.2.2.1 t.2.1.2.2.2.1) ((m_0, (m_1 ++ [(m_2.getD o_1.toNat (0 : Int))]), m_2, m_3, ()), ((), (), (), false, ()), ())
                  else
                    bif (o_0 == 3) then
                      jn (fun t => B_s_step_J0 k c_s_push c_Z50 c_Z63 t.1.1 t.1.2.1 t.1.2.2.1 t.1.2.2.2.1 t.2.1.1 t.2.1.2.1 t.2.2.1.2.2.2.1 t.2.2.2.1) ((m_0, m_1, m_2, m_3, ()), (o_0, o_1, ()), ((), (), (), false, ()), (o_0 == 3), ())
                    else
                      bif (o_0 == 9) then
                        jn (fun t => B_s_step_J0 k c_s_push c_Z50 c_Z63 t.1.1 t.1.2.1 t.1.2.2.1 t.1.2.2.2.1 t.2.1.1 t.2.1.2.1 t.2.2.1.2.2.2.1 t.2.2.2.1) ((m_0, m_1, m_2, m_3, ()), (o_0, o_1, ()), ((), (), (), false, ()), (o_0 == 9), ())
                      else
                        bif (o_0 == 12) then
                          jn (fun t => B_s_step_J0 k c_s_push c_Z50 c_Z63 t.1.1 t.1.2.1 t.1.2.2.1 t.1.2.2.2.1 t.2.1.1 t.2.1.2.1 t.2.2.1.2.2.2.1 t.2.2.2.1) ((m_0, m_1, m_2, m_3, ()), (o_0, o_1, ()), ((), (), (), false, ()), (o_0 == 12), ())
                        else
                          jn (fun t => B_s_step_J0 k c_s_push c_Z50 c_Z63 t.1.1 t.1.2.1 t.1.2.2.1 t.1.2.2.2.1 t.2.1.1 t.2.1.2.1 t.2.2.1.2.2.2.1 t.2.2.2.1) ((m_0, m_1, m_2, m_3, ()), (o_0, o_1, ()), ((), (), (), false, ()), (o_0 == 18), ())
def F_s_step : Nat → C_s_step
  | 0, _, _, _, _, _, _ => none
  | k + 1, m_0, m_1, m_2, m_3, o_0, o_1 => B_s_step k (F_s_push k) (F_Z50 k) (F_Z63 k) m_0 m_1 m_2 m_3 o_0 o_1
theorem tot_s_step {m_0 m_1 m_2 m_3 o_0 o_1 : _} {Q : _ → Prop} (h : Tot (fun σ => B_s_step (σ 0) (F_s_push (σ 0)) (F_Z50 (σ 0)) (F_Z63 (σ 0)) m_0 m_1 m_2 m_3 o_0 o_1) Q) : Tot (fun σ => F_s_step (σ 0) m_0 m_1 m_2 m_3 o_0 o_1) Q :=
  Tot.call (F := fun k => F_s_step k m_0 m_1 m_2 m_3 o_0 o_1) (B := fun k => B_s_step k (F_s_push k) (F_Z50 k) (F_Z63 k) m_0 m_1 m_2 m_3 o_0 o_1) (fun k => rfl) h
abbrev R_s_many : Type := Option ((((List (Int × Int × List Int)) × List Int × List Int × Bool × Unit) × List Int × Int × Unit) × (Unit))
abbrev C_s_many : Type := (List (Int × Int)) → R_s_many
abbrev T_s_many_L4 : Type := (List (Int × Int)) × (Unit × Unit × Unit × Bool × Unit) × ((List (Int × Int × List Int)) × List Int × List Int × Bool × Unit) × ((List (Int × Int × List Int)) × List Int × List Int × Bool × Unit) × List Int × Int × Int × Unit
def B_s_many_J5 (k : Nat) (c_Z26 : C_Z26) (c_Z13 : C_Z13) (c_s_step : C_s_step) (t2_Done : Bool) (saved_Nodes : List (Int × Int × List Int)) (saved_Stack saved_Memo : List Int) (saved_Done : Bool) (roots : List Int) (end8 : Int) : R_s_many :=
  some (((saved_Nodes, saved_Stack, saved_Memo, saved_Done, ()), roots, end8, ()), ())
def B_s_many_J3 (k : Nat) (c_Z26 : C_Z26) (c_Z13 : C_Z13) (c_s_step : C_s_step) (again4 : T_s_many_L4 → R_s_many) (ops : List (Int × Int)) (t2_Done : Bool) (m_Nodes : List (Int × Int × List Int)) (m_Stack m_Memo : List Int) (m_Done : Bool) (saved_Nodes : List (Int × Int × List Int)) (saved_Stack saved_Memo : List Int) (saved_Done : Bool) (roots : List Int) (end8 i : Int) : R_s_many :=
  again4 (ops, ((), (), (), t2_Done, ()), (m_Nodes, m_Stack, m_Memo, m_Done, ()), (saved_Nodes, saved_Stack, saved_Memo, saved_Done, ()), roots, end8, w64 (i + 1), ())
def B_s_many_J2 (k : Nat) (c_Z26 : C_Z26) (c_Z13 : C_Z13) (c_s_step : C_s_step) (again4 : T_s_many_L4 → R_s_many) (ops : List (Int × Int)) (t2_Done : Bool) (m_Nodes : List (Int × Int × List Int)) (m_Stack m_Memo : List Int) (m_Done : Bool) (saved_Nodes : List (Int × Int × List Int)) (saved_Stack saved_Memo : List Int) (saved_Done : Bool) (roots : List Int) (i : Int) : R_s_many :=
  jn (fun t => B_s_many_J3 k c_Z26 c_Z13 c_s_step again4 t.1 t.2.1.2.2.2.1 t.2.2.1.1 t.2.2.1.2.1 t.2.2.1.2.2.1 t.2.2.1.2.2.2.1 t.2.2.2.1.1 t.2.2.2.1.2.1 t.2.2.2.1.2.2.1 t.2.2.2.1.2.2.2.1 t.2.2.2.2.1 t.2.2.2.2.2.1 t.2.2.2.2.2.2.1) (ops, ((), (), (), t2_Done, ()), (m_Nodes, m_Stack, m_Memo, m_Done, ()), (m_Nodes, m_Stack, m_Memo, m_Done, ()), roots, w64 (i + 1), i, ())
def B_s_many_J1 (k : Nat) (c_Z26 : C_Z26) (c_Z13 : C_Z13) (c_s_step : C_s_step) (again4 : T_s_many_L4 → R_s_many) (ops : List (Int × Int)) (t2_Done : Bool) (m_Nodes : List (Int × Int × List Int)) (m_Stack m_Memo : List Int) (m_Done : Bool) (saved_Nodes : List (Int × Int × List Int)) (saved_Stack saved_Memo : List Int) (saved_Done : Bool) (roots : List Int) (end8 i : Int) : R_s_many :=
  bif m_Done then
    chk (inb 0 m_Stack.length) <|
    chk (room roots.length ([(rdx (0 : Int) m_Stack 0)]).length) <|
    jn (fun t => B_s_many_J2 k c_Z26 c_Z13 c_s_step again4 t.1 t.2.1.2.2.2.1 t.2.2.1.1 t.2.2.1.2.1 t.2.2.1.2.2.1 t.2.2.1.2.2.2.1 t.2.2.2.1.1 t.2.2.2.1.2.1 t.2.2.2.1.2.2.1 t.2.2.2.1.2.2.2.1 t.2.2.2.2.1 t.2.2.2.2.2.1) (ops, ((), (), (), t2_Done, ()), (m_Nodes, [], m_Memo, false, ()), (saved_Nodes, saved_Stack, saved_Memo, saved_Done, ()), (roots ++ [(rdx (0 : Int) m_Stack 0)]), i, ())
  else
    jn (fun t => B_s_many_J3 k c_Z26 c_Z13 c_s_step again4 t.1 t.2.1.2.2.2.1 t.2.2.1.1 t.2.2.1.2.1 t.2.2.1.2.2.1 t.2.2.1.2.2.2.1 t.2.2.2.1.1 t.2.2.2.1.2.1 t.2.2.2.1.2.2.1 t.2.2.2.1.2.2.2.1 t.2.2.2.2.1 t.2.2.2.2.2.1 t.2.2.2.2.2.2.1) (ops, ((), (), (), t2_Done, ()), (m_Nodes, m_Stack, m_Memo, m_Done, ()), (saved_Nodes, saved_Stack, saved_Memo, saved_Done, ()), roots, end8, i, ())
def B_s_many_L4b (k : Nat) (c_Z26 : C_Z26) (c_Z13 : C_Z13) (c_s_step : C_s_step) (again4 : T_s_many_L4 → R_s_many) (ops : List (Int × Int)) (t2_Done : Bool) (m_Nodes : List (Int × Int × List Int)) (m_Stack m_Memo : List Int) (m_Done : Bool) (saved_Nodes : List (Int × Int × List Int)) (saved_Stack saved_Memo : List Int) (saved_Done : Bool) (roots : List Int) (end8 i : Int) : R_s_many :=
  bif decide (i < (len ops)) then
    (c_Z13 m_Nodes m_Stack m_Memo m_Done).bind fun r23 =>
    chk (inb i ops.length) <|
    (c_s_step r23.1.1.1 r23.1.1.2.1 r23.1.1.2.2.1 r23.1.1.2.2.2.1 ((rdx ((0 : Int), (0 : Int)) ops i).1) ((rdx ((0 : Int), (0 : Int)) ops i).2)).bind fun r28 =>
    bif (!r28.1.2.1) then
      jn (fun t => B_s_many_J5 k c_Z26 c_Z13 c_s_step t.1.2.2.2.1 t.2.1.1 t.2.1.2.1 t.2.1.2.2.1 t.2.1.2.2.2.1 t.2.2.1 t.2.2.2.1) (((), (), (), t2_Done, ()), (saved_Nodes, saved_Stack, saved_Memo, saved_Done, ()), roots, end8, ())
    else
      (r28.1.1.1).bind fun p69 =>
      (r28.1.1.2.1).bind fun p70 =>
      (r28.1.1.2.2.1).bind fun p71 =>
      jn (fun t => B_s_many_J1 k c_Z26 c_Z13 c_s_step again4 t.1 t.2.1.2.2.2.1 t.2.2.1.1 t.2.2.1.2.1 t.2.2.1.2.2.1 t.2.2.1.2.2.2.1 t.2.2.2.1.1 t.2.2.2.1.2.1 t.2.2.2.1.2.2.1 t.2.2.2.1.2.2.2.1 t.2.2.2.2.1 t.2.2.2.2.2.1 t.2.2.2.2.2.2.1) (ops, ((), (), (), t2_Done, ()), (p69, p70, p71, r28.1.1.2.2.2.1, ()), (saved_Nodes, saved_Stack, saved_Memo, saved_Done, ()), roots, end8, i, ())
  else
    jn (fun t => B_s_many_J5 k c_Z26 c_Z13 c_s_step t.1.2.2.2.1 t.2.1.1 t.2.1.2.1 t.2.1.2.2.1 t.2.1.2.2.2.1 t.2.2.1 t.2.2.2.1) (((), (), (), t2_Done, ()), (saved_Nodes, saved_Stack, saved_Memo, saved_Done, ()), roots, end8, ())
def B_s_many_L4 (k : Nat) (c_Z26 : C_Z26) (c_Z13 : C_Z13) (c_s_step : C_s_step) (n : Nat) (t : T_s_many_L4) : R_s_many :=
  lfix n (fun again t => B_s_many_L4b k c_Z26 c_Z13 c_s_step again t.1 t.2.1.2.2.2.1 t.2.2.1.1 t.2.2.1.2.1 t.2.2.1.2.2.1 t.2.2.1.2.2.2.1 t.2.2.2.1.1 t.2.2.2.1.2.1 t.2.2.2.1.2.2.1 t.2.2.2.1.2.2.2.1 t.2.2.2.2.1 t.2.2.2.2.2.1 t.2.2.2.2.2.2.1) t
def B_s_many_J0 (k : Nat) (c_Z26 : C_Z26) (c_Z13 : C_Z13) (c_s_step : C_s_step) (ops : List (Int × Int)) (t2_Done : Bool) (m_Memo : List Int) (m_Done : Bool) : R_s_many :=
  B_s_many_L4 k c_Z26 c_Z13 c_s_step k (ops, ((), (), (), t2_Done, ()), ([], [], m_Memo, m_Done, ()), ([], [], m_Memo, m_Done, ()), [], 0, 0, ())
def B_s_many (k : Nat) (c_Z26 : C_Z26) (c_Z13 : C_Z13) (c_s_step : C_s_step) (ops : List (Int × Int)) : R_s_many :=
  (c_Z26).bind fun r12 =>
  jn (fun t => B_s_many_J0 k c_Z26 c_Z13 c_s_step t.1 t.2.1.2.2.2.1 t.2.2.1.2.2.1 t.2.2.1.2.2.2.1) (ops, ((), (), (), false, ()), ((), (), r12.1.1.2.2.1, r12.1.1.2.2.2.1, ()), ())
def F_s_many : Nat → C_s_many
  | 0, _ => none
  | k + 1, ops => B_s_many k (F_Z26 k) (F_Z13 k) (F_s_step k) ops
theorem tot_s_many {ops : _} {Q : _ → Prop} (h : Tot (fun σ => B_s_many (σ 0) (F_Z26 (σ 0)) (F_Z13 (σ 0)) (F_s_step (σ 0)) ops) Q) : Tot (fun σ => F_s_many (σ 0) ops) Q :=
  Tot.call (F := fun k => F_s_many k ops) (B := fun k => B_s_many k (F_Z26 k) (F_Z13 k) (F_s_step k) ops) (fun k => rfl) h
abbrev A_s_many_L4 (Z : Type) : Type := (List (Int × Int)) → Bool → (List (Int × Int × List Int)) → List Int → List Int → Bool → (List (Int × Int × List Int)) → List Int → List Int → Bool → List Int → Int → Int → Z
abbrev u_s_many_L4 {Z : Type} (f : A_s_many_L4 Z) (t : T_s_many_L4) : Z := f t.1 t.2.1.2.2.2.1 t.2.2.1.1 t.2.2.1.2.1 t.2.2.1.2.2.1 t.2.2.1.2.2.2.1 t.2.2.2.1.1 t.2.2.2.1.2.1 t.2.2.2.1.2.2.1 t.2.2.2.1.2.2.2.1 t.2.2.2.2.1 t.2.2.2.2.2.1 t.2.2.2.2.2.2.1
theorem loop_s_many_L4 {Q : A_s_many_L4 (((((List (Int × Int × List Int)) × List Int × List Int × Bool × Unit) × List Int × Int × Unit) × (Unit)) → Prop)} (I : A_s_many_L4 Prop) (μ : A_s_many_L4 Nat)
    (step : ∀ a0 a1 a2 a3 a4 a5 a6 a7 a8 a9 a10 a11 a12, I a0 a1 a2 a3 a4 a5 a6 a7 a8 a9 a10 a11 a12 → ∀ again : (Nat → Nat) → T_s_many_L4 → R_s_many, Dep 2 again → (∀ y0 y1 y2 y3 y4 y5 y6 y7 y8 y9 y10 y11 y12, I y0 y1 y2 y3 y4 y5 y6 y7 y8 y9 y10 y11 y12 → μ y0 y1 y2 y3 y4 y5 y6 y7 y8 y9 y10 y11 y12 < μ a0 a1 a2 a3 a4 a5 a6 a7 a8 a9 a10 a11 a12 → Tot (fun σ => again σ (y0, ((), (), (), y1, ()), (y2, y3, y4, y5, ()), (y6, y7, y8, y9, ()), y10, y11, y12, ())) (Q y0 y1 y2 y3 y4 y5 y6 y7 y8 y9 y10 y11 y12)) →
      Tot (fun σ => B_s_many_L4b (σ 0) (F_Z26 (σ 0)) (F_Z13 (σ 0)) (F_s_step (σ 0)) (again σ) a0 a1 a2 a3 a4 a5 a6 a7 a8 a9 a10 a11 a12) (Q a0 a1 a2 a3 a4 a5 a6 a7 a8 a9 a10 a11 a12)) :
    ∀ a0 a1 a2 a3 a4 a5 a6 a7 a8 a9 a10 a11 a12, I a0 a1 a2 a3 a4 a5 a6 a7 a8 a9 a10 a11 a12 → Tot (fun σ => B_s_many_L4 (σ 0) (F_Z26 (σ 0)) (F_Z13 (σ 0)) (F_s_step (σ 0)) (σ 0) (a0, ((), (), (), a1, ()), (a2, a3, a4, a5, ()), (a6, a7, a8, a9, ()), a10, a11, a12, ())) (Q a0 a1 a2 a3 a4 a5 a6 a7 a8 a9 a10 a11 a12) := fun a0 a1 a2 a3 a4 a5 a6 a7 a8 a9 a10 a11 a12 => Tot.loop0 (L := fun k => B_s_many_L4 k (F_Z26 k) (F_Z13 k) (F_s_step k)) (B := fun k g => u_s_many_L4 (B_s_many_L4b k (F_Z26 k) (F_Z13 k) (F_s_step k) g)) (Q := u_s_many_L4 Q) (fun _ _ _ => rfl) (u_s_many_L4 I) (u_s_many_L4 μ)
    (fun t ht again hag h => step t.1 t.2.1.2.2.2.1 t.2.2.1.1 t.2.2.1.2.1 t.2.2.1.2.2.1 t.2.2.1.2.2.2.1 t.2.2.2.1.1 t.2.2.2.1.2.1 t.2.2.2.1.2.2.1 t.2.2.2.1.2.2.2.1 t.2.2.2.2.1 t.2.2.2.2.2.1 t.2.2.2.2.2.2.1 ht again hag fun y0 y1 y2 y3 y4 y5 y6 y7 y8 y9 y10 y11 y12 => h (y0, ((), (), (), y1, ()), (y2, y3, y4, y5, ()), (y6, y7, y8, y9, ()), y10, y11, y12, ())) (a0, ((), (), (), a1, ()), (a2, a3, a4, a5, ()), (a6, a7, a8, a9, ()), a10, a11, a12, ())
abbrev R_Z48 : Type := Option ((((List (Int × Int × List Int)) × Int × Unit) × List Int × Int × Unit) × (Unit))
abbrev C_Z48 : Type := (List (Int × Int)) → R_Z48
def B_Z48 (k : Nat) (c_Z44 : C_Z44) (c_s_many : C_s_many) (c_Z13 : C_Z13) (ops : List (Int × Int)) : R_Z48 :=
  (c_Z44 ops).bind fun r9 =>
  bif (!r9.1.1) then
    some ((([], 0, ()), [], (-1), ()), ())
  else
    (c_s_many ops).bind fun r14 =>
    (c_Z13 r14.1.1.1 r14.1.1.2.1 r14.1.1.2.2.1 r14.1.1.2.2.2.1).bind fun r19 =>
    some (((r19.1.1.1, 0, ()), r14.1.2.1, r14.1.2.2.1, ()), ())
def F_Z48 : Nat → C_Z48
  | 0, _ => none
  | k + 1, ops => B_Z48 k (F_Z44 k) (F_s_many k) (F_Z13 k) ops
theorem tot_Z48 {ops : _} {Q : _ → Prop} (h : Tot (fun σ => B_Z48 (σ 0) (F_Z44 (σ 0)) (F_s_many (σ 0)) (F_Z13 (σ 0)) ops) Q) : Tot (fun σ => F_Z48 (σ 0) ops) Q :=
  Tot.call (F := fun k => F_Z48 k ops) (B := fun k => B_Z48 k (F_Z44 k) (F_s_many k) (F_Z13 k) ops) (fun k => rfl) h
abbrev R_Z40 : Type := Option ((Bool × Unit) × (Unit))
abbrev C_Z40 : Type := List Int → List Int → R_Z40
abbrev T_Z40_L0 : Type := List Int × List Int × Int × Unit
def B_Z40_L0b (k : Nat) (again0 : T_Z40_L0 → R_Z40) (a b : List Int) (i : Int) : R_Z40 :=
  bif decide (i < (len a)) then
    chk (inb i a.length) <|
    chk (inb i b.length) <|
    bif ((rdx (0 : Int) a i) != (rdx (0 : Int) b i)) then
      some ((false, ()), ())
    else
      again0 (a, b, w64 (i + 1), ())
  else
    some ((true, ()), ())
def B_Z40_L0 (k : Nat) (n : Nat) (t : T_Z40_L0) : R_Z40 :=
  lfix n (fun again t => B_Z40_L0b k again t.1 t.2.1 t.2.2.1) t
def B_Z40 (k : Nat) (a b : List Int) : R_Z40 :=
  bif ((len a) != (len b)) then
    some ((false, ()), ())
  else
    B_Z40_L0 k k (a, b, 0, ())
def F_Z40 : Nat → C_Z40
  | 0, _, _ => none
  | k + 1, a, b => B_Z40 k a b
theorem tot_Z40 {a b : _} {Q : _ → Prop} (h : Tot (fun σ => B_Z40 (σ 0) a b) Q) : Tot (fun σ => F_Z40 (σ 0) a b) Q :=
  Tot.call (F := fun k => F_Z40 k a b) (B := fun k => B_Z40 k a b) (fun k => rfl) h
abbrev A_Z40_L0 (Z : Type) : Type := List Int → List Int → Int → Z
abbrev u_Z40_L0 {Z : Type} (f : A_Z40_L0 Z) (t : T_Z40_L0) : Z := f t.1 t.2.1 t.2.2.1
theorem loop_Z40_L0 {Q : A_Z40_L0 (((Bool × Unit) × (Unit)) → Prop)} (I : A_Z40_L0 Prop) (μ : A_Z40_L0 Nat)
    (step : ∀ a0 a1 a2, I a0 a1 a2 → ∀ again : (Nat → Nat) → T_Z40_L0 → R_Z40, Dep 2 again → (∀ y0 y1 y2, I y0 y1 y2 → μ y0 y1 y2 < μ a0 a1 a2 → Tot (fun σ => again σ (y0, y1, y2, ())) (Q y0 y1 y2)) →
      Tot (fun σ => B_Z40_L0b (σ 0) (again σ) a0 a1 a2) (Q a0 a1 a2)) :
    ∀ a0 a1 a2, I a0 a1 a2 → Tot (fun σ => B_Z40_L0 (σ 0) (σ 0) (a0, a1, a2, ())) (Q a0 a1 a2) := fun a0 a1 a2 => Tot.loop0 (L := fun k => B_Z40_L0 k) (B := fun k g => u_Z40_L0 (B_Z40_L0b k g)) (Q := u_Z40_L0 Q) (fun _ _ _ => rfl) (u_Z40_L0 I) (u_Z40_L0 μ)
    (fun t ht again hag h => step t.1 t.2.1 t.2.2.1 ht again hag fun y0 y1 y2 => h (y0, y1, y2, ())) (a0, a1, a2, ())
abbrev R_Z16 : Type := Option ((Bool × Unit) × (Unit))
abbrev C_Z16 : Type := (List (Int × Int × List Int)) → (List (Int × Int × List Int)) → R_Z16
abbrev T_Z16_L1 : Type := (List (Int × Int × List Int)) × (List (Int × Int × List Int)) × Int × Unit
def B_Z16_J0 (k : Nat) (c_Z40 : C_Z40) (again1 : T_Z16_L1 → R_Z16) (a b : List (Int × Int × List Int)) (i : Int) (t54 : Bool) : R_Z16 :=
  bif t54 then
    some ((false, ()), ())
  else
    again1 (a, b, w64 (i + 1), ())
def B_Z16_L1b (k : Nat) (c_Z40 : C_Z40) (again1 : T_Z16_L1 → R_Z16) (a b : List (Int × Int × List Int)) (i : Int) : R_Z16 :=
  bif decide (i < (len a)) then
    chk (inb i a.length) <|
    chk (inb i b.length) <|
    let v27 : Bool := (((rdx ((0 : Int), ((0 : Int), ([] : List Int))) a i).1) != ((rdx ((0 : Int), ((0 : Int), ([] : List Int))) b i).1))
    bif v27 then
      jn (fun t => B_Z16_J0 k c_Z40 again1 t.1 t.2.1 t.2.2.1 t.2.2.2.1) (a, b, i, true, ())
    else
      chk (inb i a.length) <|
      chk (inb i b.length) <|
      let v39 : Bool := ((((rdx ((0 : Int), ((0 : Int), ([] : List Int))) a i).2).1) != (((rdx ((0 : Int), ((0 : Int), ([] : List Int))) b i).2).1))
      bif v39 then
        jn (fun t => B_Z16_J0 k c_Z40 again1 t.1 t.2.1 t.2.2.1 t.2.2.2.1) (a, b, i, true, ())
      else
        chk (inb i a.length) <|
        chk (inb i b.length) <|
        (c_Z40 (((rdx ((0 : Int), ((0 : Int), ([] : List Int))) a i).2).2) (((rdx ((0 : Int), ((0 : Int), ([] : List Int))) b i).2).2)).bind fun r52 =>
        jn (fun t => B_Z16_J0 k c_Z40 again1 t.1 t.2.1 t.2.2.1 t.2.2.2.1) (a, b, i, (!r52.1.1), ())
  else
    some ((true, ()), ())
def B_Z16_L1 (k : Nat) (c_Z40 : C_Z40) (n : Nat) (t : T_Z16_L1) : R_Z16 :=
  lfix n (fun again t => B_Z16_L1b k c_Z40 again t.1 t.2.1 t.2.2.1) t
def B_Z16 (k : Nat) (c_Z40 : C_Z40) (a b : List (Int × Int × List Int)) : R_Z16 :=
  bif ((len a) != (len b)) then
    some ((false, ()), ())
  else
    B_Z16_L1 k c_Z40 k (a, b, 0, ())
def F_Z16 : Nat → C_Z16
  | 0, _, _ => none
  | k + 1, a, b => B_Z16 k (F_Z40 k) a b
theorem tot_Z16 {a b : _} {Q : _ → Prop} (h : Tot (fun σ => B_Z16 (σ 0) (F_Z40 (σ 0)) a b) Q) : Tot (fun σ => F_Z16 (σ 0) a b) Q :=
  Tot.call (F := fun k => F_Z16 k a b) (B := fun k => B_Z16 k (F_Z40 k) a b) (fun k => rfl) h
abbrev A_Z16_L1 (Z : Type) : Type := (List (Int × Int × List Int)) → (List (Int × Int × List Int)) → Int → Z
abbrev u_Z16_L1 {Z : Type} (f : A_Z16_L1 Z) (t : T_Z16_L1) : Z := f t.1 t.2.1 t.2.2.1
theorem loop_Z16_L1 {Q : A_Z16_L1 (((Bool × Unit) × (Unit)) → Prop)} (I : A_Z16_L1 Prop) (μ : A_Z16_L1 Nat)
    (step : ∀ a0 a1 a2, I a0 a1 a2 → ∀ again : (Nat → Nat) → T_Z16_L1 → R_Z16, Dep 2 again → (∀ y0 y1 y2, I y0 y1 y2 → μ y0 y1 y2 < μ a0 a1 a2 → Tot (fun σ => again σ (y0, y1, y2, ())) (Q y0 y1 y2)) →
      Tot (fun σ => B_Z16_L1b (σ 0) (F_Z40 (σ 0)) (again σ) a0 a1 a2) (Q a0 a1 a2)) :
    ∀ a0 a1 a2, I a0 a1 a2 → Tot (fun σ => B_Z16_L1 (σ 0) (F_Z40 (σ 0)) (σ 0) (a0, a1, a2, ())) (Q a0 a1 a2) := fun a0 a1 a2 => Tot.loop0 (L := fun k => B_Z16_L1 k (F_Z40 k)) (B := fun k g => u_Z16_L1 (B_Z16_L1b k (F_Z40 k) g)) (Q := u_Z16_L1 Q) (fun _ _ _ => rfl) (u_Z16_L1 I) (u_Z16_L1 μ)
    (fun t ht again hag h => step t.1 t.2.1 t.2.2.1 ht again hag fun y0 y1 y2 => h (y0, y1, y2, ())) (a0, a1, a2, ())
abbrev R_Z29 : Type := Option ((Bool × Unit) × (Unit))
abbrev C_Z29 : Type := (List (Int × Int × List Int)) → Int → (List (Int × Int × List Int)) → Int → R_Z29
def B_Z29 (k : Nat) (c_Z16 : C_Z16) (a_0 : List (Int × Int × List Int)) (a_1 : Int) (b_0 : List (Int × Int × List Int)) (b_1 : Int) : R_Z29 :=
  bif (a_1 == b_1) then
    (c_Z16 a_0 b_0).bind fun r15 =>
    some ((r15.1.1, ()), ())
  else
    some ((false, ()), ())
def F_Z29 : Nat → C_Z29
  | 0, _, _, _, _ => none
  | k + 1, a_0, a_1, b_0, b_1 => B_Z29 k (F_Z16 k) a_0 a_1 b_0 b_1
theorem tot_Z29 {a_0 a_1 b_0 b_1 : _} {Q : _ → Prop} (h : Tot (fun σ => B_Z29 (σ 0) (F_Z16 (σ 0)) a_0 a_1 b_0 b_1) Q) : Tot (fun σ => F_Z29 (σ 0) a_0 a_1 b_0 b_1) Q :=
  Tot.call (F := fun k => F_Z29 k a_0 a_1 b_0 b_1) (B := fun k => B_Z29 k (F_Z16 k) a_0 a_1 b_0 b_1) (fun k => rfl) h
abbrev R_Z14 : Type := Option ((((List (Int × Int × List Int)) × List Int × List Int × Bool × Unit) × Unit) × (Unit))
abbrev C_Z14 : Type := (List (Int × Int × List Int)) → List Int → List Int → Bool → R_Z14
def B_Z14 (k : Nat) (c_Z38 : C_Z38) (c_Z1 : C_Z1) (m_0 : List (Int × Int × List Int)) (m_1 m_2 : List Int) (m_3 : Bool) : R_Z14 :=
  (c_Z38 m_0).bind fun r5 =>
  (c_Z1 m_1).bind fun r8 =>
  (c_Z1 m_2).bind fun r11 =>
  some (((r5.1.1, r8.1.1, r11.1.1, m_3, ()), ()), ())
def F_Z14 : Nat → C_Z14
  | 0, _, _, _, _ => none
  | k + 1, m_0, m_1, m_2, m_3 => B_Z14 k (F_Z38 k) (F_Z1 k) m_0 m_1 m_2 m_3
theorem tot_Z14 {m_0 m_1 m_2 m_3 : _} {Q : _ → Prop} (h : Tot (fun σ => B_Z14 (σ 0) (F_Z38 (σ 0)) (F_Z1 (σ 0)) m_0 m_1 m_2 m_3) Q) : Tot (fun σ => F_Z14 (σ 0) m_0 m_1 m_2 m_3) Q :=
  Tot.call (F := fun k => F_Z14 k m_0 m_1 m_2 m_3) (B := fun k => B_Z14 k (F_Z38 k) (F_Z1 k) m_0 m_1 m_2 m_3) (fun k => rfl) h
abbrev R_Z4 : Type := Option ((Unit) × (Unit))
abbrev C_Z4 : Type := (List (Int × Int × List Int)) → List Int → List Int → Bool → R_Z4
def B_Z4 (k : Nat) (t0_0 : List (Int × Int × List Int)) (t0_1 t0_2 : List Int) (t0_3 : Bool) : R_Z4 :=
  some ((), ())
def F_Z4 : Nat → C_Z4
  | 0, _, _, _, _ => none
  | k + 1, t0_0, t0_1, t0_2, t0_3 => B_Z4 k t0_0 t0_1 t0_2 t0_3
theorem tot_Z4 {t0_0 t0_1 t0_2 t0_3 : _} {Q : _ → Prop} (h : Tot (fun σ => B_Z4 (σ 0) t0_0 t0_1 t0_2 t0_3) Q) : Tot (fun σ => F_Z4 (σ 0) t0_0 t0_1 t0_2 t0_3) Q :=
  Tot.call (F := fun k => F_Z4 k t0_0 t0_1 t0_2 t0_3) (B := fun k => B_Z4 k t0_0 t0_1 t0_2 t0_3) (fun k => rfl) h
abbrev R_Z0 : Type := Option ((((List (Int × Int × List Int)) × List Int × List Int × Bool × Unit) × Int × Unit) × (Unit))
abbrev C_Z0 : Type := (List (Int × Int)) → R_Z0
abbrev T_Z0_L0 : Type := (List (Int × Int)) × Unit × (Unit × Unit × Unit × Bool × Unit) × ((List (Int × Int × List Int)) × List Int × List Int × Bool × Unit) × (List (Int × Int)) × Int × Int × Unit
def B_Z0_L0b (k : Nat) (c_Z20 : C_Z20) (c_Z9 : C_Z9) (c_Z14 : C_Z14) (c_Z4 : C_Z4) (again0 : T_Z0_L0 → R_Z0) (ops : List (Int × Int)) (t4_Done : Bool) (m_Nodes : List (Int × Int × List Int)) (m_Stack m_Memo : List Int) (m_Done : Bool) (t10 : List (Int × Int)) (t11 t12 : Int) : R_Z0 :=
  bif decide (t12 < t11) then
    chk (inb t12 t10.length) <|
    (c_Z9 m_Nodes m_Stack m_Memo m_Done ((rdx ((0 : Int), (0 : Int)) t10 t12).1) ((rdx ((0 : Int), (0 : Int)) t10 t12).2)).bind fun r18 =>
    bif (!r18.1.1) then
      (r18.2.1.1).bind fun p25 =>
      (c_Z14 p25 r18.2.1.2.1 r18.2.1.2.2.1 r18.2.1.2.2.2.1).bind fun r21 =>
      some (((r21.1.1.1, r21.1.1.2.1, r21.1.1.2.2.1, r21.1.1.2.2.2.1, ()), t12, ()), ())
    else
      (r18.2.1.1).bind fun p26 =>
      (c_Z4 p26 r18.2.1.2.1 r18.2.1.2.2.1 r18.2.1.2.2.2.1).bind fun r25 =>
      (r18.2.1.1).bind fun p27 =>
      again0 (ops, (), ((), (), (), t4_Done, ()), (p27, r18.2.1.2.1, r18.2.1.2.2.1, r18.2.1.2.2.2.1, ()), t10, t11, w64 (t12 + 1), ())
  else
    (c_Z14 m_Nodes m_Stack m_Memo m_Done).bind fun r28 =>
    some (((r28.1.1.1, r28.1.1.2.1, r28.1.1.2.2.1, r28.1.1.2.2.2.1, ()), len ops, ()), ())
def B_Z0_L0 (k : Nat) (c_Z20 : C_Z20) (c_Z9 : C_Z9) (c_Z14 : C_Z14) (c_Z4 : C_Z4) (n : Nat) (t : T_Z0_L0) : R_Z0 :=
  lfix n (fun again t => B_Z0_L0b k c_Z20 c_Z9 c_Z14 c_Z4 again t.1 t.2.2.1.2.2.2.1 t.2.2.2.1.1 t.2.2.2.1.2.1 t.2.2.2.1.2.2.1 t.2.2.2.1.2.2.2.1 t.2.2.2.2.1 t.2.2.2.2.2.1 t.2.2.2.2.2.2.1) t
def B_Z0 (k : Nat) (c_Z20 : C_Z20) (c_Z9 : C_Z9) (c_Z14 : C_Z14) (c_Z4 : C_Z4) (ops : List (Int × Int)) : R_Z0 :=
  (c_Z20 0).bind fun r9 =>
  B_Z0_L0 k c_Z20 c_Z9 c_Z14 c_Z4 k (ops, (), ((), (), (), false, ()), (r9.1.1.1, [], r9.1.1.2.2.1, r9.1.1.2.2.2.1, ()), ops, len ops, 0, ())
def F_Z0 : Nat → C_Z0
  | 0, _ => none
  | k + 1, ops => B_Z0 k (F_Z20 k) (F_Z9 k) (F_Z14 k) (F_Z4 k) ops
theorem tot_Z0 {ops : _} {Q : _ → Prop} (h : Tot (fun σ => B_Z0 (σ 0) (F_Z20 (σ 0)) (F_Z9 (σ 0)) (F_Z14 (σ 0)) (F_Z4 (σ 0)) ops) Q) : Tot (fun σ => F_Z0 (σ 0) ops) Q :=
  Tot.call (F := fun k => F_Z0 k ops) (B := fun k => B_Z0 k (F_Z20 k) (F_Z9 k) (F_Z14 k) (F_Z4 k) ops) (fun k => rfl) h
abbrev A_Z0_L0 (Z : Type) : Type := (List (Int × Int)) → Bool → (List (Int × Int × List Int)) → List Int → List Int → Bool → (List (Int × Int)) → Int → Int → Z
abbrev u_Z0_L0 {Z : Type} (f : A_Z0_L0 Z) (t : T_Z0_L0) : Z := f t.1 t.2.2.1.2.2.2.1 t.2.2.2.1.1 t.2.2.2.1.2.1 t.2.2.2.1.2.2.1 t.2.2.2.1.2.2.2.1 t.2.2.2.2.1 t.2.2.2.2.2.1 t.2.2.2.2.2.2.1
theorem loop_Z0_L0 {Q : A_Z0_L0 (((((List (Int × Int × List Int)) × List Int × List Int × Bool × Unit) × Int × Unit) × (Unit)) → Prop)} (I : A_Z0_L0 Prop) (μ : A_Z0_L0 Nat)
    (step : ∀ a0 a1 a2 a3 a4 a5 a6 a7 a8, I a0 a1 a2 a3 a4 a5 a6 a7 a8 → ∀ again : (Nat → Nat) → T_Z0_L0 → R_Z0, Dep 2 again → (∀ y0 y1 y2 y3 y4 y5 y6 y7 y8, I y0 y1 y2 y3 y4 y5 y6 y7 y8 → μ y0 y1 y2 y3 y4 y5 y6 y7 y8 < μ a0 a1 a2 a3 a4 a5 a6 a7 a8 → Tot (fun σ => again σ (y0, (), ((), (), (), y1, ()), (y2, y3, y4, y5, ()), y6, y7, y8, ())) (Q y0 y1 y2 y3 y4 y5 y6 y7 y8)) →
      Tot (fun σ => B_Z0_L0b (σ 0) (F_Z20 (σ 0)) (F_Z9 (σ 0)) (F_Z14 (σ 0)) (F_Z4 (σ 0)) (again σ) a0 a1 a2 a3 a4 a5 a6 a7 a8) (Q a0 a1 a2 a3 a4 a5 a6 a7 a8)) :
    ∀ a0 a1 a2 a3 a4 a5 a6 a7 a8, I a0 a1 a2 a3 a4 a5 a6 a7 a8 → Tot (fun σ => B_Z0_L0 (σ 0) (F_Z20 (σ 0)) (F_Z9 (σ 0)) (F_Z14 (σ 0)) (F_Z4 (σ 0)) (σ 0) (a0, (), ((), (), (), a1, ()), (a2, a3, a4, a5, ()), a6, a7, a8, ())) (Q a0 a1 a2 a3 a4 a5 a6 a7 a8) := fun a0 a1 a2 a3 a4 a5 a6 a7 a8 => Tot.loop0 (L := fun k => B_Z0_L0 k (F_Z20 k) (F_Z9 k) (F_Z14 k) (F_Z4 k)) (B := fun k g => u_Z0_L0 (B_Z0_L0b k (F_Z20 k) (F_Z9 k) (F_Z14 k) (F_Z4 k) g)) (Q := u_Z0_L0 Q) (fun _ _ _ => rfl) (u_Z0_L0 I) (u_Z0_L0 μ)
    (fun t ht again hag h => step t.1 t.2.2.1.2.2.2.1 t.2.2.2.1.1 t.2.2.2.1.2.1 t.2.2.2.1.2.2.1 t.2.2.2.1.2.2.2.1 t.2.2.2.2.1 t.2.2.2.2.2.1 t.2.2.2.2.2.2.1 ht again hag fun y0 y1 y2 y3 y4 y5 y6 y7 y8 => h (y0, (), ((), (), (), y1, ()), (y2, y3, y4, y5, ()), y6, y7, y8, ())) (a0, (), ((), (), (), a1, ()), (a2, a3, a4, a5, ()), a6, a7, a8, ())
abbrev R_Z28 : Type := Option ((((List (Int × Int × List Int)) × Int × Unit) × Bool × Unit) × (Unit))
abbrev C_Z28 : Type := (List (Int × Int)) → R_Z28
def B_Z28_J0 (k : Nat) (c_Z45 : C_Z45) (c_Z0 : C_Z0) (t2_Root : Int) (m_Nodes : List (Int × Int × List Int)) (m_Stack m_Memo : List Int) (m_Done t23 : Bool) : R_Z28 :=
  bif t23 then
    some ((([], 0, ()), false, ()), ())
  else
    chk (inb 0 m_Stack.length) <|
    chk (decide ((0 : Int).toNat < m_Stack.length)) <|
    some (((m_Nodes, (m_Stack.getD ((0 : Int).toNat) (0 : Int)), ()), true, ()), ())
def B_Z28 (k : Nat) (c_Z45 : C_Z45) (c_Z0 : C_Z0) (ops : List (Int × Int)) : R_Z28 :=
  (c_Z45 ops).bind fun r7 =>
  bif (!r7.1.1) then
    some ((([], 0, ()), false, ()), ())
  else
    (c_Z0 ops).bind fun r12 =>
    bif decide (r12.1.2.1 < (len ops)) then
      jn (fun t => B_Z28_J0 k c_Z45 c_Z0 t.1.2.1 t.2.1.1 t.2.1.2.1 t.2.1.2.2.1 t.2.1.2.2.2.1 t.2.2.1) (((), 0, ()), (r12.1.1.1, r12.1.1.2.1, r12.1.1.2.2.1, r12.1.1.2.2.2.1, ()), true, ())
    else
      jn (fun t => B_Z28_J0 k c_Z45 c_Z0 t.1.2.1 t.2.1.1 t.2.1.2.1 t.2.1.2.2.1 t.2.1.2.2.2.1 t.2.2.1) (((), 0, ()), (r12.1.1.1, r12.1.1.2.1, r12.1.1.2.2.1, r12.1.1.2.2.2.1, ()), (!r12.1.1.2.2.2.1), ())
def F_Z28 : Nat → C_Z28
  | 0, _ => none
  | k + 1, ops => B_Z28 k (F_Z45 k) (F_Z0 k) ops
theorem tot_Z28 {ops : _} {Q : _ → Prop} (h : Tot (fun σ => B_Z28 (σ 0) (F_Z45 (σ 0)) (F_Z0 (σ 0)) ops) Q) : Tot (fun σ => F_Z28 (σ 0) ops) Q :=
  Tot.call (F := fun k => F_Z28 k ops) (B := fun k => B_Z28 k (F_Z45 k) (F_Z0 k) ops) (fun k => rfl) h
abbrev R_Z53 : Type := Option ((Int × Unit) × (Unit))
abbrev C_Z53 : Type := (List (Int × Int)) → Int → R_Z53
abbrev T_Z53_L1 : Type := (List (Int × Int)) × Int × Int × Int × Unit
def B_Z53_J0 (k : Nat) (again1 : T_Z53_L1 → R_Z53) (ops : List (Int × Int)) (c n5 i : Int) : R_Z53 :=
  again1 (ops, c, n5, w64 (i + 1), ())
def B_Z53_L1b (k : Nat) (again1 : T_Z53_L1 → R_Z53) (ops : List (Int × Int)) (c n5 i : Int) : R_Z53 :=
  bif decide (i < (len ops)) then
    chk (inb i ops.length) <|
    bif (((rdx ((0 : Int), (0 : Int)) ops i).1) == c) then
      jn (fun t => B_Z53_J0 k again1 t.1 t.2.1 t.2.2.1 t.2.2.2.1) (ops, c, w64 (n5 + 1), i, ())
    else
      jn (fun t => B_Z53_J0 k again1 t.1 t.2.1 t.2.2.1 t.2.2.2.1) (ops, c, n5, i, ())
  else
    some ((n5, ()), ())
def B_Z53_L1 (k : Nat) (n : Nat) (t : T_Z53_L1) : R_Z53 :=
  lfix n (fun again t => B_Z53_L1b k again t.1 t.2.1 t.2.2.1 t.2.2.2.1) t
def B_Z53 (k : Nat) (ops : List (Int × Int)) (c : Int) : R_Z53 :=
  B_Z53_L1 k k (ops, c, 0, 0, ())
def F_Z53 : Nat → C_Z53
  | 0, _, _ => none
  | k + 1, ops, c => B_Z53 k ops c
theorem tot_Z53 {ops c : _} {Q : _ → Prop} (h : Tot (fun σ => B_Z53 (σ 0) ops c) Q) : Tot (fun σ => F_Z53 (σ 0) ops c) Q :=
  Tot.call (F := fun k => F_Z53 k ops c) (B := fun k => B_Z53 k ops c) (fun k => rfl) h
abbrev A_Z53_L1 (Z : Type) : Type := (List (Int × Int)) → Int → Int → Int → Z
abbrev u_Z53_L1 {Z : Type} (f : A_Z53_L1 Z) (t : T_Z53_L1) : Z := f t.1 t.2.1 t.2.2.1 t.2.2.2.1
theorem loop_Z53_L1 {Q : A_Z53_L1 (((Int × Unit) × (Unit)) → Prop)} (I : A_Z53_L1 Prop) (μ : A_Z53_L1 Nat)
    (step : ∀ a0 a1 a2 a3, I a0 a1 a2 a3 → ∀ again : (Nat → Nat) → T_Z53_L1 → R_Z53, Dep 2 again → (∀ y0 y1 y2 y3, I y0 y1 y2 y3 → μ y0 y1 y2 y3 < μ a0 a1 a2 a3 → Tot (fun σ => again σ (y0, y1, y2, y3, ())) (Q y0 y1 y2 y3)) →
      Tot (fun σ => B_Z53_L1b (σ 0) (again σ) a0 a1 a2 a3) (Q a0 a1 a2 a3)) :
    ∀ a0 a1 a2 a3, I a0 a1 a2 a3 → Tot (fun σ => B_Z53_L1 (σ 0) (σ 0) (a0, a1, a2, a3, ())) (Q a0 a1 a2 a3) := fun a0 a1 a2 a3 => Tot.loop0 (L := fun k => B_Z53_L1 k) (B := fun k g => u_Z53_L1 (B_Z53_L1b k g)) (Q := u_Z53_L1 Q) (fun _ _ _ => rfl) (u_Z53_L1 I) (u_Z53_L1 μ)
    (fun t ht again hag h => step t.1 t.2.1 t.2.2.1 t.2.2.2.1 ht again hag fun y0 y1 y2 y3 => h (y0, y1, y2, y3, ())) (a0, a1, a2, a3, ())
abbrev R_Z23 : Type := Option ((Bool × Unit) × (Unit))
abbrev C_Z23 : Type := List Int → R_Z23
def B_Z23_J0 (k : Nat) (c_Z8 : C_Z8) (c_Z51 : C_Z51) (c_Z48 : C_Z48) (c_Z29 : C_Z29) (c_Z40 : C_Z40) (c_Z28 : C_Z28) (c_Z53 : C_Z53) (c_Z16 : C_Z16) (ops : List (Int × Int)) (g_Nodes : List (Int × Int × List Int)) (g_Root : Int) (roots : List Int) (end6 : Int) (x_Nodes : List (Int × Int × List Int)) (x_Root : Int) (y : List Int) (z : Int) (t50 : Bool) : R_Z23 :=
  bif t50 then
    (c_Z29 g_Nodes g_Root x_Nodes x_Root).bind fun r53 =>
    bif r53.1.1 then
      (c_Z40 roots y).bind fun r57 =>
      bif r57.1.1 then
        some (((end6 == z), ()), ())
      else
        some ((false, ()), ())
    else
      some ((false, ()), ())
  else
    chk (cutb 0 end6 ops.length) <|
    (c_Z51 ((ops.take end6.toNat).drop 0)).bind fun r68 =>
    (c_Z28 ops).bind fun r74 =>
    (c_Z29 r68.1.1.1 r68.1.1.2.1 g_Nodes g_Root).bind fun r79 =>
    bif r79.1.1 then
      (c_Z40 r68.1.2.1 roots).bind fun r83 =>
      bif r83.1.1 then
        bif (r68.1.2.2.1 == end6) then
          chk (cutb 0 end6 ops.length) <|
          (c_Z53 ((ops.take end6.toNat).drop 0) 19).bind fun r94 =>
          bif (r94.1.1 == (len roots)) then
            bif (!r74.1.2.1) then
              some ((true, ()), ())
            else
              (c_Z16 r74.1.1.1 g_Nodes).bind fun r107 =>
              bif r107.1.1 then
                bif ((len roots) == 1) then
                  chk (inb 0 roots.length) <|
                  chk (decide ((0 : Int).toNat < roots.length)) <|
                  some ((((roots.getD ((0 : Int).toNat) (0 : Int)) == r74.1.1.2.1), ()), ())
                else
                  some ((false, ()), ())
              else
                some ((false, ()), ())
          else
            some ((false, ()), ())
        else
          some ((false, ()), ())
      else
        some ((false, ()), ())
    else
      some ((false, ()), ())
def B_Z23 (k : Nat) (c_Z8 : C_Z8) (c_Z51 : C_Z51) (c_Z48 : C_Z48) (c_Z29 : C_Z29) (c_Z40 : C_Z40) (c_Z28 : C_Z28) (c_Z53 : C_Z53) (c_Z16 : C_Z16) (code : List Int) : R_Z23 :=
  bif decide ((len code) > 1048576) then
    some ((true, ()), ())
  else
    (c_Z8 code).bind fun r19 =>
    (c_Z51 r19.1.1).bind fun r22 =>
    (c_Z48 r19.1.1).bind fun r28 =>
    (c_Z29 r22.1.1.1 r22.1.1.2.1 r28.1.1.1 r28.1.1.2.1).bind fun r34 =>
    bif (!r34.1.1) then
      jn (fun t => B_Z23_J0 k c_Z8 c_Z51 c_Z48 c_Z29 c_Z40 c_Z28 c_Z53 c_Z16 t.1 t.2.1.1 t.2.1.2.1 t.2.2.1 t.2.2.2.1 t.2.2.2.2.1.1 t.2.2.2.2.1.2.1 t.2.2.2.2.2.1 t.2.2.2.2.2.2.1 t.2.2.2.2.2.2.2.1) (r19.1.1, (r22.1.1.1, r22.1.1.2.1, ()), r22.1.2.1, r22.1.2.2.1, (r28.1.1.1, r28.1.1.2.1, ()), r28.1.2.1, r28.1.2.2.1, true, ())
    else
      (c_Z40 r22.1.2.1 r28.1.2.1).bind fun r39 =>
      bif (!r39.1.1) then
        jn (fun t => B_Z23_J0 k c_Z8 c_Z51 c_Z48 c_Z29 c_Z40 c_Z28 c_Z53 c_Z16 t.1 t.2.1.1 t.2.1.2.1 t.2.2.1 t.2.2.2.1 t.2.2.2.2.1.1 t.2.2.2.2.1.2.1 t.2.2.2.2.2.1 t.2.2.2.2.2.2.1 t.2.2.2.2.2.2.2.1) (r19.1.1, (r22.1.1.1, r22.1.1.2.1, ()), r22.1.2.1, r22.1.2.2.1, (r28.1.1.1, r28.1.1.2.1, ()), r28.1.2.1, r28.1.2.2.1, true, ())
      else
        bif (r22.1.2.2.1 != r28.1.2.2.1) then
          jn (fun t => B_Z23_J0 k c_Z8 c_Z51 c_Z48 c_Z29 c_Z40 c_Z28 c_Z53 c_Z16 t.1 t.2.1.1 t.2.1.2.1 t.2.2.1 t.2.2.2.1 t.2.2.2.2.1.1 t.2.2.2.2.1.2.1 t.2.2.2.2.2.1 t.2.2.2.2.2.2.1 t.2.2.2.2.2.2.2.1) (r19.1.1, (r22.1.1.1, r22.1.1.2.1, ()), r22.1.2.1, r22.1.2.2.1, (r28.1.1.1, r28.1.1.2.1, ()), r28.1.2.1, r28.1.2.2.1, true, ())
        else
          jn (fun t => B_Z23_J0 k c_Z8 c_Z51 c_Z48 c_Z29 c_Z40 c_Z28 c_Z53 c_Z16 t.1 t.2.1.1 t.2.1.2.1 t.2.2.1 t.2.2.2.1 t.2.2.2.2.1.1 t.2.2.2.2.1.2.1 t.2.2.2.2.2.1 t.2.2.2.2.2.2.1 t.2.2.2.2.2.2.2.1) (r19.1.1, (r22.1.1.1, r22.1.1.2.1, ()), r22.1.2.1, r22.1.2.2.1, (r28.1.1.1, r28.1.1.2.1, ()), r28.1.2.1, r28.1.2.2.1, decide (r22.1.2.2.1 < 0), ())
def F_Z23 : Nat → C_Z23
  | 0, _ => none
  | k + 1, code => B_Z23 k (F_Z8 k) (F_Z51 k) (F_Z48 k) (F_Z29 k) (F_Z40 k) (F_Z28 k) (F_Z53 k) (F_Z16 k) code
theorem tot_Z23 {code : _} {Q : _ → Prop} (h : Tot (fun σ => B_Z23 (σ 0) (F_Z8 (σ 0)) (F_Z51 (σ 0)) (F_Z48 (σ 0)) (F_Z29 (σ 0)) (F_Z40 (σ 0)) (F_Z28 (σ 0)) (F_Z53 (σ 0)) (F_Z16 (σ 0)) code) Q) : Tot (fun σ => F_Z23 (σ 0) code) Q :=
  Tot.call (F := fun k => F_Z23 k code) (B := fun k => B_Z23 k (F_Z8 k) (F_Z51 k) (F_Z48 k) (F_Z29 k) (F_Z40 k) (F_Z28 k) (F_Z53 k) (F_Z16 k) code) (fun k => rfl) h
end Go.Gx

/-
  The functions, as Gx tells them (printed by gen.py).
-/
import Derived.Test.YtcondpfkkailkaaXSh1
set_option linter.unusedVariables false
namespace Go.Gx
abbrev A_Z10_L0 (Z : Type) : Type := (List (Int × Int × List Int)) → List Int → List Int → Bool → Bool → (List (Int × Int × List Int)) → List Int → List Int → Bool → Int → Z
abbrev u_Z10_L0 {Z : Type} (f : A_Z10_L0 Z) (t : T_Z10_L0) : Z := f t.1.1 t.1.2.1 t.1.2.2.1 t.1.2.2.2.1 t.2.1.2.2.2.1 t.2.2.1.1 t.2.2.1.2.1 t.2.2.1.2.2.1 t.2.2.1.2.2.2.1 t.2.2.2.1
theorem loop_Z10_L0 {Q : A_Z10_L0 (((((List (Int × Int × List Int)) × List Int × List Int × Bool × Unit) × Unit) × (Unit)) → Prop)} (I : A_Z10_L0 Prop) (μ : A_Z10_L0 Nat)
    (step : ∀ a0 a1 a2 a3 a4 a5 a6 a7 a8 a9, I a0 a1 a2 a3 a4 a5 a6 a7 a8 a9 → ∀ again : (Nat → Nat) → T_Z10_L0 → R_Z10, Dep 2 again → (∀ y0 y1 y2 y3 y4 y5 y6 y7 y8 y9, I y0 y1 y2 y3 y4 y5 y6 y7 y8 y9 → μ y0 y1 y2 y3 y4 y5 y6 y7 y8 y9 < μ a0 a1 a2 a3 a4 a5 a6 a7 a8 a9 → Tot (fun σ => again σ ((y0, y1, y2, y3, ()), ((), (), (), y4, ()), (y5, y6, y7, y8, ()), y9, ())) (Q y0 y1 y2 y3 y4 y5 y6 y7 y8 y9)) →
      Tot (fun σ => B_Z10_L0b (σ 0) (F_Z41 (σ 0)) (again σ) a0 a1 a2 a3 a4 a5 a6 a7 a8 a9) (Q a0 a1 a2 a3 a4 a5 a6 a7 a8 a9)) :
    ∀ a0 a1 a2 a3 a4 a5 a6 a7 a8 a9, I a0 a1 a2 a3 a4 a5 a6 a7 a8 a9 → Tot (fun σ => B_Z10_L0 (σ 0) (F_Z41 (σ 0)) (σ 0) ((a0, a1, a2, a3, ()), ((), (), (), a4, ()), (a5, a6, a7, a8, ()), a9, ())) (Q a0 a1 a2 a3 a4 a5 a6 a7 a8 a9) := fun a0 a1 a2 a3 a4 a5 a6 a7 a8 a9 => Tot.loop0 (L := fun k => B_Z10_L0 k (F_Z41 k)) (B := fun k g => u_Z10_L0 (B_Z10_L0b k (F_Z41 k) g)) (Q := u_Z10_L0 Q) (fun _ _ _ => rfl) (u_Z10_L0 I) (u_Z10_L0 μ)
    (fun t ht again hag h => step t.1.1 t.1.2.1 t.1.2.2.1 t.1.2.2.2.1 t.2.1.2.2.2.1 t.2.2.1.1 t.2.2.1.2.1 t.2.2.1.2.2.1 t.2.2.1.2.2.2.1 t.2.2.2.1 ht again hag fun y0 y1 y2 y3 y4 y5 y6 y7 y8 y9 => h ((y0, y1, y2, y3, ()), ((), (), (), y4, ()), (y5, y6, y7, y8, ()), y9, ())) ((a0, a1, a2, a3, ()), ((), (), (), a4, ()), (a5, a6, a7, a8, ()), a9, ())
abbrev R_s_push : Type := Option ((((List (Int × Int × List Int)) × List Int × List Int × Bool × Unit) × Unit) × (Unit))
abbrev C_s_push : Type := (List (Int × Int × List Int)) → List Int → List Int → Bool → Int → Int → List Int → R_s_push
def B_s_push (k : Nat) (m_0 : List (Int × Int × List Int)) (m_1 m_2 : List Int) (m_3 : Bool) (n_0 n_1 : Int) (n_2 : List Int) : R_s_push :=
  chk (room m_0.length ([(n_0, (n_1, n_2))]).length) <|
  chk (room m_1.length ([w64 ((len (m_0 ++ [(n_0, (n_1, n_2))])) - 1)]).length) <|
  some ((((m_0 ++ [(n_0, (n_1, n_2))]), (m_1 ++ [w64 ((len (m_0 ++ [(n_0, (n_1, n_2))])) - 1)]), m_2, m_3, ()), ()), ())
def F_s_push : Nat → C_s_push
  | 0, _, _, _, _, _, _, _ => none
  | k + 1, m_0, m_1, m_2, m_3, n_0, n_1, n_2 => B_s_push k m_0 m_1 m_2 m_3 n_0 n_1 n_2
theorem tot_s_push {m_0 m_1 m_2 m_3 n_0 n_1 n_2 : _} {Q : _ → Prop} (h : Tot (fun σ => B_s_push (σ 0) m_0 m_1 m_2 m_3 n_0 n_1 n_2) Q) : Tot (fun σ => F_s_push (σ 0) m_0 m_1 m_2 m_3 n_0 n_1 n_2) Q :=
  Tot.call (F := fun k => F_s_push k m_0 m_1 m_2 m_3 n_0 n_1 n_2) (B := fun k => B_s_push k m_0 m_1 m_2 m_3 n_0 n_1 n_2) (fun k => rfl) h
abbrev R_s_markAt : Type := Option ((Int × Unit) × (Unit))
abbrev C_s_markAt : Type := (List (Int × Int × List Int)) → List Int → List Int → Bool → R_s_markAt
abbrev T_s_markAt_L0 : Type := ((List (Int × Int × List Int)) × List Int × List Int × Bool × Unit) × Int × Unit
def B_s_markAt_L0b (k : Nat) (again0 : T_s_markAt_L0 → R_s_markAt) (m_Nodes : List (Int × Int × List Int)) (m_Stack m_Memo : List Int) (m_Done : Bool) (i : Int) : R_s_markAt :=
  bif decide (i ≥ 0) then
    chk (inb i m_Stack.length) <|
    bif decide ((rdx (0 : Int) m_Stack i) < 0) then
      some ((i, ()), ())
    else
      again0 ((m_Nodes, m_Stack, m_Memo, m_Done, ()), w64 (i - 1), ())
  else
    some (((-1), ()), ())
def B_s_markAt_L0 (k : Nat) (n : Nat) (t : T_s_markAt_L0) : R_s_markAt :=
  lfix n (fun again t => B_s_markAt_L0b k again t.1.1 t.1.2.1 t.1.2.2.1 t.1.2.2.2.1 t.2.1) t
def B_s_markAt (k : Nat) (m_0 : List (Int × Int × List Int)) (m_1 m_2 : List Int) (m_3 : Bool) : R_s_markAt :=
  B_s_markAt_L0 k k ((m_0, m_1, m_2, m_3, ()), w64 ((len m_1) - 1), ())
def F_s_markAt : Nat → C_s_markAt
  | 0, _, _, _, _ => none
  | k + 1, m_0, m_1, m_2, m_3 => B_s_markAt k m_0 m_1 m_2 m_3
theorem tot_s_markAt {m_0 m_1 m_2 m_3 : _} {Q : _ → Prop} (h : Tot (fun σ => B_s_markAt (σ 0) m_0 m_1 m_2 m_3) Q) : Tot (fun σ => F_s_markAt (σ 0) m_0 m_1 m_2 m_3) Q :=
  Tot.call (F := fun k => F_s_markAt k m_0 m_1 m_2 m_3) (B := fun k => B_s_markAt k m_0 m_1 m_2 m_3) (fun k => rfl) h
abbrev A_s_markAt_L0 (Z : Type) : Type := (List (Int × Int × List Int)) → List Int → List Int → Bool → Int → Z
abbrev u_s_markAt_L0 {Z : Type} (f : A_s_markAt_L0 Z) (t : T_s_markAt_L0) : Z := f t.1.1 t.1.2.1 t.1.2.2.1 t.1.2.2.2.1 t.2.1
theorem loop_s_markAt_L0 {Q : A_s_markAt_L0 (((Int × Unit) × (Unit)) → Prop)} (I : A_s_markAt_L0 Prop) (μ : A_s_markAt_L0 Nat)
    (step : ∀ a0 a1 a2 a3 a4, I a0 a1 a2 a3 a4 → ∀ again : (Nat → Nat) → T_s_markAt_L0 → R_s_markAt, Dep 2 again → (∀ y0 y1 y2 y3 y4, I y0 y1 y2 y3 y4 → μ y0 y1 y2 y3 y4 < μ a0 a1 a2 a3 a4 → Tot (fun σ => again σ ((y0, y1, y2, y3, ()), y4, ())) (Q y0 y1 y2 y3 y4)) →
      Tot (fun σ => B_s_markAt_L0b (σ 0) (again σ) a0 a1 a2 a3 a4) (Q a0 a1 a2 a3 a4)) :
    ∀ a0 a1 a2 a3 a4, I a0 a1 a2 a3 a4 → Tot (fun σ => B_s_markAt_L0 (σ 0) (σ 0) ((a0, a1, a2, a3, ()), a4, ())) (Q a0 a1 a2 a3 a4) := fun a0 a1 a2 a3 a4 => Tot.loop0 (L := fun k => B_s_markAt_L0 k) (B := fun k g => u_s_markAt_L0 (B_s_markAt_L0b k g)) (Q := u_s_markAt_L0 Q) (fun _ _ _ => rfl) (u_s_markAt_L0 I) (u_s_markAt_L0 μ)
    (fun t ht again hag h => step t.1.1 t.1.2.1 t.1.2.2.1 t.1.2.2.2.1 t.2.1 ht again hag fun y0 y1 y2 y3 y4 => h ((y0, y1, y2, y3, ()), y4, ())) ((a0, a1, a2, a3, ()), a4, ())
abbrev R_s_drop : Type := Option ((((List (Int × Int × List Int)) × List Int × List Int × Bool × Unit) × Unit) × (Unit))
abbrev C_s_drop : Type := (List (Int × Int × List Int)) → List Int → List Int → Bool → Int → R_s_drop
def B_s_drop (k : Nat) (m_0 : List (Int × Int × List Int)) (m_1 m_2 : List Int) (m_3 : Bool) (many : Int) : R_s_drop :=
  chk (cutb 0 (w64 ((len m_1) - many)) m_1.length) <|
  some (((m_0, (m_1.take ((w64 ((len m_1) - many)).toNat)), m_2, m_3, ()), ()), ())
def F_s_drop : Nat → C_s_drop
  | 0, _, _, _, _, _ => none
  | k + 1, m_0, m_1, m_2, m_3, many => B_s_drop k m_0 m_1 m_2 m_3 many
theorem tot_s_drop {m_0 m_1 m_2 m_3 many : _} {Q : _ → Prop} (h : Tot (fun σ => B_s_drop (σ 0) m_0 m_1 m_2 m_3 many) Q) : Tot (fun σ => F_s_drop (σ 0) m_0 m_1 m_2 m_3 many) Q :=
  Tot.call (F := fun k => F_s_drop k m_0 m_1 m_2 m_3 many) (B := fun k => B_s_drop k m_0 m_1 m_2 m_3 many) (fun k => rfl) h
abbrev R_s_top : Type := Option ((Int × Unit) × (Unit))
abbrev C_s_top : Type := (List (Int × Int × List Int)) → List Int → List Int → Bool → Int → R_s_top
def B_s_top (k : Nat) (m_0 : List (Int × Int × List Int)) (m_1 m_2 : List Int) (m_3 : Bool) (deep : Int) : R_s_top :=
  bif decide ((w64 ((w64 ((len m_1) - 1)) - deep)) < 0) then
    some (((-1), ()), ())
  else
    chk (inb (w64 ((w64 ((len m_1) - 1)) - deep)) m_1.length) <|
    some (((rdx (0 : Int) m_1 (w64 ((w64 ((len m_1) - 1)) - deep))), ()), ())
def F_s_top : Nat → C_s_top
  | 0, _, _, _, _, _ => none
  | k + 1, m_0, m_1, m_2, m_3, deep => B_s_top k m_0 m_1 m_2 m_3 deep
theorem tot_s_top {m_0 m_1 m_2 m_3 deep : _} {Q : _ → Prop} (h : Tot (fun σ => B_s_top (σ 0) m_0 m_1 m_2 m_3 deep) Q) : Tot (fun σ => F_s_top (σ 0) m_0 m_1 m_2 m_3 deep) Q :=
  Tot.call (F := fun k => F_s_top k m_0 m_1 m_2 m_3 deep) (B := fun k => B_s_top k m_0 m_1 m_2 m_3 deep) (fun k => rfl) h
abbrev R_s_kindOf : Type := Option ((Int × Unit) × (Unit))
abbrev C_s_kindOf : Type := (List (Int × Int × List Int)) → List Int → List Int → Bool → Int → R_s_kindOf
def B_s_kindOf (k : Nat) (m_0 : List (Int × Int × List Int)) (m_1 m_2 : List Int) (m_3 : Bool) (at1 : Int) : R_s_kindOf :=
  bif decide (at1 < 0) then
    some (((-1), ()), ())
  else
    chk (inb at1 m_0.length) <|
    some (((rdx ((0 : Int), ((0 : Int), ([] : List Int))) m_0 at1).1, ()), ())
def F_s_kindOf : Nat → C_s_kindOf
  | 0, _, _, _, _, _ => none
  | k + 1, m_0, m_1, m_2, m_3, at1 => B_s_kindOf k m_0 m_1 m_2 m_3 at1
theorem tot_s_kindOf {m_0 m_1 m_2 m_3 at1 : _} {Q : _ → Prop} (h : Tot (fun σ => B_s_kindOf (σ 0) m_0 m_1 m_2 m_3 at1) Q) : Tot (fun σ => F_s_kindOf (σ 0) m_0 m_1 m_2 m_3 at1) Q :=
  Tot.call (F := fun k => F_s_kindOf k m_0 m_1 m_2 m_3 at1) (B := fun k => B_s_kindOf k m_0 m_1 m_2 m_3 at1) (fun k => rfl) h
abbrev R_Z43 : Type := Option ((Bool × Unit) × (Unit))
abbrev C_Z43 : Type := (List (Int × Int × List Int)) → List Int → List Int → Bool → List Int → R_Z43
abbrev T_Z43_L0 : Type := List Int × ((List (Int × Int × List Int)) × List Int × List Int × Bool × Unit) × Int × Unit
def B_Z43_L0b (k : Nat) (c_s_isKey : C_s_isKey) (again0 : T_Z43_L0 → R_Z43) (list : List Int) (m_Nodes : List (Int × Int × List Int)) (m_Stack m_Memo : List Int) (m_Done : Bool) (i : Int) : R_Z43 :=
  bif decide (i < (len list)) then
    chk (inb i list.length) <|
    chk (inb (rdx (0 : Int) list i) m_Nodes.length) <|
    (c_s_isKey ((rdx ((0 : Int), ((0 : Int), ([] : List Int))) m_Nodes (rdx (0 : Int) list i)).1) (((rdx ((0 : Int), ((0 : Int), ([] : List Int))) m_Nodes (rdx (0 : Int) list i)).2).1)).bind fun r20 =>
    bif (!r20.1.1) then
      some ((false, ()), ())
    else
      again0 (list, (m_Nodes, m_Stack, m_Memo, m_Done, ()), w64 (i + 2), ())
  else
    some (((((len list).tmod 2) == 0), ()), ())
def B_Z43_L0 (k : Nat) (c_s_isKey : C_s_isKey) (n : Nat) (t : T_Z43_L0) : R_Z43 :=
  lfix n (fun again t => B_Z43_L0b k c_s_isKey again t.1 t.2.1.1 t.2.1.2.1 t.2.1.2.2.1 t.2.1.2.2.2.1 t.2.2.1) t
def B_Z43 (k : Nat) (c_s_isKey : C_s_isKey) (m_0 : List (Int × Int × List Int)) (m_1 m_2 : List Int) (m_3 : Bool) (list : List Int) : R_Z43 :=
  B_Z43_L0 k c_s_isKey k (list, (m_0, m_1, m_2, m_3, ()), 0, ())
def F_Z43 : Nat → C_Z43
  | 0, _, _, _, _, _ => none
  | k + 1, m_0, m_1, m_2, m_3, list => B_Z43 k (F_s_isKey k) m_0 m_1 m_2 m_3 list
theorem tot_Z43 {m_0 m_1 m_2 m_3 list : _} {Q : _ → Prop} (h : Tot (fun σ => B_Z43 (σ 0) (F_s_isKey (σ 0)) m_0 m_1 m_2 m_3 list) Q) : Tot (fun σ => F_Z43 (σ 0) m_0 m_1 m_2 m_3 list) Q :=
  Tot.call (F := fun k => F_Z43 k m_0 m_1 m_2 m_3 list) (B := fun k => B_Z43 k (F_s_isKey k) m_0 m_1 m_2 m_3 list) (fun k => rfl) h
abbrev A_Z43_L0 (Z : Type) : Type := List Int → (List (Int × Int × List Int)) → List Int → List Int → Bool → Int → Z
abbrev u_Z43_L0 {Z : Type} (f : A_Z43_L0 Z) (t : T_Z43_L0) : Z := f t.1 t.2.1.1 t.2.1.2.1 t.2.1.2.2.1 t.2.1.2.2.2.1 t.2.2.1
theorem loop_Z43_L0 {Q : A_Z43_L0 (((Bool × Unit) × (Unit)) → Prop)} (I : A_Z43_L0 Prop) (μ : A_Z43_L0 Nat)
    (step : ∀ a0 a1 a2 a3 a4 a5, I a0 a1 a2 a3 a4 a5 → ∀ again : (Nat → Nat) → T_Z43_L0 → R_Z43, Dep 2 again → (∀ y0 y1 y2 y3 y4 y5, I y0 y1 y2 y3 y4 y5 → μ y0 y1 y2 y3 y4 y5 < μ a0 a1 a2 a3 a4 a5 → Tot (fun σ => again σ (y0, (y1, y2, y3, y4, ()), y5, ())) (Q y0 y1 y2 y3 y4 y5)) →
      Tot (fun σ => B_Z43_L0b (σ 0) (F_s_isKey (σ 0)) (again σ) a0 a1 a2 a3 a4 a5) (Q a0 a1 a2 a3 a4 a5)) :
    ∀ a0 a1 a2 a3 a4 a5, I a0 a1 a2 a3 a4 a5 → Tot (fun σ => B_Z43_L0 (σ 0) (F_s_isKey (σ 0)) (σ 0) (a0, (a1, a2, a3, a4, ()), a5, ())) (Q a0 a1 a2 a3 a4 a5) := fun a0 a1 a2 a3 a4 a5 => Tot.loop0 (L := fun k => B_Z43_L0 k (F_s_isKey k)) (B := fun k g => u_Z43_L0 (B_Z43_L0b k (F_s_isKey k) g)) (Q := u_Z43_L0 Q) (fun _ _ _ => rfl) (u_Z43_L0 I) (u_Z43_L0 μ)
    (fun t ht again hag h => step t.1 t.2.1.1 t.2.1.2.1 t.2.1.2.2.1 t.2.1.2.2.2.1 t.2.2.1 ht again hag fun y0 y1 y2 y3 y4 y5 => h (y0, (y1, y2, y3, y4, ()), y5, ())) (a0, (a1, a2, a3, a4, ()), a5, ())
abbrev R_Z49 : Type := Option ((((List (Int × Int × List Int)) × List Int × List Int × Bool × Unit) × Unit) × (Unit))
abbrev C_Z49 : Type := (List (Int × Int × List Int)) → List Int → List Int → Bool → Int → Int → Int → R_Z49
abbrev T_Z49_L0 : Type := Int × Int × Int × (Unit × Unit × Unit × Bool × Unit) × List Int × Int × ((List (Int × Int × List Int) × Nat) × List Int × List Int × Bool × Unit) × Unit
def B_Z49_L0b (k : Nat) (c_Z60 : C_Z60) (again0 : T_Z49_L0 → R_Z49) (dict key value : Int) (t8_Done : Bool) (kids : List Int) (i : Int) (m_Nodes : List (Int × Int × List Int) × Nat) (m_Stack m_Memo : List Int) (m_Done : Bool) : R_Z49 :=
  bif decide (i < (len kids)) then
    chk (inb i kids.length) <|
    chk (decide (i.toNat < kids.length)) <|
    chk (inb (kids.getD i.toNat (0 : Int)) m_Nodes.1.length) <|
    chk (decide ((kids.getD i.toNat (0 : Int)).toNat < m_Nodes.1.length)) <|
    chk (inb key m_Nodes.1.length) <|
    chk (decide (key.toNat < m_Nodes.1.length)) <|
    (c_Z60 ((m_Nodes.1.getD ((kids.getD i.toNat (0 : Int)).toNat) ((0 : Int), ((0 : Int), ([] : List Int)))).1) (((m_Nodes.1.getD ((kids.getD i.toNat (0 : Int)).toNat) ((0 : Int), ((0 : Int), ([] : List Int)))).2).1) ((m_Nodes.1.getD key.toNat ((0 : Int), ((0 : Int), ([] : List Int)))).1) (((m_Nodes.1.getD key.toNat ((0 : Int), ((0 : Int), ([] : List Int)))).2).1)).bind fun r36 =>
    bif r36.1.1 then
      chk (inb (w64 (i + 1)) kids.length) <|
      chk (decide ((w64 (i + 1)).toNat < kids.length)) <|
      some ((((m_Nodes.1.set m_Nodes.2 ((m_Nodes.1.getD m_Nodes.2 ((0 : Int), ((0 : Int), ([] : List Int)))).1, (((m_Nodes.1.getD m_Nodes.2 ((0 : Int), ((0 : Int), ([] : List Int)))).2).1, (kids.set ((w64 (i + 1)).toNat) value)))), m_Stack, m_Memo, m_Done, ()), ()), ())
    else
      again0 (dict, key, value, ((), (), (), t8_Done, ()), kids, w64 (i + 2), ((m_Nodes.1, m_Nodes.2), m_Stack, m_Memo, m_Done, ()), ())
  else
    chk (room kids.length ([key, value]).length) <|
    chk (inb dict m_Nodes.1.length) <|
    chk (decide (dict.toNat = m_Nodes.2)) <|
    some ((((m_Nodes.1.set dict.toNat ((m_Nodes.1.getD dict.toNat ((0 : Int), ((0 : Int), ([] : List Int)))).1, (((m_Nodes.1.getD dict.toNat ((0 : Int), ((0 : Int), ([] : List Int)))).2).1, (kids ++ [key, value])))), m_Stack, m_Memo, m_Done, ()), ()), ())
def B_Z49_L0 (k : Nat) (c_Z60 : C_Z60) (n : Nat) (t : T_Z49_L0) : R_Z49 :=
  lfix n (fun again t => B_Z49_L0b k c_Z60 again t.1 t.2.1 t.2.2.1 t.2.2.2.1.2.2.2.1 t.2.2.2.2.1 t.2.2.2.2.2.1 t.2.2.2.2.2.2.1.1 t.2.2.2.2.2.2.1.2.1 t.2.2.2.2.2.2.1.2.2.1 t.2.2.2.2.2.2.1.2.2.2.1) t
def B_Z49 (k : Nat) (c_Z60 : C_Z60) (m_0 : List (Int × Int × List Int)) (m_1 m_2 : List Int) (m_3 : Bool) (dict key value : Int) : R_Z49 :=
  chk (inb dict m_0.length) <|
  chk (decide (dict.toNat < m_0.length)) <|
  B_Z49_L0 k c_Z60 k (dict, key, value, ((), (), (), false, ()), ((m_0.getD dict.toNat ((0 : Int), ((0 : Int), ([] : List Int)))).2).2, 0, ((m_0, dict.toNat), m_1, m_2, m_3, ()), ())
def F_Z49 : Nat → C_Z49
  | 0, _, _, _, _, _, _, _ => none
  | k + 1, m_0, m_1, m_2, m_3, dict, key, value => B_Z49 k (F_Z60 k) m_0 m_1 m_2 m_3 dict key value
theorem tot_Z49 {m_0 m_1 m_2 m_3 dict key value : _} {Q : _ → Prop} (h : Tot (fun σ => B_Z49 (σ 0) (F_Z60 (σ 0)) m_0 m_1 m_2 m_3 dict key value) Q) : Tot (fun σ => F_Z49 (σ 0) m_0 m_1 m_2 m_3 dict key value) Q :=
  Tot.call (F := fun k => F_Z49 k m_0 m_1 m_2 m_3 dict key value) (B := fun k => B_Z49 k (F_Z60 k) m_0 m_1 m_2 m_3 dict key value) (fun k => rfl) h
abbrev A_Z49_L0 (Z : Type) : Type := Int → Int → Int → Bool → List Int → Int → (List (Int × Int × List Int) × Nat) → List Int → List Int → Bool → Z
abbrev u_Z49_L0 {Z : Type} (f : A_Z49_L0 Z) (t : T_Z49_L0) : Z := f t.1 t.2.1 t.2.2.1 t.2.2.2.1.2.2.2.1 t.2.2.2.2.1 t.2.2.2.2.2.1 t.2.2.2.2.2.2.1.1 t.2.2.2.2.2.2.1.2.1 t.2.2.2.2.2.2.1.2.2.1 t.2.2.2.2.2.2.1.2.2.2.1
theorem loop_Z49_L0 {Q : A_Z49_L0 (((((List (Int × Int × List Int)) × List Int × List Int × Bool × Unit) × Unit) × (Unit)) → Prop)} (I : A_Z49_L0 Prop) (μ : A_Z49_L0 Nat)
    (step : ∀ a0 a1 a2 a3 a4 a5 a6 a7 a8 a9, I a0 a1 a2 a3 a4 a5 a6 a7 a8 a9 → ∀ again : (Nat → Nat) → T_Z49_L0 → R_Z49, Dep 2 again → (∀ y0 y1 y2 y3 y4 y5 y6 y7 y8 y9, I y0 y1 y2 y3 y4 y5 y6 y7 y8 y9 → μ y0 y1 y2 y3 y4 y5 y6 y7 y8 y9 < μ a0 a1 a2 a3 a4 a5 a6 a7 a8 a9 → Tot (fun σ => again σ (y0, y1, y2, ((), (), (), y3, ()), y4, y5, (y6, y7, y8, y9, ()), ())) (Q y0 y1 y2 y3 y4 y5 y6 y7 y8 y9)) →
      Tot (fun σ => B_Z49_L0b (σ 0) (F_Z60 (σ 0)) (again σ) a0 a1 a2 a3 a4 a5 a6 a7 a8 a9) (Q a0 a1 a2 a3 a4 a5 a6 a7 a8 a9)) :
    ∀ a0 a1 a2 a3 a4 a5 a6 a7 a8 a9, I a0 a1 a2 a3 a4 a5 a6 a7 a8 a9 → Tot (fun σ => B_Z49_L0 (σ 0) (F_Z60 (σ 0)) (σ 0) (a0, a1, a2, ((), (), (), a3, ()), a4, a5, (a6, a7, a8, a9, ()), ())) (Q a0 a1 a2 a3 a4 a5 a6 a7 a8 a9) := fun a0 a1 a2 a3 a4 a5 a6 a7 a8 a9 => Tot.loop0 (L := fun k => B_Z49_L0 k (F_Z60 k)) (B := fun k g => u_Z49_L0 (B_Z49_L0b k (F_Z60 k) g)) (Q := u_Z49_L0 Q) (fun _ _ _ => rfl) (u_Z49_L0 I) (u_Z49_L0 μ)
    (fun t ht again hag h => step t.1 t.2.1 t.2.2.1 t.2.2.2.1.2.2.2.1 t.2.2.2.2.1 t.2.2.2.2.2.1 t.2.2.2.2.2.2.1.1 t.2.2.2.2.2.2.1.2.1 t.2.2.2.2.2.2.1.2.2.1 t.2.2.2.2.2.2.1.2.2.2.1 ht again hag fun y0 y1 y2 y3 y4 y5 y6 y7 y8 y9 => h (y0, y1, y2, ((), (), (), y3, ()), y4, y5, (y6, y7, y8, y9, ()), ())) (a0, a1, a2, ((), (), (), a3, ()), a4, a5, (a6, a7, a8, a9, ()), ())
abbrev R_Z46 : Type := Option ((((List (Int × Int × List Int)) × List Int × List Int × Bool × Unit) × Bool × Unit) × (Unit))
abbrev C_Z46 : Type := (List (Int × Int × List Int)) → List Int → List Int → Bool → Int → Int → R_Z46
abbrev T_Z46_L1 : Type := ((List (Int × Int × List Int)) × List Int × List Int × Bool × Unit) × (Unit × Unit × Unit × Bool × Unit) × List Int × Int × Int × Unit
def B_Z46_J2 (k : Nat) (c_s_markAt : C_s_markAt) (c_Z41 : C_Z41) (c_s_drop : C_s_drop) (c_s_top : C_s_top) (c_s_push : C_s_push) (c_s_kindOf : C_s_kindOf) (c_Z43 : C_Z43) (c_Z49 : C_Z49) (m_Nodes : List (Int × Int × List Int)) (m_Stack m_Memo : List Int) (m_Done t4_Done : Bool) : R_Z46 :=
  some (((m_Nodes, m_Stack, m_Memo, m_Done, ()), true, ()), ())
def B_Z46_L1b (k : Nat) (c_s_markAt : C_s_markAt) (c_Z41 : C_Z41) (c_s_drop : C_s_drop) (c_s_top : C_s_top) (c_s_push : C_s_push) (c_s_kindOf : C_s_kindOf) (c_Z43 : C_Z43) (c_Z49 : C_Z49) (again1 : T_Z46_L1 → R_Z46) (m_Nodes : List (Int × Int × List Int)) (m_Stack m_Memo : List Int) (m_Done t4_Done : Bool) (list : List Int) (below i : Int) : R_Z46 :=
  bif decide (i < (len list)) then
    chk (inb i list.length) <|
    chk (decide (i.toNat < list.length)) <|
    chk (inb (w64 (i + 1)) list.length) <|
    chk (decide ((w64 (i + 1)).toNat < list.length)) <|
    (c_Z49 m_Nodes m_Stack m_Memo m_Done below (list.getD i.toNat (0 : Int)) (list.getD ((w64 (i + 1)).toNat) (0 : Int))).bind fun r86 =>
    again1 ((r86.1.1.1, r86.1.1.2.1, r86.1.1.2.2.1, r86.1.1.2.2.2.1, ()), ((), (), (), t4_Done, ()), list, below, w64 (i + 2), ())
  else
    jn (fun t => B_Z46_J2 k c_s_markAt c_Z41 c_s_drop c_s_top c_s_push c_s_kindOf c_Z43 c_Z49 t.1.1 t.1.2.1 t.1.2.2.1 t.1.2.2.2.1 t.2.1.2.2.2.1) ((m_Nodes, m_Stack, m_Memo, m_Done, ()), ((), (), (), t4_Done, ()), ())
def B_Z46_L1 (k : Nat) (c_s_markAt : C_s_markAt) (c_Z41 : C_Z41) (c_s_drop : C_s_drop) (c_s_top : C_s_top) (c_s_push : C_s_push) (c_s_kindOf : C_s_kindOf) (c_Z43 : C_Z43) (c_Z49 : C_Z49) (n : Nat) (t : T_Z46_L1) : R_Z46 :=
  lfix n (fun again t => B_Z46_L1b k c_s_markAt c_Z41 c_s_drop c_s_top c_s_push c_s_kindOf c_Z43 c_Z49 again t.1.1 t.1.2.1 t.1.2.2.1 t.1.2.2.2.1 t.2.1.2.2.2.1 t.2.2.1 t.2.2.2.1 t.2.2.2.2.1) t
def B_Z46_J0 (k : Nat) (c_s_markAt : C_s_markAt) (c_Z41 : C_Z41) (c_s_drop : C_s_drop) (c_s_top : C_s_top) (c_s_push : C_s_push) (c_s_kindOf : C_s_kindOf) (c_Z43 : C_Z43) (c_Z49 : C_Z49) (m_Nodes : List (Int × Int × List Int)) (m_Stack m_Memo : List Int) (m_Done t4_Done : Bool) (list : List Int) (below : Int) (t67 : Bool) : R_Z46 :=
  bif t67 then
    some (((m_Nodes, m_Stack, m_Memo, m_Done, ()), false, ()), ())
  else
    B_Z46_L1 k c_s_markAt c_Z41 c_s_drop c_s_top c_s_push c_s_kindOf c_Z43 c_Z49 k ((m_Nodes, m_Stack, m_Memo, m_Done, ()), ((), (), (), t4_Done, ()), list, below, 0, ())
def B_Z46 (k : Nat) (c_s_markAt : C_s_markAt) (c_Z41 : C_Z41) (c_s_drop : C_s_drop) (c_s_top : C_s_top) (c_s_push : C_s_push) (c_s_kindOf : C_s_kindOf) (c_Z43 : C_Z43) (c_Z49 : C_Z49) (m_0 : List (Int × Int × List Int)) (m_1 m_2 : List Int) (m_3 : Bool) (o_0 o_1 : Int) : R_Z46 :=
  (c_s_markAt m_0 m_1 m_2 m_3).bind fun r11 =>
  bif decide (r11.1.1 < 0) then
    some (((m_0, m_1, m_2, m_3, ()), false, ()), ())
  else
    chk (cutb (w64 (r11.1.1 + 1)) (len m_1) m_1.length) <|
    (c_Z41 ((m_1.take ((len m_1).toNat)).drop ((w64 (r11.1.1 + 1)).toNat))).bind fun r20 =>
    (c_s_drop m_0 m_1 m_2 m_3 (w64 ((len r20.1.1) + 1))).bind fun r25 =>
    (c_s_top r25.1.1.1 r25.1.1.2.1 r25.1.1.2.2.1 r25.1.1.2.2.2.1 0).bind fun r27 =>
    bif (o_0 == 3) then
      (c_s_push r25.1.1.1 r25.1.1.2.1 r25.1.1.2.2.1 r25.1.1.2.2.2.1 2 0 r20.1.1).bind fun r35 =>
      some (((r35.1.1.1, r35.1.1.2.1, r35.1.1.2.2.1, r35.1.1.2.2.2.1, ()), true, ()), ())
    else
      bif (o_0 == 9) then
        (c_s_kindOf r25.1.1.1 r25.1.1.2.1 r25.1.1.2.2.1 r25.1.1.2.2.2.1 r27.1.1).bind fun r40 =>
        bif (r40.1.1 != 3) then
          some (((r25.1.1.1, r25.1.1.2.1, r25.1.1.2.2.1, r25.1.1.2.2.2.1, ()), false, ()), ())
        else
          chk (inb r27.1.1 r25.1.1.1.length) <|
          chk (decide (r27.1.1.toNat < r25.1.1.1.length)) <|
          chk (room (((r25.1.1.1.getD r27.1.1.toNat ((0 : Int), ((0 : Int), ([] : List Int)))).2).2).length r20.1.1.length) <|
          chk (inb r27.1.1 r25.1.1.1.length) <|
          chk (decide (r27.1.1.toNat = r27.1.1.toNat)) <|
          let w1 : List (Int × Int × List Int) := (r25.1.1.1.set r27.1.1.toNat ((r25.1.1.1.getD r27.1.1.toNat ((0 : Int), ((0 : Int), ([] : List Int)))).1, (((r25.1.1.1.getD r27.1.1.toNat ((0 : Int), ((0 : Int), ([] : List Int)))).2).1, (((r25.1.1.1.getD r27.1.1.toNat ((0 : Int), ((0 : Int), ([] : List Int)))).2).2 ++ r20.1.1))))
          jn (fun t => B_Z46_J2 k c_s_markAt c_Z41 c_s_drop c_s_top c_s_push c_s_kindOf c_Z43 c_Z49 t.1.1 t.1.2.1 t.1.2.2.1 t.1.2.2.2.1 t.2.1.2.2.2.1) ((w1, r25.1.1.2.1, r25.1.1.2.2.1, r25.1.1.2.2.2.1, ()), ((), (), (), false, ()), ())
      else
        bif (o_0 == 12) then
          (c_s_kindOf r25.1.1.1 r25.1.1.2.1 r25.1.1.2.2.1 r25.1.1.2.2.2.1 r27.1.1).bind fun r60 =>
          bif (r60.1.1 != 4) then
            jn (fun t => B_Z46_J0 k c_s_markAt c_Z41 c_s_drop c_s_top c_s_push c_s_kindOf c_Z43 c_Z49 t.1.1 t.1.2.1 t.1.2.2.1 t.1.2.2.2.1 t.2.1.2.2.2.1 t.2.2.1 t.2.2.2.1 t.2.2.2.2.1) ((r25.1.1.1, r25.1.1.2.1, r25.1.1.2.2.1, r25.1.1.2.2.2.1, ()), ((), (), (), false, ()), r20.1.1, r27.1.1, true, ())
          else
            (c_Z43 r25.1.1.1 r25.1.1.2.1 r25.1.1.2.2.1 r25.1.1.2.2.2.1 r20.1.1).bind fun r65 =>
            jn (fun t => B_Z46_J0 k c_s_markAt c_Z41 c_s_drop c_s_top c_s_push c_s_kindOf c_Z43 c_Z49 t.1.1 t.1.2.1 t.1.2.2.1 t.1.2.2.2.1 t.2.1.2.2.2.1 t.2.2.1 t.2.2.2.1 t.2.2.2.2.1) ((r25.1.1.1, r25.1.1.2.1, r25.1.1.2.2.1, r25.1.1.2.2.2.1, ()), ((), (), (), false, ()), r20.1.1, r27.1.1, (!r65.1.1), ())
        else
          jn (fun t => B_Z46_J2 k c_s_markAt c_Z41 c_s_drop c_s_top c_s_push c_s_kindOf c_Z43 c_Z49 t.1.1 t.1.2.1 t.1.2.2.1 t.1.2.2.2.1 t.2.1.2.2.2.1) ((r25.1.1.1, r25.1.1.2.1, r25.1.1.2.2.1, r25.1.1.2.2.2.1, ()), ((), (), (), false, ()), ())
def F_Z46 : Nat → C_Z46
  | 0, _, _, _, _, _, _ => none
  | k + 1, m_0, m_1, m_2, m_3, o_0, o_1 => B_Z46 k (F_s_markAt k) (F_Z41 k) (F_s_drop k) (F_s_top k) (F_s_push k) (F_s_kindOf k) (F_Z43 k) (F_Z49 k) m_0 m_1 m_2 m_3 o_0 o_1
theorem tot_Z46 {m_0 m_1 m_2 m_3 o_0 o_1 : _} {Q : _ → Prop} (h : Tot (fun σ => B_Z46 (σ 0) (F_s_markAt (σ 0)) (F_Z41 (σ 0)) (F_s_drop (σ 0)) (F_s_top (σ 0)) (F_s_push (σ 0)) (F_s_kindOf (σ 0)) (F_Z43 (σ 0)) (F_Z49 (σ 0)) m_0 m_1 m_2 m_3 o_0 o_1) Q) : Tot (fun σ => F_Z46 (σ 0) m_0 m_1 m_2 m_3 o_0 o_1) Q :=
  Tot.call (F := fun k => F_Z46 k m_0 m_1 m_2 m_3 o_0 o_1) (B := fun k => B_Z46 k (F_s_markAt k) (F_Z41 k) (F_s_drop k) (F_s_top k) (F_s_push k) (F_s_kindOf k) (F_Z43 k) (F_Z49 k) m_0 m_1 m_2 m_3 o_0 o_1) (fun k => rfl) h
abbrev A_Z46_L1 (Z : Type) : Type := (List (Int × Int × List Int)) → List Int → List Int → Bool → Bool → List Int → Int → Int → Z
abbrev u_Z46_L1 {Z : Type} (f : A_Z46_L1 Z) (t : T_Z46_L1) : Z := f t.1.1 t.1.2.1 t.1.2.2.1 t.1.2.2.2.1 t.2.1.2.2.2.1 t.2.2.1 t.2.2.2.1 t.2.2.2.2.1
theorem loop_Z46_L1 {Q : A_Z46_L1 (((((List (Int × Int × List Int)) × List Int × List Int × Bool × Unit) × Bool × Unit) × (Unit)) → Prop)} (I : A_Z46_L1 Prop) (μ : A_Z46_L1 Nat)
    (step : ∀ a0 a1 a2 a3 a4 a5 a6 a7, I a0 a1 a2 a3 a4 a5 a6 a7 → ∀ again : (Nat → Nat) → T_Z46_L1 → R_Z46, Dep 2 again → (∀ y0 y1 y2 y3 y4 y5 y6 y7, I y0 y1 y2 y3 y4 y5 y6 y7 → μ y0 y1 y2 y3 y4 y5 y6 y7 < μ a0 a1 a2 a3 a4 a5 a6 a7 → Tot (fun σ => again σ ((y0, y1, y2, y3, ()), ((), (), (), y4, ()), y5, y6, y7, ())) (Q y0 y1 y2 y3 y4 y5 y6 y7)) →
      Tot (fun σ => B_Z46_L1b (σ 0) (F_s_markAt (σ 0)) (F_Z41 (σ 0)) (F_s_drop (σ 0)) (F_s_top (σ 0)) (F_s_push (σ 0)) (F_s_kindOf (σ 0)) (F_Z43 (σ 0)) (F_Z49 (σ 0)) (again σ) a0 a1 a2 a3 a4 a5 a6 a7) (Q a0 a1 a2 a3 a4 a5 a6 a7)) :
    ∀ a0 a1 a2 a3 a4 a5 a6 a7, I a0 a1 a2 a3 a4 a5 a6 a7 → Tot (fun σ => B_Z46_L1 (σ 0) (F_s_markAt (σ 0)) (F_Z41 (σ 0)) (F_s_drop (σ 0)) (F_s_top (σ 0)) (F_s_push (σ 0)) (F_s_kindOf (σ 0)) (F_Z43 (σ 0)) (F_Z49 (σ 0)) (σ 0) ((a0, a1, a2, a3, ()), ((), (), (), a4, ()), a5, a6, a7, ())) (Q a0 a1 a2 a3 a4 a5 a6 a7) := fun a0 a1 a2 a3 a4 a5 a6 a7 => Tot.loop0 (L := fun k => B_Z46_L1 k (F_s_markAt k) (F_Z41 k) (F_s_drop k) (F_s_top k) (F_s_push k) (F_s_kindOf k) (F_Z43 k) (F_Z49 k)) (B := fun k g => u_Z46_L1 (B_Z46_L1b k (F_s_markAt k) (F_Z41 k) (F_s_drop k) (F_s_top k) (F_s_push k) (F_s_kindOf k) (F_Z43 k) (F_Z49 k) g)) (Q := u_Z46_L1 Q) (fun _ _ _ => rfl) (u_Z46_L1 I) (u_Z46_L1 μ)
    (fun t ht again hag h => step t.1.1 t.1.2.1 t.1.2.2.1 t.1.2.2.2.1 t.2.1.2.2.2.1 t.2.2.1 t.2.2.2.1 t.2.2.2.2.1 ht again hag fun y0 y1 y2 y3 y4 y5 y6 y7 => h ((y0, y1, y2, y3, ()), ((), (), (), y4, ()), y5, y6, y7, ())) ((a0, a1, a2, a3, ()), ((), (), (), a4, ()), a5, a6, a7, ())
abbrev R_Z59 : Type := Option ((((List (Int × Int × List Int)) × List Int × List Int × Bool × Unit) × Bool × Unit) × (Unit))
abbrev C_Z59 : Type := (List (Int × Int × List Int)) → List Int → List Int → Bool → Int → Int → R_Z59
def B_Z59_J0 (k : Nat) (c_s_top : C_s_top) (c_s_drop : C_s_drop) (c_s_push : C_s_push) (c_s_kindOf : C_s_kindOf) (c_s_isKey : C_s_isKey) (c_Z49 : C_Z49) (m_Nodes : List (Int × Int × List Int)) (m_Stack m_Memo : List Int) (m_Done t4_Done : Bool) (a b c : Int) (t81 : Bool) : R_Z59 :=
  bif t81 then
    some (((m_Nodes, m_Stack, m_Memo, m_Done, ()), false, ()), ())
  else
    (c_Z49 m_Nodes m_Stack m_Memo m_Done c b a).bind fun r87 =>
    (c_s_drop r87.1.1.1 r87.1.1.2.1 r87.1.1.2.2.1 r87.1.1.2.2.2.1 2).bind fun r88 =>
    some (((r88.1.1.1, r88.1.1.2.1, r88.1.1.2.2.1, r88.1.1.2.2.2.1, ()), true, ()), ())
def B_Z59_J1 (k : Nat) (c_s_top : C_s_top) (c_s_drop : C_s_drop) (c_s_push : C_s_push) (c_s_kindOf : C_s_kindOf) (c_s_isKey : C_s_isKey) (c_Z49 : C_Z49) (m_Nodes : List (Int × Int × List Int)) (m_Stack m_Memo : List Int) (m_Done t4_Done : Bool) (a b : Int) (t104 : Bool) : R_Z59 :=
  bif t104 then
    some (((m_Nodes, m_Stack, m_Memo, m_Done, ()), false, ()), ())
  else
    chk (inb b m_Nodes.length) <|
    chk (decide (b.toNat < m_Nodes.length)) <|
    (c_s_drop (m_Nodes.set b.toNat ((m_Nodes.getD b.toNat ((0 : Int), ((0 : Int), ([] : List Int)))).1, (((m_Nodes.getD b.toNat ((0 : Int), ((0 : Int), ([] : List Int)))).2).1, [a]))) m_Stack m_Memo m_Done 1).bind fun r114 =>
    some (((r114.1.1.1, r114.1.1.2.1, r114.1.1.2.2.1, r114.1.1.2.2.2.1, ()), true, ()), ())
def B_Z59 (k : Nat) (c_s_top : C_s_top) (c_s_drop : C_s_drop) (c_s_push : C_s_push) (c_s_kindOf : C_s_kindOf) (c_s_isKey : C_s_isKey) (c_Z49 : C_Z49) (m_0 : List (Int × Int × List Int)) (m_1 m_2 : List Int) (m_3 : Bool) (o_0 o_1 : Int) : R_Z59 :=
  (c_s_top m_0 m_1 m_2 m_3 0).bind fun r10 =>
  (c_s_top m_0 m_1 m_2 m_3 1).bind fun r12 =>
  (c_s_top m_0 m_1 m_2 m_3 2).bind fun r14 =>
  bif decide (r10.1.1 < 0) then
    some (((m_0, m_1, m_2, m_3, ()), false, ()), ())
  else
    bif (o_0 == 5) then
      (c_s_drop m_0 m_1 m_2 m_3 1).bind fun r23 =>
      (c_s_push r23.1.1.1 r23.1.1.2.1 r23.1.1.2.2.1 r23.1.1.2.2.2.1 2 0 ([r10.1.1])).bind fun r27 =>
      some (((r27.1.1.1, r27.1.1.2.1, r27.1.1.2.2.1, r27.1.1.2.2.2.1, ()), true, ()), ())
    else
      bif (o_0 == 6) then
        bif decide (r12.1.1 < 0) then
          some (((m_0, m_1, m_2, m_3, ()), false, ()), ())
        else
          (c_s_drop m_0 m_1 m_2 m_3 2).bind fun r34 =>
          (c_s_push r34.1.1.1 r34.1.1.2.1 r34.1.1.2.2.1 r34.1.1.2.2.2.1 2 0 ([r12.1.1, r10.1.1])).bind fun r39 =>
          some (((r39.1.1.1, r39.1.1.2.1, r39.1.1.2.2.1, r39.1.1.2.2.2.1, ()), true, ()), ())
      else
        bif (o_0 == 8) then
          (c_s_kindOf m_0 m_1 m_2 m_3 r12.1.1).bind fun r44 =>
          bif (r44.1.1 != 3) then
            some (((m_0, m_1, m_2, m_3, ()), false, ()), ())
          else
            chk (inb r12.1.1 m_0.length) <|
            chk (decide (r12.1.1.toNat < m_0.length)) <|
            chk (room (((m_0.getD r12.1.1.toNat ((0 : Int), ((0 : Int), ([] : List Int)))).2).2).length ([r10.1.1]).length) <|
            chk (inb r12.1.1 m_0.length) <|
            chk (decide (r12.1.1.toNat = r12.1.1.toNat)) <|
            let w0 : List (Int × Int × List Int) := (m_0.set r12.1.1.toNat ((m_0.getD r12.1.1.toNat ((0 : Int), ((0 : Int), ([] : List Int)))).1, (((m_0.getD r12.1.1.toNat ((0 : Int), ((0 : Int), ([] : List Int)))).2).1, (((m_0.getD r12.1.1.toNat ((0 : Int), ((0 : Int), ([] : List Int)))).2).2 ++ [r10.1.1]))))
            (c_s_drop w0 m_1 m_2 m_3 1).bind fun r62 =>
            some (((r62.1.1.1, r62.1.1.2.1, r62.1.1.2.2.1, r62.1.1.2.2.2.1, ()), true, ()), ())
        else
          bif (o_0 == 11) then
            bif decide (r12.1.1 < 0) then
              jn (fun t => B_Z59_J0 k c_s_top c_s_drop c_s_push c_s_kindOf c_s_isKey c_Z49 t.1.1 t.1.2.1 t.1.2.2.1 t.1.2.2.2.1 t.2.1.2.2.2.1 t.2.2.1 t.2.2.2.1 t.2.2.2.2.1 t.2.2.2.2.2.1) ((m_0, m_1, m_2, m_3, ()), ((), (), (), false, ()), r10.1.1, r12.1.1, r14.1.1, true, ())
            else
              (c_s_kindOf m_0 m_1 m_2 m_3 r14.1.1).bind fun r70 =>
              bif (r70.1.1 != 4) then
                jn (fun t => B_Z59_J0 k c_s_top c_s_drop c_s_push c_s_kindOf c_s_isKey c_Z49 t.1.1 t.1.2.1 t.1.2.2.1 t.1.2.2.2.1 t.2.1.2.2.2.1 t.2.2.1 t.2.2.2.1 t.2.2.2.2.1 t.2.2.2.2.2.1) ((m_0, m_1, m_2, m_3, ()), ((), (), (), false, ()), r10.1.1, r12.1.1, r14.1.1, true, ())
              else
                chk (inb r12.1.1 m_0.length) <|
                chk (decide (r12.1.1.toNat < m_0.length)) <|
                (c_s_isKey ((m_0.getD r12.1.1.toNat ((0 : Int), ((0 : Int), ([] : List Int)))).1) (((m_0.getD r12.1.1.toNat ((0 : Int), ((0 : Int), ([] : List Int)))).2).1)).bind fun r79 =>
                jn (fun t => B_Z59_J0 k c_s_top c_s_drop c_s_push c_s_kindOf c_s_isKey c_Z49 t.1.1 t.1.2.1 t.1.2.2.1 t.1.2.2.2.1 t.2.1.2.2.2.1 t.2.2.1 t.2.2.2.1 t.2.2.2.2.1 t.2.2.2.2.2.1) ((m_0, m_1, m_2, m_3, ()), ((), (), (), false, ()), r10.1.1, r12.1.1, r14.1.1, (!r79.1.1), ())
          else
            bif (o_0 == 14) then
              (c_s_kindOf m_0 m_1 m_2 m_3 r12.1.1).bind fun r93 =>
              bif (r93.1.1 != 5) then
                jn (fun t => B_Z59_J1 k c_s_top c_s_drop c_s_push c_s_kindOf c_s_isKey c_Z49 t.1.1 t.1.2.1 t.1.2.2.1 t.1.2.2.2.1 t.2.1.2.2.2.1 t.2.2.1 t.2.2.2.1 t.2.2.2.2.1) ((m_0, m_1, m_2, m_3, ()), ((), (), (), false, ()), r10.1.1, r12.1.1, true, ())
              else
                chk (inb r12.1.1 m_0.length) <|
                chk (decide (r12.1.1.toNat < m_0.length)) <|
                let v103 : Bool := decide ((len (((m_0.getD r12.1.1.toNat ((0 : Int), ((0 : Int), ([] : List Int)))).2).2)) > 0)
                let w2 : List (Int × Int × List Int) := (m_0.set r12.1.1.toNat ((m_0.getD r12.1.1.toNat ((0 : Int), ((0 : Int), ([] : List Int)))).1, (((m_0.getD r12.1.1.toNat ((0 : Int), ((0 : Int), ([] : List Int)))).2).1, ((m_0.getD r12.1.1.toNat ((0 : Int), ((0 : Int), ([] : List Int)))).2).2)))
                jn (fun t => B_Z59_J1 k c_s_top c_s_drop c_s_push c_s_kindOf c_s_isKey c_Z49 t.1.1 t.1.2.1 t.1.2.2.1 t.1.2.2.2.1 t.2.1.2.2.2.1 t.2.2.1 t.2.2.2.1 t.2.2.2.2.1) ((w2, m_1, m_2, m_3, ()), ((), (), (), false, ()), r10.1.1, r12.1.1, v103, ())
            else
              bif (o_0 == 15) then
                chk (inb o_1 m_2.length) <|
                chk (decide (o_1.toNat < m_2.length)) <|
                some (((m_0, m_1, (m_2.set o_1.toNat r10.1.1), m_3, ()), true, ()), ())
              else
                bif (o_0 == 17) then
                  (c_s_drop m_0 m_1 m_2 m_3 1).bind fun r127 =>
                  some (((r127.1.1.1, r127.1.1.2.1, r127.1.1.2.2.1, r127.1.1.2.2.2.1, ()), true, ()), ())
                else
                  some (((m_0, m_1, m_2, true, ()), ((len m_1) == 1), ()), ())
def F_Z59 : Nat → C_Z59
  | 0, _, _, _, _, _, _ => none
  | k + 1, m_0, m_1, m_2, m_3, o_0, o_1 => B_Z59 k (F_s_top k) (F_s_drop k) (F_s_push k) (F_s_kindOf k) (F_s_isKey k) (F_Z49 k) m_0 m_1 m_2 m_3 o_0 o_1
theorem tot_Z59 {m_0 m_1 m_2 m_3 o_0 o_1 : _} {Q : _ → Prop} (h : Tot (fun σ => B_Z59 (σ 0) (F_s_top (σ 0)) (F_s_drop (σ 0)) (F_s_push (σ 0)) (F_s_kindOf (σ 0)) (F_s_isKey (σ 0)) (F_Z49 (σ 0)) m_0 m_1 m_2 m_3 o_0 o_1) Q) : Tot (fun σ => F_Z59 (σ 0) m_0 m_1 m_2 m_3 o_0 o_1) Q :=
  Tot.call (F := fun k => F_Z59 k m_0 m_1 m_2 m_3 o_0 o_1) (B := fun k => B_Z59 k (F_s_top k) (F_s_drop k) (F_s_push k) (F_s_kindOf k) (F_s_isKey k) (F_Z49 k) m_0 m_1 m_2 m_3 o_0 o_1) (fun k => rfl) h
abbrev R_s_step : Type := Option ((((Option (List (Int × Int × List Int))) × Option (List Int) × Option (List Int) × Bool × Unit) × Bool × Unit) × (Unit))
abbrev C_s_step : Type := (List (Int × Int × List Int)) → List Int → List Int → Bool → Int → Int → R_s_step
def B_s_step_J1 (k : Nat) (c_s_push : C_s_push) (c_Z46 : C_Z46) (c_Z59 : C_Z59) (m_Nodes : List (Int × Int × List Int)) (m_Stack m_Memo : List Int) (m_Done t4_Done : Bool) : R_s_step :=
  bif decide ((len m_Nodes) ≤ 300) then
    some ((((some m_Nodes), (some m_Stack), (some m_Memo), m_Done, ()), decide ((len m_Stack) ≤ 300), ()), ())
  else
    some ((((some m_Nodes), (some m_Stack), (some m_Memo), m_Done, ()), false, ()), ())
def B_s_step_J0 (k : Nat) (c_s_push : C_s_push) (c_Z46 : C_Z46) (c_Z59 : C_Z59) (m_Nodes : List (Int × Int × List Int)) (m_Stack m_Memo : List Int) (m_Done : Bool) (o_Code o_Arg : Int) (t4_Done t89 : Bool) : R_s_step :=
  bif t89 then
    (c_Z46 m_Nodes m_Stack m_Memo m_Done o_Code o_Arg).bind fun r97 =>
    bif (!r97.1.2.1) then
      some (((none, none, none, m_Done, ()), false, ()), ())
    else
      jn (fun t => B_s_step_J1 k c_s_push c_Z46 c_Z59 t.1.1 t.1.2.1 t.1.2.2.1 t.1.2.2.2.1 t.2.1.2.2.2.1) ((r97.1.1.1, r97.1.1.2.1, r97.1.1.2.2.1, r97.1.1.2.2.2.1, ()), ((), (), (), t4_Done, ()), ())
  else
    (c_Z59 m_Nodes m_Stack m_Memo m_Done o_Code o_Arg).bind fun r18 =>
    bif (!r18.1.2.1) then
      some (((none, none, none, m_Done, ()), false, ()), ())
    else
      jn (fun t => B_s_step_J1 k c_s_push c_Z46 c_Z59 t.1.1 t.1.2.1 t.1.2.2.1 t.1.2.2.2.1 t.2.1.2.2.2.1) ((r18.1.1.1, r18.1.1.2.1, r18.1.1.2.2.1, r18.1.1.2.2.2.1, ()), ((), (), (), t4_Done, ()), ())
def B_s_step (k : Nat) (c_s_push : C_s_push) (c_Z46 : C_Z46) (c_Z59 : C_Z59) (m_0 : List (Int × Int × List Int)) (m_1 m_2 : List Int) (m_3 : Bool) (o_0 o_1 : Int) : R_s_step :=
  bif m_3 then
    some ((((some m_0), (some m_1), (some m_2), m_3, ()), false, ()), ())
  else
    bif (o_0 == 0) then
      (c_s_push m_0 m_1 m_2 m_3 0 o_1 ([])).bind fun r31 =>
      jn (fun t => B_s_step_J1 k c_s_push c_Z46 c_Z59 t.1.1 t.1.2.1 t.1.2.2.1 t.1.2.2.2.1 t.2.1.2.2.2.1) ((r31.1.1.1, r31.1.1.2.1, r31.1.1.2.2.1, r31.1.1.2.2.2.1, ()), ((), (), (), false, ()), ())
    else
      bif (o_0 == 1) then
        (c_s_push m_0 m_1 m_2 m_3 1 o_1 ([])).bind fun r38 =>
        jn (fun t => B_s_step_J1 k c_s_push c_Z46 c_Z59 t.1.1 t.1.2.1 t.1.2.2.1 t.1.2.2.2.1 t.2.1.2.2.2.1) ((r38.1.1.1, r38.1.1.2.1, r38.1.1.2.2.1, r38.1.1.2.2.2.1, ()), ((), (), (), false, ()), ())
      else
        bif (o_0 == 4) then
          (c_s_push m_0 m_1 m_2 m_3 2 0 ([])).bind fun r43 =>
          jn (fun t => B_s_step_J1 k c_s_push c_Z46 c_Z59 t.1.1 t.1.2.1 t.1.2.2.1 t.1.2.2.2.1 t.2.1.2.2.2.1) ((r43.1.1.1, r43.1.1.2.1, r43.1.1.2.2.1, r43.1.1.2.2.2.1, ()), ((), (), (), false, ()), ())
        else
          bif (o_0 == 7) then
            (c_s_push m_0 m_1 m_2 m_3 3 0 ([])).bind fun r48 =>
            jn (fun t => B_s_step_J1 k c_s_push c_Z46 c_Z59 t.1.1 t.1.2.1 t.1.2.2.1 t.1.2.2.2.1 t.2.1.2.2.2.1) ((r48.1.1.1, r48.1.1.2.1, r48.1.1.2.2.1, r48.1.1.2.2.2.1, ()), ((), (), (), false, ()), ())
          else
            bif (o_0 == 10) then
              (c_s_push m_0 m_1 m_2 m_3 4 0 ([])).bind fun r53 =>
              jn (fun t => B_s_step_J1 k c_s_push c_Z46 c_Z59 t.1.1 t.1.2.1 t.1.2.2.1 t.1.2.2.2.1 t.2.1.2.2.2.1) ((r53.1.1.1, r53.1.1.2.1, r53.1.1.2.2.1, r53.1.1.2.2.2.1, ()), ((), (), (), false, ()), ())
            else
              bif (o_0 == 13) then
                (c_s_push m_0 m_1 m_2 m_3 5 o_1 ([])).bind fun r60 =>
                jn (fun t => B_s_step_J1 k c_s_push c_Z46 c_Z59 t.1.1 t.1.2.1 t.1.2.2.1 t.1.2.2.2.1 t.2.1.2.2.2.1) ((r60.1.1.1, r60.1.1.2.1, r60.1.1.2.2.1, r60.1.1.2.2.2.1, ()), ((), (), (), false, ()), ())
              else
                bif (o_0 == 2) then
                  chk (room m_1.length ([(-1)]).length) <|
                  jn (fun t => B_s_step_J1 k c_s_push c_Z46 c_Z59 t.1.1 t.1.2.1 t.1.2.2.1 t.1.2.2.2.1 t.2.1.2.2.2.1) ((m_0, (m_1 ++ [(-1)]), m_2, m_3, ()), ((), (), (), false, ()), ())
                else
                  bif (o_0 == 16) then
                    chk (inb o_1 m_2.length) <|
                    chk (decide (o_1.toNat < m_2.length)) <|
                    bif decide ((m_2.getD o_1.toNat (0 : Int)) < 0) then
                      some ((((some m_0), (some m_1), (some m_2), m_3, ()), false, ()), ())
                    else
                      chk (inb o_1 m_2.length) <|
                      chk (decide (o_1.toNat < m_2.length)) <|
                      chk (room m_1.length ([(m_2.getD o_1.toNat (0 : Int))]).length) <|
                      jn (fun t => B_s_step_J1 k c_s_push c_Z46 c_Z59 t.1.1 t.1.2.1 t.1.2.2.1 t.1.2.2.2.1 t.2.1.2.2.2.1) ((m_0, (m_1 ++ [(m_2.getD o_1.toNat (0 : Int))]), m_2, m_3, ()), ((), (), (), false, ()), ())
                  else
                    bif (o_0 == 3) then
                      jn (fun t => B_s_step_J0 k c_s_push c_Z46 c_Z59 t.1.1 t.1.2.1 t.1.2.2.1 t.1.2.2.2.1 t.2.1.1 t.2.1.2.1 t.2.2.1.2.2.2.1 t.2.2.2.1) ((m_0, m_1, m_2, m_3, ()), (o_0, o_1, ()), ((), (), (), false, ()), (o_0 == 3), ())
                    else
                      bif (o_0 == 9) then
                        jn (fun t => B_s_step_J0 k c_s_push c_Z46 c_Z59 t.1.1 t.1.2.1 t.1.2.2.1 t.1.2.2.2.1 t.2.1.1 t.2.1.2.1 t.2.2.1.2.2.2.1 t.2.2.2.1) ((m_0, m_1, m_2, m_3, ()), (o_0, o_1, ()), ((), (), (), false, ()), (o_0 == 9), ())
                      else
                        bif (o_0 == 12) then
                          jn (fun t => B_s_step_J0 k c_s_push c_Z46 c_Z59 t.1.1 t.1.2.1 t.1.2.2.1 t.1.2.2.2.1 t.2.1.1 t.2.1.2.1 t.2.2.1.2.2.2.1 t.2.2.2.1) ((m_0, m_1, m_2, m_3, ()), (o_0, o_1, ()), ((), (), (), false, ()), (o_0 == 12), ())
                        else
                          jn (fun t => B_s_step_J0 k c_s_push c_Z46 c_Z59 t.1.1 t.1.2.1 t.1.2.2.1 t.1.2.2.2.1 t.2.1.1 t.2.1.2.1 t.2.2.1.2.2.2.1 t.2.2.2.1) ((m_0, m_1, m_2, m_3, ()), (o_0, o_1, ()), ((), (), (), false, ()), (o_0 == 18), ())
def F_s_step : Nat → C_s_step
  | 0, _, _, _, _, _, _ => none
  | k + 1, m_0, m_1, m_2, m_3, o_0, o_1 => B_s_step k (F_s_push k) (F_Z46 k) (F_Z59 k) m_0 m_1 m_2 m_3 o_0 o_1
theorem tot_s_step {m_0 m_1 m_2 m_3 o_0 o_1 : _} {Q : _ → Prop} (h : Tot (fun σ => B_s_step (σ 0) (F_s_push (σ 0)) (F_Z46 (σ 0)) (F_Z59 (σ 0)) m_0 m_1 m_2 m_3 o_0 o_1) Q) : Tot (fun σ => F_s_step (σ 0) m_0 m_1 m_2 m_3 o_0 o_1) Q :=
  Tot.call (F := fun k => F_s_step k m_0 m_1 m_2 m_3 o_0 o_1) (B := fun k => B_s_step k (F_s_push k) (F_Z46 k) (F_Z59 k) m_0 m_1 m_2 m_3 o_0 o_1) (fun k => rfl) h
abbrev R_s_many : Type := Option ((((List (Int × Int × List Int)) × List Int × List Int × Bool × Unit) × List Int × Int × Unit) × (Unit))
abbrev C_s_many : Type := (List (Int × Int)) → R_s_many
abbrev T_s_many_L4 : Type := (List (Int × Int)) × (Unit × Unit × Unit × Bool × Unit) × ((List (Int × Int × List Int)) × List Int × List Int × Bool × Unit) × ((List (Int × Int × List Int)) × List Int × List Int × Bool × Unit) × List Int × Int × Int × Unit
def B_s_many_J5 (k : Nat) (c_Z26 : C_Z26) (c_Z10 : C_Z10) (c_s_step : C_s_step) (t2_Done : Bool) (saved_Nodes : List (Int × Int × List Int)) (saved_Stack saved_Memo : List Int) (saved_Done : Bool) (roots : List Int) (end8 : Int) : R_s_many :=
  some (((saved_Nodes, saved_Stack, saved_Memo, saved_Done, ()), roots, end8, ()), ())
def B_s_many_J3 (k : Nat) (c_Z26 : C_Z26) (c_Z10 : C_Z10) (c_s_step : C_s_step) (again4 : T_s_many_L4 → R_s_many) (ops : List (Int × Int)) (t2_Done : Bool) (m_Nodes : List (Int × Int × List Int)) (m_Stack m_Memo : List Int) (m_Done : Bool) (saved_Nodes : List (Int × Int × List Int)) (saved_Stack saved_Memo : List Int) (saved_Done : Bool) (roots : List Int) (end8 i : Int) : R_s_many :=
  again4 (ops, ((), (), (), t2_Done, ()), (m_Nodes, m_Stack, m_Memo, m_Done, ()), (saved_Nodes, saved_Stack, saved_Memo, saved_Done, ()), roots, end8, w64 (i + 1), ())
def B_s_many_J2 (k : Nat) (c_Z26 : C_Z26) (c_Z10 : C_Z10) (c_s_step : C_s_step) (again4 : T_s_many_L4 → R_s_many) (ops : List (Int × Int)) (t2_Done : Bool) (m_Nodes : List (Int × Int × List Int)) (m_Stack m_Memo : List Int) (m_Done : Bool) (saved_Nodes : List (Int × Int × List Int)) (saved_Stack saved_Memo : List Int) (saved_Done : Bool) (roots : List Int) (i : Int) : R_s_many :=
  jn (fun t => B_s_many_J3 k c_Z26 c_Z10 c_s_step again4 t.1 t.2.1.2.2.2.1 t.2.2.1.1 t.2.2.1.2.1 t.2.2.1.2.2.1 t.2.2.1.2.2.2.1 t.2.2.2.1.1 t.2.2.2.1.2.1 t.2.2.2.1.2.2.1 t.2.2.2.1.2.2.2.1 t.2.2.2.2.1 t.2.2.2.2.2.1 t.2.2.2.2.2.2.1) (ops, ((), (), (), t2_Done, ()), (m_Nodes, m_Stack, m_Memo, m_Done, ()), (m_Nodes, m_Stack, m_Memo, m_Done, ()), roots, w64 (i + 1), i, ())
def B_s_many_J1 (k : Nat) (c_Z26 : C_Z26) (c_Z10 : C_Z10) (c_s_step : C_s_step) (again4 : T_s_many_L4 → R_s_many) (ops : List (Int × Int)) (t2_Done : Bool) (m_Nodes : List (Int × Int × List Int)) (m_Stack m_Memo : List Int) (m_Done : Bool) (saved_Nodes : List (Int × Int × List Int)) (saved_Stack saved_Memo : List Int) (saved_Done : Bool) (roots : List Int) (end8 i : Int) : R_s_many :=
  bif m_Done then
    chk (inb 0 m_Stack.length) <|
    chk (room roots.length ([(rdx (0 : Int) m_Stack 0)]).length) <|
    jn (fun t => B_s_many_J2 k c_Z26 c_Z10 c_s_step again4 t.1 t.2.1.2.2.2.1 t.2.2.1.1 t.2.2.1.2.1 t.2.2.1.2.2.1 t.2.2.1.2.2.2.1 t.2.2.2.1.1 t.2.2.2.1.2.1 t.2.2.2.1.2.2.1 t.2.2.2.1.2.2.2.1 t.2.2.2.2.1 t.2.2.2.2.2.1) (ops, ((), (), (), t2_Done, ()), (m_Nodes, [], m_Memo, false, ()), (saved_Nodes, saved_Stack, saved_Memo, saved_Done, ()), (roots ++ [(rdx (0 : Int) m_Stack 0)]), i, ())
  else
    jn (fun t => B_s_many_J3 k c_Z26 c_Z10 c_s_step again4 t.1 t.2.1.2.2.2.1 t.2.2.1.1 t.2.2.1.2.1 t.2.2.1.2.2.1 t.2.2.1.2.2.2.1 t.2.2.2.1.1 t.2.2.2.1.2.1 t.2.2.2.1.2.2.1 t.2.2.2.1.2.2.2.1 t.2.2.2.2.1 t.2.2.2.2.2.1 t.2.2.2.2.2.2.1) (ops, ((), (), (), t2_Done, ()), (m_Nodes, m_Stack, m_Memo, m_Done, ()), (saved_Nodes, saved_Stack, saved_Memo, saved_Done, ()), roots, end8, i, ())
def B_s_many_L4b (k : Nat) (c_Z26 : C_Z26) (c_Z10 : C_Z10) (c_s_step : C_s_step) (again4 : T_s_many_L4 → R_s_many) (ops : List (Int × Int)) (t2_Done : Bool) (m_Nodes : List (Int × Int × List Int)) (m_Stack m_Memo : List Int) (m_Done : Bool) (saved_Nodes : List (Int × Int × List Int)) (saved_Stack saved_Memo : List Int) (saved_Done : Bool) (roots : List Int) (end8 i : Int) : R_s_many :=
  bif decide (i < (len ops)) then
    (c_Z10 m_Nodes m_Stack m_Memo m_Done).bind fun r23 =>
    chk (inb i ops.length) <|
    (c_s_step r23.1.1.1 r23.1.1.2.1 r23.1.1.2.2.1 r23.1.1.2.2.2.1 ((rdx ((0 : Int), (0 : Int)) ops i).1) ((rdx ((0 : Int), (0 : Int)) ops i).2)).bind fun r28 =>
    bif (!r28.1.2.1) then
      jn (fun t => B_s_many_J5 k c_Z26 c_Z10 c_s_step t.1.2.2.2.1 t.2.1.1 t.2.1.2.1 t.2.1.2.2.1 t.2.1.2.2.2.1 t.2.2.1 t.2.2.2.1) (((), (), (), t2_Done, ()), (saved_Nodes, saved_Stack, saved_Memo, saved_Done, ()), roots, end8, ())
    else
      (r28.1.1.1).bind fun p69 =>
      (r28.1.1.2.1).bind fun p70 =>
      (r28.1.1.2.2.1).bind fun p71 =>
      jn (fun t => B_s_many_J1 k c_Z26 c_Z10 c_s_step again4 t.1 t.2.1.2.2.2.1 t.2.2.1.1 t.2.2.1.2.1 t.2.2.1.2.2.1 t.2.2.1.2.2.2.1 t.2.2.2.1.1 t.2.2.2.1.2.1 t.2.2.2.1.2.2.1 t.2.2.2.1.2.2.2.1 t.2.2.2.2.1 t.2.2.2.2.2.1 t.2.2.2.2.2.2.1) (ops, ((), (), (), t2_Done, ()), (p69, p70, p71, r28.1.1.2.2.2.1, ()), (saved_Nodes, saved_Stack, saved_Memo, saved_Done, ()), roots, end8, i, ())
  else
    jn (fun t => B_s_many_J5 k c_Z26 c_Z10 c_s_step t.1.2.2.2.1 t.2.1.1 t.2.1.2.1 t.2.1.2.2.1 t.2.1.2.2.2.1 t.2.2.1 t.2.2.2.1) (((), (), (), t2_Done, ()), (saved_Nodes, saved_Stack, saved_Memo, saved_Done, ()), roots, end8, ())
def B_s_many_L4 (k : Nat) (c_Z26 : C_Z26) (c_Z10 : C_Z10) (c_s_step : C_s_step) (n : Nat) (t : T_s_many_L4) : R_s_many :=
  lfix n (fun again t => B_s_many_L4b k c_Z26 c_Z10 c_s_step again t.1 t.2.1.2.2.2.1 t.2.2.1.1 t.2.2.1.2.1 t.2.2.1.2.2.1 t.2.2.1.2.2.2.1 t.2.2.2.1.1 t.2.2.2.1.2.1 t.2.2.2.1.2.2.1 t.2.2.2.1.2.2.2.1 t.2.2.2.2.1 t.2.2.2.2.2.1 t.2.2.2.2.2.2.1) t
def B_s_many_J0 (k : Nat) (c_Z26 : C_Z26) (c_Z10 : C_Z10) (c_s_step : C_s_step) (ops : List (Int × Int)) (t2_Done : Bool) (m_Memo : List Int) (m_Done : Bool) : R_s_many :=
  B_s_many_L4 k c_Z26 c_Z10 c_s_step k (ops, ((), (), (), t2_Done, ()), ([], [], m_Memo, m_Done, ()), ([], [], m_Memo, m_Done, ()), [], 0, 0, ())
def B_s_many (k : Nat) (c_Z26 : C_Z26) (c_Z10 : C_Z10) (c_s_step : C_s_step) (ops : List (Int × Int)) : R_s_many :=
  (c_Z26).bind fun r12 =>
  jn (fun t => B_s_many_J0 k c_Z26 c_Z10 c_s_step t.1 t.2.1.2.2.2.1 t.2.2.1.2.2.1 t.2.2.1.2.2.2.1) (ops, ((), (), (), false, ()), ((), (), r12.1.1.2.2.1, r12.1.1.2.2.2.1, ()), ())
def F_s_many : Nat → C_s_many
  | 0, _ => none
  | k + 1, ops => B_s_many k (F_Z26 k) (F_Z10 k) (F_s_step k) ops
theorem tot_s_many {ops : _} {Q : _ → Prop} (h : Tot (fun σ => B_s_many (σ 0) (F_Z26 (σ 0)) (F_Z10 (σ 0)) (F_s_step (σ 0)) ops) Q) : Tot (fun σ => F_s_many (σ 0) ops) Q :=
  Tot.call (F := fun k => F_s_many k ops) (B := fun k => B_s_many k (F_Z26 k) (F_Z10 k) (F_s_step k) ops) (fun k => rfl) h
abbrev A_s_many_L4 (Z : Type) : Type := (List (Int × Int)) → Bool → (List (Int × Int × List Int)) → List Int → List Int → Bool → (List (Int × Int × List Int)) → List Int → List Int → Bool → List Int → Int → Int → Z
abbrev u_s_many_L4 {Z : Type} (f : A_s_many_L4 Z) (t : T_s_many_L4) : Z := f t.1 t.2.1.2.2.2.1 t.2.2.1.1 t.2.2.1.2.1 t.2.2.1.2.2.1 t.2.2.1.2.2.2.1 t.2.2.2.1.1 t.2.2.2.1.2.1 t.2.2.2.1.2.2.1 t.2.2.2.1.2.2.2.1 t.2.2.2.2.1 t.2.2.2.2.2.1 t.2.2.2.2.2.2.1
theorem loop_s_many_L4 {Q : A_s_many_L4 (((((List (Int × Int × List Int)) × List Int × List Int × Bool × Unit) × List Int × Int × Unit) × (Unit)) → Prop)} (I : A_s_many_L4 Prop) (μ : A_s_many_L4 Nat)
    (step : ∀ a0 a1 a2 a3 a4 a5 a6 a7 a8 a9 a10 a11 a12, I a0 a1 a2 a3 a4 a5 a6 a7 a8 a9 a10 a11 a12 → ∀ again : (Nat → Nat) → T_s_many_L4 → R_s_many, Dep 2 again → (∀ y0 y1 y2 y3 y4 y5 y6 y7 y8 y9 y10 y11 y12, I y0 y1 y2 y3 y4 y5 y6 y7 y8 y9 y10 y11 y12 → μ y0 y1 y2 y3 y4 y5 y6 y7 y8 y9 y10 y11 y12 < μ a0 a1 a2 a3 a4 a5 a6 a7 a8 a9 a10 a11 a12 → Tot (fun σ => again σ (y0, ((), (), (), y1, ()), (y2, y3, y4, y5, ()), (y6, y7, y8, y9, ()), y10, y11, y12, ())) (Q y0 y1 y2 y3 y4 y5 y6 y7 y8 y9 y10 y11 y12)) →
      Tot (fun σ => B_s_many_L4b (σ 0) (F_Z26 (σ 0)) (F_Z10 (σ 0)) (F_s_step (σ 0)) (again σ) a0 a1 a2 a3 a4 a5 a6 a7 a8 a9 a10 a11 a12) (Q a0 a1 a2 a3 a4 a5 a6 a7 a8 a9 a10 a11 a12)) :
    ∀ a0 a1 a2 a3 a4 a5 a6 a7 a8 a9 a10 a11 a12, I a0 a1 a2 a3 a4 a5 a6 a7 a8 a9 a10 a11 a12 → Tot (fun σ => B_s_many_L4 (σ 0) (F_Z26 (σ 0)) (F_Z10 (σ 0)) (F_s_step (σ 0)) (σ 0) (a0, ((), (), (), a1, ()), (a2, a3, a4, a5, ()), (a6, a7, a8, a9, ()), a10, a11, a12, ())) (Q a0 a1 a2 a3 a4 a5 a6 a7 a8 a9 a10 a11 a12) := fun a0 a1 a2 a3 a4 a5 a6 a7 a8 a9 a10 a11 a12 => Tot.loop0 (L := fun k => B_s_many_L4 k (F_Z26 k) (F_Z10 k) (F_s_step k)) (B := fun k g => u_s_many_L4 (B_s_many_L4b k (F_Z26 k) (F_Z10 k) (F_s_step k) g)) (Q := u_s_many_L4 Q) (fun _ _ _ => rfl) (u_s_many_L4 I) (u_s_many_L4 μ)
    (fun t ht again hag h => step t.1 t.2.1.2.2.2.1 t.2.2.1.1 t.2.2.1.2.1 t.2.2.1.2.2.1 t.2.2.1.2.2.2.1 t.2.2.2.1.1 t.2.2.2.1.2.1 t.2.2.2.1.2.2.1 t.2.2.2.1.2.2.2.1 t.2.2.2.2.1 t.2.2.2.2.2.1 t.2.2.2.2.2.2.1 ht again hag fun y0 y1 y2 y3 y4 y5 y6 y7 y8 y9 y10 y11 y12 => h (y0, ((), (), (), y1, ()), (y2, y3, y4, y5, ()), (y6, y7, y8, y9, ()), y10, y11, y12, ())) (a0, ((), (), (), a1, ()), (a2, a3, a4, a5, ()), (a6, a7, a8, a9, ()), a10, a11, a12, ())
abbrev R_Z47 : Type := Option ((((List (Int × Int × List Int)) × Int × Unit) × List Int × Int × Unit) × (Unit))
abbrev C_Z47 : Type := (List (Int × Int)) → R_Z47
def B_Z47 (k : Nat) (c_Z45 : C_Z45) (c_s_many : C_s_many) (c_Z10 : C_Z10) (ops : List (Int × Int)) : R_Z47 :=
  (c_Z45 ops).bind fun r9 =>
  bif (!r9.1.1) then
    some ((([], 0, ()), [], (-1), ()), ())
  else
    (c_s_many ops).bind fun r14 =>
    (c_Z10 r14.1.1.1 r14.1.1.2.1 r14.1.1.2.2.1 r14.1.1.2.2.2.1).bind fun r19 =>
    some (((r19.1.1.1, 0, ()), r14.1.2.1, r14.1.2.2.1, ()), ())
def F_Z47 : Nat → C_Z47
  | 0, _ => none
  | k + 1, ops => B_Z47 k (F_Z45 k) (F_s_many k) (F_Z10 k) ops
theorem tot_Z47 {ops : _} {Q : _ → Prop} (h : Tot (fun σ => B_Z47 (σ 0) (F_Z45 (σ 0)) (F_s_many (σ 0)) (F_Z10 (σ 0)) ops) Q) : Tot (fun σ => F_Z47 (σ 0) ops) Q :=
  Tot.call (F := fun k => F_Z47 k ops) (B := fun k => B_Z47 k (F_Z45 k) (F_s_many k) (F_Z10 k) ops) (fun k => rfl) h
abbrev R_Z37 : Type := Option ((Bool × Unit) × (Unit))
abbrev C_Z37 : Type := List Int → List Int → R_Z37
abbrev T_Z37_L0 : Type := List Int × List Int × Int × Unit
def B_Z37_L0b (k : Nat) (again0 : T_Z37_L0 → R_Z37) (a b : List Int) (i : Int) : R_Z37 :=
  bif decide (i < (len a)) then
    chk (inb i a.length) <|
    chk (inb i b.length) <|
    bif ((rdx (0 : Int) a i) != (rdx (0 : Int) b i)) then
      some ((false, ()), ())
    else
      again0 (a, b, w64 (i + 1), ())
  else
    some ((true, ()), ())
def B_Z37_L0 (k : Nat) (n : Nat) (t : T_Z37_L0) : R_Z37 :=
  lfix n (fun again t => B_Z37_L0b k again t.1 t.2.1 t.2.2.1) t
def B_Z37 (k : Nat) (a b : List Int) : R_Z37 :=
  bif ((len a) != (len b)) then
    some ((false, ()), ())
  else
    B_Z37_L0 k k (a, b, 0, ())
def F_Z37 : Nat → C_Z37
  | 0, _, _ => none
  | k + 1, a, b => B_Z37 k a b
theorem tot_Z37 {a b : _} {Q : _ → Prop} (h : Tot (fun σ => B_Z37 (σ 0) a b) Q) : Tot (fun σ => F_Z37 (σ 0) a b) Q :=
  Tot.call (F := fun k => F_Z37 k a b) (B := fun k => B_Z37 k a b) (fun k => rfl) h
abbrev A_Z37_L0 (Z : Type) : Type := List Int → List Int → Int → Z
abbrev u_Z37_L0 {Z : Type} (f : A_Z37_L0 Z) (t : T_Z37_L0) : Z := f t.1 t.2.1 t.2.2.1
theorem loop_Z37_L0 {Q : A_Z37_L0 (((Bool × Unit) × (Unit)) → Prop)} (I : A_Z37_L0 Prop) (μ : A_Z37_L0 Nat)
    (step : ∀ a0 a1 a2, I a0 a1 a2 → ∀ again : (Nat → Nat) → T_Z37_L0 → R_Z37, Dep 2 again → (∀ y0 y1 y2, I y0 y1 y2 → μ y0 y1 y2 < μ a0 a1 a2 → Tot (fun σ => again σ (y0, y1, y2, ())) (Q y0 y1 y2)) →
      Tot (fun σ => B_Z37_L0b (σ 0) (again σ) a0 a1 a2) (Q a0 a1 a2)) :
    ∀ a0 a1 a2, I a0 a1 a2 → Tot (fun σ => B_Z37_L0 (σ 0) (σ 0) (a0, a1, a2, ())) (Q a0 a1 a2) := fun a0 a1 a2 => Tot.loop0 (L := fun k => B_Z37_L0 k) (B := fun k g => u_Z37_L0 (B_Z37_L0b k g)) (Q := u_Z37_L0 Q) (fun _ _ _ => rfl) (u_Z37_L0 I) (u_Z37_L0 μ)
    (fun t ht again hag h => step t.1 t.2.1 t.2.2.1 ht again hag fun y0 y1 y2 => h (y0, y1, y2, ())) (a0, a1, a2, ())
abbrev R_Z20 : Type := Option ((Bool × Unit) × (Unit))
abbrev C_Z20 : Type := (List (Int × Int × List Int)) → (List (Int × Int × List Int)) → R_Z20
abbrev T_Z20_L1 : Type := (List (Int × Int × List Int)) × (List (Int × Int × List Int)) × Int × Unit
def B_Z20_J0 (k : Nat) (c_Z37 : C_Z37) (again1 : T_Z20_L1 → R_Z20) (a b : List (Int × Int × List Int)) (i : Int) (t54 : Bool) : R_Z20 :=
  bif t54 then
    some ((false, ()), ())
  else
    again1 (a, b, w64 (i + 1), ())
def B_Z20_L1b (k : Nat) (c_Z37 : C_Z37) (again1 : T_Z20_L1 → R_Z20) (a b : List (Int × Int × List Int)) (i : Int) : R_Z20 :=
  bif decide (i < (len a)) then
    chk (inb i a.length) <|
    chk (inb i b.length) <|
    let v27 : Bool := (((rdx ((0 : Int), ((0 : Int), ([] : List Int))) a i).1) != ((rdx ((0 : Int), ((0 : Int), ([] : List Int))) b i).1))
    bif v27 then
      jn (fun t => B_Z20_J0 k c_Z37 again1 t.1 t.2.1 t.2.2.1 t.2.2.2.1) (a, b, i, true, ())
    else
      chk (inb i a.length) <|
      chk (inb i b.length) <|
      let v39 : Bool := ((((rdx ((0 : Int), ((0 : Int), ([] : List Int))) a i).2).1) != (((rdx ((0 : Int), ((0 : Int), ([] : List Int))) b i).2).1))
      bif v39 then
        jn (fun t => B_Z20_J0 k c_Z37 again1 t.1 t.2.1 t.2.2.1 t.2.2.2.1) (a, b, i, true, ())
      else
        chk (inb i a.length) <|
        chk (inb i b.length) <|
        (c_Z37 (((rdx ((0 : Int), ((0 : Int), ([] : List Int))) a i).2).2) (((rdx ((0 : Int), ((0 : Int), ([] : List Int))) b i).2).2)).bind fun r52 =>
        jn (fun t => B_Z20_J0 k c_Z37 again1 t.1 t.2.1 t.2.2.1 t.2.2.2.1) (a, b, i, (!r52.1.1), ())
  else
    some ((true, ()), ())
def B_Z20_L1 (k : Nat) (c_Z37 : C_Z37) (n : Nat) (t : T_Z20_L1) : R_Z20 :=
  lfix n (fun again t => B_Z20_L1b k c_Z37 again t.1 t.2.1 t.2.2.1) t
def B_Z20 (k : Nat) (c_Z37 : C_Z37) (a b : List (Int × Int × List Int)) : R_Z20 :=
  bif ((len a) != (len b)) then
    some ((false, ()), ())
  else
    B_Z20_L1 k c_Z37 k (a, b, 0, ())
def F_Z20 : Nat → C_Z20
  | 0, _, _ => none
  | k + 1, a, b => B_Z20 k (F_Z37 k) a b
theorem tot_Z20 {a b : _} {Q : _ → Prop} (h : Tot (fun σ => B_Z20 (σ 0) (F_Z37 (σ 0)) a b) Q) : Tot (fun σ => F_Z20 (σ 0) a b) Q :=
  Tot.call (F := fun k => F_Z20 k a b) (B := fun k => B_Z20 k (F_Z37 k) a b) (fun k => rfl) h
abbrev A_Z20_L1 (Z : Type) : Type := (List (Int × Int × List Int)) → (List (Int × Int × List Int)) → Int → Z
abbrev u_Z20_L1 {Z : Type} (f : A_Z20_L1 Z) (t : T_Z20_L1) : Z := f t.1 t.2.1 t.2.2.1
theorem loop_Z20_L1 {Q : A_Z20_L1 (((Bool × Unit) × (Unit)) → Prop)} (I : A_Z20_L1 Prop) (μ : A_Z20_L1 Nat)
    (step : ∀ a0 a1 a2, I a0 a1 a2 → ∀ again : (Nat → Nat) → T_Z20_L1 → R_Z20, Dep 2 again → (∀ y0 y1 y2, I y0 y1 y2 → μ y0 y1 y2 < μ a0 a1 a2 → Tot (fun σ => again σ (y0, y1, y2, ())) (Q y0 y1 y2)) →
      Tot (fun σ => B_Z20_L1b (σ 0) (F_Z37 (σ 0)) (again σ) a0 a1 a2) (Q a0 a1 a2)) :
    ∀ a0 a1 a2, I a0 a1 a2 → Tot (fun σ => B_Z20_L1 (σ 0) (F_Z37 (σ 0)) (σ 0) (a0, a1, a2, ())) (Q a0 a1 a2) := fun a0 a1 a2 => Tot.loop0 (L := fun k => B_Z20_L1 k (F_Z37 k)) (B := fun k g => u_Z20_L1 (B_Z20_L1b k (F_Z37 k) g)) (Q := u_Z20_L1 Q) (fun _ _ _ => rfl) (u_Z20_L1 I) (u_Z20_L1 μ)
    (fun t ht again hag h => step t.1 t.2.1 t.2.2.1 ht again hag fun y0 y1 y2 => h (y0, y1, y2, ())) (a0, a1, a2, ())
abbrev R_Z17 : Type := Option ((Bool × Unit) × (Unit))
abbrev C_Z17 : Type := (List (Int × Int × List Int)) → Int → (List (Int × Int × List Int)) → Int → R_Z17
def B_Z17 (k : Nat) (c_Z20 : C_Z20) (a_0 : List (Int × Int × List Int)) (a_1 : Int) (b_0 : List (Int × Int × List Int)) (b_1 : Int) : R_Z17 :=
  bif (a_1 == b_1) then
    (c_Z20 a_0 b_0).bind fun r15 =>
    some ((r15.1.1, ()), ())
  else
    some ((false, ()), ())
def F_Z17 : Nat → C_Z17
  | 0, _, _, _, _ => none
  | k + 1, a_0, a_1, b_0, b_1 => B_Z17 k (F_Z20 k) a_0 a_1 b_0 b_1
theorem tot_Z17 {a_0 a_1 b_0 b_1 : _} {Q : _ → Prop} (h : Tot (fun σ => B_Z17 (σ 0) (F_Z20 (σ 0)) a_0 a_1 b_0 b_1) Q) : Tot (fun σ => F_Z17 (σ 0) a_0 a_1 b_0 b_1) Q :=
  Tot.call (F := fun k => F_Z17 k a_0 a_1 b_0 b_1) (B := fun k => B_Z17 k (F_Z20 k) a_0 a_1 b_0 b_1) (fun k => rfl) h
abbrev R_Z1 : Type := Option ((Bool × Unit) × (Unit))
abbrev C_Z1 : Type := List Int → R_Z1
abbrev T_Z1_L2 : Type := (List (Int × Int)) × List Int × Int × Int × Unit
def B_Z1_J1 (k : Nat) (c_Z8 : C_Z8) (c_Z44 : C_Z44) (c_Z47 : C_Z47) (c_Z17 : C_Z17) (c_Z37 : C_Z37) (again2 : T_Z1_L2 → R_Z1) (ops : List (Int × Int)) (roots : List Int) (end6 k10 : Int) (t104 : Bool) : R_Z1 :=
  bif t104 then
    some ((false, ()), ())
  else
    again2 (ops, roots, end6, w64 ((w64 (k10 + 1)) + (w64 ((len ops).tdiv 20))), ())
def B_Z1_L2b (k : Nat) (c_Z8 : C_Z8) (c_Z44 : C_Z44) (c_Z47 : C_Z47) (c_Z17 : C_Z17) (c_Z37 : C_Z37) (again2 : T_Z1_L2 → R_Z1) (ops : List (Int × Int)) (roots : List Int) (end6 k10 : Int) : R_Z1 :=
  bif decide (k10 ≤ (len ops)) then
    chk (cutb 0 k10 ops.length) <|
    (c_Z44 ((ops.take k10.toNat).drop 0)).bind fun r77 =>
    bif decide ((len r77.1.2.1) > (len roots)) then
      jn (fun t => B_Z1_J1 k c_Z8 c_Z44 c_Z47 c_Z17 c_Z37 again2 t.1 t.2.1 t.2.2.1 t.2.2.2.1 t.2.2.2.2.1) (ops, roots, end6, k10, true, ())
    else
      chk (cutb 0 (len r77.1.2.1) roots.length) <|
      (c_Z37 ((roots.take ((len r77.1.2.1).toNat)).drop 0) r77.1.2.1).bind fun r92 =>
      bif (!r92.1.1) then
        jn (fun t => B_Z1_J1 k c_Z8 c_Z44 c_Z47 c_Z17 c_Z37 again2 t.1 t.2.1 t.2.2.1 t.2.2.2.1 t.2.2.2.2.1) (ops, roots, end6, k10, true, ())
      else
        bif decide (r77.1.2.2.1 > k10) then
          jn (fun t => B_Z1_J1 k c_Z8 c_Z44 c_Z47 c_Z17 c_Z37 again2 t.1 t.2.1 t.2.2.1 t.2.2.2.1 t.2.2.2.2.1) (ops, roots, end6, k10, true, ())
        else
          jn (fun t => B_Z1_J1 k c_Z8 c_Z44 c_Z47 c_Z17 c_Z37 again2 t.1 t.2.1 t.2.2.1 t.2.2.2.1 t.2.2.2.2.1) (ops, roots, end6, k10, decide (r77.1.2.2.1 > end6), ())
  else
    some ((true, ()), ())
def B_Z1_L2 (k : Nat) (c_Z8 : C_Z8) (c_Z44 : C_Z44) (c_Z47 : C_Z47) (c_Z17 : C_Z17) (c_Z37 : C_Z37) (n : Nat) (t : T_Z1_L2) : R_Z1 :=
  lfix n (fun again t => B_Z1_L2b k c_Z8 c_Z44 c_Z47 c_Z17 c_Z37 again t.1 t.2.1 t.2.2.1 t.2.2.2.1) t
def B_Z1_J0 (k : Nat) (c_Z8 : C_Z8) (c_Z44 : C_Z44) (c_Z47 : C_Z47) (c_Z17 : C_Z17) (c_Z37 : C_Z37) (ops : List (Int × Int)) (g_Nodes : List (Int × Int × List Int)) (g_Root : Int) (roots : List Int) (end6 : Int) (x_Nodes : List (Int × Int × List Int)) (x_Root : Int) (y : List Int) (z : Int) (t49 : Bool) : R_Z1 :=
  bif t49 then
    (c_Z17 g_Nodes g_Root x_Nodes x_Root).bind fun r52 =>
    bif r52.1.1 then
      (c_Z37 roots y).bind fun r56 =>
      bif r56.1.1 then
        some (((end6 == z), ()), ())
      else
        some ((false, ()), ())
    else
      some ((false, ()), ())
  else
    B_Z1_L2 k c_Z8 c_Z44 c_Z47 c_Z17 c_Z37 k (ops, roots, end6, 0, ())
def B_Z1 (k : Nat) (c_Z8 : C_Z8) (c_Z44 : C_Z44) (c_Z47 : C_Z47) (c_Z17 : C_Z17) (c_Z37 : C_Z37) (code : List Int) : R_Z1 :=
  bif decide ((len code) > 1048576) then
    some ((true, ()), ())
  else
    (c_Z8 code).bind fun r18 =>
    (c_Z44 r18.1.1).bind fun r21 =>
    (c_Z47 r18.1.1).bind fun r27 =>
    (c_Z17 r21.1.1.1 r21.1.1.2.1 r27.1.1.1 r27.1.1.2.1).bind fun r33 =>
    bif (!r33.1.1) then
      jn (fun t => B_Z1_J0 k c_Z8 c_Z44 c_Z47 c_Z17 c_Z37 t.1 t.2.1.1 t.2.1.2.1 t.2.2.1 t.2.2.2.1 t.2.2.2.2.1.1 t.2.2.2.2.1.2.1 t.2.2.2.2.2.1 t.2.2.2.2.2.2.1 t.2.2.2.2.2.2.2.1) (r18.1.1, (r21.1.1.1, r21.1.1.2.1, ()), r21.1.2.1, r21.1.2.2.1, (r27.1.1.1, r27.1.1.2.1, ()), r27.1.2.1, r27.1.2.2.1, true, ())
    else
      (c_Z37 r21.1.2.1 r27.1.2.1).bind fun r38 =>
      bif (!r38.1.1) then
        jn (fun t => B_Z1_J0 k c_Z8 c_Z44 c_Z47 c_Z17 c_Z37 t.1 t.2.1.1 t.2.1.2.1 t.2.2.1 t.2.2.2.1 t.2.2.2.2.1.1 t.2.2.2.2.1.2.1 t.2.2.2.2.2.1 t.2.2.2.2.2.2.1 t.2.2.2.2.2.2.2.1) (r18.1.1, (r21.1.1.1, r21.1.1.2.1, ()), r21.1.2.1, r21.1.2.2.1, (r27.1.1.1, r27.1.1.2.1, ()), r27.1.2.1, r27.1.2.2.1, true, ())
      else
        bif (r21.1.2.2.1 != r27.1.2.2.1) then
          jn (fun t => B_Z1_J0 k c_Z8 c_Z44 c_Z47 c_Z17 c_Z37 t.1 t.2.1.1 t.2.1.2.1 t.2.2.1 t.2.2.2.1 t.2.2.2.2.1.1 t.2.2.2.2.1.2.1 t.2.2.2.2.2.1 t.2.2.2.2.2.2.1 t.2.2.2.2.2.2.2.1) (r18.1.1, (r21.1.1.1, r21.1.1.2.1, ()), r21.1.2.1, r21.1.2.2.1, (r27.1.1.1, r27.1.1.2.1, ()), r27.1.2.1, r27.1.2.2.1, true, ())
        else
          jn (fun t => B_Z1_J0 k c_Z8 c_Z44 c_Z47 c_Z17 c_Z37 t.1 t.2.1.1 t.2.1.2.1 t.2.2.1 t.2.2.2.1 t.2.2.2.2.1.1 t.2.2.2.2.1.2.1 t.2.2.2.2.2.1 t.2.2.2.2.2.2.1 t.2.2.2.2.2.2.2.1) (r18.1.1, (r21.1.1.1, r21.1.1.2.1, ()), r21.1.2.1, r21.1.2.2.1, (r27.1.1.1, r27.1.1.2.1, ()), r27.1.2.1, r27.1.2.2.1, decide (r21.1.2.2.1 < 0), ())
def F_Z1 : Nat → C_Z1
  | 0, _ => none
  | k + 1, code => B_Z1 k (F_Z8 k) (F_Z44 k) (F_Z47 k) (F_Z17 k) (F_Z37 k) code
theorem tot_Z1 {code : _} {Q : _ → Prop} (h : Tot (fun σ => B_Z1 (σ 0) (F_Z8 (σ 0)) (F_Z44 (σ 0)) (F_Z47 (σ 0)) (F_Z17 (σ 0)) (F_Z37 (σ 0)) code) Q) : Tot (fun σ => F_Z1 (σ 0) code) Q :=
  Tot.call (F := fun k => F_Z1 k code) (B := fun k => B_Z1 k (F_Z8 k) (F_Z44 k) (F_Z47 k) (F_Z17 k) (F_Z37 k) code) (fun k => rfl) h
abbrev A_Z1_L2 (Z : Type) : Type := (List (Int × Int)) → List Int → Int → Int → Z
abbrev u_Z1_L2 {Z : Type} (f : A_Z1_L2 Z) (t : T_Z1_L2) : Z := f t.1 t.2.1 t.2.2.1 t.2.2.2.1
theorem loop_Z1_L2 {Q : A_Z1_L2 (((Bool × Unit) × (Unit)) → Prop)} (I : A_Z1_L2 Prop) (μ : A_Z1_L2 Nat)
    (step : ∀ a0 a1 a2 a3, I a0 a1 a2 a3 → ∀ again : (Nat → Nat) → T_Z1_L2 → R_Z1, Dep 2 again → (∀ y0 y1 y2 y3, I y0 y1 y2 y3 → μ y0 y1 y2 y3 < μ a0 a1 a2 a3 → Tot (fun σ => again σ (y0, y1, y2, y3, ())) (Q y0 y1 y2 y3)) →
      Tot (fun σ => B_Z1_L2b (σ 0) (F_Z8 (σ 0)) (F_Z44 (σ 0)) (F_Z47 (σ 0)) (F_Z17 (σ 0)) (F_Z37 (σ 0)) (again σ) a0 a1 a2 a3) (Q a0 a1 a2 a3)) :
    ∀ a0 a1 a2 a3, I a0 a1 a2 a3 → Tot (fun σ => B_Z1_L2 (σ 0) (F_Z8 (σ 0)) (F_Z44 (σ 0)) (F_Z47 (σ 0)) (F_Z17 (σ 0)) (F_Z37 (σ 0)) (σ 0) (a0, a1, a2, a3, ())) (Q a0 a1 a2 a3) := fun a0 a1 a2 a3 => Tot.loop0 (L := fun k => B_Z1_L2 k (F_Z8 k) (F_Z44 k) (F_Z47 k) (F_Z17 k) (F_Z37 k)) (B := fun k g => u_Z1_L2 (B_Z1_L2b k (F_Z8 k) (F_Z44 k) (F_Z47 k) (F_Z17 k) (F_Z37 k) g)) (Q := u_Z1_L2 Q) (fun _ _ _ => rfl) (u_Z1_L2 I) (u_Z1_L2 μ)
    (fun t ht again hag h => step t.1 t.2.1 t.2.2.1 t.2.2.2.1 ht again hag fun y0 y1 y2 y3 => h (y0, y1, y2, y3, ())) (a0, a1, a2, a3, ())
end Go.Gx
